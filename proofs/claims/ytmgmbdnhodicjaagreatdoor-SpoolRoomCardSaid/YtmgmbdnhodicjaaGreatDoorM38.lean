/- SpoolRoom: what waits never takes more than the quotas. Part 38 of 46; no condition. -/
import Derived.Test.YtmgmbdnhodicjaaGreatDoorM37
set_option linter.unusedVariables false
set_option linter.unusedSimpArgs false
section
namespace Go.Pm
open Go.RowKit Go.Am
section
variable {E : Env} {P : Program} {d g : Nat} {w : Bool} {F : PSt → Option (PV × PSt)} {l : List RI} {tm : List (Nat × PV)} {nt k : Nat} {os : List Obj} {M : PMem} {R : PSt → Prop}
end
end Go.Pm
namespace Go.Proofs.YtmgmbdnhodicjaaGreatDoor
open Go Go.Am Go.Pm
set_option maxHeartbeats 2000000
set_option maxRecDepth 100000
structure okL (b n : Int) (l : List (Ev × Nat)) : Prop where
  fit : ∀ x ∈ l, evFit x.1 ∧ x.1.path.length ≤ 1000
  size : ((szs l : Nat) : Int) ≤ b
  len : ((l.length : Nat) : Int) ≤ n
theorem okL.put {b n : Int} {l : List (Ev × Nat)} (h : okL b n l) (e : Ev) (hp : e.path.length ≤ 1000) : okL b n (if putCode b n l e = 0 then l ++ [(e, evSize e)] else l) := by
  by_cases hc : putCode b n l e = 0
  · rw [if_pos hc]
    unfold putCode at hc
    split at hc
    · cases hc
    · rename_i h1
      split at hc
      · cases hc
      · split at hc
        · cases hc
        · split at hc
          · cases hc
          · rename_i h4
            simp only [Bool.or_eq_true, decide_eq_true_eq, not_or] at h4
            have hok : evOk e = true := by simpa using h1
            refine ⟨fun x hx => ?_, ?_, ?_⟩
            · rcases List.mem_append.1 hx with hx | hx
              · exact h.fit x hx
              · rw [List.mem_singleton] at hx; subst hx
                exact ⟨ev_fit hok, hp⟩
            · have : szs (l ++ [(e, evSize e)]) = szs l + evSize e := by simp [szs]
              rw [this]; omega
            · rw [List.length_append]; simp; omega
  · rw [if_neg hc]; exact h
theorem long_path {e : Ev} (h : longEvs 1 [e] = false) : e.path.length ≤ 1000 := by
  simp only [longEvs, anyL, Bool.or_eq_false_iff, evLong, decide_eq_false_iff_not] at h
  omega
theorem evEq_refl (e : Ev) : evEq e e = true := by
  have hs : ∀ l : List Span, spansEq l l = true := by
    intro l
    induction l with
    | nil => rfl
    | cons x l ih => simp [spansEq, spanEq, ih]
  simp [evEq, hs]
theorem Spl.app {M0 M : PMem} {a k : Nat} {bytes entries most : Int} {ks : List (Nat × Nat)} {l : List (Ev × Nat)} {o : Pm.Obj} {os : List Pm.Obj} (h : Spl (seg M0 k (o :: os)) (seg M k (o :: os)) a bytes entries most ks l) (os' : List Pm.Obj) : Spl (seg M0 k (o :: os')) (seg M k (o :: os')) a bytes entries most ks l := by
  obtain ⟨p, h1, h2⟩ := h.row
  have hak := ne_of_fresh h.new
  refine ⟨fun j i x e => ?_, fresh_seg (fresh_unseg h.new) hak, p, by rw [seg_ne _ _ _ hak] at h1 ⊢; exact h1, h2.re0 (fun k1 i hx => fresh_seg (fresh_unseg (h2.fr k1 i hx)) (ne_of_fresh (h2.fr k1 i hx))) fun k1 i hx => ?_⟩
  · by_cases hj : j = k
    · subst hj; rw [seg_same] at e ⊢; exact e
    · rw [seg_ne _ _ _ hj] at e ⊢
      have := h.sub j i x (by rw [seg_ne _ _ _ hj]; exact e)
      rwa [seg_ne _ _ _ hj] at this
  · rw [seg_ne _ _ _ (ne_of_fresh (h2.fr k1 i hx)), seg_ne _ _ _ (ne_of_fresh (h2.fr k1 i hx))]
theorem endS {body : Code} {nt nt' k r : Nat} {v : PV} {tm : List (Nat × PV)} {M M1 : PMem} {os os' : List Pm.Obj} (hv : tget tm r = v) (h : Pm.Sub (seg M k os) (seg M1 k os')) (hf : fresh M k) : ends env ⟨nt, [.tmp r], body⟩ (fun x M2 => x = v ∧ M2 = M) .ret ⟨tm, nt', k, os', M1⟩ := by
  subst hv
  refine ⟨.inr rfl, [_], M, rfl, fun j i o e => ⟨o, ?_, .refl _⟩, rfl, rfl⟩
  have hj : j ≠ k := fun e' => by subst e'; rw [hf i] at e; cases e
  exact h _ _ _ (by rw [seg_ne _ _ _ hj]; exact e)
end Go.Proofs.YtmgmbdnhodicjaaGreatDoor
end

section
namespace Go.Proofs.YtmgmbdnhodicjaaGreatDoor
open Go Go.Am Go.Pm
set_option maxHeartbeats 1000000
set_option maxRecDepth 100000
def delL (d1 d2 : Int) : List (Ev × Nat) → List (Ev × Nat)
  | [] => []
  | x :: l => if isDot d1 d2 x.1 then l else x :: delL d1 d2 l
theorem chain_del {M0 M : PMem} {d1 d2 : Int} {p : PV} {ks : List (Nat × Nat)} {l : List (Ev × Nat)} (h : chain M0 M p ks l) : hasDot d1 d2 l = true → ∃ k1 i1 e s q, M k1 i1 = some (.row .rw 0 (lkCells e s q)) ∧ (k1, i1) ∈ ks ∧ szs l = s + szs (delL d1 d2 l) ∧ l.length = 1 + (delL d1 d2 l).length ∧ (pone q = true ∧ pcells q = [q]) ∧
    ((∃ ks', (∀ slot, findP d1 d2 slot ks l = slot) ∧ p = .ptr k1 i1 0 ∧ chain M0 M q ks' (delL d1 d2 l) ∧ (∀ x ∈ ks', x ∈ ks)) ∨
     (∃ kc ic ec sc ks', (kc, ic) ∈ ks ∧ M kc ic = some (.row .rw 0 (lkCells ec sc (.ptr k1 i1 0))) ∧ (∀ slot, findP d1 d2 slot ks l = .ptr kc ic 8) ∧ (∀ x ∈ ks', x ∈ ks) ∧ ¬ (kc = k1 ∧ ic = i1) ∧
       ∀ M'' : PMem, (∀ k i, (k, i) ∈ ks → ¬ (k = kc ∧ i = ic) → M'' k i = M k i) → M'' kc ic = some (.row .rw 0 (lkCells ec sc q)) → chain M0 M'' p ks' (delL d1 d2 l))) := by
  induction h with
  | nil => intro h; simp [hasDot] at h
  | @cons k i e s p ks l h h0 hn r ih =>
    intro hd
    have h9 : hasDot d1 d2 ((e, s) :: l) = (isDot d1 d2 e || hasDot d1 d2 l) := rfl
    by_cases hx : isDot d1 d2 e = true
    · have hdel : delL d1 d2 ((e, s) :: l) = l := by
        show (if isDot d1 d2 e then l else _) = _
        rw [if_pos hx]
      have hq : pone p = true ∧ pcells p = [p] := by cases r <;> exact ⟨rfl, rfl⟩
      refine ⟨k, i, e, s, p, h, List.mem_cons_self, by rw [hdel, szs_cons], by rw [hdel, List.length_cons, Nat.add_comm], hq, .inl ⟨ks, fun slot => ?_, rfl, by rw [hdel]; exact r, fun x hx => List.mem_cons_of_mem _ hx⟩⟩
      show (if isDot d1 d2 e then slot else _) = _
      rw [if_pos hx]
    · have hd' : hasDot d1 d2 l = true := by
        rw [h9] at hd
        cases hq : isDot d1 d2 e with
        | true => exact absurd hq hx
        | false => rw [hq] at hd; simpa using hd
      have hdel : delL d1 d2 ((e, s) :: l) = (e, s) :: delL d1 d2 l := by
        show (if isDot d1 d2 e then l else _) = _
        rw [if_neg hx]
      have hfnd : ∀ slot, findP d1 d2 slot ((k, i) :: ks) ((e, s) :: l) = findP d1 d2 (.ptr k i 8) ks l := fun slot => by
        show (if isDot d1 d2 e then slot else _) = _
        rw [if_neg hx]
      obtain ⟨k1, i1, e1, s1, q, m1, m2, m3, m4, m5, m6⟩ := ih hd'
      refine ⟨k1, i1, e1, s1, q, m1, List.mem_cons_of_mem _ m2, by rw [hdel, szs_cons, szs_cons, m3]; omega, by rw [hdel, List.length_cons, List.length_cons, m4]; omega, m5, .inr ?_⟩
      rcases m6 with ⟨ks', f1, f2, f3, f4⟩ | ⟨kc, ic, ec, sc, ks', f1, f2, f3, f4, f5, f6⟩
      · subst f2
        have hki : (k, i) ∉ ks' := fun x => hn (f4 _ x)
        refine ⟨k, i, e, s, (k, i) :: ks', List.mem_cons_self, h, fun slot => by rw [hfnd, f1], fun x hx => ?_, fun x => hn (by rw [x.1, x.2]; exact m2), fun M'' g1 g2 => ?_⟩
        · rcases List.mem_cons.1 hx with hx | hx
          · rw [hx]; exact List.mem_cons_self
          · exact List.mem_cons_of_mem _ (f4 _ hx)
        · rw [hdel]
          refine .cons g2 h0 hki (f3.frame fun k2 i2 hx => g1 k2 i2 (List.mem_cons_of_mem _ (f4 _ hx)) fun x => hki (by rw [← x.1, ← x.2]; exact hx))
      · have hne : ¬ (k = kc ∧ i = ic) := fun x => hn (by rw [x.1, x.2]; exact f1)
        refine ⟨kc, ic, ec, sc, (k, i) :: ks', List.mem_cons_of_mem _ f1, f2, fun slot => by rw [hfnd, f3], fun x hx => ?_, f5, fun M'' g1 g2 => ?_⟩
        · rcases List.mem_cons.1 hx with hx | hx
          · rw [hx]; exact List.mem_cons_self
          · exact List.mem_cons_of_mem _ (f4 _ hx)
        · rw [hdel]
          refine .cons (by rw [g1 k i List.mem_cons_self hne]; exact h) h0 (fun x => hn (f4 _ x)) (f6 M'' (fun k2 i2 hx hy => g1 k2 i2 (List.mem_cons_of_mem _ hx) hy) g2)
end Go.Proofs.YtmgmbdnhodicjaaGreatDoor
end
