/- SpoolRoom: what waits never takes more than the quotas. Part 42 of 46; no condition. -/
import Derived.Test.YtmgmbdnhodicjaaGreatDoorM41
set_option linter.unusedVariables false
set_option linter.unusedSimpArgs false
section
namespace Go.Pm
open Go.RowKit Go.Am
theorem RX.cut {E : Env} {P : Program} {rd : Option (Nat × Nat)} {a b : RC} {s : PSt} {Q : AExit → PSt → Prop} (R : PSt → Prop) (h : RX E P rd a s (fun e s1 => e = .normal ∧ R s1)) (k : ∀ s1, R s1 → RX E P rd b s1 Q) : RX E P rd (.seq a b) s Q :=
  RX.seq (h.mono fun e s1 hr => by
    obtain ⟨he, hr⟩ := hr
    subst he
    exact k s1 hr)
end Go.Pm
namespace Go.Proofs.YtmgmbdnhodicjaaGreatDoor
open Go Go.Am Go.Pm
set_option maxHeartbeats 2000000
set_option maxRecDepth 100000
section
variable {B B' M M1 : PMem} {a k : Nat} {bytes entries most : Int} {ks : List (Nat × Nat)} {l : List (Ev × Nat)}
theorem Spl.base (h : Spl B' M a bytes entries most ks l) (hs : Pm.Sub B B') : Spl B M a bytes entries most ks l := by
  obtain ⟨p, h1, h2⟩ := h.row
  exact ⟨hs.trans h.sub, fresh_of_sub hs h.new, p, h1, h2.re0 (fun k1 i hx => fresh_of_sub hs (h2.fr k1 i hx)) fun k1 i hx => rfl⟩
theorem Spl.tok {kc i : Nat} {os : List Pm.Obj} {o : Pm.Obj} (h : Spl B M a bytes entries most ks l) (hf : fresh M kc) (ho : os[i]? = some o) : Spl (putM B kc i o) (seg M kc os) a bytes entries most ks l := by
  obtain ⟨p, h1, h2⟩ := h.row
  have hak : a ≠ kc := fun e => by subst e; rw [hf 0] at h1; cases h1
  have hk : ∀ k1 j, (k1, j) ∈ ks → k1 ≠ kc := fun k1 j hx e => by
    subst e
    obtain ⟨o, ho⟩ := h2.at _ _ hx
    rw [hf j] at ho; cases ho
  refine ⟨fun x j o' e => ?_, fresh_put h.new (Ne.symm hak), p, by rw [seg_ne _ _ _ hak]; exact h1, h2.re0 (fun k1 j hx => fresh_put (h2.fr k1 j hx) (Ne.symm (hk k1 j hx))) fun k1 j hx => by rw [seg_ne _ _ _ (hk k1 j hx)]⟩
  by_cases hc : x = kc ∧ j = i
  · obtain ⟨rfl, rfl⟩ := hc
    rw [putM_same] at e; cases e
    rw [seg_same]; exact ho
  · rw [put_ne hc] at e
    have e' := h.sub _ _ _ e
    have hx : x ≠ kc := fun e2 => by subst e2; rw [hf j] at e'; cases e'
    rw [seg_ne _ _ _ hx]; exact e'
theorem Spl.retok {kc i : Nat} {o o' : Pm.Obj} (h : Spl (putM B kc i o) M a bytes entries most ks l) : Spl (putM B kc i o') (putM M kc i o') a bytes entries most ks l := by
  obtain ⟨p, h1, h2⟩ := h.row
  have ne : ∀ x, fresh (putM B kc i o) x → x ≠ kc := fun x hx e => by
    subst e
    have := hx i
    rw [putM_same] at this; cases this
  have fr : ∀ x, fresh (putM B kc i o) x → fresh (putM B kc i o') x := fun x hx j => by
    have := hx j
    have hn := ne x hx
    rw [put_ne (fun y => hn y.1)] at this ⊢; exact this
  refine ⟨fun x j q e => ?_, fr _ h.new, p, by rw [put_ne (fun y => ne _ h.new y.1)]; exact h1, h2.re0 (fun k1 j hx => fr _ (h2.fr k1 j hx)) fun k1 j hx => by rw [put_ne (fun y => ne _ (h2.fr k1 j hx) y.1)]⟩
  by_cases hc : x = kc ∧ j = i
  · obtain ⟨rfl, rfl⟩ := hc
    rw [putM_same] at e ⊢; exact e
  · rw [put_ne hc] at e ⊢
    exact h.sub _ _ _ (by rw [put_ne hc]; exact e)
end
def tkB (M0 : PMem) : Pm.Tok → Nat → PMem
  | .id a i, n => putM M0 a i (.grow n 7)
  | _, _ => M0
inductive Wnt (M0 : PMem) (k : Nat) (L : List Ev) : Pm.Tok → PV → Prop where
  | nil (e : Nat) (h : L = []) : Wnt M0 k L .full (.lst .full e 0 [])
  | at_ {a i : Nat} (hk : a ≠ k) (h0 : fresh M0 a) : Wnt M0 k L (.id a i) (.lst (.id a i) 7 L.length (L.flatMap evCells))
theorem Wnt.le {M0 : PMem} {k : Nat} {L : List Ev} {t : Pm.Tok} {w : PV} (h : Wnt M0 k L t w) : PLe w (encEvs L) := by
  cases h with
  | nil e h => subst h; exact PLe.nil_no _ _ _ rfl
  | at_ hk h0 => exact PLe.no _ _ _ _
theorem Wnt.eq {M0 : PMem} {k : Nat} {L : List Ev} {t : Pm.Tok} {w : PV} (h : Wnt M0 k L t w) : ∃ e, w = .lst t e L.length (L.flatMap evCells) := by
  cases h with
  | nil e h => subst h; exact ⟨e, rfl⟩
  | at_ hk h0 => exact ⟨7, rfl⟩
theorem tkB_sub {M0 : PMem} {k : Nat} {L : List Ev} {t : Pm.Tok} {w : PV} (h : Wnt M0 k L t w) (n : Nat) (os : List Pm.Obj) : Pm.Sub (seg M0 k os) (seg (tkB M0 t n) k os) := by
  cases h with
  | nil e h => exact Pm.Sub.refl _
  | at_ hk h0 => exact sub_segs (sub_put (Pm.Sub.refl _) h0)
structure roomI (b n most : Int) (l : List (Ev × Nat)) : Prop where
  ok : okL b n l
  lo : ((szs l : Nat) : Int) ≤ most
  hi : most ≤ b
  sz : ∀ x ∈ l, x.2 = evSize x.1
  nd : l.Pairwise fun x y => isDot y.1.node y.1.seq x.1 = false
theorem hasDot_false {d1 d2 : Int} {l : List (Ev × Nat)} (h : hasDot d1 d2 l = false) : ∀ x ∈ l, isDot d1 d2 x.1 = false := fun x hx => by
  cases hd : isDot d1 d2 x.1 with
  | false => rfl
  | true =>
    have : hasDot d1 d2 l = true := List.any_eq_true.2 ⟨x, hx, hd⟩
    rw [this] at h; cases h
theorem roomI.put {b n most most' : Int} {l : List (Ev × Nat)} (h : roomI b n most l) (e : Ev) (hp : e.path.length ≤ 1000)
    (hm : (most' = most ∧ (putCode b n l e = 0 → ((szs (l ++ [(e, evSize e)]) : Nat) : Int) ≤ most)) ∨ (putCode b n l e = 0 ∧ most < most' ∧ most' = ((szs (l ++ [(e, evSize e)]) : Nat) : Int))) : roomI b n most' (if putCode b n l e = 0 then l ++ [(e, evSize e)] else l) := by
  have hok := h.ok.put e hp
  by_cases hc : putCode b n l e = 0
  · rw [if_pos hc] at hok ⊢
    have hd : hasDot e.node e.seq l = false := by
      cases hd : hasDot e.node e.seq l with
      | false => rfl
      | true =>
        unfold putCode at hc
        rw [hd] at hc
        split at hc
        · cases hc
        · split at hc
          · cases hc
          · simp at hc
    refine ⟨hok, ?_, ?_, fun x hx => ?_, ?_⟩
    · rcases hm with ⟨rfl, h1⟩ | ⟨_, _, h1⟩
      · exact h1 hc
      · rw [h1]; exact Int.le_refl _
    · rcases hm with ⟨rfl, _⟩ | ⟨_, _, h1⟩
      · exact h.hi
      · rw [h1]; exact hok.size
    · rcases List.mem_append.1 hx with hx | hx
      · exact h.sz x hx
      · rw [List.mem_singleton] at hx; subst hx; rfl
    · refine List.pairwise_append.2 ⟨h.nd, by simp, fun x hx y hy => ?_⟩
      rw [List.mem_singleton] at hy; subst hy
      exact hasDot_false hd x hx
  · rw [if_neg hc] at hok ⊢
    have : most' = most := by
      rcases hm with ⟨h1, _⟩ | ⟨h1, _⟩
      · exact h1
      · exact absurd h1 hc
    subst this
    exact h
theorem delL_sub {d1 d2 : Int} : ∀ {l : List (Ev × Nat)}, List.Sublist (delL d1 d2 l) l
  | [] => .slnil
  | x :: l => by
    show List.Sublist (if isDot d1 d2 x.1 then l else x :: delL d1 d2 l) (x :: l)
    split
    · exact List.sublist_cons_self x l
    · exact List.Sublist.cons_cons x delL_sub
theorem delL_szs {d1 d2 : Int} : ∀ {l : List (Ev × Nat)}, szs (delL d1 d2 l) ≤ szs l
  | [] => Nat.le_refl _
  | x :: l => by
    show szs (if isDot d1 d2 x.1 then l else x :: delL d1 d2 l) ≤ szs (x :: l)
    have h0 : szs (x :: l) = x.2 + szs l := by simp [szs]
    split
    · omega
    · have h1 : szs (x :: delL d1 d2 l) = x.2 + szs (delL d1 d2 l) := by simp [szs]
      have := delL_szs (d1 := d1) (d2 := d2) (l := l)
      omega
theorem roomI.del {b n most : Int} {l : List (Ev × Nat)} (h : roomI b n most l) (d1 d2 : Int) : roomI b n most (delL d1 d2 l) := by
  have hs := delL_sub (d1 := d1) (d2 := d2) (l := l)
  have h1 := delL_szs (d1 := d1) (d2 := d2) (l := l)
  have h2 := h.lo
  have h3 := h.ok.size
  have h4 := h.ok.len
  have h5 := hs.length_le
  exact ⟨⟨fun x hx => h.ok.fit x (hs.subset hx), by omega, by omega⟩, by omega, h.hi, fun x hx => h.sz x (hs.subset hx), h.nd.sublist hs⟩
theorem isDot_swap {x y : Ev} {d1 d2 : Int} (h : isDot d1 d2 x = true) : isDot d1 d2 y = isDot x.node x.seq y := by
  simp only [isDot, Bool.and_eq_true, beq_iff_eq] at h
  simp only [isDot, h.1, h.2]
theorem isDot_comm (x y : Ev) : isDot x.node x.seq y = isDot y.node y.seq x := by
  simp only [isDot, Bool.beq_comm]
theorem wout_del {d1 d2 : Int} : ∀ {l : List (Ev × Nat)}, l.Pairwise (fun x y => isDot y.1.node y.1.seq x.1 = false) → wout d1 d2 (l.map (·.1)) = (delL d1 d2 l).map (·.1)
  | [], _ => rfl
  | x :: l, h => by
    rw [List.pairwise_cons] at h
    have ih := wout_del (d1 := d1) (d2 := d2) h.2
    cases hx : isDot d1 d2 x.1 with
    | true =>
      have h1 : delL d1 d2 (x :: l) = l := by
        show (if isDot d1 d2 x.1 then l else _) = _
        rw [hx]; rfl
      have h2 : ∀ y ∈ l.map (·.1), isDot d1 d2 y = false := fun y hy => by
        obtain ⟨z, hz, rfl⟩ := List.mem_map.1 hy
        rw [isDot_swap hx, isDot_comm]; exact h.1 z hz
      rw [h1]
      simp only [wout, List.map_cons, hx, Bool.not_true, List.filter_cons_of_neg, Bool.false_eq_true, not_false_eq_true]
      refine List.filter_eq_self.2 fun y hy => ?_
      rw [h2 y hy]; rfl
    | false =>
      have h1 : delL d1 d2 (x :: l) = x :: delL d1 d2 l := by
        show (if isDot d1 d2 x.1 then l else x :: delL d1 d2 l) = _
        rw [hx]; rfl
      rw [h1]
      show wout d1 d2 (x.1 :: l.map (·.1)) = x.1 :: (delL d1 d2 l).map (·.1)
      rw [← ih]
      simp only [wout, hx, Bool.not_false, List.filter_cons_of_pos]
def evSum (L : List Ev) : Nat := (L.map evSize).sum
theorem evSum_szs {l : List (Ev × Nat)} (h : ∀ x ∈ l, x.2 = evSize x.1) : evSum (l.map (·.1)) = szs l := by
  unfold evSum szs
  rw [List.map_map]
  exact congrArg _ (List.map_congr_left fun x hx => (h x hx).symm)
end Go.Proofs.YtmgmbdnhodicjaaGreatDoor
end
