/- SpoolDrains: the law returns true, of all arguments of its types, in whatever memory. Part 37 of 39; no condition. -/
import Derived.Test.YtmgmbdnhodicjaaDoorM36
section
/- SpoolDrains: the law walked. Of any arguments; no condition. -/
set_option linter.unusedVariables false
namespace Go.Pm
open Go.RowKit Go.Am
theorem e_CGD {E : Env} {P : Program} {d g n : Nat} {w : Bool} {ar : List Operand} {ld : List RD} {tm : List (Nat × PV)} {nt k : Nat} {os : List Obj} {M : PMem} {R : PSt → Prop} :
    RPD E P (dCG true d g w (.func n) ar :: ld) ⟨tm, nt, k, os, M⟩ R = cG E P d w (.d ld) tm nt k os M R (ar.map (pev tm)) (.fn n [] []) (tget tm g) := by
  unfold cG
  have hg : rg (some (g, w)) ⟨tm, nt, k, os, M⟩ = rgV w (tget tm g) := rg_V
  apply propext
  constructor
  · rintro (⟨h0, h⟩ | ⟨-, h0, h⟩ | ⟨h0, -⟩)
    · replace h0 := hg.symm.trans h0; rw [h0]; exact .inl h
    · replace h0 := hg.symm.trans h0; rw [h0]; dsimp only; rw [← nV_put]; exact h
    · cases h0
  · intro h
    split at h
    · rename_i h0
      rcases h with ⟨g', f', c', e, h⟩ | ⟨a, i, e, _⟩
      · cases e; exact .inl ⟨hg.trans h0, _, _, _, rfl, h⟩
      · cases e
    · rename_i h0
      rw [← nV_put] at h
      exact .inr (.inl ⟨rfl, hg.trans h0, h⟩)
    · exact h.elim
section
variable {E : Env} {P : Program} {d g : Nat} {w : Bool} {F : PSt → Option (PV × PSt)} {l : List RI} {tm : List (Nat × PV)} {nt k : Nat} {os : List Obj} {M : PMem} {R : PSt → Prop}
theorem e_Ht (h : tget tm g = .v (.bool w)) : RPO E P (oH d g w F :: l) ⟨tm, nt, k, os, M⟩ R = nU E P d (.o l) R (F ⟨tm, nt, k, os, M⟩) := by
  have h1 : rI (some d) (some (g, w)) F ⟨tm, nt, k, os, M⟩ = rI (some d) none F ⟨tm, nt, k, os, M⟩ := by
    unfold rI rg
    simp only [h]
    cases w <;> rfl
  have h2 : RPO E P (oU d F :: l) ⟨tm, nt, k, os, M⟩ R = nU E P d (.o l) R (F ⟨tm, nt, k, os, M⟩) := e_U
  rw [← h2]
  show (∃ s1, rI (some d) (some (g, w)) F ⟨tm, nt, k, os, M⟩ = some s1 ∧ RPO E P l s1 R) = (∃ s1, rI (some d) none F ⟨tm, nt, k, os, M⟩ = some s1 ∧ RPO E P l s1 R)
  rw [h1]
theorem e_Hf (h : tget tm g = .v (.bool (!w))) : RPO E P (oH d g w F :: l) ⟨tm, nt, k, os, M⟩ R = nV E P d (.o l) tm nt k os M R (some (.tup [])) := by
  have h1 : rI (some d) (some (g, w)) F ⟨tm, nt, k, os, M⟩ = pput ⟨tm, nt, k, os, M⟩ (some d) (.tup []) := by
    unfold rI rg
    simp only [h]
    cases w <;> rfl
  show (∃ s1, rI (some d) (some (g, w)) F ⟨tm, nt, k, os, M⟩ = some s1 ∧ RPO E P l s1 R) = _
  rw [h1, ← nV_put]; rfl
end
end Go.Pm
namespace Go.Proofs.YtmgmbdnhodicjaaDoor
open Go Go.Am Go.Pm
set_option linter.unusedSimpArgs false
set_option maxHeartbeats 2000000
set_option maxRecDepth 100000
/-- What waits, within the quotas. -/
structure okL (b n : Int) (l : List (Ev × Nat)) : Prop where
  fit : ∀ x ∈ l, evFit x.1 ∧ x.1.path.length ≤ 1000
  size : ((szs l : Nat) : Int) ≤ b
  len : ((l.length : Nat) : Int) ≤ n
theorem okL.put {b n : Int} {l : List (Ev × Nat)} (h : okL b n l) (e : Ev) (hp : e.path.length ≤ 1000) : okL b n (if putCode b n l e = 0 then l ++ [(e, evSize e)] else l) := by
  by_cases hc : putCode b n l e = 0
  · rw [if_pos hc]
    unfold putCode at hc
    split at hc
    · cases hc
    · rename_i h1
      split at hc
      · cases hc
      · split at hc
        · cases hc
        · split at hc
          · cases hc
          · rename_i h4
            simp only [Bool.or_eq_true, decide_eq_true_eq, not_or] at h4
            have hok : evOk e = true := by simpa using h1
            refine ⟨fun x hx => ?_, ?_, ?_⟩
            · rcases List.mem_append.1 hx with hx | hx
              · exact h.fit x hx
              · rw [List.mem_singleton] at hx; subst hx
                exact ⟨ev_fit hok, hp⟩
            · have : szs (l ++ [(e, evSize e)]) = szs l + evSize e := by simp [szs]
              rw [this]; omega
            · rw [List.length_append]; simp; omega
  · rw [if_neg hc]; exact h
theorem long_path {e : Ev} (h : longEvs 1 [e] = false) : e.path.length ≤ 1000 := by
  simp only [longEvs, anyL, Bool.or_eq_false_iff, evLong, decide_eq_false_iff_not] at h
  omega
theorem evEq_refl (e : Ev) : evEq e e = true := by
  have hs : ∀ l : List Span, spansEq l l = true := by
    intro l
    induction l with
    | nil => rfl
    | cons x l ih => simp [spansEq, spanEq, ih]
  simp [evEq, hs]
theorem puts4 (xs : List Act) (hsm : xs.length ≤ 9223372036854775807) (hx : ∀ x ∈ xs, x.ev.path.length ≤ 1000) (b n : Int) (hb : 0 ≤ b ∧ b ≤ 10000000) (hn : 0 ≤ n ∧ n ≤ 10000) (a k : Nat) (o : Pm.Obj) (os : List Pm.Obj) (M0 : PMem) (rest : List (Nat × PV)) (Q : AExit → PSt → Prop)
    (q : ∀ tm M most ks l, Spl (seg M0 k (o :: os)) (seg M k (o :: os)) a b n most ks l → okL b n l → tget tm 0 = iv b → tget tm 7 = .ptr k 0 0 → tget tm 9 = bv true → tget tm 10 = .ptr a 0 0 → Q (.exit 0) ⟨tm, 122, k, o :: os, M⟩) :
    ∀ d i M most ks l, xs.length - i = d → i ≤ xs.length → Spl (seg M0 k (o :: os)) (seg M k (o :: os)) a b n most ks l → okL b n l →
    RXL env Tryd.prog none c4_22 ⟨[(12, iv i), (10, .ptr a 0 0), (9, bv true), (7, .ptr k 0 0), (2, encActs xs), (0, iv b)], 122, k, o :: os, M⟩ Q := by
  intro d
  induction d with
  | zero =>
    intro i M most ks l hd hi hS hl
    have : i = xs.length := by omega
    subst this
    refine RXL.round (RX.of env_ok ?_)
    simp only [WX, WV, WO, WC, FJ, e_L, e_A, e_Z, r_append, r_cap, cap_nil, FB, FL, FX, FS, FN, Option.map_some, Option.map_none, Nat.reduceLT, Nat.reduceEqDiff, Nat.reduceAdd, Nat.reduceLeDiff, Nat.reduceMul, true_and, and_self, encActs, Int.lt_irrefl, decide_false]
    exact q _ _ _ _ _ hS hl rfl rfl rfl rfl
  | succ d ih =>
    intro i M most ks l hd hi hS hl
    have hi' : i < xs.length := by omega
    obtain ⟨x, hxi, hdx⟩ := getE hi'
    have hii : (i : Int) < xs.length := by omega
    have c1 : ptake true 7 (xs.flatMap actCells) (i * 8 + 1) = some (.agg (evCells x.ev)) := sub_at (f := actCells) (fun _ => rfl) hxi (by decide) rfl
    have hw : IntKind.i64.wrap ((i : Int) + 1) = ((i + 1 : Nat) : Int) := by rw [wrap64_id (by omega) (by omega)]; rfl
    have hp := hx x (List.mem_of_getElem? hxi)
    refine RXL.round (RX.of env_ok ?_)
    simp only [WX, WV, WO, WC, FJ, e_L, e_A, e_Z, r_append, r_cap, cap_nil, FB, FL, FX, FS, FN, Option.map_some, Option.map_none, Nat.reduceLT, Nat.reduceEqDiff, Nat.reduceAdd, Nat.reduceLeDiff, Nat.reduceMul, true_and, and_self, encActs, hii, decide_true, hi', c1]
    refine cm (first := []) (cap := []) ((put_spool hS hb hn hl.size hl.len x.ev hp).mono ?_)
    rintro y M1 ⟨_, most', ks', hS'⟩
    refine ⟨o :: os, M1, rfl, mle_re hS'.sub, by decide, ?_⟩
    simp only [WX, WV, WO, WC, FJ, e_L, e_A, e_Z, r_append, r_cap, cap_nil, FB, FL, FX, FS, FN, Option.map_some, Option.map_none, Nat.reduceLT, Nat.reduceEqDiff, Nat.reduceAdd, Nat.reduceLeDiff, Nat.reduceMul, true_and, and_self, hw]
    refine RXL.weak (keepE ?_) (ih (i + 1) M1 most' ks' _ (by omega) (by omega) hS'.re (hl.put x.ev hp))
    repeat (first | exact KP.nil | apply KP.cons rfl)
theorem okL.tail {b n : Int} {e : Ev} {s : Nat} {l : List (Ev × Nat)} (h : okL b n ((e, s) :: l)) : okL b n l := by
  have h1 := h.size
  have h2 := h.len
  rw [szs_cons] at h1
  simp only [List.length_cons] at h2
  exact ⟨fun x hx => h.fit x (List.mem_cons_of_mem _ hx), by omega, by omega⟩
theorem mle_two {M0 M1 : PMem} {k k' : Nat} {o r : Pm.Obj} {os : List Pm.Obj} (hne : k ≠ k') (h : Pm.Sub (seg (seg M0 k (o :: os)) k' [r]) M1) : MLe (seg M1 k' [r]) (seg (seg M1 k' []) k (o :: os)) := fun a i x e => by
  by_cases ha : a = k
  · subst ha
    rw [seg_same] at e
    refine ⟨x, ?_, .refl _⟩
    rw [seg_ne _ _ _ hne]
    exact h _ _ _ (by rw [seg_ne _ _ _ hne, seg_same]; exact e)
  · rw [seg_ne _ _ _ ha] at e
    by_cases hb : a = k'
    · subst hb; rw [seg_same] at e; cases e
    · rw [seg_ne _ _ _ hb] at e
      exact ⟨x, by rw [seg_ne _ _ _ hb]; exact e, .refl _⟩
theorem drain4 (L : List Ev) (hL : L.length ≤ 1000000) (b n : Int) (hb : 0 ≤ b ∧ b ≤ 10000000) (hn : 0 ≤ n ∧ n ≤ 10000) (a k : Nat) (o : Pm.Obj) (os : List Pm.Obj) (M0 : PMem) (Q : AExit → PSt → Prop)
    (q : ∀ tm M most ks, Spl (seg M0 k (o :: os)) (seg M k (o :: os)) a b n most ks [] → tget tm 0 = iv b → tget tm 7 = .ptr k 0 0 → tget tm 9 = bv true → tget tm 10 = .ptr a 0 0 → Q (.exit 2) ⟨tm, 122, k, o :: os, M⟩) :
    ∀ d i M most ks l, L.length - i = d → i ≤ L.length → l.map (·.1) = L.drop i → Spl (seg M0 k (o :: os)) (seg M k (o :: os)) a b n most ks l → okL b n l →
    RXL env Tryd.prog none c4_41 ⟨[(14, iv i), (13, encEvs L), (10, .ptr a 0 0), (9, bv true), (7, .ptr k 0 0), (0, iv b)], 122, k, o :: os, M⟩ Q := by
  intro d
  induction d with
  | zero =>
    intro i M most ks l hd hi hm hS hl
    have : i = L.length := by omega
    subst this
    rw [List.drop_length, List.map_eq_nil_iff] at hm
    subst hm
    refine RXL.round (RX.of env_ok ?_)
    simp only [WX, WV, WO, WC, FJ, e_L, e_A, e_Z, r_append, r_cap, cap_nil, FB, FL, FX, FS, FN, Option.map_some, Option.map_none, Nat.reduceLT, Nat.reduceEqDiff, Nat.reduceAdd, Nat.reduceLeDiff, Nat.reduceMul, true_and, and_self, encEvs, Int.lt_irrefl, decide_false]
    exact q _ _ _ _ hS rfl rfl rfl rfl
  | succ d ih =>
    intro i M most ks l hd hi hm hS hl
    have hi' : i < L.length := by omega
    obtain ⟨e, hei, hde⟩ := getE hi'
    rw [hde] at hm
    cases l with
    | nil => cases hm
    | cons x l =>
    obtain ⟨e', s⟩ := x
    simp only [List.map_cons, List.cons.injEq] at hm
    obtain ⟨rfl, hm⟩ := hm
    have hii : (i : Int) < L.length := by omega
    have c1 := ev_load7 hei
    have hw : IntKind.i64.wrap ((i : Int) + 1) = ((i + 1 : Nat) : Int) := by rw [wrap64_id (by omega) (by omega)]; rfl
    have hfit : evFit e' := (hl.fit (e', s) List.mem_cons_self).1
    have hpast : e'.past.length ≤ 9223372036854775806 := by have h3 : e'.past.length ≤ 1000000 := hfit.2; omega
    have hsz := hl.size
    have hln := hl.len
    refine RXL.innM fun k' hk1 hk2 hk3 => RX.of env_ok ?_
    simp only [WX, WV, WO, WC, FJ, e_L, e_A, e_Z, r_append, r_cap, cap_nil, FB, FL, FX, FS, FN, Option.map_some, Option.map_none, Nat.reduceLT, Nat.reduceEqDiff, Nat.reduceAdd, Nat.reduceLeDiff, Nat.reduceMul, true_and, and_self, encEvs, hii, decide_true, hi', c1]
    refine cs0 (first_at hS hfit) (Pm.Sub.seg hk3) (by decide) ?_
    have hst : storeO 7 0 (encEv e') (some (.row .rw 0 [.v (.int .i64 0), .v (.int .i64 0), .v (.string ⟨#[]⟩), .v (.int .i64 0), .v (.int .i64 0), .lst .full 0 0 [], .lst .full 0 0 []])) = some (.row .rw 0 (evCells e')) := storeO_eq (n := 7) ⟨rfl, Nat.le_refl 7, rfl⟩
    have h7 : ptake true 7 (evCells e') 0 = some (encEv e') := rfl
    have h2 : ptake true 2 (evCells e') 0 = some (.agg [iv e'.node, iv e'.seq]) := rfl
    simp only [WX, WV, WO, WC, FJ, e_L, e_A, e_Z, r_append, r_cap, cap_nil, FB, FL, FX, FS, FN, Option.map_some, Option.map_none, Nat.reduceLT, Nat.reduceEqDiff, Nat.reduceAdd, Nat.reduceLeDiff, Nat.reduceMul, true_and, and_self, hst, Bool.not_true, Bool.not_false, cnd_t, cnd_f, hii, hi', c1, h7, e_CGD]
    refine cp0 (same_event e' e' hpast) (by decide) ?_
    rw [evEq_refl]
    simp only [WX, WV, WO, WC, FJ, e_L, e_A, e_Z, r_append, r_cap, cap_nil, FB, FL, FX, FS, FN, Option.map_some, Option.map_none, Nat.reduceLT, Nat.reduceEqDiff, Nat.reduceAdd, Nat.reduceLeDiff, Nat.reduceMul, true_and, and_self, Bool.not_true, Bool.not_false, Bool.or_false, cnd_t, cnd_f, h2, e_CGD]
    have hP := hS.push (k := k') (os := [.row .rw 0 (evCells e')]) hk3
    refine cm (first := []) (cap := []) ((drop_first hP (by omega) (by simp only [List.length_cons] at hln ⊢; omega)).mono ?_)
    rintro y M1 ⟨rfl, ks', hS1⟩
    refine ⟨[.row .rw 0 (evCells e')], M1, rfl, mle_re hS1.sub, by decide, ?_⟩
    simp only [WX, WV, WO, WC, FJ, e_L, e_A, e_Z, r_append, r_cap, cap_nil, FB, FL, FX, FS, FN, Option.map_some, Option.map_none, Nat.reduceLT, Nat.reduceEqDiff, Nat.reduceAdd, Nat.reduceLeDiff, Nat.reduceMul, true_and, and_self, bne_self_eq_false, hw, Bool.or_false, Bool.not_false, cnd_t, cnd_f]
    have hS2 : Spl (seg M0 k (o :: os)) (seg M1 k' []) a b n most ks' l := hS1.pop (fresh_of_sub hS.sub hk3)
    refine ⟨seg M1 k' [], mle_two (Ne.symm hk1) hS1.sub, ?_⟩
    refine RXL.weak (keepE ?_) (ih (i + 1) (seg M1 k' []) most ks' l (by omega) (by omega) hm hS2.re hl.tail)
    repeat (first | exact KP.nil | apply KP.cons rfl)
theorem Spl.app {M0 M : PMem} {a k : Nat} {bytes entries most : Int} {ks : List (Nat × Nat)} {l : List (Ev × Nat)} {o : Pm.Obj} {os : List Pm.Obj} (h : Spl (seg M0 k (o :: os)) (seg M k (o :: os)) a bytes entries most ks l) (os' : List Pm.Obj) : Spl (seg M0 k (o :: os')) (seg M k (o :: os')) a bytes entries most ks l := by
  obtain ⟨p, h1, h2⟩ := h.row
  have hak := ne_of_fresh h.new
  refine ⟨fun j i x e => ?_, fresh_seg (fresh_unseg h.new) hak, p, by rw [seg_ne _ _ _ hak] at h1 ⊢; exact h1, h2.re0 (fun k1 i hx => fresh_seg (fresh_unseg (h2.fr k1 i hx)) (ne_of_fresh (h2.fr k1 i hx))) fun k1 i hx => ?_⟩
  · by_cases hj : j = k
    · subst hj; rw [seg_same] at e ⊢; exact e
    · rw [seg_ne _ _ _ hj] at e ⊢
      have := h.sub j i x (by rw [seg_ne _ _ _ hj]; exact e)
      rwa [seg_ne _ _ _ hj] at this
  · rw [seg_ne _ _ _ (ne_of_fresh (h2.fr k1 i hx)), seg_ne _ _ _ (ne_of_fresh (h2.fr k1 i hx))]
theorem put_fits (b n : Int) (hn : 1 ≤ n) (e : Ev) : (putCode b n [] e == 0) = ((errIf (evOk e) == 0) && decide ((evSize e : Int) ≤ b)) := by
  have h0 : ¬ n = 0 := by omega
  cases hok : evOk e with
  | false => simp [putCode, hok, errIf]
  | true =>
    by_cases hs : (evSize e : Int) ≤ b
    · have h1 : ¬ b < (evSize e : Int) := by omega
      have h2 : ¬ n < 1 := by omega
      simp [putCode, hok, errIf, hs, h1, h0, hasDot, szs, h2]
    · have h1 : b < (evSize e : Int) := by omega
      simp [putCode, hok, errIf, hs, h1]
theorem endS {body : Code} {nt nt' k r : Nat} {v : PV} {tm : List (Nat × PV)} {M M1 : PMem} {os os' : List Pm.Obj} (hv : tget tm r = v) (h : Pm.Sub (seg M k os) (seg M1 k os')) (hf : fresh M k) : ends env ⟨nt, [.tmp r], body⟩ (fun x M2 => x = v ∧ M2 = M) .ret ⟨tm, nt', k, os', M1⟩ := by
  subst hv
  refine ⟨.inr rfl, [_], M, rfl, fun j i o e => ⟨o, ?_, .refl _⟩, rfl, rfl⟩
  have hj : j ≠ k := fun e' => by subst e'; rw [hf i] at e; cases e
  exact h _ _ _ (by rw [seg_ne _ _ _ hj]; exact e)
theorem drains (x y : Int) (xs : List Act) (hsm : xs.length ≤ 9223372036854775807) (last : Ev) : PTp env Tryd.prog 4 [iv x, iv y, encActs xs, encEv last] (bv true) := fun M => by
  obtain ⟨p1, p2⟩ := pick_in x 3001 (by decide)
  obtain ⟨p3, p4⟩ := pick_in y 12 (by decide)
  have hw : IntKind.i64.wrap (1 + pick y 12) = 1 + pick y 12 := wrap64_id (by omega) (by omega)
  refine PT.enterR env_ok fn4 (by simp) comp4 fun k hk hf => RX.of env_ok ?_
  simp only [WX, WV, WO, WC, FJ, e_L, e_A, e_Z, r_append, r_cap, cap_nil, FB, FL, FX, FS, FN, Option.map_some, Option.map_none, Nat.reduceLT, Nat.reduceEqDiff, Nat.reduceAdd, Nat.reduceLeDiff, Nat.reduceMul, true_and, and_self, argsP, encEv, evCells]
  refine cp0 awake14 (by decide) ?_
  simp only [WX, WV, WO, WC, FJ, e_L, e_A, e_Z, r_append, r_cap, cap_nil, FB, FL, FX, FS, FN, Option.map_some, Option.map_none, Nat.reduceLT, Nat.reduceEqDiff, Nat.reduceAdd, Nat.reduceLeDiff, Nat.reduceMul, true_and, and_self]
  refine cp0 (pick_at x 3001 (by decide) (by decide)) (by decide) ?_
  simp only [WX, WV, WO, WC, FJ, e_L, e_A, e_Z, r_append, r_cap, cap_nil, FB, FL, FX, FS, FN, Option.map_some, Option.map_none, Nat.reduceLT, Nat.reduceEqDiff, Nat.reduceAdd, Nat.reduceLeDiff, Nat.reduceMul, true_and, and_self]
  refine cp0 (pick_at y 12 (by decide) (by decide)) (by decide) ?_
  simp only [WX, WV, WO, WC, FJ, e_L, e_A, e_Z, r_append, r_cap, cap_nil, FB, FL, FX, FS, FN, Option.map_some, Option.map_none, Nat.reduceLT, Nat.reduceEqDiff, Nat.reduceAdd, Nat.reduceLeDiff, Nat.reduceMul, true_and, and_self, hw]
  refine cm (first := []) (cap := []) ((spool_new (pick x 3001) (1 + pick y 12) ⟨by omega, by omega⟩ ⟨by omega, by omega⟩ _).mono ?_)
  rintro v M1 ⟨a, rfl, hS⟩
  refine ⟨_, M1, rfl, mle_re hS.sub, by decide, ?_⟩
  simp only [WX, WV, WO, WC, FJ, e_L, e_A, e_Z, r_append, r_cap, cap_nil, FB, FL, FX, FS, FN, Option.map_some, Option.map_none, Nat.reduceLT, Nat.reduceEqDiff, Nat.reduceAdd, Nat.reduceLeDiff, Nat.reduceMul, true_and, and_self, bne_self_eq_false, ptr_eql, pt22, Bool.or_false, cnd_t, Bool.not_false]
  refine cp0 (long_at xs hsm) (by decide) ?_
  have hS0 := hS.re
  cases hL : (longA xs || decide ((xs.length : Int) > 40)) with
  | true =>
    simp only [WX, WV, WO, WC, FJ, e_L, e_A, e_Z, r_append, r_cap, cap_nil, FB, FL, FX, FS, FN, Option.map_some, Option.map_none, Nat.reduceLT, Nat.reduceEqDiff, Nat.reduceAdd, Nat.reduceLeDiff, Nat.reduceMul, true_and, and_self, Bool.not_true, cnd_f, Bool.true_or, e_Hf, Bool.not_false]
    exact endS rfl hS0.sub hf
  | false =>
    rw [Bool.or_eq_false_iff] at hL
    obtain ⟨hL1, hL2⟩ := hL
    have hx : ∀ z ∈ xs, z.ev.path.length ≤ 1000 := fun z hz => by
      refine long_path ?_
      cases hq : longEvs 1 [z.ev] with
      | false => rfl
      | true =>
        have : longA xs = true := List.any_eq_true.2 ⟨z, hz, hq⟩
        rw [this] at hL1; cases hL1
    have hload : ptake true 7 (evCells last) 0 = some (.agg (evCells last)) := rfl
    have hfill : fillA 8 [.v (.bool false), .v (.int .i64 0), .v (.int .i64 0), .v (.string ⟨#[]⟩), .v (.int .i64 0), .v (.int .i64 0), .lst .full 0 0 [], .lst .full 0 0 []] [(0, .agg (.v (.bool false) :: evCells last))] = some (actCells ⟨false, last⟩) := rfl
    simp only [evCells] at hload hfill
    simp only [WX, WV, WO, WC, FJ, e_L, e_A, e_Z, r_append, r_cap, cap_nil, FB, FL, FX, FS, FN, Option.map_some, Option.map_none, Nat.reduceLT, Nat.reduceEqDiff, Nat.reduceAdd, Nat.reduceLeDiff, Nat.reduceMul, true_and, and_self, Bool.not_false, cnd_t, Bool.false_or, hload, hfill, e_Ht]
    have hla : ([⟨false, last⟩] : List Act).flatMap actCells = actCells ⟨false, last⟩ := by simp
    refine cp0 (PTp.args (args' := [encActs [⟨false, last⟩]]) (.cons (by unfold encActs; rw [hla]; exact PLe.no _ _ _ _) .nil) (long_at [⟨false, last⟩] (by show 1 ≤ 9223372036854775807; decide))) (by decide) ?_
    have hone : (longA [⟨false, last⟩] || decide (((([⟨false, last⟩] : List Act).length : Nat) : Int) > 40)) = longEvs 1 [last] := by
      simp [longA]
    rw [hone]
    cases hlast : longEvs 1 [last] with
    | true =>
      simp only [WX, WV, WO, WC, FJ, e_L, e_A, e_Z, r_append, r_cap, cap_nil, FB, FL, FX, FS, FN, Option.map_some, Option.map_none, Nat.reduceLT, Nat.reduceEqDiff, Nat.reduceAdd, Nat.reduceLeDiff, Nat.reduceMul, true_and, and_self, Bool.false_or]
      exact endS rfl hS0.sub hf
    | false =>
      have hlp := long_path hlast
      simp only [WX, WV, WO, WC, FJ, e_L, e_A, e_Z, r_append, r_cap, cap_nil, FB, FL, FX, FS, FN, Option.map_some, Option.map_none, Nat.reduceLT, Nat.reduceEqDiff, Nat.reduceAdd, Nat.reduceLeDiff, Nat.reduceMul, true_and, and_self, Bool.false_or]
      refine RX.loop (RXL.weak (keepE (tm' := [(12, iv (0 : Nat)), (10, .ptr a 0 0), (9, bv true), (7, .ptr k 0 0), (2, encActs xs), (0, iv (pick x 3001))]) ?_) (puts4 xs hsm hx (pick x 3001) (1 + pick y 12) ⟨by omega, by omega⟩ ⟨by omega, by omega⟩ a k _ [] M [] _ (fun tm M2 most ks l hS1 hok t0 t7 t9 t10 => ?_) xs.length 0 M1 0 [] [] rfl (Nat.zero_le _) hS0 ⟨(fun z hz => by cases hz), (by show (0 : Int) ≤ pick x 3001; exact p1), (by show (0 : Int) ≤ 1 + pick y 12; omega)⟩))
      · repeat (first | exact KP.nil | apply KP.cons rfl)
      · have hlen : l.length ≤ 12 := by have := hok.len; omega
        simp only [WX, WV, WO, WC, FJ, e_L, e_A, e_Z, r_append, r_cap, cap_nil, FB, FL, FX, FS, FN, Option.map_some, Option.map_none, Nat.reduceLT, Nat.reduceEqDiff, Nat.reduceAdd, Nat.reduceLeDiff, Nat.reduceMul, true_and, and_self, t0, t7, t9, t10]
        refine cs0 (all_at hS1 (by omega) (fun z hz => (hok.fit z hz).1)) (Pm.Sub.refl _) (by decide) ?_
        simp only [WX, WV, WO, WC, FJ, e_L, e_A, e_Z, r_append, r_cap, cap_nil, FB, FL, FX, FS, FN, Option.map_some, Option.map_none, Nat.reduceLT, Nat.reduceEqDiff, Nat.reduceAdd, Nat.reduceLeDiff, Nat.reduceMul, true_and, and_self, t0, t7, t9, t10]
        refine RX.loop (RXL.weak (keepE (tm' := [(14, iv (0 : Nat)), (13, encEvs (l.map (·.1))), (10, .ptr a 0 0), (9, bv true), (7, .ptr k 0 0), (0, iv (pick x 3001))]) ?_) (drain4 (l.map (·.1)) (by rw [List.length_map]; omega) (pick x 3001) (1 + pick y 12) ⟨by omega, by omega⟩ ⟨by omega, by omega⟩ a k _ [] M _ (fun tm2 M3 most3 ks3 hS3 u0 u7 u9 u10 => ?_) (l.map (·.1)).length 0 M2 most ks l rfl (Nat.zero_le _) rfl hS1 hok))
        · exact KP.cons rfl (KP.cons rfl (KP.cons t10 (KP.cons t9 (KP.cons t7 (KP.cons t0 KP.nil)))))
        · simp only [WX, WV, WO, WC, FJ, e_L, e_A, e_Z, r_append, r_cap, cap_nil, FB, FL, FX, FS, FN, Option.map_some, Option.map_none, Nat.reduceLT, Nat.reduceEqDiff, Nat.reduceAdd, Nat.reduceLeDiff, Nat.reduceMul, true_and, and_self, u0, u7, u9, u10]
          refine cs0 (first_no hS3) (Pm.Sub.refl _) (by decide) ?_
          have hst : storeO 7 0 zeroEv (some (.row .rw 0 [.v (.int .i64 0), .v (.int .i64 0), .v (.string ⟨#[]⟩), .v (.int .i64 0), .v (.int .i64 0), .lst .full 0 0 [], .lst .full 0 0 []])) = some (.row .rw 0 [.v (.int .i64 0), .v (.int .i64 0), .v (.string ⟨#[]⟩), .v (.int .i64 0), .v (.int .i64 0), .lst .full 0 0 [], .lst .full 0 0 []]) := storeO_eq (n := 7) ⟨rfl, Nat.le_refl 7, rfl⟩
          simp only [WX, WV, WO, WC, FJ, e_L, e_A, e_Z, r_append, r_cap, cap_nil, FB, FL, FX, FS, FN, Option.map_some, Option.map_none, Nat.reduceLT, Nat.reduceEqDiff, Nat.reduceAdd, Nat.reduceLeDiff, Nat.reduceMul, true_and, and_self, u0, u7, u9, u10, hst, Bool.not_false, cnd_t]
          have hS4 := hS3.app [.row .rw 0 [.v (.int .i64 0), .v (.int .i64 0), .v (.string ⟨#[]⟩), .v (.int .i64 0), .v (.int .i64 0), .lst .full 0 0 [], .lst .full 0 0 []]]
          have hz1 : ((((szs [] : Nat) : Int) == 0) && ((([] : List (Ev × Nat)).length : Nat) : Int) == 0) = true := rfl
          refine cs0 (used12 hS4 0 0) (Pm.Sub.refl _) (by decide) ?_
          rw [hz1]
          have hload2 : ptake true 7 (evCells last) 0 = some (encEv last) := rfl
          simp only [evCells] at hload2
          simp only [WX, WV, WO, WC, FJ, e_L, e_A, e_Z, r_append, r_cap, cap_nil, FB, FL, FX, FS, FN, Option.map_some, Option.map_none, Nat.reduceLT, Nat.reduceEqDiff, Nat.reduceAdd, Nat.reduceLeDiff, Nat.reduceMul, true_and, and_self, u0, u7, u9, u10, Bool.not_true, Bool.or_false, Bool.false_or, hload2, cnd_t, Bool.not_false]
          have hb0 : (0 : Int) ≤ pick x 3001 := p1
          refine cm (first := []) (cap := []) ((put_spool hS4 ⟨by omega, by omega⟩ ⟨by omega, by omega⟩ (by show (0 : Int) ≤ _; omega) (by show (0 : Int) ≤ _; omega) last hlp).mono ?_)
          rintro v M4 ⟨rfl, most5, ks5, hS5⟩
          refine ⟨_, M4, rfl, mle_re hS5.sub, by decide, ?_⟩
          simp only [WX, WV, WO, WC, FJ, e_L, e_A, e_Z, r_append, r_cap, cap_nil, FB, FL, FX, FS, FN, Option.map_some, Option.map_none, Nat.reduceLT, Nat.reduceEqDiff, Nat.reduceAdd, Nat.reduceLeDiff, Nat.reduceMul, true_and, and_self, u0, u7, u9, u10, hload2]
          refine cp0 (event_check last (by omega)) (by decide) ?_
          simp only [WX, WV, WO, WC, FJ, e_L, e_A, e_Z, r_append, r_cap, cap_nil, FB, FL, FX, FS, FN, Option.map_some, Option.map_none, Nat.reduceLT, Nat.reduceEqDiff, Nat.reduceAdd, Nat.reduceLeDiff, Nat.reduceMul, true_and, and_self, u0, u7, u9, u10, hload2]
          refine cg0T (fun h => by simp only [h, cnd_t]; exact event_size last hlp) (by decide) ?_
          simp only [WX, WV, WO, WC, FJ, e_L, e_A, e_Z, r_append, r_cap, cap_nil, FB, FL, FX, FS, FN, Option.map_some, Option.map_none, Nat.reduceLT, Nat.reduceEqDiff, Nat.reduceAdd, Nat.reduceLeDiff, Nat.reduceMul, true_and, and_self, u0, u7, u9, u10, hload2]
          rw [put_fits _ _ (by omega)]
          simp only [WX, WV, WO, WC, FJ, e_L, e_A, e_Z, r_append, r_cap, cap_nil, FB, FL, FX, FS, FN, Option.map_some, Option.map_none, Nat.reduceLT, Nat.reduceEqDiff, Nat.reduceAdd, Nat.reduceLeDiff, Nat.reduceMul, true_and, and_self, bool_eql, beq_self_eq_true, cnd_t]
          exact endS rfl hS5.re.sub hf
end Go.Proofs.YtmgmbdnhodicjaaDoor
end
