/- SpoolRoom: what waits never takes more than the quotas. Part 32 of 46; no condition. -/
import Derived.Test.YtmgmbdnhodicjaaGreatDoorM31
set_option linter.unusedVariables false
set_option linter.unusedSimpArgs false
section
namespace Go.Proofs.YtmgmbdnhodicjaaGreatDoor
open Go Go.Am Go.Pm
set_option maxHeartbeats 1000000
set_option maxRecDepth 100000
theorem ext60 : env.ext 127 = some xLoad64 := by kernel_rfl
theorem ext58 : env.ext 123 = some xAdd64 := by kernel_rfl
theorem ext80 : env.ext 157 = some xCas64 := by kernel_rfl
theorem load60 {M : PMem} {a i o es : Nat} {w : Wm} {cs : List PV} {n : Int} (hM : M a i = some (.row w es cs)) (hc : cs[o]? = some (iv n)) : PTs env Tryz.prog M 127 [.ptr a i o] (iv n) := fun M' hs =>
  PT.load64 env_ext ext60 (hs _ _ _ hM) hc ⟨rfl, rfl⟩
theorem load35 {M : PMem} {a i o es : Nat} {w : Wm} {cs : List PV} {n : Int} (hM : M a i = some (.row w es cs)) (hc : cs[o]? = some (iv n)) : PTs env Tryz.prog M 70 [.ptr a i o] (iv n) := by
  refine PTs.enter env_ok fn70 (by simp) comp70 fun M' k hs hk hf => ?_
  have ha : IntKind.i64.wrap 0 = 0 := by decide
  simp only [G0, Nat.reduceLT, Nat.reduceEqDiff, Nat.reduceAdd, Nat.reduceLeDiff, Nat.reduceMul, argsP, Nat.add_zero]
  refine cs0 (load60 hM hc) (hs.sseg hf) (by decide) ?_
  simp only [G0, Nat.reduceLT, Nat.reduceEqDiff, Nat.reduceAdd, Nat.reduceLeDiff, Nat.reduceMul]
  exact end1 hf rfl ⟨rfl, rfl⟩
theorem put_seg_out {M : PMem} {a k i : Nat} {os : List Pm.Obj} {ob : Pm.Obj} (h : a ≠ k) : putM (seg M k os) a i ob = seg (putM M a i ob) k os := put_seg_ne h
theorem add33 {M : PMem} {a i o es : Nat} {cs : List PV} {n d : Int} (hM : M a i = some (.row .rw es cs)) (hc : cs[o]? = some (iv n)) :
    PT env Tryz.prog 61 [.ptr a i o, iv d] M (fun x M1 => x = iv (IntKind.i64.wrap (n + d)) ∧ M1 = putM M a i (.row .rw es (cs.set o (iv (IntKind.i64.wrap (n + d)))))) := by
  refine PT.enterR env_ok fn61 (by simp) comp61 fun k hk hf => RX.of env_ok ?_
  have hak : a ≠ k := fun e => by subst e; rw [hf i] at hM; cases hM
  simp only [G0, Nat.reduceLT, Nat.reduceEqDiff, Nat.reduceAdd, Nat.reduceLeDiff, Nat.reduceMul, argsP, Nat.add_zero]
  refine cm (first := []) (cap := []) (PT.add64 env_ext ext58 (by rw [seg_ne _ _ _ hak]; exact hM) hc ⟨[], putM M a i (.row .rw es (cs.set o (iv (IntKind.i64.wrap (n + d))))), rfl, MLe.of_eq (put_seg_out hak), by decide, ?_⟩)
  simp only [G0, Nat.reduceLT, Nat.reduceEqDiff, Nat.reduceAdd, Nat.reduceLeDiff, Nat.reduceMul]
  exact end1 (fresh_put hf hak) rfl ⟨rfl, rfl⟩
theorem cas59 {M : PMem} {a i o es : Nat} {cs : List PV} {n to : Int} (hM : M a i = some (.row .rw es cs)) (hc : cs[o]? = some (iv n)) :
    PT env Tryz.prog 126 [.ptr a i o, iv n, iv to] M (fun x M1 => x = bv true ∧ M1 = putM M a i (.row .rw es (cs.set o (iv to)))) := by
  refine PT.enterR env_ok fn126 (by simp) comp126 fun k hk hf => RX.of env_ok ?_
  have hak : a ≠ k := fun e => by subst e; rw [hf i] at hM; cases hM
  simp only [G0, Nat.reduceLT, Nat.reduceEqDiff, Nat.reduceAdd, Nat.reduceLeDiff, Nat.reduceMul, argsP, Nat.add_zero]
  refine cm (first := []) (cap := []) (PT.cas64 env_ext ext80 (by rw [seg_ne _ _ _ hak]; exact hM) hc (fun _ => ⟨[], putM M a i (.row .rw es (cs.set o (iv to))), rfl, MLe.of_eq (put_seg_out hak), by decide, ?_⟩) (fun h => absurd rfl h))
  simp only [G0, Nat.reduceLT, Nat.reduceEqDiff, Nat.reduceAdd, Nat.reduceLeDiff, Nat.reduceMul]
  exact end1 (fresh_put hf hak) rfl ⟨rfl, rfl⟩
theorem raise34 {M : PMem} {a i o es : Nat} {cs : List PV} {n to : Int} (hM : M a i = some (.row .rw es cs)) (hc : cs[o]? = some (iv n)) :
    PT env Tryz.prog 67 [.ptr a i o, iv to] M (fun x M1 => (to ≤ n ∧ M1 = M) ∨ (n < to ∧ M1 = putM M a i (.row .rw es (cs.set o (iv to))))) := by
  refine PT.enterR env_ok fn67 (by simp) comp67 fun k hk hf => RX.of env_ok ?_
  have hak : a ≠ k := fun e => by subst e; rw [hf i] at hM; cases hM
  simp only [G0, Nat.reduceLT, Nat.reduceEqDiff, Nat.reduceAdd, Nat.reduceLeDiff, Nat.reduceMul, argsP]
  refine RX.loop (RXL.weak (keepE (tm' := [(0, .ptr a i o), (1, iv to)]) ?_) (RXL.round (RX.of env_ok ?_)))
  · repeat (first | exact KP.nil | apply KP.cons rfl)
  · simp only [G0, Nat.reduceLT, Nat.reduceEqDiff, Nat.reduceAdd, Nat.reduceLeDiff, Nat.reduceMul]
    refine cs0 (load35 hM hc) (Pm.Sub.seg hf) (by decide) ?_
    by_cases hge : n ≥ to
    · simp only [G0, Nat.reduceLT, Nat.reduceEqDiff, Nat.reduceAdd, Nat.reduceLeDiff, Nat.reduceMul, hge, decide_true, Bool.not_true, cnd_f, cnd_t]
      exact end0 hf (.inl rfl)
    · simp only [G0, Nat.reduceLT, Nat.reduceEqDiff, Nat.reduceAdd, Nat.reduceLeDiff, Nat.reduceMul, hge, decide_false, Bool.not_false, cnd_f, cnd_t]
      refine cm (first := []) (cap := []) ((cas59 (to := to) (show seg M k [] a i = some (.row .rw es cs) by rw [seg_ne _ _ _ hak]; exact hM) hc).mono ?_)
      rintro x M1 ⟨rfl, rfl⟩
      refine ⟨[], putM M a i (.row .rw es (cs.set o (iv to))), rfl, MLe.of_eq (put_seg_out hak), by decide, ?_⟩
      simp only [G0, Nat.reduceLT, Nat.reduceEqDiff, Nat.reduceAdd, Nat.reduceLeDiff, Nat.reduceMul]
      exact end0 (fresh_put hf hak) (.inr ⟨by omega, rfl⟩)
theorem spool_new (b n : Int) (hb : 0 ≤ b ∧ b ≤ 10000000) (hn : 0 ≤ n ∧ n ≤ 10000) (M : PMem) : PT env Tryz.prog 12 [iv b, iv n] M (fun x M1 => ∃ a, x = .tup [.ptr a 0 0, iv 0] ∧ Spl M M1 a b n 0 [] []) := by
  refine PT.enterR env_ok fn12 (by simp) comp12 fun k hk hf => RX.of env_ok ?_
  have h1 : ¬ (b < 0) := by omega
  have h2 : ¬ (b > 10000000) := by omega
  have h3 : ¬ (n < 0) := by omega
  have h4 : ¬ (n > 10000) := by omega
  simp only [G0, Nat.reduceLT, Nat.reduceEqDiff, Nat.reduceAdd, Nat.reduceLeDiff, Nat.reduceMul, argsP, h1, h2, h3, h4, decide_false, Bool.not_false, cnd_f, cnd_t, Bool.or_false]
  exact ⟨.inr rfl, [_, _], seg M k [.row .rw 0 (spCells b n nilP 0 0 0)], rfl, MLe.refl _, k, rfl, Pm.Sub.seg hf, hf, nilP, by rw [seg_same]; rfl, .nil⟩
theorem made_s {M0 M : PMem} {a : Nat} {bytes entries most : Int} {ks : List (Nat × Nat)} {l : List (Ev × Nat)} (hS : Spl M0 M a bytes entries most ks l) : PTs env Tryz.prog M 59 [.ptr a 0 0] (bv false) := by
  refine PTs.enter env_ok fn59 (by simp) comp59 fun M' k hs hk hf => ?_
  obtain ⟨p, hM, _⟩ := hS.row
  have hM' := hs _ _ _ hM
  have hld : ∀ {ag : Bool} {n o : Nat} {os : List Pm.Obj}, loadP k os M' ag n (.ptr a 0 o) = rowTake ag n o (M' a 0) := loadP_out (fresh_ne hf hM')
  simp only [G0, Nat.reduceLT, Nat.reduceEqDiff, Nat.reduceAdd, Nat.reduceLeDiff, Nat.reduceMul, argsP, ptr_eql, pt22, hld, hM', spCells, Bool.not_true, Bool.not_false, cnd_f, cnd_t, Bool.or_false]
  exact end1 hf rfl ⟨rfl, rfl⟩
theorem used_at {M0 M : PMem} {a : Nat} {bytes entries most : Int} {ks : List (Nat × Nat)} {l : List (Ev × Nat)} (hS : Spl M0 M a bytes entries most ks l) : PTs env Tryz.prog M 65 [.ptr a 0 0] (.tup [iv (szs l : Nat), iv (l.length : Nat)]) := by
  refine PTs.enter env_ok fn65 (by simp) comp65 fun M' k hs hk hf => ?_
  obtain ⟨p, hM, _⟩ := hS.row
  simp only [G0, Nat.reduceLT, Nat.reduceEqDiff, Nat.reduceAdd, Nat.reduceLeDiff, Nat.reduceMul, argsP]
  refine cs0 (made_s hS) (hs.sseg hf) (by decide) ?_
  simp only [G0, Nat.reduceLT, Nat.reduceEqDiff, Nat.reduceAdd, Nat.reduceLeDiff, Nat.reduceMul]
  refine cs0 (load35 hM rfl) (hs.sseg hf) (by decide) ?_
  simp only [G0, Nat.reduceLT, Nat.reduceEqDiff, Nat.reduceAdd, Nat.reduceLeDiff, Nat.reduceMul]
  refine cs0 (load35 hM rfl) (hs.sseg hf) (by decide) ?_
  simp only [G0, Nat.reduceLT, Nat.reduceEqDiff, Nat.reduceAdd, Nat.reduceLeDiff, Nat.reduceMul]
  exact end2 hf rfl rfl ⟨rfl, rfl⟩
end Go.Proofs.YtmgmbdnhodicjaaGreatDoor
end
