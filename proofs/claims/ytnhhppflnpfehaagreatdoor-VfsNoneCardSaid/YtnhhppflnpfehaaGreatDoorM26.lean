/- VfsNone: the law returns true, of all arguments of its types, in whatever memory. Part 26 of 29; no condition. -/
import Derived.Test.YtnhhppflnpfehaaGreatDoorM25
section
/- A file system that nobody made: what it answers. Of any arguments; no condition. -/
set_option linter.unusedVariables false
namespace Go.Proofs.YtnhhppflnpfehaaGreatDoor
open Go Go.Am Go.Pm
set_option linter.unusedSimpArgs false
set_option maxHeartbeats 1000000
set_option maxRecDepth 100000

theorem pt30 : ∃ y e, env.ty 30 = some y ∧ y.desc = .pointer e := by
  have h : (match env.ty 30 with | some y => (match y.desc with | .pointer _ => true | _ => false) | none => false) = true := by kernel_rfl
  cases hy : env.ty 30 with
  | none => rw [hy] at h; cases h
  | some y =>
    rw [hy] at h
    dsimp only at h
    split at h
    · rename_i e he; exact ⟨y, e, rfl, he⟩
    · cases h
theorem ptr_eql {t a i o : Nat} {c d : Bool} (h : ∃ y e, env.ty t = some y ∧ y.desc = .pointer e) : pbin env .eql t c d (.ptr a i o) (.v (.pointer none)) = some (bv false) := by
  obtain ⟨y, e, h1, h2⟩ := h
  simp only [pbin, h1, h2]
theorem nil_eql {t : Nat} {c d : Bool} (h : ∃ y e, env.ty t = some y ∧ y.desc = .pointer e) : pbin env .eql t c d (.v (.pointer none)) (.v (.pointer none)) = some (bv true) := by
  obtain ⟨y, e, h1, h2⟩ := h
  simp [pbin, eqFine, binV, aEq, h1, h2]
theorem pev_map {tm : List (Nat × PV)} : pev tm (.const (.map none)) = .v (.map none) := rfl
theorem map32 : aEq env 100 32 (.map none) (.map none) = some true := by kernel_rfl
theorem map_eql {c d : Bool} : pbin env .eql 32 c d (.v (.map none)) (.v (.map none)) = some (bv true) := by
  simp [pbin, eqFine, binV, map32]

/-- A file system that is nil, or that nobody made. -/
def noneS (M : PMem) (s : PV) : Prop := s = .v (.pointer none) ∨ ∃ a i w es x r, s = .ptr a i 0 ∧ M a i = some (.row w es (x :: .v (.map none) :: r))

theorem none_s {M0 : PMem} {s : PV} (h : noneS M0 s) : PTs env Tryz.prog M0 34 [s] (bv true) := by
  refine PTs.enter env_ok fn34 (by simp) comp34 fun M k hs hk hf => ?_
  rcases h with rfl | ⟨a, i, w, es, x, r, rfl, hM⟩
  · simp only [WX, WV, WO, WC, FJ, e_L, e_A, e_Z, r_append, r_cap, cap_nil, FB, FL, FX, FS, FN, Option.map_some, Option.map_none, Nat.reduceLT, Nat.reduceEqDiff, Nat.reduceAdd, Nat.reduceLeDiff, Nat.reduceMul, true_and, and_self, argsP, nil_eql, pt30, Bool.not_true, Bool.not_false, cnd_f, cnd_t]
    exact end1 hf rfl ⟨rfl, rfl⟩
  · have hM' := hs _ _ _ hM
    have hld : ∀ {ag : Bool} {n o : Nat} {os : List Pm.Obj}, loadP k os M ag n (.ptr a i o) = rowTake ag n o (M a i) := loadP_out (fresh_ne hf hM')
    simp only [WX, WV, WO, WC, FJ, e_L, e_A, e_Z, r_append, r_cap, cap_nil, FB, FL, FX, FS, FN, Option.map_some, Option.map_none, Nat.reduceLT, Nat.reduceEqDiff, Nat.reduceAdd, Nat.reduceLeDiff, Nat.reduceMul, true_and, and_self, argsP, ptr_eql, pt30, hld, hM', pev_map, map_eql, Bool.not_true, Bool.not_false, cnd_f, cnd_t]
    exact end1 hf rfl ⟨rfl, rfl⟩
theorem change_none {M0 : PMem} {s : PV} (h : noneS M0 s) (x y : PV) : PTs env Tryz.prog M0 17 [s, x, y] (iv 1) := by
  refine PTs.enter env_ok fn17 (by simp) comp17 fun M k hs hk hf => ?_
  simp only [WX, WV, WO, WC, FJ, e_L, e_A, e_Z, r_append, r_cap, cap_nil, FB, FL, FX, FS, FN, Option.map_some, Option.map_none, Nat.reduceLT, Nat.reduceEqDiff, Nat.reduceAdd, Nat.reduceLeDiff, Nat.reduceMul, true_and, and_self, argsP]
  refine cs0 (none_s h) (hs.sseg hf) (by decide) ?_
  simp only [WX, WV, WO, WC, FJ, e_L, e_A, e_Z, r_append, r_cap, cap_nil, FB, FL, FX, FS, FN, Option.map_some, Option.map_none, Nat.reduceLT, Nat.reduceEqDiff, Nat.reduceAdd, Nat.reduceLeDiff, Nat.reduceMul, true_and, and_self]
  exact end1 hf rfl ⟨rfl, rfl⟩
/-- A function made of a path: nothing of it is told. -/
theorem just_any (p : List UInt8) : PTp env Tryz.prog 21 [str p] .junk := PTp.of fun M => by
  refine PT.enterR env_ok fn21 (by simp) comp21 fun k hk hf => RX.of env_ok ?_
  simp only [WX, WV, WO, WC, FJ, e_L, e_A, e_Z, r_append, r_cap, cap_nil, FB, FL, FX, FS, FN, Option.map_some, Option.map_none, Nat.reduceLT, Nat.reduceEqDiff, Nat.reduceAdd, Nat.reduceLeDiff, Nat.reduceMul, true_and, and_self, argsP]
  exact end1 hf rfl ⟨PLe.junk _, rfl⟩
theorem tree_none {M0 : PMem} {s : PV} (h : noneS M0 s) : PTs env Tryz.prog M0 12 [s] (.lst .full 0 0 []) := by
  refine PTs.enter env_ok fn12 (by simp) comp12 fun M k hs hk hf => ?_
  simp only [WX, WV, WO, WC, FJ, e_L, e_A, e_Z, r_append, r_cap, cap_nil, FB, FL, FX, FS, FN, Option.map_some, Option.map_none, Nat.reduceLT, Nat.reduceEqDiff, Nat.reduceAdd, Nat.reduceLeDiff, Nat.reduceMul, true_and, and_self, argsP]
  refine cs0 (none_s h) (hs.sseg hf) (by decide) ?_
  simp only [WX, WV, WO, WC, FJ, e_L, e_A, e_Z, r_append, r_cap, cap_nil, FB, FL, FX, FS, FN, Option.map_some, Option.map_none, Nat.reduceLT, Nat.reduceEqDiff, Nat.reduceAdd, Nat.reduceLeDiff, Nat.reduceMul, true_and, and_self]
  exact end1 hf rfl ⟨rfl, rfl⟩
theorem clock_none {M0 : PMem} {s : PV} (h : noneS M0 s) : PTs env Tryz.prog M0 14 [s] (iv 0) := by
  refine PTs.enter env_ok fn14 (by simp) comp14 fun M k hs hk hf => ?_
  simp only [WX, WV, WO, WC, FJ, e_L, e_A, e_Z, r_append, r_cap, cap_nil, FB, FL, FX, FS, FN, Option.map_some, Option.map_none, Nat.reduceLT, Nat.reduceEqDiff, Nat.reduceAdd, Nat.reduceLeDiff, Nat.reduceMul, true_and, and_self, argsP]
  refine cs0 (none_s h) (hs.sseg hf) (by decide) ?_
  simp only [WX, WV, WO, WC, FJ, e_L, e_A, e_Z, r_append, r_cap, cap_nil, FB, FL, FX, FS, FN, Option.map_some, Option.map_none, Nat.reduceLT, Nat.reduceEqDiff, Nat.reduceAdd, Nat.reduceLeDiff, Nat.reduceMul, true_and, and_self]
  exact end1 hf rfl ⟨rfl, rfl⟩
theorem stamp_none {M0 : PMem} {s : PV} (h : noneS M0 s) (p : PV) : PTs env Tryz.prog M0 13 [s, p] (iv 0) := by
  refine PTs.enter env_ok fn13 (by simp) comp13 fun M k hs hk hf => ?_
  simp only [WX, WV, WO, WC, FJ, e_L, e_A, e_Z, r_append, r_cap, cap_nil, FB, FL, FX, FS, FN, Option.map_some, Option.map_none, Nat.reduceLT, Nat.reduceEqDiff, Nat.reduceAdd, Nat.reduceLeDiff, Nat.reduceMul, true_and, and_self, argsP]
  refine cs0 (none_s h) (hs.sseg hf) (by decide) ?_
  simp only [WX, WV, WO, WC, FJ, e_L, e_A, e_Z, r_append, r_cap, cap_nil, FB, FL, FX, FS, FN, Option.map_some, Option.map_none, Nat.reduceLT, Nat.reduceEqDiff, Nat.reduceAdd, Nat.reduceLeDiff, Nat.reduceMul, true_and, and_self]
  exact end1 hf rfl ⟨rfl, rfl⟩
theorem write_none {M0 : PMem} {s : PV} (h : noneS M0 s) (p : List UInt8) (m : Int) (b : List UInt8) : PTs env Tryz.prog M0 6 [s, str p, iv m, encBytes b] (iv 1) := by
  refine PTs.enter env_ok fn6 (by simp) comp6 fun M k hs hk hf => ?_
  simp only [WX, WV, WO, WC, FJ, e_L, e_A, e_Z, r_append, r_cap, cap_nil, FB, FL, FX, FS, FN, Option.map_some, Option.map_none, Nat.reduceLT, Nat.reduceEqDiff, Nat.reduceAdd, Nat.reduceLeDiff, Nat.reduceMul, true_and, and_self, argsP, encBytes]
  refine cp0 (just_any p) (by decide) ?_
  simp only [WX, WV, WO, WC, FJ, e_L, e_A, e_Z, r_append, r_cap, cap_nil, FB, FL, FX, FS, FN, Option.map_some, Option.map_none, Nat.reduceLT, Nat.reduceEqDiff, Nat.reduceAdd, Nat.reduceLeDiff, Nat.reduceMul, true_and, and_self]
  refine cs0 (change_none h _ _) (hs.sseg hf) (by decide) ?_
  simp only [WX, WV, WO, WC, FJ, e_L, e_A, e_Z, r_append, r_cap, cap_nil, FB, FL, FX, FS, FN, Option.map_some, Option.map_none, Nat.reduceLT, Nat.reduceEqDiff, Nat.reduceAdd, Nat.reduceLeDiff, Nat.reduceMul, true_and, and_self]
  exact end1 hf rfl ⟨rfl, rfl⟩
theorem mkdir_none {M0 : PMem} {s : PV} (h : noneS M0 s) (p : List UInt8) (m : Int) : PTs env Tryz.prog M0 7 [s, str p, iv m] (iv 1) := by
  refine PTs.enter env_ok fn7 (by simp) comp7 fun M k hs hk hf => ?_
  simp only [WX, WV, WO, WC, FJ, e_L, e_A, e_Z, r_append, r_cap, cap_nil, FB, FL, FX, FS, FN, Option.map_some, Option.map_none, Nat.reduceLT, Nat.reduceEqDiff, Nat.reduceAdd, Nat.reduceLeDiff, Nat.reduceMul, true_and, and_self, argsP]
  refine cp0 (just_any p) (by decide) ?_
  simp only [WX, WV, WO, WC, FJ, e_L, e_A, e_Z, r_append, r_cap, cap_nil, FB, FL, FX, FS, FN, Option.map_some, Option.map_none, Nat.reduceLT, Nat.reduceEqDiff, Nat.reduceAdd, Nat.reduceLeDiff, Nat.reduceMul, true_and, and_self]
  refine cs0 (change_none h _ _) (hs.sseg hf) (by decide) ?_
  simp only [WX, WV, WO, WC, FJ, e_L, e_A, e_Z, r_append, r_cap, cap_nil, FB, FL, FX, FS, FN, Option.map_some, Option.map_none, Nat.reduceLT, Nat.reduceEqDiff, Nat.reduceAdd, Nat.reduceLeDiff, Nat.reduceMul, true_and, and_self]
  exact end1 hf rfl ⟨rfl, rfl⟩
theorem chmod_none {M0 : PMem} {s : PV} (h : noneS M0 s) (p : List UInt8) (m : Int) : PTs env Tryz.prog M0 8 [s, str p, iv m] (iv 1) := by
  refine PTs.enter env_ok fn8 (by simp) comp8 fun M k hs hk hf => ?_
  simp only [WX, WV, WO, WC, FJ, e_L, e_A, e_Z, r_append, r_cap, cap_nil, FB, FL, FX, FS, FN, Option.map_some, Option.map_none, Nat.reduceLT, Nat.reduceEqDiff, Nat.reduceAdd, Nat.reduceLeDiff, Nat.reduceMul, true_and, and_self, argsP]
  refine cp0 (just_any p) (by decide) ?_
  simp only [WX, WV, WO, WC, FJ, e_L, e_A, e_Z, r_append, r_cap, cap_nil, FB, FL, FX, FS, FN, Option.map_some, Option.map_none, Nat.reduceLT, Nat.reduceEqDiff, Nat.reduceAdd, Nat.reduceLeDiff, Nat.reduceMul, true_and, and_self]
  refine cs0 (change_none h _ _) (hs.sseg hf) (by decide) ?_
  simp only [WX, WV, WO, WC, FJ, e_L, e_A, e_Z, r_append, r_cap, cap_nil, FB, FL, FX, FS, FN, Option.map_some, Option.map_none, Nat.reduceLT, Nat.reduceEqDiff, Nat.reduceAdd, Nat.reduceLeDiff, Nat.reduceMul, true_and, and_self]
  exact end1 hf rfl ⟨rfl, rfl⟩
theorem remove_none {M0 : PMem} {s : PV} (h : noneS M0 s) (p : List UInt8) : PTs env Tryz.prog M0 9 [s, str p] (iv 1) := by
  refine PTs.enter env_ok fn9 (by simp) comp9 fun M k hs hk hf => ?_
  simp only [WX, WV, WO, WC, FJ, e_L, e_A, e_Z, r_append, r_cap, cap_nil, FB, FL, FX, FS, FN, Option.map_some, Option.map_none, Nat.reduceLT, Nat.reduceEqDiff, Nat.reduceAdd, Nat.reduceLeDiff, Nat.reduceMul, true_and, and_self, argsP]
  refine cp0 (just_any p) (by decide) ?_
  simp only [WX, WV, WO, WC, FJ, e_L, e_A, e_Z, r_append, r_cap, cap_nil, FB, FL, FX, FS, FN, Option.map_some, Option.map_none, Nat.reduceLT, Nat.reduceEqDiff, Nat.reduceAdd, Nat.reduceLeDiff, Nat.reduceMul, true_and, and_self]
  refine cs0 (change_none h _ _) (hs.sseg hf) (by decide) ?_
  simp only [WX, WV, WO, WC, FJ, e_L, e_A, e_Z, r_append, r_cap, cap_nil, FB, FL, FX, FS, FN, Option.map_some, Option.map_none, Nat.reduceLT, Nat.reduceEqDiff, Nat.reduceAdd, Nat.reduceLeDiff, Nat.reduceMul, true_and, and_self]
  exact end1 hf rfl ⟨rfl, rfl⟩
theorem rename_none {M0 : PMem} {s : PV} (h : noneS M0 s) (p q : List UInt8) : PTs env Tryz.prog M0 10 [s, str p, str q] (iv 1) := by
  refine PTs.enter env_ok fn10 (by simp) comp10 fun M k hs hk hf => ?_
  simp only [WX, WV, WO, WC, FJ, e_L, e_A, e_Z, r_append, r_cap, cap_nil, FB, FL, FX, FS, FN, Option.map_some, Option.map_none, Nat.reduceLT, Nat.reduceEqDiff, Nat.reduceAdd, Nat.reduceLeDiff, Nat.reduceMul, true_and, and_self, argsP]
  refine cs0 (change_none h _ _) (hs.sseg hf) (by decide) ?_
  simp only [WX, WV, WO, WC, FJ, e_L, e_A, e_Z, r_append, r_cap, cap_nil, FB, FL, FX, FS, FN, Option.map_some, Option.map_none, Nat.reduceLT, Nat.reduceEqDiff, Nat.reduceAdd, Nat.reduceLeDiff, Nat.reduceMul, true_and, and_self]
  exact end1 hf rfl ⟨rfl, rfl⟩
theorem swap_none {M0 : PMem} {s : PV} (h : noneS M0 s) (p : List UInt8) (x m : Int) (b : List UInt8) (n : Int) : PTs env Tryz.prog M0 11 [s, str p, .agg [iv x, iv m, encBytes b], iv n] (iv 1) := by
  refine PTs.enter env_ok fn11 (by simp) comp11 fun M k hs hk hf => ?_
  rcases id h with rfl | ⟨a, i, w, es, y, r, rfl, hM⟩
  · simp only [WX, WV, WO, WC, FJ, e_L, e_A, e_Z, r_append, r_cap, cap_nil, FB, FL, FX, FS, FN, Option.map_some, Option.map_none, Nat.reduceLT, Nat.reduceEqDiff, Nat.reduceAdd, Nat.reduceLeDiff, Nat.reduceMul, true_and, and_self, argsP, encBytes]
    refine cq0 (just_any p) (by decide) ?_
    simp only [WX, WV, WO, WC, FJ, e_L, e_A, e_Z, r_append, r_cap, cap_nil, FB, FL, FX, FS, FN, Option.map_some, Option.map_none, Nat.reduceLT, Nat.reduceEqDiff, Nat.reduceAdd, Nat.reduceLeDiff, Nat.reduceMul, true_and, and_self]
    refine cs0 (change_none h _ _) (hs.sseg hf) (by decide) ?_
    simp only [WX, WV, WO, WC, FJ, e_L, e_A, e_Z, r_append, r_cap, cap_nil, FB, FL, FX, FS, FN, Option.map_some, Option.map_none, Nat.reduceLT, Nat.reduceEqDiff, Nat.reduceAdd, Nat.reduceLeDiff, Nat.reduceMul, true_and, and_self]
    exact end1 hf rfl ⟨rfl, rfl⟩
  · simp only [WX, WV, WO, WC, FJ, e_L, e_A, e_Z, r_append, r_cap, cap_nil, FB, FL, FX, FS, FN, Option.map_some, Option.map_none, Nat.reduceLT, Nat.reduceEqDiff, Nat.reduceAdd, Nat.reduceLeDiff, Nat.reduceMul, true_and, and_self, argsP, encBytes]
    refine cq0 (just_any p) (by decide) ?_
    simp only [WX, WV, WO, WC, FJ, e_L, e_A, e_Z, r_append, r_cap, cap_nil, FB, FL, FX, FS, FN, Option.map_some, Option.map_none, Nat.reduceLT, Nat.reduceEqDiff, Nat.reduceAdd, Nat.reduceLeDiff, Nat.reduceMul, true_and, and_self]
    refine cs0 (change_none h _ _) (hs.sseg hf) (by decide) ?_
    simp only [WX, WV, WO, WC, FJ, e_L, e_A, e_Z, r_append, r_cap, cap_nil, FB, FL, FX, FS, FN, Option.map_some, Option.map_none, Nat.reduceLT, Nat.reduceEqDiff, Nat.reduceAdd, Nat.reduceLeDiff, Nat.reduceMul, true_and, and_self]
    exact end1 hf rfl ⟨rfl, rfl⟩
end Go.Proofs.YtnhhppflnpfehaaGreatDoor
end
