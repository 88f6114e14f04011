/- SpoolRoom: what waits never takes more than the quotas. Part 40 of 46; no condition. -/
import Derived.Test.YtmgmbdnhodicjaaGreatDoorM39
set_option linter.unusedVariables false
set_option linter.unusedSimpArgs false
section
namespace Go.Proofs.YtmgmbdnhodicjaaGreatDoor
open Go Go.Am Go.Pm
set_option maxHeartbeats 1000000
set_option maxRecDepth 100000
theorem most_at {M0 M : PMem} {a : Nat} {bytes entries most : Int} {ks : List (Nat × Nat)} {l : List (Ev × Nat)} (hS : Spl M0 M a bytes entries most ks l) : PTs env Tryz.prog M 27 [.ptr a 0 0] (iv most) := by
  refine PTs.enter env_ok fn27 (by simp) comp27 fun M' k hs hk hf => ?_
  obtain ⟨p, hM, _⟩ := hS.row
  simp only [G0, Nat.reduceLT, Nat.reduceEqDiff, Nat.reduceAdd, Nat.reduceLeDiff, Nat.reduceMul, argsP]
  refine cs0 (made_s hS) (hs.sseg hf) (by decide) ?_
  simp only [G0, Nat.reduceLT, Nat.reduceEqDiff, Nat.reduceAdd, Nat.reduceLeDiff, Nat.reduceMul]
  refine cs0 (load35 hM rfl) (hs.sseg hf) (by decide) ?_
  simp only [G0, Nat.reduceLT, Nat.reduceEqDiff, Nat.reduceAdd, Nat.reduceLeDiff, Nat.reduceMul]
  exact end1 hf rfl ⟨rfl, rfl⟩
theorem loop28 (l : List Ev) (hl : l.length ≤ 1000000) (hp : ∀ x ∈ l, x.past.length ≤ 9223372036854775806) (M : PMem) (k : Nat) (Q : AExit → PSt → Prop) (q : ∀ tm, Q (.exit 0) ⟨tm, 27, k, [], M⟩) :
    ∀ d i, l.length - i = d → i ≤ l.length → RXL env Tryz.prog none c28_18 ⟨[(5, iv i), (1, encEvs l), (0, encEvs l)], 27, k, [], M⟩ Q := by
  intro d
  induction d with
  | zero =>
    intro i hd hi
    have : i = l.length := by omega
    subst this
    refine RXL.round (RX.of env_ok ?_)
    simp only [G0, Nat.reduceLT, Nat.reduceEqDiff, Nat.reduceAdd, Nat.reduceLeDiff, Nat.reduceMul, encEvs, Int.lt_irrefl, decide_false]
    exact q _
  | succ d ih =>
    intro i hd hi
    have hi' : i < l.length := by omega
    obtain ⟨x, hx, hdx⟩ := getE hi'
    have hii : (i : Int) < l.length := by omega
    have hlx := ev_load7 hx
    have hw : IntKind.i64.wrap ((i : Int) + 1) = ((i + 1 : Nat) : Int) := by rw [wrap64_id (by omega) (by omega)]; rfl
    refine RXL.round (RX.of env_ok ?_)
    simp only [G0, Nat.reduceLT, Nat.reduceEqDiff, Nat.reduceAdd, Nat.reduceLeDiff, Nat.reduceMul, encEvs, hii, decide_true, hi', hlx]
    refine cp0 (same_event x x (hp x (List.mem_of_getElem? hx))) (by decide) ?_
    rw [evEq_refl]
    simp only [G0, Nat.reduceLT, Nat.reduceEqDiff, Nat.reduceAdd, Nat.reduceLeDiff, Nat.reduceMul, hw, Bool.not_true]
    refine RXL.weak (keepE ?_) (ih (i + 1) (by omega) (by omega))
    repeat (first | exact KP.nil | apply KP.cons rfl)
theorem same_events (l : List Ev) (hl : l.length ≤ 1000000) (hp : ∀ x ∈ l, x.past.length ≤ 9223372036854775806) : PTp env Tryz.prog 28 [encEvs l, encEvs l] (bv true) := fun M => by
  refine PT.enterR env_ok fn28 (by simp) comp28 fun k hk hf => RX.of env_ok ?_
  simp only [G0, Nat.reduceLT, Nat.reduceEqDiff, Nat.reduceAdd, Nat.reduceLeDiff, Nat.reduceMul, argsP, encEvs, bne_self_eq_false]
  refine RX.loop (RXL.weak (keepE (tm' := [(5, iv (0 : Nat)), (1, encEvs l), (0, encEvs l)]) ?_) (loop28 l hl hp M k _ (fun tm => ?_) l.length 0 rfl (Nat.zero_le _)))
  · repeat (first | exact KP.nil | apply KP.cons rfl)
  · simp only [G0, Nat.reduceLT, Nat.reduceEqDiff, Nat.reduceAdd, Nat.reduceLeDiff, Nat.reduceMul]
    exact end1 hf rfl ⟨rfl, rfl⟩
def wout (d1 d2 : Int) (l : List Ev) : List Ev := l.filter fun x => !isDot d1 d2 x
def outV (k : Nat) (acc : List Ev) : PV := if acc = [] then .lst .full 0 0 [] else .lst (.id k 1) 7 acc.length (acc.flatMap evCells)
def outO (acc : List Ev) : List Pm.Obj := if acc = [] then [] else [.grow acc.length 7]
theorem isDot_b (d1 d2 : Int) (x : Ev) : (x.node == d1 && x.seq == d2) = isDot d1 d2 x := rfl
theorem loop24 (l : List Ev) (hl : l.length ≤ 1000000) (d1 d2 : Int) (M : PMem) (k : Nat) (Q : AExit → PSt → Prop) (q : ∀ tm, tget tm 5 = outV k (wout d1 d2 l) → Q (.exit 0) ⟨tm, 28, k, .row .rw 0 [iv d1, iv d2] :: outO (wout d1 d2 l), M⟩) :
    ∀ d i acc, l.length - i = d → i ≤ l.length → acc.length ≤ i → wout d1 d2 l = acc ++ wout d1 d2 (l.drop i) →
    RXL env Tryz.prog none c24_13 ⟨[(6, iv i), (5, outV k acc), (3, .ptr k 0 0), (0, encEvs l)], 28, k, .row .rw 0 [iv d1, iv d2] :: outO acc, M⟩ Q := by
  intro d
  induction d with
  | zero =>
    intro i acc hd hi ha hp
    have : i = l.length := by omega
    subst this
    rw [List.drop_length] at hp
    have hp' : wout d1 d2 l = acc := by rw [hp]; simp [wout]
    rw [hp'] at q
    refine RXL.round (RX.of env_ok ?_)
    simp only [G0, Nat.reduceLT, Nat.reduceEqDiff, Nat.reduceAdd, Nat.reduceLeDiff, Nat.reduceMul, encEvs, Int.lt_irrefl, decide_false]
    exact q _ rfl
  | succ d ih =>
    intro i acc hd hi ha hp
    have hi' : i < l.length := by omega
    obtain ⟨x, hx, hdx⟩ := getE hi'
    have hii : (i : Int) < l.length := by omega
    have hlx := ev_load7 hx
    have hl2 : ptake true 2 (l.flatMap evCells) (i * 7) = some (.agg [iv x.node, iv x.seq]) := by
      have := sub_at (f := evCells) (n := 7) (c := 0) (w := 2) (vs := [iv x.node, iv x.seq]) (fun _ => rfl) hx (by decide) rfl
      simpa using this
    have hw : IntKind.i64.wrap ((i : Int) + 1) = ((i + 1 : Nat) : Int) := by rw [wrap64_id (by omega) (by omega)]; rfl
    rw [hdx] at hp
    refine RXL.round (RX.of env_ok ?_)
    simp only [G0, Nat.reduceLT, Nat.reduceEqDiff, Nat.reduceAdd, Nat.reduceLeDiff, Nat.reduceMul, encEvs, hii, decide_true, hi', hlx, hl2, neq28, isDot_b]
    cases hx2 : isDot d1 d2 x with
    | true =>
      have hwx : wout d1 d2 (x :: l.drop (i + 1)) = wout d1 d2 (l.drop (i + 1)) := by simp [wout, hx2]
      rw [hwx] at hp
      simp only [G0, Nat.reduceLT, Nat.reduceEqDiff, Nat.reduceAdd, Nat.reduceLeDiff, Nat.reduceMul, Bool.not_true, hw]
      refine RXL.weak (keepE ?_) (ih (i + 1) acc (by omega) (by omega) (by omega) hp)
      repeat (first | exact KP.nil | apply KP.cons rfl)
    | false =>
      have hwx : wout d1 d2 (x :: l.drop (i + 1)) = x :: wout d1 d2 (l.drop (i + 1)) := by simp [wout, hx2]
      rw [hwx] at hp
      have hne : acc ++ [x] ≠ [] := by simp
      have hfill : fillA 7 [.v (.int .i64 0), .v (.int .i64 0), .v (.string ⟨#[]⟩), .v (.int .i64 0), .v (.int .i64 0), .lst .full 0 0 [], .lst .full 0 0 []] [(0, encEv x)] = some (evCells x) := rfl
      have ih' := ih (i + 1) (acc ++ [x]) (by omega) (by omega) (by simp; omega) (by rw [hp]; simp)
      unfold outV outO at ih'
      rw [if_neg hne, if_neg hne] at ih'
      have hfm : (acc ++ [x]).flatMap evCells = acc.flatMap evCells ++ evCells x := by simp
      have hle : (acc ++ [x]).length = acc.length + 1 := by simp
      rw [hfm, hle] at ih'
      simp only [G0, Nat.reduceLT, Nat.reduceEqDiff, Nat.reduceAdd, Nat.reduceLeDiff, Nat.reduceMul, Bool.not_false, hlx, hii, hi', hfill]
      refine aL ?_
      by_cases hac : acc = []
      · subst hac
        unfold outV outO
        rw [if_pos rfl, if_pos rfl, ap_full (m := 1) (n := 0) (by decide) ⟨.inl rfl, by omega, by omega, by decide, rfl, rfl⟩]
        simp only [G0, Nat.reduceLT, Nat.reduceEqDiff, Nat.reduceAdd, Nat.reduceLeDiff, Nat.reduceMul, hw]
        refine RXL.weak (keepE ?_) ih'
        repeat (first | exact KP.nil | apply KP.cons rfl)
      · unfold outV outO
        rw [if_neg hac, if_neg hac, ap_id (m := 1) (n := acc.length) (i := 1) (by decide) rfl ⟨.inr rfl, by omega, by omega, by decide, rfl, rfl⟩ rfl]
        simp only [G0, Nat.reduceLT, Nat.reduceEqDiff, Nat.reduceAdd, Nat.reduceLeDiff, Nat.reduceMul, hw, List.set_cons_succ, List.set_cons_zero]
        refine RXL.weak (keepE ?_) ih'
        repeat (first | exact KP.nil | apply KP.cons rfl)
theorem without_at (l : List Ev) (hl : l.length ≤ 1000000) (d1 d2 : Int) (M : PMem) : PT env Tryz.prog 24 [encEvs l, .agg [iv d1, iv d2]] M (fun x M1 => ∃ k, (wout d1 d2 l = [] ∧ x = .lst .full 0 0 [] ∧ M1 = M) ∨ (wout d1 d2 l ≠ [] ∧ fresh M k ∧ x = .lst (.id k 1) 7 (wout d1 d2 l).length ((wout d1 d2 l).flatMap evCells) ∧ M1 = seg M k [.row .rw 0 [iv d1, iv d2], .grow (wout d1 d2 l).length 7])) := by
  refine PT.enterR env_ok fn24 (by simp) comp24 fun k hk hf => RX.of env_ok ?_
  simp only [G0, Nat.reduceLT, Nat.reduceEqDiff, Nat.reduceAdd, Nat.reduceLeDiff, Nat.reduceMul, argsP]
  refine RX.loop (RXL.weak (keepE (tm' := [(6, iv (0 : Nat)), (5, outV k []), (3, .ptr k 0 0), (0, encEvs l)]) ?_) (loop24 l hl d1 d2 M k _ (fun tm t5 => ?_) l.length 0 [] rfl (Nat.zero_le _) (Nat.le_refl _) rfl))
  · repeat (first | exact KP.nil | apply KP.cons rfl)
  · simp only [G0, Nat.reduceLT, Nat.reduceEqDiff, Nat.reduceAdd, Nat.reduceLeDiff, Nat.reduceMul, t5]
    by_cases hw : wout d1 d2 l = []
    · rw [hw]
      exact end1 hf (v := .lst .full 0 0 []) rfl ⟨k, .inl ⟨rfl, rfl, rfl⟩⟩
    · unfold outO outV
      rw [if_neg hw, if_neg hw]
      exact endM rfl ⟨k, .inr ⟨hw, hf, rfl, rfl⟩⟩
end Go.Proofs.YtmgmbdnhodicjaaGreatDoor
end
