/- SpoolRoom: what waits never takes more than the quotas. Part 29 of 46; no condition. -/
import Derived.Test.YtmgmbdnhodicjaaGreatDoorM28
set_option linter.unusedVariables false
set_option linter.unusedSimpArgs false
section
namespace Go.Proofs.YtmgmbdnhodicjaaGreatDoor
open Go Go.Am Go.Pm
set_option maxHeartbeats 1000000
set_option maxRecDepth 100000
theorem cnew {tm : List (Nat × PV)} {nt k d : Nat} {o : Pm.Obj} {os : List Pm.Obj} {M : PMem} {κ : Kont} {R : PSt → Prop} (hd : d < nt)
    (h : ∀ a M1, Wst (seg M k (o :: os)) (seg M1 k (o :: os)) a [] → RK env Tryz.prog κ ⟨(d, .ptr a 0 0) :: tm, nt, k, o :: os, M1⟩ R) : cK env Tryz.prog (some d) κ tm nt k (o :: os) M R [] (.fn 81 [] []) :=
  cm ((new_at _).mono fun x M1 ⟨a, hx, hq⟩ => ⟨o :: os, M1, rfl, mle_re hq.sub, hd, by subst hx; exact h a M1 hq.re⟩)
theorem num_i {z : Int} (h1 : 0 ≤ z) (h2 : z < 4294967296) (a : Nat) (b : List UInt8) (hb : b.length ≤ 1000000) (M0 M : PMem) (h : Wst M0 M a b) : PT env Tryz.prog 82 [.ptr a 0 0, iv z] M (fun x M1 => Wst M0 M1 a (b ++ form z.toNat)) := by
  have := num_at z.toNat (by omega) a b hb M0 M h
  rwa [← nat_of h1] at this
theorem endB {body : Code} {nt nt' k a r1 r2 : Nat} {b : List UInt8} {v w : PV} {tm : List (Nat × PV)} {M M1 : PMem} {o : Pm.Obj} {os : List Pm.Obj} (h : Wst (seg M k (o :: os)) (seg M1 k (o :: os)) a b) (hf : fresh M k) (hv : tget tm r1 = v) (hw : tget tm r2 = w) :
    ends env ⟨nt, [.tmp r1, .tmp r2], body⟩ (fun x M2 => x = .tup [v, w] ∧ M2 = M) .ret ⟨tm, nt', k, o :: os, M1⟩ := by
  subst hv; subst hw
  refine ⟨.inr rfl, [_, _], M, rfl, fun j i o' e => ⟨o', ?_, .refl _⟩, rfl, rfl⟩
  have hj : j ≠ k := fun e' => by subst e'; rw [hf i] at e; cases e
  exact h.sub _ _ _ (by rw [seg_ne _ _ _ hj]; exact e)
def effB (x m : Int) (b : List UInt8) : List UInt8 := form x.toNat ++ form m.toNat ++ rawB b
theorem effB_len (x m : Int) (b : List UInt8) : (effB x m b).length ≤ 15 + b.length := by
  have h1 := form_len x.toNat; have h2 := form_len m.toNat; have h3 := form_len b.length
  simp only [effB, rawB, List.length_append]; omega
theorem eff_nn {x m : Int} {b : List UInt8} (h : effOk x m b = true) : 1 ≤ x ∧ x ≤ 3 ∧ 0 ≤ m ∧ m ≤ 511 ∧ b.length ≤ 1000 := by
  simp only [effOk, Bool.and_eq_true, Bool.not_eq_true', Bool.or_eq_false_iff, decide_eq_false_iff_not] at h
  obtain ⟨⟨h1, h2⟩, ⟨h3, h4⟩, h5⟩ := h
  refine ⟨by omega, by omega, by omega, ?_, ?_⟩
  · split at h4 <;> omega
  · split at h5 <;> omega
theorem effect_bytes (x m : Int) (b : List UInt8) (h : effOk x m b = true) : PTp env Tryz.prog 79 [.agg [iv x, iv m, encBytes b]] (.tup [encBytes (effB x m b), iv 0]) := fun M => by
  obtain ⟨h1, h2, h3, h4, h5⟩ := eff_nn h
  have l1 := form_len x.toNat
  have l2 := form_len m.toNat
  refine PT.enterR env_ok fn79 (by simp) comp79 fun k hk hf => RX.of env_ok ?_
  simp only [G0, Nat.reduceLT, Nat.reduceEqDiff, Nat.reduceAdd, Nat.reduceLeDiff, Nat.reduceMul, argsP]
  refine cp0 (effect_check x m b) (by decide) ?_
  rw [h]
  have he : errIf true = 0 := rfl
  simp only [G0, Nat.reduceLT, Nat.reduceEqDiff, Nat.reduceAdd, Nat.reduceLeDiff, Nat.reduceMul, he, bne_self_eq_false]
  refine cnew (by decide) fun a M1 w1 => ?_
  simp only [G0, Nat.reduceLT, Nat.reduceEqDiff, Nat.reduceAdd, Nat.reduceLeDiff, Nat.reduceMul]
  refine cw (b' := [] ++ form x.toNat) (M0 := M) (first := []) (cap := []) (num_i (by omega) (by omega) a [] (by simp) _ _ w1) (by decide) fun x1 M2 w2 => ?_
  simp only [G0, Nat.reduceLT, Nat.reduceEqDiff, Nat.reduceAdd, Nat.reduceLeDiff, Nat.reduceMul]
  refine cw (b' := ([] ++ form x.toNat) ++ form m.toNat) (M0 := M) (first := []) (cap := []) (num_i (by omega) (by omega) a _ (by simp; omega) _ _ w2) (by decide) fun x2 M3 w3 => ?_
  simp only [G0, Nat.reduceLT, Nat.reduceEqDiff, Nat.reduceAdd, Nat.reduceLeDiff, Nat.reduceMul]
  refine cw (b' := (([] ++ form x.toNat) ++ form m.toNat) ++ rawB b) (M0 := M) (first := []) (cap := []) (raw_at b a _ (by simp; omega) _ _ w3) (by decide) fun x3 M4 w4 => ?_
  simp only [G0, Nat.reduceLT, Nat.reduceEqDiff, Nat.reduceAdd, Nat.reduceLeDiff, Nat.reduceMul]
  have hl := effB_len x m b
  have e4 : (([] ++ form x.toNat) ++ form m.toNat) ++ rawB b = effB x m b := rfl
  rw [e4] at w4
  refine cs0 (out_at a _ (by omega) _ _ w4) (Pm.Sub.refl _) (by decide) ?_
  simp only [G0, Nat.reduceLT, Nat.reduceEqDiff, Nat.reduceAdd, Nat.reduceLeDiff, Nat.reduceMul]
  exact endB w4 hf rfl rfl
def evBytes (e : Ev) : List UInt8 := form e.node.toNat ++ form e.seq.toNat ++ rawB e.path ++ rawB (effB e.kind e.mode e.bytes) ++ rawB (pastB e.past)
def evSize (e : Ev) : Nat := if evOk e then (evBytes e).length else 0
theorem dot_nn {n q : Int} (h : dotOk n q = true) : 1 ≤ n ∧ n ≤ 200 ∧ 1 ≤ q ∧ q ≤ 2147483647 := by
  simp only [dotOk, Bool.not_eq_true', Bool.or_eq_false_iff, decide_eq_false_iff_not] at h
  omega
theorem ev_parts {e : Ev} (h : evOk e = true) : dotOk e.node e.seq = true ∧ effOk e.kind e.mode e.bytes = true ∧ pastOk e.past = true := by
  simp only [evOk, Bool.and_eq_true] at h
  exact ⟨h.1, h.2.2.1, h.2.2.2.1⟩
theorem evBytes_len {e : Ev} (h : evOk e = true) (hl : e.path.length ≤ 1000) : (evBytes e).length ≤ 50000 := by
  obtain ⟨h1, h2, h3⟩ := ev_parts h
  obtain ⟨_, _, _, _, hb⟩ := eff_nn h2
  simp only [pastOk, Bool.and_eq_true, decide_eq_true_eq] at h3
  have l1 := form_len e.node.toNat; have l2 := form_len e.seq.toNat; have l3 := form_len e.path.length
  have l4 := effB_len e.kind e.mode e.bytes; have l5 := form_len (effB e.kind e.mode e.bytes).length
  have l6 := past_len e.past; have l7 := form_len (pastB e.past).length
  simp only [evBytes, rawB, List.length_append]; omega
theorem event_bytes (e : Ev) (h : evOk e = true) (hl : e.path.length ≤ 1000) : PTp env Tryz.prog 39 [encEv e] (.tup [encBytes (evBytes e), iv 0]) := fun M => by
  obtain ⟨g1, g2, g3⟩ := ev_parts h
  obtain ⟨d1, d2, d3, d4⟩ := dot_nn g1
  obtain ⟨_, _, _, _, hb⟩ := eff_nn g2
  have g3' := g3
  simp only [pastOk, Bool.and_eq_true, decide_eq_true_eq] at g3'
  have l1 := form_len e.node.toNat; have l2 := form_len e.seq.toNat; have l3 := form_len e.path.length
  have l4 := effB_len e.kind e.mode e.bytes; have l5 := form_len (effB e.kind e.mode e.bytes).length
  have l6 := past_len e.past; have l7 := form_len (pastB e.past).length
  have hlen := evBytes_len h hl
  refine PT.enterR env_ok fn39 (by simp) comp39 fun k hk hf => RX.of env_ok ?_
  simp only [G0, Nat.reduceLT, Nat.reduceEqDiff, Nat.reduceAdd, Nat.reduceLeDiff, Nat.reduceMul, argsP, encEv, evCells]
  refine cp0 (event_check e (by omega)) (by decide) ?_
  rw [h]
  have he : errIf true = 0 := rfl
  simp only [G0, Nat.reduceLT, Nat.reduceEqDiff, Nat.reduceAdd, Nat.reduceLeDiff, Nat.reduceMul, he, bne_self_eq_false]
  refine cp0 (effect_bytes e.kind e.mode e.bytes g2) (by decide) ?_
  simp only [G0, Nat.reduceLT, Nat.reduceEqDiff, Nat.reduceAdd, Nat.reduceLeDiff, Nat.reduceMul]
  refine cp0 (past_bytes e.past g3) (by decide) ?_
  simp only [G0, Nat.reduceLT, Nat.reduceEqDiff, Nat.reduceAdd, Nat.reduceLeDiff, Nat.reduceMul]
  refine cnew (by decide) fun a M1 w1 => ?_
  simp only [G0, Nat.reduceLT, Nat.reduceEqDiff, Nat.reduceAdd, Nat.reduceLeDiff, Nat.reduceMul]
  refine cw (b' := [] ++ form e.node.toNat) (M0 := M) (first := []) (cap := []) (num_i (by omega) (by omega) a [] (by simp) _ _ w1) (by decide) fun x1 M2 w2 => ?_
  simp only [G0, Nat.reduceLT, Nat.reduceEqDiff, Nat.reduceAdd, Nat.reduceLeDiff, Nat.reduceMul]
  refine cw (b' := ([] ++ form e.node.toNat) ++ form e.seq.toNat) (M0 := M) (first := []) (cap := []) (num_i (by omega) (by omega) a _ (by simp; omega) _ _ w2) (by decide) fun x2 M3 w3 => ?_
  simp only [G0, Nat.reduceLT, Nat.reduceEqDiff, Nat.reduceAdd, Nat.reduceLeDiff, Nat.reduceMul]
  refine cw (b' := (([] ++ form e.node.toNat) ++ form e.seq.toNat) ++ rawB e.path) (M0 := M) (first := []) (cap := []) (text_at e.path a _ (by simp; omega) _ _ w3) (by decide) fun x3 M4 w4 => ?_
  simp only [G0, Nat.reduceLT, Nat.reduceEqDiff, Nat.reduceAdd, Nat.reduceLeDiff, Nat.reduceMul]
  refine cw (b' := ((([] ++ form e.node.toNat) ++ form e.seq.toNat) ++ rawB e.path) ++ rawB (effB e.kind e.mode e.bytes)) (M0 := M) (first := []) (cap := []) (raw_at _ a _ (by simp [rawB]; omega) _ _ w4) (by decide) fun x4 M5 w5 => ?_
  simp only [G0, Nat.reduceLT, Nat.reduceEqDiff, Nat.reduceAdd, Nat.reduceLeDiff, Nat.reduceMul]
  refine cw (b' := (((([] ++ form e.node.toNat) ++ form e.seq.toNat) ++ rawB e.path) ++ rawB (effB e.kind e.mode e.bytes)) ++ rawB (pastB e.past)) (M0 := M) (first := []) (cap := []) (raw_at _ a _ (by simp [rawB]; omega) _ _ w5) (by decide) fun x5 M6 w6 => ?_
  simp only [G0, Nat.reduceLT, Nat.reduceEqDiff, Nat.reduceAdd, Nat.reduceLeDiff, Nat.reduceMul]
  have e6 : (((([] ++ form e.node.toNat) ++ form e.seq.toNat) ++ rawB e.path) ++ rawB (effB e.kind e.mode e.bytes)) ++ rawB (pastB e.past) = evBytes e := rfl
  rw [e6] at w6
  refine cs0 (out_at a _ (by omega) _ _ w6) (Pm.Sub.refl _) (by decide) ?_
  simp only [G0, Nat.reduceLT, Nat.reduceEqDiff, Nat.reduceAdd, Nat.reduceLeDiff, Nat.reduceMul]
  exact endB w6 hf rfl rfl
theorem event_bytes_no (e : Ev) (h : evOk e = false) (hl : e.path.length ≤ 1000) : PTp env Tryz.prog 39 [encEv e] (.tup [.lst .full 0 0 [], iv 2]) := fun M => by
  refine PT.enterR env_ok fn39 (by simp) comp39 fun k hk hf => RX.of env_ok ?_
  simp only [G0, Nat.reduceLT, Nat.reduceEqDiff, Nat.reduceAdd, Nat.reduceLeDiff, Nat.reduceMul, argsP, encEv, evCells]
  refine cp0 (event_check e (by omega)) (by decide) ?_
  rw [h]
  have he : errIf false = 2 := rfl
  have hne : ((2 : Int) != 0) = true := rfl
  simp only [G0, Nat.reduceLT, Nat.reduceEqDiff, Nat.reduceAdd, Nat.reduceLeDiff, Nat.reduceMul, he, hne]
  exact end2 hf rfl rfl ⟨rfl, rfl⟩
theorem event_size (e : Ev) (hl : e.path.length ≤ 1000) : PTp env Tryz.prog 25 [encEv e] (iv (evSize e : Nat)) := fun M => by
  refine PT.enterR env_ok fn25 (by simp) comp25 fun k hk hf => RX.of env_ok ?_
  cases h : evOk e with
  | true =>
    simp only [G0, Nat.reduceLT, Nat.reduceEqDiff, Nat.reduceAdd, Nat.reduceLeDiff, Nat.reduceMul, argsP, encEv, evCells]
    refine cp0 (event_bytes e h hl) (by decide) ?_
    simp only [G0, Nat.reduceLT, Nat.reduceEqDiff, Nat.reduceAdd, Nat.reduceLeDiff, Nat.reduceMul, encBytes]
    exact end1 hf rfl ⟨by simp only [evSize, h]; rfl, rfl⟩
  | false =>
    simp only [G0, Nat.reduceLT, Nat.reduceEqDiff, Nat.reduceAdd, Nat.reduceLeDiff, Nat.reduceMul, argsP, encEv, evCells]
    refine cp0 (event_bytes_no e h hl) (by decide) ?_
    simp only [G0, Nat.reduceLT, Nat.reduceEqDiff, Nat.reduceAdd, Nat.reduceLeDiff, Nat.reduceMul]
    exact end1 hf rfl ⟨by simp only [evSize, h]; rfl, rfl⟩
end Go.Proofs.YtmgmbdnhodicjaaGreatDoor
end
