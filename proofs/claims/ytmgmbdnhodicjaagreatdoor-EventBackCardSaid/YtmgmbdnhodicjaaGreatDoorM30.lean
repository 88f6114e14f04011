/- EventBack. Part 30 of 30; no condition. -/
import Derived.Test.YtmgmbdnhodicjaaGreatDoorM29
import Derived.ChangeSame
import Derived.ChangeVars
import Derived.JoinedOf
import Derived.RowKit
import Derived.RowKitTokens
import Derived.LaidLaws
import Derived.HandedShaped
import Derived.SevenTiedAt
import Derived.Carry
import Derived.ChangeOld
import Derived.Test.YtmgmbdnhodicjaaGreatDoorRows
import Derived.Test.YtmgmbdnhodicjaaGreatDoorCards
import Derived.Test.YtmgmbdnhodicjaaGreatDoorTie
set_option linter.unusedVariables false
set_option linter.unusedSimpArgs false
section
namespace Go.Proofs.YtmgmbdnhodicjaaGreatDoor
open Go Go.Am Go.Pm
set_option maxHeartbeats 1000000
set_option maxRecDepth 100000
theorem cnew {tm : List (Nat × PV)} {nt k d : Nat} {o : Pm.Obj} {os : List Pm.Obj} {M : PMem} {κ : Kont} {R : PSt → Prop} (hd : d < nt)
    (h : ∀ a M1, Wst (seg M k (o :: os)) (seg M1 k (o :: os)) a [] → RK env Tryz.prog κ ⟨(d, .ptr a 0 0) :: tm, nt, k, o :: os, M1⟩ R) : cK env Tryz.prog (some d) κ tm nt k (o :: os) M R [] (.fn 81 [] []) :=
  cm ((new_at _).mono fun x M1 ⟨a, hx, hq⟩ => ⟨o :: os, M1, rfl, mle_re hq.sub, hd, by subst hx; exact h a M1 hq.re⟩)
theorem num_i {z : Int} (h1 : 0 ≤ z) (h2 : z < 4294967296) (a : Nat) (b : List UInt8) (hb : b.length ≤ 1000000) (M0 M : PMem) (h : Wst M0 M a b) : PT env Tryz.prog 82 [.ptr a 0 0, iv z] M (fun x M1 => Wst M0 M1 a (b ++ form z.toNat)) := by
  have := num_at z.toNat (by omega) a b hb M0 M h
  rwa [← nat_of h1] at this
theorem endB {body : Code} {nt nt' k a r1 r2 : Nat} {b : List UInt8} {v w : PV} {tm : List (Nat × PV)} {M M1 : PMem} {o : Pm.Obj} {os : List Pm.Obj} (h : Wst (seg M k (o :: os)) (seg M1 k (o :: os)) a b) (hf : fresh M k) (hv : tget tm r1 = v) (hw : tget tm r2 = w) :
    ends env ⟨nt, [.tmp r1, .tmp r2], body⟩ (fun x M2 => x = .tup [v, w] ∧ M2 = M) .ret ⟨tm, nt', k, o :: os, M1⟩ := by
  subst hv; subst hw
  refine ⟨.inr rfl, [_, _], M, rfl, fun j i o' e => ⟨o', ?_, .refl _⟩, rfl, rfl⟩
  have hj : j ≠ k := fun e' => by subst e'; rw [hf i] at e; cases e
  exact h.sub _ _ _ (by rw [seg_ne _ _ _ hj]; exact e)
def effB (x m : Int) (b : List UInt8) : List UInt8 := form x.toNat ++ form m.toNat ++ rawB b
theorem effB_len (x m : Int) (b : List UInt8) : (effB x m b).length ≤ 15 + b.length := by
  have h1 := form_len x.toNat; have h2 := form_len m.toNat; have h3 := form_len b.length
  simp only [effB, rawB, List.length_append]; omega
theorem eff_nn {x m : Int} {b : List UInt8} (h : effOk x m b = true) : 1 ≤ x ∧ x ≤ 3 ∧ 0 ≤ m ∧ m ≤ 511 ∧ b.length ≤ 1000 := by
  simp only [effOk, Bool.and_eq_true, Bool.not_eq_true', Bool.or_eq_false_iff, decide_eq_false_iff_not] at h
  obtain ⟨⟨h1, h2⟩, ⟨h3, h4⟩, h5⟩ := h
  refine ⟨by omega, by omega, by omega, ?_, ?_⟩
  · split at h4 <;> omega
  · split at h5 <;> omega
theorem effect_bytes (x m : Int) (b : List UInt8) (h : effOk x m b = true) : PTp env Tryz.prog 79 [.agg [iv x, iv m, encBytes b]] (.tup [encBytes (effB x m b), iv 0]) := fun M => by
  obtain ⟨h1, h2, h3, h4, h5⟩ := eff_nn h
  have l1 := form_len x.toNat
  have l2 := form_len m.toNat
  refine PT.enterR env_ok fn79 (by simp) comp79 fun k hk hf => RX.of env_ok ?_
  simp only [G0, Nat.reduceLT, Nat.reduceEqDiff, Nat.reduceAdd, Nat.reduceLeDiff, Nat.reduceMul, argsP]
  refine cp0 (effect_check x m b) (by decide) ?_
  rw [h]
  have he : errIf true = 0 := rfl
  simp only [G0, Nat.reduceLT, Nat.reduceEqDiff, Nat.reduceAdd, Nat.reduceLeDiff, Nat.reduceMul, he, bne_self_eq_false]
  refine cnew (by decide) fun a M1 w1 => ?_
  simp only [G0, Nat.reduceLT, Nat.reduceEqDiff, Nat.reduceAdd, Nat.reduceLeDiff, Nat.reduceMul]
  refine cw (b' := [] ++ form x.toNat) (M0 := M) (first := []) (cap := []) (num_i (by omega) (by omega) a [] (by simp) _ _ w1) (by decide) fun x1 M2 w2 => ?_
  simp only [G0, Nat.reduceLT, Nat.reduceEqDiff, Nat.reduceAdd, Nat.reduceLeDiff, Nat.reduceMul]
  refine cw (b' := ([] ++ form x.toNat) ++ form m.toNat) (M0 := M) (first := []) (cap := []) (num_i (by omega) (by omega) a _ (by simp; omega) _ _ w2) (by decide) fun x2 M3 w3 => ?_
  simp only [G0, Nat.reduceLT, Nat.reduceEqDiff, Nat.reduceAdd, Nat.reduceLeDiff, Nat.reduceMul]
  refine cw (b' := (([] ++ form x.toNat) ++ form m.toNat) ++ rawB b) (M0 := M) (first := []) (cap := []) (raw_at b a _ (by simp; omega) _ _ w3) (by decide) fun x3 M4 w4 => ?_
  simp only [G0, Nat.reduceLT, Nat.reduceEqDiff, Nat.reduceAdd, Nat.reduceLeDiff, Nat.reduceMul]
  have hl := effB_len x m b
  have e4 : (([] ++ form x.toNat) ++ form m.toNat) ++ rawB b = effB x m b := rfl
  rw [e4] at w4
  refine cs0 (out_at a _ (by omega) _ _ w4) (Pm.Sub.refl _) (by decide) ?_
  simp only [G0, Nat.reduceLT, Nat.reduceEqDiff, Nat.reduceAdd, Nat.reduceLeDiff, Nat.reduceMul]
  exact endB w4 hf rfl rfl
def evBytes (e : Ev) : List UInt8 := form e.node.toNat ++ form e.seq.toNat ++ rawB e.path ++ rawB (effB e.kind e.mode e.bytes) ++ rawB (pastB e.past)
def evSize (e : Ev) : Nat := if evOk e then (evBytes e).length else 0
theorem dot_nn {n q : Int} (h : dotOk n q = true) : 1 ≤ n ∧ n ≤ 200 ∧ 1 ≤ q ∧ q ≤ 2147483647 := by
  simp only [dotOk, Bool.not_eq_true', Bool.or_eq_false_iff, decide_eq_false_iff_not] at h
  omega
theorem ev_parts {e : Ev} (h : evOk e = true) : dotOk e.node e.seq = true ∧ effOk e.kind e.mode e.bytes = true ∧ pastOk e.past = true := by
  simp only [evOk, Bool.and_eq_true] at h
  exact ⟨h.1, h.2.2.1, h.2.2.2.1⟩
theorem evBytes_len {e : Ev} (h : evOk e = true) (hl : e.path.length ≤ 1000) : (evBytes e).length ≤ 50000 := by
  obtain ⟨h1, h2, h3⟩ := ev_parts h
  obtain ⟨_, _, _, _, hb⟩ := eff_nn h2
  simp only [pastOk, Bool.and_eq_true, decide_eq_true_eq] at h3
  have l1 := form_len e.node.toNat; have l2 := form_len e.seq.toNat; have l3 := form_len e.path.length
  have l4 := effB_len e.kind e.mode e.bytes; have l5 := form_len (effB e.kind e.mode e.bytes).length
  have l6 := past_len e.past; have l7 := form_len (pastB e.past).length
  simp only [evBytes, rawB, List.length_append]; omega
theorem event_bytes (e : Ev) (h : evOk e = true) (hl : e.path.length ≤ 1000) : PTp env Tryz.prog 39 [encEv e] (.tup [encBytes (evBytes e), iv 0]) := fun M => by
  obtain ⟨g1, g2, g3⟩ := ev_parts h
  obtain ⟨d1, d2, d3, d4⟩ := dot_nn g1
  obtain ⟨_, _, _, _, hb⟩ := eff_nn g2
  have g3' := g3
  simp only [pastOk, Bool.and_eq_true, decide_eq_true_eq] at g3'
  have l1 := form_len e.node.toNat; have l2 := form_len e.seq.toNat; have l3 := form_len e.path.length
  have l4 := effB_len e.kind e.mode e.bytes; have l5 := form_len (effB e.kind e.mode e.bytes).length
  have l6 := past_len e.past; have l7 := form_len (pastB e.past).length
  have hlen := evBytes_len h hl
  refine PT.enterR env_ok fn39 (by simp) comp39 fun k hk hf => RX.of env_ok ?_
  simp only [G0, Nat.reduceLT, Nat.reduceEqDiff, Nat.reduceAdd, Nat.reduceLeDiff, Nat.reduceMul, argsP, encEv, evCells]
  refine cp0 (event_check e (by omega)) (by decide) ?_
  rw [h]
  have he : errIf true = 0 := rfl
  simp only [G0, Nat.reduceLT, Nat.reduceEqDiff, Nat.reduceAdd, Nat.reduceLeDiff, Nat.reduceMul, he, bne_self_eq_false]
  refine cp0 (effect_bytes e.kind e.mode e.bytes g2) (by decide) ?_
  simp only [G0, Nat.reduceLT, Nat.reduceEqDiff, Nat.reduceAdd, Nat.reduceLeDiff, Nat.reduceMul]
  refine cp0 (past_bytes e.past g3) (by decide) ?_
  simp only [G0, Nat.reduceLT, Nat.reduceEqDiff, Nat.reduceAdd, Nat.reduceLeDiff, Nat.reduceMul]
  refine cnew (by decide) fun a M1 w1 => ?_
  simp only [G0, Nat.reduceLT, Nat.reduceEqDiff, Nat.reduceAdd, Nat.reduceLeDiff, Nat.reduceMul]
  refine cw (b' := [] ++ form e.node.toNat) (M0 := M) (first := []) (cap := []) (num_i (by omega) (by omega) a [] (by simp) _ _ w1) (by decide) fun x1 M2 w2 => ?_
  simp only [G0, Nat.reduceLT, Nat.reduceEqDiff, Nat.reduceAdd, Nat.reduceLeDiff, Nat.reduceMul]
  refine cw (b' := ([] ++ form e.node.toNat) ++ form e.seq.toNat) (M0 := M) (first := []) (cap := []) (num_i (by omega) (by omega) a _ (by simp; omega) _ _ w2) (by decide) fun x2 M3 w3 => ?_
  simp only [G0, Nat.reduceLT, Nat.reduceEqDiff, Nat.reduceAdd, Nat.reduceLeDiff, Nat.reduceMul]
  refine cw (b' := (([] ++ form e.node.toNat) ++ form e.seq.toNat) ++ rawB e.path) (M0 := M) (first := []) (cap := []) (text_at e.path a _ (by simp; omega) _ _ w3) (by decide) fun x3 M4 w4 => ?_
  simp only [G0, Nat.reduceLT, Nat.reduceEqDiff, Nat.reduceAdd, Nat.reduceLeDiff, Nat.reduceMul]
  refine cw (b' := ((([] ++ form e.node.toNat) ++ form e.seq.toNat) ++ rawB e.path) ++ rawB (effB e.kind e.mode e.bytes)) (M0 := M) (first := []) (cap := []) (raw_at _ a _ (by simp [rawB]; omega) _ _ w4) (by decide) fun x4 M5 w5 => ?_
  simp only [G0, Nat.reduceLT, Nat.reduceEqDiff, Nat.reduceAdd, Nat.reduceLeDiff, Nat.reduceMul]
  refine cw (b' := (((([] ++ form e.node.toNat) ++ form e.seq.toNat) ++ rawB e.path) ++ rawB (effB e.kind e.mode e.bytes)) ++ rawB (pastB e.past)) (M0 := M) (first := []) (cap := []) (raw_at _ a _ (by simp [rawB]; omega) _ _ w5) (by decide) fun x5 M6 w6 => ?_
  simp only [G0, Nat.reduceLT, Nat.reduceEqDiff, Nat.reduceAdd, Nat.reduceLeDiff, Nat.reduceMul]
  have e6 : (((([] ++ form e.node.toNat) ++ form e.seq.toNat) ++ rawB e.path) ++ rawB (effB e.kind e.mode e.bytes)) ++ rawB (pastB e.past) = evBytes e := rfl
  rw [e6] at w6
  refine cs0 (out_at a _ (by omega) _ _ w6) (Pm.Sub.refl _) (by decide) ?_
  simp only [G0, Nat.reduceLT, Nat.reduceEqDiff, Nat.reduceAdd, Nat.reduceLeDiff, Nat.reduceMul]
  exact endB w6 hf rfl rfl
theorem event_bytes_no (e : Ev) (h : evOk e = false) (hl : e.path.length ≤ 1000) : PTp env Tryz.prog 39 [encEv e] (.tup [.lst .full 0 0 [], iv 2]) := fun M => by
  refine PT.enterR env_ok fn39 (by simp) comp39 fun k hk hf => RX.of env_ok ?_
  simp only [G0, Nat.reduceLT, Nat.reduceEqDiff, Nat.reduceAdd, Nat.reduceLeDiff, Nat.reduceMul, argsP, encEv, evCells]
  refine cp0 (event_check e (by omega)) (by decide) ?_
  rw [h]
  have he : errIf false = 2 := rfl
  have hne : ((2 : Int) != 0) = true := rfl
  simp only [G0, Nat.reduceLT, Nat.reduceEqDiff, Nat.reduceAdd, Nat.reduceLeDiff, Nat.reduceMul, he, hne]
  exact end2 hf rfl rfl ⟨rfl, rfl⟩
theorem event_size (e : Ev) (hl : e.path.length ≤ 1000) : PTp env Tryz.prog 25 [encEv e] (iv (evSize e : Nat)) := fun M => by
  refine PT.enterR env_ok fn25 (by simp) comp25 fun k hk hf => RX.of env_ok ?_
  cases h : evOk e with
  | true =>
    simp only [G0, Nat.reduceLT, Nat.reduceEqDiff, Nat.reduceAdd, Nat.reduceLeDiff, Nat.reduceMul, argsP, encEv, evCells]
    refine cp0 (event_bytes e h hl) (by decide) ?_
    simp only [G0, Nat.reduceLT, Nat.reduceEqDiff, Nat.reduceAdd, Nat.reduceLeDiff, Nat.reduceMul, encBytes]
    exact end1 hf rfl ⟨by simp only [evSize, h]; rfl, rfl⟩
  | false =>
    simp only [G0, Nat.reduceLT, Nat.reduceEqDiff, Nat.reduceAdd, Nat.reduceLeDiff, Nat.reduceMul, argsP, encEv, evCells]
    refine cp0 (event_bytes_no e h hl) (by decide) ?_
    simp only [G0, Nat.reduceLT, Nat.reduceEqDiff, Nat.reduceAdd, Nat.reduceLeDiff, Nat.reduceMul]
    exact end1 hf rfl ⟨by simp only [evSize, h]; rfl, rfl⟩
end Go.Proofs.YtmgmbdnhodicjaaGreatDoor
end

section
namespace Go.Proofs.YtmgmbdnhodicjaaGreatDoor
open Go Go.Am Go.Pm
set_option maxHeartbeats 4000000
set_option maxRecDepth 100000
section
variable {M : PMem} {kr k : Nat} {os : List Pm.Obj} {o o' : Pm.Obj}
theorem at_r (h : kr ≠ k) : seg (seg M kr [o]) k os kr 0 = some o := by rw [seg_ne _ _ _ h, seg_same]; rfl
theorem put_r (h : kr ≠ k) : putM (seg (seg M kr [o]) k os) kr 0 o' = seg (seg M kr [o']) k os := by
  rw [put_seg_ne h]
  congr 1
  funext a j
  unfold putM
  by_cases ha : a = kr ∧ j = 0
  · rw [if_pos ha, ha.1, ha.2, seg_same]; rfl
  · rw [if_neg ha]
    by_cases hk : a = kr
    · subst hk
      rw [seg_same, seg_same]
      cases j with
      | zero => exact absurd ⟨rfl, rfl⟩ ha
      | succ j => rfl
    · rw [seg_ne _ _ _ hk, seg_ne _ _ _ hk]
theorem swap_r (h : kr ≠ k) : seg (seg M k os) kr [o] = seg (seg M kr [o]) k os := by
  funext a j
  by_cases ha : a = kr
  · subst ha; rw [seg_same, seg_ne _ _ _ h, seg_same]
  · rw [seg_ne _ _ _ ha]
    by_cases hk : a = k
    · subst hk; rw [seg_same, seg_same]
    · rw [seg_ne _ _ _ hk, seg_ne _ _ _ hk, seg_ne _ _ _ ha]
theorem mle_r (hk : fresh M k) (hr : fresh M kr) {l : List Pm.Obj} : MLe (seg (seg M kr l) k os) M := fun a i x e => by
  have h1 : a ≠ k := fun e' => by subst e'; rw [hk i] at e; cases e
  have h2 : a ≠ kr := fun e' => by subst e'; rw [hr i] at e; cases e
  exact ⟨x, by rw [seg_ne _ _ _ h1, seg_ne _ _ _ h2]; exact e, .refl _⟩
end
theorem endcc {Q : PV → PMem → Prop} {body : Code} {M M1 : PMem} {os : List Pm.Obj} {tm : List (Nat × PV)} {k nt nt' a b t u n m : Nat} {ag ah : Bool} {v w : PV} (ht : tyP env t = some (ag, n)) (hu : tyP env u = some (ah, m)) (hv : loadP k os M ag n (tget tm a) = some v) (hw : loadP k os M ah m (tget tm b) = some w) (hm : MLe (seg M k os) M1) (h : Q (.tup [v, w]) M1) :
    ends env ⟨nt, [.cell a t, .cell b u], body⟩ Q .ret ⟨tm, nt', k, os, M⟩ :=
  ⟨.inr rfl, [v, w], M1, by simp only [presults, presult, pload_P ht, pload_P hu, hv, hw], hm, h⟩
structure Eff where
  kind : Int
  mode : Int
  bytes : List UInt8
def effCells (e : Eff) : List PV := [iv e.kind, iv e.mode, encBytes e.bytes]
def effRaw (b : List UInt8) : Eff × RS :=
  let s1 := numS b ⟨0, 0, 0⟩ 1 3
  let s2 := numS b s1.2 0 511
  let s3 := rawS b s2.2 1000
  (⟨s1.1, s2.1, s3.1⟩, s3.2)
def effErr (b : List UInt8) : Int := if (endF b (effRaw b).2).1 = 0 then errIf (effOk (effRaw b).1.kind (effRaw b).1.mode (effRaw b).1.bytes) else (endF b (effRaw b).2).1
def effT (b : List UInt8) : Eff × (Int × Nat) := if effErr b = 0 then ((effRaw b).1, (0, (endF b (effRaw b).2).2)) else (⟨0, 0, []⟩, (effErr b, (endF b (effRaw b).2).2))
theorem tp36 : tyP env 36 = some (true, 3) := by kernel_rfl
theorem tp70 : tyP env 70 = some (true, 2) := by kernel_rfl
theorem ptp_le {f : Nat} {args : List PV} {v : PV} (h : ∀ M, PT env Tryz.prog f args M (fun x M1 => PLe x v ∧ M1 = M)) : PTp env Tryz.prog f args v := fun M =>
  PT.conseq (h M) fun x M1 ⟨e1, e2⟩ => ⟨_, M1, e1, .refl _, rfl, e2⟩
theorem effect_read (b : List UInt8) (hb : b.length ≤ 1000000) : PTp env Tryz.prog 114 [encBytes b] (.tup [.agg (effCells (effT b).1), .agg [iv (effT b).2.1, iv ((effT b).2.2 : Nat)]]) := ptp_le fun M => by
  refine PT.enterR env_ok fn114 (by simp) comp114 fun k hk hf => RX.of env_ok ?_
  have hs0 : rsOk b ⟨0, 0, 0⟩ := ⟨Nat.zero_le _, fun _ => rfl⟩
  have hs1 := numS_ok hs0 1 3
  have hs2 := numS_ok hs1 0 511
  have hs3 := rawS_ok hs2 1000
  have hE : effRaw b = (⟨(numS b ⟨0, 0, 0⟩ 1 3).1, (numS b (numS b ⟨0, 0, 0⟩ 1 3).2 0 511).1, (rawS b (numS b (numS b ⟨0, 0, 0⟩ 1 3).2 0 511).2 1000).1⟩, (rawS b (numS b (numS b ⟨0, 0, 0⟩ 1 3).2 0 511).2 1000).2) := rfl
  simp only [G0, Nat.reduceLT, Nat.reduceEqDiff, Nat.reduceAdd, Nat.reduceLeDiff, Nat.reduceMul, argsP]
  refine cmk (first := []) (cap := []) ((open_at b hb _).mono ?_)
  rintro nk x M1 ⟨kr, h1, h2, rfl, rfl⟩ hlt
  have hkr : kr ≠ k := by omega
  have hfr : fresh M kr := fun i => by have := h2 i; rw [seg_ne _ _ _ hkr] at this; exact this
  refine ⟨_, seg M kr [rsRow b ⟨0, 0, 0⟩], rfl, MLe.of_eq (swap_r hkr), by decide, ?_⟩
  simp only [G0, Nat.reduceLT, Nat.reduceEqDiff, Nat.reduceAdd, Nat.reduceLeDiff, Nat.reduceMul]
  refine cm (first := []) (cap := []) ((numS_at hb (at_r hkr) hs0 1 3).mono ?_)
  rintro x M1 ⟨rfl, rfl⟩
  refine ⟨_, seg M kr [rsRow b (numS b ⟨0, 0, 0⟩ 1 3).2], rfl, MLe.of_eq (put_r hkr), by decide, ?_⟩
  generalize numS b ⟨0, 0, 0⟩ 1 3 = S1 at *
  simp only [G0, Nat.reduceLT, Nat.reduceEqDiff, Nat.reduceAdd, Nat.reduceLeDiff, Nat.reduceMul]
  refine cm (first := []) (cap := []) ((numS_at hb (at_r hkr) hs1 0 511).mono ?_)
  rintro x M1 ⟨rfl, rfl⟩
  refine ⟨_, seg M kr [rsRow b (numS b S1.2 0 511).2], rfl, MLe.of_eq (put_r hkr), by decide, ?_⟩
  generalize numS b S1.2 0 511 = S2 at *
  simp only [G0, Nat.reduceLT, Nat.reduceEqDiff, Nat.reduceAdd, Nat.reduceLeDiff, Nat.reduceMul]
  refine cm (first := []) (cap := []) ((rawS_at hb (at_r hkr) hs2 1000).mono ?_)
  rintro x M1 ⟨rfl, rfl⟩
  refine ⟨_, seg M kr [rsRow b (rawS b S2.2 1000).2], rfl, MLe.of_eq (put_r hkr), by decide, ?_⟩
  generalize rawS b S2.2 1000 = S3 at *
  simp only [G0, Nat.reduceLT, Nat.reduceEqDiff, Nat.reduceAdd, Nat.reduceLeDiff, Nat.reduceMul, enc_cells]
  refine cs0 (end_at (M0 := seg (seg M kr [rsRow b S3.2]) k _) (at_r hkr)) (Pm.Sub.refl _) (by decide) ?_
  have hst2 : ∀ {x y : Int}, storeO 2 0 (.agg [iv x, iv y]) (some (.row .rw 0 [iv 0, iv 0])) = some (.row .rw 0 [iv x, iv y]) := fun {x y} => storeO_eq (n := 2) ⟨rfl, Nat.le_refl 2, rfl⟩
  have eff2 : (effRaw b).2 = S3.2 := by rw [hE]
  have eff1 : (effRaw b).1 = ⟨S1.1, S2.1, S3.1⟩ := by rw [hE]
  have hld1 : ∀ {x y : Int}, ptake true 2 [iv x, iv y] 0 = some (.agg [iv x, iv y]) := fun {x y} => rfl
  have hstE : storeO 3 0 (.agg [iv S1.1, iv S2.1, encBytes S3.1]) (some (.row .rw 0 [iv 0, iv 0, .lst .full 0 0 []])) = some (.row .rw 0 [iv S1.1, iv S2.1, encBytes S3.1]) := storeO_eq (n := 3) ⟨rfl, Nat.le_refl 3, rfl⟩
  have hstZ : storeO 3 0 (.agg [iv 0, iv 0, .lst .full 0 0 []]) (some (.row .rw 0 [iv 0, iv 0, .lst .full 0 0 []])) = some (.row .rw 0 [iv 0, iv 0, .lst .full 0 0 []]) := storeO_eq (n := 3) ⟨rfl, Nat.le_refl 3, rfl⟩
  have hL : ∀ v ∈ [PV.ptr k 3 0], ∃ k2 i2 o2, v = .ptr k2 i2 o2 ∧ ¬ (k2 = k ∧ i2 = 0) := fun v hv => ⟨k, 3, 0, List.mem_singleton.1 hv, fun h => by cases h.2⟩
  have e0 : ((0 : Int) != 0) = false := by decide
  have e2 : ((2 : Int) != 0) = true := by decide
  have zle : PLe (.agg [iv 0, iv 0, .lst .full 0 0 []]) (.agg (effCells ⟨0, 0, []⟩)) := PLe.agg (.cons (.refl _) (.cons (.refl _) (.cons nilB .nil)))
  have tle : ∀ {x y : PV} {z : PV}, PLe x y → PLe (.tup [x, z]) (.tup [y, z]) := fun h => PLe.tup (.cons h (.cons (.refl _) .nil))
  by_cases hend : (endF b S3.2).1 = 0
  · have hErr : effErr b = errIf (effOk S1.1 S2.1 S3.1) := by unfold effErr; rw [eff2, if_pos hend, eff1]
    have hb0 : ((endF b S3.2).1 == 0) = true := by simp [hend]
    simp only [G0, Nat.reduceLT, Nat.reduceEqDiff, Nat.reduceAdd, Nat.reduceLeDiff, Nat.reduceMul, hst2, hb0]
    refine cp0 (effect_check S1.1 S2.1 S3.1) (by decide) ?_
    have hst1 : ∀ {x y z : Int}, storeO 1 0 (iv z) (some (.row .rw 0 [iv x, iv y])) = some (.row .rw 0 [iv z, iv y]) := fun {x y z} => storeO_eq (n := 1) (cs := [iv x, iv y]) (x := iv z) ⟨rfl, by show 0 + 1 ≤ 2; decide, rfl⟩
    cases hok : effOk S1.1 S2.1 S3.1 with
    | true =>
      have hT : effT b = (⟨S1.1, S2.1, S3.1⟩, (0, (endF b S3.2).2)) := by unfold effT; rw [hErr, hok, if_pos (show errIf true = 0 from rfl), eff1, eff2]
      rw [hT]
      simp only [G0, Nat.reduceLT, Nat.reduceEqDiff, Nat.reduceAdd, Nat.reduceLeDiff, Nat.reduceMul, err_neq, hst1]
      refine ⟨k, 0, 0, 0, _, rfl, (by show seg _ k _ k 0 = _; rw [seg_same]; rfl), hL, _, sto_f rfl rfl hstE, ?_⟩
      simp only [G0, Nat.reduceLT, Nat.reduceEqDiff, Nat.reduceAdd, Nat.reduceLeDiff, Nat.reduceMul, hst2]
      refine endcc tp36 tp70 (loadP_own.trans rfl) (loadP_own.trans rfl) (mle_r hf hfr) ⟨.refl _, rfl⟩
    | false =>
      have hT : effT b = (⟨0, 0, []⟩, (2, (endF b S3.2).2)) := by unfold effT; rw [hErr, hok, if_neg (show ¬ errIf false = 0 by decide), eff2]; rfl
      rw [hT]
      simp only [G0, Nat.reduceLT, Nat.reduceEqDiff, Nat.reduceAdd, Nat.reduceLeDiff, Nat.reduceMul, err_neq, hst1]
      refine ⟨k, 0, 0, 0, _, rfl, (by show seg _ k _ k 0 = _; rw [seg_same]; rfl), hL, _, sto_f rfl rfl hstZ, ?_⟩
      simp only [G0, Nat.reduceLT, Nat.reduceEqDiff, Nat.reduceAdd, Nat.reduceLeDiff, Nat.reduceMul, hst2]
      refine endcc tp36 tp70 (loadP_own.trans rfl) (loadP_own.trans rfl) (mle_r hf hfr) ⟨tle zle, rfl⟩
  · have hErr : effErr b = (endF b S3.2).1 := by unfold effErr; rw [eff2, if_neg hend]
    have hT : effT b = (⟨0, 0, []⟩, ((endF b S3.2).1, (endF b S3.2).2)) := by unfold effT; rw [hErr, if_neg hend, eff2]
    rw [hT]
    have hb0 : ((endF b S3.2).1 == 0) = false := by simp [hend]
    have hb1 : ((endF b S3.2).1 != 0) = true := by simp [hend]
    simp only [G0, Nat.reduceLT, Nat.reduceEqDiff, Nat.reduceAdd, Nat.reduceLeDiff, Nat.reduceMul, hst2, hb0, hb1]
    refine ⟨k, 0, 0, 0, _, rfl, (by show seg _ k _ k 0 = _; rw [seg_same]; rfl), hL, _, sto_f rfl rfl hstZ, ?_⟩
    simp only [G0, Nat.reduceLT, Nat.reduceEqDiff, Nat.reduceAdd, Nat.reduceLeDiff, Nat.reduceMul, hst2]
    refine endcc tp36 tp70 (loadP_own.trans rfl) (loadP_own.trans rfl) (mle_r hf hfr) ⟨tle zle, rfl⟩
end Go.Proofs.YtmgmbdnhodicjaaGreatDoor
end

section
namespace Go.Proofs.YtmgmbdnhodicjaaGreatDoor
open Go Go.Am Go.Pm
set_option maxHeartbeats 2000000
set_option maxRecDepth 100000
def bxC (b : List UInt8) : List Pm.Obj := [.row .rw 0 [encBytes b], .row .rw 0 [iv 9]]
def mmC (M : PMem) (kb k : Nat) (b : List UInt8) (os : List Pm.Obj) : PMem := seg (seg M kb (bxC b)) k os
theorem chunk154 (b : List UInt8) (M : PMem) : PTk env Tryz.prog 154 [encBytes b, iv 9] M (fun nk x M1 => ∃ kb, nk ≤ kb ∧ fresh M kb ∧ x = .fn 172 [] [.ptr kb 0 0, .ptr kb 1 0] ∧ M1 = seg M kb (bxC b)) := by
  refine PTk.enterR env_ok fn154 (by simp) comp154 fun k hk hf => RX.of env_ok ?_
  have h1 : ¬ ((9 : Int) < 1) := by decide
  simp only [G0, Nat.reduceLT, Nat.reduceEqDiff, Nat.reduceAdd, Nat.reduceLeDiff, Nat.reduceMul, argsP, encBytes, h1, decide_false]
  exact endM rfl ⟨k, Nat.le_refl _, hf, rfl, rfl⟩
def pieceC (b : List UInt8) (j : Nat) : List UInt8 := (b.drop (9 * j)).take 9
theorem loop172 {σ : Type} {M : PMem} {kb k i k2 many : Nat} {b : List UInt8} (hb : b.length = 9 * many) (hb2 : b.length ≤ 1000000) (hne : kb ≠ k) (h2k : k2 ≠ k) (h2b : k2 ≠ kb) (hf : fresh M k2) (os : Nat → List Pm.Obj)
    (hr : ∀ j, j < many → PRd env Tryz.prog k i [.lst .full 1 9 ((pieceC b j).map encB)] (mmC M kb k b (os j)) (fun x M1 => x = bv true ∧ M1 = mmC M kb k b (os (j + 1)))) (Q : AExit → PSt → Prop)
    (q : ∀ tm, Q (.exit 0) ⟨tm, 31, k2, [], mmC M kb k b (os many)⟩) :
    ∀ d j tm, many - j = d → j ≤ many → tget tm 0 = .yld k i → tget tm 1 = .ptr kb 0 0 → tget tm 2 = .ptr kb 1 0 → tget tm 4 = iv ((9 * j : Nat) : Int) → RXL env Tryz.prog none c172_12 ⟨tm, 31, k2, [], mmC M kb k b (os j)⟩ Q := by
  have hld : ∀ {ag : Bool} {n o j : Nat} {os' os : List Pm.Obj}, loadP k2 os' (mmC M kb k b os) ag n (.ptr kb j o) = rowTake ag n o (bxC b)[j]? := fun {ag n o j os' os} => by
    rw [loadP_out (Ne.symm h2b)]; unfold mmC; rw [seg_ne _ _ _ hne, seg_same]
  intro d
  induction d with
  | zero =>
    intro j tm hd hj t0 t1 t2 t4
    have : j = many := by omega
    subst this
    have hlt : ¬ (((9 * j : Nat) : Int) < (b.length : Nat)) := by omega
    refine RXL.round (RX.of env_ok ?_)
    simp only [G0, Nat.reduceLT, Nat.reduceEqDiff, Nat.reduceAdd, Nat.reduceLeDiff, Nat.reduceMul, t1, t4, hld, bxC, encBytes, hlt, decide_false]
    exact q _
  | succ d ih =>
    intro j tm hd hj t0 t1 t2 t4
    have hj' : j < many := by omega
    have hlt : ((9 * j : Nat) : Int) < (b.length : Nat) := by omega
    have hfr : fresh (mmC M kb k b (os j)) k2 := fun x => by
      unfold mmC; rw [seg_ne _ _ _ h2k, seg_ne _ _ _ h2b]; exact hf x
    have h1 : pnat? (iv ((9 * j : Nat) : Int)) = some (9 * j) := pnat_int
    have h2 : pnat? (iv ((9 * j + 9 : Nat) : Int)) = some (9 * j + 9) := pnat_int
    have hs1 : sliceL 1 (.lst .no 1 b.length (b.map encB)) (some (iv ((9 * j : Nat) : Int))) none none = some (.lst .no 1 (b.length - 9 * j) (((b.map encB).drop (9 * j)).take (b.length - 9 * j))) := by
      unfold sliceL
      simp only [if_true, h1]
      rw [if_pos ⟨by omega, Nat.le_refl _⟩, Nat.mul_one, Nat.mul_one]
    have hs2 : sliceL 1 (.lst .no 1 b.length (b.map encB)) (some (iv ((9 * j : Nat) : Int))) (some (iv ((9 * j + 9 : Nat) : Int))) (some (iv ((9 * j + 9 : Nat) : Int))) = some (.lst .full 1 9 ((pieceC b j).map encB)) := by
      unfold sliceL
      simp only [if_true, h1, h2]
      rw [if_pos (by refine ⟨by omega, by omega, ?_⟩; simp), Nat.mul_one, Nat.mul_one]
      have e : 9 * j + 9 - 9 * j = 9 := by omega
      rw [e]
      unfold pieceC
      rw [List.map_take, List.map_drop]
    have hmn : min (9 : Int) ((b.length - 9 * j : Nat) : Int) = 9 := by omega
    have hmin : pmm minV [iv 9, iv ((b.length - 9 * j : Nat) : Int)] = some (iv 9) := by
      have h : pmm minV [iv 9, iv ((b.length - 9 * j : Nat) : Int)] = some (iv (if ((b.length - 9 * j : Nat) : Int) < 9 then ((b.length - 9 * j : Nat) : Int) else 9)) := by
        unfold pmm
        simp [minV, pflats?]
      rw [h, if_neg (by omega)]
    have hw : IntKind.i64.wrap (((9 * j : Nat) : Int) + 9) = ((9 * j + 9 : Nat) : Int) := by rw [wrap64_id (by omega) (by omega)]; rfl
    refine RXL.round (RX.of env_ok ?_)
    simp only [G0, Nat.reduceLT, Nat.reduceEqDiff, Nat.reduceAdd, Nat.reduceLeDiff, Nat.reduceMul, t0, t1, t2, t4, hld, bxC, encBytes, hlt, decide_true, hs1, hmin, hw, hs2]
    refine cY hfr (hr j hj') (by decide) ?_
    rintro x M1 ⟨rfl, rfl⟩
    simp only [G0, Nat.reduceLT, Nat.reduceEqDiff, Nat.reduceAdd, Nat.reduceLeDiff, Nat.reduceMul, t1, t2, t4, hld, bxC, hw, Bool.not_true, Bool.not_false, cnd_t, cnd_f]
    exact ih (j + 1) _ (by omega) (by omega) (by exact t0) (by exact t1) (by exact t2) (by rfl)
theorem iter172 {M : PMem} {kb k i many : Nat} {b : List UInt8} (hb : b.length = 9 * many) (hb2 : b.length ≤ 1000000) (hne : kb ≠ k) (hkb : fresh M kb) (hk : fresh M k) (os : Nat → List Pm.Obj) (hos : ∀ j, 0 < (os j).length)
    (hr : ∀ j, j < many → PRd env Tryz.prog k i [.lst .full 1 9 ((pieceC b j).map encB)] (mmC M kb k b (os j)) (fun x M1 => x = bv true ∧ M1 = mmC M kb k b (os (j + 1)))) :
    PT env Tryz.prog 172 [.yld k i, .ptr kb 0 0, .ptr kb 1 0] (mmC M kb k b (os 0)) (fun _ M1 => M1 = mmC M kb k b (os many)) := by
  refine PT.enterR env_ok fn172 (by simp) comp172 fun k2 hk2 hf2 => RX.of env_ok ?_
  have h2k : k2 ≠ k := fun e => by
    subst e
    have := hf2 0
    unfold mmC at this
    rw [seg_same] at this
    have h0 := hos 0
    rw [List.getElem?_eq_none_iff] at this
    omega
  have h2b : k2 ≠ kb := fun e => by
    subst e
    have := hf2 0
    unfold mmC at this
    rw [seg_ne _ _ _ hne, seg_same] at this
    cases this
  have hf : fresh M k2 := fun x => by
    have := hf2 x
    unfold mmC at this
    rw [seg_ne _ _ _ h2k, seg_ne _ _ _ h2b] at this
    exact this
  simp only [G0, Nat.reduceLT, Nat.reduceEqDiff, Nat.reduceAdd, Nat.reduceLeDiff, Nat.reduceMul, argsP]
  refine RX.loop (loop172 (σ := Unit) hb hb2 hne h2k h2b hf os hr _ (fun tm => ?_) many 0 _ rfl (Nat.zero_le _) (by rfl) (by rfl) (by rfl) (by rfl))
  simp only [G0, Nat.reduceLT, Nat.reduceEqDiff, Nat.reduceAdd, Nat.reduceLeDiff, Nat.reduceMul]
  refine end0' (fun x => ?_) rfl
  unfold mmC; rw [seg_ne _ _ _ h2k, seg_ne _ _ _ h2b]; exact hf x
end Go.Proofs.YtmgmbdnhodicjaaGreatDoor
end

section
namespace Go.Proofs.YtmgmbdnhodicjaaGreatDoor
open Go Go.Am Go.Pm
set_option maxHeartbeats 2000000
set_option maxRecDepth 100000
theorem codeA115 : codeOk env.ng (subc [1, 1, 1, 1, 1, 0, 1, 0, 0] body115) = true := by kernel_rfl
theorem codeB115 : codeOk env.ng (subc [1, 1, 1, 1, 1, 0, 1, 0, 1] body115) = true := by kernel_rfl
noncomputable def osR (k : Nat) (tm : List (Nat × PV)) (acc : List Span) : List Pm.Obj := [.row .rw 0 [iv 0, iv 0], .row .rw 0 [.lst (.id k 2) 3 acc.length (acc.flatMap encSpan)], .grow acc.length 3, .loop true .ready none tm 56 [33] (subc [1, 1, 1, 1, 1, 0, 1, 0, 0] body115) (subc [1, 1, 1, 1, 1, 0, 1, 0, 1] body115)]
def spanOf (p : List UInt8) : Span := ⟨((p.getD 0 0).toNat : Nat), (beN ((p.drop 1).take 4) 0 : Nat), (beN (p.drop 5) 0 : Nat)⟩
section
variable {M : PMem} {kb k k' : Nat} {b : List UInt8} {os : List Pm.Obj}
theorem mmC_ldk (hk : k' ≠ k) {ag : Bool} {n o j : Nat} {os' : List Pm.Obj} : loadP k' os' (mmC M kb k b os) ag n (.ptr k j o) = rowTake ag n o os[j]? := by
  rw [loadP_out (Ne.symm hk)]; unfold mmC; rw [seg_same]
theorem mmC_put {j : Nat} {ob : Pm.Obj} (hj : j < os.length) : putM (mmC M kb k b os) k j ob = mmC M kb k b (os.set j ob) := by
  unfold mmC; exact put_seg hj
theorem mmC_st (hk : k' ≠ k) {nt n o j : Nat} {os' : List Pm.Obj} {tm : List (Nat × PV)} {v : PV} {ob : Pm.Obj} (hj : j < os.length) (h : storeO n o v os[j]? = some ob) : storeP tm nt k' os' (mmC M kb k b os) n v (.ptr k j o) = some (.junk, ⟨tm, nt, k', os', mmC M kb k b (os.set j ob)⟩) := by
  have h1 : mmC M kb k b os k j = os[j]? := by unfold mmC; rw [seg_same]
  rw [storeP_out (Ne.symm hk), h1, h, stO_eq, mmC_put hj]
end
theorem round115 {M : PMem} {kb k : Nat} (hne : kb ≠ k) (hkb : fresh M kb) (hk : fresh M k) (tm : List (Nat × PV)) (h6 : tget tm 6 = .ptr k 1 0) (b part : List UInt8) (hpl : part.length = 9) (acc : List Span) (ha : acc.length ≤ 1000000) :
    PRd env Tryz.prog k 3 [.lst .full 1 9 (part.map encB)] (mmC M kb k b (osR k tm acc)) (fun x M1 => x = bv true ∧ M1 = mmC M kb k b (osR k tm (acc ++ [spanOf part]))) := by
  refine PRd.runR env_ok codeA115 codeB115 piece115_1 piece115_2 (tm1 := (33, .lst .full 1 9 (part.map encB)) :: tm) (pend := none) (tm := tm) (nt := 56) (ps := [33]) (by unfold mmC; rw [seg_same]; rfl) (by simp [pparams]) fun k' hk' hkk hf => RX.of env_ok ?_
  have hk2 : k' ≠ k := hkk
  have hlen : ∀ acc, (osR k tm acc).length = 4 := fun _ => rfl
  have hfk : ∀ os', fresh (mmC M kb k b os') k' := fun os' x => by
    have := hf x
    unfold mmC at this ⊢
    rw [seg_ne _ _ _ hk2] at this ⊢
    exact this
  simp only [G0, Nat.reduceLT, Nat.reduceEqDiff, Nat.reduceAdd, Nat.reduceLeDiff, Nat.reduceMul]
  refine ⟨_, _, rfl, RX.of env_ok ?_⟩
  rw [mmC_put (by show 3 < 4; decide)]
  simp only [osR, List.set_cons_succ, List.set_cons_zero]
  have hld : ∀ {ag : Bool} {n o j : Nat} {os os' : List Pm.Obj}, loadP k' os' (mmC M kb k b os) ag n (.ptr k j o) = rowTake ag n o os[j]? := mmC_ldk hk2
  obtain ⟨c, hc, _⟩ := getE (show 0 < part.length by omega)
  have hb0 : (part.map encB)[0]? = some (encB c) := by rw [List.getElem?_map, hc]; rfl
  have hgd : part.getD 0 0 = c := by rw [List.getD_eq_getElem?_getD, hc]; rfl
  have hc256 := u8_lt c
  have hcv : convI .i64 (encB c) = some (iv c.toNat) := conv_i64 (by omega)
  have hs1 : sliceL 1 (.lst .full 1 9 (part.map encB)) (some (iv 1)) (some (iv 5)) none = some (encBytes ((part.drop 1).take 4)) := by
    have h1 : pnat? (iv 1) = some 1 := pnat_int (n := 1)
    have h2 : pnat? (iv 5) = some 5 := pnat_int (n := 5)
    unfold sliceL
    simp only [if_true, h1, h2]
    rw [if_pos (by decide)]
    unfold encBytes
    rw [List.length_take, List.length_drop, hpl, List.map_take, List.map_drop]
    rfl
  have hs2 : sliceL 1 (.lst .full 1 9 (part.map encB)) (some (iv 5)) none none = some (encBytes (part.drop 5)) := by
    have h2 : pnat? (iv 5) = some 5 := pnat_int (n := 5)
    unfold sliceL
    simp only [if_true, h2]
    rw [if_pos (by decide)]
    unfold encBytes
    rw [List.length_drop, hpl, List.map_drop]
    have : ((part.map encB).drop (5 * 1)).take ((9 - 5) * 1) = (part.map encB).drop 5 := List.take_of_length_le (by simp; omega)
    rw [this]
  have hb0' : (part.map encB)[0 * 1]? = some (encB c) := hb0
  have hia : iaddrS 1 (.lst .full 1 9 (part.map encB)) (.v (.int .i64 0)) = some (.dp (part.map encB) 0) := by
    have h0 : pnat? (.v (.int .i64 0)) = some 0 := pnat_int (n := 0)
    unfold iaddrS
    rw [h0]
    rfl
  simp only [G0, Nat.reduceLT, Nat.reduceEqDiff, Nat.reduceAdd, Nat.reduceLeDiff, Nat.reduceMul, h6, hld, hb0, hb0', hia, hcv, hs1, hs2]
  refine cq0 (number_at _ (by rw [List.length_take, List.length_drop]; omega)) (by decide) ?_
  simp only [G0, Nat.reduceLT, Nat.reduceEqDiff, Nat.reduceAdd, Nat.reduceLeDiff, Nat.reduceMul]
  refine cq0 (number_at _ (by rw [List.length_drop]; omega)) (by decide) ?_
  have hfill : fillA 3 [iv 0, iv 0, iv 0] [(0, .agg [iv c.toNat, iv (beN ((part.drop 1).take 4) 0 : Nat), iv (beN (part.drop 5) 0 : Nat)])] = some (encSpan (spanOf part)) := by
    unfold spanOf; rw [hgd]; rfl
  simp only [G0, Nat.reduceLT, Nat.reduceEqDiff, Nat.reduceAdd, Nat.reduceLeDiff, Nat.reduceMul, hfill]
  have hcond : (acc.length = 0 ∨ 3 = 3) ∧ (2 * (acc.length + 1) + 2000) * 24 ≤ 281474976710656 ∧ acc.length + 1 ≤ 4611686018427387904 ∧ 3 < 4096 ∧ 3 = 3 ∧ (encSpan (spanOf part)).all pone = true := ⟨.inr rfl, by omega, by omega, by decide, rfl, rfl⟩
  refine aL ?_
  rw [ap_out (n := acc.length) (sz := 3) (by decide) (Ne.symm hkk) (by unfold mmC; rw [seg_same]; rfl) hcond rfl, mmC_put (show 2 < 4 by decide)]
  simp only [List.set_cons_succ, List.set_cons_zero]
  have hst : ∀ {tm : List (Nat × PV)} {os' : List Pm.Obj} {x y : Pm.Obj} {w : PV}, storeP tm 56 k' os' (mmC M kb k b [.row .rw 0 [iv 0, iv 0], .row .rw 0 [w], x, y]) 1 (.lst (.id k 2) 3 (acc.length + 1) (acc.flatMap encSpan ++ encSpan (spanOf part))) (.ptr k 1 0) = some (.junk, ⟨tm, 56, k', os', mmC M kb k b [.row .rw 0 [iv 0, iv 0], .row .rw 0 [.lst (.id k 2) 3 (acc.length + 1) (acc.flatMap encSpan ++ encSpan (spanOf part))], x, y]⟩) := fun {tm os' x y w} =>
    mmC_st hk2 (show 1 < 4 by decide) (storeO_eq (n := 1) (cs := [w]) (x := .lst (.id k 2) 3 (acc.length + 1) (acc.flatMap encSpan ++ encSpan (spanOf part))) ⟨rfl, Nat.le_refl 1, rfl⟩)
  simp only [G0, Nat.reduceLT, Nat.reduceEqDiff, Nat.reduceAdd, Nat.reduceLeDiff, Nat.reduceMul, h6, hst]
  refine roundGo (Ne.symm hkk) (by unfold mmC; rw [seg_same]; rfl) (hfk _) ⟨rfl, ?_⟩
  rw [mmC_put (show 3 < 4 by decide)]
  have hl : (acc ++ [spanOf part]).length = acc.length + 1 := by simp
  have hfm : (acc ++ [spanOf part]).flatMap encSpan = acc.flatMap encSpan ++ encSpan (spanOf part) := by simp
  rw [hl, hfm]; rfl
def spansOf (b : List UInt8) (j : Nat) : List Span := (List.range j).map fun i => spanOf (pieceC b i)
theorem spansOf_succ (b : List UInt8) (j : Nat) : spansOf b (j + 1) = spansOf b j ++ [spanOf (pieceC b j)] := by
  unfold spansOf
  rw [List.range_succ, List.map_append]; rfl
end Go.Proofs.YtmgmbdnhodicjaaGreatDoor
end

section
namespace Go.Proofs.YtmgmbdnhodicjaaGreatDoor
open Go Go.Am Go.Pm
set_option maxHeartbeats 4000000
set_option maxRecDepth 100000
def pastRd (b : List UInt8) : List Span × (Int × Nat) :=
  if b.length < 2 then ([], (4, b.length)) else
  if b.length = 2 + 9 * beN (b.take 2) 0 then (if pastOk (spansOf (b.drop 2) (beN (b.take 2) 0)) then (spansOf (b.drop 2) (beN (b.take 2) 0), (0, 0)) else ([], (2, 0)))
  else ([], (4, min b.length (2 + 9 * beN (b.take 2) 0)))
theorem endtc {Q : PV → PMem → Prop} {body : Code} {M M1 : PMem} {os : List Pm.Obj} {tm : List (Nat × PV)} {k nt nt' a b u m : Nat} {ah : Bool} {v w : PV} (hu : tyP env u = some (ah, m)) (hv : tget tm a = v) (hw : loadP k os M ah m (tget tm b) = some w) (hm : MLe (seg M k os) M1) (h : Q (.tup [v, w]) M1) :
    ends env ⟨nt, [.tmp a, .cell b u], body⟩ Q .ret ⟨tm, nt', k, os, M⟩ := by
  subst hv
  exact ⟨.inr rfl, [_, w], M1, by simp only [presults, presult, pload_P hu, hw], hm, h⟩
theorem nilS : PLe (.lst .full 0 0 []) (encSpans []) := PLe.nil_no .full 0 3 rfl
theorem past_read (b : List UInt8) (hb : b.length ≤ 1000000) : PTp env Tryz.prog 115 [encBytes b] (.tup [encSpans (pastRd b).1, .agg [iv (pastRd b).2.1, iv ((pastRd b).2.2 : Nat)]]) := ptp_le fun M => by
  refine PT.enterR env_ok fn115 (by simp) comp115 fun k hk hf => RX.of env_ok ?_
  have hst2 : ∀ {x y : Int}, storeO 2 0 (.agg [iv x, iv y]) (some (.row .rw 0 [iv 0, iv 0])) = some (.row .rw 0 [iv x, iv y]) := fun {x y} => storeO_eq (n := 2) ⟨rfl, Nat.le_refl 2, rfl⟩
  have tle : ∀ {x y : PV} {z : PV}, PLe x y → PLe (.tup [x, z]) (.tup [y, z]) := fun h => PLe.tup (.cons h (.cons (.refl _) .nil))
  by_cases h2 : b.length < 2
  · have h2' : ((b.length : Nat) : Int) < 2 := by omega
    have hr : pastRd b = ([], (4, b.length)) := if_pos h2
    rw [hr]
    simp only [G0, Nat.reduceLT, Nat.reduceEqDiff, Nat.reduceAdd, Nat.reduceLeDiff, Nat.reduceMul, argsP, encBytes, h2', decide_true, hst2]
    exact endtc tp70 rfl (loadP_own.trans rfl) (MLe.pop hf) ⟨tle nilS, rfl⟩
  · have h2' : ¬ (((b.length : Nat) : Int) < 2) := by omega
    have hs1 : sliceL 1 (.lst .no 1 b.length (b.map encB)) none (some (iv 2)) none = some (encBytes (b.take 2)) := by
      have h1 : pnat? (iv 2) = some 2 := pnat_int (n := 2)
      unfold sliceL
      simp only [if_true, h1]
      rw [if_pos ⟨Nat.zero_le _, by omega⟩]
      unfold encBytes
      rw [List.length_take, Nat.min_eq_left (by omega), List.map_take]
      rfl
    have hs2 : sliceL 1 (.lst .no 1 b.length (b.map encB)) (some (iv 2)) none none = some (encBytes (b.drop 2)) := by
      have h1 : pnat? (iv 2) = some 2 := pnat_int (n := 2)
      unfold sliceL
      simp only [if_true, h1]
      rw [if_pos ⟨by omega, Nat.le_refl _⟩]
      unfold encBytes
      rw [List.length_drop, List.map_drop, Nat.mul_one, Nat.mul_one]
      have : ((b.map encB).drop 2).take (b.length - 2) = (b.map encB).drop 2 := List.take_of_length_le (by simp)
      rw [this]
    have hmany : beN (b.take 2) 0 < 65536 := by
      have := beN_lt (b.take 2) 0 0 (by decide)
      have h3 : 256 ^ (0 + (b.take 2).length) ≤ 256 ^ 2 := Nat.pow_le_pow_right (by decide) (by rw [List.length_take]; omega)
      have h4 : (256 : Nat) ^ 2 = 65536 := by decide
      omega
    simp only [G0, Nat.reduceLT, Nat.reduceEqDiff, Nat.reduceAdd, Nat.reduceLeDiff, Nat.reduceMul, argsP, encBytes, h2', decide_false, hs1]
    refine cp0 (number_at _ (by rw [List.length_take]; omega)) (by decide) ?_
    have hr0 : pastRd b = if b.length = 2 + 9 * beN (b.take 2) 0 then (if pastOk (spansOf (b.drop 2) (beN (b.take 2) 0)) then (spansOf (b.drop 2) (beN (b.take 2) 0), (0, 0)) else ([], (2, 0))) else ([], (4, min b.length (2 + 9 * beN (b.take 2) 0))) := if_neg h2
    rw [hr0]
    generalize hn : beN (b.take 2) 0 = many at *
    have hw1 : IntKind.i64.wrap (9 * (many : Nat) : Int) = ((9 * many : Nat) : Int) := by rw [wrap64_id (by omega) (by omega)]; omega
    have hw2 : IntKind.i64.wrap (2 + ((9 * many : Nat) : Int)) = ((2 + 9 * many : Nat) : Int) := by rw [wrap64_id (by omega) (by omega)]; rfl
    by_cases he : b.length = 2 + 9 * many
    · have hne' : (((b.length : Nat) : Int) != ((2 + 9 * many : Nat) : Int)) = false := by simp [he]
      rw [if_pos he]
      simp only [G0, Nat.reduceLT, Nat.reduceEqDiff, Nat.reduceAdd, Nat.reduceLeDiff, Nat.reduceMul, encBytes, hw1, hw2, hne', hs2]
      refine cmk (first := []) (cap := []) ((chunk154 (b.drop 2) _).mono ?_)
      rintro nk x M1 ⟨kb, h1, h2, rfl, rfl⟩ hlt
      have hkb : kb ≠ k := by omega
      have hfb : fresh M kb := fun i => by have := h2 i; rw [seg_ne _ _ _ hkb] at this; exact this
      have hswap : ∀ os : List Pm.Obj, seg (seg M k os) kb (bxC (b.drop 2)) = seg (seg M kb (bxC (b.drop 2))) k os := fun os => by
        funext a j
        by_cases ha : a = kb
        · subst ha; rw [seg_same, seg_ne _ _ _ hkb, seg_same]
        · rw [seg_ne _ _ _ ha]
          by_cases hk' : a = k
          · subst hk'; rw [seg_same, seg_same]
          · rw [seg_ne _ _ _ hk', seg_ne _ _ _ hk', seg_ne _ _ _ ha]
      refine ⟨_, seg M kb (bxC (b.drop 2)), rfl, MLe.of_eq (hswap _), by decide, ?_⟩
      simp only [G0, Nat.reduceLT, Nat.reduceEqDiff, Nat.reduceAdd, Nat.reduceLeDiff, Nat.reduceMul]
      refine RX.lay (j := 1) (f := 0) (e0 := 0) (es := 3) (w := .rw) (es0 := 0) (cs := [.lst .full 0 0 []]) (by decide) rfl rfl ?_
      simp only [List.set_cons_zero, List.set_cons_succ, List.length_cons, List.length_nil, List.cons_append, List.nil_append]
      have hlb : (b.drop 2).length = 9 * many := by rw [List.length_drop]; omega
      refine RX.range env_ok (g := 172) (first := []) (captured := [.ptr kb 0 0, .ptr kb 1 0]) rfl fn172 (fun _ _ e => by cases e) ?_
      refine (iter172 (M := M) (kb := kb) (k := k) (i := 3) (many := many) (b := b.drop 2) hlb (by rw [List.length_drop]; omega) hkb hfb hf (fun j => osR k _ (spansOf (b.drop 2) j)) (fun _ => by show 0 < 4; decide) (fun j hj => ?_)).mono ?_
      · have hlp : (pieceC (b.drop 2) j).length = 9 := by unfold pieceC; rw [List.length_take, List.length_drop, hlb]; omega
        rw [spansOf_succ]
        exact round115 hkb hfb hf _ rfl (b.drop 2) _ hlp _ (by unfold spansOf; rw [List.length_map, List.length_range]; omega)
      rintro x M1 rfl
      refine ⟨osR k _ (spansOf (b.drop 2) many), seg M kb (bxC (b.drop 2)), _, _, _, _, _, _, _, rfl, .refl _, rfl, by simp, .normal, rfl, ?_⟩
      simp only [osR, List.set_cons_succ, List.set_cons_zero, List.length_cons, List.length_nil]
      have hmle : ∀ os : List Pm.Obj, MLe (seg (seg M kb (bxC (b.drop 2))) k os) M := fun os => mle_r hf hfb
      generalize spansOf (b.drop 2) many = S at *
      simp only [G0, Nat.reduceLT, Nat.reduceEqDiff, Nat.reduceAdd, Nat.reduceLeDiff, Nat.reduceMul]
      refine cp0 (PTp.args (args' := [encSpans S]) (.cons (PLe.no _ _ _ _) .nil) (past_check S)) (by decide) ?_
      cases hok : pastOk S with
      | true =>
        rw [if_pos rfl]
        simp only [G0, Nat.reduceLT, Nat.reduceEqDiff, Nat.reduceAdd, Nat.reduceLeDiff, Nat.reduceMul, err_neq, hst2]
        exact endtc tp70 rfl (loadP_own.trans rfl) (hmle _) ⟨tle (PLe.no _ _ _ _), rfl⟩
      | false =>
        rw [if_neg (by decide)]
        simp only [G0, Nat.reduceLT, Nat.reduceEqDiff, Nat.reduceAdd, Nat.reduceLeDiff, Nat.reduceMul, err_neq, hst2]
        exact endtc tp70 rfl (loadP_own.trans rfl) (hmle _) ⟨tle nilS, rfl⟩
    · have hne' : (((b.length : Nat) : Int) != ((2 + 9 * many : Nat) : Int)) = true := by simp; omega
      rw [if_neg he]
      have hmin : pmm minV [iv (b.length : Nat), iv ((2 + 9 * many : Nat) : Int)] = some (iv ((min b.length (2 + 9 * many) : Nat) : Int)) := by
        have h : pmm minV [iv (b.length : Nat), iv ((2 + 9 * many : Nat) : Int)] = some (iv (if ((2 + 9 * many : Nat) : Int) < (b.length : Nat) then ((2 + 9 * many : Nat) : Int) else (b.length : Nat))) := by
          unfold pmm
          simp [minV, pflats?]
        rw [h]
        congr 3
        split <;> omega
      simp only [G0, Nat.reduceLT, Nat.reduceEqDiff, Nat.reduceAdd, Nat.reduceLeDiff, Nat.reduceMul, encBytes, hw1, hw2, hne', hmin, hst2]
      exact endtc tp70 rfl (loadP_own.trans rfl) (MLe.pop hf) ⟨tle nilS, rfl⟩
end Go.Proofs.YtmgmbdnhodicjaaGreatDoor
end

section
namespace Go.Proofs.YtmgmbdnhodicjaaGreatDoor
open Go Go.Am Go.Pm
set_option maxHeartbeats 4000000
set_option maxRecDepth 100000
theorem rawF_len {b : List UInt8} {p : Nat} {most : Int} {l : List UInt8} {p' : Nat} (h : rawF b p most = .ok (l, p')) : l.length ≤ b.length := by
  unfold rawF at h
  split at h
  · cases h
  · split at h
    · cases h
    · split at h
      · cases h
      · cases h
        rw [List.length_take, List.length_drop]; omega
theorem rawS_len {b : List UInt8} {s : RS} {most : Int} : (rawS b s most).1.length ≤ b.length := by
  unfold rawS
  split
  · split
    · exact Nat.zero_le _
    · rename_i l p hq
      exact rawF_len hq
  · exact Nat.zero_le _
structure EvR where
  s1 : Int × RS
  s2 : Int × RS
  s3 : List UInt8 × RS
  s4 : List UInt8 × RS
  s5 : List UInt8 × RS
def evR (b : List UInt8) : EvR :=
  let s1 := numS b ⟨0, 0, 0⟩ 1 200
  let s2 := numS b s1.2 1 2147483647
  let s3 := rawS b s2.2 77
  let s4 := rawS b s3.2 1100
  let s5 := rawS b s4.2 40000
  ⟨s1, s2, s3, s4, s5⟩
def zeroE : Ev := ⟨0, 0, [], 0, 0, [], []⟩
def evOf (r : EvR) : Ev := ⟨r.s1.1, r.s2.1, r.s3.1, (effT r.s4.1).1.kind, (effT r.s4.1).1.mode, (effT r.s4.1).1.bytes, (pastRd r.s5.1).1⟩
def evRd (b : List UInt8) : Ev × (Int × Nat) :=
  if (endF b (evR b).s5.2).1 = 0 then
    (if (effT (evR b).s4.1).2.1 = 0 ∧ (pastRd (evR b).s5.1).2.1 = 0 ∧ evOk (evOf (evR b)) = true then (evOf (evR b), (0, 0)) else (zeroE, (2, 0)))
  else (zeroE, endF b (evR b).s5.2)
theorem tp39 : tyP env 39 = some (true, 7) := by kernel_rfl
def zeroC : List PV := [iv 0, iv 0, .v (.string ⟨#[]⟩), iv 0, iv 0, .lst .full 0 0 [], .lst .full 0 0 []]
theorem zero_le : PLe (.agg zeroC) (encEv zeroE) := PLe.agg (.cons (.refl _) (.cons (.refl _) (.cons (.refl _) (.cons (.refl _) (.cons (.refl _) (.cons nilB (.cons nilS .nil)))))))
theorem event_read (b : List UInt8) (hb : b.length ≤ 1000000) : PTp env Tryz.prog 51 [encBytes b] (.tup [encEv (evRd b).1, .agg [iv (evRd b).2.1, iv ((evRd b).2.2 : Nat)]]) := ptp_le fun M => by
  refine PT.enterR env_ok fn51 (by simp) comp51 fun k hk hf => RX.of env_ok ?_
  have hs0 : rsOk b ⟨0, 0, 0⟩ := ⟨Nat.zero_le _, fun _ => rfl⟩
  have hs1 := numS_ok hs0 1 200
  have hs2 := numS_ok hs1 1 2147483647
  have hs3 := rawS_ok hs2 77
  have hs4 := rawS_ok hs3 1100
  have hs5 := rawS_ok hs4 40000
  have l3 : (rawS b (numS b (numS b ⟨0, 0, 0⟩ 1 200).2 1 2147483647).2 77).1.length ≤ b.length := rawS_len
  have l4 : (rawS b (rawS b (numS b (numS b ⟨0, 0, 0⟩ 1 200).2 1 2147483647).2 77).2 1100).1.length ≤ b.length := rawS_len
  have l5 : (rawS b (rawS b (rawS b (numS b (numS b ⟨0, 0, 0⟩ 1 200).2 1 2147483647).2 77).2 1100).2 40000).1.length ≤ b.length := rawS_len
  have hR : evR b = ⟨numS b ⟨0, 0, 0⟩ 1 200, numS b (numS b ⟨0, 0, 0⟩ 1 200).2 1 2147483647, rawS b (numS b (numS b ⟨0, 0, 0⟩ 1 200).2 1 2147483647).2 77, rawS b (rawS b (numS b (numS b ⟨0, 0, 0⟩ 1 200).2 1 2147483647).2 77).2 1100, rawS b (rawS b (rawS b (numS b (numS b ⟨0, 0, 0⟩ 1 200).2 1 2147483647).2 77).2 1100).2 40000⟩ := rfl
  have hrd : evRd b = if (endF b (evR b).s5.2).1 = 0 then (if (effT (evR b).s4.1).2.1 = 0 ∧ (pastRd (evR b).s5.1).2.1 = 0 ∧ evOk (evOf (evR b)) = true then (evOf (evR b), (0, 0)) else (zeroE, (2, 0))) else (zeroE, endF b (evR b).s5.2) := rfl
  rw [hrd]
  simp only [G0, Nat.reduceLT, Nat.reduceEqDiff, Nat.reduceAdd, Nat.reduceLeDiff, Nat.reduceMul, argsP]
  refine cmk (first := []) (cap := []) ((open_at b hb _).mono ?_)
  rintro nk x M1 ⟨kr, h1, h2, rfl, rfl⟩ hlt
  have hkr : kr ≠ k := by omega
  have hfr : fresh M kr := fun i => by have := h2 i; rw [seg_ne _ _ _ hkr] at this; exact this
  refine ⟨_, seg M kr [rsRow b ⟨0, 0, 0⟩], rfl, MLe.of_eq (swap_r hkr), by decide, ?_⟩
  simp only [G0, Nat.reduceLT, Nat.reduceEqDiff, Nat.reduceAdd, Nat.reduceLeDiff, Nat.reduceMul]
  refine cm (first := []) (cap := []) ((numS_at hb (at_r hkr) hs0 1 200).mono ?_)
  rintro x M1 ⟨rfl, rfl⟩
  refine ⟨_, seg M kr [rsRow b (numS b ⟨0, 0, 0⟩ 1 200).2], rfl, MLe.of_eq (put_r hkr), by decide, ?_⟩
  generalize numS b ⟨0, 0, 0⟩ 1 200 = S1 at *
  simp only [G0, Nat.reduceLT, Nat.reduceEqDiff, Nat.reduceAdd, Nat.reduceLeDiff, Nat.reduceMul]
  refine cm (first := []) (cap := []) ((numS_at hb (at_r hkr) hs1 1 2147483647).mono ?_)
  rintro x M1 ⟨rfl, rfl⟩
  refine ⟨_, seg M kr [rsRow b (numS b S1.2 1 2147483647).2], rfl, MLe.of_eq (put_r hkr), by decide, ?_⟩
  generalize numS b S1.2 1 2147483647 = S2 at *
  simp only [G0, Nat.reduceLT, Nat.reduceEqDiff, Nat.reduceAdd, Nat.reduceLeDiff, Nat.reduceMul]
  refine cm (first := []) (cap := []) ((rtext_at hb (at_r hkr) hs2 77).mono ?_)
  rintro x M1 ⟨rfl, rfl⟩
  refine ⟨_, seg M kr [rsRow b (rawS b S2.2 77).2], rfl, MLe.of_eq (put_r hkr), by decide, ?_⟩
  generalize rawS b S2.2 77 = S3 at *
  simp only [G0, Nat.reduceLT, Nat.reduceEqDiff, Nat.reduceAdd, Nat.reduceLeDiff, Nat.reduceMul]
  refine cm (first := []) (cap := []) ((rawS_at hb (at_r hkr) hs3 1100).mono ?_)
  rintro x M1 ⟨rfl, rfl⟩
  refine ⟨_, seg M kr [rsRow b (rawS b S3.2 1100).2], rfl, MLe.of_eq (put_r hkr), by decide, ?_⟩
  generalize rawS b S3.2 1100 = S4 at *
  simp only [G0, Nat.reduceLT, Nat.reduceEqDiff, Nat.reduceAdd, Nat.reduceLeDiff, Nat.reduceMul]
  refine cm (first := []) (cap := []) ((rawS_at hb (at_r hkr) hs4 40000).mono ?_)
  rintro x M1 ⟨rfl, rfl⟩
  refine ⟨_, seg M kr [rsRow b (rawS b S4.2 40000).2], rfl, MLe.of_eq (put_r hkr), by decide, ?_⟩
  generalize rawS b S4.2 40000 = S5 at *
  simp only [G0, Nat.reduceLT, Nat.reduceEqDiff, Nat.reduceAdd, Nat.reduceLeDiff, Nat.reduceMul]
  refine cs0 (end_at (M0 := seg (seg M kr [rsRow b S5.2]) k _) (at_r hkr)) (Pm.Sub.refl _) (by decide) ?_
  have hst2 : ∀ {x y : Int}, storeO 2 0 (.agg [iv x, iv y]) (some (.row .rw 0 [iv 0, iv 0])) = some (.row .rw 0 [iv x, iv y]) := fun {x y} => storeO_eq (n := 2) ⟨rfl, Nat.le_refl 2, rfl⟩
  have hstZ : storeO 7 0 (.agg zeroC) (some (.row .rw 0 zeroC)) = some (.row .rw 0 zeroC) := storeO_eq (n := 7) ⟨rfl, Nat.le_refl 7, rfl⟩
  have hL : ∀ v ∈ [PV.ptr k 3 0], ∃ k2 i2 o2, v = .ptr k2 i2 o2 ∧ ¬ (k2 = k ∧ i2 = 0) := fun v hv => ⟨k, 3, 0, List.mem_singleton.1 hv, fun h => by cases h.2⟩
  have tle : ∀ {x y : PV} {z : PV}, PLe x y → PLe (.tup [x, z]) (.tup [y, z]) := fun h => PLe.tup (.cons h (.cons (.refl _) .nil))
  rw [hR]
  by_cases hend : (endF b S5.2).1 = 0
  · have hb1 : ((endF b S5.2).1 != 0) = false := by simp [hend]
    rw [if_pos hend]
    simp only [G0, Nat.reduceLT, Nat.reduceEqDiff, Nat.reduceAdd, Nat.reduceLeDiff, Nat.reduceMul, hst2, hb1]
    refine cp0 (effect_read S4.1 (by omega)) (by decide) ?_
    unfold evOf
    dsimp only
    have hpr := past_read S5.1 (by omega)
    generalize effT S4.1 = X
    generalize pastRd S5.1 = Y at hpr ⊢
    obtain ⟨⟨xk, xm, xb⟩, xe, xf⟩ := X
    obtain ⟨yp, ye, yf⟩ := Y
    have hst3 : ∀ {a1 a2 a3 a4 a5 a6 a7 : PV}, storeO 3 3 (.agg [iv xk, iv xm, encBytes xb]) (some (.row .rw 0 [a1, a2, a3, a4, a5, a6, a7])) = some (.row .rw 0 [a1, a2, a3, iv xk, iv xm, encBytes xb, a7]) := fun {a1 a2 a3 a4 a5 a6 a7} => storeO_eq (n := 3) (cs := [a1, a2, a3, a4, a5, a6, a7]) (x := .agg [iv xk, iv xm, encBytes xb]) ⟨rfl, by show 3 + 3 ≤ 7; decide, rfl⟩
    have hst1 : ∀ {a1 a2 a3 a4 a5 a6 a7 : PV}, storeO 1 6 (encSpans yp) (some (.row .rw 0 [a1, a2, a3, a4, a5, a6, a7])) = some (.row .rw 0 [a1, a2, a3, a4, a5, a6, encSpans yp]) := fun {a1 a2 a3 a4 a5 a6 a7} => storeO_eq (n := 1) (cs := [a1, a2, a3, a4, a5, a6, a7]) (x := encSpans yp) ⟨rfl, by show 6 + 1 ≤ 7; decide, rfl⟩
    simp only [G0, Nat.reduceLT, Nat.reduceEqDiff, Nat.reduceAdd, Nat.reduceLeDiff, Nat.reduceMul, effCells, hst3, hst2]
    refine cp0 hpr (by decide) ?_
    simp only [G0, Nat.reduceLT, Nat.reduceEqDiff, Nat.reduceAdd, Nat.reduceLeDiff, Nat.reduceMul, hst1, hst2]
    have hstE : ∀ {e : Ev}, storeO 7 0 (.agg (evCells e)) (some (.row .rw 0 zeroC)) = some (.row .rw 0 (evCells e)) := fun {e} => storeO_eq (n := 7) ⟨rfl, Nat.le_refl 7, rfl⟩
    have hfz : fillN [(0, 2), (2, 1), (3, 3), (6, 1)] zeroC (iv 0) [] none = none := rfl
    cases hxy : (xe != 0 || ye != 0) with
    | true =>
      have hno : ¬ (xe = 0 ∧ ye = 0 ∧ evOk ⟨S1.1, S2.1, S3.1, xk, xm, xb, yp⟩ = true) := fun ⟨h1, h2, _⟩ => by subst h1 h2; cases hxy
      rw [if_neg hno]
      unfold zeroC at hstZ
      simp only [G0, Nat.reduceLT, Nat.reduceEqDiff, Nat.reduceAdd, Nat.reduceLeDiff, Nat.reduceMul, Bool.not_true, Bool.not_false, cnd_t, cnd_f, hst2, hstZ]
      refine endcc tp39 tp70 (loadP_own.trans rfl) (loadP_own.trans rfl) (mle_r hf hfr) ⟨tle zero_le, rfl⟩
    | false =>
      simp only [Bool.or_eq_false_iff, bne_eq_false_iff_eq] at hxy
      obtain ⟨rfl, rfl⟩ := hxy
      simp only [G0, Nat.reduceLT, Nat.reduceEqDiff, Nat.reduceAdd, Nat.reduceLeDiff, Nat.reduceMul, Bool.not_true, Bool.not_false, cnd_t, cnd_f]
      refine cp0 (event_check ⟨S1.1, S2.1, S3.1, xk, xm, xb, yp⟩ (by show S3.1.length ≤ 1000000; omega)) (by decide) ?_
      cases hok : evOk ⟨S1.1, S2.1, S3.1, xk, xm, xb, yp⟩ with
      | true =>
        rw [if_pos rfl]
        have h7 : ∀ {a1 a2 a3 a4 a5 a6 a7 : PV}, ptake true 7 [a1, a2, a3, a4, a5, a6, a7] 0 = some (.agg [a1, a2, a3, a4, a5, a6, a7]) := fun {a1 a2 a3 a4 a5 a6 a7} => rfl
        have hstE' := hstE (e := ⟨S1.1, S2.1, S3.1, xk, xm, xb, yp⟩)
        unfold evCells zeroC at hstE'
        dsimp only at hstE'
        simp only [G0, Nat.reduceLT, Nat.reduceEqDiff, Nat.reduceAdd, Nat.reduceLeDiff, Nat.reduceMul, err_neq, Bool.false_or, Bool.not_true, Bool.not_false, cnd_t, cnd_f, h7, hstE', hst2]
        refine endcc tp39 tp70 (loadP_own.trans rfl) (loadP_own.trans rfl) (mle_r hf hfr) ⟨.refl _, rfl⟩
      | false =>
        rw [if_neg (by decide)]
        unfold zeroC at hstZ
        simp only [G0, Nat.reduceLT, Nat.reduceEqDiff, Nat.reduceAdd, Nat.reduceLeDiff, Nat.reduceMul, err_neq, Bool.false_or, Bool.not_true, Bool.not_false, cnd_t, cnd_f, hst2, hstZ]
        refine endcc tp39 tp70 (loadP_own.trans rfl) (loadP_own.trans rfl) (mle_r hf hfr) ⟨tle zero_le, rfl⟩
  · have hb1 : ((endF b S5.2).1 != 0) = true := by simp [hend]
    rw [if_neg hend]
    simp only [G0, Nat.reduceLT, Nat.reduceEqDiff, Nat.reduceAdd, Nat.reduceLeDiff, Nat.reduceMul, hst2, hb1]
    refine ⟨k, 0, 0, 0, _, rfl, (by show seg _ k _ k 0 = _; rw [seg_same]; rfl), hL, _, sto_f rfl rfl hstZ, ?_⟩
    simp only [G0, Nat.reduceLT, Nat.reduceEqDiff, Nat.reduceAdd, Nat.reduceLeDiff, Nat.reduceMul, hst2]
    refine endcc tp39 tp70 (loadP_own.trans rfl) (loadP_own.trans rfl) (mle_r hf hfr) ⟨tle zero_le, rfl⟩
end Go.Proofs.YtmgmbdnhodicjaaGreatDoor
end

section
namespace Go.Proofs.YtmgmbdnhodicjaaGreatDoor
open Go Go.Am Go.Pm
set_option maxHeartbeats 1000000
set_option maxRecDepth 100000
theorem many_pow {n : Nat} (h : n < 4294967296) : n < 256 ^ many n ∧ (0 < many n → 256 ^ (many n - 1) ≤ n) := by
  have hm := many_eq h
  by_cases h0 : n = 0
  · rw [if_pos h0] at hm; rw [hm, h0]; exact ⟨by decide, fun h => absurd h (by decide)⟩
  · rw [if_neg h0] at hm
    by_cases h1 : n < 256
    · rw [if_pos h1] at hm; rw [hm]; exact ⟨h1, fun _ => by show 1 ≤ n; omega⟩
    · rw [if_neg h1] at hm
      by_cases h2 : n < 65536
      · rw [if_pos h2] at hm; rw [hm]; exact ⟨h2, fun _ => by show 256 ≤ n; omega⟩
      · rw [if_neg h2] at hm
        by_cases h3 : n < 16777216
        · rw [if_pos h3] at hm; rw [hm]; exact ⟨h3, fun _ => by show 65536 ≤ n; omega⟩
        · rw [if_neg h3] at hm; rw [hm]; exact ⟨h, fun _ => by show 16777216 ≤ n; omega⟩
theorem many_uniq {n m : Nat} (h : n < 4294967296) (h1 : n < 256 ^ m) (h2 : 0 < m → 256 ^ (m - 1) ≤ n) : m = many n := by
  obtain ⟨q1, q2⟩ := many_pow h
  rcases Nat.lt_trichotomy m (many n) with hlt | heq | hgt
  · have := q2 (by omega)
    have h3 : 256 ^ m ≤ 256 ^ (many n - 1) := Nat.pow_le_pow_right (by decide) (by omega)
    omega
  · exact heq
  · have := h2 (by omega)
    have h3 : 256 ^ many n ≤ 256 ^ (m - 1) := Nat.pow_le_pow_right (by decide) (by omega)
    omega
theorem formB_head {n : Nat} : ∀ {m : Nat}, 0 < m → m ≤ 8 → ∃ t, formB n m = UInt8.ofNat (n / 256 ^ (m - 1) % 256) :: t
  | m + 1, _, hm => by
    have h1 : min (8 * m) 64 = 8 * m := by omega
    have h2 : 2 ^ (8 * m) = 256 ^ m := by rw [Nat.pow_mul]
    refine ⟨formB n m, ?_⟩
    show UInt8.ofNat (n / 2 ^ min (8 * m) 64 % 256) :: formB n m = _
    rw [h1, h2]; rfl
theorem num_wr {n : Nat} (h : n < 4294967296) (pre suf : List UInt8) {lo hi : Int} (h1 : lo ≤ n) (h2 : (n : Int) ≤ hi) : numF (pre ++ (form n ++ suf)) pre.length lo hi = .ok (n, pre.length + (form n).length) := by
  have hm4 := many_le n
  have hmt : (UInt8.ofNat (many n)).toNat = many n := byte_nat (by omega)
  have hfl : (form n).length = many n + 1 := by simp only [form, List.length_cons, formB_len]
  have hg : (pre ++ (form n ++ suf))[pre.length]? = some (UInt8.ofNat (many n)) := by
    rw [List.getElem?_append_right (Nat.le_refl _), Nat.sub_self]; rfl
  have hd : (pre ++ (form n ++ suf)).drop (pre.length + 1) = formB n (many n) ++ suf := by
    rw [List.drop_append, List.drop_of_length_le (by omega)]
    have : pre.length + 1 - pre.length = 1 := by omega
    rw [this]; rfl
  have ht : ((pre ++ (form n ++ suf)).drop (pre.length + 1)).take (many n) = formB n (many n) := by
    rw [hd, List.take_append_of_le_length (by rw [formB_len]; exact Nat.le_refl _), List.take_of_length_le (by rw [formB_len]; exact Nat.le_refl _)]
  obtain ⟨q1, q2⟩ := many_pow h
  have hbe : beN (formB n (many n)) 0 = n := by rw [formB_be n _ (by omega), Nat.mod_eq_of_lt q1]
  unfold numF
  rw [hg]
  dsimp only
  rw [hmt, if_neg (by omega), if_neg (by simp only [List.length_append, hfl]; omega)]
  have hz : (decide (many n > 0) && (pre ++ (form n ++ suf))[pre.length + 1]? == some 0) = false := by
    by_cases h0 : many n > 0
    · rw [decide_eq_true h0, Bool.true_and]
      obtain ⟨t, hh⟩ := formB_head (n := n) h0 (by omega)
      have hx : (pre ++ (form n ++ suf))[pre.length + 1]? = some (UInt8.ofNat (n / 256 ^ (many n - 1) % 256)) := by
        rw [List.getElem?_append_right (by omega)]
        have : pre.length + 1 - pre.length = 1 := by omega
        rw [this]
        show (UInt8.ofNat (many n) :: formB n (many n) ++ suf)[1]? = _
        rw [hh]; rfl
      rw [hx]
      have hge := q2 h0
      have hpos : 0 < 256 ^ (many n - 1) := Nat.pow_pos (by decide)
      have hq : n / 256 ^ (many n - 1) < 256 := by
        rw [Nat.div_lt_iff_lt_mul hpos, ← Nat.pow_succ']
        have : (many n - 1).succ = many n := by omega
        rw [this]; exact q1
      have hq0 : 0 < n / 256 ^ (many n - 1) := Nat.div_pos hge hpos
      rw [Nat.mod_eq_of_lt hq]
      have hne : UInt8.ofNat (n / 256 ^ (many n - 1)) ≠ 0 := fun e => by
        have := congrArg UInt8.toNat e
        rw [byte_nat hq] at this
        have h00 : (0 : UInt8).toNat = 0 := rfl
        omega
      cases hb : (some (UInt8.ofNat (n / 256 ^ (many n - 1))) == some (0 : UInt8)) with
      | false => rfl
      | true => exact absurd (Option.some.inj (eq_of_beq hb)) hne
    · rw [decide_eq_false h0, Bool.false_and]
  rw [hz, if_neg (by decide), ht, hbe]
  have hc : (decide (n > 4611686018427387903) || (decide ((n : Int) < lo) || decide ((n : Int) > hi))) = false := by
    rw [decide_eq_false (by omega), decide_eq_false (by omega), decide_eq_false (by omega)]; rfl
  rw [hc, if_neg (by decide), hfl]
  congr 2
  omega
theorem num_rd {b : List UInt8} {p n p' : Nat} {lo hi : Int} (h : numF b p lo hi = .ok (n, p')) (hn : n < 4294967296) : b.drop p = form n ++ b.drop p' := by
  unfold numF at h
  split at h
  · cases h
  · rename_i m hm
    have hpl : p < b.length := (List.getElem?_eq_some_iff.1 hm).1
    split at h
    · cases h
    · rename_i h8
      split at h
      · cases h
      · rename_i hfit
        split at h
        · cases h
        · rename_i hz
          dsimp only at h
          split at h
          · cases h
          · simp only [Except.ok.injEq, Prod.mk.injEq] at h
            obtain ⟨rfl, rfl⟩ := h
            have hll : ((b.drop (p + 1)).take m.toNat).length = m.toNat := by rw [List.length_take, List.length_drop]; omega
            have hdr : b.drop p = m :: b.drop (p + 1) := by
              rw [List.drop_eq_getElem_cons hpl]
              congr 1
              have := (List.getElem?_eq_some_iff.1 hm).2
              exact this
            have hsplit : b.drop (p + 1) = (b.drop (p + 1)).take m.toNat ++ b.drop (p + 1 + m.toNat) := by
              have h2 := List.take_append_drop m.toNat (b.drop (p + 1))
              rw [List.drop_drop] at h2
              exact h2.symm
            generalize hL : (b.drop (p + 1)).take m.toNat = l at *
            have hbl : beN l 0 < 256 ^ m.toNat := by have := beN_lt l 0 0 (by decide); rw [Nat.zero_add, hll] at this; exact this
            have hmm : m.toNat = many (beN l 0) := by
              refine many_uniq hn hbl fun h0 => ?_
              cases l with
              | nil => simp at hll; omega
              | cons c r =>
                have hc0 : b[p + 1]? = some c := by
                  have : (b.drop (p + 1))[0]? = some c := by rw [hsplit]; rfl
                  rw [List.getElem?_drop] at this
                  exact this
                have hcn : c.toNat ≠ 0 := fun hc => by
                  have : c = 0 := UInt8.toNat_inj.1 hc
                  subst this
                  rw [hc0, decide_eq_true h0] at hz
                  exact hz rfl
                have e2 : beN (c :: r) 0 = c.toNat * 256 ^ r.length + beN r 0 := by
                  have : beN (c :: r) 0 = beN r (0 * 256 + c.toNat) := rfl
                  rw [this, beN_acc, Nat.zero_mul, Nat.zero_add]
                rw [e2]
                have hr : m.toNat - 1 = r.length := by simp only [List.length_cons] at hll; omega
                rw [hr]
                have : 1 * 256 ^ r.length ≤ c.toNat * 256 ^ r.length := Nat.mul_le_mul_right _ (by omega)
                omega
            have hfo : form (beN l 0) = m :: l := by
              unfold form
              rw [← hmm]
              have h1 : UInt8.ofNat m.toNat = m := UInt8.ofNat_toNat
              rw [h1, ← hll, formB_of l (by omega)]
            rw [hfo, hdr, hsplit]; rfl
end Go.Proofs.YtmgmbdnhodicjaaGreatDoor
end

section
namespace Go.Proofs.YtmgmbdnhodicjaaGreatDoor
open Go Go.Am Go.Pm
set_option maxHeartbeats 1000000
set_option maxRecDepth 100000
theorem raw_wr {l : List UInt8} (h : l.length < 4294967296) (pre suf : List UInt8) {most : Int} (h1 : (l.length : Int) ≤ most) : rawF (pre ++ (rawB l ++ suf)) pre.length most = .ok (l, pre.length + (rawB l).length) := by
  have e : pre ++ (rawB l ++ suf) = pre ++ (form l.length ++ (l ++ suf)) := by unfold rawB; rw [List.append_assoc]
  have hl : (rawB l).length = (form l.length).length + l.length := by unfold rawB; rw [List.length_append]
  unfold rawF
  rw [e, num_wr h pre (l ++ suf) (by omega) (by omega)]
  dsimp only
  rw [if_neg (by omega), if_neg (by simp only [List.length_append]; omega), hl]
  have hd : (pre ++ (form l.length ++ (l ++ suf))).drop (pre.length + (form l.length).length) = l ++ suf := by
    rw [← List.append_assoc, ← List.length_append, List.drop_left]
  rw [hd, List.take_left, Nat.add_assoc]
theorem raw_rd {b : List UInt8} {p : Nat} {most : Int} {l : List UInt8} {p' : Nat} (hb : b.length ≤ 1000000) (h : rawF b p most = .ok (l, p')) : b.drop p = rawB l ++ b.drop p' := by
  unfold rawF at h
  split at h
  · cases h
  · rename_i n q hq
    split at h
    · cases h
    · split at h
      · cases h
      · rename_i h2
        have hok := numF_ok hq
        have hn : n < 4294967296 := by omega
        have hd := num_rd hq hn
        simp only [Except.ok.injEq, Prod.mk.injEq] at h
        obtain ⟨rfl, rfl⟩ := h
        have hll : ((b.drop q).take n).length = n := by rw [List.length_take, List.length_drop]; omega
        have hs := List.take_append_drop n (b.drop q)
        rw [List.drop_drop] at hs
        unfold rawB
        rw [hll, List.append_assoc, hs, hd]
theorem numS_step {b : List UInt8} {s : RS} {lo hi : Int} (h : (numS b s lo hi).2.e = 0) : s.e = 0 ∧ ∃ n p', numF b s.p lo hi = .ok (n, p') ∧ numS b s lo hi = (((n : Nat) : Int), ⟨p', 0, 0⟩) := by
  unfold numS at h ⊢
  by_cases he : s.e = 0
  · rw [if_pos he] at h ⊢
    refine ⟨he, ?_⟩
    cases hq : numF b s.p lo hi with
    | error y => obtain ⟨e, f⟩ := y; rw [hq] at h; exact absurd h (numF_err hq)
    | ok y => obtain ⟨n, p⟩ := y; exact ⟨n, p, rfl, rfl⟩
  · rw [if_neg he] at h; exact absurd h he
theorem rawS_step {b : List UInt8} {s : RS} {most : Int} (h : (rawS b s most).2.e = 0) : s.e = 0 ∧ ∃ l p', rawF b s.p most = .ok (l, p') ∧ rawS b s most = (l, ⟨p', 0, 0⟩) := by
  unfold rawS at h ⊢
  by_cases he : s.e = 0
  · rw [if_pos he] at h ⊢
    refine ⟨he, ?_⟩
    cases hq : rawF b s.p most with
    | error y => obtain ⟨e, f⟩ := y; rw [hq] at h; exact absurd h (rawF_err hq)
    | ok y => obtain ⟨n, p⟩ := y; exact ⟨n, p, rfl, rfl⟩
  · rw [if_neg he] at h; exact absurd h he
theorem numS_val {b : List UInt8} {p n q : Nat} {lo hi : Int} (h : numF b p lo hi = .ok (n, q)) : numS b ⟨p, 0, 0⟩ lo hi = (((n : Nat) : Int), ⟨q, 0, 0⟩) := by
  unfold numS; rw [if_pos rfl]; dsimp only; rw [h]
theorem endF_zero {b : List UInt8} {s : RS} (h : (endF b s).1 = 0) : s.e = 0 ∧ b.length ≤ s.p := by
  unfold endF at h
  split at h
  · cases h
  · rename_i hc
    have he : s.e = 0 := h
    exact ⟨he, by rcases Nat.lt_or_ge s.p b.length with hlt | hge
                  · exact absurd ⟨he, hlt⟩ hc
                  · exact hge⟩
theorem eff_wr {x m : Int} {l : List UInt8} (h : effOk x m l = true) : effT (effB x m l) = (⟨x, m, l⟩, (0, 0)) := by
  obtain ⟨a1, a2, a3, a4, a5⟩ := eff_nn h
  have hx : ((x.toNat : Nat) : Int) = x := by omega
  have hm : ((m.toNat : Nat) : Int) = m := by omega
  have e1 : effB x m l = [] ++ (form x.toNat ++ (form m.toNat ++ rawB l)) := by unfold effB; rw [List.append_assoc]; rfl
  have e2 : effB x m l = form x.toNat ++ (form m.toNat ++ rawB l) := by unfold effB; rw [List.append_assoc]
  have e3 : effB x m l = (form x.toNat ++ form m.toNat) ++ (rawB l ++ []) := by unfold effB; rw [List.append_nil]
  have n1 := num_wr (n := x.toNat) (by omega) [] (form m.toNat ++ rawB l) (lo := 1) (hi := 3) (by omega) (by omega)
  rw [← e1, List.length_nil, Nat.zero_add] at n1
  have n2 := num_wr (n := m.toNat) (by omega) (form x.toNat) (rawB l) (lo := 0) (hi := 511) (by omega) (by omega)
  rw [← e2, ← List.length_append] at n2
  have n3 := raw_wr (l := l) (by omega) (form x.toNat ++ form m.toNat) [] (most := 1000) (by omega)
  rw [← e3] at n3
  have s1 := numS_val n1
  have s2 := numS_val n2
  have s3 := rawS_val n3
  have hr : effRaw (effB x m l) = (⟨x, m, l⟩, ⟨(effB x m l).length, 0, 0⟩) := by
    unfold effRaw
    rw [s1]; dsimp only
    rw [s2]; dsimp only
    rw [s3]; dsimp only
    rw [hx, hm]
    congr 2
    unfold effB; simp only [List.length_append]
  have he : endF (effB x m l) ⟨(effB x m l).length, 0, 0⟩ = (0, 0) := by
    unfold endF; rw [if_neg (fun h => by have := h.2; dsimp only at this; omega)]
  have hE : effErr (effB x m l) = 0 := by
    unfold effErr; rw [hr, he, if_pos rfl]; dsimp only; rw [h]; rfl
  unfold effT
  rw [hE, if_pos rfl, hr, he]
theorem eff_rd {b : List UInt8} (hb : b.length ≤ 1000000) (h : (effT b).2.1 = 0) : effOk (effT b).1.kind (effT b).1.mode (effT b).1.bytes = true ∧ b = effB (effT b).1.kind (effT b).1.mode (effT b).1.bytes := by
  have hE : effErr b = 0 := by
    unfold effT at h
    by_cases h0 : effErr b = 0
    · exact h0
    · rw [if_neg h0] at h; exact absurd h h0
  have hT : (effT b).1 = (effRaw b).1 := by unfold effT; rw [if_pos hE]
  have hend : (endF b (effRaw b).2).1 = 0 := by
    unfold effErr at hE
    by_cases h0 : (endF b (effRaw b).2).1 = 0
    · exact h0
    · rw [if_neg h0] at hE; exact absurd hE h0
  have hok : effOk (effRaw b).1.kind (effRaw b).1.mode (effRaw b).1.bytes = true := by
    unfold effErr at hE
    rw [if_pos hend] at hE
    cases hq : effOk (effRaw b).1.kind (effRaw b).1.mode (effRaw b).1.bytes with
    | true => rfl
    | false => rw [hq] at hE; cases hE
  rw [hT]
  refine ⟨hok, ?_⟩
  obtain ⟨h3, hlen⟩ := endF_zero hend
  have h3' : (rawS b (numS b (numS b ⟨0, 0, 0⟩ 1 3).2 0 511).2 1000).2.e = 0 := h3
  obtain ⟨h2, l, p3, r3, v3⟩ := rawS_step h3'
  obtain ⟨h1, n2, p2, r2, v2⟩ := numS_step h2
  obtain ⟨_, n1, p1, r1, v1⟩ := numS_step h1
  rw [v1] at r2 v2 v3 r3
  dsimp only at r2
  rw [v2] at r3 v3
  dsimp only at r3
  have hR : effRaw b = (⟨(n1 : Nat), (n2 : Nat), l⟩, ⟨p3, 0, 0⟩) := by
    unfold effRaw
    rw [v1]; dsimp only
    rw [v2]; dsimp only
    rw [v3]
  rw [hR] at hlen ⊢
  dsimp only at hlen ⊢
  have o1 := numF_ok r1
  have o2 := numF_ok r2
  have d1 := num_rd r1 (by omega)
  have d2 := num_rd r2 (by omega)
  have d3 := raw_rd hb r3
  rw [List.drop_zero] at d1
  rw [List.drop_of_length_le hlen, List.append_nil] at d3
  unfold effB
  rw [d1, d2, d3, List.append_assoc]
  rfl
end Go.Proofs.YtmgmbdnhodicjaaGreatDoor
end

section
namespace Go.Proofs.YtmgmbdnhodicjaaGreatDoor
open Go Go.Am Go.Pm
set_option maxHeartbeats 1000000
set_option maxRecDepth 100000
def SpOk (x : Span) : Prop := 1 ≤ x.node ∧ x.node ≤ 200 ∧ 1 ≤ x.frm ∧ x.frm ≤ x.to ∧ x.to ≤ 2147483647
theorem four_form (n : Nat) : fourB n = formB n 4 := by
  have h3 : 2 ^ min (8 * 3) 64 = 16777216 := by decide
  have h2 : 2 ^ min (8 * 2) 64 = 65536 := by decide
  have h1 : 2 ^ min (8 * 1) 64 = 256 := by decide
  have h0 : 2 ^ min (8 * 0) 64 = 1 := by decide
  simp only [formB, h3, h2, h1, h0, Nat.div_one]
  rfl
theorem two_form (n : Nat) : (fourB n).drop 2 = formB n 2 := by rw [four_form]; rfl
theorem beN_four {n : Nat} (h : n < 4294967296) : beN (fourB n) 0 = n := by rw [four_form, formB_be n 4 (by decide)]; exact Nat.mod_eq_of_lt h
theorem four_of {l : List UInt8} (h : l.length = 4) : fourB (beN l 0) = l := by rw [four_form, ← h]; exact formB_of l (by omega)
theorem span_of_bytes {x : Span} (h : SpOk x) : spanOf (spanBytes x) = x := by
  unfold SpOk at h
  have e1 : (spanBytes x).getD 0 0 = UInt8.ofNat (x.node.toNat % 256) := rfl
  have e2 : ((spanBytes x).drop 1).take 4 = fourB x.frm.toNat := rfl
  have e3 : (spanBytes x).drop 5 = fourB x.to.toNat := rfl
  unfold spanOf
  rw [e1, e2, e3, beN_four (by omega), beN_four (by omega), byte_nat (Nat.mod_lt _ (by decide)), Nat.mod_eq_of_lt (by omega)]
  cases x
  simp only [Span.mk.injEq] at h ⊢
  omega
theorem bytes_of_span {p : List UInt8} (h : p.length = 9) : spanBytes (spanOf p) = p := by
  have hn : (spanOf p).node.toNat = (p.getD 0 0).toNat := rfl
  have hf : (spanOf p).frm.toNat = beN ((p.drop 1).take 4) 0 := rfl
  have ht : (spanOf p).to.toNat = beN (p.drop 5) 0 := rfl
  have e : spanBytes (spanOf p) = [UInt8.ofNat ((spanOf p).node.toNat % 256)] ++ (fourB (spanOf p).frm.toNat ++ fourB (spanOf p).to.toNat) := rfl
  rw [e, hn, hf, ht, four_of (by rw [List.length_take, List.length_drop]; omega), four_of (by rw [List.length_drop]; omega)]
  have hc := u8_lt (p.getD 0 0)
  rw [Nat.mod_eq_of_lt hc, UInt8.ofNat_toNat]
  match p, h with
  | [a, b, c, d, e, f, g, i, j], _ => rfl
theorem spansOf_flat : ∀ (xs : List Span), (∀ x ∈ xs, SpOk x) → spansOf (xs.flatMap spanBytes) xs.length = xs
  | [], _ => rfl
  | x :: xs, h => by
    have hx := h x List.mem_cons_self
    have ih := spansOf_flat xs fun y hy => h y (List.mem_cons_of_mem _ hy)
    have hp : ∀ i, pieceC ((x :: xs).flatMap spanBytes) (i + 1) = pieceC (xs.flatMap spanBytes) i := fun i => by
      unfold pieceC
      rw [List.flatMap_cons, List.drop_append, List.drop_of_length_le (by rw [span_len]; omega), span_len, List.nil_append]
      have : 9 * (i + 1) - 9 = 9 * i := by omega
      rw [this]
    have hp0 : pieceC ((x :: xs).flatMap spanBytes) 0 = spanBytes x := by
      unfold pieceC
      rw [List.flatMap_cons, Nat.mul_zero, List.drop_zero, List.take_append_of_le_length (by rw [span_len]; exact Nat.le_refl _), List.take_of_length_le (by rw [span_len]; exact Nat.le_refl _)]
    unfold spansOf at ih ⊢
    rw [List.length_cons, List.range_succ_eq_map, List.map_cons, List.map_map, hp0, span_of_bytes hx]
    congr 1
theorem flat_spansOf : ∀ (n : Nat) (b : List UInt8), b.length = 9 * n → (spansOf b n).flatMap spanBytes = b
  | 0, b, h => by
    have : b = [] := List.length_eq_zero_iff.1 (by omega)
    subst this; rfl
  | n + 1, b, h => by
    have ih := flat_spansOf n (b.drop 9) (by rw [List.length_drop]; omega)
    have hp : ∀ i, pieceC b (i + 1) = pieceC (b.drop 9) i := fun i => by
      unfold pieceC
      rw [List.drop_drop]
      have : 9 * (i + 1) = 9 + 9 * i := by omega
      rw [this]
    unfold spansOf at ih ⊢
    rw [List.range_succ_eq_map, List.map_cons, List.map_map, List.flatMap_cons]
    have : (fun i => spanOf (pieceC b i)) ∘ Nat.succ = fun i => spanOf (pieceC (b.drop 9) i) := by
      funext i; show spanOf (pieceC b (i + 1)) = _; rw [hp i]
    rw [this, ih, bytes_of_span (by unfold pieceC; rw [List.length_take, List.length_drop]; omega)]
    unfold pieceC
    rw [Nat.mul_zero, List.drop_zero]
    exact List.take_append_drop 9 b
theorem all_sp : ∀ {p : Option Span} {l : List Span}, pastFrom p l = true → ∀ x ∈ l, SpOk x
  | p, [], _, x, hx => by cases hx
  | p, y :: r, h, x, hx => by
    simp only [pastFrom, Bool.and_eq_true, Bool.not_eq_true'] at h
    rcases List.mem_cons.1 hx with rfl | hx
    · have := h.1.1
      simp only [spanBad, Bool.or_eq_false_iff, decide_eq_false_iff_not] at this
      unfold SpOk; omega
    · exact all_sp h.2 x hx
theorem past_wr {xs : List Span} (h : pastOk xs = true) : pastRd (pastB xs) = (xs, (0, 0)) := by
  have h' := h
  simp only [pastOk, Bool.and_eq_true, decide_eq_true_eq] at h'
  have hlen := past_len xs
  have h2 : (fourB xs.length).drop 2 = formB xs.length 2 := two_form _
  have ht : (pastB xs).take 2 = formB xs.length 2 := by
    unfold pastB
    rw [h2, List.take_append_of_le_length (by rw [formB_len]; exact Nat.le_refl _), List.take_of_length_le (by rw [formB_len]; exact Nat.le_refl _)]
  have hd : (pastB xs).drop 2 = xs.flatMap spanBytes := by
    unfold pastB
    rw [h2, List.drop_append, List.drop_of_length_le (by rw [formB_len]; exact Nat.le_refl _), formB_len]; rfl
  have hn : beN ((pastB xs).take 2) 0 = xs.length := by
    rw [ht, formB_be _ 2 (by decide)]
    exact Nat.mod_eq_of_lt (by omega)
  unfold pastRd
  rw [if_neg (by omega), hn, if_pos (by omega), hd, spansOf_flat xs (all_sp h'.2), if_pos h]
theorem past_rd {b : List UInt8} (h : (pastRd b).2.1 = 0) : pastOk (pastRd b).1 = true ∧ b = pastB (pastRd b).1 := by
  unfold pastRd at h ⊢
  by_cases h2 : b.length < 2
  · rw [if_pos h2] at h; cases h
  · rw [if_neg h2] at h ⊢
    by_cases he : b.length = 2 + 9 * beN (b.take 2) 0
    · rw [if_pos he] at h ⊢
      cases hok : pastOk (spansOf (b.drop 2) (beN (b.take 2) 0)) with
      | false => rw [hok, if_neg (by decide)] at h; cases h
      | true =>
        rw [if_pos rfl]
        refine ⟨hok, ?_⟩
        have hl : (spansOf (b.drop 2) (beN (b.take 2) 0)).length = beN (b.take 2) 0 := by unfold spansOf; rw [List.length_map, List.length_range]
        have h2l : (b.take 2).length = 2 := by rw [List.length_take]; omega
        have ht : (fourB (beN (b.take 2) 0)).drop 2 = b.take 2 := by
          rw [two_form]
          have := formB_of (b.take 2) (by omega)
          rw [h2l] at this; exact this
        show b = pastB (spansOf (b.drop 2) (beN (b.take 2) 0))
        unfold pastB
        rw [hl, ht, flat_spansOf _ _ (by rw [List.length_drop]; omega), List.take_append_drop]
    · rw [if_neg he] at h; cases h
end Go.Proofs.YtmgmbdnhodicjaaGreatDoor
end

section
namespace Go.Proofs.YtmgmbdnhodicjaaGreatDoor
open Go Go.Am Go.Pm
set_option maxHeartbeats 1000000
set_option maxRecDepth 100000
def sumP (l : List (List UInt8)) : Nat := (l.map List.length).sum
theorem parts_len : ∀ (s : List UInt8), s.length + 1 = sumP (parts s) + (parts s).length
  | [] => rfl
  | c :: r => by
    have ih := parts_len r
    unfold parts
    by_cases hc : c = 47
    · rw [if_pos hc]
      simp only [sumP, List.map_cons, List.sum_cons, List.length_nil, List.length_cons] at ih ⊢
      omega
    · rw [if_neg hc]
      cases hp : parts r with
      | nil => rw [hp] at ih; simp [sumP] at ih
      | cons p ps =>
        rw [hp] at ih
        simp only [sumP, List.map_cons, List.sum_cons, List.length_cons] at ih ⊢
        omega
theorem folds_len : ∀ (l : List (List UInt8)) (n m : Nat), folds nxtP n l = some m → n + l.length = m ∧ m ≤ max n 6 ∧ sumP l ≤ 12 * l.length
  | [], n, m, h => by cases h; exact ⟨rfl, by omega, Nat.le_refl _⟩
  | p :: ps, n, m, h => by
    unfold folds at h
    split at h
    · rename_i n' hn'
      obtain ⟨h1, h2, h3⟩ := folds_len ps n' m h
      unfold nxtP at hn'
      split at hn'
      · cases hn'
      · rename_i hc
        cases hn'
        simp only [Bool.or_eq_true, decide_eq_true_eq, Bool.not_eq_true', not_or, Bool.not_eq_false] at hc
        obtain ⟨hc1, hc2⟩ := hc
        have hp : p.length ≤ 12 := by
          simp only [partOk, Bool.and_eq_true, decide_eq_true_eq] at hc2
          omega
        simp only [List.length_cons, sumP, List.map_cons, List.sum_cons] at h3 ⊢
        refine ⟨by omega, by omega, ?_⟩
        have : (ps.map List.length).sum ≤ 12 * ps.length := h3
        omega
    · cases h
theorem path_len {s : List UInt8} (h : pathOk s = true) : s.length ≤ 77 := by
  unfold pathOk at h
  cases hq : folds nxtP 0 (parts s) with
  | none => rw [hq] at h; cases h
  | some m =>
    obtain ⟨h1, h2, h3⟩ := folds_len _ _ _ hq
    have := parts_len s
    omega
theorem ev_wr {e : Ev} (h : evOk e = true) : evRd (evBytes e) = (e, (0, 0)) := by
  have h' := h
  simp only [evOk, Bool.and_eq_true] at h'
  obtain ⟨hd, hp, hf, hps, _⟩ := h'
  obtain ⟨a1, a2, a3, a4⟩ := dot_nn hd
  have hpl := path_len hp
  obtain ⟨b1, b2, b3, b4, b5⟩ := eff_nn hf
  have hel := effB_len e.kind e.mode e.bytes
  have hpl2 := past_len e.past
  have hps' := hps
  simp only [pastOk, Bool.and_eq_true, decide_eq_true_eq] at hps'
  have hn : ((e.node.toNat : Nat) : Int) = e.node := by omega
  have hs : ((e.seq.toNat : Nat) : Int) = e.seq := by omega
  generalize hX : effB e.kind e.mode e.bytes = X at *
  generalize hY : pastB e.past = Y at *
  have eB : evBytes e = form e.node.toNat ++ form e.seq.toNat ++ rawB e.path ++ rawB X ++ rawB Y := by unfold evBytes; rw [hX, hY]
  have e1 : evBytes e = [] ++ (form e.node.toNat ++ (form e.seq.toNat ++ rawB e.path ++ rawB X ++ rawB Y)) := by rw [eB]; simp only [List.append_assoc, List.nil_append]
  have e2 : evBytes e = form e.node.toNat ++ (form e.seq.toNat ++ (rawB e.path ++ rawB X ++ rawB Y)) := by rw [eB]; simp only [List.append_assoc]
  have e3 : evBytes e = (form e.node.toNat ++ form e.seq.toNat) ++ (rawB e.path ++ (rawB X ++ rawB Y)) := by rw [eB]; simp only [List.append_assoc]
  have e4 : evBytes e = (form e.node.toNat ++ form e.seq.toNat ++ rawB e.path) ++ (rawB X ++ rawB Y) := by rw [eB]; simp only [List.append_assoc]
  have e5 : evBytes e = (form e.node.toNat ++ form e.seq.toNat ++ rawB e.path ++ rawB X) ++ (rawB Y ++ []) := by rw [eB, List.append_nil]
  have n1 := num_wr (n := e.node.toNat) (by omega) [] (form e.seq.toNat ++ rawB e.path ++ rawB X ++ rawB Y) (lo := 1) (hi := 200) (by omega) (by omega)
  rw [← e1, List.length_nil, Nat.zero_add] at n1
  have n2 := num_wr (n := e.seq.toNat) (by omega) (form e.node.toNat) (rawB e.path ++ rawB X ++ rawB Y) (lo := 1) (hi := 2147483647) (by omega) (by omega)
  rw [← e2, ← List.length_append] at n2
  have n3 := raw_wr (l := e.path) (by omega) (form e.node.toNat ++ form e.seq.toNat) (rawB X ++ rawB Y) (most := 77) (by omega)
  rw [← e3, ← List.length_append] at n3
  have n4 := raw_wr (l := X) (by omega) (form e.node.toNat ++ form e.seq.toNat ++ rawB e.path) (rawB Y) (most := 1100) (by omega)
  rw [← e4, ← List.length_append] at n4
  have n5 := raw_wr (l := Y) (by omega) (form e.node.toNat ++ form e.seq.toNat ++ rawB e.path ++ rawB X) [] (most := 40000) (by omega)
  rw [← e5, ← List.length_append] at n5
  have hR : evR (evBytes e) = ⟨(e.node, ⟨(form e.node.toNat).length, 0, 0⟩), (e.seq, ⟨(form e.node.toNat ++ form e.seq.toNat).length, 0, 0⟩), (e.path, ⟨(form e.node.toNat ++ form e.seq.toNat ++ rawB e.path).length, 0, 0⟩), (X, ⟨(form e.node.toNat ++ form e.seq.toNat ++ rawB e.path ++ rawB X).length, 0, 0⟩), (Y, ⟨(form e.node.toNat ++ form e.seq.toNat ++ rawB e.path ++ rawB X ++ rawB Y).length, 0, 0⟩)⟩ := by
    unfold evR
    rw [numS_val n1]; dsimp only
    rw [numS_val n2]; dsimp only
    rw [rawS_val n3]; dsimp only
    rw [rawS_val n4]; dsimp only
    rw [rawS_val n5, hn, hs]
  have hend : endF (evBytes e) (evR (evBytes e)).s5.2 = (0, 0) := by
    rw [hR]
    unfold endF
    rw [if_neg (fun h => by have := h.2; dsimp only at this; rw [eB] at this; omega)]
  have hx : effT X = (⟨e.kind, e.mode, e.bytes⟩, (0, 0)) := by rw [← hX]; exact eff_wr hf
  have hy : pastRd Y = (e.past, (0, 0)) := by rw [← hY]; exact past_wr hps
  have hof : evOf (evR (evBytes e)) = e := by
    unfold evOf
    rw [hR]; dsimp only
    rw [hx, hy]
  unfold evRd
  rw [hend, if_pos rfl, hof, hR]
  dsimp only
  rw [hx, hy, if_pos ⟨rfl, rfl, h⟩]
theorem ev_rd {b : List UInt8} (hb : b.length ≤ 1000000) (h : (evRd b).2.1 = 0) : evOk (evRd b).1 = true ∧ b = evBytes (evRd b).1 := by
  unfold evRd at h ⊢
  by_cases hend : (endF b (evR b).s5.2).1 = 0
  · rw [if_pos hend] at h ⊢
    by_cases hall : (effT (evR b).s4.1).2.1 = 0 ∧ (pastRd (evR b).s5.1).2.1 = 0 ∧ evOk (evOf (evR b)) = true
    · rw [if_pos hall]
      obtain ⟨hx, hy, hok⟩ := hall
      refine ⟨hok, ?_⟩
      obtain ⟨h5, hlen⟩ := endF_zero hend
      have h5' : (rawS b (rawS b (rawS b (numS b (numS b ⟨0, 0, 0⟩ 1 200).2 1 2147483647).2 77).2 1100).2 40000).2.e = 0 := h5
      obtain ⟨h4, l5, p5, r5, v5⟩ := rawS_step h5'
      obtain ⟨h3, l4, p4, r4, v4⟩ := rawS_step h4
      obtain ⟨h2, l3, p3, r3, v3⟩ := rawS_step h3
      obtain ⟨h1, n2, p2, r2, v2⟩ := numS_step h2
      obtain ⟨_, n1, p1, r1, v1⟩ := numS_step h1
      rw [v1] at r2 v2 r3 v3 r4 v4 r5 v5
      dsimp only at r2
      rw [v2] at r3 v3 r4 v4 r5 v5
      dsimp only at r3
      rw [v3] at r4 v4 r5 v5
      dsimp only at r4
      rw [v4] at r5 v5
      dsimp only at r5
      have hR : evR b = ⟨((n1 : Nat), ⟨p1, 0, 0⟩), ((n2 : Nat), ⟨p2, 0, 0⟩), (l3, ⟨p3, 0, 0⟩), (l4, ⟨p4, 0, 0⟩), (l5, ⟨p5, 0, 0⟩)⟩ := by
        unfold evR
        rw [v1]; dsimp only
        rw [v2]; dsimp only
        rw [v3]; dsimp only
        rw [v4]; dsimp only
        rw [v5]
      rw [hR] at hlen hx hy ⊢
      dsimp only at hlen hx hy
      have o1 := numF_ok r1
      have o2 := numF_ok r2
      have d1 := num_rd r1 (by omega)
      have d2 := num_rd r2 (by omega)
      have d3 := raw_rd hb r3
      have d4 := raw_rd hb r4
      have d5 := raw_rd hb r5
      rw [List.drop_zero] at d1
      rw [List.drop_of_length_le hlen, List.append_nil] at d5
      have hl4 : l4.length ≤ 1000000 := by have := rawF_len r4; omega
      obtain ⟨_, x2⟩ := eff_rd hl4 hx
      obtain ⟨_, y2⟩ := past_rd hy
      show b = evBytes (evOf _)
      unfold evBytes evOf
      dsimp only
      rw [← x2, ← y2]
      rw [d1, d2, d3, d4, d5]
      simp only [List.append_assoc]
      rfl
    · rw [if_neg hall] at h; cases h
  · rw [if_neg hend] at h; exact absurd h hend
end Go.Proofs.YtmgmbdnhodicjaaGreatDoor
end

section
namespace Go.Proofs.YtmgmbdnhodicjaaGreatDoor
open Go Go.Am Go.Pm
set_option maxHeartbeats 4000000
set_option maxRecDepth 1000000
theorem known_run8 : isLeaf (.bool true) (runD env 1000000 1000 8 []) = true := by kernel_rfl
theorem known_pure8 : PureE Tryz.prog env.ng 8 [] (.bool true) := sure0.pure 1000000 1000 known_run8
theorem known8 : PTp env Tryz.prog 8 [] (bv true) := PTp.of_pure env_ok fn8 known_pure8 rfl
end Go.Proofs.YtmgmbdnhodicjaaGreatDoor
end

section
namespace Go.Proofs.YtmgmbdnhodicjaaGreatDoor
open Go Go.Am Go.Pm
set_option maxHeartbeats 4000000
set_option maxRecDepth 100000
def rsIn (b : List UInt8) (s : RS) : Prop := s.p ≤ b.length ∧ s.f ≤ b.length
theorem numF_in {b : List UInt8} {p : Nat} {lo hi e : Int} {f : Nat} (hp : p ≤ b.length) (h : numF b p lo hi = .error (e, f)) : f ≤ b.length := by
  unfold numF at h
  split at h
  · cases h; exact Nat.le_refl _
  · split at h
    · cases h; exact hp
    · split at h
      · cases h; exact Nat.le_refl _
      · split at h
        · cases h; exact hp
        · dsimp only at h
          split at h
          · cases h; exact hp
          · cases h
theorem rawF_in {b : List UInt8} {p : Nat} {most e : Int} {f : Nat} (hp : p ≤ b.length) (h : rawF b p most = .error (e, f)) : f ≤ b.length := by
  unfold rawF at h
  split at h
  · rename_i x hq
    cases h
    exact numF_in hp hq
  · split at h
    · cases h; exact hp
    · split at h
      · cases h; exact Nat.le_refl _
      · cases h
theorem numS_in {b : List UInt8} {s : RS} {lo hi : Int} (h : rsIn b s) : rsIn b (numS b s lo hi).2 := by
  unfold numS
  split
  · split
    · rename_i e f hq
      exact ⟨h.1, numF_in h.1 hq⟩
    · rename_i n p hq
      exact ⟨(numF_ok hq).2.1, Nat.zero_le _⟩
  · exact h
theorem rawS_in {b : List UInt8} {s : RS} {most : Int} (h : rsIn b s) : rsIn b (rawS b s most).2 := by
  unfold rawS
  split
  · split
    · rename_i e f hq
      exact ⟨h.1, rawF_in h.1 hq⟩
    · rename_i l p hq
      exact ⟨(rawF_ok hq).2.1, Nat.zero_le _⟩
  · exact h
theorem evRd_fault {b : List UInt8} (h : (evRd b).2.1 ≠ 0) : (evRd b).1 = zeroE ∧ (evRd b).2.2 ≤ b.length := by
  have hin : rsIn b (evR b).s5.2 := rawS_in (rawS_in (rawS_in (numS_in (numS_in ⟨Nat.zero_le _, Nat.zero_le _⟩))))
  unfold evRd at h ⊢
  split
  · rename_i h0
    rw [if_pos h0] at h
    split
    · rename_i h1
      rw [if_pos h1] at h
      exact absurd rfl h
    · exact ⟨rfl, Nat.zero_le _⟩
  · refine ⟨rfl, ?_⟩
    unfold endF
    split
    · exact hin.1
    · exact hin.2
theorem evOk_path {e : Ev} (h : evOk e = true) : pathOk e.path = true := by
  simp only [evOk, Bool.and_eq_true] at h
  exact h.2.1
theorem not_long1 {a : Ev} (h : longEvs 1 [a] = false) : a.path.length ≤ 100 ∧ a.past.length ≤ 100 := by
  simp only [longEvs, anyL, Bool.or_eq_false_iff, evLong, decide_eq_false_iff_not] at h
  omega
theorem spans_refl : ∀ (l : List Span), spansEq l l = true
  | [] => rfl
  | x :: l => by simp [spansEq, spanEq, spans_refl l]
theorem ev_refl (e : Ev) : evEq e e = true := by simp [evEq, spans_refl]
theorem back4 {M : PMem} {k : Nat} {b : List UInt8} (hb : b.length ≤ 4000) (hf : fresh M k) {tm : List (Nat × PV)} {os : List Pm.Obj} {r1 r2 r3 : Pm.Obj} (hos : os = [r1] ∨ os = [r1, r2, r3]) (t1 : tget tm 1 = encBytes b) (t5 : tget tm 5 = bv true) :
    RX env Tryz.prog none c9_34 ⟨tm, 97, k, os, M⟩ (ends env ⟨97, [.tmp 4], body9⟩ (fun x M1 => x = bv true ∧ M1 = M)) := by
  rcases hos with rfl | rfl
  · refine RX.of env_ok ?_
    cases hq : evRd b with
    | mk x f =>
    obtain ⟨fe, ff⟩ := f
    have hrd := event_read b (by omega)
    have hft := evRd_fault (b := b)
    rw [hq] at hrd hft
    dsimp only at hrd hft
    have hst7 : ∀ {e : Ev}, storeO 7 0 (encEv e) (some (.row .rw 0 [.v (.int .i64 0), .v (.int .i64 0), .v (.string ⟨#[]⟩), .v (.int .i64 0), .v (.int .i64 0), .lst .full 0 0 [], .lst .full 0 0 []])) = some (.row .rw 0 (evCells e)) := fun {e} => storeO_eq (n := 7) (x := encEv e) ⟨rfl, Nat.le_refl 7, rfl⟩
    have hst2 : ∀ {x y : Int}, storeO 2 0 (.agg [iv x, iv y]) (some (.row .rw 0 [iv 0, iv 0])) = some (.row .rw 0 [iv x, iv y]) := fun {x y} => storeO_eq (n := 2) ⟨rfl, Nat.le_refl 2, rfl⟩
    have h7 : ∀ {e : Ev}, ptake true 7 (evCells e) 0 = some (encEv e) := fun {e} => rfl
    simp only [G0, Nat.reduceLT, Nat.reduceEqDiff, Nat.reduceAdd, Nat.reduceLeDiff, Nat.reduceMul, t1]
    refine cp0 hrd (by decide) ?_
    by_cases h0 : fe = 0
    · subst h0
      have e0 : ((0 : Int) != 0) = false := by decide
      have hw := ev_rd (b := b) (by omega) (by rw [hq])
      rw [hq] at hw
      obtain ⟨hok, hbb⟩ := hw
      dsimp only at hok hbb
      have hpx : x.path.length ≤ 1000 := by
        have := path_len (evOk_path hok); omega
      simp only [G0, Nat.reduceLT, Nat.reduceEqDiff, Nat.reduceAdd, Nat.reduceLeDiff, Nat.reduceMul, hst7, hst2, e0]
      simp only [h7]
      simp only [G0, Nat.reduceLT, Nat.reduceEqDiff, Nat.reduceAdd, Nat.reduceLeDiff, Nat.reduceMul, h7]
      refine cp0 (event_bytes x hok hpx) (by decide) ?_
      have e00 : ((0 : Int) == 0) = true := by decide
      simp only [G0, Nat.reduceLT, Nat.reduceEqDiff, Nat.reduceAdd, Nat.reduceLeDiff, Nat.reduceMul, t1, t5, e00, Bool.true_and, cnd_t]
      refine cp0 (same_bytes (evBytes x) b) (by decide) ?_
      have hsame : (evBytes x == b) = true := by rw [← hbb]; exact beq_self_eq_true b
      rw [hsame]
      simp only [G0, Nat.reduceLT, Nat.reduceEqDiff, Nat.reduceAdd, Nat.reduceLeDiff, Nat.reduceMul, t5, Bool.true_and, cnd_t]
      exact end1 hf rfl ⟨rfl, rfl⟩
    · have e1 : (fe != 0) = true := by simp [h0]
      obtain ⟨hx, hfl⟩ := hft h0
      subst hx
      have hge : ((ff : Nat) : Int) ≥ 0 := by omega
      have hle : ((ff : Nat) : Int) ≤ (b.length : Nat) := by omega
      have hz : evCells zeroE = [iv 0, iv 0, str [], iv 0, iv 0, encBytes [], encSpans []] := rfl
      have hemp : ∀ {t : Nat} {c d : Bool}, pbin env .eql t c d (str []) (.v (.string ⟨#[]⟩)) = some (bv true) := fun {t c d} => by
        have := str_eql (E := env) (t := t) (c := c) (d := d) (a := []) (b := [])
        exact this
      simp only [G0, Nat.reduceLT, Nat.reduceEqDiff, Nat.reduceAdd, Nat.reduceLeDiff, Nat.reduceMul, hst7, hst2, e1, hz]
      simp only [G0, Nat.reduceLT, Nat.reduceEqDiff, Nat.reduceAdd, Nat.reduceLeDiff, Nat.reduceMul, t1, t5, encBytes, hemp, hge, hle, decide_true, Bool.true_and, cnd_t]
      exact end1 hf rfl ⟨rfl, rfl⟩
  · refine RX.of env_ok ?_
    cases hq : evRd b with
    | mk x f =>
    obtain ⟨fe, ff⟩ := f
    have hrd := event_read b (by omega)
    have hft := evRd_fault (b := b)
    rw [hq] at hrd hft
    dsimp only at hrd hft
    have hst7 : ∀ {e : Ev}, storeO 7 0 (encEv e) (some (.row .rw 0 [.v (.int .i64 0), .v (.int .i64 0), .v (.string ⟨#[]⟩), .v (.int .i64 0), .v (.int .i64 0), .lst .full 0 0 [], .lst .full 0 0 []])) = some (.row .rw 0 (evCells e)) := fun {e} => storeO_eq (n := 7) (x := encEv e) ⟨rfl, Nat.le_refl 7, rfl⟩
    have hst2 : ∀ {x y : Int}, storeO 2 0 (.agg [iv x, iv y]) (some (.row .rw 0 [iv 0, iv 0])) = some (.row .rw 0 [iv x, iv y]) := fun {x y} => storeO_eq (n := 2) ⟨rfl, Nat.le_refl 2, rfl⟩
    have h7 : ∀ {e : Ev}, ptake true 7 (evCells e) 0 = some (encEv e) := fun {e} => rfl
    simp only [G0, Nat.reduceLT, Nat.reduceEqDiff, Nat.reduceAdd, Nat.reduceLeDiff, Nat.reduceMul, t1]
    refine cp0 hrd (by decide) ?_
    by_cases h0 : fe = 0
    · subst h0
      have e0 : ((0 : Int) != 0) = false := by decide
      have hw := ev_rd (b := b) (by omega) (by rw [hq])
      rw [hq] at hw
      obtain ⟨hok, hbb⟩ := hw
      dsimp only at hok hbb
      have hpx : x.path.length ≤ 1000 := by
        have := path_len (evOk_path hok); omega
      simp only [G0, Nat.reduceLT, Nat.reduceEqDiff, Nat.reduceAdd, Nat.reduceLeDiff, Nat.reduceMul, hst7, hst2, e0]
      simp only [h7]
      simp only [G0, Nat.reduceLT, Nat.reduceEqDiff, Nat.reduceAdd, Nat.reduceLeDiff, Nat.reduceMul, h7]
      refine cp0 (event_bytes x hok hpx) (by decide) ?_
      have e00 : ((0 : Int) == 0) = true := by decide
      simp only [G0, Nat.reduceLT, Nat.reduceEqDiff, Nat.reduceAdd, Nat.reduceLeDiff, Nat.reduceMul, t1, t5, e00, Bool.true_and, cnd_t]
      refine cp0 (same_bytes (evBytes x) b) (by decide) ?_
      have hsame : (evBytes x == b) = true := by rw [← hbb]; exact beq_self_eq_true b
      rw [hsame]
      simp only [G0, Nat.reduceLT, Nat.reduceEqDiff, Nat.reduceAdd, Nat.reduceLeDiff, Nat.reduceMul, t5, Bool.true_and, cnd_t]
      exact end1 hf rfl ⟨rfl, rfl⟩
    · have e1 : (fe != 0) = true := by simp [h0]
      obtain ⟨hx, hfl⟩ := hft h0
      subst hx
      have hge : ((ff : Nat) : Int) ≥ 0 := by omega
      have hle : ((ff : Nat) : Int) ≤ (b.length : Nat) := by omega
      have hz : evCells zeroE = [iv 0, iv 0, str [], iv 0, iv 0, encBytes [], encSpans []] := rfl
      have hemp : ∀ {t : Nat} {c d : Bool}, pbin env .eql t c d (str []) (.v (.string ⟨#[]⟩)) = some (bv true) := fun {t c d} => by
        have := str_eql (E := env) (t := t) (c := c) (d := d) (a := []) (b := [])
        exact this
      simp only [G0, Nat.reduceLT, Nat.reduceEqDiff, Nat.reduceAdd, Nat.reduceLeDiff, Nat.reduceMul, hst7, hst2, e1, hz]
      simp only [G0, Nat.reduceLT, Nat.reduceEqDiff, Nat.reduceAdd, Nat.reduceLeDiff, Nat.reduceMul, t1, t5, encBytes, hemp, hge, hle, decide_true, Bool.true_and, cnd_t]
      exact end1 hf rfl ⟨rfl, rfl⟩
end Go.Proofs.YtmgmbdnhodicjaaGreatDoor
end

section
namespace Go.Am
open Go Go.ChangeShapes Go.WideShapes Go.RowKit
variable {H : Type} {enc : TypeId × Value → H}
theorem keptBut_of_blocks {W W' : World} {may : MemPlace → Prop} (hos : W'.os = W.os) (hout : W'.output = W.output) (hb : ∀ b, b < W.heap.size → W'.heap[b]? = W.heap[b]?) : W.keptBut W' may := by
  refine ⟨hos, hout, fun i hi => ?_⟩
  rw [hb i hi]
  exact (World.keptBut_refl W may).2.2 i hi
theorem ShapedOpen.size {P : Program} {W : World} (h : W.ShapedOpen P) {g : Nat} {zero : Array Value} {t : TypeId} (hg : g < P.globals.size)
    (h0 : (((begin P (fun _ _ => 0) default).world).heap[g]?).bind Obj.row? = some (zero, t)) : g + 1 ≤ W.heap.size := by
  obtain ⟨cs, e, _⟩ := h.1 g zero t hg h0
  rcases Nat.lt_or_ge g W.heap.size with hx | hx
  · exact hx
  · rw [Array.getElem?_eq_none hx] at e; cases e
theorem returnsInHanded_of_change_both {a : Assume} {C : Checked} {os : Os} {f : FuncId} {fn : Func} {s : ChangeSpec} {conds : List PathCond} {apart fresh handsOn again : Bool} {X : World → Array Value → Prop}
    (hX : ∀ (w w' : World) (args : Array Value), w.heap = w'.heap → X w args → X w' args)
    (own : ownKnob C.prog.godebug = none) (started : os.Started) (noInit : C.prog.inits.idxOf? f = none) (hfn : C.prog.funcs[f]? = some fn)
    (witness : ∃ (w : World) (tape : Tape) (i : Input), w.os = os ∧ (w.forCall tape i).Shaped C.prog ∧ i.vars = [] ∧ Input.okWide C.prog (w.forCall tape i) .any w.heap.size f i ∧
      ((s.pre enc C.prog fn conds apart (w.forCall tape i).memory i.args ∧ X (w.forCall tape i).memory i.args) ∧ sizedMet enc C.prog fn (OpenSpec.ofChange s) apart (w.forCall tape i).memory i.args) ∧ a.holds C.prog (lone (Frame.enter C.prog f i.args .normal) [] (w.forCall tape i)))
    (contract : ∀ (W : World) (base : Nat) (args : Array Value) (ds gs : List (DataW H)) (before : List MemPlace),
      (∀ (j : Nat) t v, fn.params[j]? = some t → args[j]? = some v → Value.okWide C.prog W .any base t v) →
      DataW.Whole enc C.prog fn.params.toList s.vars apart W args.toList ds gs before →
      conds.all (PathCond.test C.prog ⟨fn.params.toList, ds, s.plain.varTypes C.prog, gs⟩) = true →
      (DataW.weightsEach C.prog (fn.params.toList ++ s.plain.varTypes C.prog) (ds ++ gs)).all (· ≤ reachBytes) = true → X W args →
      W.ShapedOpen C.prog →
      Calls C.prog f args W fun e W' => ∃ v, e = .returned v ∧ s.post enc C.prog fn apart fresh handsOn again W args v W') :
    ReturnsInHanded a C os f .any (fun w args => (s.pre enc C.prog fn conds apart w args ∧ X w args) ∧ sizedMet enc C.prog fn (OpenSpec.ofChange s) apart w args) (s.post enc C.prog fn apart fresh handsOn again) := by
  refine returnsInHanded_of_calls own started noInit witness ?_
  intro w tape i _ hsh _ hok hpre hholds
  obtain ⟨_, _, _, fn', hfn', _, _, _, _, hval⟩ := hok
  have e : fn' = fn := Option.some.inj (hfn'.symm.trans hfn)
  subst e
  obtain ⟨⟨⟨ds, gs, before, hw, hc⟩, hx⟩, hz⟩ := hpre
  have hw' := DataW.Whole.of_heap (w' := w.forCall tape i) (by rfl) hw
  refine (contract (w.forCall tape i) w.heap.size i.args ds gs before hval hw' hc (hz.weights hw) (hX _ _ _ (by rfl) hx) hsh).mono fun e W' ⟨v, he, hp⟩ => ?_
  subst he
  exact ChangeSpec.post_blind hp
end Go.Am
end

section
namespace Go.Am
open Go Go.ChangeShapes Go.WideShapes Go.RowKit
variable {H : Type} {enc : TypeId × Value → H}
theorem trodAll_kept {P : Program} {W W' : World} (hl : laidOutB P = true) (hb : Below W.heap.size W W') : ∀ {ts : List TypeId} {vs : List Value} {ds : List (DataW H)} {ps : List MemPlace},
    (∀ t ∈ ts, P.readableRec t = true ∧ t < P.types.size) → DataW.TrodAll enc P W 0 (fun _ => true) true ts vs ds ps → (∀ x ∈ ps, x.block < W.heap.size) →
    DataW.TrodAll enc P W' 0 (fun b => decide (b < W.heap.size)) true ts vs ds ps
  | [], vs, ds, ps, _, h, _ => by
    obtain ⟨rfl, rfl, rfl⟩ := trodAll_nil h
    exact trodAll_mk0
  | t :: ts, vs, ds, ps, hr, h, hlt => by
    obtain ⟨v, vs', d, ds', p, q, rfl, rfl, rfl, hd, hs⟩ := trodAll_cons h
    obtain ⟨hr1, hr2⟩ := hr t List.mem_cons_self
    exact ⟨p, q, Below.trod hl hr1 hr2 hd hb (fun x hx => hlt x (List.mem_append_left _ hx)),
      trodAll_kept hl hb (fun t ht => hr t (List.mem_cons_of_mem _ ht)) hs (fun x hx => hlt x (List.mem_append_right _ hx)), rfl⟩
theorem trodAll_len {P : Program} {w : World} {base : Nat} {spare : Nat → Bool} {held : Bool} : ∀ {ts : List TypeId} {vs : List Value} {ds : List (DataW H)} {ps : List MemPlace}, DataW.TrodAll enc P w base spare held ts vs ds ps → ds.length = ts.length
  | [], vs, ds, ps, h => by
    obtain ⟨_, rfl, _⟩ := trodAll_nil h
    rfl
  | t :: ts, vs, ds, ps, h => by
    obtain ⟨v, vs', d, ds', p, q, rfl, rfl, rfl, _, h2⟩ := trodAll_cons h
    rw [List.length_cons, List.length_cons, trodAll_len h2]
theorem post_args {P : Program} {f : Func} {s : ChangeSpec} {apart fresh handsOn again : Bool} {W W' : World} {args : Array Value} {ds gs : List (DataW H)} {before : List MemPlace} {t : TypeId}
    (hl : laidOutB P = true) (hp : f.params.toList.all (fun t => P.readableRec t && decide (t < P.types.size)) = true)
    (hr : f.resultTypes = #[t]) (ht : P.underlying t = some .bool) (hv : s.vars = []) (hs : s.fn H ds = { results := [.lit (.bool true)], args := ds })
    (hag : again = false)
    (hW : DataW.Whole enc P f.params.toList s.vars apart W args.toList ds gs before)
    (hos : W'.os = W.os) (htp : W'.tape = W.tape) (hout : W'.output = W.output) (hsz : W.heap.size ≤ W'.heap.size) (hb : ∀ b, b < W.heap.size → W'.heap[b]? = W.heap[b]?) :
    s.post enc P f apart fresh handsOn again W args (.bool true) W' := by
  have hW0 := hW
  obtain ⟨p, q, hA0, hV0, rfl, hfz, hnd⟩ := hW0
  rw [hv] at hV0
  obtain ⟨rfl, rfl⟩ : gs = [] ∧ q = [] := by
    cases gs with
    | nil => exact ⟨rfl, hV0⟩
    | cons g r => exact absurd hV0 (by intro h; cases h)
  have e1 : s.fn H (ds ++ []) = { results := [.lit (.bool true)], args := ds } := by rw [List.append_nil]; exact hs
  refine ⟨ds, [], _, [], p, [], hW, ?_, ?_, ?_, keptBut_of_blocks hos hout hb, fun h => by rw [hag] at h; cases h⟩
  · rw [e1, hr]; exact trodAll_mk1 (shut_bool ht true)
  · rw [e1]
    refine trodAll_kept hl ⟨hos, htp, hout, hsz, hb⟩ (fun t ht => ?_) hA0 (fun x hx => ?_)
    · have := List.all_eq_true.1 hp t ht
      simp only [Bool.and_eq_true, decide_eq_true_eq] at this
      exact this
    · exact hW.lt x (List.mem_append_left _ hx)
  · rw [e1, hv]; rfl
end Go.Am
end

section
namespace Go.Pm
open Go Go.RowKit Go.Am Go.ChangeShapes
def shapeFs (P : Program) (sh : TypeId → Option (List Sh)) : List Field → Nat → Option (List Sh)
  | [], _ => some []
  | f :: fs, n => match sh f.type with
    | some l => if f.offset = n ∧ P.cellsOf f.type = l.length then
        match shapeFs P sh fs (n + l.length) with
        | some l' => some (l ++ l')
        | none => none
      else none
    | none => none
def shapeOf (P : Program) : Nat → TypeId → Option (List Sh)
  | 0, _ => none
  | k + 1, t => match P.underlying t with
    | some .bool => some [.bool]
    | some (.int k) => some [.int k]
    | some .string => some [.str]
    | some (.slice e) => match shapeOf P k e with
      | some l => if P.cellsOf e = l.length ∧ l.length ≠ 0 ∧ l.length < 4096 then some [.sl l] else none
      | none => none
    | some (.struct fs) => match shapeFs P (shapeOf P k) fs.toList 0 with
      | some l => if P.cellsOf t = l.length then some l else none
      | none => none
    | _ => none
theorem shapeFs_ok {P : Program} {sh : TypeId → Option (List Sh)} (h : ∀ t l, sh t = some l → Typ P t l) : ∀ {fs : List Field} {n : Nat} {l : List Sh}, shapeFs P sh fs n = some l → TypFs P fs n l
  | [], n, l, e => by cases e; exact .nil
  | f :: fs, n, l, e => by
    unfold shapeFs at e
    split at e
    · rename_i l1 h1
      split at e
      · rename_i hc
        split at e
        · rename_i l2 h2
          cases e
          exact .cons hc.1 (h _ _ h1) hc.2 (shapeFs_ok h h2)
        · cases e
      · cases e
    · cases e
theorem shapeOf_ok {P : Program} : ∀ (k : Nat) (t : TypeId) (l : List Sh), shapeOf P k t = some l → Typ P t l
  | 0, t, l, e => by cases e
  | k + 1, t, l, e => by
    unfold shapeOf at e
    split at e
    · rename_i hu; cases e; exact .bool hu
    · rename_i hu; cases e; exact .int hu
    · rename_i hu; cases e; exact .str hu
    · rename_i hu
      split at e
      · rename_i l1 h1
        split at e
        · rename_i hc
          cases e
          exact .sl hu (shapeOf_ok k _ _ h1) hc.1 hc.2.1 hc.2.2
        · cases e
      · cases e
    · rename_i hu
      split at e
      · rename_i l1 h1
        split at e
        · rename_i hc
          cases e
          exact .struct hu (shapeFs_ok (shapeOf_ok k) h1) hc
        · cases e
      · cases e
    · cases e
inductive ArgSh where
  | one (s : Sh)
  | agg (l : List Sh)
inductive ShA : ArgSh → DV → Prop where
  | one {s : Sh} {d : DV} (h : ShP s d) : ShA (.one s) d
  | agg {l : List Sh} {ds : List DV} (h : ShPs l ds) : ShA (.agg l) (.agg ds)
inductive ShAs : List ArgSh → List DV → Prop where
  | nil : ShAs [] []
  | cons {s : ArgSh} {d : DV} {l : List ArgSh} {l' : List DV} (h : ShA s d) (hs : ShAs l l') : ShAs (s :: l) (d :: l')
def pvA : ArgSh → DV → PV
  | .one s, d => pvD s d
  | .agg l, .agg ds => .agg (pvs l ds)
  | .agg _, _ => .junk
def pvAs : List ArgSh → List DV → List PV
  | s :: l, d :: l' => pvA s d :: pvAs l l'
  | _, _ => []
def argSh (P : Program) (t : TypeId) : Option ArgSh := match P.underlying t with
  | some (.struct _) => match shapeOf P 20 t with
    | some l => some (.agg l)
    | none => none
  | u => match oneT u, shapeOf P 20 t with
    | true, some [s] => some (.one s)
    | _, _ => none
def argShs (P : Program) : List TypeId → Option (List ArgSh)
  | [] => some []
  | t :: ts => match argSh P t, argShs P ts with
    | some s, some l => some (s :: l)
    | _, _ => none
theorem lay_pra {cx : Cx} (ng : Nat) {s : ArgSh} {d : DV} (h : ShA s d) (R : List (List Value × Nat)) (hH : Holds cx ng (lay ng d R).2) : PR cx (pvA s d) (lay ng d R).1 := by
  cases h with
  | one h => exact lay_pr ng h R hH
  | agg h => exact pvD_agg h hH
theorem lay_pras {cx : Cx} (ng : Nat) : ∀ {l : List ArgSh} {ds : List DV}, ShAs l ds → ∀ R, Holds cx ng (lays ng ds R).2 → PRs cx (pvAs l ds) (lays ng ds R).1
  | _, _, .nil, R, _ => by simp only [lays, pvAs]; exact .nil
  | _, _, .cons (d := d) (l' := ds) h hs, R, hH => by
    simp only [lays] at hH ⊢
    obtain ⟨Y, hY⟩ := lays_grow ng ds (lay ng d R).2
    refine .cons (lay_pra ng h R ?_) (lay_pras ng hs _ hH)
    rw [hY] at hH
    exact hH.left
section
variable {H : Type} {enc : TypeId × Value → H} {P : Program} {W : World}
theorem open_arg {b0 : Nat} {t : TypeId} {s : ArgSh} {v : Value} {d : DataW H} {p : List MemPlace} (hs : argSh P t = some s) (hv : Value.okWide P W .any b0 t v) (h : DataW.Trod enc P W 0 (fun _ => true) true t v d p) : ∃ d, DW W d v ∧ ShA s d := by
  unfold argSh at hs
  split at hs
  · rename_i fs hu
    split at hs
    · rename_i l hl
      cases hs
      obtain ⟨ds, k1, k2⟩ := open_agg (shapeOf_ok _ _ _ hl) hu hv h
      exact ⟨_, k1, .agg k2⟩
    · cases hs
  · split at hs
    · rename_i ho hl
      cases hs
      obtain ⟨d, k1, k2⟩ := open_one (shapeOf_ok _ _ _ hl) ho hv h
      exact ⟨_, k1, .one k2⟩
    · cases hs
theorem open_args {b0 : Nat} : ∀ {ts : List TypeId} {ss : List ArgSh} {vs : List Value} {ds : List (DataW H)} {ps : List MemPlace}, argShs P ts = some ss →
    (∀ (j : Nat) t v, ts[j]? = some t → vs[j]? = some v → Value.okWide P W .any b0 t v) → DataW.TrodAll enc P W 0 (fun _ => true) true ts vs ds ps → ∃ dvs, DWs W dvs vs ∧ ShAs ss dvs
  | [], ss, vs, ds, ps, hs, _, h => by
    cases hs
    obtain ⟨rfl, _, _⟩ := trodAll_nil h
    exact ⟨[], .nil, .nil⟩
  | t :: ts, ss, vs, ds, ps, hs, hv, h => by
    obtain ⟨v, vs', d, ds', p, q, rfl, rfl, rfl, h1, h2⟩ := trodAll_cons h
    unfold argShs at hs
    split at hs
    · rename_i s l e1 e2
      cases hs
      obtain ⟨x, k1, k2⟩ := open_arg e1 (hv 0 t v rfl rfl) h1
      obtain ⟨xs, g1, g2⟩ := open_args e2 (fun j t v a b => hv (j + 1) t v a b) h2
      exact ⟨x :: xs, .cons k1 g1, .cons k2 g2⟩
    · cases hs
end
theorem law_args {H : Type} {enc : TypeId × Value → H} {E : Env} {P : Program} {f : Nat} {x : Fun} {W : World} {ts : List TypeId} {ss : List ArgSh} {args : Array Value} {ds : List (DataW H)} {ps : List MemPlace} {b0 : Nat} (hE : EnvOk E P) (hf : E.fn f = some x) (hW : E.ng ≤ W.heap.size)
    (hs : argShs P ts = some ss) (hv : ∀ (j : Nat) t v, ts[j]? = some t → args.toList[j]? = some v → Value.okWide P W .any b0 t v) (hA : DataW.TrodAll enc P W 0 (fun _ => true) true ts args.toList ds ps)
    (h : ∀ dvs, ShAs ss dvs → PTp E P f (pvAs ss dvs) (.v (.bool true))) :
    Calls P f args W fun e W' => e = .returned (.bool true) ∧ (∀ b, b < W.heap.size → W'.heap[b]? = W.heap[b]?) ∧ W.heap.size ≤ W'.heap.size ∧ W'.os = W.os ∧ W'.tape = W.tape ∧ W'.output = W.output := by
  obtain ⟨dvs, k1, k2⟩ := open_args hs hv hA
  have := law_calls (v := true) hE hf hW k1 (fun cx hH => lay_pras E.ng k2 [] hH) (PT.conseq (h dvs k2 _) fun x M1 ⟨e1, e2⟩ => ⟨x, M1, PLe.refl _, .refl _, e1⟩)
  simpa using this
end Go.Pm
end

section
namespace Go.Proofs.YtmgmbdnhodicjaaGreatDoor
open Go Go.Am Go.Pm
set_option maxHeartbeats 4000000
set_option maxRecDepth 100000
theorem back9 (a : Ev) (b : List UInt8) : PTp env Tryz.prog 9 [encEv a, encBytes b] (bv true) := fun M => by
  have h7 : ∀ {e : Ev}, ptake true 7 (evCells e) 0 = some (encEv e) := fun {e} => rfl
  refine PT.enterR env_ok fn9 (by simp) comp9 fun k hk hf => ?_
  have hbx : ∀ {tm : List (Nat × PV)}, boxS tm 97 k [] M (encEv a) = some (.ptr k 0 0, ⟨tm, 97, k, [.row .rw 0 (evCells a)], M⟩) := fun {tm} => rfl
  refine RX.cut (fun s => ∃ tm, s = ⟨tm, 97, k, [.row .rw 0 (evCells a)], M⟩ ∧ tget tm 1 = encBytes b ∧ tget tm 2 = .ptr k 0 0) (RX.of env_ok ?_) ?_
  · simp only [G0, Nat.reduceLT, Nat.reduceEqDiff, Nat.reduceAdd, Nat.reduceLeDiff, Nat.reduceMul, argsP, hbx]
    exact ⟨_, rfl, rfl, rfl⟩
  rintro s ⟨tm, rfl, t1, t2⟩
  refine RX.cut (fun s => ∃ tm, s = ⟨tm, 97, k, [.row .rw 0 (evCells a)], M⟩ ∧ tget tm 1 = encBytes b ∧ tget tm 2 = .ptr k 0 0 ∧ tget tm 5 = bv true) (RX.of env_ok ?_) ?_
  · simp only [G0, Nat.reduceLT, Nat.reduceEqDiff, Nat.reduceAdd, Nat.reduceLeDiff, Nat.reduceMul, t1, t2]
    refine cp0 known8 (by decide) ?_
    simp only [G0, Nat.reduceLT, Nat.reduceEqDiff, Nat.reduceAdd, Nat.reduceLeDiff, Nat.reduceMul]
    exact ⟨_, rfl, t1, t2, rfl⟩
  rintro s ⟨tm, rfl, t1, t2, t5⟩
  have hfill : fillA 7 [.v (.int .i64 0), .v (.int .i64 0), .v (.string ⟨#[]⟩), .v (.int .i64 0), .v (.int .i64 0), .lst .full 0 0 [], .lst .full 0 0 []] [(0, encEv a)] = some (evCells a) := rfl
  have hlong : PTp env Tryz.prog 30 [.lst .full 7 1 (evCells a), iv 1] (bv (longEvs 1 [a])) := PTp.args (args' := [encEvs [a], iv 1]) (.cons (PLe.no _ _ _ _) (.cons (PLe.refl _) .nil)) (long_events [a] 1 (by decide))
  cases hl : longEvs 1 [a] with
  | true =>
    rw [hl] at hlong
    refine RX.of env_ok ?_
    simp only [G0, Nat.reduceLT, Nat.reduceEqDiff, Nat.reduceAdd, Nat.reduceLeDiff, Nat.reduceMul, t1, t2, t5, h7, hfill]
    refine cp0 hlong (by decide) ?_
    simp only [G0, Nat.reduceLT, Nat.reduceEqDiff, Nat.reduceAdd, Nat.reduceLeDiff, Nat.reduceMul, t1, t5, Bool.not_true, Bool.not_false, cnd_t, cnd_f]
    exact end1 hf rfl ⟨rfl, rfl⟩
  | false =>
    rw [hl] at hlong
    obtain ⟨hap, has⟩ := not_long1 hl
    by_cases h4 : b.length > 4000
    · have h4' : ((b.length : Nat) : Int) > 4000 := by omega
      refine RX.of env_ok ?_
      simp only [G0, Nat.reduceLT, Nat.reduceEqDiff, Nat.reduceAdd, Nat.reduceLeDiff, Nat.reduceMul, t1, t2, t5, h7, hfill]
      refine cp0 hlong (by decide) ?_
      simp only [G0, Nat.reduceLT, Nat.reduceEqDiff, Nat.reduceAdd, Nat.reduceLeDiff, Nat.reduceMul, t1, t5, encBytes, h4', decide_true, Bool.not_true, Bool.not_false, Bool.false_or, cnd_t, cnd_f]
      exact end1 hf rfl ⟨rfl, rfl⟩
    · have h4' : ¬ (((b.length : Nat) : Int) > 4000) := by omega
      refine RX.cut (fun s => ∃ tm, s = ⟨tm, 97, k, [.row .rw 0 (evCells a)], M⟩ ∧ tget tm 1 = encBytes b ∧ tget tm 2 = .ptr k 0 0 ∧ tget tm 5 = bv true) (RX.of env_ok ?_) ?_
      · simp only [G0, Nat.reduceLT, Nat.reduceEqDiff, Nat.reduceAdd, Nat.reduceLeDiff, Nat.reduceMul, t1, t2, t5, h7, hfill]
        refine cp0 hlong (by decide) ?_
        simp only [G0, Nat.reduceLT, Nat.reduceEqDiff, Nat.reduceAdd, Nat.reduceLeDiff, Nat.reduceMul, t1, t5, encBytes, h4', decide_false, Bool.not_true, Bool.not_false, Bool.false_or, cnd_t, cnd_f]
        exact ⟨_, rfl, t1, t2, t5⟩
      rintro s ⟨tm, rfl, t1, t2, t5⟩
      have e00 : ((0 : Int) != 0) = false := by decide
      have e0 : ((0 : Int) == 0) = true := by decide
      have e22 : ((2 : Int) != 2) = false := by decide
      have e2 : ((2 : Int) == 0) = false := by decide
      have hl1 : a.path.length ≤ 1000 := by omega
      have hsz := event_size a hl1
      cases hok : evOk a with
      | true =>
        have hz : evSize a = (evBytes a).length := by unfold evSize; rw [hok]; rfl
        rw [hz] at hsz
        have hbl : (evBytes a).length ≤ 1000000 := by
          have hp := path_len (evOk_path hok)
          have hf' := hok
          simp only [evOk, Bool.and_eq_true] at hf'
          obtain ⟨_, _, b3, _, _⟩ := hf'
          obtain ⟨_, _, _, _, b5⟩ := eff_nn b3
          have h1 := effB_len a.kind a.mode a.bytes
          have h2 := past_len a.past
          have f1 := form_len a.node.toNat
          have f2 := form_len a.seq.toNat
          have f3 := form_len a.path.length
          have f4 := form_len (effB a.kind a.mode a.bytes).length
          have f5 := form_len (pastB a.past).length
          unfold evBytes rawB
          simp only [List.length_append]
          omega
        have hnn : ((((evBytes a).length : Nat) : Int) != (((evBytes a).length : Nat) : Int)) = false := by simp
        have hrd := event_read (evBytes a) hbl
        rw [ev_wr hok] at hrd
        have hst7 : ∀ {e : Ev}, storeO 7 0 (encEv e) (some (.row .rw 0 [.v (.int .i64 0), .v (.int .i64 0), .v (.string ⟨#[]⟩), .v (.int .i64 0), .v (.int .i64 0), .lst .full 0 0 [], .lst .full 0 0 []])) = some (.row .rw 0 (evCells e)) := fun {e} => storeO_eq (n := 7) (x := encEv e) ⟨rfl, Nat.le_refl 7, rfl⟩
        have hst2 : ∀ {x y : Int}, storeO 2 0 (.agg [iv x, iv y]) (some (.row .rw 0 [iv 0, iv 0])) = some (.row .rw 0 [iv x, iv y]) := fun {x y} => storeO_eq (n := 2) ⟨rfl, Nat.le_refl 2, rfl⟩
        refine RX.cut (fun s => ∃ tm, s = ⟨tm, 97, k, [.row .rw 0 (evCells a)], M⟩ ∧ tget tm 1 = encBytes b ∧ tget tm 2 = .ptr k 0 0 ∧ tget tm 5 = bv true ∧ tget tm 6 = encBytes (evBytes a) ∧ tget tm 7 = iv 0) (RX.of env_ok ?_) ?_
        · simp only [G0, Nat.reduceLT, Nat.reduceEqDiff, Nat.reduceAdd, Nat.reduceLeDiff, Nat.reduceMul, t1, t2, t5, h7]
          refine cp0 (event_bytes a hok hl1) (by decide) ?_
          simp only [G0, Nat.reduceLT, Nat.reduceEqDiff, Nat.reduceAdd, Nat.reduceLeDiff, Nat.reduceMul]
          exact ⟨_, rfl, t1, t2, t5, rfl, rfl⟩
        rintro s ⟨tm, rfl, t1, t2, t5, t6, t7⟩
        refine RX.cut (fun s => ∃ tm, s = ⟨tm, 97, k, [.row .rw 0 (evCells a)], M⟩ ∧ tget tm 1 = encBytes b ∧ tget tm 2 = .ptr k 0 0 ∧ tget tm 5 = bv true ∧ tget tm 6 = encBytes (evBytes a) ∧ tget tm 7 = iv 0) (RX.of env_ok ?_) ?_
        · simp only [G0, Nat.reduceLT, Nat.reduceEqDiff, Nat.reduceAdd, Nat.reduceLeDiff, Nat.reduceMul, t2, t6, t7, h7]
          refine cp0 (event_check a (by omega)) (by decide) ?_
          rw [hok]
          have ee : ((0 : Int) != errIf true) = false := by decide
          simp only [G0, Nat.reduceLT, Nat.reduceEqDiff, Nat.reduceAdd, Nat.reduceLeDiff, Nat.reduceMul, ee, t2, h7, Bool.not_true, Bool.not_false, cnd_t, cnd_f]
          refine cp0 hsz (by decide) ?_
          simp only [G0, Nat.reduceLT, Nat.reduceEqDiff, Nat.reduceAdd, Nat.reduceLeDiff, Nat.reduceMul, t6, encBytes, hnn, Bool.not_true, Bool.not_false, Bool.false_or, cnd_t, cnd_f]
          exact ⟨_, rfl, t1, t2, t5, t6, t7⟩
        rintro s ⟨tm, rfl, t1, t2, t5, t6, t7⟩
        refine RX.cut (fun s => ∃ tm r2 r3, s = ⟨tm, 97, k, [.row .rw 0 (evCells a), r2, r3], M⟩ ∧ tget tm 1 = encBytes b ∧ tget tm 5 = bv true) (RX.of env_ok ?_) ?_
        · simp only [G0, Nat.reduceLT, Nat.reduceEqDiff, Nat.reduceAdd, Nat.reduceLeDiff, Nat.reduceMul, t2, t6, t7, e0]
          refine cp0 hrd (by decide) ?_
          simp only [G0, Nat.reduceLT, Nat.reduceEqDiff, Nat.reduceAdd, Nat.reduceLeDiff, Nat.reduceMul, hst7, hst2, e00, t2, h7, Bool.not_true, Bool.not_false, cnd_t, cnd_f]
          refine cp0 (same_event a a (by omega)) (by decide) ?_
          rw [ev_refl]
          simp only [G0, Nat.reduceLT, Nat.reduceEqDiff, Nat.reduceAdd, Nat.reduceLeDiff, Nat.reduceMul, Bool.not_true, Bool.not_false, Bool.false_or, cnd_t, cnd_f]
          exact ⟨_, _, _, rfl, t1, t5⟩
        rintro s ⟨tm, r2, r3, rfl, t1, t5⟩
        exact back4 (by omega) hf (.inr rfl) t1 t5
      | false =>
        have hz : evSize a = 0 := by unfold evSize; rw [hok]; rfl
        rw [hz] at hsz
        refine RX.cut (fun s => ∃ tm, s = ⟨tm, 97, k, [.row .rw 0 (evCells a)], M⟩ ∧ tget tm 1 = encBytes b ∧ tget tm 2 = .ptr k 0 0 ∧ tget tm 5 = bv true ∧ tget tm 6 = .lst .full 0 0 [] ∧ tget tm 7 = iv 2) (RX.of env_ok ?_) ?_
        · simp only [G0, Nat.reduceLT, Nat.reduceEqDiff, Nat.reduceAdd, Nat.reduceLeDiff, Nat.reduceMul, t1, t2, t5, h7]
          refine cp0 (event_bytes_no a hok hl1) (by decide) ?_
          simp only [G0, Nat.reduceLT, Nat.reduceEqDiff, Nat.reduceAdd, Nat.reduceLeDiff, Nat.reduceMul]
          exact ⟨_, rfl, t1, t2, t5, rfl, rfl⟩
        rintro s ⟨tm, rfl, t1, t2, t5, t6, t7⟩
        refine RX.cut (fun s => ∃ tm, s = ⟨tm, 97, k, [.row .rw 0 (evCells a)], M⟩ ∧ tget tm 1 = encBytes b ∧ tget tm 5 = bv true ∧ tget tm 7 = iv 2) (RX.of env_ok ?_) ?_
        · simp only [G0, Nat.reduceLT, Nat.reduceEqDiff, Nat.reduceAdd, Nat.reduceLeDiff, Nat.reduceMul, t2, t6, t7, h7]
          refine cp0 (event_check a (by omega)) (by decide) ?_
          rw [hok]
          have ee : ((2 : Int) != errIf false) = false := by decide
          have e000 : ((((0 : Nat) : Nat) : Int) != (((0 : Nat) : Nat) : Int)) = false := by decide
          simp only [G0, Nat.reduceLT, Nat.reduceEqDiff, Nat.reduceAdd, Nat.reduceLeDiff, Nat.reduceMul, ee, t2, h7, Bool.not_true, Bool.not_false, cnd_t, cnd_f]
          refine cp0 hsz (by decide) ?_
          simp only [G0, Nat.reduceLT, Nat.reduceEqDiff, Nat.reduceAdd, Nat.reduceLeDiff, Nat.reduceMul, t6, e000, Bool.not_true, Bool.not_false, Bool.false_or, cnd_t, cnd_f]
          exact ⟨_, rfl, t1, t5, t7⟩
        rintro s ⟨tm, rfl, t1, t5, t7⟩
        refine RX.cut (fun s => ∃ tm, s = ⟨tm, 97, k, [.row .rw 0 (evCells a)], M⟩ ∧ tget tm 1 = encBytes b ∧ tget tm 5 = bv true) (RX.of env_ok ?_) ?_
        · simp only [G0, Nat.reduceLT, Nat.reduceEqDiff, Nat.reduceAdd, Nat.reduceLeDiff, Nat.reduceMul, t7, e2]
          exact ⟨_, rfl, t1, t5⟩
        rintro s ⟨tm, rfl, t1, t5⟩
        exact back4 (r2 := .gone) (r3 := .gone) (by omega) hf (.inl rfl) t1 t5
theorem back_pt (ds : List DV) (h : ShAs [.agg shEv, .one (.sl shB)] ds) : PTp env Tryz.prog 9 (pvAs [.agg shEv, .one (.sl shB)] ds) (bv true) := by
  cases h with | cons h1 h =>
  cases h with | cons h2 h =>
  cases h
  cases h1 with | agg h1 =>
  cases h2 with | one h2 =>
  obtain ⟨e, he, _⟩ := ev_dec h1
  obtain ⟨bs, hb, _⟩ := bytes_dec h2
  simp only [pvAs, pvA, he, hb]
  exact back9 e bs
end Go.Proofs.YtmgmbdnhodicjaaGreatDoor
end

section
namespace Go.Proofs.YtmgmbdnhodicjaaGreatDoor
namespace EventBack
open Go Go.ChangeShapes Go.WideShapes Go.RowKit Go.Am Go.Pm
theorem ownKnobOk : ownKnob Tryz.prog.godebug = none := by kernel_rfl
def cellsOf : Nat → List (DataW Unit) → List Value
  | 0, _ => []
  | _ + 1, [] => []
  | k + 1, .lit (.int i n) :: r => .int i n :: cellsOf k r
  | k + 1, .agg l :: r => cellsOf k l ++ cellsOf k r
  | k + 1, _ :: r => cellsOf k r
noncomputable def laidWorld (os : Os) : World :=
  let w0 := World.holding Tryz.prog os ⟨#[], #[], []⟩
  let w1 : World := { w0 with heap := w0.heap.modify 2 fun
      | .cells _ t frozen => .cells (cellsOf 400 [(Rows.laid_unicode_utf8_acceptRanges : DataW Unit)]).toArray t frozen
      | o => o }
  let w2 : World := { w1 with heap := w1.heap.modify 1 fun
      | .cells _ t frozen => .cells (cellsOf 400 [(Rows.laid_unicode_utf8_first : DataW Unit)]).toArray t frozen
      | o => o }
  w2
theorem laidWorld_met (os : Os) (args : Array Value) : laidMetH Tryz.prog [("unicode/utf8.acceptRanges", Rows.laid_unicode_utf8_acceptRanges), ("unicode/utf8.first", Rows.laid_unicode_utf8_first)] ((laidWorld os).forCall (fun _ _ => 0) ⟨#[], args, []⟩).memory :=
  laidMetH_of_parts (laidMet_of_run' 8 (by kernel_rfl) (by kernel_rfl)) (by kernel_rfl)
theorem globals (W : World) (h : W.ShapedOpen Tryz.prog) : 3 ≤ W.heap.size :=
  ShapedOpen.size (g := 2) h (of_decide_eq_true (by kernel_rfl)) (t := 225) (zero := #[.int .u8 0, .int .u8 0, .int .u8 0, .int .u8 0, .int .u8 0, .int .u8 0, .int .u8 0, .int .u8 0, .int .u8 0, .int .u8 0, .int .u8 0, .int .u8 0, .int .u8 0, .int .u8 0, .int .u8 0, .int .u8 0, .int .u8 0, .int .u8 0, .int .u8 0, .int .u8 0, .int .u8 0, .int .u8 0, .int .u8 0, .int .u8 0, .int .u8 0, .int .u8 0, .int .u8 0, .int .u8 0, .int .u8 0, .int .u8 0, .int .u8 0, .int .u8 0]) (by kernel_rfl)
theorem boolT : Tryz.prog.underlying 4 = some .bool := by kernel_rfl
theorem shapes : argShs Tryz.prog Tryz.f9.params.toList = some [.agg [.int .i64, .int .i64, .str, .int .i64, .int .i64, .sl [.int .u8], .sl [.int .i64, .int .i64, .int .i64]], .one (.sl [.int .u8])] := by kernel_rfl
theorem readable : Tryz.f9.params.toList.all (fun t => Tryz.prog.readableRec t && decide (t < Tryz.prog.types.size)) = true := by kernel_rfl
theorem params : Tryz.f9.params = #[39, 34] := by kernel_rfl
def zeros : Array Value := #[.agg #[.int .i64 0, .int .i64 0, .string ⟨#[]⟩, .int .i64 0, .int .i64 0, .slice none 0 0, .slice none 0 0], .slice none 0 0]
set_option maxRecDepth 100000 in
theorem law_lifted (os : Os) (started : os.Started) (H : Type) (enc : TypeId × Value → H) :
    ReturnsInHanded {} Tryz.checked os 9 .any (fun w args => (Rows.eventBackSpec.pre enc Tryz.prog Tryz.f9 [] false w args ∧ laidMetH Tryz.prog [("unicode/utf8.acceptRanges", Rows.laid_unicode_utf8_acceptRanges), ("unicode/utf8.first", Rows.laid_unicode_utf8_first)] w) ∧ sizedMet enc Tryz.prog Tryz.f9 (OpenSpec.ofChange Rows.eventBackSpec) false w args)
      (Rows.eventBackSpec.post enc Tryz.prog Tryz.f9 false true false false) := by
  refine returnsInHanded_of_change_both (C := Tryz.checked) (X := fun w _ => laidMetH Tryz.prog [("unicode/utf8.acceptRanges", Rows.laid_unicode_utf8_acceptRanges), ("unicode/utf8.first", Rows.laid_unicode_utf8_first)] w) (fun _ _ _ hh h => h.of_heap hh) ownKnobOk started (by kernel_rfl) Tryz.func9
    (ChangeSpec.witness_at (enc := enc) (C := Tryz.checked) (os := os) (X := fun w _ => laidMetH Tryz.prog [("unicode/utf8.acceptRanges", Rows.laid_unicode_utf8_acceptRanges), ("unicode/utf8.first", Rows.laid_unicode_utf8_first)] w) false (laidWorld os) zeros 8 rfl (by kernel_rfl) (by kernel_rfl) (by kernel_rfl) (by kernel_rfl) (by kernel_rfl) (laidWorld_met os _)) ?_
  intro W base args ds gs before hval hW _ _ _ hsh
  obtain ⟨p, q, hA0, _⟩ := id hW
  have hlen : ds.length = 2 := by
    have := trodAll_len hA0
    rw [this, params]; rfl
  refine (law_args env_ok fn9 (by rw [env_ng]; exact globals W hsh) shapes (fun j t v ht hv => hval j t v (by simpa using ht) (by simpa using hv)) hA0 back_pt).mono fun e W' ⟨he, hb, hsz, hos, htp, hout⟩ => ⟨.bool true, he, ?_⟩
  have hs : Rows.eventBackSpec.fn H ds = { results := [.lit (.bool true)], args := ds } := by
    match ds, hlen with
    | [_, _], _ => rfl
  exact post_args (t := 4) (by kernel_rfl) readable (by kernel_rfl) boolT rfl hs rfl hW hos htp hout hsz hb
theorem f_holds : Rows.EventBackSaid :=
  OpenClaim.holds_of_wide 9 Tryz.f9 rfl rfl rfl rfl rfl rfl rfl ⟨rfl, rfl, rfl, rfl, rfl⟩ rfl rfl rfl rfl rfl (by kernel_rfl) Tryz.func9 (by kernel_rfl)
    (of_decide_eq_true (by kernel_rfl)) (by unfold Func.isWrapper; rw [if_neg (of_decide_eq_false (by kernel_rfl))]; exact ⟨rfl, rfl⟩)
    (fun os started H enc _ => law_lifted os started H enc)
end EventBack
theorem eventBack_holds : Rows.EventBackCardSaid :=
  Claim7.holds_tied_plain_at .later [] [.data, .pinned] true (true, "61fee0d46340692d0b45b028838ce74e973d9d69dd9e71d33f0d1d7c6c36dfc3") false
    EventBack.f_holds (fun _ h => by cases h) (by kernel_rfl) (fun _ h => by cases h) eventBack_row_tie rfl ⟨rfl, rfl⟩ (by kernel_rfl) rfl
    (fun f fn hf hfn => by
      obtain rfl : f = 9 := Option.some.inj ((show Tryz.prog.funcNamed "tributary/tributarylaw08.EventBack" = some 9 by kernel_rfl).symm.trans hf) |>.symm
      obtain rfl : fn = Tryz.f9 := (Option.some.inj (Tryz.func9.symm.trans hfn)).symm
      exact ⟨by kernel_rfl, fun j t ht => by
        have hall : Tryz.f9.params.toList.all (fun t => !Tryz.prog.wantsStandIn t) = true := by kernel_rfl
        have := List.all_eq_true.1 hall t (List.mem_of_getElem? (by rw [Array.getElem?_toList]; exact ht))
        have h2 : Tryz.prog.wantsStandIn t = false := by simpa using this
        exact h2⟩)
    (by kernel_rfl)
#print axioms eventBack_holds
end Go.Proofs.YtmgmbdnhodicjaaGreatDoor
end
