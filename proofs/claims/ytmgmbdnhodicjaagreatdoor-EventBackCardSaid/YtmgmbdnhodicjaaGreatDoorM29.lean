/- EventBack. Part 29 of 30; no condition. -/
import Derived.Test.YtmgmbdnhodicjaaGreatDoorM28
set_option linter.unusedVariables false
set_option linter.unusedSimpArgs false
section
namespace Go.Pm
theorem PLe.cells {es n : Nat} {cs cs' : List PV} (h : PLes cs cs') : PLe (.lst .no es n cs) (.lst .no es n cs') := fun cx v hx => by
  cases hx with
  | l0 => cases h; exact .l0 _ _ _ (by assumption)
  | lno hr hl hs hn hc he => exact .lno hr (by rw [← h.length]; exact hl) (by rw [← h.length]; exact h.sim hs) (by rw [← h.length]; exact hn) hc he
end Go.Pm
namespace Go.Proofs.YtmgmbdnhodicjaaGreatDoor
open Go Go.Am Go.Pm
set_option maxHeartbeats 1000000
set_option maxRecDepth 100000
theorem nat_of {z : Int} (h : 0 ≤ z) : z = (z.toNat : Int) := by omega
theorem four_i {z : Int} (h : 0 ≤ z) : PTp env Tryz.prog 137 [iv z] (encBytes (fourB z.toNat)) := by
  have := four_at z.toNat
  rwa [← nat_of h] at this
theorem conv_i {z : Int} (h : 0 ≤ z) : convI .u8 (.v (.int .i64 z)) = some (encB (UInt8.ofNat (z.toNat % 256))) := by
  have := conv_byte (x := z.toNat) (k := .i64)
  rwa [← nat_of h] at this
def spanBytes (x : Span) : List UInt8 := UInt8.ofNat (x.node.toNat % 256) :: (fourB x.frm.toNat ++ fourB x.to.toNat)
def pastB (xs : List Span) : List UInt8 := (fourB xs.length).drop 2 ++ xs.flatMap spanBytes
theorem span_len (x : Span) : (spanBytes x).length = 9 := rfl
theorem flat9 (xs : List Span) : (xs.flatMap spanBytes).length = xs.length * 9 := by
  induction xs with
  | nil => rfl
  | cons x xs ih => rw [List.flatMap_cons, List.length_append, ih, span_len, List.length_cons, Nat.succ_mul, Nat.add_comm]
theorem past_len (xs : List Span) : (pastB xs).length = 2 + xs.length * 9 := by
  unfold pastB
  rw [List.length_append, flat9]; rfl
theorem from_ok : ∀ {xs : List Span} {p : Option Span}, pastFrom p xs = true → ∀ x ∈ xs, spanBad x = false
  | [], p, _, x, hx => by cases hx
  | y :: xs, p, h, x, hx => by
    simp only [pastFrom, Bool.and_eq_true, Bool.not_eq_true'] at h
    rcases List.mem_cons.1 hx with rfl | hx
    · exact h.1.1
    · exact from_ok h.2 x hx
theorem span_nn {x : Span} (h : spanBad x = false) : 0 ≤ x.node ∧ 0 ≤ x.frm ∧ 0 ≤ x.to := by
  simp only [spanBad, Bool.or_eq_false_iff, decide_eq_false_iff_not] at h
  omega
theorem loop67 (xs : List Span) (hl : xs.length ≤ 4000) (hok : ∀ x ∈ xs, spanBad x = false) (M : PMem) (k : Nat) (Q : AExit → PSt → Prop) (q : ∀ tm, tget tm 5 = encBytes (pastB xs) → Q (.exit 0) ⟨tm, 38, k, [], M⟩) :
    ∀ d i, xs.length - i = d → i ≤ xs.length →
    RXL env Tryz.prog none c80_19 ⟨[(19, iv i), (18, iv xs.length), (17, encSpans xs), (5, encBytes ((fourB xs.length).drop 2 ++ (xs.take i).flatMap spanBytes))], 38, k, [], M⟩ Q := by
  intro d
  induction d with
  | zero =>
    intro i hd hi
    have : i = xs.length := by omega
    subst this
    rw [List.take_length]
    refine RXL.round (RX.of env_ok ?_)
    simp only [G0, Nat.reduceLT, Nat.reduceEqDiff, Nat.reduceAdd, Nat.reduceLeDiff, Nat.reduceMul, Int.lt_irrefl, decide_false]
    exact q _ rfl
  | succ d ih =>
    intro i hd hi
    have hi' : i < xs.length := by omega
    obtain ⟨x, hx, hdx⟩ := getE hi'
    have hii : (i : Int) < xs.length := by omega
    have hb := hok x (List.mem_of_getElem? hx)
    obtain ⟨n1, n2, n3⟩ := span_nn hb
    have hld := load_at (f := encSpan) (n := 3) (fun _ => rfl) hx
    simp only [encSpan] at hld
    have hw : IntKind.i64.wrap ((i : Int) + 1) = ((i + 1 : Nat) : Int) := by rw [wrap64_id (by omega) (by omega)]; rfl
    have hc := conv_i n1
    generalize hacc : (fourB xs.length).drop 2 ++ (xs.take i).flatMap spanBytes = acc
    have hal : acc.length ≤ 2 + 4000 * 9 := by
      rw [← hacc, List.length_append, flat9, List.length_take]
      have : ((fourB xs.length).drop 2).length = 2 := rfl
      omega
    have hnext : (fourB xs.length).drop 2 ++ (xs.take (i + 1)).flatMap spanBytes = [acc, [UInt8.ofNat (x.node.toNat % 256)], fourB x.frm.toNat, fourB x.to.toNat].flatten := by
      rw [List.take_add_one, hx, List.flatMap_append, ← List.append_assoc, hacc]
      simp [spanBytes]
    have hfill : fillA 1 [.lst .full 0 0 [], .lst .full 0 0 [], .lst .full 0 0 [], .lst .full 0 0 []] [(0, encBytes acc), (1, .lst .full 1 1 [encB (UInt8.ofNat (x.node.toNat % 256))]), (2, encBytes (fourB x.frm.toNat)), (3, encBytes (fourB x.to.toNat))] = some [encBytes acc, .lst .full 1 1 [encB (UInt8.ofNat (x.node.toNat % 256))], encBytes (fourB x.frm.toNat), encBytes (fourB x.to.toNat)] := rfl
    have hsum : sumL [acc, [UInt8.ofNat (x.node.toNat % 256)], fourB x.frm.toNat, fourB x.to.toNat] = acc.length + 9 := by
      simp [sumL, fourB]
    refine RXL.inn fun k' hk1 hk2 hk3 => RX.of env_ok ?_
    simp only [G0, Nat.reduceLT, Nat.reduceEqDiff, Nat.reduceAdd, Nat.reduceLeDiff, Nat.reduceMul, encSpans, hii, decide_true, hi', hld, hc, fillB]
    refine cq0 (four_i n2) (by decide) ?_
    simp only [G0, Nat.reduceLT, Nat.reduceEqDiff, Nat.reduceAdd, Nat.reduceLeDiff, Nat.reduceMul]
    refine cq0 (four_i n3) (by decide) ?_
    simp only [G0, Nat.reduceLT, Nat.reduceEqDiff, Nat.reduceAdd, Nat.reduceLeDiff, Nat.reduceMul, hfill]
    refine cp0 (PTp.args (args' := [encLists [acc, [UInt8.ofNat (x.node.toNat % 256)], fourB x.frm.toNat, fourB x.to.toNat]]) (.cons (PLe.trans (PLe.no _ _ _ _) (PLe.cells (.cons (PLe.refl _) (.cons (PLe.no _ _ _ _) (.cons (PLe.refl _) (.cons (PLe.refl _) .nil)))))) .nil) (concat_at _ (by simp) (by rw [hsum]; omega) (by rw [hsum]; omega))) (by decide) ?_
    rw [← hnext]
    simp only [G0, Nat.reduceLT, Nat.reduceEqDiff, Nat.reduceAdd, Nat.reduceLeDiff, Nat.reduceMul, hw]
    refine RXL.weak (keepE ?_) (ih (i + 1) (by omega) (by omega))
    repeat (first | exact KP.nil | apply KP.cons rfl)
theorem past_bytes (xs : List Span) (h : pastOk xs = true) : PTp env Tryz.prog 80 [encSpans xs] (.tup [encBytes (pastB xs), iv 0]) := fun M => by
  have h' := h
  simp only [pastOk, Bool.and_eq_true, decide_eq_true_eq] at h'
  refine PT.enterR env_ok fn80 (by simp) comp80 fun k hk hf => RX.of env_ok ?_
  simp only [G0, Nat.reduceLT, Nat.reduceEqDiff, Nat.reduceAdd, Nat.reduceLeDiff, Nat.reduceMul, argsP]
  refine cp0 (past_check xs) (by decide) ?_
  rw [h]
  have he : errIf true = 0 := rfl
  simp only [G0, Nat.reduceLT, Nat.reduceEqDiff, Nat.reduceAdd, Nat.reduceLeDiff, Nat.reduceMul, he, bne_self_eq_false, encSpans]
  refine cp0 (four_at xs.length) (by decide) ?_
  have hs : sliceL 1 (encBytes (fourB xs.length)) (some (.v (.int .i64 2))) none none = some (encBytes ((fourB xs.length).drop 2)) := rfl
  simp only [G0, Nat.reduceLT, Nat.reduceEqDiff, Nat.reduceAdd, Nat.reduceLeDiff, Nat.reduceMul, hs]
  refine RX.loop (RXL.weak (keepE (tm' := [(19, iv (0 : Nat)), (18, iv xs.length), (17, encSpans xs), (5, encBytes ((fourB xs.length).drop 2 ++ (xs.take 0).flatMap spanBytes))]) ?_) (loop67 xs h'.1 (from_ok h'.2) M k _ (fun tm t5 => ?_) xs.length 0 (by omega) (Nat.zero_le _)))
  · repeat (first | exact KP.nil | apply KP.cons rfl)
  · simp only [G0, Nat.reduceLT, Nat.reduceEqDiff, Nat.reduceAdd, Nat.reduceLeDiff, Nat.reduceMul, t5]
    exact end2 hf rfl rfl ⟨rfl, rfl⟩
end Go.Proofs.YtmgmbdnhodicjaaGreatDoor
end
