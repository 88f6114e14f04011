/- EventBack. Part 28 of 30; no condition. -/
import Derived.Test.YtmgmbdnhodicjaaGreatDoorM27
set_option linter.unusedVariables false
set_option linter.unusedSimpArgs false
section
namespace Go.Proofs.YtmgmbdnhodicjaaGreatDoor
open Go Go.Am Go.Pm
set_option maxHeartbeats 1000000
set_option maxRecDepth 100000
def fourB (n : Nat) : List UInt8 := [UInt8.ofNat (n / 16777216 % 256), UInt8.ofNat (n / 65536 % 256), UInt8.ofNat (n / 256 % 256), UInt8.ofNat (n % 256)]
theorem four_at (n : Nat) : PTp env Tryz.prog 137 [iv n] (encBytes (fourB n)) := PTp.of fun M => by
  refine PT.enterR env_ok fn137 (by simp) comp137 fun k hk hf => RX.of env_ok ?_
  have s24 : ∀ {t : Nat} {c d : Bool}, pbin env .shr t c d (.v (.int .i64 (n : Int))) (.v (.int .u64 24)) = some (iv ((n / 16777216 : Nat) : Int)) := fun {t c d} => shr_n (m := 24)
  have s16 : ∀ {t : Nat} {c d : Bool}, pbin env .shr t c d (.v (.int .i64 (n : Int))) (.v (.int .u64 16)) = some (iv ((n / 65536 : Nat) : Int)) := fun {t c d} => shr_n (m := 16)
  have s8 : ∀ {t : Nat} {c d : Bool}, pbin env .shr t c d (.v (.int .i64 (n : Int))) (.v (.int .u64 8)) = some (iv ((n / 256 : Nat) : Int)) := fun {t c d} => shr_n (m := 8)
  have c0 : ∀ {x : Nat}, convI .u8 (.v (.int .i64 (x : Int))) = some (encB (UInt8.ofNat (x % 256))) := fun {x} => conv_byte
  have hfill : fillA 1 [.v (.int .u8 0), .v (.int .u8 0), .v (.int .u8 0), .v (.int .u8 0)] [(0, encB (UInt8.ofNat (n / 16777216 % 256))), (1, encB (UInt8.ofNat (n / 65536 % 256))), (2, encB (UInt8.ofNat (n / 256 % 256))), (3, encB (UInt8.ofNat (n % 256)))] = some ((fourB n).map encB) := rfl
  simp only [G0, Nat.reduceLT, Nat.reduceEqDiff, Nat.reduceAdd, Nat.reduceLeDiff, Nat.reduceMul, argsP, s24, s16, s8, c0, hfill]
  exact end1 hf rfl ⟨PLe.no _ _ _ _, rfl⟩
theorem nil_to {z : Int} (h : z = ((0 : Nat) : Int)) : sliceL 1 (.lst .full 0 0 []) none (some (iv z)) none = some (.lst .full 1 0 []) := by
  subst h
  unfold sliceL
  simp only [pnat_int]
  rfl
theorem row_to {n k : Nat} : sliceL 1 (.sl k 0 0 n (loCap n 1)) none (some (iv ((0 : Nat) : Int))) none = some (.sl k 0 0 0 (loCap n 1)) := by
  have h1 : capOf (loCap n 1) = n := capOf_lo n 1 (by decide)
  have h2 : esOf (loCap n 1) = 1 := esOf_lo n 1 (by decide)
  have h3 : loCap n 1 % 2 = 1 := by unfold loCap; omega
  unfold sliceL
  simp only [pnat_int, h1, h2]
  rw [if_pos ⟨Nat.le_refl 0, Nat.zero_le n, .inr ⟨h3, trivial, by decide⟩⟩, if_neg (by omega)]
  rfl
theorem rep_flat (z : PV) : ∀ n : Nat, (List.replicate n [z]).flatten = List.replicate n z
  | 0 => rfl
  | n + 1 => by simp only [List.replicate_succ, List.flatten_cons, rep_flat z n]; rfl
theorem rep_all (z : PV) (h : pone z = true) (n : Nat) : (List.replicate n z).all pone = true := by
  simp [h]
theorem grow_at (n : Nat) (h0 : n ≠ 0) (hn : n ≤ 1000000) (M : PMem) : PTk env Tryz.prog 162 [.lst .full 0 0 [], iv n] M (fun nk x M1 => ∃ k, nk ≤ k ∧ fresh M k ∧ x = .sl k 0 0 0 (loCap n 1) ∧ M1 = seg M k [.row .rw 1 (List.replicate n (encB 0))]) := by
  refine PTk.enterR env_ok fn162 (by simp) comp162 fun k hk hf => RX.of env_ok ?_
  have h1 : ¬ ((n : Int) < 0) := by omega
  have w0 : IntKind.i64.wrap (((0 : Nat) : Int) - ((0 : Nat) : Int)) = ((0 : Nat) : Int) := by decide
  have w1 : IntKind.i64.wrap ((n : Int) - ((0 : Nat) : Int)) = (n : Int) := by rw [wrap64_id (by omega) (by omega)]; omega
  have h2 : (n : Int) > 0 := by omega
  have hz : ∀ {tm : List (Nat × PV)}, appZP ⟨tm, 27, k, [], M⟩ 1 1 [.v (.int .u8 0)] (.lst .full 1 0 []) (.v (.int .i64 (n : Int))) = some (.sl k 0 0 n (loCap n 1), ⟨tm, 27, k, [.row .rw 1 (List.replicate n (encB 0))], M⟩) := fun {tm} => by
    have := apz_nil (tm := tm) (nt := 27) (k := k) (es := 1) (os := []) (M := M) (sz := 1) (by_ := 1) (z := [.v (.int .u8 0)]) h0 rfl ⟨by omega, by omega, by omega, by decide⟩ (by rw [rep_flat]; exact rep_all _ rfl n)
    rw [this, rep_flat]; rfl
  have ht : ∀ {z : Int}, z = ((0 : Nat) : Int) → sliceL 1 (.lst .full 0 0 []) none (some (.v (.int .i64 z))) none = some (.lst .full 1 0 []) := fun h => nil_to h
  have ht0 : sliceL 1 (.lst .full 0 0 []) none (some (.v (.int .i64 ((0 : Nat) : Int)))) none = some (.lst .full 1 0 []) := nil_to rfl
  have hr0 : sliceL 1 (.sl k 0 0 n (loCap n 1)) none (some (.v (.int .i64 ((0 : Nat) : Int)))) none = some (.sl k 0 0 0 (loCap n 1)) := row_to
  simp only [G0, Nat.reduceLT, Nat.reduceEqDiff, Nat.reduceAdd, Nat.reduceLeDiff, Nat.reduceMul, argsP, h1, decide_false, w0, w1, h2, decide_true, ht0, hz, hr0]
  exact ⟨.inr rfl, [_], seg M k [.row .rw 1 (List.replicate n (encB 0))], rfl, MLe.refl _, k, Nat.le_refl _, hf, rfl, rfl⟩
theorem flat_len' (l : List (List UInt8)) : l.flatten.length = sumL l := by simp [sumL, List.length_flatten]
theorem loop85a (ps : List (List UInt8)) (hps : ps.length ≤ 1000000) (hn : sumL ps ≤ 1048576) (M : PMem) (k : Nat) (Q : AExit → PSt → Prop) (q : ∀ tm, tget tm 0 = encLists ps → tget tm 3 = iv (sumL ps : Nat) → Q (.exit 0) ⟨tm, 36, k, [], M⟩) :
    ∀ d i, ps.length - i = d → i ≤ ps.length →
    RXL env Tryz.prog none c138_17 ⟨[(11, iv i), (10, iv ps.length), (9, encLists ps), (3, iv (sumL ps - sumL (ps.drop i) : Nat)), (0, encLists ps)], 36, k, [], M⟩ Q := by
  intro d
  induction d with
  | zero =>
    intro i hd hi
    have : i = ps.length := by omega
    subst this
    refine RXL.round (RX.of env_ok ?_)
    simp only [G0, Nat.reduceLT, Nat.reduceEqDiff, Nat.reduceAdd, Nat.reduceLeDiff, Nat.reduceMul, Int.lt_irrefl, decide_false]
    refine q _ rfl ?_
    show iv _ = iv _
    rw [List.drop_length]; rfl
  | succ d ih =>
    intro i hd hi
    have hi' : i < ps.length := by omega
    obtain ⟨p, hp, hdp⟩ := getE hi'
    have hii : (i : Int) < ps.length := by omega
    have hle : sumL (ps.drop i) = p.length + sumL (ps.drop (i + 1)) := sumL_drop hdp
    have hle2 : sumL (ps.drop i) ≤ sumL ps := by
      have := congrArg sumL (List.take_append_drop i ps)
      simp only [sumL, List.map_append, List.sum_append] at this ⊢
      omega
    have hw : IntKind.i64.wrap ((i : Int) + 1) = ((i + 1 : Nat) : Int) := by rw [wrap64_id (by omega) (by omega)]; rfl
    have hw2 : IntKind.i64.wrap (((sumL ps - sumL (ps.drop i) : Nat) : Int) + (p.length : Nat)) = ((sumL ps - sumL (ps.drop (i + 1)) : Nat) : Int) := by
      rw [add_i (by omega)]; congr 1; omega
    have hneg : ¬ (((sumL ps - sumL (ps.drop (i + 1)) : Nat) : Int) < 0) := by omega
    have hl := lists_at hp
    refine RXL.round (RX.of env_ok ?_)
    simp only [G0, Nat.reduceLT, Nat.reduceEqDiff, Nat.reduceAdd, Nat.reduceLeDiff, Nat.reduceMul, encLists, hii, decide_true, hi', hl, encBytes, hw, hw2, hneg, decide_false]
    refine RXL.weak (keepE ?_) (ih (i + 1) (by omega) (by omega))
    repeat (first | exact KP.nil | apply KP.cons rfl)
def filled (pre : List UInt8) (r : Nat) : List PV := pre.map encB ++ List.replicate r (encB 0)
theorem filled_splice (pre p : List UInt8) (r : Nat) (h : p.length ≤ r) : psplice (filled pre r) (0 + pre.length * 1) (p.map encB) = filled (pre ++ p) (r - p.length) := by
  unfold psplice filled
  have h0 : 0 + pre.length * 1 = (pre.map encB).length := by simp
  rw [h0, List.take_left', List.length_map, List.drop_append]
  · simp [List.map_append, List.append_assoc]
  · rfl
theorem loop85b (ps : List (List UInt8)) (hps : ps.length ≤ 1000000) (hn : sumL ps ≤ 1048576) (M : PMem) (k kg : Nat) (hkg : kg ≠ k) (Q : AExit → PSt → Prop)
    (q : ∀ tm, tget tm 6 = .sl kg 0 0 (sumL ps) (loCap (sumL ps) 1) → Q (.exit 2) ⟨tm, 36, k, [], seg M kg [.row .rw 1 (filled ps.flatten 0)]⟩) :
    ∀ d i, ps.length - i = d → i ≤ ps.length →
    RXL env Tryz.prog none c138_32 ⟨[(27, iv i), (26, iv ps.length), (25, encLists ps), (6, .sl kg 0 0 (sumL (ps.take i)) (loCap (sumL ps) 1))], 36, k, [], seg M kg [.row .rw 1 (filled (ps.take i).flatten (sumL ps - sumL (ps.take i)))]⟩ Q := by
  intro d
  induction d with
  | zero =>
    intro i hd hi
    have : i = ps.length := by omega
    subst this
    rw [List.take_length, Nat.sub_self]
    refine RXL.round (RX.of env_ok ?_)
    simp only [G0, Nat.reduceLT, Nat.reduceEqDiff, Nat.reduceAdd, Nat.reduceLeDiff, Nat.reduceMul, Int.lt_irrefl, decide_false]
    exact q _ rfl
  | succ d ih =>
    intro i hd hi
    have hi' : i < ps.length := by omega
    obtain ⟨p, hp, hdp⟩ := getE hi'
    have hii : (i : Int) < ps.length := by omega
    have hw : IntKind.i64.wrap ((i : Int) + 1) = ((i + 1 : Nat) : Int) := by rw [wrap64_id (by omega) (by omega)]; rfl
    have hl := lists_at hp
    have hB : sumL (ps.take i) + p.length ≤ sumL ps := by
      have h1 := congrArg sumL (List.take_append_drop i ps)
      have h2 := sumL_drop hdp
      simp only [sumL, List.map_append, List.sum_append] at h1 h2 ⊢
      omega
    have hsum : sumL (ps.take (i + 1)) = sumL (ps.take i) + p.length := by
      rw [List.take_add_one, hp]; simp [sumL]
    have hflat : (ps.take (i + 1)).flatten = (ps.take i).flatten ++ p := by
      rw [List.take_add_one, hp]; simp
    have ih' := ih (i + 1) (by omega) (by omega)
    rw [hsum, hflat] at ih'
    refine RXL.round (RX.of env_ok ?_)
    simp only [G0, Nat.reduceLT, Nat.reduceEqDiff, Nat.reduceAdd, Nat.reduceLeDiff, Nat.reduceMul, encLists, hii, decide_true, hi', hl, encBytes, hw]
    refine aR ?_
    by_cases hz : p.length = 0
    · have hpn : p = [] := List.length_eq_zero_iff.1 hz
      subst hpn
      have hcap : sumL (ps.take i) ≤ capOf (loCap (sumL ps) 1) := by rw [capOf_lo _ _ (by decide)]; omega
      have hap := fun tm => apr_none (tm := tm) (nt := 36) (k := k) (os := []) (M := seg M kg [.row .rw 1 (filled (ps.take i).flatten (sumL ps - sumL (ps.take i)))]) (sz := 1) (by_ := 1) (zl := 1) (a := kg) (i := 0) (o := 0) (t := .no) (es := 1) (ds := []) hcap
      simp only [List.length_nil, List.map_nil, Nat.add_zero, List.append_nil] at ih' ⊢
      rw [hap]
      simp only [G0, Nat.reduceLT, Nat.reduceEqDiff, Nat.reduceAdd, Nat.reduceLeDiff, Nat.reduceMul, hw]
      refine RXL.weak (keepE ?_) ih'
      repeat (first | exact KP.nil | apply KP.cons rfl)
    · have hcap : sumL (ps.take i) + p.length ≤ capOf (loCap (sumL ps) 1) := by rw [capOf_lo _ _ (by decide)]; exact hB
      have hlen : (filled (ps.take i).flatten (sumL ps - sumL (ps.take i))).length = sumL ps := by
        simp only [filled, List.length_append, List.length_map, List.length_replicate, flat_len']; omega
      have hsp := filled_splice (ps.take i).flatten p (sumL ps - sumL (ps.take i)) (by omega)
      rw [flat_len'] at hsp
      have hsub : sumL ps - sumL (ps.take i) - p.length = sumL ps - (sumL (ps.take i) + p.length) := by omega
      rw [hsub] at hsp
      have hap := fun tm => apr_out (tm := tm) (nt := 36) (k := k) (os := []) (M := seg M kg [.row .rw 1 (filled (ps.take i).flatten (sumL ps - sumL (ps.take i)))]) (sz := 1) (by_ := 1) (zl := 1) (a := kg) (i := 0) (o := 0) (t := .no) (ds := p.map encB) hz hkg hcap (by rw [seg_same]; rfl) (by rw [hlen, List.length_map]; omega) (all_encB p)
      rw [hap, hsp]
      have hput : putM (seg M kg [.row .rw 1 (filled (ps.take i).flatten (sumL ps - sumL (ps.take i)))]) kg 0 (.row .rw 1 (filled ((ps.take i).flatten ++ p) (sumL ps - (sumL (ps.take i) + p.length)))) = seg M kg [.row .rw 1 (filled ((ps.take i).flatten ++ p) (sumL ps - (sumL (ps.take i) + p.length)))] := by
        funext a j
        unfold putM
        by_cases ha : a = kg
        · subst ha
          rw [seg_same, seg_same]
          cases j with
          | zero => simp
          | succ j => simp
        · rw [if_neg (fun x => ha x.1), seg_ne _ _ _ ha, seg_ne _ _ _ ha]
      rw [hput]
      simp only [G0, Nat.reduceLT, Nat.reduceEqDiff, Nat.reduceAdd, Nat.reduceLeDiff, Nat.reduceMul, hw]
      refine RXL.weak (keepE ?_) ih'
      repeat (first | exact KP.nil | apply KP.cons rfl)
theorem nks_filled (k : Nat) (pre : List UInt8) (r : Nat) : NKs k (filled pre r) := by
  have h : ∀ l : List PV, (∀ x ∈ l, ∃ v, x = .v v) → NKs k l := by
    intro l
    induction l with
    | nil => intro _; exact .nil
    | cons x l ih =>
      intro hx
      obtain ⟨v, rfl⟩ := hx x List.mem_cons_self
      exact .cons (.v v) (ih fun y hy => hx y (List.mem_cons_of_mem _ hy))
  refine h _ fun x hx => ?_
  rcases List.mem_append.1 hx with h1 | h1
  · obtain ⟨b, _, rfl⟩ := List.mem_map.1 h1
    exact ⟨_, rfl⟩
  · obtain ⟨_, rfl⟩ := List.mem_replicate.1 h1
    exact ⟨_, rfl⟩
theorem concat_at (ps : List (List UInt8)) (hps : ps.length ≤ 1000000) (h0 : sumL ps ≠ 0) (hn : sumL ps ≤ 1000000) : PTp env Tryz.prog 138 [encLists ps] (encBytes ps.flatten) := fun M => by
  refine PT.freeze (PTk.enterR env_ok fn138 (by simp) comp138 fun k hk hf => RX.of env_ok ?_)
  simp only [G0, Nat.reduceLT, Nat.reduceEqDiff, Nat.reduceAdd, Nat.reduceLeDiff, Nat.reduceMul, argsP, encLists]
  have hz : sumL ps - sumL (ps.drop 0) = 0 := by rw [List.drop_zero]; omega
  refine RX.loop (RXL.weak (keepE (tm' := [(11, iv (0 : Nat)), (10, iv ps.length), (9, encLists ps), (3, iv (sumL ps - sumL (ps.drop 0) : Nat)), (0, encLists ps)]) ?_) (loop85a ps hps (by omega) M k _ (fun tm t0 t3 => ?_) ps.length 0 (by omega) (Nat.zero_le _)))
  · rw [hz]
    repeat (first | exact KP.nil | apply KP.cons rfl)
  · simp only [G0, Nat.reduceLT, Nat.reduceEqDiff, Nat.reduceAdd, Nat.reduceLeDiff, Nat.reduceMul, t0, t3, encLists]
    refine cmk (first := []) (cap := []) ?_
    rw [segNil hf]
    refine (grow_at (sumL ps) h0 hn M).mono fun nk x M1 ⟨kg, h1, h2, h3, h4⟩ hlt => ⟨[], M1, rfl, MLe.seg_nil' _ _, by decide, ?_⟩
    subst h3
    subst h4
    have hkg : kg ≠ k := by omega
    simp only [G0, Nat.reduceLT, Nat.reduceEqDiff, Nat.reduceAdd, Nat.reduceLeDiff, Nat.reduceMul, t0, encLists]
    refine RX.loop (RXL.weak (keepE (tm' := [(27, iv (0 : Nat)), (26, iv ps.length), (25, encLists ps), (6, .sl kg 0 0 (sumL (ps.take 0)) (loCap (sumL ps) 1))]) ?_) ?_)
    · exact KP.cons rfl (KP.cons rfl (KP.cons rfl (KP.cons rfl KP.nil)))
    · have e0 : filled (ps.take 0).flatten (sumL ps - sumL (ps.take 0)) = List.replicate (sumL ps) (encB 0) := by simp [filled, sumL]
      have hl := loop85b ps hps (by omega) M k kg hkg (blkQ 2 (thW env Tryz.prog none c138_37 (ends env ⟨36, [.tmp 2], body138⟩ fun x M1 => ∃ k_1 j es w cells y, k ≤ k_1 ∧ MLe M1 (putM M k_1 j (.row w es cells)) ∧ NKs k_1 cells ∧ FZ k_1 j es cells x y ∧ y = encBytes ps.flatten ∧ True))) (fun tm t6 => ?_) ps.length 0 (by omega) (Nat.zero_le _)
      · rw [e0] at hl; exact hl
      · simp only [G0, Nat.reduceLT, Nat.reduceEqDiff, Nat.reduceAdd, Nat.reduceLeDiff, Nat.reduceMul, t6]
        have hlen : (filled ps.flatten 0).length = sumL ps := by simp only [filled, List.length_append, List.length_map, List.length_replicate, flat_len']; omega
        have htk : (filled ps.flatten 0).take (sumL ps * 1) = ps.flatten.map encB := by
          rw [Nat.mul_one, ← flat_len']
          unfold filled
          rw [List.replicate_zero, List.append_nil]
          exact List.take_of_length_le (by rw [List.length_map]; exact Nat.le_refl _)
        refine ⟨.inr rfl, [_], _, rfl, MLe.refl _, kg, 0, 1, .rw, filled ps.flatten 0, encBytes ps.flatten, by omega, ?_, nks_filled _ _ _, ?_, rfl, trivial⟩
        · intro a j o e
          by_cases hk' : a = kg ∧ j = 0
          · obtain ⟨rfl, rfl⟩ := hk'
            rw [putM_same] at e
            cases e
            exact ⟨_, by rw [show PSt.mem _ = seg (seg M a _) k [] from rfl, seg_ne _ _ _ hkg, seg_same]; rfl, .refl _⟩
          · rw [put_ne hk'] at e
            have hak : a ≠ k := fun e' => by subst e'; rw [hf j] at e; cases e
            have hag : a ≠ kg := fun e' => by subst e'; rw [h2 j] at e; cases e
            exact ⟨o, by rw [show PSt.mem _ = seg (seg M kg _) k [] from rfl, seg_ne _ _ _ hak, seg_ne _ _ _ hag]; exact e, .refl _⟩
        · have hfz := FZ.here (k := kg) (j := 0) (es := 1) (cells := filled ps.flatten 0) (n := sumL ps) (c := loCap (sumL ps) 1) (by rw [hlen]; omega) (by rw [capOf_lo _ _ (by decide)]; exact Nat.le_refl _) (.inr (esOf_lo _ _ (by decide)))
          rw [htk] at hfz
          unfold encBytes
          rw [flat_len']
          have : ppack [tget ((2, PV.sl kg 0 0 (sumL ps) (loCap (sumL ps) 1)) :: (35, .sl kg 0 0 (sumL ps) (loCap (sumL ps) 1)) :: tm) 2] = .sl kg 0 0 (sumL ps) (loCap (sumL ps) 1) := rfl
          exact hfz
end Go.Proofs.YtmgmbdnhodicjaaGreatDoor
end
