/- EventBack. Part 25 of 30; no condition. -/
import Derived.Test.YtmgmbdnhodicjaaGreatDoorM24
set_option linter.unusedVariables false
set_option linter.unusedSimpArgs false
section
namespace Go.Proofs.YtmgmbdnhodicjaaGreatDoor
open Go Go.Am Go.Pm
set_option maxHeartbeats 1000000
set_option maxRecDepth 100000
abbrev uv (n : Nat) : PV := .v (.int .u64 (n : Int))
theorem fdiv_nat (n m : Nat) : ((n : Int).fdiv (2 ^ m)) = ((n / 2 ^ m : Nat) : Int) := by
  have h : (0 : Int) ≤ 2 ^ m := by
    have := Int.natCast_nonneg (2 ^ m)
    simpa using this
  rw [Int.fdiv_eq_ediv_of_nonneg _ h]
  simp
theorem shr_n {n m : Nat} {k k' : IntKind} {t : Nat} {c d : Bool} : pbin env .shr t c d (.v (.int k (n : Int))) (.v (.int k' (m : Int))) = some (.v (.int k ((n / 2 ^ min m k.bits : Nat) : Int))) := by
  have h : ¬ ((m : Int) < 0) := by omega
  simp only [pbin, binV, shiftV, if_neg h, Int.toNat_natCast, fdiv_nat, Option.map_some]
def bitTab : List UInt8 := [0, 1, 2, 2, 3, 3, 3, 3, 4, 4, 4, 4, 4, 4, 4, 4, 5, 5, 5, 5, 5, 5, 5, 5, 5, 5, 5, 5, 5, 5, 5, 5] ++ List.replicate 32 6 ++ List.replicate 64 7 ++ List.replicate 128 8
def l8 (n : Nat) : Nat := (bitTab.getD n 0).toNat
def l16 (n : Nat) : Nat := if 256 ≤ n then 8 + l8 (n / 256) else l8 n
def l32 (n : Nat) : Nat := if 65536 ≤ n then 16 + l16 (n / 65536) else l16 n
theorem tab_str : (PV.v (.string ⟨#[0, 1, 2, 2, 3, 3, 3, 3, 4, 4, 4, 4, 4, 4, 4, 4, 5, 5, 5, 5, 5, 5, 5, 5, 5, 5, 5, 5, 5, 5, 5, 5, 6, 6, 6, 6, 6, 6, 6, 6, 6, 6, 6, 6, 6, 6, 6, 6, 6, 6, 6, 6, 6, 6, 6, 6, 6, 6, 6, 6, 6, 6, 6, 6, 7, 7, 7, 7, 7, 7, 7, 7, 7, 7, 7, 7, 7, 7, 7, 7, 7, 7, 7, 7, 7, 7, 7, 7, 7, 7, 7, 7, 7, 7, 7, 7, 7, 7, 7, 7, 7, 7, 7, 7, 7, 7, 7, 7, 7, 7, 7, 7, 7, 7, 7, 7, 7, 7, 7, 7, 7, 7, 7, 7, 7, 7, 7, 7, 8, 8, 8, 8, 8, 8, 8, 8, 8, 8, 8, 8, 8, 8, 8, 8, 8, 8, 8, 8, 8, 8, 8, 8, 8, 8, 8, 8, 8, 8, 8, 8, 8, 8, 8, 8, 8, 8, 8, 8, 8, 8, 8, 8, 8, 8, 8, 8, 8, 8, 8, 8, 8, 8, 8, 8, 8, 8, 8, 8, 8, 8, 8, 8, 8, 8, 8, 8, 8, 8, 8, 8, 8, 8, 8, 8, 8, 8, 8, 8, 8, 8, 8, 8, 8, 8, 8, 8, 8, 8, 8, 8, 8, 8, 8, 8, 8, 8, 8, 8, 8, 8, 8, 8, 8, 8, 8, 8, 8, 8, 8, 8, 8, 8, 8, 8, 8, 8, 8, 8, 8, 8, 8, 8, 8, 8, 8, 8]⟩)) = str bitTab := by kernel_rfl
theorem bit_at {n : Nat} (h : n < 256) : bitTab[n]? = some (UInt8.ofNat (l8 n)) ∧ l8 n ≤ 8 := by
  have : (List.range 256).all (fun n => decide (bitTab[n]? = some (UInt8.ofNat (l8 n)) ∧ l8 n ≤ 8)) = true := by kernel_rfl
  exact of_decide_eq_true (List.all_eq_true.1 this n (List.mem_range.2 h))
theorem wrap_u8 {n : Nat} (h : n < 256) : IntKind.u8.wrap (n : Int) = n := by
  have : (List.range 256).all (fun n => decide (IntKind.u8.wrap (n : Int) = n)) = true := by kernel_rfl
  exact of_decide_eq_true (List.all_eq_true.1 this n (List.mem_range.2 h))
theorem conv_u8 {n : Nat} {k : IntKind} (h : n < 256) : convI .u8 (.v (.int k (n : Int))) = some (.v (.int .u8 (n : Int))) := by
  simp only [convI, wrap_u8 h]
theorem conv_i64 {n : Nat} {k : IntKind} (h : n < 9223372036854775808) : convI .i64 (.v (.int k (n : Int))) = some (iv (n : Int)) := by
  simp only [convI, wrap64_id (show -9223372036854775808 ≤ (n : Int) by omega) (show (n : Int) ≤ 9223372036854775807 by omega)]
theorem u8_nat {n : Nat} (h : n ≤ 8) : (((UInt8.ofNat n).toNat : Nat) : Int) = (n : Int) := by
  rw [UInt8.toNat_ofNat']; omega
theorem add_i {a b : Nat} (h : a + b ≤ 9223372036854775807) : IntKind.i64.wrap ((a : Int) + (b : Int)) = ((a + b : Nat) : Int) := by
  rw [wrap64_id (by omega) (by omega)]; rfl
theorem fin99 {x a : Nat} (hx : x < 256) (ha : a ≤ 1000) : convI .u8 (uv x) = some (.v (.int .u8 (x : Int))) ∧ idxS (str bitTab) (.v (.int .u8 (x : Int))) = some (encB (UInt8.ofNat (l8 x))) ∧ convI .i64 (encB (UInt8.ofNat (l8 x))) = some (iv (l8 x : Nat)) ∧ IntKind.i64.wrap ((a : Int) + ((l8 x : Nat) : Int)) = ((a + l8 x : Nat) : Int) := by
  have hb := (bit_at hx).2
  refine ⟨conv_u8 hx, str_idx (bit_at hx).1, ?_, add_i (by omega)⟩
  simp only [encB, u8_nat hb]
  exact conv_i64 (by omega)
theorem w24 : IntKind.i64.wrap (((16 : Nat) : Int) + 8) = ((24 : Nat) : Int) := by decide
theorem w16 : IntKind.i64.wrap (0 + 16) = ((16 : Nat) : Int) := by decide
theorem w8 : IntKind.i64.wrap (0 + 8) = ((8 : Nat) : Int) := by decide
theorem w0 : (0 : Int) = ((0 : Nat) : Int) := rfl
theorem len64 (n : Nat) (h : n < 4294967296) : PTp env Tryz.prog 163 [uv n] (iv (l32 n : Nat)) := fun M => by
  refine PT.enterR env_ok fn163 (by simp) comp163 fun k hk hf => RX.of env_ok ?_
  have h1 : ¬ ((n : Int) ≥ 4294967296) := by omega
  simp only [G0, Nat.reduceLT, Nat.reduceEqDiff, Nat.reduceAdd, Nat.reduceLeDiff, Nat.reduceMul, argsP, h1, decide_false]
  have s8 : ∀ {x t : Nat} {c d : Bool}, pbin env .shr t c d (.v (.int .u64 (x : Int))) (.v (.int .u64 8)) = some (uv (x / 256)) := fun {x t c d} => shr_n (m := 8)
  have s16 : ∀ {x t : Nat} {c d : Bool}, pbin env .shr t c d (.v (.int .u64 (x : Int))) (.v (.int .u64 16)) = some (uv (x / 65536)) := fun {x t c d} => shr_n (m := 16)
  refine cW_s (fun hb => ?_) (fun hb => ?_)
  · have hb' : 65536 ≤ n := by have := of_decide_eq_true hb; omega
    simp only [G0, Nat.reduceLT, Nat.reduceEqDiff, Nat.reduceAdd, Nat.reduceLeDiff, Nat.reduceMul, s16]
    refine cW_s (fun hc => ?_) (fun hc => ?_)
    · have hc' : 256 ≤ n / 65536 := by have := of_decide_eq_true hc; omega
      simp only [G0, Nat.reduceLT, Nat.reduceEqDiff, Nat.reduceAdd, Nat.reduceLeDiff, Nat.reduceMul, s8]
      have hq := fin99 (x := n / 65536 / 256) (a := 24) (by omega) (by decide)
      obtain ⟨q1, q2, q3, q4⟩ := hq
      simp only [G0, Nat.reduceLT, Nat.reduceEqDiff, Nat.reduceAdd, Nat.reduceLeDiff, Nat.reduceMul, q1, q2, q3, q4, tab_str, w24, w16, w8]
      refine end1 hf rfl ⟨?_, rfl⟩
      have he : l32 n = 24 + l8 (n / 65536 / 256) := by simp only [l32, l16, if_pos hb', if_pos hc']; omega
      rw [he]; rfl
    · have hc' : ¬ 256 ≤ n / 65536 := by have := of_decide_eq_false hc; omega
      simp only [G0, Nat.reduceLT, Nat.reduceEqDiff, Nat.reduceAdd, Nat.reduceLeDiff, Nat.reduceMul]
      have hq := fin99 (x := n / 65536) (a := 16) (by omega) (by decide)
      obtain ⟨q1, q2, q3, q4⟩ := hq
      simp only [G0, Nat.reduceLT, Nat.reduceEqDiff, Nat.reduceAdd, Nat.reduceLeDiff, Nat.reduceMul, q1, q2, q3, q4, tab_str, w24, w16, w8]
      refine end1 hf rfl ⟨?_, rfl⟩
      simp only [l32, l16, if_pos hb', if_neg hc']; rfl
  · have hb' : ¬ 65536 ≤ n := by have := of_decide_eq_false hb; omega
    simp only [G0, Nat.reduceLT, Nat.reduceEqDiff, Nat.reduceAdd, Nat.reduceLeDiff, Nat.reduceMul]
    refine cW_s (fun hc => ?_) (fun hc => ?_)
    · have hc' : 256 ≤ n := by have := of_decide_eq_true hc; omega
      simp only [G0, Nat.reduceLT, Nat.reduceEqDiff, Nat.reduceAdd, Nat.reduceLeDiff, Nat.reduceMul, s8]
      have hq := fin99 (x := n / 256) (a := 8) (by omega) (by decide)
      obtain ⟨q1, q2, q3, q4⟩ := hq
      simp only [G0, Nat.reduceLT, Nat.reduceEqDiff, Nat.reduceAdd, Nat.reduceLeDiff, Nat.reduceMul, q1, q2, q3, q4, tab_str, w24, w16, w8]
      refine end1 hf rfl ⟨?_, rfl⟩
      simp only [l32, l16, if_neg hb', if_pos hc']; rfl
    · have hc' : ¬ 256 ≤ n := by have := of_decide_eq_false hc; omega
      simp only [G0, Nat.reduceLT, Nat.reduceEqDiff, Nat.reduceAdd, Nat.reduceLeDiff, Nat.reduceMul]
      have hq := fin99 (x := n) (a := 0) (by omega) (by decide)
      obtain ⟨q1, q2, q3, q4⟩ := hq
      rw [← w0] at q4
      simp only [G0, Nat.reduceLT, Nat.reduceEqDiff, Nat.reduceAdd, Nat.reduceLeDiff, Nat.reduceMul, q1, q2, q3, q4, tab_str]
      refine end1 hf rfl ⟨?_, rfl⟩
      have he : l32 n = l8 n := by simp only [l32, l16, if_neg hb', if_neg hc']
      rw [he]; rfl
def formB (n : Nat) : Nat → List UInt8
  | 0 => []
  | i + 1 => UInt8.ofNat (n / 2 ^ min (8 * i) 64 % 256) :: formB n i
def many (n : Nat) : Nat := (l32 n + 7) / 8
def form (n : Nat) : List UInt8 := UInt8.ofNat (many n) :: formB n (many n)
theorem l8_le (n : Nat) : l8 n ≤ 8 := by
  rcases Nat.lt_or_ge n 256 with h | h
  · exact (bit_at h).2
  · have hl : bitTab.length = 256 := by kernel_rfl
    have : bitTab.getD n 0 = 0 := by rw [List.getD_eq_getElem?_getD, List.getElem?_eq_none (by omega)]; rfl
    simp only [l8, this]; decide
theorem l32_le (n : Nat) : l32 n ≤ 32 := by
  have := l8_le n; have := l8_le (n / 256); have := l8_le (n / 65536); have := l8_le (n / 65536 / 256)
  simp only [l32, l16]; split <;> split <;> omega
theorem many_le (n : Nat) : many n ≤ 4 := by have := l32_le n; unfold many; omega
theorem formB_len (n : Nat) : ∀ i, (formB n i).length = i
  | 0 => rfl
  | i + 1 => by simp only [formB, List.length_cons, formB_len n i]
theorem form_len (n : Nat) : (form n).length ≤ 5 := by have := many_le n; simp only [form, List.length_cons, formB_len]; omega
theorem conv_u64 {n : Nat} {k : IntKind} (h : n < 9223372036854775808) : convI .u64 (.v (.int k (n : Int))) = some (uv n) := by
  simp only [convI, IntWalk.u64_in (n : Int) (by omega)]
theorem quo8 {n : Nat} {t : Nat} {c d : Bool} (h : n < 9223372036854775808) : pbin env .quo t c d (iv (n : Int)) (iv 8) = some (iv ((n / 8 : Nat) : Int)) := by
  have e : IntKind.i64.wrap ((n : Int) / 8) = ((n / 8 : Nat) : Int) := by rw [wrap64_id (by omega) (by omega)]; rfl
  simp only [Int.natCast_ediv] at e
  simp [pbin, binV, intBin]
  exact e
theorem conv_byte {x : Nat} {k : IntKind} : convI .u8 (.v (.int k (x : Int))) = some (encB (UInt8.ofNat (x % 256))) := by
  simp only [convI, encB, IntKind.wrap_u8, UInt8.toNat_ofNat']
  congr 3
  omega
theorem fillB {b : UInt8} {z : PV} : fillA 1 [z] [(0, encB b)] = some [encB b] := rfl
def growT (k : Nat) (t : Tok) (n : Nat) (os : List Pm.Obj) : Prop := (t = .full ∧ os = []) ∨ (t = .id k 0 ∧ os = [.grow n 1])
theorem loop87 (n : Nat) (h : n < 4294967296) (M : PMem) (k : Nat) (Q : AExit → PSt → Prop) (q : ∀ tm os t, tget tm 4 = .lst t 1 (form n).length ((form n).map encB) → Q (.exit 0) ⟨tm, 29, k, os, M⟩) :
    ∀ (j : Nat) (pre : List UInt8) (t : Tok) (os : List Pm.Obj), j ≤ 4 → pre.length ≤ 5 → pre ++ formB n j = form n → growT k t pre.length os →
    RXL env Tryz.prog none c140_11 ⟨[(5, iv j), (4, .lst t 1 pre.length (pre.map encB)), (0, iv n)], 29, k, os, M⟩ Q := by
  intro j
  induction j with
  | zero =>
    intro pre t os hj hp he hg
    refine RXL.round (RX.of env_ok ?_)
    simp only [G0, Nat.reduceLT, Nat.reduceEqDiff, Nat.reduceAdd, Nat.reduceLeDiff, Nat.reduceMul, gt_iff_lt, Int.natCast_zero, Int.lt_irrefl, decide_false]
    have : pre = form n := by rw [← he]; simp [formB]
    subst this
    exact q _ _ _ rfl
  | succ j ih =>
    intro pre t os hj hp he hg
    have h1 : ((j + 1 : Nat) : Int) > 0 := by omega
    have h2 : IntKind.i64.wrap (((j + 1 : Nat) : Int) - 1) = (j : Int) := by rw [wrap64_id (by omega) (by omega)]; omega
    have h3 : IntKind.i64.wrap (8 * (j : Int)) = ((8 * j : Nat) : Int) := by rw [wrap64_id (by omega) (by omega)]; rfl
    have h4 : ∀ {t : Nat} {c d : Bool}, pbin env .shr t c d (.v (.int .i64 (n : Int))) (.v (.int .i64 ((8 * j : Nat) : Int))) = some (iv ((n / 2 ^ min (8 * j) 64 : Nat) : Int)) := fun {t c d} => shr_n
    have h5 : convI .u8 (iv ((n / 2 ^ min (8 * j) 64 : Nat) : Int)) = some (encB (UInt8.ofNat (n / 2 ^ min (8 * j) 64 % 256))) := conv_byte
    refine RXL.round (RX.of env_ok ?_)
    simp only [G0, Nat.reduceLT, Nat.reduceEqDiff, Nat.reduceAdd, Nat.reduceLeDiff, Nat.reduceMul, h1, h2, h3, h4, h5, decide_true, fillB]
    refine aL ?_
    have hne : (1 : Nat) ≠ 0 := by decide
    have hpl : pre.length + 1 ≤ 6 := by omega
    have hone : [encB (UInt8.ofNat (n / 2 ^ min (8 * j) 64 % 256))].all pone = true := rfl
    have hcond : (pre.length = 0 ∨ 1 = 1) ∧ (2 * (pre.length + 1) + 2000) * 1 ≤ 281474976710656 ∧ pre.length + 1 ≤ 4611686018427387904 ∧ 1 < 4096 ∧ 1 = 1 ∧ [encB (UInt8.ofNat (n / 2 ^ min (8 * j) 64 % 256))].all pone = true := ⟨.inr rfl, by omega, by omega, by decide, rfl, hone⟩
    have hfl : (form n).length ≤ 5 := form_len n
    have hsum : pre.length + (j + 1) = (form n).length := by rw [← he, List.length_append, formB_len]
    have hpre : pre.map encB ++ [encB (UInt8.ofNat (n / 2 ^ min (8 * j) 64 % 256))] = (pre ++ [UInt8.ofNat (n / 2 ^ min (8 * j) 64 % 256)]).map encB := by simp
    have hlen : pre.length + 1 = (pre ++ [UInt8.ofNat (n / 2 ^ min (8 * j) 64 % 256)]).length := by simp
    have hnext : (pre ++ [UInt8.ofNat (n / 2 ^ min (8 * j) 64 % 256)]) ++ formB n j = form n := by rw [← he]; simp [formB]
    rcases hg with ⟨rfl, rfl⟩ | ⟨rfl, rfl⟩
    · rw [ap_full hne hcond]
      simp only [G0, Nat.reduceLT, Nat.reduceEqDiff, Nat.reduceAdd, Nat.reduceLeDiff, Nat.reduceMul, h2]
      rw [hpre, hlen]
      refine RXL.weak (keepE ?_) (ih _ (.id k 0) [.grow (pre ++ [UInt8.ofNat (n / 2 ^ min (8 * j) 64 % 256)]).length 1] (by omega) (by omega) hnext (.inr ⟨rfl, rfl⟩))
      repeat (first | exact KP.nil | apply KP.cons rfl)
    · rw [ap_id (i := 0) hne rfl hcond rfl]
      simp only [G0, Nat.reduceLT, Nat.reduceEqDiff, Nat.reduceAdd, Nat.reduceLeDiff, Nat.reduceMul, h2]
      rw [hpre, hlen]
      refine RXL.weak (keepE ?_) (ih _ (.id k 0) [.grow (pre ++ [UInt8.ofNat (n / 2 ^ min (8 * j) 64 % 256)]).length 1] (by omega) (by omega) hnext (.inr ⟨rfl, rfl⟩))
      repeat (first | exact KP.nil | apply KP.cons rfl)
theorem form_at (n : Nat) (h : n < 4294967296) : PTp env Tryz.prog 140 [iv n] (encBytes (form n)) := PTp.of fun M => by
  refine PT.enterR env_ok fn140 (by simp) comp140 fun k hk hf => RX.of env_ok ?_
  have q1 := conv_u64 (k := .i64) (show n < 9223372036854775808 by omega)
  simp only [G0, Nat.reduceLT, Nat.reduceEqDiff, Nat.reduceAdd, Nat.reduceLeDiff, Nat.reduceMul, argsP, q1]
  refine cp0 (len64 n h) (by decide) ?_
  have hl := l32_le n
  have hm := many_le n
  have q2 : IntKind.i64.wrap (((l32 n : Nat) : Int) + 7) = ((l32 n + 7 : Nat) : Int) := add_i (b := 7) (by omega)
  have q3 : ∀ {t : Nat} {c d : Bool}, pbin env .quo t c d (.v (.int .i64 ((l32 n + 7 : Nat) : Int))) (.v (.int .i64 8)) = some (iv (many n : Nat)) := fun {t c d} => quo8 (by omega)
  have q4 : convI .u8 (iv (many n : Nat)) = some (encB (UInt8.ofNat (many n))) := by
    have := conv_byte (x := many n) (k := .i64)
    rwa [Nat.mod_eq_of_lt (by omega)] at this
  simp only [G0, Nat.reduceLT, Nat.reduceEqDiff, Nat.reduceAdd, Nat.reduceLeDiff, Nat.reduceMul, q2, q3, q4, fillB]
  refine RX.loop (RXL.weak (keepE (tm' := [(5, iv (many n : Nat)), (4, .lst .full 1 [UInt8.ofNat (many n)].length ([UInt8.ofNat (many n)].map encB)), (0, iv n)]) ?_) (loop87 n h M k _ (fun tm os t ht => ?_) (many n) [UInt8.ofNat (many n)] .full [] hm (by simp) rfl (.inl ⟨rfl, rfl⟩)))
  · repeat (first | exact KP.nil | apply KP.cons rfl)
  · simp only [G0, Nat.reduceLT, Nat.reduceEqDiff, Nat.reduceAdd, Nat.reduceLeDiff, Nat.reduceMul, ht]
    exact end1 hf rfl ⟨PLe.no _ _ _ _, rfl⟩
end Go.Proofs.YtmgmbdnhodicjaaGreatDoor
end

section
namespace Go.Proofs.YtmgmbdnhodicjaaGreatDoor
open Go Go.Am Go.Pm
set_option maxHeartbeats 1000000
def beN (l : List UInt8) (n : Nat) : Nat := l.foldl (fun n c => n * 256 + c.toNat) n
theorem u8_lt (c : UInt8) : c.toNat < 256 := UInt8.toNat_lt c
theorem beN_lt : ∀ (l : List UInt8) (n k : Nat), n < 256 ^ k → beN l n < 256 ^ (k + l.length)
  | [], n, k, h => h
  | c :: l, n, k, h => by
    have hc := u8_lt c
    have h1 : n * 256 + c.toNat < 256 ^ (k + 1) := by rw [Nat.pow_succ]; omega
    have := beN_lt l (n * 256 + c.toNat) (k + 1) h1
    have e : k + 1 + l.length = k + (c :: l).length := by simp; omega
    rw [e] at this
    exact this
theorem wrap_u64 {n : Nat} (h : n < 18446744073709551616) : IntKind.u64.wrap (n : Int) = n := IntWalk.u64_in _ (by omega)
theorem shl_u64 {n t : Nat} {c d : Bool} (h : n < 72057594037927936) : pbin env .shl t c d (uv n) (.v (.int .u64 8)) = some (uv (n * 256)) := by
  have h0 : ¬ ((8 : Int) < 0) := by decide
  have h1 : ((8 : Int).toNat) = 8 := rfl
  have h2 : min 8 IntKind.u64.bits = 8 := by decide
  have h3 : (n : Int) * 2 ^ 8 = ((n * 256 : Nat) : Int) := by rw [Int.natCast_mul]; rfl
  simp only [pbin, binV, shiftV, if_neg h0, h1, h2, Option.map_some]
  rw [h3, wrap_u64 (by omega)]
theorem or_u64 {n m t : Nat} {c d : Bool} (h : n < 72057594037927936) (hm : m < 256) : pbin env .or t c d (uv (n * 256)) (uv m) = some (uv (n * 256 + m)) := by
  have hb : IntKind.u64.bits = 64 := rfl
  have e1 : (BitVec.ofInt IntKind.u64.bits ((n * 256 : Nat) : Int) ||| BitVec.ofInt IntKind.u64.bits ((m : Nat) : Int)).toNat = n * 256 + m := by
    rw [BitVec.toNat_or, BitVec.ofInt_natCast, BitVec.ofInt_natCast, BitVec.toNat_ofNat, BitVec.toNat_ofNat, hb]
    rw [Nat.mod_eq_of_lt (show n * 256 < 2 ^ 64 by omega), Nat.mod_eq_of_lt (show m < 2 ^ 64 by omega)]
    have := Nat.two_pow_add_eq_or_of_lt (i := 8) (b := m) (by omega) n
    have e : 2 ^ 8 * n = n * 256 := by omega
    rw [e] at this
    exact this.symm
  simp only [pbin, binV, intBin, if_true, Option.map_some]
  rw [e1, wrap_u64 (by omega)]
end Go.Proofs.YtmgmbdnhodicjaaGreatDoor
end
