/- TableMoves holds. Part 25 of 29; no condition. -/
import Derived.Test.YthjlhgjnjhmfbaaGreatDoorM24
import Derived.Laws.RangeString
set_option linter.unusedVariables false
set_option linter.unusedSimpArgs false
set_option maxHeartbeats 4000000
set_option maxRecDepth 100000
open Nat renaming reduceLT → Z1, reduceEqDiff → Z2, reduceAdd → Z3, reduceLeDiff → Z4, reduceMul → Z5
namespace Go.Proofs.YthjlhgjnjhmfbaaGreatDoor
open Go Go.Am Go.Pm
theorem effect_rules : PTp env Tryz.prog 54 [] (.agg [iv 0, iv 0, iv 511, iv 1000, iv 511, iv 0, iv 0, iv 0]) := fun M => by
 refine PT.enterR env_ok fn54 (by simp) comp54 fun k hk hf => RX.of env_ok ?_
 simp only [G0, Z1, Z2, Z3, Z4, Z5, argsP]
 refine endc (ag := true) (n := 8) hf (by kernel_rfl) ?_ ⟨rfl, rfl⟩
 simp only [G0, Z1, Z2, Z3, Z4, Z5]
theorem effect_check (x m : Int) (b : List UInt8) : PTp env Tryz.prog 35 [.agg [iv x, iv m, encBytes b]] (iv (errIf (effOk x m b))) := fun M => by
 refine PT.enterR env_ok fn35 (by simp) comp35 fun k hk hf => RX.of env_ok ?_
 simp only [G0, Z1, Z2, Z3, Z4, Z5, argsP]
 refine cW_s (fun hb => ?_) (fun hb => ?_)
 ·simp only [G0, Z1, Z2, Z3, Z4, Z5]
  refine end1 hf rfl ⟨?_, rfl⟩
  unfold effOk; rw [hb]; rfl
 ·simp only [G0, Z1, Z2, Z3, Z4, Z5]
  refine cq0 effect_rules (by decide) ?_
  have hidx : ∃ j : Nat, x = (j : Int) /\ (j = 1 \/ j = 2 \/ j = 3) := ⟨x.toNat, by simp at hb; omega, by simp at hb; omega⟩
  obtain ⟨j, rfl, h⟩ := hidx
  have hj : j < 4 := by omega
  have h2 : ∃ a c : Int, (List.take 2 (List.drop (j * 2) [iv 0, iv 0, iv 511, iv 1000, iv 511, iv 0, iv 0, iv 0])) = [iv a, iv c] /\ a = (if (j : Int) = 3 then 0 else 511) /\ c = (if (j : Int) = 1 then 1000 else 0) := by
   rcases h with rfl | rfl | rfl
   ·exact ⟨511, 1000, rfl, rfl, rfl⟩
   ·exact ⟨511, 0, rfl, rfl, rfl⟩
   ·exact ⟨0, 0, rfl, rfl, rfl⟩
  obtain ⟨a, c, h2, ha, hc⟩ := h2
  simp only [G0, Z1, Z2, Z3, Z4, Z5, hj, h2, encBytes]
  refine cW_s (fun hb' => ?_) (fun hb' => ?_)
  ·simp only [G0, Z1, Z2, Z3, Z4, Z5]
   refine end1 hf rfl ⟨?_, rfl⟩
   unfold effOk; rw [hb, <- ha, <- hc, hb']; rfl
  ·simp only [G0, Z1, Z2, Z3, Z4, Z5]
   refine end1 hf rfl ⟨?_, rfl⟩
   unfold effOk; rw [hb, <- ha, <- hc, hb']; rfl
end Go.Proofs.YthjlhgjnjhmfbaaGreatDoor
namespace Go.Proofs.YthjlhgjnjhmfbaaGreatDoor
open Go Go.Am Go.Pm
theorem same_bytes (a b : List UInt8) : PTp env Tryz.prog 31 [encBytes a, encBytes b] (bv (a == b)) := fun M => by
 refine PT.enterR env_ok fn31 (by simp) comp31 fun k hk hf => RX.of env_ok ?_
 simp only [G0, Z1, Z2, Z3, Z4, Z5, argsP, encBytes, convB_enc, str_eql]
 exact end1 hf rfl ⟨rfl, rfl⟩
theorem same_effect (x m y p : Int) (a b : List UInt8) : PTp env Tryz.prog 9 [.agg [iv x, iv m, encBytes a], .agg [iv y, iv p, encBytes b]] (bv (x == y && m == p && a == b)) := fun M => by
 refine PT.enterR env_ok fn9 (by simp) comp9 fun k hk hf => RX.of env_ok ?_
 simp only [G0, Z1, Z2, Z3, Z4, Z5, argsP]
 refine cg0T (fun h => by simp only [h, cnd_t]; exact same_bytes a b) (by decide) ?_
 simp only [G0, Z1, Z2, Z3, Z4, Z5]
 exact end1 hf rfl ⟨rfl, rfl⟩
theorem long_effect (x m : Int) (a : List UInt8) : PTp env Tryz.prog 23 [.agg [iv x, iv m, encBytes a]] (bv (decide ((a.length : Int) > 1200))) := fun M => by
 refine PT.enterR env_ok fn23 (by simp) comp23 fun k hk hf => RX.of env_ok ?_
 simp only [G0, Z1, Z2, Z3, Z4, Z5, argsP, encBytes]
 exact end1 hf rfl ⟨rfl, rfl⟩
end Go.Proofs.YthjlhgjnjhmfbaaGreatDoor
namespace Go.Proofs.YthjlhgjnjhmfbaaGreatDoor
open Go Go.Am Go.Pm
theorem idx127 (s : List UInt8) (c : UInt8) : PTp env Tryz.prog 129 [str s, encB c] (iv (idxI (idxOf c 0 s))) := fun M => by
 refine PT.indexByteString env_ext (by rfl) (by have := c.toNat_lt; simpa using this) ⟨?_, rfl⟩
 have e : ((c.toNat : Int)).toNat = c.toNat := by simp
 rw [e, byteAt_eq]
 show _ = iv (idxI (idxOf c 0 s))
 cases idxOf c 0 s <;> rfl
theorem idx124 (s : List UInt8) (c : UInt8) : PTp env Tryz.prog 124 [str s, encB c] (iv (idxI (idxOf c 0 s))) := fun M => by
 refine PT.enterR env_ok fn124 (by simp) comp124 fun k hk hf => RX.of env_ok ?_
 simp only [G0, Z1, Z2, Z3, Z4, Z5, argsP]
 refine cp0 (idx127 s c) (by decide) ?_
 simp only [G0, Z1, Z2, Z3, Z4, Z5]
 exact end1 hf rfl ⟨rfl, rfl⟩
theorem idx120 (s : List UInt8) (c : UInt8) : PTp env Tryz.prog 116 [str s, encB c] (iv (idxI (idxOf c 0 s))) := fun M => by
 refine PT.enterR env_ok fn116 (by simp) comp116 fun k hk hf => RX.of env_ok ?_
 simp only [G0, Z1, Z2, Z3, Z4, Z5, argsP]
 refine cp0 (idx124 s c) (by decide) ?_
 simp only [G0, Z1, Z2, Z3, Z4, Z5]
 exact end1 hf rfl ⟨rfl, rfl⟩
theorem idx116 (s : List UInt8) (c : UInt8) : PTp env Tryz.prog 112 [str s, str [c]] (iv (idxI (idxOf c 0 s))) := fun M => by
 refine PT.enterR env_ok fn112 (by simp) comp112 fun k hk hf => RX.of env_ok ?_
 have h0 : idxS (str [c]) (.v (.int .i64 0)) = some (encB c) := str_idx (i := 0) rfl
 have hc : (((1 : Nat) : Int) == 0) = false := rfl
 have hd : (((1 : Nat) : Int) == 1) = true := rfl
 simp only [G0, Z1, Z2, Z3, Z4, Z5, argsP, len_one, h0, str_eql]
 refine cW_s (fun hb => ?_) (fun hb => ?_)
 ·simp only [G0, Z1, Z2, Z3, Z4, Z5]
  have hs : s = [c] := by
   rw [hc, Bool.false_or, beq_iff_eq] at hb
   exact hb.symm
  subst hs
  refine end1 hf rfl ⟨?_, rfl⟩
  unfold idxOf; rw [if_pos rfl]; rfl
 ·simp only [G0, Z1, Z2, Z3, Z4, Z5, hd, h0]
  refine cp0 (idx124 s c) (by decide) ?_
  simp only [G0, Z1, Z2, Z3, Z4, Z5]
  exact end1 hf rfl ⟨rfl, rfl⟩
theorem idx105 (s : List UInt8) (c : UInt8) : PTp env Tryz.prog 90 [str s, str [c]] (iv (idxI (idxOf c 0 s))) := fun M => by
 refine PT.enterR env_ok fn90 (by simp) comp90 fun k hk hf => RX.of env_ok ?_
 simp only [G0, Z1, Z2, Z3, Z4, Z5, argsP]
 refine cp0 (idx116 s c) (by decide) ?_
 simp only [G0, Z1, Z2, Z3, Z4, Z5]
 exact end1 hf rfl ⟨rfl, rfl⟩
theorem rune114 (b : UInt8) (h : isL b = true) : ∃ i : Nat, PTp env Tryz.prog 99 [str letters, .v (.int .i32 b.toNat)] (iv i) := by
 have hb := isL_small b h
 obtain ⟨i, hi⟩ := idxOf_some (k := 0) (show b ∈ letters by simpa [isL] using h)
 refine ⟨i, fun M => ?_⟩
 have h1 : decide ((0 : Int) <= (b.toNat : Int)) = true := by simp
 have h2 : decide ((b.toNat : Int) < 128) = true := by simp; omega
 have h3 : convI .u8 (.v (.int .i32 (b.toNat : Int))) = some (encB b) := by
  show some (PV.v (.int .u8 (IntKind.u8.wrap (b.toNat : Int)))) = _
  have : IntKind.u8.wrap (b.toNat : Int) = b.toNat := by
   simp only [IntKind.wrap, IntKind.signed, IntKind.bits]
   simp
   omega
  rw [this]; rfl
 refine PT.enterR env_ok fn99 (by simp) comp99 fun k hk hf => RX.of env_ok ?_
 simp only [G0, Z1, Z2, Z3, Z4, Z5, argsP, h1, h2, h3]
 refine cp0 (idx120 letters b) (by decide) ?_
 simp only [G0, Z1, Z2, Z3, Z4, Z5]
 exact end1 hf rfl ⟨by rw [hi]; rfl, rfl⟩
theorem rune97 (b : UInt8) (h : isL b = true) : PTp env Tryz.prog 68 [str letters, .v (.int .i32 b.toNat)] (bv true) := fun M => by
 obtain ⟨i, hi⟩ := rune114 b h
 refine PT.enterR env_ok fn68 (by simp) comp68 fun k hk hf => RX.of env_ok ?_
 simp only [G0, Z1, Z2, Z3, Z4, Z5, argsP]
 refine cp0 hi (by decide) ?_
 have hge : decide ((i : Int) >= 0) = true := by simp
 simp only [G0, Z1, Z2, Z3, Z4, Z5, hge]
 exact end1 hf rfl ⟨rfl, rfl⟩
theorem rune96 (b : UInt8) (h : isL b = true) : PTp env Tryz.prog 67 [.v (.int .i32 b.toNat)] (bv false) := fun M => by
 refine PT.enterR env_ok fn67 (by simp) comp67 fun k hk hf => RX.of env_ok ?_
 simp only [G0, Z1, Z2, Z3, Z4, Z5, argsP]
 refine cp0 (rune97 b h) (by decide) ?_
 simp only [G0, Z1, Z2, Z3, Z4, Z5]
 exact end1 hf rfl ⟨rfl, rfl⟩
theorem decode_small (s : List UInt8) (i : Nat) (b : UInt8) (h : s[i]? = some b) (hb : b.toNat < 128) : Utf8.decode ⟨s.toArray⟩ i = (b.toNat, 1) := by
 have hi : i < s.length := by
  rcases Nat.lt_or_ge i s.length with h' | h'
  ·exact h'
  ·rw [List.getElem?_eq_none h'] at h; cases h
 have hi' : i < (⟨s.toArray⟩ : ByteArray).size := hi
 have e : (⟨s.toArray⟩ : ByteArray)[i]'hi' = b := by
  have : s[i] = b := by rw [List.getElem?_eq_getElem hi] at h; exact Option.some.inj h
  rw [<- this]; rfl
 have := decode_ascii ⟨s.toArray⟩ i hi' (by rw [e]; exact hb)
 rw [this, e]
theorem r_next {tm : List (Nat × PV)} {nt k : Nat} {M : PMem} {st : ByteArray} {pos : Nat} {os : List Pm.Obj} {A : Operand} (hA : pev tm A = .ptr k 0 0) (ho : os = [.str true st pos]) :
  rnext A ⟨tm, nt, k, os, M⟩ = if pos < st.data.toList.length then some (.tup [.v (.bool true), .v (.int .i64 pos), .v (.int .i32 (Utf8.decode st pos).1)], ⟨tm, nt, k, [.str true st (pos + (Utf8.decode st pos).2)], M⟩) else some (.tup [.v (.bool false)], ⟨tm, nt, k, os, M⟩) := by
 subst ho
 unfold rnext pnext
 simp only [hA, PSt.look, if_pos, List.getElem?_cons_zero, PSt.putO, List.set_cons_zero]
theorem bool_eql {c d : Bool} {a b : Bool} : pbin env .eql 4 c d (bv a) (bv b) = some (bv (a == b)) := by
 have h : aEq env 100 4 (.bool a) (.bool b) = some (a == b) := by kernel_rfl
 simp [pbin, eqFine, binV, h]
theorem loop119 (s : List UInt8) (hs : ∀ b ∈ s, isL b = true) (hl : s.length <= 1000000) (M : PMem) (k : Nat) (Q : AExit -> PSt -> Prop) (q : ∀ tm, Q (.exit 0) ⟨tm, 21, k, [.str true ⟨s.toArray⟩ s.length], M⟩) :
  ∀ d i, s.length - i = d -> i <= s.length →
  RXL env Tryz.prog none c115_13 ⟨[(10, .ptr k 0 0), (1, .fn 67 [] []), (2, bv true)], 21, k, [.str true ⟨s.toArray⟩ i], M⟩ Q := by
 intro d
 induction d with
 | zero =>
  intro i hd hi
  have : i = s.length := by omega
  subst this
  refine RXL.round (RX.of env_ok ?_)
  simp only [G0, Z1, Z2, Z3, Z4, Z5]
  rw [r_next rfl rfl, if_neg (Nat.lt_irrefl _)]
  simp only [G0, Z1, Z2, Z3, Z4, Z5]
  exact q _
 | succ d ih =>
  intro i hd hi
  have hi' : i < s.length := by omega
  obtain ⟨b, hb, _⟩ := getE hi'
  have hL := hs b (List.mem_of_getElem? hb)
  refine RXL.round (RX.of env_ok ?_)
  simp only [G0, Z1, Z2, Z3, Z4, Z5]
  rw [r_next rfl rfl, if_pos (show i < s.length from hi'), decode_small s i b hb (isL_small b hL)]
  simp only [G0, Z1, Z2, Z3, Z4, Z5]
  refine cp (first := []) (cap := []) (rune96 b hL) (by decide) ?_
  have hne : (false == true) = false := rfl
  simp only [G0, Z1, Z2, Z3, Z4, Z5, bool_eql, hne]
  refine RXL.weak (keepE ?_) (ih (i + 1) (by omega) (by omega))
  repeat (first | exact KP.nil | apply KP.cons rfl)
theorem idx119 (s : List UInt8) (hs : ∀ b ∈ s, isL b = true) (hl : s.length <= 1000000) : PTp env Tryz.prog 115 [str s, .fn 67 [] [], bv true] (iv (-1)) := fun M => by
 refine PT.enterR env_ok fn115 (by simp) comp115 fun k hk hf => RX.of env_ok ?_
 simp only [G0, Z1, Z2, Z3, Z4, Z5, argsP]
 refine RX.loop (RXL.weak (keepE ?_) (loop119 s hs hl M k _ ?_ s.length 0 rfl (Nat.zero_le _)))
 ·repeat (first | exact KP.nil | apply KP.cons rfl)
 ·intro tm
  simp only [G0, Z1, Z2, Z3, Z4, Z5]
  exact end1 hf rfl ⟨rfl, rfl⟩
theorem idx113 (s : List UInt8) (hs : ∀ b ∈ s, isL b = true) (hl : s.length <= 1000000) : PTp env Tryz.prog 98 [str s, .fn 67 [] []] (iv (-1)) := fun M => by
 refine PT.enterR env_ok fn98 (by simp) comp98 fun k hk hf => RX.of env_ok ?_
 simp only [G0, Z1, Z2, Z3, Z4, Z5, argsP]
 refine cp0 (idx119 s hs hl) (by decide) ?_
 simp only [G0, Z1, Z2, Z3, Z4, Z5]
 exact end1 hf rfl ⟨rfl, rfl⟩
theorem idx95 (s : List UInt8) (hs : ∀ b ∈ s, isL b = true) (hl : s.length <= 1000000) : PTp env Tryz.prog 66 [str s, .fn 67 [] []] (bv false) := fun M => by
 refine PT.enterR env_ok fn66 (by simp) comp66 fun k hk hf => RX.of env_ok ?_
 simp only [G0, Z1, Z2, Z3, Z4, Z5, argsP]
 refine cp0 (idx113 s hs hl) (by decide) ?_
 have hge : decide ((-1 : Int) >= 0) = false := rfl
 simp only [G0, Z1, Z2, Z3, Z4, Z5, hge]
 exact end1 hf rfl ⟨rfl, rfl⟩
end Go.Proofs.YthjlhgjnjhmfbaaGreatDoor
namespace Go.Pm
open Go.RowKit Go.Am
theorem e_CGD {E : Env} {P : Program} {d g n : Nat} {w : Bool} {ar : List Operand} {ld : List RD} {tm : List (Nat × PV)} {nt k : Nat} {os : List Obj} {M : PMem} {R : PSt -> Prop} :
  RPD E P (dCG true d g w (.func n) ar :: ld) ⟨tm, nt, k, os, M⟩ R = cG E P d w (.d ld) tm nt k os M R (ar.map (pev tm)) (.fn n [] []) (tget tm g) := by
 unfold cG
 have hg : rg (some (g, w)) ⟨tm, nt, k, os, M⟩ = rgV w (tget tm g) := rg_V
 apply propext
 constructor
 ·rintro (⟨h0, h⟩ | ⟨-, h0, h⟩ | ⟨h0, -⟩)
  ·replace h0 := hg.symm.trans h0; rw [h0]; exact .inl h
  ·replace h0 := hg.symm.trans h0; rw [h0]; dsimp only; rw [<- nV_put]; exact h
  ·cases h0
 ·intro h
  split at h
  ·rename_i h0
   rcases h with ⟨g', f', c', e, h⟩ | ⟨a, i, e, _⟩
   ·cases e; exact .inl ⟨hg.trans h0, _, _, _, rfl, h⟩
   ·cases e
  ·rename_i h0
   rw [<- nV_put] at h
   exact .inr (.inl ⟨rfl, hg.trans h0, h⟩)
  ·exact h.elim
end Go.Pm
namespace Go.Proofs.YthjlhgjnjhmfbaaGreatDoor
open Go Go.Am Go.Pm
theorem endc2 {Q : PV -> PMem -> Prop} {body : Code} {M : PMem} {os : List Pm.Obj} {tm : List (Nat × PV)} {k nt nt' a b t n : Nat} {ag : Bool} {v w : PV} (hf : fresh M k) (ht : tyP env t = some (ag, n)) (hv : loadP k os M ag n (tget tm a) = some v) (hw : tget tm b = w) (h : Q (.tup [v, w]) M) :
  ends env ⟨nt, [.cell a t, .tmp b], body⟩ Q .ret ⟨tm, nt', k, os, M⟩ := by
 subst hw
 exact ⟨.inr rfl, [v, _], M, by simp only [presults, presult, pload_P ht, hv], MLe.pop hf, h⟩
end Go.Proofs.YthjlhgjnjhmfbaaGreatDoor
namespace Go.Proofs.YthjlhgjnjhmfbaaGreatDoor
open Go Go.Am Go.Pm
theorem clone_bytes (l : List UInt8) (hl : l.length <= 1000000) : PTp env Tryz.prog 53 [encBytes l] (encBytes l) := PTp.of fun M => by
 refine PT.enterR env_ok fn53 (by simp) comp53 fun k hk hf => RX.of env_ok ?_
 simp only [G0, Z1, Z2, Z3, Z4, Z5, argsP, encBytes]
 refine nL_lst fun b hb => ?_
 simp only [G0, Z1, Z2, Z3, Z4, Z5]
 cases b with
 | true =>
  have hz : l = [] := by
   cases l with
   | nil => rfl
   | cons x l => exact absurd (hb (by simp)) (by simp)
  subst hz
  simp only [G0, Z1, Z2, Z3, Z4, Z5, Bool.xor_false]
  exact end1 hf rfl ⟨PLe.trans (PLe.nil 0 1) (PLe.no _ _ _ _), rfl⟩
 | false =>
  simp only [G0, Z1, Z2, Z3, Z4, Z5, Bool.xor_false]
  by_cases hz : l.length = 0
  ·have : l = [] := List.length_eq_zero_iff.1 hz
   subst this
   refine aL ?_
   simp only [G0, Z1, Z2, Z3, Z4, Z5, List.map_nil, ap_nil]
   exact end1 hf rfl ⟨PLe.no _ _ _ _, rfl⟩
  ·have hc : (0 = 0 \/ 1 = 1) /\ (2 * (0 + l.length) + 2000) * 1 <= 281474976710656 /\ 0 + l.length <= 4611686018427387904 /\ 1 < 4096 /\ 1 = 1 /\ (l.map encB).all pone = true := ⟨.inl rfl, by omega, by omega, by decide, rfl, all_encB l⟩
   refine aL ?_
   rw [ap_full hz hc]
   simp only [G0, Z1, Z2, Z3, Z4, Z5]
   exact end1 hf rfl ⟨PLe.no _ _ _ _, rfl⟩
end Go.Proofs.YthjlhgjnjhmfbaaGreatDoor
namespace Go.Proofs.YthjlhgjnjhmfbaaGreatDoor
open Go Go.Am Go.Pm
def tabOf (p : List UInt8) : List PV := (List.range 256).map fun c => bv (p.any fun b => b.toNat == c)
theorem tab_len (p : List UInt8) : (tabOf p).length = 256 := by simp [tabOf]
theorem tab_all (p : List UInt8) : (tabOf p).all pone = true := by
 unfold tabOf
 rw [List.all_map, List.all_eq_true]
 intro x _; rfl
theorem any_toNat (p : List UInt8) (b : UInt8) : (p.any fun x => x.toNat == b.toNat) = p.contains b := by
 induction p with
 | nil => rfl
 | cons x p ih =>
  rw [List.any_cons, ih, List.contains_cons]
  congr 1
  by_cases h : b = x
  ·subst h; simp
  ·have h1 : (b == x) = false := by simpa using h
   have h2 : (x.toNat == b.toNat) = false := by
    cases e : (x.toNat == b.toNat) with
    | false => rfl
    | true => exact absurd (UInt8.toNat.inj (by simpa using e)).symm h
   rw [h1, h2]
theorem tab_get (p : List UInt8) (b : UInt8) : (tabOf p)[b.toNat * 1]? = some (bv (p.contains b)) := by
 have hb := b.toNat_lt
 have : b.toNat < 256 := by simpa using hb
 rw [Nat.mul_one, tabOf, List.getElem?_map, List.getElem?_range this, Option.map_some, any_toNat]
theorem tab_put (p : List UInt8) (b : UInt8) : storeO 1 (b.toNat * 1) (bv true) (some (.row .rw 0 (tabOf p))) = some (.row .rw 0 (tabOf (p ++ [b]))) := by
 have hb := b.toNat_lt
 have hb : b.toNat < 256 := by simpa using hb
 rw [storeO_eq (n := 1) ⟨rfl, by rw [tab_len]; show _ + 1 <= 256; omega, rfl⟩]
 congr 2
 rw [Nat.mul_one]
 apply List.ext_getElem?
 intro i
 show ((tabOf p).take b.toNat ++ ([bv true] ++ (tabOf p).drop (b.toNat + 1)))[i]? = _
 have hl := tab_len p
 rcases Nat.lt_trichotomy i b.toNat with h | h | h
 ·rw [List.getElem?_append_left (by rw [List.length_take, hl]; omega), List.getElem?_take_of_lt h, tabOf, tabOf, List.getElem?_map, List.getElem?_map, List.getElem?_range (by omega)]
  simp only [Option.map_some, List.any_append, List.any_cons, List.any_nil, Bool.or_false]
  have : (b.toNat == i) = false := by simp; omega
  rw [this, Bool.or_false]
 ·subst h
  rw [List.getElem?_append_right (by rw [List.length_take, hl]; omega), List.length_take, hl, Nat.min_eq_left (by omega), Nat.sub_self]
  show some (bv true) = _
  rw [tabOf, List.getElem?_map, List.getElem?_range (by omega)]
  simp
 ·rw [List.getElem?_append_right (by rw [List.length_take, hl]; omega), List.length_take, hl, Nat.min_eq_left (by omega), List.getElem?_append_right (by simp; omega), List.getElem?_drop]
  have e : b.toNat + 1 + (i - b.toNat - [bv true].length) = i := by simp; omega
  rw [e, tabOf, tabOf, List.getElem?_map, List.getElem?_map]
  rcases Nat.lt_or_ge i 256 with h' | h'
  ·rw [List.getElem?_range h']
   simp only [Option.map_some, List.any_append, List.any_cons, List.any_nil, Bool.or_false]
   have : (b.toNat == i) = false := by simp; omega
   rw [this, Bool.or_false]
  ·rw [List.getElem?_eq_none (by simpa using h')]; rfl
theorem tab_addr {k i : Nat} (b : UInt8) : iaddrA 256 1 (.ptr k i 0) (encB b) = some (.ptr k i (b.toNat * 1)) := by
 have hb := b.toNat_lt
 have hb : b.toNat < 256 := by simpa using hb
 unfold iaddrA encB
 rw [pnat_int]
 dsimp only
 rw [if_pos hb, Nat.zero_add]
theorem tab_nil : tabOf [] = List.replicate 256 (bv false) := by
 unfold tabOf
 simp only [List.any_nil]
 rfl
theorem contains117 (p : List UInt8) (b : UInt8) {M0 : PMem} {a i : Nat} {w : Wm} (hM : M0 a i = some (.row w 0 (tabOf p))) : PTs env Tryz.prog M0 113 [.ptr a i 0, encB b] (bv (p.contains b)) := by
 refine PTs.enter env_ok fn113 (by simp) comp113 fun M k hs hk hf => ?_
 have hM' := hs _ _ _ hM
 have hld : ∀ {ag : Bool} {n o : Nat} {os : List Pm.Obj}, loadP k os M ag n (.ptr a i o) = rowTake ag n o (M a i) := loadP_out (fresh_ne hf hM')
 simp only [G0, Z1, Z2, Z3, Z4, Z5, argsP, tab_addr, hld, hM', tab_get]
 exact end1 hf rfl ⟨rfl, rfl⟩
def trR (p s : List UInt8) : List UInt8 := (s.reverse.dropWhile p.contains).reverse
def trL (p s : List UInt8) : List UInt8 := s.dropWhile p.contains
theorem trR_snoc (p s : List UInt8) (b : UInt8) : trR p (s ++ [b]) = if p.contains b = true then trR p s else s ++ [b] := by
 unfold trR
 rw [List.reverse_append, List.reverse_singleton, List.singleton_append, List.dropWhile_cons]
 split
 ·rfl
 ·simp
theorem trL_nil (p s : List UInt8) : trL p s = [] ↔ s.all p.contains = true := by
 unfold trL
 induction s with
 | nil => simp
 | cons b s ih =>
  rw [List.dropWhile_cons, List.all_cons]
  split
  ·rename_i h; rw [h, Bool.true_and]; exact ih
  ·rename_i h; simp at h; simp [h]
theorem trR_all (p s : List UInt8) (h : s.all p.contains = true) : trR p s = [] := by
 have : s.reverse.dropWhile p.contains = [] := (trL_nil p s.reverse).2 (by rw [List.all_reverse]; exact h)
 unfold trR
 rw [this]; rfl
theorem trR_split (p s : List UInt8) : ∃ t, s = trR p s ++ t /\ t.all p.contains = true := by
 unfold trR
 refine ⟨(s.reverse.takeWhile p.contains).reverse, ?_, ?_⟩
 ·rw [<- List.reverse_append, List.takeWhile_append_dropWhile, List.reverse_reverse]
 ·rw [List.all_reverse]
  exact List.all_takeWhile
theorem trim_nil (p s : List UInt8) : trL p (trR p s) = [] ↔ s.all p.contains = true := by
 constructor
 ·intro h
  obtain ⟨t, h1, h2⟩ := trR_split p s
  rw [h1, List.all_append, (trL_nil p _).1 h, h2]; rfl
 ·intro h; rw [trR_all p s h]; rfl
theorem trR_len (p s : List UInt8) : (trR p s).length <= s.length := by
 obtain ⟨t, h1, _⟩ := trR_split p s
 have := congrArg List.length h1
 rw [List.length_append] at this; omega
theorem trimR (p : List UInt8) {M0 : PMem} {a i : Nat} {w : Wm} (hM : M0 a i = some (.row w 0 (tabOf p))) (M : PMem) (k : Nat) (hs : Pm.Sub M0 M) (hf : fresh M k) (Q : AExit -> PSt -> Prop) :
  ∀ (n : Nat) (s : List UInt8), s.length = n -> n <= 1000000 -> (∀ tm, tget tm 0 = str (trR p s) -> Q (.exit 0) ⟨tm, 22, k, [], M⟩) -> RXL env Tryz.prog none c95_10 ⟨[(0, str s), (1, .ptr a i 0)], 22, k, [], M⟩ Q := by
 intro n
 induction n with
 | zero =>
  intro s hs0 _ q
  have : s = [] := List.length_eq_zero_iff.1 hs0
  subst this
  refine RXL.round (RX.of env_ok ?_)
  have h0 : decide (((0 : Nat) : Int) > 0) = false := rfl
  simp only [G0, Z1, Z2, Z3, Z4, Z5, len_nil, h0]
  exact q _ rfl
 | succ n ih =>
  intro s hs0 hn q
  have hl : n < s.length := by omega
  obtain ⟨b, hb, _⟩ := getE hl
  have h0 : decide ((s.length : Int) > 0) = true := by simp; omega
  have hw : IntKind.i64.wrap ((s.length : Int) - 1) = (n : Int) := by rw [wrap64_id (by omega) (by omega)]; omega
  have hsplit : s = s.take n ++ [b] := by
   have := List.take_append_drop n s
   have hd : s.drop n = [b] := by
    rw [List.drop_eq_getElem_cons hl, List.drop_of_length_le (by omega)]
    rw [List.getElem?_eq_getElem hl] at hb
    rw [Option.some.inj hb]
   rw [hd] at this; exact this.symm
  have hto : sliceS (str s) none (some (iv n)) = some (str (s.take n)) := str_to (by omega)
  have hix : idxS (str s) (iv n) = some (encB b) := str_idx hb
  have htr : trR p s = if p.contains b = true then trR p (s.take n) else s := by
   conv => lhs; rw [hsplit]
   rw [trR_snoc, <- hsplit]
  rw [htr] at q
  refine RXL.round (RX.of env_ok ?_)
  simp only [G0, Z1, Z2, Z3, Z4, Z5, len_str, h0, hw, hix]
  refine cs0 (contains117 p b hM) (hs.sseg hf) (by decide) ?_
  cases hc : p.contains b with
  | false =>
   rw [hc] at q
   simp only [G0, Z1, Z2, Z3, Z4, Z5, Bool.not_true, Bool.not_false]
   exact q _ rfl
  | true =>
   rw [hc] at q
   simp only [G0, Z1, Z2, Z3, Z4, Z5, len_str, hw, hto, Bool.not_true, Bool.not_false]
   refine RXL.weak (keepE ?_) (ih (s.take n) (by simp; omega) (by omega) q)
   repeat (first | exact KP.nil | apply KP.cons rfl)
theorem trimL (p : List UInt8) {M0 : PMem} {a i : Nat} {w : Wm} (hM : M0 a i = some (.row w 0 (tabOf p))) (M : PMem) (k : Nat) (hs : Pm.Sub M0 M) (hf : fresh M k) (Q : AExit -> PSt -> Prop) :
  ∀ (n : Nat) (s : List UInt8), s.length = n -> n <= 1000000 -> (∀ tm, tget tm 0 = str (trL p s) -> Q (.exit 0) ⟨tm, 16, k, [], M⟩) -> RXL env Tryz.prog none c94_10 ⟨[(0, str s), (1, .ptr a i 0)], 16, k, [], M⟩ Q := by
 intro n
 induction n with
 | zero =>
  intro s hs0 _ q
  have : s = [] := List.length_eq_zero_iff.1 hs0
  subst this
  refine RXL.round (RX.of env_ok ?_)
  have h0 : decide (((0 : Nat) : Int) > 0) = false := rfl
  simp only [G0, Z1, Z2, Z3, Z4, Z5, len_nil, h0]
  exact q _ rfl
 | succ n ih =>
  intro s hs0 hn q
  cases s with
  | nil => cases hs0
  | cons b s =>
  have h0 : decide (((b :: s).length : Int) > 0) = true := by simp
  have hfr : sliceS (str (b :: s)) (some (iv 1)) none = some (str s) := str_from (i := 1) (by simp)
  have hix : idxS (str (b :: s)) (iv 0) = some (encB b) := str_idx (i := 0) rfl
  have hln : lenS (str (b :: s)) = some (iv ((b :: s).length : Nat)) := rfl
  have htr : trL p (b :: s) = if p.contains b = true then trL p s else b :: s := by
   unfold trL; rw [List.dropWhile_cons]
  rw [htr] at q
  generalize (b :: s).length = n' at h0 hln
  refine RXL.round (RX.of env_ok ?_)
  simp only [G0, Z1, Z2, Z3, Z4, Z5, hln, h0, hix]
  refine cs0 (contains117 p b hM) (hs.sseg hf) (by decide) ?_
  cases hc : p.contains b with
  | false =>
   rw [hc] at q
   simp only [G0, Z1, Z2, Z3, Z4, Z5, Bool.not_true, Bool.not_false]
   exact q _ rfl
  | true =>
   rw [hc] at q
   simp only [G0, Z1, Z2, Z3, Z4, Z5, hfr, Bool.not_true, Bool.not_false]
   refine RXL.weak (keepE ?_) (ih s (by simpa using hs0) (by omega) q)
   repeat (first | exact KP.nil | apply KP.cons rfl)
theorem trim110 (p s : List UInt8) (hl : s.length <= 1000000) {M0 : PMem} {a i : Nat} {w : Wm} (hM : M0 a i = some (.row w 0 (tabOf p))) : PTs env Tryz.prog M0 95 [str s, .ptr a i 0] (str (trR p s)) := by
 refine PTs.enter env_ok fn95 (by simp) comp95 fun M k hs hk hf => ?_
 simp only [G0, Z1, Z2, Z3, Z4, Z5, argsP]
 refine RX.loop (RXL.weak (keepE ?_) (trimR p hM M k hs hf _ _ s rfl hl fun tm ht => ?_))
 ·repeat (first | exact KP.nil | apply KP.cons rfl)
 ·simp only [G0, Z1, Z2, Z3, Z4, Z5, ht]
  exact end1 hf rfl ⟨rfl, rfl⟩
theorem trim109 (p s : List UInt8) (hl : s.length <= 1000000) {M0 : PMem} {a i : Nat} {w : Wm} (hM : M0 a i = some (.row w 0 (tabOf p))) : PTs env Tryz.prog M0 94 [str s, .ptr a i 0] (str (trL p s)) := by
 refine PTs.enter env_ok fn94 (by simp) comp94 fun M k hs hk hf => ?_
 simp only [G0, Z1, Z2, Z3, Z4, Z5, argsP]
 refine RX.loop (RXL.weak (keepE ?_) (trimL p hM M k hs hf _ _ s rfl hl fun tm ht => ?_))
 ·repeat (first | exact KP.nil | apply KP.cons rfl)
 ·simp only [G0, Z1, Z2, Z3, Z4, Z5, ht]
  exact end1 hf rfl ⟨rfl, rfl⟩
theorem loop108 (cs : List UInt8) (hc : ∀ b ∈ cs, b.toNat < 128) (hl : cs.length <= 1000000) (M : PMem) (k : Nat) (Q : AExit -> PSt -> Prop) (q : ∀ tm, tget tm 2 = .ptr k 0 0 -> Q (.exit 0) ⟨tm, 21, k, [.row .rw 0 (tabOf cs)], M⟩) :
  ∀ d i, cs.length - i = d -> i <= cs.length →
  RXL env Tryz.prog none c93_17 ⟨[(4, iv i), (2, .ptr k 0 0), (0, str cs)], 21, k, [.row .rw 0 (tabOf (cs.take i))], M⟩ Q := by
 intro d
 induction d with
 | zero =>
  intro i hd hi
  have : i = cs.length := by omega
  subst this
  have h0 : decide ((cs.length : Int) < (cs.length : Int)) = false := by simp
  refine RXL.round (RX.of env_ok ?_)
  rw [List.take_length]
  simp only [G0, Z1, Z2, Z3, Z4, Z5, len_str, h0]
  exact q _ rfl
 | succ d ih =>
  intro i hd hi
  have hi' : i < cs.length := by omega
  obtain ⟨b, hb, _⟩ := getE hi'
  have h0 : decide ((i : Int) < (cs.length : Int)) = true := by simp; omega
  have hb2 := hc b (List.mem_of_getElem? hb)
  have h1 : decide ((b.toNat : Int) >= 128) = false := by simp; omega
  have hix : idxS (str cs) (iv i) = some (encB b) := str_idx hb
  have hw : IntKind.i64.wrap ((i : Int) + 1) = ((i + 1 : Nat) : Int) := by rw [wrap64_id (by omega) (by omega)]; rfl
  have htk : cs.take i ++ [b] = cs.take (i + 1) := by
   rw [List.take_add_one, hb]; rfl
  refine RXL.round (RX.of env_ok ?_)
  have hge : ∀ {t : Nat} {c d : Bool}, pbin env .geq t c d (encB b) (.v (.int .u8 128)) = some (bv false) := fun {t c d} => by
   unfold encB; rw [pbin_geq, h1]
  have hput := tab_put (cs.take i) b
  rw [htk] at hput
  simp only [G0, Z1, Z2, Z3, Z4, Z5, len_str, h0, hix, hge, tab_addr, hput, hw]
  refine RXL.weak (keepE ?_) (ih (i + 1) (by omega) (by omega))
  repeat (first | exact KP.nil | apply KP.cons rfl)
theorem tp160 : tyP env 127 = some (true, 256) := by kernel_rfl
theorem letters_small : ∀ b ∈ letters, b.toNat < 128 := by decide
theorem set108 : PTp env Tryz.prog 93 [str letters] (.tup [.agg (tabOf letters), bv true]) := fun M => by
 refine PT.enterR env_ok fn93 (by simp) comp93 fun k hk hf => RX.of env_ok ?_
 have h0 := tab_nil
 simp only [List.replicate] at h0
 simp only [G0, Z1, Z2, Z3, Z4, Z5, argsP]
 rw [<- h0]
 refine RX.loop (RXL.weak (keepE ?_) (loop108 letters letters_small (by decide) M k _ (fun tm ht => ?_) _ 0 rfl (Nat.zero_le _)))
 ·repeat (first | exact KP.nil | apply KP.cons rfl)
 ·have htk : (tabOf letters).take 256 = tabOf letters := List.take_of_length_le (by rw [tab_len]; exact Nat.le_refl _)
  have hst : storeO 256 0 (.agg (tabOf letters)) (some (.row .rw 0 (tabOf letters))) = some (.row .rw 0 (tabOf letters)) := by
   rw [storeO_eq (x := .agg (tabOf letters)) (n := 256) (o := 0) (cs := tabOf letters) ⟨tab_len _, by rw [pcells_agg, tab_len]; decide, tab_all _⟩, pcells_agg, psplice_all rfl]
  simp only [G0, Z1, Z2, Z3, Z4, Z5, ht, tab_len, htk, hst]
  exact endc2 hf tp160 ((congrArg _ (show tget _ 2 = .ptr k 0 0 from ht)).trans (loadP_own.trans (by show ptake true 256 (tabOf letters) 0 = _; rw [ptake_all (tab_len _).symm]))) rfl ⟨rfl, rfl⟩
def trims (s : List UInt8) : List UInt8 := if s = [] then [] else trL letters (trR letters s)
theorem trims_nil (s : List UInt8) : (trims s == []) = s.all isL := by
 unfold trims
 split
 ·rename_i h; subst h; rfl
 ·have := trim_nil letters s
  have e : s.all isL = s.all letters.contains := rfl
  rw [e]
  cases h : s.all letters.contains with
  | true => simpa using this.2 h
  | false =>
   have h2 : ¬ (trL letters (trR letters s) = []) := fun e => by rw [this.1 e] at h; cases h
   simpa using h2
theorem trim94 (s : List UInt8) (hl : s.length <= 1000000) : PTp env Tryz.prog 65 [str s, str letters] (str (trims s)) := by
 by_cases hs : s = []
 ·subst hs
  intro M
  refine PT.enterR env_ok fn65 (by simp) comp65 fun k hk hf => RX.of env_ok ?_
  have e1 : (([] : List UInt8) == []) = true := rfl
  simp only [G0, Z1, Z2, Z3, Z4, Z5, argsP, str_eql, e1, Bool.not_true, Bool.true_or]
  exact end1 hf rfl ⟨rfl, rfl⟩
 ·have e1 : (s == []) = false := by simpa using hs
  have e2 : (letters == []) = false := rfl
  have e3 : lenS (str letters) = some (iv 39) := rfl
  have e4 : ((39 : Int) == 1) = false := rfl
  have htk : (tabOf letters).take 256 = tabOf letters := List.take_of_length_le (by rw [tab_len]; exact Nat.le_refl _)
  have h0 := tab_nil
  simp only [List.replicate] at h0
  have hst : storeO 256 0 (.agg (tabOf letters)) (some (.row .rw 0 (tabOf []))) = some (.row .rw 0 (tabOf letters)) := by
   rw [storeO_eq (x := .agg (tabOf letters)) (n := 256) (o := 0) (cs := tabOf []) ⟨tab_len _, by rw [pcells_agg, tab_len, tab_len]; decide, tab_all _⟩, pcells_agg, psplice_all (by rw [tab_len, tab_len])]
  rw [h0] at hst
  intro M
  refine PT.enterR env_ok fn65 (by simp) comp65 fun k hk hf => RX.of env_ok ?_
  simp only [G0, Z1, Z2, Z3, Z4, Z5, argsP, str_eql, e1, e2, e3, e4, Bool.not_true, Bool.not_false, Bool.or_false]
  refine cp0 set108 (by decide) ?_
  simp only [G0, Z1, Z2, Z3, Z4, Z5, hst]
  have hM : (seg M k [.row .rw 0 (tabOf letters)]) k 0 = some (.row .rw 0 (tabOf letters)) := by rw [seg_same]; rfl
  refine cs0 (trim110 letters s hl hM) (Pm.Sub.refl _) (by decide) ?_
  simp only [G0, Z1, Z2, Z3, Z4, Z5]
  refine cs0 (trim109 letters _ (Nat.le_trans (trR_len _ _) hl) hM) (Pm.Sub.refl _) (by decide) ?_
  simp only [G0, Z1, Z2, Z3, Z4, Z5]
  refine end1 hf rfl ⟨?_, rfl⟩
  show str _ = str _
  unfold trims
  rw [if_neg hs]
theorem str_ne {E : Env} {t : Nat} {c d : Bool} {a b : List UInt8} : pbin E .neq t c d (str a) (str b) = some (bv (a != b)) := by
 rw [str_neq]; rfl
def partOk (s : List UInt8) : Bool := (((s != [] && decide ((s.length : Int) <= 12)) && s != [46]) && s != [46, 46]) && s.all isL
theorem part82 (s : List UInt8) (hl : s.length <= 1000000) : PTp env Tryz.prog 47 [str s] (bv (partOk s)) := fun M => by
 refine PT.enterR env_ok fn47 (by simp) comp47 fun k hk hf => RX.of env_ok ?_
 simp only [G0, Z1, Z2, Z3, Z4, Z5, argsP, str_ne, str_eql, len_str]
 refine cg0T (fun h => by simp only [h, cnd_t]; exact trim94 s hl) (by decide) ?_
 simp only [G0, Z1, Z2, Z3, Z4, Z5, str_eql, trims_nil]
 refine cg0T (fun h => by
  simp only [h, cnd_t]
  rw [Bool.and_eq_true] at h
  exact idx95 s (List.all_eq_true.1 h.2) hl) (by decide) ?_
 simp only [G0, Z1, Z2, Z3, Z4, Z5]
 refine end1 hf rfl ⟨?_, rfl⟩
 show bv _ = bv _
 unfold partOk
 rw [Bool.not_false, Bool.and_true]
end Go.Proofs.YthjlhgjnjhmfbaaGreatDoor
noncomputable section
namespace Go.Proofs.YthjlhgjnjhmfbaaGreatDoor
open Go Go.Am Go.Pm
def parts : List UInt8 -> List (List UInt8)
 | [] => [[]]
 | c :: r => if c = 47 then [] :: parts r else match parts r with
  | p :: ps => (c :: p) :: ps
  | [] => [[c]]
theorem idxOf_succ (c : UInt8) : ∀ (l : List UInt8) (k : Nat), idxOf c (k + 1) l = (idxOf c k l).map (· + 1)
 | [], k => rfl
 | b :: r, k => by
  unfold idxOf
  split
  ·rfl
  ·exact idxOf_succ c r (k + 1)
theorem parts_none : ∀ {s : List UInt8}, idxOf 47 0 s = none -> parts s = [s]
 | [], _ => rfl
 | c :: r, h => by
  unfold idxOf at h
  split at h
  ·cases h
  ·rename_i hc
   rw [idxOf_succ, Option.map_eq_none_iff] at h
   unfold parts
   rw [if_neg hc, parts_none h]
theorem parts_some : ∀ {s : List UInt8} {j : Nat}, idxOf 47 0 s = some j -> parts s = s.take j :: parts (s.drop (j + 1))
 | [], _, h => by cases h
 | c :: r, j, h => by
  unfold idxOf at h
  split at h
  ·rename_i hc
   cases h
   conv => lhs; unfold parts
   rw [if_pos hc]; rfl
  ·rename_i hc
   rw [idxOf_succ] at h
   cases hj : idxOf 47 0 r with
   | none => rw [hj] at h; cases h
   | some j' =>
    rw [hj] at h
    cases h
    conv => lhs; unfold parts
    rw [if_neg hc, parts_some hj]; rfl
def folds {σ : Type} (nxt : σ -> List UInt8 -> Option σ) : σ -> List (List UInt8) -> Option σ
 | st, [] => some st
 | st, p :: ps => match nxt st p with
  | some st' => folds nxt st' ps
  | none => none
def bx (s : List UInt8) : List Pm.Obj := [.row .rw 0 [str s], .row .rw 0 [str [47]], .row .rw 0 [iv 0]]
def mm (M0 : PMem) (kb k : Nat) (s : List UInt8) (os : List Pm.Obj) : PMem := seg (seg M0 kb (bx s)) k os
theorem mm_fresh {M0 : PMem} {kb k k2 : Nat} {s : List UInt8} {os : List Pm.Obj} (hne : kb ≠ k) (ho : 0 < os.length) (h : fresh (mm M0 kb k s os) k2) : k2 ≠ k /\ k2 ≠ kb /\ fresh M0 k2 := by
 have h1 : k2 ≠ k := fun e => by
  subst e
  have := h 0
  unfold mm at this
  rw [seg_same, List.getElem?_eq_getElem ho] at this; cases this
 have h2 : k2 ≠ kb := fun e => by
  subst e
  have := h 0
  unfold mm at this
  rw [seg_ne _ _ _ hne, seg_same] at this; cases this
 refine ⟨h1, h2, fun j => ?_⟩
 have := h j
 unfold mm at this
 rwa [seg_ne _ _ _ h1, seg_ne _ _ _ h2] at this
theorem fresh_mm {M0 : PMem} {kb k k2 : Nat} (s : List UInt8) (os : List Pm.Obj) (h : k2 ≠ k /\ k2 ≠ kb /\ fresh M0 k2) : fresh (mm M0 kb k s os) k2 := fun j => by
 unfold mm
 rw [seg_ne _ _ _ h.1, seg_ne _ _ _ h.2.1]; exact h.2.2 j
theorem mm_ld {M0 : PMem} {kb k k2 j n o : Nat} {s : List UInt8} {os os' : List Pm.Obj} {ag : Bool} (hne : kb ≠ k) (h2 : k2 ≠ kb) : loadP k2 os' (mm M0 kb k s os) ag n (.ptr kb j o) = rowTake ag n o (bx s)[j]? := by
 rw [loadP_out (Ne.symm h2)]; unfold mm; rw [seg_ne _ _ _ hne, seg_same]
theorem mm_st {M0 : PMem} {kb k k2 nt : Nat} {s s' : List UInt8} {os os' : List Pm.Obj} {tm : List (Nat × PV)} (hne : kb ≠ k) (h2 : k2 ≠ kb) :
  storeP tm nt k2 os' (mm M0 kb k s os) 1 (str s') (.ptr kb 0 0) = some (.junk, ⟨tm, nt, k2, os', mm M0 kb k s' os⟩) := by
 have e1 : mm M0 kb k s os kb 0 = some (.row .rw 0 [str s]) := by unfold mm; rw [seg_ne _ _ _ hne, seg_same]; rfl
 rw [storeP_out (Ne.symm h2), e1, storeO_eq (n := 1) ⟨rfl, Nat.le_refl 1, rfl⟩, stO_eq]
 congr 4
 unfold mm
 rw [put_seg_ne hne, put_seg (show 0 < 3 by decide)]; rfl
theorem mm_ldk {M0 : PMem} {kb k k2 j n o : Nat} {s : List UInt8} {os os' : List Pm.Obj} {ag : Bool} (h2 : k2 ≠ k) : loadP k2 os' (mm M0 kb k s os) ag n (.ptr k j o) = rowTake ag n o os[j]? := by
 rw [loadP_out (Ne.symm h2)]; unfold mm; rw [seg_same]
def stK (tm : List (Nat × PV)) (nt k2 : Nat) (os' : List Pm.Obj) (M0 : PMem) (kb k : Nat) (s : List UInt8) (os : List Pm.Obj) (j : Nat) : Option Pm.Obj -> Option (PV × PSt)
 | some ob => some (.junk, ⟨tm, nt, k2, os', mm M0 kb k s (os.set j ob)⟩)
 | none => none
theorem stK_some {tm : List (Nat × PV)} {nt k2 : Nat} {os' : List Pm.Obj} {M0 : PMem} {kb k : Nat} {s : List UInt8} {os : List Pm.Obj} {j : Nat} {ob : Pm.Obj} : stK tm nt k2 os' M0 kb k s os j (some ob) = some (.junk, ⟨tm, nt, k2, os', mm M0 kb k s (os.set j ob)⟩) := rfl
theorem mm_stk {M0 : PMem} {kb k k2 nt n o j : Nat} {s : List UInt8} {os os' : List Pm.Obj} {tm : List (Nat × PV)} {v : PV} (h2 : k2 ≠ k) :
  storeP tm nt k2 os' (mm M0 kb k s os) n v (.ptr k j o) = stK tm nt k2 os' M0 kb k s os j (storeO n o v os[j]?) := by
 have e1 : mm M0 kb k s os k j = os[j]? := by unfold mm; rw [seg_same]
 rw [storeP_out (Ne.symm h2), e1]
 cases e : storeO n o v os[j]? with
 | none => rfl
 | some ob =>
  have hj : j < os.length := by
   rcases Nat.lt_or_ge j os.length with h | h
   ·exact h
   ·rw [List.getElem?_eq_none h] at e; cases e
  rw [stO_eq, stK_some]
  unfold mm
  rw [put_seg hj]
theorem mm_put {M0 : PMem} {kb k i : Nat} {s : List UInt8} {os : List Pm.Obj} {o : Pm.Obj} (h : i < os.length) : putM (mm M0 kb k s os) k i o = mm M0 kb k s (os.set i o) := by
 unfold mm; rw [put_seg h]
theorem seg_comm {M : PMem} {a b : Nat} {x y : List Pm.Obj} (h : a ≠ b) : seg (seg M a x) b y = seg (seg M b y) a x := by
 funext c j
 by_cases h1 : c = b
 ·subst h1; rw [seg_same, seg_ne _ _ _ (Ne.symm h), seg_same]
 ·rw [seg_ne _ _ _ h1]
  by_cases h2 : c = a
  ·subst h2; rw [seg_same, seg_same]
  ·rw [seg_ne _ _ _ h2, seg_ne _ _ _ h2, seg_ne _ _ _ h1]
theorem loop103 {σ : Type} {M0 : PMem} {kb k i k2 : Nat} (hne : kb ≠ k) (os : σ -> List Pm.Obj) (nxt : σ -> List UInt8 -> Option σ) (I : σ -> Prop) (hI : ∀ st p st', I st -> nxt st p = some st' -> I st') (Z : List Pm.Obj -> Prop) (h2 : k2 ≠ k /\ k2 ≠ kb /\ fresh M0 k2)
  (hR : ∀ st s part, I st -> part.length <= 1000000 -> PRd env Tryz.prog k i [str part] (mm M0 kb k s (os st)) (fun x M1 => (∃ st', nxt st part = some st' /\ x = bv true /\ M1 = mm M0 kb k s (os st')) \/ (nxt st part = none /\ x = bv false /\ ∃ os', Z os' /\ M1 = mm M0 kb k s os')))
  (Q : AExit -> PSt -> Prop) : ∀ (n : Nat) (s : List UInt8) (st : σ), I st -> s.length = n -> n <= 1000000 →
  (∀ st' s' tm, I st' -> s'.length <= 1000000 -> folds nxt st (parts s) = folds nxt st' [s'] -> tget tm 0 = .yld k i -> tget tm 2 = .ptr kb 0 0 -> Q (.exit 2) ⟨tm, 52, k2, [], mm M0 kb k s' (os st')⟩) →
  (folds nxt st (parts s) = none -> ∀ tm s' os', Z os' -> Q .ret ⟨tm, 52, k2, [], mm M0 kb k s' os'⟩) →
  RXL env Tryz.prog none c88_31 ⟨[(0, .yld k i), (1, .ptr kb 1 0), (2, .ptr kb 0 0), (3, .ptr kb 2 0)], 52, k2, [], mm M0 kb k s (os st)⟩ Q := by
 intro n
 induction n using Nat.strongRecOn with
 | ind n ih =>
  intro s st hst0 hs hn q1 q2
  refine RXL.round (RX.of env_ok ?_)
  have hld : ∀ {ag : Bool} {n o j : Nat} {s : List UInt8} {os os' : List Pm.Obj}, loadP k2 os' (mm M0 kb k s os) ag n (.ptr kb j o) = rowTake ag n o (bx s)[j]? := mm_ld hne h2.2.1
  have hst : ∀ {nt : Nat} {s s' : List UInt8} {os os' : List Pm.Obj} {tm : List (Nat × PV)}, storeP tm nt k2 os' (mm M0 kb k s os) 1 (str s') (.ptr kb 0 0) = some (.junk, ⟨tm, nt, k2, os', mm M0 kb k s' os⟩) := mm_st hne h2.2.1
  simp only [G0, Z1, Z2, Z3, Z4, Z5, hld, bx]
  refine cp0 (idx105 s 47) (by decide) ?_
  cases hj : idxOf 47 0 s with
  | none =>
   have hlt : decide ((-1 : Int) < 0) = true := rfl
   simp only [G0, Z1, Z2, Z3, Z4, Z5, idxI, hlt]
   exact q1 st s _ hst0 (by omega) (by rw [parts_none hj]) rfl rfl
  | some j =>
   obtain ⟨_, hjl, _, _⟩ := idxOf_le hj
   have hp := parts_some hj
   have hlt : decide ((j : Int) < 0) = false := by simp
   have hw0 : IntKind.i64.wrap ((j : Int) + 0) = (j : Int) := by rw [wrap64_id (by omega) (by omega)]; omega
   have hw1 : IntKind.i64.wrap ((j : Int) + ((1 : Nat) : Int)) = ((j + 1 : Nat) : Int) := by rw [wrap64_id (by omega) (by omega)]; rfl
   have hto : sliceS (str s) none (some (iv j)) = some (str (s.take j)) := str_to (by omega)
   have hfr : sliceS (str s) (some (iv ((j + 1 : Nat) : Int))) none = some (str (s.drop (j + 1))) := str_from (by omega)
   simp only [G0, Z1, Z2, Z3, Z4, Z5, idxI, hlt, hld, bx, hw0, hto]
   refine cY (fresh_mm _ _ h2) (hR st s (s.take j) hst0 (by simp; omega)) (by decide) ?_
   rintro x M1 (⟨st', h1, rfl, rfl⟩ | ⟨h1, rfl, os', hz, rfl⟩)
   ·simp only [G0, Z1, Z2, Z3, Z4, Z5, Bool.not_true, Bool.not_false, hld, bx, hw1, hfr, hst]
    have hf : folds nxt st (parts s) = folds nxt st' (parts (s.drop (j + 1))) := by
     rw [hp]; simp only [folds, h1]
    refine RXL.weak (keepE ?_) (ih (s.drop (j + 1)).length (by rw [List.length_drop]; omega) (s.drop (j + 1)) st' (hI _ _ _ hst0 h1) rfl (by rw [List.length_drop]; omega) (fun st'' s' tm hi hl e => q1 st'' s' tm hi hl (by rw [hf, e])) (fun e => q2 (by rw [hf, e])))
    repeat (first | exact KP.nil | apply KP.cons rfl)
   ·simp only [G0, Z1, Z2, Z3, Z4, Z5, Bool.not_true, Bool.not_false]
    exact q2 (by rw [hp]; simp only [folds, h1]) _ _ _ hz
theorem split103 {σ : Type} {M0 : PMem} {kb k i : Nat} (hne : kb ≠ k) (os : σ -> List Pm.Obj) (hos : ∀ st, 0 < (os st).length) (nxt : σ -> List UInt8 -> Option σ) (I : σ -> Prop) (hI : ∀ st p st', I st -> nxt st p = some st' -> I st') (Z : List Pm.Obj -> Prop)
  (hR : ∀ st s part, I st -> part.length <= 1000000 -> PRd env Tryz.prog k i [str part] (mm M0 kb k s (os st)) (fun x M1 => (∃ st', nxt st part = some st' /\ x = bv true /\ M1 = mm M0 kb k s (os st')) \/ (nxt st part = none /\ x = bv false /\ ∃ os', Z os' /\ M1 = mm M0 kb k s os')))
  (s : List UInt8) (st : σ) (hst0 : I st) (hl : s.length <= 1000000) :
  PT env Tryz.prog 88 [.yld k i, .ptr kb 1 0, .ptr kb 0 0, .ptr kb 2 0] (mm M0 kb k s (os st)) (fun _ M1 => (∃ st' s', folds nxt st (parts s) = some st' /\ M1 = mm M0 kb k s' (os st')) \/ (folds nxt st (parts s) = none /\ ∃ s' os', Z os' /\ M1 = mm M0 kb k s' os')) := by
 refine PT.enterR env_ok fn88 (by simp) comp88 fun k2 hk hf => RX.of env_ok ?_
 have h2 := mm_fresh hne (hos st) hf
 have hld : ∀ {ag : Bool} {n o j : Nat} {s : List UInt8} {os os' : List Pm.Obj}, loadP k2 os' (mm M0 kb k s os) ag n (.ptr kb j o) = rowTake ag n o (bx s)[j]? := mm_ld hne h2.2.1
 have h10 : (((1 : Nat) : Int) == 0) = false := rfl
 simp only [G0, Z1, Z2, Z3, Z4, Z5, argsP, hld, bx, h10]
 refine RX.loop (RXL.weak (keepE ?_) (loop103 hne os nxt I hI Z h2 hR _ _ s st hst0 rfl hl (fun st' s' tm hi' hs' hfo ht0 ht2 => ?_) (fun hfo tm s' os' hz => ?_)))
 ·repeat (first | exact KP.nil | apply KP.cons rfl)
 ·simp only [G0, Z1, Z2, Z3, Z4, Z5, ht0, ht2, hld, bx]
  refine cY (fresh_mm _ _ h2) (hR st' s' s' hi' hs') (by decide) ?_
  rintro x M1 (⟨st'', h1, rfl, rfl⟩ | ⟨h1, rfl, os', hz, rfl⟩)
  ·simp only [G0, Z1, Z2, Z3, Z4, Z5]
   refine end0' (fresh_mm _ _ h2) (.inl ⟨st'', s', ?_, rfl⟩)
   rw [hfo]; simp only [folds, h1]
  ·simp only [G0, Z1, Z2, Z3, Z4, Z5]
   refine end0' (fresh_mm _ _ h2) (.inr ⟨?_, s', os', hz, rfl⟩)
   rw [hfo]; simp only [folds, h1]
 ·simp only [G0, Z1, Z2, Z3, Z4, Z5]
  have h2' : fresh (mm M0 kb k s' os') k2 := fresh_mm _ _ h2
  exact end0 h2' (.inr ⟨hfo, s', os', hz, rfl⟩)
theorem split93 (s : List UInt8) (M : PMem) : PT env Tryz.prog 64 [str s, str [47], iv 0] M (fun x M1 => ∃ kb, 0 < kb /\ fresh M kb /\ x = .fn 88 [] [.ptr kb 1 0, .ptr kb 0 0, .ptr kb 2 0] /\ M1 = seg M kb (bx s)) := by
 refine PT.enterR env_ok fn64 (by simp) comp64 fun k hk hf => RX.of env_ok ?_
 simp only [G0, Z1, Z2, Z3, Z4, Z5, argsP]
 exact endM rfl ⟨k, hk, hf, rfl, rfl⟩
theorem split81 (s : List UInt8) (M : PMem) : PT env Tryz.prog 46 [str s, str [47]] M (fun x M1 => ∃ kb, 0 < kb /\ fresh M kb /\ x = .fn 88 [] [.ptr kb 1 0, .ptr kb 0 0, .ptr kb 2 0] /\ M1 = seg M kb (bx s)) := by
 refine PT.enterG env_ok fn46 (by simp) comp46 fun k hk hf => ?_
 simp only [G0, Z1, Z2, Z3, Z4, Z5, argsP]
 refine cm (first := []) (cap := []) ((split93 s _).mono ?_)
 rintro x M1 ⟨kb, h1, h2, rfl, rfl⟩
 have hne : kb ≠ k := fun e => by
  subst e
  have := h2 0
  rw [seg_same] at this; cases this
 have h2' : fresh M kb := fun j => by
  have := h2 j
  rwa [seg_ne _ _ _ hne] at this
 refine ⟨[ghost], seg M kb (bx s), rfl, MLe.of_eq (seg_comm (Ne.symm hne)), by decide, ?_⟩
 simp only [G0, Z1, Z2, Z3, Z4, Z5]
 exact end1 (fresh_seg hf (Ne.symm hne)) rfl ⟨kb, h1, h2', rfl, rfl⟩
def nxtP (n : Nat) (p : List UInt8) : Option Nat := if decide (((n + 1 : Nat) : Int) > 6) || !partOk p then none else some (n + 1)
def pathOk (s : List UInt8) : Bool := (folds nxtP 0 (parts s)).isSome
theorem codeA63 : codeOk env.ng (subc [1, 0, 1, 1, 0, 1, 0, 0] body24) = true := by kernel_rfl
theorem codeB63 : codeOk env.ng (subc [1, 0, 1, 1, 0, 1, 0, 1] body24) = true := by kernel_rfl
def osP (tm : List (Nat × PV)) (n : Nat) : List Pm.Obj := [.row .rw 0 [iv n], .row .rw 0 [iv 0], .loop true .ready none tm 18 [8] (subc [1, 0, 1, 1, 0, 1, 0, 0] body24) (subc [1, 0, 1, 1, 0, 1, 0, 1] body24)]
def zP (tm : List (Nat × PV)) (os : List Pm.Obj) : Prop := ∃ n : Int, os = [.row .rw 0 [iv n], .row .rw 0 [iv 2], .loop true .done (some (.exit 0)) tm 18 [8] (subc [1, 0, 1, 1, 0, 1, 0, 0] body24) (subc [1, 0, 1, 1, 0, 1, 0, 1] body24)]
theorem round63 {M0 : PMem} {kb k : Nat} (hne : kb ≠ k) (tm : List (Nat × PV)) (h3 : tget tm 3 = .ptr k 0 0) (h4 : tget tm 4 = .ptr k 1 0) (n : Nat) (hn : n <= 1000000) (s part : List UInt8) (hp : part.length <= 1000000) :
  PRd env Tryz.prog k 2 [str part] (mm M0 kb k s (osP tm n)) (fun x M1 => (∃ n', nxtP n part = some n' /\ x = bv true /\ M1 = mm M0 kb k s (osP tm n')) \/ (nxtP n part = none /\ x = bv false /\ ∃ os', zP tm os' /\ M1 = mm M0 kb k s os')) := by
 refine PRd.runR env_ok codeA63 codeB63 piece24_1 piece24_2 (tm1 := (8, str part) :: tm) (pend := none) (tm := tm) (nt := 18) (ps := [8]) (by unfold mm; rw [seg_same]; rfl) (by simp [pparams]) fun k' hk' hkk hf => RX.of env_ok ?_
 have hk2 : k' ≠ k := hkk
 simp only [G0, Z1, Z2, Z3, Z4, Z5]
 refine ⟨_, _, rfl, RX.of env_ok ?_⟩
 have hw : IntKind.i64.wrap ((n : Int) + 1) = ((n + 1 : Nat) : Int) := by rw [wrap64_id (by omega) (by omega)]; rfl
 have hld : ∀ {ag : Bool} {n o j : Nat} {s : List UInt8} {os os' : List Pm.Obj}, loadP k' os' (mm M0 kb k s os) ag n (.ptr k j o) = rowTake ag n o os[j]? := mm_ldk hk2
 have hstk : ∀ {nt n o j : Nat} {s : List UInt8} {os os' : List Pm.Obj} {tm : List (Nat × PV)} {v : PV}, storeP tm nt k' os' (mm M0 kb k s os) n v (.ptr k j o) = stK tm nt k' os' M0 kb k s os j (storeO n o v os[j]?) := mm_stk hk2
 rw [mm_put (by show 2 < 3; decide)]
 simp only [osP, List.set_cons_succ, List.set_cons_zero]
 have hfr := mm_fresh (os := osP tm n) hne (show 0 < 3 by decide) hf
 simp only [G0, Z1, Z2, Z3, Z4, Z5, h3, h4, hld, hstk, stK_some, hw]
 refine cW_s (fun hb => ?_) (fun hb => ?_)
 ·simp only [G0, Z1, Z2, Z3, Z4, Z5, h3, h4, hld, hstk, stK_some, hw, hb]
  refine roundStop (c := .exit 0) rfl (Ne.symm hkk) (by unfold mm; rw [seg_same]; rfl) (fresh_mm _ _ hfr) (.inr ⟨?_, rfl, _, ⟨((n + 1 : Nat) : Int), rfl⟩, ?_⟩)
  ·unfold nxtP; rw [hb]; rfl
  ·rw [mm_put (show 2 < 3 by decide)]; rfl
 ·simp only [G0, Z1, Z2, Z3, Z4, Z5, h3, h4, hld, hstk, stK_some, hw]
  refine cp (first := []) (cap := []) (part82 part hp) (by decide) ?_
  simp only [G0, Z1, Z2, Z3, Z4, Z5]
  refine cW_s (fun hc => ?_) (fun hc => ?_)
  ·simp only [G0, Z1, Z2, Z3, Z4, Z5, h3, h4, hld, hstk, stK_some, hw]
   refine roundStop (c := .exit 0) rfl (Ne.symm hkk) (by unfold mm; rw [seg_same]; rfl) (fresh_mm _ _ hfr) (.inr ⟨?_, rfl, _, ⟨((n + 1 : Nat) : Int), rfl⟩, ?_⟩)
   ·unfold nxtP; rw [hb, hc]; rfl
   ·rw [mm_put (show 2 < 3 by decide)]; rfl
  ·simp only [G0, Z1, Z2, Z3, Z4, Z5, h3, h4, hld, hstk, stK_some, hw]
   refine roundGo (Ne.symm hkk) (by unfold mm; rw [seg_same]; rfl) (fresh_mm _ _ hfr) (.inl ⟨n + 1, ?_, rfl, ?_⟩)
   ·unfold nxtP; rw [hb, hc]; rfl
   ·rw [mm_put (show 2 < 3 by decide)]; rfl
theorem end1m {Q : PV -> PMem -> Prop} {body : Code} {nt nt' r k : Nat} {tm : List (Nat × PV)} {os : List Pm.Obj} {M M1 : PMem} {v : PV} (hv : tget tm r = v) (hM : MLe (seg M k os) M1) (h : Q v M1) : ends env ⟨nt, [.tmp r], body⟩ Q .ret ⟨tm, nt', k, os, M⟩ := by
 subst hv; exact ⟨.inr rfl, [_], M1, rfl, hM, h⟩
theorem path_check (s : List UInt8) (hl : s.length <= 1000000) : PTp env Tryz.prog 24 [str s] (iv (errIf (pathOk s))) := fun M => by
 refine PT.enterR env_ok fn24 (by simp) comp24 fun k hk hf => RX.of env_ok ?_
 simp only [G0, Z1, Z2, Z3, Z4, Z5, argsP]
 refine RX.scope1 piece24_3 (RX.of env_ok ?_)
 simp only [G0, Z1, Z2, Z3, Z4, Z5]
 refine cm (first := []) (cap := []) ((split81 s _).mono ?_)
 rintro x M1 ⟨kb, h1, h2, rfl, rfl⟩
 have hne : kb ≠ k := fun e => by
  subst e
  have := h2 0
  rw [seg_same] at this; cases this
 have h2' : fresh M kb := fun j => by
  have := h2 j
  rwa [seg_ne _ _ _ hne] at this
 refine ⟨[.row .rw 0 [iv 0], .row .rw 0 [iv 0]], seg M kb (bx s), rfl, MLe.of_eq (seg_comm (Ne.symm hne)), by decide, ?_⟩
 simp only [G0, Z1, Z2, Z3, Z4, Z5]
 have hpop : ∀ (s' : List UInt8) (os : List Pm.Obj), MLe (seg (seg M kb (bx s')) k os) M := fun s' os a j o e => by
  refine ⟨o, ?_, .refl o⟩
  rw [seg_ne _ _ _ (fun hk => by subst hk; rw [hf j] at e; cases e), seg_ne _ _ _ (fun hk => by subst hk; rw [h2' j] at e; cases e)]
  exact e
 refine RX.range env_ok (g := 88) (first := []) (captured := [.ptr kb 1 0, .ptr kb 0 0, .ptr kb 2 0]) rfl fn88 (fun _ _ e => by cases e) ?_
 refine (split103 (M0 := M) (kb := kb) (k := k) (i := 2) hne (osP _) (fun _ => by show 0 < 3; decide) nxtP (fun n => n <= 6) (fun n p n' hn h => ?_) (zP _) (fun n s' part hn hp => round63 hne _ rfl rfl n (by omega) s' part hp) s 0 (by decide) hl).mono ?_
 ·unfold nxtP at h
  split at h
  ·cases h
  ·rename_i hc
   cases h
   simp at hc
   omega
 rintro x M1 (⟨n', s', hfo, rfl⟩ | ⟨hfo, s', os', ⟨z, rfl⟩, rfl⟩)
 ·refine ⟨osP _ n', seg M kb (bx s'), _, _, _, _, _, _, _, rfl, .refl _, rfl, by simp, .normal, rfl, ?_⟩
  have hok : pathOk s = true := by unfold pathOk; rw [hfo]; rfl
  simp only [osP, List.set_cons_succ, List.set_cons_zero, List.length_cons, List.length_nil]
  simp only [G0, Z1, Z2, Z3, Z4, Z5]
  refine ⟨(fun l e => by cases e), end1m rfl (hpop _ _) ⟨?_, rfl⟩⟩
  rw [hok]; rfl
 ·refine ⟨_, seg M kb (bx s'), _, _, _, _, _, _, _, rfl, .refl _, rfl, by simp, .exit 0, rfl, ?_⟩
  have hok : pathOk s = false := by unfold pathOk; rw [hfo]; rfl
  simp only [List.set_cons_succ, List.set_cons_zero, List.length_cons, List.length_nil]
  simp only [G0, Z1, Z2, Z3, Z4, Z5]
  refine ⟨(fun l e => by cases e), end1m rfl (hpop _ _) ⟨?_, rfl⟩⟩
  rw [hok]; rfl
end Go.Proofs.YthjlhgjnjhmfbaaGreatDoor
end