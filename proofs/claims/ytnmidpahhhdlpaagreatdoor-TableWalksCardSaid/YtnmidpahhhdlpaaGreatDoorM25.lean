/- TableWalks holds. Part 25 of 29; no condition. -/
import Derived.Test.YtnmidpahhhdlpaaGreatDoorM24
import Derived.Laws.RangeString
set_option linter.unusedVariables false
set_option linter.unusedSimpArgs false
set_option maxHeartbeats 4000000
set_option maxRecDepth 100000
open Nat renaming reduceLT → Z1, reduceEqDiff → Z2, reduceAdd → Z3, reduceLeDiff → Z4, reduceMul → Z5
namespace Go.Proofs.YtnmidpahhhdlpaaGreatDoor
open Go Go.Am Go.Pm
theorem vR : r8 env Tryz.prog 60 [] (.agg [iv 0, iv 0, iv 511, iv 1000, iv 511, iv 0, iv 0, iv 0]) := fun M => by
 refine PT.enterR a6 bDV (by simp) aS4 fun k hk hf => RX.of a6 ?_
 simp only [G0, Z1, Z2, Z3, Z4, Z5, d5]
 refine aWB (ag := true) (n := 8) hf (by kernel_rfl) ?_ ⟨rfl, rfl⟩
 simp only [G0, Z1, Z2, Z3, Z4, Z5]
theorem uR (x m : Int) (b : List UInt8) : r8 env Tryz.prog 37 [.agg [iv x, iv m, a8 b]] (iv (kS (O7 x m b))) := fun M => by
 refine PT.enterR a6 bDG (by simp) aU0 fun k hk hf => RX.of a6 ?_
 simp only [G0, Z1, Z2, Z3, Z4, Z5, d5]
 refine jY (fun hb => ?_) (fun hb => ?_)
 ·simp only [G0, Z1, Z2, Z3, Z4, Z5]
  refine i9 hf rfl ⟨?_, rfl⟩
  unfold O7; rw [hb]; rfl
 ·simp only [G0, Z1, Z2, Z3, Z4, Z5]
  refine cq0 vR (by decide) ?_
  have hidx : ∃ j : Nat, x = (j : Int) /\ (j = 1 \/ j = 2 \/ j = 3) := ⟨x.toNat, by simp at hb; omega, by simp at hb; omega⟩
  obtain ⟨j, rfl, h⟩ := hidx
  have hj : j < 4 := by omega
  have h2 : ∃ a c : Int, (List.take 2 (List.drop (j * 2) [iv 0, iv 0, iv 511, iv 1000, iv 511, iv 0, iv 0, iv 0])) = [iv a, iv c] /\ a = (if (j : Int) = 3 then 0 else 511) /\ c = (if (j : Int) = 1 then 1000 else 0) := by
   rcases h with rfl | rfl | rfl
   ·exact ⟨511, 1000, rfl, rfl, rfl⟩
   ·exact ⟨511, 0, rfl, rfl, rfl⟩
   ·exact ⟨0, 0, rfl, rfl, rfl⟩
  obtain ⟨a, c, h2, ha, hc⟩ := h2
  simp only [G0, Z1, Z2, Z3, Z4, Z5, hj, h2, a8]
  refine jY (fun hb' => ?_) (fun hb' => ?_)
  ·simp only [G0, Z1, Z2, Z3, Z4, Z5]
   refine i9 hf rfl ⟨?_, rfl⟩
   unfold O7; rw [hb, <- ha, <- hc, hb']; rfl
  ·simp only [G0, Z1, Z2, Z3, Z4, Z5]
   refine i9 hf rfl ⟨?_, rfl⟩
   unfold O7; rw [hb, <- ha, <- hc, hb']; rfl
end Go.Proofs.YtnmidpahhhdlpaaGreatDoor
namespace Go.Proofs.YtnmidpahhhdlpaaGreatDoor
open Go Go.Am Go.Pm
theorem aAU (a b : List UInt8) : r8 env Tryz.prog 57 [a8 a, a8 b] (bv (a == b)) := fun M => by
 refine PT.enterR a6 bD8 (by simp) aW5 fun k hk hf => RX.of a6 ?_
 simp only [G0, Z1, Z2, Z3, Z4, Z5, d5, a8, dI, H7]
 exact i9 hf rfl ⟨rfl, rfl⟩
theorem bM (x m y p : Int) (a b : List UInt8) : r8 env Tryz.prog 35 [.agg [iv x, iv m, a8 a], .agg [iv y, iv p, a8 b]] (bv (x == y && m == p && a == b)) := fun M => by
 refine PT.enterR a6 bC9 (by simp) aT5 fun k hk hf => RX.of a6 ?_
 simp only [G0, Z1, Z2, Z3, Z4, Z5, d5]
 refine aV0 (fun h => by simp only [h, i7]; exact aAU a b) (by decide) ?_
 simp only [G0, Z1, Z2, Z3, Z4, Z5]
 exact i9 hf rfl ⟨rfl, rfl⟩
theorem wR (x m : Int) (a : List UInt8) : r8 env Tryz.prog 16 [.agg [iv x, iv m, a8 a]] (bv (decide ((a.length : Int) > 1200))) := fun M => by
 refine PT.enterR a6 bC8 (by simp) aUL fun k hk hf => RX.of a6 ?_
 simp only [G0, Z1, Z2, Z3, Z4, Z5, d5, a8]
 exact i9 hf rfl ⟨rfl, rfl⟩
end Go.Proofs.YtnmidpahhhdlpaaGreatDoor
namespace Go.Proofs.YtnmidpahhhdlpaaGreatDoor
open Go Go.Am Go.Pm
theorem aV7 (s : List UInt8) (c : UInt8) : r8 env Tryz.prog 144 [str s, A5 c] (iv (vF (F1 c 0 s))) := fun M => by
 refine PT.indexByteString mM (by rfl) (by have := c.toNat_lt; simpa using this) ⟨?_, rfl⟩
 have e : ((c.toNat : Int)).toNat = c.toNat := by simp
 rw [e, sW]
 show _ = iv (vF (F1 c 0 s))
 cases F1 c 0 s <;> rfl
theorem aI0 (s : List UInt8) (c : UInt8) : r8 env Tryz.prog 141 [str s, A5 c] (iv (vF (F1 c 0 s))) := fun M => by
 refine PT.enterR a6 aY5 (by simp) aO5 fun k hk hf => RX.of a6 ?_
 simp only [G0, Z1, Z2, Z3, Z4, Z5, d5]
 refine y7 (aV7 s c) (by decide) ?_
 simp only [G0, Z1, Z2, Z3, Z4, Z5]
 exact i9 hf rfl ⟨rfl, rfl⟩
theorem aWC (s : List UInt8) (c : UInt8) : r8 env Tryz.prog 133 [str s, A5 c] (iv (vF (F1 c 0 s))) := fun M => by
 refine PT.enterR a6 aX9 (by simp) aOJ fun k hk hf => RX.of a6 ?_
 simp only [G0, Z1, Z2, Z3, Z4, Z5, d5]
 refine y7 (aI0 s c) (by decide) ?_
 simp only [G0, Z1, Z2, Z3, Z4, Z5]
 exact i9 hf rfl ⟨rfl, rfl⟩
theorem aS2 (s : List UInt8) (c : UInt8) : r8 env Tryz.prog 129 [str s, str [c]] (iv (vF (F1 c 0 s))) := fun M => by
 refine PT.enterR a6 aYS (by simp) aOO fun k hk hf => RX.of a6 ?_
 have h0 : Y5 (str [c]) (.v (.int .i64 0)) = some (A5 c) := V4 (i := 0) rfl
 have hc : (((1 : Nat) : Int) == 0) = false := rfl
 have hd : (((1 : Nat) : Int) == 1) = true := rfl
 simp only [G0, Z1, Z2, Z3, Z4, Z5, d5, vL, h0, H7]
 refine jY (fun hb => ?_) (fun hb => ?_)
 ·simp only [G0, Z1, Z2, Z3, Z4, Z5]
  have hs : s = [c] := by
   rw [hc, Bool.false_or, beq_iff_eq] at hb
   exact hb.symm
  subst hs
  refine i9 hf rfl ⟨?_, rfl⟩
  unfold F1; rw [if_pos rfl]; rfl
 ·simp only [G0, Z1, Z2, Z3, Z4, Z5, hd, h0]
  refine y7 (aI0 s c) (by decide) ?_
  simp only [G0, Z1, Z2, Z3, Z4, Z5]
  exact i9 hf rfl ⟨rfl, rfl⟩
theorem aLA (s : List UInt8) (c : UInt8) : r8 env Tryz.prog 109 [str s, str [c]] (iv (vF (F1 c 0 s))) := fun M => by
 refine PT.enterR a6 aYW (by simp) aO1 fun k hk hf => RX.of a6 ?_
 simp only [G0, Z1, Z2, Z3, Z4, Z5, d5]
 refine y7 (aS2 s c) (by decide) ?_
 simp only [G0, Z1, Z2, Z3, Z4, Z5]
 exact i9 hf rfl ⟨rfl, rfl⟩
theorem aP0 (b : UInt8) (h : qV b = true) : ∃ i : Nat, r8 env Tryz.prog 118 [str k8, .v (.int .i32 b.toNat)] (iv i) := by
 have hb := tX b h
 obtain ⟨i, hi⟩ := nJ (k := 0) (show b ∈ k8 by simpa [qV] using h)
 refine ⟨i, fun M => ?_⟩
 have h1 : decide ((0 : Int) <= (b.toNat : Int)) = true := by simp
 have h2 : decide ((b.toNat : Int) < 128) = true := by simp; omega
 have h3 : tL .u8 (.v (.int .i32 (b.toNat : Int))) = some (A5 b) := by
  show some (PV.v (.int .u8 (IntKind.u8.wrap (b.toNat : Int)))) = _
  have : IntKind.u8.wrap (b.toNat : Int) = b.toNat := by
   simp only [IntKind.wrap, IntKind.signed, IntKind.bits]
   simp
   omega
  rw [this]; rfl
 refine PT.enterR a6 bAB (by simp) aNG fun k hk hf => RX.of a6 ?_
 simp only [G0, Z1, Z2, Z3, Z4, Z5, d5, h1, h2, h3]
 refine y7 (aWC k8 b) (by decide) ?_
 simp only [G0, Z1, Z2, Z3, Z4, Z5]
 exact i9 hf rfl ⟨by rw [hi]; rfl, rfl⟩
theorem aTN (b : UInt8) (h : qV b = true) : r8 env Tryz.prog 86 [str k8, .v (.int .i32 b.toNat)] (bv true) := fun M => by
 obtain ⟨i, hi⟩ := aP0 b h
 refine PT.enterR a6 bCK (by simp) aT2 fun k hk hf => RX.of a6 ?_
 simp only [G0, Z1, Z2, Z3, Z4, Z5, d5]
 refine y7 hi (by decide) ?_
 have hge : decide ((i : Int) >= 0) = true := by simp
 simp only [G0, Z1, Z2, Z3, Z4, Z5, hge]
 exact i9 hf rfl ⟨rfl, rfl⟩
theorem aU6 (b : UInt8) (h : qV b = true) : r8 env Tryz.prog 85 [.v (.int .i32 b.toNat)] (bv false) := fun M => by
 refine PT.enterR a6 bCZ (by simp) aS0 fun k hk hf => RX.of a6 ?_
 simp only [G0, Z1, Z2, Z3, Z4, Z5, d5]
 refine y7 (aTN b h) (by decide) ?_
 simp only [G0, Z1, Z2, Z3, Z4, Z5]
 exact i9 hf rfl ⟨rfl, rfl⟩
theorem uG (s : List UInt8) (i : Nat) (b : UInt8) (h : s[i]? = some b) (hb : b.toNat < 128) : Utf8.decode ⟨s.toArray⟩ i = (b.toNat, 1) := by
 have hi : i < s.length := by
  rcases Nat.lt_or_ge i s.length with h' | h'
  ·exact h'
  ·rw [List.getElem?_eq_none h'] at h; cases h
 have hi' : i < (⟨s.toArray⟩ : ByteArray).size := hi
 have e : (⟨s.toArray⟩ : ByteArray)[i]'hi' = b := by
  have : s[i] = b := by rw [List.getElem?_eq_getElem hi] at h; exact Option.some.inj h
  rw [<- this]; rfl
 have := decode_ascii ⟨s.toArray⟩ i hi' (by rw [e]; exact hb)
 rw [this, e]
theorem aH9 {tm : List (Nat × PV)} {nt k : Nat} {M : b7} {st : ByteArray} {pos : Nat} {os : List Pm.Obj} {A : Operand} (hA : g7 tm A = .ptr k 0 0) (ho : os = [.str true st pos]) :
  aDD A ⟨tm, nt, k, os, M⟩ = if pos < st.data.toList.length then some (.tup [.v (.bool true), .v (.int .i64 pos), .v (.int .i32 (Utf8.decode st pos).1)], ⟨tm, nt, k, [.str true st (pos + (Utf8.decode st pos).2)], M⟩) else some (.tup [.v (.bool false)], ⟨tm, nt, k, os, M⟩) := by
 subst ho
 unfold aDD aCY
 simp only [hA, c5.look, if_pos, List.getElem?_cons_zero, c5.putO, List.set_cons_zero]
theorem aLK {c d : Bool} {a b : Bool} : w9 env .eql 4 c d (bv a) (bv b) = some (bv (a == b)) := by
 have h : lQ env 100 4 (.bool a) (.bool b) = some (a == b) := by kernel_rfl
 simp [w9, w5, B8, h]
theorem aPY (s : List UInt8) (hs : ∀ b ∈ s, qV b = true) (hl : s.length <= 1000000) (M : b7) (k : Nat) (Q : c9 -> c5 -> Prop) (q : ∀ tm, Q (.exit 0) ⟨tm, 21, k, [.str true ⟨s.toArray⟩ s.length], M⟩) :
  ∀ d i, s.length - i = d -> i <= s.length →
  u0 env Tryz.prog none aDY ⟨[(10, .ptr k 0 0), (1, .fn 85 [] []), (2, bv true)], 21, k, [.str true ⟨s.toArray⟩ i], M⟩ Q := by
 intro d
 induction d with
 | zero =>
  intro i hd hi
  have : i = s.length := by omega
  subst this
  refine u0.round (RX.of a6 ?_)
  simp only [G0, Z1, Z2, Z3, Z4, Z5]
  rw [aH9 rfl rfl, if_neg (Nat.lt_irrefl _)]
  simp only [G0, Z1, Z2, Z3, Z4, Z5]
  exact q _
 | succ d ih =>
  intro i hd hi
  have hi' : i < s.length := by omega
  obtain ⟨b, hb, _⟩ := E6 hi'
  have hL := hs b (List.mem_of_getElem? hb)
  refine u0.round (RX.of a6 ?_)
  simp only [G0, Z1, Z2, Z3, Z4, Z5]
  rw [aH9 rfl rfl, if_pos (show i < s.length from hi'), uG s i b hb (tX b hL)]
  simp only [G0, Z1, Z2, Z3, Z4, Z5]
  refine cp (first := []) (cap := []) (aU6 b hL) (by decide) ?_
  have hne : (false == true) = false := rfl
  simp only [G0, Z1, Z2, Z3, Z4, Z5, aLK, hne]
  refine u0.weak (eN ?_) (ih (i + 1) (by omega) (by omega))
  repeat (first | exact KP.nil | apply KP.cons rfl)
theorem aTG (s : List UInt8) (hs : ∀ b ∈ s, qV b = true) (hl : s.length <= 1000000) : r8 env Tryz.prog 132 [str s, .fn 85 [] [], bv true] (iv (-1)) := fun M => by
 refine PT.enterR a6 bB4 (by simp) aNV fun k hk hf => RX.of a6 ?_
 simp only [G0, Z1, Z2, Z3, Z4, Z5, d5]
 refine RX.loop (u0.weak (eN ?_) (aPY s hs hl M k _ ?_ s.length 0 rfl (Nat.zero_le _)))
 ·repeat (first | exact KP.nil | apply KP.cons rfl)
 ·intro tm
  simp only [G0, Z1, Z2, Z3, Z4, Z5]
  exact i9 hf rfl ⟨rfl, rfl⟩
theorem aUO (s : List UInt8) (hs : ∀ b ∈ s, qV b = true) (hl : s.length <= 1000000) : r8 env Tryz.prog 117 [str s, .fn 85 [] []] (iv (-1)) := fun M => by
 refine PT.enterR a6 aYK (by simp) aP9 fun k hk hf => RX.of a6 ?_
 simp only [G0, Z1, Z2, Z3, Z4, Z5, d5]
 refine y7 (aTG s hs hl) (by decide) ?_
 simp only [G0, Z1, Z2, Z3, Z4, Z5]
 exact i9 hf rfl ⟨rfl, rfl⟩
theorem aYE (s : List UInt8) (hs : ∀ b ∈ s, qV b = true) (hl : s.length <= 1000000) : r8 env Tryz.prog 84 [str s, .fn 85 [] []] (bv false) := fun M => by
 refine PT.enterR a6 bD6 (by simp) aTD fun k hk hf => RX.of a6 ?_
 simp only [G0, Z1, Z2, Z3, Z4, Z5, d5]
 refine y7 (aUO s hs hl) (by decide) ?_
 have hge : decide ((-1 : Int) >= 0) = false := rfl
 simp only [G0, Z1, Z2, Z3, Z4, Z5, hge]
 exact i9 hf rfl ⟨rfl, rfl⟩
end Go.Proofs.YtnmidpahhhdlpaaGreatDoor
namespace Go.Pm
open Go.RowKit Go.Am
theorem I7 {E : d9} {P : Program} {d g n : Nat} {w : Bool} {ar : List Operand} {ld : List RD} {tm : List (Nat × PV)} {nt k : Nat} {os : List Obj} {M : b7} {R : c5 -> Prop} :
  Q3 E P (dCG true d g w (.func n) ar :: ld) ⟨tm, nt, k, os, M⟩ R = cG E P d w (.d ld) tm nt k os M R (ar.map (g7 tm)) (.fn n [] []) (a7 tm g) := by
 unfold cG
 have hg : rg (some (g, w)) ⟨tm, nt, k, os, M⟩ = zX w (a7 tm g) := uS
 apply propext
 constructor
 ·rintro (⟨h0, h⟩ | ⟨-, h0, h⟩ | ⟨h0, -⟩)
  ·replace h0 := hg.symm.trans h0; rw [h0]; exact .inl h
  ·replace h0 := hg.symm.trans h0; rw [h0]; dsimp only; rw [<- J5]; exact h
  ·cases h0
 ·intro h
  split at h
  ·rename_i h0
   rcases h with ⟨g', f', c', e, h⟩ | ⟨a, i, e, _⟩
   ·cases e; exact .inl ⟨hg.trans h0, _, _, _, rfl, h⟩
   ·cases e
  ·rename_i h0
   rw [<- J5] at h
   exact .inr (.inl ⟨rfl, hg.trans h0, h⟩)
  ·exact h.elim
end Go.Pm
namespace Go.Proofs.YtnmidpahhhdlpaaGreatDoor
open Go Go.Am Go.Pm
theorem aDO {t : Nat} {c d : Bool} (h : ∃ y e, env.ty t = some y /\ y.desc = .pointer e) : w9 env .neq t c d (.v (.pointer none)) (.v (.pointer none)) = some (bv false) := by
 obtain ⟨y, e, h1, h2⟩ := h
 simp [w9, w5, B8, lQ, h1, h2]
theorem aII {Q : PV -> b7 -> Prop} {body : Code} {M : b7} {os : List Pm.Obj} {tm : List (Nat × PV)} {k nt nt' a b t n : Nat} {ag : Bool} {v w : PV} (hf : fresh M k) (ht : tyP env t = some (ag, n)) (hv : F7 k os M ag n (a7 tm a) = some v) (hw : a7 tm b = w) (h : Q (.tup [v, w]) M) :
  bH env ⟨nt, [.cell a t, .tmp b], body⟩ Q .ret ⟨tm, nt', k, os, M⟩ := by
 subst hw
 exact ⟨.inr rfl, [v, _], M, by simp only [X5, uM, aEQ ht, hv], N3.pop hf, h⟩
end Go.Proofs.YtnmidpahhhdlpaaGreatDoor
namespace Go.Proofs.YtnmidpahhhdlpaaGreatDoor
open Go Go.Am Go.Pm
theorem xP (l : List UInt8) (hl : l.length <= 1000000) : r8 env Tryz.prog 69 [a8 l] (a8 l) := r8.of fun M => by
 refine PT.enterR a6 bDC (by simp) aW1 fun k hk hf => RX.of a6 ?_
 simp only [G0, Z1, Z2, Z3, Z4, Z5, d5, a8]
 refine aS3 fun b hb => ?_
 simp only [G0, Z1, Z2, Z3, Z4, Z5]
 cases b with
 | true =>
  have hz : l = [] := by
   cases l with
   | nil => rfl
   | cons x l => exact absurd (hb (by simp)) (by simp)
  subst hz
  simp only [G0, Z1, Z2, Z3, Z4, Z5, Bool.xor_false]
  exact i9 hf rfl ⟨Q2.trans (Q2.nil 0 1) (Q2.no _ _ _ _), rfl⟩
 | false =>
  simp only [G0, Z1, Z2, Z3, Z4, Z5, Bool.xor_false]
  by_cases hz : l.length = 0
  ·have : l = [] := List.length_eq_zero_iff.1 hz
   subst this
   refine aL ?_
   simp only [G0, Z1, Z2, Z3, Z4, Z5, List.map_nil, vM]
   exact i9 hf rfl ⟨Q2.no _ _ _ _, rfl⟩
  ·have hc : (0 = 0 \/ 1 = 1) /\ (2 * (0 + l.length) + 2000) * 1 <= 281474976710656 /\ 0 + l.length <= 4611686018427387904 /\ 1 < 4096 /\ 1 = 1 /\ (l.map A5).all p7 = true := ⟨.inl rfl, by omega, by omega, by decide, rfl, aLH l⟩
   refine aL ?_
   rw [mE hz hc]
   simp only [G0, Z1, Z2, Z3, Z4, Z5]
   exact i9 hf rfl ⟨Q2.no _ _ _ _, rfl⟩
end Go.Proofs.YtnmidpahhhdlpaaGreatDoor
namespace Go.Proofs.YtnmidpahhhdlpaaGreatDoor
open Go Go.Am Go.Pm
def q9 (p : List UInt8) : List PV := (List.range 256).map fun c => bv (p.any fun b => b.toNat == c)
theorem I1 (p : List UInt8) : (q9 p).length = 256 := by simp [q9]
theorem aDM (p : List UInt8) : (q9 p).all p7 = true := by
 unfold q9
 rw [List.all_map, List.all_eq_true]
 intro x _; rfl
theorem tU (p : List UInt8) (b : UInt8) : (p.any fun x => x.toNat == b.toNat) = p.contains b := by
 induction p with
 | nil => rfl
 | cons x p ih =>
  rw [List.any_cons, ih, List.contains_cons]
  congr 1
  by_cases h : b = x
  ·subst h; simp
  ·have h1 : (b == x) = false := by simpa using h
   have h2 : (x.toNat == b.toNat) = false := by
    cases e : (x.toNat == b.toNat) with
    | false => rfl
    | true => exact absurd (UInt8.toNat.inj (by simpa using e)).symm h
   rw [h1, h2]
theorem aO7 (p : List UInt8) (b : UInt8) : (q9 p)[b.toNat * 1]? = some (bv (p.contains b)) := by
 have hb := b.toNat_lt
 have : b.toNat < 256 := by simpa using hb
 rw [Nat.mul_one, q9, List.getElem?_map, List.getElem?_range this, Option.map_some, tU]
theorem aO8 (p : List UInt8) (b : UInt8) : q8 1 (b.toNat * 1) (bv true) (some (.row .rw 0 (q9 p))) = some (.row .rw 0 (q9 (p ++ [b]))) := by
 have hb := b.toNat_lt
 have hb : b.toNat < 256 := by simpa using hb
 rw [n7 (n := 1) ⟨rfl, by rw [I1]; show _ + 1 <= 256; omega, rfl⟩]
 congr 2
 rw [Nat.mul_one]
 apply List.ext_getElem?
 intro i
 show ((q9 p).take b.toNat ++ ([bv true] ++ (q9 p).drop (b.toNat + 1)))[i]? = _
 have hl := I1 p
 rcases Nat.lt_trichotomy i b.toNat with h | h | h
 ·rw [List.getElem?_append_left (by rw [List.length_take, hl]; omega), List.getElem?_take_of_lt h, q9, q9, List.getElem?_map, List.getElem?_map, List.getElem?_range (by omega)]
  simp only [Option.map_some, List.any_append, List.any_cons, List.any_nil, Bool.or_false]
  have : (b.toNat == i) = false := by simp; omega
  rw [this, Bool.or_false]
 ·subst h
  rw [List.getElem?_append_right (by rw [List.length_take, hl]; omega), List.length_take, hl, Nat.min_eq_left (by omega), Nat.sub_self]
  show some (bv true) = _
  rw [q9, List.getElem?_map, List.getElem?_range (by omega)]
  simp
 ·rw [List.getElem?_append_right (by rw [List.length_take, hl]; omega), List.length_take, hl, Nat.min_eq_left (by omega), List.getElem?_append_right (by simp; omega), List.getElem?_drop]
  have e : b.toNat + 1 + (i - b.toNat - [bv true].length) = i := by simp; omega
  rw [e, q9, q9, List.getElem?_map, List.getElem?_map]
  rcases Nat.lt_or_ge i 256 with h' | h'
  ·rw [List.getElem?_range h']
   simp only [Option.map_some, List.any_append, List.any_cons, List.any_nil, Bool.or_false]
   have : (b.toNat == i) = false := by simp; omega
   rw [this, Bool.or_false]
  ·rw [List.getElem?_eq_none (by simpa using h')]; rfl
theorem wQ {k i : Nat} (b : UInt8) : jU 256 1 (.ptr k i 0) (A5 b) = some (.ptr k i (b.toNat * 1)) := by
 have hb := b.toNat_lt
 have hb : b.toNat < 256 := by simpa using hb
 unfold jU A5
 rw [w7]
 dsimp only
 rw [if_pos hb, Nat.zero_add]
theorem aB9 : q9 [] = List.replicate 256 (bv false) := by
 unfold q9
 simp only [List.any_nil]
 rfl
theorem kO (p : List UInt8) (b : UInt8) {M0 : b7} {a i : Nat} {w : Wm} (hM : M0 a i = some (.row w 0 (q9 p))) : lT env Tryz.prog M0 130 [.ptr a i 0, A5 b] (bv (p.contains b)) := by
 refine lT.enter a6 aZ3 (by simp) aNP fun M k hs hk hf => ?_
 have hM' := hs _ _ _ hM
 have hld : ∀ {ag : Bool} {n o : Nat} {os : List Pm.Obj}, F7 k os M ag n (.ptr a i o) = A9 ag n o (M a i) := K3 (cE hf hM')
 simp only [G0, Z1, Z2, Z3, Z4, Z5, d5, wQ, hld, hM', aO7]
 exact i9 hf rfl ⟨rfl, rfl⟩
def trR (p s : List UInt8) : List UInt8 := (s.reverse.dropWhile p.contains).reverse
def trL (p s : List UInt8) : List UInt8 := s.dropWhile p.contains
theorem aIW (p s : List UInt8) (b : UInt8) : trR p (s ++ [b]) = if p.contains b = true then trR p s else s ++ [b] := by
 unfold trR
 rw [List.reverse_append, List.reverse_singleton, List.singleton_append, List.dropWhile_cons]
 split
 ·rfl
 ·simp
theorem aEZ (p s : List UInt8) : trL p s = [] ↔ s.all p.contains = true := by
 unfold trL
 induction s with
 | nil => simp
 | cons b s ih =>
  rw [List.dropWhile_cons, List.all_cons]
  split
  ·rename_i h; rw [h, Bool.true_and]; exact ih
  ·rename_i h; simp at h; simp [h]
theorem aO4 (p s : List UInt8) (h : s.all p.contains = true) : trR p s = [] := by
 have : s.reverse.dropWhile p.contains = [] := (aEZ p s.reverse).2 (by rw [List.all_reverse]; exact h)
 unfold trR
 rw [this]; rfl
theorem rO (p s : List UInt8) : ∃ t, s = trR p s ++ t /\ t.all p.contains = true := by
 unfold trR
 refine ⟨(s.reverse.takeWhile p.contains).reverse, ?_, ?_⟩
 ·rw [<- List.reverse_append, List.takeWhile_append_dropWhile, List.reverse_reverse]
 ·rw [List.all_reverse]
  exact List.all_takeWhile
theorem aHM (p s : List UInt8) : trL p (trR p s) = [] ↔ s.all p.contains = true := by
 constructor
 ·intro h
  obtain ⟨t, h1, h2⟩ := rO p s
  rw [h1, List.all_append, (aEZ p _).1 h, h2]; rfl
 ·intro h; rw [aO4 p s h]; rfl
theorem aPI (p s : List UInt8) : (trR p s).length <= s.length := by
 obtain ⟨t, h1, _⟩ := rO p s
 have := congrArg List.length h1
 rw [List.length_append] at this; omega
theorem bCG (p : List UInt8) {M0 : b7} {a i : Nat} {w : Wm} (hM : M0 a i = some (.row w 0 (q9 p))) (M : b7) (k : Nat) (hs : Pm.Sub M0 M) (hf : fresh M k) (Q : c9 -> c5 -> Prop) :
  ∀ (n : Nat) (s : List UInt8), s.length = n -> n <= 1000000 -> (∀ tm, a7 tm 0 = str (trR p s) -> Q (.exit 0) ⟨tm, 22, k, [], M⟩) -> u0 env Tryz.prog none aD6 ⟨[(0, str s), (1, .ptr a i 0)], 22, k, [], M⟩ Q := by
 intro n
 induction n with
 | zero =>
  intro s hs0 _ q
  have : s = [] := List.length_eq_zero_iff.1 hs0
  subst this
  refine u0.round (RX.of a6 ?_)
  have h0 : decide (((0 : Nat) : Int) > 0) = false := rfl
  simp only [G0, Z1, Z2, Z3, Z4, Z5, aCE, h0]
  exact q _ rfl
 | succ n ih =>
  intro s hs0 hn q
  have hl : n < s.length := by omega
  obtain ⟨b, hb, _⟩ := E6 hl
  have h0 : decide ((s.length : Int) > 0) = true := by simp; omega
  have hw : IntKind.i64.wrap ((s.length : Int) - 1) = (n : Int) := by rw [d3 (by omega) (by omega)]; omega
  have hsplit : s = s.take n ++ [b] := by
   have := List.take_append_drop n s
   have hd : s.drop n = [b] := by
    rw [List.drop_eq_getElem_cons hl, List.drop_of_length_le (by omega)]
    rw [List.getElem?_eq_getElem hl] at hb
    rw [Option.some.inj hb]
   rw [hd] at this; exact this.symm
  have hto : D4 (str s) none (some (iv n)) = some (str (s.take n)) := vQ (by omega)
  have hix : Y5 (str s) (iv n) = some (A5 b) := V4 hb
  have htr : trR p s = if p.contains b = true then trR p (s.take n) else s := by
   conv => lhs; rw [hsplit]
   rw [aIW, <- hsplit]
  rw [htr] at q
  refine u0.round (RX.of a6 ?_)
  simp only [G0, Z1, Z2, Z3, Z4, Z5, eD, h0, hw, hix]
  refine cs0 (kO p b hM) (hs.sseg hf) (by decide) ?_
  cases hc : p.contains b with
  | false =>
   rw [hc] at q
   simp only [G0, Z1, Z2, Z3, Z4, Z5, Bool.not_true, Bool.not_false]
   exact q _ rfl
  | true =>
   rw [hc] at q
   simp only [G0, Z1, Z2, Z3, Z4, Z5, eD, hw, hto, Bool.not_true, Bool.not_false]
   refine u0.weak (eN ?_) (ih (s.take n) (by simp; omega) (by omega) q)
   repeat (first | exact KP.nil | apply KP.cons rfl)
theorem aZF (p : List UInt8) {M0 : b7} {a i : Nat} {w : Wm} (hM : M0 a i = some (.row w 0 (q9 p))) (M : b7) (k : Nat) (hs : Pm.Sub M0 M) (hf : fresh M k) (Q : c9 -> c5 -> Prop) :
  ∀ (n : Nat) (s : List UInt8), s.length = n -> n <= 1000000 -> (∀ tm, a7 tm 0 = str (trL p s) -> Q (.exit 0) ⟨tm, 16, k, [], M⟩) -> u0 env Tryz.prog none aDJ ⟨[(0, str s), (1, .ptr a i 0)], 16, k, [], M⟩ Q := by
 intro n
 induction n with
 | zero =>
  intro s hs0 _ q
  have : s = [] := List.length_eq_zero_iff.1 hs0
  subst this
  refine u0.round (RX.of a6 ?_)
  have h0 : decide (((0 : Nat) : Int) > 0) = false := rfl
  simp only [G0, Z1, Z2, Z3, Z4, Z5, aCE, h0]
  exact q _ rfl
 | succ n ih =>
  intro s hs0 hn q
  cases s with
  | nil => cases hs0
  | cons b s =>
  have h0 : decide (((b :: s).length : Int) > 0) = true := by simp
  have hfr : D4 (str (b :: s)) (some (iv 1)) none = some (str s) := cC (i := 1) (by simp)
  have hix : Y5 (str (b :: s)) (iv 0) = some (A5 b) := V4 (i := 0) rfl
  have hln : lN (str (b :: s)) = some (iv ((b :: s).length : Nat)) := rfl
  have htr : trL p (b :: s) = if p.contains b = true then trL p s else b :: s := by
   unfold trL; rw [List.dropWhile_cons]
  rw [htr] at q
  generalize (b :: s).length = n' at h0 hln
  refine u0.round (RX.of a6 ?_)
  simp only [G0, Z1, Z2, Z3, Z4, Z5, hln, h0, hix]
  refine cs0 (kO p b hM) (hs.sseg hf) (by decide) ?_
  cases hc : p.contains b with
  | false =>
   rw [hc] at q
   simp only [G0, Z1, Z2, Z3, Z4, Z5, Bool.not_true, Bool.not_false]
   exact q _ rfl
  | true =>
   rw [hc] at q
   simp only [G0, Z1, Z2, Z3, Z4, Z5, hfr, Bool.not_true, Bool.not_false]
   refine u0.weak (eN ?_) (ih s (by simpa using hs0) (by omega) q)
   repeat (first | exact KP.nil | apply KP.cons rfl)
theorem aN7 (p s : List UInt8) (hl : s.length <= 1000000) {M0 : b7} {a i : Nat} {w : Wm} (hM : M0 a i = some (.row w 0 (q9 p))) : lT env Tryz.prog M0 114 [str s, .ptr a i 0] (str (trR p s)) := by
 refine lT.enter a6 bAZ (by simp) aP2 fun M k hs hk hf => ?_
 simp only [G0, Z1, Z2, Z3, Z4, Z5, d5]
 refine RX.loop (u0.weak (eN ?_) (bCG p hM M k hs hf _ _ s rfl hl fun tm ht => ?_))
 ·repeat (first | exact KP.nil | apply KP.cons rfl)
 ·simp only [G0, Z1, Z2, Z3, Z4, Z5, ht]
  exact i9 hf rfl ⟨rfl, rfl⟩
theorem aOM (p s : List UInt8) (hl : s.length <= 1000000) {M0 : b7} {a i : Nat} {w : Wm} (hM : M0 a i = some (.row w 0 (q9 p))) : lT env Tryz.prog M0 113 [str s, .ptr a i 0] (str (trL p s)) := by
 refine lT.enter a6 bAV (by simp) aNH fun M k hs hk hf => ?_
 simp only [G0, Z1, Z2, Z3, Z4, Z5, d5]
 refine RX.loop (u0.weak (eN ?_) (aZF p hM M k hs hf _ _ s rfl hl fun tm ht => ?_))
 ·repeat (first | exact KP.nil | apply KP.cons rfl)
 ·simp only [G0, Z1, Z2, Z3, Z4, Z5, ht]
  exact i9 hf rfl ⟨rfl, rfl⟩
theorem aN0 (cs : List UInt8) (hc : ∀ b ∈ cs, b.toNat < 128) (hl : cs.length <= 1000000) (M : b7) (k : Nat) (Q : c9 -> c5 -> Prop) (q : ∀ tm, a7 tm 2 = .ptr k 0 0 -> Q (.exit 0) ⟨tm, 21, k, [.row .rw 0 (q9 cs)], M⟩) :
  ∀ d i, cs.length - i = d -> i <= cs.length →
  u0 env Tryz.prog none aD7 ⟨[(4, iv i), (2, .ptr k 0 0), (0, str cs)], 21, k, [.row .rw 0 (q9 (cs.take i))], M⟩ Q := by
 intro d
 induction d with
 | zero =>
  intro i hd hi
  have : i = cs.length := by omega
  subst this
  have h0 : decide ((cs.length : Int) < (cs.length : Int)) = false := by simp
  refine u0.round (RX.of a6 ?_)
  rw [List.take_length]
  simp only [G0, Z1, Z2, Z3, Z4, Z5, eD, h0]
  exact q _ rfl
 | succ d ih =>
  intro i hd hi
  have hi' : i < cs.length := by omega
  obtain ⟨b, hb, _⟩ := E6 hi'
  have h0 : decide ((i : Int) < (cs.length : Int)) = true := by simp; omega
  have hb2 := hc b (List.mem_of_getElem? hb)
  have h1 : decide ((b.toNat : Int) >= 128) = false := by simp; omega
  have hix : Y5 (str cs) (iv i) = some (A5 b) := V4 hb
  have hw : IntKind.i64.wrap ((i : Int) + 1) = ((i + 1 : Nat) : Int) := by rw [d3 (by omega) (by omega)]; rfl
  have htk : cs.take i ++ [b] = cs.take (i + 1) := by
   rw [List.take_add_one, hb]; rfl
  refine u0.round (RX.of a6 ?_)
  have hge : ∀ {t : Nat} {c d : Bool}, w9 env .geq t c d (A5 b) (.v (.int .u8 128)) = some (bv false) := fun {t c d} => by
   unfold A5; rw [nY, h1]
  have hput := aO8 (cs.take i) b
  rw [htk] at hput
  simp only [G0, Z1, Z2, Z3, Z4, Z5, eD, h0, hix, hge, wQ, hput, hw]
  refine u0.weak (eN ?_) (ih (i + 1) (by omega) (by omega))
  repeat (first | exact KP.nil | apply KP.cons rfl)
theorem aXO : tyP env 130 = some (true, 256) := by kernel_rfl
theorem qS : ∀ b ∈ k8, b.toNat < 128 := by decide
theorem aTY : r8 env Tryz.prog 112 [str k8] (.tup [.agg (q9 k8), bv true]) := fun M => by
 refine PT.enterR a6 aXR (by simp) aO3 fun k hk hf => RX.of a6 ?_
 have h0 := aB9
 simp only [List.replicate] at h0
 simp only [G0, Z1, Z2, Z3, Z4, Z5, d5]
 rw [<- h0]
 refine RX.loop (u0.weak (eN ?_) (aN0 k8 qS (by decide) M k _ (fun tm ht => ?_) _ 0 rfl (Nat.zero_le _)))
 ·repeat (first | exact KP.nil | apply KP.cons rfl)
 ·have htk : (q9 k8).take 256 = q9 k8 := List.take_of_length_le (by rw [I1]; exact Nat.le_refl _)
  have hst : q8 256 0 (.agg (q9 k8)) (some (.row .rw 0 (q9 k8))) = some (.row .rw 0 (q9 k8)) := by
   rw [n7 (x := .agg (q9 k8)) (n := 256) (o := 0) (cs := q9 k8) ⟨I1 _, by rw [N0, I1]; decide, aDM _⟩, N0, V7 rfl]
  simp only [G0, Z1, Z2, Z3, Z4, Z5, ht, I1, htk, hst]
  exact aII hf aXO ((congrArg _ (show a7 _ 2 = .ptr k 0 0 from ht)).trans (jB.trans (by show o9 true 256 (q9 k8) 0 = _; rw [iP (I1 _).symm]))) rfl ⟨rfl, rfl⟩
def aDS (s : List UInt8) : List UInt8 := if s = [] then [] else trL k8 (trR k8 s)
theorem aE8 (s : List UInt8) : (aDS s == []) = s.all qV := by
 unfold aDS
 split
 ·rename_i h; subst h; rfl
 ·have := aHM k8 s
  have e : s.all qV = s.all k8.contains := rfl
  rw [e]
  cases h : s.all k8.contains with
  | true => simpa using this.2 h
  | false =>
   have h2 : ¬ (trL k8 (trR k8 s) = []) := fun e => by rw [this.1 e] at h; cases h
   simpa using h2
theorem aTV (s : List UInt8) (hl : s.length <= 1000000) : r8 env Tryz.prog 83 [str s, str k8] (str (aDS s)) := by
 by_cases hs : s = []
 ·subst hs
  intro M
  refine PT.enterR a6 aXX (by simp) aHC fun k hk hf => RX.of a6 ?_
  have e1 : (([] : List UInt8) == []) = true := rfl
  simp only [G0, Z1, Z2, Z3, Z4, Z5, d5, H7, e1, Bool.not_true, Bool.true_or]
  exact i9 hf rfl ⟨rfl, rfl⟩
 ·have e1 : (s == []) = false := by simpa using hs
  have e2 : (k8 == []) = false := rfl
  have e3 : lN (str k8) = some (iv 39) := rfl
  have e4 : ((39 : Int) == 1) = false := rfl
  have htk : (q9 k8).take 256 = q9 k8 := List.take_of_length_le (by rw [I1]; exact Nat.le_refl _)
  have h0 := aB9
  simp only [List.replicate] at h0
  have hst : q8 256 0 (.agg (q9 k8)) (some (.row .rw 0 (q9 []))) = some (.row .rw 0 (q9 k8)) := by
   rw [n7 (x := .agg (q9 k8)) (n := 256) (o := 0) (cs := q9 []) ⟨I1 _, by rw [N0, I1, I1]; decide, aDM _⟩, N0, V7 (by rw [I1, I1])]
  rw [h0] at hst
  intro M
  refine PT.enterR a6 aXX (by simp) aHC fun k hk hf => RX.of a6 ?_
  simp only [G0, Z1, Z2, Z3, Z4, Z5, d5, H7, e1, e2, e3, e4, Bool.not_true, Bool.not_false, Bool.or_false]
  refine y7 aTY (by decide) ?_
  simp only [G0, Z1, Z2, Z3, Z4, Z5, hst]
  have hM : (seg M k [.row .rw 0 (q9 k8)]) k 0 = some (.row .rw 0 (q9 k8)) := by rw [i4]; rfl
  refine cs0 (aN7 k8 s hl hM) (Pm.Sub.refl _) (by decide) ?_
  simp only [G0, Z1, Z2, Z3, Z4, Z5]
  refine cs0 (aOM k8 _ (Nat.le_trans (aPI _ _) hl) hM) (Pm.Sub.refl _) (by decide) ?_
  simp only [G0, Z1, Z2, Z3, Z4, Z5]
  refine i9 hf rfl ⟨?_, rfl⟩
  show str _ = str _
  unfold aDS
  rw [if_neg hs]
theorem aW4 {E : d9} {t : Nat} {c d : Bool} {a b : List UInt8} : w9 E .neq t c d (str a) (str b) = some (bv (a != b)) := by
 rw [R8]; rfl
def I4 (s : List UInt8) : Bool := (((s != [] && decide ((s.length : Int) <= 12)) && s != [46]) && s != [46, 46]) && s.all qV
theorem aVN (s : List UInt8) (hl : s.length <= 1000000) : r8 env Tryz.prog 59 [str s] (bv (I4 s)) := fun M => by
 refine PT.enterR a6 bDY (by simp) aUN fun k hk hf => RX.of a6 ?_
 simp only [G0, Z1, Z2, Z3, Z4, Z5, d5, aW4, H7, eD]
 refine aV0 (fun h => by simp only [h, i7]; exact aTV s hl) (by decide) ?_
 simp only [G0, Z1, Z2, Z3, Z4, Z5, H7, aE8]
 refine aV0 (fun h => by
  simp only [h, i7]
  rw [Bool.and_eq_true] at h
  exact aYE s (List.all_eq_true.1 h.2) hl) (by decide) ?_
 simp only [G0, Z1, Z2, Z3, Z4, Z5]
 refine i9 hf rfl ⟨?_, rfl⟩
 show bv _ = bv _
 unfold I4
 rw [Bool.not_false, Bool.and_true]
end Go.Proofs.YtnmidpahhhdlpaaGreatDoor
noncomputable section
namespace Go.Proofs.YtnmidpahhhdlpaaGreatDoor
open Go Go.Am Go.Pm
def b6 : List UInt8 -> List (List UInt8)
 | [] => [[]]
 | c :: r => if c = 47 then [] :: b6 r else match b6 r with
  | p :: ps => (c :: p) :: ps
  | [] => [[c]]
theorem fE (c : UInt8) : ∀ (l : List UInt8) (k : Nat), F1 c (k + 1) l = (F1 c k l).map (· + 1)
 | [], k => rfl
 | b :: r, k => by
  unfold F1
  split
  ·rfl
  ·exact fE c r (k + 1)
theorem fU : ∀ {s : List UInt8}, F1 47 0 s = none -> b6 s = [s]
 | [], _ => rfl
 | c :: r, h => by
  unfold F1 at h
  split at h
  ·cases h
  ·rename_i hc
   rw [fE, Option.map_eq_none_iff] at h
   unfold b6
   rw [if_neg hc, fU h]
theorem fP : ∀ {s : List UInt8} {j : Nat}, F1 47 0 s = some j -> b6 s = s.take j :: b6 (s.drop (j + 1))
 | [], _, h => by cases h
 | c :: r, j, h => by
  unfold F1 at h
  split at h
  ·rename_i hc
   cases h
   conv => lhs; unfold b6
   rw [if_pos hc]; rfl
  ·rename_i hc
   rw [fE] at h
   cases hj : F1 47 0 r with
   | none => rw [hj] at h; cases h
   | some j' =>
    rw [hj] at h
    cases h
    conv => lhs; unfold b6
    rw [if_neg hc, fP hj]; rfl
def T5 {σ : Type} (nxt : σ -> List UInt8 -> Option σ) : σ -> List (List UInt8) -> Option σ
 | st, [] => some st
 | st, p :: ps => match nxt st p with
  | some st' => T5 nxt st' ps
  | none => none
def bx (s : List UInt8) : List Pm.Obj := [.row .rw 0 [str s], .row .rw 0 [str [47]], .row .rw 0 [iv 0]]
def mm (M0 : b7) (kb k : Nat) (s : List UInt8) (os : List Pm.Obj) : b7 := seg (seg M0 kb (bx s)) k os
theorem yX {M0 : b7} {kb k k2 : Nat} {s : List UInt8} {os : List Pm.Obj} (hne : kb ≠ k) (ho : 0 < os.length) (h : fresh (mm M0 kb k s os) k2) : k2 ≠ k /\ k2 ≠ kb /\ fresh M0 k2 := by
 have h1 : k2 ≠ k := fun e => by
  subst e
  have := h 0
  unfold mm at this
  rw [i4, List.getElem?_eq_getElem ho] at this; cases this
 have h2 : k2 ≠ kb := fun e => by
  subst e
  have := h 0
  unfold mm at this
  rw [l3 _ _ _ hne, i4] at this; cases this
 refine ⟨h1, h2, fun j => ?_⟩
 have := h j
 unfold mm at this
 rwa [l3 _ _ _ h1, l3 _ _ _ h2] at this
theorem O6 {M0 : b7} {kb k k2 : Nat} (s : List UInt8) (os : List Pm.Obj) (h : k2 ≠ k /\ k2 ≠ kb /\ fresh M0 k2) : fresh (mm M0 kb k s os) k2 := fun j => by
 unfold mm
 rw [l3 _ _ _ h.1, l3 _ _ _ h.2.1]; exact h.2.2 j
theorem aRA {M0 : b7} {kb k k2 j n o : Nat} {s : List UInt8} {os os' : List Pm.Obj} {ag : Bool} (hne : kb ≠ k) (h2 : k2 ≠ kb) : F7 k2 os' (mm M0 kb k s os) ag n (.ptr kb j o) = A9 ag n o (bx s)[j]? := by
 rw [K3 (Ne.symm h2)]; unfold mm; rw [l3 _ _ _ hne, i4]
theorem bCE {M0 : b7} {kb k k2 nt : Nat} {s s' : List UInt8} {os os' : List Pm.Obj} {tm : List (Nat × PV)} (hne : kb ≠ k) (h2 : k2 ≠ kb) :
  M8 tm nt k2 os' (mm M0 kb k s os) 1 (str s') (.ptr kb 0 0) = some (.junk, ⟨tm, nt, k2, os', mm M0 kb k s' os⟩) := by
 have e1 : mm M0 kb k s os kb 0 = some (.row .rw 0 [str s]) := by unfold mm; rw [l3 _ _ _ hne, i4]; rfl
 rw [N4 (Ne.symm h2), e1, n7 (n := 1) ⟨rfl, Nat.le_refl 1, rfl⟩, jL]
 congr 4
 unfold mm
 rw [nE hne, vA (show 0 < 3 by decide)]; rfl
theorem aWR {M0 : b7} {kb k k2 j n o : Nat} {s : List UInt8} {os os' : List Pm.Obj} {ag : Bool} (h2 : k2 ≠ k) : F7 k2 os' (mm M0 kb k s os) ag n (.ptr k j o) = A9 ag n o os[j]? := by
 rw [K3 (Ne.symm h2)]; unfold mm; rw [i4]
def stK (tm : List (Nat × PV)) (nt k2 : Nat) (os' : List Pm.Obj) (M0 : b7) (kb k : Nat) (s : List UInt8) (os : List Pm.Obj) (j : Nat) : Option Pm.Obj -> Option (PV × c5)
 | some ob => some (.junk, ⟨tm, nt, k2, os', mm M0 kb k s (os.set j ob)⟩)
 | none => none
theorem Y3 {tm : List (Nat × PV)} {nt k2 : Nat} {os' : List Pm.Obj} {M0 : b7} {kb k : Nat} {s : List UInt8} {os : List Pm.Obj} {j : Nat} {ob : Pm.Obj} : stK tm nt k2 os' M0 kb k s os j (some ob) = some (.junk, ⟨tm, nt, k2, os', mm M0 kb k s (os.set j ob)⟩) := rfl
theorem aWH {M0 : b7} {kb k k2 nt n o j : Nat} {s : List UInt8} {os os' : List Pm.Obj} {tm : List (Nat × PV)} {v : PV} (h2 : k2 ≠ k) :
  M8 tm nt k2 os' (mm M0 kb k s os) n v (.ptr k j o) = stK tm nt k2 os' M0 kb k s os j (q8 n o v os[j]?) := by
 have e1 : mm M0 kb k s os k j = os[j]? := by unfold mm; rw [i4]
 rw [N4 (Ne.symm h2), e1]
 cases e : q8 n o v os[j]? with
 | none => rfl
 | some ob =>
  have hj : j < os.length := by
   rcases Nat.lt_or_ge j os.length with h | h
   ·exact h
   ·rw [List.getElem?_eq_none h] at e; cases e
  rw [jL, Y3]
  unfold mm
  rw [vA hj]
theorem uB {M0 : b7} {kb k i : Nat} {s : List UInt8} {os : List Pm.Obj} {o : Pm.Obj} (h : i < os.length) : i6 (mm M0 kb k s os) k i o = mm M0 kb k s (os.set i o) := by
 unfold mm; rw [vA h]
theorem xG {M : b7} {a b : Nat} {x y : List Pm.Obj} (h : a ≠ b) : seg (seg M a x) b y = seg (seg M b y) a x := by
 funext c j
 by_cases h1 : c = b
 ·subst h1; rw [i4, l3 _ _ _ (Ne.symm h), i4]
 ·rw [l3 _ _ _ h1]
  by_cases h2 : c = a
  ·subst h2; rw [i4, i4]
  ·rw [l3 _ _ _ h2, l3 _ _ _ h2, l3 _ _ _ h1]
theorem aN2 {σ : Type} {M0 : b7} {kb k i k2 : Nat} (hne : kb ≠ k) (os : σ -> List Pm.Obj) (nxt : σ -> List UInt8 -> Option σ) (I : σ -> Prop) (hI : ∀ st p st', I st -> nxt st p = some st' -> I st') (Z : List Pm.Obj -> Prop) (h2 : k2 ≠ k /\ k2 ≠ kb /\ fresh M0 k2)
  (hR : ∀ st s part, I st -> part.length <= 1000000 -> PRd env Tryz.prog k i [str part] (mm M0 kb k s (os st)) (fun x M1 => (∃ st', nxt st part = some st' /\ x = bv true /\ M1 = mm M0 kb k s (os st')) \/ (nxt st part = none /\ x = bv false /\ ∃ os', Z os' /\ M1 = mm M0 kb k s os')))
  (Q : c9 -> c5 -> Prop) : ∀ (n : Nat) (s : List UInt8) (st : σ), I st -> s.length = n -> n <= 1000000 →
  (∀ st' s' tm, I st' -> s'.length <= 1000000 -> T5 nxt st (b6 s) = T5 nxt st' [s'] -> a7 tm 0 = .yld k i -> a7 tm 2 = .ptr kb 0 0 -> Q (.exit 2) ⟨tm, 52, k2, [], mm M0 kb k s' (os st')⟩) →
  (T5 nxt st (b6 s) = none -> ∀ tm s' os', Z os' -> Q .ret ⟨tm, 52, k2, [], mm M0 kb k s' os'⟩) →
  u0 env Tryz.prog none aDC ⟨[(0, .yld k i), (1, .ptr kb 1 0), (2, .ptr kb 0 0), (3, .ptr kb 2 0)], 52, k2, [], mm M0 kb k s (os st)⟩ Q := by
 intro n
 induction n using Nat.strongRecOn with
 | ind n ih =>
  intro s st hst0 hs hn q1 q2
  refine u0.round (RX.of a6 ?_)
  have hld : ∀ {ag : Bool} {n o j : Nat} {s : List UInt8} {os os' : List Pm.Obj}, F7 k2 os' (mm M0 kb k s os) ag n (.ptr kb j o) = A9 ag n o (bx s)[j]? := aRA hne h2.2.1
  have hst : ∀ {nt : Nat} {s s' : List UInt8} {os os' : List Pm.Obj} {tm : List (Nat × PV)}, M8 tm nt k2 os' (mm M0 kb k s os) 1 (str s') (.ptr kb 0 0) = some (.junk, ⟨tm, nt, k2, os', mm M0 kb k s' os⟩) := bCE hne h2.2.1
  simp only [G0, Z1, Z2, Z3, Z4, Z5, hld, bx]
  refine y7 (aLA s 47) (by decide) ?_
  cases hj : F1 47 0 s with
  | none =>
   have hlt : decide ((-1 : Int) < 0) = true := rfl
   simp only [G0, Z1, Z2, Z3, Z4, Z5, vF, hlt]
   exact q1 st s _ hst0 (by omega) (by rw [fU hj]) rfl rfl
  | some j =>
   obtain ⟨_, hjl, _, _⟩ := pN hj
   have hp := fP hj
   have hlt : decide ((j : Int) < 0) = false := by simp
   have hw0 : IntKind.i64.wrap ((j : Int) + 0) = (j : Int) := by rw [d3 (by omega) (by omega)]; omega
   have hw1 : IntKind.i64.wrap ((j : Int) + ((1 : Nat) : Int)) = ((j + 1 : Nat) : Int) := by rw [d3 (by omega) (by omega)]; rfl
   have hto : D4 (str s) none (some (iv j)) = some (str (s.take j)) := vQ (by omega)
   have hfr : D4 (str s) (some (iv ((j + 1 : Nat) : Int))) none = some (str (s.drop (j + 1))) := cC (by omega)
   simp only [G0, Z1, Z2, Z3, Z4, Z5, vF, hlt, hld, bx, hw0, hto]
   refine cY (O6 _ _ h2) (hR st s (s.take j) hst0 (by simp; omega)) (by decide) ?_
   rintro x M1 (⟨st', h1, rfl, rfl⟩ | ⟨h1, rfl, os', hz, rfl⟩)
   ·simp only [G0, Z1, Z2, Z3, Z4, Z5, Bool.not_true, Bool.not_false, hld, bx, hw1, hfr, hst]
    have hf : T5 nxt st (b6 s) = T5 nxt st' (b6 (s.drop (j + 1))) := by
     rw [hp]; simp only [T5, h1]
    refine u0.weak (eN ?_) (ih (s.drop (j + 1)).length (by rw [List.length_drop]; omega) (s.drop (j + 1)) st' (hI _ _ _ hst0 h1) rfl (by rw [List.length_drop]; omega) (fun st'' s' tm hi hl e => q1 st'' s' tm hi hl (by rw [hf, e])) (fun e => q2 (by rw [hf, e])))
    repeat (first | exact KP.nil | apply KP.cons rfl)
   ·simp only [G0, Z1, Z2, Z3, Z4, Z5, Bool.not_true, Bool.not_false]
    exact q2 (by rw [hp]; simp only [T5, h1]) _ _ _ hz
theorem aKM {σ : Type} {M0 : b7} {kb k i : Nat} (hne : kb ≠ k) (os : σ -> List Pm.Obj) (hos : ∀ st, 0 < (os st).length) (nxt : σ -> List UInt8 -> Option σ) (I : σ -> Prop) (hI : ∀ st p st', I st -> nxt st p = some st' -> I st') (Z : List Pm.Obj -> Prop)
  (hR : ∀ st s part, I st -> part.length <= 1000000 -> PRd env Tryz.prog k i [str part] (mm M0 kb k s (os st)) (fun x M1 => (∃ st', nxt st part = some st' /\ x = bv true /\ M1 = mm M0 kb k s (os st')) \/ (nxt st part = none /\ x = bv false /\ ∃ os', Z os' /\ M1 = mm M0 kb k s os')))
  (s : List UInt8) (st : σ) (hst0 : I st) (hl : s.length <= 1000000) :
  PT env Tryz.prog 107 [.yld k i, .ptr kb 1 0, .ptr kb 0 0, .ptr kb 2 0] (mm M0 kb k s (os st)) (fun _ M1 => (∃ st' s', T5 nxt st (b6 s) = some st' /\ M1 = mm M0 kb k s' (os st')) \/ (T5 nxt st (b6 s) = none /\ ∃ s' os', Z os' /\ M1 = mm M0 kb k s' os')) := by
 refine PT.enterR a6 aQ6 (by simp) aNI fun k2 hk hf => RX.of a6 ?_
 have h2 := yX hne (hos st) hf
 have hld : ∀ {ag : Bool} {n o j : Nat} {s : List UInt8} {os os' : List Pm.Obj}, F7 k2 os' (mm M0 kb k s os) ag n (.ptr kb j o) = A9 ag n o (bx s)[j]? := aRA hne h2.2.1
 have h10 : (((1 : Nat) : Int) == 0) = false := rfl
 simp only [G0, Z1, Z2, Z3, Z4, Z5, d5, hld, bx, h10]
 refine RX.loop (u0.weak (eN ?_) (aN2 hne os nxt I hI Z h2 hR _ _ s st hst0 rfl hl (fun st' s' tm hi' hs' hfo ht0 ht2 => ?_) (fun hfo tm s' os' hz => ?_)))
 ·repeat (first | exact KP.nil | apply KP.cons rfl)
 ·simp only [G0, Z1, Z2, Z3, Z4, Z5, ht0, ht2, hld, bx]
  refine cY (O6 _ _ h2) (hR st' s' s' hi' hs') (by decide) ?_
  rintro x M1 (⟨st'', h1, rfl, rfl⟩ | ⟨h1, rfl, os', hz, rfl⟩)
  ·simp only [G0, Z1, Z2, Z3, Z4, Z5]
   refine aSK (O6 _ _ h2) (.inl ⟨st'', s', ?_, rfl⟩)
   rw [hfo]; simp only [T5, h1]
  ·simp only [G0, Z1, Z2, Z3, Z4, Z5]
   refine aSK (O6 _ _ h2) (.inr ⟨?_, s', os', hz, rfl⟩)
   rw [hfo]; simp only [T5, h1]
 ·simp only [G0, Z1, Z2, Z3, Z4, Z5]
  have h2' : fresh (mm M0 kb k s' os') k2 := O6 _ _ h2
  exact bD3 h2' (.inr ⟨hfo, s', os', hz, rfl⟩)
theorem aNQ (s : List UInt8) (M : b7) : PT env Tryz.prog 82 [str s, str [47], iv 0] M (fun x M1 => ∃ kb, 0 < kb /\ fresh M kb /\ x = .fn 107 [] [.ptr kb 1 0, .ptr kb 0 0, .ptr kb 2 0] /\ M1 = seg M kb (bx s)) := by
 refine PT.enterR a6 bD0 (by simp) aVP fun k hk hf => RX.of a6 ?_
 simp only [G0, Z1, Z2, Z3, Z4, Z5, d5]
 exact bAD rfl ⟨k, hk, hf, rfl, rfl⟩
theorem aNL (s : List UInt8) (M : b7) : PT env Tryz.prog 58 [str s, str [47]] M (fun x M1 => ∃ kb, 0 < kb /\ fresh M kb /\ x = .fn 107 [] [.ptr kb 1 0, .ptr kb 0 0, .ptr kb 2 0] /\ M1 = seg M kb (bx s)) := by
 refine PT.enterG a6 bDN (by simp) aUZ fun k hk hf => ?_
 simp only [G0, Z1, Z2, Z3, Z4, Z5, d5]
 refine cm (first := []) (cap := []) ((aNQ s _).mono ?_)
 rintro x M1 ⟨kb, h1, h2, rfl, rfl⟩
 have hne : kb ≠ k := fun e => by
  subst e
  have := h2 0
  rw [i4] at this; cases this
 have h2' : fresh M kb := fun j => by
  have := h2 j
  rwa [l3 _ _ _ hne] at this
 refine ⟨[ghost], seg M kb (bx s), rfl, N3.of_eq (xG (Ne.symm hne)), by decide, ?_⟩
 simp only [G0, Z1, Z2, Z3, Z4, Z5]
 exact i9 (rP hf (Ne.symm hne)) rfl ⟨kb, h1, h2', rfl, rfl⟩
def qJ (n : Nat) (p : List UInt8) : Option Nat := if decide (((n + 1 : Nat) : Int) > 6) || !I4 p then none else some (n + 1)
def E8 (s : List UInt8) : Bool := (T5 qJ 0 (b6 s)).isSome
theorem aNR : l4 env.ng (Q8 [1, 0, 1, 1, 0, 1, 0, 0] M4) = true := by kernel_rfl
theorem aPZ : l4 env.ng (Q8 [1, 0, 1, 1, 0, 1, 0, 1] M4) = true := by kernel_rfl
def osP (tm : List (Nat × PV)) (n : Nat) : List Pm.Obj := [.row .rw 0 [iv n], .row .rw 0 [iv 0], .loop true .ready none tm 18 [8] (Q8 [1, 0, 1, 1, 0, 1, 0, 0] M4) (Q8 [1, 0, 1, 1, 0, 1, 0, 1] M4)]
def zP (tm : List (Nat × PV)) (os : List Pm.Obj) : Prop := ∃ n : Int, os = [.row .rw 0 [iv n], .row .rw 0 [iv 2], .loop true .done (some (.exit 0)) tm 18 [8] (Q8 [1, 0, 1, 1, 0, 1, 0, 0] M4) (Q8 [1, 0, 1, 1, 0, 1, 0, 1] M4)]
theorem aOP {M0 : b7} {kb k : Nat} (hne : kb ≠ k) (tm : List (Nat × PV)) (h3 : a7 tm 3 = .ptr k 0 0) (h4 : a7 tm 4 = .ptr k 1 0) (n : Nat) (hn : n <= 1000000) (s part : List UInt8) (hp : part.length <= 1000000) :
  PRd env Tryz.prog k 2 [str part] (mm M0 kb k s (osP tm n)) (fun x M1 => (∃ n', qJ n part = some n' /\ x = bv true /\ M1 = mm M0 kb k s (osP tm n')) \/ (qJ n part = none /\ x = bv false /\ ∃ os', zP tm os' /\ M1 = mm M0 kb k s os')) := by
 refine PRd.runR a6 aNR aPZ aGT aGF (tm1 := (8, str part) :: tm) (pend := none) (tm := tm) (nt := 18) (ps := [8]) (by unfold mm; rw [i4]; rfl) (by simp [eF]) fun k' hk' hkk hf => RX.of a6 ?_
 have hk2 : k' ≠ k := hkk
 simp only [G0, Z1, Z2, Z3, Z4, Z5]
 refine ⟨_, _, rfl, RX.of a6 ?_⟩
 have hw : IntKind.i64.wrap ((n : Int) + 1) = ((n + 1 : Nat) : Int) := by rw [d3 (by omega) (by omega)]; rfl
 have hld : ∀ {ag : Bool} {n o j : Nat} {s : List UInt8} {os os' : List Pm.Obj}, F7 k' os' (mm M0 kb k s os) ag n (.ptr k j o) = A9 ag n o os[j]? := aWR hk2
 have hstk : ∀ {nt n o j : Nat} {s : List UInt8} {os os' : List Pm.Obj} {tm : List (Nat × PV)} {v : PV}, M8 tm nt k' os' (mm M0 kb k s os) n v (.ptr k j o) = stK tm nt k' os' M0 kb k s os j (q8 n o v os[j]?) := aWH hk2
 rw [uB (by show 2 < 3; decide)]
 simp only [osP, List.set_cons_succ, List.set_cons_zero]
 have hfr := yX (os := osP tm n) hne (show 0 < 3 by decide) hf
 simp only [G0, Z1, Z2, Z3, Z4, Z5, h3, h4, hld, hstk, Y3, hw]
 refine jY (fun hb => ?_) (fun hb => ?_)
 ·simp only [G0, Z1, Z2, Z3, Z4, Z5, h3, h4, hld, hstk, Y3, hw, hb]
  refine rT (c := .exit 0) rfl (Ne.symm hkk) (by unfold mm; rw [i4]; rfl) (O6 _ _ hfr) (.inr ⟨?_, rfl, _, ⟨((n + 1 : Nat) : Int), rfl⟩, ?_⟩)
  ·unfold qJ; rw [hb]; rfl
  ·rw [uB (show 2 < 3 by decide)]; rfl
 ·simp only [G0, Z1, Z2, Z3, Z4, Z5, h3, h4, hld, hstk, Y3, hw]
  refine cp (first := []) (cap := []) (aVN part hp) (by decide) ?_
  simp only [G0, Z1, Z2, Z3, Z4, Z5]
  refine jY (fun hc => ?_) (fun hc => ?_)
  ·simp only [G0, Z1, Z2, Z3, Z4, Z5, h3, h4, hld, hstk, Y3, hw]
   refine rT (c := .exit 0) rfl (Ne.symm hkk) (by unfold mm; rw [i4]; rfl) (O6 _ _ hfr) (.inr ⟨?_, rfl, _, ⟨((n + 1 : Nat) : Int), rfl⟩, ?_⟩)
   ·unfold qJ; rw [hb, hc]; rfl
   ·rw [uB (show 2 < 3 by decide)]; rfl
  ·simp only [G0, Z1, Z2, Z3, Z4, Z5, h3, h4, hld, hstk, Y3, hw]
   refine aOU (Ne.symm hkk) (by unfold mm; rw [i4]; rfl) (O6 _ _ hfr) (.inl ⟨n + 1, ?_, rfl, ?_⟩)
   ·unfold qJ; rw [hb, hc]; rfl
   ·rw [uB (show 2 < 3 by decide)]; rfl
theorem aQE {Q : PV -> b7 -> Prop} {body : Code} {nt nt' r k : Nat} {tm : List (Nat × PV)} {os : List Pm.Obj} {M M1 : b7} {v : PV} (hv : a7 tm r = v) (hM : N3 (seg M k os) M1) (h : Q v M1) : bH env ⟨nt, [.tmp r], body⟩ Q .ret ⟨tm, nt', k, os, M⟩ := by
 subst hv; exact ⟨.inr rfl, [_], M1, rfl, hM, h⟩
theorem pU (s : List UInt8) (hl : s.length <= 1000000) : r8 env Tryz.prog 36 [str s] (iv (kS (E8 s))) := fun M => by
 refine PT.enterR a6 bDJ (by simp) aV9 fun k hk hf => RX.of a6 ?_
 simp only [G0, Z1, Z2, Z3, Z4, Z5, d5]
 refine RX.scope1 aGB (RX.of a6 ?_)
 simp only [G0, Z1, Z2, Z3, Z4, Z5]
 refine cm (first := []) (cap := []) ((aNL s _).mono ?_)
 rintro x M1 ⟨kb, h1, h2, rfl, rfl⟩
 have hne : kb ≠ k := fun e => by
  subst e
  have := h2 0
  rw [i4] at this; cases this
 have h2' : fresh M kb := fun j => by
  have := h2 j
  rwa [l3 _ _ _ hne] at this
 refine ⟨[.row .rw 0 [iv 0], .row .rw 0 [iv 0]], seg M kb (bx s), rfl, N3.of_eq (xG (Ne.symm hne)), by decide, ?_⟩
 simp only [G0, Z1, Z2, Z3, Z4, Z5]
 have hpop : ∀ (s' : List UInt8) (os : List Pm.Obj), N3 (seg (seg M kb (bx s')) k os) M := fun s' os a j o e => by
  refine ⟨o, ?_, .refl o⟩
  rw [l3 _ _ _ (fun hk => by subst hk; rw [hf j] at e; cases e), l3 _ _ _ (fun hk => by subst hk; rw [h2' j] at e; cases e)]
  exact e
 refine RX.range a6 (g := 107) (first := []) (captured := [.ptr kb 1 0, .ptr kb 0 0, .ptr kb 2 0]) rfl aQ6 (fun _ _ e => by cases e) ?_
 refine (aKM (M0 := M) (kb := kb) (k := k) (i := 2) hne (osP _) (fun _ => by show 0 < 3; decide) qJ (fun n => n <= 6) (fun n p n' hn h => ?_) (zP _) (fun n s' part hn hp => aOP hne _ rfl rfl n (by omega) s' part hp) s 0 (by decide) hl).mono ?_
 ·unfold qJ at h
  split at h
  ·cases h
  ·rename_i hc
   cases h
   simp at hc
   omega
 rintro x M1 (⟨n', s', hfo, rfl⟩ | ⟨hfo, s', os', ⟨z, rfl⟩, rfl⟩)
 ·refine ⟨osP _ n', seg M kb (bx s'), _, _, _, _, _, _, _, rfl, .refl _, rfl, by simp, .normal, rfl, ?_⟩
  have hok : E8 s = true := by unfold E8; rw [hfo]; rfl
  simp only [osP, List.set_cons_succ, List.set_cons_zero, List.length_cons, List.length_nil]
  simp only [G0, Z1, Z2, Z3, Z4, Z5]
  refine ⟨(fun l e => by cases e), aQE rfl (hpop _ _) ⟨?_, rfl⟩⟩
  rw [hok]; rfl
 ·refine ⟨_, seg M kb (bx s'), _, _, _, _, _, _, _, rfl, .refl _, rfl, by simp, .exit 0, rfl, ?_⟩
  have hok : E8 s = false := by unfold E8; rw [hfo]; rfl
  simp only [List.set_cons_succ, List.set_cons_zero, List.length_cons, List.length_nil]
  simp only [G0, Z1, Z2, Z3, Z4, Z5]
  refine ⟨(fun l e => by cases e), aQE rfl (hpop _ _) ⟨?_, rfl⟩⟩
  rw [hok]; rfl
end Go.Proofs.YtnmidpahhhdlpaaGreatDoor
end