/- ShelfOrder holds. Part 25 of 32; no condition. -/
import Derived.Test.YtlbjplpehkgcdaaGreatDoorM24
import Derived.Laws.RangeString
set_option linter.unusedVariables false
set_option linter.unusedSimpArgs false
set_option maxHeartbeats 4000000
set_option maxRecDepth 100000
open Nat renaming reduceLT → Z1, reduceEqDiff → Z2, reduceAdd → Z3, reduceLeDiff → Z4, reduceMul → Z5
namespace Go.Proofs.YtlbjplpehkgcdaaGreatDoor
open Go Go.Am Go.Pm
theorem aU0 (xs : List d6) (hl : xs.length <= 4000) (M : c7) (k : Nat) (Q : f7 -> d9 -> Prop) (q1 : B8 none xs = true -> ∀ tm, Q (.exit 0) ⟨tm, 79, k, [], M⟩)
  (q2 : B8 none xs = false -> ∀ tm, c8 tm 2 = .v (.int .i64 2) -> Q .ret ⟨tm, 79, k, [], M⟩) :
  ∀ d i p, xs.length - i = d -> i <= xs.length -> (i = 0 /\ p = none \/ ∃ j x, i = j + 1 /\ xs[j]? = some x /\ p = some x /\ cR x = false) -> B8 none xs = B8 p (xs.drop i) →
  w7 env Tryz.prog none aLX ⟨[(10, .v (.int .i64 i)), (9, .v (.int .i64 xs.length)), (8, d8 xs), (0, d8 xs)], 79, k, [], M⟩ Q := by
 intro d
 induction d with
 | zero =>
  intro i p hd hi _ hp
  have : i = xs.length := by omega
  subst this
  refine w7.round (RX.of a6 ?_)
  simp only [G0, Z1, Z2, Z3, Z4, Z5, Int.lt_irrefl, decide_false]
  refine q1 ?_ _
  rw [hp]; simp [B8]
 | succ d ih =>
  intro i p hd hi hpre hp
  have hi' : i < xs.length := by omega
  have hx : ∃ x, xs[i]? = some x := ⟨xs[i], by simp⟩
  obtain ⟨x, hx⟩ := hx
  have hld := fW (f := c9) (n := 3) (fun _ => rfl) hx
  simp only [c9] at hld
  have hdrop : xs.drop i = x :: xs.drop (i + 1) := by
   rw [List.drop_eq_getElem_cons hi']
   congr 1
   rw [List.getElem?_eq_getElem hi'] at hx
   exact Option.some.inj hx
  rw [hdrop] at hp
  simp only [B8] at hp
  have hii : (i : Int) < xs.length := by omega
  refine w7.inn fun k' hk1 hk2 hk3 => RX.of a6 ?_
  simp only [G0, Z1, Z2, Z3, Z4, Z5, d8, hii, decide_true, hi', hld]
  refine eY (fun hb => ?_) (fun hb => ?_)
  ·have hb' : cR x = true := hb
   simp only [G0, Z1, Z2, Z3, Z4, Z5]
   refine q2 ?_ _ rfl
   rw [hp, hb']; rfl
  ·have hb' : cR x = false := hb
   have hw : IntKind.i64.wrap ((i : Int) + 1) = ((i + 1 : Nat) : Int) := by rw [f9 (by omega) (by omega)]; rfl
   rcases hpre with ⟨rfl, rfl⟩ | ⟨j, y, rfl, hy, rfl, hby⟩
   ·simp only [G0, Z1, Z2, Z3, Z4, Z5, Int.lt_irrefl, Int.natCast_zero, gt_iff_lt, decide_false, hw]
    refine w7.weak (L4 ?_) (ih 1 (some x) (by omega) (by omega) (.inr ⟨0, x, rfl, hx, rfl, hb'⟩) ?_)
    ·repeat (first | exact KP.nil | apply KP.cons rfl)
    ·rw [hp, hb']; simp [aBE]
   ·have hj : j < xs.length := by omega
    have hb5 : 1 <= y.to /\ y.to <= 2147483647 := by
     simp only [cR, Bool.or_eq_false_iff, decide_eq_false_iff_not] at hby
     omega
    have e1 : IntKind.i64.wrap (((j + 1 : Nat) : Int) - 1) = (j : Int) := by rw [f9 (by omega) (by omega)]; omega
    have e2 : IntKind.i64.wrap (y.to + 1) = y.to + 1 := f9 (by omega) (by omega)
    have e3 : (0 : Int) < ((j + 1 : Nat) : Int) := by omega
    have c0 : (xs.flatMap c9)[j * 3]? = some (.v (.int .i64 y.node)) := fM (f := c9) (n := 3) (c := 0) (fun _ => rfl) hy rfl
    have c2 : (xs.flatMap c9)[j * 3 + 2]? = some (.v (.int .i64 y.to)) := fM (f := c9) (n := 3) (c := 2) (fun _ => rfl) hy rfl
    simp only [G0, Z1, Z2, Z3, Z4, Z5, e1, e2, e3, hj, c0, c2, gt_iff_lt, decide_true, d8]
    have hp2 : B8 none xs = (!fI y x && B8 (some x) (xs.drop (j + 1 + 1))) := by rw [hp, hb']; simp only [aBE]; rfl
    refine eY (fun hc => ?_) (fun hc => ?_)
    ·have hc' : fI y x = true := hc
     simp only [G0, Z1, Z2, Z3, Z4, Z5]
     refine q2 ?_ _ rfl
     rw [hp2, hc']; rfl
    ·have hc' : fI y x = false := hc
     simp only [G0, Z1, Z2, Z3, Z4, Z5, hw]
     refine w7.weak (L4 ?_) (ih (j + 1 + 1) (some x) (by omega) (by omega) (.inr ⟨j + 1, x, rfl, hx, rfl, hb'⟩) ?_)
     ·repeat (first | exact KP.nil | apply KP.cons rfl)
     ·rw [hp2, hc']; rfl
theorem W4 (xs : List d6) : A0 env Tryz.prog 88 [d8 xs] (.v (.int .i64 (aB (q9 xs)))) := fun M => by
 refine PT.enterR a6 bDR (by simp) aXM fun k hk hf => RX.of a6 ?_
 simp only [G0, Z1, Z2, Z3, Z4, Z5, f8, d8]
 refine eY (fun hb => ?_) (fun hb => ?_)
 ·simp only [G0, Z1, Z2, Z3, Z4, Z5]
  refine m6 hf rfl ⟨?_, rfl⟩
  have : q9 xs = false := by simp at hb; simp [q9]; intro; omega
  rw [this]; rfl
 ·simp only [G0, Z1, Z2, Z3, Z4, Z5]
  have hl : xs.length <= 4000 := by simp at hb; omega
  refine RX.loop ?_
  refine w7.weak (L4 ?_) (aU0 xs hl M k _ ?_ ?_ xs.length 0 none rfl (Nat.zero_le _) (.inl ⟨rfl, rfl⟩) rfl)
  ·repeat (first | exact KP.nil | apply KP.cons rfl)
  ·intro hok tm
   simp only [G0, Z1, Z2, Z3, Z4, Z5]
   refine m6 hf rfl ⟨?_, rfl⟩
   have : q9 xs = true := by simp [q9, hl, hok]
   rw [this]; rfl
  ·intro hbad tm ht
   simp only [G0, Z1, Z2, Z3, Z4, Z5]
   refine m6 hf ht ⟨?_, rfl⟩
   have : q9 xs = false := by simp [q9, hbad]
   rw [this]; rfl
end Go.Proofs.YtlbjplpehkgcdaaGreatDoor
namespace Go.Proofs.YtlbjplpehkgcdaaGreatDoor
open Go Go.Am Go.Pm
theorem aIB (n s : Int) : A0 env Tryz.prog 97 [.agg [iv n, iv s]] (iv (aB (aF9 n s))) := fun M => by
 refine PT.enterR a6 bD1 (by simp) aUV fun k hk hf => RX.of a6 ?_
 simp only [G0, Z1, Z2, Z3, Z4, Z5, f8]
 refine eY (fun hb => ?_) (fun hb => ?_)
 ·simp only [G0, Z1, Z2, Z3, Z4, Z5]
  refine m6 hf rfl ⟨?_, rfl⟩
  show _ = iv (aB (!_))
  rw [hb]; rfl
 ·simp only [G0, Z1, Z2, Z3, Z4, Z5]
  refine m6 hf rfl ⟨?_, rfl⟩
  show _ = iv (aB (!_))
  rw [hb]; rfl
theorem xY : A0 env Tryz.prog 115 [] (.agg [iv 0, iv 0, iv 511, iv 1000, iv 511, iv 0, iv 0, iv 0]) := fun M => by
 refine PT.enterR a6 bCP (by simp) aPZ fun k hk hf => RX.of a6 ?_
 simp only [G0, Z1, Z2, Z3, Z4, Z5, f8]
 refine aZP (ag := true) (n := 8) hf (by kernel_rfl) ?_ ⟨rfl, rfl⟩
 simp only [G0, Z1, Z2, Z3, Z4, Z5]
theorem xD (x m : Int) (b : List UInt8) : A0 env Tryz.prog 99 [.agg [iv x, iv m, n7 b]] (iv (aB (pS x m b))) := fun M => by
 refine PT.enterR a6 bE1 (by simp) aYK fun k hk hf => RX.of a6 ?_
 simp only [G0, Z1, Z2, Z3, Z4, Z5, f8]
 refine eY (fun hb => ?_) (fun hb => ?_)
 ·simp only [G0, Z1, Z2, Z3, Z4, Z5]
  refine m6 hf rfl ⟨?_, rfl⟩
  unfold pS; rw [hb]; rfl
 ·simp only [G0, Z1, Z2, Z3, Z4, Z5]
  refine cq0 xY (by decide) ?_
  have hidx : ∃ j : Nat, x = (j : Int) /\ (j = 1 \/ j = 2 \/ j = 3) := ⟨x.toNat, by simp at hb; omega, by simp at hb; omega⟩
  obtain ⟨j, rfl, h⟩ := hidx
  have hj : j < 4 := by omega
  have h2 : ∃ a c : Int, (List.take 2 (List.drop (j * 2) [iv 0, iv 0, iv 511, iv 1000, iv 511, iv 0, iv 0, iv 0])) = [iv a, iv c] /\ a = (if (j : Int) = 3 then 0 else 511) /\ c = (if (j : Int) = 1 then 1000 else 0) := by
   rcases h with rfl | rfl | rfl
   ·exact ⟨511, 1000, rfl, rfl, rfl⟩
   ·exact ⟨511, 0, rfl, rfl, rfl⟩
   ·exact ⟨0, 0, rfl, rfl, rfl⟩
  obtain ⟨a, c, h2, ha, hc⟩ := h2
  simp only [G0, Z1, Z2, Z3, Z4, Z5, hj, h2, n7]
  refine eY (fun hb' => ?_) (fun hb' => ?_)
  ·simp only [G0, Z1, Z2, Z3, Z4, Z5]
   refine m6 hf rfl ⟨?_, rfl⟩
   unfold pS; rw [hb, <- ha, <- hc, hb']; rfl
  ·simp only [G0, Z1, Z2, Z3, Z4, Z5]
   refine m6 hf rfl ⟨?_, rfl⟩
   unfold pS; rw [hb, <- ha, <- hc, hb']; rfl
end Go.Proofs.YtlbjplpehkgcdaaGreatDoor
namespace Go.Proofs.YtlbjplpehkgcdaaGreatDoor
open Go Go.Am Go.Pm
theorem aDL (a b : List UInt8) : A0 env Tryz.prog 80 [n7 a, n7 b] (bv (a == b)) := fun M => by
 refine PT.enterR a6 bDT (by simp) aVR fun k hk hf => RX.of a6 ?_
 simp only [G0, Z1, Z2, Z3, Z4, Z5, f8, n7, aIS, S0]
 exact m6 hf rfl ⟨rfl, rfl⟩
theorem aAC (x m y p : Int) (a b : List UInt8) : A0 env Tryz.prog 50 [.agg [iv x, iv m, n7 a], .agg [iv y, iv p, n7 b]] (bv (x == y && m == p && a == b)) := fun M => by
 refine PT.enterR a6 bE2 (by simp) aYA fun k hk hf => RX.of a6 ?_
 simp only [G0, Z1, Z2, Z3, Z4, Z5, f8]
 refine aIZ (fun h => by simp only [h, m9]; exact aDL a b) (by decide) ?_
 simp only [G0, Z1, Z2, Z3, Z4, Z5]
 exact m6 hf rfl ⟨rfl, rfl⟩
theorem zO (x m : Int) (a : List UInt8) : A0 env Tryz.prog 26 [.agg [iv x, iv m, n7 a]] (bv (decide ((a.length : Int) > 1200))) := fun M => by
 refine PT.enterR a6 bD3 (by simp) aV6 fun k hk hf => RX.of a6 ?_
 simp only [G0, Z1, Z2, Z3, Z4, Z5, f8, n7]
 exact m6 hf rfl ⟨rfl, rfl⟩
end Go.Proofs.YtlbjplpehkgcdaaGreatDoor
namespace Go.Proofs.YtlbjplpehkgcdaaGreatDoor
open Go Go.Am Go.Pm
theorem bAP : env.plainEq 74 = true := by kernel_rfl
theorem bAQ (a b c x y z : Int) : kX env 100 74 (.agg #[.int .i64 a, .int .i64 b, .int .i64 c]) (.agg #[.int .i64 x, .int .i64 y, .int .i64 z]) = some (a == x && (b == y && c == z)) := by
 have h : kX env 100 74 (.agg #[.int .i64 a, .int .i64 b, .int .i64 c]) (.agg #[.int .i64 x, .int .i64 y, .int .i64 z]) = eqS (some (a == x)) (eqS (some (b == y)) (eqS (some (c == z)) (some true))) := by kernel_rfl
 rw [h, aAR, aAR, aAR, Bool.and_true]
theorem bBG {t' : Bool} {d : Bool} (a b c x y z : Int) : C0 env .neq 74 t' d (.agg [iv a, iv b, iv c]) (.agg [iv x, iv y, iv z]) = some (bv (!(a == x && (b == y && c == z)))) := by
 simp [C0, P4, bAP, E0, bAQ]
theorem aY5 {t' : Bool} {d : Bool} (a b c x y z : Int) : C0 env .eql 74 t' d (.agg [iv a, iv b, iv c]) (.agg [iv x, iv y, iv z]) = some (bv (a == x && (b == y && c == z))) := by
 simp [C0, P4, bAP, E0, bAQ]
theorem aYF (a b : List d6) (hl : a.length = b.length) (M : c7) (k : Nat) (Q : f7 -> d9 -> Prop) (hs : a.length <= 9223372036854775806) (q1 : I2 a b = true -> ∀ tm, Q (.exit 0) ⟨tm, 26, k, [], M⟩)
  (q2 : I2 a b = false -> ∀ tm, c8 tm 4 = bv false -> Q .ret ⟨tm, 26, k, [], M⟩) :
  ∀ d i, a.length - i = d -> i <= a.length -> I2 a b = I2 (a.drop i) (b.drop i) →
  w7 env Tryz.prog none aN9 ⟨[(5, iv i), (1, d8 b), (0, d8 a)], 26, k, [], M⟩ Q := by
 intro d
 induction d with
 | zero =>
  intro i hd hi hp
  have : i = a.length := by omega
  subst this
  refine w7.round (RX.of a6 ?_)
  simp only [G0, Z1, Z2, Z3, Z4, Z5, d8, Int.lt_irrefl, decide_false]
  refine q1 ?_ _
  rw [hp, List.drop_of_length_le (Nat.le_refl _), List.drop_of_length_le (by omega)]; rfl
 | succ d ih =>
  intro i hd hi hp
  have hi' : i < a.length := by omega
  have hib : i < b.length := by omega
  have hii : (i : Int) < a.length := by omega
  obtain ⟨x, hx, hdx⟩ := K2 hi'
  obtain ⟨y, hy, hdy⟩ := K2 hib
  have hlx := fW (f := c9) (n := 3) (fun _ => rfl) hx
  have hly := fW (f := c9) (n := 3) (fun _ => rfl) hy
  have hw : IntKind.i64.wrap ((i : Int) + 1) = ((i + 1 : Nat) : Int) := by rw [f9 (by omega) (by omega)]; rfl
  rw [hdx, hdy] at hp
  refine w7.round (RX.of a6 ?_)
  simp only [G0, Z1, Z2, Z3, Z4, Z5, d8, hii, decide_true, hi', hib, hlx, hly, c9, bBG]
  refine eY (fun hb => ?_) (fun hb => ?_)
  ·simp only [G0, Z1, Z2, Z3, Z4, Z5]
   refine q2 ?_ _ rfl
   rw [hp, I2]
   have hn : (!lO x y) = true := hb
   have : lO x y = false := by simpa using hn
   rw [this]; rfl
  ·simp only [G0, Z1, Z2, Z3, Z4, Z5, hw]
   have hn : (!lO x y) = false := hb
   have : lO x y = true := by simpa using hn
   refine w7.weak (L4 ?_) (ih (i + 1) (by omega) (by omega) ?_)
   ·repeat (first | exact KP.nil | apply KP.cons rfl)
   ·rw [hp, I2, this]; rfl
theorem aCE (a b : List d6) (hs : a.length <= 9223372036854775806) : A0 env Tryz.prog 51 [d8 a, d8 b] (bv (I2 a b)) := fun M => by
 refine PT.enterR a6 bDH (by simp) aXS fun k hk hf => RX.of a6 ?_
 simp only [G0, Z1, Z2, Z3, Z4, Z5, f8, d8]
 refine eY (fun hb => ?_) (fun hb => ?_)
 ·simp only [G0, Z1, Z2, Z3, Z4, Z5]
  refine m6 hf rfl ⟨?_, rfl⟩
  cases e : I2 a b with
  | false => rfl
  | true => have := mU e; rw [this] at hb; simp at hb
 ·simp only [G0, Z1, Z2, Z3, Z4, Z5]
  have hl : a.length = b.length := by
   have : (a.length : Int) = b.length := by simpa using hb
   omega
  refine RX.loop (w7.weak (L4 ?_) (aYF a b hl M k _ hs ?_ ?_ a.length 0 rfl (Nat.zero_le _) rfl))
  ·repeat (first | exact KP.nil | apply KP.cons rfl)
  ·intro h tm
   simp only [G0, Z1, Z2, Z3, Z4, Z5]
   exact m6 hf rfl ⟨by rw [h]; rfl, rfl⟩
  ·intro h tm ht
   simp only [G0, Z1, Z2, Z3, Z4, Z5]
   exact m6 hf ht ⟨by rw [h], rfl⟩
end Go.Proofs.YtlbjplpehkgcdaaGreatDoor
namespace Go.Proofs.YtlbjplpehkgcdaaGreatDoor
open Go Go.Am Go.Pm
theorem bD4 : env.plainEq 24 = true := by kernel_rfl
theorem bDV (a b x y : Int) : kX env 100 24 (.agg #[.int .i64 a, .int .i64 b]) (.agg #[.int .i64 x, .int .i64 y]) = some (a == x && b == y) := by
 have h : kX env 100 24 (.agg #[.int .i64 a, .int .i64 b]) (.agg #[.int .i64 x, .int .i64 y]) = eqS (some (a == x)) (eqS (some (b == y)) (some true)) := by kernel_rfl
 rw [h, aAR, aAR, Bool.and_true]
theorem vI {t' : Bool} {d : Bool} (a b x y : Int) : C0 env .eql 24 t' d (.agg [iv a, iv b]) (.agg [iv x, iv y]) = some (bv (a == x && b == y)) := by
 simp [C0, P4, bD4, E0, bDV]
theorem aCK (a b : Ev) (hs : a.past.length <= 9223372036854775806) : A0 env Tryz.prog 18 [l8 a, l8 b] (bv (aX3 a b)) := fun M => by
 refine PT.enterR a6 bEZ (by simp) aYE fun k hk hf => RX.of a6 ?_
 simp only [G0, Z1, Z2, Z3, Z4, Z5, f8, l8, b6, vI, S0]
 refine aIZ (fun h => by simp only [h, m9]; exact aAC _ _ _ _ _ _) (by decide) ?_
 simp only [G0, Z1, Z2, Z3, Z4, Z5]
 refine aIZ (fun h => by simp only [h, m9]; exact aCE _ _ hs) (by decide) ?_
 simp only [G0, Z1, Z2, Z3, Z4, Z5]
 exact m6 hf rfl ⟨rfl, rfl⟩
theorem aW0 (l : List Ev) (m : Nat) (hm : m <= 1000000) (M : c7) (k : Nat) (Q : f7 -> d9 -> Prop) (q1 : sW (m + 1) l = false -> ∀ tm, c8 tm 0 = d4 l -> c8 tm 1 = iv m -> Q (.exit 0) ⟨tm, 45, k, [], M⟩)
  (q2 : sW (m + 1) l = true -> ∀ tm, c8 tm 4 = bv true -> Q .ret ⟨tm, 45, k, [], M⟩) :
  ∀ d i, m + 1 - i = d -> i <= m + 1 -> i <= l.length -> sW (m + 1) l = sW d (l.drop i) →
  w7 env Tryz.prog none aSD ⟨[(5, iv i), (1, iv m), (0, d4 l)], 45, k, [], M⟩ Q := by
 intro d
 induction d with
 | zero =>
  intro i hd hi hl hp
  have him : ¬ ((i : Int) <= m) := by omega
  refine w7.round (RX.of a6 ?_)
  simp only [G0, Z1, Z2, Z3, Z4, Z5, d4, him, decide_false, Bool.and_false]
  exact q1 (by rw [hp]; rfl) _ rfl rfl
 | succ d ih =>
  intro i hd hi hl hp
  have him : (i : Int) <= m := by omega
  by_cases hlt : i < l.length
  ·have hii : (i : Int) < l.length := by omega
   obtain ⟨x, hx, hdx⟩ := K2 hlt
   have hlx := x7 hx
   have c2 : (l.flatMap b6)[i * 7 + 2]? = some (str x.path) := fM (f := b6) (n := 7) (c := 2) (fun _ => rfl) hx rfl
   have c6 : (l.flatMap b6)[i * 7 + 6]? = some (d8 x.past) := fM (f := b6) (n := 7) (c := 6) (fun _ => rfl) hx rfl
   have c3 : A3 true 3 (l.flatMap b6) (i * 7 + 3) = some (.agg [iv x.kind, iv x.mode, n7 x.bytes]) := aKT (f := b6) (fun _ => rfl) hx (by decide) rfl
   have hw : IntKind.i64.wrap ((i : Int) + 1) = ((i + 1 : Nat) : Int) := by rw [f9 (by omega) (by omega)]; rfl
   refine w7.round (RX.of a6 ?_)
   simp only [G0, Z1, Z2, Z3, Z4, Z5, d4, him, hii, hlt, decide_true, Bool.and_true, c2, c6, c3]
   refine bEC (fun h => by simp only [h, Bool.not_false, m9]; exact zO _ _ _) (by decide) ?_
   simp only [G0, Z1, Z2, Z3, Z4, Z5, d4, him, hii, hlt, decide_true, Bool.and_true, c2, c6, c3, d8]
   rw [hdx] at hp
   refine eY (fun hb => ?_) (fun hb => ?_)
   ·simp only [G0, Z1, Z2, Z3, Z4, Z5]
    refine q2 ?_ _ rfl
    have : rP x = true := hb
    rw [hp, sW, this]; rfl
   ·simp only [G0, Z1, Z2, Z3, Z4, Z5, hw]
    have : rP x = false := hb
    refine w7.weak (L4 ?_) (ih (i + 1) (by omega) (by omega) (by omega) ?_)
    ·repeat (first | exact KP.nil | apply KP.cons rfl)
    ·rw [hp, sW, this]; rfl
  ·have hii : ¬ ((i : Int) < l.length) := by omega
   refine w7.round (RX.of a6 ?_)
   simp only [G0, Z1, Z2, Z3, Z4, Z5, d4, hii, decide_false, Bool.false_and]
   exact q1 (by rw [hp, List.drop_of_length_le (by omega)]; rfl) _ rfl rfl
theorem nI (l : List Ev) (m : Nat) (hm : m <= 1000000) : A0 env Tryz.prog 6 [d4 l, iv m] (bv (V1 m l)) := fun M => by
 refine PT.enterR a6 fn6 (by simp) bBD fun k hk hf => RX.of a6 ?_
 simp only [G0, Z1, Z2, Z3, Z4, Z5, f8]
 refine RX.loop (w7.weak (L4 ?_) (aW0 l m hm M k _ ?_ ?_ (m + 1) 0 rfl (Nat.zero_le _) (Nat.zero_le _) rfl))
 ·repeat (first | exact KP.nil | apply KP.cons rfl)
 ·intro h tm h0 h1
  simp only [G0, Z1, Z2, Z3, Z4, Z5, h0, h1, d4]
  refine m6 hf rfl ⟨?_, rfl⟩
  unfold V1; rw [h]; rfl
 ·intro h tm ht
  simp only [G0, Z1, Z2, Z3, Z4, Z5]
  refine m6 hf ht ⟨?_, rfl⟩
  unfold V1; rw [h]; rfl
end Go.Proofs.YtlbjplpehkgcdaaGreatDoor
namespace Go.Proofs.YtlbjplpehkgcdaaGreatDoor
open Go Go.Am Go.Pm
theorem aXO (s : List UInt8) (c : UInt8) : A0 env Tryz.prog 171 [str s, Q0 c] (iv (yW (I3 c 0 s))) := fun M => by
 refine PT.indexByteString wJ (by rfl) (by have := c.toNat_lt; simpa using this) ⟨?_, rfl⟩
 have e : ((c.toNat : Int)).toNat = c.toNat := by simp
 rw [e, vJ]
 show _ = iv (yW (I3 c 0 s))
 cases I3 c 0 s <;> rfl
theorem aI9 (s : List UInt8) (c : UInt8) : A0 env Tryz.prog 168 [str s, Q0 c] (iv (yW (I3 c 0 s))) := fun M => by
 refine PT.enterR a6 aZF (by simp) aP0 fun k hk hf => RX.of a6 ?_
 simp only [G0, Z1, Z2, Z3, Z4, Z5, f8]
 refine H7 (aXO s c) (by decide) ?_
 simp only [G0, Z1, Z2, Z3, Z4, Z5]
 exact m6 hf rfl ⟨rfl, rfl⟩
theorem aUO (s : List UInt8) (c : UInt8) : A0 env Tryz.prog 164 [str s, Q0 c] (iv (yW (I3 c 0 s))) := fun M => by
 refine PT.enterR a6 bBC (by simp) aPF fun k hk hf => RX.of a6 ?_
 simp only [G0, Z1, Z2, Z3, Z4, Z5, f8]
 refine H7 (aI9 s c) (by decide) ?_
 simp only [G0, Z1, Z2, Z3, Z4, Z5]
 exact m6 hf rfl ⟨rfl, rfl⟩
theorem aV0 (s : List UInt8) (c : UInt8) : A0 env Tryz.prog 160 [str s, str [c]] (iv (yW (I3 c 0 s))) := fun M => by
 refine PT.enterR a6 bCQ (by simp) aP6 fun k hk hf => RX.of a6 ?_
 have h0 : gE (str [c]) (.v (.int .i64 0)) = some (Q0 c) := oO (i := 0) rfl
 have hc : (((1 : Nat) : Int) == 0) = false := rfl
 have hd : (((1 : Nat) : Int) == 1) = true := rfl
 simp only [G0, Z1, Z2, Z3, Z4, Z5, f8, aQ8, h0, S0]
 refine eY (fun hb => ?_) (fun hb => ?_)
 ·simp only [G0, Z1, Z2, Z3, Z4, Z5]
  have hs : s = [c] := by
   rw [hc, Bool.false_or, beq_iff_eq] at hb
   exact hb.symm
  subst hs
  refine m6 hf rfl ⟨?_, rfl⟩
  unfold I3; rw [if_pos rfl]; rfl
 ·simp only [G0, Z1, Z2, Z3, Z4, Z5, hd, h0]
  refine H7 (aI9 s c) (by decide) ?_
  simp only [G0, Z1, Z2, Z3, Z4, Z5]
  exact m6 hf rfl ⟨rfl, rfl⟩
theorem aWA (s : List UInt8) (c : UInt8) : A0 env Tryz.prog 148 [str s, str [c]] (iv (yW (I3 c 0 s))) := fun M => by
 refine PT.enterR a6 bB9 (by simp) aQI fun k hk hf => RX.of a6 ?_
 simp only [G0, Z1, Z2, Z3, Z4, Z5, f8]
 refine H7 (aV0 s c) (by decide) ?_
 simp only [G0, Z1, Z2, Z3, Z4, Z5]
 exact m6 hf rfl ⟨rfl, rfl⟩
theorem aPN (b : UInt8) (h : isL b = true) : ∃ i : Nat, A0 env Tryz.prog 157 [str o4, .v (.int .i32 b.toNat)] (iv i) := by
 have hb := uN b h
 obtain ⟨i, hi⟩ := rV (k := 0) (show b ∈ o4 by simpa [isL] using h)
 refine ⟨i, fun M => ?_⟩
 have h1 : decide ((0 : Int) <= (b.toNat : Int)) = true := by simp
 have h2 : decide ((b.toNat : Int) < 128) = true := by simp; omega
 have h3 : dB .u8 (.v (.int .i32 (b.toNat : Int))) = some (Q0 b) := by
  show some (PV.v (.int .u8 (IntKind.u8.wrap (b.toNat : Int)))) = _
  have : IntKind.u8.wrap (b.toNat : Int) = b.toNat := by
   simp only [IntKind.wrap, IntKind.signed, IntKind.bits]
   simp
   omega
  rw [this]; rfl
 refine PT.enterR a6 bB3 (by simp) aO2 fun k hk hf => RX.of a6 ?_
 simp only [G0, Z1, Z2, Z3, Z4, Z5, f8, h1, h2, h3]
 refine H7 (aUO o4 b) (by decide) ?_
 simp only [G0, Z1, Z2, Z3, Z4, Z5]
 exact m6 hf rfl ⟨by rw [hi]; rfl, rfl⟩
theorem aVI (b : UInt8) (h : isL b = true) : A0 env Tryz.prog 136 [str o4, .v (.int .i32 b.toNat)] (bv true) := fun M => by
 obtain ⟨i, hi⟩ := aPN b h
 refine PT.enterR a6 aZ7 (by simp) aPS fun k hk hf => RX.of a6 ?_
 simp only [G0, Z1, Z2, Z3, Z4, Z5, f8]
 refine H7 hi (by decide) ?_
 have hge : decide ((i : Int) >= 0) = true := by simp
 simp only [G0, Z1, Z2, Z3, Z4, Z5, hge]
 exact m6 hf rfl ⟨rfl, rfl⟩
theorem aYV (b : UInt8) (h : isL b = true) : A0 env Tryz.prog 135 [.v (.int .i32 b.toNat)] (bv false) := fun M => by
 refine PT.enterR a6 bBL (by simp) aRD fun k hk hf => RX.of a6 ?_
 simp only [G0, Z1, Z2, Z3, Z4, Z5, f8]
 refine H7 (aVI b h) (by decide) ?_
 simp only [G0, Z1, Z2, Z3, Z4, Z5]
 exact m6 hf rfl ⟨rfl, rfl⟩
theorem wP (s : List UInt8) (i : Nat) (b : UInt8) (h : s[i]? = some b) (hb : b.toNat < 128) : Utf8.decode ⟨s.toArray⟩ i = (b.toNat, 1) := by
 have hi : i < s.length := by
  rcases Nat.lt_or_ge i s.length with h' | h'
  ·exact h'
  ·rw [List.getElem?_eq_none h'] at h; cases h
 have hi' : i < (⟨s.toArray⟩ : ByteArray).size := hi
 have e : (⟨s.toArray⟩ : ByteArray)[i]'hi' = b := by
  have : s[i] = b := by rw [List.getElem?_eq_getElem hi] at h; exact Option.some.inj h
  rw [<- this]; rfl
 have := decode_ascii ⟨s.toArray⟩ i hi' (by rw [e]; exact hb)
 rw [this, e]
theorem aN0 {tm : List (Nat × PV)} {nt k : Nat} {M : c7} {st : ByteArray} {pos : Nat} {os : List Pm.Obj} {A : Operand} (hA : l4 tm A = .ptr k 0 0) (ho : os = [.str true st pos]) :
  aGM A ⟨tm, nt, k, os, M⟩ = if pos < st.data.toList.length then some (.tup [.v (.bool true), .v (.int .i64 pos), .v (.int .i32 (Utf8.decode st pos).1)], ⟨tm, nt, k, [.str true st (pos + (Utf8.decode st pos).2)], M⟩) else some (.tup [.v (.bool false)], ⟨tm, nt, k, os, M⟩) := by
 subst ho
 unfold aGM aDQ
 simp only [hA, d9.look, if_pos, List.getElem?_cons_zero, d9.putO, List.set_cons_zero]
theorem rO {c d : Bool} {a b : Bool} : C0 env .eql 4 c d (bv a) (bv b) = some (bv (a == b)) := by
 have h : kX env 100 4 (.bool a) (.bool b) = some (a == b) := by kernel_rfl
 simp [C0, D9, E0, h]
theorem aRV (s : List UInt8) (hs : ∀ b ∈ s, isL b = true) (hl : s.length <= 1000000) (M : c7) (k : Nat) (Q : f7 -> d9 -> Prop) (q : ∀ tm, Q (.exit 0) ⟨tm, 21, k, [.str true ⟨s.toArray⟩ s.length], M⟩) :
  ∀ d i, s.length - i = d -> i <= s.length →
  w7 env Tryz.prog none aFS ⟨[(10, .ptr k 0 0), (1, .fn 135 [] []), (2, bv true)], 21, k, [.str true ⟨s.toArray⟩ i], M⟩ Q := by
 intro d
 induction d with
 | zero =>
  intro i hd hi
  have : i = s.length := by omega
  subst this
  refine w7.round (RX.of a6 ?_)
  simp only [G0, Z1, Z2, Z3, Z4, Z5]
  rw [aN0 rfl rfl, if_neg (Nat.lt_irrefl _)]
  simp only [G0, Z1, Z2, Z3, Z4, Z5]
  exact q _
 | succ d ih =>
  intro i hd hi
  have hi' : i < s.length := by omega
  obtain ⟨b, hb, _⟩ := K2 hi'
  have hL := hs b (List.mem_of_getElem? hb)
  refine w7.round (RX.of a6 ?_)
  simp only [G0, Z1, Z2, Z3, Z4, Z5]
  rw [aN0 rfl rfl, if_pos (show i < s.length from hi'), wP s i b hb (uN b hL)]
  simp only [G0, Z1, Z2, Z3, Z4, Z5]
  refine cp (first := []) (cap := []) (aYV b hL) (by decide) ?_
  have hne : (false == true) = false := rfl
  simp only [G0, Z1, Z2, Z3, Z4, Z5, rO, hne]
  refine w7.weak (L4 ?_) (ih (i + 1) (by omega) (by omega))
  repeat (first | exact KP.nil | apply KP.cons rfl)
theorem aVQ (s : List UInt8) (hs : ∀ b ∈ s, isL b = true) (hl : s.length <= 1000000) : A0 env Tryz.prog 163 [str s, .fn 135 [] [], bv true] (iv (-1)) := fun M => by
 refine PT.enterR a6 aZU (by simp) aP8 fun k hk hf => RX.of a6 ?_
 simp only [G0, Z1, Z2, Z3, Z4, Z5, f8]
 refine RX.loop (w7.weak (L4 ?_) (aRV s hs hl M k _ ?_ s.length 0 rfl (Nat.zero_le _)))
 ·repeat (first | exact KP.nil | apply KP.cons rfl)
 ·intro tm
  simp only [G0, Z1, Z2, Z3, Z4, Z5]
  exact m6 hf rfl ⟨rfl, rfl⟩
theorem aXY (s : List UInt8) (hs : ∀ b ∈ s, isL b = true) (hl : s.length <= 1000000) : A0 env Tryz.prog 156 [str s, .fn 135 [] []] (iv (-1)) := fun M => by
 refine PT.enterR a6 bAG (by simp) aQS fun k hk hf => RX.of a6 ?_
 simp only [G0, Z1, Z2, Z3, Z4, Z5, f8]
 refine H7 (aVQ s hs hl) (by decide) ?_
 simp only [G0, Z1, Z2, Z3, Z4, Z5]
 exact m6 hf rfl ⟨rfl, rfl⟩
theorem bAH (s : List UInt8) (hs : ∀ b ∈ s, isL b = true) (hl : s.length <= 1000000) : A0 env Tryz.prog 134 [str s, .fn 135 [] []] (bv false) := fun M => by
 refine PT.enterR a6 bA1 (by simp) aRN fun k hk hf => RX.of a6 ?_
 simp only [G0, Z1, Z2, Z3, Z4, Z5, f8]
 refine H7 (aXY s hs hl) (by decide) ?_
 have hge : decide ((-1 : Int) >= 0) = false := rfl
 simp only [G0, Z1, Z2, Z3, Z4, Z5, hge]
 exact m6 hf rfl ⟨rfl, rfl⟩
end Go.Proofs.YtlbjplpehkgcdaaGreatDoor
namespace Go.Pm
open Go.RowKit Go.Am
theorem qC {E : i9} {P : Program} {d g n : Nat} {w : Bool} {ar : List Operand} {ld : List RD} {tm : List (Nat × PV)} {nt k : Nat} {os : List Obj} {M : c7} {R : d9 -> Prop} :
  V0 E P (dCG true d g w (.func n) ar :: ld) ⟨tm, nt, k, os, M⟩ R = cG E P d w (.d ld) tm nt k os M R (ar.map (l4 tm)) (.fn n [] []) (c8 tm g) := by
 unfold cG
 have hg : rg (some (g, w)) ⟨tm, nt, k, os, M⟩ = rgV w (c8 tm g) := aCB
 apply propext
 constructor
 ·rintro (⟨h0, h⟩ | ⟨-, h0, h⟩ | ⟨h0, -⟩)
  ·replace h0 := hg.symm.trans h0; rw [h0]; exact .inl h
  ·replace h0 := hg.symm.trans h0; rw [h0]; dsimp only; rw [<- bW]; exact h
  ·cases h0
 ·intro h
  split at h
  ·rename_i h0
   rcases h with ⟨g', f', c', e, h⟩ | ⟨a, i, e, _⟩
   ·cases e; exact .inl ⟨hg.trans h0, _, _, _, rfl, h⟩
   ·cases e
  ·rename_i h0
   rw [<- bW] at h
   exact .inr (.inl ⟨rfl, hg.trans h0, h⟩)
  ·exact h.elim
end Go.Pm
namespace Go.Proofs.YtlbjplpehkgcdaaGreatDoor
open Go Go.Am Go.Pm
theorem aAV {Q : PV -> c7 -> Prop} {body : Code} {M : c7} {os : List Pm.Obj} {tm : List (Nat × PV)} {k nt nt' a b t n : Nat} {ag : Bool} {v w : PV} (hf : fresh M k) (ht : tyP env t = some (ag, n)) (hv : y6 k os M ag n (c8 tm a) = some v) (hw : c8 tm b = w) (h : Q (.tup [v, w]) M) :
  dK env ⟨nt, [.cell a t, .tmp b], body⟩ Q .ret ⟨tm, nt', k, os, M⟩ := by
 subst hw
 exact ⟨.inr rfl, [v, _], M, by simp only [bL, wR, aEM ht, hv], O6.pop hf, h⟩
end Go.Proofs.YtlbjplpehkgcdaaGreatDoor
namespace Go.Proofs.YtlbjplpehkgcdaaGreatDoor
open Go Go.Am Go.Pm
theorem zF (l : List UInt8) (hl : l.length <= 1000000) : A0 env Tryz.prog 65 [n7 l] (n7 l) := A0.of fun M => by
 refine PT.enterR a6 bEE (by simp) aUC fun k hk hf => RX.of a6 ?_
 simp only [G0, Z1, Z2, Z3, Z4, Z5, f8, n7]
 refine yC fun b hb => ?_
 simp only [G0, Z1, Z2, Z3, Z4, Z5]
 cases b with
 | true =>
  have hz : l = [] := by
   cases l with
   | nil => rfl
   | cons x l => exact absurd (hb (by simp)) (by simp)
  subst hz
  simp only [G0, Z1, Z2, Z3, Z4, Z5, Bool.xor_false]
  exact m6 hf rfl ⟨J6.trans (J6.nil 0 1) (J6.no _ _ _ _), rfl⟩
 | false =>
  simp only [G0, Z1, Z2, Z3, Z4, Z5, Bool.xor_false]
  by_cases hz : l.length = 0
  ·have : l = [] := List.length_eq_zero_iff.1 hz
   subst this
   refine aL ?_
   simp only [G0, Z1, Z2, Z3, Z4, Z5, List.map_nil, lR]
   exact m6 hf rfl ⟨J6.no _ _ _ _, rfl⟩
  ·have hc : (0 = 0 \/ 1 = 1) /\ (2 * (0 + l.length) + 2000) * 1 <= 281474976710656 /\ 0 + l.length <= 4611686018427387904 /\ 1 < 4096 /\ 1 = 1 /\ (l.map Q0).all w9 = true := ⟨.inl rfl, by omega, by omega, by decide, rfl, aN6 l⟩
   refine aL ?_
   rw [oJ hz hc]
   simp only [G0, Z1, Z2, Z3, Z4, Z5]
   exact m6 hf rfl ⟨J6.no _ _ _ _, rfl⟩
theorem aBF (l : List d6) (hl : l.length <= 1000000) : A0 env Tryz.prog 66 [d8 l] (d8 l) := A0.of fun M => by
 refine PT.enterR a6 bC9 (by simp) aNL fun k hk hf => RX.of a6 ?_
 simp only [G0, Z1, Z2, Z3, Z4, Z5, f8, d8]
 refine yC fun b hb => ?_
 simp only [G0, Z1, Z2, Z3, Z4, Z5]
 cases b with
 | true =>
  have hz : l = [] := by
   cases l with
   | nil => rfl
   | cons x l => exact absurd (hb (by simp)) (by simp)
  subst hz
  simp only [G0, Z1, Z2, Z3, Z4, Z5, Bool.xor_false]
  exact m6 hf rfl ⟨J6.trans (J6.nil 0 3) (J6.no _ _ _ _), rfl⟩
 | false =>
  simp only [G0, Z1, Z2, Z3, Z4, Z5, Bool.xor_false]
  by_cases hz : l.length = 0
  ·have : l = [] := List.length_eq_zero_iff.1 hz
   subst this
   refine aL ?_
   simp only [G0, Z1, Z2, Z3, Z4, Z5, List.flatMap_nil, lR]
   exact m6 hf rfl ⟨J6.no _ _ _ _, rfl⟩
  ·have hc : (0 = 0 \/ 3 = 3) /\ (2 * (0 + l.length) + 2000) * 24 <= 281474976710656 /\ 0 + l.length <= 4611686018427387904 /\ 3 < 4096 /\ 3 = 3 /\ (l.flatMap c9).all w9 = true := ⟨.inl rfl, by omega, by omega, by decide, rfl, uK l⟩
   refine aL ?_
   rw [oJ hz hc]
   simp only [G0, Z1, Z2, Z3, Z4, Z5]
   exact m6 hf rfl ⟨J6.no _ _ _ _, rfl⟩
end Go.Proofs.YtlbjplpehkgcdaaGreatDoor
namespace Go.Proofs.YtlbjplpehkgcdaaGreatDoor
open Go Go.Am Go.Pm
def x3 (p : List UInt8) : List PV := (List.range 256).map fun c => bv (p.any fun b => b.toNat == c)
theorem J8 (p : List UInt8) : (x3 p).length = 256 := by simp [x3]
theorem aF6 (p : List UInt8) : (x3 p).all w9 = true := by
 unfold x3
 rw [List.all_map, List.all_eq_true]
 intro x _; rfl
theorem aHU (p : List UInt8) (b : UInt8) : (p.any fun x => x.toNat == b.toNat) = p.contains b := by
 induction p with
 | nil => rfl
 | cons x p ih =>
  rw [List.any_cons, ih, List.contains_cons]
  congr 1
  by_cases h : b = x
  ·subst h; simp
  ·have h1 : (b == x) = false := by simpa using h
   have h2 : (x.toNat == b.toNat) = false := by
    cases e : (x.toNat == b.toNat) with
    | false => rfl
    | true => exact absurd (UInt8.toNat.inj (by simpa using e)).symm h
   rw [h1, h2]
theorem aPC (p : List UInt8) (b : UInt8) : (x3 p)[b.toNat * 1]? = some (bv (p.contains b)) := by
 have hb := b.toNat_lt
 have : b.toNat < 256 := by simpa using hb
 rw [Nat.mul_one, x3, List.getElem?_map, List.getElem?_range this, Option.map_some, aHU]
theorem aQ4 (p : List UInt8) (b : UInt8) : w5 1 (b.toNat * 1) (bv true) (some (.row .rw 0 (x3 p))) = some (.row .rw 0 (x3 (p ++ [b]))) := by
 have hb := b.toNat_lt
 have hb : b.toNat < 256 := by simpa using hb
 rw [p6 (n := 1) ⟨rfl, by rw [J8]; show _ + 1 <= 256; omega, rfl⟩]
 congr 2
 rw [Nat.mul_one]
 apply List.ext_getElem?
 intro i
 show ((x3 p).take b.toNat ++ ([bv true] ++ (x3 p).drop (b.toNat + 1)))[i]? = _
 have hl := J8 p
 rcases Nat.lt_trichotomy i b.toNat with h | h | h
 ·rw [List.getElem?_append_left (by rw [List.length_take, hl]; omega), List.getElem?_take_of_lt h, x3, x3, List.getElem?_map, List.getElem?_map, List.getElem?_range (by omega)]
  simp only [Option.map_some, List.any_append, List.any_cons, List.any_nil, Bool.or_false]
  have : (b.toNat == i) = false := by simp; omega
  rw [this, Bool.or_false]
 ·subst h
  rw [List.getElem?_append_right (by rw [List.length_take, hl]; omega), List.length_take, hl, Nat.min_eq_left (by omega), Nat.sub_self]
  show some (bv true) = _
  rw [x3, List.getElem?_map, List.getElem?_range (by omega)]
  simp
 ·rw [List.getElem?_append_right (by rw [List.length_take, hl]; omega), List.length_take, hl, Nat.min_eq_left (by omega), List.getElem?_append_right (by simp; omega), List.getElem?_drop]
  have e : b.toNat + 1 + (i - b.toNat - [bv true].length) = i := by simp; omega
  rw [e, x3, x3, List.getElem?_map, List.getElem?_map]
  rcases Nat.lt_or_ge i 256 with h' | h'
  ·rw [List.getElem?_range h']
   simp only [Option.map_some, List.any_append, List.any_cons, List.any_nil, Bool.or_false]
   have : (b.toNat == i) = false := by simp; omega
   rw [this, Bool.or_false]
  ·rw [List.getElem?_eq_none (by simpa using h')]; rfl
theorem zV {k i : Nat} (b : UInt8) : lN 256 1 (.ptr k i 0) (Q0 b) = some (.ptr k i (b.toNat * 1)) := by
 have hb := b.toNat_lt
 have hb : b.toNat < 256 := by simpa using hb
 unfold lN Q0
 rw [H6]
 dsimp only
 rw [if_pos hb, Nat.zero_add]
theorem aDS : x3 [] = List.replicate 256 (bv false) := by
 unfold x3
 simp only [List.any_nil]
 rfl
theorem mS (p : List UInt8) (b : UInt8) {M0 : c7} {a i : Nat} {w : Wm} (hM : M0 a i = some (.row w 0 (x3 p))) : T1 env Tryz.prog M0 161 [.ptr a i 0, Q0 b] (bv (p.contains b)) := by
 refine T1.enter a6 bBA (by simp) aQQ fun M k hs hk hf => ?_
 have hM' := hs _ _ _ hM
 have hld : ∀ {ag : Bool} {n o : Nat} {os : List Pm.Obj}, y6 k os M ag n (.ptr a i o) = p9 ag n o (M a i) := o9 (I6 hf hM')
 simp only [G0, Z1, Z2, Z3, Z4, Z5, f8, zV, hld, hM', aPC]
 exact m6 hf rfl ⟨rfl, rfl⟩
def trR (p s : List UInt8) : List UInt8 := (s.reverse.dropWhile p.contains).reverse
def trL (p s : List UInt8) : List UInt8 := s.dropWhile p.contains
theorem aJF (p s : List UInt8) (b : UInt8) : trR p (s ++ [b]) = if p.contains b = true then trR p s else s ++ [b] := by
 unfold trR
 rw [List.reverse_append, List.reverse_singleton, List.singleton_append, List.dropWhile_cons]
 split
 ·rfl
 ·simp
theorem aD2 (p s : List UInt8) : trL p s = [] ↔ s.all p.contains = true := by
 unfold trL
 induction s with
 | nil => simp
 | cons b s ih =>
  rw [List.dropWhile_cons, List.all_cons]
  split
  ·rename_i h; rw [h, Bool.true_and]; exact ih
  ·rename_i h; simp at h; simp [h]
theorem aQU (p s : List UInt8) (h : s.all p.contains = true) : trR p s = [] := by
 have : s.reverse.dropWhile p.contains = [] := (aD2 p s.reverse).2 (by rw [List.all_reverse]; exact h)
 unfold trR
 rw [this]; rfl
theorem vH (p s : List UInt8) : ∃ t, s = trR p s ++ t /\ t.all p.contains = true := by
 unfold trR
 refine ⟨(s.reverse.takeWhile p.contains).reverse, ?_, ?_⟩
 ·rw [<- List.reverse_append, List.takeWhile_append_dropWhile, List.reverse_reverse]
 ·rw [List.all_reverse]
  exact List.all_takeWhile
theorem aNT (p s : List UInt8) : trL p (trR p s) = [] ↔ s.all p.contains = true := by
 constructor
 ·intro h
  obtain ⟨t, h1, h2⟩ := vH p s
  rw [h1, List.all_append, (aD2 p _).1 h, h2]; rfl
 ·intro h; rw [aQU p s h]; rfl
theorem aPR (p s : List UInt8) : (trR p s).length <= s.length := by
 obtain ⟨t, h1, _⟩ := vH p s
 have := congrArg List.length h1
 rw [List.length_append] at this; omega
theorem aZ9 (p : List UInt8) {M0 : c7} {a i : Nat} {w : Wm} (hM : M0 a i = some (.row w 0 (x3 p))) (M : c7) (k : Nat) (hs : Pm.Sub M0 M) (hf : fresh M k) (Q : f7 -> d9 -> Prop) :
  ∀ (n : Nat) (s : List UInt8), s.length = n -> n <= 1000000 -> (∀ tm, c8 tm 0 = str (trR p s) -> Q (.exit 0) ⟨tm, 22, k, [], M⟩) -> w7 env Tryz.prog none aFC ⟨[(0, str s), (1, .ptr a i 0)], 22, k, [], M⟩ Q := by
 intro n
 induction n with
 | zero =>
  intro s hs0 _ q
  have : s = [] := List.length_eq_zero_iff.1 hs0
  subst this
  refine w7.round (RX.of a6 ?_)
  have h0 : decide (((0 : Nat) : Int) > 0) = false := rfl
  simp only [G0, Z1, Z2, Z3, Z4, Z5, aDX, h0]
  exact q _ rfl
 | succ n ih =>
  intro s hs0 hn q
  have hl : n < s.length := by omega
  obtain ⟨b, hb, _⟩ := K2 hl
  have h0 : decide ((s.length : Int) > 0) = true := by simp; omega
  have hw : IntKind.i64.wrap ((s.length : Int) - 1) = (n : Int) := by rw [f9 (by omega) (by omega)]; omega
  have hsplit : s = s.take n ++ [b] := by
   have := List.take_append_drop n s
   have hd : s.drop n = [b] := by
    rw [List.drop_eq_getElem_cons hl, List.drop_of_length_le (by omega)]
    rw [List.getElem?_eq_getElem hl] at hb
    rw [Option.some.inj hb]
   rw [hd] at this; exact this.symm
  have hto : U1 (str s) none (some (iv n)) = some (str (s.take n)) := aKX (by omega)
  have hix : gE (str s) (iv n) = some (Q0 b) := oO hb
  have htr : trR p s = if p.contains b = true then trR p (s.take n) else s := by
   conv => lhs; rw [hsplit]
   rw [aJF, <- hsplit]
  rw [htr] at q
  refine w7.round (RX.of a6 ?_)
  simp only [G0, Z1, Z2, Z3, Z4, Z5, jX, h0, hw, hix]
  refine sL (mS p b hM) (hs.sseg hf) (by decide) ?_
  cases hc : p.contains b with
  | false =>
   rw [hc] at q
   simp only [G0, Z1, Z2, Z3, Z4, Z5, Bool.not_true, Bool.not_false]
   exact q _ rfl
  | true =>
   rw [hc] at q
   simp only [G0, Z1, Z2, Z3, Z4, Z5, jX, hw, hto, Bool.not_true, Bool.not_false]
   refine w7.weak (L4 ?_) (ih (s.take n) (by simp; omega) (by omega) q)
   repeat (first | exact KP.nil | apply KP.cons rfl)
theorem bCJ (p : List UInt8) {M0 : c7} {a i : Nat} {w : Wm} (hM : M0 a i = some (.row w 0 (x3 p))) (M : c7) (k : Nat) (hs : Pm.Sub M0 M) (hf : fresh M k) (Q : f7 -> d9 -> Prop) :
  ∀ (n : Nat) (s : List UInt8), s.length = n -> n <= 1000000 -> (∀ tm, c8 tm 0 = str (trL p s) -> Q (.exit 0) ⟨tm, 16, k, [], M⟩) -> w7 env Tryz.prog none aFR ⟨[(0, str s), (1, .ptr a i 0)], 16, k, [], M⟩ Q := by
 intro n
 induction n with
 | zero =>
  intro s hs0 _ q
  have : s = [] := List.length_eq_zero_iff.1 hs0
  subst this
  refine w7.round (RX.of a6 ?_)
  have h0 : decide (((0 : Nat) : Int) > 0) = false := rfl
  simp only [G0, Z1, Z2, Z3, Z4, Z5, aDX, h0]
  exact q _ rfl
 | succ n ih =>
  intro s hs0 hn q
  cases s with
  | nil => cases hs0
  | cons b s =>
  have h0 : decide (((b :: s).length : Int) > 0) = true := by simp
  have hfr : U1 (str (b :: s)) (some (iv 1)) none = some (str s) := aBK (i := 1) (by simp)
  have hix : gE (str (b :: s)) (iv 0) = some (Q0 b) := oO (i := 0) rfl
  have hln : nN (str (b :: s)) = some (iv ((b :: s).length : Nat)) := rfl
  have htr : trL p (b :: s) = if p.contains b = true then trL p s else b :: s := by
   unfold trL; rw [List.dropWhile_cons]
  rw [htr] at q
  generalize (b :: s).length = n' at h0 hln
  refine w7.round (RX.of a6 ?_)
  simp only [G0, Z1, Z2, Z3, Z4, Z5, hln, h0, hix]
  refine sL (mS p b hM) (hs.sseg hf) (by decide) ?_
  cases hc : p.contains b with
  | false =>
   rw [hc] at q
   simp only [G0, Z1, Z2, Z3, Z4, Z5, Bool.not_true, Bool.not_false]
   exact q _ rfl
  | true =>
   rw [hc] at q
   simp only [G0, Z1, Z2, Z3, Z4, Z5, hfr, Bool.not_true, Bool.not_false]
   refine w7.weak (L4 ?_) (ih s (by simpa using hs0) (by omega) q)
   repeat (first | exact KP.nil | apply KP.cons rfl)
theorem aRL (p s : List UInt8) (hl : s.length <= 1000000) {M0 : c7} {a i : Nat} {w : Wm} (hM : M0 a i = some (.row w 0 (x3 p))) : T1 env Tryz.prog M0 153 [str s, .ptr a i 0] (str (trR p s)) := by
 refine T1.enter a6 bAN (by simp) aQH fun M k hs hk hf => ?_
 simp only [G0, Z1, Z2, Z3, Z4, Z5, f8]
 refine RX.loop (w7.weak (L4 ?_) (aZ9 p hM M k hs hf _ _ s rfl hl fun tm ht => ?_))
 ·repeat (first | exact KP.nil | apply KP.cons rfl)
 ·simp only [G0, Z1, Z2, Z3, Z4, Z5, ht]
  exact m6 hf rfl ⟨rfl, rfl⟩
theorem aOX (p s : List UInt8) (hl : s.length <= 1000000) {M0 : c7} {a i : Nat} {w : Wm} (hM : M0 a i = some (.row w 0 (x3 p))) : T1 env Tryz.prog M0 152 [str s, .ptr a i 0] (str (trL p s)) := by
 refine T1.enter a6 bB2 (by simp) aPT fun M k hs hk hf => ?_
 simp only [G0, Z1, Z2, Z3, Z4, Z5, f8]
 refine RX.loop (w7.weak (L4 ?_) (bCJ p hM M k hs hf _ _ s rfl hl fun tm ht => ?_))
 ·repeat (first | exact KP.nil | apply KP.cons rfl)
 ·simp only [G0, Z1, Z2, Z3, Z4, Z5, ht]
  exact m6 hf rfl ⟨rfl, rfl⟩
theorem aPG (cs : List UInt8) (hc : ∀ b ∈ cs, b.toNat < 128) (hl : cs.length <= 1000000) (M : c7) (k : Nat) (Q : f7 -> d9 -> Prop) (q : ∀ tm, c8 tm 2 = .ptr k 0 0 -> Q (.exit 0) ⟨tm, 21, k, [.row .rw 0 (x3 cs)], M⟩) :
  ∀ d i, cs.length - i = d -> i <= cs.length →
  w7 env Tryz.prog none aFJ ⟨[(4, iv i), (2, .ptr k 0 0), (0, str cs)], 21, k, [.row .rw 0 (x3 (cs.take i))], M⟩ Q := by
 intro d
 induction d with
 | zero =>
  intro i hd hi
  have : i = cs.length := by omega
  subst this
  have h0 : decide ((cs.length : Int) < (cs.length : Int)) = false := by simp
  refine w7.round (RX.of a6 ?_)
  rw [List.take_length]
  simp only [G0, Z1, Z2, Z3, Z4, Z5, jX, h0]
  exact q _ rfl
 | succ d ih =>
  intro i hd hi
  have hi' : i < cs.length := by omega
  obtain ⟨b, hb, _⟩ := K2 hi'
  have h0 : decide ((i : Int) < (cs.length : Int)) = true := by simp; omega
  have hb2 := hc b (List.mem_of_getElem? hb)
  have h1 : decide ((b.toNat : Int) >= 128) = false := by simp; omega
  have hix : gE (str cs) (iv i) = some (Q0 b) := oO hb
  have hw : IntKind.i64.wrap ((i : Int) + 1) = ((i + 1 : Nat) : Int) := by rw [f9 (by omega) (by omega)]; rfl
  have htk : cs.take i ++ [b] = cs.take (i + 1) := by
   rw [List.take_add_one, hb]; rfl
  refine w7.round (RX.of a6 ?_)
  have hge : ∀ {t : Nat} {c d : Bool}, C0 env .geq t c d (Q0 b) (.v (.int .u8 128)) = some (bv false) := fun {t c d} => by
   unfold Q0; rw [rM, h1]
  have hput := aQ4 (cs.take i) b
  rw [htk] at hput
  simp only [G0, Z1, Z2, Z3, Z4, Z5, jX, h0, hix, hge, zV, hput, hw]
  refine w7.weak (L4 ?_) (ih (i + 1) (by omega) (by omega))
  repeat (first | exact KP.nil | apply KP.cons rfl)
theorem bBR : tyP env 161 = some (true, 256) := by kernel_rfl
theorem tF : ∀ b ∈ o4, b.toNat < 128 := by decide
theorem aU5 : A0 env Tryz.prog 151 [str o4] (.tup [.agg (x3 o4), bv true]) := fun M => by
 refine PT.enterR a6 aZ5 (by simp) aR1 fun k hk hf => RX.of a6 ?_
 have h0 := aDS
 simp only [List.replicate] at h0
 simp only [G0, Z1, Z2, Z3, Z4, Z5, f8]
 rw [<- h0]
 refine RX.loop (w7.weak (L4 ?_) (aPG o4 tF (by decide) M k _ (fun tm ht => ?_) _ 0 rfl (Nat.zero_le _)))
 ·repeat (first | exact KP.nil | apply KP.cons rfl)
 ·have htk : (x3 o4).take 256 = x3 o4 := List.take_of_length_le (by rw [J8]; exact Nat.le_refl _)
  have hst : w5 256 0 (.agg (x3 o4)) (some (.row .rw 0 (x3 o4))) = some (.row .rw 0 (x3 o4)) := by
   rw [p6 (x := .agg (x3 o4)) (n := 256) (o := 0) (cs := x3 o4) ⟨J8 _, by rw [R7, J8]; decide, aF6 _⟩, R7, Y7 rfl]
  simp only [G0, Z1, Z2, Z3, Z4, Z5, ht, J8, htk, hst]
  exact aAV hf bBR ((congrArg _ (show c8 _ 2 = .ptr k 0 0 from ht)).trans (Q9.trans (by show A3 true 256 (x3 o4) 0 = _; rw [lX (J8 _).symm]))) rfl ⟨rfl, rfl⟩
def aEJ (s : List UInt8) : List UInt8 := if s = [] then [] else trL o4 (trR o4 s)
theorem aIM (s : List UInt8) : (aEJ s == []) = s.all isL := by
 unfold aEJ
 split
 ·rename_i h; subst h; rfl
 ·have := aNT o4 s
  have e : s.all isL = s.all o4.contains := rfl
  rw [e]
  cases h : s.all o4.contains with
  | true => simpa using this.2 h
  | false =>
   have h2 : ¬ (trL o4 (trR o4 s) = []) := fun e => by rw [this.1 e] at h; cases h
   simpa using h2
theorem aV1 (s : List UInt8) (hl : s.length <= 1000000) : A0 env Tryz.prog 133 [str s, str o4] (str (aEJ s)) := by
 by_cases hs : s = []
 ·subst hs
  intro M
  refine PT.enterR a6 aTR (by simp) aD5 fun k hk hf => RX.of a6 ?_
  have e1 : (([] : List UInt8) == []) = true := rfl
  simp only [G0, Z1, Z2, Z3, Z4, Z5, f8, S0, e1, Bool.not_true, Bool.true_or]
  exact m6 hf rfl ⟨rfl, rfl⟩
 ·have e1 : (s == []) = false := by simpa using hs
  have e2 : (o4 == []) = false := rfl
  have e3 : nN (str o4) = some (iv 39) := rfl
  have e4 : ((39 : Int) == 1) = false := rfl
  have htk : (x3 o4).take 256 = x3 o4 := List.take_of_length_le (by rw [J8]; exact Nat.le_refl _)
  have h0 := aDS
  simp only [List.replicate] at h0
  have hst : w5 256 0 (.agg (x3 o4)) (some (.row .rw 0 (x3 []))) = some (.row .rw 0 (x3 o4)) := by
   rw [p6 (x := .agg (x3 o4)) (n := 256) (o := 0) (cs := x3 []) ⟨J8 _, by rw [R7, J8, J8]; decide, aF6 _⟩, R7, Y7 (by rw [J8, J8])]
  rw [h0] at hst
  intro M
  refine PT.enterR a6 aTR (by simp) aD5 fun k hk hf => RX.of a6 ?_
  simp only [G0, Z1, Z2, Z3, Z4, Z5, f8, S0, e1, e2, e3, e4, Bool.not_true, Bool.not_false, Bool.or_false]
  refine H7 aU5 (by decide) ?_
  simp only [G0, Z1, Z2, Z3, Z4, Z5, hst]
  have hM : (seg M k [.row .rw 0 (x3 o4)]) k 0 = some (.row .rw 0 (x3 o4)) := by rw [e8]; rfl
  refine sL (aRL o4 s hl hM) (Pm.Sub.refl _) (by decide) ?_
  simp only [G0, Z1, Z2, Z3, Z4, Z5]
  refine sL (aOX o4 _ (Nat.le_trans (aPR _ _) hl) hM) (Pm.Sub.refl _) (by decide) ?_
  simp only [G0, Z1, Z2, Z3, Z4, Z5]
  refine m6 hf rfl ⟨?_, rfl⟩
  show str _ = str _
  unfold aEJ
  rw [if_neg hs]
theorem aVA {E : i9} {t : Nat} {c d : Bool} {a b : List UInt8} : C0 E .neq t c d (str a) (str b) = some (bv (a != b)) := by
 rw [jQ]; rfl
def aB6 (s : List UInt8) : Bool := (((s != [] && decide ((s.length : Int) <= 12)) && s != [46]) && s != [46, 46]) && s.all isL
theorem aUG (s : List UInt8) (hl : s.length <= 1000000) : A0 env Tryz.prog 114 [str s] (bv (aB6 s)) := fun M => by
 refine PT.enterR a6 bA2 (by simp) aRG fun k hk hf => RX.of a6 ?_
 simp only [G0, Z1, Z2, Z3, Z4, Z5, f8, aVA, S0, jX]
 refine aIZ (fun h => by simp only [h, m9]; exact aV1 s hl) (by decide) ?_
 simp only [G0, Z1, Z2, Z3, Z4, Z5, S0, aIM]
 refine aIZ (fun h => by
  simp only [h, m9]
  rw [Bool.and_eq_true] at h
  exact bAH s (List.all_eq_true.1 h.2) hl) (by decide) ?_
 simp only [G0, Z1, Z2, Z3, Z4, Z5]
 refine m6 hf rfl ⟨?_, rfl⟩
 show bv _ = bv _
 unfold aB6
 rw [Bool.not_false, Bool.and_true]
end Go.Proofs.YtlbjplpehkgcdaaGreatDoor
noncomputable section
namespace Go.Proofs.YtlbjplpehkgcdaaGreatDoor
open Go Go.Am Go.Pm
def k8 : List UInt8 -> List (List UInt8)
 | [] => [[]]
 | c :: r => if c = 47 then [] :: k8 r else match k8 r with
  | p :: ps => (c :: p) :: ps
  | [] => [[c]]
theorem iS (c : UInt8) : ∀ (l : List UInt8) (k : Nat), I3 c (k + 1) l = (I3 c k l).map (· + 1)
 | [], k => rfl
 | b :: r, k => by
  unfold I3
  split
  ·rfl
  ·exact iS c r (k + 1)
theorem pB : ∀ {s : List UInt8}, I3 47 0 s = none -> k8 s = [s]
 | [], _ => rfl
 | c :: r, h => by
  unfold I3 at h
  split at h
  ·cases h
  ·rename_i hc
   rw [iS, Option.map_eq_none_iff] at h
   unfold k8
   rw [if_neg hc, pB h]
theorem qP : ∀ {s : List UInt8} {j : Nat}, I3 47 0 s = some j -> k8 s = s.take j :: k8 (s.drop (j + 1))
 | [], _, h => by cases h
 | c :: r, j, h => by
  unfold I3 at h
  split at h
  ·rename_i hc
   cases h
   conv => lhs; unfold k8
   rw [if_pos hc]; rfl
  ·rename_i hc
   rw [iS] at h
   cases hj : I3 47 0 r with
   | none => rw [hj] at h; cases h
   | some j' =>
    rw [hj] at h
    cases h
    conv => lhs; unfold k8
    rw [if_neg hc, qP hj]; rfl
def aU {σ : Type} (nxt : σ -> List UInt8 -> Option σ) : σ -> List (List UInt8) -> Option σ
 | st, [] => some st
 | st, p :: ps => match nxt st p with
  | some st' => aU nxt st' ps
  | none => none
def bx (s : List UInt8) : List Pm.Obj := [.row .rw 0 [str s], .row .rw 0 [str [47]], .row .rw 0 [iv 0]]
def mm (M0 : c7) (kb k : Nat) (s : List UInt8) (os : List Pm.Obj) : c7 := seg (seg M0 kb (bx s)) k os
theorem aBG {M0 : c7} {kb k k2 : Nat} {s : List UInt8} {os : List Pm.Obj} (hne : kb ≠ k) (ho : 0 < os.length) (h : fresh (mm M0 kb k s os) k2) : k2 ≠ k /\ k2 ≠ kb /\ fresh M0 k2 := by
 have h1 : k2 ≠ k := fun e => by
  subst e
  have := h 0
  unfold mm at this
  rw [e8, List.getElem?_eq_getElem ho] at this; cases this
 have h2 : k2 ≠ kb := fun e => by
  subst e
  have := h 0
  unfold mm at this
  rw [g6 _ _ _ hne, e8] at this; cases this
 refine ⟨h1, h2, fun j => ?_⟩
 have := h j
 unfold mm at this
 rwa [g6 _ _ _ h1, g6 _ _ _ h2] at this
theorem S5 {M0 : c7} {kb k k2 : Nat} (s : List UInt8) (os : List Pm.Obj) (h : k2 ≠ k /\ k2 ≠ kb /\ fresh M0 k2) : fresh (mm M0 kb k s os) k2 := fun j => by
 unfold mm
 rw [g6 _ _ _ h.1, g6 _ _ _ h.2.1]; exact h.2.2 j
theorem aTT {M0 : c7} {kb k k2 j n o : Nat} {s : List UInt8} {os os' : List Pm.Obj} {ag : Bool} (hne : kb ≠ k) (h2 : k2 ≠ kb) : y6 k2 os' (mm M0 kb k s os) ag n (.ptr kb j o) = p9 ag n o (bx s)[j]? := by
 rw [o9 (Ne.symm h2)]; unfold mm; rw [g6 _ _ _ hne, e8]
theorem bB8 {M0 : c7} {kb k k2 nt : Nat} {s s' : List UInt8} {os os' : List Pm.Obj} {tm : List (Nat × PV)} (hne : kb ≠ k) (h2 : k2 ≠ kb) :
  L0 tm nt k2 os' (mm M0 kb k s os) 1 (str s') (.ptr kb 0 0) = some (.junk, ⟨tm, nt, k2, os', mm M0 kb k s' os⟩) := by
 have e1 : mm M0 kb k s os kb 0 = some (.row .rw 0 [str s]) := by unfold mm; rw [g6 _ _ _ hne, e8]; rfl
 rw [F1 (Ne.symm h2), e1, p6 (n := 1) ⟨rfl, Nat.le_refl 1, rfl⟩, aH]
 congr 4
 unfold mm
 rw [cU hne, wH (show 0 < 3 by decide)]; rfl
theorem aVC {M0 : c7} {kb k k2 j n o : Nat} {s : List UInt8} {os os' : List Pm.Obj} {ag : Bool} (h2 : k2 ≠ k) : y6 k2 os' (mm M0 kb k s os) ag n (.ptr k j o) = p9 ag n o os[j]? := by
 rw [o9 (Ne.symm h2)]; unfold mm; rw [e8]
def stK (tm : List (Nat × PV)) (nt k2 : Nat) (os' : List Pm.Obj) (M0 : c7) (kb k : Nat) (s : List UInt8) (os : List Pm.Obj) (j : Nat) : Option Pm.Obj -> Option (PV × d9)
 | some ob => some (.junk, ⟨tm, nt, k2, os', mm M0 kb k s (os.set j ob)⟩)
 | none => none
theorem aX {tm : List (Nat × PV)} {nt k2 : Nat} {os' : List Pm.Obj} {M0 : c7} {kb k : Nat} {s : List UInt8} {os : List Pm.Obj} {j : Nat} {ob : Pm.Obj} : stK tm nt k2 os' M0 kb k s os j (some ob) = some (.junk, ⟨tm, nt, k2, os', mm M0 kb k s (os.set j ob)⟩) := rfl
theorem aV3 {M0 : c7} {kb k k2 nt n o j : Nat} {s : List UInt8} {os os' : List Pm.Obj} {tm : List (Nat × PV)} {v : PV} (h2 : k2 ≠ k) :
  L0 tm nt k2 os' (mm M0 kb k s os) n v (.ptr k j o) = stK tm nt k2 os' M0 kb k s os j (w5 n o v os[j]?) := by
 have e1 : mm M0 kb k s os k j = os[j]? := by unfold mm; rw [e8]
 rw [F1 (Ne.symm h2), e1]
 cases e : w5 n o v os[j]? with
 | none => rfl
 | some ob =>
  have hj : j < os.length := by
   rcases Nat.lt_or_ge j os.length with h | h
   ·exact h
   ·rw [List.getElem?_eq_none h] at e; cases e
  rw [aH, aX]
  unfold mm
  rw [wH hj]
theorem yK {M0 : c7} {kb k i : Nat} {s : List UInt8} {os : List Pm.Obj} {o : Pm.Obj} (h : i < os.length) : l7 (mm M0 kb k s os) k i o = mm M0 kb k s (os.set i o) := by
 unfold mm; rw [wH h]
theorem dO {M : c7} {a b : Nat} {x y : List Pm.Obj} (h : a ≠ b) : seg (seg M a x) b y = seg (seg M b y) a x := by
 funext c j
 by_cases h1 : c = b
 ·subst h1; rw [e8, g6 _ _ _ (Ne.symm h), e8]
 ·rw [g6 _ _ _ h1]
  by_cases h2 : c = a
  ·subst h2; rw [e8, e8]
  ·rw [g6 _ _ _ h2, g6 _ _ _ h2, g6 _ _ _ h1]
theorem aOY {σ : Type} {M0 : c7} {kb k i k2 : Nat} (hne : kb ≠ k) (os : σ -> List Pm.Obj) (nxt : σ -> List UInt8 -> Option σ) (I : σ -> Prop) (hI : ∀ st p st', I st -> nxt st p = some st' -> I st') (Z : List Pm.Obj -> Prop) (h2 : k2 ≠ k /\ k2 ≠ kb /\ fresh M0 k2)
  (hR : ∀ st s part, I st -> part.length <= 1000000 -> PRd env Tryz.prog k i [str part] (mm M0 kb k s (os st)) (fun x M1 => (∃ st', nxt st part = some st' /\ x = bv true /\ M1 = mm M0 kb k s (os st')) \/ (nxt st part = none /\ x = bv false /\ ∃ os', Z os' /\ M1 = mm M0 kb k s os')))
  (Q : f7 -> d9 -> Prop) : ∀ (n : Nat) (s : List UInt8) (st : σ), I st -> s.length = n -> n <= 1000000 →
  (∀ st' s' tm, I st' -> s'.length <= 1000000 -> aU nxt st (k8 s) = aU nxt st' [s'] -> c8 tm 0 = .yld k i -> c8 tm 2 = .ptr kb 0 0 -> Q (.exit 2) ⟨tm, 52, k2, [], mm M0 kb k s' (os st')⟩) →
  (aU nxt st (k8 s) = none -> ∀ tm s' os', Z os' -> Q .ret ⟨tm, 52, k2, [], mm M0 kb k s' os'⟩) →
  w7 env Tryz.prog none aF7 ⟨[(0, .yld k i), (1, .ptr kb 1 0), (2, .ptr kb 0 0), (3, .ptr kb 2 0)], 52, k2, [], mm M0 kb k s (os st)⟩ Q := by
 intro n
 induction n using Nat.strongRecOn with
 | ind n ih =>
  intro s st sZ hs hn q1 q2
  refine w7.round (RX.of a6 ?_)
  have hld : ∀ {ag : Bool} {n o j : Nat} {s : List UInt8} {os os' : List Pm.Obj}, y6 k2 os' (mm M0 kb k s os) ag n (.ptr kb j o) = p9 ag n o (bx s)[j]? := aTT hne h2.2.1
  have hst : ∀ {nt : Nat} {s s' : List UInt8} {os os' : List Pm.Obj} {tm : List (Nat × PV)}, L0 tm nt k2 os' (mm M0 kb k s os) 1 (str s') (.ptr kb 0 0) = some (.junk, ⟨tm, nt, k2, os', mm M0 kb k s' os⟩) := bB8 hne h2.2.1
  simp only [G0, Z1, Z2, Z3, Z4, Z5, hld, bx]
  refine H7 (aWA s 47) (by decide) ?_
  cases hj : I3 47 0 s with
  | none =>
   have hlt : decide ((-1 : Int) < 0) = true := rfl
   simp only [G0, Z1, Z2, Z3, Z4, Z5, yW, hlt]
   exact q1 st s _ sZ (by omega) (by rw [pB hj]) rfl rfl
  | some j =>
   obtain ⟨_, hjl, _, _⟩ := yO hj
   have hp := qP hj
   have hlt : decide ((j : Int) < 0) = false := by simp
   have hw0 : IntKind.i64.wrap ((j : Int) + 0) = (j : Int) := by rw [f9 (by omega) (by omega)]; omega
   have hw1 : IntKind.i64.wrap ((j : Int) + ((1 : Nat) : Int)) = ((j + 1 : Nat) : Int) := by rw [f9 (by omega) (by omega)]; rfl
   have hto : U1 (str s) none (some (iv j)) = some (str (s.take j)) := aKX (by omega)
   have hfr : U1 (str s) (some (iv ((j + 1 : Nat) : Int))) none = some (str (s.drop (j + 1))) := aBK (by omega)
   simp only [G0, Z1, Z2, Z3, Z4, Z5, yW, hlt, hld, bx, hw0, hto]
   refine cY (S5 _ _ h2) (hR st s (s.take j) sZ (by simp; omega)) (by decide) ?_
   rintro x M1 (⟨st', h1, rfl, rfl⟩ | ⟨h1, rfl, os', hz, rfl⟩)
   ·simp only [G0, Z1, Z2, Z3, Z4, Z5, Bool.not_true, Bool.not_false, hld, bx, hw1, hfr, hst]
    have hf : aU nxt st (k8 s) = aU nxt st' (k8 (s.drop (j + 1))) := by
     rw [hp]; simp only [aU, h1]
    refine w7.weak (L4 ?_) (ih (s.drop (j + 1)).length (by rw [List.length_drop]; omega) (s.drop (j + 1)) st' (hI _ _ _ sZ h1) rfl (by rw [List.length_drop]; omega) (fun st'' s' tm hi hl e => q1 st'' s' tm hi hl (by rw [hf, e])) (fun e => q2 (by rw [hf, e])))
    repeat (first | exact KP.nil | apply KP.cons rfl)
   ·simp only [G0, Z1, Z2, Z3, Z4, Z5, Bool.not_true, Bool.not_false]
    exact q2 (by rw [hp]; simp only [aU, h1]) _ _ _ hz
theorem aN8 {σ : Type} {M0 : c7} {kb k i : Nat} (hne : kb ≠ k) (os : σ -> List Pm.Obj) (hos : ∀ st, 0 < (os st).length) (nxt : σ -> List UInt8 -> Option σ) (I : σ -> Prop) (hI : ∀ st p st', I st -> nxt st p = some st' -> I st') (Z : List Pm.Obj -> Prop)
  (hR : ∀ st s part, I st -> part.length <= 1000000 -> PRd env Tryz.prog k i [str part] (mm M0 kb k s (os st)) (fun x M1 => (∃ st', nxt st part = some st' /\ x = bv true /\ M1 = mm M0 kb k s (os st')) \/ (nxt st part = none /\ x = bv false /\ ∃ os', Z os' /\ M1 = mm M0 kb k s os')))
  (s : List UInt8) (st : σ) (sZ : I st) (hl : s.length <= 1000000) :
  PT env Tryz.prog 146 [.yld k i, .ptr kb 1 0, .ptr kb 0 0, .ptr kb 2 0] (mm M0 kb k s (os st)) (fun _ M1 => (∃ st' s', aU nxt st (k8 s) = some st' /\ M1 = mm M0 kb k s' (os st')) \/ (aU nxt st (k8 s) = none /\ ∃ s' os', Z os' /\ M1 = mm M0 kb k s' os')) := by
 refine PT.enterR a6 aTW (by simp) aP4 fun k2 hk hf => RX.of a6 ?_
 have h2 := aBG hne (hos st) hf
 have hld : ∀ {ag : Bool} {n o j : Nat} {s : List UInt8} {os os' : List Pm.Obj}, y6 k2 os' (mm M0 kb k s os) ag n (.ptr kb j o) = p9 ag n o (bx s)[j]? := aTT hne h2.2.1
 have h10 : (((1 : Nat) : Int) == 0) = false := rfl
 simp only [G0, Z1, Z2, Z3, Z4, Z5, f8, hld, bx, h10]
 refine RX.loop (w7.weak (L4 ?_) (aOY hne os nxt I hI Z h2 hR _ _ s st sZ rfl hl (fun st' s' tm hi' hs' hfo ht0 ht2 => ?_) (fun hfo tm s' os' hz => ?_)))
 ·repeat (first | exact KP.nil | apply KP.cons rfl)
 ·simp only [G0, Z1, Z2, Z3, Z4, Z5, ht0, ht2, hld, bx]
  refine cY (S5 _ _ h2) (hR st' s' s' hi' hs') (by decide) ?_
  rintro x M1 (⟨st'', h1, rfl, rfl⟩ | ⟨h1, rfl, os', hz, rfl⟩)
  ·simp only [G0, Z1, Z2, Z3, Z4, Z5]
   refine aSO (S5 _ _ h2) (.inl ⟨st'', s', ?_, rfl⟩)
   rw [hfo]; simp only [aU, h1]
  ·simp only [G0, Z1, Z2, Z3, Z4, Z5]
   refine aSO (S5 _ _ h2) (.inr ⟨?_, s', os', hz, rfl⟩)
   rw [hfo]; simp only [aU, h1]
 ·simp only [G0, Z1, Z2, Z3, Z4, Z5]
  have h2' : fresh (mm M0 kb k s' os') k2 := S5 _ _ h2
  exact bDF h2' (.inr ⟨hfo, s', os', hz, rfl⟩)
theorem aPL (s : List UInt8) (M : c7) : PT env Tryz.prog 132 [str s, str [47], iv 0] M (fun x M1 => ∃ kb, 0 < kb /\ fresh M kb /\ x = .fn 146 [] [.ptr kb 1 0, .ptr kb 0 0, .ptr kb 2 0] /\ M1 = seg M kb (bx s)) := by
 refine PT.enterR a6 aZB (by simp) aO4 fun k hk hf => RX.of a6 ?_
 simp only [G0, Z1, Z2, Z3, Z4, Z5, f8]
 exact aB1 rfl ⟨k, hk, hf, rfl, rfl⟩
theorem aQP (s : List UInt8) (M : c7) : PT env Tryz.prog 113 [str s, str [47]] M (fun x M1 => ∃ kb, 0 < kb /\ fresh M kb /\ x = .fn 146 [] [.ptr kb 1 0, .ptr kb 0 0, .ptr kb 2 0] /\ M1 = seg M kb (bx s)) := by
 refine PT.enterG a6 bBH (by simp) aO9 fun k hk hf => ?_
 simp only [G0, Z1, Z2, Z3, Z4, Z5, f8]
 refine cm (first := []) (cap := []) ((aPL s _).mono ?_)
 rintro x M1 ⟨kb, h1, h2, rfl, rfl⟩
 have hne : kb ≠ k := fun e => by
  subst e
  have := h2 0
  rw [e8] at this; cases this
 have h2' : fresh M kb := fun j => by
  have := h2 j
  rwa [g6 _ _ _ hne] at this
 refine ⟨[ghost], seg M kb (bx s), rfl, O6.of_eq (dO (Ne.symm hne)), by decide, ?_⟩
 simp only [G0, Z1, Z2, Z3, Z4, Z5]
 exact m6 (N9 hf (Ne.symm hne)) rfl ⟨kb, h1, h2', rfl, rfl⟩
def aAQ (n : Nat) (p : List UInt8) : Option Nat := if decide (((n + 1 : Nat) : Int) > 6) || !aB6 p then none else some (n + 1)
def dW (s : List UInt8) : Bool := (aU aAQ 0 (k8 s)).isSome
theorem aRB : o6 env.ng (Y2 [1, 0, 1, 1, 0, 1, 0, 0] P6) = true := by kernel_rfl
theorem aRO : o6 env.ng (Y2 [1, 0, 1, 1, 0, 1, 0, 1] P6) = true := by kernel_rfl
def osP (tm : List (Nat × PV)) (n : Nat) : List Pm.Obj := [.row .rw 0 [iv n], .row .rw 0 [iv 0], .loop true .ready none tm 18 [8] (Y2 [1, 0, 1, 1, 0, 1, 0, 0] P6) (Y2 [1, 0, 1, 1, 0, 1, 0, 1] P6)]
def zP (tm : List (Nat × PV)) (os : List Pm.Obj) : Prop := ∃ n : Int, os = [.row .rw 0 [iv n], .row .rw 0 [iv 2], .loop true .done (some (.exit 0)) tm 18 [8] (Y2 [1, 0, 1, 1, 0, 1, 0, 0] P6) (Y2 [1, 0, 1, 1, 0, 1, 0, 1] P6)]
theorem aQC {M0 : c7} {kb k : Nat} (hne : kb ≠ k) (tm : List (Nat × PV)) (h3 : c8 tm 3 = .ptr k 0 0) (h4 : c8 tm 4 = .ptr k 1 0) (n : Nat) (hn : n <= 1000000) (s part : List UInt8) (hp : part.length <= 1000000) :
  PRd env Tryz.prog k 2 [str part] (mm M0 kb k s (osP tm n)) (fun x M1 => (∃ n', aAQ n part = some n' /\ x = bv true /\ M1 = mm M0 kb k s (osP tm n')) \/ (aAQ n part = none /\ x = bv false /\ ∃ os', zP tm os' /\ M1 = mm M0 kb k s os')) := by
 refine PRd.runR a6 aRB aRO aHG aH5 (tm1 := (8, str part) :: tm) (pend := none) (tm := tm) (nt := 18) (ps := [8]) (by unfold mm; rw [e8]; rfl) (by simp [fV]) fun k' hk' hkk hf => RX.of a6 ?_
 have hk2 : k' ≠ k := hkk
 simp only [G0, Z1, Z2, Z3, Z4, Z5]
 refine ⟨_, _, rfl, RX.of a6 ?_⟩
 have hw : IntKind.i64.wrap ((n : Int) + 1) = ((n + 1 : Nat) : Int) := by rw [f9 (by omega) (by omega)]; rfl
 have hld : ∀ {ag : Bool} {n o j : Nat} {s : List UInt8} {os os' : List Pm.Obj}, y6 k' os' (mm M0 kb k s os) ag n (.ptr k j o) = p9 ag n o os[j]? := aVC hk2
 have hstk : ∀ {nt n o j : Nat} {s : List UInt8} {os os' : List Pm.Obj} {tm : List (Nat × PV)} {v : PV}, L0 tm nt k' os' (mm M0 kb k s os) n v (.ptr k j o) = stK tm nt k' os' M0 kb k s os j (w5 n o v os[j]?) := aV3 hk2
 rw [yK (by show 2 < 3; decide)]
 simp only [osP, List.set_cons_succ, List.set_cons_zero]
 have hfr := aBG (os := osP tm n) hne (show 0 < 3 by decide) hf
 simp only [G0, Z1, Z2, Z3, Z4, Z5, h3, h4, hld, hstk, aX, hw]
 refine eY (fun hb => ?_) (fun hb => ?_)
 ·simp only [G0, Z1, Z2, Z3, Z4, Z5, h3, h4, hld, hstk, aX, hw, hb]
  refine tZ (c := .exit 0) rfl (Ne.symm hkk) (by unfold mm; rw [e8]; rfl) (S5 _ _ hfr) (.inr ⟨?_, rfl, _, ⟨((n + 1 : Nat) : Int), rfl⟩, ?_⟩)
  ·unfold aAQ; rw [hb]; rfl
  ·rw [yK (show 2 < 3 by decide)]; rfl
 ·simp only [G0, Z1, Z2, Z3, Z4, Z5, h3, h4, hld, hstk, aX, hw]
  refine cp (first := []) (cap := []) (aUG part hp) (by decide) ?_
  simp only [G0, Z1, Z2, Z3, Z4, Z5]
  refine eY (fun hc => ?_) (fun hc => ?_)
  ·simp only [G0, Z1, Z2, Z3, Z4, Z5, h3, h4, hld, hstk, aX, hw]
   refine tZ (c := .exit 0) rfl (Ne.symm hkk) (by unfold mm; rw [e8]; rfl) (S5 _ _ hfr) (.inr ⟨?_, rfl, _, ⟨((n + 1 : Nat) : Int), rfl⟩, ?_⟩)
   ·unfold aAQ; rw [hb, hc]; rfl
   ·rw [yK (show 2 < 3 by decide)]; rfl
  ·simp only [G0, Z1, Z2, Z3, Z4, Z5, h3, h4, hld, hstk, aX, hw]
   refine aP7 (Ne.symm hkk) (by unfold mm; rw [e8]; rfl) (S5 _ _ hfr) (.inl ⟨n + 1, ?_, rfl, ?_⟩)
   ·unfold aAQ; rw [hb, hc]; rfl
   ·rw [yK (show 2 < 3 by decide)]; rfl
theorem aTF {Q : PV -> c7 -> Prop} {body : Code} {nt nt' r k : Nat} {tm : List (Nat × PV)} {os : List Pm.Obj} {M M1 : c7} {v : PV} (hv : c8 tm r = v) (hM : O6 (seg M k os) M1) (h : Q v M1) : dK env ⟨nt, [.tmp r], body⟩ Q .ret ⟨tm, nt', k, os, M⟩ := by
 subst hv; exact ⟨.inr rfl, [_], M1, rfl, hM, h⟩
theorem aCR (s : List UInt8) (hl : s.length <= 1000000) : A0 env Tryz.prog 98 [str s] (iv (aB (dW s))) := fun M => by
 refine PT.enterR a6 bD9 (by simp) aXD fun k hk hf => RX.of a6 ?_
 simp only [G0, Z1, Z2, Z3, Z4, Z5, f8]
 refine RX.scope1 aG3 (RX.of a6 ?_)
 simp only [G0, Z1, Z2, Z3, Z4, Z5]
 refine cm (first := []) (cap := []) ((aQP s _).mono ?_)
 rintro x M1 ⟨kb, h1, h2, rfl, rfl⟩
 have hne : kb ≠ k := fun e => by
  subst e
  have := h2 0
  rw [e8] at this; cases this
 have h2' : fresh M kb := fun j => by
  have := h2 j
  rwa [g6 _ _ _ hne] at this
 refine ⟨[.row .rw 0 [iv 0], .row .rw 0 [iv 0]], seg M kb (bx s), rfl, O6.of_eq (dO (Ne.symm hne)), by decide, ?_⟩
 simp only [G0, Z1, Z2, Z3, Z4, Z5]
 have hpop : ∀ (s' : List UInt8) (os : List Pm.Obj), O6 (seg (seg M kb (bx s')) k os) M := fun s' os a j o e => by
  refine ⟨o, ?_, .refl o⟩
  rw [g6 _ _ _ (fun hk => by subst hk; rw [hf j] at e; cases e), g6 _ _ _ (fun hk => by subst hk; rw [h2' j] at e; cases e)]
  exact e
 refine RX.range a6 (g := 146) (first := []) (captured := [.ptr kb 1 0, .ptr kb 0 0, .ptr kb 2 0]) rfl aTW (fun _ _ e => by cases e) ?_
 refine (aN8 (M0 := M) (kb := kb) (k := k) (i := 2) hne (osP _) (fun _ => by show 0 < 3; decide) aAQ (fun n => n <= 6) (fun n p n' hn h => ?_) (zP _) (fun n s' part hn hp => aQC hne _ rfl rfl n (by omega) s' part hp) s 0 (by decide) hl).mono ?_
 ·unfold aAQ at h
  split at h
  ·cases h
  ·rename_i hc
   cases h
   simp at hc
   omega
 rintro x M1 (⟨n', s', hfo, rfl⟩ | ⟨hfo, s', os', ⟨z, rfl⟩, rfl⟩)
 ·refine ⟨osP _ n', seg M kb (bx s'), _, _, _, _, _, _, _, rfl, .refl _, rfl, by simp, .normal, rfl, ?_⟩
  have hok : dW s = true := by unfold dW; rw [hfo]; rfl
  simp only [osP, List.set_cons_succ, List.set_cons_zero, List.length_cons, List.length_nil]
  simp only [G0, Z1, Z2, Z3, Z4, Z5]
  refine ⟨(fun l e => by cases e), aTF rfl (hpop _ _) ⟨?_, rfl⟩⟩
  rw [hok]; rfl
 ·refine ⟨_, seg M kb (bx s'), _, _, _, _, _, _, _, rfl, .refl _, rfl, by simp, .exit 0, rfl, ?_⟩
  have hok : dW s = false := by unfold dW; rw [hfo]; rfl
  simp only [List.set_cons_succ, List.set_cons_zero, List.length_cons, List.length_nil]
  simp only [G0, Z1, Z2, Z3, Z4, Z5]
  refine ⟨(fun l e => by cases e), aTF rfl (hpop _ _) ⟨?_, rfl⟩⟩
  rw [hok]; rfl
end Go.Proofs.YtlbjplpehkgcdaaGreatDoor
end
namespace Go.Proofs.YtlbjplpehkgcdaaGreatDoor
open Go Go.Am Go.Pm
theorem lY {xs : List d6} {i : Nat} {x : d6} (h : xs[i]? = some x) : A3 true 3 (xs.flatMap c9) (i * 3) = some (.agg [iv x.node, iv x.frm, iv x.to]) := fW (f := c9) (fun _ => rfl) h
theorem aW9 (l : List d6) (hl : l.length <= 4000) (M0 M : c7) (k : Nat) (Q : f7 -> d9 -> Prop) (g : Nat) (first cap : List PV) (F : Int -> d6 -> Int) (hM : Sub M0 (seg M k []))
  (hF : ∀ acc x, T1 env Tryz.prog M0 g (first ++ ([iv acc, .agg [iv x.node, iv x.frm, iv x.to]] ++ cap)) (iv (F acc x)))
  (q1 : ∀ tm, c8 tm 5 = iv (l.foldl F 0) -> Q (.exit 0) ⟨tm, 24, k, [], M⟩) :
  ∀ d i acc, l.length - i = d -> i <= l.length -> l.foldl F 0 = (l.drop i).foldl F acc →
  w7 env Tryz.prog none aGH ⟨[(5, iv acc), (14, iv i), (13, iv l.length), (12, d8 l), (1, .fn g first cap)], 24, k, [], M⟩ Q := by
 intro d
 induction d with
 | zero =>
  intro i acc hd hi hp
  have : i = l.length := by omega
  subst this
  refine w7.round (RX.of a6 ?_)
  simp only [G0, Z1, Z2, Z3, Z4, Z5, d8, Int.lt_irrefl, decide_false]
  exact q1 _ (by rw [hp, List.drop_of_length_le (Nat.le_refl _)]; rfl)
 | succ d ih =>
  intro i acc hd hi hp
  have hi' : i < l.length := by omega
  have hii : (i : Int) < l.length := by omega
  obtain ⟨x, hx, hdx⟩ := K2 hi'
  have hlx := lY hx
  have hw : IntKind.i64.wrap ((i : Int) + 1) = ((i + 1 : Nat) : Int) := by rw [f9 (by omega) (by omega)]; rfl
  rw [hdx] at hp
  refine w7.inn fun k' hk1 hk2 hk3 => RX.of a6 ?_
  simp only [G0, Z1, Z2, Z3, Z4, Z5, d8, hii, decide_true, hi', hlx]
  refine cs (hF acc x) (hM.sseg hk3) (by decide) ?_
  simp only [G0, Z1, Z2, Z3, Z4, Z5, hw]
  refine w7.weak (L4 ?_) (ih (i + 1) (F acc x) (by omega) (by omega) ?_)
  ·repeat (first | exact KP.nil | apply KP.cons rfl)
  ·rw [hp]; rfl
theorem D7 : ((aB false != 0) = true /\ (aB true != 0) = false) /\ ((aB false == 0) = false /\ (aB true == 0) = true) := ⟨⟨rfl, rfl⟩, ⟨rfl, rfl⟩⟩
theorem aMW (l : List d6) (M0 : c7) (g : Nat) (first cap : List PV) (F : Int -> d6 -> Int) (hF : ∀ acc x, T1 env Tryz.prog M0 g (first ++ ([iv acc, .agg [iv x.node, iv x.frm, iv x.to]] ++ cap)) (iv (F acc x))) :
  T1 env Tryz.prog M0 116 [d8 l, .fn g first cap] (iv (if q9 l then l.foldl F 0 else 0)) := by
 refine T1.enter a6 bBV (by simp) aQG fun M k hs hk hf => ?_
 simp only [G0, Z1, Z2, Z3, Z4, Z5, f8]
 refine H7 (W4 l) (by decide) ?_
 simp only [G0, Z1, Z2, Z3, Z4, Z5]
 cases h : q9 l with
 | false =>
  simp only [G0, Z1, Z2, Z3, Z4, Z5, D7]
  exact m6 hf rfl ⟨rfl, rfl⟩
 | true =>
  simp only [G0, Z1, Z2, Z3, Z4, Z5, D7, d8]
  have hl : l.length <= 4000 := by
   simp only [q9, Bool.and_eq_true, decide_eq_true_eq] at h
   exact h.1
  refine RX.loop (w7.weak (L4 ?_) (aW9 l hl M0 M k _ g first cap F ?_ hF ?_ l.length 0 0 rfl (Nat.zero_le _) rfl))
  ·repeat (first | exact KP.nil | apply KP.cons rfl)
  ·exact hs.sseg hf
  ·intro tm ht
   simp only [G0, Z1, Z2, Z3, Z4, Z5, ht]
   exact m6 hf rfl ⟨rfl, rfl⟩
end Go.Proofs.YtlbjplpehkgcdaaGreatDoor
namespace Go.Proofs.YtlbjplpehkgcdaaGreatDoor
open Go Go.Am Go.Pm
def W8 (node n : Int) (x : d6) : Int := if (x.node != node) = true then n else max n x.to
def iW (l : List d6) (node : Int) : Int := if q9 l then l.foldl (W8 node) 0 else 0
theorem vW {a b : Int} : pmm kR [iv a, iv b] = some (iv (max a b)) := by
 have h : pmm kR [iv a, iv b] = some (iv (if b > a then b else a)) := by
  unfold pmm
  simp [kR, P4]
 have h2 : (if b > a then b else a) = max a b := by
  by_cases hb : b > a
  ·rw [if_pos hb]; omega
  ·rw [if_neg hb]; omega
 rw [h, h2]
theorem aX4 (node : Int) {M0 : c7} {a i : Nat} {w : Wm} (hM : M0 a i = some (.row w 0 [iv node])) (n : Int) (x : d6) : T1 env Tryz.prog M0 117 [iv n, .agg [iv x.node, iv x.frm, iv x.to], .ptr a i 0] (iv (W8 node n x)) := by
 refine T1.enter a6 bAM (by simp) aRS fun M k hs hk hf => ?_
 have hM' := hs _ _ _ hM
 have hld : ∀ {ag : Bool} {n o : Nat} {os : List Pm.Obj}, y6 k os M ag n (.ptr a i o) = p9 ag n o (M a i) := o9 (I6 hf hM')
 simp only [G0, Z1, Z2, Z3, Z4, Z5, f8, hld, hM']
 refine eY (fun hb => ?_) (fun hb => ?_)
 ·simp only [G0, Z1, Z2, Z3, Z4, Z5]
  refine m6 hf rfl ⟨?_, rfl⟩
  unfold W8; rw [if_pos hb]; rfl
 ·simp only [G0, Z1, Z2, Z3, Z4, Z5, vW]
  refine m6 hf rfl ⟨?_, rfl⟩
  unfold W8; rw [if_neg (by rw [hb]; decide)]; rfl
theorem aHP (l : List d6) (node : Int) : A0 env Tryz.prog 100 [d8 l, iv node] (iv (iW l node)) := fun M => by
 refine PT.enterR a6 bBN (by simp) aPX fun k hk hf => RX.of a6 ?_
 simp only [G0, Z1, Z2, Z3, Z4, Z5, f8]
 refine sL (aMW l (seg M k [.row .rw 0 [iv node]]) 117 [] [.ptr k 0 0] (W8 node) (fun acc x => aX4 node (w := .rw) (by rw [e8]; rfl) acc x)) (Pm.Sub.refl _) (by decide) ?_
 simp only [G0, Z1, Z2, Z3, Z4, Z5]
 exact m6 hf rfl ⟨rfl, rfl⟩
theorem M5 {l : List UInt8} : w9 (n7 l) = true := rfl
theorem S2 {l : List d6} : w9 (d8 l) = true := rfl
def X3 (e : Ev) : Bool := aF9 e.node e.seq && (dW e.path && (pS e.kind e.mode e.bytes && (q9 e.past && decide (iW e.past e.node < e.seq))))
theorem wQ (b : Bool) : (aB b == 0) = b := by cases b <;> rfl
section
variable (e : Ev)
theorem bC7 : A0 env Tryz.prog 67 [l8 e] (bv (aF9 e.node e.seq)) := fun M => by
 refine PT.enterR a6 bEN (by simp) aYP fun k hk hf => RX.of a6 ?_
 simp only [G0, Z1, Z2, Z3, Z4, Z5, f8, l8, b6]
 refine H7 (aIB e.node e.seq) (by decide) ?_
 simp only [G0, Z1, Z2, Z3, Z4, Z5, wQ]
 exact m6 hf rfl ⟨rfl, rfl⟩
theorem bCE (hl : e.path.length <= 1000000) : A0 env Tryz.prog 68 [l8 e] (bv (dW e.path)) := fun M => by
 refine PT.enterR a6 bEB (by simp) aX6 fun k hk hf => RX.of a6 ?_
 simp only [G0, Z1, Z2, Z3, Z4, Z5, f8, l8, b6]
 refine H7 (aCR e.path hl) (by decide) ?_
 simp only [G0, Z1, Z2, Z3, Z4, Z5, wQ]
 exact m6 hf rfl ⟨rfl, rfl⟩
theorem aZD : A0 env Tryz.prog 69 [l8 e] (bv (pS e.kind e.mode e.bytes)) := fun M => by
 refine PT.enterR a6 bEL (by simp) aVG fun k hk hf => RX.of a6 ?_
 simp only [G0, Z1, Z2, Z3, Z4, Z5, f8, l8, b6]
 refine H7 (xD e.kind e.mode e.bytes) (by decide) ?_
 simp only [G0, Z1, Z2, Z3, Z4, Z5, wQ]
 exact m6 hf rfl ⟨rfl, rfl⟩
theorem bB5 : A0 env Tryz.prog 70 [l8 e] (bv (q9 e.past)) := fun M => by
 refine PT.enterR a6 bEG (by simp) aUP fun k hk hf => RX.of a6 ?_
 simp only [G0, Z1, Z2, Z3, Z4, Z5, f8, l8, b6]
 refine H7 (W4 e.past) (by decide) ?_
 simp only [G0, Z1, Z2, Z3, Z4, Z5, wQ]
 exact m6 hf rfl ⟨rfl, rfl⟩
theorem bCV : A0 env Tryz.prog 71 [l8 e] (bv (decide (iW e.past e.node < e.seq))) := fun M => by
 refine PT.enterR a6 bEA (by simp) aYU fun k hk hf => RX.of a6 ?_
 simp only [G0, Z1, Z2, Z3, Z4, Z5, f8, l8, b6]
 refine cq0 (aHP e.past e.node) (by decide) ?_
 simp only [G0, Z1, Z2, Z3, Z4, Z5]
 exact m6 hf rfl ⟨rfl, rfl⟩
def aPE : List PV := [.fn 67 [l8 e] [], .fn 68 [l8 e] [], .fn 69 [l8 e] [], .fn 70 [l8 e] [], .fn 71 [l8 e] []]
theorem jY (M : c7) (k : Nat) (Q : f7 -> d9 -> Prop) (os : List Pm.Obj) (i : Nat) (hi : i < 5) (g : Nat) (b : Bool) (hg : (aPE e)[i * 1]? = some (.fn g [l8 e] [])) (hp : A0 env Tryz.prog g [l8 e] (bv b))
  (q1 : b = false -> ∀ tm, c8 tm 2 = iv 2 -> Q .ret ⟨tm, 28, k, os, M⟩)
  (q2 : b = true -> w7 env Tryz.prog none aCU ⟨[(20, iv (i + 1 : Nat)), (19, iv (5 : Nat)), (18, .lst .full 1 5 (aPE e))], 28, k, os, M⟩ Q) :
  w7 env Tryz.prog none aCU ⟨[(20, iv i), (19, iv (5 : Nat)), (18, .lst .full 1 5 (aPE e))], 28, k, os, M⟩ Q := by
 have h0 : decide ((i : Int) < ((5 : Nat) : Int)) = true := by simp; omega
 have hw : IntKind.i64.wrap ((i : Int) + 1) = ((i + 1 : Nat) : Int) := by rw [f9 (by omega) (by omega)]; rfl
 refine w7.round (RX.of a6 ?_)
 simp only [G0, Z1, Z2, Z3, Z4, Z5, h0, hi, hg]
 refine cp (first := [l8 e]) (cap := []) hp (by decide) ?_
 cases b with
 | false =>
  simp only [G0, Z1, Z2, Z3, Z4, Z5, Bool.not_true, Bool.not_false]
  exact q1 rfl _ rfl
 | true =>
  simp only [G0, Z1, Z2, Z3, Z4, Z5, Bool.not_true, Bool.not_false, hw]
  refine w7.weak (L4 ?_) (q2 rfl)
  repeat (first | exact KP.nil | apply KP.cons rfl)
theorem Z0 (hl : e.path.length <= 1000000) : A0 env Tryz.prog 41 [l8 e] (iv (aB (X3 e))) := fun M => by
 refine PT.enterR a6 bDE (by simp) aVZ fun k hk hf => RX.of a6 ?_
 simp only [G0, Z1, Z2, Z3, Z4, Z5, f8, l8, b6, M5, S2]
 have no : ∀ {tm : List (Nat × PV)} {os : List Pm.Obj}, X3 e = false -> c8 tm 2 = iv 2 -> dK env ⟨28, [.tmp 2], aCI⟩ (fun x M1 => x = iv (aB (X3 e)) /\ M1 = M) .ret ⟨tm, 28, k, os, M⟩ := fun h ht => m6 hf ht ⟨by rw [h]; rfl, rfl⟩
 refine RX.loop (w7.weak (L4 (tm' := [(20, iv (0 : Nat)), (19, iv (5 : Nat)), (18, .lst .full 1 5 (aPE e))]) ?_)
  (jY e M k _ _ 0 (by decide) 67 _ rfl (bC7 e) (fun h tm ht => ?_) fun h1 =>
  jY e M k _ _ 1 (by decide) 68 _ rfl (bCE e hl) (fun h tm ht => ?_) fun h2 =>
  jY e M k _ _ 2 (by decide) 69 _ rfl (aZD e) (fun h tm ht => ?_) fun h3 =>
  jY e M k _ _ 3 (by decide) 70 _ rfl (bB5 e) (fun h tm ht => ?_) fun h4 =>
  jY e M k _ _ 4 (by decide) 71 _ rfl (bCV e) (fun h tm ht => ?_) fun h5 => ?_))
 ·repeat (first | exact KP.nil | apply KP.cons rfl)
 ·simp only [G0, Z1, Z2, Z3, Z4, Z5]
  exact no (by unfold X3; rw [h]; rfl) ht
 ·simp only [G0, Z1, Z2, Z3, Z4, Z5]
  exact no (by unfold X3; rw [h1, h]; rfl) ht
 ·simp only [G0, Z1, Z2, Z3, Z4, Z5]
  exact no (by unfold X3; rw [h1, h2, h]; rfl) ht
 ·simp only [G0, Z1, Z2, Z3, Z4, Z5]
  exact no (by unfold X3; rw [h1, h2, h3, h]; rfl) ht
 ·simp only [G0, Z1, Z2, Z3, Z4, Z5]
  exact no (by unfold X3; rw [h1, h2, h3, h4, h]; rfl) ht
 ·have h0 : decide (((4 + 1 : Nat) : Int) < ((5 : Nat) : Int)) = false := by decide
  refine w7.round (RX.of a6 ?_)
  simp only [G0, Z1, Z2, Z3, Z4, Z5, h0]
  exact m6 hf rfl ⟨by unfold X3; rw [h1, h2, h3, h4, h5]; rfl, rfl⟩
end
end Go.Proofs.YtlbjplpehkgcdaaGreatDoor
namespace Go.Proofs.YtlbjplpehkgcdaaGreatDoor
open Go Go.Am Go.Pm
inductive dJ (M : c7) : PV -> List d6 -> Prop where
 | nil (e : Nat) : dJ M (.lst .full e 0 []) []
 | row {k i j c : Nat} {pre l : List d6} (hM : M k i = some (.row .rw 3 ((pre ++ l).flatMap c9))) (hj : pre.length = j) (hc : l.length <= l6 c /\ c % 2 = 1 /\ N2 c = 3) : dJ M (.sl k i (j * 3) l.length c) l
def A1 : PV -> Option Nat
 | .sl k _ _ _ _ => some k
 | _ => none
theorem dJ.frame {M M' : c7} {v : PV} {l : List d6} (h : dJ M v l) (hf : ∀ k i, A1 v = some k -> M k i ≠ none -> M' k i = M k i) : dJ M' v l := by
 cases h with
 | nil e => exact .nil e
 | row hM hj hc => exact .row (by rw [hf _ _ rfl (by rw [hM]; exact fun h => by cases h)]; exact hM) hj hc
theorem dJ.sub {M M' : c7} {v : PV} {l : List d6} (h : dJ M v l) (hs : Pm.Sub M M') : dJ M' v l := by
 cases h with
 | nil e => exact .nil e
 | row hM hj hc => exact .row (hs _ _ _ hM) hj hc
theorem dJ.key {M : c7} {v : PV} {l : List d6} (h : dJ M v l) {k : Nat} (hf : fresh M k) : A1 v ≠ some k := by
 cases h with
 | nil e => intro h; cases h
 | row hM hj hc => intro h; cases h; rw [hf _] at hM; cases hM
theorem uW (l : List d6) (hl : l.length <= 1000000) (M : c7) : kW env Tryz.prog 66 [d8 l] M (fun nk x M1 => dJ M1 x l /\ (M1 = M /\ A1 x = none \/ ∃ k os, nk <= k /\ fresh M k /\ A1 x = some k /\ M1 = seg M k os)) := by
 refine kW.enterR a6 bC9 (by simp) aNL fun k hk hf => RX.of a6 ?_
 simp only [G0, Z1, Z2, Z3, Z4, Z5, f8, d8]
 refine yC fun b hb => ?_
 simp only [G0, Z1, Z2, Z3, Z4, Z5]
 cases b with
 | true =>
  have hz : l = [] := by
   cases l with
   | nil => rfl
   | cons x l => exact absurd (hb (by simp)) (by simp)
  subst hz
  simp only [G0, Z1, Z2, Z3, Z4, Z5, Bool.xor_false]
  exact m6 hf rfl ⟨.nil 0, .inl ⟨rfl, rfl⟩⟩
 | false =>
  simp only [G0, Z1, Z2, Z3, Z4, Z5, Bool.xor_false]
  by_cases hz : l.length = 0
  ·have : l = [] := List.length_eq_zero_iff.1 hz
   subst this
   refine aL ?_
   simp only [G0, Z1, Z2, Z3, Z4, Z5, List.flatMap_nil, lR]
   exact m6 hf rfl ⟨.nil 3, .inl ⟨rfl, rfl⟩⟩
  ·have hc : (0 = 0 \/ 3 = 3) /\ (2 * (0 + l.length) + 2000) * 24 <= 281474976710656 /\ 0 + l.length <= 4611686018427387904 /\ 3 < 4096 /\ 3 = 3 /\ (l.flatMap c9).all w9 = true := ⟨.inl rfl, by omega, by omega, by decide, rfl, uK l⟩
   refine aR ?_
   rw [qV hz hc]
   simp only [G0, Z1, Z2, Z3, Z4, Z5]
   refine aB1 rfl ⟨?_, .inr ⟨k, _, Nat.le_refl _, hf, rfl, rfl⟩⟩
   have hcap := bT (n := l.length) (es := 3) (by decide)
   have := dJ.row (M := seg M k [.row .rw 3 (l.flatMap c9)]) (k := k) (i := 0) (j := 0) (c := j0 l.length 3) (pre := []) (l := l) (by rw [e8]; rfl) rfl ⟨by rw [hcap.1]; exact Nat.le_refl _, hcap.2⟩
   have h2 : dJ (seg M k [.row .rw 3 (l.flatMap c9)]) (.sl k 0 0 l.length (j0 l.length 3)) l := by simpa using this
   exact h2
theorem aPD : tyP env 74 = some (true, 3) := by kernel_rfl
def spV (x : d6) : PV := .agg (c9 x)
theorem aRF {pre l : List d6} {z : d6} {r : List d6} (h : l = z :: r) : A3 true 3 ((pre ++ l).flatMap c9) (pre.length * 3) = some (spV z) := by
 subst h
 exact lY (xs := pre ++ z :: r) (i := pre.length) (by simp)
theorem jD {pre l : List d6} {z : d6} {r : List d6} (h : l = z :: r) {c : Nat} {v : PV} (hc : (c9 z)[c]? = some v) : ((pre ++ l).flatMap c9)[pre.length * 3 + c]? = some v := by
 subst h
 exact fM (f := c9) (n := 3) (xs := pre ++ z :: r) (i := pre.length) (fun _ => rfl) (by simp) hc
theorem bG {k i o n c sz m : Nat} {kk : IntKind} (h : m < n) : I5 sz (.sl k i o n c) (.v (.int kk (m : Int))) = some (.ptr k i (o + m * sz)) := by
 unfold I5
 rw [H6]
 simp only [if_pos h]
theorem Q3 {k i o n c sz : Nat} {kk : IntKind} (h : 0 < n) : I5 sz (.sl k i o n c) (.v (.int kk 0)) = some (.ptr k i o) := by
 have := bG (k := k) (i := i) (o := o) (n := n) (c := c) (sz := sz) (m := 0) (kk := kk) h
 simpa using this
theorem R4 {k i o n c : Nat} : gB (.sl k i o n c) = some (iv n) := rfl
theorem sZ {x : d6} {a b c : Int} : w5 3 0 (.agg [iv x.node, iv x.frm, iv x.to]) (some (.row .rw 0 [iv a, iv b, iv c])) = some (.row .rw 0 [iv x.node, iv x.frm, iv x.to]) := p6 (n := 3) ⟨rfl, Nat.le_refl 3, rfl⟩
theorem aUA : w5 3 0 (.agg [iv 0, iv 0, iv 0]) (some (.row .rw 0 [iv 0, iv 0, iv 0])) = some (.row .rw 0 [iv 0, iv 0, iv 0]) := p6 (n := 3) ⟨rfl, Nat.le_refl 3, rfl⟩
theorem aDV {M : c7} {v : PV} {l : List d6} (h : dJ M v l) (n : Int) : T1 env Tryz.prog M 137 [v, iv n] (.tup [spV (dH l n).1, bv (dH l n).2]) := by
 refine T1.enter a6 bBZ (by simp) aQ9 fun M' k hs hk hf => ?_
 cases h with
 | nil e =>
  have hz : (((0 : Nat) : Int) == 0) = true := rfl
  simp only [G0, Z1, Z2, Z3, Z4, Z5, f8, hz, Bool.not_true, Bool.not_false, m9, o8, aUA]
  exact aAV hf aPD (Q9.trans rfl) rfl ⟨rfl, rfl⟩
 | @row k1 i1 j c pre l hM hj hc =>
  subst hj
  have hM' := hs _ _ _ hM
  have hld : ∀ {ag : Bool} {n o : Nat} {os : List Pm.Obj}, y6 k os M' ag n (.ptr k1 i1 o) = p9 ag n o (M' k1 i1) := o9 (I6 hf hM')
  cases l with
  | nil =>
   have hz : (((0 : Nat) : Int) == 0) = true := rfl
   simp only [G0, Z1, Z2, Z3, Z4, Z5, f8, R4, hz, Bool.not_true, Bool.not_false, m9, o8, aUA]
   exact aAV hf aPD (Q9.trans rfl) rfl ⟨rfl, rfl⟩
  | cons z r =>
   have hz : (((r.length + 1 : Nat) : Int) == 0) = false := by simp; omega
   have hlt : 0 < r.length + 1 := Nat.succ_pos _
   have c0 := jD (pre := pre) (l := z :: r) rfl (c := 0) (v := iv z.node) rfl
   have c3 := aRF (pre := pre) (l := z :: r) rfl
   rw [Nat.add_zero] at c0
   have hd : dH (z :: r) n = if z.node = n then (z, true) else (⟨0, 0, 0⟩, false) := rfl
   have hb : (z.node != n) = decide (¬ (z.node = n)) := by by_cases h : z.node = n <;> simp [h, bne]
   by_cases hn : z.node = n
   ·have hbf : (z.node != n) = false := by rw [hb]; simp [hn]
    have c3' : A3 true 3 ((pre ++ z :: r).flatMap c9) (pre.length * 3) = some (.agg [iv z.node, iv z.frm, iv z.to]) := c3
    simp only [G0, Z1, Z2, Z3, Z4, Z5, f8, R4, hz, Q3, hlt, hld, hM', c0, c3', hbf, Bool.not_true, Bool.not_false, m9, o8, sZ]
    rw [hd, if_pos hn]
    exact aAV hf aPD (Q9.trans rfl) rfl ⟨rfl, rfl⟩
   ·have hbt : (z.node != n) = true := by rw [hb]; simp [hn]
    simp only [G0, Z1, Z2, Z3, Z4, Z5, f8, R4, hz, Q3, hlt, hld, hM', c0, hbt, Bool.not_true, Bool.not_false, m9, o8, aUA]
    rw [hd, if_neg hn]
    exact aAV hf aPD (Q9.trans rfl) rfl ⟨rfl, rfl⟩
end Go.Proofs.YtlbjplpehkgcdaaGreatDoor
namespace Go.Proofs.YtlbjplpehkgcdaaGreatDoor
open Go Go.Am Go.Pm
theorem fP {M : c7} {k j i : Nat} {o : Pm.Obj} (h : fresh M k) (hj : j ≠ k) : fresh (l7 M j i o) k := fun c => by
 unfold l7
 rw [if_neg (fun x => hj x.1.symm)]; exact h c
theorem D8 {M : c7} {j i a c : Nat} {o : Pm.Obj} (h : ¬ (a = j /\ c = i)) : l7 M j i o a c = M a c := by
 unfold l7; rw [if_neg h]
theorem G7 {M0 M : c7} {k : Nat} (h : Pm.Sub M0 M) (hf : fresh M k) : fresh M0 k := fun i => by
 cases e : M0 k i with
 | none => rfl
 | some o => have := h _ _ _ e; rw [hf i] at this; cases this
theorem N9 {M : c7} {j k : Nat} {os : List Pm.Obj} (h : fresh M j) (hj : j ≠ k) : fresh (seg M k os) j := fun i => by rw [g6 _ _ _ hj]; exact h i
theorem E7 {M : c7} {j k : Nat} {g : Pm.Obj} {os : List Pm.Obj} (h : fresh (seg M k (g :: os)) j) : j ≠ k := fun e => by
 subst e
 have := h 0
 rw [e8] at this; cases this
theorem aE {M : c7} {j k : Nat} {g : Pm.Obj} {os : List Pm.Obj} (h : fresh (seg M k (g :: os)) j) : fresh M j := fun i => by
 have := h i
 rwa [g6 _ _ _ (E7 h)] at this
theorem aI8 {M0 M : c7} {k : Nat} {os : List Pm.Obj} (h : Pm.Sub M0 M) : Pm.Sub (seg M0 k os) (seg M k os) := fun a i o e => by
 by_cases ha : a = k
 ·subst ha; rw [e8] at e ⊢; exact e
 ·rw [g6 _ _ _ ha] at e ⊢; exact h _ _ _ e
theorem aWO {M0 M1 : c7} {k : Nat} {os : List Pm.Obj} (h : Pm.Sub (seg M0 k os) M1) : Pm.Sub (seg M0 k os) (seg M1 k os) := fun a i o e => by
 by_cases ha : a = k
 ·subst ha; rw [e8] at e ⊢; exact e
 ·rw [g6 _ _ _ ha]; exact h _ _ _ e
theorem aCS {M0 M1 : c7} {k : Nat} {os : List Pm.Obj} (h : Pm.Sub (seg M0 k os) M1) : O6 M1 (seg M1 k os) := fun a i o e => by
 by_cases ha : a = k
 ·subst ha
  rw [e8] at e
  exact ⟨o, h _ _ _ (by rw [e8]; exact e), .refl _⟩
 ·rw [g6 _ _ _ ha] at e
  exact ⟨o, e, .refl _⟩
theorem aRR {M : c7} {k : Nat} {os os' : List Pm.Obj} : seg (seg M k os) k os' = seg M k os' := by
 funext a i
 by_cases ha : a = k
 ·subst ha; rw [e8, e8]
 ·rw [g6 _ _ _ ha, g6 _ _ _ ha, g6 _ _ _ ha]
end Go.Proofs.YtlbjplpehkgcdaaGreatDoor
namespace Go.Proofs.YtlbjplpehkgcdaaGreatDoor
open Go Go.Am Go.Pm
theorem aII {k i o n c sz : Nat} {kk : IntKind} (h1 : 1 <= n) (hc : n <= l6 c /\ c % 2 = 1 /\ N2 c = sz) (hs : sz < 4096) : P0 sz (.sl k i o n c) (some (.v (.int kk 1))) none none = some (.sl k i (o + sz) (n - 1) (j0 (l6 c - 1) sz)) := by
 have hp : B9 (.v (.int kk 1)) = some 1 := H6 (n := 1)
 unfold P0
 simp only [hp]
 rw [if_pos ⟨h1, hc.1, .inr ⟨hc.2.1, hc.2.2, hs⟩⟩, if_neg (by omega), Nat.one_mul]
theorem eQ (l : List d6) : (l.flatMap c9).length = l.length * 3 := aD (f := c9) (n := 3) (fun _ => rfl) l
theorem aU3 (pre r : List d6) (z : d6) (f : Int) : g8 ((pre ++ z :: r).flatMap c9) (pre.length * 3 + 1) [iv f] = (pre ++ ⟨z.node, f, z.to⟩ :: r).flatMap c9 := by
 unfold g8
 have hl := eQ pre
 rw [List.flatMap_append, List.flatMap_append, List.flatMap_cons, List.flatMap_cons]
 have e1 : (pre.flatMap c9 ++ (c9 z ++ r.flatMap c9)).take (pre.length * 3 + 1) = pre.flatMap c9 ++ [iv z.node] := by
  rw [List.take_append, hl, List.take_of_length_le (by omega)]
  have : pre.length * 3 + 1 - pre.length * 3 = 1 := by omega
  rw [this]; rfl
 have e2 : (pre.flatMap c9 ++ (c9 z ++ r.flatMap c9)).drop (pre.length * 3 + 1 + [iv f].length) = iv z.to :: r.flatMap c9 := by
  rw [List.drop_append, hl, List.drop_of_length_le (by rw [hl]; simp only [List.length_cons, List.length_nil]; omega)]
  have : pre.length * 3 + 1 + [iv f].length - pre.length * 3 = 2 := by simp; omega
  rw [this]; rfl
 rw [e1, e2, List.append_assoc]; rfl
theorem bAF (pre r : List d6) (z : d6) (t : Int) : g8 ((pre ++ z :: r).flatMap c9) (pre.length * 3 + 2) [iv t] = (pre ++ ⟨z.node, z.frm, t⟩ :: r).flatMap c9 := by
 unfold g8
 have hl := eQ pre
 rw [List.flatMap_append, List.flatMap_append, List.flatMap_cons, List.flatMap_cons]
 have e1 : (pre.flatMap c9 ++ (c9 z ++ r.flatMap c9)).take (pre.length * 3 + 2) = pre.flatMap c9 ++ [iv z.node, iv z.frm] := by
  rw [List.take_append, hl, List.take_of_length_le (by omega)]
  have : pre.length * 3 + 2 - pre.length * 3 = 2 := by omega
  rw [this]; rfl
 have e2 : (pre.flatMap c9 ++ (c9 z ++ r.flatMap c9)).drop (pre.length * 3 + 2 + [iv t].length) = r.flatMap c9 := by
  rw [List.drop_append, hl, List.drop_of_length_le (by rw [hl]; simp only [List.length_cons, List.length_nil]; omega)]
  have : pre.length * 3 + 2 + [iv t].length - pre.length * 3 = 3 := by simp; omega
  rw [this]; rfl
 rw [e1, e2, List.append_assoc]; rfl
theorem uE {M : c7} {v : PV} {z : d6} {r : List d6} (h : dJ M v (z :: r)) (t : Int) (ht : 0 <= t /\ t <= 4000000000) : PT env Tryz.prog 139 [v, iv t] M (fun x M1 => dJ M1 x (cP (z :: r) t) /\ A1 x = A1 v /\ ∀ k i, A1 v ≠ some k -> M1 k i = M k i) := by
 refine PT.enterR a6 bC6 (by simp) aO0 fun k hk hf => RX.of a6 ?_
 cases h with
 | @row k1 i1 j c pre _ hM hj hc =>
  subst hj
  have hk1 : k1 ≠ k := fun e => by subst e; rw [hf i1] at hM; cases hM
  have hld : ∀ {ag : Bool} {n o : Nat} {os : List Pm.Obj}, y6 k os M ag n (.ptr k1 i1 o) = p9 ag n o (M k1 i1) := o9 hk1
  have hlt : 0 < r.length + 1 := Nat.succ_pos _
  have c2 := jD (pre := pre) (l := z :: r) rfl (c := 2) (v := iv z.to) rfl
  have hc' : r.length + 1 <= l6 c /\ c % 2 = 1 /\ N2 c = 3 := hc
  have hsl := aII (k := k1) (i := i1) (o := pre.length * 3) (kk := .i64) (n := r.length + 1) (c := c) (sz := 3) (by omega) hc' (by decide)
  rw [Nat.add_sub_cancel] at hsl
  by_cases hz : z.to = t
  ·have hzb : (z.to == t) = true := by simp [hz]
   simp only [G0, Z1, Z2, Z3, Z4, Z5, f8, R4, Q3, hlt, hld, hM, c2, hzb, hsl]
   refine m6 hf rfl ⟨?_, rfl, fun _ _ _ => rfl⟩
   have hb : cP (z :: r) t = r := by
    show (if z.to = t then r else _) = _
    rw [if_pos hz]
   rw [hb]
   have hcap := bT (n := l6 c - 1) (es := 3) (by decide)
   have := dJ.row (M := M) (k := k1) (i := i1) (j := pre.length + 1) (c := j0 (l6 c - 1) 3) (pre := pre ++ [z]) (l := r) (by rw [List.append_assoc]; exact hM) (by simp) ⟨by rw [hcap.1]; omega, hcap.2⟩
   rw [Nat.add_mul, Nat.one_mul] at this
   exact this
  ·have hzb : (z.to == t) = false := by simp [hz]
   have hw : IntKind.i64.wrap (t + 1) = t + 1 := f9 (by omega) (by omega)
   have hst : w5 1 (pre.length * 3 + 1) (iv (t + 1)) (some (.row .rw 3 ((pre ++ z :: r).flatMap c9))) = some (.row .rw 3 ((pre ++ ⟨z.node, t + 1, z.to⟩ :: r).flatMap c9)) := by
    rw [<- aU3 pre r z (t + 1)]
    have hlen : pre.length * 3 + 1 + 1 <= ((pre ++ z :: r).flatMap c9).length := by rw [eQ]; simp; omega
    exact p6 (n := 1) (x := iv (t + 1)) ⟨rfl, hlen, rfl⟩
   have hstP : ∀ {tm : List (Nat × PV)} {os : List Pm.Obj}, L0 tm 19 k os M 1 (iv (t + 1)) (.ptr k1 i1 (pre.length * 3 + 1)) = some (.junk, ⟨tm, 19, k, os, l7 M k1 i1 (.row .rw 3 ((pre ++ ⟨z.node, t + 1, z.to⟩ :: r).flatMap c9))⟩) := fun {tm os} => by
    rw [F1 hk1, hM, hst, aH]
   simp only [G0, Z1, Z2, Z3, Z4, Z5, f8, R4, Q3, hlt, hld, hM, c2, hzb, hw, hstP]
   refine m6 (fP hf hk1) rfl ⟨?_, rfl, fun k' i' hk' => D8 fun x => hk' (by rw [x.1]; rfl)⟩
   have hb : cP (z :: r) t = ⟨z.node, t + 1, z.to⟩ :: r := by
    show (if z.to = t then r else _) = _
    rw [if_neg hz]
   rw [hb]
   exact .row (y8 _ _ _ _) rfl hc'
inductive dF (M : c7) : PV -> List d6 -> Prop where
 | nil (e : Nat) : dF M (.lst .full e 0 []) []
 | row {k i : Nat} {w : Wm} {p : d6} {ro : List d6} (hM : M k i = some (.row w 3 ((p :: ro).reverse.flatMap c9))) (hw : w = .rw \/ w = .own) : dF M (.sl k i 0 (ro.length + 1) (j0 (ro.length + 1) 3)) (p :: ro)
theorem dF.frame {M M' : c7} {v : PV} {l : List d6} (h : dF M v l) (hf : ∀ k i, A1 v = some k -> M k i ≠ none -> M' k i = M k i) : dF M' v l := by
 cases h with
 | nil e => exact .nil e
 | row hM hw => exact .row (by rw [hf _ _ rfl (by rw [hM]; exact fun h => by cases h)]; exact hM) hw
theorem dF.key {M : c7} {v : PV} {l : List d6} (h : dF M v l) {k : Nat} (hf : fresh M k) : A1 v ≠ some k := by
 cases h with
 | nil e => intro h; cases h
 | row hM hw => intro h; cases h; rw [hf _] at hM; cases hM
theorem aPQ {Q : PV -> c7 -> Prop} {body : Code} {nt nt' k : Nat} {tm : List (Nat × PV)} {os : List Pm.Obj} {M : c7} (h : Q (.tup []) (seg M k os)) : dK env ⟨nt, [], body⟩ Q .normal ⟨tm, nt', k, os, M⟩ := ⟨.inl rfl, [], seg M k os, rfl, .refl _, h⟩
theorem bDZ {Q : PV -> c7 -> Prop} {body : Code} {nt nt' k : Nat} {tm : List (Nat × PV)} {os : List Pm.Obj} {M : c7} (h : Q (.tup []) (seg M k os)) : dK env ⟨nt, [], body⟩ Q .ret ⟨tm, nt', k, os, M⟩ := ⟨.inr rfl, [], seg M k os, rfl, .refl _, h⟩
theorem aV4 {M : c7} {a g : Nat} {va vb vo : PV} {ro : List d6} (hM : M a 0 = some (.row .rw 0 [va, vb, .fn g [] [], vo])) (h : dF M vo ro) (hne : A1 vo ≠ some a) (hl : ro.length <= 1000000) (hp : ∀ p r, ro = p :: r -> 0 <= p.to /\ p.to <= 4000000000) (x : d6) :
  kW env Tryz.prog 138 [.ptr a 0 0, spV x] M (fun nk y M1 => ∃ vo', M1 a 0 = some (.row .rw 0 [va, vb, .fn g [] [], vo']) /\ dF M1 vo' (M6 ro x) /\ (A1 vo' = A1 vo \/ ∃ k, nk <= k /\ fresh M k /\ A1 vo' = some k) /\ ∀ k i, k ≠ a -> A1 vo ≠ some k -> M k i ≠ none -> M1 k i = M k i) := by
 refine kW.enterR a6 aZZ (by simp) aQ5 fun k hk hf => RX.of a6 ?_
 have hak : a ≠ k := fun e => by subst e; rw [hf 0] at hM; cases hM
 have hlda : ∀ {ag : Bool} {n o : Nat} {os : List Pm.Obj} {M : c7}, y6 k os M ag n (.ptr a 0 o) = p9 ag n o (M a 0) := o9 hak
 have hfill : U6 3 [iv 0, iv 0, iv 0] [(0, .agg [iv x.node, iv x.frm, iv x.to])] = some [iv x.node, iv x.frm, iv x.to] := rfl
 have hst : ∀ {tm : List (Nat × PV)} {os : List Pm.Obj} {M : c7} {k2 i2 o2 n2 c2 : Nat}, M a 0 = some (.row .rw 0 [va, vb, .fn g [] [], vo]) -> L0 tm 52 k os M 1 (.sl k2 i2 o2 n2 c2) (.ptr a 0 3) = some (.junk, ⟨tm, 52, k, os, l7 M a 0 (.row .rw 0 [va, vb, .fn g [] [], .sl k2 i2 o2 n2 c2])⟩) := fun {tm os M k2 i2 o2 n2 c2} h => by
  rw [F1 hak, h, p6 (n := 1) (o := 3) (cs := [va, vb, .fn g [] [], vo]) (x := .sl k2 i2 o2 n2 c2) ⟨rfl, Nat.le_refl 4, rfl⟩, aH]; rfl
 have old : ∀ {M' : c7} {os : List Pm.Obj} {k' i : Nat}, M k' i ≠ none -> seg M' k os k' i = M' k' i := fun {M' os k' i} h => g6 _ _ _ fun e => by subst e; exact h (hf i)
 cases h with
 | nil e =>
  have hgt : ¬ (((0 : Nat) : Int) > 0) := by decide
  simp only [G0, Z1, Z2, Z3, Z4, Z5, f8, spV, c9, hlda, hM, hgt, decide_false]
  refine aR ?_
  rw [qV (m := 1) (n := 0) (by decide) ⟨.inl rfl, by decide, by decide, by decide, rfl, rfl⟩]
  simp only [G0, Z1, Z2, Z3, Z4, Z5, hst, hM]
  refine aPQ ⟨_, by rw [g6 _ _ _ hak]; exact y8 _ _ _ _, ?_, .inr ⟨k, Nat.le_refl _, hf, rfl⟩, fun k' i h1 h2 h3 => by rw [old h3, D8 (fun y => h1 y.1)]⟩
  exact dF.row (k := k) (i := 1) (p := x) (ro := []) (w := .rw) (by rw [e8]; rfl) (.inl rfl)
 | @row k1 i1 w p r hM1 hw =>
  have hka : k1 ≠ a := fun e => hne (by subst e; rfl)
  have hk1 : k1 ≠ k := fun e => by subst e; rw [hf i1] at hM1; cases hM1
  have hld1 : ∀ {ag : Bool} {n o : Nat} {os : List Pm.Obj}, y6 k os M ag n (.ptr k1 i1 o) = p9 ag n o (M k1 i1) := o9 hk1
  have hl' : r.length + 1 <= 1000000 := hl
  obtain ⟨hp1, hp2⟩ := hp p r rfl
  have hgt : ((r.length + 1 : Nat) : Int) > 0 := by omega
  have hw1 : IntKind.i64.wrap (((r.length + 1 : Nat) : Int) - 1) = (r.length : Int) := by rw [f9 (by omega) (by omega)]; omega
  have hw2 : IntKind.i64.wrap (p.to + 1) = p.to + 1 := f9 (by omega) (by omega)
  have hi := bG (k := k1) (i := i1) (o := 0) (n := r.length + 1) (c := j0 (r.length + 1) 3) (sz := 3) (m := r.length) (kk := .i64) (Nat.lt_succ_self _)
  rw [Nat.zero_add] at hi
  have hrev : (p :: r).reverse = r.reverse ++ [p] := List.reverse_cons
  have hrl : r.reverse.length = r.length := List.length_reverse
  have cN := jD (pre := r.reverse) (l := [p]) rfl (c := 0) (v := iv p.node) rfl
  have cT := jD (pre := r.reverse) (l := [p]) rfl (c := 2) (v := iv p.to) rfl
  rw [<- hrev, hrl] at cN cT
  rw [Nat.add_zero] at cN
  by_cases hn : p.node = x.node
  ·have bn : (p.node == x.node) = true := by simp [hn]
   by_cases hc : p.to + 1 = x.frm
   ·have bc : (p.to + 1 == x.frm) = true := by simp [hc]
    have hcells : ((p :: r).reverse.flatMap c9) = ((r.reverse ++ [p]).flatMap c9) := by rw [hrev]
    have hstO : w5 1 (r.length * 3 + 2) (iv x.to) (some (.row w 3 ((p :: r).reverse.flatMap c9))) = some (.row .rw 3 ((⟨p.node, p.frm, x.to⟩ :: r).reverse.flatMap c9)) := by
     have hs := bAF r.reverse [] p x.to
     rw [hrl] at hs
     have hr2 : (⟨p.node, p.frm, x.to⟩ :: r : List d6).reverse = r.reverse ++ [⟨p.node, p.frm, x.to⟩] := List.reverse_cons
     rw [hr2, <- hs, hcells]
     have hlen : r.length * 3 + 2 + 1 <= ((r.reverse ++ [p]).flatMap c9).length := by rw [eQ]; simp; omega
     rcases hw with rfl | rfl
     ·exact p6 (n := 1) (x := iv x.to) ⟨rfl, hlen, rfl⟩
     ·exact iQ (n := 1) (x := iv x.to) ⟨rfl, hlen, rfl⟩
    have hstP : ∀ {tm : List (Nat × PV)} {os : List Pm.Obj}, L0 tm 52 k os M 1 (iv x.to) (.ptr k1 i1 (r.length * 3 + 2)) = some (.junk, ⟨tm, 52, k, os, l7 M k1 i1 (.row .rw 3 ((⟨p.node, p.frm, x.to⟩ :: r).reverse.flatMap c9))⟩) := fun {tm os} => by
     rw [F1 hk1, hM1, hstO, aH]
    simp only [G0, Z1, Z2, Z3, Z4, Z5, f8, spV, c9, hlda, hM, R4, hgt, decide_true, hw1, hi, hld1, hM1, cN, cT, bn, bc, hw2, hstP, Bool.not_true, Bool.not_false, m9, o8]
    have ha : M6 (p :: r) x = ⟨p.node, p.frm, x.to⟩ :: r := by
     show (if p.node = x.node /\ p.to + 1 = x.frm then _ else _) = _
     rw [if_pos ⟨hn, hc⟩]
    refine bDZ ⟨_, by rw [g6 _ _ _ hak, D8 (fun y => hka y.1.symm)]; exact hM, ?_, .inl rfl, fun k' i h1 h2 h3 => by rw [old h3, D8 (fun y => h2 (by rw [y.1]; rfl))]⟩
    rw [ha]
    exact dF.row (w := .rw) (by rw [g6 _ _ _ hk1]; exact y8 _ _ _ _) (.inl rfl)
   ·have bc : (p.to + 1 == x.frm) = false := by simp [hc]
    simp only [G0, Z1, Z2, Z3, Z4, Z5, f8, spV, c9, hlda, hM, R4, hgt, decide_true, hw1, hi, hld1, hM1, cN, cT, bn, bc, hw2, Bool.not_true, Bool.not_false, m9, o8]
    refine aR ?_
    rw [yR (m := 1) (n := r.length + 1) (by decide) (Nat.succ_ne_zero _) hk1 (bT (by decide)) hw hM1 (by rw [eQ]; simp) ⟨by omega, by omega, by decide, rfl, rfl⟩]
    have hMa : l7 M k1 i1 .gone a 0 = some (.row .rw 0 [va, vb, .fn g [] [], .sl k1 i1 0 (r.length + 1) (j0 (r.length + 1) 3)]) := by rw [D8 (fun y => hka y.1.symm)]; exact hM
    simp only [G0, Z1, Z2, Z3, Z4, Z5, hst, hMa]
    have ha : M6 (p :: r) x = x :: p :: r := by
     show (if p.node = x.node /\ p.to + 1 = x.frm then _ else _) = _
     rw [if_neg (fun y => hc y.2)]
    refine aPQ ⟨_, by rw [g6 _ _ _ hak]; exact y8 _ _ _ _, ?_, .inr ⟨k, Nat.le_refl _, hf, rfl⟩, fun k' i h1 h2 h3 => by rw [old h3, D8 (fun y => h1 y.1), D8 (fun y => h2 (by rw [y.1]; rfl))]⟩
    rw [ha]
    exact dF.row (k := k) (i := 1) (p := x) (ro := p :: r) (w := .own) (by rw [e8, List.reverse_cons, List.flatMap_append]; simp [c9]) (.inr rfl)
  ·have bn : (p.node == x.node) = false := by simp [hn]
   simp only [G0, Z1, Z2, Z3, Z4, Z5, f8, spV, c9, hlda, hM, R4, hgt, decide_true, hw1, hi, hld1, hM1, cN, cT, bn, hw2, Bool.not_true, Bool.not_false, m9, o8]
   refine aR ?_
   rw [yR (m := 1) (n := r.length + 1) (by decide) (Nat.succ_ne_zero _) hk1 (bT (by decide)) hw hM1 (by rw [eQ]; simp) ⟨by omega, by omega, by decide, rfl, rfl⟩]
   have hMa : l7 M k1 i1 .gone a 0 = some (.row .rw 0 [va, vb, .fn g [] [], .sl k1 i1 0 (r.length + 1) (j0 (r.length + 1) 3)]) := by rw [D8 (fun y => hka y.1.symm)]; exact hM
   simp only [G0, Z1, Z2, Z3, Z4, Z5, hst, hMa]
   have ha : M6 (p :: r) x = x :: p :: r := by
    show (if p.node = x.node /\ p.to + 1 = x.frm then _ else _) = _
    rw [if_neg (fun y => hn y.1)]
   refine aPQ ⟨_, by rw [g6 _ _ _ hak]; exact y8 _ _ _ _, ?_, .inr ⟨k, Nat.le_refl _, hf, rfl⟩, fun k' i h1 h2 h3 => by rw [old h3, D8 (fun y => h1 y.1), D8 (fun y => h2 (by rw [y.1]; rfl))]⟩
   rw [ha]
   exact dF.row (k := k) (i := 1) (p := x) (ro := p :: r) (w := .own) (by rw [e8, List.reverse_cons, List.flatMap_append]; simp [c9]) (.inr rfl)
end Go.Proofs.YtlbjplpehkgcdaaGreatDoor