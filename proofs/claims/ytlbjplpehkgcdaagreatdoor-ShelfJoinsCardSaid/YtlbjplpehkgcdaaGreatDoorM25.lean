/- ShelfJoins holds. Part 25 of 32; no condition. -/
import Derived.Test.YtlbjplpehkgcdaaGreatDoorM24
import Derived.Laws.RangeString
set_option linter.unusedVariables false
set_option linter.unusedSimpArgs false
set_option maxHeartbeats 4000000
set_option maxRecDepth 100000
open Nat renaming reduceLT → Z1, reduceEqDiff → Z2, reduceAdd → Z3, reduceLeDiff → Z4, reduceMul → Z5
namespace Go.Proofs.YtlbjplpehkgcdaaGreatDoor
open Go Go.Am Go.Pm
theorem loop65 (xs : List Span) (hl : xs.length <= 4000) (M : PMem) (k : Nat) (Q : AExit -> PSt -> Prop) (q1 : pastFrom none xs = true -> ∀ tm, Q (.exit 0) ⟨tm, 79, k, [], M⟩)
  (q2 : pastFrom none xs = false -> ∀ tm, tget tm 2 = .v (.int .i64 2) -> Q .ret ⟨tm, 79, k, [], M⟩) :
  ∀ d i p, xs.length - i = d -> i <= xs.length -> (i = 0 /\ p = none \/ ∃ j x, i = j + 1 /\ xs[j]? = some x /\ p = some x /\ spanBad x = false) -> pastFrom none xs = pastFrom p (xs.drop i) →
  RXL env Tryz.prog none c88_26 ⟨[(10, .v (.int .i64 i)), (9, .v (.int .i64 xs.length)), (8, encSpans xs), (0, encSpans xs)], 79, k, [], M⟩ Q := by
 intro d
 induction d with
 | zero =>
  intro i p hd hi _ hp
  have : i = xs.length := by omega
  subst this
  refine RXL.round (RX.of env_ok ?_)
  simp only [G0, Z1, Z2, Z3, Z4, Z5, Int.lt_irrefl, decide_false]
  refine q1 ?_ _
  rw [hp]; simp [pastFrom]
 | succ d ih =>
  intro i p hd hi hpre hp
  have hi' : i < xs.length := by omega
  have hx : ∃ x, xs[i]? = some x := ⟨xs[i], by simp⟩
  obtain ⟨x, hx⟩ := hx
  have hld := load_at (f := encSpan) (n := 3) (fun _ => rfl) hx
  simp only [encSpan] at hld
  have hdrop : xs.drop i = x :: xs.drop (i + 1) := by
   rw [List.drop_eq_getElem_cons hi']
   congr 1
   rw [List.getElem?_eq_getElem hi'] at hx
   exact Option.some.inj hx
  rw [hdrop] at hp
  simp only [pastFrom] at hp
  have hii : (i : Int) < xs.length := by omega
  refine RXL.inn fun k' hk1 hk2 hk3 => RX.of env_ok ?_
  simp only [G0, Z1, Z2, Z3, Z4, Z5, encSpans, hii, decide_true, hi', hld]
  refine cW_s (fun hb => ?_) (fun hb => ?_)
  ·have hb' : spanBad x = true := hb
   simp only [G0, Z1, Z2, Z3, Z4, Z5]
   refine q2 ?_ _ rfl
   rw [hp, hb']; rfl
  ·have hb' : spanBad x = false := hb
   have hw : IntKind.i64.wrap ((i : Int) + 1) = ((i + 1 : Nat) : Int) := by rw [wrap64_id (by omega) (by omega)]; rfl
   rcases hpre with ⟨rfl, rfl⟩ | ⟨j, y, rfl, hy, rfl, hby⟩
   ·simp only [G0, Z1, Z2, Z3, Z4, Z5, Int.lt_irrefl, Int.natCast_zero, gt_iff_lt, decide_false, hw]
    refine RXL.weak (keepE ?_) (ih 1 (some x) (by omega) (by omega) (.inr ⟨0, x, rfl, hx, rfl, hb'⟩) ?_)
    ·repeat (first | exact KP.nil | apply KP.cons rfl)
    ·rw [hp, hb']; simp [preOk]
   ·have hj : j < xs.length := by omega
    have hb5 : 1 <= y.to /\ y.to <= 2147483647 := by
     simp only [spanBad, Bool.or_eq_false_iff, decide_eq_false_iff_not] at hby
     omega
    have e1 : IntKind.i64.wrap (((j + 1 : Nat) : Int) - 1) = (j : Int) := by rw [wrap64_id (by omega) (by omega)]; omega
    have e2 : IntKind.i64.wrap (y.to + 1) = y.to + 1 := wrap64_id (by omega) (by omega)
    have e3 : (0 : Int) < ((j + 1 : Nat) : Int) := by omega
    have c0 : (xs.flatMap encSpan)[j * 3]? = some (.v (.int .i64 y.node)) := cell_at (f := encSpan) (n := 3) (c := 0) (fun _ => rfl) hy rfl
    have c2 : (xs.flatMap encSpan)[j * 3 + 2]? = some (.v (.int .i64 y.to)) := cell_at (f := encSpan) (n := 3) (c := 2) (fun _ => rfl) hy rfl
    simp only [G0, Z1, Z2, Z3, Z4, Z5, e1, e2, e3, hj, c0, c2, gt_iff_lt, decide_true, encSpans]
    have hp2 : pastFrom none xs = (!pairBad y x && pastFrom (some x) (xs.drop (j + 1 + 1))) := by rw [hp, hb']; simp only [preOk]; rfl
    refine cW_s (fun hc => ?_) (fun hc => ?_)
    ·have hc' : pairBad y x = true := hc
     simp only [G0, Z1, Z2, Z3, Z4, Z5]
     refine q2 ?_ _ rfl
     rw [hp2, hc']; rfl
    ·have hc' : pairBad y x = false := hc
     simp only [G0, Z1, Z2, Z3, Z4, Z5, hw]
     refine RXL.weak (keepE ?_) (ih (j + 1 + 1) (some x) (by omega) (by omega) (.inr ⟨j + 1, x, rfl, hx, rfl, hb'⟩) ?_)
     ·repeat (first | exact KP.nil | apply KP.cons rfl)
     ·rw [hp2, hc']; rfl
theorem past_check (xs : List Span) : PTp env Tryz.prog 88 [encSpans xs] (.v (.int .i64 (errIf (pastOk xs)))) := fun M => by
 refine PT.enterR env_ok fn88 (by simp) comp88 fun k hk hf => RX.of env_ok ?_
 simp only [G0, Z1, Z2, Z3, Z4, Z5, argsP, encSpans]
 refine cW_s (fun hb => ?_) (fun hb => ?_)
 ·simp only [G0, Z1, Z2, Z3, Z4, Z5]
  refine end1 hf rfl ⟨?_, rfl⟩
  have : pastOk xs = false := by simp at hb; simp [pastOk]; intro; omega
  rw [this]; rfl
 ·simp only [G0, Z1, Z2, Z3, Z4, Z5]
  have hl : xs.length <= 4000 := by simp at hb; omega
  refine RX.loop ?_
  refine RXL.weak (keepE ?_) (loop65 xs hl M k _ ?_ ?_ xs.length 0 none rfl (Nat.zero_le _) (.inl ⟨rfl, rfl⟩) rfl)
  ·repeat (first | exact KP.nil | apply KP.cons rfl)
  ·intro hok tm
   simp only [G0, Z1, Z2, Z3, Z4, Z5]
   refine end1 hf rfl ⟨?_, rfl⟩
   have : pastOk xs = true := by simp [pastOk, hl, hok]
   rw [this]; rfl
  ·intro hbad tm ht
   simp only [G0, Z1, Z2, Z3, Z4, Z5]
   refine end1 hf ht ⟨?_, rfl⟩
   have : pastOk xs = false := by simp [pastOk, hbad]
   rw [this]; rfl
end Go.Proofs.YtlbjplpehkgcdaaGreatDoor
namespace Go.Proofs.YtlbjplpehkgcdaaGreatDoor
open Go Go.Am Go.Pm
theorem dot_check (n s : Int) : PTp env Tryz.prog 97 [.agg [iv n, iv s]] (iv (errIf (dotOk n s))) := fun M => by
 refine PT.enterR env_ok fn97 (by simp) comp97 fun k hk hf => RX.of env_ok ?_
 simp only [G0, Z1, Z2, Z3, Z4, Z5, argsP]
 refine cW_s (fun hb => ?_) (fun hb => ?_)
 ·simp only [G0, Z1, Z2, Z3, Z4, Z5]
  refine end1 hf rfl ⟨?_, rfl⟩
  show _ = iv (errIf (!_))
  rw [hb]; rfl
 ·simp only [G0, Z1, Z2, Z3, Z4, Z5]
  refine end1 hf rfl ⟨?_, rfl⟩
  show _ = iv (errIf (!_))
  rw [hb]; rfl
theorem effect_rules : PTp env Tryz.prog 115 [] (.agg [iv 0, iv 0, iv 511, iv 1000, iv 511, iv 0, iv 0, iv 0]) := fun M => by
 refine PT.enterR env_ok fn115 (by simp) comp115 fun k hk hf => RX.of env_ok ?_
 simp only [G0, Z1, Z2, Z3, Z4, Z5, argsP]
 refine endc (ag := true) (n := 8) hf (by kernel_rfl) ?_ ⟨rfl, rfl⟩
 simp only [G0, Z1, Z2, Z3, Z4, Z5]
theorem effect_check (x m : Int) (b : List UInt8) : PTp env Tryz.prog 99 [.agg [iv x, iv m, encBytes b]] (iv (errIf (effOk x m b))) := fun M => by
 refine PT.enterR env_ok fn99 (by simp) comp99 fun k hk hf => RX.of env_ok ?_
 simp only [G0, Z1, Z2, Z3, Z4, Z5, argsP]
 refine cW_s (fun hb => ?_) (fun hb => ?_)
 ·simp only [G0, Z1, Z2, Z3, Z4, Z5]
  refine end1 hf rfl ⟨?_, rfl⟩
  unfold effOk; rw [hb]; rfl
 ·simp only [G0, Z1, Z2, Z3, Z4, Z5]
  refine cq0 effect_rules (by decide) ?_
  have hidx : ∃ j : Nat, x = (j : Int) /\ (j = 1 \/ j = 2 \/ j = 3) := ⟨x.toNat, by simp at hb; omega, by simp at hb; omega⟩
  obtain ⟨j, rfl, h⟩ := hidx
  have hj : j < 4 := by omega
  have h2 : ∃ a c : Int, (List.take 2 (List.drop (j * 2) [iv 0, iv 0, iv 511, iv 1000, iv 511, iv 0, iv 0, iv 0])) = [iv a, iv c] /\ a = (if (j : Int) = 3 then 0 else 511) /\ c = (if (j : Int) = 1 then 1000 else 0) := by
   rcases h with rfl | rfl | rfl
   ·exact ⟨511, 1000, rfl, rfl, rfl⟩
   ·exact ⟨511, 0, rfl, rfl, rfl⟩
   ·exact ⟨0, 0, rfl, rfl, rfl⟩
  obtain ⟨a, c, h2, ha, hc⟩ := h2
  simp only [G0, Z1, Z2, Z3, Z4, Z5, hj, h2, encBytes]
  refine cW_s (fun hb' => ?_) (fun hb' => ?_)
  ·simp only [G0, Z1, Z2, Z3, Z4, Z5]
   refine end1 hf rfl ⟨?_, rfl⟩
   unfold effOk; rw [hb, <- ha, <- hc, hb']; rfl
  ·simp only [G0, Z1, Z2, Z3, Z4, Z5]
   refine end1 hf rfl ⟨?_, rfl⟩
   unfold effOk; rw [hb, <- ha, <- hc, hb']; rfl
end Go.Proofs.YtlbjplpehkgcdaaGreatDoor
namespace Go.Proofs.YtlbjplpehkgcdaaGreatDoor
open Go Go.Am Go.Pm
theorem same_bytes (a b : List UInt8) : PTp env Tryz.prog 80 [encBytes a, encBytes b] (bv (a == b)) := fun M => by
 refine PT.enterR env_ok fn80 (by simp) comp80 fun k hk hf => RX.of env_ok ?_
 simp only [G0, Z1, Z2, Z3, Z4, Z5, argsP, encBytes, convB_enc, str_eql]
 exact end1 hf rfl ⟨rfl, rfl⟩
theorem same_effect (x m y p : Int) (a b : List UInt8) : PTp env Tryz.prog 50 [.agg [iv x, iv m, encBytes a], .agg [iv y, iv p, encBytes b]] (bv (x == y && m == p && a == b)) := fun M => by
 refine PT.enterR env_ok fn50 (by simp) comp50 fun k hk hf => RX.of env_ok ?_
 simp only [G0, Z1, Z2, Z3, Z4, Z5, argsP]
 refine cg0T (fun h => by simp only [h, cnd_t]; exact same_bytes a b) (by decide) ?_
 simp only [G0, Z1, Z2, Z3, Z4, Z5]
 exact end1 hf rfl ⟨rfl, rfl⟩
theorem long_effect (x m : Int) (a : List UInt8) : PTp env Tryz.prog 26 [.agg [iv x, iv m, encBytes a]] (bv (decide ((a.length : Int) > 1200))) := fun M => by
 refine PT.enterR env_ok fn26 (by simp) comp26 fun k hk hf => RX.of env_ok ?_
 simp only [G0, Z1, Z2, Z3, Z4, Z5, argsP, encBytes]
 exact end1 hf rfl ⟨rfl, rfl⟩
end Go.Proofs.YtlbjplpehkgcdaaGreatDoor
namespace Go.Proofs.YtlbjplpehkgcdaaGreatDoor
open Go Go.Am Go.Pm
theorem pl79 : env.plainEq 74 = true := by kernel_rfl
theorem eq79 (a b c x y z : Int) : aEq env 100 74 (.agg #[.int .i64 a, .int .i64 b, .int .i64 c]) (.agg #[.int .i64 x, .int .i64 y, .int .i64 z]) = some (a == x && (b == y && c == z)) := by
 have h : aEq env 100 74 (.agg #[.int .i64 a, .int .i64 b, .int .i64 c]) (.agg #[.int .i64 x, .int .i64 y, .int .i64 z]) = eqS (some (a == x)) (eqS (some (b == y)) (eqS (some (c == z)) (some true))) := by kernel_rfl
 rw [h, eqS_b, eqS_b, eqS_b, Bool.and_true]
theorem neq79 {t' : Bool} {d : Bool} (a b c x y z : Int) : pbin env .neq 74 t' d (.agg [iv a, iv b, iv c]) (.agg [iv x, iv y, iv z]) = some (bv (!(a == x && (b == y && c == z)))) := by
 simp [pbin, pflats?, pl79, binV, eq79]
theorem loop38 (a b : List Span) (hl : a.length = b.length) (M : PMem) (k : Nat) (Q : AExit -> PSt -> Prop) (hs : a.length <= 9223372036854775806) (q1 : spansEq a b = true -> ∀ tm, Q (.exit 0) ⟨tm, 26, k, [], M⟩)
  (q2 : spansEq a b = false -> ∀ tm, tget tm 4 = bv false -> Q .ret ⟨tm, 26, k, [], M⟩) :
  ∀ d i, a.length - i = d -> i <= a.length -> spansEq a b = spansEq (a.drop i) (b.drop i) →
  RXL env Tryz.prog none c51_18 ⟨[(5, iv i), (1, encSpans b), (0, encSpans a)], 26, k, [], M⟩ Q := by
 intro d
 induction d with
 | zero =>
  intro i hd hi hp
  have : i = a.length := by omega
  subst this
  refine RXL.round (RX.of env_ok ?_)
  simp only [G0, Z1, Z2, Z3, Z4, Z5, encSpans, Int.lt_irrefl, decide_false]
  refine q1 ?_ _
  rw [hp, List.drop_of_length_le (Nat.le_refl _), List.drop_of_length_le (by omega)]; rfl
 | succ d ih =>
  intro i hd hi hp
  have hi' : i < a.length := by omega
  have hib : i < b.length := by omega
  have hii : (i : Int) < a.length := by omega
  obtain ⟨x, hx, hdx⟩ := getE hi'
  obtain ⟨y, hy, hdy⟩ := getE hib
  have hlx := load_at (f := encSpan) (n := 3) (fun _ => rfl) hx
  have hly := load_at (f := encSpan) (n := 3) (fun _ => rfl) hy
  have hw : IntKind.i64.wrap ((i : Int) + 1) = ((i + 1 : Nat) : Int) := by rw [wrap64_id (by omega) (by omega)]; rfl
  rw [hdx, hdy] at hp
  refine RXL.round (RX.of env_ok ?_)
  simp only [G0, Z1, Z2, Z3, Z4, Z5, encSpans, hii, decide_true, hi', hib, hlx, hly, encSpan, neq79]
  refine cW_s (fun hb => ?_) (fun hb => ?_)
  ·simp only [G0, Z1, Z2, Z3, Z4, Z5]
   refine q2 ?_ _ rfl
   rw [hp, spansEq]
   have hn : (!spanEq x y) = true := hb
   have : spanEq x y = false := by simpa using hn
   rw [this]; rfl
  ·simp only [G0, Z1, Z2, Z3, Z4, Z5, hw]
   have hn : (!spanEq x y) = false := hb
   have : spanEq x y = true := by simpa using hn
   refine RXL.weak (keepE ?_) (ih (i + 1) (by omega) (by omega) ?_)
   ·repeat (first | exact KP.nil | apply KP.cons rfl)
   ·rw [hp, spansEq, this]; rfl
theorem same_spans (a b : List Span) (hs : a.length <= 9223372036854775806) : PTp env Tryz.prog 51 [encSpans a, encSpans b] (bv (spansEq a b)) := fun M => by
 refine PT.enterR env_ok fn51 (by simp) comp51 fun k hk hf => RX.of env_ok ?_
 simp only [G0, Z1, Z2, Z3, Z4, Z5, argsP, encSpans]
 refine cW_s (fun hb => ?_) (fun hb => ?_)
 ·simp only [G0, Z1, Z2, Z3, Z4, Z5]
  refine end1 hf rfl ⟨?_, rfl⟩
  cases e : spansEq a b with
  | false => rfl
  | true => have := spansEq_len e; rw [this] at hb; simp at hb
 ·simp only [G0, Z1, Z2, Z3, Z4, Z5]
  have hl : a.length = b.length := by
   have : (a.length : Int) = b.length := by simpa using hb
   omega
  refine RX.loop (RXL.weak (keepE ?_) (loop38 a b hl M k _ hs ?_ ?_ a.length 0 rfl (Nat.zero_le _) rfl))
  ·repeat (first | exact KP.nil | apply KP.cons rfl)
  ·intro h tm
   simp only [G0, Z1, Z2, Z3, Z4, Z5]
   exact end1 hf rfl ⟨by rw [h]; rfl, rfl⟩
  ·intro h tm ht
   simp only [G0, Z1, Z2, Z3, Z4, Z5]
   exact end1 hf ht ⟨by rw [h], rfl⟩
end Go.Proofs.YtlbjplpehkgcdaaGreatDoor
namespace Go.Proofs.YtlbjplpehkgcdaaGreatDoor
open Go Go.Am Go.Pm
theorem pl28 : env.plainEq 24 = true := by kernel_rfl
theorem eq28 (a b x y : Int) : aEq env 100 24 (.agg #[.int .i64 a, .int .i64 b]) (.agg #[.int .i64 x, .int .i64 y]) = some (a == x && b == y) := by
 have h : aEq env 100 24 (.agg #[.int .i64 a, .int .i64 b]) (.agg #[.int .i64 x, .int .i64 y]) = eqS (some (a == x)) (eqS (some (b == y)) (some true)) := by kernel_rfl
 rw [h, eqS_b, eqS_b, Bool.and_true]
theorem eql28 {t' : Bool} {d : Bool} (a b x y : Int) : pbin env .eql 24 t' d (.agg [iv a, iv b]) (.agg [iv x, iv y]) = some (bv (a == x && b == y)) := by
 simp [pbin, pflats?, pl28, binV, eq28]
theorem same_event (a b : Ev) (hs : a.past.length <= 9223372036854775806) : PTp env Tryz.prog 18 [encEv a, encEv b] (bv (evEq a b)) := fun M => by
 refine PT.enterR env_ok fn18 (by simp) comp18 fun k hk hf => RX.of env_ok ?_
 simp only [G0, Z1, Z2, Z3, Z4, Z5, argsP, encEv, evCells, eql28, str_eql]
 refine cg0T (fun h => by simp only [h, cnd_t]; exact same_effect _ _ _ _ _ _) (by decide) ?_
 simp only [G0, Z1, Z2, Z3, Z4, Z5]
 refine cg0T (fun h => by simp only [h, cnd_t]; exact same_spans _ _ hs) (by decide) ?_
 simp only [G0, Z1, Z2, Z3, Z4, Z5]
 exact end1 hf rfl ⟨rfl, rfl⟩
theorem loop22 (l : List Ev) (m : Nat) (hm : m <= 1000000) (M : PMem) (k : Nat) (Q : AExit -> PSt -> Prop) (q1 : anyL (m + 1) l = false -> ∀ tm, tget tm 0 = encEvs l -> tget tm 1 = iv m -> Q (.exit 0) ⟨tm, 45, k, [], M⟩)
  (q2 : anyL (m + 1) l = true -> ∀ tm, tget tm 4 = bv true -> Q .ret ⟨tm, 45, k, [], M⟩) :
  ∀ d i, m + 1 - i = d -> i <= m + 1 -> i <= l.length -> anyL (m + 1) l = anyL d (l.drop i) →
  RXL env Tryz.prog none c6_13 ⟨[(5, iv i), (1, iv m), (0, encEvs l)], 45, k, [], M⟩ Q := by
 intro d
 induction d with
 | zero =>
  intro i hd hi hl hp
  have him : ¬ ((i : Int) <= m) := by omega
  refine RXL.round (RX.of env_ok ?_)
  simp only [G0, Z1, Z2, Z3, Z4, Z5, encEvs, him, decide_false, Bool.and_false]
  exact q1 (by rw [hp]; rfl) _ rfl rfl
 | succ d ih =>
  intro i hd hi hl hp
  have him : (i : Int) <= m := by omega
  by_cases hlt : i < l.length
  ·have hii : (i : Int) < l.length := by omega
   obtain ⟨x, hx, hdx⟩ := getE hlt
   have hlx := ev_load7 hx
   have c2 : (l.flatMap evCells)[i * 7 + 2]? = some (str x.path) := cell_at (f := evCells) (n := 7) (c := 2) (fun _ => rfl) hx rfl
   have c6 : (l.flatMap evCells)[i * 7 + 6]? = some (encSpans x.past) := cell_at (f := evCells) (n := 7) (c := 6) (fun _ => rfl) hx rfl
   have c3 : ptake true 3 (l.flatMap evCells) (i * 7 + 3) = some (.agg [iv x.kind, iv x.mode, encBytes x.bytes]) := sub_at (f := evCells) (fun _ => rfl) hx (by decide) rfl
   have hw : IntKind.i64.wrap ((i : Int) + 1) = ((i + 1 : Nat) : Int) := by rw [wrap64_id (by omega) (by omega)]; rfl
   refine RXL.round (RX.of env_ok ?_)
   simp only [G0, Z1, Z2, Z3, Z4, Z5, encEvs, him, hii, hlt, decide_true, Bool.and_true, c2, c6, c3]
   refine cg0F (fun h => by simp only [h, Bool.not_false, cnd_t]; exact long_effect _ _ _) (by decide) ?_
   simp only [G0, Z1, Z2, Z3, Z4, Z5, encEvs, him, hii, hlt, decide_true, Bool.and_true, c2, c6, c3, encSpans]
   rw [hdx] at hp
   refine cW_s (fun hb => ?_) (fun hb => ?_)
   ·simp only [G0, Z1, Z2, Z3, Z4, Z5]
    refine q2 ?_ _ rfl
    have : evLong x = true := hb
    rw [hp, anyL, this]; rfl
   ·simp only [G0, Z1, Z2, Z3, Z4, Z5, hw]
    have : evLong x = false := hb
    refine RXL.weak (keepE ?_) (ih (i + 1) (by omega) (by omega) (by omega) ?_)
    ·repeat (first | exact KP.nil | apply KP.cons rfl)
    ·rw [hp, anyL, this]; rfl
  ·have hii : ¬ ((i : Int) < l.length) := by omega
   refine RXL.round (RX.of env_ok ?_)
   simp only [G0, Z1, Z2, Z3, Z4, Z5, encEvs, hii, decide_false, Bool.false_and]
   exact q1 (by rw [hp, List.drop_of_length_le (by omega)]; rfl) _ rfl rfl
theorem long_events (l : List Ev) (m : Nat) (hm : m <= 1000000) : PTp env Tryz.prog 6 [encEvs l, iv m] (bv (longEvs m l)) := fun M => by
 refine PT.enterR env_ok fn6 (by simp) comp6 fun k hk hf => RX.of env_ok ?_
 simp only [G0, Z1, Z2, Z3, Z4, Z5, argsP]
 refine RX.loop (RXL.weak (keepE ?_) (loop22 l m hm M k _ ?_ ?_ (m + 1) 0 rfl (Nat.zero_le _) (Nat.zero_le _) rfl))
 ·repeat (first | exact KP.nil | apply KP.cons rfl)
 ·intro h tm h0 h1
  simp only [G0, Z1, Z2, Z3, Z4, Z5, h0, h1, encEvs]
  refine end1 hf rfl ⟨?_, rfl⟩
  unfold longEvs; rw [h]; rfl
 ·intro h tm ht
  simp only [G0, Z1, Z2, Z3, Z4, Z5]
  refine end1 hf ht ⟨?_, rfl⟩
  unfold longEvs; rw [h]; rfl
end Go.Proofs.YtlbjplpehkgcdaaGreatDoor
namespace Go.Proofs.YtlbjplpehkgcdaaGreatDoor
open Go Go.Am Go.Pm
theorem idx127 (s : List UInt8) (c : UInt8) : PTp env Tryz.prog 171 [str s, encB c] (iv (idxI (idxOf c 0 s))) := fun M => by
 refine PT.indexByteString env_ext (by rfl) (by have := c.toNat_lt; simpa using this) ⟨?_, rfl⟩
 have e : ((c.toNat : Int)).toNat = c.toNat := by simp
 rw [e, byteAt_eq]
 show _ = iv (idxI (idxOf c 0 s))
 cases idxOf c 0 s <;> rfl
theorem idx124 (s : List UInt8) (c : UInt8) : PTp env Tryz.prog 168 [str s, encB c] (iv (idxI (idxOf c 0 s))) := fun M => by
 refine PT.enterR env_ok fn168 (by simp) comp168 fun k hk hf => RX.of env_ok ?_
 simp only [G0, Z1, Z2, Z3, Z4, Z5, argsP]
 refine cp0 (idx127 s c) (by decide) ?_
 simp only [G0, Z1, Z2, Z3, Z4, Z5]
 exact end1 hf rfl ⟨rfl, rfl⟩
theorem idx120 (s : List UInt8) (c : UInt8) : PTp env Tryz.prog 164 [str s, encB c] (iv (idxI (idxOf c 0 s))) := fun M => by
 refine PT.enterR env_ok fn164 (by simp) comp164 fun k hk hf => RX.of env_ok ?_
 simp only [G0, Z1, Z2, Z3, Z4, Z5, argsP]
 refine cp0 (idx124 s c) (by decide) ?_
 simp only [G0, Z1, Z2, Z3, Z4, Z5]
 exact end1 hf rfl ⟨rfl, rfl⟩
theorem idx116 (s : List UInt8) (c : UInt8) : PTp env Tryz.prog 160 [str s, str [c]] (iv (idxI (idxOf c 0 s))) := fun M => by
 refine PT.enterR env_ok fn160 (by simp) comp160 fun k hk hf => RX.of env_ok ?_
 have h0 : idxS (str [c]) (.v (.int .i64 0)) = some (encB c) := str_idx (i := 0) rfl
 have hc : (((1 : Nat) : Int) == 0) = false := rfl
 have hd : (((1 : Nat) : Int) == 1) = true := rfl
 simp only [G0, Z1, Z2, Z3, Z4, Z5, argsP, len_one, h0, str_eql]
 refine cW_s (fun hb => ?_) (fun hb => ?_)
 ·simp only [G0, Z1, Z2, Z3, Z4, Z5]
  have hs : s = [c] := by
   rw [hc, Bool.false_or, beq_iff_eq] at hb
   exact hb.symm
  subst hs
  refine end1 hf rfl ⟨?_, rfl⟩
  unfold idxOf; rw [if_pos rfl]; rfl
 ·simp only [G0, Z1, Z2, Z3, Z4, Z5, hd, h0]
  refine cp0 (idx124 s c) (by decide) ?_
  simp only [G0, Z1, Z2, Z3, Z4, Z5]
  exact end1 hf rfl ⟨rfl, rfl⟩
theorem idx105 (s : List UInt8) (c : UInt8) : PTp env Tryz.prog 148 [str s, str [c]] (iv (idxI (idxOf c 0 s))) := fun M => by
 refine PT.enterR env_ok fn148 (by simp) comp148 fun k hk hf => RX.of env_ok ?_
 simp only [G0, Z1, Z2, Z3, Z4, Z5, argsP]
 refine cp0 (idx116 s c) (by decide) ?_
 simp only [G0, Z1, Z2, Z3, Z4, Z5]
 exact end1 hf rfl ⟨rfl, rfl⟩
theorem rune114 (b : UInt8) (h : isL b = true) : ∃ i : Nat, PTp env Tryz.prog 157 [str letters, .v (.int .i32 b.toNat)] (iv i) := by
 have hb := isL_small b h
 obtain ⟨i, hi⟩ := idxOf_some (k := 0) (show b ∈ letters by simpa [isL] using h)
 refine ⟨i, fun M => ?_⟩
 have h1 : decide ((0 : Int) <= (b.toNat : Int)) = true := by simp
 have h2 : decide ((b.toNat : Int) < 128) = true := by simp; omega
 have h3 : convI .u8 (.v (.int .i32 (b.toNat : Int))) = some (encB b) := by
  show some (PV.v (.int .u8 (IntKind.u8.wrap (b.toNat : Int)))) = _
  have : IntKind.u8.wrap (b.toNat : Int) = b.toNat := by
   simp only [IntKind.wrap, IntKind.signed, IntKind.bits]
   simp
   omega
  rw [this]; rfl
 refine PT.enterR env_ok fn157 (by simp) comp157 fun k hk hf => RX.of env_ok ?_
 simp only [G0, Z1, Z2, Z3, Z4, Z5, argsP, h1, h2, h3]
 refine cp0 (idx120 letters b) (by decide) ?_
 simp only [G0, Z1, Z2, Z3, Z4, Z5]
 exact end1 hf rfl ⟨by rw [hi]; rfl, rfl⟩
theorem rune97 (b : UInt8) (h : isL b = true) : PTp env Tryz.prog 136 [str letters, .v (.int .i32 b.toNat)] (bv true) := fun M => by
 obtain ⟨i, hi⟩ := rune114 b h
 refine PT.enterR env_ok fn136 (by simp) comp136 fun k hk hf => RX.of env_ok ?_
 simp only [G0, Z1, Z2, Z3, Z4, Z5, argsP]
 refine cp0 hi (by decide) ?_
 have hge : decide ((i : Int) >= 0) = true := by simp
 simp only [G0, Z1, Z2, Z3, Z4, Z5, hge]
 exact end1 hf rfl ⟨rfl, rfl⟩
theorem rune96 (b : UInt8) (h : isL b = true) : PTp env Tryz.prog 135 [.v (.int .i32 b.toNat)] (bv false) := fun M => by
 refine PT.enterR env_ok fn135 (by simp) comp135 fun k hk hf => RX.of env_ok ?_
 simp only [G0, Z1, Z2, Z3, Z4, Z5, argsP]
 refine cp0 (rune97 b h) (by decide) ?_
 simp only [G0, Z1, Z2, Z3, Z4, Z5]
 exact end1 hf rfl ⟨rfl, rfl⟩
theorem decode_small (s : List UInt8) (i : Nat) (b : UInt8) (h : s[i]? = some b) (hb : b.toNat < 128) : Utf8.decode ⟨s.toArray⟩ i = (b.toNat, 1) := by
 have hi : i < s.length := by
  rcases Nat.lt_or_ge i s.length with h' | h'
  ·exact h'
  ·rw [List.getElem?_eq_none h'] at h; cases h
 have hi' : i < (⟨s.toArray⟩ : ByteArray).size := hi
 have e : (⟨s.toArray⟩ : ByteArray)[i]'hi' = b := by
  have : s[i] = b := by rw [List.getElem?_eq_getElem hi] at h; exact Option.some.inj h
  rw [<- this]; rfl
 have := decode_ascii ⟨s.toArray⟩ i hi' (by rw [e]; exact hb)
 rw [this, e]
theorem r_next {tm : List (Nat × PV)} {nt k : Nat} {M : PMem} {st : ByteArray} {pos : Nat} {os : List Pm.Obj} {A : Operand} (hA : pev tm A = .ptr k 0 0) (ho : os = [.str true st pos]) :
  rnext A ⟨tm, nt, k, os, M⟩ = if pos < st.data.toList.length then some (.tup [.v (.bool true), .v (.int .i64 pos), .v (.int .i32 (Utf8.decode st pos).1)], ⟨tm, nt, k, [.str true st (pos + (Utf8.decode st pos).2)], M⟩) else some (.tup [.v (.bool false)], ⟨tm, nt, k, os, M⟩) := by
 subst ho
 unfold rnext pnext
 simp only [hA, PSt.look, if_pos, List.getElem?_cons_zero, PSt.putO, List.set_cons_zero]
theorem bool_eql {c d : Bool} {a b : Bool} : pbin env .eql 4 c d (bv a) (bv b) = some (bv (a == b)) := by
 have h : aEq env 100 4 (.bool a) (.bool b) = some (a == b) := by kernel_rfl
 simp [pbin, eqFine, binV, h]
theorem loop119 (s : List UInt8) (hs : ∀ b ∈ s, isL b = true) (hl : s.length <= 1000000) (M : PMem) (k : Nat) (Q : AExit -> PSt -> Prop) (q : ∀ tm, Q (.exit 0) ⟨tm, 21, k, [.str true ⟨s.toArray⟩ s.length], M⟩) :
  ∀ d i, s.length - i = d -> i <= s.length →
  RXL env Tryz.prog none c163_13 ⟨[(10, .ptr k 0 0), (1, .fn 135 [] []), (2, bv true)], 21, k, [.str true ⟨s.toArray⟩ i], M⟩ Q := by
 intro d
 induction d with
 | zero =>
  intro i hd hi
  have : i = s.length := by omega
  subst this
  refine RXL.round (RX.of env_ok ?_)
  simp only [G0, Z1, Z2, Z3, Z4, Z5]
  rw [r_next rfl rfl, if_neg (Nat.lt_irrefl _)]
  simp only [G0, Z1, Z2, Z3, Z4, Z5]
  exact q _
 | succ d ih =>
  intro i hd hi
  have hi' : i < s.length := by omega
  obtain ⟨b, hb, _⟩ := getE hi'
  have hL := hs b (List.mem_of_getElem? hb)
  refine RXL.round (RX.of env_ok ?_)
  simp only [G0, Z1, Z2, Z3, Z4, Z5]
  rw [r_next rfl rfl, if_pos (show i < s.length from hi'), decode_small s i b hb (isL_small b hL)]
  simp only [G0, Z1, Z2, Z3, Z4, Z5]
  refine cp (first := []) (cap := []) (rune96 b hL) (by decide) ?_
  have hne : (false == true) = false := rfl
  simp only [G0, Z1, Z2, Z3, Z4, Z5, bool_eql, hne]
  refine RXL.weak (keepE ?_) (ih (i + 1) (by omega) (by omega))
  repeat (first | exact KP.nil | apply KP.cons rfl)
theorem idx119 (s : List UInt8) (hs : ∀ b ∈ s, isL b = true) (hl : s.length <= 1000000) : PTp env Tryz.prog 163 [str s, .fn 135 [] [], bv true] (iv (-1)) := fun M => by
 refine PT.enterR env_ok fn163 (by simp) comp163 fun k hk hf => RX.of env_ok ?_
 simp only [G0, Z1, Z2, Z3, Z4, Z5, argsP]
 refine RX.loop (RXL.weak (keepE ?_) (loop119 s hs hl M k _ ?_ s.length 0 rfl (Nat.zero_le _)))
 ·repeat (first | exact KP.nil | apply KP.cons rfl)
 ·intro tm
  simp only [G0, Z1, Z2, Z3, Z4, Z5]
  exact end1 hf rfl ⟨rfl, rfl⟩
theorem idx113 (s : List UInt8) (hs : ∀ b ∈ s, isL b = true) (hl : s.length <= 1000000) : PTp env Tryz.prog 156 [str s, .fn 135 [] []] (iv (-1)) := fun M => by
 refine PT.enterR env_ok fn156 (by simp) comp156 fun k hk hf => RX.of env_ok ?_
 simp only [G0, Z1, Z2, Z3, Z4, Z5, argsP]
 refine cp0 (idx119 s hs hl) (by decide) ?_
 simp only [G0, Z1, Z2, Z3, Z4, Z5]
 exact end1 hf rfl ⟨rfl, rfl⟩
theorem idx95 (s : List UInt8) (hs : ∀ b ∈ s, isL b = true) (hl : s.length <= 1000000) : PTp env Tryz.prog 134 [str s, .fn 135 [] []] (bv false) := fun M => by
 refine PT.enterR env_ok fn134 (by simp) comp134 fun k hk hf => RX.of env_ok ?_
 simp only [G0, Z1, Z2, Z3, Z4, Z5, argsP]
 refine cp0 (idx113 s hs hl) (by decide) ?_
 have hge : decide ((-1 : Int) >= 0) = false := rfl
 simp only [G0, Z1, Z2, Z3, Z4, Z5, hge]
 exact end1 hf rfl ⟨rfl, rfl⟩
end Go.Proofs.YtlbjplpehkgcdaaGreatDoor
namespace Go.Pm
open Go.RowKit Go.Am
theorem e_CGD {E : Env} {P : Program} {d g n : Nat} {w : Bool} {ar : List Operand} {ld : List RD} {tm : List (Nat × PV)} {nt k : Nat} {os : List Obj} {M : PMem} {R : PSt -> Prop} :
  RPD E P (dCG true d g w (.func n) ar :: ld) ⟨tm, nt, k, os, M⟩ R = cG E P d w (.d ld) tm nt k os M R (ar.map (pev tm)) (.fn n [] []) (tget tm g) := by
 unfold cG
 have hg : rg (some (g, w)) ⟨tm, nt, k, os, M⟩ = rgV w (tget tm g) := rg_V
 apply propext
 constructor
 ·rintro (⟨h0, h⟩ | ⟨-, h0, h⟩ | ⟨h0, -⟩)
  ·replace h0 := hg.symm.trans h0; rw [h0]; exact .inl h
  ·replace h0 := hg.symm.trans h0; rw [h0]; dsimp only; rw [<- nV_put]; exact h
  ·cases h0
 ·intro h
  split at h
  ·rename_i h0
   rcases h with ⟨g', f', c', e, h⟩ | ⟨a, i, e, _⟩
   ·cases e; exact .inl ⟨hg.trans h0, _, _, _, rfl, h⟩
   ·cases e
  ·rename_i h0
   rw [<- nV_put] at h
   exact .inr (.inl ⟨rfl, hg.trans h0, h⟩)
  ·exact h.elim
end Go.Pm
namespace Go.Proofs.YtlbjplpehkgcdaaGreatDoor
open Go Go.Am Go.Pm
theorem endc2 {Q : PV -> PMem -> Prop} {body : Code} {M : PMem} {os : List Pm.Obj} {tm : List (Nat × PV)} {k nt nt' a b t n : Nat} {ag : Bool} {v w : PV} (hf : fresh M k) (ht : tyP env t = some (ag, n)) (hv : loadP k os M ag n (tget tm a) = some v) (hw : tget tm b = w) (h : Q (.tup [v, w]) M) :
  ends env ⟨nt, [.cell a t, .tmp b], body⟩ Q .ret ⟨tm, nt', k, os, M⟩ := by
 subst hw
 exact ⟨.inr rfl, [v, _], M, by simp only [presults, presult, pload_P ht, hv], MLe.pop hf, h⟩
end Go.Proofs.YtlbjplpehkgcdaaGreatDoor
namespace Go.Proofs.YtlbjplpehkgcdaaGreatDoor
open Go Go.Am Go.Pm
theorem clone_bytes (l : List UInt8) (hl : l.length <= 1000000) : PTp env Tryz.prog 65 [encBytes l] (encBytes l) := PTp.of fun M => by
 refine PT.enterR env_ok fn65 (by simp) comp65 fun k hk hf => RX.of env_ok ?_
 simp only [G0, Z1, Z2, Z3, Z4, Z5, argsP, encBytes]
 refine nL_lst fun b hb => ?_
 simp only [G0, Z1, Z2, Z3, Z4, Z5]
 cases b with
 | true =>
  have hz : l = [] := by
   cases l with
   | nil => rfl
   | cons x l => exact absurd (hb (by simp)) (by simp)
  subst hz
  simp only [G0, Z1, Z2, Z3, Z4, Z5, Bool.xor_false]
  exact end1 hf rfl ⟨PLe.trans (PLe.nil 0 1) (PLe.no _ _ _ _), rfl⟩
 | false =>
  simp only [G0, Z1, Z2, Z3, Z4, Z5, Bool.xor_false]
  by_cases hz : l.length = 0
  ·have : l = [] := List.length_eq_zero_iff.1 hz
   subst this
   refine aL ?_
   simp only [G0, Z1, Z2, Z3, Z4, Z5, List.map_nil, ap_nil]
   exact end1 hf rfl ⟨PLe.no _ _ _ _, rfl⟩
  ·have hc : (0 = 0 \/ 1 = 1) /\ (2 * (0 + l.length) + 2000) * 1 <= 281474976710656 /\ 0 + l.length <= 4611686018427387904 /\ 1 < 4096 /\ 1 = 1 /\ (l.map encB).all pone = true := ⟨.inl rfl, by omega, by omega, by decide, rfl, all_encB l⟩
   refine aL ?_
   rw [ap_full hz hc]
   simp only [G0, Z1, Z2, Z3, Z4, Z5]
   exact end1 hf rfl ⟨PLe.no _ _ _ _, rfl⟩
theorem clone_spans (l : List Span) (hl : l.length <= 1000000) : PTp env Tryz.prog 66 [encSpans l] (encSpans l) := PTp.of fun M => by
 refine PT.enterR env_ok fn66 (by simp) comp66 fun k hk hf => RX.of env_ok ?_
 simp only [G0, Z1, Z2, Z3, Z4, Z5, argsP, encSpans]
 refine nL_lst fun b hb => ?_
 simp only [G0, Z1, Z2, Z3, Z4, Z5]
 cases b with
 | true =>
  have hz : l = [] := by
   cases l with
   | nil => rfl
   | cons x l => exact absurd (hb (by simp)) (by simp)
  subst hz
  simp only [G0, Z1, Z2, Z3, Z4, Z5, Bool.xor_false]
  exact end1 hf rfl ⟨PLe.trans (PLe.nil 0 3) (PLe.no _ _ _ _), rfl⟩
 | false =>
  simp only [G0, Z1, Z2, Z3, Z4, Z5, Bool.xor_false]
  by_cases hz : l.length = 0
  ·have : l = [] := List.length_eq_zero_iff.1 hz
   subst this
   refine aL ?_
   simp only [G0, Z1, Z2, Z3, Z4, Z5, List.flatMap_nil, ap_nil]
   exact end1 hf rfl ⟨PLe.no _ _ _ _, rfl⟩
  ·have hc : (0 = 0 \/ 3 = 3) /\ (2 * (0 + l.length) + 2000) * 24 <= 281474976710656 /\ 0 + l.length <= 4611686018427387904 /\ 3 < 4096 /\ 3 = 3 /\ (l.flatMap encSpan).all pone = true := ⟨.inl rfl, by omega, by omega, by decide, rfl, all_spans l⟩
   refine aL ?_
   rw [ap_full hz hc]
   simp only [G0, Z1, Z2, Z3, Z4, Z5]
   exact end1 hf rfl ⟨PLe.no _ _ _ _, rfl⟩
end Go.Proofs.YtlbjplpehkgcdaaGreatDoor
namespace Go.Proofs.YtlbjplpehkgcdaaGreatDoor
open Go Go.Am Go.Pm
def tabOf (p : List UInt8) : List PV := (List.range 256).map fun c => bv (p.any fun b => b.toNat == c)
theorem tab_len (p : List UInt8) : (tabOf p).length = 256 := by simp [tabOf]
theorem tab_all (p : List UInt8) : (tabOf p).all pone = true := by
 unfold tabOf
 rw [List.all_map, List.all_eq_true]
 intro x _; rfl
theorem any_toNat (p : List UInt8) (b : UInt8) : (p.any fun x => x.toNat == b.toNat) = p.contains b := by
 induction p with
 | nil => rfl
 | cons x p ih =>
  rw [List.any_cons, ih, List.contains_cons]
  congr 1
  by_cases h : b = x
  ·subst h; simp
  ·have h1 : (b == x) = false := by simpa using h
   have h2 : (x.toNat == b.toNat) = false := by
    cases e : (x.toNat == b.toNat) with
    | false => rfl
    | true => exact absurd (UInt8.toNat.inj (by simpa using e)).symm h
   rw [h1, h2]
theorem tab_get (p : List UInt8) (b : UInt8) : (tabOf p)[b.toNat * 1]? = some (bv (p.contains b)) := by
 have hb := b.toNat_lt
 have : b.toNat < 256 := by simpa using hb
 rw [Nat.mul_one, tabOf, List.getElem?_map, List.getElem?_range this, Option.map_some, any_toNat]
theorem tab_put (p : List UInt8) (b : UInt8) : storeO 1 (b.toNat * 1) (bv true) (some (.row .rw 0 (tabOf p))) = some (.row .rw 0 (tabOf (p ++ [b]))) := by
 have hb := b.toNat_lt
 have hb : b.toNat < 256 := by simpa using hb
 rw [storeO_eq (n := 1) ⟨rfl, by rw [tab_len]; show _ + 1 <= 256; omega, rfl⟩]
 congr 2
 rw [Nat.mul_one]
 apply List.ext_getElem?
 intro i
 show ((tabOf p).take b.toNat ++ ([bv true] ++ (tabOf p).drop (b.toNat + 1)))[i]? = _
 have hl := tab_len p
 rcases Nat.lt_trichotomy i b.toNat with h | h | h
 ·rw [List.getElem?_append_left (by rw [List.length_take, hl]; omega), List.getElem?_take_of_lt h, tabOf, tabOf, List.getElem?_map, List.getElem?_map, List.getElem?_range (by omega)]
  simp only [Option.map_some, List.any_append, List.any_cons, List.any_nil, Bool.or_false]
  have : (b.toNat == i) = false := by simp; omega
  rw [this, Bool.or_false]
 ·subst h
  rw [List.getElem?_append_right (by rw [List.length_take, hl]; omega), List.length_take, hl, Nat.min_eq_left (by omega), Nat.sub_self]
  show some (bv true) = _
  rw [tabOf, List.getElem?_map, List.getElem?_range (by omega)]
  simp
 ·rw [List.getElem?_append_right (by rw [List.length_take, hl]; omega), List.length_take, hl, Nat.min_eq_left (by omega), List.getElem?_append_right (by simp; omega), List.getElem?_drop]
  have e : b.toNat + 1 + (i - b.toNat - [bv true].length) = i := by simp; omega
  rw [e, tabOf, tabOf, List.getElem?_map, List.getElem?_map]
  rcases Nat.lt_or_ge i 256 with h' | h'
  ·rw [List.getElem?_range h']
   simp only [Option.map_some, List.any_append, List.any_cons, List.any_nil, Bool.or_false]
   have : (b.toNat == i) = false := by simp; omega
   rw [this, Bool.or_false]
  ·rw [List.getElem?_eq_none (by simpa using h')]; rfl
theorem tab_addr {k i : Nat} (b : UInt8) : iaddrA 256 1 (.ptr k i 0) (encB b) = some (.ptr k i (b.toNat * 1)) := by
 have hb := b.toNat_lt
 have hb : b.toNat < 256 := by simpa using hb
 unfold iaddrA encB
 rw [pnat_int]
 dsimp only
 rw [if_pos hb, Nat.zero_add]
theorem tab_nil : tabOf [] = List.replicate 256 (bv false) := by
 unfold tabOf
 simp only [List.any_nil]
 rfl
theorem contains117 (p : List UInt8) (b : UInt8) {M0 : PMem} {a i : Nat} {w : Wm} (hM : M0 a i = some (.row w 0 (tabOf p))) : PTs env Tryz.prog M0 161 [.ptr a i 0, encB b] (bv (p.contains b)) := by
 refine PTs.enter env_ok fn161 (by simp) comp161 fun M k hs hk hf => ?_
 have hM' := hs _ _ _ hM
 have hld : ∀ {ag : Bool} {n o : Nat} {os : List Pm.Obj}, loadP k os M ag n (.ptr a i o) = rowTake ag n o (M a i) := loadP_out (fresh_ne hf hM')
 simp only [G0, Z1, Z2, Z3, Z4, Z5, argsP, tab_addr, hld, hM', tab_get]
 exact end1 hf rfl ⟨rfl, rfl⟩
def trR (p s : List UInt8) : List UInt8 := (s.reverse.dropWhile p.contains).reverse
def trL (p s : List UInt8) : List UInt8 := s.dropWhile p.contains
theorem trR_snoc (p s : List UInt8) (b : UInt8) : trR p (s ++ [b]) = if p.contains b = true then trR p s else s ++ [b] := by
 unfold trR
 rw [List.reverse_append, List.reverse_singleton, List.singleton_append, List.dropWhile_cons]
 split
 ·rfl
 ·simp
theorem trL_nil (p s : List UInt8) : trL p s = [] ↔ s.all p.contains = true := by
 unfold trL
 induction s with
 | nil => simp
 | cons b s ih =>
  rw [List.dropWhile_cons, List.all_cons]
  split
  ·rename_i h; rw [h, Bool.true_and]; exact ih
  ·rename_i h; simp at h; simp [h]
theorem trR_all (p s : List UInt8) (h : s.all p.contains = true) : trR p s = [] := by
 have : s.reverse.dropWhile p.contains = [] := (trL_nil p s.reverse).2 (by rw [List.all_reverse]; exact h)
 unfold trR
 rw [this]; rfl
theorem trR_split (p s : List UInt8) : ∃ t, s = trR p s ++ t /\ t.all p.contains = true := by
 unfold trR
 refine ⟨(s.reverse.takeWhile p.contains).reverse, ?_, ?_⟩
 ·rw [<- List.reverse_append, List.takeWhile_append_dropWhile, List.reverse_reverse]
 ·rw [List.all_reverse]
  exact List.all_takeWhile
theorem trim_nil (p s : List UInt8) : trL p (trR p s) = [] ↔ s.all p.contains = true := by
 constructor
 ·intro h
  obtain ⟨t, h1, h2⟩ := trR_split p s
  rw [h1, List.all_append, (trL_nil p _).1 h, h2]; rfl
 ·intro h; rw [trR_all p s h]; rfl
theorem trR_len (p s : List UInt8) : (trR p s).length <= s.length := by
 obtain ⟨t, h1, _⟩ := trR_split p s
 have := congrArg List.length h1
 rw [List.length_append] at this; omega
theorem trimR (p : List UInt8) {M0 : PMem} {a i : Nat} {w : Wm} (hM : M0 a i = some (.row w 0 (tabOf p))) (M : PMem) (k : Nat) (hs : Pm.Sub M0 M) (hf : fresh M k) (Q : AExit -> PSt -> Prop) :
  ∀ (n : Nat) (s : List UInt8), s.length = n -> n <= 1000000 -> (∀ tm, tget tm 0 = str (trR p s) -> Q (.exit 0) ⟨tm, 22, k, [], M⟩) -> RXL env Tryz.prog none c153_10 ⟨[(0, str s), (1, .ptr a i 0)], 22, k, [], M⟩ Q := by
 intro n
 induction n with
 | zero =>
  intro s hs0 _ q
  have : s = [] := List.length_eq_zero_iff.1 hs0
  subst this
  refine RXL.round (RX.of env_ok ?_)
  have h0 : decide (((0 : Nat) : Int) > 0) = false := rfl
  simp only [G0, Z1, Z2, Z3, Z4, Z5, len_nil, h0]
  exact q _ rfl
 | succ n ih =>
  intro s hs0 hn q
  have hl : n < s.length := by omega
  obtain ⟨b, hb, _⟩ := getE hl
  have h0 : decide ((s.length : Int) > 0) = true := by simp; omega
  have hw : IntKind.i64.wrap ((s.length : Int) - 1) = (n : Int) := by rw [wrap64_id (by omega) (by omega)]; omega
  have hsplit : s = s.take n ++ [b] := by
   have := List.take_append_drop n s
   have hd : s.drop n = [b] := by
    rw [List.drop_eq_getElem_cons hl, List.drop_of_length_le (by omega)]
    rw [List.getElem?_eq_getElem hl] at hb
    rw [Option.some.inj hb]
   rw [hd] at this; exact this.symm
  have hto : sliceS (str s) none (some (iv n)) = some (str (s.take n)) := str_to (by omega)
  have hix : idxS (str s) (iv n) = some (encB b) := str_idx hb
  have htr : trR p s = if p.contains b = true then trR p (s.take n) else s := by
   conv => lhs; rw [hsplit]
   rw [trR_snoc, <- hsplit]
  rw [htr] at q
  refine RXL.round (RX.of env_ok ?_)
  simp only [G0, Z1, Z2, Z3, Z4, Z5, len_str, h0, hw, hix]
  refine cs0 (contains117 p b hM) (hs.sseg hf) (by decide) ?_
  cases hc : p.contains b with
  | false =>
   rw [hc] at q
   simp only [G0, Z1, Z2, Z3, Z4, Z5, Bool.not_true, Bool.not_false]
   exact q _ rfl
  | true =>
   rw [hc] at q
   simp only [G0, Z1, Z2, Z3, Z4, Z5, len_str, hw, hto, Bool.not_true, Bool.not_false]
   refine RXL.weak (keepE ?_) (ih (s.take n) (by simp; omega) (by omega) q)
   repeat (first | exact KP.nil | apply KP.cons rfl)
theorem trimL (p : List UInt8) {M0 : PMem} {a i : Nat} {w : Wm} (hM : M0 a i = some (.row w 0 (tabOf p))) (M : PMem) (k : Nat) (hs : Pm.Sub M0 M) (hf : fresh M k) (Q : AExit -> PSt -> Prop) :
  ∀ (n : Nat) (s : List UInt8), s.length = n -> n <= 1000000 -> (∀ tm, tget tm 0 = str (trL p s) -> Q (.exit 0) ⟨tm, 16, k, [], M⟩) -> RXL env Tryz.prog none c152_10 ⟨[(0, str s), (1, .ptr a i 0)], 16, k, [], M⟩ Q := by
 intro n
 induction n with
 | zero =>
  intro s hs0 _ q
  have : s = [] := List.length_eq_zero_iff.1 hs0
  subst this
  refine RXL.round (RX.of env_ok ?_)
  have h0 : decide (((0 : Nat) : Int) > 0) = false := rfl
  simp only [G0, Z1, Z2, Z3, Z4, Z5, len_nil, h0]
  exact q _ rfl
 | succ n ih =>
  intro s hs0 hn q
  cases s with
  | nil => cases hs0
  | cons b s =>
  have h0 : decide (((b :: s).length : Int) > 0) = true := by simp
  have hfr : sliceS (str (b :: s)) (some (iv 1)) none = some (str s) := str_from (i := 1) (by simp)
  have hix : idxS (str (b :: s)) (iv 0) = some (encB b) := str_idx (i := 0) rfl
  have hln : lenS (str (b :: s)) = some (iv ((b :: s).length : Nat)) := rfl
  have htr : trL p (b :: s) = if p.contains b = true then trL p s else b :: s := by
   unfold trL; rw [List.dropWhile_cons]
  rw [htr] at q
  generalize (b :: s).length = n' at h0 hln
  refine RXL.round (RX.of env_ok ?_)
  simp only [G0, Z1, Z2, Z3, Z4, Z5, hln, h0, hix]
  refine cs0 (contains117 p b hM) (hs.sseg hf) (by decide) ?_
  cases hc : p.contains b with
  | false =>
   rw [hc] at q
   simp only [G0, Z1, Z2, Z3, Z4, Z5, Bool.not_true, Bool.not_false]
   exact q _ rfl
  | true =>
   rw [hc] at q
   simp only [G0, Z1, Z2, Z3, Z4, Z5, hfr, Bool.not_true, Bool.not_false]
   refine RXL.weak (keepE ?_) (ih s (by simpa using hs0) (by omega) q)
   repeat (first | exact KP.nil | apply KP.cons rfl)
theorem trim110 (p s : List UInt8) (hl : s.length <= 1000000) {M0 : PMem} {a i : Nat} {w : Wm} (hM : M0 a i = some (.row w 0 (tabOf p))) : PTs env Tryz.prog M0 153 [str s, .ptr a i 0] (str (trR p s)) := by
 refine PTs.enter env_ok fn153 (by simp) comp153 fun M k hs hk hf => ?_
 simp only [G0, Z1, Z2, Z3, Z4, Z5, argsP]
 refine RX.loop (RXL.weak (keepE ?_) (trimR p hM M k hs hf _ _ s rfl hl fun tm ht => ?_))
 ·repeat (first | exact KP.nil | apply KP.cons rfl)
 ·simp only [G0, Z1, Z2, Z3, Z4, Z5, ht]
  exact end1 hf rfl ⟨rfl, rfl⟩
theorem trim109 (p s : List UInt8) (hl : s.length <= 1000000) {M0 : PMem} {a i : Nat} {w : Wm} (hM : M0 a i = some (.row w 0 (tabOf p))) : PTs env Tryz.prog M0 152 [str s, .ptr a i 0] (str (trL p s)) := by
 refine PTs.enter env_ok fn152 (by simp) comp152 fun M k hs hk hf => ?_
 simp only [G0, Z1, Z2, Z3, Z4, Z5, argsP]
 refine RX.loop (RXL.weak (keepE ?_) (trimL p hM M k hs hf _ _ s rfl hl fun tm ht => ?_))
 ·repeat (first | exact KP.nil | apply KP.cons rfl)
 ·simp only [G0, Z1, Z2, Z3, Z4, Z5, ht]
  exact end1 hf rfl ⟨rfl, rfl⟩
theorem loop108 (cs : List UInt8) (hc : ∀ b ∈ cs, b.toNat < 128) (hl : cs.length <= 1000000) (M : PMem) (k : Nat) (Q : AExit -> PSt -> Prop) (q : ∀ tm, tget tm 2 = .ptr k 0 0 -> Q (.exit 0) ⟨tm, 21, k, [.row .rw 0 (tabOf cs)], M⟩) :
  ∀ d i, cs.length - i = d -> i <= cs.length →
  RXL env Tryz.prog none c151_17 ⟨[(4, iv i), (2, .ptr k 0 0), (0, str cs)], 21, k, [.row .rw 0 (tabOf (cs.take i))], M⟩ Q := by
 intro d
 induction d with
 | zero =>
  intro i hd hi
  have : i = cs.length := by omega
  subst this
  have h0 : decide ((cs.length : Int) < (cs.length : Int)) = false := by simp
  refine RXL.round (RX.of env_ok ?_)
  rw [List.take_length]
  simp only [G0, Z1, Z2, Z3, Z4, Z5, len_str, h0]
  exact q _ rfl
 | succ d ih =>
  intro i hd hi
  have hi' : i < cs.length := by omega
  obtain ⟨b, hb, _⟩ := getE hi'
  have h0 : decide ((i : Int) < (cs.length : Int)) = true := by simp; omega
  have hb2 := hc b (List.mem_of_getElem? hb)
  have h1 : decide ((b.toNat : Int) >= 128) = false := by simp; omega
  have hix : idxS (str cs) (iv i) = some (encB b) := str_idx hb
  have hw : IntKind.i64.wrap ((i : Int) + 1) = ((i + 1 : Nat) : Int) := by rw [wrap64_id (by omega) (by omega)]; rfl
  have htk : cs.take i ++ [b] = cs.take (i + 1) := by
   rw [List.take_add_one, hb]; rfl
  refine RXL.round (RX.of env_ok ?_)
  have hge : ∀ {t : Nat} {c d : Bool}, pbin env .geq t c d (encB b) (.v (.int .u8 128)) = some (bv false) := fun {t c d} => by
   unfold encB; rw [pbin_geq, h1]
  have hput := tab_put (cs.take i) b
  rw [htk] at hput
  simp only [G0, Z1, Z2, Z3, Z4, Z5, len_str, h0, hix, hge, tab_addr, hput, hw]
  refine RXL.weak (keepE ?_) (ih (i + 1) (by omega) (by omega))
  repeat (first | exact KP.nil | apply KP.cons rfl)
theorem tp160 : tyP env 161 = some (true, 256) := by kernel_rfl
theorem letters_small : ∀ b ∈ letters, b.toNat < 128 := by decide
theorem set108 : PTp env Tryz.prog 151 [str letters] (.tup [.agg (tabOf letters), bv true]) := fun M => by
 refine PT.enterR env_ok fn151 (by simp) comp151 fun k hk hf => RX.of env_ok ?_
 have h0 := tab_nil
 simp only [List.replicate] at h0
 simp only [G0, Z1, Z2, Z3, Z4, Z5, argsP]
 rw [<- h0]
 refine RX.loop (RXL.weak (keepE ?_) (loop108 letters letters_small (by decide) M k _ (fun tm ht => ?_) _ 0 rfl (Nat.zero_le _)))
 ·repeat (first | exact KP.nil | apply KP.cons rfl)
 ·have htk : (tabOf letters).take 256 = tabOf letters := List.take_of_length_le (by rw [tab_len]; exact Nat.le_refl _)
  have hst : storeO 256 0 (.agg (tabOf letters)) (some (.row .rw 0 (tabOf letters))) = some (.row .rw 0 (tabOf letters)) := by
   rw [storeO_eq (x := .agg (tabOf letters)) (n := 256) (o := 0) (cs := tabOf letters) ⟨tab_len _, by rw [pcells_agg, tab_len]; decide, tab_all _⟩, pcells_agg, psplice_all rfl]
  simp only [G0, Z1, Z2, Z3, Z4, Z5, ht, tab_len, htk, hst]
  exact endc2 hf tp160 ((congrArg _ (show tget _ 2 = .ptr k 0 0 from ht)).trans (loadP_own.trans (by show ptake true 256 (tabOf letters) 0 = _; rw [ptake_all (tab_len _).symm]))) rfl ⟨rfl, rfl⟩
def trims (s : List UInt8) : List UInt8 := if s = [] then [] else trL letters (trR letters s)
theorem trims_nil (s : List UInt8) : (trims s == []) = s.all isL := by
 unfold trims
 split
 ·rename_i h; subst h; rfl
 ·have := trim_nil letters s
  have e : s.all isL = s.all letters.contains := rfl
  rw [e]
  cases h : s.all letters.contains with
  | true => simpa using this.2 h
  | false =>
   have h2 : ¬ (trL letters (trR letters s) = []) := fun e => by rw [this.1 e] at h; cases h
   simpa using h2
theorem trim94 (s : List UInt8) (hl : s.length <= 1000000) : PTp env Tryz.prog 133 [str s, str letters] (str (trims s)) := by
 by_cases hs : s = []
 ·subst hs
  intro M
  refine PT.enterR env_ok fn133 (by simp) comp133 fun k hk hf => RX.of env_ok ?_
  have e1 : (([] : List UInt8) == []) = true := rfl
  simp only [G0, Z1, Z2, Z3, Z4, Z5, argsP, str_eql, e1, Bool.not_true, Bool.true_or]
  exact end1 hf rfl ⟨rfl, rfl⟩
 ·have e1 : (s == []) = false := by simpa using hs
  have e2 : (letters == []) = false := rfl
  have e3 : lenS (str letters) = some (iv 39) := rfl
  have e4 : ((39 : Int) == 1) = false := rfl
  have htk : (tabOf letters).take 256 = tabOf letters := List.take_of_length_le (by rw [tab_len]; exact Nat.le_refl _)
  have h0 := tab_nil
  simp only [List.replicate] at h0
  have hst : storeO 256 0 (.agg (tabOf letters)) (some (.row .rw 0 (tabOf []))) = some (.row .rw 0 (tabOf letters)) := by
   rw [storeO_eq (x := .agg (tabOf letters)) (n := 256) (o := 0) (cs := tabOf []) ⟨tab_len _, by rw [pcells_agg, tab_len, tab_len]; decide, tab_all _⟩, pcells_agg, psplice_all (by rw [tab_len, tab_len])]
  rw [h0] at hst
  intro M
  refine PT.enterR env_ok fn133 (by simp) comp133 fun k hk hf => RX.of env_ok ?_
  simp only [G0, Z1, Z2, Z3, Z4, Z5, argsP, str_eql, e1, e2, e3, e4, Bool.not_true, Bool.not_false, Bool.or_false]
  refine cp0 set108 (by decide) ?_
  simp only [G0, Z1, Z2, Z3, Z4, Z5, hst]
  have hM : (seg M k [.row .rw 0 (tabOf letters)]) k 0 = some (.row .rw 0 (tabOf letters)) := by rw [seg_same]; rfl
  refine cs0 (trim110 letters s hl hM) (Pm.Sub.refl _) (by decide) ?_
  simp only [G0, Z1, Z2, Z3, Z4, Z5]
  refine cs0 (trim109 letters _ (Nat.le_trans (trR_len _ _) hl) hM) (Pm.Sub.refl _) (by decide) ?_
  simp only [G0, Z1, Z2, Z3, Z4, Z5]
  refine end1 hf rfl ⟨?_, rfl⟩
  show str _ = str _
  unfold trims
  rw [if_neg hs]
theorem str_ne {E : Env} {t : Nat} {c d : Bool} {a b : List UInt8} : pbin E .neq t c d (str a) (str b) = some (bv (a != b)) := by
 rw [str_neq]; rfl
def partOk (s : List UInt8) : Bool := (((s != [] && decide ((s.length : Int) <= 12)) && s != [46]) && s != [46, 46]) && s.all isL
theorem part82 (s : List UInt8) (hl : s.length <= 1000000) : PTp env Tryz.prog 114 [str s] (bv (partOk s)) := fun M => by
 refine PT.enterR env_ok fn114 (by simp) comp114 fun k hk hf => RX.of env_ok ?_
 simp only [G0, Z1, Z2, Z3, Z4, Z5, argsP, str_ne, str_eql, len_str]
 refine cg0T (fun h => by simp only [h, cnd_t]; exact trim94 s hl) (by decide) ?_
 simp only [G0, Z1, Z2, Z3, Z4, Z5, str_eql, trims_nil]
 refine cg0T (fun h => by
  simp only [h, cnd_t]
  rw [Bool.and_eq_true] at h
  exact idx95 s (List.all_eq_true.1 h.2) hl) (by decide) ?_
 simp only [G0, Z1, Z2, Z3, Z4, Z5]
 refine end1 hf rfl ⟨?_, rfl⟩
 show bv _ = bv _
 unfold partOk
 rw [Bool.not_false, Bool.and_true]
end Go.Proofs.YtlbjplpehkgcdaaGreatDoor
noncomputable section
namespace Go.Proofs.YtlbjplpehkgcdaaGreatDoor
open Go Go.Am Go.Pm
def parts : List UInt8 -> List (List UInt8)
 | [] => [[]]
 | c :: r => if c = 47 then [] :: parts r else match parts r with
  | p :: ps => (c :: p) :: ps
  | [] => [[c]]
theorem idxOf_succ (c : UInt8) : ∀ (l : List UInt8) (k : Nat), idxOf c (k + 1) l = (idxOf c k l).map (· + 1)
 | [], k => rfl
 | b :: r, k => by
  unfold idxOf
  split
  ·rfl
  ·exact idxOf_succ c r (k + 1)
theorem parts_none : ∀ {s : List UInt8}, idxOf 47 0 s = none -> parts s = [s]
 | [], _ => rfl
 | c :: r, h => by
  unfold idxOf at h
  split at h
  ·cases h
  ·rename_i hc
   rw [idxOf_succ, Option.map_eq_none_iff] at h
   unfold parts
   rw [if_neg hc, parts_none h]
theorem parts_some : ∀ {s : List UInt8} {j : Nat}, idxOf 47 0 s = some j -> parts s = s.take j :: parts (s.drop (j + 1))
 | [], _, h => by cases h
 | c :: r, j, h => by
  unfold idxOf at h
  split at h
  ·rename_i hc
   cases h
   conv => lhs; unfold parts
   rw [if_pos hc]; rfl
  ·rename_i hc
   rw [idxOf_succ] at h
   cases hj : idxOf 47 0 r with
   | none => rw [hj] at h; cases h
   | some j' =>
    rw [hj] at h
    cases h
    conv => lhs; unfold parts
    rw [if_neg hc, parts_some hj]; rfl
def folds {σ : Type} (nxt : σ -> List UInt8 -> Option σ) : σ -> List (List UInt8) -> Option σ
 | st, [] => some st
 | st, p :: ps => match nxt st p with
  | some st' => folds nxt st' ps
  | none => none
def bx (s : List UInt8) : List Pm.Obj := [.row .rw 0 [str s], .row .rw 0 [str [47]], .row .rw 0 [iv 0]]
def mm (M0 : PMem) (kb k : Nat) (s : List UInt8) (os : List Pm.Obj) : PMem := seg (seg M0 kb (bx s)) k os
theorem mm_fresh {M0 : PMem} {kb k k2 : Nat} {s : List UInt8} {os : List Pm.Obj} (hne : kb ≠ k) (ho : 0 < os.length) (h : fresh (mm M0 kb k s os) k2) : k2 ≠ k /\ k2 ≠ kb /\ fresh M0 k2 := by
 have h1 : k2 ≠ k := fun e => by
  subst e
  have := h 0
  unfold mm at this
  rw [seg_same, List.getElem?_eq_getElem ho] at this; cases this
 have h2 : k2 ≠ kb := fun e => by
  subst e
  have := h 0
  unfold mm at this
  rw [seg_ne _ _ _ hne, seg_same] at this; cases this
 refine ⟨h1, h2, fun j => ?_⟩
 have := h j
 unfold mm at this
 rwa [seg_ne _ _ _ h1, seg_ne _ _ _ h2] at this
theorem fresh_mm {M0 : PMem} {kb k k2 : Nat} (s : List UInt8) (os : List Pm.Obj) (h : k2 ≠ k /\ k2 ≠ kb /\ fresh M0 k2) : fresh (mm M0 kb k s os) k2 := fun j => by
 unfold mm
 rw [seg_ne _ _ _ h.1, seg_ne _ _ _ h.2.1]; exact h.2.2 j
theorem mm_ld {M0 : PMem} {kb k k2 j n o : Nat} {s : List UInt8} {os os' : List Pm.Obj} {ag : Bool} (hne : kb ≠ k) (h2 : k2 ≠ kb) : loadP k2 os' (mm M0 kb k s os) ag n (.ptr kb j o) = rowTake ag n o (bx s)[j]? := by
 rw [loadP_out (Ne.symm h2)]; unfold mm; rw [seg_ne _ _ _ hne, seg_same]
theorem mm_st {M0 : PMem} {kb k k2 nt : Nat} {s s' : List UInt8} {os os' : List Pm.Obj} {tm : List (Nat × PV)} (hne : kb ≠ k) (h2 : k2 ≠ kb) :
  storeP tm nt k2 os' (mm M0 kb k s os) 1 (str s') (.ptr kb 0 0) = some (.junk, ⟨tm, nt, k2, os', mm M0 kb k s' os⟩) := by
 have e1 : mm M0 kb k s os kb 0 = some (.row .rw 0 [str s]) := by unfold mm; rw [seg_ne _ _ _ hne, seg_same]; rfl
 rw [storeP_out (Ne.symm h2), e1, storeO_eq (n := 1) ⟨rfl, Nat.le_refl 1, rfl⟩, stO_eq]
 congr 4
 unfold mm
 rw [put_seg_ne hne, put_seg (show 0 < 3 by decide)]; rfl
theorem mm_ldk {M0 : PMem} {kb k k2 j n o : Nat} {s : List UInt8} {os os' : List Pm.Obj} {ag : Bool} (h2 : k2 ≠ k) : loadP k2 os' (mm M0 kb k s os) ag n (.ptr k j o) = rowTake ag n o os[j]? := by
 rw [loadP_out (Ne.symm h2)]; unfold mm; rw [seg_same]
def stK (tm : List (Nat × PV)) (nt k2 : Nat) (os' : List Pm.Obj) (M0 : PMem) (kb k : Nat) (s : List UInt8) (os : List Pm.Obj) (j : Nat) : Option Pm.Obj -> Option (PV × PSt)
 | some ob => some (.junk, ⟨tm, nt, k2, os', mm M0 kb k s (os.set j ob)⟩)
 | none => none
theorem stK_some {tm : List (Nat × PV)} {nt k2 : Nat} {os' : List Pm.Obj} {M0 : PMem} {kb k : Nat} {s : List UInt8} {os : List Pm.Obj} {j : Nat} {ob : Pm.Obj} : stK tm nt k2 os' M0 kb k s os j (some ob) = some (.junk, ⟨tm, nt, k2, os', mm M0 kb k s (os.set j ob)⟩) := rfl
theorem mm_stk {M0 : PMem} {kb k k2 nt n o j : Nat} {s : List UInt8} {os os' : List Pm.Obj} {tm : List (Nat × PV)} {v : PV} (h2 : k2 ≠ k) :
  storeP tm nt k2 os' (mm M0 kb k s os) n v (.ptr k j o) = stK tm nt k2 os' M0 kb k s os j (storeO n o v os[j]?) := by
 have e1 : mm M0 kb k s os k j = os[j]? := by unfold mm; rw [seg_same]
 rw [storeP_out (Ne.symm h2), e1]
 cases e : storeO n o v os[j]? with
 | none => rfl
 | some ob =>
  have hj : j < os.length := by
   rcases Nat.lt_or_ge j os.length with h | h
   ·exact h
   ·rw [List.getElem?_eq_none h] at e; cases e
  rw [stO_eq, stK_some]
  unfold mm
  rw [put_seg hj]
theorem mm_put {M0 : PMem} {kb k i : Nat} {s : List UInt8} {os : List Pm.Obj} {o : Pm.Obj} (h : i < os.length) : putM (mm M0 kb k s os) k i o = mm M0 kb k s (os.set i o) := by
 unfold mm; rw [put_seg h]
theorem seg_comm {M : PMem} {a b : Nat} {x y : List Pm.Obj} (h : a ≠ b) : seg (seg M a x) b y = seg (seg M b y) a x := by
 funext c j
 by_cases h1 : c = b
 ·subst h1; rw [seg_same, seg_ne _ _ _ (Ne.symm h), seg_same]
 ·rw [seg_ne _ _ _ h1]
  by_cases h2 : c = a
  ·subst h2; rw [seg_same, seg_same]
  ·rw [seg_ne _ _ _ h2, seg_ne _ _ _ h2, seg_ne _ _ _ h1]
theorem loop103 {σ : Type} {M0 : PMem} {kb k i k2 : Nat} (hne : kb ≠ k) (os : σ -> List Pm.Obj) (nxt : σ -> List UInt8 -> Option σ) (I : σ -> Prop) (hI : ∀ st p st', I st -> nxt st p = some st' -> I st') (Z : List Pm.Obj -> Prop) (h2 : k2 ≠ k /\ k2 ≠ kb /\ fresh M0 k2)
  (hR : ∀ st s part, I st -> part.length <= 1000000 -> PRd env Tryz.prog k i [str part] (mm M0 kb k s (os st)) (fun x M1 => (∃ st', nxt st part = some st' /\ x = bv true /\ M1 = mm M0 kb k s (os st')) \/ (nxt st part = none /\ x = bv false /\ ∃ os', Z os' /\ M1 = mm M0 kb k s os')))
  (Q : AExit -> PSt -> Prop) : ∀ (n : Nat) (s : List UInt8) (st : σ), I st -> s.length = n -> n <= 1000000 →
  (∀ st' s' tm, I st' -> s'.length <= 1000000 -> folds nxt st (parts s) = folds nxt st' [s'] -> tget tm 0 = .yld k i -> tget tm 2 = .ptr kb 0 0 -> Q (.exit 2) ⟨tm, 52, k2, [], mm M0 kb k s' (os st')⟩) →
  (folds nxt st (parts s) = none -> ∀ tm s' os', Z os' -> Q .ret ⟨tm, 52, k2, [], mm M0 kb k s' os'⟩) →
  RXL env Tryz.prog none c146_31 ⟨[(0, .yld k i), (1, .ptr kb 1 0), (2, .ptr kb 0 0), (3, .ptr kb 2 0)], 52, k2, [], mm M0 kb k s (os st)⟩ Q := by
 intro n
 induction n using Nat.strongRecOn with
 | ind n ih =>
  intro s st hst0 hs hn q1 q2
  refine RXL.round (RX.of env_ok ?_)
  have hld : ∀ {ag : Bool} {n o j : Nat} {s : List UInt8} {os os' : List Pm.Obj}, loadP k2 os' (mm M0 kb k s os) ag n (.ptr kb j o) = rowTake ag n o (bx s)[j]? := mm_ld hne h2.2.1
  have hst : ∀ {nt : Nat} {s s' : List UInt8} {os os' : List Pm.Obj} {tm : List (Nat × PV)}, storeP tm nt k2 os' (mm M0 kb k s os) 1 (str s') (.ptr kb 0 0) = some (.junk, ⟨tm, nt, k2, os', mm M0 kb k s' os⟩) := mm_st hne h2.2.1
  simp only [G0, Z1, Z2, Z3, Z4, Z5, hld, bx]
  refine cp0 (idx105 s 47) (by decide) ?_
  cases hj : idxOf 47 0 s with
  | none =>
   have hlt : decide ((-1 : Int) < 0) = true := rfl
   simp only [G0, Z1, Z2, Z3, Z4, Z5, idxI, hlt]
   exact q1 st s _ hst0 (by omega) (by rw [parts_none hj]) rfl rfl
  | some j =>
   obtain ⟨_, hjl, _, _⟩ := idxOf_le hj
   have hp := parts_some hj
   have hlt : decide ((j : Int) < 0) = false := by simp
   have hw0 : IntKind.i64.wrap ((j : Int) + 0) = (j : Int) := by rw [wrap64_id (by omega) (by omega)]; omega
   have hw1 : IntKind.i64.wrap ((j : Int) + ((1 : Nat) : Int)) = ((j + 1 : Nat) : Int) := by rw [wrap64_id (by omega) (by omega)]; rfl
   have hto : sliceS (str s) none (some (iv j)) = some (str (s.take j)) := str_to (by omega)
   have hfr : sliceS (str s) (some (iv ((j + 1 : Nat) : Int))) none = some (str (s.drop (j + 1))) := str_from (by omega)
   simp only [G0, Z1, Z2, Z3, Z4, Z5, idxI, hlt, hld, bx, hw0, hto]
   refine cY (fresh_mm _ _ h2) (hR st s (s.take j) hst0 (by simp; omega)) (by decide) ?_
   rintro x M1 (⟨st', h1, rfl, rfl⟩ | ⟨h1, rfl, os', hz, rfl⟩)
   ·simp only [G0, Z1, Z2, Z3, Z4, Z5, Bool.not_true, Bool.not_false, hld, bx, hw1, hfr, hst]
    have hf : folds nxt st (parts s) = folds nxt st' (parts (s.drop (j + 1))) := by
     rw [hp]; simp only [folds, h1]
    refine RXL.weak (keepE ?_) (ih (s.drop (j + 1)).length (by rw [List.length_drop]; omega) (s.drop (j + 1)) st' (hI _ _ _ hst0 h1) rfl (by rw [List.length_drop]; omega) (fun st'' s' tm hi hl e => q1 st'' s' tm hi hl (by rw [hf, e])) (fun e => q2 (by rw [hf, e])))
    repeat (first | exact KP.nil | apply KP.cons rfl)
   ·simp only [G0, Z1, Z2, Z3, Z4, Z5, Bool.not_true, Bool.not_false]
    exact q2 (by rw [hp]; simp only [folds, h1]) _ _ _ hz
theorem split103 {σ : Type} {M0 : PMem} {kb k i : Nat} (hne : kb ≠ k) (os : σ -> List Pm.Obj) (hos : ∀ st, 0 < (os st).length) (nxt : σ -> List UInt8 -> Option σ) (I : σ -> Prop) (hI : ∀ st p st', I st -> nxt st p = some st' -> I st') (Z : List Pm.Obj -> Prop)
  (hR : ∀ st s part, I st -> part.length <= 1000000 -> PRd env Tryz.prog k i [str part] (mm M0 kb k s (os st)) (fun x M1 => (∃ st', nxt st part = some st' /\ x = bv true /\ M1 = mm M0 kb k s (os st')) \/ (nxt st part = none /\ x = bv false /\ ∃ os', Z os' /\ M1 = mm M0 kb k s os')))
  (s : List UInt8) (st : σ) (hst0 : I st) (hl : s.length <= 1000000) :
  PT env Tryz.prog 146 [.yld k i, .ptr kb 1 0, .ptr kb 0 0, .ptr kb 2 0] (mm M0 kb k s (os st)) (fun _ M1 => (∃ st' s', folds nxt st (parts s) = some st' /\ M1 = mm M0 kb k s' (os st')) \/ (folds nxt st (parts s) = none /\ ∃ s' os', Z os' /\ M1 = mm M0 kb k s' os')) := by
 refine PT.enterR env_ok fn146 (by simp) comp146 fun k2 hk hf => RX.of env_ok ?_
 have h2 := mm_fresh hne (hos st) hf
 have hld : ∀ {ag : Bool} {n o j : Nat} {s : List UInt8} {os os' : List Pm.Obj}, loadP k2 os' (mm M0 kb k s os) ag n (.ptr kb j o) = rowTake ag n o (bx s)[j]? := mm_ld hne h2.2.1
 have h10 : (((1 : Nat) : Int) == 0) = false := rfl
 simp only [G0, Z1, Z2, Z3, Z4, Z5, argsP, hld, bx, h10]
 refine RX.loop (RXL.weak (keepE ?_) (loop103 hne os nxt I hI Z h2 hR _ _ s st hst0 rfl hl (fun st' s' tm hi' hs' hfo ht0 ht2 => ?_) (fun hfo tm s' os' hz => ?_)))
 ·repeat (first | exact KP.nil | apply KP.cons rfl)
 ·simp only [G0, Z1, Z2, Z3, Z4, Z5, ht0, ht2, hld, bx]
  refine cY (fresh_mm _ _ h2) (hR st' s' s' hi' hs') (by decide) ?_
  rintro x M1 (⟨st'', h1, rfl, rfl⟩ | ⟨h1, rfl, os', hz, rfl⟩)
  ·simp only [G0, Z1, Z2, Z3, Z4, Z5]
   refine end0' (fresh_mm _ _ h2) (.inl ⟨st'', s', ?_, rfl⟩)
   rw [hfo]; simp only [folds, h1]
  ·simp only [G0, Z1, Z2, Z3, Z4, Z5]
   refine end0' (fresh_mm _ _ h2) (.inr ⟨?_, s', os', hz, rfl⟩)
   rw [hfo]; simp only [folds, h1]
 ·simp only [G0, Z1, Z2, Z3, Z4, Z5]
  have h2' : fresh (mm M0 kb k s' os') k2 := fresh_mm _ _ h2
  exact end0 h2' (.inr ⟨hfo, s', os', hz, rfl⟩)
theorem split93 (s : List UInt8) (M : PMem) : PT env Tryz.prog 132 [str s, str [47], iv 0] M (fun x M1 => ∃ kb, 0 < kb /\ fresh M kb /\ x = .fn 146 [] [.ptr kb 1 0, .ptr kb 0 0, .ptr kb 2 0] /\ M1 = seg M kb (bx s)) := by
 refine PT.enterR env_ok fn132 (by simp) comp132 fun k hk hf => RX.of env_ok ?_
 simp only [G0, Z1, Z2, Z3, Z4, Z5, argsP]
 exact endM rfl ⟨k, hk, hf, rfl, rfl⟩
theorem split81 (s : List UInt8) (M : PMem) : PT env Tryz.prog 113 [str s, str [47]] M (fun x M1 => ∃ kb, 0 < kb /\ fresh M kb /\ x = .fn 146 [] [.ptr kb 1 0, .ptr kb 0 0, .ptr kb 2 0] /\ M1 = seg M kb (bx s)) := by
 refine PT.enterG env_ok fn113 (by simp) comp113 fun k hk hf => ?_
 simp only [G0, Z1, Z2, Z3, Z4, Z5, argsP]
 refine cm (first := []) (cap := []) ((split93 s _).mono ?_)
 rintro x M1 ⟨kb, h1, h2, rfl, rfl⟩
 have hne : kb ≠ k := fun e => by
  subst e
  have := h2 0
  rw [seg_same] at this; cases this
 have h2' : fresh M kb := fun j => by
  have := h2 j
  rwa [seg_ne _ _ _ hne] at this
 refine ⟨[ghost], seg M kb (bx s), rfl, MLe.of_eq (seg_comm (Ne.symm hne)), by decide, ?_⟩
 simp only [G0, Z1, Z2, Z3, Z4, Z5]
 exact end1 (fresh_seg hf (Ne.symm hne)) rfl ⟨kb, h1, h2', rfl, rfl⟩
def nxtP (n : Nat) (p : List UInt8) : Option Nat := if decide (((n + 1 : Nat) : Int) > 6) || !partOk p then none else some (n + 1)
def pathOk (s : List UInt8) : Bool := (folds nxtP 0 (parts s)).isSome
theorem codeA63 : codeOk env.ng (subc [1, 0, 1, 1, 0, 1, 0, 0] body98) = true := by kernel_rfl
theorem codeB63 : codeOk env.ng (subc [1, 0, 1, 1, 0, 1, 0, 1] body98) = true := by kernel_rfl
def osP (tm : List (Nat × PV)) (n : Nat) : List Pm.Obj := [.row .rw 0 [iv n], .row .rw 0 [iv 0], .loop true .ready none tm 18 [8] (subc [1, 0, 1, 1, 0, 1, 0, 0] body98) (subc [1, 0, 1, 1, 0, 1, 0, 1] body98)]
def zP (tm : List (Nat × PV)) (os : List Pm.Obj) : Prop := ∃ n : Int, os = [.row .rw 0 [iv n], .row .rw 0 [iv 2], .loop true .done (some (.exit 0)) tm 18 [8] (subc [1, 0, 1, 1, 0, 1, 0, 0] body98) (subc [1, 0, 1, 1, 0, 1, 0, 1] body98)]
theorem round63 {M0 : PMem} {kb k : Nat} (hne : kb ≠ k) (tm : List (Nat × PV)) (h3 : tget tm 3 = .ptr k 0 0) (h4 : tget tm 4 = .ptr k 1 0) (n : Nat) (hn : n <= 1000000) (s part : List UInt8) (hp : part.length <= 1000000) :
  PRd env Tryz.prog k 2 [str part] (mm M0 kb k s (osP tm n)) (fun x M1 => (∃ n', nxtP n part = some n' /\ x = bv true /\ M1 = mm M0 kb k s (osP tm n')) \/ (nxtP n part = none /\ x = bv false /\ ∃ os', zP tm os' /\ M1 = mm M0 kb k s os')) := by
 refine PRd.runR env_ok codeA63 codeB63 piece98_1 piece98_2 (tm1 := (8, str part) :: tm) (pend := none) (tm := tm) (nt := 18) (ps := [8]) (by unfold mm; rw [seg_same]; rfl) (by simp [pparams]) fun k' hk' hkk hf => RX.of env_ok ?_
 have hk2 : k' ≠ k := hkk
 simp only [G0, Z1, Z2, Z3, Z4, Z5]
 refine ⟨_, _, rfl, RX.of env_ok ?_⟩
 have hw : IntKind.i64.wrap ((n : Int) + 1) = ((n + 1 : Nat) : Int) := by rw [wrap64_id (by omega) (by omega)]; rfl
 have hld : ∀ {ag : Bool} {n o j : Nat} {s : List UInt8} {os os' : List Pm.Obj}, loadP k' os' (mm M0 kb k s os) ag n (.ptr k j o) = rowTake ag n o os[j]? := mm_ldk hk2
 have hstk : ∀ {nt n o j : Nat} {s : List UInt8} {os os' : List Pm.Obj} {tm : List (Nat × PV)} {v : PV}, storeP tm nt k' os' (mm M0 kb k s os) n v (.ptr k j o) = stK tm nt k' os' M0 kb k s os j (storeO n o v os[j]?) := mm_stk hk2
 rw [mm_put (by show 2 < 3; decide)]
 simp only [osP, List.set_cons_succ, List.set_cons_zero]
 have hfr := mm_fresh (os := osP tm n) hne (show 0 < 3 by decide) hf
 simp only [G0, Z1, Z2, Z3, Z4, Z5, h3, h4, hld, hstk, stK_some, hw]
 refine cW_s (fun hb => ?_) (fun hb => ?_)
 ·simp only [G0, Z1, Z2, Z3, Z4, Z5, h3, h4, hld, hstk, stK_some, hw, hb]
  refine roundStop (c := .exit 0) rfl (Ne.symm hkk) (by unfold mm; rw [seg_same]; rfl) (fresh_mm _ _ hfr) (.inr ⟨?_, rfl, _, ⟨((n + 1 : Nat) : Int), rfl⟩, ?_⟩)
  ·unfold nxtP; rw [hb]; rfl
  ·rw [mm_put (show 2 < 3 by decide)]; rfl
 ·simp only [G0, Z1, Z2, Z3, Z4, Z5, h3, h4, hld, hstk, stK_some, hw]
  refine cp (first := []) (cap := []) (part82 part hp) (by decide) ?_
  simp only [G0, Z1, Z2, Z3, Z4, Z5]
  refine cW_s (fun hc => ?_) (fun hc => ?_)
  ·simp only [G0, Z1, Z2, Z3, Z4, Z5, h3, h4, hld, hstk, stK_some, hw]
   refine roundStop (c := .exit 0) rfl (Ne.symm hkk) (by unfold mm; rw [seg_same]; rfl) (fresh_mm _ _ hfr) (.inr ⟨?_, rfl, _, ⟨((n + 1 : Nat) : Int), rfl⟩, ?_⟩)
   ·unfold nxtP; rw [hb, hc]; rfl
   ·rw [mm_put (show 2 < 3 by decide)]; rfl
  ·simp only [G0, Z1, Z2, Z3, Z4, Z5, h3, h4, hld, hstk, stK_some, hw]
   refine roundGo (Ne.symm hkk) (by unfold mm; rw [seg_same]; rfl) (fresh_mm _ _ hfr) (.inl ⟨n + 1, ?_, rfl, ?_⟩)
   ·unfold nxtP; rw [hb, hc]; rfl
   ·rw [mm_put (show 2 < 3 by decide)]; rfl
theorem end1m {Q : PV -> PMem -> Prop} {body : Code} {nt nt' r k : Nat} {tm : List (Nat × PV)} {os : List Pm.Obj} {M M1 : PMem} {v : PV} (hv : tget tm r = v) (hM : MLe (seg M k os) M1) (h : Q v M1) : ends env ⟨nt, [.tmp r], body⟩ Q .ret ⟨tm, nt', k, os, M⟩ := by
 subst hv; exact ⟨.inr rfl, [_], M1, rfl, hM, h⟩
theorem path_check (s : List UInt8) (hl : s.length <= 1000000) : PTp env Tryz.prog 98 [str s] (iv (errIf (pathOk s))) := fun M => by
 refine PT.enterR env_ok fn98 (by simp) comp98 fun k hk hf => RX.of env_ok ?_
 simp only [G0, Z1, Z2, Z3, Z4, Z5, argsP]
 refine RX.scope1 piece98_3 (RX.of env_ok ?_)
 simp only [G0, Z1, Z2, Z3, Z4, Z5]
 refine cm (first := []) (cap := []) ((split81 s _).mono ?_)
 rintro x M1 ⟨kb, h1, h2, rfl, rfl⟩
 have hne : kb ≠ k := fun e => by
  subst e
  have := h2 0
  rw [seg_same] at this; cases this
 have h2' : fresh M kb := fun j => by
  have := h2 j
  rwa [seg_ne _ _ _ hne] at this
 refine ⟨[.row .rw 0 [iv 0], .row .rw 0 [iv 0]], seg M kb (bx s), rfl, MLe.of_eq (seg_comm (Ne.symm hne)), by decide, ?_⟩
 simp only [G0, Z1, Z2, Z3, Z4, Z5]
 have hpop : ∀ (s' : List UInt8) (os : List Pm.Obj), MLe (seg (seg M kb (bx s')) k os) M := fun s' os a j o e => by
  refine ⟨o, ?_, .refl o⟩
  rw [seg_ne _ _ _ (fun hk => by subst hk; rw [hf j] at e; cases e), seg_ne _ _ _ (fun hk => by subst hk; rw [h2' j] at e; cases e)]
  exact e
 refine RX.range env_ok (g := 146) (first := []) (captured := [.ptr kb 1 0, .ptr kb 0 0, .ptr kb 2 0]) rfl fn146 (fun _ _ e => by cases e) ?_
 refine (split103 (M0 := M) (kb := kb) (k := k) (i := 2) hne (osP _) (fun _ => by show 0 < 3; decide) nxtP (fun n => n <= 6) (fun n p n' hn h => ?_) (zP _) (fun n s' part hn hp => round63 hne _ rfl rfl n (by omega) s' part hp) s 0 (by decide) hl).mono ?_
 ·unfold nxtP at h
  split at h
  ·cases h
  ·rename_i hc
   cases h
   simp at hc
   omega
 rintro x M1 (⟨n', s', hfo, rfl⟩ | ⟨hfo, s', os', ⟨z, rfl⟩, rfl⟩)
 ·refine ⟨osP _ n', seg M kb (bx s'), _, _, _, _, _, _, _, rfl, .refl _, rfl, by simp, .normal, rfl, ?_⟩
  have hok : pathOk s = true := by unfold pathOk; rw [hfo]; rfl
  simp only [osP, List.set_cons_succ, List.set_cons_zero, List.length_cons, List.length_nil]
  simp only [G0, Z1, Z2, Z3, Z4, Z5]
  refine ⟨(fun l e => by cases e), end1m rfl (hpop _ _) ⟨?_, rfl⟩⟩
  rw [hok]; rfl
 ·refine ⟨_, seg M kb (bx s'), _, _, _, _, _, _, _, rfl, .refl _, rfl, by simp, .exit 0, rfl, ?_⟩
  have hok : pathOk s = false := by unfold pathOk; rw [hfo]; rfl
  simp only [List.set_cons_succ, List.set_cons_zero, List.length_cons, List.length_nil]
  simp only [G0, Z1, Z2, Z3, Z4, Z5]
  refine ⟨(fun l e => by cases e), end1m rfl (hpop _ _) ⟨?_, rfl⟩⟩
  rw [hok]; rfl
end Go.Proofs.YtlbjplpehkgcdaaGreatDoor
end
namespace Go.Proofs.YtlbjplpehkgcdaaGreatDoor
open Go Go.Am Go.Pm
theorem span_load {xs : List Span} {i : Nat} {x : Span} (h : xs[i]? = some x) : ptake true 3 (xs.flatMap encSpan) (i * 3) = some (.agg [iv x.node, iv x.frm, iv x.to]) := load_at (f := encSpan) (fun _ => rfl) h
theorem loop53 (l : List Span) (hl : l.length <= 4000) (M0 M : PMem) (k : Nat) (Q : AExit -> PSt -> Prop) (g : Nat) (first cap : List PV) (F : Int -> Span -> Int) (hM : Sub M0 (seg M k []))
  (hF : ∀ acc x, PTs env Tryz.prog M0 g (first ++ ([iv acc, .agg [iv x.node, iv x.frm, iv x.to]] ++ cap)) (iv (F acc x)))
  (q1 : ∀ tm, tget tm 5 = iv (l.foldl F 0) -> Q (.exit 0) ⟨tm, 24, k, [], M⟩) :
  ∀ d i acc, l.length - i = d -> i <= l.length -> l.foldl F 0 = (l.drop i).foldl F acc →
  RXL env Tryz.prog none c116_17 ⟨[(5, iv acc), (14, iv i), (13, iv l.length), (12, encSpans l), (1, .fn g first cap)], 24, k, [], M⟩ Q := by
 intro d
 induction d with
 | zero =>
  intro i acc hd hi hp
  have : i = l.length := by omega
  subst this
  refine RXL.round (RX.of env_ok ?_)
  simp only [G0, Z1, Z2, Z3, Z4, Z5, encSpans, Int.lt_irrefl, decide_false]
  exact q1 _ (by rw [hp, List.drop_of_length_le (Nat.le_refl _)]; rfl)
 | succ d ih =>
  intro i acc hd hi hp
  have hi' : i < l.length := by omega
  have hii : (i : Int) < l.length := by omega
  obtain ⟨x, hx, hdx⟩ := getE hi'
  have hlx := span_load hx
  have hw : IntKind.i64.wrap ((i : Int) + 1) = ((i + 1 : Nat) : Int) := by rw [wrap64_id (by omega) (by omega)]; rfl
  rw [hdx] at hp
  refine RXL.inn fun k' hk1 hk2 hk3 => RX.of env_ok ?_
  simp only [G0, Z1, Z2, Z3, Z4, Z5, encSpans, hii, decide_true, hi', hlx]
  refine cs (hF acc x) (hM.sseg hk3) (by decide) ?_
  simp only [G0, Z1, Z2, Z3, Z4, Z5, hw]
  refine RXL.weak (keepE ?_) (ih (i + 1) (F acc x) (by omega) (by omega) ?_)
  ·repeat (first | exact KP.nil | apply KP.cons rfl)
  ·rw [hp]; rfl
theorem err_neq : ((errIf false != 0) = true /\ (errIf true != 0) = false) /\ ((errIf false == 0) = false /\ (errIf true == 0) = true) := ⟨⟨rfl, rfl⟩, ⟨rfl, rfl⟩⟩
theorem fold_int (l : List Span) (M0 : PMem) (g : Nat) (first cap : List PV) (F : Int -> Span -> Int) (hF : ∀ acc x, PTs env Tryz.prog M0 g (first ++ ([iv acc, .agg [iv x.node, iv x.frm, iv x.to]] ++ cap)) (iv (F acc x))) :
  PTs env Tryz.prog M0 116 [encSpans l, .fn g first cap] (iv (if pastOk l then l.foldl F 0 else 0)) := by
 refine PTs.enter env_ok fn116 (by simp) comp116 fun M k hs hk hf => ?_
 simp only [G0, Z1, Z2, Z3, Z4, Z5, argsP]
 refine cp0 (past_check l) (by decide) ?_
 simp only [G0, Z1, Z2, Z3, Z4, Z5]
 cases h : pastOk l with
 | false =>
  simp only [G0, Z1, Z2, Z3, Z4, Z5, err_neq]
  exact end1 hf rfl ⟨rfl, rfl⟩
 | true =>
  simp only [G0, Z1, Z2, Z3, Z4, Z5, err_neq, encSpans]
  have hl : l.length <= 4000 := by
   simp only [pastOk, Bool.and_eq_true, decide_eq_true_eq] at h
   exact h.1
  refine RX.loop (RXL.weak (keepE ?_) (loop53 l hl M0 M k _ g first cap F ?_ hF ?_ l.length 0 0 rfl (Nat.zero_le _) rfl))
  ·repeat (first | exact KP.nil | apply KP.cons rfl)
  ·exact hs.sseg hf
  ·intro tm ht
   simp only [G0, Z1, Z2, Z3, Z4, Z5, ht]
   exact end1 hf rfl ⟨rfl, rfl⟩
end Go.Proofs.YtlbjplpehkgcdaaGreatDoor
namespace Go.Proofs.YtlbjplpehkgcdaaGreatDoor
open Go Go.Am Go.Pm
def lastF (node n : Int) (x : Span) : Int := if (x.node != node) = true then n else max n x.to
def lastOf (l : List Span) (node : Int) : Int := if pastOk l then l.foldl (lastF node) 0 else 0
theorem mm_max {a b : Int} : pmm maxV [iv a, iv b] = some (iv (max a b)) := by
 have h : pmm maxV [iv a, iv b] = some (iv (if b > a then b else a)) := by
  unfold pmm
  simp [maxV, pflats?]
 have h2 : (if b > a then b else a) = max a b := by
  by_cases hb : b > a
  ·rw [if_pos hb]; omega
  ·rw [if_neg hb]; omega
 rw [h, h2]
theorem last54 (node : Int) {M0 : PMem} {a i : Nat} {w : Wm} (hM : M0 a i = some (.row w 0 [iv node])) (n : Int) (x : Span) : PTs env Tryz.prog M0 117 [iv n, .agg [iv x.node, iv x.frm, iv x.to], .ptr a i 0] (iv (lastF node n x)) := by
 refine PTs.enter env_ok fn117 (by simp) comp117 fun M k hs hk hf => ?_
 have hM' := hs _ _ _ hM
 have hld : ∀ {ag : Bool} {n o : Nat} {os : List Pm.Obj}, loadP k os M ag n (.ptr a i o) = rowTake ag n o (M a i) := loadP_out (fresh_ne hf hM')
 simp only [G0, Z1, Z2, Z3, Z4, Z5, argsP, hld, hM']
 refine cW_s (fun hb => ?_) (fun hb => ?_)
 ·simp only [G0, Z1, Z2, Z3, Z4, Z5]
  refine end1 hf rfl ⟨?_, rfl⟩
  unfold lastF; rw [if_pos hb]; rfl
 ·simp only [G0, Z1, Z2, Z3, Z4, Z5, mm_max]
  refine end1 hf rfl ⟨?_, rfl⟩
  unfold lastF; rw [if_neg (by rw [hb]; decide)]; rfl
theorem past_last (l : List Span) (node : Int) : PTp env Tryz.prog 100 [encSpans l, iv node] (iv (lastOf l node)) := fun M => by
 refine PT.enterR env_ok fn100 (by simp) comp100 fun k hk hf => RX.of env_ok ?_
 simp only [G0, Z1, Z2, Z3, Z4, Z5, argsP]
 refine cs0 (fold_int l (seg M k [.row .rw 0 [iv node]]) 117 [] [.ptr k 0 0] (lastF node) (fun acc x => last54 node (w := .rw) (by rw [seg_same]; rfl) acc x)) (Pm.Sub.refl _) (by decide) ?_
 simp only [G0, Z1, Z2, Z3, Z4, Z5]
 exact end1 hf rfl ⟨rfl, rfl⟩
theorem pone_eb {l : List UInt8} : pone (encBytes l) = true := rfl
theorem pone_es {l : List Span} : pone (encSpans l) = true := rfl
def evOk (e : Ev) : Bool := dotOk e.node e.seq && (pathOk e.path && (effOk e.kind e.mode e.bytes && (pastOk e.past && decide (lastOf e.past e.node < e.seq))))
theorem eq_err (b : Bool) : (errIf b == 0) = b := by cases b <;> rfl
section
variable (e : Ev)
theorem ask39 : PTp env Tryz.prog 67 [encEv e] (bv (dotOk e.node e.seq)) := fun M => by
 refine PT.enterR env_ok fn67 (by simp) comp67 fun k hk hf => RX.of env_ok ?_
 simp only [G0, Z1, Z2, Z3, Z4, Z5, argsP, encEv, evCells]
 refine cp0 (dot_check e.node e.seq) (by decide) ?_
 simp only [G0, Z1, Z2, Z3, Z4, Z5, eq_err]
 exact end1 hf rfl ⟨rfl, rfl⟩
theorem ask40 (hl : e.path.length <= 1000000) : PTp env Tryz.prog 68 [encEv e] (bv (pathOk e.path)) := fun M => by
 refine PT.enterR env_ok fn68 (by simp) comp68 fun k hk hf => RX.of env_ok ?_
 simp only [G0, Z1, Z2, Z3, Z4, Z5, argsP, encEv, evCells]
 refine cp0 (path_check e.path hl) (by decide) ?_
 simp only [G0, Z1, Z2, Z3, Z4, Z5, eq_err]
 exact end1 hf rfl ⟨rfl, rfl⟩
theorem ask41 : PTp env Tryz.prog 69 [encEv e] (bv (effOk e.kind e.mode e.bytes)) := fun M => by
 refine PT.enterR env_ok fn69 (by simp) comp69 fun k hk hf => RX.of env_ok ?_
 simp only [G0, Z1, Z2, Z3, Z4, Z5, argsP, encEv, evCells]
 refine cp0 (effect_check e.kind e.mode e.bytes) (by decide) ?_
 simp only [G0, Z1, Z2, Z3, Z4, Z5, eq_err]
 exact end1 hf rfl ⟨rfl, rfl⟩
theorem ask42 : PTp env Tryz.prog 70 [encEv e] (bv (pastOk e.past)) := fun M => by
 refine PT.enterR env_ok fn70 (by simp) comp70 fun k hk hf => RX.of env_ok ?_
 simp only [G0, Z1, Z2, Z3, Z4, Z5, argsP, encEv, evCells]
 refine cp0 (past_check e.past) (by decide) ?_
 simp only [G0, Z1, Z2, Z3, Z4, Z5, eq_err]
 exact end1 hf rfl ⟨rfl, rfl⟩
theorem ask43 : PTp env Tryz.prog 71 [encEv e] (bv (decide (lastOf e.past e.node < e.seq))) := fun M => by
 refine PT.enterR env_ok fn71 (by simp) comp71 fun k hk hf => RX.of env_ok ?_
 simp only [G0, Z1, Z2, Z3, Z4, Z5, argsP, encEv, evCells]
 refine cq0 (past_last e.past e.node) (by decide) ?_
 simp only [G0, Z1, Z2, Z3, Z4, Z5]
 exact end1 hf rfl ⟨rfl, rfl⟩
def askL : List PV := [.fn 67 [encEv e] [], .fn 68 [encEv e] [], .fn 69 [encEv e] [], .fn 70 [encEv e] [], .fn 71 [encEv e] []]
theorem round20 (M : PMem) (k : Nat) (Q : AExit -> PSt -> Prop) (os : List Pm.Obj) (i : Nat) (hi : i < 5) (g : Nat) (b : Bool) (hg : (askL e)[i * 1]? = some (.fn g [encEv e] [])) (hp : PTp env Tryz.prog g [encEv e] (bv b))
  (q1 : b = false -> ∀ tm, tget tm 2 = iv 2 -> Q .ret ⟨tm, 28, k, os, M⟩)
  (q2 : b = true -> RXL env Tryz.prog none c41_16 ⟨[(20, iv (i + 1 : Nat)), (19, iv (5 : Nat)), (18, .lst .full 1 5 (askL e))], 28, k, os, M⟩ Q) :
  RXL env Tryz.prog none c41_16 ⟨[(20, iv i), (19, iv (5 : Nat)), (18, .lst .full 1 5 (askL e))], 28, k, os, M⟩ Q := by
 have h0 : decide ((i : Int) < ((5 : Nat) : Int)) = true := by simp; omega
 have hw : IntKind.i64.wrap ((i : Int) + 1) = ((i + 1 : Nat) : Int) := by rw [wrap64_id (by omega) (by omega)]; rfl
 refine RXL.round (RX.of env_ok ?_)
 simp only [G0, Z1, Z2, Z3, Z4, Z5, h0, hi, hg]
 refine cp (first := [encEv e]) (cap := []) hp (by decide) ?_
 cases b with
 | false =>
  simp only [G0, Z1, Z2, Z3, Z4, Z5, Bool.not_true, Bool.not_false]
  exact q1 rfl _ rfl
 | true =>
  simp only [G0, Z1, Z2, Z3, Z4, Z5, Bool.not_true, Bool.not_false, hw]
  refine RXL.weak (keepE ?_) (q2 rfl)
  repeat (first | exact KP.nil | apply KP.cons rfl)
theorem event_check (hl : e.path.length <= 1000000) : PTp env Tryz.prog 41 [encEv e] (iv (errIf (evOk e))) := fun M => by
 refine PT.enterR env_ok fn41 (by simp) comp41 fun k hk hf => RX.of env_ok ?_
 simp only [G0, Z1, Z2, Z3, Z4, Z5, argsP, encEv, evCells, pone_eb, pone_es]
 have no : ∀ {tm : List (Nat × PV)} {os : List Pm.Obj}, evOk e = false -> tget tm 2 = iv 2 -> ends env ⟨28, [.tmp 2], body41⟩ (fun x M1 => x = iv (errIf (evOk e)) /\ M1 = M) .ret ⟨tm, 28, k, os, M⟩ := fun h ht => end1 hf ht ⟨by rw [h]; rfl, rfl⟩
 refine RX.loop (RXL.weak (keepE (tm' := [(20, iv (0 : Nat)), (19, iv (5 : Nat)), (18, .lst .full 1 5 (askL e))]) ?_)
  (round20 e M k _ _ 0 (by decide) 67 _ rfl (ask39 e) (fun h tm ht => ?_) fun h1 =>
  round20 e M k _ _ 1 (by decide) 68 _ rfl (ask40 e hl) (fun h tm ht => ?_) fun h2 =>
  round20 e M k _ _ 2 (by decide) 69 _ rfl (ask41 e) (fun h tm ht => ?_) fun h3 =>
  round20 e M k _ _ 3 (by decide) 70 _ rfl (ask42 e) (fun h tm ht => ?_) fun h4 =>
  round20 e M k _ _ 4 (by decide) 71 _ rfl (ask43 e) (fun h tm ht => ?_) fun h5 => ?_))
 ·repeat (first | exact KP.nil | apply KP.cons rfl)
 ·simp only [G0, Z1, Z2, Z3, Z4, Z5]
  exact no (by unfold evOk; rw [h]; rfl) ht
 ·simp only [G0, Z1, Z2, Z3, Z4, Z5]
  exact no (by unfold evOk; rw [h1, h]; rfl) ht
 ·simp only [G0, Z1, Z2, Z3, Z4, Z5]
  exact no (by unfold evOk; rw [h1, h2, h]; rfl) ht
 ·simp only [G0, Z1, Z2, Z3, Z4, Z5]
  exact no (by unfold evOk; rw [h1, h2, h3, h]; rfl) ht
 ·simp only [G0, Z1, Z2, Z3, Z4, Z5]
  exact no (by unfold evOk; rw [h1, h2, h3, h4, h]; rfl) ht
 ·have h0 : decide (((4 + 1 : Nat) : Int) < ((5 : Nat) : Int)) = false := by decide
  refine RXL.round (RX.of env_ok ?_)
  simp only [G0, Z1, Z2, Z3, Z4, Z5, h0]
  exact end1 hf rfl ⟨by unfold evOk; rw [h1, h2, h3, h4, h5]; rfl, rfl⟩
end
end Go.Proofs.YtlbjplpehkgcdaaGreatDoor
namespace Go.Proofs.YtlbjplpehkgcdaaGreatDoor
open Go Go.Am Go.Pm
inductive LsV (M : PMem) : PV -> List Span -> Prop where
 | nil (e : Nat) : LsV M (.lst .full e 0 []) []
 | row {k i j c : Nat} {pre l : List Span} (hM : M k i = some (.row .rw 3 ((pre ++ l).flatMap encSpan))) (hj : pre.length = j) (hc : l.length <= capOf c /\ c % 2 = 1 /\ esOf c = 3) : LsV M (.sl k i (j * 3) l.length c) l
def keyV : PV -> Option Nat
 | .sl k _ _ _ _ => some k
 | _ => none
theorem LsV.frame {M M' : PMem} {v : PV} {l : List Span} (h : LsV M v l) (hf : ∀ k i, keyV v = some k -> M k i ≠ none -> M' k i = M k i) : LsV M' v l := by
 cases h with
 | nil e => exact .nil e
 | row hM hj hc => exact .row (by rw [hf _ _ rfl (by rw [hM]; exact fun h => by cases h)]; exact hM) hj hc
theorem LsV.sub {M M' : PMem} {v : PV} {l : List Span} (h : LsV M v l) (hs : Pm.Sub M M') : LsV M' v l := by
 cases h with
 | nil e => exact .nil e
 | row hM hj hc => exact .row (hs _ _ _ hM) hj hc
theorem LsV.key {M : PMem} {v : PV} {l : List Span} (h : LsV M v l) {k : Nat} (hf : fresh M k) : keyV v ≠ some k := by
 cases h with
 | nil e => intro h; cases h
 | row hM hj hc => intro h; cases h; rw [hf _] at hM; cases hM
theorem clone_own (l : List Span) (hl : l.length <= 1000000) (M : PMem) : PTk env Tryz.prog 66 [encSpans l] M (fun nk x M1 => LsV M1 x l /\ (M1 = M /\ keyV x = none \/ ∃ k os, nk <= k /\ fresh M k /\ keyV x = some k /\ M1 = seg M k os)) := by
 refine PTk.enterR env_ok fn66 (by simp) comp66 fun k hk hf => RX.of env_ok ?_
 simp only [G0, Z1, Z2, Z3, Z4, Z5, argsP, encSpans]
 refine nL_lst fun b hb => ?_
 simp only [G0, Z1, Z2, Z3, Z4, Z5]
 cases b with
 | true =>
  have hz : l = [] := by
   cases l with
   | nil => rfl
   | cons x l => exact absurd (hb (by simp)) (by simp)
  subst hz
  simp only [G0, Z1, Z2, Z3, Z4, Z5, Bool.xor_false]
  exact end1 hf rfl ⟨.nil 0, .inl ⟨rfl, rfl⟩⟩
 | false =>
  simp only [G0, Z1, Z2, Z3, Z4, Z5, Bool.xor_false]
  by_cases hz : l.length = 0
  ·have : l = [] := List.length_eq_zero_iff.1 hz
   subst this
   refine aL ?_
   simp only [G0, Z1, Z2, Z3, Z4, Z5, List.flatMap_nil, ap_nil]
   exact end1 hf rfl ⟨.nil 3, .inl ⟨rfl, rfl⟩⟩
  ·have hc : (0 = 0 \/ 3 = 3) /\ (2 * (0 + l.length) + 2000) * 24 <= 281474976710656 /\ 0 + l.length <= 4611686018427387904 /\ 3 < 4096 /\ 3 = 3 /\ (l.flatMap encSpan).all pone = true := ⟨.inl rfl, by omega, by omega, by decide, rfl, all_spans l⟩
   refine aR ?_
   rw [apr_full hz hc]
   simp only [G0, Z1, Z2, Z3, Z4, Z5]
   refine endM rfl ⟨?_, .inr ⟨k, _, Nat.le_refl _, hf, rfl, rfl⟩⟩
   have hcap := cap_lo (n := l.length) (es := 3) (by decide)
   have := LsV.row (M := seg M k [.row .rw 3 (l.flatMap encSpan)]) (k := k) (i := 0) (j := 0) (c := loCap l.length 3) (pre := []) (l := l) (by rw [seg_same]; rfl) rfl ⟨by rw [hcap.1]; exact Nat.le_refl _, hcap.2⟩
   have h2 : LsV (seg M k [.row .rw 3 (l.flatMap encSpan)]) (.sl k 0 0 l.length (loCap l.length 3)) l := by simpa using this
   exact h2
theorem tp79 : tyP env 74 = some (true, 3) := by kernel_rfl
def spV (x : Span) : PV := .agg (encSpan x)
theorem sp_load {pre l : List Span} {z : Span} {r : List Span} (h : l = z :: r) : ptake true 3 ((pre ++ l).flatMap encSpan) (pre.length * 3) = some (spV z) := by
 subst h
 exact span_load (xs := pre ++ z :: r) (i := pre.length) (by simp)
theorem sp_cell {pre l : List Span} {z : Span} {r : List Span} (h : l = z :: r) {c : Nat} {v : PV} (hc : (encSpan z)[c]? = some v) : ((pre ++ l).flatMap encSpan)[pre.length * 3 + c]? = some v := by
 subst h
 exact cell_at (f := encSpan) (n := 3) (xs := pre ++ z :: r) (i := pre.length) (fun _ => rfl) (by simp) hc
theorem iaddr_sl {k i o n c sz m : Nat} {kk : IntKind} (h : m < n) : iaddrS sz (.sl k i o n c) (.v (.int kk (m : Int))) = some (.ptr k i (o + m * sz)) := by
 unfold iaddrS
 rw [pnat_int]
 simp only [if_pos h]
theorem iaddr_sl0 {k i o n c sz : Nat} {kk : IntKind} (h : 0 < n) : iaddrS sz (.sl k i o n c) (.v (.int kk 0)) = some (.ptr k i o) := by
 have := iaddr_sl (k := k) (i := i) (o := o) (n := n) (c := c) (sz := sz) (m := 0) (kk := kk) h
 simpa using this
theorem len_sl {k i o n c : Nat} : lenL (.sl k i o n c) = some (iv n) := rfl
theorem hst0 {x : Span} {a b c : Int} : storeO 3 0 (.agg [iv x.node, iv x.frm, iv x.to]) (some (.row .rw 0 [iv a, iv b, iv c])) = some (.row .rw 0 [iv x.node, iv x.frm, iv x.to]) := storeO_eq (n := 3) ⟨rfl, Nat.le_refl 3, rfl⟩
theorem hstz : storeO 3 0 (.agg [iv 0, iv 0, iv 0]) (some (.row .rw 0 [iv 0, iv 0, iv 0])) = some (.row .rw 0 [iv 0, iv 0, iv 0]) := storeO_eq (n := 3) ⟨rfl, Nat.le_refl 3, rfl⟩
theorem head_at {M : PMem} {v : PV} {l : List Span} (h : LsV M v l) (n : Int) : PTs env Tryz.prog M 137 [v, iv n] (.tup [spV (hdS l n).1, bv (hdS l n).2]) := by
 refine PTs.enter env_ok fn137 (by simp) comp137 fun M' k hs hk hf => ?_
 cases h with
 | nil e =>
  have hz : (((0 : Nat) : Int) == 0) = true := rfl
  simp only [G0, Z1, Z2, Z3, Z4, Z5, argsP, hz, Bool.not_true, Bool.not_false, cnd_t, cnd_f, hstz]
  exact endc2 hf tp79 (loadP_own.trans rfl) rfl ⟨rfl, rfl⟩
 | @row k1 i1 j c pre l hM hj hc =>
  subst hj
  have hM' := hs _ _ _ hM
  have hld : ∀ {ag : Bool} {n o : Nat} {os : List Pm.Obj}, loadP k os M' ag n (.ptr k1 i1 o) = rowTake ag n o (M' k1 i1) := loadP_out (fresh_ne hf hM')
  cases l with
  | nil =>
   have hz : (((0 : Nat) : Int) == 0) = true := rfl
   simp only [G0, Z1, Z2, Z3, Z4, Z5, argsP, len_sl, hz, Bool.not_true, Bool.not_false, cnd_t, cnd_f, hstz]
   exact endc2 hf tp79 (loadP_own.trans rfl) rfl ⟨rfl, rfl⟩
  | cons z r =>
   have hz : (((r.length + 1 : Nat) : Int) == 0) = false := by simp; omega
   have hlt : 0 < r.length + 1 := Nat.succ_pos _
   have c0 := sp_cell (pre := pre) (l := z :: r) rfl (c := 0) (v := iv z.node) rfl
   have c3 := sp_load (pre := pre) (l := z :: r) rfl
   rw [Nat.add_zero] at c0
   have hd : hdS (z :: r) n = if z.node = n then (z, true) else (⟨0, 0, 0⟩, false) := rfl
   have hb : (z.node != n) = decide (¬ (z.node = n)) := by by_cases h : z.node = n <;> simp [h, bne]
   by_cases hn : z.node = n
   ·have hbf : (z.node != n) = false := by rw [hb]; simp [hn]
    have c3' : ptake true 3 ((pre ++ z :: r).flatMap encSpan) (pre.length * 3) = some (.agg [iv z.node, iv z.frm, iv z.to]) := c3
    simp only [G0, Z1, Z2, Z3, Z4, Z5, argsP, len_sl, hz, iaddr_sl0, hlt, hld, hM', c0, c3', hbf, Bool.not_true, Bool.not_false, cnd_t, cnd_f, hst0]
    rw [hd, if_pos hn]
    exact endc2 hf tp79 (loadP_own.trans rfl) rfl ⟨rfl, rfl⟩
   ·have hbt : (z.node != n) = true := by rw [hb]; simp [hn]
    simp only [G0, Z1, Z2, Z3, Z4, Z5, argsP, len_sl, hz, iaddr_sl0, hlt, hld, hM', c0, hbt, Bool.not_true, Bool.not_false, cnd_t, cnd_f, hstz]
    rw [hd, if_neg hn]
    exact endc2 hf tp79 (loadP_own.trans rfl) rfl ⟨rfl, rfl⟩
end Go.Proofs.YtlbjplpehkgcdaaGreatDoor
namespace Go.Proofs.YtlbjplpehkgcdaaGreatDoor
open Go Go.Am Go.Pm
theorem fresh_put {M : PMem} {k j i : Nat} {o : Pm.Obj} (h : fresh M k) (hj : j ≠ k) : fresh (putM M j i o) k := fun c => by
 unfold putM
 rw [if_neg (fun x => hj x.1.symm)]; exact h c
theorem put_ne {M : PMem} {j i a c : Nat} {o : Pm.Obj} (h : ¬ (a = j /\ c = i)) : putM M j i o a c = M a c := by
 unfold putM; rw [if_neg h]
theorem fresh_of_sub {M0 M : PMem} {k : Nat} (h : Pm.Sub M0 M) (hf : fresh M k) : fresh M0 k := fun i => by
 cases e : M0 k i with
 | none => rfl
 | some o => have := h _ _ _ e; rw [hf i] at this; cases this
theorem fresh_seg {M : PMem} {j k : Nat} {os : List Pm.Obj} (h : fresh M j) (hj : j ≠ k) : fresh (seg M k os) j := fun i => by rw [seg_ne _ _ _ hj]; exact h i
theorem ne_of_fresh {M : PMem} {j k : Nat} {g : Pm.Obj} {os : List Pm.Obj} (h : fresh (seg M k (g :: os)) j) : j ≠ k := fun e => by
 subst e
 have := h 0
 rw [seg_same] at this; cases this
theorem fresh_unseg {M : PMem} {j k : Nat} {g : Pm.Obj} {os : List Pm.Obj} (h : fresh (seg M k (g :: os)) j) : fresh M j := fun i => by
 have := h i
 rwa [seg_ne _ _ _ (ne_of_fresh h)] at this
theorem sub_segs {M0 M : PMem} {k : Nat} {os : List Pm.Obj} (h : Pm.Sub M0 M) : Pm.Sub (seg M0 k os) (seg M k os) := fun a i o e => by
 by_cases ha : a = k
 ·subst ha; rw [seg_same] at e ⊢; exact e
 ·rw [seg_ne _ _ _ ha] at e ⊢; exact h _ _ _ e
theorem sub_re {M0 M1 : PMem} {k : Nat} {os : List Pm.Obj} (h : Pm.Sub (seg M0 k os) M1) : Pm.Sub (seg M0 k os) (seg M1 k os) := fun a i o e => by
 by_cases ha : a = k
 ·subst ha; rw [seg_same] at e ⊢; exact e
 ·rw [seg_ne _ _ _ ha]; exact h _ _ _ e
theorem mle_re {M0 M1 : PMem} {k : Nat} {os : List Pm.Obj} (h : Pm.Sub (seg M0 k os) M1) : MLe M1 (seg M1 k os) := fun a i o e => by
 by_cases ha : a = k
 ·subst ha
  rw [seg_same] at e
  exact ⟨o, h _ _ _ (by rw [seg_same]; exact e), .refl _⟩
 ·rw [seg_ne _ _ _ ha] at e
  exact ⟨o, e, .refl _⟩
theorem seg_seg {M : PMem} {k : Nat} {os os' : List Pm.Obj} : seg (seg M k os) k os' = seg M k os' := by
 funext a i
 by_cases ha : a = k
 ·subst ha; rw [seg_same, seg_same]
 ·rw [seg_ne _ _ _ ha, seg_ne _ _ _ ha, seg_ne _ _ _ ha]
end Go.Proofs.YtlbjplpehkgcdaaGreatDoor
namespace Go.Proofs.YtlbjplpehkgcdaaGreatDoor
open Go Go.Am Go.Pm
theorem slice_one {k i o n c sz : Nat} {kk : IntKind} (h1 : 1 <= n) (hc : n <= capOf c /\ c % 2 = 1 /\ esOf c = sz) (hs : sz < 4096) : sliceL sz (.sl k i o n c) (some (.v (.int kk 1))) none none = some (.sl k i (o + sz) (n - 1) (loCap (capOf c - 1) sz)) := by
 have hp : pnat? (.v (.int kk 1)) = some 1 := pnat_int (n := 1)
 unfold sliceL
 simp only [hp]
 rw [if_pos ⟨h1, hc.1, .inr ⟨hc.2.1, hc.2.2, hs⟩⟩, if_neg (by omega), Nat.one_mul]
theorem sp_len (l : List Span) : (l.flatMap encSpan).length = l.length * 3 := flatMap_len (f := encSpan) (n := 3) (fun _ => rfl) l
theorem sp_frm (pre r : List Span) (z : Span) (f : Int) : psplice ((pre ++ z :: r).flatMap encSpan) (pre.length * 3 + 1) [iv f] = (pre ++ ⟨z.node, f, z.to⟩ :: r).flatMap encSpan := by
 unfold psplice
 have hl := sp_len pre
 rw [List.flatMap_append, List.flatMap_append, List.flatMap_cons, List.flatMap_cons]
 have e1 : (pre.flatMap encSpan ++ (encSpan z ++ r.flatMap encSpan)).take (pre.length * 3 + 1) = pre.flatMap encSpan ++ [iv z.node] := by
  rw [List.take_append, hl, List.take_of_length_le (by omega)]
  have : pre.length * 3 + 1 - pre.length * 3 = 1 := by omega
  rw [this]; rfl
 have e2 : (pre.flatMap encSpan ++ (encSpan z ++ r.flatMap encSpan)).drop (pre.length * 3 + 1 + [iv f].length) = iv z.to :: r.flatMap encSpan := by
  rw [List.drop_append, hl, List.drop_of_length_le (by rw [hl]; simp only [List.length_cons, List.length_nil]; omega)]
  have : pre.length * 3 + 1 + [iv f].length - pre.length * 3 = 2 := by simp; omega
  rw [this]; rfl
 rw [e1, e2, List.append_assoc]; rfl
theorem sp_to (pre r : List Span) (z : Span) (t : Int) : psplice ((pre ++ z :: r).flatMap encSpan) (pre.length * 3 + 2) [iv t] = (pre ++ ⟨z.node, z.frm, t⟩ :: r).flatMap encSpan := by
 unfold psplice
 have hl := sp_len pre
 rw [List.flatMap_append, List.flatMap_append, List.flatMap_cons, List.flatMap_cons]
 have e1 : (pre.flatMap encSpan ++ (encSpan z ++ r.flatMap encSpan)).take (pre.length * 3 + 2) = pre.flatMap encSpan ++ [iv z.node, iv z.frm] := by
  rw [List.take_append, hl, List.take_of_length_le (by omega)]
  have : pre.length * 3 + 2 - pre.length * 3 = 2 := by omega
  rw [this]; rfl
 have e2 : (pre.flatMap encSpan ++ (encSpan z ++ r.flatMap encSpan)).drop (pre.length * 3 + 2 + [iv t].length) = r.flatMap encSpan := by
  rw [List.drop_append, hl, List.drop_of_length_le (by rw [hl]; simp only [List.length_cons, List.length_nil]; omega)]
  have : pre.length * 3 + 2 + [iv t].length - pre.length * 3 = 3 := by simp; omega
  rw [this]; rfl
 rw [e1, e2, List.append_assoc]; rfl
theorem behind_at {M : PMem} {v : PV} {z : Span} {r : List Span} (h : LsV M v (z :: r)) (t : Int) (ht : 0 <= t /\ t <= 4000000000) : PT env Tryz.prog 139 [v, iv t] M (fun x M1 => LsV M1 x (behindS (z :: r) t) /\ keyV x = keyV v /\ ∀ k i, keyV v ≠ some k -> M1 k i = M k i) := by
 refine PT.enterR env_ok fn139 (by simp) comp139 fun k hk hf => RX.of env_ok ?_
 cases h with
 | @row k1 i1 j c pre _ hM hj hc =>
  subst hj
  have hk1 : k1 ≠ k := fun e => by subst e; rw [hf i1] at hM; cases hM
  have hld : ∀ {ag : Bool} {n o : Nat} {os : List Pm.Obj}, loadP k os M ag n (.ptr k1 i1 o) = rowTake ag n o (M k1 i1) := loadP_out hk1
  have hlt : 0 < r.length + 1 := Nat.succ_pos _
  have c2 := sp_cell (pre := pre) (l := z :: r) rfl (c := 2) (v := iv z.to) rfl
  have hc' : r.length + 1 <= capOf c /\ c % 2 = 1 /\ esOf c = 3 := hc
  have hsl := slice_one (k := k1) (i := i1) (o := pre.length * 3) (kk := .i64) (n := r.length + 1) (c := c) (sz := 3) (by omega) hc' (by decide)
  rw [Nat.add_sub_cancel] at hsl
  by_cases hz : z.to = t
  ·have hzb : (z.to == t) = true := by simp [hz]
   simp only [G0, Z1, Z2, Z3, Z4, Z5, argsP, len_sl, iaddr_sl0, hlt, hld, hM, c2, hzb, hsl]
   refine end1 hf rfl ⟨?_, rfl, fun _ _ _ => rfl⟩
   have hb : behindS (z :: r) t = r := by
    show (if z.to = t then r else _) = _
    rw [if_pos hz]
   rw [hb]
   have hcap := cap_lo (n := capOf c - 1) (es := 3) (by decide)
   have := LsV.row (M := M) (k := k1) (i := i1) (j := pre.length + 1) (c := loCap (capOf c - 1) 3) (pre := pre ++ [z]) (l := r) (by rw [List.append_assoc]; exact hM) (by simp) ⟨by rw [hcap.1]; omega, hcap.2⟩
   rw [Nat.add_mul, Nat.one_mul] at this
   exact this
  ·have hzb : (z.to == t) = false := by simp [hz]
   have hw : IntKind.i64.wrap (t + 1) = t + 1 := wrap64_id (by omega) (by omega)
   have hst : storeO 1 (pre.length * 3 + 1) (iv (t + 1)) (some (.row .rw 3 ((pre ++ z :: r).flatMap encSpan))) = some (.row .rw 3 ((pre ++ ⟨z.node, t + 1, z.to⟩ :: r).flatMap encSpan)) := by
    rw [<- sp_frm pre r z (t + 1)]
    have hlen : pre.length * 3 + 1 + 1 <= ((pre ++ z :: r).flatMap encSpan).length := by rw [sp_len]; simp; omega
    exact storeO_eq (n := 1) (x := iv (t + 1)) ⟨rfl, hlen, rfl⟩
   have hstP : ∀ {tm : List (Nat × PV)} {os : List Pm.Obj}, storeP tm 19 k os M 1 (iv (t + 1)) (.ptr k1 i1 (pre.length * 3 + 1)) = some (.junk, ⟨tm, 19, k, os, putM M k1 i1 (.row .rw 3 ((pre ++ ⟨z.node, t + 1, z.to⟩ :: r).flatMap encSpan))⟩) := fun {tm os} => by
    rw [storeP_out hk1, hM, hst, stO_eq]
   simp only [G0, Z1, Z2, Z3, Z4, Z5, argsP, len_sl, iaddr_sl0, hlt, hld, hM, c2, hzb, hw, hstP]
   refine end1 (fresh_put hf hk1) rfl ⟨?_, rfl, fun k' i' hk' => put_ne fun x => hk' (by rw [x.1]; rfl)⟩
   have hb : behindS (z :: r) t = ⟨z.node, t + 1, z.to⟩ :: r := by
    show (if z.to = t then r else _) = _
    rw [if_neg hz]
   rw [hb]
   exact .row (putM_same _ _ _ _) rfl hc'
inductive OutV (M : PMem) : PV -> List Span -> Prop where
 | nil (e : Nat) : OutV M (.lst .full e 0 []) []
 | row {k i : Nat} {w : Wm} {p : Span} {ro : List Span} (hM : M k i = some (.row w 3 ((p :: ro).reverse.flatMap encSpan))) (hw : w = .rw \/ w = .own) : OutV M (.sl k i 0 (ro.length + 1) (loCap (ro.length + 1) 3)) (p :: ro)
theorem OutV.frame {M M' : PMem} {v : PV} {l : List Span} (h : OutV M v l) (hf : ∀ k i, keyV v = some k -> M k i ≠ none -> M' k i = M k i) : OutV M' v l := by
 cases h with
 | nil e => exact .nil e
 | row hM hw => exact .row (by rw [hf _ _ rfl (by rw [hM]; exact fun h => by cases h)]; exact hM) hw
theorem OutV.key {M : PMem} {v : PV} {l : List Span} (h : OutV M v l) {k : Nat} (hf : fresh M k) : keyV v ≠ some k := by
 cases h with
 | nil e => intro h; cases h
 | row hM hw => intro h; cases h; rw [hf _] at hM; cases hM
theorem endN {Q : PV -> PMem -> Prop} {body : Code} {nt nt' k : Nat} {tm : List (Nat × PV)} {os : List Pm.Obj} {M : PMem} (h : Q (.tup []) (seg M k os)) : ends env ⟨nt, [], body⟩ Q .normal ⟨tm, nt', k, os, M⟩ := ⟨.inl rfl, [], seg M k os, rfl, .refl _, h⟩
theorem endR {Q : PV -> PMem -> Prop} {body : Code} {nt nt' k : Nat} {tm : List (Nat × PV)} {os : List Pm.Obj} {M : PMem} (h : Q (.tup []) (seg M k os)) : ends env ⟨nt, [], body⟩ Q .ret ⟨tm, nt', k, os, M⟩ := ⟨.inr rfl, [], seg M k os, rfl, .refl _, h⟩
theorem add_at {M : PMem} {a g : Nat} {va vb vo : PV} {ro : List Span} (hM : M a 0 = some (.row .rw 0 [va, vb, .fn g [] [], vo])) (h : OutV M vo ro) (hne : keyV vo ≠ some a) (hl : ro.length <= 1000000) (hp : ∀ p r, ro = p :: r -> 0 <= p.to /\ p.to <= 4000000000) (x : Span) :
  PTk env Tryz.prog 138 [.ptr a 0 0, spV x] M (fun nk y M1 => ∃ vo', M1 a 0 = some (.row .rw 0 [va, vb, .fn g [] [], vo']) /\ OutV M1 vo' (addR ro x) /\ (keyV vo' = keyV vo \/ ∃ k, nk <= k /\ fresh M k /\ keyV vo' = some k) /\ ∀ k i, k ≠ a -> keyV vo ≠ some k -> M k i ≠ none -> M1 k i = M k i) := by
 refine PTk.enterR env_ok fn138 (by simp) comp138 fun k hk hf => RX.of env_ok ?_
 have hak : a ≠ k := fun e => by subst e; rw [hf 0] at hM; cases hM
 have hlda : ∀ {ag : Bool} {n o : Nat} {os : List Pm.Obj} {M : PMem}, loadP k os M ag n (.ptr a 0 o) = rowTake ag n o (M a 0) := loadP_out hak
 have hfill : fillA 3 [iv 0, iv 0, iv 0] [(0, .agg [iv x.node, iv x.frm, iv x.to])] = some [iv x.node, iv x.frm, iv x.to] := rfl
 have hst : ∀ {tm : List (Nat × PV)} {os : List Pm.Obj} {M : PMem} {k2 i2 o2 n2 c2 : Nat}, M a 0 = some (.row .rw 0 [va, vb, .fn g [] [], vo]) -> storeP tm 52 k os M 1 (.sl k2 i2 o2 n2 c2) (.ptr a 0 3) = some (.junk, ⟨tm, 52, k, os, putM M a 0 (.row .rw 0 [va, vb, .fn g [] [], .sl k2 i2 o2 n2 c2])⟩) := fun {tm os M k2 i2 o2 n2 c2} h => by
  rw [storeP_out hak, h, storeO_eq (n := 1) (o := 3) (cs := [va, vb, .fn g [] [], vo]) (x := .sl k2 i2 o2 n2 c2) ⟨rfl, Nat.le_refl 4, rfl⟩, stO_eq]; rfl
 have old : ∀ {M' : PMem} {os : List Pm.Obj} {k' i : Nat}, M k' i ≠ none -> seg M' k os k' i = M' k' i := fun {M' os k' i} h => seg_ne _ _ _ fun e => by subst e; exact h (hf i)
 cases h with
 | nil e =>
  have hgt : ¬ (((0 : Nat) : Int) > 0) := by decide
  simp only [G0, Z1, Z2, Z3, Z4, Z5, argsP, spV, encSpan, hlda, hM, hgt, decide_false]
  refine aR ?_
  rw [apr_full (m := 1) (n := 0) (by decide) ⟨.inl rfl, by decide, by decide, by decide, rfl, rfl⟩]
  simp only [G0, Z1, Z2, Z3, Z4, Z5, hst, hM]
  refine endN ⟨_, by rw [seg_ne _ _ _ hak]; exact putM_same _ _ _ _, ?_, .inr ⟨k, Nat.le_refl _, hf, rfl⟩, fun k' i h1 h2 h3 => by rw [old h3, put_ne (fun y => h1 y.1)]⟩
  exact OutV.row (k := k) (i := 1) (p := x) (ro := []) (w := .rw) (by rw [seg_same]; rfl) (.inl rfl)
 | @row k1 i1 w p r hM1 hw =>
  have hka : k1 ≠ a := fun e => hne (by subst e; rfl)
  have hk1 : k1 ≠ k := fun e => by subst e; rw [hf i1] at hM1; cases hM1
  have hld1 : ∀ {ag : Bool} {n o : Nat} {os : List Pm.Obj}, loadP k os M ag n (.ptr k1 i1 o) = rowTake ag n o (M k1 i1) := loadP_out hk1
  have hl' : r.length + 1 <= 1000000 := hl
  obtain ⟨hp1, hp2⟩ := hp p r rfl
  have hgt : ((r.length + 1 : Nat) : Int) > 0 := by omega
  have hw1 : IntKind.i64.wrap (((r.length + 1 : Nat) : Int) - 1) = (r.length : Int) := by rw [wrap64_id (by omega) (by omega)]; omega
  have hw2 : IntKind.i64.wrap (p.to + 1) = p.to + 1 := wrap64_id (by omega) (by omega)
  have hi := iaddr_sl (k := k1) (i := i1) (o := 0) (n := r.length + 1) (c := loCap (r.length + 1) 3) (sz := 3) (m := r.length) (kk := .i64) (Nat.lt_succ_self _)
  rw [Nat.zero_add] at hi
  have hrev : (p :: r).reverse = r.reverse ++ [p] := List.reverse_cons
  have hrl : r.reverse.length = r.length := List.length_reverse
  have cN := sp_cell (pre := r.reverse) (l := [p]) rfl (c := 0) (v := iv p.node) rfl
  have cT := sp_cell (pre := r.reverse) (l := [p]) rfl (c := 2) (v := iv p.to) rfl
  rw [<- hrev, hrl] at cN cT
  rw [Nat.add_zero] at cN
  by_cases hn : p.node = x.node
  ·have bn : (p.node == x.node) = true := by simp [hn]
   by_cases hc : p.to + 1 = x.frm
   ·have bc : (p.to + 1 == x.frm) = true := by simp [hc]
    have hcells : ((p :: r).reverse.flatMap encSpan) = ((r.reverse ++ [p]).flatMap encSpan) := by rw [hrev]
    have hstO : storeO 1 (r.length * 3 + 2) (iv x.to) (some (.row w 3 ((p :: r).reverse.flatMap encSpan))) = some (.row .rw 3 ((⟨p.node, p.frm, x.to⟩ :: r).reverse.flatMap encSpan)) := by
     have hs := sp_to r.reverse [] p x.to
     rw [hrl] at hs
     have hr2 : (⟨p.node, p.frm, x.to⟩ :: r : List Span).reverse = r.reverse ++ [⟨p.node, p.frm, x.to⟩] := List.reverse_cons
     rw [hr2, <- hs, hcells]
     have hlen : r.length * 3 + 2 + 1 <= ((r.reverse ++ [p]).flatMap encSpan).length := by rw [sp_len]; simp; omega
     rcases hw with rfl | rfl
     ·exact storeO_eq (n := 1) (x := iv x.to) ⟨rfl, hlen, rfl⟩
     ·exact storeO_own (n := 1) (x := iv x.to) ⟨rfl, hlen, rfl⟩
    have hstP : ∀ {tm : List (Nat × PV)} {os : List Pm.Obj}, storeP tm 52 k os M 1 (iv x.to) (.ptr k1 i1 (r.length * 3 + 2)) = some (.junk, ⟨tm, 52, k, os, putM M k1 i1 (.row .rw 3 ((⟨p.node, p.frm, x.to⟩ :: r).reverse.flatMap encSpan))⟩) := fun {tm os} => by
     rw [storeP_out hk1, hM1, hstO, stO_eq]
    simp only [G0, Z1, Z2, Z3, Z4, Z5, argsP, spV, encSpan, hlda, hM, len_sl, hgt, decide_true, hw1, hi, hld1, hM1, cN, cT, bn, bc, hw2, hstP, Bool.not_true, Bool.not_false, cnd_t, cnd_f]
    have ha : addR (p :: r) x = ⟨p.node, p.frm, x.to⟩ :: r := by
     show (if p.node = x.node /\ p.to + 1 = x.frm then _ else _) = _
     rw [if_pos ⟨hn, hc⟩]
    refine endR ⟨_, by rw [seg_ne _ _ _ hak, put_ne (fun y => hka y.1.symm)]; exact hM, ?_, .inl rfl, fun k' i h1 h2 h3 => by rw [old h3, put_ne (fun y => h2 (by rw [y.1]; rfl))]⟩
    rw [ha]
    exact OutV.row (w := .rw) (by rw [seg_ne _ _ _ hk1]; exact putM_same _ _ _ _) (.inl rfl)
   ·have bc : (p.to + 1 == x.frm) = false := by simp [hc]
    simp only [G0, Z1, Z2, Z3, Z4, Z5, argsP, spV, encSpan, hlda, hM, len_sl, hgt, decide_true, hw1, hi, hld1, hM1, cN, cT, bn, bc, hw2, Bool.not_true, Bool.not_false, cnd_t, cnd_f]
    refine aR ?_
    rw [apr_grow (m := 1) (n := r.length + 1) (by decide) (Nat.succ_ne_zero _) hk1 (cap_lo (by decide)) hw hM1 (by rw [sp_len]; simp) ⟨by omega, by omega, by decide, rfl, rfl⟩]
    have hMa : putM M k1 i1 .gone a 0 = some (.row .rw 0 [va, vb, .fn g [] [], .sl k1 i1 0 (r.length + 1) (loCap (r.length + 1) 3)]) := by rw [put_ne (fun y => hka y.1.symm)]; exact hM
    simp only [G0, Z1, Z2, Z3, Z4, Z5, hst, hMa]
    have ha : addR (p :: r) x = x :: p :: r := by
     show (if p.node = x.node /\ p.to + 1 = x.frm then _ else _) = _
     rw [if_neg (fun y => hc y.2)]
    refine endN ⟨_, by rw [seg_ne _ _ _ hak]; exact putM_same _ _ _ _, ?_, .inr ⟨k, Nat.le_refl _, hf, rfl⟩, fun k' i h1 h2 h3 => by rw [old h3, put_ne (fun y => h1 y.1), put_ne (fun y => h2 (by rw [y.1]; rfl))]⟩
    rw [ha]
    exact OutV.row (k := k) (i := 1) (p := x) (ro := p :: r) (w := .own) (by rw [seg_same, List.reverse_cons, List.flatMap_append]; simp [encSpan]) (.inr rfl)
  ·have bn : (p.node == x.node) = false := by simp [hn]
   simp only [G0, Z1, Z2, Z3, Z4, Z5, argsP, spV, encSpan, hlda, hM, len_sl, hgt, decide_true, hw1, hi, hld1, hM1, cN, cT, bn, hw2, Bool.not_true, Bool.not_false, cnd_t, cnd_f]
   refine aR ?_
   rw [apr_grow (m := 1) (n := r.length + 1) (by decide) (Nat.succ_ne_zero _) hk1 (cap_lo (by decide)) hw hM1 (by rw [sp_len]; simp) ⟨by omega, by omega, by decide, rfl, rfl⟩]
   have hMa : putM M k1 i1 .gone a 0 = some (.row .rw 0 [va, vb, .fn g [] [], .sl k1 i1 0 (r.length + 1) (loCap (r.length + 1) 3)]) := by rw [put_ne (fun y => hka y.1.symm)]; exact hM
   simp only [G0, Z1, Z2, Z3, Z4, Z5, hst, hMa]
   have ha : addR (p :: r) x = x :: p :: r := by
    show (if p.node = x.node /\ p.to + 1 = x.frm then _ else _) = _
    rw [if_neg (fun y => hn y.1)]
   refine endN ⟨_, by rw [seg_ne _ _ _ hak]; exact putM_same _ _ _ _, ?_, .inr ⟨k, Nat.le_refl _, hf, rfl⟩, fun k' i h1 h2 h3 => by rw [old h3, put_ne (fun y => h1 y.1), put_ne (fun y => h2 (by rw [y.1]; rfl))]⟩
   rw [ha]
   exact OutV.row (k := k) (i := 1) (p := x) (ro := p :: r) (w := .own) (by rw [seg_same, List.reverse_cons, List.flatMap_append]; simp [encSpan]) (.inr rfl)
end Go.Proofs.YtlbjplpehkgcdaaGreatDoor