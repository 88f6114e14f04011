/- SpoolNone: what is none answers ErrNil, by a verified abstract machine and a logic over plain values. Part 18 of 19; no condition. -/
import Derived.Test.YtmgmbdnhodicjaaDoorM17
section
/- Lists of spans, and pasts that may be: what past.Check tells. Of closed terms and lists; no condition. -/
set_option linter.unusedVariables false
namespace Go.Proofs.YtmgmbdnhodicjaaDoor
open Go Go.Am Go.Pm
set_option linter.unusedSimpArgs false
structure Span where
  node : Int
  frm : Int
  to : Int

def encSpan (s : Span) : List PV := [.v (.int .i64 s.node), .v (.int .i64 s.frm), .v (.int .i64 s.to)]
def encSpans (xs : List Span) : PV := .lst .no 3 xs.length (xs.flatMap encSpan)

theorem flatMap_take {α : Type} {f : α → List PV} {n : Nat} (hf : ∀ x, (f x).length = n) : ∀ (xs : List α) (i : Nat) (x : α), xs[i]? = some x → ((xs.flatMap f).drop (i * n)).take n = f x
  | [], i, x, h => by simp at h
  | y :: xs, 0, x, h => by
    simp at h; subst h
    rw [Nat.zero_mul, List.drop_zero, List.flatMap_cons, List.take_append_of_le_length (by rw [hf]; exact Nat.le_refl _), List.take_of_length_le (by rw [hf]; exact Nat.le_refl _)]
  | y :: xs, i + 1, x, h => by
    simp at h
    rw [List.flatMap_cons, List.drop_append, List.drop_of_length_le (by rw [hf, Nat.add_mul]; omega), List.nil_append, hf, Nat.add_mul, Nat.one_mul, Nat.add_sub_cancel]
    exact flatMap_take hf xs i x h
theorem flatMap_len {α : Type} {f : α → List PV} {n : Nat} (hf : ∀ x, (f x).length = n) (xs : List α) : (xs.flatMap f).length = xs.length * n := by
  induction xs with
  | nil => simp
  | cons y xs ih => simp [ih, hf, Nat.add_mul]; omega
theorem load_at {α : Type} {f : α → List PV} {n : Nat} (hf : ∀ x, (f x).length = n) {xs : List α} {i : Nat} {x : α} (h : xs[i]? = some x) : ptake true n (xs.flatMap f) (i * n) = some (.agg (f x)) := by
  have hi : i < xs.length := by
    rcases Nat.lt_or_ge i xs.length with h' | h'
    · exact h'
    · rw [List.getElem?_eq_none h'] at h; cases h
  have : i * n + n ≤ xs.length * n := by
    rw [← Nat.succ_mul]; exact Nat.mul_le_mul_right _ hi
  simp only [ptake, flatMap_len hf, if_pos this, flatMap_take hf xs i x h]

theorem cell_at {α : Type} {f : α → List PV} {n : Nat} (hf : ∀ x, (f x).length = n) {xs : List α} {i : Nat} {x : α} (h : xs[i]? = some x) {c : Nat} {v : PV} (hc : (f x)[c]? = some v) : (xs.flatMap f)[i * n + c]? = some v := by
  have hcn : c < n := by
    rcases Nat.lt_or_ge c n with h' | h'
    · exact h'
    · rw [List.getElem?_eq_none (by rw [hf]; exact h')] at hc; cases hc
  have := flatMap_take hf xs i x h
  rw [← this, List.getElem?_take_of_lt hcn, List.getElem?_drop] at hc
  exact hc
def spanBad (x : Span) : Bool := decide (x.node < 1) || decide (x.node > 200) || decide (x.frm < 1) || decide (x.frm > x.to) || decide (x.to > 2147483647)
def pairBad (p x : Span) : Bool := decide (x.node < p.node) || (x.node == p.node && decide (x.frm ≤ p.to + 1))
def preOk : Option Span → Span → Bool
  | none, _ => true
  | some p, x => !pairBad p x
def pastFrom : Option Span → List Span → Bool
  | _, [] => true
  | p, x :: r => !spanBad x && preOk p x && pastFrom (some x) r
def pastOk (xs : List Span) : Bool := decide (xs.length ≤ 4000) && pastFrom none xs
def errIf (b : Bool) : Int := if b then 0 else 2



set_option maxHeartbeats 1000000
theorem loop65 (xs : List Span) (hl : xs.length ≤ 4000) (M : PMem) (k : Nat) (Q : AExit → PSt → Prop) (q1 : pastFrom none xs = true → ∀ tm, Q (.exit 0) ⟨tm, 79, k, [], M⟩)
    (q2 : pastFrom none xs = false → ∀ tm, tget tm 2 = .v (.int .i64 2) → Q .ret ⟨tm, 79, k, [], M⟩) :
    ∀ d i p, xs.length - i = d → i ≤ xs.length → (i = 0 ∧ p = none ∨ ∃ j x, i = j + 1 ∧ xs[j]? = some x ∧ p = some x ∧ spanBad x = false) → pastFrom none xs = pastFrom p (xs.drop i) →
    RXL env Tryd.prog none c65_26 ⟨[(10, .v (.int .i64 i)), (9, .v (.int .i64 xs.length)), (8, encSpans xs), (0, encSpans xs)], 79, k, [], M⟩ Q := by
  intro d
  induction d with
  | zero =>
    intro i p hd hi _ hp
    have : i = xs.length := by omega
    subst this
    refine RXL.round (RX.of env_ok ?_)
    simp only [WX, WV, WO, WC, FJ, e_L, r_append, FB, FL, FX, FS, FN, Option.map_some, Option.map_none, Nat.reduceLT, Nat.reduceEqDiff, Nat.reduceAdd, Nat.reduceLeDiff, Nat.reduceMul, true_and, and_self, Int.lt_irrefl, decide_false]
    refine q1 ?_ _
    rw [hp]; simp [pastFrom]
  | succ d ih =>
    intro i p hd hi hpre hp
    have hi' : i < xs.length := by omega
    have hx : ∃ x, xs[i]? = some x := ⟨xs[i], by simp⟩
    obtain ⟨x, hx⟩ := hx
    have hld := load_at (f := encSpan) (n := 3) (fun _ => rfl) hx
    simp only [encSpan] at hld
    have hdrop : xs.drop i = x :: xs.drop (i + 1) := by
      rw [List.drop_eq_getElem_cons hi']
      congr 1
      rw [List.getElem?_eq_getElem hi'] at hx
      exact Option.some.inj hx
    rw [hdrop] at hp
    simp only [pastFrom] at hp
    have hii : (i : Int) < xs.length := by omega
    refine RXL.inn fun k' hk1 hk2 hk3 => RX.of env_ok ?_
    simp only [WX, WV, WO, WC, FJ, e_L, r_append, FB, FL, FX, FS, FN, Option.map_some, Option.map_none, Nat.reduceLT, Nat.reduceEqDiff, Nat.reduceAdd, Nat.reduceLeDiff, Nat.reduceMul, true_and, and_self, encSpans, hii, decide_true, hi', hld]
    refine cW_s (fun hb => ?_) (fun hb => ?_)
    · have hb' : spanBad x = true := hb
      simp only [WX, WV, WO, WC, FJ, e_L, r_append, FB, FL, FX, FS, FN, Option.map_some, Option.map_none, Nat.reduceLT, Nat.reduceEqDiff, Nat.reduceAdd, Nat.reduceLeDiff, Nat.reduceMul, true_and, and_self]
      refine q2 ?_ _ rfl
      rw [hp, hb']; rfl
    · have hb' : spanBad x = false := hb
      have hw : IntKind.i64.wrap ((i : Int) + 1) = ((i + 1 : Nat) : Int) := by rw [wrap64_id (by omega) (by omega)]; rfl
      rcases hpre with ⟨rfl, rfl⟩ | ⟨j, y, rfl, hy, rfl, hby⟩
      · simp only [WX, WV, WO, WC, FJ, e_L, r_append, FB, FL, FX, FS, FN, Option.map_some, Option.map_none, Nat.reduceLT, Nat.reduceEqDiff, Nat.reduceAdd, Nat.reduceLeDiff, Nat.reduceMul, true_and, and_self, Int.lt_irrefl, Int.natCast_zero, gt_iff_lt, decide_false, hw]
        refine RXL.weak (keepE ?_) (ih 1 (some x) (by omega) (by omega) (.inr ⟨0, x, rfl, hx, rfl, hb'⟩) ?_)
        · repeat (first | exact KP.nil | apply KP.cons rfl)
        · rw [hp, hb']; simp [preOk]
      · have hj : j < xs.length := by omega
        have hb5 : 1 ≤ y.to ∧ y.to ≤ 2147483647 := by
          simp only [spanBad, Bool.or_eq_false_iff, decide_eq_false_iff_not] at hby
          omega
        have e1 : IntKind.i64.wrap (((j + 1 : Nat) : Int) - 1) = (j : Int) := by rw [wrap64_id (by omega) (by omega)]; omega
        have e2 : IntKind.i64.wrap (y.to + 1) = y.to + 1 := wrap64_id (by omega) (by omega)
        have e3 : (0 : Int) < ((j + 1 : Nat) : Int) := by omega
        have c0 : (xs.flatMap encSpan)[j * 3]? = some (.v (.int .i64 y.node)) := cell_at (f := encSpan) (n := 3) (c := 0) (fun _ => rfl) hy rfl
        have c2 : (xs.flatMap encSpan)[j * 3 + 2]? = some (.v (.int .i64 y.to)) := cell_at (f := encSpan) (n := 3) (c := 2) (fun _ => rfl) hy rfl
        simp only [WX, WV, WO, WC, FJ, e_L, r_append, FB, FL, FX, FS, FN, Option.map_some, Option.map_none, Nat.reduceLT, Nat.reduceEqDiff, Nat.reduceAdd, Nat.reduceLeDiff, Nat.reduceMul, true_and, and_self, e1, e2, e3, hj, c0, c2, gt_iff_lt, decide_true, encSpans]
        have hp2 : pastFrom none xs = (!pairBad y x && pastFrom (some x) (xs.drop (j + 1 + 1))) := by rw [hp, hb']; simp only [preOk]; rfl
        refine cW_s (fun hc => ?_) (fun hc => ?_)
        · have hc' : pairBad y x = true := hc
          simp only [WX, WV, WO, WC, FJ, e_L, r_append, FB, FL, FX, FS, FN, Option.map_some, Option.map_none, Nat.reduceLT, Nat.reduceEqDiff, Nat.reduceAdd, Nat.reduceLeDiff, Nat.reduceMul, true_and, and_self]
          refine q2 ?_ _ rfl
          rw [hp2, hc']; rfl
        · have hc' : pairBad y x = false := hc
          simp only [WX, WV, WO, WC, FJ, e_L, r_append, FB, FL, FX, FS, FN, Option.map_some, Option.map_none, Nat.reduceLT, Nat.reduceEqDiff, Nat.reduceAdd, Nat.reduceLeDiff, Nat.reduceMul, true_and, and_self, hw]
          refine RXL.weak (keepE ?_) (ih (j + 1 + 1) (some x) (by omega) (by omega) (.inr ⟨j + 1, x, rfl, hx, rfl, hb'⟩) ?_)
          · repeat (first | exact KP.nil | apply KP.cons rfl)
          · rw [hp2, hc']; rfl

theorem past_check (xs : List Span) : PTp env Tryd.prog 65 [encSpans xs] (.v (.int .i64 (errIf (pastOk xs)))) := fun M => by
  refine PT.enterR env_ok fn65 (by simp) comp65 fun k hk hf => RX.of env_ok ?_
  simp only [WX, WV, WO, WC, FJ, e_L, r_append, FB, FL, FX, FS, FN, Option.map_some, Option.map_none, Nat.reduceLT, Nat.reduceEqDiff, Nat.reduceAdd, Nat.reduceLeDiff, Nat.reduceMul, true_and, and_self, argsP, encSpans]
  refine cW_s (fun hb => ?_) (fun hb => ?_)
  · simp only [WX, WV, WO, WC, FJ, e_L, r_append, FB, FL, FX, FS, FN, Option.map_some, Option.map_none, Nat.reduceLT, Nat.reduceEqDiff, Nat.reduceAdd, Nat.reduceLeDiff, Nat.reduceMul, true_and, and_self]
    refine end1 hf rfl ⟨?_, rfl⟩
    have : pastOk xs = false := by simp at hb; simp [pastOk]; intro; omega
    rw [this]; rfl
  · simp only [WX, WV, WO, WC, FJ, e_L, r_append, FB, FL, FX, FS, FN, Option.map_some, Option.map_none, Nat.reduceLT, Nat.reduceEqDiff, Nat.reduceAdd, Nat.reduceLeDiff, Nat.reduceMul, true_and, and_self]
    have hl : xs.length ≤ 4000 := by simp at hb; omega
    refine RX.loop ?_
    refine RXL.weak (keepE ?_) (loop65 xs hl M k _ ?_ ?_ xs.length 0 none rfl (Nat.zero_le _) (.inl ⟨rfl, rfl⟩) rfl)
    · repeat (first | exact KP.nil | apply KP.cons rfl)
    · intro hok tm
      simp only [WX, WV, WO, WC, FJ, e_L, r_append, FB, FL, FX, FS, FN, Option.map_some, Option.map_none, Nat.reduceLT, Nat.reduceEqDiff, Nat.reduceAdd, Nat.reduceLeDiff, Nat.reduceMul, true_and, and_self]
      refine end1 hf rfl ⟨?_, rfl⟩
      have : pastOk xs = true := by simp [pastOk, hl, hok]
      rw [this]; rfl
    · intro hbad tm ht
      simp only [WX, WV, WO, WC, FJ, e_L, r_append, FB, FL, FX, FS, FN, Option.map_some, Option.map_none, Nat.reduceLT, Nat.reduceEqDiff, Nat.reduceAdd, Nat.reduceLeDiff, Nat.reduceMul, true_and, and_self]
      refine end1 hf ht ⟨?_, rfl⟩
      have : pastOk xs = false := by simp [pastOk, hbad]
      rw [this]; rfl
end Go.Proofs.YtmgmbdnhodicjaaDoor
end

section
/- Dots, effects: what may be. Of any values; no condition. -/
set_option linter.unusedVariables false
namespace Go.Proofs.YtmgmbdnhodicjaaDoor
open Go Go.Am Go.Pm
set_option linter.unusedSimpArgs false
set_option maxHeartbeats 1000000

abbrev iv (n : Int) : PV := .v (.int .i64 n)
abbrev bv (b : Bool) : PV := .v (.bool b)
abbrev sv (s : ByteArray) : PV := .v (.string s)
def encB (b : UInt8) : PV := .v (.int .u8 b.toNat)
def encBytes (l : List UInt8) : PV := .lst .no 1 l.length (l.map encB)

def dotOk (n s : Int) : Bool := !(decide (n < 1) || decide (n > 200) || decide (s < 1) || decide (s > 2147483647))
theorem dot_check (n s : Int) : PTp env Tryd.prog 62 [.agg [iv n, iv s]] (iv (errIf (dotOk n s))) := fun M => by
  refine PT.enterR env_ok fn62 (by simp) comp62 fun k hk hf => RX.of env_ok ?_
  simp only [WX, WV, WO, WC, FJ, e_L, r_append, FB, FL, FX, FS, FN, Option.map_some, Option.map_none, Nat.reduceLT, Nat.reduceEqDiff, Nat.reduceAdd, Nat.reduceLeDiff, Nat.reduceMul, true_and, and_self, argsP]
  refine cW_s (fun hb => ?_) (fun hb => ?_)
  · simp only [WX, WV, WO, WC, FJ, e_L, r_append, FB, FL, FX, FS, FN, Option.map_some, Option.map_none, Nat.reduceLT, Nat.reduceEqDiff, Nat.reduceAdd, Nat.reduceLeDiff, Nat.reduceMul, true_and, and_self]
    refine end1 hf rfl ⟨?_, rfl⟩
    show _ = iv (errIf (!_))
    rw [hb]; rfl
  · simp only [WX, WV, WO, WC, FJ, e_L, r_append, FB, FL, FX, FS, FN, Option.map_some, Option.map_none, Nat.reduceLT, Nat.reduceEqDiff, Nat.reduceAdd, Nat.reduceLeDiff, Nat.reduceMul, true_and, and_self]
    refine end1 hf rfl ⟨?_, rfl⟩
    show _ = iv (errIf (!_))
    rw [hb]; rfl
theorem effect_rules : PTp env Tryd.prog 83 [] (.agg [iv 0, iv 0, iv 511, iv 1000, iv 511, iv 0, iv 0, iv 0]) := fun M => by
  refine PT.enterR env_ok fn83 (by simp) comp83 fun k hk hf => RX.of env_ok ?_
  simp only [WX, WV, WO, WC, FJ, e_L, r_append, FB, FL, FX, FS, FN, Option.map_some, Option.map_none, Nat.reduceLT, Nat.reduceEqDiff, Nat.reduceAdd, Nat.reduceLeDiff, Nat.reduceMul, true_and, and_self, argsP]
  refine endc (ag := true) (n := 8) hf (by kernel_rfl) ?_ ⟨rfl, rfl⟩
  simp only [WX, WV, WO, WC, FJ, e_L, r_append, FB, FL, FX, FS, FN, Option.map_some, Option.map_none, Nat.reduceLT, Nat.reduceEqDiff, Nat.reduceAdd, Nat.reduceLeDiff, Nat.reduceMul, true_and, and_self]
def effOk (k m : Int) (b : List UInt8) : Bool := !(decide (k < 1) || decide (k > 3)) && !(decide (m < 0) || decide (m > (if k = 3 then 0 else 511)) || decide ((b.length : Int) > (if k = 1 then 1000 else 0)))
theorem effect_check (x m : Int) (b : List UInt8) : PTp env Tryd.prog 64 [.agg [iv x, iv m, encBytes b]] (iv (errIf (effOk x m b))) := fun M => by
  refine PT.enterR env_ok fn64 (by simp) comp64 fun k hk hf => RX.of env_ok ?_
  simp only [WX, WV, WO, WC, FJ, e_L, r_append, FB, FL, FX, FS, FN, Option.map_some, Option.map_none, Nat.reduceLT, Nat.reduceEqDiff, Nat.reduceAdd, Nat.reduceLeDiff, Nat.reduceMul, true_and, and_self, argsP]
  refine cW_s (fun hb => ?_) (fun hb => ?_)
  · simp only [WX, WV, WO, WC, FJ, e_L, r_append, FB, FL, FX, FS, FN, Option.map_some, Option.map_none, Nat.reduceLT, Nat.reduceEqDiff, Nat.reduceAdd, Nat.reduceLeDiff, Nat.reduceMul, true_and, and_self]
    refine end1 hf rfl ⟨?_, rfl⟩
    unfold effOk; rw [hb]; rfl
  · simp only [WX, WV, WO, WC, FJ, e_L, r_append, FB, FL, FX, FS, FN, Option.map_some, Option.map_none, Nat.reduceLT, Nat.reduceEqDiff, Nat.reduceAdd, Nat.reduceLeDiff, Nat.reduceMul, true_and, and_self]
    refine cq0 effect_rules (by decide) ?_
    have hidx : ∃ j : Nat, x = (j : Int) ∧ (j = 1 ∨ j = 2 ∨ j = 3) := ⟨x.toNat, by simp at hb; omega, by simp at hb; omega⟩
    obtain ⟨j, rfl, h⟩ := hidx
    have hj : j < 4 := by omega
    have h2 : ∃ a c : Int, (List.take 2 (List.drop (j * 2) [iv 0, iv 0, iv 511, iv 1000, iv 511, iv 0, iv 0, iv 0])) = [iv a, iv c] ∧ a = (if (j : Int) = 3 then 0 else 511) ∧ c = (if (j : Int) = 1 then 1000 else 0) := by
      rcases h with rfl | rfl | rfl
      · exact ⟨511, 1000, rfl, rfl, rfl⟩
      · exact ⟨511, 0, rfl, rfl, rfl⟩
      · exact ⟨0, 0, rfl, rfl, rfl⟩
    obtain ⟨a, c, h2, ha, hc⟩ := h2
    simp only [WX, WV, WO, WC, FJ, e_L, r_append, FB, FL, FX, FS, FN, Option.map_some, Option.map_none, Nat.reduceLT, Nat.reduceEqDiff, Nat.reduceAdd, Nat.reduceLeDiff, Nat.reduceMul, true_and, and_self, hj, h2, encBytes]
    refine cW_s (fun hb' => ?_) (fun hb' => ?_)
    · simp only [WX, WV, WO, WC, FJ, e_L, r_append, FB, FL, FX, FS, FN, Option.map_some, Option.map_none, Nat.reduceLT, Nat.reduceEqDiff, Nat.reduceAdd, Nat.reduceLeDiff, Nat.reduceMul, true_and, and_self]
      refine end1 hf rfl ⟨?_, rfl⟩
      unfold effOk; rw [hb, ← ha, ← hc, hb']; rfl
    · simp only [WX, WV, WO, WC, FJ, e_L, r_append, FB, FL, FX, FS, FN, Option.map_some, Option.map_none, Nat.reduceLT, Nat.reduceEqDiff, Nat.reduceAdd, Nat.reduceLeDiff, Nat.reduceMul, true_and, and_self]
      refine end1 hf rfl ⟨?_, rfl⟩
      unfold effOk; rw [hb, ← ha, ← hc, hb']; rfl
end Go.Proofs.YtmgmbdnhodicjaaDoor
end

section
/- Bytes and texts: the same or not. Of any values; no condition. -/
set_option linter.unusedVariables false
namespace Go.Proofs.YtmgmbdnhodicjaaDoor
open Go Go.Am Go.Pm
set_option linter.unusedSimpArgs false
set_option maxHeartbeats 1000000

abbrev str (l : List UInt8) : PV := .v (.string ⟨l.toArray⟩)
theorem bytesEq_eq : ∀ a b : List UInt8, bytesEq a b = (a == b)
  | [], [] => rfl
  | [], _ :: _ => rfl
  | _ :: _, [] => rfl
  | x :: a, y :: b => by
    have h : Nat.beq x.toNat y.toNat = (x == y) := by
      cases e : (x == y) with
      | true => rw [beq_iff_eq] at e; subst e; exact Nat.beq_refl _
      | false =>
        cases e2 : Nat.beq x.toNat y.toNat with
        | false => rfl
        | true =>
          have := UInt8.toNat.inj (Nat.eq_of_beq_eq_true e2)
          subst this
          simp at e
    rw [bytesEq, bytesEq_eq a b, h]; rfl
theorem pbytes_enc : ∀ l : List UInt8, pbytes? (l.map encB) = some l
  | [] => rfl
  | b :: l => by
    simp only [List.map_cons, encB, pbytes?]
    have := pbytes_enc l
    rw [show (List.map encB l) = List.map encB l from rfl, this]
    simp
theorem convB_enc {t : Tok} {n : Nat} {l : List UInt8} : convB (.lst t 1 n (l.map encB)) = some (str l) := by
  simp [convB, pbytes_enc]
theorem str_eql {E : Env} {t : Nat} {c d : Bool} {a b : List UInt8} : pbin E .eql t c d (str a) (str b) = some (bv (a == b)) := by
  simp [pbin, eqFine, binV, strBin, bytesEq_eq]
theorem str_neq {E : Env} {t : Nat} {c d : Bool} {a b : List UInt8} : pbin E .neq t c d (str a) (str b) = some (bv (!(a == b))) := by
  simp [pbin, eqFine, binV, strBin, bytesEq_eq]
theorem same_bytes (a b : List UInt8) : PTp env Tryd.prog 48 [encBytes a, encBytes b] (bv (a == b)) := fun M => by
  refine PT.enterR env_ok fn48 (by simp) comp48 fun k hk hf => RX.of env_ok ?_
  simp only [WX, WV, WO, WC, FJ, e_L, r_append, FB, FL, FX, FS, FN, Option.map_some, Option.map_none, Nat.reduceLT, Nat.reduceEqDiff, Nat.reduceAdd, Nat.reduceLeDiff, Nat.reduceMul, true_and, and_self, argsP, encBytes, convB_enc, str_eql]
  exact end1 hf rfl ⟨rfl, rfl⟩
theorem same_effect (x m y p : Int) (a b : List UInt8) : PTp env Tryd.prog 37 [.agg [iv x, iv m, encBytes a], .agg [iv y, iv p, encBytes b]] (bv (x == y && m == p && a == b)) := fun M => by
  refine PT.enterR env_ok fn37 (by simp) comp37 fun k hk hf => RX.of env_ok ?_
  simp only [WX, WV, WO, WC, FJ, e_L, r_append, FB, FL, FX, FS, FN, Option.map_some, Option.map_none, Nat.reduceLT, Nat.reduceEqDiff, Nat.reduceAdd, Nat.reduceLeDiff, Nat.reduceMul, true_and, and_self, argsP]
  refine cg0T (fun h => by simp only [h, cnd_t]; exact same_bytes a b) (by decide) ?_
  simp only [WX, WV, WO, WC, FJ, e_L, r_append, FB, FL, FX, FS, FN, Option.map_some, Option.map_none, Nat.reduceLT, Nat.reduceEqDiff, Nat.reduceAdd, Nat.reduceLeDiff, Nat.reduceMul, true_and, and_self]
  exact end1 hf rfl ⟨rfl, rfl⟩
theorem long_effect (x m : Int) (a : List UInt8) : PTp env Tryd.prog 45 [.agg [iv x, iv m, encBytes a]] (bv (decide ((a.length : Int) > 1200))) := fun M => by
  refine PT.enterR env_ok fn45 (by simp) comp45 fun k hk hf => RX.of env_ok ?_
  simp only [WX, WV, WO, WC, FJ, e_L, r_append, FB, FL, FX, FS, FN, Option.map_some, Option.map_none, Nat.reduceLT, Nat.reduceEqDiff, Nat.reduceAdd, Nat.reduceLeDiff, Nat.reduceMul, true_and, and_self, argsP, encBytes]
  exact end1 hf rfl ⟨rfl, rfl⟩

end Go.Proofs.YtmgmbdnhodicjaaDoor
end

section
/- Comparing spans. Of any values; no condition. -/
set_option linter.unusedVariables false
namespace Go.Proofs.YtmgmbdnhodicjaaDoor
open Go Go.Am Go.Pm
set_option linter.unusedSimpArgs false
set_option maxHeartbeats 1000000
theorem pl79 : env.plainEq 79 = true := by kernel_rfl
def eqS (e : Option Bool) (r : Option Bool) : Option Bool :=
  match e with
  | some true => r
  | some false => some false
  | none => none
theorem eqS_b {a b : Bool} : eqS (some a) (some b) = some (a && b) := by cases a <;> rfl
theorem eq79 (a b c x y z : Int) : aEq env 100 79 (.agg #[.int .i64 a, .int .i64 b, .int .i64 c]) (.agg #[.int .i64 x, .int .i64 y, .int .i64 z]) = some (a == x && (b == y && c == z)) := by
  have h : aEq env 100 79 (.agg #[.int .i64 a, .int .i64 b, .int .i64 c]) (.agg #[.int .i64 x, .int .i64 y, .int .i64 z]) = eqS (some (a == x)) (eqS (some (b == y)) (eqS (some (c == z)) (some true))) := by kernel_rfl
  rw [h, eqS_b, eqS_b, eqS_b, Bool.and_true]
theorem neq79 {t' : Bool} {d : Bool} (a b c x y z : Int) : pbin env .neq 79 t' d (.agg [iv a, iv b, iv c]) (.agg [iv x, iv y, iv z]) = some (bv (!(a == x && (b == y && c == z)))) := by
  simp [pbin, pflats?, pl79, binV, eq79]
theorem eql79 {t' : Bool} {d : Bool} (a b c x y z : Int) : pbin env .eql 79 t' d (.agg [iv a, iv b, iv c]) (.agg [iv x, iv y, iv z]) = some (bv (a == x && (b == y && c == z))) := by
  simp [pbin, pflats?, pl79, binV, eq79]
theorem getE {α : Type} {xs : List α} {i : Nat} (h : i < xs.length) : ∃ x, xs[i]? = some x ∧ xs.drop i = x :: xs.drop (i + 1) := ⟨xs[i], by simp, List.drop_eq_getElem_cons h⟩
def spanEq (x y : Span) : Bool := x.node == y.node && (x.frm == y.frm && x.to == y.to)
def spansEq : List Span → List Span → Bool
  | [], [] => true
  | x :: a, y :: b => spanEq x y && spansEq a b
  | _, _ => false
theorem spansEq_len : ∀ {a b : List Span}, spansEq a b = true → a.length = b.length
  | [], [], _ => rfl
  | x :: a, y :: b, h => by simp only [spansEq, Bool.and_eq_true] at h; simp [spansEq_len h.2]
theorem loop38 (a b : List Span) (hl : a.length = b.length) (M : PMem) (k : Nat) (Q : AExit → PSt → Prop) (hs : a.length ≤ 9223372036854775806) (q1 : spansEq a b = true → ∀ tm, Q (.exit 0) ⟨tm, 26, k, [], M⟩)
    (q2 : spansEq a b = false → ∀ tm, tget tm 4 = bv false → Q .ret ⟨tm, 26, k, [], M⟩) :
    ∀ d i, a.length - i = d → i ≤ a.length → spansEq a b = spansEq (a.drop i) (b.drop i) →
    RXL env Tryd.prog none c38_18 ⟨[(5, iv i), (1, encSpans b), (0, encSpans a)], 26, k, [], M⟩ Q := by
  intro d
  induction d with
  | zero =>
    intro i hd hi hp
    have : i = a.length := by omega
    subst this
    refine RXL.round (RX.of env_ok ?_)
    simp only [WX, WV, WO, WC, FJ, e_L, r_append, FB, FL, FX, FS, FN, Option.map_some, Option.map_none, Nat.reduceLT, Nat.reduceEqDiff, Nat.reduceAdd, Nat.reduceLeDiff, Nat.reduceMul, true_and, and_self, encSpans, Int.lt_irrefl, decide_false]
    refine q1 ?_ _
    rw [hp, List.drop_of_length_le (Nat.le_refl _), List.drop_of_length_le (by omega)]; rfl
  | succ d ih =>
    intro i hd hi hp
    have hi' : i < a.length := by omega
    have hib : i < b.length := by omega
    have hii : (i : Int) < a.length := by omega
    obtain ⟨x, hx, hdx⟩ := getE hi'
    obtain ⟨y, hy, hdy⟩ := getE hib
    have hlx := load_at (f := encSpan) (n := 3) (fun _ => rfl) hx
    have hly := load_at (f := encSpan) (n := 3) (fun _ => rfl) hy
    have hw : IntKind.i64.wrap ((i : Int) + 1) = ((i + 1 : Nat) : Int) := by rw [wrap64_id (by omega) (by omega)]; rfl
    rw [hdx, hdy] at hp
    refine RXL.round (RX.of env_ok ?_)
    simp only [WX, WV, WO, WC, FJ, e_L, r_append, FB, FL, FX, FS, FN, Option.map_some, Option.map_none, Nat.reduceLT, Nat.reduceEqDiff, Nat.reduceAdd, Nat.reduceLeDiff, Nat.reduceMul, true_and, and_self, encSpans, hii, decide_true, hi', hib, hlx, hly, encSpan, neq79]
    refine cW_s (fun hb => ?_) (fun hb => ?_)
    · simp only [WX, WV, WO, WC, FJ, e_L, r_append, FB, FL, FX, FS, FN, Option.map_some, Option.map_none, Nat.reduceLT, Nat.reduceEqDiff, Nat.reduceAdd, Nat.reduceLeDiff, Nat.reduceMul, true_and, and_self]
      refine q2 ?_ _ rfl
      rw [hp, spansEq]
      have hn : (!spanEq x y) = true := hb
      have : spanEq x y = false := by simpa using hn
      rw [this]; rfl
    · simp only [WX, WV, WO, WC, FJ, e_L, r_append, FB, FL, FX, FS, FN, Option.map_some, Option.map_none, Nat.reduceLT, Nat.reduceEqDiff, Nat.reduceAdd, Nat.reduceLeDiff, Nat.reduceMul, true_and, and_self, hw]
      have hn : (!spanEq x y) = false := hb
      have : spanEq x y = true := by simpa using hn
      refine RXL.weak (keepE ?_) (ih (i + 1) (by omega) (by omega) ?_)
      · repeat (first | exact KP.nil | apply KP.cons rfl)
      · rw [hp, spansEq, this]; rfl
theorem same_spans (a b : List Span) (hs : a.length ≤ 9223372036854775806) : PTp env Tryd.prog 38 [encSpans a, encSpans b] (bv (spansEq a b)) := fun M => by
  refine PT.enterR env_ok fn38 (by simp) comp38 fun k hk hf => RX.of env_ok ?_
  simp only [WX, WV, WO, WC, FJ, e_L, r_append, FB, FL, FX, FS, FN, Option.map_some, Option.map_none, Nat.reduceLT, Nat.reduceEqDiff, Nat.reduceAdd, Nat.reduceLeDiff, Nat.reduceMul, true_and, and_self, argsP, encSpans]
  refine cW_s (fun hb => ?_) (fun hb => ?_)
  · simp only [WX, WV, WO, WC, FJ, e_L, r_append, FB, FL, FX, FS, FN, Option.map_some, Option.map_none, Nat.reduceLT, Nat.reduceEqDiff, Nat.reduceAdd, Nat.reduceLeDiff, Nat.reduceMul, true_and, and_self]
    refine end1 hf rfl ⟨?_, rfl⟩
    cases e : spansEq a b with
    | false => rfl
    | true => have := spansEq_len e; rw [this] at hb; simp at hb
  · simp only [WX, WV, WO, WC, FJ, e_L, r_append, FB, FL, FX, FS, FN, Option.map_some, Option.map_none, Nat.reduceLT, Nat.reduceEqDiff, Nat.reduceAdd, Nat.reduceLeDiff, Nat.reduceMul, true_and, and_self]
    have hl : a.length = b.length := by
      have : (a.length : Int) = b.length := by simpa using hb
      omega
    refine RX.loop (RXL.weak (keepE ?_) (loop38 a b hl M k _ hs ?_ ?_ a.length 0 rfl (Nat.zero_le _) rfl))
    · repeat (first | exact KP.nil | apply KP.cons rfl)
    · intro h tm
      simp only [WX, WV, WO, WC, FJ, e_L, r_append, FB, FL, FX, FS, FN, Option.map_some, Option.map_none, Nat.reduceLT, Nat.reduceEqDiff, Nat.reduceAdd, Nat.reduceLeDiff, Nat.reduceMul, true_and, and_self]
      exact end1 hf rfl ⟨by rw [h]; rfl, rfl⟩
    · intro h tm ht
      simp only [WX, WV, WO, WC, FJ, e_L, r_append, FB, FL, FX, FS, FN, Option.map_some, Option.map_none, Nat.reduceLT, Nat.reduceEqDiff, Nat.reduceAdd, Nat.reduceLeDiff, Nat.reduceMul, true_and, and_self]
      exact end1 hf ht ⟨by rw [h], rfl⟩
end Go.Proofs.YtmgmbdnhodicjaaDoor
end

section
/- Events: the same or not, long or not. Of any values; no condition. -/
set_option linter.unusedVariables false
namespace Go.Proofs.YtmgmbdnhodicjaaDoor
open Go Go.Am Go.Pm
set_option linter.unusedSimpArgs false
set_option maxHeartbeats 1000000
theorem pl28 : env.plainEq 28 = true := by kernel_rfl
theorem eq28 (a b x y : Int) : aEq env 100 28 (.agg #[.int .i64 a, .int .i64 b]) (.agg #[.int .i64 x, .int .i64 y]) = some (a == x && b == y) := by
  have h : aEq env 100 28 (.agg #[.int .i64 a, .int .i64 b]) (.agg #[.int .i64 x, .int .i64 y]) = eqS (some (a == x)) (eqS (some (b == y)) (some true)) := by kernel_rfl
  rw [h, eqS_b, eqS_b, Bool.and_true]
theorem neq28 {t' : Bool} {d : Bool} (a b x y : Int) : pbin env .neq 28 t' d (.agg [iv a, iv b]) (.agg [iv x, iv y]) = some (bv (!(a == x && b == y))) := by
  simp [pbin, pflats?, pl28, binV, eq28]
theorem eql28 {t' : Bool} {d : Bool} (a b x y : Int) : pbin env .eql 28 t' d (.agg [iv a, iv b]) (.agg [iv x, iv y]) = some (bv (a == x && b == y)) := by
  simp [pbin, pflats?, pl28, binV, eq28]

structure Ev where
  node : Int
  seq : Int
  path : List UInt8
  kind : Int
  mode : Int
  bytes : List UInt8
  past : List Span
def evCells (e : Ev) : List PV := [iv e.node, iv e.seq, str e.path, iv e.kind, iv e.mode, encBytes e.bytes, encSpans e.past]
def encEv (e : Ev) : PV := .agg (evCells e)
def evEq (a b : Ev) : Bool := (a.node == b.node && a.seq == b.seq) && a.path == b.path && (a.kind == b.kind && a.mode == b.mode && a.bytes == b.bytes) && spansEq a.past b.past
theorem same_event (a b : Ev) (hs : a.past.length ≤ 9223372036854775806) : PTp env Tryd.prog 19 [encEv a, encEv b] (bv (evEq a b)) := fun M => by
  refine PT.enterR env_ok fn19 (by simp) comp19 fun k hk hf => RX.of env_ok ?_
  simp only [WX, WV, WO, WC, FJ, e_L, r_append, FB, FL, FX, FS, FN, Option.map_some, Option.map_none, Nat.reduceLT, Nat.reduceEqDiff, Nat.reduceAdd, Nat.reduceLeDiff, Nat.reduceMul, true_and, and_self, argsP, encEv, evCells, eql28, str_eql]

  refine cg0T (fun h => by simp only [h, cnd_t]; exact same_effect _ _ _ _ _ _) (by decide) ?_
  simp only [WX, WV, WO, WC, FJ, e_L, r_append, FB, FL, FX, FS, FN, Option.map_some, Option.map_none, Nat.reduceLT, Nat.reduceEqDiff, Nat.reduceAdd, Nat.reduceLeDiff, Nat.reduceMul, true_and, and_self]
  refine cg0T (fun h => by simp only [h, cnd_t]; exact same_spans _ _ hs) (by decide) ?_
  simp only [WX, WV, WO, WC, FJ, e_L, r_append, FB, FL, FX, FS, FN, Option.map_some, Option.map_none, Nat.reduceLT, Nat.reduceEqDiff, Nat.reduceAdd, Nat.reduceLeDiff, Nat.reduceMul, true_and, and_self]
  exact end1 hf rfl ⟨rfl, rfl⟩

def evLong (e : Ev) : Bool := decide ((e.path.length : Int) > 100) || decide ((e.bytes.length : Int) > 1200) || decide ((e.past.length : Int) > 100)
def anyL : Nat → List Ev → Bool
  | 0, _ => false
  | _, [] => false
  | n + 1, x :: r => evLong x || anyL n r
def longEvs (m : Nat) (l : List Ev) : Bool := anyL (m + 1) l || decide ((l.length : Int) > m)
def encEvs (l : List Ev) : PV := .lst .no 7 l.length (l.flatMap evCells)
theorem sub_at {α : Type} {f : α → List PV} {n : Nat} (hf : ∀ x, (f x).length = n) {xs : List α} {i : Nat} {x : α} (h : xs[i]? = some x) {c w : Nat} {vs : List PV} (hc : c + w ≤ n) (hv : ((f x).drop c).take w = vs) : ptake true w (xs.flatMap f) (i * n + c) = some (.agg vs) := by
  have hi : i < xs.length := by
    rcases Nat.lt_or_ge i xs.length with h' | h'
    · exact h'
    · rw [List.getElem?_eq_none h'] at h; cases h
  have hle : i * n + n ≤ xs.length * n := by
    rw [← Nat.succ_mul]; exact Nat.mul_le_mul_right _ hi
  have h1 : i * n + c + w ≤ (xs.flatMap f).length := by rw [flatMap_len hf]; omega
  rw [ptake_mid h1, ← hv]
  have := flatMap_take hf xs i x h
  rw [← this, List.drop_take, List.take_take, List.drop_drop, Nat.min_eq_left (by omega)]
theorem ev_load7 {l : List Ev} {i : Nat} {x : Ev} (h : l[i]? = some x) : ptake true 7 (l.flatMap evCells) (i * 7) = some (encEv x) := load_at (f := evCells) (fun _ => rfl) h
theorem loop22 (l : List Ev) (m : Nat) (hm : m ≤ 1000000) (M : PMem) (k : Nat) (Q : AExit → PSt → Prop) (q1 : anyL (m + 1) l = false → ∀ tm, tget tm 0 = encEvs l → tget tm 1 = iv m → Q (.exit 0) ⟨tm, 45, k, [], M⟩)
    (q2 : anyL (m + 1) l = true → ∀ tm, tget tm 4 = bv true → Q .ret ⟨tm, 45, k, [], M⟩) :
    ∀ d i, m + 1 - i = d → i ≤ m + 1 → i ≤ l.length → anyL (m + 1) l = anyL d (l.drop i) →
    RXL env Tryd.prog none c22_13 ⟨[(5, iv i), (1, iv m), (0, encEvs l)], 45, k, [], M⟩ Q := by
  intro d
  induction d with
  | zero =>
    intro i hd hi hl hp
    have him : ¬ ((i : Int) ≤ m) := by omega
    refine RXL.round (RX.of env_ok ?_)
    simp only [WX, WV, WO, WC, FJ, e_L, r_append, FB, FL, FX, FS, FN, Option.map_some, Option.map_none, Nat.reduceLT, Nat.reduceEqDiff, Nat.reduceAdd, Nat.reduceLeDiff, Nat.reduceMul, true_and, and_self, encEvs, him, decide_false, Bool.and_false]
    exact q1 (by rw [hp]; rfl) _ rfl rfl
  | succ d ih =>
    intro i hd hi hl hp
    have him : (i : Int) ≤ m := by omega
    by_cases hlt : i < l.length
    · have hii : (i : Int) < l.length := by omega
      obtain ⟨x, hx, hdx⟩ := getE hlt
      have hlx := ev_load7 hx
      have c2 : (l.flatMap evCells)[i * 7 + 2]? = some (str x.path) := cell_at (f := evCells) (n := 7) (c := 2) (fun _ => rfl) hx rfl
      have c6 : (l.flatMap evCells)[i * 7 + 6]? = some (encSpans x.past) := cell_at (f := evCells) (n := 7) (c := 6) (fun _ => rfl) hx rfl
      have c3 : ptake true 3 (l.flatMap evCells) (i * 7 + 3) = some (.agg [iv x.kind, iv x.mode, encBytes x.bytes]) := sub_at (f := evCells) (fun _ => rfl) hx (by decide) rfl
      have hw : IntKind.i64.wrap ((i : Int) + 1) = ((i + 1 : Nat) : Int) := by rw [wrap64_id (by omega) (by omega)]; rfl
      refine RXL.round (RX.of env_ok ?_)
      simp only [WX, WV, WO, WC, FJ, e_L, r_append, FB, FL, FX, FS, FN, Option.map_some, Option.map_none, Nat.reduceLT, Nat.reduceEqDiff, Nat.reduceAdd, Nat.reduceLeDiff, Nat.reduceMul, true_and, and_self, encEvs, him, hii, hlt, decide_true, Bool.and_true, c2, c6, c3]
      refine cg0F (fun h => by simp only [h, Bool.not_false, cnd_t]; exact long_effect _ _ _) (by decide) ?_
      simp only [WX, WV, WO, WC, FJ, e_L, r_append, FB, FL, FX, FS, FN, Option.map_some, Option.map_none, Nat.reduceLT, Nat.reduceEqDiff, Nat.reduceAdd, Nat.reduceLeDiff, Nat.reduceMul, true_and, and_self, encEvs, him, hii, hlt, decide_true, Bool.and_true, c2, c6, c3, encSpans]
      rw [hdx] at hp
      refine cW_s (fun hb => ?_) (fun hb => ?_)
      · simp only [WX, WV, WO, WC, FJ, e_L, r_append, FB, FL, FX, FS, FN, Option.map_some, Option.map_none, Nat.reduceLT, Nat.reduceEqDiff, Nat.reduceAdd, Nat.reduceLeDiff, Nat.reduceMul, true_and, and_self]
        refine q2 ?_ _ rfl
        have : evLong x = true := hb
        rw [hp, anyL, this]; rfl
      · simp only [WX, WV, WO, WC, FJ, e_L, r_append, FB, FL, FX, FS, FN, Option.map_some, Option.map_none, Nat.reduceLT, Nat.reduceEqDiff, Nat.reduceAdd, Nat.reduceLeDiff, Nat.reduceMul, true_and, and_self, hw]
        have : evLong x = false := hb
        refine RXL.weak (keepE ?_) (ih (i + 1) (by omega) (by omega) (by omega) ?_)
        · repeat (first | exact KP.nil | apply KP.cons rfl)
        · rw [hp, anyL, this]; rfl
    · have hii : ¬ ((i : Int) < l.length) := by omega
      refine RXL.round (RX.of env_ok ?_)
      simp only [WX, WV, WO, WC, FJ, e_L, r_append, FB, FL, FX, FS, FN, Option.map_some, Option.map_none, Nat.reduceLT, Nat.reduceEqDiff, Nat.reduceAdd, Nat.reduceLeDiff, Nat.reduceMul, true_and, and_self, encEvs, hii, decide_false, Bool.false_and]
      exact q1 (by rw [hp, List.drop_of_length_le (by omega)]; rfl) _ rfl rfl
theorem long_events (l : List Ev) (m : Nat) (hm : m ≤ 1000000) : PTp env Tryd.prog 22 [encEvs l, iv m] (bv (longEvs m l)) := fun M => by
  refine PT.enterR env_ok fn22 (by simp) comp22 fun k hk hf => RX.of env_ok ?_
  simp only [WX, WV, WO, WC, FJ, e_L, r_append, FB, FL, FX, FS, FN, Option.map_some, Option.map_none, Nat.reduceLT, Nat.reduceEqDiff, Nat.reduceAdd, Nat.reduceLeDiff, Nat.reduceMul, true_and, and_self, argsP]
  refine RX.loop (RXL.weak (keepE ?_) (loop22 l m hm M k _ ?_ ?_ (m + 1) 0 rfl (Nat.zero_le _) (Nat.zero_le _) rfl))
  · repeat (first | exact KP.nil | apply KP.cons rfl)
  · intro h tm h0 h1
    simp only [WX, WV, WO, WC, FJ, e_L, r_append, FB, FL, FX, FS, FN, Option.map_some, Option.map_none, Nat.reduceLT, Nat.reduceEqDiff, Nat.reduceAdd, Nat.reduceLeDiff, Nat.reduceMul, true_and, and_self, h0, h1, encEvs]
    refine end1 hf rfl ⟨?_, rfl⟩
    unfold longEvs; rw [h]; rfl
  · intro h tm ht
    simp only [WX, WV, WO, WC, FJ, e_L, r_append, FB, FL, FX, FS, FN, Option.map_some, Option.map_none, Nat.reduceLT, Nat.reduceEqDiff, Nat.reduceAdd, Nat.reduceLeDiff, Nat.reduceMul, true_and, and_self]
    refine end1 hf ht ⟨?_, rfl⟩
    unfold longEvs; rw [h]; rfl
end Go.Proofs.YtmgmbdnhodicjaaDoor
end

section
/- Lists copied. Of lists of at most a million; no condition. -/
set_option linter.unusedVariables false
namespace Go.Proofs.YtmgmbdnhodicjaaDoor
open Go Go.Am Go.Pm
set_option linter.unusedSimpArgs false
set_option maxHeartbeats 1000000
theorem all_encB (l : List UInt8) : (l.map encB).all pone = true := by
  induction l with
  | nil => rfl
  | cons b l ih => simp [ih, encB, pone]
theorem all_spans (l : List Span) : (l.flatMap encSpan).all pone = true := by
  induction l with
  | nil => rfl
  | cons b l ih => rw [List.flatMap_cons, List.all_append, ih]; rfl
theorem clone_bytes (l : List UInt8) (hl : l.length ≤ 1000000) : PTp env Tryd.prog 56 [encBytes l] (encBytes l) := PTp.of fun M => by
  refine PT.enterR env_ok fn56 (by simp) comp56 fun k hk hf => RX.of env_ok ?_
  simp only [WX, WV, WO, WC, FJ, e_L, r_append, FB, FL, FX, FS, FN, Option.map_some, Option.map_none, Nat.reduceLT, Nat.reduceEqDiff, Nat.reduceAdd, Nat.reduceLeDiff, Nat.reduceMul, true_and, and_self, argsP, encBytes]
  refine nL_lst fun b hb => ?_
  simp only [WX, WV, WO, WC, FJ, e_L, r_append, FB, FL, FX, FS, FN, Option.map_some, Option.map_none, Nat.reduceLT, Nat.reduceEqDiff, Nat.reduceAdd, Nat.reduceLeDiff, Nat.reduceMul, true_and, and_self]
  cases b with
  | true =>
    have hz : l = [] := by
      cases l with
      | nil => rfl
      | cons x l => exact absurd (hb (by simp)) (by simp)
    subst hz
    simp only [WX, WV, WO, WC, FJ, e_L, r_append, FB, FL, FX, FS, FN, Option.map_some, Option.map_none, Nat.reduceLT, Nat.reduceEqDiff, Nat.reduceAdd, Nat.reduceLeDiff, Nat.reduceMul, true_and, and_self, Bool.xor_false]
    exact end1 hf rfl ⟨PLe.trans (PLe.nil 0 1) (PLe.no _ _ _ _), rfl⟩
  | false =>
    simp only [WX, WV, WO, WC, FJ, e_L, r_append, FB, FL, FX, FS, FN, Option.map_some, Option.map_none, Nat.reduceLT, Nat.reduceEqDiff, Nat.reduceAdd, Nat.reduceLeDiff, Nat.reduceMul, true_and, and_self, Bool.xor_false]
    by_cases hz : l.length = 0
    · have : l = [] := List.length_eq_zero_iff.1 hz
      subst this
      simp only [WX, WV, WO, WC, FJ, e_L, r_append, FB, FL, FX, FS, FN, Option.map_some, Option.map_none, Nat.reduceLT, Nat.reduceEqDiff, Nat.reduceAdd, Nat.reduceLeDiff, Nat.reduceMul, true_and, and_self, List.map_nil, ap_nil]
      exact end1 hf rfl ⟨PLe.no _ _ _ _, rfl⟩
    · have hc : (0 = 0 ∨ 1 = 1) ∧ (2 * (0 + l.length) + 2000) * 1 ≤ 281474976710656 ∧ 0 + l.length ≤ 4611686018427387904 ∧ 1 < 4096 ∧ 1 = 1 ∧ (l.map encB).all pone = true := ⟨.inl rfl, by omega, by omega, by decide, rfl, all_encB l⟩
      rw [ap_full hz hc]
      simp only [WX, WV, WO, WC, FJ, e_L, r_append, FB, FL, FX, FS, FN, Option.map_some, Option.map_none, Nat.reduceLT, Nat.reduceEqDiff, Nat.reduceAdd, Nat.reduceLeDiff, Nat.reduceMul, true_and, and_self]
      exact end1 hf rfl ⟨PLe.no _ _ _ _, rfl⟩
theorem clone_spans (l : List Span) (hl : l.length ≤ 1000000) : PTp env Tryd.prog 57 [encSpans l] (encSpans l) := PTp.of fun M => by
  refine PT.enterR env_ok fn57 (by simp) comp57 fun k hk hf => RX.of env_ok ?_
  simp only [WX, WV, WO, WC, FJ, e_L, r_append, FB, FL, FX, FS, FN, Option.map_some, Option.map_none, Nat.reduceLT, Nat.reduceEqDiff, Nat.reduceAdd, Nat.reduceLeDiff, Nat.reduceMul, true_and, and_self, argsP, encSpans]
  refine nL_lst fun b hb => ?_
  simp only [WX, WV, WO, WC, FJ, e_L, r_append, FB, FL, FX, FS, FN, Option.map_some, Option.map_none, Nat.reduceLT, Nat.reduceEqDiff, Nat.reduceAdd, Nat.reduceLeDiff, Nat.reduceMul, true_and, and_self]
  cases b with
  | true =>
    have hz : l = [] := by
      cases l with
      | nil => rfl
      | cons x l => exact absurd (hb (by simp)) (by simp)
    subst hz
    simp only [WX, WV, WO, WC, FJ, e_L, r_append, FB, FL, FX, FS, FN, Option.map_some, Option.map_none, Nat.reduceLT, Nat.reduceEqDiff, Nat.reduceAdd, Nat.reduceLeDiff, Nat.reduceMul, true_and, and_self, Bool.xor_false]
    exact end1 hf rfl ⟨PLe.trans (PLe.nil 0 3) (PLe.no _ _ _ _), rfl⟩
  | false =>
    simp only [WX, WV, WO, WC, FJ, e_L, r_append, FB, FL, FX, FS, FN, Option.map_some, Option.map_none, Nat.reduceLT, Nat.reduceEqDiff, Nat.reduceAdd, Nat.reduceLeDiff, Nat.reduceMul, true_and, and_self, Bool.xor_false]
    by_cases hz : l.length = 0
    · have : l = [] := List.length_eq_zero_iff.1 hz
      subst this
      simp only [WX, WV, WO, WC, FJ, e_L, r_append, FB, FL, FX, FS, FN, Option.map_some, Option.map_none, Nat.reduceLT, Nat.reduceEqDiff, Nat.reduceAdd, Nat.reduceLeDiff, Nat.reduceMul, true_and, and_self, List.flatMap_nil, ap_nil]
      exact end1 hf rfl ⟨PLe.no _ _ _ _, rfl⟩
    · have hc : (0 = 0 ∨ 3 = 3) ∧ (2 * (0 + l.length) + 2000) * 24 ≤ 281474976710656 ∧ 0 + l.length ≤ 4611686018427387904 ∧ 3 < 4096 ∧ 3 = 3 ∧ (l.flatMap encSpan).all pone = true := ⟨.inl rfl, by omega, by omega, by decide, rfl, all_spans l⟩
      rw [ap_full hz hc]
      simp only [WX, WV, WO, WC, FJ, e_L, r_append, FB, FL, FX, FS, FN, Option.map_some, Option.map_none, Nat.reduceLT, Nat.reduceEqDiff, Nat.reduceAdd, Nat.reduceLeDiff, Nat.reduceMul, true_and, and_self]
      exact end1 hf rfl ⟨PLe.no _ _ _ _, rfl⟩
theorem enc_cells : (∀ l, pcells (encBytes l) = [encBytes l]) ∧ (∀ l, pone (encBytes l) = true) ∧ (∀ l, pcells (encSpans l) = [encSpans l]) ∧ (∀ l, pone (encSpans l) = true) := ⟨fun _ => rfl, fun _ => rfl, fun _ => rfl, fun _ => rfl⟩
theorem spool_own (e : Ev) (h1 : e.bytes.length ≤ 1000000) (h2 : e.past.length ≤ 1000000) : PTp env Tryd.prog 32 [encEv e] (encEv e) := fun M => by
  refine PT.enterR env_ok fn32 (by simp) comp32 fun k hk hf => RX.of env_ok ?_
  simp only [WX, WV, WO, WC, FJ, e_L, r_append, FB, FL, FX, FS, FN, Option.map_some, Option.map_none, Nat.reduceLT, Nat.reduceEqDiff, Nat.reduceAdd, Nat.reduceLeDiff, Nat.reduceMul, true_and, and_self, argsP, encEv, evCells]
  refine cp0 (clone_bytes _ h1) ?_ ?_
  · decide
  simp only [WX, WV, WO, WC, FJ, e_L, r_append, FB, FL, FX, FS, FN, Option.map_some, Option.map_none, Nat.reduceLT, Nat.reduceEqDiff, Nat.reduceAdd, Nat.reduceLeDiff, Nat.reduceMul, true_and, and_self, enc_cells]
  refine cp0 (clone_spans _ h2) ?_ ?_
  · decide
  simp only [WX, WV, WO, WC, FJ, e_L, r_append, FB, FL, FX, FS, FN, Option.map_some, Option.map_none, Nat.reduceLT, Nat.reduceEqDiff, Nat.reduceAdd, Nat.reduceLeDiff, Nat.reduceMul, true_and, and_self, enc_cells]
  refine endc (ag := true) (n := 7) hf (by kernel_rfl) ?_ ⟨rfl, rfl⟩
  simp only [WX, WV, WO, WC, FJ, e_L, r_append, FB, FL, FX, FS, FN, Option.map_some, Option.map_none, Nat.reduceLT, Nat.reduceEqDiff, Nat.reduceAdd, Nat.reduceLeDiff, Nat.reduceMul, true_and, and_self]
end Go.Proofs.YtmgmbdnhodicjaaDoor
end
