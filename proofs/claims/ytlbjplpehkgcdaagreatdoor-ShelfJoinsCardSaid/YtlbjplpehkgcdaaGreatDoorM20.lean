/- ShelfJoins holds. Part 20 of 32; no condition. -/
import Derived.Test.YtlbjplpehkgcdaaGreatDoorM19
import Derived.Maps.RangeRun
set_option linter.unusedVariables false
set_option linter.unusedSimpArgs false
set_option maxHeartbeats 4000000
set_option maxRecDepth 100000
namespace Go.Proofs.YtlbjplpehkgcdaaGreatDoor
open Go Go.Am Go.Pm
structure Span where
 node : Int
 frm : Int
 to : Int
def encSpan (s : Span) : List PV := [.v (.int .i64 s.node), .v (.int .i64 s.frm), .v (.int .i64 s.to)]
def encSpans (xs : List Span) : PV := .lst .no 3 xs.length (xs.flatMap encSpan)
theorem flatMap_take {α : Type} {f : α -> List PV} {n : Nat} (hf : ∀ x, (f x).length = n) : ∀ (xs : List α) (i : Nat) (x : α), xs[i]? = some x -> ((xs.flatMap f).drop (i * n)).take n = f x
 | [], i, x, h => by simp at h
 | y :: xs, 0, x, h => by
  simp at h; subst h
  rw [Nat.zero_mul, List.drop_zero, List.flatMap_cons, List.take_append_of_le_length (by rw [hf]; exact Nat.le_refl _), List.take_of_length_le (by rw [hf]; exact Nat.le_refl _)]
 | y :: xs, i + 1, x, h => by
  simp at h
  rw [List.flatMap_cons, List.drop_append, List.drop_of_length_le (by rw [hf, Nat.add_mul]; omega), List.nil_append, hf, Nat.add_mul, Nat.one_mul, Nat.add_sub_cancel]
  exact flatMap_take hf xs i x h
theorem flatMap_len {α : Type} {f : α -> List PV} {n : Nat} (hf : ∀ x, (f x).length = n) (xs : List α) : (xs.flatMap f).length = xs.length * n := by
 induction xs with
 | nil => simp
 | cons y xs ih => simp [ih, hf, Nat.add_mul]; omega
theorem load_at {α : Type} {f : α -> List PV} {n : Nat} (hf : ∀ x, (f x).length = n) {xs : List α} {i : Nat} {x : α} (h : xs[i]? = some x) : ptake true n (xs.flatMap f) (i * n) = some (.agg (f x)) := by
 have hi : i < xs.length := by
  rcases Nat.lt_or_ge i xs.length with h' | h'
  ·exact h'
  ·rw [List.getElem?_eq_none h'] at h; cases h
 have : i * n + n <= xs.length * n := by
  rw [<- Nat.succ_mul]; exact Nat.mul_le_mul_right _ hi
 simp only [ptake, flatMap_len hf, if_pos this, flatMap_take hf xs i x h]
theorem cell_at {α : Type} {f : α -> List PV} {n : Nat} (hf : ∀ x, (f x).length = n) {xs : List α} {i : Nat} {x : α} (h : xs[i]? = some x) {c : Nat} {v : PV} (hc : (f x)[c]? = some v) : (xs.flatMap f)[i * n + c]? = some v := by
 have hcn : c < n := by
  rcases Nat.lt_or_ge c n with h' | h'
  ·exact h'
  ·rw [List.getElem?_eq_none (by rw [hf]; exact h')] at hc; cases hc
 have := flatMap_take hf xs i x h
 rw [<- this, List.getElem?_take_of_lt hcn, List.getElem?_drop] at hc
 exact hc
def spanBad (x : Span) : Bool := decide (x.node < 1) || decide (x.node > 200) || decide (x.frm < 1) || decide (x.frm > x.to) || decide (x.to > 2147483647)
def pairBad (p x : Span) : Bool := decide (x.node < p.node) || (x.node == p.node && decide (x.frm <= p.to + 1))
def preOk : Option Span -> Span -> Bool
 | none, _ => true
 | some p, x => !pairBad p x
def pastFrom : Option Span -> List Span -> Bool
 | _, [] => true
 | p, x :: r => !spanBad x && preOk p x && pastFrom (some x) r
def pastOk (xs : List Span) : Bool := decide (xs.length <= 4000) && pastFrom none xs
def errIf (b : Bool) : Int := if b then 0 else 2
abbrev iv (n : Int) : PV := .v (.int .i64 n)
abbrev bv (b : Bool) : PV := .v (.bool b)
def encB (b : UInt8) : PV := .v (.int .u8 b.toNat)
def encBytes (l : List UInt8) : PV := .lst .no 1 l.length (l.map encB)
def dotOk (n s : Int) : Bool := !(decide (n < 1) || decide (n > 200) || decide (s < 1) || decide (s > 2147483647))
def effOk (k m : Int) (b : List UInt8) : Bool := !(decide (k < 1) || decide (k > 3)) && !(decide (m < 0) || decide (m > (if k = 3 then 0 else 511)) || decide ((b.length : Int) > (if k = 1 then 1000 else 0)))
abbrev str (l : List UInt8) : PV := .v (.string ⟨l.toArray⟩)
theorem bytesEq_eq : ∀ a b : List UInt8, bytesEq a b = (a == b)
 | [], [] => rfl
 | [], _ :: _ => rfl
 | _ :: _, [] => rfl
 | x :: a, y :: b => by
  have h : Nat.beq x.toNat y.toNat = (x == y) := by
   cases e : (x == y) with
   | true => rw [beq_iff_eq] at e; subst e; exact Nat.beq_refl _
   | false =>
    cases e2 : Nat.beq x.toNat y.toNat with
    | false => rfl
    | true =>
     have := UInt8.toNat.inj (Nat.eq_of_beq_eq_true e2)
     subst this
     simp at e
  rw [bytesEq, bytesEq_eq a b, h]; rfl
theorem pbytes_enc : ∀ l : List UInt8, pbytes? (l.map encB) = some l
 | [] => rfl
 | b :: l => by
  simp only [List.map_cons, encB, pbytes?]
  have := pbytes_enc l
  rw [show (List.map encB l) = List.map encB l from rfl, this]
  simp
theorem convB_enc {t : Tok} {n : Nat} {l : List UInt8} : convB (.lst t 1 n (l.map encB)) = some (str l) := by
 simp [convB, pbytes_enc]
theorem str_eql {E : Env} {t : Nat} {c d : Bool} {a b : List UInt8} : pbin E .eql t c d (str a) (str b) = some (bv (a == b)) := by
 simp [pbin, eqFine, binV, strBin, bytesEq_eq]
theorem str_neq {E : Env} {t : Nat} {c d : Bool} {a b : List UInt8} : pbin E .neq t c d (str a) (str b) = some (bv (!(a == b))) := by
 simp [pbin, eqFine, binV, strBin, bytesEq_eq]
def eqS (e : Option Bool) (r : Option Bool) : Option Bool :=
 match e with
 | some true => r
 | some false => some false
 | none => none
theorem eqS_b {a b : Bool} : eqS (some a) (some b) = some (a && b) := by cases a <;> rfl
theorem getE {α : Type} {xs : List α} {i : Nat} (h : i < xs.length) : ∃ x, xs[i]? = some x /\ xs.drop i = x :: xs.drop (i + 1) := ⟨xs[i], by simp, List.drop_eq_getElem_cons h⟩
def spanEq (x y : Span) : Bool := x.node == y.node && (x.frm == y.frm && x.to == y.to)
def spansEq : List Span -> List Span -> Bool
 | [], [] => true
 | x :: a, y :: b => spanEq x y && spansEq a b
 | _, _ => false
theorem spansEq_len : ∀ {a b : List Span}, spansEq a b = true -> a.length = b.length
 | [], [], _ => rfl
 | x :: a, y :: b, h => by simp only [spansEq, Bool.and_eq_true] at h; simp [spansEq_len h.2]
structure Ev where
 node : Int
 seq : Int
 path : List UInt8
 kind : Int
 mode : Int
 bytes : List UInt8
 past : List Span
def evCells (e : Ev) : List PV := [iv e.node, iv e.seq, str e.path, iv e.kind, iv e.mode, encBytes e.bytes, encSpans e.past]
def encEv (e : Ev) : PV := .agg (evCells e)
def evEq (a b : Ev) : Bool := (a.node == b.node && a.seq == b.seq) && a.path == b.path && (a.kind == b.kind && a.mode == b.mode && a.bytes == b.bytes) && spansEq a.past b.past
def evLong (e : Ev) : Bool := decide ((e.path.length : Int) > 100) || decide ((e.bytes.length : Int) > 1200) || decide ((e.past.length : Int) > 100)
def anyL : Nat -> List Ev -> Bool
 | 0, _ => false
 | _, [] => false
 | n + 1, x :: r => evLong x || anyL n r
def longEvs (m : Nat) (l : List Ev) : Bool := anyL (m + 1) l || decide ((l.length : Int) > m)
def encEvs (l : List Ev) : PV := .lst .no 7 l.length (l.flatMap evCells)
theorem sub_at {α : Type} {f : α -> List PV} {n : Nat} (hf : ∀ x, (f x).length = n) {xs : List α} {i : Nat} {x : α} (h : xs[i]? = some x) {c w : Nat} {vs : List PV} (hc : c + w <= n) (hv : ((f x).drop c).take w = vs) : ptake true w (xs.flatMap f) (i * n + c) = some (.agg vs) := by
 have hi : i < xs.length := by
  rcases Nat.lt_or_ge i xs.length with h' | h'
  ·exact h'
  ·rw [List.getElem?_eq_none h'] at h; cases h
 have hle : i * n + n <= xs.length * n := by
  rw [<- Nat.succ_mul]; exact Nat.mul_le_mul_right _ hi
 have h1 : i * n + c + w <= (xs.flatMap f).length := by rw [flatMap_len hf]; omega
 rw [ptake_mid h1, <- hv]
 have := flatMap_take hf xs i x h
 rw [<- this, List.drop_take, List.take_take, List.drop_drop, Nat.min_eq_left (by omega)]
theorem ev_load7 {l : List Ev} {i : Nat} {x : Ev} (h : l[i]? = some x) : ptake true 7 (l.flatMap evCells) (i * 7) = some (encEv x) := load_at (f := evCells) (fun _ => rfl) h
theorem all_encB (l : List UInt8) : (l.map encB).all pone = true := by
 induction l with
 | nil => rfl
 | cons b l ih => simp [ih, encB, pone]
theorem all_spans (l : List Span) : (l.flatMap encSpan).all pone = true := by
 induction l with
 | nil => rfl
 | cons b l ih => rw [List.flatMap_cons, List.all_append, ih]; rfl
theorem enc_cells : (∀ l, pcells (encBytes l) = [encBytes l]) /\ (∀ l, pone (encBytes l) = true) /\ (∀ l, pcells (encSpans l) = [encSpans l]) /\ (∀ l, pone (encSpans l) = true) := ⟨fun _ => rfl, fun _ => rfl, fun _ => rfl, fun _ => rfl⟩
def idxOf (c : UInt8) : Nat -> List UInt8 -> Option Nat
 | _, [] => none
 | i, b :: r => if b = c then some i else idxOf c (i + 1) r
theorem byteAt_eq (c : UInt8) : ∀ (l : List UInt8) (i : Nat), byteAt c.toNat i l = idxOf c i l
 | [], i => rfl
 | b :: r, i => by
  unfold byteAt idxOf
  by_cases h : b = c
  ·subst h
   rw [if_pos rfl, show Nat.beq b.toNat b.toNat = true from Nat.beq_refl _]; rfl
  ·rw [if_neg h, byteAt_eq c r]
   have : Nat.beq b.toNat c.toNat = false := by
    cases e : Nat.beq b.toNat c.toNat with
    | false => rfl
    | true => exact absurd (UInt8.toNat.inj (Nat.eq_of_beq_eq_true e)) h
   rw [this]; rfl
def idxI : Option Nat -> Int
 | some i => i
 | none => -1
theorem idxOf_le {c : UInt8} : ∀ {l : List UInt8} {k i : Nat}, idxOf c k l = some i -> k <= i /\ i < k + l.length /\ l[i - k]? = some c /\ l.take (i - k) = (l.take (i - k)).filter (· ≠ c)
 | [], k, i, h => by cases h
 | b :: r, k, i, h => by
  unfold idxOf at h
  split at h
  ·rename_i hb
   cases h; subst hb
   refine ⟨Nat.le_refl _, by simp, by simp, by simp⟩
  ·rename_i hb
   obtain ⟨h1, h2, h3, h4⟩ := idxOf_le h
   have e : i - k = (i - (k + 1)) + 1 := by omega
   refine ⟨by omega, by simp; omega, by rw [e]; simpa using h3, ?_⟩
   rw [e, List.take_succ_cons, List.filter_cons_of_pos (by simpa using hb), <- h4]
theorem len_str {l : List UInt8} : lenS (str l) = some (iv (l.length : Nat)) := rfl
theorem len_nil : lenS (str []) = some (iv ((0 : Nat) : Int)) := rfl
theorem len_one {c : UInt8} : lenS (str [c]) = some (iv 1) := rfl
theorem str_idx {l : List UInt8} {i : Nat} {k : IntKind} {b : UInt8} (h : l[i]? = some b) : idxS (str l) (.v (.int k (i : Int))) = some (encB b) := by
 unfold idxS
 rw [pnat_int]
 show (match l[i]? with | some b => some (PV.v (.int .u8 b.toNat)) | none => none) = _
 rw [h]; rfl
theorem str_to {l : List UInt8} {i : Nat} {k : IntKind} (h : i <= l.length) : sliceS (str l) none (some (.v (.int k (i : Int)))) = some (str (l.take i)) := by
 unfold sliceS
 simp only [Option.map_none, Option.map_some, pnat_int]
 show (if i <= l.length then _ else none) = _
 rw [if_pos h]
theorem str_from {l : List UInt8} {i : Nat} {k : IntKind} (h : i <= l.length) : sliceS (str l) (some (.v (.int k (i : Int)))) none = some (str (l.drop i)) := by
 unfold sliceS
 simp only [Option.map_none, Option.map_some, pnat_int]
 show (if i <= l.length then some (PV.v (.string ⟨((l.drop i).take (l.length - i)).toArray⟩)) else none) = _
 rw [if_pos h, List.take_of_length_le (by simp)]
def letters : List UInt8 := [97, 98, 99, 100, 101, 102, 103, 104, 105, 106, 107, 108, 109, 110, 111, 112, 113, 114, 115, 116, 117, 118, 119, 120, 121, 122, 48, 49, 50, 51, 52, 53, 54, 55, 56, 57, 46, 95, 45]
def isL (b : UInt8) : Bool := letters.contains b
theorem idxOf_some {c : UInt8} : ∀ {l : List UInt8} {k : Nat}, c ∈ l -> ∃ i, idxOf c k l = some i
 | b :: r, k, h => by
  unfold idxOf
  by_cases hb : b = c
  ·exact ⟨k, by rw [if_pos hb]⟩
  ·rw [if_neg hb]
   rcases List.mem_cons.1 h with e | h
   ·exact absurd e.symm hb
   ·exact idxOf_some h
theorem isL_small (b : UInt8) (h : isL b = true) : b.toNat < 128 := by
 have : b ∈ letters := by simpa [isL] using h
 have hall : ∀ x ∈ letters, x.toNat < 128 := by decide
 exact hall b this
abbrev i64 : Sh := .int .i64
abbrev shSpan : List Sh := [i64, i64, i64]
abbrev shB : List Sh := [.int .u8]
abbrev shEv : List Sh := [i64, i64, .str, i64, i64, .sl shB, .sl shSpan]
def inI (n : Int) : Prop := -9223372036854775808 <= n /\ n <= 9223372036854775807
theorem inI_of {n : Int} (h1 : IntKind.i64.min <= n) (h2 : n <= IntKind.i64.max) : inI n := ⟨h1, h2⟩
def spanB (x : Span) : Prop := inI x.node /\ inI x.frm /\ inI x.to
theorem i_dec {d : DV} (h : ShP i64 d) : ∃ n : Int, pvD i64 d = iv n /\ inI n := by
 obtain ⟨n, h1, h2, h3⟩ := int_dec h
 exact ⟨n, h1, inI_of h2 h3⟩
theorem span_dec {ds : List DV} (h : ShPs shSpan ds) : ∃ x : Span, pvs shSpan ds = encSpan x /\ spanB x := by
 cases h with | cons h1 h =>
 cases h with | cons h2 h =>
 cases h with | cons h3 h =>
 cases h
 obtain ⟨a, a1, a2⟩ := i_dec h1
 obtain ⟨b, b1, b2⟩ := i_dec h2
 obtain ⟨c, c1, c2⟩ := i_dec h3
 exact ⟨⟨a, b, c⟩, by simp only [pvs, a1, b1, c1]; rfl, a2, b2, c2⟩
theorem byte_dec {ds : List DV} (h : ShPs shB ds) : ∃ b : UInt8, pvs shB ds = [encB b] /\ True := by
 cases h with | cons h1 h =>
 cases h
 obtain ⟨n, h1, h2, h3⟩ := int_dec h1
 have h2' : 0 <= n := h2
 have h3' : n <= 255 := h3
 refine ⟨UInt8.ofNat n.toNat, ?_, trivial⟩
 simp only [pvs, h1, encB]
 have : ((UInt8.ofNat n.toNat).toNat : Int) = n := by
  rw [UInt8.toNat_ofNat']
  omega
 rw [this]
theorem bytes_dec {d : DV} (h : ShP (.sl shB) d) : ∃ bs : List UInt8, pvD (.sl shB) d = encBytes bs /\ bs.length <= maxLen := by
 obtain ⟨xs, h1, h2, h3⟩ := sl_dec (l := shB) (enc := fun b => [encB b]) (B := fun _ => True) (by decide) (fun ds h => byte_dec h) h
 refine ⟨xs, ?_, h2⟩
 rw [h1]
 unfold encBytes
 congr 1
 clear h1 h2 h3
 induction xs with
 | nil => rfl
 | cons x xs ih => simp only [List.flatMap_cons, List.map_cons, ih]; rfl
theorem spans_dec {d : DV} (h : ShP (.sl shSpan) d) : ∃ xs : List Span, pvD (.sl shSpan) d = encSpans xs /\ xs.length <= maxLen /\ ∀ x ∈ xs, spanB x := by
 obtain ⟨xs, h1, h2, h3⟩ := sl_dec (l := shSpan) (by decide) (fun ds h => span_dec h) h
 exact ⟨xs, h1, h2, h3⟩
theorem txt_dec {d : DV} (h : ShP .str d) : ∃ s : List UInt8, pvD .str d = str s /\ s.length <= maxLen := by
 obtain ⟨s, h1, h2⟩ := str_dec h
 refine ⟨s.data.toList, ?_, ?_⟩
 ·rw [h1]
 ·rw [Array.length_toList]; exact h2
structure evB (e : Ev) : Prop where
 node : inI e.node
 seq : inI e.seq
 path : e.path.length <= maxLen
 kind : inI e.kind
 mode : inI e.mode
 bytes : e.bytes.length <= maxLen
 past : e.past.length <= maxLen
 spans : ∀ x ∈ e.past, spanB x
theorem ev_dec {ds : List DV} (h : ShPs shEv ds) : ∃ e : Ev, pvs shEv ds = evCells e /\ evB e := by
 cases h with | cons h1 h =>
 cases h with | cons h2 h =>
 cases h with | cons h3 h =>
 cases h with | cons h4 h =>
 cases h with | cons h5 h =>
 cases h with | cons h6 h =>
 cases h with | cons h7 h =>
 cases h
 obtain ⟨a, a1, a2⟩ := i_dec h1
 obtain ⟨b, b1, b2⟩ := i_dec h2
 obtain ⟨c, c1, c2⟩ := txt_dec h3
 obtain ⟨d, d1, d2⟩ := i_dec h4
 obtain ⟨e, e1, e2⟩ := i_dec h5
 obtain ⟨f, f1, f2⟩ := bytes_dec h6
 obtain ⟨g, g1, g2, g3⟩ := spans_dec h7
 exact ⟨⟨a, b, c, d, e, f, g⟩, by simp only [pvs, a1, b1, c1, d1, e1, f1, g1]; rfl, ⟨a2, b2, c2, d2, e2, f2, g2, g3⟩⟩
end Go.Proofs.YtlbjplpehkgcdaaGreatDoor
namespace Go.Proofs.YtlbjplpehkgcdaaGreatDoor
open Go Go.Am Go.Pm
def inSp (x : Span) (n s : Int) : Bool := x.node == n && (decide (x.frm <= s) && decide (s <= x.to))
def memP (l : List Span) (n s : Int) : Bool := l.any fun x => inSp x n s
def SpOk (x : Span) : Prop := 1 <= x.node /\ x.node <= 200 /\ 1 <= x.frm /\ x.frm <= x.to /\ x.to <= 2147483647
def gap (x y : Span) : Prop := x.node < y.node \/ (x.node = y.node /\ x.to + 1 < y.frm)
def hdGap (x : Span) : List Span -> Prop
 | [] => True
 | y :: _ => gap x y
def OkL : List Span -> Prop
 | [] => True
 | x :: r => SpOk x /\ hdGap x r /\ OkL r
def Aft (n t : Int) (l : List Span) : Prop := ∀ x ∈ l, n < x.node \/ (n = x.node /\ t < x.frm)
theorem spanBad_ok {x : Span} : spanBad x = false ↔ SpOk x := by
 simp only [spanBad, SpOk, Bool.or_eq_false_iff, decide_eq_false_iff_not]
 omega
theorem pairBad_gap {p x : Span} : pairBad p x = false ↔ gap p x := by
 simp only [pairBad, gap, Bool.or_eq_false_iff, decide_eq_false_iff_not, Bool.and_eq_false_iff, beq_eq_false_iff_ne, ne_eq]
 omega
theorem pastFrom_ok : ∀ {l : List Span} {p : Span}, pastFrom (some p) l = true ↔ hdGap p l /\ OkL l
 | [], p => by simp [pastFrom, hdGap, OkL]
 | x :: r, p => by
  have ih := pastFrom_ok (l := r) (p := x)
  simp only [pastFrom, preOk, Bool.and_eq_true, Bool.not_eq_true', hdGap, OkL, ih, spanBad_ok, pairBad_gap]
  constructor
  ·rintro ⟨⟨h1, h2⟩, h3, h4⟩; exact ⟨h2, h1, h3, h4⟩
  ·rintro ⟨h2, h1, h3, h4⟩; exact ⟨⟨h1, h2⟩, h3, h4⟩
theorem okL_past {l : List Span} : pastFrom none l = true ↔ OkL l := by
 cases l with
 | nil => simp [pastFrom, OkL]
 | cons x r => simp only [pastFrom, preOk, Bool.and_eq_true, Bool.not_eq_true', Bool.and_true, OkL, pastFrom_ok, spanBad_ok]
theorem pastOk_iff {l : List Span} : pastOk l = true ↔ l.length <= 4000 /\ OkL l := by
 simp only [pastOk, Bool.and_eq_true, decide_eq_true_eq, okL_past]
theorem OkL.aft : ∀ {r : List Span} {x : Span}, hdGap x r -> OkL r -> SpOk x -> Aft x.node (x.to + 1) r
 | [], x, _, _, _ => fun y hy => by cases hy
 | y :: r, x, h1, h2, hx => fun z hz => by
  have h1' : gap x y := h1
  obtain ⟨hy, h3, h4⟩ := h2
  rcases List.mem_cons.1 hz with rfl | hz
  ·exact h1'
  ·have := OkL.aft h3 h4 hy z hz
   unfold gap at h1'
   unfold SpOk at hy hx
   omega
theorem memP_nil (n s : Int) : memP [] n s = false := rfl
theorem memP_cons (x : Span) (l : List Span) (n s : Int) : memP (x :: l) n s = (inSp x n s || memP l n s) := rfl
theorem inSp_iff {x : Span} {n s : Int} : inSp x n s = true ↔ x.node = n /\ x.frm <= s /\ s <= x.to := by
 simp [inSp]
theorem memP_iff {l : List Span} {n s : Int} : memP l n s = true ↔ ∃ x ∈ l, x.node = n /\ x.frm <= s /\ s <= x.to := by
 simp only [memP, List.any_eq_true, inSp_iff]
theorem Aft.out {n t : Int} {l : List Span} (h : Aft n t l) {m s : Int} (hs : m < n \/ (m = n /\ s <= t)) : memP l m s = false := by
 cases hq : memP l m s with
 | false => rfl
 | true =>
  obtain ⟨x, hx, h1, h2, h3⟩ := memP_iff.1 hq
  have := h x hx
  omega
def hdS (l : List Span) (n : Int) : Span × Bool :=
 match l with
 | [] => (⟨0, 0, 0⟩, false)
 | x :: _ => if x.node = n then (x, true) else (⟨0, 0, 0⟩, false)
def nodeS (a b : List Span) : Int :=
 match a, b with
 | [], [] => 0
 | [], y :: _ => y.node
 | x :: _, [] => x.node
 | x :: _, y :: _ => min x.node y.node
def frmS (x y : Span × Bool) : Int := if x.2 && y.2 then min x.1.frm y.1.frm else max x.1.frm y.1.frm
def inS (x : Span × Bool) (f : Int) : Bool := x.2 && x.1.frm == f
def toS (t : Int) (x : Span × Bool) (i : Bool) : Int := if i then min t x.1.to else if x.2 then min t (x.1.frm - 1) else t
def behindS (l : List Span) (t : Int) : List Span :=
 match l with
 | [] => []
 | x :: r => if x.to = t then r else ⟨x.node, t + 1, x.to⟩ :: r
structure Stp where
 x : Span
 ia : Bool
 ib : Bool
def stepS (a b : List Span) : Stp :=
 let n := nodeS a b
 let x := hdS a n
 let y := hdS b n
 let f := frmS x y
 ⟨⟨n, f, toS (toS 2147483647 x (inS x f)) y (inS y f)⟩, inS x f, inS y f⟩
def restS (l : List Span) (i : Bool) (t : Int) : List Span := if i then behindS l t else l
inductive Sd (n f t : Int) : Bool -> List Span -> List Span -> Prop where
 | off {l : List Span} (h : Aft n t l) : Sd n f t false l l
 | gone {z : Span} {r : List Span} (h1 : z.node = n) (h2 : z.frm = f) (h3 : z.to = t) : Sd n f t true (z :: r) r
 | cut {z : Span} {r : List Span} (h1 : z.node = n) (h2 : z.frm = f) (h3 : t < z.to) : Sd n f t true (z :: r) (⟨z.node, t + 1, z.to⟩ :: r)
def tot (l : List Span) : Nat := (l.map fun x => (x.to - x.frm + 1).toNat).sum
theorem Sd.ok {n f t : Int} {i : Bool} {l l' : List Span} (h : Sd n f t i l l') (hf : 1 <= f /\ f <= t) (hl : OkL l) : OkL l' /\ Aft n t l' /\ tot l' + (if i then 1 else 0) <= tot l /\ ∀ m s, memP l m s = ((i && inSp ⟨n, f, t⟩ m s) || memP l' m s) := by
 cases h with
 | off h => exact ⟨hl, h, by simp, fun m s => by simp⟩
 | @gone z _ h1 h2 h3 =>
  obtain ⟨hz, hg, hr⟩ := hl
  have ha := OkL.aft hg hr hz
  unfold SpOk at hz
  refine ⟨hr, fun y hy => by have := ha y hy; omega, ?_, fun m s => ?_⟩
  ·simp only [tot, List.map_cons, List.sum_cons, if_true]; omega
  ·rw [memP_cons]
   have : z = ⟨n, f, t⟩ := by cases z; simp only [Span.mk.injEq]; exact ⟨h1, h2, h3⟩
   rw [this]; simp
 | @cut z r h1 h2 h3 =>
  obtain ⟨hz, hg, hr⟩ := hl
  have ha := OkL.aft hg hr hz
  unfold SpOk at hz
  refine ⟨⟨?_, ?_, hr⟩, fun y hy => ?_, ?_, fun m s => ?_⟩
  ·unfold SpOk; dsimp only; omega
  ·cases r with
   | nil => trivial
   | cons y r => exact hg
  ·rcases List.mem_cons.1 hy with rfl | hy
   ·dsimp only; omega
   ·have := ha y hy; omega
  ·simp only [tot, List.map_cons, List.sum_cons, if_true]; omega
  ·rw [memP_cons, memP_cons, Bool.true_and, <- Bool.or_assoc]
   congr 1
   rw [Bool.eq_iff_iff, Bool.or_eq_true, inSp_iff, inSp_iff, inSp_iff]
   dsimp only
   omega
theorem sd_behind {n f t : Int} {z : Span} {r : List Span} (h1 : z.node = n) (h2 : z.frm = f) (h3 : t <= z.to) : Sd n f t true (z :: r) (restS (z :: r) true t) := by
 unfold restS behindS
 by_cases h : z.to = t
 ·simp only [if_true, if_pos h]; exact .gone h1 h2 h
 ·simp only [if_true, if_neg h]; exact .cut h1 h2 (by omega)
theorem aft_head {x : Span} {r : List Span} {n t : Int} (h : OkL (x :: r)) (hx : n < x.node \/ (n = x.node /\ t < x.frm)) : Aft n t (x :: r) := fun y hy => by
 obtain ⟨hz, hg, hr⟩ := h
 rcases List.mem_cons.1 hy with rfl | hy
 ·exact hx
 ·have := OkL.aft hg hr hz y hy
  unfold SpOk at hz
  omega
theorem stepS_ok {a b : List Span} (ha : OkL a) (hb : OkL b) (hne : a ≠ [] \/ b ≠ []) : SpOk (stepS a b).x /\ ((stepS a b).ia || (stepS a b).ib) = true ∧
  Sd (stepS a b).x.node (stepS a b).x.frm (stepS a b).x.to (stepS a b).ia a (restS a (stepS a b).ia (stepS a b).x.to) /\ Sd (stepS a b).x.node (stepS a b).x.frm (stepS a b).x.to (stepS a b).ib b (restS b (stepS a b).ib (stepS a b).x.to) ∧
  ((stepS a b).ia = true -> (stepS a b).ib = true -> (∃ z r, a = z :: r /\ z.to = (stepS a b).x.to) \/ ∃ z r, b = z :: r /\ z.to = (stepS a b).x.to) := by
 cases a with
 | nil =>
  cases b with
  | nil => simp at hne
  | cons y s =>
   have hy := hb.1
   unfold SpOk at hy
   have e1 : stepS [] (y :: s) = ⟨y, false, true⟩ := by
    simp only [stepS, nodeS, hdS, frmS, inS, toS, if_true, Bool.false_and, Bool.false_eq_true, if_false]
    have : max (0 : Int) y.frm = y.frm := by omega
    rw [this]
    simp only [beq_self_eq_true, Bool.and_true, if_true]
    have : min (2147483647 : Int) y.to = y.to := by omega
    rw [this]
   rw [e1]
   refine ⟨hb.1, rfl, .off (fun x hx => by cases hx), sd_behind rfl rfl (Int.le_refl _), fun h => by cases h⟩
 | cons x r =>
  have hx := ha.1
  unfold SpOk at hx
  cases b with
  | nil =>
   have e1 : stepS (x :: r) [] = ⟨x, true, false⟩ := by
    simp only [stepS, nodeS, hdS, frmS, inS, toS, if_true, Bool.and_false, Bool.false_eq_true, if_false]
    have : max x.frm (0 : Int) = x.frm := by omega
    rw [this]
    simp only [beq_self_eq_true, Bool.and_true, if_true, Bool.false_and, Bool.false_eq_true, if_false]
    have : min (2147483647 : Int) x.to = x.to := by omega
    rw [this]
   rw [e1]
   refine ⟨ha.1, rfl, sd_behind rfl rfl (Int.le_refl _), .off (fun x hx => by cases hx), fun _ h => by cases h⟩
  | cons y s =>
   have hy := hb.1
   unfold SpOk at hy
   rcases Int.lt_trichotomy x.node y.node with hlt | heq | hgt
   ·have e1 : stepS (x :: r) (y :: s) = ⟨x, true, false⟩ := by
     have hm : min x.node y.node = x.node := by omega
     have hn : ¬ (y.node = x.node) := by omega
     simp only [stepS, nodeS, hm, hdS, if_true, if_neg hn, frmS, inS, toS, Bool.and_false, Bool.false_eq_true, if_false]
     have : max x.frm (0 : Int) = x.frm := by omega
     rw [this]
     simp only [beq_self_eq_true, Bool.and_true, if_true, Bool.false_and, Bool.false_eq_true, if_false]
     have : min (2147483647 : Int) x.to = x.to := by omega
     rw [this]
    rw [e1]
    exact ⟨ha.1, rfl, sd_behind rfl rfl (Int.le_refl _), .off (aft_head hb (.inl hlt)), fun _ h => by cases h⟩
   ·have hm : min x.node y.node = x.node := by omega
    have e1 : stepS (x :: r) (y :: s) = ⟨⟨x.node, min x.frm y.frm, toS (toS 2147483647 (x, true) (x.frm == min x.frm y.frm)) (y, true) (y.frm == min x.frm y.frm)⟩, x.frm == min x.frm y.frm, y.frm == min x.frm y.frm⟩ := by
     simp only [stepS, nodeS, hm, hdS, if_true, if_pos heq.symm, frmS, inS, Bool.and_true, Bool.true_and]
    rw [e1]
    rcases Int.lt_trichotomy x.frm y.frm with h1 | h1 | h1
    ·have f1 : min x.frm y.frm = x.frm := by omega
     have f2 : (y.frm == x.frm) = false := by simp; omega
     have f3 : toS (toS 2147483647 (x, true) true) (y, true) false = min x.to (y.frm - 1) := by
      simp only [toS, if_true, Bool.false_eq_true, if_false]; omega
     rw [f1, f2, beq_self_eq_true, f3]
     refine ⟨?_, rfl, sd_behind rfl rfl (by dsimp only; omega), .off (aft_head hb (.inr ⟨heq, by dsimp only; omega⟩)), fun _ h => by cases h⟩
     unfold SpOk; dsimp only; omega
    ·have f1 : min x.frm y.frm = x.frm := by omega
     have f2 : (y.frm == x.frm) = true := by simp; omega
     have f3 : toS (toS 2147483647 (x, true) true) (y, true) true = min x.to y.to := by
      simp only [toS, if_true]; omega
     rw [f1, f2, beq_self_eq_true, f3]
     refine ⟨?_, rfl, sd_behind rfl rfl (by dsimp only; omega), sd_behind heq.symm h1.symm (by dsimp only; omega), fun _ _ => ?_⟩
     ·unfold SpOk; dsimp only; omega
     ·dsimp only
      rcases Int.le_total x.to y.to with h | h
      ·exact .inl ⟨x, r, rfl, by omega⟩
      ·exact .inr ⟨y, s, rfl, by omega⟩
    ·have f1 : min x.frm y.frm = y.frm := by omega
     have f2 : (x.frm == y.frm) = false := by simp; omega
     have f3 : toS (toS 2147483647 (x, true) false) (y, true) true = min (x.frm - 1) y.to := by
      simp only [toS, if_true, Bool.false_eq_true, if_false]; omega
     rw [f1, f2, beq_self_eq_true, f3]
     refine ⟨?_, rfl, .off (aft_head ha (.inr ⟨rfl, by dsimp only; omega⟩)), sd_behind heq.symm rfl (by dsimp only; omega), fun h => by cases h⟩
     unfold SpOk; dsimp only; omega
   ·have e1 : stepS (x :: r) (y :: s) = ⟨y, false, true⟩ := by
     have hm : min x.node y.node = y.node := by omega
     have hn : ¬ (x.node = y.node) := by omega
     simp only [stepS, nodeS, hm, hdS, if_true, if_neg hn, frmS, inS, toS, Bool.false_and, Bool.false_eq_true, if_false]
     have : max (0 : Int) y.frm = y.frm := by omega
     rw [this]
     simp only [beq_self_eq_true, Bool.and_true, if_true]
     have : min (2147483647 : Int) y.to = y.to := by omega
     rw [this]
    rw [e1]
    exact ⟨hb.1, rfl, .off (aft_head ha (.inl hgt)), sd_behind rfl rfl (Int.le_refl _), fun h => by cases h⟩
end Go.Proofs.YtlbjplpehkgcdaaGreatDoor
namespace Go.Proofs.YtlbjplpehkgcdaaGreatDoor
open Go Go.Am Go.Pm
def addR (ro : List Span) (x : Span) : List Span :=
 match ro with
 | [] => [x]
 | p :: r => if p.node = x.node /\ p.to + 1 = x.frm then ⟨p.node, p.frm, x.to⟩ :: r else x :: p :: r
def OkR : List Span -> Prop
 | [] => True
 | x :: r => SpOk x /\ (match r with | [] => True | y :: _ => gap y x) /\ OkR r
def befR (ro : List Span) (x : Span) : Prop :=
 match ro with
 | [] => True
 | p :: _ => p.node < x.node \/ (p.node = x.node /\ p.to < x.frm)
def befL (ro l : List Span) : Prop :=
 match ro with
 | [] => True
 | p :: _ => Aft p.node p.to l
theorem addR_ok {ro : List Span} {x : Span} (h : OkR ro) (hx : SpOk x) (hb : befR ro x) : OkR (addR ro x) /\ (∀ n s, memP (addR ro x) n s = (memP ro n s || inSp x n s)) /\ ∃ p r, addR ro x = p :: r /\ p.node = x.node /\ p.to = x.to := by
 cases ro with
 | nil => exact ⟨⟨hx, trivial, trivial⟩, fun n s => by simp [addR, memP], x, [], rfl, rfl, rfl⟩
 | cons p r =>
  obtain ⟨hp, hg, hr⟩ := h
  have hb' : p.node < x.node \/ (p.node = x.node /\ p.to < x.frm) := hb
  unfold addR
  dsimp only
  by_cases hc : p.node = x.node /\ p.to + 1 = x.frm
  ·rw [if_pos hc]
   unfold SpOk at hp hx
   refine ⟨⟨?_, ?_, hr⟩, fun n s => ?_, _, _, rfl, hc.1, rfl⟩
   ·unfold SpOk; dsimp only; omega
   ·cases r with
    | nil => trivial
    | cons q r => exact hg
   ·rw [memP_cons, memP_cons]
    have : inSp ⟨p.node, p.frm, x.to⟩ n s = (inSp p n s || inSp x n s) := by
     rw [Bool.eq_iff_iff, Bool.or_eq_true, inSp_iff, inSp_iff, inSp_iff]
     dsimp only
     omega
    rw [this, Bool.or_assoc, Bool.or_assoc, Bool.or_comm (inSp x n s)]
  ·rw [if_neg hc]
   refine ⟨⟨hx, ?_, hp, hg, hr⟩, fun n s => ?_, x, _, rfl, rfl, rfl⟩
   ·show gap p x
    unfold gap
    unfold SpOk at hp hx
    omega
   ·rw [memP_cons, Bool.or_comm]
def sweepR (keep : Bool -> Bool -> Bool) : Nat -> List Span -> List Span -> List Span -> List Span
 | 0, _, _, ro => ro
 | k + 1, a, b, ro =>
  if a.length + b.length = 0 then ro else
   let s := stepS a b
   sweepR keep k (restS a s.ia s.x.to) (restS b s.ib s.x.to) (if keep s.ia s.ib then addR ro s.x else ro)
theorem befL_step {ro l l' : List Span} {n f t : Int} {i : Bool} (h : befL ro l) (hft : f <= t) (hs : Sd n f t i l l') : befL ro l' := by
 cases ro with
 | nil => trivial
 | cons p r =>
  have h' : Aft p.node p.to l := h
  show Aft p.node p.to l'
  cases hs with
  | off _ => exact h'
  | gone h1 h2 h3 => exact fun y hy => h' y (List.mem_cons_of_mem _ hy)
  | @cut z r' h1 h2 h3 =>
   intro y hy
   rcases List.mem_cons.1 hy with rfl | hy
   ·have := h' z List.mem_cons_self
    dsimp only
    omega
   ·exact h' y (List.mem_cons_of_mem _ hy)
theorem befL_in {ro l l' : List Span} {x : Span} (h : befL ro l) (hs : Sd x.node x.frm x.to true l l') : befR ro x := by
 cases ro with
 | nil => trivial
 | cons p r =>
  have h' : Aft p.node p.to l := h
  cases hs with
  | @gone z _ h1 h2 h3 => have := h' z List.mem_cons_self; show _ \/ _; omega
  | @cut z _ h1 h2 h3 => have := h' z List.mem_cons_self; show _ \/ _; omega
theorem befL_add {ro l : List Span} {x : Span} {p : Span} {r : List Span} (h : addR ro x = p :: r) (h1 : p.node = x.node) (h2 : p.to = x.to) (ha : Aft x.node x.to l) : befL (addR ro x) l := by
 rw [h]
 show Aft p.node p.to l
 rw [h1, h2]; exact ha
theorem sweep_sem (keep : Bool -> Bool -> Bool) (hk : keep false false = false) : ∀ (k : Nat) (a b ro : List Span), OkR ro -> befL ro a -> befL ro b -> OkL a -> OkL b -> tot a + tot b < k →
  OkR (sweepR keep k a b ro) /\ ∀ n s, memP (sweepR keep k a b ro) n s = (memP ro n s || keep (memP a n s) (memP b n s))
 | 0, a, b, ro, _, _, _, _, _, h => absurd h (Nat.not_lt_zero _)
 | k + 1, a, b, ro, hro, hba, hbb, ha, hb, h => by
  unfold sweepR
  by_cases h0 : a.length + b.length = 0
  ·rw [if_pos h0]
   have e1 : a = [] := List.length_eq_zero_iff.1 (by omega)
   have e2 : b = [] := List.length_eq_zero_iff.1 (by omega)
   subst e1 e2
   exact ⟨hro, fun n s => by simp [memP_nil, hk]⟩
  ·rw [if_neg h0]
   have hne : a ≠ [] \/ b ≠ [] := by
    cases a with
    | nil => cases b with
     | nil => simp at h0
     | cons y s => exact .inr (by simp)
    | cons x r => exact .inl (by simp)
   obtain ⟨hx, hor, sa, sb, _⟩ := stepS_ok ha hb hne
   dsimp only
   generalize stepS a b = q at hx hor sa sb
   obtain ⟨x, ia, ib⟩ := q
   dsimp only at hx hor sa sb ⊢
   have hx' := hx
   unfold SpOk at hx'
   obtain ⟨ka1, ka2, ka3, ka4⟩ := sa.ok (by omega) ha
   obtain ⟨kb1, kb2, kb3, kb4⟩ := sb.ok (by omega) hb
   generalize restS a ia x.to = a' at *
   generalize restS b ib x.to = b' at *
   have hlt : tot a' + tot b' < k := by
    cases ia <;> cases ib <;> simp at hor ka3 kb3 <;> omega
   have hbx : befR ro x := by
    cases ia with
    | true => exact befL_in hba sa
    | false => cases ib with
     | true => exact befL_in hbb sb
     | false => cases hor
   obtain ⟨q1, q2, p, r, q3, q4, q5⟩ := addR_ok hro hx hbx
   have key : ∀ n s, (memP (if keep ia ib then addR ro x else ro) n s || keep (memP a' n s) (memP b' n s)) = (memP ro n s || keep (memP a n s) (memP b n s)) := fun n s => by
    rw [ka4 n s, kb4 n s]
    have hxx : (⟨x.node, x.frm, x.to⟩ : Span) = x := rfl
    rw [hxx]
    cases hin : inSp x n s with
    | true =>
     rw [inSp_iff] at hin
     rw [ka2.out (m := n) (s := s) (by omega), kb2.out (m := n) (s := s) (by omega), hk, Bool.and_true, Bool.and_true, Bool.or_false, Bool.or_false, Bool.or_false]
     cases hkk : keep ia ib with
     | true => rw [if_pos rfl, q2 n s, inSp_iff.2 hin]
     | false => rw [if_neg (by decide), Bool.or_false]
    | false =>
     rw [Bool.and_false, Bool.and_false, Bool.false_or, Bool.false_or]
     congr 1
     cases hkk : keep ia ib with
     | true => rw [if_pos rfl, q2 n s, hin, Bool.or_false]
     | false => rw [if_neg (by decide)]
   have hro' : OkR (if keep ia ib then addR ro x else ro) /\ befL (if keep ia ib then addR ro x else ro) a' /\ befL (if keep ia ib then addR ro x else ro) b' := by
    cases hkk : keep ia ib with
    | true => rw [if_pos rfl]; exact ⟨q1, befL_add q3 q4 q5 ka2, befL_add q3 q4 q5 kb2⟩
    | false => rw [if_neg (by decide)]; exact ⟨hro, befL_step hba (by omega) sa, befL_step hbb (by omega) sb⟩
   obtain ⟨r1, r2⟩ := sweep_sem keep hk k a' b' _ hro'.1 hro'.2.1 hro'.2.2 ka1 kb1 hlt
   exact ⟨r1, fun n s => by rw [r2 n s, key n s]⟩
def cont (ro l : List Span) : Nat :=
 match ro, l with
 | p :: _, z :: _ => if p.node = z.node /\ p.to + 1 = z.frm then 1 else 0
 | _, _ => 0
theorem cont_le (ro l : List Span) : cont ro l <= l.length := by
 unfold cont
 split
 ·split
  ·simp
  ·omega
 ·omega
def conx (ro : List Span) (x : Span) : Nat :=
 match ro with
 | p :: _ => if p.node = x.node /\ p.to + 1 = x.frm then 1 else 0
 | _ => 0
theorem addR_len (ro : List Span) (x : Span) : (addR ro x).length + conx ro x = ro.length + 1 := by
 cases ro with
 | nil => rfl
 | cons p r =>
  unfold addR conx
  dsimp only
  split
  ·simp
  ·simp
theorem side_keep {ro l l' : List Span} {x : Span} {i : Bool} (hs : Sd x.node x.frm x.to i l l') (hx : SpOk x) (hb : befR ro x) (hl : OkL l) : (l'.length - cont (addR ro x) l') + (if i then 1 - conx ro x else 0) <= l.length - cont ro l := by
 cases hs with
 | off h =>
  have : cont ro l = 0 := by
   cases ro with
   | nil => rfl
   | cons p r =>
    cases l with
    | nil => rfl
    | cons z l =>
     have h1 : p.node < x.node \/ (p.node = x.node /\ p.to < x.frm) := hb
     have h2 := h z List.mem_cons_self
     unfold SpOk at hx
     unfold cont
     dsimp only
     rw [if_neg (by omega)]
  rw [this]
  simp
 | @gone z r h1 h2 h3 =>
  have e1 : cont ro (z :: l') = conx ro x := by
   cases ro with
   | nil => rfl
   | cons p r' => unfold cont conx; dsimp only; rw [h1, h2]
  rw [e1]
  have : conx ro x <= 1 := by unfold conx; split <;> (try split) <;> omega
  simp
  omega
 | @cut z r h1 h2 h3 =>
  have e1 : cont ro (z :: r) = conx ro x := by
   cases ro with
   | nil => rfl
   | cons p r' => unfold cont conx; dsimp only; rw [h1, h2]
  have e2 : cont (addR ro x) (⟨z.node, x.to + 1, z.to⟩ :: r) = 1 := by
   cases ro with
   | nil =>
    unfold addR cont; dsimp only
    rw [if_pos ⟨h1.symm, rfl⟩]
   | cons p r' =>
    unfold addR
    dsimp only
    split
    ·rename_i hc
     unfold cont; dsimp only
     rw [if_pos ⟨by omega, rfl⟩]
    ·unfold cont; dsimp only
     rw [if_pos ⟨h1.symm, rfl⟩]
  rw [e1, e2]
  have : conx ro x <= 1 := by unfold conx; split <;> (try split) <;> omega
  simp
  omega
theorem side_len {l l' : List Span} {n f t : Int} {i : Bool} (hs : Sd n f t i l l') : l'.length <= l.length := by
 cases hs with
 | off _ => exact Nat.le_refl _
 | gone _ _ _ => simp
 | cut _ _ _ => simp
theorem minus_len : ∀ (k : Nat) (a b ro : List Span), OkR ro -> befL ro a -> befL ro b -> OkL a -> OkL b →
  (sweepR (fun x y => x && !y) k a b ro).length <= ro.length + (a.length - cont ro a) + b.length
 | 0, a, b, ro, _, _, _, _, _ => by unfold sweepR; omega
 | k + 1, a, b, ro, hro, hba, hbb, ha, hb => by
  unfold sweepR
  by_cases h0 : a.length + b.length = 0
  ·rw [if_pos h0]; omega
  ·rw [if_neg h0]
   have hne : a ≠ [] \/ b ≠ [] := by
    cases a with
    | nil => cases b with
     | nil => simp at h0
     | cons y s => exact .inr (by simp)
    | cons x r => exact .inl (by simp)
   obtain ⟨hx, hor, sa, sb, hcut⟩ := stepS_ok ha hb hne
   dsimp only
   generalize stepS a b = q at hx hor sa sb hcut
   obtain ⟨x, ia, ib⟩ := q
   dsimp only at hx hor sa sb hcut ⊢
   have hx' := hx
   unfold SpOk at hx'
   obtain ⟨ka1, ka2, _⟩ := sa.ok (by omega) ha
   obtain ⟨kb1, kb2, _⟩ := sb.ok (by omega) hb
   have la := side_len sa
   have lb := side_len sb
   have hc1 := cont_le ro a
   cases ia with
   | false =>
    cases ib with
    | false => cases hor
    | true =>
     have ea : restS a false x.to = a := rfl
     rw [ea] at sa ka1 ka2 la ⊢
     have ih := minus_len k a _ ro hro hba (befL_step hbb (by omega) sb) ka1 kb1
     simp only [Bool.false_and, Bool.false_eq_true, if_false]
     omega
   | true =>
    cases ib with
    | false =>
     have eb : restS b false x.to = b := rfl
     rw [eb] at sb kb1 kb2 lb ⊢
     have hbx : befR ro x := befL_in hba sa
     obtain ⟨q1, q2, p, r, q3, q4, q5⟩ := addR_ok hro hx hbx
     have ih := minus_len k _ b (addR ro x) q1 (befL_add q3 q4 q5 ka2) (befL_add q3 q4 q5 kb2) ka1 kb1
     have l1 := side_keep sa hx hbx ha
     have l3 := addR_len ro x
     have : conx ro x <= 1 := by unfold conx; split <;> (try split) <;> omega
     simp only [Bool.not_false, Bool.and_self, if_true] at l1 ⊢
     omega
    | true =>
     have ih := minus_len k _ _ ro hro (befL_step hba (by omega) sa) (befL_step hbb (by omega) sb) ka1 kb1
     have hlen : (restS a true x.to).length + (restS b true x.to).length + 1 <= a.length + b.length := by
      rcases hcut rfl rfl with ⟨z, r, e1, e2⟩ | ⟨z, r, e1, e2⟩
      ·rw [e1]
       have : restS (z :: r) true x.to = r := by unfold restS behindS; simp [e2]
       rw [this]; simp; omega
      ·rw [e1]
       have : restS (z :: r) true x.to = r := by unfold restS behindS; simp [e2]
       rw [this]; simp; omega
     simp only [Bool.not_true, Bool.and_false, Bool.false_eq_true, if_false]
     have hc2 : cont ro a <= 1 := by unfold cont; split <;> (try split) <;> omega
     omega
theorem okR_rev : ∀ {ro : List Span}, OkR ro -> OkL ro.reverse := by
 have app : ∀ {l : List Span} {x : Span}, OkL l -> SpOk x -> (∀ p, l.getLast? = some p -> gap p x) -> OkL (l ++ [x]) := by
  intro l
  induction l with
  | nil => intro x _ hx _; exact ⟨hx, trivial, trivial⟩
  | cons y l ih =>
   intro x h hx hg
   obtain ⟨h1, h2, h3⟩ := h
   refine ⟨h1, ?_, ih h3 hx fun p hp => ?_⟩
   ·cases l with
    | nil => exact hg y rfl
    | cons z l => exact h2
   ·refine hg p ?_
    cases l with
    | nil => cases hp
    | cons z l => rw [List.getLast?_cons_cons]; exact hp
 intro ro
 induction ro with
 | nil => intro _; trivial
 | cons x r ih =>
  intro h
  obtain ⟨h1, h2, h3⟩ := h
  rw [List.reverse_cons]
  refine app (ih h3) h1 fun p hp => ?_
  rw [List.getLast?_reverse] at hp
  cases r with
  | nil => cases hp
  | cons y r => cases hp; exact h2
theorem memP_rev (l : List Span) (n s : Int) : memP l.reverse n s = memP l n s := by simp [memP]
def sweptF (keep : Bool -> Bool -> Bool) (a b : List Span) : List Span := (sweepR keep (tot a + tot b + 1) a b []).reverse
theorem swept_sem (keep : Bool -> Bool -> Bool) (hk : keep false false = false) {a b : List Span} (ha : OkL a) (hb : OkL b) : OkL (sweptF keep a b) /\ ∀ n s, memP (sweptF keep a b) n s = keep (memP a n s) (memP b n s) := by
 obtain ⟨h1, h2⟩ := sweep_sem keep hk (tot a + tot b + 1) a b [] trivial trivial trivial ha hb (Nat.lt_succ_self _)
 exact ⟨okR_rev h1, fun n s => by unfold sweptF; rw [memP_rev, h2 n s, memP_nil, Bool.false_or]⟩
theorem minusF_len {a b : List Span} (ha : OkL a) (hb : OkL b) : (sweptF (fun x y => x && !y) a b).length <= a.length + b.length := by
 have := minus_len (tot a + tot b + 1) a b [] trivial trivial trivial ha hb
 unfold sweptF
 rw [List.length_reverse]
 simp [cont] at this
 omega
theorem nil_of_mem {l : List Span} (h : OkL l) (hm : ∀ n s, memP l n s = false) : l = [] := by
 cases l with
 | nil => rfl
 | cons x r =>
  have h1 := h.1
  unfold SpOk at h1
  have := hm x.node x.frm
  rw [memP_cons, inSp_iff.2 ⟨rfl, Int.le_refl _, h1.2.2.2.1⟩] at this
  cases this
theorem minus_nil {a b : List Span} (ha : OkL a) (hb : OkL b) : sweptF (fun x y => x && !y) a b = [] ↔ ∀ n s, memP a n s = true -> memP b n s = true := by
 obtain ⟨h1, h2⟩ := swept_sem (fun x y => x && !y) rfl ha hb
 constructor
 ·intro h n s hm
  have := h2 n s
  rw [h, memP_nil, hm] at this
  cases hq : memP b n s with
  | true => rfl
  | false => rw [hq] at this; cases this
 ·intro h
  refine nil_of_mem h1 fun n s => ?_
  rw [h2 n s]
  cases hq : memP a n s with
  | false => rfl
  | true => rw [h n s hq]; rfl
end Go.Proofs.YtlbjplpehkgcdaaGreatDoor
namespace Go.Am
open Go.RowKit
section
variable {E : Env} {P : Program} {ι : Inj} {m m1 : Mem} {w w1 : World}
theorem ERs.mem {l l' : List MapEntry} (h : ERs ι l l') : ∀ {x' : MapEntry}, x' ∈ l' -> ∃ x ∈ l, ER ι x x' := by
 induction h with
 | nil => intro x' hx; simp at hx
 | @cons e e' _ _ he hs ih =>
  intro x' hx
  rcases List.mem_cons.1 hx with rfl | hx
  ·exact ⟨e, List.mem_cons_self, he⟩
  ·obtain ⟨x, h1, h2⟩ := ih hx
   exact ⟨x, List.mem_cons_of_mem _ h1, h2⟩
theorem ERs.born {l l' : List MapEntry} (h : ERs ι l l') : l.map (·.born) = l'.map (·.born) := by
 induction h with
 | nil => rfl
 | cons he _ ih => simp [ih, he.2.2]
end
end Go.Am