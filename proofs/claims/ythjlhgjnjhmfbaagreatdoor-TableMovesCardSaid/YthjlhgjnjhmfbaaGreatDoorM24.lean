/- TableMoves holds. Part 24 of 29; no condition. -/
import Derived.Test.YthjlhgjnjhmfbaaGreatDoorM23
set_option linter.unusedVariables false
set_option linter.unusedSimpArgs false
set_option maxHeartbeats 4000000
set_option maxRecDepth 100000
namespace Go.Proofs.YthjlhgjnjhmfbaaGreatDoor
open Go Go.Am Go.Pm
structure Span where
 node : Int
 frm : Int
 to : Int
theorem flatMap_take {α : Type} {f : α -> List PV} {n : Nat} (hf : ∀ x, (f x).length = n) : ∀ (xs : List α) (i : Nat) (x : α), xs[i]? = some x -> ((xs.flatMap f).drop (i * n)).take n = f x
 | [], i, x, h => by simp at h
 | y :: xs, 0, x, h => by
  simp at h; subst h
  rw [Nat.zero_mul, List.drop_zero, List.flatMap_cons, List.take_append_of_le_length (by rw [hf]; exact Nat.le_refl _), List.take_of_length_le (by rw [hf]; exact Nat.le_refl _)]
 | y :: xs, i + 1, x, h => by
  simp at h
  rw [List.flatMap_cons, List.drop_append, List.drop_of_length_le (by rw [hf, Nat.add_mul]; omega), List.nil_append, hf, Nat.add_mul, Nat.one_mul, Nat.add_sub_cancel]
  exact flatMap_take hf xs i x h
theorem flatMap_len {α : Type} {f : α -> List PV} {n : Nat} (hf : ∀ x, (f x).length = n) (xs : List α) : (xs.flatMap f).length = xs.length * n := by
 induction xs with
 | nil => simp
 | cons y xs ih => simp [ih, hf, Nat.add_mul]; omega
theorem load_at {α : Type} {f : α -> List PV} {n : Nat} (hf : ∀ x, (f x).length = n) {xs : List α} {i : Nat} {x : α} (h : xs[i]? = some x) : ptake true n (xs.flatMap f) (i * n) = some (.agg (f x)) := by
 have hi : i < xs.length := by
  rcases Nat.lt_or_ge i xs.length with h' | h'
  ·exact h'
  ·rw [List.getElem?_eq_none h'] at h; cases h
 have : i * n + n <= xs.length * n := by
  rw [<- Nat.succ_mul]; exact Nat.mul_le_mul_right _ hi
 simp only [ptake, flatMap_len hf, if_pos this, flatMap_take hf xs i x h]
theorem cell_at {α : Type} {f : α -> List PV} {n : Nat} (hf : ∀ x, (f x).length = n) {xs : List α} {i : Nat} {x : α} (h : xs[i]? = some x) {c : Nat} {v : PV} (hc : (f x)[c]? = some v) : (xs.flatMap f)[i * n + c]? = some v := by
 have hcn : c < n := by
  rcases Nat.lt_or_ge c n with h' | h'
  ·exact h'
  ·rw [List.getElem?_eq_none (by rw [hf]; exact h')] at hc; cases hc
 have := flatMap_take hf xs i x h
 rw [<- this, List.getElem?_take_of_lt hcn, List.getElem?_drop] at hc
 exact hc
def errIf (b : Bool) : Int := if b then 0 else 2
abbrev iv (n : Int) : PV := .v (.int .i64 n)
abbrev bv (b : Bool) : PV := .v (.bool b)
def encB (b : UInt8) : PV := .v (.int .u8 b.toNat)
def encBytes (l : List UInt8) : PV := .lst .no 1 l.length (l.map encB)
def effOk (k m : Int) (b : List UInt8) : Bool := !(decide (k < 1) || decide (k > 3)) && !(decide (m < 0) || decide (m > (if k = 3 then 0 else 511)) || decide ((b.length : Int) > (if k = 1 then 1000 else 0)))
abbrev str (l : List UInt8) : PV := .v (.string ⟨l.toArray⟩)
theorem bytesEq_eq : ∀ a b : List UInt8, bytesEq a b = (a == b)
 | [], [] => rfl
 | [], _ :: _ => rfl
 | _ :: _, [] => rfl
 | x :: a, y :: b => by
  have h : Nat.beq x.toNat y.toNat = (x == y) := by
   cases e : (x == y) with
   | true => rw [beq_iff_eq] at e; subst e; exact Nat.beq_refl _
   | false =>
    cases e2 : Nat.beq x.toNat y.toNat with
    | false => rfl
    | true =>
     have := UInt8.toNat.inj (Nat.eq_of_beq_eq_true e2)
     subst this
     simp at e
  rw [bytesEq, bytesEq_eq a b, h]; rfl
theorem pbytes_enc : ∀ l : List UInt8, pbytes? (l.map encB) = some l
 | [] => rfl
 | b :: l => by
  simp only [List.map_cons, encB, pbytes?]
  have := pbytes_enc l
  rw [show (List.map encB l) = List.map encB l from rfl, this]
  simp
theorem convB_enc {t : Tok} {n : Nat} {l : List UInt8} : convB (.lst t 1 n (l.map encB)) = some (str l) := by
 simp [convB, pbytes_enc]
theorem str_eql {E : Env} {t : Nat} {c d : Bool} {a b : List UInt8} : pbin E .eql t c d (str a) (str b) = some (bv (a == b)) := by
 simp [pbin, eqFine, binV, strBin, bytesEq_eq]
theorem str_neq {E : Env} {t : Nat} {c d : Bool} {a b : List UInt8} : pbin E .neq t c d (str a) (str b) = some (bv (!(a == b))) := by
 simp [pbin, eqFine, binV, strBin, bytesEq_eq]
theorem getE {α : Type} {xs : List α} {i : Nat} (h : i < xs.length) : ∃ x, xs[i]? = some x /\ xs.drop i = x :: xs.drop (i + 1) := ⟨xs[i], by simp, List.drop_eq_getElem_cons h⟩
structure Ev where
 node : Int
 seq : Int
 path : List UInt8
 kind : Int
 mode : Int
 bytes : List UInt8
 past : List Span
theorem sub_at {α : Type} {f : α -> List PV} {n : Nat} (hf : ∀ x, (f x).length = n) {xs : List α} {i : Nat} {x : α} (h : xs[i]? = some x) {c w : Nat} {vs : List PV} (hc : c + w <= n) (hv : ((f x).drop c).take w = vs) : ptake true w (xs.flatMap f) (i * n + c) = some (.agg vs) := by
 have hi : i < xs.length := by
  rcases Nat.lt_or_ge i xs.length with h' | h'
  ·exact h'
  ·rw [List.getElem?_eq_none h'] at h; cases h
 have hle : i * n + n <= xs.length * n := by
  rw [<- Nat.succ_mul]; exact Nat.mul_le_mul_right _ hi
 have h1 : i * n + c + w <= (xs.flatMap f).length := by rw [flatMap_len hf]; omega
 rw [ptake_mid h1, <- hv]
 have := flatMap_take hf xs i x h
 rw [<- this, List.drop_take, List.take_take, List.drop_drop, Nat.min_eq_left (by omega)]
theorem all_encB (l : List UInt8) : (l.map encB).all pone = true := by
 induction l with
 | nil => rfl
 | cons b l ih => simp [ih, encB, pone]
def idxOf (c : UInt8) : Nat -> List UInt8 -> Option Nat
 | _, [] => none
 | i, b :: r => if b = c then some i else idxOf c (i + 1) r
theorem byteAt_eq (c : UInt8) : ∀ (l : List UInt8) (i : Nat), byteAt c.toNat i l = idxOf c i l
 | [], i => rfl
 | b :: r, i => by
  unfold byteAt idxOf
  by_cases h : b = c
  ·subst h
   rw [if_pos rfl, show Nat.beq b.toNat b.toNat = true from Nat.beq_refl _]; rfl
  ·rw [if_neg h, byteAt_eq c r]
   have : Nat.beq b.toNat c.toNat = false := by
    cases e : Nat.beq b.toNat c.toNat with
    | false => rfl
    | true => exact absurd (UInt8.toNat.inj (Nat.eq_of_beq_eq_true e)) h
   rw [this]; rfl
def idxI : Option Nat -> Int
 | some i => i
 | none => -1
theorem idxOf_le {c : UInt8} : ∀ {l : List UInt8} {k i : Nat}, idxOf c k l = some i -> k <= i /\ i < k + l.length /\ l[i - k]? = some c /\ l.take (i - k) = (l.take (i - k)).filter (· ≠ c)
 | [], k, i, h => by cases h
 | b :: r, k, i, h => by
  unfold idxOf at h
  split at h
  ·rename_i hb
   cases h; subst hb
   refine ⟨Nat.le_refl _, by simp, by simp, by simp⟩
  ·rename_i hb
   obtain ⟨h1, h2, h3, h4⟩ := idxOf_le h
   have e : i - k = (i - (k + 1)) + 1 := by omega
   refine ⟨by omega, by simp; omega, by rw [e]; simpa using h3, ?_⟩
   rw [e, List.take_succ_cons, List.filter_cons_of_pos (by simpa using hb), <- h4]
theorem len_str {l : List UInt8} : lenS (str l) = some (iv (l.length : Nat)) := rfl
theorem len_nil : lenS (str []) = some (iv ((0 : Nat) : Int)) := rfl
theorem len_one {c : UInt8} : lenS (str [c]) = some (iv 1) := rfl
theorem str_idx {l : List UInt8} {i : Nat} {k : IntKind} {b : UInt8} (h : l[i]? = some b) : idxS (str l) (.v (.int k (i : Int))) = some (encB b) := by
 unfold idxS
 rw [pnat_int]
 show (match l[i]? with | some b => some (PV.v (.int .u8 b.toNat)) | none => none) = _
 rw [h]; rfl
theorem str_to {l : List UInt8} {i : Nat} {k : IntKind} (h : i <= l.length) : sliceS (str l) none (some (.v (.int k (i : Int)))) = some (str (l.take i)) := by
 unfold sliceS
 simp only [Option.map_none, Option.map_some, pnat_int]
 show (if i <= l.length then _ else none) = _
 rw [if_pos h]
theorem str_from {l : List UInt8} {i : Nat} {k : IntKind} (h : i <= l.length) : sliceS (str l) (some (.v (.int k (i : Int)))) none = some (str (l.drop i)) := by
 unfold sliceS
 simp only [Option.map_none, Option.map_some, pnat_int]
 show (if i <= l.length then some (PV.v (.string ⟨((l.drop i).take (l.length - i)).toArray⟩)) else none) = _
 rw [if_pos h, List.take_of_length_le (by simp)]
def letters : List UInt8 := [97, 98, 99, 100, 101, 102, 103, 104, 105, 106, 107, 108, 109, 110, 111, 112, 113, 114, 115, 116, 117, 118, 119, 120, 121, 122, 48, 49, 50, 51, 52, 53, 54, 55, 56, 57, 46, 95, 45]
def isL (b : UInt8) : Bool := letters.contains b
theorem idxOf_some {c : UInt8} : ∀ {l : List UInt8} {k : Nat}, c ∈ l -> ∃ i, idxOf c k l = some i
 | b :: r, k, h => by
  unfold idxOf
  by_cases hb : b = c
  ·exact ⟨k, by rw [if_pos hb]⟩
  ·rw [if_neg hb]
   rcases List.mem_cons.1 h with e | h
   ·exact absurd e.symm hb
   ·exact idxOf_some h
theorem isL_small (b : UInt8) (h : isL b = true) : b.toNat < 128 := by
 have : b ∈ letters := by simpa [isL] using h
 have hall : ∀ x ∈ letters, x.toNat < 128 := by decide
 exact hall b this
abbrev i64 : Sh := .int .i64
abbrev shB : List Sh := [.int .u8]
def inI (n : Int) : Prop := -9223372036854775808 <= n /\ n <= 9223372036854775807
theorem inI_of {n : Int} (h1 : IntKind.i64.min <= n) (h2 : n <= IntKind.i64.max) : inI n := ⟨h1, h2⟩
theorem i_dec {d : DV} (h : ShP i64 d) : ∃ n : Int, pvD i64 d = iv n /\ inI n := by
 obtain ⟨n, h1, h2, h3⟩ := int_dec h
 exact ⟨n, h1, inI_of h2 h3⟩
theorem byte_dec {ds : List DV} (h : ShPs shB ds) : ∃ b : UInt8, pvs shB ds = [encB b] /\ True := by
 cases h with | cons h1 h =>
 cases h
 obtain ⟨n, h1, h2, h3⟩ := int_dec h1
 have h2' : 0 <= n := h2
 have h3' : n <= 255 := h3
 refine ⟨UInt8.ofNat n.toNat, ?_, trivial⟩
 simp only [pvs, h1, encB]
 have : ((UInt8.ofNat n.toNat).toNat : Int) = n := by
  rw [UInt8.toNat_ofNat']
  omega
 rw [this]
theorem bytes_dec {d : DV} (h : ShP (.sl shB) d) : ∃ bs : List UInt8, pvD (.sl shB) d = encBytes bs /\ bs.length <= maxLen := by
 obtain ⟨xs, h1, h2, h3⟩ := sl_dec (l := shB) (enc := fun b => [encB b]) (B := fun _ => True) (by decide) (fun ds h => byte_dec h) h
 refine ⟨xs, ?_, h2⟩
 rw [h1]
 unfold encBytes
 congr 1
 clear h1 h2 h3
 induction xs with
 | nil => rfl
 | cons x xs ih => simp only [List.flatMap_cons, List.map_cons, ih]; rfl
theorem txt_dec {d : DV} (h : ShP .str d) : ∃ s : List UInt8, pvD .str d = str s /\ s.length <= maxLen := by
 obtain ⟨s, h1, h2⟩ := str_dec h
 refine ⟨s.data.toList, ?_, ?_⟩
 ·rw [h1]
 ·rw [Array.length_toList]; exact h2
end Go.Proofs.YthjlhgjnjhmfbaaGreatDoor