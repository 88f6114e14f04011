/- TableWalks holds. Part 24 of 29; no condition. -/
import Derived.Test.YtnmidpahhhdlpaaGreatDoorM23
set_option linter.unusedVariables false
set_option linter.unusedSimpArgs false
set_option maxHeartbeats 4000000
set_option maxRecDepth 100000
namespace Go.Proofs.YtnmidpahhhdlpaaGreatDoor
open Go Go.Am Go.Pm
structure aWX where
 node : Int
 frm : Int
 to : Int
def aPE (s : aWX) : List PV := [.v (.int .i64 s.node), .v (.int .i64 s.frm), .v (.int .i64 s.to)]
def pW (xs : List aWX) : PV := .lst .no 3 xs.length (xs.flatMap aPE)
theorem R6 {α : Type} {f : α -> List PV} {n : Nat} (hf : ∀ x, (f x).length = n) : ∀ (xs : List α) (i : Nat) (x : α), xs[i]? = some x -> ((xs.flatMap f).drop (i * n)).take n = f x
 | [], i, x, h => by simp at h
 | y :: xs, 0, x, h => by
  simp at h; subst h
  rw [Nat.zero_mul, List.drop_zero, List.flatMap_cons, List.take_append_of_le_length (by rw [hf]; exact Nat.le_refl _), List.take_of_length_le (by rw [hf]; exact Nat.le_refl _)]
 | y :: xs, i + 1, x, h => by
  simp at h
  rw [List.flatMap_cons, List.drop_append, List.drop_of_length_le (by rw [hf, Nat.add_mul]; omega), List.nil_append, hf, Nat.add_mul, Nat.one_mul, Nat.add_sub_cancel]
  exact R6 hf xs i x h
theorem bI {α : Type} {f : α -> List PV} {n : Nat} (hf : ∀ x, (f x).length = n) (xs : List α) : (xs.flatMap f).length = xs.length * n := by
 induction xs with
 | nil => simp
 | cons y xs ih => simp [ih, hf, Nat.add_mul]; omega
theorem gQ {α : Type} {f : α -> List PV} {n : Nat} (hf : ∀ x, (f x).length = n) {xs : List α} {i : Nat} {x : α} (h : xs[i]? = some x) : o9 true n (xs.flatMap f) (i * n) = some (.agg (f x)) := by
 have hi : i < xs.length := by
  rcases Nat.lt_or_ge i xs.length with h' | h'
  ·exact h'
  ·rw [List.getElem?_eq_none h'] at h; cases h
 have : i * n + n <= xs.length * n := by
  rw [<- Nat.succ_mul]; exact Nat.mul_le_mul_right _ hi
 simp only [o9, bI hf, if_pos this, R6 hf xs i x h]
theorem aCP {α : Type} {f : α -> List PV} {n : Nat} (hf : ∀ x, (f x).length = n) {xs : List α} {i : Nat} {x : α} (h : xs[i]? = some x) {c : Nat} {v : PV} (hc : (f x)[c]? = some v) : (xs.flatMap f)[i * n + c]? = some v := by
 have hcn : c < n := by
  rcases Nat.lt_or_ge c n with h' | h'
  ·exact h'
  ·rw [List.getElem?_eq_none (by rw [hf]; exact h')] at hc; cases hc
 have := R6 hf xs i x h
 rw [<- this, List.getElem?_take_of_lt hcn, List.getElem?_drop] at hc
 exact hc
def kS (b : Bool) : Int := if b then 0 else 2
abbrev iv (n : Int) : PV := .v (.int .i64 n)
abbrev bv (b : Bool) : PV := .v (.bool b)
def A5 (b : UInt8) : PV := .v (.int .u8 b.toNat)
def a8 (l : List UInt8) : PV := .lst .no 1 l.length (l.map A5)
def O7 (k m : Int) (b : List UInt8) : Bool := !(decide (k < 1) || decide (k > 3)) && !(decide (m < 0) || decide (m > (if k = 3 then 0 else 511)) || decide ((b.length : Int) > (if k = 1 then 1000 else 0)))
abbrev str (l : List UInt8) : PV := .v (.string ⟨l.toArray⟩)
theorem C3 : ∀ a b : List UInt8, z7 a b = (a == b)
 | [], [] => rfl
 | [], _ :: _ => rfl
 | _ :: _, [] => rfl
 | x :: a, y :: b => by
  have h : Nat.beq x.toNat y.toNat = (x == y) := by
   cases e : (x == y) with
   | true => rw [beq_iff_eq] at e; subst e; exact Nat.beq_refl _
   | false =>
    cases e2 : Nat.beq x.toNat y.toNat with
    | false => rfl
    | true =>
     have := UInt8.toNat.inj (Nat.eq_of_beq_eq_true e2)
     subst this
     simp at e
  rw [z7, C3 a b, h]; rfl
theorem aG : ∀ l : List UInt8, R3 (l.map A5) = some l
 | [] => rfl
 | b :: l => by
  simp only [List.map_cons, A5, R3]
  have := aG l
  rw [show (List.map A5 l) = List.map A5 l from rfl, this]
  simp
theorem dI {t : lH} {n : Nat} {l : List UInt8} : nH (.lst t 1 n (l.map A5)) = some (str l) := by
 simp [nH, aG]
theorem H7 {E : d9} {t : Nat} {c d : Bool} {a b : List UInt8} : w9 E .eql t c d (str a) (str b) = some (bv (a == b)) := by
 simp [w9, w5, B8, X0, C3]
theorem R8 {E : d9} {t : Nat} {c d : Bool} {a b : List UInt8} : w9 E .neq t c d (str a) (str b) = some (bv (!(a == b))) := by
 simp [w9, w5, B8, X0, C3]
theorem E6 {α : Type} {xs : List α} {i : Nat} (h : i < xs.length) : ∃ x, xs[i]? = some x /\ xs.drop i = x :: xs.drop (i + 1) := ⟨xs[i], by simp, List.drop_eq_getElem_cons h⟩
structure Ev where
 node : Int
 seq : Int
 path : List UInt8
 kind : Int
 mode : Int
 bytes : List UInt8
 past : List aWX
theorem aAB {α : Type} {f : α -> List PV} {n : Nat} (hf : ∀ x, (f x).length = n) {xs : List α} {i : Nat} {x : α} (h : xs[i]? = some x) {c w : Nat} {vs : List PV} (hc : c + w <= n) (hv : ((f x).drop c).take w = vs) : o9 true w (xs.flatMap f) (i * n + c) = some (.agg vs) := by
 have hi : i < xs.length := by
  rcases Nat.lt_or_ge i xs.length with h' | h'
  ·exact h'
  ·rw [List.getElem?_eq_none h'] at h; cases h
 have hle : i * n + n <= xs.length * n := by
  rw [<- Nat.succ_mul]; exact Nat.mul_le_mul_right _ hi
 have h1 : i * n + c + w <= (xs.flatMap f).length := by rw [bI hf]; omega
 rw [jM h1, <- hv]
 have := R6 hf xs i x h
 rw [<- this, List.drop_take, List.take_take, List.drop_drop, Nat.min_eq_left (by omega)]
theorem aLH (l : List UInt8) : (l.map A5).all p7 = true := by
 induction l with
 | nil => rfl
 | cons b l ih => simp [ih, A5, p7]
theorem aF8 : (∀ l, e9 (a8 l) = [a8 l]) /\ (∀ l, p7 (a8 l) = true) /\ (∀ l, e9 (pW l) = [pW l]) /\ (∀ l, p7 (pW l) = true) := ⟨fun _ => rfl, fun _ => rfl, fun _ => rfl, fun _ => rfl⟩
def F1 (c : UInt8) : Nat -> List UInt8 -> Option Nat
 | _, [] => none
 | i, b :: r => if b = c then some i else F1 c (i + 1) r
theorem sW (c : UInt8) : ∀ (l : List UInt8) (i : Nat), T1 c.toNat i l = F1 c i l
 | [], i => rfl
 | b :: r, i => by
  unfold T1 F1
  by_cases h : b = c
  ·subst h
   rw [if_pos rfl, show Nat.beq b.toNat b.toNat = true from Nat.beq_refl _]; rfl
  ·rw [if_neg h, sW c r]
   have : Nat.beq b.toNat c.toNat = false := by
    cases e : Nat.beq b.toNat c.toNat with
    | false => rfl
    | true => exact absurd (UInt8.toNat.inj (Nat.eq_of_beq_eq_true e)) h
   rw [this]; rfl
def vF : Option Nat -> Int
 | some i => i
 | none => -1
theorem pN {c : UInt8} : ∀ {l : List UInt8} {k i : Nat}, F1 c k l = some i -> k <= i /\ i < k + l.length /\ l[i - k]? = some c /\ l.take (i - k) = (l.take (i - k)).filter (· ≠ c)
 | [], k, i, h => by cases h
 | b :: r, k, i, h => by
  unfold F1 at h
  split at h
  ·rename_i hb
   cases h; subst hb
   refine ⟨Nat.le_refl _, by simp, by simp, by simp⟩
  ·rename_i hb
   obtain ⟨h1, h2, h3, h4⟩ := pN h
   have e : i - k = (i - (k + 1)) + 1 := by omega
   refine ⟨by omega, by simp; omega, by rw [e]; simpa using h3, ?_⟩
   rw [e, List.take_succ_cons, List.filter_cons_of_pos (by simpa using hb), <- h4]
theorem eD {l : List UInt8} : lN (str l) = some (iv (l.length : Nat)) := rfl
theorem aCE : lN (str []) = some (iv ((0 : Nat) : Int)) := rfl
theorem vL {c : UInt8} : lN (str [c]) = some (iv 1) := rfl
theorem V4 {l : List UInt8} {i : Nat} {k : IntKind} {b : UInt8} (h : l[i]? = some b) : Y5 (str l) (.v (.int k (i : Int))) = some (A5 b) := by
 unfold Y5
 rw [w7]
 show (match l[i]? with | some b => some (PV.v (.int .u8 b.toNat)) | none => none) = _
 rw [h]; rfl
theorem vQ {l : List UInt8} {i : Nat} {k : IntKind} (h : i <= l.length) : D4 (str l) none (some (.v (.int k (i : Int)))) = some (str (l.take i)) := by
 unfold D4
 simp only [Option.map_none, Option.map_some, w7]
 show (if i <= l.length then _ else none) = _
 rw [if_pos h]
theorem cC {l : List UInt8} {i : Nat} {k : IntKind} (h : i <= l.length) : D4 (str l) (some (.v (.int k (i : Int)))) none = some (str (l.drop i)) := by
 unfold D4
 simp only [Option.map_none, Option.map_some, w7]
 show (if i <= l.length then some (PV.v (.string ⟨((l.drop i).take (l.length - i)).toArray⟩)) else none) = _
 rw [if_pos h, List.take_of_length_le (by simp)]
def k8 : List UInt8 := [97, 98, 99, 100, 101, 102, 103, 104, 105, 106, 107, 108, 109, 110, 111, 112, 113, 114, 115, 116, 117, 118, 119, 120, 121, 122, 48, 49, 50, 51, 52, 53, 54, 55, 56, 57, 46, 95, 45]
def qV (b : UInt8) : Bool := k8.contains b
theorem nJ {c : UInt8} : ∀ {l : List UInt8} {k : Nat}, c ∈ l -> ∃ i, F1 c k l = some i
 | b :: r, k, h => by
  unfold F1
  by_cases hb : b = c
  ·exact ⟨k, by rw [if_pos hb]⟩
  ·rw [if_neg hb]
   rcases List.mem_cons.1 h with e | h
   ·exact absurd e.symm hb
   ·exact nJ h
theorem tX (b : UInt8) (h : qV b = true) : b.toNat < 128 := by
 have : b ∈ k8 := by simpa [qV] using h
 have hall : ∀ x ∈ k8, x.toNat < 128 := by decide
 exact hall b this
abbrev i64 : Sh := .int .i64
abbrev shB : List Sh := [.int .u8]
def inI (n : Int) : Prop := -9223372036854775808 <= n /\ n <= 9223372036854775807
theorem aVC {n : Int} (h1 : IntKind.i64.min <= n) (h2 : n <= IntKind.i64.max) : inI n := ⟨h1, h2⟩
theorem aR0 {d : DV} (h : zY i64 d) : ∃ n : Int, qL i64 d = iv n /\ inI n := by
 obtain ⟨n, h1, h2, h3⟩ := aD3 h
 exact ⟨n, h1, aVC h2 h3⟩
theorem aLB {ds : List DV} (h : Q9 shB ds) : ∃ b : UInt8, pvs shB ds = [A5 b] /\ True := by
 cases h with | cons h1 h =>
 cases h
 obtain ⟨n, h1, h2, h3⟩ := aD3 h1
 have h2' : 0 <= n := h2
 have h3' : n <= 255 := h3
 refine ⟨UInt8.ofNat n.toNat, ?_, trivial⟩
 simp only [pvs, h1, A5]
 have : ((UInt8.ofNat n.toNat).toNat : Int) = n := by
  rw [UInt8.toNat_ofNat']
  omega
 rw [this]
theorem aE4 {d : DV} (h : zY (.sl shB) d) : ∃ bs : List UInt8, qL (.sl shB) d = a8 bs /\ bs.length <= maxLen := by
 obtain ⟨xs, h1, h2, h3⟩ := aMP (l := shB) (enc := fun b => [A5 b]) (B := fun _ => True) (by decide) (fun ds h => aLB h) h
 refine ⟨xs, ?_, h2⟩
 rw [h1]
 unfold a8
 congr 1
 clear h1 h2 h3
 induction xs with
 | nil => rfl
 | cons x xs ih => simp only [List.flatMap_cons, List.map_cons, ih]; rfl
theorem aO9 {d : DV} (h : zY .str d) : ∃ s : List UInt8, qL .str d = str s /\ s.length <= maxLen := by
 obtain ⟨s, h1, h2⟩ := aOK h
 refine ⟨s.data.toList, ?_, ?_⟩
 ·rw [h1]
 ·rw [Array.length_toList]; exact h2
end Go.Proofs.YtnmidpahhhdlpaaGreatDoor