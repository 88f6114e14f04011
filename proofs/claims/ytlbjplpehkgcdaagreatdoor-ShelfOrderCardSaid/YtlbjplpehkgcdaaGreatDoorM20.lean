/- ShelfOrder holds. Part 20 of 32; no condition. -/
import Derived.Test.YtlbjplpehkgcdaaGreatDoorM19
import Derived.Maps.RangeRun
set_option linter.unusedVariables false
set_option linter.unusedSimpArgs false
set_option maxHeartbeats 4000000
set_option maxRecDepth 100000
namespace Go.Proofs.YtlbjplpehkgcdaaGreatDoor
open Go Go.Am Go.Pm
structure d6 where
 node : Int
 frm : Int
 to : Int
def c9 (s : d6) : List PV := [.v (.int .i64 s.node), .v (.int .i64 s.frm), .v (.int .i64 s.to)]
def d8 (xs : List d6) : PV := .lst .no 3 xs.length (xs.flatMap c9)
theorem V4 {α : Type} {f : α -> List PV} {n : Nat} (hf : ∀ x, (f x).length = n) : ∀ (xs : List α) (i : Nat) (x : α), xs[i]? = some x -> ((xs.flatMap f).drop (i * n)).take n = f x
 | [], i, x, h => by simp at h
 | y :: xs, 0, x, h => by
  simp at h; subst h
  rw [Nat.zero_mul, List.drop_zero, List.flatMap_cons, List.take_append_of_le_length (by rw [hf]; exact Nat.le_refl _), List.take_of_length_le (by rw [hf]; exact Nat.le_refl _)]
 | y :: xs, i + 1, x, h => by
  simp at h
  rw [List.flatMap_cons, List.drop_append, List.drop_of_length_le (by rw [hf, Nat.add_mul]; omega), List.nil_append, hf, Nat.add_mul, Nat.one_mul, Nat.add_sub_cancel]
  exact V4 hf xs i x h
theorem aD {α : Type} {f : α -> List PV} {n : Nat} (hf : ∀ x, (f x).length = n) (xs : List α) : (xs.flatMap f).length = xs.length * n := by
 induction xs with
 | nil => simp
 | cons y xs ih => simp [ih, hf, Nat.add_mul]; omega
theorem fW {α : Type} {f : α -> List PV} {n : Nat} (hf : ∀ x, (f x).length = n) {xs : List α} {i : Nat} {x : α} (h : xs[i]? = some x) : A3 true n (xs.flatMap f) (i * n) = some (.agg (f x)) := by
 have hi : i < xs.length := by
  rcases Nat.lt_or_ge i xs.length with h' | h'
  ·exact h'
  ·rw [List.getElem?_eq_none h'] at h; cases h
 have : i * n + n <= xs.length * n := by
  rw [<- Nat.succ_mul]; exact Nat.mul_le_mul_right _ hi
 simp only [A3, aD hf, if_pos this, V4 hf xs i x h]
theorem fM {α : Type} {f : α -> List PV} {n : Nat} (hf : ∀ x, (f x).length = n) {xs : List α} {i : Nat} {x : α} (h : xs[i]? = some x) {c : Nat} {v : PV} (hc : (f x)[c]? = some v) : (xs.flatMap f)[i * n + c]? = some v := by
 have hcn : c < n := by
  rcases Nat.lt_or_ge c n with h' | h'
  ·exact h'
  ·rw [List.getElem?_eq_none (by rw [hf]; exact h')] at hc; cases hc
 have := V4 hf xs i x h
 rw [<- this, List.getElem?_take_of_lt hcn, List.getElem?_drop] at hc
 exact hc
def cR (x : d6) : Bool := decide (x.node < 1) || decide (x.node > 200) || decide (x.frm < 1) || decide (x.frm > x.to) || decide (x.to > 2147483647)
def fI (p x : d6) : Bool := decide (x.node < p.node) || (x.node == p.node && decide (x.frm <= p.to + 1))
def aBE : Option d6 -> d6 -> Bool
 | none, _ => true
 | some p, x => !fI p x
def B8 : Option d6 -> List d6 -> Bool
 | _, [] => true
 | p, x :: r => !cR x && aBE p x && B8 (some x) r
def q9 (xs : List d6) : Bool := decide (xs.length <= 4000) && B8 none xs
def aB (b : Bool) : Int := if b then 0 else 2
abbrev iv (n : Int) : PV := .v (.int .i64 n)
abbrev bv (b : Bool) : PV := .v (.bool b)
def Q0 (b : UInt8) : PV := .v (.int .u8 b.toNat)
def n7 (l : List UInt8) : PV := .lst .no 1 l.length (l.map Q0)
def aF9 (n s : Int) : Bool := !(decide (n < 1) || decide (n > 200) || decide (s < 1) || decide (s > 2147483647))
def pS (k m : Int) (b : List UInt8) : Bool := !(decide (k < 1) || decide (k > 3)) && !(decide (m < 0) || decide (m > (if k = 3 then 0 else 511)) || decide ((b.length : Int) > (if k = 1 then 1000 else 0)))
abbrev str (l : List UInt8) : PV := .v (.string ⟨l.toArray⟩)
theorem F2 : ∀ a b : List UInt8, M4 a b = (a == b)
 | [], [] => rfl
 | [], _ :: _ => rfl
 | _ :: _, [] => rfl
 | x :: a, y :: b => by
  have h : Nat.beq x.toNat y.toNat = (x == y) := by
   cases e : (x == y) with
   | true => rw [beq_iff_eq] at e; subst e; exact Nat.beq_refl _
   | false =>
    cases e2 : Nat.beq x.toNat y.toNat with
    | false => rfl
    | true =>
     have := UInt8.toNat.inj (Nat.eq_of_beq_eq_true e2)
     subst this
     simp at e
  rw [M4, F2 a b, h]; rfl
theorem cD : ∀ l : List UInt8, V5 (l.map Q0) = some l
 | [] => rfl
 | b :: l => by
  simp only [List.map_cons, Q0, V5]
  have := cD l
  rw [show (List.map Q0 l) = List.map Q0 l from rfl, this]
  simp
theorem aIS {t : kV} {n : Nat} {l : List UInt8} : qY (.lst t 1 n (l.map Q0)) = some (str l) := by
 simp [qY, cD]
theorem S0 {E : i9} {t : Nat} {c d : Bool} {a b : List UInt8} : C0 E .eql t c d (str a) (str b) = some (bv (a == b)) := by
 simp [C0, D9, E0, gX, F2]
theorem jQ {E : i9} {t : Nat} {c d : Bool} {a b : List UInt8} : C0 E .neq t c d (str a) (str b) = some (bv (!(a == b))) := by
 simp [C0, D9, E0, gX, F2]
def eqS (e : Option Bool) (r : Option Bool) : Option Bool :=
 match e with
 | some true => r
 | some false => some false
 | none => none
theorem aAR {a b : Bool} : eqS (some a) (some b) = some (a && b) := by cases a <;> rfl
theorem K2 {α : Type} {xs : List α} {i : Nat} (h : i < xs.length) : ∃ x, xs[i]? = some x /\ xs.drop i = x :: xs.drop (i + 1) := ⟨xs[i], by simp, List.drop_eq_getElem_cons h⟩
def lO (x y : d6) : Bool := x.node == y.node && (x.frm == y.frm && x.to == y.to)
def I2 : List d6 -> List d6 -> Bool
 | [], [] => true
 | x :: a, y :: b => lO x y && I2 a b
 | _, _ => false
theorem mU : ∀ {a b : List d6}, I2 a b = true -> a.length = b.length
 | [], [], _ => rfl
 | x :: a, y :: b, h => by simp only [I2, Bool.and_eq_true] at h; simp [mU h.2]
structure Ev where
 node : Int
 seq : Int
 path : List UInt8
 kind : Int
 mode : Int
 bytes : List UInt8
 past : List d6
def b6 (e : Ev) : List PV := [iv e.node, iv e.seq, str e.path, iv e.kind, iv e.mode, n7 e.bytes, d8 e.past]
def l8 (e : Ev) : PV := .agg (b6 e)
def aX3 (a b : Ev) : Bool := (a.node == b.node && a.seq == b.seq) && a.path == b.path && (a.kind == b.kind && a.mode == b.mode && a.bytes == b.bytes) && I2 a.past b.past
def rP (e : Ev) : Bool := decide ((e.path.length : Int) > 100) || decide ((e.bytes.length : Int) > 1200) || decide ((e.past.length : Int) > 100)
def sW : Nat -> List Ev -> Bool
 | 0, _ => false
 | _, [] => false
 | n + 1, x :: r => rP x || sW n r
def V1 (m : Nat) (l : List Ev) : Bool := sW (m + 1) l || decide ((l.length : Int) > m)
def d4 (l : List Ev) : PV := .lst .no 7 l.length (l.flatMap b6)
theorem aKT {α : Type} {f : α -> List PV} {n : Nat} (hf : ∀ x, (f x).length = n) {xs : List α} {i : Nat} {x : α} (h : xs[i]? = some x) {c w : Nat} {vs : List PV} (hc : c + w <= n) (hv : ((f x).drop c).take w = vs) : A3 true w (xs.flatMap f) (i * n + c) = some (.agg vs) := by
 have hi : i < xs.length := by
  rcases Nat.lt_or_ge i xs.length with h' | h'
  ·exact h'
  ·rw [List.getElem?_eq_none h'] at h; cases h
 have hle : i * n + n <= xs.length * n := by
  rw [<- Nat.succ_mul]; exact Nat.mul_le_mul_right _ hi
 have h1 : i * n + c + w <= (xs.flatMap f).length := by rw [aD hf]; omega
 rw [lD h1, <- hv]
 have := V4 hf xs i x h
 rw [<- this, List.drop_take, List.take_take, List.drop_drop, Nat.min_eq_left (by omega)]
theorem x7 {l : List Ev} {i : Nat} {x : Ev} (h : l[i]? = some x) : A3 true 7 (l.flatMap b6) (i * 7) = some (l8 x) := fW (f := b6) (fun _ => rfl) h
theorem aN6 (l : List UInt8) : (l.map Q0).all w9 = true := by
 induction l with
 | nil => rfl
 | cons b l ih => simp [ih, Q0, w9]
theorem uK (l : List d6) : (l.flatMap c9).all w9 = true := by
 induction l with
 | nil => rfl
 | cons b l ih => rw [List.flatMap_cons, List.all_append, ih]; rfl
theorem vK : (∀ l, k9 (n7 l) = [n7 l]) /\ (∀ l, w9 (n7 l) = true) /\ (∀ l, k9 (d8 l) = [d8 l]) /\ (∀ l, w9 (d8 l) = true) := ⟨fun _ => rfl, fun _ => rfl, fun _ => rfl, fun _ => rfl⟩
def I3 (c : UInt8) : Nat -> List UInt8 -> Option Nat
 | _, [] => none
 | i, b :: r => if b = c then some i else I3 c (i + 1) r
theorem vJ (c : UInt8) : ∀ (l : List UInt8) (i : Nat), W9 c.toNat i l = I3 c i l
 | [], i => rfl
 | b :: r, i => by
  unfold W9 I3
  by_cases h : b = c
  ·subst h
   rw [if_pos rfl, show Nat.beq b.toNat b.toNat = true from Nat.beq_refl _]; rfl
  ·rw [if_neg h, vJ c r]
   have : Nat.beq b.toNat c.toNat = false := by
    cases e : Nat.beq b.toNat c.toNat with
    | false => rfl
    | true => exact absurd (UInt8.toNat.inj (Nat.eq_of_beq_eq_true e)) h
   rw [this]; rfl
def yW : Option Nat -> Int
 | some i => i
 | none => -1
theorem yO {c : UInt8} : ∀ {l : List UInt8} {k i : Nat}, I3 c k l = some i -> k <= i /\ i < k + l.length /\ l[i - k]? = some c /\ l.take (i - k) = (l.take (i - k)).filter (· ≠ c)
 | [], k, i, h => by cases h
 | b :: r, k, i, h => by
  unfold I3 at h
  split at h
  ·rename_i hb
   cases h; subst hb
   refine ⟨Nat.le_refl _, by simp, by simp, by simp⟩
  ·rename_i hb
   obtain ⟨h1, h2, h3, h4⟩ := yO h
   have e : i - k = (i - (k + 1)) + 1 := by omega
   refine ⟨by omega, by simp; omega, by rw [e]; simpa using h3, ?_⟩
   rw [e, List.take_succ_cons, List.filter_cons_of_pos (by simpa using hb), <- h4]
theorem jX {l : List UInt8} : nN (str l) = some (iv (l.length : Nat)) := rfl
theorem aDX : nN (str []) = some (iv ((0 : Nat) : Int)) := rfl
theorem aQ8 {c : UInt8} : nN (str [c]) = some (iv 1) := rfl
theorem oO {l : List UInt8} {i : Nat} {k : IntKind} {b : UInt8} (h : l[i]? = some b) : gE (str l) (.v (.int k (i : Int))) = some (Q0 b) := by
 unfold gE
 rw [H6]
 show (match l[i]? with | some b => some (PV.v (.int .u8 b.toNat)) | none => none) = _
 rw [h]; rfl
theorem aKX {l : List UInt8} {i : Nat} {k : IntKind} (h : i <= l.length) : U1 (str l) none (some (.v (.int k (i : Int)))) = some (str (l.take i)) := by
 unfold U1
 simp only [Option.map_none, Option.map_some, H6]
 show (if i <= l.length then _ else none) = _
 rw [if_pos h]
theorem aBK {l : List UInt8} {i : Nat} {k : IntKind} (h : i <= l.length) : U1 (str l) (some (.v (.int k (i : Int)))) none = some (str (l.drop i)) := by
 unfold U1
 simp only [Option.map_none, Option.map_some, H6]
 show (if i <= l.length then some (PV.v (.string ⟨((l.drop i).take (l.length - i)).toArray⟩)) else none) = _
 rw [if_pos h, List.take_of_length_le (by simp)]
def o4 : List UInt8 := [97, 98, 99, 100, 101, 102, 103, 104, 105, 106, 107, 108, 109, 110, 111, 112, 113, 114, 115, 116, 117, 118, 119, 120, 121, 122, 48, 49, 50, 51, 52, 53, 54, 55, 56, 57, 46, 95, 45]
def isL (b : UInt8) : Bool := o4.contains b
theorem rV {c : UInt8} : ∀ {l : List UInt8} {k : Nat}, c ∈ l -> ∃ i, I3 c k l = some i
 | b :: r, k, h => by
  unfold I3
  by_cases hb : b = c
  ·exact ⟨k, by rw [if_pos hb]⟩
  ·rw [if_neg hb]
   rcases List.mem_cons.1 h with e | h
   ·exact absurd e.symm hb
   ·exact rV h
theorem uN (b : UInt8) (h : isL b = true) : b.toNat < 128 := by
 have : b ∈ o4 := by simpa [isL] using h
 have hall : ∀ x ∈ o4, x.toNat < 128 := by decide
 exact hall b this
abbrev i64 : Sh := .int .i64
abbrev lT : List Sh := [i64, i64, i64]
abbrev shB : List Sh := [.int .u8]
abbrev aDA : List Sh := [i64, i64, .str, i64, i64, .sl shB, .sl lT]
def inI (n : Int) : Prop := -9223372036854775808 <= n /\ n <= 9223372036854775807
theorem aYI {n : Int} (h1 : IntKind.i64.min <= n) (h2 : n <= IntKind.i64.max) : inI n := ⟨h1, h2⟩
def aIW (x : d6) : Prop := inI x.node /\ inI x.frm /\ inI x.to
theorem rB {d : DV} (h : vL i64 d) : ∃ n : Int, mW i64 d = iv n /\ inI n := by
 obtain ⟨n, h1, h2, h3⟩ := oX h
 exact ⟨n, h1, aYI h2 h3⟩
theorem aLO {ds : List DV} (h : R3 lT ds) : ∃ x : d6, yM lT ds = c9 x /\ aIW x := by
 cases h with | cons h1 h =>
 cases h with | cons h2 h =>
 cases h with | cons h3 h =>
 cases h
 obtain ⟨a, a1, a2⟩ := rB h1
 obtain ⟨b, b1, b2⟩ := rB h2
 obtain ⟨c, c1, c2⟩ := rB h3
 exact ⟨⟨a, b, c⟩, by simp only [yM, a1, b1, c1]; rfl, a2, b2, c2⟩
theorem aIY {ds : List DV} (h : R3 shB ds) : ∃ b : UInt8, yM shB ds = [Q0 b] /\ True := by
 cases h with | cons h1 h =>
 cases h
 obtain ⟨n, h1, h2, h3⟩ := oX h1
 have h2' : 0 <= n := h2
 have h3' : n <= 255 := h3
 refine ⟨UInt8.ofNat n.toNat, ?_, trivial⟩
 simp only [yM, h1, Q0]
 have : ((UInt8.ofNat n.toNat).toNat : Int) = n := by
  rw [UInt8.toNat_ofNat']
  omega
 rw [this]
theorem aIU {d : DV} (h : vL (.sl shB) d) : ∃ bs : List UInt8, mW (.sl shB) d = n7 bs /\ bs.length <= maxLen := by
 obtain ⟨xs, h1, h2, h3⟩ := qF (l := shB) (enc := fun b => [Q0 b]) (B := fun _ => True) (by decide) (fun ds h => aIY h) h
 refine ⟨xs, ?_, h2⟩
 rw [h1]
 unfold n7
 congr 1
 clear h1 h2 h3
 induction xs with
 | nil => rfl
 | cons x xs ih => simp only [List.flatMap_cons, List.map_cons, ih]; rfl
theorem aIE {d : DV} (h : vL (.sl lT) d) : ∃ xs : List d6, mW (.sl lT) d = d8 xs /\ xs.length <= maxLen /\ ∀ x ∈ xs, aIW x := by
 obtain ⟨xs, h1, h2, h3⟩ := qF (l := lT) (by decide) (fun ds h => aLO h) h
 exact ⟨xs, h1, h2, h3⟩
theorem aRT {d : DV} (h : vL .str d) : ∃ s : List UInt8, mW .str d = str s /\ s.length <= maxLen := by
 obtain ⟨s, h1, h2⟩ := aPO h
 refine ⟨s.data.toList, ?_, ?_⟩
 ·rw [h1]
 ·rw [Array.length_toList]; exact h2
structure evB (e : Ev) : Prop where
 node : inI e.node
 seq : inI e.seq
 path : e.path.length <= maxLen
 kind : inI e.kind
 mode : inI e.mode
 bytes : e.bytes.length <= maxLen
 past : e.past.length <= maxLen
 spans : ∀ x ∈ e.past, aIW x
theorem aVK {ds : List DV} (h : R3 aDA ds) : ∃ e : Ev, yM aDA ds = b6 e /\ evB e := by
 cases h with | cons h1 h =>
 cases h with | cons h2 h =>
 cases h with | cons h3 h =>
 cases h with | cons h4 h =>
 cases h with | cons h5 h =>
 cases h with | cons h6 h =>
 cases h with | cons h7 h =>
 cases h
 obtain ⟨a, a1, a2⟩ := rB h1
 obtain ⟨b, b1, b2⟩ := rB h2
 obtain ⟨c, c1, c2⟩ := aRT h3
 obtain ⟨d, d1, d2⟩ := rB h4
 obtain ⟨e, e1, e2⟩ := rB h5
 obtain ⟨f, f1, f2⟩ := aIU h6
 obtain ⟨g, g1, g2, g3⟩ := aIE h7
 exact ⟨⟨a, b, c, d, e, f, g⟩, by simp only [yM, a1, b1, c1, d1, e1, f1, g1]; rfl, ⟨a2, b2, c2, d2, e2, f2, g2, g3⟩⟩
end Go.Proofs.YtlbjplpehkgcdaaGreatDoor
namespace Go.Proofs.YtlbjplpehkgcdaaGreatDoor
open Go Go.Am Go.Pm
def gJ (x : d6) (n s : Int) : Bool := x.node == n && (decide (x.frm <= s) && decide (s <= x.to))
def F7 (l : List d6) (n s : Int) : Bool := l.any fun x => gJ x n s
def M8 (x : d6) : Prop := 1 <= x.node /\ x.node <= 200 /\ 1 <= x.frm /\ x.frm <= x.to /\ x.to <= 2147483647
def gap (x y : d6) : Prop := x.node < y.node \/ (x.node = y.node /\ x.to + 1 < y.frm)
def aAE (x : d6) : List d6 -> Prop
 | [] => True
 | y :: _ => gap x y
def Y3 : List d6 -> Prop
 | [] => True
 | x :: r => M8 x /\ aAE x r /\ Y3 r
def Aft (n t : Int) (l : List d6) : Prop := ∀ x ∈ l, n < x.node \/ (n = x.node /\ t < x.frm)
theorem sB {x : d6} : cR x = false ↔ M8 x := by
 simp only [cR, M8, Bool.or_eq_false_iff, decide_eq_false_iff_not]
 omega
theorem zX {p x : d6} : fI p x = false ↔ gap p x := by
 simp only [fI, gap, Bool.or_eq_false_iff, decide_eq_false_iff_not, Bool.and_eq_false_iff, beq_eq_false_iff_ne, ne_eq]
 omega
theorem nC : ∀ {l : List d6} {p : d6}, B8 (some p) l = true ↔ aAE p l /\ Y3 l
 | [], p => by simp [B8, aAE, Y3]
 | x :: r, p => by
  have ih := nC (l := r) (p := x)
  simp only [B8, aBE, Bool.and_eq_true, Bool.not_eq_true', aAE, Y3, ih, sB, zX]
  constructor
  ·rintro ⟨⟨h1, h2⟩, h3, h4⟩; exact ⟨h2, h1, h3, h4⟩
  ·rintro ⟨h2, h1, h3, h4⟩; exact ⟨⟨h1, h2⟩, h3, h4⟩
theorem aNO {l : List d6} : B8 none l = true ↔ Y3 l := by
 cases l with
 | nil => simp [B8, Y3]
 | cons x r => simp only [B8, aBE, Bool.and_eq_true, Bool.not_eq_true', Bool.and_true, Y3, nC, sB]
theorem H2 {l : List d6} : q9 l = true ↔ l.length <= 4000 /\ Y3 l := by
 simp only [q9, Bool.and_eq_true, decide_eq_true_eq, aNO]
theorem Y3.aft : ∀ {r : List d6} {x : d6}, aAE x r -> Y3 r -> M8 x -> Aft x.node (x.to + 1) r
 | [], x, _, _, _ => fun y hy => by cases hy
 | y :: r, x, h1, h2, hx => fun z hz => by
  have h1' : gap x y := h1
  obtain ⟨hy, h3, h4⟩ := h2
  rcases List.mem_cons.1 hz with rfl | hz
  ·exact h1'
  ·have := Y3.aft h3 h4 hy z hz
   unfold gap at h1'
   unfold M8 at hy hx
   omega
theorem pG (n s : Int) : F7 [] n s = false := rfl
theorem Q5 (x : d6) (l : List d6) (n s : Int) : F7 (x :: l) n s = (gJ x n s || F7 l n s) := rfl
theorem L6 {x : d6} {n s : Int} : gJ x n s = true ↔ x.node = n /\ x.frm <= s /\ s <= x.to := by
 simp [gJ]
theorem aA3 {l : List d6} {n s : Int} : F7 l n s = true ↔ ∃ x ∈ l, x.node = n /\ x.frm <= s /\ s <= x.to := by
 simp only [F7, List.any_eq_true, L6]
theorem Aft.out {n t : Int} {l : List d6} (h : Aft n t l) {m s : Int} (hs : m < n \/ (m = n /\ s <= t)) : F7 l m s = false := by
 cases hq : F7 l m s with
 | false => rfl
 | true =>
  obtain ⟨x, hx, h1, h2, h3⟩ := aA3.1 hq
  have := h x hx
  omega
def dH (l : List d6) (n : Int) : d6 × Bool :=
 match l with
 | [] => (⟨0, 0, 0⟩, false)
 | x :: _ => if x.node = n then (x, true) else (⟨0, 0, 0⟩, false)
def J0 (a b : List d6) : Int :=
 match a, b with
 | [], [] => 0
 | [], y :: _ => y.node
 | x :: _, [] => x.node
 | x :: _, y :: _ => min x.node y.node
def xK (x y : d6 × Bool) : Int := if x.2 && y.2 then min x.1.frm y.1.frm else max x.1.frm y.1.frm
def xR (x : d6 × Bool) (f : Int) : Bool := x.2 && x.1.frm == f
def jA (t : Int) (x : d6 × Bool) (i : Bool) : Int := if i then min t x.1.to else if x.2 then min t (x.1.frm - 1) else t
def cP (l : List d6) (t : Int) : List d6 :=
 match l with
 | [] => []
 | x :: r => if x.to = t then r else ⟨x.node, t + 1, x.to⟩ :: r
structure Stp where
 x : d6
 ia : Bool
 ib : Bool
def m8 (a b : List d6) : Stp :=
 let n := J0 a b
 let x := dH a n
 let y := dH b n
 let f := xK x y
 ⟨⟨n, f, jA (jA 2147483647 x (xR x f)) y (xR y f)⟩, xR x f, xR y f⟩
def I8 (l : List d6) (i : Bool) (t : Int) : List d6 := if i then cP l t else l
inductive Sd (n f t : Int) : Bool -> List d6 -> List d6 -> Prop where
 | off {l : List d6} (h : Aft n t l) : Sd n f t false l l
 | gone {z : d6} {r : List d6} (h1 : z.node = n) (h2 : z.frm = f) (h3 : z.to = t) : Sd n f t true (z :: r) r
 | cut {z : d6} {r : List d6} (h1 : z.node = n) (h2 : z.frm = f) (h3 : t < z.to) : Sd n f t true (z :: r) (⟨z.node, t + 1, z.to⟩ :: r)
def jB (l : List d6) : Nat := (l.map fun x => (x.to - x.frm + 1).toNat).sum
theorem Sd.ok {n f t : Int} {i : Bool} {l l' : List d6} (h : Sd n f t i l l') (hf : 1 <= f /\ f <= t) (hl : Y3 l) : Y3 l' /\ Aft n t l' /\ jB l' + (if i then 1 else 0) <= jB l /\ ∀ m s, F7 l m s = ((i && gJ ⟨n, f, t⟩ m s) || F7 l' m s) := by
 cases h with
 | off h => exact ⟨hl, h, by simp, fun m s => by simp⟩
 | @gone z _ h1 h2 h3 =>
  obtain ⟨hz, hg, hr⟩ := hl
  have ha := Y3.aft hg hr hz
  unfold M8 at hz
  refine ⟨hr, fun y hy => by have := ha y hy; omega, ?_, fun m s => ?_⟩
  ·simp only [jB, List.map_cons, List.sum_cons, if_true]; omega
  ·rw [Q5]
   have : z = ⟨n, f, t⟩ := by cases z; simp only [d6.mk.injEq]; exact ⟨h1, h2, h3⟩
   rw [this]; simp
 | @cut z r h1 h2 h3 =>
  obtain ⟨hz, hg, hr⟩ := hl
  have ha := Y3.aft hg hr hz
  unfold M8 at hz
  refine ⟨⟨?_, ?_, hr⟩, fun y hy => ?_, ?_, fun m s => ?_⟩
  ·unfold M8; dsimp only; omega
  ·cases r with
   | nil => trivial
   | cons y r => exact hg
  ·rcases List.mem_cons.1 hy with rfl | hy
   ·dsimp only; omega
   ·have := ha y hy; omega
  ·simp only [jB, List.map_cons, List.sum_cons, if_true]; omega
  ·rw [Q5, Q5, Bool.true_and, <- Bool.or_assoc]
   congr 1
   rw [Bool.eq_iff_iff, Bool.or_eq_true, L6, L6, L6]
   dsimp only
   omega
theorem O2 {n f t : Int} {z : d6} {r : List d6} (h1 : z.node = n) (h2 : z.frm = f) (h3 : t <= z.to) : Sd n f t true (z :: r) (I8 (z :: r) true t) := by
 unfold I8 cP
 by_cases h : z.to = t
 ·simp only [if_true, if_pos h]; exact .gone h1 h2 h
 ·simp only [if_true, if_neg h]; exact .cut h1 h2 (by omega)
theorem kM {x : d6} {r : List d6} {n t : Int} (h : Y3 (x :: r)) (hx : n < x.node \/ (n = x.node /\ t < x.frm)) : Aft n t (x :: r) := fun y hy => by
 obtain ⟨hz, hg, hr⟩ := h
 rcases List.mem_cons.1 hy with rfl | hy
 ·exact hx
 ·have := Y3.aft hg hr hz y hy
  unfold M8 at hz
  omega
theorem jZ {a b : List d6} (ha : Y3 a) (hb : Y3 b) (hne : a ≠ [] \/ b ≠ []) : M8 (m8 a b).x /\ ((m8 a b).ia || (m8 a b).ib) = true ∧
  Sd (m8 a b).x.node (m8 a b).x.frm (m8 a b).x.to (m8 a b).ia a (I8 a (m8 a b).ia (m8 a b).x.to) /\ Sd (m8 a b).x.node (m8 a b).x.frm (m8 a b).x.to (m8 a b).ib b (I8 b (m8 a b).ib (m8 a b).x.to) ∧
  ((m8 a b).ia = true -> (m8 a b).ib = true -> (∃ z r, a = z :: r /\ z.to = (m8 a b).x.to) \/ ∃ z r, b = z :: r /\ z.to = (m8 a b).x.to) := by
 cases a with
 | nil =>
  cases b with
  | nil => simp at hne
  | cons y s =>
   have hy := hb.1
   unfold M8 at hy
   have e1 : m8 [] (y :: s) = ⟨y, false, true⟩ := by
    simp only [m8, J0, dH, xK, xR, jA, if_true, Bool.false_and, Bool.false_eq_true, if_false]
    have : max (0 : Int) y.frm = y.frm := by omega
    rw [this]
    simp only [beq_self_eq_true, Bool.and_true, if_true]
    have : min (2147483647 : Int) y.to = y.to := by omega
    rw [this]
   rw [e1]
   refine ⟨hb.1, rfl, .off (fun x hx => by cases hx), O2 rfl rfl (Int.le_refl _), fun h => by cases h⟩
 | cons x r =>
  have hx := ha.1
  unfold M8 at hx
  cases b with
  | nil =>
   have e1 : m8 (x :: r) [] = ⟨x, true, false⟩ := by
    simp only [m8, J0, dH, xK, xR, jA, if_true, Bool.and_false, Bool.false_eq_true, if_false]
    have : max x.frm (0 : Int) = x.frm := by omega
    rw [this]
    simp only [beq_self_eq_true, Bool.and_true, if_true, Bool.false_and, Bool.false_eq_true, if_false]
    have : min (2147483647 : Int) x.to = x.to := by omega
    rw [this]
   rw [e1]
   refine ⟨ha.1, rfl, O2 rfl rfl (Int.le_refl _), .off (fun x hx => by cases hx), fun _ h => by cases h⟩
  | cons y s =>
   have hy := hb.1
   unfold M8 at hy
   rcases Int.lt_trichotomy x.node y.node with hlt | heq | hgt
   ·have e1 : m8 (x :: r) (y :: s) = ⟨x, true, false⟩ := by
     have hm : min x.node y.node = x.node := by omega
     have hn : ¬ (y.node = x.node) := by omega
     simp only [m8, J0, hm, dH, if_true, if_neg hn, xK, xR, jA, Bool.and_false, Bool.false_eq_true, if_false]
     have : max x.frm (0 : Int) = x.frm := by omega
     rw [this]
     simp only [beq_self_eq_true, Bool.and_true, if_true, Bool.false_and, Bool.false_eq_true, if_false]
     have : min (2147483647 : Int) x.to = x.to := by omega
     rw [this]
    rw [e1]
    exact ⟨ha.1, rfl, O2 rfl rfl (Int.le_refl _), .off (kM hb (.inl hlt)), fun _ h => by cases h⟩
   ·have hm : min x.node y.node = x.node := by omega
    have e1 : m8 (x :: r) (y :: s) = ⟨⟨x.node, min x.frm y.frm, jA (jA 2147483647 (x, true) (x.frm == min x.frm y.frm)) (y, true) (y.frm == min x.frm y.frm)⟩, x.frm == min x.frm y.frm, y.frm == min x.frm y.frm⟩ := by
     simp only [m8, J0, hm, dH, if_true, if_pos heq.symm, xK, xR, Bool.and_true, Bool.true_and]
    rw [e1]
    rcases Int.lt_trichotomy x.frm y.frm with h1 | h1 | h1
    ·have f1 : min x.frm y.frm = x.frm := by omega
     have f2 : (y.frm == x.frm) = false := by simp; omega
     have f3 : jA (jA 2147483647 (x, true) true) (y, true) false = min x.to (y.frm - 1) := by
      simp only [jA, if_true, Bool.false_eq_true, if_false]; omega
     rw [f1, f2, beq_self_eq_true, f3]
     refine ⟨?_, rfl, O2 rfl rfl (by dsimp only; omega), .off (kM hb (.inr ⟨heq, by dsimp only; omega⟩)), fun _ h => by cases h⟩
     unfold M8; dsimp only; omega
    ·have f1 : min x.frm y.frm = x.frm := by omega
     have f2 : (y.frm == x.frm) = true := by simp; omega
     have f3 : jA (jA 2147483647 (x, true) true) (y, true) true = min x.to y.to := by
      simp only [jA, if_true]; omega
     rw [f1, f2, beq_self_eq_true, f3]
     refine ⟨?_, rfl, O2 rfl rfl (by dsimp only; omega), O2 heq.symm h1.symm (by dsimp only; omega), fun _ _ => ?_⟩
     ·unfold M8; dsimp only; omega
     ·dsimp only
      rcases Int.le_total x.to y.to with h | h
      ·exact .inl ⟨x, r, rfl, by omega⟩
      ·exact .inr ⟨y, s, rfl, by omega⟩
    ·have f1 : min x.frm y.frm = y.frm := by omega
     have f2 : (x.frm == y.frm) = false := by simp; omega
     have f3 : jA (jA 2147483647 (x, true) false) (y, true) true = min (x.frm - 1) y.to := by
      simp only [jA, if_true, Bool.false_eq_true, if_false]; omega
     rw [f1, f2, beq_self_eq_true, f3]
     refine ⟨?_, rfl, .off (kM ha (.inr ⟨rfl, by dsimp only; omega⟩)), O2 heq.symm rfl (by dsimp only; omega), fun h => by cases h⟩
     unfold M8; dsimp only; omega
   ·have e1 : m8 (x :: r) (y :: s) = ⟨y, false, true⟩ := by
     have hm : min x.node y.node = y.node := by omega
     have hn : ¬ (x.node = y.node) := by omega
     simp only [m8, J0, hm, dH, if_true, if_neg hn, xK, xR, jA, Bool.false_and, Bool.false_eq_true, if_false]
     have : max (0 : Int) y.frm = y.frm := by omega
     rw [this]
     simp only [beq_self_eq_true, Bool.and_true, if_true]
     have : min (2147483647 : Int) y.to = y.to := by omega
     rw [this]
    rw [e1]
    exact ⟨hb.1, rfl, .off (kM ha (.inl hgt)), O2 rfl rfl (Int.le_refl _), fun h => by cases h⟩
end Go.Proofs.YtlbjplpehkgcdaaGreatDoor
namespace Go.Proofs.YtlbjplpehkgcdaaGreatDoor
open Go Go.Am Go.Pm
def M6 (ro : List d6) (x : d6) : List d6 :=
 match ro with
 | [] => [x]
 | p :: r => if p.node = x.node /\ p.to + 1 = x.frm then ⟨p.node, p.frm, x.to⟩ :: r else x :: p :: r
def OkR : List d6 -> Prop
 | [] => True
 | x :: r => M8 x /\ (match r with | [] => True | y :: _ => gap y x) /\ OkR r
def aHI (ro : List d6) (x : d6) : Prop :=
 match ro with
 | [] => True
 | p :: _ => p.node < x.node \/ (p.node = x.node /\ p.to < x.frm)
def aZ (ro l : List d6) : Prop :=
 match ro with
 | [] => True
 | p :: _ => Aft p.node p.to l
theorem wD {ro : List d6} {x : d6} (h : OkR ro) (hx : M8 x) (hb : aHI ro x) : OkR (M6 ro x) /\ (∀ n s, F7 (M6 ro x) n s = (F7 ro n s || gJ x n s)) /\ ∃ p r, M6 ro x = p :: r /\ p.node = x.node /\ p.to = x.to := by
 cases ro with
 | nil => exact ⟨⟨hx, trivial, trivial⟩, fun n s => by simp [M6, F7], x, [], rfl, rfl, rfl⟩
 | cons p r =>
  obtain ⟨hp, hg, hr⟩ := h
  have hb' : p.node < x.node \/ (p.node = x.node /\ p.to < x.frm) := hb
  unfold M6
  dsimp only
  by_cases hc : p.node = x.node /\ p.to + 1 = x.frm
  ·rw [if_pos hc]
   unfold M8 at hp hx
   refine ⟨⟨?_, ?_, hr⟩, fun n s => ?_, _, _, rfl, hc.1, rfl⟩
   ·unfold M8; dsimp only; omega
   ·cases r with
    | nil => trivial
    | cons q r => exact hg
   ·rw [Q5, Q5]
    have : gJ ⟨p.node, p.frm, x.to⟩ n s = (gJ p n s || gJ x n s) := by
     rw [Bool.eq_iff_iff, Bool.or_eq_true, L6, L6, L6]
     dsimp only
     omega
    rw [this, Bool.or_assoc, Bool.or_assoc, Bool.or_comm (gJ x n s)]
  ·rw [if_neg hc]
   refine ⟨⟨hx, ?_, hp, hg, hr⟩, fun n s => ?_, x, _, rfl, rfl, rfl⟩
   ·show gap p x
    unfold gap
    unfold M8 at hp hx
    omega
   ·rw [Q5, Bool.or_comm]
def L1 (keep : Bool -> Bool -> Bool) : Nat -> List d6 -> List d6 -> List d6 -> List d6
 | 0, _, _, ro => ro
 | k + 1, a, b, ro =>
  if a.length + b.length = 0 then ro else
   let s := m8 a b
   L1 keep k (I8 a s.ia s.x.to) (I8 b s.ib s.x.to) (if keep s.ia s.ib then M6 ro s.x else ro)
theorem Q8 {ro l l' : List d6} {n f t : Int} {i : Bool} (h : aZ ro l) (hft : f <= t) (hs : Sd n f t i l l') : aZ ro l' := by
 cases ro with
 | nil => trivial
 | cons p r =>
  have h' : Aft p.node p.to l := h
  show Aft p.node p.to l'
  cases hs with
  | off _ => exact h'
  | gone h1 h2 h3 => exact fun y hy => h' y (List.mem_cons_of_mem _ hy)
  | @cut z r' h1 h2 h3 =>
   intro y hy
   rcases List.mem_cons.1 hy with rfl | hy
   ·have := h' z List.mem_cons_self
    dsimp only
    omega
   ·exact h' y (List.mem_cons_of_mem _ hy)
theorem jP {ro l l' : List d6} {x : d6} (h : aZ ro l) (hs : Sd x.node x.frm x.to true l l') : aHI ro x := by
 cases ro with
 | nil => trivial
 | cons p r =>
  have h' : Aft p.node p.to l := h
  cases hs with
  | @gone z _ h1 h2 h3 => have := h' z List.mem_cons_self; show _ \/ _; omega
  | @cut z _ h1 h2 h3 => have := h' z List.mem_cons_self; show _ \/ _; omega
theorem aV {ro l : List d6} {x : d6} {p : d6} {r : List d6} (h : M6 ro x = p :: r) (h1 : p.node = x.node) (h2 : p.to = x.to) (ha : Aft x.node x.to l) : aZ (M6 ro x) l := by
 rw [h]
 show Aft p.node p.to l
 rw [h1, h2]; exact ha
theorem uY (keep : Bool -> Bool -> Bool) (hk : keep false false = false) : ∀ (k : Nat) (a b ro : List d6), OkR ro -> aZ ro a -> aZ ro b -> Y3 a -> Y3 b -> jB a + jB b < k →
  OkR (L1 keep k a b ro) /\ ∀ n s, F7 (L1 keep k a b ro) n s = (F7 ro n s || keep (F7 a n s) (F7 b n s))
 | 0, a, b, ro, _, _, _, _, _, h => absurd h (Nat.not_lt_zero _)
 | k + 1, a, b, ro, hro, hba, hbb, ha, hb, h => by
  unfold L1
  by_cases h0 : a.length + b.length = 0
  ·rw [if_pos h0]
   have e1 : a = [] := List.length_eq_zero_iff.1 (by omega)
   have e2 : b = [] := List.length_eq_zero_iff.1 (by omega)
   subst e1 e2
   exact ⟨hro, fun n s => by simp [pG, hk]⟩
  ·rw [if_neg h0]
   have hne : a ≠ [] \/ b ≠ [] := by
    cases a with
    | nil => cases b with
     | nil => simp at h0
     | cons y s => exact .inr (by simp)
    | cons x r => exact .inl (by simp)
   obtain ⟨hx, hor, sa, sb, _⟩ := jZ ha hb hne
   dsimp only
   generalize m8 a b = q at hx hor sa sb
   obtain ⟨x, ia, ib⟩ := q
   dsimp only at hx hor sa sb ⊢
   have hx' := hx
   unfold M8 at hx'
   obtain ⟨ka1, ka2, ka3, ka4⟩ := sa.ok (by omega) ha
   obtain ⟨kb1, kb2, kb3, kb4⟩ := sb.ok (by omega) hb
   generalize I8 a ia x.to = a' at *
   generalize I8 b ib x.to = b' at *
   have hlt : jB a' + jB b' < k := by
    cases ia <;> cases ib <;> simp at hor ka3 kb3 <;> omega
   have hbx : aHI ro x := by
    cases ia with
    | true => exact jP hba sa
    | false => cases ib with
     | true => exact jP hbb sb
     | false => cases hor
   obtain ⟨q1, q2, p, r, q3, q4, q5⟩ := wD hro hx hbx
   have key : ∀ n s, (F7 (if keep ia ib then M6 ro x else ro) n s || keep (F7 a' n s) (F7 b' n s)) = (F7 ro n s || keep (F7 a n s) (F7 b n s)) := fun n s => by
    rw [ka4 n s, kb4 n s]
    have hxx : (⟨x.node, x.frm, x.to⟩ : d6) = x := rfl
    rw [hxx]
    cases hin : gJ x n s with
    | true =>
     rw [L6] at hin
     rw [ka2.out (m := n) (s := s) (by omega), kb2.out (m := n) (s := s) (by omega), hk, Bool.and_true, Bool.and_true, Bool.or_false, Bool.or_false, Bool.or_false]
     cases hkk : keep ia ib with
     | true => rw [if_pos rfl, q2 n s, L6.2 hin]
     | false => rw [if_neg (by decide), Bool.or_false]
    | false =>
     rw [Bool.and_false, Bool.and_false, Bool.false_or, Bool.false_or]
     congr 1
     cases hkk : keep ia ib with
     | true => rw [if_pos rfl, q2 n s, hin, Bool.or_false]
     | false => rw [if_neg (by decide)]
   have hro' : OkR (if keep ia ib then M6 ro x else ro) /\ aZ (if keep ia ib then M6 ro x else ro) a' /\ aZ (if keep ia ib then M6 ro x else ro) b' := by
    cases hkk : keep ia ib with
    | true => rw [if_pos rfl]; exact ⟨q1, aV q3 q4 q5 ka2, aV q3 q4 q5 kb2⟩
    | false => rw [if_neg (by decide)]; exact ⟨hro, Q8 hba (by omega) sa, Q8 hbb (by omega) sb⟩
   obtain ⟨r1, r2⟩ := uY keep hk k a' b' _ hro'.1 hro'.2.1 hro'.2.2 ka1 kb1 hlt
   exact ⟨r1, fun n s => by rw [r2 n s, key n s]⟩
def dM (ro l : List d6) : Nat :=
 match ro, l with
 | p :: _, z :: _ => if p.node = z.node /\ p.to + 1 = z.frm then 1 else 0
 | _, _ => 0
theorem aR4 (ro l : List d6) : dM ro l <= l.length := by
 unfold dM
 split
 ·split
  ·simp
  ·omega
 ·omega
def eW (ro : List d6) (x : d6) : Nat :=
 match ro with
 | p :: _ => if p.node = x.node /\ p.to + 1 = x.frm then 1 else 0
 | _ => 0
theorem sJ (ro : List d6) (x : d6) : (M6 ro x).length + eW ro x = ro.length + 1 := by
 cases ro with
 | nil => rfl
 | cons p r =>
  unfold M6 eW
  dsimp only
  split
  ·simp
  ·simp
theorem aHC {ro l l' : List d6} {x : d6} {i : Bool} (hs : Sd x.node x.frm x.to i l l') (hx : M8 x) (hb : aHI ro x) (hl : Y3 l) : (l'.length - dM (M6 ro x) l') + (if i then 1 - eW ro x else 0) <= l.length - dM ro l := by
 cases hs with
 | off h =>
  have : dM ro l = 0 := by
   cases ro with
   | nil => rfl
   | cons p r =>
    cases l with
    | nil => rfl
    | cons z l =>
     have h1 : p.node < x.node \/ (p.node = x.node /\ p.to < x.frm) := hb
     have h2 := h z List.mem_cons_self
     unfold M8 at hx
     unfold dM
     dsimp only
     rw [if_neg (by omega)]
  rw [this]
  simp
 | @gone z r h1 h2 h3 =>
  have e1 : dM ro (z :: l') = eW ro x := by
   cases ro with
   | nil => rfl
   | cons p r' => unfold dM eW; dsimp only; rw [h1, h2]
  rw [e1]
  have : eW ro x <= 1 := by unfold eW; split <;> (try split) <;> omega
  simp
  omega
 | @cut z r h1 h2 h3 =>
  have e1 : dM ro (z :: r) = eW ro x := by
   cases ro with
   | nil => rfl
   | cons p r' => unfold dM eW; dsimp only; rw [h1, h2]
  have e2 : dM (M6 ro x) (⟨z.node, x.to + 1, z.to⟩ :: r) = 1 := by
   cases ro with
   | nil =>
    unfold M6 dM; dsimp only
    rw [if_pos ⟨h1.symm, rfl⟩]
   | cons p r' =>
    unfold M6
    dsimp only
    split
    ·rename_i hc
     unfold dM; dsimp only
     rw [if_pos ⟨by omega, rfl⟩]
    ·unfold dM; dsimp only
     rw [if_pos ⟨h1.symm, rfl⟩]
  rw [e1, e2]
  have : eW ro x <= 1 := by unfold eW; split <;> (try split) <;> omega
  simp
  omega
theorem kO {l l' : List d6} {n f t : Int} {i : Bool} (hs : Sd n f t i l l') : l'.length <= l.length := by
 cases hs with
 | off _ => exact Nat.le_refl _
 | gone _ _ _ => simp
 | cut _ _ _ => simp
theorem fE : ∀ (k : Nat) (a b ro : List d6), OkR ro -> aZ ro a -> aZ ro b -> Y3 a -> Y3 b →
  (L1 (fun x y => x && !y) k a b ro).length <= ro.length + (a.length - dM ro a) + b.length
 | 0, a, b, ro, _, _, _, _, _ => by unfold L1; omega
 | k + 1, a, b, ro, hro, hba, hbb, ha, hb => by
  unfold L1
  by_cases h0 : a.length + b.length = 0
  ·rw [if_pos h0]; omega
  ·rw [if_neg h0]
   have hne : a ≠ [] \/ b ≠ [] := by
    cases a with
    | nil => cases b with
     | nil => simp at h0
     | cons y s => exact .inr (by simp)
    | cons x r => exact .inl (by simp)
   obtain ⟨hx, hor, sa, sb, hcut⟩ := jZ ha hb hne
   dsimp only
   generalize m8 a b = q at hx hor sa sb hcut
   obtain ⟨x, ia, ib⟩ := q
   dsimp only at hx hor sa sb hcut ⊢
   have hx' := hx
   unfold M8 at hx'
   obtain ⟨ka1, ka2, _⟩ := sa.ok (by omega) ha
   obtain ⟨kb1, kb2, _⟩ := sb.ok (by omega) hb
   have la := kO sa
   have lb := kO sb
   have hc1 := aR4 ro a
   cases ia with
   | false =>
    cases ib with
    | false => cases hor
    | true =>
     have ea : I8 a false x.to = a := rfl
     rw [ea] at sa ka1 ka2 la ⊢
     have ih := fE k a _ ro hro hba (Q8 hbb (by omega) sb) ka1 kb1
     simp only [Bool.false_and, Bool.false_eq_true, if_false]
     omega
   | true =>
    cases ib with
    | false =>
     have eb : I8 b false x.to = b := rfl
     rw [eb] at sb kb1 kb2 lb ⊢
     have hbx : aHI ro x := jP hba sa
     obtain ⟨q1, q2, p, r, q3, q4, q5⟩ := wD hro hx hbx
     have ih := fE k _ b (M6 ro x) q1 (aV q3 q4 q5 ka2) (aV q3 q4 q5 kb2) ka1 kb1
     have l1 := aHC sa hx hbx ha
     have l3 := sJ ro x
     have : eW ro x <= 1 := by unfold eW; split <;> (try split) <;> omega
     simp only [Bool.not_false, Bool.and_self, if_true] at l1 ⊢
     omega
    | true =>
     have ih := fE k _ _ ro hro (Q8 hba (by omega) sa) (Q8 hbb (by omega) sb) ka1 kb1
     have hlen : (I8 a true x.to).length + (I8 b true x.to).length + 1 <= a.length + b.length := by
      rcases hcut rfl rfl with ⟨z, r, e1, e2⟩ | ⟨z, r, e1, e2⟩
      ·rw [e1]
       have : I8 (z :: r) true x.to = r := by unfold I8 cP; simp [e2]
       rw [this]; simp; omega
      ·rw [e1]
       have : I8 (z :: r) true x.to = r := by unfold I8 cP; simp [e2]
       rw [this]; simp; omega
     simp only [Bool.not_true, Bool.and_false, Bool.false_eq_true, if_false]
     have hc2 : dM ro a <= 1 := by unfold dM; split <;> (try split) <;> omega
     omega
theorem aQ7 : ∀ {ro : List d6}, OkR ro -> Y3 ro.reverse := by
 have app : ∀ {l : List d6} {x : d6}, Y3 l -> M8 x -> (∀ p, l.getLast? = some p -> gap p x) -> Y3 (l ++ [x]) := by
  intro l
  induction l with
  | nil => intro x _ hx _; exact ⟨hx, trivial, trivial⟩
  | cons y l ih =>
   intro x h hx hg
   obtain ⟨h1, h2, h3⟩ := h
   refine ⟨h1, ?_, ih h3 hx fun p hp => ?_⟩
   ·cases l with
    | nil => exact hg y rfl
    | cons z l => exact h2
   ·refine hg p ?_
    cases l with
    | nil => cases hp
    | cons z l => rw [List.getLast?_cons_cons]; exact hp
 intro ro
 induction ro with
 | nil => intro _; trivial
 | cons x r ih =>
  intro h
  obtain ⟨h1, h2, h3⟩ := h
  rw [List.reverse_cons]
  refine app (ih h3) h1 fun p hp => ?_
  rw [List.getLast?_reverse] at hp
  cases r with
  | nil => cases hp
  | cons y r => cases hp; exact h2
theorem aOF (l : List d6) (n s : Int) : F7 l.reverse n s = F7 l n s := by simp [F7]
def B5 (keep : Bool -> Bool -> Bool) (a b : List d6) : List d6 := (L1 keep (jB a + jB b + 1) a b []).reverse
theorem aIV (keep : Bool -> Bool -> Bool) (hk : keep false false = false) {a b : List d6} (ha : Y3 a) (hb : Y3 b) : Y3 (B5 keep a b) /\ ∀ n s, F7 (B5 keep a b) n s = keep (F7 a n s) (F7 b n s) := by
 obtain ⟨h1, h2⟩ := uY keep hk (jB a + jB b + 1) a b [] trivial trivial trivial ha hb (Nat.lt_succ_self _)
 exact ⟨aQ7 h1, fun n s => by unfold B5; rw [aOF, h2 n s, pG, Bool.false_or]⟩
theorem aDF {a b : List d6} (ha : Y3 a) (hb : Y3 b) : (B5 (fun x y => x && !y) a b).length <= a.length + b.length := by
 have := fE (jB a + jB b + 1) a b [] trivial trivial trivial ha hb
 unfold B5
 rw [List.length_reverse]
 simp [dM] at this
 omega
theorem aDM {l : List d6} (h : Y3 l) (hm : ∀ n s, F7 l n s = false) : l = [] := by
 cases l with
 | nil => rfl
 | cons x r =>
  have h1 := h.1
  unfold M8 at h1
  have := hm x.node x.frm
  rw [Q5, L6.2 ⟨rfl, Int.le_refl _, h1.2.2.2.1⟩] at this
  cases this
theorem aHE {a b : List d6} (ha : Y3 a) (hb : Y3 b) : B5 (fun x y => x && !y) a b = [] ↔ ∀ n s, F7 a n s = true -> F7 b n s = true := by
 obtain ⟨h1, h2⟩ := aIV (fun x y => x && !y) rfl ha hb
 constructor
 ·intro h n s hm
  have := h2 n s
  rw [h, pG, hm] at this
  cases hq : F7 b n s with
  | true => rfl
  | false => rw [hq] at this; cases this
 ·intro h
  refine aDM h1 fun n s => ?_
  rw [h2 n s]
  cases hq : F7 a n s with
  | false => rfl
  | true => rw [h n s hq]; rfl
end Go.Proofs.YtlbjplpehkgcdaaGreatDoor
namespace Go.Am
open Go.RowKit
section
variable {E : i9} {P : Program} {ι : w6} {m m1 : d5} {w w1 : World}
theorem mP.mem {l l' : List MapEntry} (h : mP ι l l') : ∀ {x' : MapEntry}, x' ∈ l' -> ∃ x ∈ l, ER ι x x' := by
 induction h with
 | nil => intro x' hx; simp at hx
 | @cons e e' _ _ he hs ih =>
  intro x' hx
  rcases List.mem_cons.1 hx with rfl | hx
  ·exact ⟨e, List.mem_cons_self, he⟩
  ·obtain ⟨x, h1, h2⟩ := ih hx
   exact ⟨x, List.mem_cons_of_mem _ h1, h2⟩
theorem mP.born {l l' : List MapEntry} (h : mP ι l l') : l.map (·.born) = l'.map (·.born) := by
 induction h with
 | nil => rfl
 | cons he _ ih => simp [ih, he.2.2]
end
end Go.Am