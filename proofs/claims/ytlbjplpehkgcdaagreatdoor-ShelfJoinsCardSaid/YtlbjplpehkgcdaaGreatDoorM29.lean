/- ShelfJoins holds. Part 29 of 32; no condition. -/
import Derived.Test.YtlbjplpehkgcdaaGreatDoorM28
set_option linter.unusedVariables false
set_option linter.unusedSimpArgs false
set_option maxHeartbeats 4000000
set_option maxRecDepth 100000
namespace Go.Proofs.YtlbjplpehkgcdaaGreatDoor
open Go Go.Am Go.Pm
theorem anyL_no : ∀ {n : Nat} {l : List Ev}, anyL n l = false -> l.length <= n -> ∀ e ∈ l, evLong e = false
 | 0, l, _, hl, e, he => by
  have : l = [] := List.length_eq_zero_iff.1 (by omega)
  subst this; cases he
 | n + 1, [], _, _, e, he => by cases he
 | n + 1, x :: r, h, hl, e, he => by
  simp only [anyL, Bool.or_eq_false_iff] at h
  rcases List.mem_cons.1 he with rfl | he
  ·exact h.1
  ·exact anyL_no h.2 (by simp only [List.length_cons] at hl; omega) e he
theorem not_long {m : Nat} {l : List Ev} (h : longEvs m l = false) : l.length <= m /\ ∀ e ∈ l, e.path.length <= 100 /\ e.bytes.length <= 1200 /\ e.past.length <= 100 := by
 simp only [longEvs, Bool.or_eq_false_iff, decide_eq_false_iff_not] at h
 have hl : l.length <= m := by omega
 refine ⟨hl, fun e he => ?_⟩
 have := anyL_no h.1 (by omega) e he
 simp only [evLong, Bool.or_eq_false_iff, decide_eq_false_iff_not] at this
 omega
theorem foldl_last (n : Int) : ∀ (l : List Span) (a : Int), a <= l.foldl (lastF n) a /\ (∀ x ∈ l, x.node = n -> x.to <= l.foldl (lastF n) a) /\ (l.foldl (lastF n) a = a \/ ∃ x ∈ l, x.node = n /\ x.to = l.foldl (lastF n) a)
 | [], a => ⟨Int.le_refl _, fun x hx => (by cases hx), .inl rfl⟩
 | x :: l, a => by
  obtain ⟨h1, h2, h3⟩ := foldl_last n l (lastF n a x)
  have hx : a <= lastF n a x /\ (x.node = n -> x.to <= lastF n a x) /\ (lastF n a x = a \/ (x.node = n /\ x.to = lastF n a x)) := by
   unfold lastF
   by_cases hn : x.node = n
   ·have : (x.node != n) = false := by simp [hn]
    rw [this, if_neg (by decide)]
    refine ⟨by omega, fun _ => by omega, ?_⟩
    rcases Int.le_total a x.to with h | h
    ·exact .inr ⟨hn, by omega⟩
    ·exact .inl (by omega)
   ·have : (x.node != n) = true := by simp [hn]
    rw [this, if_pos rfl]
    exact ⟨Int.le_refl _, fun e => absurd e hn, .inl rfl⟩
  rw [List.foldl_cons]
  refine ⟨by omega, fun y hy e => ?_, ?_⟩
  ·rcases List.mem_cons.1 hy with rfl | hy
   ·have := hx.2.1 e; omega
   ·exact h2 y hy e
  ·rcases h3 with h3 | ⟨y, hy, e1, e2⟩
   ·rcases hx.2.2 with h | ⟨h, h'⟩
    ·exact .inl (by rw [h3, h])
    ·exact .inr ⟨x, List.mem_cons_self, h, by rw [h3]; exact h'⟩
   ·exact .inr ⟨y, List.mem_cons_of_mem _ hy, e1, e2⟩
theorem last_ge {l : List Span} (h : pastOk l = true) {n s : Int} (hm : memP l n s = true) : s <= lastOf l n := by
 obtain ⟨x, hx, h1, h2, h3⟩ := memP_iff.1 hm
 unfold lastOf
 rw [if_pos h]
 have := (foldl_last n l 0).2.1 x hx h1
 omega
theorem evOk_iff {e : Ev} : evOk e = true ↔ dotOk e.node e.seq = true /\ pathOk e.path = true /\ effOk e.kind e.mode e.bytes = true /\ pastOk e.past = true /\ lastOf e.past e.node < e.seq := by
 simp only [evOk, Bool.and_eq_true, decide_eq_true_eq]
theorem ahead_iff {a b : Ev} : aheadB a b = true ↔ evOk a = true /\ evOk b = true /\ memP b.past a.node a.seq = true := by
 simp only [aheadB, hasB, Bool.and_eq_true]
 constructor
 ·rintro ⟨⟨h1, h2⟩, h3, h4⟩; exact ⟨h1, h2, h4⟩
 ·rintro ⟨h1, h2, h4⟩; exact ⟨⟨h1, h2⟩, (evOk_iff.1 h2).2.2.2.1, h4⟩
theorem within_iff {a b : List Span} (ha : pastOk a = true) (hb : pastOk b = true) : withinB a b = true ↔ ∀ n s, memP a n s = true -> memP b n s = true := by
 rw [<- minus_nil (pastOk_iff.1 ha).2 (pastOk_iff.1 hb).2]
 have e : sweptF (fun x y => x && !y) a b = sweptF andNot a b := rfl
 rw [e]
 unfold withinB tells
 rw [ha, hb]
 simp only [Bool.and_self, if_true]
 by_cases h : (sweptF andNot a b).length <= 4000
 ·rw [if_pos h]
  simp only [beq_self_eq_true, Bool.true_and, beq_iff_eq]
  constructor
  ·intro h; exact List.length_eq_zero_iff.1 (by omega)
  ·intro h; rw [h]; rfl
 ·rw [if_neg h]
  constructor
  ·intro h; cases h
  ·intro h'; rw [h'] at h; exact absurd (Nat.zero_le _) h
theorem not_self {a : Ev} : aheadB a a = false := by
 cases h : aheadB a a with
 | false => rfl
 | true =>
  obtain ⟨h1, _, h2⟩ := ahead_iff.1 h
  obtain ⟨_, _, _, h3, h4⟩ := evOk_iff.1 h1
  have := last_ge h3 h2
  omega
section
variable {l : List Ev} (hc : ClosedL l)
include hc
theorem closed_in {i j : Nat} {a b : Ev} (ha : l[i]? = some a) (hb : l[j]? = some b) (h : aheadB a b = true) : ∀ n s, memP a.past n s = true -> memP b.past n s = true := by
 obtain ⟨h1, h2, _⟩ := ahead_iff.1 h
 have hij : j ≠ i := fun e => by
  subst e; rw [ha] at hb; cases hb
  rw [not_self] at h; cases h
 have := (hc i a ha).2 j b hb
 unfold badPair at this
 have hne : ((j : Int) != (i : Int)) = true := by simp; omega
 rw [hne, h, Bool.true_and, Bool.true_and, Bool.or_eq_false_iff, Bool.not_eq_false'] at this
 exact (within_iff (evOk_iff.1 h1).2.2.2.1 (evOk_iff.1 h2).2.2.2.1).1 this.2
theorem closed_trans {i j k : Nat} {a b c : Ev} (ha : l[i]? = some a) (hb : l[k]? = some b) (hj : l[j]? = some c) (h1 : aheadB a b = true) (h2 : aheadB b c = true) : aheadB a c = true := by
 obtain ⟨q1, q2, q3⟩ := ahead_iff.1 h1
 obtain ⟨r1, r2, r3⟩ := ahead_iff.1 h2
 exact ahead_iff.2 ⟨q1, r2, closed_in hc hb hj h2 _ _ q3⟩
end
section
variable {l : List Ev} (hc : ClosedL l) {P : List Span} (hP : pastOk P = true) (hm : ∀ n s, memP P n s = l.any fun e => memP e.past n s || inSp ⟨e.node, e.seq, e.seq⟩ n s) {node : Int} (hn : 1 <= node /\ node <= 200) (hlast : lastOf P node < 2147483647)
include hP hn hlast
end
end Go.Proofs.YtlbjplpehkgcdaaGreatDoor