/- ShelfOrder holds. Part 29 of 32; no condition. -/
import Derived.Test.YtlbjplpehkgcdaaGreatDoorM28
set_option linter.unusedVariables false
set_option linter.unusedSimpArgs false
set_option maxHeartbeats 4000000
set_option maxRecDepth 100000
namespace Go.Proofs.YtlbjplpehkgcdaaGreatDoor
open Go Go.Am Go.Pm
theorem aGU : ∀ {n : Nat} {l : List Ev}, sW n l = false -> l.length <= n -> ∀ e ∈ l, rP e = false
 | 0, l, _, hl, e, he => by
  have : l = [] := List.length_eq_zero_iff.1 (by omega)
  subst this; cases he
 | n + 1, [], _, _, e, he => by cases he
 | n + 1, x :: r, h, hl, e, he => by
  simp only [sW, Bool.or_eq_false_iff] at h
  rcases List.mem_cons.1 he with rfl | he
  ·exact h.1
  ·exact aGU h.2 (by simp only [List.length_cons] at hl; omega) e he
theorem aAW {m : Nat} {l : List Ev} (h : V1 m l = false) : l.length <= m /\ ∀ e ∈ l, e.path.length <= 100 /\ e.bytes.length <= 1200 /\ e.past.length <= 100 := by
 simp only [V1, Bool.or_eq_false_iff, decide_eq_false_iff_not] at h
 have hl : l.length <= m := by omega
 refine ⟨hl, fun e he => ?_⟩
 have := aGU h.1 (by omega) e he
 simp only [rP, Bool.or_eq_false_iff, decide_eq_false_iff_not] at this
 omega
theorem rE (n : Int) : ∀ (l : List d6) (a : Int), a <= l.foldl (W8 n) a /\ (∀ x ∈ l, x.node = n -> x.to <= l.foldl (W8 n) a) /\ (l.foldl (W8 n) a = a \/ ∃ x ∈ l, x.node = n /\ x.to = l.foldl (W8 n) a)
 | [], a => ⟨Int.le_refl _, fun x hx => (by cases hx), .inl rfl⟩
 | x :: l, a => by
  obtain ⟨h1, h2, h3⟩ := rE n l (W8 n a x)
  have hx : a <= W8 n a x /\ (x.node = n -> x.to <= W8 n a x) /\ (W8 n a x = a \/ (x.node = n /\ x.to = W8 n a x)) := by
   unfold W8
   by_cases hn : x.node = n
   ·have : (x.node != n) = false := by simp [hn]
    rw [this, if_neg (by decide)]
    refine ⟨by omega, fun _ => by omega, ?_⟩
    rcases Int.le_total a x.to with h | h
    ·exact .inr ⟨hn, by omega⟩
    ·exact .inl (by omega)
   ·have : (x.node != n) = true := by simp [hn]
    rw [this, if_pos rfl]
    exact ⟨Int.le_refl _, fun e => absurd e hn, .inl rfl⟩
  rw [List.foldl_cons]
  refine ⟨by omega, fun y hy e => ?_, ?_⟩
  ·rcases List.mem_cons.1 hy with rfl | hy
   ·have := hx.2.1 e; omega
   ·exact h2 y hy e
  ·rcases h3 with h3 | ⟨y, hy, e1, e2⟩
   ·rcases hx.2.2 with h | ⟨h, h'⟩
    ·exact .inl (by rw [h3, h])
    ·exact .inr ⟨x, List.mem_cons_self, h, by rw [h3]; exact h'⟩
   ·exact .inr ⟨y, List.mem_cons_of_mem _ hy, e1, e2⟩
theorem aQN {l : List d6} (h : q9 l = true) {n s : Int} (hm : F7 l n s = true) : s <= iW l n := by
 obtain ⟨x, hx, h1, h2, h3⟩ := aA3.1 hm
 unfold iW
 rw [if_pos h]
 have := (rE n l 0).2.1 x hx h1
 omega
theorem jT {e : Ev} : X3 e = true ↔ aF9 e.node e.seq = true /\ dW e.path = true /\ pS e.kind e.mode e.bytes = true /\ q9 e.past = true /\ iW e.past e.node < e.seq := by
 simp only [X3, Bool.and_eq_true, decide_eq_true_eq]
theorem bD {a b : Ev} : n9 a b = true ↔ X3 a = true /\ X3 b = true /\ F7 b.past a.node a.seq = true := by
 simp only [n9, aR8, Bool.and_eq_true]
 constructor
 ·rintro ⟨⟨h1, h2⟩, h3, h4⟩; exact ⟨h1, h2, h4⟩
 ·rintro ⟨h1, h2, h4⟩; exact ⟨⟨h1, h2⟩, (jT.1 h2).2.2.2.1, h4⟩
theorem aCG {a b : List d6} (ha : q9 a = true) (hb : q9 b = true) : fH a b = true ↔ ∀ n s, F7 a n s = true -> F7 b n s = true := by
 rw [<- aHE (H2.1 ha).2 (H2.1 hb).2]
 have e : B5 (fun x y => x && !y) a b = B5 andNot a b := rfl
 rw [e]
 unfold fH kP
 rw [ha, hb]
 simp only [Bool.and_self, if_true]
 by_cases h : (B5 andNot a b).length <= 4000
 ·rw [if_pos h]
  simp only [beq_self_eq_true, Bool.true_and, beq_iff_eq]
  constructor
  ·intro h; exact List.length_eq_zero_iff.1 (by omega)
  ·intro h; rw [h]; rfl
 ·rw [if_neg h]
  constructor
  ·intro h; cases h
  ·intro h'; rw [h'] at h; exact absurd (Nat.zero_le _) h
theorem aAF {a : Ev} : n9 a a = false := by
 cases h : n9 a a with
 | false => rfl
 | true =>
  obtain ⟨h1, _, h2⟩ := bD.1 h
  obtain ⟨_, _, _, h3, h4⟩ := jT.1 h1
  have := aQN h3 h2
  omega
section
variable {l : List Ev} (hc : P7 l)
include hc
theorem aIH {i j : Nat} {a b : Ev} (ha : l[i]? = some a) (hb : l[j]? = some b) (h : n9 a b = true) : ∀ n s, F7 a.past n s = true -> F7 b.past n s = true := by
 obtain ⟨h1, h2, _⟩ := bD.1 h
 have hij : j ≠ i := fun e => by
  subst e; rw [ha] at hb; cases hb
  rw [aAF] at h; cases h
 have := (hc i a ha).2 j b hb
 unfold J9 at this
 have hne : ((j : Int) != (i : Int)) = true := by simp; omega
 rw [hne, h, Bool.true_and, Bool.true_and, Bool.or_eq_false_iff, Bool.not_eq_false'] at this
 exact (aCG (jT.1 h1).2.2.2.1 (jT.1 h2).2.2.2.1).1 this.2
theorem wM {i j k : Nat} {a b c : Ev} (ha : l[i]? = some a) (hb : l[k]? = some b) (hj : l[j]? = some c) (h1 : n9 a b = true) (h2 : n9 b c = true) : n9 a c = true := by
 obtain ⟨q1, q2, q3⟩ := bD.1 h1
 obtain ⟨r1, r2, r3⟩ := bD.1 h2
 exact bD.2 ⟨q1, r2, aIH hc hb hj h2 _ _ q3⟩
end
section
variable {l : List Ev} (hc : P7 l) {P : List d6} (hP : q9 P = true) (hm : ∀ n s, F7 P n s = l.any fun e => F7 e.past n s || gJ ⟨e.node, e.seq, e.seq⟩ n s) {node : Int} (hn : 1 <= node /\ node <= 200) (hlast : iW P node < 2147483647)
include hP hn hlast
end
end Go.Proofs.YtlbjplpehkgcdaaGreatDoor