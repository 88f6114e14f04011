/- ShelfOrder holds. Part 16 of 32; no condition. -/
import Derived.Test.YtlbjplpehkgcdaaGreatDoorM15
set_option linter.unusedVariables false
set_option linter.unusedSimpArgs false
noncomputable section
namespace Go.Pm
open Go.RowKit Go.Am
section
variable {E : i9} {P : Program} {tm : List (Nat × PV)} {nt k n m i es e sz by_ zl : Nat} {os : List Obj} {M : c7} {A B : Operand} {cs ds : List PV} {t tok : kV} {v : PV} {f : Nat} {args : List PV}
def gH (s : d9) (sz by_ zl : Nat) (x y : PV) : Option (PV × d9) := match H0 s sz y with
 | none => none
 | some (new, k) => match x with
  | .lst tok es n cs =>
   if k = 0 then some (.lst tok es n cs, s)
   else if (n = 0 \/ es = sz) /\ (2 * (n + k) + 2000) * by_ <= 281474976710656 /\ n + k <= 4611686018427387904 /\ sz < 4096 /\ zl = sz /\ new.all w9 = true then
    match tok with
    | .full => some (.lst (.id s.k s.os.length) sz (n + k) (cs ++ new), { s with os := s.os ++ [.grow (n + k) sz] })
    | .id a b => match s.look a b with
     | some (.grow n' es') => if n' = n /\ es' = sz /\ es = sz then some (.lst (.id a b) es (n + k) (cs ++ new), s.putO a b (.grow (n + k) es)) else none
     | _ => none
    | .no => none
   else none
  | _ => none
theorem eF : L9 sz by_ zl A B ⟨tm, nt, k, os, M⟩ = gH ⟨tm, nt, k, os, M⟩ sz by_ zl (l4 tm A) (l4 tm B) := by
 unfold L9 gH
 rfl
theorem lR : gH ⟨tm, nt, k, os, M⟩ sz by_ zl (.lst tok es n cs) (.lst t e 0 ds) = some (.lst tok es n cs, ⟨tm, nt, k, os, M⟩) := by
 unfold gH H0
 simp
theorem oJ (hm : m ≠ 0) (h : (n = 0 \/ es = sz) /\ (2 * (n + m) + 2000) * by_ <= 281474976710656 /\ n + m <= 4611686018427387904 /\ sz < 4096 /\ zl = sz /\ ds.all w9 = true) :
  gH ⟨tm, nt, k, os, M⟩ sz by_ zl (.lst .full es n cs) (.lst t sz m ds) = some (.lst (.id k os.length) sz (n + m) (cs ++ ds), ⟨tm, nt, k, os ++ [.grow (n + m) sz], M⟩) := by
 unfold gH H0
 simp only [if_neg hm, if_true, if_pos h]
theorem aS4 (hm : m ≠ 0) (hg : os[i]? = some (.grow n sz)) (h : (n = 0 \/ es = sz) /\ (2 * (n + m) + 2000) * by_ <= 281474976710656 /\ n + m <= 4611686018427387904 /\ sz < 4096 /\ zl = sz /\ ds.all w9 = true) (he : es = sz) :
  gH ⟨tm, nt, k, os, M⟩ sz by_ zl (.lst (.id k i) es n cs) (.lst t sz m ds) = some (.lst (.id k i) es (n + m) (cs ++ ds), ⟨tm, nt, k, os.set i (.grow (n + m) es), M⟩) := by
 unfold gH H0
 simp only [if_neg hm, if_true, if_pos h, d9.look, hg, d9.putO]
 rw [if_pos ⟨trivial, trivial, he⟩]
def nL (E : i9) (P : Program) (d : Nat) (neg : Bool) (κ : V2) (tm : List (Nat × PV)) (nt k : Nat) (os : List Obj) (M : c7) (R : d9 -> Prop) (x : PV) : Prop :=
 ∃ tk es n cs, x = .lst tk es n cs /\ ∀ b, (n ≠ 0 -> b = false) -> nV E P d κ tm nt k os M R (some (.v (.bool (xor b neg))))
theorem e_L {l : List RI} {R : d9 -> Prop} {d : Nat} {neg : Bool} : T8 E P (oL d neg A :: l) ⟨tm, nt, k, os, M⟩ R = nL E P d neg (.o l) tm nt k os M R (l4 tm A) := by
 apply propext
 constructor
 ·rintro (⟨-, tk, es, n, cs, h, h'⟩ | ⟨h, -⟩)
  ·exact ⟨tk, es, n, cs, h, fun b hb => by rw [<- bW]; exact h' b hb⟩
  ·cases h
 ·rintro ⟨tk, es, n, cs, h, h'⟩
  exact .inl ⟨rfl, tk, es, n, cs, h, fun b hb => by have := h' b hb; rw [<- bW] at this; exact this⟩
theorem yC {R : d9 -> Prop} {d : Nat} {neg : Bool} {κ : V2} (h : ∀ b, (n ≠ 0 -> b = false) -> nV E P d κ tm nt k os M R (some (.v (.bool (xor b neg))))) : nL E P d neg κ tm nt k os M R (.lst t es n cs) := ⟨_, _, _, _, rfl, h⟩
theorem A0.of (h : ∀ M, PT E P f args M (fun x M1 => J6 x v /\ M1 = M)) : A0 E P f args v := fun M => PT.conseq (h M) fun x M1 ⟨e1, e2⟩ => ⟨v, M1, e1, .refl _, rfl, e2⟩
end
end Go.Pm
end