/- TableMoves holds. Part 16 of 29; no condition. -/
import Derived.Test.YthjlhgjnjhmfbaaGreatDoorM15
set_option linter.unusedVariables false
set_option linter.unusedSimpArgs false
noncomputable section
namespace Go.Pm
open Go.RowKit Go.Am
section
variable {E : Env} {P : Program} {tm : List (Nat × PV)} {nt k n m i es e sz by_ zl : Nat} {os : List Obj} {M : PMem} {A B : Operand} {cs ds : List PV} {t tok : Tok} {v : PV} {f : Nat} {args : List PV}
def appP (s : PSt) (sz by_ zl : Nat) (x y : PV) : Option (PV × PSt) := match psource s sz y with
 | none => none
 | some (new, k) => match x with
  | .lst tok es n cs =>
   if k = 0 then some (.lst tok es n cs, s)
   else if (n = 0 \/ es = sz) /\ (2 * (n + k) + 2000) * by_ <= 281474976710656 /\ n + k <= 4611686018427387904 /\ sz < 4096 /\ zl = sz /\ new.all pone = true then
    match tok with
    | .full => some (.lst (.id s.k s.os.length) sz (n + k) (cs ++ new), { s with os := s.os ++ [.grow (n + k) sz] })
    | .id a b => match s.look a b with
     | some (.grow n' es') => if n' = n /\ es' = sz /\ es = sz then some (.lst (.id a b) es (n + k) (cs ++ new), s.putO a b (.grow (n + k) es)) else none
     | _ => none
    | .no => none
   else none
  | _ => none
theorem r_append : rappend sz by_ zl A B ⟨tm, nt, k, os, M⟩ = appP ⟨tm, nt, k, os, M⟩ sz by_ zl (pev tm A) (pev tm B) := by
 unfold rappend appP
 rfl
theorem ap_nil : appP ⟨tm, nt, k, os, M⟩ sz by_ zl (.lst tok es n cs) (.lst t e 0 ds) = some (.lst tok es n cs, ⟨tm, nt, k, os, M⟩) := by
 unfold appP psource
 simp
theorem ap_full (hm : m ≠ 0) (h : (n = 0 \/ es = sz) /\ (2 * (n + m) + 2000) * by_ <= 281474976710656 /\ n + m <= 4611686018427387904 /\ sz < 4096 /\ zl = sz /\ ds.all pone = true) :
  appP ⟨tm, nt, k, os, M⟩ sz by_ zl (.lst .full es n cs) (.lst t sz m ds) = some (.lst (.id k os.length) sz (n + m) (cs ++ ds), ⟨tm, nt, k, os ++ [.grow (n + m) sz], M⟩) := by
 unfold appP psource
 simp only [if_neg hm, if_true, if_pos h]
def nL (E : Env) (P : Program) (d : Nat) (neg : Bool) (κ : Kont) (tm : List (Nat × PV)) (nt k : Nat) (os : List Obj) (M : PMem) (R : PSt -> Prop) (x : PV) : Prop :=
 ∃ tk es n cs, x = .lst tk es n cs /\ ∀ b, (n ≠ 0 -> b = false) -> nV E P d κ tm nt k os M R (some (.v (.bool (xor b neg))))
theorem e_L {l : List RI} {R : PSt -> Prop} {d : Nat} {neg : Bool} : RPO E P (oL d neg A :: l) ⟨tm, nt, k, os, M⟩ R = nL E P d neg (.o l) tm nt k os M R (pev tm A) := by
 apply propext
 constructor
 ·rintro (⟨-, tk, es, n, cs, h, h'⟩ | ⟨h, -⟩)
  ·exact ⟨tk, es, n, cs, h, fun b hb => by rw [<- nV_put]; exact h' b hb⟩
  ·cases h
 ·rintro ⟨tk, es, n, cs, h, h'⟩
  exact .inl ⟨rfl, tk, es, n, cs, h, fun b hb => by have := h' b hb; rw [<- nV_put] at this; exact this⟩
theorem nL_lst {R : PSt -> Prop} {d : Nat} {neg : Bool} {κ : Kont} (h : ∀ b, (n ≠ 0 -> b = false) -> nV E P d κ tm nt k os M R (some (.v (.bool (xor b neg))))) : nL E P d neg κ tm nt k os M R (.lst t es n cs) := ⟨_, _, _, _, rfl, h⟩
theorem PTp.of (h : ∀ M, PT E P f args M (fun x M1 => PLe x v /\ M1 = M)) : PTp E P f args v := fun M => PT.conseq (h M) fun x M1 ⟨e1, e2⟩ => ⟨v, M1, e1, .refl _, rfl, e2⟩
end
end Go.Pm
end