/- TableWalks holds. Part 13 of 29; no condition. -/
import Derived.Test.YtnmidpahhhdlpaaGreatDoorM12
set_option linter.unusedVariables false
set_option linter.unusedSimpArgs false
namespace Go.Pm
open Go.RowKit Go.Am
section
variable {E : d9} {P : Program} {rd : Option (Nat × Nat)} {tm : List (Nat × PV)} {nt k d g n : Nat} {os os' : List Obj} {M : b7} {v va : PV} {l : List RI} {ld : List RD} {R : c5 -> Prop} {w b : Bool} {A : Operand} {as : List Operand} {vs first cap : List PV} {s : c5} {κ : O8}
def cK (E : d9) (P : Program) (d : Option Nat) (κ : O8) (tm : List (Nat × PV)) (nt k : Nat) (os : List Obj) (M : b7) (R : c5 -> Prop) (vs : List PV) (fv : PV) : Prop :=
 (∃ g first cap, fv = .fn g first cap /\ PTl E P (k + 1) g (first ++ (vs ++ cap)) (seg M k os) (fun x M1 => qQ ⟨tm, nt, k, os, M⟩ d x M1 fun s2 => RK E P κ s2 R)) ∨
 (∃ a i, fv = .yld a i /\ PRd E P a i vs (seg M k os) (fun x M1 => qQ ⟨tm, nt, k, os, M⟩ d x M1 fun s2 => RK E P κ s2 R))
def cG (E : d9) (P : Program) (d : Nat) (w : Bool) (κ : O8) (tm : List (Nat × PV)) (nt k : Nat) (os : List Obj) (M : b7) (R : c5 -> Prop) (vs : List PV) (fv : PV) (gv : PV) : Prop :=
 match zX w gv with
 | some true => cK E P (some d) κ tm nt k os M R vs fv
 | some false => nV E P d κ tm nt k os M R (some (.tup []))
 | none => False
def cQ (E : d9) (P : Program) (d : Option Nat) (κ : O8) (tm : List (Nat × PV)) (nt k : Nat) (os : List Obj) (M : b7) (R : c5 -> Prop) (vs : List PV) (fv : PV) : Prop :=
 ∃ g first cap, fv = .fn g first cap /\ PT E P g (first ++ (vs ++ cap)) (Q4 (seg M k os)) (fun x M1 => N3 M1 (Q4 (seg M k os)) /\ ∃ s2, H8 ⟨tm, nt, k, os, M⟩ d x = some s2 /\ RK E P κ s2 R)
def cGQ (E : d9) (P : Program) (d : Nat) (w : Bool) (κ : O8) (tm : List (Nat × PV)) (nt k : Nat) (os : List Obj) (M : b7) (R : c5 -> Prop) (vs : List PV) (fv : PV) (gv : PV) : Prop :=
 match zX w gv with
 | some true => cQ E P (some d) κ tm nt k os M R vs fv
 | some false => nV E P d κ tm nt k os M R (some (.tup []))
 | none => False
theorem J5 {x : PV} : (∃ s1, H8 ⟨tm, nt, k, os, M⟩ (some d) x = some s1 /\ RK E P κ s1 R) = nV E P d κ tm nt k os M R (some x) := by rw [W6]; rfl
theorem e_C : S2 E P (oC d A as :: l) ⟨tm, nt, k, os, M⟩ R = cK E P (some d) (.o l) tm nt k os M R (as.map (g7 tm)) (g7 tm A) := by
 apply propext
 constructor
 ·rintro (⟨-, h⟩ | ⟨-, h⟩ | ⟨h, -⟩)
  ·exact .inl h
  ·exact .inr h
  ·cases h
 ·rintro (h | h)
  ·exact .inl ⟨rfl, h⟩
  ·exact .inr (.inl ⟨rfl, h⟩)
theorem e_N : S2 E P (oN A as :: l) ⟨tm, nt, k, os, M⟩ R = cK E P none (.o l) tm nt k os M R (as.map (g7 tm)) (g7 tm A) := by
 apply propext
 constructor
 ·rintro (⟨-, h⟩ | ⟨-, h⟩ | ⟨h, -⟩)
  ·exact .inl h
  ·exact .inr h
  ·cases h
 ·rintro (h | h)
  ·exact .inl ⟨rfl, h⟩
  ·exact .inr (.inl ⟨rfl, h⟩)
theorem bBJ : S2 E P (oCG d g w A as :: l) ⟨tm, nt, k, os, M⟩ R = cG E P d w (.o l) tm nt k os M R (as.map (g7 tm)) (g7 tm A) (a7 tm g) := by
 unfold cG
 have hg : rg (some (g, w)) ⟨tm, nt, k, os, M⟩ = zX w (a7 tm g) := uS
 apply propext
 constructor
 ·rintro (⟨h0, h⟩ | ⟨h0, h⟩ | ⟨h0, h⟩)
  ·replace h0 := hg.symm.trans h0; rw [h0]; exact .inl h
  ·replace h0 := hg.symm.trans h0; rw [h0]; exact .inr h
  ·replace h0 := hg.symm.trans h0; rw [h0]; dsimp only; rw [<- J5]; exact h
 ·intro h
  split at h
  ·rename_i h0
   rcases h with h | h
   ·exact .inl ⟨hg.trans h0, h⟩
   ·exact .inr (.inl ⟨hg.trans h0, h⟩)
  ·rename_i h0
   rw [<- J5] at h
   exact .inr (.inr ⟨hg.trans h0, h⟩)
  ·exact h.elim
theorem d_C (h : cK E P (some d) (.d ld) tm nt k os M R (as.map (g7 tm)) (.fn n first cap)) (hA : g7 tm A = .fn n first cap) : Q3 E P (dC true d A as :: ld) ⟨tm, nt, k, os, M⟩ R := by
 rcases h with ⟨g, f', c', e, h⟩ | ⟨a, i, e, _⟩
 ·cases e; exact .inl ⟨rfl, _, _, _, hA, h⟩
 ·cases e
theorem aYT : Q3 E P (dC false d A as :: ld) ⟨tm, nt, k, os, M⟩ R = cQ E P (some d) (.d ld) tm nt k os M R (as.map (g7 tm)) (g7 tm A) := by
 apply propext
 constructor
 ·rintro (⟨-, h⟩ | ⟨h, -⟩ | ⟨-, h, -⟩)
  ·exact h
  ·cases h
  ·cases h
 ·intro h; exact .inl ⟨rfl, h⟩
theorem aT9 : Q3 E P (dC true d (.func n) as :: ld) ⟨tm, nt, k, os, M⟩ R = cK E P (some d) (.d ld) tm nt k os M R (as.map (g7 tm)) (.fn n [] []) := by
 apply propext
 constructor
 ·rintro (⟨-, h⟩ | ⟨-, h, -⟩ | ⟨h, -⟩)
  ·exact .inl h
  ·cases h
  ·cases h
 ·intro h; exact d_C h rfl
theorem aQ0 : Q3 E P (dCG false d g w A as :: ld) ⟨tm, nt, k, os, M⟩ R = cGQ E P d w (.d ld) tm nt k os M R (as.map (g7 tm)) (g7 tm A) (a7 tm g) := by
 unfold cGQ
 have hg : rg (some (g, w)) ⟨tm, nt, k, os, M⟩ = zX w (a7 tm g) := uS
 apply propext
 constructor
 ·rintro (⟨h0, h⟩ | ⟨h0, -⟩ | ⟨-, h0, h⟩)
  ·replace h0 := hg.symm.trans h0; rw [h0]; exact h
  ·cases h0
  ·replace h0 := hg.symm.trans h0; rw [h0]; dsimp only; rw [<- J5]; exact h
 ·intro h
  split at h
  ·rename_i h0
   exact .inl ⟨hg.trans h0, h⟩
  ·rename_i h0
   rw [<- J5] at h
   exact .inr (.inr ⟨rfl, hg.trans h0, h⟩)
  ·exact h.elim
theorem aXT {fv : PV} : cG E P d true κ tm nt k os M R vs fv (.v (.bool true)) = cK E P (some d) κ tm nt k os M R vs fv := rfl
theorem bB5 {fv : PV} : cG E P d true κ tm nt k os M R vs fv (.v (.bool false)) = nV E P d κ tm nt k os M R (some (.tup [])) := rfl
theorem aRH {fv : PV} : cG E P d false κ tm nt k os M R vs fv (.v (.bool false)) = cK E P (some d) κ tm nt k os M R vs fv := rfl
theorem aSE {fv : PV} : cG E P d false κ tm nt k os M R vs fv (.v (.bool true)) = nV E P d κ tm nt k os M R (some (.tup [])) := rfl
theorem aY6 {fv : PV} : cG E P d w κ tm nt k os M R vs fv (.tup []) = nV E P d κ tm nt k os M R (some (.tup [])) := rfl
theorem aRS {fv : PV} : cGQ E P d true κ tm nt k os M R vs fv (.v (.bool true)) = cQ E P (some d) κ tm nt k os M R vs fv := rfl
theorem aRF {fv : PV} : cGQ E P d true κ tm nt k os M R vs fv (.v (.bool false)) = nV E P d κ tm nt k os M R (some (.tup [])) := rfl
theorem aML {fv : PV} : cGQ E P d false κ tm nt k os M R vs fv (.v (.bool false)) = cQ E P (some d) κ tm nt k os M R vs fv := rfl
theorem aJK {fv : PV} : cGQ E P d false κ tm nt k os M R vs fv (.v (.bool true)) = nV E P d κ tm nt k os M R (some (.tup [])) := rfl
theorem aRQ {fv : PV} : cGQ E P d w κ tm nt k os M R vs fv (.tup []) = nV E P d κ tm nt k os M R (some (.tup [])) := rfl
theorem cp (hp : r8 E P g (first ++ (vs ++ cap)) v) (hd : d < nt) (h : RK E P κ ⟨(d, v) :: tm, nt, k, os, M⟩ R) : cK E P (some d) κ tm nt k os M R vs (.fn g first cap) :=
 .inl ⟨_, _, _, rfl, (hp _).monoL fun x M1 ⟨e1, e2⟩ => by rw [e1, e2]; exact aD9 hd h rfl⟩
theorem cq (hp : r8 E P g (first ++ (vs ++ cap)) v) (hd : d < nt) (h : RK E P κ ⟨(d, v) :: tm, nt, k, os, M⟩ R) : cQ E P (some d) κ tm nt k os M R vs (.fn g first cap) :=
 ⟨_, _, _, rfl, (hp _).mono fun x M1 ⟨e1, e2⟩ => by rw [e1, e2]; exact ⟨.refl _, _, by simp only [H8, if_pos hd], h⟩⟩
theorem cm (hp : PT E P g (first ++ (vs ++ cap)) (seg M k os) (fun x M1 => ∃ os1 M2, os1.length = os.length /\ N3 M1 (seg M2 k os1) /\ d < nt /\ RK E P κ ⟨(d, x) :: tm, nt, k, os1, M2⟩ R)) : cK E P (some d) κ tm nt k os M R vs (.fn g first cap) :=
 .inl ⟨_, _, _, rfl, hp.monoL fun x M1 ⟨os1, M2, h1, h2, h3, h4⟩ => ⟨os1, M2, _, h1, h2, by simp only [H8, if_pos h3], h4⟩⟩
theorem cgT (hp : b = true -> r8 E P g (first ++ (vs ++ cap)) v) (hd : d < nt) (h : RK E P κ ⟨(d, aM b v) :: tm, nt, k, os, M⟩ R) : cG E P d true κ tm nt k os M R vs (.fn g first cap) (.v (.bool b)) := by
 cases b with
 | true => exact cp (hp rfl) hd h
 | false => exact ⟨hd, h⟩
theorem cgF (hp : b = false -> r8 E P g (first ++ (vs ++ cap)) v) (hd : d < nt) (h : RK E P κ ⟨(d, aM (!b) v) :: tm, nt, k, os, M⟩ R) : cG E P d false κ tm nt k os M R vs (.fn g first cap) (.v (.bool b)) := by
 cases b with
 | false => exact cp (hp rfl) hd h
 | true => exact ⟨hd, h⟩
end
theorem WC : type_of% (And.intro @e_C <| And.intro @e_N <| And.intro @bBJ <| And.intro @aYT <| And.intro @aT9 <| And.intro @aQ0 <| And.intro @aXT <| And.intro @bB5 <| And.intro @aRH <| And.intro @aSE <| And.intro @aY6 <| And.intro @aRS <| And.intro @aRF <| And.intro @aML <| And.intro @aJK <|
 And.intro @aRQ <| And.intro @List.map_cons.{0, 0} @List.map_nil.{0, 0}) := And.intro @e_C <| And.intro @e_N <| And.intro @bBJ <| And.intro @aYT <| And.intro @aT9 <| And.intro @aQ0 <| And.intro @aXT <| And.intro @bB5 <| And.intro @aRH <| And.intro @aSE <| And.intro @aY6 <| And.intro @aRS <| And.intro @aRF <| And.intro @aML <| And.intro @aJK <|
 And.intro @aRQ <| And.intro @List.map_cons.{0, 0} @List.map_nil.{0, 0}
end Go.Pm