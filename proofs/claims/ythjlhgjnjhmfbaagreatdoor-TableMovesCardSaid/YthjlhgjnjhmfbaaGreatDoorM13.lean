/- TableMoves holds. Part 13 of 29; no condition. -/
import Derived.Test.YthjlhgjnjhmfbaaGreatDoorM12
set_option linter.unusedVariables false
set_option linter.unusedSimpArgs false
namespace Go.Pm
open Go.RowKit Go.Am
section
variable {E : Env} {P : Program} {rd : Option (Nat × Nat)} {tm : List (Nat × PV)} {nt k d g n : Nat} {os os' : List Obj} {M : PMem} {v va : PV} {l : List RI} {ld : List RD} {R : PSt -> Prop} {w b : Bool} {A : Operand} {as : List Operand} {vs first cap : List PV} {s : PSt} {κ : Kont}
def cK (E : Env) (P : Program) (d : Option Nat) (κ : Kont) (tm : List (Nat × PV)) (nt k : Nat) (os : List Obj) (M : PMem) (R : PSt -> Prop) (vs : List PV) (fv : PV) : Prop :=
 (∃ g first cap, fv = .fn g first cap /\ PTl E P (k + 1) g (first ++ (vs ++ cap)) (seg M k os) (fun x M1 => took ⟨tm, nt, k, os, M⟩ d x M1 fun s2 => RK E P κ s2 R)) ∨
 (∃ a i, fv = .yld a i /\ PRd E P a i vs (seg M k os) (fun x M1 => took ⟨tm, nt, k, os, M⟩ d x M1 fun s2 => RK E P κ s2 R))
def cG (E : Env) (P : Program) (d : Nat) (w : Bool) (κ : Kont) (tm : List (Nat × PV)) (nt k : Nat) (os : List Obj) (M : PMem) (R : PSt -> Prop) (vs : List PV) (fv : PV) (gv : PV) : Prop :=
 match rgV w gv with
 | some true => cK E P (some d) κ tm nt k os M R vs fv
 | some false => nV E P d κ tm nt k os M R (some (.tup []))
 | none => False
def cQ (E : Env) (P : Program) (d : Option Nat) (κ : Kont) (tm : List (Nat × PV)) (nt k : Nat) (os : List Obj) (M : PMem) (R : PSt -> Prop) (vs : List PV) (fv : PV) : Prop :=
 ∃ g first cap, fv = .fn g first cap /\ PT E P g (first ++ (vs ++ cap)) (holdM (seg M k os)) (fun x M1 => MLe M1 (holdM (seg M k os)) /\ ∃ s2, pput ⟨tm, nt, k, os, M⟩ d x = some s2 /\ RK E P κ s2 R)
def cGQ (E : Env) (P : Program) (d : Nat) (w : Bool) (κ : Kont) (tm : List (Nat × PV)) (nt k : Nat) (os : List Obj) (M : PMem) (R : PSt -> Prop) (vs : List PV) (fv : PV) (gv : PV) : Prop :=
 match rgV w gv with
 | some true => cQ E P (some d) κ tm nt k os M R vs fv
 | some false => nV E P d κ tm nt k os M R (some (.tup []))
 | none => False
theorem nV_put {x : PV} : (∃ s1, pput ⟨tm, nt, k, os, M⟩ (some d) x = some s1 /\ RK E P κ s1 R) = nV E P d κ tm nt k os M R (some x) := by rw [put_ex]; rfl
theorem e_C : RPO E P (oC d A as :: l) ⟨tm, nt, k, os, M⟩ R = cK E P (some d) (.o l) tm nt k os M R (as.map (pev tm)) (pev tm A) := by
 apply propext
 constructor
 ·rintro (⟨-, h⟩ | ⟨-, h⟩ | ⟨h, -⟩)
  ·exact .inl h
  ·exact .inr h
  ·cases h
 ·rintro (h | h)
  ·exact .inl ⟨rfl, h⟩
  ·exact .inr (.inl ⟨rfl, h⟩)
theorem e_N : RPO E P (oN A as :: l) ⟨tm, nt, k, os, M⟩ R = cK E P none (.o l) tm nt k os M R (as.map (pev tm)) (pev tm A) := by
 apply propext
 constructor
 ·rintro (⟨-, h⟩ | ⟨-, h⟩ | ⟨h, -⟩)
  ·exact .inl h
  ·exact .inr h
  ·cases h
 ·rintro (h | h)
  ·exact .inl ⟨rfl, h⟩
  ·exact .inr (.inl ⟨rfl, h⟩)
theorem e_CG : RPO E P (oCG d g w A as :: l) ⟨tm, nt, k, os, M⟩ R = cG E P d w (.o l) tm nt k os M R (as.map (pev tm)) (pev tm A) (tget tm g) := by
 unfold cG
 have hg : rg (some (g, w)) ⟨tm, nt, k, os, M⟩ = rgV w (tget tm g) := rg_V
 apply propext
 constructor
 ·rintro (⟨h0, h⟩ | ⟨h0, h⟩ | ⟨h0, h⟩)
  ·replace h0 := hg.symm.trans h0; rw [h0]; exact .inl h
  ·replace h0 := hg.symm.trans h0; rw [h0]; exact .inr h
  ·replace h0 := hg.symm.trans h0; rw [h0]; dsimp only; rw [<- nV_put]; exact h
 ·intro h
  split at h
  ·rename_i h0
   rcases h with h | h
   ·exact .inl ⟨hg.trans h0, h⟩
   ·exact .inr (.inl ⟨hg.trans h0, h⟩)
  ·rename_i h0
   rw [<- nV_put] at h
   exact .inr (.inr ⟨hg.trans h0, h⟩)
  ·exact h.elim
theorem d_C (h : cK E P (some d) (.d ld) tm nt k os M R (as.map (pev tm)) (.fn n first cap)) (hA : pev tm A = .fn n first cap) : RPD E P (dC true d A as :: ld) ⟨tm, nt, k, os, M⟩ R := by
 rcases h with ⟨g, f', c', e, h⟩ | ⟨a, i, e, _⟩
 ·cases e; exact .inl ⟨rfl, _, _, _, hA, h⟩
 ·cases e
theorem e_CQ : RPD E P (dC false d A as :: ld) ⟨tm, nt, k, os, M⟩ R = cQ E P (some d) (.d ld) tm nt k os M R (as.map (pev tm)) (pev tm A) := by
 apply propext
 constructor
 ·rintro (⟨-, h⟩ | ⟨h, -⟩ | ⟨-, h, -⟩)
  ·exact h
  ·cases h
  ·cases h
 ·intro h; exact .inl ⟨rfl, h⟩
theorem e_CD : RPD E P (dC true d (.func n) as :: ld) ⟨tm, nt, k, os, M⟩ R = cK E P (some d) (.d ld) tm nt k os M R (as.map (pev tm)) (.fn n [] []) := by
 apply propext
 constructor
 ·rintro (⟨-, h⟩ | ⟨-, h, -⟩ | ⟨h, -⟩)
  ·exact .inl h
  ·cases h
  ·cases h
 ·intro h; exact d_C h rfl
theorem e_CGQ : RPD E P (dCG false d g w A as :: ld) ⟨tm, nt, k, os, M⟩ R = cGQ E P d w (.d ld) tm nt k os M R (as.map (pev tm)) (pev tm A) (tget tm g) := by
 unfold cGQ
 have hg : rg (some (g, w)) ⟨tm, nt, k, os, M⟩ = rgV w (tget tm g) := rg_V
 apply propext
 constructor
 ·rintro (⟨h0, h⟩ | ⟨h0, -⟩ | ⟨-, h0, h⟩)
  ·replace h0 := hg.symm.trans h0; rw [h0]; exact h
  ·cases h0
  ·replace h0 := hg.symm.trans h0; rw [h0]; dsimp only; rw [<- nV_put]; exact h
 ·intro h
  split at h
  ·rename_i h0
   exact .inl ⟨hg.trans h0, h⟩
  ·rename_i h0
   rw [<- nV_put] at h
   exact .inr (.inr ⟨rfl, hg.trans h0, h⟩)
  ·exact h.elim
theorem cG_t {fv : PV} : cG E P d true κ tm nt k os M R vs fv (.v (.bool true)) = cK E P (some d) κ tm nt k os M R vs fv := rfl
theorem cG_f {fv : PV} : cG E P d true κ tm nt k os M R vs fv (.v (.bool false)) = nV E P d κ tm nt k os M R (some (.tup [])) := rfl
theorem cG_t' {fv : PV} : cG E P d false κ tm nt k os M R vs fv (.v (.bool false)) = cK E P (some d) κ tm nt k os M R vs fv := rfl
theorem cG_f' {fv : PV} : cG E P d false κ tm nt k os M R vs fv (.v (.bool true)) = nV E P d κ tm nt k os M R (some (.tup [])) := rfl
theorem cG_u {fv : PV} : cG E P d w κ tm nt k os M R vs fv (.tup []) = nV E P d κ tm nt k os M R (some (.tup [])) := rfl
theorem cGQ_t {fv : PV} : cGQ E P d true κ tm nt k os M R vs fv (.v (.bool true)) = cQ E P (some d) κ tm nt k os M R vs fv := rfl
theorem cGQ_f {fv : PV} : cGQ E P d true κ tm nt k os M R vs fv (.v (.bool false)) = nV E P d κ tm nt k os M R (some (.tup [])) := rfl
theorem cGQ_t' {fv : PV} : cGQ E P d false κ tm nt k os M R vs fv (.v (.bool false)) = cQ E P (some d) κ tm nt k os M R vs fv := rfl
theorem cGQ_f' {fv : PV} : cGQ E P d false κ tm nt k os M R vs fv (.v (.bool true)) = nV E P d κ tm nt k os M R (some (.tup [])) := rfl
theorem cGQ_u {fv : PV} : cGQ E P d w κ tm nt k os M R vs fv (.tup []) = nV E P d κ tm nt k os M R (some (.tup [])) := rfl
theorem cp (hp : PTp E P g (first ++ (vs ++ cap)) v) (hd : d < nt) (h : RK E P κ ⟨(d, v) :: tm, nt, k, os, M⟩ R) : cK E P (some d) κ tm nt k os M R vs (.fn g first cap) :=
 .inl ⟨_, _, _, rfl, (hp _).monoL fun x M1 ⟨e1, e2⟩ => by rw [e1, e2]; exact took_eq hd h rfl⟩
theorem cq (hp : PTp E P g (first ++ (vs ++ cap)) v) (hd : d < nt) (h : RK E P κ ⟨(d, v) :: tm, nt, k, os, M⟩ R) : cQ E P (some d) κ tm nt k os M R vs (.fn g first cap) :=
 ⟨_, _, _, rfl, (hp _).mono fun x M1 ⟨e1, e2⟩ => by rw [e1, e2]; exact ⟨.refl _, _, by simp only [pput, if_pos hd], h⟩⟩
theorem cm (hp : PT E P g (first ++ (vs ++ cap)) (seg M k os) (fun x M1 => ∃ os1 M2, os1.length = os.length /\ MLe M1 (seg M2 k os1) /\ d < nt /\ RK E P κ ⟨(d, x) :: tm, nt, k, os1, M2⟩ R)) : cK E P (some d) κ tm nt k os M R vs (.fn g first cap) :=
 .inl ⟨_, _, _, rfl, hp.monoL fun x M1 ⟨os1, M2, h1, h2, h3, h4⟩ => ⟨os1, M2, _, h1, h2, by simp only [pput, if_pos h3], h4⟩⟩
theorem cgT (hp : b = true -> PTp E P g (first ++ (vs ++ cap)) v) (hd : d < nt) (h : RK E P κ ⟨(d, cnd b v) :: tm, nt, k, os, M⟩ R) : cG E P d true κ tm nt k os M R vs (.fn g first cap) (.v (.bool b)) := by
 cases b with
 | true => exact cp (hp rfl) hd h
 | false => exact ⟨hd, h⟩
theorem cgF (hp : b = false -> PTp E P g (first ++ (vs ++ cap)) v) (hd : d < nt) (h : RK E P κ ⟨(d, cnd (!b) v) :: tm, nt, k, os, M⟩ R) : cG E P d false κ tm nt k os M R vs (.fn g first cap) (.v (.bool b)) := by
 cases b with
 | false => exact cp (hp rfl) hd h
 | true => exact ⟨hd, h⟩
end
theorem WC : type_of% (And.intro @e_C <| And.intro @e_N <| And.intro @e_CG <| And.intro @e_CQ <| And.intro @e_CD <| And.intro @e_CGQ <| And.intro @cG_t <| And.intro @cG_f <| And.intro @cG_t' <| And.intro @cG_f' <| And.intro @cG_u <| And.intro @cGQ_t <| And.intro @cGQ_f <| And.intro @cGQ_t' <| And.intro @cGQ_f' <|
 And.intro @cGQ_u <| And.intro @List.map_cons.{0, 0} @List.map_nil.{0, 0}) := And.intro @e_C <| And.intro @e_N <| And.intro @e_CG <| And.intro @e_CQ <| And.intro @e_CD <| And.intro @e_CGQ <| And.intro @cG_t <| And.intro @cG_f <| And.intro @cG_t' <| And.intro @cG_f' <| And.intro @cG_u <| And.intro @cGQ_t <| And.intro @cGQ_f <| And.intro @cGQ_t' <| And.intro @cGQ_f' <|
 And.intro @cGQ_u <| And.intro @List.map_cons.{0, 0} @List.map_nil.{0, 0}
end Go.Pm