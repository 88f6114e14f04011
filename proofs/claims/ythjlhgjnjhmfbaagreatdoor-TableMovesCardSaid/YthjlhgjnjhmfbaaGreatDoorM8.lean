/- TableMoves holds. Part 8 of 29; no condition. -/
import Derived.Test.YthjlhgjnjhmfbaaGreatDoorM7
import Derived.IntWalk
set_option linter.unusedVariables false
set_option linter.unusedSimpArgs false
noncomputable section
namespace Go.Pm
open Go.RowKit Go.Am
def rappend (sz by_ zl : Nat) (x y : Operand) : PSt -> Option (PV × PSt) := fun s => match psource s sz (pev s.tm y) with
 | none => none
 | some (new, k) => match pev s.tm x with
  | .lst tok es n cs =>
   if k = 0 then some (.lst tok es n cs, s)
   else if (n = 0 \/ es = sz) /\ (2 * (n + k) + 2000) * by_ <= 281474976710656 /\ n + k <= 4611686018427387904 /\ sz < 4096 /\ zl = sz /\ new.all pone = true then
    match tok with
    | .full => some (.lst (.id s.k s.os.length) sz (n + k) (cs ++ new), { s with os := s.os ++ [.grow (n + k) sz] })
    | .id a b => match s.look a b with
     | some (.grow n' es') => if n' = n /\ es' = sz /\ es = sz then some (.lst (.id a b) es (n + k) (cs ++ new), s.putO a b (.grow (n + k) es)) else none
     | _ => none
    | .no => none
   else none
  | _ => none
def rappendR (sz by_ zl : Nat) (x y : Operand) : PSt -> Option (PV × PSt) := fun s => match psource s sz (pev s.tm y) with
 | none => none
 | some (new, k) => match pev s.tm x with
  | .lst .full es n cs =>
   if k ≠ 0 /\ (n = 0 \/ es = sz) /\ (2 * (n + k) + 2000) * by_ <= 281474976710656 /\ n + k <= 4611686018427387904 /\ sz < 4096 /\ zl = sz /\ new.all pone = true then
    some (.sl s.k s.os.length 0 (n + k) (loCap (n + k) sz), { s with os := s.os ++ [.row .rw sz (cs ++ new)] })
   else none
  | .sl a b o n c =>
   if k = 0 /\ n <= capOf c then some (.sl a b o n c, s)
   else if n + k <= capOf c then
    match s.look a b with
    | some (.row .rw es cells) => if o + n * sz + new.length <= cells.length /\ new.all pone = true then some (.sl a b o (n + k) c, s.putO a b (.row .rw es (psplice cells (o + n * sz) new))) else none
    | _ => none
   else pgrow s sz by_ zl k new a b o n c
  | _ => none
def rappendZ (sz by_ : Nat) (z : List PV) (x y : Operand) : PSt -> Option (PV × PSt) := fun s => match (match pnat? (pev s.tm y) with
  | some k => (if k <= 1048576 /\ z.length = sz /\ by_ * k <= 281474976710656 then some ((List.replicate k z).flatten, k) else none)
  | none => none) with
 | none => none
 | some (new, k) => match pev s.tm x with
  | .lst .full es n cs =>
   if k ≠ 0 /\ (n = 0 \/ es = sz) /\ (2 * (n + k) + 2000) * by_ <= 281474976710656 /\ n + k <= 4611686018427387904 /\ sz < 4096 /\ z.length = sz /\ new.all pone = true then
    some (.sl s.k s.os.length 0 (n + k) (loCap (n + k) sz), { s with os := s.os ++ [.row .rw sz (cs ++ new)] })
   else none
  | .sl a b o n c =>
   if k = 0 /\ n <= capOf c then some (.sl a b o n c, s)
   else if n + k <= capOf c then
    match s.look a b with
    | some (.row .rw es cells) => if o + n * sz + new.length <= cells.length /\ new.all pone = true then some (.sl a b o (n + k) c, s.putO a b (.row .rw es (psplice cells (o + n * sz) new))) else none
    | _ => none
   else pgrow s sz by_ z.length k new a b o n c
  | _ => none
def rnone : PSt -> Option (PV × PSt) := fun _ => none
def rcap (x : Operand) : PSt -> Option PV := fun s => capL (pev s.tm x)
def rbuild (z : List PV) (places : List (Nat × Nat)) (parts : List (Nat × Operand)) : PSt -> Option PV := fun s => (pfill (fun i => places[i]?) z (parts.map fun p => (p.1, pev s.tm p.2))).map .agg
def rbuildL (sz len : Nat) (z : List PV) (parts : List (Nat × Operand)) : PSt -> Option (PV × PSt) := fun s =>
 ((pfill (fun i => some (i * sz, sz)) z (parts.map fun p => (p.1, pev s.tm p.2))).map fun cs => .lst .full sz len cs).map fun x => (x, s)
def rmake (sz by_ : Nat) (z : List PV) (l c : Operand) : PSt -> Option (PV × PSt) := fun s => mkS s sz by_ z (pev s.tm l) (pev s.tm c)
def rclear (sz : Nat) (z : List PV) (x : Operand) : PSt -> Option (PV × PSt) := fun s => clearS s sz z (pev s.tm x)
def rfn (f : Nat) (first captured : List Operand) : PSt -> Option PV := fun s => some (.fn f (first.map (pev s.tm)) (captured.map (pev s.tm)))
def rnil (x : Operand) : PSt -> Option PV := fun s => match pev s.tm x with
 | .ptr k i o => some (.ptr k i o)
 | .dp cs o => some (.dp cs o)
 | .fn f a b => some (.fn f a b)
 | .yld k i => some (.yld k i)
 | .iface t x => some (.iface t x)
 | _ => none
def ridxS (x i : Operand) : PSt -> Option PV := fun s => idxS (pev s.tm x) (pev s.tm i)
def rconvI (k : IntKind) (x : Operand) : PSt -> Option (PV × PSt) := fun s => match convI k (pev s.tm x) with
 | some v => some (v, s)
 | none => none
def rsliceL (sz : Nat) (x : Operand) (lo hi mx : Option Operand) : PSt -> Option PV := fun s => sliceL sz (pev s.tm x) (lo.map (pev s.tm)) (hi.map (pev s.tm)) (mx.map (pev s.tm))
def rsliceS (x : Operand) (lo hi : Option Operand) : PSt -> Option PV := fun s => sliceS (pev s.tm x) (lo.map (pev s.tm)) (hi.map (pev s.tm))
def rmm (f : Value -> List Value -> Option Value) (args : List Operand) : PSt -> Option PV := fun s => pmm f (args.map (pev s.tm))
section
variable {E : Env}
theorem pbin_lss {t : Nat} {c d : Bool} {k : IntKind} {a b : Int} : pbin E .lss t c d (.v (.int k a)) (.v (.int k b)) = some (.v (.bool (decide (a < b)))) := by simp [pbin, binV, intBin]
theorem pbin_leq {t : Nat} {c d : Bool} {k : IntKind} {a b : Int} : pbin E .leq t c d (.v (.int k a)) (.v (.int k b)) = some (.v (.bool (decide (a <= b)))) := by simp [pbin, binV, intBin]
theorem pbin_gtr {t : Nat} {c d : Bool} {k : IntKind} {a b : Int} : pbin E .gtr t c d (.v (.int k a)) (.v (.int k b)) = some (.v (.bool (decide (a > b)))) := by simp [pbin, binV, intBin]
theorem pbin_geq {t : Nat} {c d : Bool} {k : IntKind} {a b : Int} : pbin E .geq t c d (.v (.int k a)) (.v (.int k b)) = some (.v (.bool (decide (a >= b)))) := by simp [pbin, binV, intBin]
theorem pbin_eql {t : Nat} {c d : Bool} {k : IntKind} {a b : Int} : pbin E .eql t c d (.v (.int k a)) (.v (.int k b)) = some (.v (.bool (a == b))) := by simp [pbin, binV, intBin, eqFine]
theorem pbin_neq {t : Nat} {c d : Bool} {k : IntKind} {a b : Int} : pbin E .neq t c d (.v (.int k a)) (.v (.int k b)) = some (.v (.bool (a != b))) := by simp [pbin, binV, intBin, eqFine]
theorem pbin_add {t : Nat} {c d : Bool} {k : IntKind} {a b : Int} : pbin E .add t c d (.v (.int k a)) (.v (.int k b)) = some (.v (.int k (k.wrap (a + b)))) := by simp [pbin, binV, intBin]
theorem pbin_sub {t : Nat} {c d : Bool} {k : IntKind} {a b : Int} : pbin E .sub t c d (.v (.int k a)) (.v (.int k b)) = some (.v (.int k (k.wrap (a - b)))) := by simp [pbin, binV, intBin]
theorem pbin_mul {t : Nat} {c d : Bool} {k : IntKind} {a b : Int} : pbin E .mul t c d (.v (.int k a)) (.v (.int k b)) = some (.v (.int k (k.wrap (a * b)))) := by simp [pbin, binV, intBin]
theorem pnat_int {k : IntKind} {n : Nat} : pnat? (.v (.int k (n : Int))) = some n := by simp [pnat?, asNat?]
end
section
variable {E : Env} {P : Program} {rd : Option (Nat × Nat)} {s : PSt} {Q : AExit -> PSt -> Prop} {a : RC}
theorem fresh_mem {s : PSt} {k : Nat} (h : fresh s.M k) (hk : k ≠ s.k) : fresh s.mem k := fun i => by
 unfold PSt.mem; rw [seg_ne _ _ _ hk]; exact h i
inductive KP (tm : List (Nat × PV)) : List (Nat × PV) -> Prop where
 | nil : KP tm []
 | cons {i : Nat} {v : PV} {r : List (Nat × PV)} (h : tget tm i = v) (hs : KP tm r) : KP tm ((i, v) :: r)
 | weak {i : Nat} {v w : PV} {r : List (Nat × PV)} (h : tget tm i = w) (hw : PLe w v) (hs : KP tm r) : KP tm ((i, v) :: r)
theorem KP.all {tm tm' : List (Nat × PV)} (h : KP tm tm') : ∀ p ∈ tm', PLe (tget tm p.1) p.2 := by
 induction h with
 | nil => intro p hp; cases hp
 | cons h _ ih =>
  intro p hp
  rcases List.mem_cons.1 hp with rfl | hp
  ·show PLe (tget tm _) _
   rw [h]; exact PLe.refl _
  ·exact ih p hp
 | weak h hw _ ih =>
  intro p hp
  rcases List.mem_cons.1 hp with rfl | hp
  ·show PLe (tget tm _) _
   rw [h]; exact hw
  ·exact ih p hp
theorem keepE {tm tm' : List (Nat × PV)} {nt k : Nat} {os : List Obj} {M : PMem} (h : KP tm tm') : SLe ⟨tm, nt, k, os, M⟩ ⟨tm', nt, k, os, M⟩ := SLe.tms (keepT h.all)
theorem wrap64_id {n : Int} (h1 : -9223372036854775808 <= n) (h2 : n <= 9223372036854775807) : IntKind.i64.wrap n = n := IntWalk.i64_in _ (by omega)
variable {tm : List (Nat × PV)} {nt k d g : Nat} {os : List Obj} {M : PMem} {f : PSt -> Option PV} {F : PSt -> Option (PV × PSt)} {x : PV} {l : List RI} {ld : List RD} {R : PSt -> Prop} {want : Bool} {tm1 : List (Nat × PV)} {nt1 k1 : Nat} {os1 : List Obj} {M1 : PMem}
theorem RPO.v (hf : f ⟨tm, nt, k, os, M⟩ = some x) (hd : d < nt) (h : RPO E P l ⟨(d, x) :: tm, nt, k, os, M⟩ R) : RPO E P (.st (rI (some d) none (rv f)) :: l) ⟨tm, nt, k, os, M⟩ R :=
 ⟨_, by simp only [rI, rg, rv, hf, pput, if_pos hd], h⟩
theorem RPO.m (hf : F ⟨tm, nt, k, os, M⟩ = some (x, ⟨tm1, nt1, k1, os1, M1⟩)) (hd : d < nt1) (h : RPO E P l ⟨(d, x) :: tm1, nt1, k1, os1, M1⟩ R) : RPO E P (.st (rI (some d) none F) :: l) ⟨tm, nt, k, os, M⟩ R :=
 ⟨_, by simp only [rI, rg, hf, pput, if_pos hd], h⟩
theorem RPD.v (hf : f ⟨tm, nt, k, os, M⟩ = some x) (hd : d < nt) (h : RPD E P ld ⟨(d, x) :: tm, nt, k, os, M⟩ R) : RPD E P (.st true (rI (some d) none (rv f)) :: ld) ⟨tm, nt, k, os, M⟩ R :=
 ⟨rfl, _, by simp only [rI, rg, rv, hf, pput, if_pos hd], h⟩
theorem RPD.m (hf : F ⟨tm, nt, k, os, M⟩ = some (x, ⟨tm1, nt1, k1, os1, M1⟩)) (hd : d < nt1) (h : RPD E P ld ⟨(d, x) :: tm1, nt1, k1, os1, M1⟩ R) : RPD E P (.st true (rI (some d) none F) :: ld) ⟨tm, nt, k, os, M⟩ R :=
 ⟨rfl, _, by simp only [rI, rg, hf, pput, if_pos hd], h⟩
end
end Go.Pm
end