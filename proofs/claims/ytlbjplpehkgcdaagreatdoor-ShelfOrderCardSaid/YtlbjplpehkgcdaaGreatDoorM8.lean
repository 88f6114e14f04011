/- ShelfOrder holds. Part 8 of 32; no condition. -/
import Derived.Test.YtlbjplpehkgcdaaGreatDoorM7
import Derived.IntWalk
set_option linter.unusedVariables false
set_option linter.unusedSimpArgs false
noncomputable section
namespace Go.Pm
open Go.RowKit Go.Am
def L9 (sz by_ zl : Nat) (x y : Operand) : d9 -> Option (PV × d9) := fun s => match H0 s sz (l4 s.tm y) with
 | none => none
 | some (new, k) => match l4 s.tm x with
  | .lst tok es n cs =>
   if k = 0 then some (.lst tok es n cs, s)
   else if (n = 0 \/ es = sz) /\ (2 * (n + k) + 2000) * by_ <= 281474976710656 /\ n + k <= 4611686018427387904 /\ sz < 4096 /\ zl = sz /\ new.all w9 = true then
    match tok with
    | .full => some (.lst (.id s.k s.os.length) sz (n + k) (cs ++ new), { s with os := s.os ++ [.grow (n + k) sz] })
    | .id a b => match s.look a b with
     | some (.grow n' es') => if n' = n /\ es' = sz /\ es = sz then some (.lst (.id a b) es (n + k) (cs ++ new), s.putO a b (.grow (n + k) es)) else none
     | _ => none
    | .no => none
   else none
  | _ => none
def P3 (sz by_ zl : Nat) (x y : Operand) : d9 -> Option (PV × d9) := fun s => match H0 s sz (l4 s.tm y) with
 | none => none
 | some (new, k) => match l4 s.tm x with
  | .lst .full es n cs =>
   if k ≠ 0 /\ (n = 0 \/ es = sz) /\ (2 * (n + k) + 2000) * by_ <= 281474976710656 /\ n + k <= 4611686018427387904 /\ sz < 4096 /\ zl = sz /\ new.all w9 = true then
    some (.sl s.k s.os.length 0 (n + k) (j0 (n + k) sz), { s with os := s.os ++ [.row .rw sz (cs ++ new)] })
   else none
  | .sl a b o n c =>
   if k = 0 /\ n <= l6 c then some (.sl a b o n c, s)
   else if n + k <= l6 c then
    match s.look a b with
    | some (.row .rw es cells) => if o + n * sz + new.length <= cells.length /\ new.all w9 = true then some (.sl a b o (n + k) c, s.putO a b (.row .rw es (g8 cells (o + n * sz) new))) else none
    | _ => none
   else mN s sz by_ zl k new a b o n c
  | _ => none
def dZ (sz by_ : Nat) (z : List PV) (x y : Operand) : d9 -> Option (PV × d9) := fun s => match (match B9 (l4 s.tm y) with
  | some k => (if k <= 1048576 /\ z.length = sz /\ by_ * k <= 281474976710656 then some ((List.replicate k z).flatten, k) else none)
  | none => none) with
 | none => none
 | some (new, k) => match l4 s.tm x with
  | .lst .full es n cs =>
   if k ≠ 0 /\ (n = 0 \/ es = sz) /\ (2 * (n + k) + 2000) * by_ <= 281474976710656 /\ n + k <= 4611686018427387904 /\ sz < 4096 /\ z.length = sz /\ new.all w9 = true then
    some (.sl s.k s.os.length 0 (n + k) (j0 (n + k) sz), { s with os := s.os ++ [.row .rw sz (cs ++ new)] })
   else none
  | .sl a b o n c =>
   if k = 0 /\ n <= l6 c then some (.sl a b o n c, s)
   else if n + k <= l6 c then
    match s.look a b with
    | some (.row .rw es cells) => if o + n * sz + new.length <= cells.length /\ new.all w9 = true then some (.sl a b o (n + k) c, s.putO a b (.row .rw es (g8 cells (o + n * sz) new))) else none
    | _ => none
   else mN s sz by_ z.length k new a b o n c
  | _ => none
def aS9 : d9 -> Option (PV × d9) := fun _ => none
def bDK (x : Operand) : d9 -> Option PV := fun s => aMV (l4 s.tm x)
def X1 (z : List PV) (places : List (Nat × Nat)) (k8 : List (Nat × Operand)) : d9 -> Option PV := fun s => (N7 (fun i => places[i]?) z (k8.map fun p => (p.1, l4 s.tm p.2))).map .agg
def A4 (sz len : Nat) (z : List PV) (k8 : List (Nat × Operand)) : d9 -> Option (PV × d9) := fun s =>
 ((N7 (fun i => some (i * sz, sz)) z (k8.map fun p => (p.1, l4 s.tm p.2))).map fun cs => .lst .full sz len cs).map fun x => (x, s)
def cE (sz len : Nat) (z : List PV) (k8 : List (Nat × Operand)) : d9 -> Option (PV × d9) := fun s => yA s sz len z (k8.map fun p => (p.1, l4 s.tm p.2))
def aJH (sz : Nat) (z : List PV) (x : Operand) : d9 -> Option (PV × d9) := fun s => iL s sz z (l4 s.tm x)
def rfn (f : Nat) (first captured : List Operand) : d9 -> Option PV := fun s => some (.fn f (first.map (l4 s.tm)) (captured.map (l4 s.tm)))
def Q7 (x : Operand) : d9 -> Option PV := fun s => match l4 s.tm x with
 | .ptr k i o => some (.ptr k i o)
 | .dp cs o => some (.dp cs o)
 | .fn f a b => some (.fn f a b)
 | .yld k i => some (.yld k i)
 | .iface t x => some (.iface t x)
 | _ => none
def cX (x i : Operand) : d9 -> Option PV := fun s => gE (l4 s.tm x) (l4 s.tm i)
def qZ (k : IntKind) (x : Operand) : d9 -> Option (PV × d9) := fun s => match dB k (l4 s.tm x) with
 | some v => some (v, s)
 | none => none
def fC (sz : Nat) (x : Operand) (lo hi mx : Option Operand) : d9 -> Option PV := fun s => P0 sz (l4 s.tm x) (lo.map (l4 s.tm)) (hi.map (l4 s.tm)) (mx.map (l4 s.tm))
def aFV (n : Nat) (x : Operand) : d9 -> Option PV := fun s => rW n (l4 s.tm x)
def O9 (x : Operand) (lo hi : Option Operand) : d9 -> Option PV := fun s => U1 (l4 s.tm x) (lo.map (l4 s.tm)) (hi.map (l4 s.tm))
def rmm (f : Value -> List Value -> Option Value) (args : List Operand) : d9 -> Option PV := fun s => pmm f (args.map (l4 s.tm))
section
variable {E : i9}
theorem aBJ {t : Nat} {c d : Bool} {k : IntKind} {a b : Int} : C0 E .lss t c d (.v (.int k a)) (.v (.int k b)) = some (.v (.bool (decide (a < b)))) := by simp [C0, E0, J1]
theorem aBI {t : Nat} {c d : Bool} {k : IntKind} {a b : Int} : C0 E .leq t c d (.v (.int k a)) (.v (.int k b)) = some (.v (.bool (decide (a <= b)))) := by simp [C0, E0, J1]
theorem zK {t : Nat} {c d : Bool} {k : IntKind} {a b : Int} : C0 E .gtr t c d (.v (.int k a)) (.v (.int k b)) = some (.v (.bool (decide (a > b)))) := by simp [C0, E0, J1]
theorem rM {t : Nat} {c d : Bool} {k : IntKind} {a b : Int} : C0 E .geq t c d (.v (.int k a)) (.v (.int k b)) = some (.v (.bool (decide (a >= b)))) := by simp [C0, E0, J1]
theorem aAM {t : Nat} {c d : Bool} {k : IntKind} {a b : Int} : C0 E .eql t c d (.v (.int k a)) (.v (.int k b)) = some (.v (.bool (a == b))) := by simp [C0, E0, J1, D9]
theorem aAL {t : Nat} {c d : Bool} {k : IntKind} {a b : Int} : C0 E .neq t c d (.v (.int k a)) (.v (.int k b)) = some (.v (.bool (a != b))) := by simp [C0, E0, J1, D9]
theorem aBX {t : Nat} {c d : Bool} {k : IntKind} {a b : Int} : C0 E .add t c d (.v (.int k a)) (.v (.int k b)) = some (.v (.int k (k.wrap (a + b)))) := by simp [C0, E0, J1]
theorem aBC {t : Nat} {c d : Bool} {k : IntKind} {a b : Int} : C0 E .sub t c d (.v (.int k a)) (.v (.int k b)) = some (.v (.int k (k.wrap (a - b)))) := by simp [C0, E0, J1]
theorem zB {t : Nat} {c d : Bool} {k : IntKind} {a b : Int} : C0 E .mul t c d (.v (.int k a)) (.v (.int k b)) = some (.v (.int k (k.wrap (a * b)))) := by simp [C0, E0, J1]
theorem H6 {k : IntKind} {n : Nat} : B9 (.v (.int k (n : Int))) = some n := by simp [B9, F0]
end
section
variable {E : i9} {P : Program} {rd : Option (Nat × Nat)} {s : d9} {Q : f7 -> d9 -> Prop} {a : RC}
theorem tN {s : d9} {k : Nat} (h : fresh s.M k) (hk : k ≠ s.k) : fresh s.mem k := fun i => by
 unfold d9.mem; rw [g6 _ _ _ hk]; exact h i
inductive KP (tm : List (Nat × PV)) : List (Nat × PV) -> Prop where
 | nil : KP tm []
 | cons {i : Nat} {v : PV} {r : List (Nat × PV)} (h : c8 tm i = v) (hs : KP tm r) : KP tm ((i, v) :: r)
 | weak {i : Nat} {v w : PV} {r : List (Nat × PV)} (h : c8 tm i = w) (hw : J6 w v) (hs : KP tm r) : KP tm ((i, v) :: r)
theorem KP.all {tm tm' : List (Nat × PV)} (h : KP tm tm') : ∀ p ∈ tm', J6 (c8 tm p.1) p.2 := by
 induction h with
 | nil => intro p hp; cases hp
 | cons h _ ih =>
  intro p hp
  rcases List.mem_cons.1 hp with rfl | hp
  ·show J6 (c8 tm _) _
   rw [h]; exact J6.refl _
  ·exact ih p hp
 | weak h hw _ ih =>
  intro p hp
  rcases List.mem_cons.1 hp with rfl | hp
  ·show J6 (c8 tm _) _
   rw [h]; exact hw
  ·exact ih p hp
theorem L4 {tm tm' : List (Nat × PV)} {nt k : Nat} {os : List Obj} {M : c7} (h : KP tm tm') : wB ⟨tm, nt, k, os, M⟩ ⟨tm', nt, k, os, M⟩ := wB.tms (aSI h.all)
theorem f9 {n : Int} (h1 : -9223372036854775808 <= n) (h2 : n <= 9223372036854775807) : IntKind.i64.wrap n = n := IntWalk.i64_in _ (by omega)
variable {tm : List (Nat × PV)} {nt k d g : Nat} {os : List Obj} {M : c7} {f : d9 -> Option PV} {F : d9 -> Option (PV × d9)} {x : PV} {l : List RI} {ld : List RD} {R : d9 -> Prop} {want : Bool} {tm1 : List (Nat × PV)} {nt1 k1 : Nat} {os1 : List Obj} {M1 : c7}
theorem T8.v (hf : f ⟨tm, nt, k, os, M⟩ = some x) (hd : d < nt) (h : T8 E P l ⟨(d, x) :: tm, nt, k, os, M⟩ R) : T8 E P (.st (rI (some d) none (rv f)) :: l) ⟨tm, nt, k, os, M⟩ R :=
 ⟨_, by simp only [rI, rg, rv, hf, K4, if_pos hd], h⟩
theorem T8.m (hf : F ⟨tm, nt, k, os, M⟩ = some (x, ⟨tm1, nt1, k1, os1, M1⟩)) (hd : d < nt1) (h : T8 E P l ⟨(d, x) :: tm1, nt1, k1, os1, M1⟩ R) : T8 E P (.st (rI (some d) none F) :: l) ⟨tm, nt, k, os, M⟩ R :=
 ⟨_, by simp only [rI, rg, hf, K4, if_pos hd], h⟩
theorem V0.v (hf : f ⟨tm, nt, k, os, M⟩ = some x) (hd : d < nt) (h : V0 E P ld ⟨(d, x) :: tm, nt, k, os, M⟩ R) : V0 E P (.st true (rI (some d) none (rv f)) :: ld) ⟨tm, nt, k, os, M⟩ R :=
 ⟨rfl, _, by simp only [rI, rg, rv, hf, K4, if_pos hd], h⟩
theorem V0.m (hf : F ⟨tm, nt, k, os, M⟩ = some (x, ⟨tm1, nt1, k1, os1, M1⟩)) (hd : d < nt1) (h : V0 E P ld ⟨(d, x) :: tm1, nt1, k1, os1, M1⟩ R) : V0 E P (.st true (rI (some d) none F) :: ld) ⟨tm, nt, k, os, M⟩ R :=
 ⟨rfl, _, by simp only [rI, rg, hf, K4, if_pos hd], h⟩
end
end Go.Pm
end