/- TableWalks holds. Part 8 of 29; no condition. -/
import Derived.Test.YtnmidpahhhdlpaaGreatDoorM7
import Derived.IntWalk
set_option linter.unusedVariables false
set_option linter.unusedSimpArgs false
noncomputable section
namespace Go.Pm
open Go.RowKit Go.Am
def J4 (sz by_ zl : Nat) (x y : Operand) : c5 -> Option (PV × c5) := fun s => match G2 s sz (g7 s.tm y) with
 | none => none
 | some (new, k) => match g7 s.tm x with
  | .lst tok es n cs =>
   if k = 0 then some (.lst tok es n cs, s)
   else if (n = 0 \/ es = sz) /\ (2 * (n + k) + 2000) * by_ <= 281474976710656 /\ n + k <= 4611686018427387904 /\ sz < 4096 /\ zl = sz /\ new.all p7 = true then
    match tok with
    | .full => some (.lst (.id s.k s.os.length) sz (n + k) (cs ++ new), { s with os := s.os ++ [.grow (n + k) sz] })
    | .id a b => match s.look a b with
     | some (.grow n' es') => if n' = n /\ es' = sz /\ es = sz then some (.lst (.id a b) es (n + k) (cs ++ new), s.putO a b (.grow (n + k) es)) else none
     | _ => none
    | .no => none
   else none
  | _ => none
def M6 (sz by_ zl : Nat) (x y : Operand) : c5 -> Option (PV × c5) := fun s => match G2 s sz (g7 s.tm y) with
 | none => none
 | some (new, k) => match g7 s.tm x with
  | .lst .full es n cs =>
   if k ≠ 0 /\ (n = 0 \/ es = sz) /\ (2 * (n + k) + 2000) * by_ <= 281474976710656 /\ n + k <= 4611686018427387904 /\ sz < 4096 /\ zl = sz /\ new.all p7 = true then
    some (.sl s.k s.os.length 0 (n + k) (g6 (n + k) sz), { s with os := s.os ++ [.row .rw sz (cs ++ new)] })
   else none
  | .sl a b o n c =>
   if k = 0 /\ n <= g9 c then some (.sl a b o n c, s)
   else if n + k <= g9 c then
    match s.look a b with
    | some (.row .rw es cells) => if o + n * sz + new.length <= cells.length /\ new.all p7 = true then some (.sl a b o (n + k) c, s.putO a b (.row .rw es (e8 cells (o + n * sz) new))) else none
    | _ => none
   else kJ s sz by_ zl k new a b o n c
  | _ => none
def cN (sz by_ : Nat) (z : List PV) (x y : Operand) : c5 -> Option (PV × c5) := fun s => match (match v6 (g7 s.tm y) with
  | some k => (if k <= 1048576 /\ z.length = sz /\ by_ * k <= 281474976710656 then some ((List.replicate k z).flatten, k) else none)
  | none => none) with
 | none => none
 | some (new, k) => match g7 s.tm x with
  | .lst .full es n cs =>
   if k ≠ 0 /\ (n = 0 \/ es = sz) /\ (2 * (n + k) + 2000) * by_ <= 281474976710656 /\ n + k <= 4611686018427387904 /\ sz < 4096 /\ z.length = sz /\ new.all p7 = true then
    some (.sl s.k s.os.length 0 (n + k) (g6 (n + k) sz), { s with os := s.os ++ [.row .rw sz (cs ++ new)] })
   else none
  | .sl a b o n c =>
   if k = 0 /\ n <= g9 c then some (.sl a b o n c, s)
   else if n + k <= g9 c then
    match s.look a b with
    | some (.row .rw es cells) => if o + n * sz + new.length <= cells.length /\ new.all p7 = true then some (.sl a b o (n + k) c, s.putO a b (.row .rw es (e8 cells (o + n * sz) new))) else none
    | _ => none
   else kJ s sz by_ z.length k new a b o n c
  | _ => none
def aR7 : c5 -> Option (PV × c5) := fun _ => none
def bDA (x : Operand) : c5 -> Option PV := fun s => aK9 (g7 s.tm x)
def dE (z : List PV) (places : List (Nat × Nat)) (b6 : List (Nat × Operand)) : c5 -> Option PV := fun s => (L7 (fun i => places[i]?) z (b6.map fun p => (p.1, g7 s.tm p.2))).map .agg
def C0 (sz len : Nat) (z : List PV) (b6 : List (Nat × Operand)) : c5 -> Option (PV × c5) := fun s =>
 ((L7 (fun i => some (i * sz, sz)) z (b6.map fun p => (p.1, g7 s.tm p.2))).map fun cs => .lst .full sz len cs).map fun x => (x, s)
def aQ2 (sz by_ : Nat) (z : List PV) (l c : Operand) : c5 -> Option (PV × c5) := fun s => mkS s sz by_ z (g7 s.tm l) (g7 s.tm c)
def aKO (sz : Nat) (z : List PV) (x : Operand) : c5 -> Option (PV × c5) := fun s => aN s sz z (g7 s.tm x)
def rfn (f : Nat) (first captured : List Operand) : c5 -> Option PV := fun s => some (.fn f (first.map (g7 s.tm)) (captured.map (g7 s.tm)))
def aAC (x : Operand) : c5 -> Option PV := fun s => match g7 s.tm x with
 | .ptr k i o => some (.ptr k i o)
 | .dp cs o => some (.dp cs o)
 | .fn f a b => some (.fn f a b)
 | .yld k i => some (.yld k i)
 | .iface t x => some (.iface t x)
 | _ => none
def Q6 (x i : Operand) : c5 -> Option PV := fun s => Y5 (g7 s.tm x) (g7 s.tm i)
def aBW (k : IntKind) (x : Operand) : c5 -> Option (PV × c5) := fun s => match tL k (g7 s.tm x) with
 | some v => some (v, s)
 | none => none
def aB (sz : Nat) (x : Operand) (lo hi mx : Option Operand) : c5 -> Option PV := fun s => G1 sz (g7 s.tm x) (lo.map (g7 s.tm)) (hi.map (g7 s.tm)) (mx.map (g7 s.tm))
def aEB (n : Nat) (x : Operand) : c5 -> Option PV := fun s => pF n (g7 s.tm x)
def B1 (x : Operand) (lo hi : Option Operand) : c5 -> Option PV := fun s => D4 (g7 s.tm x) (lo.map (g7 s.tm)) (hi.map (g7 s.tm))
def rmm (f : Value -> List Value -> Option Value) (args : List Operand) : c5 -> Option PV := fun s => pmm f (args.map (g7 s.tm))
section
variable {E : d9}
theorem zG {t : Nat} {c d : Bool} {k : IntKind} {a b : Int} : w9 E .lss t c d (.v (.int k a)) (.v (.int k b)) = some (.v (.bool (decide (a < b)))) := by simp [w9, B8, I6]
theorem yY {t : Nat} {c d : Bool} {k : IntKind} {a b : Int} : w9 E .leq t c d (.v (.int k a)) (.v (.int k b)) = some (.v (.bool (decide (a <= b)))) := by simp [w9, B8, I6]
theorem yM {t : Nat} {c d : Bool} {k : IntKind} {a b : Int} : w9 E .gtr t c d (.v (.int k a)) (.v (.int k b)) = some (.v (.bool (decide (a > b)))) := by simp [w9, B8, I6]
theorem nY {t : Nat} {c d : Bool} {k : IntKind} {a b : Int} : w9 E .geq t c d (.v (.int k a)) (.v (.int k b)) = some (.v (.bool (decide (a >= b)))) := by simp [w9, B8, I6]
theorem yT {t : Nat} {c d : Bool} {k : IntKind} {a b : Int} : w9 E .eql t c d (.v (.int k a)) (.v (.int k b)) = some (.v (.bool (a == b))) := by simp [w9, B8, I6, w5]
theorem yG {t : Nat} {c d : Bool} {k : IntKind} {a b : Int} : w9 E .neq t c d (.v (.int k a)) (.v (.int k b)) = some (.v (.bool (a != b))) := by simp [w9, B8, I6, w5]
theorem xD {t : Nat} {c d : Bool} {k : IntKind} {a b : Int} : w9 E .add t c d (.v (.int k a)) (.v (.int k b)) = some (.v (.int k (k.wrap (a + b)))) := by simp [w9, B8, I6]
theorem xT {t : Nat} {c d : Bool} {k : IntKind} {a b : Int} : w9 E .sub t c d (.v (.int k a)) (.v (.int k b)) = some (.v (.int k (k.wrap (a - b)))) := by simp [w9, B8, I6]
theorem xY {t : Nat} {c d : Bool} {k : IntKind} {a b : Int} : w9 E .mul t c d (.v (.int k a)) (.v (.int k b)) = some (.v (.int k (k.wrap (a * b)))) := by simp [w9, B8, I6]
theorem w7 {k : IntKind} {n : Nat} : v6 (.v (.int k (n : Int))) = some n := by simp [v6, C2]
end
section
variable {E : d9} {P : Program} {rd : Option (Nat × Nat)} {s : c5} {Q : c9 -> c5 -> Prop} {a : RC}
theorem rV {s : c5} {k : Nat} (h : fresh s.M k) (hk : k ≠ s.k) : fresh s.mem k := fun i => by
 unfold c5.mem; rw [l3 _ _ _ hk]; exact h i
theorem RX.cond_true {x : c5 -> PV} {b : RC} (hv : x s = .v (.bool true)) (h : RX E P rd a s Q) : RX E P rd (.cond x a b) s Q := RX.cond hv (fun _ => h) (fun e => by cases e)
inductive KP (tm : List (Nat × PV)) : List (Nat × PV) -> Prop where
 | nil : KP tm []
 | cons {i : Nat} {v : PV} {r : List (Nat × PV)} (h : a7 tm i = v) (hs : KP tm r) : KP tm ((i, v) :: r)
 | weak {i : Nat} {v w : PV} {r : List (Nat × PV)} (h : a7 tm i = w) (hw : Q2 w v) (hs : KP tm r) : KP tm ((i, v) :: r)
theorem KP.all {tm tm' : List (Nat × PV)} (h : KP tm tm') : ∀ p ∈ tm', Q2 (a7 tm p.1) p.2 := by
 induction h with
 | nil => intro p hp; cases hp
 | cons h _ ih =>
  intro p hp
  rcases List.mem_cons.1 hp with rfl | hp
  ·show Q2 (a7 tm _) _
   rw [h]; exact Q2.refl _
  ·exact ih p hp
 | weak h hw _ ih =>
  intro p hp
  rcases List.mem_cons.1 hp with rfl | hp
  ·show Q2 (a7 tm _) _
   rw [h]; exact hw
  ·exact ih p hp
theorem eN {tm tm' : List (Nat × PV)} {nt k : Nat} {os : List Obj} {M : b7} (h : KP tm tm') : uF ⟨tm, nt, k, os, M⟩ ⟨tm', nt, k, os, M⟩ := uF.tms (aR9 h.all)
theorem d3 {n : Int} (h1 : -9223372036854775808 <= n) (h2 : n <= 9223372036854775807) : IntKind.i64.wrap n = n := IntWalk.i64_in _ (by omega)
variable {tm : List (Nat × PV)} {nt k d g : Nat} {os : List Obj} {M : b7} {f : c5 -> Option PV} {F : c5 -> Option (PV × c5)} {x : PV} {l : List RI} {ld : List RD} {R : c5 -> Prop} {want : Bool} {tm1 : List (Nat × PV)} {nt1 k1 : Nat} {os1 : List Obj} {M1 : b7}
theorem S2.v (hf : f ⟨tm, nt, k, os, M⟩ = some x) (hd : d < nt) (h : S2 E P l ⟨(d, x) :: tm, nt, k, os, M⟩ R) : S2 E P (.st (rI (some d) none (rv f)) :: l) ⟨tm, nt, k, os, M⟩ R :=
 ⟨_, by simp only [rI, rg, rv, hf, H8, if_pos hd], h⟩
theorem S2.m (hf : F ⟨tm, nt, k, os, M⟩ = some (x, ⟨tm1, nt1, k1, os1, M1⟩)) (hd : d < nt1) (h : S2 E P l ⟨(d, x) :: tm1, nt1, k1, os1, M1⟩ R) : S2 E P (.st (rI (some d) none F) :: l) ⟨tm, nt, k, os, M⟩ R :=
 ⟨_, by simp only [rI, rg, hf, H8, if_pos hd], h⟩
theorem Q3.v (hf : f ⟨tm, nt, k, os, M⟩ = some x) (hd : d < nt) (h : Q3 E P ld ⟨(d, x) :: tm, nt, k, os, M⟩ R) : Q3 E P (.st true (rI (some d) none (rv f)) :: ld) ⟨tm, nt, k, os, M⟩ R :=
 ⟨rfl, _, by simp only [rI, rg, rv, hf, H8, if_pos hd], h⟩
theorem Q3.m (hf : F ⟨tm, nt, k, os, M⟩ = some (x, ⟨tm1, nt1, k1, os1, M1⟩)) (hd : d < nt1) (h : Q3 E P ld ⟨(d, x) :: tm1, nt1, k1, os1, M1⟩ R) : Q3 E P (.st true (rI (some d) none F) :: ld) ⟨tm, nt, k, os, M⟩ R :=
 ⟨rfl, _, by simp only [rI, rg, hf, H8, if_pos hd], h⟩
end
end Go.Pm
end