/- ShelfOrder holds. Part 9 of 32; no condition. -/
import Derived.Test.YtlbjplpehkgcdaaGreatDoorM8
set_option linter.unusedVariables false
set_option linter.unusedSimpArgs false
noncomputable section
namespace Go.Pm
open Go.RowKit Go.Am
abbrev T (i : Nat) : Operand := .tmp i
abbrev K (n : Int) : Operand := .const (.int .i64 n)
def oV (d : Nat) (f : d9 -> Option PV) : RI := .st (rI (some d) none (rv f))
def oG (d g : Nat) (w : Bool) (f : d9 -> Option PV) : RI := .st (rI (some d) (some (g, w)) (rv f))
def oU (d : Nat) (F : d9 -> Option (PV × d9)) : RI := .st (rI (some d) none F)
def oS (F : d9 -> Option (PV × d9)) : RI := .st (rI none none F)
def oC (d : Nat) (f : Operand) (as : List Operand) : RI := .call (some d) (fun s => rg none s) (fun s => l4 s.tm f) (fun s => as.map (l4 s.tm))
def oN (f : Operand) (as : List Operand) : RI := .call none (fun s => rg none s) (fun s => l4 s.tm f) (fun s => as.map (l4 s.tm))
def tC (d g : Nat) (w : Bool) (f : Operand) (as : List Operand) : RI := .call (some d) (fun s => rg (some (g, w)) s) (fun s => l4 s.tm f) (fun s => as.map (l4 s.tm))
def oA (d sz by_ zl : Nat) (x y : Operand) : RI := .alt (rI (some d) none (L9 sz by_ zl x y)) (rI (some d) none (P3 sz by_ zl x y))
def dA (d sz by_ zl : Nat) (x y : Operand) : RD := .alt true (rI (some d) none (L9 sz by_ zl x y)) (rI (some d) none (P3 sz by_ zl x y))
def dQ (d sz by_ zl : Nat) (x y : Operand) : RD := .apq (rI (some d) none (L9 sz by_ zl x y)) (fun s => l4 s.tm x)
def oZ (d sz by_ : Nat) (z : List PV) (x y : Operand) : RI := .alt (rI (some d) none aS9) (rI (some d) none (dZ sz by_ z x y))
def oB (d sz len : Nat) (z : List PV) (ps : List (Nat × Operand)) : RI := .alt (rI (some d) none (A4 sz len z ps)) (rI (some d) none (cE sz len z ps))
def oL (d : Nat) (neg : Bool) (x : Operand) : RI := .nilc (some d) (fun s => rg none s) neg (fun s => l4 s.tm x)
def dV (d : Nat) (f : d9 -> Option PV) : RD := .st true (rI (some d) none (rv f))
def dG (d g : Nat) (w : Bool) (f : d9 -> Option PV) : RD := .st true (rI (some d) (some (g, w)) (rv f))
def dU (d : Nat) (F : d9 -> Option (PV × d9)) : RD := .st true (rI (some d) none F)
def dS (F : d9 -> Option (PV × d9)) : RD := .st true (rI none none F)
def dC (fr : Bool) (d : Nat) (f : Operand) (as : List Operand) : RD := .call fr (some d) (fun s => rg none s) (fun s => l4 s.tm f) (fun s => as.map (l4 s.tm))
def dCG (fr : Bool) (d g : Nat) (w : Bool) (f : Operand) (as : List Operand) : RD := .call fr (some d) (fun s => rg (some (g, w)) s) (fun s => l4 s.tm f) (fun s => as.map (l4 s.tm))
def rX (t : Nat) : d9 -> PV := fun s => c8 s.tm t
def p9 (ag : Bool) (n o : Nat) : Option Obj -> Option PV
 | some (.row _ _ cs) => A3 ag n cs o
 | _ => none
def y6 (k : Nat) (os : List Obj) (M : c7) (ag : Bool) (n : Nat) : PV -> Option PV
 | .ptr a i o => p9 ag n o (if a = k then os[i]? else M a i)
 | .dp cs o => A3 ag n cs o
 | _ => none
def pT (off : Nat) : PV -> Option PV
 | .ptr k i o => some (.ptr k i (o + off))
 | .dp cs o => some (.dp cs (o + off))
 | _ => none
def pZ (ag : Bool) (n off : Nat) : PV -> Option PV
 | .agg cs => aFA ag n off cs
 | _ => none
def bCZ (i : Nat) : PV -> Option PV
 | .tup vs => vs[i]?
 | _ => none
def w5 (n : Nat) (o : Nat) (x : PV) : Option Obj -> Option Obj
 | some (.row .rw es cs) => if (k9 x).length = n /\ o + (k9 x).length <= cs.length /\ (k9 x).all w9 = true then some (.row .rw es (g8 cs o (k9 x))) else none
 | some (.row .own es cs) => if (k9 x).length = n /\ o + (k9 x).length <= cs.length /\ (k9 x).all w9 = true then some (.row .rw es (g8 cs o (k9 x))) else none
 | _ => none
section
variable {E : i9} {P : Program} {tm : List (Nat × PV)} {nt k d g n c e : Nat} {os os' : List Obj} {M : c7} {f : d9 -> Option PV} {F : d9 -> Option (PV × d9)} {r x va vb vc : PV} {l : List RI} {ld : List RD} {R : d9 -> Prop} {want : Bool} {A B C : Operand}
variable {bP : Bool -> PV -> PV}
abbrev Cnd (bP : Bool -> PV -> PV) : Prop := (∀ x, bP true x = x) /\ (∀ x, bP false x = .tup [])
theorem eqT (b : Bool) : (b == true) = b := by cases b <;> rfl
theorem eqF (b : Bool) : (b == false) = !b := by cases b <;> rfl
theorem aQJ {a b : Bool} (hc : Cnd bP) : S6 (.v (.bool a)) (.v (.bool true)) (bP (!a) (.v (.bool b))) = some (.v (.bool (a || b))) := by cases a <;> simp [S6, hc.1]
theorem aL4 {a b : Bool} (hc : Cnd bP) : S6 (.v (.bool a)) (bP a (.v (.bool b))) (.v (.bool false)) = some (.v (.bool (a && b))) := by cases a <;> simp [S6, hc.1]
end
end Go.Pm
end