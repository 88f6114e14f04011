/- TableWalks holds. Part 9 of 29; no condition. -/
import Derived.Test.YtnmidpahhhdlpaaGreatDoorM8
set_option linter.unusedVariables false
set_option linter.unusedSimpArgs false
noncomputable section
namespace Go.Pm
open Go.RowKit Go.Am
abbrev T (i : Nat) : Operand := .tmp i
abbrev K (n : Int) : Operand := .const (.int .i64 n)
def oV (d : Nat) (f : c5 -> Option PV) : RI := .st (rI (some d) none (rv f))
def oG (d g : Nat) (w : Bool) (f : c5 -> Option PV) : RI := .st (rI (some d) (some (g, w)) (rv f))
def oU (d : Nat) (F : c5 -> Option (PV × c5)) : RI := .st (rI (some d) none F)
def oH (d g : Nat) (w : Bool) (F : c5 -> Option (PV × c5)) : RI := .st (rI (some d) (some (g, w)) F)
def oS (F : c5 -> Option (PV × c5)) : RI := .st (rI none none F)
def oC (d : Nat) (f : Operand) (as : List Operand) : RI := .call (some d) (fun s => rg none s) (fun s => g7 s.tm f) (fun s => as.map (g7 s.tm))
def oN (f : Operand) (as : List Operand) : RI := .call none (fun s => rg none s) (fun s => g7 s.tm f) (fun s => as.map (g7 s.tm))
def oCG (d g : Nat) (w : Bool) (f : Operand) (as : List Operand) : RI := .call (some d) (fun s => rg (some (g, w)) s) (fun s => g7 s.tm f) (fun s => as.map (g7 s.tm))
def oA (d sz by_ zl : Nat) (x y : Operand) : RI := .alt (rI (some d) none (J4 sz by_ zl x y)) (rI (some d) none (M6 sz by_ zl x y))
def dA (d sz by_ zl : Nat) (x y : Operand) : RD := .alt true (rI (some d) none (J4 sz by_ zl x y)) (rI (some d) none (M6 sz by_ zl x y))
def dQ (d sz by_ zl : Nat) (x y : Operand) : RD := .apq (rI (some d) none (J4 sz by_ zl x y)) (fun s => g7 s.tm x)
def oZ (d sz by_ : Nat) (z : List PV) (x y : Operand) : RI := .alt (rI (some d) none aR7) (rI (some d) none (cN sz by_ z x y))
def oL (d : Nat) (neg : Bool) (x : Operand) : RI := .nilc (some d) (fun s => rg none s) neg (fun s => g7 s.tm x)
def dV (d : Nat) (f : c5 -> Option PV) : RD := .st true (rI (some d) none (rv f))
def dG (d g : Nat) (w : Bool) (f : c5 -> Option PV) : RD := .st true (rI (some d) (some (g, w)) (rv f))
def dU (d : Nat) (F : c5 -> Option (PV × c5)) : RD := .st true (rI (some d) none F)
def dS (F : c5 -> Option (PV × c5)) : RD := .st true (rI none none F)
def dC (fr : Bool) (d : Nat) (f : Operand) (as : List Operand) : RD := .call fr (some d) (fun s => rg none s) (fun s => g7 s.tm f) (fun s => as.map (g7 s.tm))
def dCG (fr : Bool) (d g : Nat) (w : Bool) (f : Operand) (as : List Operand) : RD := .call fr (some d) (fun s => rg (some (g, w)) s) (fun s => g7 s.tm f) (fun s => as.map (g7 s.tm))
def rX (t : Nat) : c5 -> PV := fun s => a7 s.tm t
def A9 (ag : Bool) (n o : Nat) : Option Obj -> Option PV
 | some (.row _ _ cs) => o9 ag n cs o
 | _ => none
def F7 (k : Nat) (os : List Obj) (M : b7) (ag : Bool) (n : Nat) : PV -> Option PV
 | .ptr a i o => A9 ag n o (if a = k then os[i]? else M a i)
 | .dp cs o => o9 ag n cs o
 | _ => none
def qC (off : Nat) : PV -> Option PV
 | .ptr k i o => some (.ptr k i (o + off))
 | .dp cs o => some (.dp cs (o + off))
 | _ => none
def mW (ag : Bool) (n off : Nat) : PV -> Option PV
 | .agg cs => aEK ag n off cs
 | _ => none
def aX4 (i : Nat) : PV -> Option PV
 | .tup vs => vs[i]?
 | _ => none
def q8 (n : Nat) (o : Nat) (x : PV) : Option Obj -> Option Obj
 | some (.row .rw es cs) => if (e9 x).length = n /\ o + (e9 x).length <= cs.length /\ (e9 x).all p7 = true then some (.row .rw es (e8 cs o (e9 x))) else none
 | some (.row .own es cs) => if (e9 x).length = n /\ o + (e9 x).length <= cs.length /\ (e9 x).all p7 = true then some (.row .rw es (e8 cs o (e9 x))) else none
 | _ => none
section
variable {E : d9} {P : Program} {tm : List (Nat × PV)} {nt k d g n c e : Nat} {os os' : List Obj} {M : b7} {f : c5 -> Option PV} {F : c5 -> Option (PV × c5)} {r x va vb vc : PV} {l : List RI} {ld : List RD} {R : c5 -> Prop} {want : Bool} {A B C : Operand}
variable {aM : Bool -> PV -> PV}
abbrev Cnd (aM : Bool -> PV -> PV) : Prop := (∀ x, aM true x = x) /\ (∀ x, aM false x = .tup [])
theorem eqT (b : Bool) : (b == true) = b := by cases b <;> rfl
theorem eqF (b : Bool) : (b == false) = !b := by cases b <;> rfl
theorem aP4 {a b : Bool} (hc : Cnd aM) : P1 (.v (.bool a)) (.v (.bool true)) (aM (!a) (.v (.bool b))) = some (.v (.bool (a || b))) := by cases a <;> simp [P1, hc.1]
theorem aIX {a b : Bool} (hc : Cnd aM) : P1 (.v (.bool a)) (aM a (.v (.bool b))) (.v (.bool false)) = some (.v (.bool (a && b))) := by cases a <;> simp [P1, hc.1]
end
end Go.Pm
end