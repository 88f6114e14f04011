/- TableMoves holds. Part 9 of 29; no condition. -/
import Derived.Test.YthjlhgjnjhmfbaaGreatDoorM8
set_option linter.unusedVariables false
set_option linter.unusedSimpArgs false
noncomputable section
namespace Go.Pm
open Go.RowKit Go.Am
abbrev T (i : Nat) : Operand := .tmp i
abbrev K (n : Int) : Operand := .const (.int .i64 n)
def oV (d : Nat) (f : PSt -> Option PV) : RI := .st (rI (some d) none (rv f))
def oG (d g : Nat) (w : Bool) (f : PSt -> Option PV) : RI := .st (rI (some d) (some (g, w)) (rv f))
def oU (d : Nat) (F : PSt -> Option (PV × PSt)) : RI := .st (rI (some d) none F)
def oS (F : PSt -> Option (PV × PSt)) : RI := .st (rI none none F)
def oC (d : Nat) (f : Operand) (as : List Operand) : RI := .call (some d) (fun s => rg none s) (fun s => pev s.tm f) (fun s => as.map (pev s.tm))
def oN (f : Operand) (as : List Operand) : RI := .call none (fun s => rg none s) (fun s => pev s.tm f) (fun s => as.map (pev s.tm))
def oCG (d g : Nat) (w : Bool) (f : Operand) (as : List Operand) : RI := .call (some d) (fun s => rg (some (g, w)) s) (fun s => pev s.tm f) (fun s => as.map (pev s.tm))
def oA (d sz by_ zl : Nat) (x y : Operand) : RI := .alt (rI (some d) none (rappend sz by_ zl x y)) (rI (some d) none (rappendR sz by_ zl x y))
def dA (d sz by_ zl : Nat) (x y : Operand) : RD := .alt true (rI (some d) none (rappend sz by_ zl x y)) (rI (some d) none (rappendR sz by_ zl x y))
def oZ (d sz by_ : Nat) (z : List PV) (x y : Operand) : RI := .alt (rI (some d) none rnone) (rI (some d) none (rappendZ sz by_ z x y))
def oL (d : Nat) (neg : Bool) (x : Operand) : RI := .nilc (some d) (fun s => rg none s) neg (fun s => pev s.tm x)
def dV (d : Nat) (f : PSt -> Option PV) : RD := .st true (rI (some d) none (rv f))
def dG (d g : Nat) (w : Bool) (f : PSt -> Option PV) : RD := .st true (rI (some d) (some (g, w)) (rv f))
def dU (d : Nat) (F : PSt -> Option (PV × PSt)) : RD := .st true (rI (some d) none F)
def dS (F : PSt -> Option (PV × PSt)) : RD := .st true (rI none none F)
def dC (fr : Bool) (d : Nat) (f : Operand) (as : List Operand) : RD := .call fr (some d) (fun s => rg none s) (fun s => pev s.tm f) (fun s => as.map (pev s.tm))
def dCG (fr : Bool) (d g : Nat) (w : Bool) (f : Operand) (as : List Operand) : RD := .call fr (some d) (fun s => rg (some (g, w)) s) (fun s => pev s.tm f) (fun s => as.map (pev s.tm))
def rX (t : Nat) : PSt -> PV := fun s => tget s.tm t
def rowTake (ag : Bool) (n o : Nat) : Option Obj -> Option PV
 | some (.row _ _ cs) => ptake ag n cs o
 | _ => none
def loadP (k : Nat) (os : List Obj) (M : PMem) (ag : Bool) (n : Nat) : PV -> Option PV
 | .ptr a i o => rowTake ag n o (if a = k then os[i]? else M a i)
 | .dp cs o => ptake ag n cs o
 | _ => none
def faddrP (off : Nat) : PV -> Option PV
 | .ptr k i o => some (.ptr k i (o + off))
 | .dp cs o => some (.dp cs (o + off))
 | _ => none
def fieldP (ag : Bool) (n off : Nat) : PV -> Option PV
 | .agg cs => rpart ag n off cs
 | _ => none
def extP (i : Nat) : PV -> Option PV
 | .tup vs => vs[i]?
 | _ => none
def storeO (n : Nat) (o : Nat) (x : PV) : Option Obj -> Option Obj
 | some (.row .rw es cs) => if (pcells x).length = n /\ o + (pcells x).length <= cs.length /\ (pcells x).all pone = true then some (.row .rw es (psplice cs o (pcells x))) else none
 | some (.row .own es cs) => if (pcells x).length = n /\ o + (pcells x).length <= cs.length /\ (pcells x).all pone = true then some (.row .rw es (psplice cs o (pcells x))) else none
 | _ => none
section
variable {E : Env} {P : Program} {tm : List (Nat × PV)} {nt k d g n c e : Nat} {os os' : List Obj} {M : PMem} {f : PSt -> Option PV} {F : PSt -> Option (PV × PSt)} {r x va vb vc : PV} {l : List RI} {ld : List RD} {R : PSt -> Prop} {want : Bool} {A B C : Operand}
variable {cnd : Bool -> PV -> PV}
abbrev Cnd (cnd : Bool -> PV -> PV) : Prop := (∀ x, cnd true x = x) /\ (∀ x, cnd false x = .tup [])
theorem eqT (b : Bool) : (b == true) = b := by cases b <;> rfl
theorem eqF (b : Bool) : (b == false) = !b := by cases b <;> rfl
theorem pick_or {a b : Bool} (hc : Cnd cnd) : ppick (.v (.bool a)) (.v (.bool true)) (cnd (!a) (.v (.bool b))) = some (.v (.bool (a || b))) := by cases a <;> simp [ppick, hc.1]
theorem pick_and {a b : Bool} (hc : Cnd cnd) : ppick (.v (.bool a)) (cnd a (.v (.bool b))) (.v (.bool false)) = some (.v (.bool (a && b))) := by cases a <;> simp [ppick, hc.1]
end
end Go.Pm
end