/- TableWalks holds. Part 14 of 29; no condition. -/
import Derived.Test.YtnmidpahhhdlpaaGreatDoorM13
set_option linter.unusedVariables false
set_option linter.unusedSimpArgs false
noncomputable section
namespace Go.Pm
open Go.RowKit Go.Am
def jT (x : Operand) : c5 -> Option (PV × c5) := fun s => match nH (g7 s.tm x) with
 | some v => some (v, s)
 | none => none
def aJ5 (x : Operand) : c5 -> Option (PV × c5) := fun s => match fK (g7 s.tm x) with
 | some v => some (v, s)
 | none => none
def aM9 (len : Nat) (ag : Bool) (sz : Nat) (x i : Operand) : c5 -> Option PV := fun s => match v6 (g7 s.tm i) with
 | some i => match g7 s.tm x with
  | .agg cs => if i < len then aEK ag sz (i * sz) cs else none
  | _ => none
 | none => none
def mO (sz : Nat) (z : List PV) (b6 : List (Nat × Operand)) : c5 -> Option PV := fun s => (L7 (fun i => some (i * sz, sz)) z (b6.map fun p => (p.1, g7 s.tm p.2))).map .agg
def bED (t : Nat) (x : Operand) : c5 -> Option PV := fun s => some (.iface t (g7 s.tm x))
def aBS (x : Operand) : c5 -> Option (PV × c5) := fun s => jO s (g7 s.tm x)
def aDD (it : Operand) : c5 -> Option (PV × c5) := fun s => aCY s (g7 s.tm it) true
def Q8 : List Nat -> Code -> Code
 | [], c => c
 | i :: p, .seq a b => match i with
  | 0 => Q8 p a
  | _ => Q8 p b
 | i :: p, .cond _ a b => match i with
  | 0 => Q8 p a
  | _ => Q8 p b
 | _ :: p, .block _ a => Q8 p a
 | _ :: p, .loop a => Q8 p a
 | _ :: p, .scope a => Q8 p a
 | i :: p, .rangeFunc _ _ a b => match i with
  | 0 => Q8 p a
  | _ => Q8 p b
 | _, c => c
end Go.Pm
end