/- TableMoves holds. Part 14 of 29; no condition. -/
import Derived.Test.YthjlhgjnjhmfbaaGreatDoorM13
set_option linter.unusedVariables false
set_option linter.unusedSimpArgs false
noncomputable section
namespace Go.Pm
open Go.RowKit Go.Am
def rconvB (x : Operand) : PSt -> Option (PV × PSt) := fun s => match convB (pev s.tm x) with
 | some v => some (v, s)
 | none => none
def rbytes (x : Operand) : PSt -> Option (PV × PSt) := fun s => match bytesS (pev s.tm x) with
 | some v => some (v, s)
 | none => none
def ridxA (len : Nat) (ag : Bool) (sz : Nat) (x i : Operand) : PSt -> Option PV := fun s => match pnat? (pev s.tm i) with
 | some i => match pev s.tm x with
  | .agg cs => if i < len then rpart ag sz (i * sz) cs else none
  | _ => none
 | none => none
def rbuildA (sz : Nat) (z : List PV) (parts : List (Nat × Operand)) : PSt -> Option PV := fun s => (pfill (fun i => some (i * sz, sz)) z (parts.map fun p => (p.1, pev s.tm p.2))).map .agg
def rmkI (t : Nat) (x : Operand) : PSt -> Option PV := fun s => some (.iface t (pev s.tm x))
def rrange (x : Operand) : PSt -> Option (PV × PSt) := fun s => rangeS s (pev s.tm x)
def rnext (it : Operand) : PSt -> Option (PV × PSt) := fun s => pnext s (pev s.tm it) true
def subc : List Nat -> Code -> Code
 | [], c => c
 | i :: p, .seq a b => match i with
  | 0 => subc p a
  | _ => subc p b
 | i :: p, .cond _ a b => match i with
  | 0 => subc p a
  | _ => subc p b
 | _ :: p, .block _ a => subc p a
 | _ :: p, .loop a => subc p a
 | _ :: p, .scope a => subc p a
 | i :: p, .rangeFunc _ _ a b => match i with
  | 0 => subc p a
  | _ => subc p b
 | _, c => c
end Go.Pm
end