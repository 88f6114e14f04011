/- ShelfOrder holds. Part 14 of 32; no condition. -/
import Derived.Test.YtlbjplpehkgcdaaGreatDoorM13
set_option linter.unusedVariables false
set_option linter.unusedSimpArgs false
noncomputable section
namespace Go.Pm
open Go.RowKit Go.Am
def xV (x : Operand) : d9 -> Option (PV × d9) := fun s => match qY (l4 s.tm x) with
 | some v => some (v, s)
 | none => none
def aLD (x : Operand) : d9 -> Option (PV × d9) := fun s => match iB (l4 s.tm x) with
 | some v => some (v, s)
 | none => none
def aOG (len : Nat) (ag : Bool) (sz : Nat) (x i : Operand) : d9 -> Option PV := fun s => match B9 (l4 s.tm i) with
 | some i => match l4 s.tm x with
  | .agg cs => if i < len then aFA ag sz (i * sz) cs else none
  | _ => none
 | none => none
def oF (sz : Nat) (z : List PV) (k8 : List (Nat × Operand)) : d9 -> Option PV := fun s => (N7 (fun i => some (i * sz, sz)) z (k8.map fun p => (p.1, l4 s.tm p.2))).map .agg
def bDD (t : Nat) (x : Operand) : d9 -> Option PV := fun s => some (.iface t (l4 s.tm x))
def aCC (x : Operand) : d9 -> Option (PV × d9) := fun s => lI s (l4 s.tm x)
def aGM (it : Operand) : d9 -> Option (PV × d9) := fun s => aDQ s (l4 s.tm it) true
def Y2 : List Nat -> Code -> Code
 | [], c => c
 | i :: p, .seq a b => match i with
  | 0 => Y2 p a
  | _ => Y2 p b
 | i :: p, .cond _ a b => match i with
  | 0 => Y2 p a
  | _ => Y2 p b
 | _ :: p, .block _ a => Y2 p a
 | _ :: p, .loop a => Y2 p a
 | _ :: p, .scope a => Y2 p a
 | i :: p, .rangeFunc _ _ a b => match i with
  | 0 => Y2 p a
  | _ => Y2 p b
 | _, c => c
end Go.Pm
end