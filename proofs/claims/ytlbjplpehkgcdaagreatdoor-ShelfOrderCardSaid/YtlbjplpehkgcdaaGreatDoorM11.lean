/- ShelfOrder holds. Part 11 of 32; no condition. -/
import Derived.Test.YtlbjplpehkgcdaaGreatDoorM10
set_option linter.unusedVariables false
set_option linter.unusedSimpArgs false
namespace Go.Pm
open Go.RowKit Go.Am
section
variable {E : i9} {P : Program} {rd : Option (Nat × Nat)} {s : d9} {Q : f7 -> d9 -> Prop} {a b : RC} {i id : Nat}
def yB (id : Nat) (Q : f7 -> d9 -> Prop) : f7 -> d9 -> Prop := fun e s => Q (nD id e) s
theorem RX.blk (h : RX E P rd a s (yB id Q)) : RX E P rd (.block id a) s Q := RX.block h
variable {tm : List (Nat × PV)} {nt k nt' k' d g f : Nat} {os os' : List Obj} {M M' : c7} {e : f7} {l : List RI} {ld : List RD} {R : d9 -> Prop} {body : Code} {v v1 v2 : PV} {r r1 r2 : Nat}
def aQL (nt k n : Nat) (M : c7) (Q : f7 -> d9 -> Prop) : f7 -> d9 -> Prop := fun e s1 => ∃ os', s1.M = seg M k os' /\ os'.length = n /\ Q e ⟨s1.tm, nt, k, os', M⟩
theorem inq (hn : os'.length = i) (h : Q e ⟨tm, nt, k, os', M⟩) : aQL nt k i M Q e ⟨tm, nt', k', os, seg M k os'⟩ := ⟨os', rfl, hn, h⟩
theorem RX.inn (h : ∀ k', k' ≠ k -> 0 < k' -> fresh (seg M k os) k' -> RX E P rd a ⟨tm, nt, k', [], seg M k os⟩ (aQL nt k os.length M Q)) : RX E P rd a ⟨tm, nt, k, os, M⟩ Q :=
 RX.push fun k' h1 h2 h3 => by
  have hfr : fresh (seg M k os) k' := tN (s := ⟨tm, nt, k, os, M⟩) h3 h1
  refine (h k' h1 h2 hfr).conseq fun e s1 hk hn hq => ?_
  obtain ⟨os1, e1, e3, e2⟩ := hq
  have hk' : s1.k = k' := hk
  have hn' : s1.nt = nt := hn
  refine ⟨s1, wB.refl _, os1, M, e3, ?_, ?_⟩
  ·have : s1.mem = seg (seg M k os1) k' s1.os := by
    unfold d9.mem
    rw [e1, hk']
   rw [this]
   refine O6.pop fun i => ?_
   have := hfr i
   rw [g6 _ _ _ h1] at this ⊢
   exact this
  ·rw [hn']; exact e2
theorem w7.inn (h : ∀ k', k' ≠ k -> 0 < k' -> fresh (seg M k os) k' -> RX E P rd a ⟨tm, nt, k', [], seg M k os⟩ (aQL nt k os.length M (lQ E P rd a Q))) : w7 E P rd a ⟨tm, nt, k, os, M⟩ Q :=
 w7.round (RX.inn h)
theorem wH {o : Obj} (h : i < os.length) : l7 (seg M k os) k i o = seg M k (os.set i o) := by
 funext a b
 unfold l7
 by_cases ha : a = k
 ·subst ha
  rw [e8, e8]
  by_cases hb : b = i
  ·subst hb; simp [h]
  ·rw [List.getElem?_set_ne (fun e => hb e.symm)]; simp [hb]
 ·rw [g6 _ _ _ ha, g6 _ _ _ ha]; simp [ha]
theorem m6 {Q : PV -> c7 -> Prop} (hf : fresh M k) (hv : c8 tm r = v) (h : Q v M) : dK E ⟨nt, [.tmp r], body⟩ Q .ret ⟨tm, nt', k, os, M⟩ := by
 subst hv; exact ⟨.inr rfl, [_], M, rfl, O6.pop hf, h⟩
theorem bDF {Q : PV -> c7 -> Prop} (hf : fresh M k) (h : Q (.tup []) M) : dK E ⟨nt, [], body⟩ Q .ret ⟨tm, nt', k, os, M⟩ := ⟨.inr rfl, [], M, rfl, O6.pop hf, h⟩
theorem aSO {Q : PV -> c7 -> Prop} (hf : fresh M k) (h : Q (.tup []) M) : dK E ⟨nt, [], body⟩ Q .normal ⟨tm, nt', k, os, M⟩ := ⟨.inl rfl, [], M, rfl, O6.pop hf, h⟩
theorem qH {Q : PV -> c7 -> Prop} (hf : fresh M k) (hv1 : c8 tm r1 = v1) (hv2 : c8 tm r2 = v2) (h : Q (.tup [v1, v2]) M) : dK E ⟨nt, [.tmp r1, .tmp r2], body⟩ Q .ret ⟨tm, nt', k, os, M⟩ := by
 subst hv1 hv2; exact ⟨.inr rfl, [_, _], M, rfl, O6.pop hf, h⟩
variable {A : Operand} {as : List Operand} {vs first cap : List PV} {b' : Bool}
def A0 (E : i9) (P : Program) (f : Nat) (args : List PV) (v : PV) : Prop := ∀ M, PT E P f args M (fun x M1 => x = v /\ M1 = M)
theorem aE4 (hd : d < nt) (h : R ⟨(d, v) :: tm, nt, k, os', M⟩) (hl : os'.length = os.length) : tD ⟨tm, nt, k, os, M'⟩ (some d) v (seg M k os') R :=
 ⟨os', M, ⟨(d, v) :: tm, nt, k, os', M⟩, hl, .refl _, by simp only [K4, if_pos hd], h⟩
theorem A0.args {args args' : List PV} (hl : dI args args') (h : A0 E P f args' v) : A0 E P f args v := fun M => PT.args hl (h M)
theorem A0.weak {args : List PV} {v v' : PV} (h : A0 E P f args v) (hv : J6 v v') : A0 E P f args v' := fun M => PT.conseq (h M) fun x M1 ⟨e1, e2⟩ => ⟨v', M1, by rw [e1]; exact hv, .refl _, rfl, e2⟩
end
end Go.Pm