/- TableWalks holds. Part 11 of 29; no condition. -/
import Derived.Test.YtnmidpahhhdlpaaGreatDoorM10
set_option linter.unusedVariables false
set_option linter.unusedSimpArgs false
namespace Go.Pm
open Go.RowKit Go.Am
section
variable {E : d9} {P : Program} {rd : Option (Nat × Nat)} {s : c5} {Q : c9 -> c5 -> Prop} {a b : RC} {i id : Nat}
def rC (id : Nat) (Q : c9 -> c5 -> Prop) : c9 -> c5 -> Prop := fun e s => Q (kK id e) s
theorem RX.blk (h : RX E P rd a s (rC id Q)) : RX E P rd (.block id a) s Q := RX.block h
variable {tm : List (Nat × PV)} {nt k nt' k' d g f : Nat} {os os' : List Obj} {M M' : b7} {e : c9} {l : List RI} {ld : List RD} {R : c5 -> Prop} {body : Code} {v v1 v2 : PV} {r r1 r2 : Nat}
def aOT (nt k n : Nat) (M : b7) (Q : c9 -> c5 -> Prop) : c9 -> c5 -> Prop := fun e s1 => ∃ os', s1.M = seg M k os' /\ os'.length = n /\ Q e ⟨s1.tm, nt, k, os', M⟩
theorem inq (hn : os'.length = i) (h : Q e ⟨tm, nt, k, os', M⟩) : aOT nt k i M Q e ⟨tm, nt', k', os, seg M k os'⟩ := ⟨os', rfl, hn, h⟩
theorem RX.inn (h : ∀ k', k' ≠ k -> 0 < k' -> fresh (seg M k os) k' -> RX E P rd a ⟨tm, nt, k', [], seg M k os⟩ (aOT nt k os.length M Q)) : RX E P rd a ⟨tm, nt, k, os, M⟩ Q :=
 RX.push fun k' h1 h2 h3 => by
  have hfr : fresh (seg M k os) k' := rV (s := ⟨tm, nt, k, os, M⟩) h3 h1
  refine (h k' h1 h2 hfr).conseq fun e s1 hk hn hq => ?_
  obtain ⟨os1, e1, e3, e2⟩ := hq
  have hk' : s1.k = k' := hk
  have hn' : s1.nt = nt := hn
  refine ⟨s1, uF.refl _, os1, M, e3, ?_, ?_⟩
  ·have : s1.mem = seg (seg M k os1) k' s1.os := by
    unfold c5.mem
    rw [e1, hk']
   rw [this]
   refine N3.pop fun i => ?_
   have := hfr i
   rw [l3 _ _ _ h1] at this ⊢
   exact this
  ·rw [hn']; exact e2
theorem u0.inn (h : ∀ k', k' ≠ k -> 0 < k' -> fresh (seg M k os) k' -> RX E P rd a ⟨tm, nt, k', [], seg M k os⟩ (aOT nt k os.length M (iW E P rd a Q))) : u0 E P rd a ⟨tm, nt, k, os, M⟩ Q :=
 u0.round (RX.inn h)
theorem vA {o : Obj} (h : i < os.length) : i6 (seg M k os) k i o = seg M k (os.set i o) := by
 funext a b
 unfold i6
 by_cases ha : a = k
 ·subst ha
  rw [i4, i4]
  by_cases hb : b = i
  ·subst hb; simp [h]
  ·rw [List.getElem?_set_ne (fun e => hb e.symm)]; simp [hb]
 ·rw [l3 _ _ _ ha, l3 _ _ _ ha]; simp [ha]
theorem i9 {Q : PV -> b7 -> Prop} (hf : fresh M k) (hv : a7 tm r = v) (h : Q v M) : bH E ⟨nt, [.tmp r], body⟩ Q .ret ⟨tm, nt', k, os, M⟩ := by
 subst hv; exact ⟨.inr rfl, [_], M, rfl, N3.pop hf, h⟩
theorem bD3 {Q : PV -> b7 -> Prop} (hf : fresh M k) (h : Q (.tup []) M) : bH E ⟨nt, [], body⟩ Q .ret ⟨tm, nt', k, os, M⟩ := ⟨.inr rfl, [], M, rfl, N3.pop hf, h⟩
theorem aSK {Q : PV -> b7 -> Prop} (hf : fresh M k) (h : Q (.tup []) M) : bH E ⟨nt, [], body⟩ Q .normal ⟨tm, nt', k, os, M⟩ := ⟨.inl rfl, [], M, rfl, N3.pop hf, h⟩
theorem cR {Q : PV -> b7 -> Prop} (hf : fresh M k) (hv1 : a7 tm r1 = v1) (hv2 : a7 tm r2 = v2) (h : Q (.tup [v1, v2]) M) : bH E ⟨nt, [.tmp r1, .tmp r2], body⟩ Q .ret ⟨tm, nt', k, os, M⟩ := by
 subst hv1 hv2; exact ⟨.inr rfl, [_, _], M, rfl, N3.pop hf, h⟩
variable {A : Operand} {as : List Operand} {vs first cap : List PV} {b' : Bool}
def r8 (E : d9) (P : Program) (f : Nat) (args : List PV) (v : PV) : Prop := ∀ M, PT E P f args M (fun x M1 => x = v /\ M1 = M)
theorem aD9 (hd : d < nt) (h : R ⟨(d, v) :: tm, nt, k, os', M⟩) (hl : os'.length = os.length) : qQ ⟨tm, nt, k, os, M'⟩ (some d) v (seg M k os') R :=
 ⟨os', M, ⟨(d, v) :: tm, nt, k, os', M⟩, hl, .refl _, by simp only [H8, if_pos hd], h⟩
theorem r8.args {args args' : List PV} (hl : S4 args args') (h : r8 E P f args' v) : r8 E P f args v := fun M => PT.args hl (h M)
theorem r8.weak {args : List PV} {v v' : PV} (h : r8 E P f args v) (hv : Q2 v v') : r8 E P f args v' := fun M => PT.conseq (h M) fun x M1 ⟨e1, e2⟩ => ⟨v', M1, by rw [e1]; exact hv, .refl _, rfl, e2⟩
end
end Go.Pm