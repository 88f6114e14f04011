/- TableMoves holds. Part 11 of 29; no condition. -/
import Derived.Test.YthjlhgjnjhmfbaaGreatDoorM10
set_option linter.unusedVariables false
set_option linter.unusedSimpArgs false
namespace Go.Pm
open Go.RowKit Go.Am
section
variable {E : Env} {P : Program} {rd : Option (Nat × Nat)} {s : PSt} {Q : AExit -> PSt -> Prop} {a b : RC} {i id : Nat}
def blkQ (id : Nat) (Q : AExit -> PSt -> Prop) : AExit -> PSt -> Prop := fun e s => Q (inBlk id e) s
theorem RX.blk (h : RX E P rd a s (blkQ id Q)) : RX E P rd (.block id a) s Q := RX.block h
variable {tm : List (Nat × PV)} {nt k nt' k' d g f : Nat} {os os' : List Obj} {M M' : PMem} {e : AExit} {l : List RI} {ld : List RD} {R : PSt -> Prop} {body : Code} {v v1 v2 : PV} {r r1 r2 : Nat}
def innQ (nt k n : Nat) (M : PMem) (Q : AExit -> PSt -> Prop) : AExit -> PSt -> Prop := fun e s1 => ∃ os', s1.M = seg M k os' /\ os'.length = n /\ Q e ⟨s1.tm, nt, k, os', M⟩
theorem inq (hn : os'.length = i) (h : Q e ⟨tm, nt, k, os', M⟩) : innQ nt k i M Q e ⟨tm, nt', k', os, seg M k os'⟩ := ⟨os', rfl, hn, h⟩
theorem RX.inn (h : ∀ k', k' ≠ k -> 0 < k' -> fresh (seg M k os) k' -> RX E P rd a ⟨tm, nt, k', [], seg M k os⟩ (innQ nt k os.length M Q)) : RX E P rd a ⟨tm, nt, k, os, M⟩ Q :=
 RX.push fun k' h1 h2 h3 => by
  have hfr : fresh (seg M k os) k' := fresh_mem (s := ⟨tm, nt, k, os, M⟩) h3 h1
  refine (h k' h1 h2 hfr).conseq fun e s1 hk hn hq => ?_
  obtain ⟨os1, e1, e3, e2⟩ := hq
  have hk' : s1.k = k' := hk
  have hn' : s1.nt = nt := hn
  refine ⟨s1, SLe.refl _, os1, M, e3, ?_, ?_⟩
  ·have : s1.mem = seg (seg M k os1) k' s1.os := by
    unfold PSt.mem
    rw [e1, hk']
   rw [this]
   refine MLe.pop fun i => ?_
   have := hfr i
   rw [seg_ne _ _ _ h1] at this ⊢
   exact this
  ·rw [hn']; exact e2
theorem RXL.inn (h : ∀ k', k' ≠ k -> 0 < k' -> fresh (seg M k os) k' -> RX E P rd a ⟨tm, nt, k', [], seg M k os⟩ (innQ nt k os.length M (thenRL E P rd a Q))) : RXL E P rd a ⟨tm, nt, k, os, M⟩ Q :=
 RXL.round (RX.inn h)
theorem put_seg {o : Obj} (h : i < os.length) : putM (seg M k os) k i o = seg M k (os.set i o) := by
 funext a b
 unfold putM
 by_cases ha : a = k
 ·subst ha
  rw [seg_same, seg_same]
  by_cases hb : b = i
  ·subst hb; simp [h]
  ·rw [List.getElem?_set_ne (fun e => hb e.symm)]; simp [hb]
 ·rw [seg_ne _ _ _ ha, seg_ne _ _ _ ha]; simp [ha]
theorem end1 {Q : PV -> PMem -> Prop} (hf : fresh M k) (hv : tget tm r = v) (h : Q v M) : ends E ⟨nt, [.tmp r], body⟩ Q .ret ⟨tm, nt', k, os, M⟩ := by
 subst hv; exact ⟨.inr rfl, [_], M, rfl, MLe.pop hf, h⟩
theorem end0 {Q : PV -> PMem -> Prop} (hf : fresh M k) (h : Q (.tup []) M) : ends E ⟨nt, [], body⟩ Q .ret ⟨tm, nt', k, os, M⟩ := ⟨.inr rfl, [], M, rfl, MLe.pop hf, h⟩
theorem end0' {Q : PV -> PMem -> Prop} (hf : fresh M k) (h : Q (.tup []) M) : ends E ⟨nt, [], body⟩ Q .normal ⟨tm, nt', k, os, M⟩ := ⟨.inl rfl, [], M, rfl, MLe.pop hf, h⟩
theorem end2 {Q : PV -> PMem -> Prop} (hf : fresh M k) (hv1 : tget tm r1 = v1) (hv2 : tget tm r2 = v2) (h : Q (.tup [v1, v2]) M) : ends E ⟨nt, [.tmp r1, .tmp r2], body⟩ Q .ret ⟨tm, nt', k, os, M⟩ := by
 subst hv1 hv2; exact ⟨.inr rfl, [_, _], M, rfl, MLe.pop hf, h⟩
variable {A : Operand} {as : List Operand} {vs first cap : List PV} {b' : Bool}
def PTp (E : Env) (P : Program) (f : Nat) (args : List PV) (v : PV) : Prop := ∀ M, PT E P f args M (fun x M1 => x = v /\ M1 = M)
theorem took_eq (hd : d < nt) (h : R ⟨(d, v) :: tm, nt, k, os', M⟩) (hl : os'.length = os.length) : took ⟨tm, nt, k, os, M'⟩ (some d) v (seg M k os') R :=
 ⟨os', M, ⟨(d, v) :: tm, nt, k, os', M⟩, hl, .refl _, by simp only [pput, if_pos hd], h⟩
theorem PTp.args {args args' : List PV} (hl : PLes args args') (h : PTp E P f args' v) : PTp E P f args v := fun M => PT.args hl (h M)
theorem PTp.weak {args : List PV} {v v' : PV} (h : PTp E P f args v) (hv : PLe v v') : PTp E P f args v' := fun M => PT.conseq (h M) fun x M1 ⟨e1, e2⟩ => ⟨v', M1, by rw [e1]; exact hv, .refl _, rfl, e2⟩
end
end Go.Pm