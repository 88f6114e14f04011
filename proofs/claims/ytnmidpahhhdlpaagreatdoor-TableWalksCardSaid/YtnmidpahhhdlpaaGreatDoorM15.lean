/- TableWalks holds. Part 15 of 29; no condition. -/
import Derived.Test.YtnmidpahhhdlpaaGreatDoorM14
set_option linter.unusedVariables false
set_option linter.unusedSimpArgs false
noncomputable section
namespace Go.Pm
open Go.RowKit Go.Am
section
variable {E : d9} {P : Program} {tm : List (Nat × PV)} {nt k d g n c i j o sz len t : Nat} {os os' : List Obj} {M : b7} {x y v va vb : PV} {A B : Operand} {as bs : List Operand} {z cs vs : List PV} {b ag : Bool} {pl : List (Nat × Nat)} {ps : List (Nat × Operand)} {pv : List (Nat × PV)} {kk : IntKind}
theorem aJZ : B0 (.agg cs) = true := rfl
theorem bBR {x : Value} : B0 (.v x) = true := rfl
theorem aHA {t : lH} {es : Nat} : B0 (.lst t es n cs) = true := rfl
theorem aHJ : B0 (.ptr k i o) = true := rfl
theorem aSC : B0 (.dp cs o) = true := rfl
theorem aQ1 : B0 (.fn n cs vs) = true := rfl
theorem aSN : B0 (.iface n x) = true := rfl
theorem aIL : B0 (.tup cs) = true := rfl
def aT (tm : List (Nat × PV)) : List (Nat × Operand) -> List (Nat × PV)
 | [] => []
 | (i, A) :: r => (i, g7 tm A) :: aT tm r
theorem aK6 : aT tm [] = [] := rfl
theorem aC3 : aT tm ((i, A) :: ps) = (i, g7 tm A) :: aT tm ps := rfl
theorem dW : ∀ ps : List (Nat × Operand), ps.map (fun p => (p.1, g7 tm p.2)) = aT tm ps
 | [] => rfl
 | (i, A) :: r => by simp only [List.map_cons, aT, dW r]
def aTW : Option (List PV) -> Option PV
 | some cs => some (.agg cs)
 | none => none
theorem aC2 : aTW (some cs) = some (.agg cs) := rfl
def L5 (pl : List (Nat × Nat)) (cells : List PV) (l : List (Nat × PV)) : Option (List PV) := L7 (fun i => pl[i]?) cells l
def T6 (sz : Nat) (cells : List PV) (l : List (Nat × PV)) : Option (List PV) := L7 (fun i => some (i * sz, sz)) cells l
def sC (pl : List (Nat × Nat)) (cells : List PV) (v : PV) (l : List (Nat × PV)) : Option (Nat × Nat) -> Option (List PV)
 | some (off, sz) => if (e9 v).length = sz /\ off + (e9 v).length <= cells.length /\ B0 v = true then L5 pl (e8 cells off (e9 v)) l else none
 | none => none
theorem aH7 : L5 pl z [] = some z := rfl
theorem aDE : L5 pl z ((i, v) :: pv) = sC pl z v pv pl[i]? := by
 unfold L5 sC
 rw [L7]
 cases pl[i]? with
 | none => rfl
 | some p => rfl
theorem aM4 (h : (e9 v).length = sz /\ o + (e9 v).length <= z.length /\ B0 v = true) : sC pl z v pv (some (o, sz)) = L5 pl (e8 z o (e9 v)) pv := by
 unfold sC; dsimp only; rw [if_pos h]
theorem aLF : T6 sz z [] = some z := rfl
theorem aCR (h : (e9 v).length = sz /\ i * sz + (e9 v).length <= z.length /\ B0 v = true) : T6 sz z ((i, v) :: pv) = T6 sz (e8 z (i * sz) (e9 v)) pv := by
 unfold T6; rw [L7]; dsimp only; rw [if_pos h]
theorem aDZ : dE z pl ps ⟨tm, nt, k, os, M⟩ = aTW (L5 pl z (aT tm ps)) := by
 unfold dE L5
 dsimp only
 rw [dW]
 generalize L7 _ _ _ = q
 cases q <;> rfl
theorem zE : mO sz z ps ⟨tm, nt, k, os, M⟩ = aTW (T6 sz z (aT tm ps)) := by
 unfold mO T6
 dsimp only
 rw [dW]
 generalize L7 _ _ _ = q
 cases q <;> rfl
def bB2 (tm : List (Nat × PV)) (nt k : Nat) (os : List Obj) (M : b7) (sz len : Nat) : Option (List PV) -> Option (PV × c5)
 | some cs => some (.lst .full sz len cs, ⟨tm, nt, k, os, M⟩)
 | none => none
theorem aB8 : bB2 tm nt k os M sz len (some cs) = some (.lst .full sz len cs, ⟨tm, nt, k, os, M⟩) := rfl
theorem xC : C0 sz len z ps ⟨tm, nt, k, os, M⟩ = bB2 tm nt k os M sz len (T6 sz z (aT tm ps)) := by
 unfold C0 T6
 dsimp only
 rw [dW]
 generalize L7 _ _ _ = q
 cases q <;> rfl
theorem bA5 : rfn n as bs ⟨tm, nt, k, os, M⟩ = some (.fn n (as.map (g7 tm)) (bs.map (g7 tm))) := rfl
def xO : PV -> Option PV
 | .ptr k i o => some (.ptr k i o)
 | .dp cs o => some (.dp cs o)
 | .fn f a b => some (.fn f a b)
 | .yld k i => some (.yld k i)
 | .iface t x => some (.iface t x)
 | _ => none
theorem aRZ : aAC A ⟨tm, nt, k, os, M⟩ = xO (g7 tm A) := by
 unfold aAC xO; dsimp only; cases g7 tm A <;> rfl
theorem aLU : xO (.ptr k i o) = some (.ptr k i o) := rfl
theorem aQS : xO (.dp cs o) = some (.dp cs o) := rfl
theorem aR3 : xO (.fn n cs vs) = some (.fn n cs vs) := rfl
theorem aKY : xO (.yld k i) = some (.yld k i) := rfl
theorem aK1 : xO (aM b v) = cO b (xO v) := by cases b <;> rfl
def wS (tm : List (Nat × PV)) (nt k : Nat) (os : List Obj) (M : b7) : Option PV -> Option (PV × c5)
 | some v => some (v, ⟨tm, nt, k, os, M⟩)
 | none => none
theorem aEI : wS tm nt k os M (some v) = some (v, ⟨tm, nt, k, os, M⟩) := rfl
theorem aC1 : aBW kk A ⟨tm, nt, k, os, M⟩ = wS tm nt k os M (tL kk (g7 tm A)) := by
 unfold aBW wS; dsimp only; cases tL kk (g7 tm A) <;> rfl
theorem aEF : jT A ⟨tm, nt, k, os, M⟩ = wS tm nt k os M (nH (g7 tm A)) := by
 unfold jT wS; dsimp only; cases nH (g7 tm A) <;> rfl
theorem aB0 : aJ5 A ⟨tm, nt, k, os, M⟩ = wS tm nt k os M (fK (g7 tm A)) := by
 unfold aJ5 wS; dsimp only; cases fK (g7 tm A) <;> rfl
theorem aIU {s : ByteArray} : fK (.v (.string s)) = some (.lst .no 1 s.data.toList.length (s.data.toList.map fun b => .v (.int .u8 b.toNat))) := rfl
theorem zA {lo hi mx : Option Operand} : aB sz A lo hi mx ⟨tm, nt, k, os, M⟩ = G1 sz (g7 tm A) (lo.map (g7 tm)) (hi.map (g7 tm)) (mx.map (g7 tm)) := rfl
theorem wY {lo hi : Option Operand} : B1 A lo hi ⟨tm, nt, k, os, M⟩ = D4 (g7 tm A) (lo.map (g7 tm)) (hi.map (g7 tm)) := rfl
theorem aZE {f : Value -> List Value -> Option Value} : rmm f as ⟨tm, nt, k, os, M⟩ = pmm f (as.map (g7 tm)) := rfl
def aEU (len : Nat) (ag : Bool) (sz : Nat) (x i : PV) : Option PV := match v6 i with
 | some i => match x with
  | .agg cs => if i < len then aEK ag sz (i * sz) cs else none
  | _ => none
 | none => none
theorem aKE : aM9 len ag sz A B ⟨tm, nt, k, os, M⟩ = aEU len ag sz (g7 tm A) (g7 tm B) := by
 unfold aM9 aEU; dsimp only
 cases v6 (g7 tm B) with
 | none => rfl
 | some i => cases g7 tm A <;> rfl
theorem aKT (h : n < len) : aEU len true sz (.agg cs) (.v (.int kk (n : Int))) = some (.agg ((cs.drop (n * sz)).take sz)) := by
 unfold aEU; rw [w7]; dsimp only; rw [if_pos h]; rfl
theorem aSA : bED t A ⟨tm, nt, k, os, M⟩ = some (.iface t (g7 tm A)) := rfl
theorem aCK : aBS A ⟨tm, nt, k, os, M⟩ = jO ⟨tm, nt, k, os, M⟩ (g7 tm A) := rfl
theorem aJY {s : ByteArray} : jO ⟨tm, nt, k, os, M⟩ (.v (.string s)) = some (.ptr k os.length 0, ⟨tm, nt, k, os ++ [.str true s 0], M⟩) := rfl
def tyP (E : d9) (t : Nat) : Option (Bool × Nat) := (E.ty t).map fun y => (Am.isAgg y.desc, y.size)
theorem aEQ (h : tyP E t = some (ag, n)) : kQ E ⟨tm, nt, k, os, M⟩ t va = F7 k os M ag n va := by
 unfold tyP at h
 cases hy : E.ty t with
 | none => rw [hy] at h; cases h
 | some y =>
  rw [hy] at h
  cases h
  unfold kQ F7
  rw [hy]
  dsimp only [c5.look]
  cases va with
  | ptr a i o =>
   dsimp only
   generalize (if a = k then os[i]? else M a i) = q
   unfold A9
   cases q with
   | none => rfl
   | some o => cases o <;> rfl
  | dp cs o => rfl
  | _ => rfl
theorem aWB {Q : PV -> b7 -> Prop} {body : Code} {nt' a : Nat} (hf : fresh M k) (ht : tyP E t = some (ag, n)) (hv : F7 k os M ag n (a7 tm a) = some v) (h : Q v M) : bH E ⟨nt, [.cell a t], body⟩ Q .ret ⟨tm, nt', k, os, M⟩ :=
 ⟨.inr rfl, [v], M, by simp only [X5, uM, aEQ ht, hv], N3.pop hf, h⟩
theorem y7 {κ : O8} {R : c5 -> Prop} (hp : r8 E P g vs v) (hd : d < nt) (h : RK E P κ ⟨(d, v) :: tm, nt, k, os, M⟩ R) : cK E P (some d) κ tm nt k os M R vs (.fn g [] []) := cp (by rw [List.append_nil]; exact hp) hd h
theorem cq0 {κ : O8} {R : c5 -> Prop} (hp : r8 E P g vs v) (hd : d < nt) (h : RK E P κ ⟨(d, v) :: tm, nt, k, os, M⟩ R) : cQ E P (some d) κ tm nt k os M R vs (.fn g [] []) := cq (by rw [List.append_nil]; exact hp) hd h
theorem aV0 {κ : O8} {R : c5 -> Prop} (hp : b = true -> r8 E P g vs v) (hd : d < nt) (h : RK E P κ ⟨(d, aM b v) :: tm, nt, k, os, M⟩ R) : cG E P d true κ tm nt k os M R vs (.fn g [] []) (.v (.bool b)) := cgT (fun e => by rw [List.append_nil]; exact hp e) hd h
theorem bD2 {κ : O8} {R : c5 -> Prop} (hp : b = false -> r8 E P g vs v) (hd : d < nt) (h : RK E P κ ⟨(d, aM (!b) v) :: tm, nt, k, os, M⟩ R) : cG E P d false κ tm nt k os M R vs (.fn g [] []) (.v (.bool b)) := cgF (fun e => by rw [List.append_nil]; exact hp e) hd h
end
theorem bBO {α : Type} {l : List α} : l.drop 0 = l := rfl
theorem bBQ {α : Type} {a : α} {l : List α} {n : Nat} : (a :: l).drop (n + 1) = l.drop n := rfl
theorem bAO {α : Type} {l : List α} : l.take 0 = [] := rfl
theorem aXS {α : Type} {a : α} {l : List α} {n : Nat} : (a :: l).take (n + 1) = a :: l.take n := rfl
theorem aL8 {cs : List PV} : e8 cs 0 [] = cs := by simp [e8]
theorem aDA {x y : PV} {cs vs : List PV} : e8 (x :: cs) 0 (y :: vs) = y :: e8 cs 0 vs := by simp [e8]
theorem FJ : type_of% (And.intro @aL8 <| And.intro @aDA <| And.intro @aJZ <| And.intro @bBR <| And.intro @aHA <| And.intro @aHJ <| And.intro @aSC <| And.intro @aQ1 <| And.intro @aSN <| And.intro @aIL <| And.intro @aK6 <| And.intro @aC3 <| And.intro @aC2 <| And.intro @aH7 <| And.intro @aDE <| And.intro @aM4 <|
 And.intro @aLF <| And.intro @aCR <| And.intro @aDZ <| And.intro @zE <| And.intro @xC <| And.intro @aB8 <| And.intro @bA5 <| And.intro @aRZ <| And.intro @aLU <| And.intro @aQS <| And.intro @aR3 <| And.intro @aKY <| And.intro @aK1 <| And.intro @aEI <|
 And.intro @aC1 <| And.intro @aEF <| And.intro @aB0 <| And.intro @aIU <| And.intro @zA <| And.intro @wY <| And.intro @aZE <| And.intro @aKE <| And.intro @aKT <| And.intro @aSA <| And.intro @aCK <| And.intro @aJY <|
 And.intro @bBO <| And.intro @bBQ <| And.intro @bAO @aXS) := And.intro @aL8 <| And.intro @aDA <| And.intro @aJZ <| And.intro @bBR <| And.intro @aHA <| And.intro @aHJ <| And.intro @aSC <| And.intro @aQ1 <| And.intro @aSN <| And.intro @aIL <| And.intro @aK6 <| And.intro @aC3 <| And.intro @aC2 <| And.intro @aH7 <| And.intro @aDE <| And.intro @aM4 <|
 And.intro @aLF <| And.intro @aCR <| And.intro @aDZ <| And.intro @zE <| And.intro @xC <| And.intro @aB8 <| And.intro @bA5 <| And.intro @aRZ <| And.intro @aLU <| And.intro @aQS <| And.intro @aR3 <| And.intro @aKY <| And.intro @aK1 <| And.intro @aEI <|
 And.intro @aC1 <| And.intro @aEF <| And.intro @aB0 <| And.intro @aIU <| And.intro @zA <| And.intro @wY <| And.intro @aZE <| And.intro @aKE <| And.intro @aKT <| And.intro @aSA <| And.intro @aCK <| And.intro @aJY <|
 And.intro @bBO <| And.intro @bBQ <| And.intro @bAO @aXS
end Go.Pm
end