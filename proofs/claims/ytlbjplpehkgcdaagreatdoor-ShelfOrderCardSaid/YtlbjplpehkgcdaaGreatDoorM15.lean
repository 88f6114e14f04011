/- ShelfOrder holds. Part 15 of 32; no condition. -/
import Derived.Test.YtlbjplpehkgcdaaGreatDoorM14
set_option linter.unusedVariables false
set_option linter.unusedSimpArgs false
noncomputable section
namespace Go.Pm
open Go.RowKit Go.Am
section
variable {E : i9} {P : Program} {tm : List (Nat × PV)} {nt k d g n c i j o sz len t : Nat} {os os' : List Obj} {M : c7} {x y v va vb : PV} {A B : Operand} {as bs : List Operand} {z cs vs : List PV} {b ag : Bool} {pl : List (Nat × Nat)} {ps : List (Nat × Operand)} {pv : List (Nat × PV)} {kk : IntKind}
theorem aM7 : E8 (.agg cs) = true := rfl
theorem bBK {x : Value} : E8 (.v x) = true := rfl
theorem aMI {t : kV} {es : Nat} : E8 (.lst t es n cs) = true := rfl
theorem aOT : E8 (.ptr k i o) = true := rfl
theorem aSB : E8 (.dp cs o) = true := rfl
theorem aTK : E8 (.fn n cs vs) = true := rfl
theorem aTX : E8 (.iface n x) = true := rfl
theorem aNN : E8 (.tup cs) = true := rfl
def aJ (tm : List (Nat × PV)) : List (Nat × Operand) -> List (Nat × PV)
 | [] => []
 | (i, A) :: r => (i, l4 tm A) :: aJ tm r
theorem aLJ : aJ tm [] = [] := rfl
theorem aE6 : aJ tm ((i, A) :: ps) = (i, l4 tm A) :: aJ tm ps := rfl
theorem aT : ∀ ps : List (Nat × Operand), ps.map (fun p => (p.1, l4 tm p.2)) = aJ tm ps
 | [] => rfl
 | (i, A) :: r => by simp only [List.map_cons, aJ, aT r]
def aYH : Option (List PV) -> Option PV
 | some cs => some (.agg cs)
 | none => none
theorem aGW : aYH (some cs) = some (.agg cs) := rfl
def P5 (pl : List (Nat × Nat)) (cells : List PV) (l : List (Nat × PV)) : Option (List PV) := N7 (fun i => pl[i]?) cells l
def U6 (sz : Nat) (cells : List PV) (l : List (Nat × PV)) : Option (List PV) := N7 (fun i => some (i * sz, sz)) cells l
def zI (pl : List (Nat × Nat)) (cells : List PV) (v : PV) (l : List (Nat × PV)) : Option (Nat × Nat) -> Option (List PV)
 | some (off, sz) => if (k9 v).length = sz /\ off + (k9 v).length <= cells.length /\ E8 v = true then P5 pl (g8 cells off (k9 v)) l else none
 | none => none
theorem aLS : P5 pl z [] = some z := rfl
theorem aE8 : P5 pl z ((i, v) :: pv) = zI pl z v pv pl[i]? := by
 unfold P5 zI
 rw [N7]
 cases pl[i]? with
 | none => rfl
 | some p => rfl
theorem aK6 (h : (k9 v).length = sz /\ o + (k9 v).length <= z.length /\ E8 v = true) : zI pl z v pv (some (o, sz)) = P5 pl (g8 z o (k9 v)) pv := by
 unfold zI; dsimp only; rw [if_pos h]
theorem aNC : U6 sz z [] = some z := rfl
theorem aDZ (h : (k9 v).length = sz /\ i * sz + (k9 v).length <= z.length /\ E8 v = true) : U6 sz z ((i, v) :: pv) = U6 sz (g8 z (i * sz) (k9 v)) pv := by
 unfold U6; rw [N7]; dsimp only; rw [if_pos h]
theorem aDT : X1 z pl ps ⟨tm, nt, k, os, M⟩ = aYH (P5 pl z (aJ tm ps)) := by
 unfold X1 P5
 dsimp only
 rw [aT]
 generalize N7 _ _ _ = q
 cases q <;> rfl
theorem zG : oF sz z ps ⟨tm, nt, k, os, M⟩ = aYH (U6 sz z (aJ tm ps)) := by
 unfold oF U6
 dsimp only
 rw [aT]
 generalize N7 _ _ _ = q
 cases q <;> rfl
def bBU (tm : List (Nat × PV)) (nt k : Nat) (os : List Obj) (M : c7) (sz len : Nat) : Option (List PV) -> Option (PV × d9)
 | some cs => some (.lst .full sz len cs, ⟨tm, nt, k, os, M⟩)
 | none => none
theorem aFU : bBU tm nt k os M sz len (some cs) = some (.lst .full sz len cs, ⟨tm, nt, k, os, M⟩) := rfl
theorem aA6 : A4 sz len z ps ⟨tm, nt, k, os, M⟩ = bBU tm nt k os M sz len (U6 sz z (aJ tm ps)) := by
 unfold A4 U6
 dsimp only
 rw [aT]
 generalize N7 _ _ _ = q
 cases q <;> rfl
theorem bC5 : rfn n as bs ⟨tm, nt, k, os, M⟩ = some (.fn n (as.map (l4 tm)) (bs.map (l4 tm))) := rfl
def aBR : PV -> Option PV
 | .ptr k i o => some (.ptr k i o)
 | .dp cs o => some (.dp cs o)
 | .fn f a b => some (.fn f a b)
 | .yld k i => some (.yld k i)
 | .iface t x => some (.iface t x)
 | _ => none
theorem aS7 : Q7 A ⟨tm, nt, k, os, M⟩ = aBR (l4 tm A) := by
 unfold Q7 aBR; dsimp only; cases l4 tm A <;> rfl
theorem aOL : aBR (.ptr k i o) = some (.ptr k i o) := rfl
theorem aTI : aBR (.dp cs o) = some (.dp cs o) := rfl
theorem aTB : aBR (.fn n cs vs) = some (.fn n cs vs) := rfl
theorem aJ6 : aBR (.yld k i) = some (.yld k i) := rfl
theorem aNQ : aBR (bP b v) = cO b (aBR v) := by cases b <;> rfl
def wS (tm : List (Nat × PV)) (nt k : Nat) (os : List Obj) (M : c7) : Option PV -> Option (PV × d9)
 | some v => some (v, ⟨tm, nt, k, os, M⟩)
 | none => none
theorem aFD : wS tm nt k os M (some v) = some (v, ⟨tm, nt, k, os, M⟩) := rfl
theorem aF2 : qZ kk A ⟨tm, nt, k, os, M⟩ = wS tm nt k os M (dB kk (l4 tm A)) := by
 unfold qZ wS; dsimp only; cases dB kk (l4 tm A) <;> rfl
theorem aEV : xV A ⟨tm, nt, k, os, M⟩ = wS tm nt k os M (qY (l4 tm A)) := by
 unfold xV wS; dsimp only; cases qY (l4 tm A) <;> rfl
theorem aEL : aLD A ⟨tm, nt, k, os, M⟩ = wS tm nt k os M (iB (l4 tm A)) := by
 unfold aLD wS; dsimp only; cases iB (l4 tm A) <;> rfl
theorem aN2 {s : ByteArray} : iB (.v (.string s)) = some (.lst .no 1 s.data.toList.length (s.data.toList.map fun b => .v (.int .u8 b.toNat))) := rfl
theorem yY {lo hi mx : Option Operand} : fC sz A lo hi mx ⟨tm, nt, k, os, M⟩ = P0 sz (l4 tm A) (lo.map (l4 tm)) (hi.map (l4 tm)) (mx.map (l4 tm)) := rfl
theorem aA1 {lo hi : Option Operand} : O9 A lo hi ⟨tm, nt, k, os, M⟩ = U1 (l4 tm A) (lo.map (l4 tm)) (hi.map (l4 tm)) := rfl
theorem bC4 {f : Value -> List Value -> Option Value} : rmm f as ⟨tm, nt, k, os, M⟩ = pmm f (as.map (l4 tm)) := rfl
def aGP (len : Nat) (ag : Bool) (sz : Nat) (x i : PV) : Option PV := match B9 i with
 | some i => match x with
  | .agg cs => if i < len then aFA ag sz (i * sz) cs else none
  | _ => none
 | none => none
theorem aK3 : aOG len ag sz A B ⟨tm, nt, k, os, M⟩ = aGP len ag sz (l4 tm A) (l4 tm B) := by
 unfold aOG aGP; dsimp only
 cases B9 (l4 tm B) with
 | none => rfl
 | some i => cases l4 tm A <;> rfl
theorem aNG (h : n < len) : aGP len true sz (.agg cs) (.v (.int kk (n : Int))) = some (.agg ((cs.drop (n * sz)).take sz)) := by
 unfold aGP; rw [H6]; dsimp only; rw [if_pos h]; rfl
theorem aSN : bDD t A ⟨tm, nt, k, os, M⟩ = some (.iface t (l4 tm A)) := rfl
theorem aGL : aCC A ⟨tm, nt, k, os, M⟩ = lI ⟨tm, nt, k, os, M⟩ (l4 tm A) := rfl
theorem aLN {s : ByteArray} : lI ⟨tm, nt, k, os, M⟩ (.v (.string s)) = some (.ptr k os.length 0, ⟨tm, nt, k, os ++ [.str true s 0], M⟩) := rfl
def tyP (E : i9) (t : Nat) : Option (Bool × Nat) := (E.ty t).map fun y => (Am.isAgg y.desc, y.size)
theorem aEM (h : tyP E t = some (ag, n)) : mQ E ⟨tm, nt, k, os, M⟩ t va = y6 k os M ag n va := by
 unfold tyP at h
 cases hy : E.ty t with
 | none => rw [hy] at h; cases h
 | some y =>
  rw [hy] at h
  cases h
  unfold mQ y6
  rw [hy]
  dsimp only [d9.look]
  cases va with
  | ptr a i o =>
   dsimp only
   generalize (if a = k then os[i]? else M a i) = q
   unfold p9
   cases q with
   | none => rfl
   | some o => cases o <;> rfl
  | dp cs o => rfl
  | _ => rfl
theorem aZP {Q : PV -> c7 -> Prop} {body : Code} {nt' a : Nat} (hf : fresh M k) (ht : tyP E t = some (ag, n)) (hv : y6 k os M ag n (c8 tm a) = some v) (h : Q v M) : dK E ⟨nt, [.cell a t], body⟩ Q .ret ⟨tm, nt', k, os, M⟩ :=
 ⟨.inr rfl, [v], M, by simp only [bL, wR, aEM ht, hv], O6.pop hf, h⟩
theorem H7 {κ : V2} {R : d9 -> Prop} (hp : A0 E P g vs v) (hd : d < nt) (h : RK E P κ ⟨(d, v) :: tm, nt, k, os, M⟩ R) : cK E P (some d) κ tm nt k os M R vs (.fn g [] []) := cp (by rw [List.append_nil]; exact hp) hd h
theorem cq0 {κ : V2} {R : d9 -> Prop} (hp : A0 E P g vs v) (hd : d < nt) (h : RK E P κ ⟨(d, v) :: tm, nt, k, os, M⟩ R) : cQ E P (some d) κ tm nt k os M R vs (.fn g [] []) := cq (by rw [List.append_nil]; exact hp) hd h
theorem aIZ {κ : V2} {R : d9 -> Prop} (hp : b = true -> A0 E P g vs v) (hd : d < nt) (h : RK E P κ ⟨(d, bP b v) :: tm, nt, k, os, M⟩ R) : cG E P d true κ tm nt k os M R vs (.fn g [] []) (.v (.bool b)) := cgT (fun e => by rw [List.append_nil]; exact hp e) hd h
theorem bEC {κ : V2} {R : d9 -> Prop} (hp : b = false -> A0 E P g vs v) (hd : d < nt) (h : RK E P κ ⟨(d, bP (!b) v) :: tm, nt, k, os, M⟩ R) : cG E P d false κ tm nt k os M R vs (.fn g [] []) (.v (.bool b)) := cgF (fun e => by rw [List.append_nil]; exact hp e) hd h
end
theorem bAW {α : Type} {l : List α} : l.drop 0 = l := rfl
theorem aZE {α : Type} {a : α} {l : List α} {n : Nat} : (a :: l).drop (n + 1) = l.drop n := rfl
theorem aZA {α : Type} {l : List α} : l.take 0 = [] := rfl
theorem aZ6 {α : Type} {a : α} {l : List α} {n : Nat} : (a :: l).take (n + 1) = a :: l.take n := rfl
theorem aMT {cs : List PV} : g8 cs 0 [] = cs := by simp [g8]
theorem aGR {x y : PV} {cs vs : List PV} : g8 (x :: cs) 0 (y :: vs) = y :: g8 cs 0 vs := by simp [g8]
theorem FJ : type_of% (And.intro @aMT <| And.intro @aGR <| And.intro @aM7 <| And.intro @bBK <| And.intro @aMI <| And.intro @aOT <| And.intro @aSB <| And.intro @aTK <| And.intro @aTX <| And.intro @aNN <| And.intro @aLJ <| And.intro @aE6 <| And.intro @aGW <| And.intro @aLS <| And.intro @aE8 <| And.intro @aK6 <|
 And.intro @aNC <| And.intro @aDZ <| And.intro @aDT <| And.intro @zG <| And.intro @aA6 <| And.intro @aFU <| And.intro @bC5 <| And.intro @aS7 <| And.intro @aOL <| And.intro @aTI <| And.intro @aTB <| And.intro @aJ6 <| And.intro @aNQ <| And.intro @aFD <|
 And.intro @aF2 <| And.intro @aEV <| And.intro @aEL <| And.intro @aN2 <| And.intro @yY <| And.intro @aA1 <| And.intro @bC4 <| And.intro @aK3 <| And.intro @aNG <| And.intro @aSN <| And.intro @aGL <| And.intro @aLN <|
 And.intro @bAW <| And.intro @aZE <| And.intro @aZA @aZ6) := And.intro @aMT <| And.intro @aGR <| And.intro @aM7 <| And.intro @bBK <| And.intro @aMI <| And.intro @aOT <| And.intro @aSB <| And.intro @aTK <| And.intro @aTX <| And.intro @aNN <| And.intro @aLJ <| And.intro @aE6 <| And.intro @aGW <| And.intro @aLS <| And.intro @aE8 <| And.intro @aK6 <|
 And.intro @aNC <| And.intro @aDZ <| And.intro @aDT <| And.intro @zG <| And.intro @aA6 <| And.intro @aFU <| And.intro @bC5 <| And.intro @aS7 <| And.intro @aOL <| And.intro @aTI <| And.intro @aTB <| And.intro @aJ6 <| And.intro @aNQ <| And.intro @aFD <|
 And.intro @aF2 <| And.intro @aEV <| And.intro @aEL <| And.intro @aN2 <| And.intro @yY <| And.intro @aA1 <| And.intro @bC4 <| And.intro @aK3 <| And.intro @aNG <| And.intro @aSN <| And.intro @aGL <| And.intro @aLN <|
 And.intro @bAW <| And.intro @aZE <| And.intro @aZA @aZ6
end Go.Pm
end