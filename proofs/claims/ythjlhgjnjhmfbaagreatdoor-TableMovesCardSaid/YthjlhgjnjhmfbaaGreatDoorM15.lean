/- TableMoves holds. Part 15 of 29; no condition. -/
import Derived.Test.YthjlhgjnjhmfbaaGreatDoorM14
set_option linter.unusedVariables false
set_option linter.unusedSimpArgs false
noncomputable section
namespace Go.Pm
open Go.RowKit Go.Am
section
variable {E : Env} {P : Program} {tm : List (Nat × PV)} {nt k d g n c i j o sz len t : Nat} {os os' : List Obj} {M : PMem} {x y v va vb : PV} {A B : Operand} {as bs : List Operand} {z cs vs : List PV} {b ag : Bool} {pl : List (Nat × Nat)} {ps : List (Nat × Operand)} {pv : List (Nat × PV)} {kk : IntKind}
theorem nj_agg : notJunk (.agg cs) = true := rfl
theorem nj_v {x : Value} : notJunk (.v x) = true := rfl
theorem nj_lst {t : Tok} {es : Nat} : notJunk (.lst t es n cs) = true := rfl
theorem nj_ptr : notJunk (.ptr k i o) = true := rfl
theorem nj_dp : notJunk (.dp cs o) = true := rfl
theorem nj_fn : notJunk (.fn n cs vs) = true := rfl
theorem nj_if : notJunk (.iface n x) = true := rfl
theorem nj_tup : notJunk (.tup cs) = true := rfl
def partsV (tm : List (Nat × PV)) : List (Nat × Operand) -> List (Nat × PV)
 | [] => []
 | (i, A) :: r => (i, pev tm A) :: partsV tm r
theorem pv_nil : partsV tm [] = [] := rfl
theorem pv_cons : partsV tm ((i, A) :: ps) = (i, pev tm A) :: partsV tm ps := rfl
theorem partsV_eq : ∀ ps : List (Nat × Operand), ps.map (fun p => (p.1, pev tm p.2)) = partsV tm ps
 | [] => rfl
 | (i, A) :: r => by simp only [List.map_cons, partsV, partsV_eq r]
def aggO : Option (List PV) -> Option PV
 | some cs => some (.agg cs)
 | none => none
theorem ag_some : aggO (some cs) = some (.agg cs) := rfl
def fillL (pl : List (Nat × Nat)) (cells : List PV) (l : List (Nat × PV)) : Option (List PV) := pfill (fun i => pl[i]?) cells l
def fillA (sz : Nat) (cells : List PV) (l : List (Nat × PV)) : Option (List PV) := pfill (fun i => some (i * sz, sz)) cells l
def fillN (pl : List (Nat × Nat)) (cells : List PV) (v : PV) (l : List (Nat × PV)) : Option (Nat × Nat) -> Option (List PV)
 | some (off, sz) => if (pcells v).length = sz /\ off + (pcells v).length <= cells.length /\ notJunk v = true then fillL pl (psplice cells off (pcells v)) l else none
 | none => none
theorem fl_nil : fillL pl z [] = some z := rfl
theorem fl_cons : fillL pl z ((i, v) :: pv) = fillN pl z v pv pl[i]? := by
 unfold fillL fillN
 rw [pfill]
 cases pl[i]? with
 | none => rfl
 | some p => rfl
theorem fl_put (h : (pcells v).length = sz /\ o + (pcells v).length <= z.length /\ notJunk v = true) : fillN pl z v pv (some (o, sz)) = fillL pl (psplice z o (pcells v)) pv := by
 unfold fillN; dsimp only; rw [if_pos h]
theorem fa_nil : fillA sz z [] = some z := rfl
theorem fa_cons (h : (pcells v).length = sz /\ i * sz + (pcells v).length <= z.length /\ notJunk v = true) : fillA sz z ((i, v) :: pv) = fillA sz (psplice z (i * sz) (pcells v)) pv := by
 unfold fillA; rw [pfill]; dsimp only; rw [if_pos h]
theorem r_build : rbuild z pl ps ⟨tm, nt, k, os, M⟩ = aggO (fillL pl z (partsV tm ps)) := by
 unfold rbuild fillL
 dsimp only
 rw [partsV_eq]
 generalize pfill _ _ _ = q
 cases q <;> rfl
theorem r_buildA : rbuildA sz z ps ⟨tm, nt, k, os, M⟩ = aggO (fillA sz z (partsV tm ps)) := by
 unfold rbuildA fillA
 dsimp only
 rw [partsV_eq]
 generalize pfill _ _ _ = q
 cases q <;> rfl
def lstO (tm : List (Nat × PV)) (nt k : Nat) (os : List Obj) (M : PMem) (sz len : Nat) : Option (List PV) -> Option (PV × PSt)
 | some cs => some (.lst .full sz len cs, ⟨tm, nt, k, os, M⟩)
 | none => none
theorem lo_some : lstO tm nt k os M sz len (some cs) = some (.lst .full sz len cs, ⟨tm, nt, k, os, M⟩) := rfl
theorem r_buildL : rbuildL sz len z ps ⟨tm, nt, k, os, M⟩ = lstO tm nt k os M sz len (fillA sz z (partsV tm ps)) := by
 unfold rbuildL fillA
 dsimp only
 rw [partsV_eq]
 generalize pfill _ _ _ = q
 cases q <;> rfl
theorem r_fn : rfn n as bs ⟨tm, nt, k, os, M⟩ = some (.fn n (as.map (pev tm)) (bs.map (pev tm))) := rfl
def nilP : PV -> Option PV
 | .ptr k i o => some (.ptr k i o)
 | .dp cs o => some (.dp cs o)
 | .fn f a b => some (.fn f a b)
 | .yld k i => some (.yld k i)
 | .iface t x => some (.iface t x)
 | _ => none
theorem r_nil : rnil A ⟨tm, nt, k, os, M⟩ = nilP (pev tm A) := by
 unfold rnil nilP; dsimp only; cases pev tm A <;> rfl
theorem np_ptr : nilP (.ptr k i o) = some (.ptr k i o) := rfl
theorem np_dp : nilP (.dp cs o) = some (.dp cs o) := rfl
theorem np_fn : nilP (.fn n cs vs) = some (.fn n cs vs) := rfl
theorem np_yld : nilP (.yld k i) = some (.yld k i) := rfl
theorem np_cnd : nilP (cnd b v) = cO b (nilP v) := by cases b <;> rfl
def wS (tm : List (Nat × PV)) (nt k : Nat) (os : List Obj) (M : PMem) : Option PV -> Option (PV × PSt)
 | some v => some (v, ⟨tm, nt, k, os, M⟩)
 | none => none
theorem ws_some : wS tm nt k os M (some v) = some (v, ⟨tm, nt, k, os, M⟩) := rfl
theorem r_convI : rconvI kk A ⟨tm, nt, k, os, M⟩ = wS tm nt k os M (convI kk (pev tm A)) := by
 unfold rconvI wS; dsimp only; cases convI kk (pev tm A) <;> rfl
theorem r_convB : rconvB A ⟨tm, nt, k, os, M⟩ = wS tm nt k os M (convB (pev tm A)) := by
 unfold rconvB wS; dsimp only; cases convB (pev tm A) <;> rfl
theorem r_bytes : rbytes A ⟨tm, nt, k, os, M⟩ = wS tm nt k os M (bytesS (pev tm A)) := by
 unfold rbytes wS; dsimp only; cases bytesS (pev tm A) <;> rfl
theorem bs_str {s : ByteArray} : bytesS (.v (.string s)) = some (.lst .no 1 s.data.toList.length (s.data.toList.map fun b => .v (.int .u8 b.toNat))) := rfl
theorem r_sliceL {lo hi mx : Option Operand} : rsliceL sz A lo hi mx ⟨tm, nt, k, os, M⟩ = sliceL sz (pev tm A) (lo.map (pev tm)) (hi.map (pev tm)) (mx.map (pev tm)) := rfl
theorem r_sliceS {lo hi : Option Operand} : rsliceS A lo hi ⟨tm, nt, k, os, M⟩ = sliceS (pev tm A) (lo.map (pev tm)) (hi.map (pev tm)) := rfl
theorem r_mm {f : Value -> List Value -> Option Value} : rmm f as ⟨tm, nt, k, os, M⟩ = pmm f (as.map (pev tm)) := rfl
def idxAP (len : Nat) (ag : Bool) (sz : Nat) (x i : PV) : Option PV := match pnat? i with
 | some i => match x with
  | .agg cs => if i < len then rpart ag sz (i * sz) cs else none
  | _ => none
 | none => none
theorem r_idxA : ridxA len ag sz A B ⟨tm, nt, k, os, M⟩ = idxAP len ag sz (pev tm A) (pev tm B) := by
 unfold ridxA idxAP; dsimp only
 cases pnat? (pev tm B) with
 | none => rfl
 | some i => cases pev tm A <;> rfl
theorem ia_agg (h : n < len) : idxAP len true sz (.agg cs) (.v (.int kk (n : Int))) = some (.agg ((cs.drop (n * sz)).take sz)) := by
 unfold idxAP; rw [pnat_int]; dsimp only; rw [if_pos h]; rfl
theorem r_mkI : rmkI t A ⟨tm, nt, k, os, M⟩ = some (.iface t (pev tm A)) := rfl
theorem r_range : rrange A ⟨tm, nt, k, os, M⟩ = rangeS ⟨tm, nt, k, os, M⟩ (pev tm A) := rfl
theorem rs_str {s : ByteArray} : rangeS ⟨tm, nt, k, os, M⟩ (.v (.string s)) = some (.ptr k os.length 0, ⟨tm, nt, k, os ++ [.str true s 0], M⟩) := rfl
def tyP (E : Env) (t : Nat) : Option (Bool × Nat) := (E.ty t).map fun y => (Am.isAgg y.desc, y.size)
theorem pload_P (h : tyP E t = some (ag, n)) : pload E ⟨tm, nt, k, os, M⟩ t va = loadP k os M ag n va := by
 unfold tyP at h
 cases hy : E.ty t with
 | none => rw [hy] at h; cases h
 | some y =>
  rw [hy] at h
  cases h
  unfold pload loadP
  rw [hy]
  dsimp only [PSt.look]
  cases va with
  | ptr a i o =>
   dsimp only
   generalize (if a = k then os[i]? else M a i) = q
   unfold rowTake
   cases q with
   | none => rfl
   | some o => cases o <;> rfl
  | dp cs o => rfl
  | _ => rfl
theorem endc {Q : PV -> PMem -> Prop} {body : Code} {nt' a : Nat} (hf : fresh M k) (ht : tyP E t = some (ag, n)) (hv : loadP k os M ag n (tget tm a) = some v) (h : Q v M) : ends E ⟨nt, [.cell a t], body⟩ Q .ret ⟨tm, nt', k, os, M⟩ :=
 ⟨.inr rfl, [v], M, by simp only [presults, presult, pload_P ht, hv], MLe.pop hf, h⟩
theorem cp0 {κ : Kont} {R : PSt -> Prop} (hp : PTp E P g vs v) (hd : d < nt) (h : RK E P κ ⟨(d, v) :: tm, nt, k, os, M⟩ R) : cK E P (some d) κ tm nt k os M R vs (.fn g [] []) := cp (by rw [List.append_nil]; exact hp) hd h
theorem cq0 {κ : Kont} {R : PSt -> Prop} (hp : PTp E P g vs v) (hd : d < nt) (h : RK E P κ ⟨(d, v) :: tm, nt, k, os, M⟩ R) : cQ E P (some d) κ tm nt k os M R vs (.fn g [] []) := cq (by rw [List.append_nil]; exact hp) hd h
theorem cg0T {κ : Kont} {R : PSt -> Prop} (hp : b = true -> PTp E P g vs v) (hd : d < nt) (h : RK E P κ ⟨(d, cnd b v) :: tm, nt, k, os, M⟩ R) : cG E P d true κ tm nt k os M R vs (.fn g [] []) (.v (.bool b)) := cgT (fun e => by rw [List.append_nil]; exact hp e) hd h
theorem cg0F {κ : Kont} {R : PSt -> Prop} (hp : b = false -> PTp E P g vs v) (hd : d < nt) (h : RK E P κ ⟨(d, cnd (!b) v) :: tm, nt, k, os, M⟩ R) : cG E P d false κ tm nt k os M R vs (.fn g [] []) (.v (.bool b)) := cgF (fun e => by rw [List.append_nil]; exact hp e) hd h
end
theorem dr_0 {α : Type} {l : List α} : l.drop 0 = l := rfl
theorem dr_S {α : Type} {a : α} {l : List α} {n : Nat} : (a :: l).drop (n + 1) = l.drop n := rfl
theorem tk_0 {α : Type} {l : List α} : l.take 0 = [] := rfl
theorem tk_S {α : Type} {a : α} {l : List α} {n : Nat} : (a :: l).take (n + 1) = a :: l.take n := rfl
theorem pz_nil {cs : List PV} : psplice cs 0 [] = cs := by simp [psplice]
theorem pz_cons {x y : PV} {cs vs : List PV} : psplice (x :: cs) 0 (y :: vs) = y :: psplice cs 0 vs := by simp [psplice]
theorem FJ : type_of% (And.intro @pz_nil <| And.intro @pz_cons <| And.intro @nj_agg <| And.intro @nj_v <| And.intro @nj_lst <| And.intro @nj_ptr <| And.intro @nj_dp <| And.intro @nj_fn <| And.intro @nj_if <| And.intro @nj_tup <| And.intro @pv_nil <| And.intro @pv_cons <| And.intro @ag_some <| And.intro @fl_nil <| And.intro @fl_cons <| And.intro @fl_put <|
 And.intro @fa_nil <| And.intro @fa_cons <| And.intro @r_build <| And.intro @r_buildA <| And.intro @r_buildL <| And.intro @lo_some <| And.intro @r_fn <| And.intro @r_nil <| And.intro @np_ptr <| And.intro @np_dp <| And.intro @np_fn <| And.intro @np_yld <| And.intro @np_cnd <| And.intro @ws_some <|
 And.intro @r_convI <| And.intro @r_convB <| And.intro @r_bytes <| And.intro @bs_str <| And.intro @r_sliceL <| And.intro @r_sliceS <| And.intro @r_mm <| And.intro @r_idxA <| And.intro @ia_agg <| And.intro @r_mkI <| And.intro @r_range <| And.intro @rs_str <|
 And.intro @dr_0 <| And.intro @dr_S <| And.intro @tk_0 @tk_S) := And.intro @pz_nil <| And.intro @pz_cons <| And.intro @nj_agg <| And.intro @nj_v <| And.intro @nj_lst <| And.intro @nj_ptr <| And.intro @nj_dp <| And.intro @nj_fn <| And.intro @nj_if <| And.intro @nj_tup <| And.intro @pv_nil <| And.intro @pv_cons <| And.intro @ag_some <| And.intro @fl_nil <| And.intro @fl_cons <| And.intro @fl_put <|
 And.intro @fa_nil <| And.intro @fa_cons <| And.intro @r_build <| And.intro @r_buildA <| And.intro @r_buildL <| And.intro @lo_some <| And.intro @r_fn <| And.intro @r_nil <| And.intro @np_ptr <| And.intro @np_dp <| And.intro @np_fn <| And.intro @np_yld <| And.intro @np_cnd <| And.intro @ws_some <|
 And.intro @r_convI <| And.intro @r_convB <| And.intro @r_bytes <| And.intro @bs_str <| And.intro @r_sliceL <| And.intro @r_sliceS <| And.intro @r_mm <| And.intro @r_idxA <| And.intro @ia_agg <| And.intro @r_mkI <| And.intro @r_range <| And.intro @rs_str <|
 And.intro @dr_0 <| And.intro @dr_S <| And.intro @tk_0 @tk_S
end Go.Pm
end