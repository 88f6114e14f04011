/- TableMoves holds. Part 12 of 29; no condition. -/
import Derived.Test.YthjlhgjnjhmfbaaGreatDoorM11
set_option linter.unusedVariables false
set_option linter.unusedSimpArgs false
noncomputable section
namespace Go.Pm
open Go.RowKit Go.Am
section
variable {E : Env} {P : Program} {rd : Option (Nat × Nat)} {tm : List (Nat × PV)} {nt k d g n c i j o id : Nat} {os os' : List Obj} {M : PMem} {f : PSt -> Option PV} {F : PSt -> Option (PV × PSt)} {x va v : PV} {l : List RI} {ld : List RD} {R : PSt -> Prop} {w b : Bool} {A B C : Operand} {s : PSt}
 {Q : AExit -> PSt -> Prop} {z : List PV} {ob : Obj} {ag : Bool} {op : BinOp} {t : Nat} {c1 c2 : Bool} {uo : UnOp}
theorem pev_t : pev tm (.tmp i) = tget tm i := rfl
theorem pev_i {kk : IntKind} {m : Int} : pev tm (.const (.int kk m)) = .v (.int kk m) := rfl
theorem pev_b : pev tm (.const (.bool b)) = .v (.bool b) := rfl
theorem pev_s {y : ByteArray} : pev tm (.const (.string y)) = .v (.string y) := rfl
theorem pev_p : pev tm (.const (.pointer none)) = .v (.pointer none) := rfl
theorem pev_l : pev tm (.const (.slice none 0 0)) = .lst .full 0 0 [] := rfl
theorem pev_g : pev tm (.global g) = .ptr 0 g 0 := rfl
theorem pev_f : pev tm (.func g) = .fn g [] [] := rfl
theorem tg_eq : tget ((i, v) :: tm) i = v := by rw [tget_cons, if_pos rfl]
theorem tg_ne (h : (i = j) = False) : tget ((j, v) :: tm) i = tget tm i := by rw [tget_cons, if_neg (by rw [h]; exact id)]
theorem r_mv : rmv A ⟨tm, nt, k, os, M⟩ = some (pev tm A) := rfl
theorem r_bin : rbin E op t c1 c2 A B ⟨tm, nt, k, os, M⟩ = pbin E op t c1 c2 (pev tm A) (pev tm B) := rfl
theorem r_un : run' uo A ⟨tm, nt, k, os, M⟩ = pun uo (pev tm A) := rfl
theorem r_pick : rpick A B C ⟨tm, nt, k, os, M⟩ = ppick (pev tm A) (pev tm B) (pev tm C) := rfl
theorem r_load : rload ag n A ⟨tm, nt, k, os, M⟩ = loadP k os M ag n (pev tm A) := by
 unfold rload loadP
 dsimp only [PSt.look]
 cases pev tm A with
 | ptr a i o =>
  dsimp only
  generalize (if a = k then os[i]? else M a i) = y
  unfold rowTake
  cases y with
  | none => rfl
  | some o => cases o <;> rfl
 | dp cs o => rfl
 | _ => rfl
theorem r_faddr : rfaddr n A ⟨tm, nt, k, os, M⟩ = faddrP n (pev tm A) := rfl
theorem r_field : rfield ag n o A ⟨tm, nt, k, os, M⟩ = fieldP ag n o (pev tm A) := rfl
theorem r_iaddr : riaddr n A B ⟨tm, nt, k, os, M⟩ = iaddrS n (pev tm A) (pev tm B) := rfl
theorem r_iaddrA : riaddrA c n A B ⟨tm, nt, k, os, M⟩ = iaddrA c n (pev tm A) (pev tm B) := rfl
theorem r_len : rlen A ⟨tm, nt, k, os, M⟩ = lenL (pev tm A) := rfl
theorem r_lenS : rlenS A ⟨tm, nt, k, os, M⟩ = lenS (pev tm A) := rfl
theorem r_idxS : ridxS A B ⟨tm, nt, k, os, M⟩ = idxS (pev tm A) (pev tm B) := rfl
theorem r_ext : rext A n ⟨tm, nt, k, os, M⟩ = extP n (pev tm A) := rfl
theorem r_new : rnew z ⟨tm, nt, k, os, M⟩ = some (.ptr k os.length 0, ⟨tm, nt, k, os ++ [.row .rw 0 z], M⟩) := rfl
def boxS (tm : List (Nat × PV)) (nt k : Nat) (os : List Obj) (M : PMem) (v : PV) : Option (PV × PSt) :=
 if notJunk v = true then some (.ptr k os.length 0, ⟨tm, nt, k, os ++ [.row .rw 0 (pcells v)], M⟩) else none
theorem r_box : rbox A ⟨tm, nt, k, os, M⟩ = boxS tm nt k os M (pev tm A) := rfl
theorem boxS_eq (h : notJunk v = true) : boxS tm nt k os M v = some (.ptr k os.length 0, ⟨tm, nt, k, os ++ [.row .rw 0 (pcells v)], M⟩) := by unfold boxS; rw [if_pos h]
def stI (tm : List (Nat × PV)) (nt k : Nat) (os : List Obj) (M : PMem) (i : Nat) : Option Obj -> Option (PV × PSt)
 | some o => some (.junk, ⟨tm, nt, k, os.set i o, M⟩)
 | none => none
def stO (tm : List (Nat × PV)) (nt k : Nat) (os : List Obj) (M : PMem) (a i : Nat) : Option Obj -> Option (PV × PSt)
 | some o => some (.junk, ⟨tm, nt, k, os, putM M a i o⟩)
 | none => none
def storeP (tm : List (Nat × PV)) (nt k : Nat) (os : List Obj) (M : PMem) (n : Nat) (v : PV) : PV -> Option (PV × PSt)
 | .ptr a i o => if a = k then stI tm nt k os M i (storeO n o v os[i]?) else stO tm nt k os M a i (storeO n o v (M a i))
 | _ => none
theorem r_store : rstore n A B ⟨tm, nt, k, os, M⟩ = storeP tm nt k os M n (pev tm B) (pev tm A) := by
 unfold rstore storeP
 dsimp only [PSt.look, PSt.putO]
 cases pev tm A with
 | ptr a i o =>
  dsimp only
  by_cases h : a = k
  ·rw [if_pos h, if_pos h]
   cases os[i]? with
   | none => rfl
   | some y => cases y with
    | row w es cs =>
     cases w with
     | rw =>
      dsimp only [storeO]
      split
      ·simp only [stI]
      ·rfl
     | own =>
      dsimp only [storeO]
      split
      ·simp only [stI]
      ·rfl
     | _ => rfl
    | _ => rfl
  ·rw [if_neg h, if_neg h]
   cases M a i with
   | none => rfl
   | some y => cases y with
    | row w es cs =>
     cases w with
     | rw =>
      dsimp only [storeO]
      split
      ·simp only [stO]
      ·rfl
     | own =>
      dsimp only [storeO]
      split
      ·simp only [stO]
      ·rfl
     | _ => rfl
    | _ => rfl
 | _ => rfl
theorem storeP_own : storeP tm nt k os M n v (.ptr k i o) = stI tm nt k os M i (storeO n o v os[i]?) := by unfold storeP; dsimp only; rw [if_pos rfl]
theorem storeP_out {a : Nat} (h : a ≠ k) : storeP tm nt k os M n v (.ptr a i o) = stO tm nt k os M a i (storeO n o v (M a i)) := by unfold storeP; dsimp only; rw [if_neg h]
theorem stI_eq : stI tm nt k os M i (some ob) = some (.junk, ⟨tm, nt, k, os.set i ob, M⟩) := rfl
theorem stO_eq {a : Nat} : stO tm nt k os M a i (some ob) = some (.junk, ⟨tm, nt, k, os, putM M a i ob⟩) := rfl
inductive Kont where
 | o (l : List RI)
 | d (l : List RD)
def RK (E : Env) (P : Program) : Kont -> PSt -> (PSt -> Prop) -> Prop
 | .o l, s, R => RPO E P l s R
 | .d l, s, R => RPD E P l s R
variable {κ : Kont}
theorem k_o : RK E P (.o l) s R = RPO E P l s R := rfl
theorem k_d : RK E P (.d ld) s R = RPD E P ld s R := rfl
def nV (E : Env) (P : Program) (d : Nat) (κ : Kont) (tm : List (Nat × PV)) (nt k : Nat) (os : List Obj) (M : PMem) (R : PSt -> Prop) : Option PV -> Prop
 | some x => d < nt /\ RK E P κ ⟨(d, x) :: tm, nt, k, os, M⟩ R
 | none => False
def nU (E : Env) (P : Program) (d : Nat) (κ : Kont) (R : PSt -> Prop) : Option (PV × PSt) -> Prop
 | some (x, s) => d < s.nt /\ RK E P κ ⟨(d, x) :: s.tm, s.nt, s.k, s.os, s.M⟩ R
 | none => False
def nS (E : Env) (P : Program) (κ : Kont) (R : PSt -> Prop) : Option (PV × PSt) -> Prop
 | some (x, s) => RK E P κ s R
 | none => False
theorem nV_some : nV E P d κ tm nt k os M R (some x) = (d < nt /\ RK E P κ ⟨(d, x) :: tm, nt, k, os, M⟩ R) := rfl
theorem nU_some : nU E P d κ R (some (x, ⟨tm, nt, k, os, M⟩)) = (d < nt /\ RK E P κ ⟨(d, x) :: tm, nt, k, os, M⟩ R) := rfl
theorem nS_some : nS E P κ R (some (x, s)) = RK E P κ s R := rfl
theorem put_ex : (∃ s1, pput ⟨tm, nt, k, os, M⟩ (some d) x = some s1 /\ RK E P κ s1 R) = (d < nt /\ RK E P κ ⟨(d, x) :: tm, nt, k, os, M⟩ R) := by
 simp only [pput]
 by_cases h : d < nt
 ·simp [h]
 ·simp [h]
theorem e_nil : RPO E P [] s R = R s := rfl
theorem e_nil' : RPD E P [] s R = R s := rfl
theorem e_V : RPO E P (oV d f :: l) ⟨tm, nt, k, os, M⟩ R = nV E P d (.o l) tm nt k os M R (f ⟨tm, nt, k, os, M⟩) := by
 show (∃ s1, rI (some d) none (rv f) ⟨tm, nt, k, os, M⟩ = some s1 /\ RK E P (.o l) s1 R) = _
 simp only [rI, rg, rv]
 cases f ⟨tm, nt, k, os, M⟩ with
 | none => simp [nV]
 | some x => exact put_ex
theorem e_V' : RPD E P (dV d f :: ld) ⟨tm, nt, k, os, M⟩ R = nV E P d (.d ld) tm nt k os M R (f ⟨tm, nt, k, os, M⟩) := by
 show (true = true /\ ∃ s1, rI (some d) none (rv f) ⟨tm, nt, k, os, M⟩ = some s1 /\ RK E P (.d ld) s1 R) = _
 rw [eq_self, true_and]
 simp only [rI, rg, rv]
 cases f ⟨tm, nt, k, os, M⟩ with
 | none => simp [nV]
 | some x => exact put_ex
theorem e_U : RPO E P (oU d F :: l) s R = nU E P d (.o l) R (F s) := by
 show (∃ s1, rI (some d) none F s = some s1 /\ RK E P (.o l) s1 R) = _
 simp only [rI, rg]
 cases F s with
 | none => simp [nU]
 | some x => exact put_ex
theorem e_U' : RPD E P (dU d F :: ld) s R = nU E P d (.d ld) R (F s) := by
 show (true = true /\ ∃ s1, rI (some d) none F s = some s1 /\ RK E P (.d ld) s1 R) = _
 rw [eq_self, true_and]
 simp only [rI, rg]
 cases F s with
 | none => simp [nU]
 | some x => exact put_ex
theorem e_S : RPO E P (oS F :: l) s R = nS E P (.o l) R (F s) := by
 show (∃ s1, rI none none F s = some s1 /\ RK E P (.o l) s1 R) = _
 simp only [rI, rg]
 cases F s with
 | none => simp [nS]
 | some x => simp [nS, pput]
theorem e_S' : RPD E P (dS F :: ld) s R = nS E P (.d ld) R (F s) := by
 show (true = true /\ ∃ s1, rI none none F s = some s1 /\ RK E P (.d ld) s1 R) = _
 rw [eq_self, true_and]
 simp only [rI, rg]
 cases F s with
 | none => simp [nS]
 | some x => simp [nS, pput]
def cnd (b : Bool) (x : PV) : PV := bif b then x else .tup []
theorem cnd_Cnd : Cnd cnd := ⟨fun _ => rfl, fun _ => rfl⟩
theorem cnd_t : cnd true x = x := rfl
theorem cnd_f : cnd false x = .tup [] := rfl
def rgV (w : Bool) : PV -> Option Bool
 | .v (.bool b) => some (b == w)
 | .tup [] => some false
 | _ => none
theorem rg_V {s : PSt} : rg (some (g, w)) s = rgV w (tget s.tm g) := by
 unfold rg rgV
 dsimp only
 cases tget s.tm g with
 | v x => cases x <;> rfl
 | tup cs => cases cs <;> rfl
 | _ => rfl
def gS (E : Env) (P : Program) (d : Nat) (κ : Kont) (tm : List (Nat × PV)) (nt k : Nat) (os : List Obj) (M : PMem) (R : PSt -> Prop) (y : Option PV) : Option Bool -> Prop
 | some true => nV E P d κ tm nt k os M R y
 | some false => nV E P d κ tm nt k os M R (some (.tup []))
 | none => False
def gY (E : Env) (P : Program) (d : Nat) (κ : Kont) (tm : List (Nat × PV)) (nt k : Nat) (os : List Obj) (M : PMem) (R : PSt -> Prop) (b : Bool) (y : Option PV) : Prop := gS E P d κ tm nt k os M R y (some b)
def gG (E : Env) (P : Program) (d : Nat) (w : Bool) (f : PSt -> Option PV) (κ : Kont) (tm : List (Nat × PV)) (nt k : Nat) (os : List Obj) (M : PMem) (R : PSt -> Prop) (v : PV) : Prop :=
 gS E P d κ tm nt k os M R (f ⟨tm, nt, k, os, M⟩) (rgV w v)
theorem e_G : RPO E P (oG d g w f :: l) ⟨tm, nt, k, os, M⟩ R = gG E P d w f (.o l) tm nt k os M R (tget tm g) := by
 show (∃ s1, rI (some d) (some (g, w)) (rv f) ⟨tm, nt, k, os, M⟩ = some s1 /\ RK E P (.o l) s1 R) = _
 unfold gG rI
 rw [rg_V]
 dsimp only
 cases rgV w (tget tm g) with
 | none => simp [gS]
 | some b =>
  cases b with
  | true =>
   dsimp only [gS, rv]
   cases f ⟨tm, nt, k, os, M⟩ with
   | none => simp [nV]
   | some x => exact put_ex
  | false => exact put_ex
theorem e_G' : RPD E P (dG d g w f :: ld) ⟨tm, nt, k, os, M⟩ R = gG E P d w f (.d ld) tm nt k os M R (tget tm g) := by
 show (true = true /\ ∃ s1, rI (some d) (some (g, w)) (rv f) ⟨tm, nt, k, os, M⟩ = some s1 /\ RK E P (.d ld) s1 R) = _
 rw [eq_self, true_and]
 unfold gG rI
 rw [rg_V]
 dsimp only
 cases rgV w (tget tm g) with
 | none => simp [gS]
 | some b =>
  cases b with
  | true =>
   dsimp only [gS, rv]
   cases f ⟨tm, nt, k, os, M⟩ with
   | none => simp [nV]
   | some x => exact put_ex
  | false => exact put_ex
theorem gG_u : gG E P d w f κ tm nt k os M R (.tup []) = nV E P d κ tm nt k os M R (some (.tup [])) := rfl
theorem gG_s : gG E P d true f κ tm nt k os M R (.v (.bool b)) = gY E P d κ tm nt k os M R b (f ⟨tm, nt, k, os, M⟩) := by
 show gS _ _ _ _ _ _ _ _ _ _ _ (some (b == true)) = _; rw [eqT]; rfl
theorem gG_s' : gG E P d false f κ tm nt k os M R (.v (.bool b)) = gY E P d κ tm nt k os M R (!b) (f ⟨tm, nt, k, os, M⟩) := by
 show gS _ _ _ _ _ _ _ _ _ _ _ (some (b == false)) = _
 rw [eqF]; rfl
theorem gG_c {a : Bool} : gG E P d true f κ tm nt k os M R (cnd a (.v (.bool b))) = gY E P d κ tm nt k os M R (a && b) (f ⟨tm, nt, k, os, M⟩) := by
 cases a with
 | true => rw [cnd_t, gG_s]; simp
 | false => rw [cnd_f, gG_u]; rfl
theorem gG_c' {a : Bool} : gG E P d false f κ tm nt k os M R (cnd a (.v (.bool b))) = gY E P d κ tm nt k os M R (a && !b) (f ⟨tm, nt, k, os, M⟩) := by
 cases a with
 | true => rw [cnd_t, gG_s']; simp
 | false => rw [cnd_f, gG_u]; rfl
def leB (c b : Bool) : Bool := !b || c
theorem le_r {c : Bool} : leB c c = true := by cases c <;> rfl
theorem le_l {c a : Bool} (h : leB c a = true) : leB c (a && b) = true := by revert h; cases a <;> cases b <;> cases c <;> simp [leB]
theorem le_m {c a e : Bool} (h : leB c a = true) (h' : leB e a = true) : leB (c && e) a = true := by revert h h'; cases a <;> cases c <;> cases e <;> simp [leB]
def cO (b : Bool) (o : Option PV) : Option PV := bif b then o else none
theorem gY_some : gY E P d κ tm nt k os M R b (some x) = nV E P d κ tm nt k os M R (some (cnd b x)) := by cases b <;> rfl
theorem gY_cO {c : Bool} {y : Option PV} (h : leB c b = true) : gY E P d κ tm nt k os M R b (cO c y) = gY E P d κ tm nt k os M R b y := by
  cases b with
  | true => have : c = true := by simpa [leB] using h
            rw [this]; rfl
  | false => rfl
theorem cnd_cnd {c : Bool} (h : leB c b = true) : cnd b (cnd c x) = cnd b x := by
  cases b with
  | true => have : c = true := by simpa [leB] using h
            rw [this]; rfl
  | false => rfl
theorem gY_t {y : Option PV} : gY E P d κ tm nt k os M R true y = nV E P d κ tm nt k os M R y := rfl
theorem gY_f {y : Option PV} : gY E P d κ tm nt k os M R false y = nV E P d κ tm nt k os M R (some (.tup [])) := rfl
theorem q_load : loadP k os M ag n (cnd b v) = cO b (loadP k os M ag n v) := by cases b <;> rfl
theorem q_faddr : faddrP n (cnd b v) = cO b (faddrP n v) := by cases b <;> rfl
theorem q_field : fieldP ag n o (cnd b v) = cO b (fieldP ag n o v) := by cases b <;> rfl
theorem q_len : lenL (cnd b v) = cO b (lenL v) := by cases b <;> rfl
theorem q_lenS : lenS (cnd b v) = cO b (lenS v) := by cases b <;> rfl
theorem q_iaddr1 : iaddrS n (cnd b v) va = cO b (iaddrS n v va) := by
 cases b
 ·show iaddrS n (.tup []) va = none
  unfold iaddrS; cases pnat? va <;> rfl
 ·rfl
theorem q_iaddr2 : iaddrS n va (cnd b v) = cO b (iaddrS n va v) := by cases b <;> rfl
theorem q_idx1 : idxS (cnd b v) va = cO b (idxS v va) := by
 cases b
 ·show idxS (.tup []) va = none
  unfold idxS; cases pnat? va <;> rfl
 ·rfl
theorem q_idx2 : idxS va (cnd b v) = cO b (idxS va v) := by cases b <;> rfl
theorem q_un : pun uo (cnd b v) = cO b (pun uo v) := by cases b <;> rfl
theorem pbin_u1 : pbin E op t c1 c2 (.tup []) v = none := by
 unfold pbin
 cases v <;> (dsimp only; split <;> (try rfl) <;> split <;> rfl)
theorem pbin_u2 : pbin E op t c1 c2 v (.tup []) = none := by
 unfold pbin
 cases v <;> (dsimp only; split <;> (try rfl) <;> split <;> rfl)
theorem q_bin1 : pbin E op t c1 c2 (cnd b v) va = cO b (pbin E op t c1 c2 v va) := by
 cases b
 ·exact pbin_u1
 ·rfl
theorem q_bin2 : pbin E op t c1 c2 va (cnd b v) = cO b (pbin E op t c1 c2 va v) := by
 cases b
 ·exact pbin_u2
 ·rfl
theorem q_pick {va : PV} : ppick (cnd b v) x va = cO b (ppick v x va) := by cases b <;> rfl
theorem q_or {a c : Bool} : cO c (ppick (.v (.bool a)) (.v (.bool true)) (cnd (c && !a) (.v (.bool b)))) = cO c (some (.v (.bool (a || b)))) := by cases c <;> cases a <;> rfl
theorem q_and {a c : Bool} : cO c (ppick (.v (.bool a)) (cnd (c && a) (.v (.bool b))) (.v (.bool false))) = cO c (some (.v (.bool (a && b)))) := by cases c <;> cases a <;> rfl
theorem p_or {a b : Bool} : ppick (.v (.bool a)) (.v (.bool true)) (cnd (!a) (.v (.bool b))) = some (.v (.bool (a || b))) := pick_or cnd_Cnd
theorem p_and {a b : Bool} : ppick (.v (.bool a)) (cnd a (.v (.bool b))) (.v (.bool false)) = some (.v (.bool (a && b))) := pick_and cnd_Cnd
def wX (E : Env) (P : Program) (rd : Option (Nat × Nat)) : RC -> PSt -> (AExit -> PSt -> Prop) -> Prop
 | .skip, s, Q => Q .normal s
 | .ops l, s, Q => RPO E P l s (Q .normal)
 | .drawn ok l, s, Q => ok = true /\ RPD E P l s (Q .normal)
 | .seq a b, s, Q => wX E P rd a s (fun e s1 => match e with
  | .normal => wX E P rd b s1 Q
  | e => Q e s1)
 | .cond x a b, s, Q => ∃ v, x s = .v (.bool v) /\ (v = true -> wX E P rd a s Q) /\ (v = false -> wX E P rd b s Q)
 | .block id a, s, Q => wX E P rd a s (blkQ id Q)
 | .exit i, s, Q => Q (.exit i) s
 | .goto i, s, Q => Q (.goto i) s
 | .ret, s, Q => Q .ret s
 | c, s, Q => RX E P rd c s Q
theorem RX.of (hE : EnvOk E P) : ∀ {c : RC} {s : PSt} {Q : AExit -> PSt -> Prop}, wX E P rd c s Q -> RX E P rd c s Q
 | .skip, _, _, h => RX.skip h
 | .ops l, _, _, h => RX.ops hE h
 | .drawn ok l, _, _, h => by obtain ⟨rfl, h⟩ := h; exact RX.drawn hE h
 | .seq a b, _, _, h => RX.seq ((RX.of hE (c := a) h).mono fun e s1 k => by
  cases e with
  | normal => exact RX.of hE (c := b) k
  | _ => exact k)
 | .cond x a b, _, _, h => by obtain ⟨v, h1, h2, h3⟩ := h; exact RX.cond h1 (fun e => RX.of hE (h2 e)) (fun e => RX.of hE (h3 e))
 | .block id a, _, _, h => RX.blk (RX.of hE h)
 | .exit i, _, _, h => RX.exit h
 | .goto i, _, _, h => RX.goto h
 | .ret, _, _, h => RX.ret h
 | .loop a, _, _, h => h
 | .scope a, _, _, h => h
 | .refuse, _, _, h => h
 | .range f ps a b, _, _, h => h
def thW (E : Env) (P : Program) (rd : Option (Nat × Nat)) (b : RC) (Q : AExit -> PSt -> Prop) : AExit -> PSt -> Prop
 | .normal, s => wX E P rd b s Q
 | e, s => Q e s
variable {a' b' : RC} {e : AExit}
theorem x_skip : wX E P rd .skip s Q = Q .normal s := rfl
theorem x_ops : wX E P rd (.ops l) s Q = RPO E P l s (Q .normal) := rfl
theorem x_drawn : wX E P rd (.drawn true ld) s Q = RPD E P ld s (Q .normal) := by simp [wX]
theorem x_seq : wX E P rd (.seq a' b') s Q = wX E P rd a' s (thW E P rd b' Q) := by
 have : thW E P rd b' Q = (fun e s1 => match e with
  | .normal => wX E P rd b' s1 Q
  | e => Q e s1) := by
  funext e s1
  cases e <;> rfl
 rw [this]; rfl
theorem x_block : wX E P rd (.block id a') s Q = wX E P rd a' s (blkQ id Q) := rfl
theorem x_exit : wX E P rd (.exit i) s Q = Q (.exit i) s := rfl
theorem x_goto : wX E P rd (.goto i) s Q = Q (.goto i) s := rfl
theorem x_ret : wX E P rd .ret s Q = Q .ret s := rfl
def cW (E : Env) (P : Program) (rd : Option (Nat × Nat)) (a b : RC) (s : PSt) (Q : AExit -> PSt -> Prop) (x : PV) : Prop := ∃ v, x = .v (.bool v) /\ (v = true -> wX E P rd a s Q) /\ (v = false -> wX E P rd b s Q)
theorem x_cond : wX E P rd (.cond (rX t) a' b') ⟨tm, nt, k, os, M⟩ Q = cW E P rd a' b' ⟨tm, nt, k, os, M⟩ Q (tget tm t) := rfl
theorem cW_t : cW E P rd a' b' s Q (.v (.bool true)) = wX E P rd a' s Q := by simp [cW]
theorem cW_f : cW E P rd a' b' s Q (.v (.bool false)) = wX E P rd b' s Q := by simp [cW]
theorem cW_s (h1 : b = true -> wX E P rd a' s Q) (h2 : b = false -> wX E P rd b' s Q) : cW E P rd a' b' s Q (.v (.bool b)) := ⟨b, rfl, h1, h2⟩
theorem h_n : thW E P rd b' Q .normal s = wX E P rd b' s Q := rfl
theorem h_x : thW E P rd b' Q (.exit i) s = Q (.exit i) s := rfl
theorem h_g : thW E P rd b' Q (.goto i) s = Q (.goto i) s := rfl
theorem h_r : thW E P rd b' Q .ret s = Q .ret s := rfl
theorem b_n : blkQ id Q .normal s = Q .normal s := rfl
theorem b_r : blkQ id Q .ret s = Q .ret s := rfl
theorem b_x : blkQ id Q (.exit id) s = Q .normal s := by simp [blkQ, inBlk]
theorem b_y (h : (i = id) = False) : blkQ id Q (.exit i) s = Q (.exit i) s := by
 have : Nat.beq i id = false := by
  cases e : Nat.beq i id with
  | false => rfl
  | true => have := Nat.eq_of_beq_eq_true e; rw [h] at this; exact this.elim
 simp [blkQ, inBlk, this]
theorem l_x : thenRL E P rd b' Q (.exit i) s = Q (.exit i) s := rfl
theorem l_r : thenRL E P rd b' Q .ret s = Q .ret s := rfl
theorem l_n : thenRL E P rd b' Q .normal s = RXL E P rd b' s Q := rfl
theorem i_eq {nt' k' : Nat} : innQ nt k n M Q e ⟨tm, nt', k', os, seg M k os'⟩ = (os'.length = n /\ Q e ⟨tm, nt, k, os', M⟩) := by
 apply propext
 constructor
 ·rintro ⟨os1, h1, h2, h3⟩
  have : os' = os1 := by
   apply List.ext_getElem?
   intro j
   have h4 : seg M k os' k j = seg M k os1 k j := congrFun (congrFun h1 k) j
   rwa [seg_same, seg_same] at h4
  subst this
  exact ⟨h2, h3⟩
 ·rintro ⟨h1, h2⟩; exact inq h1 h2
end
theorem WV : type_of% (And.intro @pev_t <| And.intro @pev_i <| And.intro @pev_b <| And.intro @pev_s <| And.intro @pev_p <| And.intro @pev_l <| And.intro @pev_g <| And.intro @pev_f <| And.intro @tg_eq <| And.intro @tg_ne <| And.intro @r_mv <| And.intro @r_bin <| And.intro @r_un <| And.intro @r_pick <|
 And.intro @r_load <| And.intro @r_faddr <| And.intro @r_field <| And.intro @r_iaddr <| And.intro @r_iaddrA <| And.intro @r_len <| And.intro @r_lenS <| And.intro @r_idxS <| And.intro @r_ext <| And.intro @r_new <| And.intro @r_box <| And.intro @boxS_eq <| And.intro @r_store <|
 And.intro @storeP_own <| And.intro @storeP_out <| And.intro @stI_eq <| And.intro @stO_eq <| And.intro @p_or <| And.intro @p_and <| And.intro @cnd_t @cnd_f) := And.intro @pev_t <| And.intro @pev_i <| And.intro @pev_b <| And.intro @pev_s <| And.intro @pev_p <| And.intro @pev_l <| And.intro @pev_g <| And.intro @pev_f <| And.intro @tg_eq <| And.intro @tg_ne <| And.intro @r_mv <| And.intro @r_bin <| And.intro @r_un <| And.intro @r_pick <|
 And.intro @r_load <| And.intro @r_faddr <| And.intro @r_field <| And.intro @r_iaddr <| And.intro @r_iaddrA <| And.intro @r_len <| And.intro @r_lenS <| And.intro @r_idxS <| And.intro @r_ext <| And.intro @r_new <| And.intro @r_box <| And.intro @boxS_eq <| And.intro @r_store <|
 And.intro @storeP_own <| And.intro @storeP_out <| And.intro @stI_eq <| And.intro @stO_eq <| And.intro @p_or <| And.intro @p_and <| And.intro @cnd_t @cnd_f
theorem WO : type_of% (And.intro @nV_some <| And.intro @nU_some <| And.intro @nS_some <| And.intro @k_o <| And.intro @k_d <| And.intro @e_nil <| And.intro @e_V <| And.intro @e_U <| And.intro @e_S <| And.intro @e_G <| And.intro @e_nil' <| And.intro @e_V' <| And.intro @e_U' <| And.intro @e_S' <| And.intro @e_G' <| And.intro @gG_u <| And.intro @gG_s <| And.intro @gG_s' <| And.intro @gG_c <| And.intro @gG_c' <| And.intro @gY_some <| And.intro @gY_cO <| And.intro @cnd_cnd <| And.intro @le_r <| And.intro @le_l <| And.intro @le_m <| And.intro @gY_t <| And.intro @gY_f <| And.intro @q_load <| And.intro @q_faddr <| And.intro @q_field <| And.intro @q_len <| And.intro @q_lenS <| And.intro @q_iaddr1 <|
 And.intro @q_iaddr2 <| And.intro @q_idx1 <| And.intro @q_idx2 <| And.intro @q_un <| And.intro @q_bin1 <| And.intro @q_bin2 <| And.intro @q_pick <| And.intro @q_or @q_and) := And.intro @nV_some <| And.intro @nU_some <| And.intro @nS_some <| And.intro @k_o <| And.intro @k_d <| And.intro @e_nil <| And.intro @e_V <| And.intro @e_U <| And.intro @e_S <| And.intro @e_G <| And.intro @e_nil' <| And.intro @e_V' <| And.intro @e_U' <| And.intro @e_S' <| And.intro @e_G' <| And.intro @gG_u <| And.intro @gG_s <| And.intro @gG_s' <| And.intro @gG_c <| And.intro @gG_c' <| And.intro @gY_some <| And.intro @gY_cO <| And.intro @cnd_cnd <| And.intro @le_r <| And.intro @le_l <| And.intro @le_m <| And.intro @gY_t <| And.intro @gY_f <| And.intro @q_load <| And.intro @q_faddr <| And.intro @q_field <| And.intro @q_len <| And.intro @q_lenS <| And.intro @q_iaddr1 <|
 And.intro @q_iaddr2 <| And.intro @q_idx1 <| And.intro @q_idx2 <| And.intro @q_un <| And.intro @q_bin1 <| And.intro @q_bin2 <| And.intro @q_pick <| And.intro @q_or @q_and
theorem WX : type_of% (And.intro @x_skip <| And.intro @x_ops <| And.intro @x_drawn <| And.intro @x_seq <| And.intro @x_block <| And.intro @x_exit <| And.intro @x_goto <| And.intro @x_ret <| And.intro @x_cond <| And.intro @cW_t <| And.intro @cW_f <| And.intro @h_n <| And.intro @h_x <| And.intro @h_g <| And.intro @h_r <|
 And.intro @b_n <| And.intro @b_r <| And.intro @b_x <| And.intro @b_y <| And.intro @l_x <| And.intro @l_r <| And.intro @l_n @i_eq) := And.intro @x_skip <| And.intro @x_ops <| And.intro @x_drawn <| And.intro @x_seq <| And.intro @x_block <| And.intro @x_exit <| And.intro @x_goto <| And.intro @x_ret <| And.intro @x_cond <| And.intro @cW_t <| And.intro @cW_f <| And.intro @h_n <| And.intro @h_x <| And.intro @h_g <| And.intro @h_r <|
 And.intro @b_n <| And.intro @b_r <| And.intro @b_x <| And.intro @b_y <| And.intro @l_x <| And.intro @l_r <| And.intro @l_n @i_eq
end Go.Pm
end