/- TableWalks holds. Part 12 of 29; no condition. -/
import Derived.Test.YtnmidpahhhdlpaaGreatDoorM11
set_option linter.unusedVariables false
set_option linter.unusedSimpArgs false
noncomputable section
namespace Go.Pm
open Go.RowKit Go.Am
section
variable {E : d9} {P : Program} {rd : Option (Nat × Nat)} {tm : List (Nat × PV)} {nt k d g n c i j o id : Nat} {os os' : List Obj} {M : b7} {f : c5 -> Option PV} {F : c5 -> Option (PV × c5)} {x va v : PV} {l : List RI} {ld : List RD} {R : c5 -> Prop} {w b : Bool} {A B C : Operand} {s : c5}
 {Q : c9 -> c5 -> Prop} {z : List PV} {ob : Obj} {ag : Bool} {op : BinOp} {t : Nat} {c1 c2 : Bool} {uo : UnOp}
theorem aQ8 : g7 tm (.tmp i) = a7 tm i := rfl
theorem aQK {kk : IntKind} {m : Int} : g7 tm (.const (.int kk m)) = .v (.int kk m) := rfl
theorem aRT : g7 tm (.const (.bool b)) = .v (.bool b) := rfl
theorem aSI {y : ByteArray} : g7 tm (.const (.string y)) = .v (.string y) := rfl
theorem aSD : g7 tm (.const (.pointer none)) = .v (.pointer none) := rfl
theorem aR1 : g7 tm (.const (.slice none 0 0)) = .lst .full 0 0 [] := rfl
theorem aQU : g7 tm (.global g) = .ptr 0 g 0 := rfl
theorem aQM : g7 tm (.func g) = .fn g [] [] := rfl
theorem aRL : a7 ((i, v) :: tm) i = v := by rw [R9, if_pos rfl]
theorem aQF (h : (i = j) = False) : a7 ((j, v) :: tm) i = a7 tm i := by rw [R9, if_neg (by rw [h]; exact id)]
theorem bCF : d8 A ⟨tm, nt, k, os, M⟩ = some (g7 tm A) := rfl
theorem aRD : a9 E op t c1 c2 A B ⟨tm, nt, k, os, M⟩ = w9 E op t c1 c2 (g7 tm A) (g7 tm B) := rfl
theorem aXV : V3 uo A ⟨tm, nt, k, os, M⟩ = pun uo (g7 tm A) := rfl
theorem aMA : j9 A B C ⟨tm, nt, k, os, M⟩ = P1 (g7 tm A) (g7 tm B) (g7 tm C) := rfl
theorem aJM : c4 ag n A ⟨tm, nt, k, os, M⟩ = F7 k os M ag n (g7 tm A) := by
 unfold c4 F7
 dsimp only [c5.look]
 cases g7 tm A with
 | ptr a i o =>
  dsimp only
  generalize (if a = k then os[i]? else M a i) = y
  unfold A9
  cases y with
  | none => rfl
  | some o => cases o <;> rfl
 | dp cs o => rfl
 | _ => rfl
theorem aCI : c6 n A ⟨tm, nt, k, os, M⟩ = qC n (g7 tm A) := rfl
theorem aCF : aVJ ag n o A ⟨tm, nt, k, os, M⟩ = mW ag n o (g7 tm A) := rfl
theorem aEC : i3 n A B ⟨tm, nt, k, os, M⟩ = G8 n (g7 tm A) (g7 tm B) := rfl
theorem yN : vT c n A B ⟨tm, nt, k, os, M⟩ = jU c n (g7 tm A) (g7 tm B) := rfl
theorem aQY : y6 A ⟨tm, nt, k, os, M⟩ = T7 (g7 tm A) := rfl
theorem aKF : E2 A ⟨tm, nt, k, os, M⟩ = lN (g7 tm A) := rfl
theorem aLD : Q6 A B ⟨tm, nt, k, os, M⟩ = Y5 (g7 tm A) (g7 tm B) := rfl
theorem aQX : E3 A n ⟨tm, nt, k, os, M⟩ = aX4 n (g7 tm A) := rfl
theorem aRK : Y1 z ⟨tm, nt, k, os, M⟩ = some (.ptr k os.length 0, ⟨tm, nt, k, os ++ [.row .rw 0 z], M⟩) := rfl
def aVG (tm : List (Nat × PV)) (nt k : Nat) (os : List Obj) (M : b7) (v : PV) : Option (PV × c5) :=
 if B0 v = true then some (.ptr k os.length 0, ⟨tm, nt, k, os ++ [.row .rw 0 (e9 v)], M⟩) else none
theorem aQ3 : V1 A ⟨tm, nt, k, os, M⟩ = aVG tm nt k os M (g7 tm A) := rfl
theorem aD8 (h : B0 v = true) : aVG tm nt k os M v = some (.ptr k os.length 0, ⟨tm, nt, k, os ++ [.row .rw 0 (e9 v)], M⟩) := by unfold aVG; rw [if_pos h]
def stI (tm : List (Nat × PV)) (nt k : Nat) (os : List Obj) (M : b7) (i : Nat) : Option Obj -> Option (PV × c5)
 | some o => some (.junk, ⟨tm, nt, k, os.set i o, M⟩)
 | none => none
def stO (tm : List (Nat × PV)) (nt k : Nat) (os : List Obj) (M : b7) (a i : Nat) : Option Obj -> Option (PV × c5)
 | some o => some (.junk, ⟨tm, nt, k, os, i6 M a i o⟩)
 | none => none
def M8 (tm : List (Nat × PV)) (nt k : Nat) (os : List Obj) (M : b7) (n : Nat) (v : PV) : PV -> Option (PV × c5)
 | .ptr a i o => if a = k then stI tm nt k os M i (q8 n o v os[i]?) else stO tm nt k os M a i (q8 n o v (M a i))
 | _ => none
theorem uQ : m7 n A B ⟨tm, nt, k, os, M⟩ = M8 tm nt k os M n (g7 tm B) (g7 tm A) := by
 unfold m7 M8
 dsimp only [c5.look, c5.putO]
 cases g7 tm A with
 | ptr a i o =>
  dsimp only
  by_cases h : a = k
  ·rw [if_pos h, if_pos h]
   cases os[i]? with
   | none => rfl
   | some y => cases y with
    | row w es cs =>
     cases w with
     | rw =>
      dsimp only [q8]
      split
      ·simp only [stI]
      ·rfl
     | own =>
      dsimp only [q8]
      split
      ·simp only [stI]
      ·rfl
     | _ => rfl
    | _ => rfl
  ·rw [if_neg h, if_neg h]
   cases M a i with
   | none => rfl
   | some y => cases y with
    | row w es cs =>
     cases w with
     | rw =>
      dsimp only [q8]
      split
      ·simp only [stO]
      ·rfl
     | own =>
      dsimp only [q8]
      split
      ·simp only [stO]
      ·rfl
     | _ => rfl
    | _ => rfl
 | _ => rfl
theorem pI : M8 tm nt k os M n v (.ptr k i o) = stI tm nt k os M i (q8 n o v os[i]?) := by unfold M8; dsimp only; rw [if_pos rfl]
theorem N4 {a : Nat} (h : a ≠ k) : M8 tm nt k os M n v (.ptr a i o) = stO tm nt k os M a i (q8 n o v (M a i)) := by unfold M8; dsimp only; rw [if_neg h]
theorem aHL : stI tm nt k os M i (some ob) = some (.junk, ⟨tm, nt, k, os.set i ob, M⟩) := rfl
theorem jL {a : Nat} : stO tm nt k os M a i (some ob) = some (.junk, ⟨tm, nt, k, os, i6 M a i ob⟩) := rfl
inductive O8 where
 | o (l : List RI)
 | d (l : List RD)
def RK (E : d9) (P : Program) : O8 -> c5 -> (c5 -> Prop) -> Prop
 | .o l, s, R => S2 E P l s R
 | .d l, s, R => Q3 E P l s R
variable {κ : O8}
theorem k_o : RK E P (.o l) s R = S2 E P l s R := rfl
theorem k_d : RK E P (.d ld) s R = Q3 E P ld s R := rfl
def nV (E : d9) (P : Program) (d : Nat) (κ : O8) (tm : List (Nat × PV)) (nt k : Nat) (os : List Obj) (M : b7) (R : c5 -> Prop) : Option PV -> Prop
 | some x => d < nt /\ RK E P κ ⟨(d, x) :: tm, nt, k, os, M⟩ R
 | none => False
def nU (E : d9) (P : Program) (d : Nat) (κ : O8) (R : c5 -> Prop) : Option (PV × c5) -> Prop
 | some (x, s) => d < s.nt /\ RK E P κ ⟨(d, x) :: s.tm, s.nt, s.k, s.os, s.M⟩ R
 | none => False
def nS (E : d9) (P : Program) (κ : O8) (R : c5 -> Prop) : Option (PV × c5) -> Prop
 | some (x, s) => RK E P κ s R
 | none => False
theorem aCQ : nV E P d κ tm nt k os M R (some x) = (d < nt /\ RK E P κ ⟨(d, x) :: tm, nt, k, os, M⟩ R) := rfl
theorem aD0 : nU E P d κ R (some (x, ⟨tm, nt, k, os, M⟩)) = (d < nt /\ RK E P κ ⟨(d, x) :: tm, nt, k, os, M⟩ R) := rfl
theorem aEW : nS E P κ R (some (x, s)) = RK E P κ s R := rfl
theorem W6 : (∃ s1, H8 ⟨tm, nt, k, os, M⟩ (some d) x = some s1 /\ RK E P κ s1 R) = (d < nt /\ RK E P κ ⟨(d, x) :: tm, nt, k, os, M⟩ R) := by
 simp only [H8]
 by_cases h : d < nt
 ·simp [h]
 ·simp [h]
theorem aRP : S2 E P [] s R = R s := rfl
theorem aK3 : Q3 E P [] s R = R s := rfl
theorem e_V : S2 E P (oV d f :: l) ⟨tm, nt, k, os, M⟩ R = nV E P d (.o l) tm nt k os M R (f ⟨tm, nt, k, os, M⟩) := by
 show (∃ s1, rI (some d) none (rv f) ⟨tm, nt, k, os, M⟩ = some s1 /\ RK E P (.o l) s1 R) = _
 simp only [rI, rg, rv]
 cases f ⟨tm, nt, k, os, M⟩ with
 | none => simp [nV]
 | some x => exact W6
theorem aYL : Q3 E P (dV d f :: ld) ⟨tm, nt, k, os, M⟩ R = nV E P d (.d ld) tm nt k os M R (f ⟨tm, nt, k, os, M⟩) := by
 show (true = true /\ ∃ s1, rI (some d) none (rv f) ⟨tm, nt, k, os, M⟩ = some s1 /\ RK E P (.d ld) s1 R) = _
 rw [eq_self, true_and]
 simp only [rI, rg, rv]
 cases f ⟨tm, nt, k, os, M⟩ with
 | none => simp [nV]
 | some x => exact W6
theorem e_U : S2 E P (oU d F :: l) s R = nU E P d (.o l) R (F s) := by
 show (∃ s1, rI (some d) none F s = some s1 /\ RK E P (.o l) s1 R) = _
 simp only [rI, rg]
 cases F s with
 | none => simp [nU]
 | some x => exact W6
theorem aG6 : Q3 E P (dU d F :: ld) s R = nU E P d (.d ld) R (F s) := by
 show (true = true /\ ∃ s1, rI (some d) none F s = some s1 /\ RK E P (.d ld) s1 R) = _
 rw [eq_self, true_and]
 simp only [rI, rg]
 cases F s with
 | none => simp [nU]
 | some x => exact W6
theorem e_S : S2 E P (oS F :: l) s R = nS E P (.o l) R (F s) := by
 show (∃ s1, rI none none F s = some s1 /\ RK E P (.o l) s1 R) = _
 simp only [rI, rg]
 cases F s with
 | none => simp [nS]
 | some x => simp [nS, H8]
theorem aZY : Q3 E P (dS F :: ld) s R = nS E P (.d ld) R (F s) := by
 show (true = true /\ ∃ s1, rI none none F s = some s1 /\ RK E P (.d ld) s1 R) = _
 rw [eq_self, true_and]
 simp only [rI, rg]
 cases F s with
 | none => simp [nS]
 | some x => simp [nS, H8]
def aM (b : Bool) (x : PV) : PV := bif b then x else .tup []
theorem aCU : Cnd aM := ⟨fun _ => rfl, fun _ => rfl⟩
theorem i7 : aM true x = x := rfl
theorem j0 : aM false x = .tup [] := rfl
def zX (w : Bool) : PV -> Option Bool
 | .v (.bool b) => some (b == w)
 | .tup [] => some false
 | _ => none
theorem uS {s : c5} : rg (some (g, w)) s = zX w (a7 s.tm g) := by
 unfold rg zX
 dsimp only
 cases a7 s.tm g with
 | v x => cases x <;> rfl
 | tup cs => cases cs <;> rfl
 | _ => rfl
def gS (E : d9) (P : Program) (d : Nat) (κ : O8) (tm : List (Nat × PV)) (nt k : Nat) (os : List Obj) (M : b7) (R : c5 -> Prop) (y : Option PV) : Option Bool -> Prop
 | some true => nV E P d κ tm nt k os M R y
 | some false => nV E P d κ tm nt k os M R (some (.tup []))
 | none => False
def gY (E : d9) (P : Program) (d : Nat) (κ : O8) (tm : List (Nat × PV)) (nt k : Nat) (os : List Obj) (M : b7) (R : c5 -> Prop) (b : Bool) (y : Option PV) : Prop := gS E P d κ tm nt k os M R y (some b)
def gG (E : d9) (P : Program) (d : Nat) (w : Bool) (f : c5 -> Option PV) (κ : O8) (tm : List (Nat × PV)) (nt k : Nat) (os : List Obj) (M : b7) (R : c5 -> Prop) (v : PV) : Prop :=
 gS E P d κ tm nt k os M R (f ⟨tm, nt, k, os, M⟩) (zX w v)
theorem e_G : S2 E P (oG d g w f :: l) ⟨tm, nt, k, os, M⟩ R = gG E P d w f (.o l) tm nt k os M R (a7 tm g) := by
 show (∃ s1, rI (some d) (some (g, w)) (rv f) ⟨tm, nt, k, os, M⟩ = some s1 /\ RK E P (.o l) s1 R) = _
 unfold gG rI
 rw [uS]
 dsimp only
 cases zX w (a7 tm g) with
 | none => simp [gS]
 | some b =>
  cases b with
  | true =>
   dsimp only [gS, rv]
   cases f ⟨tm, nt, k, os, M⟩ with
   | none => simp [nV]
   | some x => exact W6
  | false => exact W6
theorem bBL : Q3 E P (dG d g w f :: ld) ⟨tm, nt, k, os, M⟩ R = gG E P d w f (.d ld) tm nt k os M R (a7 tm g) := by
 show (true = true /\ ∃ s1, rI (some d) (some (g, w)) (rv f) ⟨tm, nt, k, os, M⟩ = some s1 /\ RK E P (.d ld) s1 R) = _
 rw [eq_self, true_and]
 unfold gG rI
 rw [uS]
 dsimp only
 cases zX w (a7 tm g) with
 | none => simp [gS]
 | some b =>
  cases b with
  | true =>
   dsimp only [gS, rv]
   cases f ⟨tm, nt, k, os, M⟩ with
   | none => simp [nV]
   | some x => exact W6
  | false => exact W6
theorem aNN : gG E P d w f κ tm nt k os M R (.tup []) = nV E P d κ tm nt k os M R (some (.tup [])) := rfl
theorem aSO : gG E P d true f κ tm nt k os M R (.v (.bool b)) = gY E P d κ tm nt k os M R b (f ⟨tm, nt, k, os, M⟩) := by
 show gS _ _ _ _ _ _ _ _ _ _ _ (some (b == true)) = _; rw [eqT]; rfl
theorem aLE : gG E P d false f κ tm nt k os M R (.v (.bool b)) = gY E P d κ tm nt k os M R (!b) (f ⟨tm, nt, k, os, M⟩) := by
 show gS _ _ _ _ _ _ _ _ _ _ _ (some (b == false)) = _
 rw [eqF]; rfl
theorem aX5 {a : Bool} : gG E P d true f κ tm nt k os M R (aM a (.v (.bool b))) = gY E P d κ tm nt k os M R (a && b) (f ⟨tm, nt, k, os, M⟩) := by
 cases a with
 | true => rw [i7, aSO]; simp
 | false => rw [j0, aNN]; rfl
theorem aRI {a : Bool} : gG E P d false f κ tm nt k os M R (aM a (.v (.bool b))) = gY E P d κ tm nt k os M R (a && !b) (f ⟨tm, nt, k, os, M⟩) := by
 cases a with
 | true => rw [i7, aLE]; simp
 | false => rw [j0, aNN]; rfl
def leB (c b : Bool) : Bool := !b || c
theorem aZP {c : Bool} : leB c c = true := by cases c <;> rfl
theorem aZB {c a : Bool} (h : leB c a = true) : leB c (a && b) = true := by revert h; cases a <;> cases b <;> cases c <;> simp [leB]
theorem bBE {c a e : Bool} (h : leB c a = true) (h' : leB e a = true) : leB (c && e) a = true := by revert h h'; cases a <;> cases c <;> cases e <;> simp [leB]
def cO (b : Bool) (o : Option PV) : Option PV := bif b then o else none
theorem aDB : gY E P d κ tm nt k os M R b (some x) = nV E P d κ tm nt k os M R (some (aM b x)) := by cases b <;> rfl
theorem aQR {c : Bool} {y : Option PV} (h : leB c b = true) : gY E P d κ tm nt k os M R b (cO c y) = gY E P d κ tm nt k os M R b y := by
  cases b with
  | true => have : c = true := by simpa [leB] using h
            rw [this]; rfl
  | false => rfl
theorem aCW {c : Bool} (h : leB c b = true) : aM b (aM c x) = aM b x := by
  cases b with
  | true => have : c = true := by simpa [leB] using h
            rw [this]; rfl
  | false => rfl
theorem aYP {y : Option PV} : gY E P d κ tm nt k os M R true y = nV E P d κ tm nt k os M R y := rfl
theorem bBZ {y : Option PV} : gY E P d κ tm nt k os M R false y = nV E P d κ tm nt k os M R (some (.tup [])) := rfl
theorem aKP : F7 k os M ag n (aM b v) = cO b (F7 k os M ag n v) := by cases b <;> rfl
theorem aC4 : qC n (aM b v) = cO b (qC n v) := by cases b <;> rfl
theorem aD4 : mW ag n o (aM b v) = cO b (mW ag n o v) := by cases b <;> rfl
theorem aRN : T7 (aM b v) = cO b (T7 v) := by cases b <;> rfl
theorem aMF : lN (aM b v) = cO b (lN v) := by cases b <;> rfl
theorem zN : G8 n (aM b v) va = cO b (G8 n v va) := by
 cases b
 ·show G8 n (.tup []) va = none
  unfold G8; cases v6 va <;> rfl
 ·rfl
theorem yQ : G8 n va (aM b v) = cO b (G8 n va v) := by cases b <;> rfl
theorem aIS : Y5 (aM b v) va = cO b (Y5 v va) := by
 cases b
 ·show Y5 (.tup []) va = none
  unfold Y5; cases v6 va <;> rfl
 ·rfl
theorem aJ6 : Y5 va (aM b v) = cO b (Y5 va v) := by cases b <;> rfl
theorem bAL : pun uo (aM b v) = cO b (pun uo v) := by cases b <;> rfl
theorem aN3 : w9 E op t c1 c2 (.tup []) v = none := by
 unfold w9
 cases v <;> (dsimp only; split <;> (try rfl) <;> split <;> rfl)
theorem aPM : w9 E op t c1 c2 v (.tup []) = none := by
 unfold w9
 cases v <;> (dsimp only; split <;> (try rfl) <;> split <;> rfl)
theorem aJD : w9 E op t c1 c2 (aM b v) va = cO b (w9 E op t c1 c2 v va) := by
 cases b
 ·exact aN3
 ·rfl
theorem aJR : w9 E op t c1 c2 va (aM b v) = cO b (w9 E op t c1 c2 va v) := by
 cases b
 ·exact aPM
 ·rfl
theorem aMQ {va : PV} : P1 (aM b v) x va = cO b (P1 v x va) := by cases b <;> rfl
theorem bBH {a c : Bool} : cO c (P1 (.v (.bool a)) (.v (.bool true)) (aM (c && !a) (.v (.bool b)))) = cO c (some (.v (.bool (a || b)))) := by cases c <;> cases a <;> rfl
theorem aRO {a c : Bool} : cO c (P1 (.v (.bool a)) (aM (c && a) (.v (.bool b))) (.v (.bool false))) = cO c (some (.v (.bool (a && b)))) := by cases c <;> cases a <;> rfl
theorem bAC {a b : Bool} : P1 (.v (.bool a)) (.v (.bool true)) (aM (!a) (.v (.bool b))) = some (.v (.bool (a || b))) := aP4 aCU
theorem aQW {a b : Bool} : P1 (.v (.bool a)) (aM a (.v (.bool b))) (.v (.bool false)) = some (.v (.bool (a && b))) := aIX aCU
def wX (E : d9) (P : Program) (rd : Option (Nat × Nat)) : RC -> c5 -> (c9 -> c5 -> Prop) -> Prop
 | .skip, s, Q => Q .normal s
 | .ops l, s, Q => S2 E P l s (Q .normal)
 | .drawn ok l, s, Q => ok = true /\ Q3 E P l s (Q .normal)
 | .seq a b, s, Q => wX E P rd a s (fun e s1 => match e with
  | .normal => wX E P rd b s1 Q
  | e => Q e s1)
 | .cond x a b, s, Q => ∃ v, x s = .v (.bool v) /\ (v = true -> wX E P rd a s Q) /\ (v = false -> wX E P rd b s Q)
 | .block id a, s, Q => wX E P rd a s (rC id Q)
 | .exit i, s, Q => Q (.exit i) s
 | .goto i, s, Q => Q (.goto i) s
 | .ret, s, Q => Q .ret s
 | c, s, Q => RX E P rd c s Q
theorem RX.of (hE : c8 E P) : ∀ {c : RC} {s : c5} {Q : c9 -> c5 -> Prop}, wX E P rd c s Q -> RX E P rd c s Q
 | .skip, _, _, h => RX.skip h
 | .ops l, _, _, h => RX.ops hE h
 | .drawn ok l, _, _, h => by obtain ⟨rfl, h⟩ := h; exact RX.drawn hE h
 | .seq a b, _, _, h => RX.seq ((RX.of hE (c := a) h).mono fun e s1 k => by
  cases e with
  | normal => exact RX.of hE (c := b) k
  | _ => exact k)
 | .cond x a b, _, _, h => by obtain ⟨v, h1, h2, h3⟩ := h; exact RX.cond h1 (fun e => RX.of hE (h2 e)) (fun e => RX.of hE (h3 e))
 | .block id a, _, _, h => RX.blk (RX.of hE h)
 | .exit i, _, _, h => RX.exit h
 | .goto i, _, _, h => RX.goto h
 | .ret, _, _, h => RX.ret h
 | .loop a, _, _, h => h
 | .scope a, _, _, h => h
 | .refuse, _, _, h => h
 | .range f ps a b, _, _, h => h
def thW (E : d9) (P : Program) (rd : Option (Nat × Nat)) (b : RC) (Q : c9 -> c5 -> Prop) : c9 -> c5 -> Prop
 | .normal, s => wX E P rd b s Q
 | e, s => Q e s
variable {a' b' : RC} {e : c9}
theorem aM6 : wX E P rd .skip s Q = Q .normal s := rfl
theorem aSJ : wX E P rd (.ops l) s Q = S2 E P l s (Q .normal) := rfl
theorem aDV : wX E P rd (.drawn true ld) s Q = Q3 E P ld s (Q .normal) := by simp [wX]
theorem aSG : wX E P rd (.seq a' b') s Q = wX E P rd a' s (thW E P rd b' Q) := by
 have : thW E P rd b' Q = (fun e s1 => match e with
  | .normal => wX E P rd b' s1 Q
  | e => Q e s1) := by
  funext e s1
  cases e <;> rfl
 rw [this]; rfl
theorem aB7 : wX E P rd (.block id a') s Q = wX E P rd a' s (rC id Q) := rfl
theorem aLT : wX E P rd (.exit i) s Q = Q (.exit i) s := rfl
theorem aM3 : wX E P rd (.goto i) s Q = Q (.goto i) s := rfl
theorem aR4 : wX E P rd .ret s Q = Q .ret s := rfl
def cW (E : d9) (P : Program) (rd : Option (Nat × Nat)) (a b : RC) (s : c5) (Q : c9 -> c5 -> Prop) (x : PV) : Prop := ∃ v, x = .v (.bool v) /\ (v = true -> wX E P rd a s Q) /\ (v = false -> wX E P rd b s Q)
theorem aND : wX E P rd (.cond (rX t) a' b') ⟨tm, nt, k, os, M⟩ Q = cW E P rd a' b' ⟨tm, nt, k, os, M⟩ Q (a7 tm t) := rfl
theorem aZO : cW E P rd a' b' s Q (.v (.bool true)) = wX E P rd a' s Q := by simp [cW]
theorem aZH : cW E P rd a' b' s Q (.v (.bool false)) = wX E P rd b' s Q := by simp [cW]
theorem jY (h1 : b = true -> wX E P rd a' s Q) (h2 : b = false -> wX E P rd b' s Q) : cW E P rd a' b' s Q (.v (.bool b)) := ⟨b, rfl, h1, h2⟩
theorem h_n : thW E P rd b' Q .normal s = wX E P rd b' s Q := rfl
theorem h_x : thW E P rd b' Q (.exit i) s = Q (.exit i) s := rfl
theorem h_g : thW E P rd b' Q (.goto i) s = Q (.goto i) s := rfl
theorem h_r : thW E P rd b' Q .ret s = Q .ret s := rfl
theorem b_n : rC id Q .normal s = Q .normal s := rfl
theorem b_r : rC id Q .ret s = Q .ret s := rfl
theorem b_x : rC id Q (.exit id) s = Q .normal s := by simp [rC, kK]
theorem b_y (h : (i = id) = False) : rC id Q (.exit i) s = Q (.exit i) s := by
 have : Nat.beq i id = false := by
  cases e : Nat.beq i id with
  | false => rfl
  | true => have := Nat.eq_of_beq_eq_true e; rw [h] at this; exact this.elim
 simp [rC, kK, this]
theorem l_x : iW E P rd b' Q (.exit i) s = Q (.exit i) s := rfl
theorem l_r : iW E P rd b' Q .ret s = Q .ret s := rfl
theorem l_n : iW E P rd b' Q .normal s = u0 E P rd b' s Q := rfl
theorem aZ8 {nt' k' : Nat} : aOT nt k n M Q e ⟨tm, nt', k', os, seg M k os'⟩ = (os'.length = n /\ Q e ⟨tm, nt, k, os', M⟩) := by
 apply propext
 constructor
 ·rintro ⟨os1, h1, h2, h3⟩
  have : os' = os1 := by
   apply List.ext_getElem?
   intro j
   have h4 : seg M k os' k j = seg M k os1 k j := congrFun (congrFun h1 k) j
   rwa [i4, i4] at h4
  subst this
  exact ⟨h2, h3⟩
 ·rintro ⟨h1, h2⟩; exact inq h1 h2
end
theorem WV : type_of% (And.intro @aQ8 <| And.intro @aQK <| And.intro @aRT <| And.intro @aSI <| And.intro @aSD <| And.intro @aR1 <| And.intro @aQU <| And.intro @aQM <| And.intro @aRL <| And.intro @aQF <| And.intro @bCF <| And.intro @aRD <| And.intro @aXV <| And.intro @aMA <|
 And.intro @aJM <| And.intro @aCI <| And.intro @aCF <| And.intro @aEC <| And.intro @yN <| And.intro @aQY <| And.intro @aKF <| And.intro @aLD <| And.intro @aQX <| And.intro @aRK <| And.intro @aQ3 <| And.intro @aD8 <| And.intro @uQ <|
 And.intro @pI <| And.intro @N4 <| And.intro @aHL <| And.intro @jL <| And.intro @bAC <| And.intro @aQW <| And.intro @i7 @j0) := And.intro @aQ8 <| And.intro @aQK <| And.intro @aRT <| And.intro @aSI <| And.intro @aSD <| And.intro @aR1 <| And.intro @aQU <| And.intro @aQM <| And.intro @aRL <| And.intro @aQF <| And.intro @bCF <| And.intro @aRD <| And.intro @aXV <| And.intro @aMA <|
 And.intro @aJM <| And.intro @aCI <| And.intro @aCF <| And.intro @aEC <| And.intro @yN <| And.intro @aQY <| And.intro @aKF <| And.intro @aLD <| And.intro @aQX <| And.intro @aRK <| And.intro @aQ3 <| And.intro @aD8 <| And.intro @uQ <|
 And.intro @pI <| And.intro @N4 <| And.intro @aHL <| And.intro @jL <| And.intro @bAC <| And.intro @aQW <| And.intro @i7 @j0
theorem WO : type_of% (And.intro @aCQ <| And.intro @aD0 <| And.intro @aEW <| And.intro @k_o <| And.intro @k_d <| And.intro @aRP <| And.intro @e_V <| And.intro @e_U <| And.intro @e_S <| And.intro @e_G <| And.intro @aK3 <| And.intro @aYL <| And.intro @aG6 <| And.intro @aZY <| And.intro @bBL <| And.intro @aNN <| And.intro @aSO <| And.intro @aLE <| And.intro @aX5 <| And.intro @aRI <| And.intro @aDB <| And.intro @aQR <| And.intro @aCW <| And.intro @aZP <| And.intro @aZB <| And.intro @bBE <| And.intro @aYP <| And.intro @bBZ <| And.intro @aKP <| And.intro @aC4 <| And.intro @aD4 <| And.intro @aRN <| And.intro @aMF <| And.intro @zN <|
 And.intro @yQ <| And.intro @aIS <| And.intro @aJ6 <| And.intro @bAL <| And.intro @aJD <| And.intro @aJR <| And.intro @aMQ <| And.intro @bBH @aRO) := And.intro @aCQ <| And.intro @aD0 <| And.intro @aEW <| And.intro @k_o <| And.intro @k_d <| And.intro @aRP <| And.intro @e_V <| And.intro @e_U <| And.intro @e_S <| And.intro @e_G <| And.intro @aK3 <| And.intro @aYL <| And.intro @aG6 <| And.intro @aZY <| And.intro @bBL <| And.intro @aNN <| And.intro @aSO <| And.intro @aLE <| And.intro @aX5 <| And.intro @aRI <| And.intro @aDB <| And.intro @aQR <| And.intro @aCW <| And.intro @aZP <| And.intro @aZB <| And.intro @bBE <| And.intro @aYP <| And.intro @bBZ <| And.intro @aKP <| And.intro @aC4 <| And.intro @aD4 <| And.intro @aRN <| And.intro @aMF <| And.intro @zN <|
 And.intro @yQ <| And.intro @aIS <| And.intro @aJ6 <| And.intro @bAL <| And.intro @aJD <| And.intro @aJR <| And.intro @aMQ <| And.intro @bBH @aRO
theorem WX : type_of% (And.intro @aM6 <| And.intro @aSJ <| And.intro @aDV <| And.intro @aSG <| And.intro @aB7 <| And.intro @aLT <| And.intro @aM3 <| And.intro @aR4 <| And.intro @aND <| And.intro @aZO <| And.intro @aZH <| And.intro @h_n <| And.intro @h_x <| And.intro @h_g <| And.intro @h_r <|
 And.intro @b_n <| And.intro @b_r <| And.intro @b_x <| And.intro @b_y <| And.intro @l_x <| And.intro @l_r <| And.intro @l_n @aZ8) := And.intro @aM6 <| And.intro @aSJ <| And.intro @aDV <| And.intro @aSG <| And.intro @aB7 <| And.intro @aLT <| And.intro @aM3 <| And.intro @aR4 <| And.intro @aND <| And.intro @aZO <| And.intro @aZH <| And.intro @h_n <| And.intro @h_x <| And.intro @h_g <| And.intro @h_r <|
 And.intro @b_n <| And.intro @b_r <| And.intro @b_x <| And.intro @b_y <| And.intro @l_x <| And.intro @l_r <| And.intro @l_n @aZ8
end Go.Pm
end