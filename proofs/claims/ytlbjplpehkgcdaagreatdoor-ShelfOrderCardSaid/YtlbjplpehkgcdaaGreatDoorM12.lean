/- ShelfOrder holds. Part 12 of 32; no condition. -/
import Derived.Test.YtlbjplpehkgcdaaGreatDoorM11
set_option linter.unusedVariables false
set_option linter.unusedSimpArgs false
noncomputable section
namespace Go.Pm
open Go.RowKit Go.Am
section
variable {E : i9} {P : Program} {rd : Option (Nat × Nat)} {tm : List (Nat × PV)} {nt k d g n c i j o id : Nat} {os os' : List Obj} {M : c7} {f : d9 -> Option PV} {F : d9 -> Option (PV × d9)} {x va v : PV} {l : List RI} {ld : List RD} {R : d9 -> Prop} {w b : Bool} {A B C : Operand} {s : d9}
 {Q : f7 -> d9 -> Prop} {z : List PV} {ob : Obj} {ag : Bool} {op : BinOp} {t : Nat} {c1 c2 : Bool} {uo : UnOp}
theorem aSJ : l4 tm (.tmp i) = c8 tm i := rfl
theorem aSK {kk : IntKind} {m : Int} : l4 tm (.const (.int kk m)) = .v (.int kk m) := rfl
theorem aSU : l4 tm (.const (.bool b)) = .v (.bool b) := rfl
theorem aTY {y : ByteArray} : l4 tm (.const (.string y)) = .v (.string y) := rfl
theorem aS3 : l4 tm (.const (.pointer none)) = .v (.pointer none) := rfl
theorem aSA : l4 tm (.const (.slice none 0 0)) = .lst .full 0 0 [] := rfl
theorem aSH : l4 tm (.global g) = .ptr 0 g 0 := rfl
theorem aTL : l4 tm (.func g) = .fn g [] [] := rfl
theorem aTV : c8 ((i, v) :: tm) i = v := by rw [Q6, if_pos rfl]
theorem aSF (h : (i = j) = False) : c8 ((j, v) :: tm) i = c8 tm i := by rw [Q6, if_neg (by rw [h]; exact id)]
theorem bAD : j9 A ⟨tm, nt, k, os, M⟩ = some (l4 tm A) := rfl
theorem aSY : d7 E op t c1 c2 A B ⟨tm, nt, k, os, M⟩ = C0 E op t c1 c2 (l4 tm A) (l4 tm B) := rfl
theorem bBY : Y1 uo A ⟨tm, nt, k, os, M⟩ = pun uo (l4 tm A) := rfl
theorem aLG : n6 A B C ⟨tm, nt, k, os, M⟩ = S6 (l4 tm A) (l4 tm B) (l4 tm C) := rfl
theorem aLM : c4 ag n A ⟨tm, nt, k, os, M⟩ = y6 k os M ag n (l4 tm A) := by
 unfold c4 y6
 dsimp only [d9.look]
 cases l4 tm A with
 | ptr a i o =>
  dsimp only
  generalize (if a = k then os[i]? else M a i) = y
  unfold p9
  cases y with
  | none => rfl
  | some o => cases o <;> rfl
 | dp cs o => rfl
 | _ => rfl
theorem aES : c5 n A ⟨tm, nt, k, os, M⟩ = pT n (l4 tm A) := rfl
theorem aGN : aX7 ag n o A ⟨tm, nt, k, os, M⟩ = pZ ag n o (l4 tm A) := rfl
theorem aFN : m7 n A B ⟨tm, nt, k, os, M⟩ = I5 n (l4 tm A) (l4 tm B) := rfl
theorem zC : xP c n A B ⟨tm, nt, k, os, M⟩ = lN c n (l4 tm A) (l4 tm B) := rfl
theorem aST : C5 A ⟨tm, nt, k, os, M⟩ = gB (l4 tm A) := rfl
theorem aI2 : U7 A ⟨tm, nt, k, os, M⟩ = nN (l4 tm A) := rfl
theorem aKP : cX A B ⟨tm, nt, k, os, M⟩ = gE (l4 tm A) (l4 tm B) := rfl
theorem aTG : K8 A n ⟨tm, nt, k, os, M⟩ = bCZ n (l4 tm A) := rfl
theorem aTU : T6 z ⟨tm, nt, k, os, M⟩ = some (.ptr k os.length 0, ⟨tm, nt, k, os ++ [.row .rw 0 z], M⟩) := rfl
def aJY (tm : List (Nat × PV)) (nt k : Nat) (os : List Obj) (M : c7) (v : PV) : Option (PV × d9) :=
 if E8 v = true then some (.ptr k os.length 0, ⟨tm, nt, k, os ++ [.row .rw 0 (k9 v)], M⟩) else none
theorem aSG : C4 A ⟨tm, nt, k, os, M⟩ = aJY tm nt k os M (l4 tm A) := rfl
theorem aEI (h : E8 v = true) : aJY tm nt k os M v = some (.ptr k os.length 0, ⟨tm, nt, k, os ++ [.row .rw 0 (k9 v)], M⟩) := by unfold aJY; rw [if_pos h]
def stI (tm : List (Nat × PV)) (nt k : Nat) (os : List Obj) (M : c7) (i : Nat) : Option Obj -> Option (PV × d9)
 | some o => some (.junk, ⟨tm, nt, k, os.set i o, M⟩)
 | none => none
def stO (tm : List (Nat × PV)) (nt k : Nat) (os : List Obj) (M : c7) (a i : Nat) : Option Obj -> Option (PV × d9)
 | some o => some (.junk, ⟨tm, nt, k, os, l7 M a i o⟩)
 | none => none
def L0 (tm : List (Nat × PV)) (nt k : Nat) (os : List Obj) (M : c7) (n : Nat) (v : PV) : PV -> Option (PV × d9)
 | .ptr a i o => if a = k then stI tm nt k os M i (w5 n o v os[i]?) else stO tm nt k os M a i (w5 n o v (M a i))
 | _ => none
theorem aD7 : o5 n A B ⟨tm, nt, k, os, M⟩ = L0 tm nt k os M n (l4 tm B) (l4 tm A) := by
 unfold o5 L0
 dsimp only [d9.look, d9.putO]
 cases l4 tm A with
 | ptr a i o =>
  dsimp only
  by_cases h : a = k
  ·rw [if_pos h, if_pos h]
   cases os[i]? with
   | none => rfl
   | some y => cases y with
    | row w es cs =>
     cases w with
     | rw =>
      dsimp only [w5]
      split
      ·simp only [stI]
      ·rfl
     | own =>
      dsimp only [w5]
      split
      ·simp only [stI]
      ·rfl
     | _ => rfl
    | _ => rfl
  ·rw [if_neg h, if_neg h]
   cases M a i with
   | none => rfl
   | some y => cases y with
    | row w es cs =>
     cases w with
     | rw =>
      dsimp only [w5]
      split
      ·simp only [stO]
      ·rfl
     | own =>
      dsimp only [w5]
      split
      ·simp only [stO]
      ·rfl
     | _ => rfl
    | _ => rfl
 | _ => rfl
theorem rD : L0 tm nt k os M n v (.ptr k i o) = stI tm nt k os M i (w5 n o v os[i]?) := by unfold L0; dsimp only; rw [if_pos rfl]
theorem F1 {a : Nat} (h : a ≠ k) : L0 tm nt k os M n v (.ptr a i o) = stO tm nt k os M a i (w5 n o v (M a i)) := by unfold L0; dsimp only; rw [if_neg h]
theorem aIX : stI tm nt k os M i (some ob) = some (.junk, ⟨tm, nt, k, os.set i ob, M⟩) := rfl
theorem aH {a : Nat} : stO tm nt k os M a i (some ob) = some (.junk, ⟨tm, nt, k, os, l7 M a i ob⟩) := rfl
inductive V2 where
 | o (l : List RI)
 | d (l : List RD)
def RK (E : i9) (P : Program) : V2 -> d9 -> (d9 -> Prop) -> Prop
 | .o l, s, R => T8 E P l s R
 | .d l, s, R => V0 E P l s R
variable {κ : V2}
theorem k_o : RK E P (.o l) s R = T8 E P l s R := rfl
theorem k_d : RK E P (.d ld) s R = V0 E P ld s R := rfl
def nV (E : i9) (P : Program) (d : Nat) (κ : V2) (tm : List (Nat × PV)) (nt k : Nat) (os : List Obj) (M : c7) (R : d9 -> Prop) : Option PV -> Prop
 | some x => d < nt /\ RK E P κ ⟨(d, x) :: tm, nt, k, os, M⟩ R
 | none => False
def nU (E : i9) (P : Program) (d : Nat) (κ : V2) (R : d9 -> Prop) : Option (PV × d9) -> Prop
 | some (x, s) => d < s.nt /\ RK E P κ ⟨(d, x) :: s.tm, s.nt, s.k, s.os, s.M⟩ R
 | none => False
def nS (E : i9) (P : Program) (κ : V2) (R : d9 -> Prop) : Option (PV × d9) -> Prop
 | some (x, s) => RK E P κ s R
 | none => False
theorem aGF : nV E P d κ tm nt k os M R (some x) = (d < nt /\ RK E P κ ⟨(d, x) :: tm, nt, k, os, M⟩ R) := rfl
theorem aDW : nU E P d κ R (some (x, ⟨tm, nt, k, os, M⟩)) = (d < nt /\ RK E P κ ⟨(d, x) :: tm, nt, k, os, M⟩ R) := rfl
theorem aF4 : nS E P κ R (some (x, s)) = RK E P κ s R := rfl
theorem bX : (∃ s1, K4 ⟨tm, nt, k, os, M⟩ (some d) x = some s1 /\ RK E P κ s1 R) = (d < nt /\ RK E P κ ⟨(d, x) :: tm, nt, k, os, M⟩ R) := by
 simp only [K4]
 by_cases h : d < nt
 ·simp [h]
 ·simp [h]
theorem aTZ : T8 E P [] s R = R s := rfl
theorem aMF : V0 E P [] s R = R s := rfl
theorem e_V : T8 E P (oV d f :: l) ⟨tm, nt, k, os, M⟩ R = nV E P d (.o l) tm nt k os M R (f ⟨tm, nt, k, os, M⟩) := by
 show (∃ s1, rI (some d) none (rv f) ⟨tm, nt, k, os, M⟩ = some s1 /\ RK E P (.o l) s1 R) = _
 simp only [rI, rg, rv]
 cases f ⟨tm, nt, k, os, M⟩ with
 | none => simp [nV]
 | some x => exact bX
theorem bCM : V0 E P (dV d f :: ld) ⟨tm, nt, k, os, M⟩ R = nV E P d (.d ld) tm nt k os M R (f ⟨tm, nt, k, os, M⟩) := by
 show (true = true /\ ∃ s1, rI (some d) none (rv f) ⟨tm, nt, k, os, M⟩ = some s1 /\ RK E P (.d ld) s1 R) = _
 rw [eq_self, true_and]
 simp only [rI, rg, rv]
 cases f ⟨tm, nt, k, os, M⟩ with
 | none => simp [nV]
 | some x => exact bX
theorem e_U : T8 E P (oU d F :: l) s R = nU E P d (.o l) R (F s) := by
 show (∃ s1, rI (some d) none F s = some s1 /\ RK E P (.o l) s1 R) = _
 simp only [rI, rg]
 cases F s with
 | none => simp [nU]
 | some x => exact bX
theorem aKR : V0 E P (dU d F :: ld) s R = nU E P d (.d ld) R (F s) := by
 show (true = true /\ ∃ s1, rI (some d) none F s = some s1 /\ RK E P (.d ld) s1 R) = _
 rw [eq_self, true_and]
 simp only [rI, rg]
 cases F s with
 | none => simp [nU]
 | some x => exact bX
theorem e_S : T8 E P (oS F :: l) s R = nS E P (.o l) R (F s) := by
 show (∃ s1, rI none none F s = some s1 /\ RK E P (.o l) s1 R) = _
 simp only [rI, rg]
 cases F s with
 | none => simp [nS]
 | some x => simp [nS, K4]
theorem bAT : V0 E P (dS F :: ld) s R = nS E P (.d ld) R (F s) := by
 show (true = true /\ ∃ s1, rI none none F s = some s1 /\ RK E P (.d ld) s1 R) = _
 rw [eq_self, true_and]
 simp only [rI, rg]
 cases F s with
 | none => simp [nS]
 | some x => simp [nS, K4]
def bP (b : Bool) (x : PV) : PV := bif b then x else .tup []
theorem aF1 : Cnd bP := ⟨fun _ => rfl, fun _ => rfl⟩
theorem m9 : bP true x = x := rfl
theorem o8 : bP false x = .tup [] := rfl
def rgV (w : Bool) : PV -> Option Bool
 | .v (.bool b) => some (b == w)
 | .tup [] => some false
 | _ => none
theorem aCB {s : d9} : rg (some (g, w)) s = rgV w (c8 s.tm g) := by
 unfold rg rgV
 dsimp only
 cases c8 s.tm g with
 | v x => cases x <;> rfl
 | tup cs => cases cs <;> rfl
 | _ => rfl
def gS (E : i9) (P : Program) (d : Nat) (κ : V2) (tm : List (Nat × PV)) (nt k : Nat) (os : List Obj) (M : c7) (R : d9 -> Prop) (y : Option PV) : Option Bool -> Prop
 | some true => nV E P d κ tm nt k os M R y
 | some false => nV E P d κ tm nt k os M R (some (.tup []))
 | none => False
def gY (E : i9) (P : Program) (d : Nat) (κ : V2) (tm : List (Nat × PV)) (nt k : Nat) (os : List Obj) (M : c7) (R : d9 -> Prop) (b : Bool) (y : Option PV) : Prop := gS E P d κ tm nt k os M R y (some b)
def gG (E : i9) (P : Program) (d : Nat) (w : Bool) (f : d9 -> Option PV) (κ : V2) (tm : List (Nat × PV)) (nt k : Nat) (os : List Obj) (M : c7) (R : d9 -> Prop) (v : PV) : Prop :=
 gS E P d κ tm nt k os M R (f ⟨tm, nt, k, os, M⟩) (rgV w v)
theorem e_G : T8 E P (oG d g w f :: l) ⟨tm, nt, k, os, M⟩ R = gG E P d w f (.o l) tm nt k os M R (c8 tm g) := by
 show (∃ s1, rI (some d) (some (g, w)) (rv f) ⟨tm, nt, k, os, M⟩ = some s1 /\ RK E P (.o l) s1 R) = _
 unfold gG rI
 rw [aCB]
 dsimp only
 cases rgV w (c8 tm g) with
 | none => simp [gS]
 | some b =>
  cases b with
  | true =>
   dsimp only [gS, rv]
   cases f ⟨tm, nt, k, os, M⟩ with
   | none => simp [nV]
   | some x => exact bX
  | false => exact bX
theorem bB6 : V0 E P (dG d g w f :: ld) ⟨tm, nt, k, os, M⟩ R = gG E P d w f (.d ld) tm nt k os M R (c8 tm g) := by
 show (true = true /\ ∃ s1, rI (some d) (some (g, w)) (rv f) ⟨tm, nt, k, os, M⟩ = some s1 /\ RK E P (.d ld) s1 R) = _
 rw [eq_self, true_and]
 unfold gG rI
 rw [aCB]
 dsimp only
 cases rgV w (c8 tm g) with
 | none => simp [gS]
 | some b =>
  cases b with
  | true =>
   dsimp only [gS, rv]
   cases f ⟨tm, nt, k, os, M⟩ with
   | none => simp [nV]
   | some x => exact bX
  | false => exact bX
theorem aQZ : gG E P d w f κ tm nt k os M R (.tup []) = nV E P d κ tm nt k os M R (some (.tup [])) := rfl
theorem aX1 : gG E P d true f κ tm nt k os M R (.v (.bool b)) = gY E P d κ tm nt k os M R b (f ⟨tm, nt, k, os, M⟩) := by
 show gS _ _ _ _ _ _ _ _ _ _ _ (some (b == true)) = _; rw [eqT]; rfl
theorem aJ1 : gG E P d false f κ tm nt k os M R (.v (.bool b)) = gY E P d κ tm nt k os M R (!b) (f ⟨tm, nt, k, os, M⟩) := by
 show gS _ _ _ _ _ _ _ _ _ _ _ (some (b == false)) = _
 rw [eqF]; rfl
theorem aZ8 {a : Bool} : gG E P d true f κ tm nt k os M R (bP a (.v (.bool b))) = gY E P d κ tm nt k os M R (a && b) (f ⟨tm, nt, k, os, M⟩) := by
 cases a with
 | true => rw [m9, aX1]; simp
 | false => rw [o8, aQZ]; rfl
theorem aSX {a : Bool} : gG E P d false f κ tm nt k os M R (bP a (.v (.bool b))) = gY E P d κ tm nt k os M R (a && !b) (f ⟨tm, nt, k, os, M⟩) := by
 cases a with
 | true => rw [m9, aJ1]; simp
 | false => rw [o8, aQZ]; rfl
def leB (c b : Bool) : Bool := !b || c
theorem bAR {c : Bool} : leB c c = true := by cases c <;> rfl
theorem bAS {c a : Bool} (h : leB c a = true) : leB c (a && b) = true := by revert h; cases a <;> cases b <;> cases c <;> simp [leB]
theorem bCY {c a e : Bool} (h : leB c a = true) (h' : leB e a = true) : leB (c && e) a = true := by revert h h'; cases a <;> cases c <;> cases e <;> simp [leB]
def cO (b : Bool) (o : Option PV) : Option PV := bif b then o else none
theorem aDY : gY E P d κ tm nt k os M R b (some x) = nV E P d κ tm nt k os M R (some (bP b x)) := by cases b <;> rfl
theorem aTN {c : Bool} {y : Option PV} (h : leB c b = true) : gY E P d κ tm nt k os M R b (cO c y) = gY E P d κ tm nt k os M R b y := by
  cases b with
  | true => have : c = true := by simpa [leB] using h
            rw [this]; rfl
  | false => rfl
theorem aFP {c : Bool} (h : leB c b = true) : bP b (bP c x) = bP b x := by
  cases b with
  | true => have : c = true := by simpa [leB] using h
            rw [this]; rfl
  | false => rfl
theorem bCI {y : Option PV} : gY E P d κ tm nt k os M R true y = nV E P d κ tm nt k os M R y := rfl
theorem bCT {y : Option PV} : gY E P d κ tm nt k os M R false y = nV E P d κ tm nt k os M R (some (.tup [])) := rfl
theorem aJT : y6 k os M ag n (bP b v) = cO b (y6 k os M ag n v) := by cases b <;> rfl
theorem aGE : pT n (bP b v) = cO b (pT n v) := by cases b <;> rfl
theorem aD1 : pZ ag n o (bP b v) = cO b (pZ ag n o v) := by cases b <;> rfl
theorem aSE : gB (bP b v) = cO b (gB v) := by cases b <;> rfl
theorem aL6 : nN (bP b v) = cO b (nN v) := by cases b <;> rfl
theorem aBQ : I5 n (bP b v) va = cO b (I5 n v va) := by
 cases b
 ·show I5 n (.tup []) va = none
  unfold I5; cases B9 va <;> rfl
 ·rfl
theorem aAN : I5 n va (bP b v) = cO b (I5 n va v) := by cases b <;> rfl
theorem aN4 : gE (bP b v) va = cO b (gE v va) := by
 cases b
 ·show gE (.tup []) va = none
  unfold gE; cases B9 va <;> rfl
 ·rfl
theorem aOR : gE va (bP b v) = cO b (gE va v) := by cases b <;> rfl
theorem aZS : pun uo (bP b v) = cO b (pun uo v) := by cases b <;> rfl
theorem aOW : C0 E op t c1 c2 (.tup []) v = none := by
 unfold C0
 cases v <;> (dsimp only; split <;> (try rfl) <;> split <;> rfl)
theorem aPK : C0 E op t c1 c2 v (.tup []) = none := by
 unfold C0
 cases v <;> (dsimp only; split <;> (try rfl) <;> split <;> rfl)
theorem aNM : C0 E op t c1 c2 (bP b v) va = cO b (C0 E op t c1 c2 v va) := by
 cases b
 ·exact aOW
 ·rfl
theorem aK7 : C0 E op t c1 c2 va (bP b v) = cO b (C0 E op t c1 c2 va v) := by
 cases b
 ·exact aPK
 ·rfl
theorem aMS {va : PV} : S6 (bP b v) x va = cO b (S6 v x va) := by cases b <;> rfl
theorem bB7 {a c : Bool} : cO c (S6 (.v (.bool a)) (.v (.bool true)) (bP (c && !a) (.v (.bool b)))) = cO c (some (.v (.bool (a || b)))) := by cases c <;> cases a <;> rfl
theorem aTD {a c : Bool} : cO c (S6 (.v (.bool a)) (bP (c && a) (.v (.bool b))) (.v (.bool false))) = cO c (some (.v (.bool (a && b)))) := by cases c <;> cases a <;> rfl
theorem aZ1 {a b : Bool} : S6 (.v (.bool a)) (.v (.bool true)) (bP (!a) (.v (.bool b))) = some (.v (.bool (a || b))) := aQJ aF1
theorem aTO {a b : Bool} : S6 (.v (.bool a)) (bP a (.v (.bool b))) (.v (.bool false)) = some (.v (.bool (a && b))) := aL4 aF1
def wX (E : i9) (P : Program) (rd : Option (Nat × Nat)) : RC -> d9 -> (f7 -> d9 -> Prop) -> Prop
 | .skip, s, Q => Q .normal s
 | .ops l, s, Q => T8 E P l s (Q .normal)
 | .drawn ok l, s, Q => ok = true /\ V0 E P l s (Q .normal)
 | .seq a b, s, Q => wX E P rd a s (fun e s1 => match e with
  | .normal => wX E P rd b s1 Q
  | e => Q e s1)
 | .cond x a b, s, Q => ∃ v, x s = .v (.bool v) /\ (v = true -> wX E P rd a s Q) /\ (v = false -> wX E P rd b s Q)
 | .block id a, s, Q => wX E P rd a s (yB id Q)
 | .exit i, s, Q => Q (.exit i) s
 | .goto i, s, Q => Q (.goto i) s
 | .ret, s, Q => Q .ret s
 | c, s, Q => RX E P rd c s Q
theorem RX.of (hE : e7 E P) : ∀ {c : RC} {s : d9} {Q : f7 -> d9 -> Prop}, wX E P rd c s Q -> RX E P rd c s Q
 | .skip, _, _, h => RX.skip h
 | .ops l, _, _, h => RX.ops hE h
 | .drawn ok l, _, _, h => by obtain ⟨rfl, h⟩ := h; exact RX.drawn hE h
 | .seq a b, _, _, h => RX.seq ((RX.of hE (c := a) h).mono fun e s1 k => by
  cases e with
  | normal => exact RX.of hE (c := b) k
  | _ => exact k)
 | .cond x a b, _, _, h => by obtain ⟨v, h1, h2, h3⟩ := h; exact RX.cond h1 (fun e => RX.of hE (h2 e)) (fun e => RX.of hE (h3 e))
 | .block id a, _, _, h => RX.blk (RX.of hE h)
 | .exit i, _, _, h => RX.exit h
 | .goto i, _, _, h => RX.goto h
 | .ret, _, _, h => RX.ret h
 | .loop a, _, _, h => h
 | .scope a, _, _, h => h
 | .refuse, _, _, h => h
 | .range f ps a b, _, _, h => h
def thW (E : i9) (P : Program) (rd : Option (Nat × Nat)) (b : RC) (Q : f7 -> d9 -> Prop) : f7 -> d9 -> Prop
 | .normal, s => wX E P rd b s Q
 | e, s => Q e s
variable {a' b' : RC} {e : f7}
theorem aL1 : wX E P rd .skip s Q = Q .normal s := rfl
theorem aTS : wX E P rd (.ops l) s Q = T8 E P l s (Q .normal) := rfl
theorem aET : wX E P rd (.drawn true ld) s Q = V0 E P ld s (Q .normal) := by simp [wX]
theorem aTM : wX E P rd (.seq a' b') s Q = wX E P rd a' s (thW E P rd b' Q) := by
 have : thW E P rd b' Q = (fun e s1 => match e with
  | .normal => wX E P rd b' s1 Q
  | e => Q e s1) := by
  funext e s1
  cases e <;> rfl
 rw [this]; rfl
theorem aEQ : wX E P rd (.block id a') s Q = wX E P rd a' s (yB id Q) := rfl
theorem aM2 : wX E P rd (.exit i) s Q = Q (.exit i) s := rfl
theorem aOE : wX E P rd (.goto i) s Q = Q (.goto i) s := rfl
theorem aTC : wX E P rd .ret s Q = Q .ret s := rfl
def cW (E : i9) (P : Program) (rd : Option (Nat × Nat)) (a b : RC) (s : d9) (Q : f7 -> d9 -> Prop) (x : PV) : Prop := ∃ v, x = .v (.bool v) /\ (v = true -> wX E P rd a s Q) /\ (v = false -> wX E P rd b s Q)
theorem aJS : wX E P rd (.cond (rX t) a' b') ⟨tm, nt, k, os, M⟩ Q = cW E P rd a' b' ⟨tm, nt, k, os, M⟩ Q (c8 tm t) := rfl
theorem aZX : cW E P rd a' b' s Q (.v (.bool true)) = wX E P rd a' s Q := by simp [cW]
theorem bBO : cW E P rd a' b' s Q (.v (.bool false)) = wX E P rd b' s Q := by simp [cW]
theorem eY (h1 : b = true -> wX E P rd a' s Q) (h2 : b = false -> wX E P rd b' s Q) : cW E P rd a' b' s Q (.v (.bool b)) := ⟨b, rfl, h1, h2⟩
theorem h_n : thW E P rd b' Q .normal s = wX E P rd b' s Q := rfl
theorem h_x : thW E P rd b' Q (.exit i) s = Q (.exit i) s := rfl
theorem h_g : thW E P rd b' Q (.goto i) s = Q (.goto i) s := rfl
theorem h_r : thW E P rd b' Q .ret s = Q .ret s := rfl
theorem b_n : yB id Q .normal s = Q .normal s := rfl
theorem b_r : yB id Q .ret s = Q .ret s := rfl
theorem b_x : yB id Q (.exit id) s = Q .normal s := by simp [yB, nD]
theorem b_y (h : (i = id) = False) : yB id Q (.exit i) s = Q (.exit i) s := by
 have : Nat.beq i id = false := by
  cases e : Nat.beq i id with
  | false => rfl
  | true => have := Nat.eq_of_beq_eq_true e; rw [h] at this; exact this.elim
 simp [yB, nD, this]
theorem l_x : lQ E P rd b' Q (.exit i) s = Q (.exit i) s := rfl
theorem l_r : lQ E P rd b' Q .ret s = Q .ret s := rfl
theorem l_n : lQ E P rd b' Q .normal s = w7 E P rd b' s Q := rfl
theorem aZM {nt' k' : Nat} : aQL nt k n M Q e ⟨tm, nt', k', os, seg M k os'⟩ = (os'.length = n /\ Q e ⟨tm, nt, k, os', M⟩) := by
 apply propext
 constructor
 ·rintro ⟨os1, h1, h2, h3⟩
  have : os' = os1 := by
   apply List.ext_getElem?
   intro j
   have h4 : seg M k os' k j = seg M k os1 k j := congrFun (congrFun h1 k) j
   rwa [e8, e8] at h4
  subst this
  exact ⟨h2, h3⟩
 ·rintro ⟨h1, h2⟩; exact inq h1 h2
end
theorem WV : type_of% (And.intro @aSJ <| And.intro @aSK <| And.intro @aSU <| And.intro @aTY <| And.intro @aS3 <| And.intro @aSA <| And.intro @aSH <| And.intro @aTL <| And.intro @aTV <| And.intro @aSF <| And.intro @bAD <| And.intro @aSY <| And.intro @bBY <| And.intro @aLG <|
 And.intro @aLM <| And.intro @aES <| And.intro @aGN <| And.intro @aFN <| And.intro @zC <| And.intro @aST <| And.intro @aI2 <| And.intro @aKP <| And.intro @aTG <| And.intro @aTU <| And.intro @aSG <| And.intro @aEI <| And.intro @aD7 <|
 And.intro @rD <| And.intro @F1 <| And.intro @aIX <| And.intro @aH <| And.intro @aZ1 <| And.intro @aTO <| And.intro @m9 @o8) := And.intro @aSJ <| And.intro @aSK <| And.intro @aSU <| And.intro @aTY <| And.intro @aS3 <| And.intro @aSA <| And.intro @aSH <| And.intro @aTL <| And.intro @aTV <| And.intro @aSF <| And.intro @bAD <| And.intro @aSY <| And.intro @bBY <| And.intro @aLG <|
 And.intro @aLM <| And.intro @aES <| And.intro @aGN <| And.intro @aFN <| And.intro @zC <| And.intro @aST <| And.intro @aI2 <| And.intro @aKP <| And.intro @aTG <| And.intro @aTU <| And.intro @aSG <| And.intro @aEI <| And.intro @aD7 <|
 And.intro @rD <| And.intro @F1 <| And.intro @aIX <| And.intro @aH <| And.intro @aZ1 <| And.intro @aTO <| And.intro @m9 @o8
theorem WO : type_of% (And.intro @aGF <| And.intro @aDW <| And.intro @aF4 <| And.intro @k_o <| And.intro @k_d <| And.intro @aTZ <| And.intro @e_V <| And.intro @e_U <| And.intro @e_S <| And.intro @e_G <| And.intro @aMF <| And.intro @bCM <| And.intro @aKR <| And.intro @bAT <| And.intro @bB6 <| And.intro @aQZ <| And.intro @aX1 <| And.intro @aJ1 <| And.intro @aZ8 <| And.intro @aSX <| And.intro @aDY <| And.intro @aTN <| And.intro @aFP <| And.intro @bAR <| And.intro @bAS <| And.intro @bCY <| And.intro @bCI <| And.intro @bCT <| And.intro @aJT <| And.intro @aGE <| And.intro @aD1 <| And.intro @aSE <| And.intro @aL6 <| And.intro @aBQ <|
 And.intro @aAN <| And.intro @aN4 <| And.intro @aOR <| And.intro @aZS <| And.intro @aNM <| And.intro @aK7 <| And.intro @aMS <| And.intro @bB7 @aTD) := And.intro @aGF <| And.intro @aDW <| And.intro @aF4 <| And.intro @k_o <| And.intro @k_d <| And.intro @aTZ <| And.intro @e_V <| And.intro @e_U <| And.intro @e_S <| And.intro @e_G <| And.intro @aMF <| And.intro @bCM <| And.intro @aKR <| And.intro @bAT <| And.intro @bB6 <| And.intro @aQZ <| And.intro @aX1 <| And.intro @aJ1 <| And.intro @aZ8 <| And.intro @aSX <| And.intro @aDY <| And.intro @aTN <| And.intro @aFP <| And.intro @bAR <| And.intro @bAS <| And.intro @bCY <| And.intro @bCI <| And.intro @bCT <| And.intro @aJT <| And.intro @aGE <| And.intro @aD1 <| And.intro @aSE <| And.intro @aL6 <| And.intro @aBQ <|
 And.intro @aAN <| And.intro @aN4 <| And.intro @aOR <| And.intro @aZS <| And.intro @aNM <| And.intro @aK7 <| And.intro @aMS <| And.intro @bB7 @aTD
theorem WX : type_of% (And.intro @aL1 <| And.intro @aTS <| And.intro @aET <| And.intro @aTM <| And.intro @aEQ <| And.intro @aM2 <| And.intro @aOE <| And.intro @aTC <| And.intro @aJS <| And.intro @aZX <| And.intro @bBO <| And.intro @h_n <| And.intro @h_x <| And.intro @h_g <| And.intro @h_r <|
 And.intro @b_n <| And.intro @b_r <| And.intro @b_x <| And.intro @b_y <| And.intro @l_x <| And.intro @l_r <| And.intro @l_n @aZM) := And.intro @aL1 <| And.intro @aTS <| And.intro @aET <| And.intro @aTM <| And.intro @aEQ <| And.intro @aM2 <| And.intro @aOE <| And.intro @aTC <| And.intro @aJS <| And.intro @aZX <| And.intro @bBO <| And.intro @h_n <| And.intro @h_x <| And.intro @h_g <| And.intro @h_r <|
 And.intro @b_n <| And.intro @b_r <| And.intro @b_x <| And.intro @b_y <| And.intro @l_x <| And.intro @l_r <| And.intro @l_n @aZM
end Go.Pm
end