/- TableMoves holds. Part 6 of 29; no condition. -/
import Derived.Test.YthjlhgjnjhmfbaaGreatDoorM5
set_option linter.unusedVariables false
set_option linter.unusedSimpArgs false
noncomputable section
namespace Go.Pm
open Go.RowKit Go.Am
def rg (g : Option (Nat × Bool)) (s : PSt) : Option Bool :=
 match g with
 | none => some true
 | some (d, want) => match tget s.tm d with
  | .v (.bool b) => some (b == want)
  | .tup [] => some false
  | _ => none
def rI (dst : Option Nat) (g : Option (Nat × Bool)) (f : PSt -> Option (PV × PSt)) : PSt -> Option PSt := fun s =>
 match rg g s with
 | some true => match f s with
  | some (x, s1) => pput s1 dst x
  | none => none
 | some false => pput s dst (.tup [])
 | none => none
def rv (f : PSt -> Option PV) : PSt -> Option (PV × PSt) := fun s => match f s with
 | some v => some (v, s)
 | none => none
def rload (ag : Bool) (n : Nat) (a : Operand) : PSt -> Option PV := fun s => match pev s.tm a with
 | .ptr k i o => match s.look k i with
  | some (.row _ _ cs) => ptake ag n cs o
  | _ => none
 | .dp cs o => ptake ag n cs o
 | _ => none
def rstore (n : Nat) (a x : Operand) : PSt -> Option (PV × PSt) := fun s => match pev s.tm a with
 | .ptr k i o => match s.look k i with
  | some (.row .rw es cs) => if (pcells (pev s.tm x)).length = n /\ o + (pcells (pev s.tm x)).length <= cs.length /\ (pcells (pev s.tm x)).all pone = true then some (.junk, s.putO k i (.row .rw es (psplice cs o (pcells (pev s.tm x))))) else none
  | some (.row .own es cs) => if (pcells (pev s.tm x)).length = n /\ o + (pcells (pev s.tm x)).length <= cs.length /\ (pcells (pev s.tm x)).all pone = true then some (.junk, s.putO k i (.row .rw es (psplice cs o (pcells (pev s.tm x))))) else none
  | _ => none
 | _ => none
def rmv (x : Operand) : PSt -> Option PV := fun s => some (pev s.tm x)
def rpick (c a b : Operand) : PSt -> Option PV := fun s => ppick (pev s.tm c) (pev s.tm a) (pev s.tm b)
def rbin (E : Env) (op : BinOp) (t : Nat) (c d : Bool) (x y : Operand) : PSt -> Option PV := fun s => pbin E op t c d (pev s.tm x) (pev s.tm y)
def run' (op : UnOp) (x : Operand) : PSt -> Option PV := fun s => pun op (pev s.tm x)
def rfaddr (off : Nat) (x : Operand) : PSt -> Option PV := fun s => match pev s.tm x with
 | .ptr k i o => some (.ptr k i (o + off))
 | .dp cs o => some (.dp cs (o + off))
 | _ => none
def rpart (ag : Bool) (n off : Nat) (cs : List PV) : Option PV :=
 match ag with
 | true => some (.agg ((cs.drop off).take n))
 | false => cs[off]?
def rfield (ag : Bool) (n off : Nat) (x : Operand) : PSt -> Option PV := fun s => match pev s.tm x with
 | .agg cs => rpart ag n off cs
 | _ => none
def riaddr (sz : Nat) (x i : Operand) : PSt -> Option PV := fun s => iaddrS sz (pev s.tm x) (pev s.tm i)
def riaddrA (len sz : Nat) (x i : Operand) : PSt -> Option PV := fun s => iaddrA len sz (pev s.tm x) (pev s.tm i)
def rnew (z : List PV) : PSt -> Option (PV × PSt) := fun s => some (pnewRow s 0 z)
def rbox (x : Operand) : PSt -> Option (PV × PSt) := fun s => if notJunk (pev s.tm x) = true then some (pnewRow s 0 (pcells (pev s.tm x))) else none
def rlen (x : Operand) : PSt -> Option PV := fun s => lenL (pev s.tm x)
def rlenS (x : Operand) : PSt -> Option PV := fun s => lenS (pev s.tm x)
def rext (t : Operand) (i : Nat) : PSt -> Option PV := fun s => match pev s.tm t with
 | .tup vs => vs[i]?
 | _ => none
def isSlT (E : Env) (t : Nat) : Bool := match E.ty t with
 | some y => match y.desc with
  | .slice _ => true
  | _ => false
 | none => false
section
variable {E : Env} {P : Program} {s : PSt} {R : PSt -> Prop} {ops l : List Oper} {o : Oper}
theorem aEq_nil {t n c : Nat} {a : Option Addr} (hty : isSlT E t = true) : aEq E 100 t (.slice a n c) (.slice none 0 0) = some a.isNone := by
 unfold isSlT at hty
 split at hty
 ·rename_i y hy
  split at hty
  ·rename_i e he
   show aEq E (99 + 1) t (.slice a n c) (.slice none 0 0) = some a.isNone
   unfold aEq
   rw [hy]; dsimp only; rw [he]
   cases a <;> rfl
  ·cases hty
 ·cases hty
theorem PO.nilc {t : Nat} {op : BinOp} {x : Operand} {ty : TypeId} {neg : Bool} {tk : Tok} {es n : Nat} {cs : List PV} (hw : pwanted ops s.tm o = some true) (hop : o.op = .binOp op t x (.const (.slice none 0 0)) ty) (hn : (op = .eql /\ neg = false) \/ (op = .neq /\ neg = true))
  (hty : isSlT E t = true) (hx : pev s.tm x = .lst tk es n cs) (h : ∀ b, (n ≠ 0 -> b = false) -> ∃ s1, pput s o.dst (.v (.bool (xor b neg))) = some s1 /\ PO E P ops l s1 R) : PO E P ops (o :: l) s R := fun hc cx sA hs => by
 simp only [opsOk, Bool.and_eq_true] at hc
 have ho := hc.1
 rw [hop] at ho
 simp only [opOk, Bool.and_eq_true] at ho
 have hv := hs.ev ho.1
 rw [hx] at hv
 obtain ⟨a, c, hv1, _, _, _, hz, _⟩ := hv.lst_view
 obtain ⟨s1, h1, h2⟩ := h a.isNone (fun hn0 => by
  rcases hz with rfl | ⟨r, off, cells, rfl, _⟩
  ·exact absurd rfl hn0
  ·rfl)
 obtain ⟨tm1, q1, q2, q3, q4⟩ := pput_sim hs (PR.v (cx := cx) (x := .bool (xor a.isNone neg)) rfl) h1
 obtain ⟨sA2, cx2, s2, k1, k2, k3, k4, k5, k6⟩ := h2 hc.2 cx _ q2
 refine ⟨sA2, cx2, s2, ⟨_, { sA with tm := tm1 }, noK_ok, noK_keep, ?_, k1⟩, k2, by rw [<- q3]; exact k3, k4.trans q3, k5.trans q4, k6⟩
 rw [stepOp_def, pwanted_sim hs hw]
 have hd : ∀ K, doOp E K o sA.tm sA.m = some (.bool (xor a.isNone neg), sA.m) := fun K => by
  unfold doOp
  rw [aop_def, hop]
  have hev : Am.ev sA.tm (.const (.slice none 0 0)) = .slice none 0 0 := rfl
  rcases hn with ⟨rfl, rfl⟩ | ⟨rfl, rfl⟩
  ·have hb : binV E .eql t (.slice a n c) (.slice none 0 0) = some (.bool a.isNone) := by
    show (aEq E 100 t (.slice a n c) (.slice none 0 0)).map _ = _
    rw [aEq_nil hty]; rfl
   dsimp only
   rw [hv1, hev, hb]
   cases a <;> rfl
  ·have hb : binV E .neq t (.slice a n c) (.slice none 0 0) = some (.bool (!a.isNone)) := by
    show (aEq E 100 t (.slice a n c) (.slice none 0 0)).map _ = _
    rw [aEq_nil hty]; rfl
   dsimp only
   rw [hv1, hev, hb]
   cases a <;> rfl
 simp only [hd, q1]
end
def nilOp (E : Env) (o : Op) : Option (Bool × Operand) :=
 match o with
 | .binOp op t x y _ => match op with
  | .eql => match y with
   | .const (.slice none 0 0) => bif isSlT E t then some (false, x) else none
   | _ => none
  | .neq => match y with
   | .const (.slice none 0 0) => bif isSlT E t then some (true, x) else none
   | _ => none
  | _ => none
 | _ => none
theorem nilOp_some {E : Env} {o : Op} {neg : Bool} {x : Operand} (h : nilOp E o = some (neg, x)) : ∃ op t ty, o = .binOp op t x (.const (.slice none 0 0)) ty /\ ((op = .eql /\ neg = false) \/ (op = .neq /\ neg = true)) /\ isSlT E t = true := by
 unfold nilOp at h
 split at h
 ·rename_i op t y z ty
  split at h
  ·split at h
   ·cases hs : isSlT E t with
    | true => rw [hs] at h; cases h; exact ⟨_, _, _, rfl, .inl ⟨rfl, rfl⟩, hs⟩
    | false => rw [hs] at h; cases h
   ·cases h
  ·split at h
   ·cases hs : isSlT E t with
    | true => rw [hs] at h; cases h; exact ⟨_, _, _, rfl, .inr ⟨rfl, rfl⟩, hs⟩
    | false => rw [hs] at h; cases h
   ·cases h
  ·cases h
 ·cases h
inductive RI where
 | nilc (d : Option Nat) (w : PSt -> Option Bool) (neg : Bool) (x : PSt -> PV)
 | st (f : PSt -> Option PSt)
 | alt (f g : PSt -> Option PSt)
 | call (dst : Option Nat) (w : PSt -> Option Bool) (fn : PSt -> PV) (args : PSt -> List PV)
inductive RD where
 | apq (f : PSt -> Option PSt) (px : PSt -> PV)
 | st (free : Bool) (f : PSt -> Option PSt)
 | alt (free : Bool) (f g : PSt -> Option PSt)
 | call (free : Bool) (dst : Option Nat) (w : PSt -> Option Bool) (fn : PSt -> PV) (args : PSt -> List PV)
 | sto (f : PSt -> Option PSt) (adr : PSt -> PV) (offs : PSt -> List PV)
def offOne (E : Env) (ops : List Oper) (bs : List Nat) (i j : Nat) : Option (List Operand) :=
 match Nat.beq j i || ((clsAt E ops j).isPure || ordered bs i j) with
 | true => some []
 | false => match Nat.blt j i with
  | false => none
  | true => match ops[j]? with
   | none => none
   | some y => match y.op with
    | .load _ x => match x with
     | .tmp t => match allBelow i (fun k => Nat.blt k j || (match ops[k]? with
       | some z => match z.dst with
        | some d => !(memN d (readsOf y))
        | none => true
       | none => true)) with
      | true => some [.tmp t]
      | false => none
     | _ => none
    | _ => none
def offsUp (E : Env) (ops : List Oper) (bs : List Nat) (i : Nat) : Nat -> Option (List Operand)
 | 0 => some []
 | n + 1 => match offsUp E ops bs i n with
  | some l => match offOne E ops bs i n with
   | some l' => some (l ++ l')
   | none => none
  | none => none
theorem allBelow_of {p : Nat -> Bool} : ∀ {n : Nat}, (∀ j, j < n -> p j = true) -> allBelow n p = true
 | 0, _ => rfl
 | n + 1, h => by
  unfold allBelow
  rw [allBelow_of fun j hj => h j (Nat.lt_succ_of_lt hj), h n (Nat.lt_succ_self n)]; rfl
theorem offsUp_at {E : Env} {ops : List Oper} {bs : List Nat} {i : Nat} : ∀ {n : Nat} {L : List Operand}, offsUp E ops bs i n = some L -> ∀ j, j < n -> ∃ l, offOne E ops bs i j = some l /\ ∀ x ∈ l, x ∈ L
 | 0, _, _, j, hj => absurd hj (Nat.not_lt_zero j)
 | n + 1, L, h, j, hj => by
  unfold offsUp at h
  split at h
  ·rename_i l hl
   split at h
   ·rename_i l' hl'
    cases h
    rcases Nat.lt_succ_iff_lt_or_eq.1 hj with h1 | h1
    ·obtain ⟨a, e1, e2⟩ := offsUp_at hl j h1
     exact ⟨a, e1, fun x hx => List.mem_append_left _ (e2 x hx)⟩
    ·subst h1; exact ⟨l', hl', fun x hx => List.mem_append_right _ hx⟩
   ·cases h
  ·cases h
theorem loadOff_of {E : Env} {ops : List Oper} {bs : List Nat} {i blk : Nat} {tm : Tr Value} {L : List Operand} (h : offsUp E ops bs i ops.length = some L) (hL : ∀ t, Operand.tmp t ∈ L -> ∃ a, ev tm (.tmp t) = .pointer (some a) /\ a.block ≠ blk) : loadOff E ops bs i tm blk = true := by
 unfold loadOff
 refine allBelow_of fun j hj => ?_
 obtain ⟨l, h1, h2⟩ := offsUp_at h j hj
 unfold offOne at h1
 split at h1
 ·rename_i hb
  simp only [Bool.or_eq_true] at hb ⊢
  rcases hb with hb | hb | hb
  ·exact .inl hb
  ·exact .inr (.inl hb)
  ·exact .inr (.inr (.inl hb))
 ·split at h1
  ·cases h1
  ·rename_i hlt
   split at h1
   ·cases h1
   ·rename_i y hy
    split at h1
    ·rename_i t0 x hop
     split at h1
     ·rename_i t
      split at h1
      ·rename_i hall
       cases h1
       obtain ⟨a, e1, e2⟩ := hL t (h2 _ List.mem_cons_self)
       simp only [Bool.or_eq_true, Bool.and_eq_true]
       refine .inr (.inr (.inr ⟨hlt, ?_⟩))
       rw [hy]
       dsimp only
       rw [hop]
       dsimp only
       rw [e1]
       dsimp only
       refine Bool.and_eq_true_iff.2 ⟨?_, hall⟩
       cases hq : Nat.beq a.block blk with
       | false => rfl
       | true => exact absurd (Nat.eq_of_beq_eq_true hq) e2
      ·cases h1
     ·cases h1
    ·cases h1
def Apart (k1 i1 : Nat) (v : PV) : Prop := (∃ k2 i2 o2, v = .ptr k2 i2 o2 /\ ¬ (k2 = k1 /\ i2 = i1)) \/ ∃ cs o, v = .dp cs o
theorem PD.storeOff {E : Env} {P : Program} {ops l : List Oper} {bs : List Nat} {i : Nat} {o : Oper} {s s1 : PSt} {R : PSt -> Prop} (hE : EnvOk E P) {t k1 i1 o1 es1 : Nat} {cs1 : List PV} {a x : Operand} {L : List Operand} (hfr : (!(cls E o.op).isHard || alone E bs ops i) = false) (hgd : o.guard = none) (hop : o.op = .store t a x) (hoff : offsUp E ops bs i ops.length = some L)
  (hadr : pev s.tm a = .ptr k1 i1 o1) (hrow : s.mem k1 i1 = some (.row .rw es1 cs1)) (hL : ∀ v ∈ L.map (pev s.tm), Apart k1 i1 v) (h : pstep E ops o s = some s1) (k : PD E P ops bs (i + 1) l s1 R) : PD E P ops bs i (o :: l) s R := fun hc cx sA hs => by
 simp only [opsOk, Bool.and_eq_true] at hc
 obtain ⟨sA1, cx1, h1, h2, h3, h4, h5⟩ := pstep_sim hE hs hc.1 h
 obtain ⟨es, sA2, cx2, s2, k0, ki, k1', k2', k3, k4, k5, k6⟩ := k hc.2 cx1 sA1 h2
 rw [h4] at k3
 have ho := hc.1
 rw [hop] at ho
 simp only [opOk, Bool.and_eq_true] at ho
 have hav := hs.ev ho.1
 rw [hadr] at hav
 generalize hva : Am.ev sA.tm a = va at hav
 cases hav with
 | @ptr _ _ _ r e =>
  obtain ⟨r', vs, md, q, a1, a2, a3, a4, a5⟩ := hs.pg.obj k1 i1 _ hrow
  rw [e] at a1; cases a1
  obtain ⟨hmd, hq⟩ := a4 (by simp)
  have hq' : q = none := hq
  subst hmd hq'
  have hlt := (hs.pg.at_ _ _ _ e).1
  have hrole := hs.pg.role hrow nofun nofun e
  refine ⟨es, sA2, cx2, s2, k0, ki.mono (step_size hs h1), fun K hK => ?_, k2', h3.trans k3, k4.trans h4, k5.trans h5, k6⟩
  have hw : ∀ tm, wantedV ops tm o = true := fun tm => by unfold wantedV; rw [hgd]
  have hnone : stepDraw E K ops false o sA = none := by
   show (match stepOp E K ops o { sA with m := barM sA.m sA.m.size } with
    | some s1 => some { s1 with m := barM s1.m sA.m.bar }
    | none => none) = none
   have hst : stepOp E K ops o { sA with m := barM sA.m sA.m.size } = none := by
    rw [stepOp_def]
    simp only [hw]
    have hd : doOp E K o sA.tm (barM sA.m sA.m.size) = none := by
     unfold doOp
     rw [aop_def, hop]
     simp only [hva]
     have hsv : ∀ v, storeV E (barM sA.m sA.m.size) t ⟨r, o1, none⟩ v = none := fun v => by
      have hsc : ∀ ws, (barM sA.m sA.m.size).storeCells ⟨r, o1, none⟩ ws = none := fun ws => by
       unfold Mem.storeCells
       simp only [barM_get, a2]
       have hb : Nat.ble (barM sA.m sA.m.size).bar r = false := by
        show Nat.ble sA.m.size r = false
        cases hq2 : Nat.ble sA.m.size r with
        | false => rfl
        | true => have := Nat.le_of_ble_eq_true hq2; omega
       rw [hb]; rfl
      unfold storeV
      cases E.ty t with
      | none => rfl
      | some y =>
       dsimp only
       rw [hsc]
       cases Nat.beq v.cells.toList.length y.size <;> rfl
     rw [hsv]; rfl
    rw [hd]
   rw [hst]
  have hls : loadOff E ops bs i sA.tm r = true := loadOff_of hoff fun t' ht' => by
   have hpt := hs.tm t'
   rcases hL _ (List.mem_map_of_mem ht') with ⟨k2, i2, o2, e1, e2⟩ | ⟨cs2, o2, e1⟩
   ·have e1' : tget s.tm t' = .ptr k2 i2 o2 := e1
    rw [e1'] at hpt
    generalize hvt : Am.ev sA.tm (.tmp t') = vt at hpt
    cases hpt with
    | @ptr _ _ _ r2 e3 =>
     refine ⟨_, rfl, fun hrr => ?_⟩
     have hrr' : r2 = r := hrr
     subst hrr'
     rcases (hs.pg.at_ _ _ _ e3).2 with h7 | h7
     ·rw [hrole] at h7
      cases h7
      exact e2 ⟨rfl, rfl⟩
     ·rw [hrole] at h7; cases h7
   ·have e1' : tget s.tm t' = .dp cs2 o2 := e1
    rw [e1'] at hpt
    generalize hvt : Am.ev sA.tm (.tmp t') = vt at hpt
    cases hpt with
    | @dp _ _ r2 off cells hr hl hs' =>
     refine ⟨_, rfl, fun hrr => ?_⟩
     have hrr' : r2 = r := hrr
     subst hrr'
     rw [hrole] at hr; cases hr
  have hst : stepStore E K ops bs i o sA = some sA1 := by
   unfold stepStore
   rw [hop]
   simp only [hva, a2, hls]
   exact h1 K
  unfold runDraw stepDrawI
  rw [hfr, hnone]
  simp only [hst]
  exact k1' K hK
inductive RC where
 | skip
 | ops (l : List RI)
 | drawn (ok : Bool) (l : List RD)
 | seq (a b : RC)
 | cond (x : PSt -> PV) (a b : RC)
 | block (id : Nat) (a : RC)
 | loop (a : RC)
 | scope (a : Code)
 | exit (i : Nat)
 | goto (l : Nat)
 | ret
 | refuse
 | range (f : PSt -> PV) (ps : List Tmp) (asg body : Code)
def litExt (ops : List Oper) (o : Oper) : Bool :=
 match o.dst with
 | some d => ops.any fun c => match c.op with
  | .call cl => match cl.callee with
   | .value (.func _) => match cl.args.toList with
    | [_, _, .tmp i] => Nat.beq i d
    | _ => false
   | _ => false
  | _ => false
 | none => false
def compOp (E : Env) (ops : List Oper) (o : Oper) : RI :=
 match o.op with
 | .buildSlice _ _ _ => match litExt ops o with
  | true => .alt (pstep E ops o) (pstepR E ops o)
  | false => .st (pstep E ops o)
 | .call c => match c.callee with
  | .value f => .call o.dst (fun s => pwanted ops s.tm o) (fun s => pev s.tm f) (fun s => c.args.toList.map (pev s.tm))
  | .builtin .append => .alt (pstep E ops o) (pstepR E ops o)
  | _ => .st (pstep E ops o)
 | _ => match nilOp E o.op with
  | some (neg, x) => .nilc o.dst (fun s => pwanted ops s.tm o) neg (fun s => pev s.tm x)
  | none => .st (pstep E ops o)
def appArg (o : Oper) : Option Operand := match o.op with
 | .call c => match c.callee with
  | .builtin .append => c.args.toList.head?
  | _ => none
 | _ => none
theorem appArg_some {o : Oper} {x : Operand} (h : appArg o = some x) : ∃ c r, o.op = .call c /\ c.callee = .builtin .append /\ c.args.toList = x :: r := by
 unfold appArg at h
 split at h
 ·rename_i c hc
  split at h
  ·rename_i hcl
   cases hl : c.args.toList with
   | nil => rw [hl] at h; cases h
   | cons y r => rw [hl] at h; cases h; exact ⟨c, r, hc, hcl, hl⟩
  ·cases h
 ·cases h
def compD (E : Env) (ops : List Oper) (bs : List Nat) : Nat -> List Oper -> List RD
 | _, [] => []
 | i, o :: l => (match compOp E ops o with
  | .st f => match (!(cls E o.op).isHard || alone E bs ops i) with
   | true => .st true f
   | false => match o.op with
    | .store _ a _ => match o.guard with
     | none => match offsUp E ops bs i ops.length with
      | some L => .sto f (fun s => pev s.tm a) (fun s => L.map (pev s.tm))
      | none => .st false f
     | some _ => .st false f
    | _ => .st false f
  | .alt f g => match (!(cls E o.op).isHard || alone E bs ops i) with
   | true => .alt true f g
   | false => match appArg o with
    | some x => .apq f (fun s => pev s.tm x)
    | none => .alt false f g
  | .nilc _ _ _ _ => .st (!(cls E o.op).isHard || alone E bs ops i) (pstep E ops o)
  | .call d w f a => .call (!(cls E o.op).isHard || alone E bs ops i) d w f a) :: compD E ops bs (i + 1) l
def comp (E : Env) : Code -> RC
 | .skip => .skip
 | .label _ => .skip
 | .region _ ops draw => match draw with
  | false => .ops (ops.toList.map (compOp E ops.toList))
  | true => match arranged E ops.toList with
   | some l => .drawn (drawOk E (befores l []) l && opsOk E.ng l) (compD E l (befores l []) 0 l)
   | none => .refuse
 | .seq a b => .seq (comp E a) (comp E b)
 | .cond x a b => .cond (fun s => pev s.tm x) (comp E a) (comp E b)
 | .block id a => .block id (comp E a)
 | .loop a => .loop (comp E a)
 | .scope a => .scope a
 | .exit i => .exit i
 | .goto l => .goto l
 | .ret => .ret
 | .refuse _ => .refuse
 | .rangeFunc f ps asg body => .range (fun s => pev s.tm f) ps.toList asg body
def RPO (E : Env) (P : Program) : List RI -> PSt -> (PSt -> Prop) -> Prop
 | [], s, R => R s
 | .st f :: l, s, R => ∃ s1, f s = some s1 /\ RPO E P l s1 R
 | .alt f g :: l, s, R => (∃ s1, f s = some s1 /\ RPO E P l s1 R) \/ (∃ s1, g s = some s1 /\ RPO E P l s1 R)
 | .nilc d w neg x :: l, s, R => (w s = some true /\ ∃ tk es n cs, x s = .lst tk es n cs /\ ∀ b, (n ≠ 0 -> b = false) -> ∃ s1, pput s d (.v (.bool (xor b neg))) = some s1 /\ RPO E P l s1 R) \/ (w s = some false /\ ∃ s1, pput s d (.tup []) = some s1 /\ RPO E P l s1 R)
 | .call dst w fn args :: l, s, R => (w s = some true /\ (∃ g first captured, fn s = .fn g first captured /\ PTl E P (s.k + 1) g (first ++ (args s ++ captured)) s.mem (fun x M1 => took s dst x M1 fun s2 => RPO E P l s2 R))) ∨
   (w s = some true /\ (∃ k i, fn s = .yld k i /\ PRd E P k i (args s) s.mem (fun x M1 => took s dst x M1 fun s2 => RPO E P l s2 R))) \/ (w s = some false /\ ∃ s1, pput s dst (.tup []) = some s1 /\ RPO E P l s1 R)
def RPD (E : Env) (P : Program) : List RD -> PSt -> (PSt -> Prop) -> Prop
 | [], s, R => R s
 | .st free f :: l, s, R => free = true /\ ∃ s1, f s = some s1 /\ RPD E P l s1 R
 | .alt free f g :: l, s, R => free = true /\ ((∃ s1, f s = some s1 /\ RPD E P l s1 R) \/ (∃ s1, g s = some s1 /\ RPD E P l s1 R))
 | .apq f px :: l, s, R => (∃ e, px s = .lst .full e 0 []) /\ ∃ s1, f s = some s1 /\ RPD E P l s1 R
 | .sto f adr offs :: l, s, R => ∃ k1 i1 o1 es1 cs1, adr s = .ptr k1 i1 o1 /\ s.mem k1 i1 = some (.row .rw es1 cs1) /\ (∀ v ∈ offs s, Apart k1 i1 v) /\ ∃ s1, f s = some s1 /\ RPD E P l s1 R
 | .call free dst w fn args :: l, s, R => (w s = some true /\ ∃ g first captured, fn s = .fn g first captured ∧
    (match free with
    | true => PTl E P (s.k + 1) g (first ++ (args s ++ captured)) s.mem (fun x M1 => took s dst x M1 fun s2 => RPD E P l s2 R)
    | false => PT E P g (first ++ (args s ++ captured)) (holdM s.mem) (fun x M1 => MLe M1 (holdM s.mem) /\ ∃ s2, pput s dst x = some s2 /\ RPD E P l s2 R))) ∨
   (free = true /\ w s = some false /\ ∃ s1, pput s dst (.tup []) = some s1 /\ RPD E P l s1 R) \/ (free = false /\ w s = some false /\ ∃ s1, pput s dst (.tup []) = some s1 /\ RPD E P l s1 R)
section
variable {E : Env} {P : Program} {rd : Option (Nat × Nat)} {s : PSt}
theorem pstep_skip {ops : List Oper} {o : Oper} {s s1 : PSt} (hw : pwanted ops s.tm o = some false) (h : pput s o.dst (.tup []) = some s1) : pstep E ops o s = some s1 := by
 unfold pstep; rw [hw]; exact h
theorem RPO.sound (hE : EnvOk E P) {ops : List Oper} : ∀ {l : List Oper} {s : PSt} {R : PSt -> Prop}, RPO E P (l.map (compOp E ops)) s R -> PO E P ops l s R
 | [], s, R, h => PO.nil h
 | o :: l, s, R, h => by
  simp only [List.map_cons] at h
  unfold compOp at h
  have st : (∃ s1, pstep E ops o s = some s1 /\ RPO E P (l.map (compOp E ops)) s1 R) -> PO E P ops (o :: l) s R := fun ⟨s1, h1, h2⟩ => PO.step hE h1 (RPO.sound hE h2)
  split at h
  ·split at h
   ·rcases h with h | ⟨s1, h1, h2⟩
    ·exact st h
    ·exact PO.stepR hE h1 (RPO.sound hE h2)
   ·exact st h
  ·rename_i c hc
   split at h
   ·rename_i f hf
    rcases h with ⟨hw, g, first, captured, h1, h2⟩ | ⟨hw, k, i, h1, h2⟩ | ⟨hw, s1, h1, h2⟩
    ·refine PO.call hw hc hf h1 (h2.mono fun x M1 ⟨os1, M2, s2, a1, a2, a3, a4⟩ => ⟨os1, M2, s2, a1, a2, a3, RPO.sound hE a4⟩)
    ·refine PO.yield hw hc hf h1 ?_
     intro cx m l' vargs hg hl ha
     obtain ⟨v, m1, cx1, x, M1, q1, q2, q3, q4, os1, M2, s2, a1, a2, a3, a4⟩ := h2 cx m l' vargs hg hl ha
     exact ⟨v, m1, cx1, x, M1, q1, q2, q3, q4, os1, M2, s2, a1, a2, a3, RPO.sound hE a4⟩
    ·exact PO.step hE (pstep_skip hw h1) (RPO.sound hE h2)
   ·rcases h with h | ⟨s1, h1, h2⟩
    ·exact st h
    ·exact PO.stepR hE h1 (RPO.sound hE h2)
   ·exact st h
  ·split at h
   ·rename_i neg x hn
    obtain ⟨op, t, ty, h1, h2, h3⟩ := nilOp_some hn
    rcases h with ⟨hw, tk, es, n, cs, h4, h5⟩ | ⟨hw, s1, h4, h5⟩
    ·refine PO.nilc hw h1 h2 h3 h4 fun b hb => ?_
     obtain ⟨s1, h6, h7⟩ := h5 b hb
     exact ⟨s1, h6, RPO.sound hE h7⟩
    ·exact PO.step hE (pstep_skip hw h4) (RPO.sound hE h5)
   ·exact st h
theorem compOp_alt {ops : List Oper} {o : Oper} {f g : PSt -> Option PSt} (h : compOp E ops o = .alt f g) : f = pstep E ops o /\ g = pstepR E ops o := by
 unfold compOp at h
 split at h
 ·split at h <;> cases h
  exact ⟨rfl, rfl⟩
 ·split at h
  ·cases h
  ·cases h; exact ⟨rfl, rfl⟩
  ·cases h
 ·split at h <;> cases h
theorem compOp_st {ops : List Oper} {o : Oper} {f : PSt -> Option PSt} (h : compOp E ops o = .st f) : f = pstep E ops o := by
 unfold compOp at h
 split at h
 ·split at h <;> cases h
  rfl
 ·split at h
  ·cases h
  ·cases h
  ·cases h; rfl
 ·split at h
  ·cases h
  ·cases h; rfl
theorem compOp_call {ops : List Oper} {o : Oper} {d : Option Nat} {w : PSt -> Option Bool} {f : PSt -> PV} {a : PSt -> List PV} (h : compOp E ops o = .call d w f a) : ∃ c fo, o.op = .call c /\ c.callee = .value fo /\ o.dst = d /\ (fun s => pwanted ops s.tm o) = w /\ (fun s => pev s.tm fo) = f /\ (fun s => c.args.toList.map (pev s.tm)) = a := by
 unfold compOp at h
 split at h
 ·split at h <;> cases h
 ·rename_i c hc
  split at h
  ·rename_i fo hf
   cases h; exact ⟨c, fo, hc, hf, rfl, rfl, rfl, rfl⟩
  ·cases h
  ·cases h
 ·split at h <;> cases h
theorem RPD.sound (hE : EnvOk E P) {ops : List Oper} {bs : List Nat} : ∀ {l : List Oper} {i : Nat} {s : PSt} {R : PSt -> Prop}, RPD E P (compD E ops bs i l) s R -> PD E P ops bs i l s R
 | [], i, s, R, h => PD.nil h
 | o :: l, i, s, R, h => by
  simp only [compD] at h
  have st : ((!(cls E o.op).isHard || alone E bs ops i) = true /\ ∃ s1, pstep E ops o s = some s1 /\ RPD E P (compD E ops bs (i + 1) l) s1 R) -> PD E P ops bs i (o :: l) s R := fun ⟨hf, s1, h1, h2⟩ => PD.step hE hf h1 (RPD.sound hE h2)
  split at h
  ·rename_i x f hx
   rw [compOp_st hx] at h
   cases hfree : (!(cls E o.op).isHard || alone E bs ops i) with
   | true =>
    rw [hfree] at h st
    exact st h
   | false =>
    rw [hfree] at h
    dsimp only at h
    split at h
    ·rename_i t a v hop
     split at h
     ·rename_i hgd
      split at h
      ·rename_i L hL
       obtain ⟨k1, i1, o1, es1, cs1, b1, b2, b3, s1, b4, b5⟩ := h
       exact PD.storeOff hE hfree hgd hop hL b1 b2 b3 b4 (RPD.sound hE b5)
      ·cases h.1
     ·cases h.1
    ·cases h.1
  ·rename_i x f g hx
   obtain ⟨rfl, rfl⟩ := compOp_alt hx
   cases hfree : (!(cls E o.op).isHard || alone E bs ops i) with
   | true =>
    rw [hfree] at h st
    obtain ⟨hf, h | ⟨s1, h1, h2⟩⟩ := h
    ·exact st ⟨hf, h⟩
    ·exact PD.stepR hE hfree h1 (RPD.sound hE h2)
   | false =>
    rw [hfree] at h
    dsimp only at h
    split at h
    ·rename_i x hap
     obtain ⟨c, r, hop, hcl, hxs⟩ := appArg_some hap
     obtain ⟨⟨e, he⟩, s1, h1, h2⟩ := h
     exact PD.appQ hE hfree hop hcl hxs he h1 (RPD.sound hE h2)
    ·cases h.1
  ·exact st h
  ·rename_i x d w f a hx
   obtain ⟨c, fo, hc, hf, rfl, rfl, rfl, rfl⟩ := compOp_call hx
   have hcls : cls E o.op = .hard := by rw [hc]; simp only [cls, hf]
   rcases h with ⟨hw, g, first, captured, h1, h2⟩ | ⟨hf1, hw, s1, h1, h2⟩ | ⟨hf1, hw, s1, h1, h2⟩
   ·cases hfree : (!(cls E o.op).isHard || alone E bs ops i) with
    | true =>
     rw [hfree] at h2
     simp only at h2
     have hal : alone E bs ops i = true := by
      rw [hcls] at hfree
      simpa [Cls.isHard] using hfree
     exact PD.call hal hw hc hf h1 (h2.mono fun x M1 ⟨os1, M2, s2, a1, a2, a3, a4⟩ => ⟨os1, M2, s2, a1, a2, a3, RPD.sound hE a4⟩)
    | false =>
     rw [hfree] at h2
     simp only at h2
     exact PD.quiet hfree hw hc hf h1 (h2.mono fun x M1 ⟨a1, s2, a3, a4⟩ => ⟨a1, s2, a3, RPD.sound hE a4⟩)
   ·exact PD.step hE hf1 (pstep_skip hw h1) (RPD.sound hE h2)
   ·exact PD.skip hE hw h1 (RPD.sound hE h2)
end
end Go.Pm
end