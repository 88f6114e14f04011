/- ShelfOrder holds. Part 6 of 32; no condition. -/
import Derived.Test.YtlbjplpehkgcdaaGreatDoorM5
set_option linter.unusedVariables false
set_option linter.unusedSimpArgs false
noncomputable section
namespace Go.Pm
open Go.RowKit Go.Am
def rg (g : Option (Nat × Bool)) (s : d9) : Option Bool :=
 match g with
 | none => some true
 | some (d, want) => match c8 s.tm d with
  | .v (.bool b) => some (b == want)
  | .tup [] => some false
  | _ => none
def rI (dst : Option Nat) (g : Option (Nat × Bool)) (f : d9 -> Option (PV × d9)) : d9 -> Option d9 := fun s =>
 match rg g s with
 | some true => match f s with
  | some (x, s1) => K4 s1 dst x
  | none => none
 | some false => K4 s dst (.tup [])
 | none => none
def rv (f : d9 -> Option PV) : d9 -> Option (PV × d9) := fun s => match f s with
 | some v => some (v, s)
 | none => none
def c4 (ag : Bool) (n : Nat) (a : Operand) : d9 -> Option PV := fun s => match l4 s.tm a with
 | .ptr k i o => match s.look k i with
  | some (.row _ _ cs) => A3 ag n cs o
  | _ => none
 | .dp cs o => A3 ag n cs o
 | _ => none
def o5 (n : Nat) (a x : Operand) : d9 -> Option (PV × d9) := fun s => match l4 s.tm a with
 | .ptr k i o => match s.look k i with
  | some (.row .rw es cs) => if (k9 (l4 s.tm x)).length = n /\ o + (k9 (l4 s.tm x)).length <= cs.length /\ (k9 (l4 s.tm x)).all w9 = true then some (.junk, s.putO k i (.row .rw es (g8 cs o (k9 (l4 s.tm x))))) else none
  | some (.row .own es cs) => if (k9 (l4 s.tm x)).length = n /\ o + (k9 (l4 s.tm x)).length <= cs.length /\ (k9 (l4 s.tm x)).all w9 = true then some (.junk, s.putO k i (.row .rw es (g8 cs o (k9 (l4 s.tm x))))) else none
  | _ => none
 | _ => none
def j9 (x : Operand) : d9 -> Option PV := fun s => some (l4 s.tm x)
def n6 (c a b : Operand) : d9 -> Option PV := fun s => S6 (l4 s.tm c) (l4 s.tm a) (l4 s.tm b)
def d7 (E : i9) (op : BinOp) (t : Nat) (c d : Bool) (x y : Operand) : d9 -> Option PV := fun s => C0 E op t c d (l4 s.tm x) (l4 s.tm y)
def Y1 (op : UnOp) (x : Operand) : d9 -> Option PV := fun s => pun op (l4 s.tm x)
def c5 (off : Nat) (x : Operand) : d9 -> Option PV := fun s => match l4 s.tm x with
 | .ptr k i o => some (.ptr k i (o + off))
 | .dp cs o => some (.dp cs (o + off))
 | _ => none
def aFA (ag : Bool) (n off : Nat) (cs : List PV) : Option PV :=
 match ag with
 | true => some (.agg ((cs.drop off).take n))
 | false => cs[off]?
def aX7 (ag : Bool) (n off : Nat) (x : Operand) : d9 -> Option PV := fun s => match l4 s.tm x with
 | .agg cs => aFA ag n off cs
 | _ => none
def m7 (sz : Nat) (x i : Operand) : d9 -> Option PV := fun s => I5 sz (l4 s.tm x) (l4 s.tm i)
def xP (len sz : Nat) (x i : Operand) : d9 -> Option PV := fun s => lN len sz (l4 s.tm x) (l4 s.tm i)
def T6 (z : List PV) : d9 -> Option (PV × d9) := fun s => some (fJ s 0 z)
def C4 (x : Operand) : d9 -> Option (PV × d9) := fun s => if E8 (l4 s.tm x) = true then some (fJ s 0 (k9 (l4 s.tm x))) else none
def C5 (x : Operand) : d9 -> Option PV := fun s => gB (l4 s.tm x)
def U7 (x : Operand) : d9 -> Option PV := fun s => nN (l4 s.tm x)
def K8 (t : Operand) (i : Nat) : d9 -> Option PV := fun s => match l4 s.tm t with
 | .tup vs => vs[i]?
 | _ => none
def nG (E : i9) (t : Nat) : Bool := match E.ty t with
 | some y => match y.desc with
  | .slice _ => true
  | _ => false
 | none => false
section
variable {E : i9} {P : Program} {s : d9} {R : d9 -> Prop} {ops l : List Oper} {o : Oper}
theorem aD0 {t n c : Nat} {a : Option Addr} (hty : nG E t = true) : kX E 100 t (.slice a n c) (.slice none 0 0) = some a.isNone := by
 unfold nG at hty
 split at hty
 ·rename_i y hy
  split at hty
  ·rename_i e he
   show kX E (99 + 1) t (.slice a n c) (.slice none 0 0) = some a.isNone
   unfold kX
   rw [hy]; dsimp only; rw [he]
   cases a <;> rfl
  ·cases hty
 ·cases hty
theorem PO.nilc {t : Nat} {op : BinOp} {x : Operand} {ty : TypeId} {neg : Bool} {tk : kV} {es n : Nat} {cs : List PV} (hw : G8 ops s.tm o = some true) (hop : o.op = .binOp op t x (.const (.slice none 0 0)) ty) (hn : (op = .eql /\ neg = false) \/ (op = .neq /\ neg = true))
  (hty : nG E t = true) (hx : l4 s.tm x = .lst tk es n cs) (h : ∀ b, (n ≠ 0 -> b = false) -> ∃ s1, K4 s o.dst (.v (.bool (xor b neg))) = some s1 /\ PO E P ops l s1 R) : PO E P ops (o :: l) s R := fun hc cx sA hs => by
 simp only [F4, Bool.and_eq_true] at hc
 have ho := hc.1
 rw [hop] at ho
 simp only [B4, Bool.and_eq_true] at ho
 have hv := hs.ev ho.1
 rw [hx] at hv
 obtain ⟨a, c, hv1, _, _, _, hz, _⟩ := hv.lst_view
 obtain ⟨s1, h1, h2⟩ := h a.isNone (fun hn0 => by
  rcases hz with rfl | ⟨r, off, cells, rfl, _⟩
  ·exact absurd rfl hn0
  ·rfl)
 obtain ⟨tm1, q1, q2, q3, q4⟩ := S8 hs (PR.v (cx := cx) (x := .bool (xor a.isNone neg)) rfl) h1
 obtain ⟨sA2, cx2, s2, k1, k2, k3, k4, k5, k6⟩ := h2 hc.2 cx _ q2
 refine ⟨sA2, cx2, s2, ⟨_, { sA with tm := tm1 }, aC1, eS, ?_, k1⟩, k2, by rw [<- q3]; exact k3, k4.trans q3, k5.trans q4, k6⟩
 rw [w8, A5 hs hw]
 have hd : ∀ K, E2 E K o sA.tm sA.m = some (.bool (xor a.isNone neg), sA.m) := fun K => by
  unfold E2
  rw [r6, hop]
  have hev : Am.ev sA.tm (.const (.slice none 0 0)) = .slice none 0 0 := rfl
  rcases hn with ⟨rfl, rfl⟩ | ⟨rfl, rfl⟩
  ·have hb : E0 E .eql t (.slice a n c) (.slice none 0 0) = some (.bool a.isNone) := by
    show (kX E 100 t (.slice a n c) (.slice none 0 0)).map _ = _
    rw [aD0 hty]; rfl
   dsimp only
   rw [hv1, hev, hb]
   cases a <;> rfl
  ·have hb : E0 E .neq t (.slice a n c) (.slice none 0 0) = some (.bool (!a.isNone)) := by
    show (kX E 100 t (.slice a n c) (.slice none 0 0)).map _ = _
    rw [aD0 hty]; rfl
   dsimp only
   rw [hv1, hev, hb]
   cases a <;> rfl
 simp only [hd, q1]
end
def aNJ (E : i9) (o : Op) : Option (Bool × Operand) :=
 match o with
 | .binOp op t x y _ => match op with
  | .eql => match y with
   | .const (.slice none 0 0) => bif nG E t then some (false, x) else none
   | _ => none
  | .neq => match y with
   | .const (.slice none 0 0) => bif nG E t then some (true, x) else none
   | _ => none
  | _ => none
 | _ => none
theorem aB3 {E : i9} {o : Op} {neg : Bool} {x : Operand} (h : aNJ E o = some (neg, x)) : ∃ op t ty, o = .binOp op t x (.const (.slice none 0 0)) ty /\ ((op = .eql /\ neg = false) \/ (op = .neq /\ neg = true)) /\ nG E t = true := by
 unfold aNJ at h
 split at h
 ·rename_i op t y z ty
  split at h
  ·split at h
   ·cases hs : nG E t with
    | true => rw [hs] at h; cases h; exact ⟨_, _, _, rfl, .inl ⟨rfl, rfl⟩, hs⟩
    | false => rw [hs] at h; cases h
   ·cases h
  ·split at h
   ·cases hs : nG E t with
    | true => rw [hs] at h; cases h; exact ⟨_, _, _, rfl, .inr ⟨rfl, rfl⟩, hs⟩
    | false => rw [hs] at h; cases h
   ·cases h
  ·cases h
 ·cases h
inductive RI where
 | nilc (d : Option Nat) (w : d9 -> Option Bool) (neg : Bool) (x : d9 -> PV)
 | st (f : d9 -> Option d9)
 | alt (f g : d9 -> Option d9)
 | call (dst : Option Nat) (w : d9 -> Option Bool) (fn : d9 -> PV) (args : d9 -> List PV)
inductive RD where
 | apq (f : d9 -> Option d9) (px : d9 -> PV)
 | st (free : Bool) (f : d9 -> Option d9)
 | alt (free : Bool) (f g : d9 -> Option d9)
 | call (free : Bool) (dst : Option Nat) (w : d9 -> Option Bool) (fn : d9 -> PV) (args : d9 -> List PV)
 | sto (f : d9 -> Option d9) (adr : d9 -> PV) (offs : d9 -> List PV)
def aC8 (E : i9) (ops : List Oper) (bs : List Nat) (i j : Nat) : Option (List Operand) :=
 match Nat.beq j i || ((aAI E ops j).isPure || kI bs i j) with
 | true => some []
 | false => match Nat.blt j i with
  | false => none
  | true => match ops[j]? with
   | none => none
   | some y => match y.op with
    | .load _ x => match x with
     | .tmp t => match E6 i (fun k => Nat.blt k j || (match ops[k]? with
       | some z => match z.dst with
        | some d => !(sU d (Y8 y))
        | none => true
       | none => true)) with
      | true => some [.tmp t]
      | false => none
     | _ => none
    | _ => none
def lZ (E : i9) (ops : List Oper) (bs : List Nat) (i : Nat) : Nat -> Option (List Operand)
 | 0 => some []
 | n + 1 => match lZ E ops bs i n with
  | some l => match aC8 E ops bs i n with
   | some l' => some (l ++ l')
   | none => none
  | none => none
theorem mY {p : Nat -> Bool} : ∀ {n : Nat}, (∀ j, j < n -> p j = true) -> E6 n p = true
 | 0, _ => rfl
 | n + 1, h => by
  unfold E6
  rw [mY fun j hj => h j (Nat.lt_succ_of_lt hj), h n (Nat.lt_succ_self n)]; rfl
theorem uP {E : i9} {ops : List Oper} {bs : List Nat} {i : Nat} : ∀ {n : Nat} {L : List Operand}, lZ E ops bs i n = some L -> ∀ j, j < n -> ∃ l, aC8 E ops bs i j = some l /\ ∀ x ∈ l, x ∈ L
 | 0, _, _, j, hj => absurd hj (Nat.not_lt_zero j)
 | n + 1, L, h, j, hj => by
  unfold lZ at h
  split at h
  ·rename_i l hl
   split at h
   ·rename_i l' hl'
    cases h
    rcases Nat.lt_succ_iff_lt_or_eq.1 hj with h1 | h1
    ·obtain ⟨a, e1, e2⟩ := uP hl j h1
     exact ⟨a, e1, fun x hx => List.mem_append_left _ (e2 x hx)⟩
    ·subst h1; exact ⟨l', hl', fun x hx => List.mem_append_right _ hx⟩
   ·cases h
  ·cases h
theorem aCH {E : i9} {ops : List Oper} {bs : List Nat} {i blk : Nat} {tm : Tr Value} {L : List Operand} (h : lZ E ops bs i ops.length = some L) (hL : ∀ t, Operand.tmp t ∈ L -> ∃ a, ev tm (.tmp t) = .pointer (some a) /\ a.block ≠ blk) : Y5 E ops bs i tm blk = true := by
 unfold Y5
 refine mY fun j hj => ?_
 obtain ⟨l, h1, h2⟩ := uP h j hj
 unfold aC8 at h1
 split at h1
 ·rename_i hb
  simp only [Bool.or_eq_true] at hb ⊢
  rcases hb with hb | hb | hb
  ·exact .inl hb
  ·exact .inr (.inl hb)
  ·exact .inr (.inr (.inl hb))
 ·split at h1
  ·cases h1
  ·rename_i hlt
   split at h1
   ·cases h1
   ·rename_i y hy
    split at h1
    ·rename_i t0 x hop
     split at h1
     ·rename_i t
      split at h1
      ·rename_i hall
       cases h1
       obtain ⟨a, e1, e2⟩ := hL t (h2 _ List.mem_cons_self)
       simp only [Bool.or_eq_true, Bool.and_eq_true]
       refine .inr (.inr (.inr ⟨hlt, ?_⟩))
       rw [hy]
       dsimp only
       rw [hop]
       dsimp only
       rw [e1]
       dsimp only
       refine Bool.and_eq_true_iff.2 ⟨?_, hall⟩
       cases hq : Nat.beq a.block blk with
       | false => rfl
       | true => exact absurd (Nat.eq_of_beq_eq_true hq) e2
      ·cases h1
     ·cases h1
    ·cases h1
theorem PD.storeOff {E : i9} {P : Program} {ops l : List Oper} {bs : List Nat} {i : Nat} {o : Oper} {s s1 : d9} {R : d9 -> Prop} (hE : e7 E P) {t k1 i1 o1 es1 : Nat} {cs1 : List PV} {a x : Operand} {L : List Operand} (hfr : (!(G5 E o.op).isHard || F6 E bs ops i) = false) (hgd : o.guard = none) (hop : o.op = .store t a x) (hoff : lZ E ops bs i ops.length = some L)
  (hadr : l4 s.tm a = .ptr k1 i1 o1) (hrow : s.mem k1 i1 = some (.row .rw es1 cs1)) (hL : ∀ v ∈ L.map (l4 s.tm), ∃ k2 i2 o2, v = .ptr k2 i2 o2 /\ ¬ (k2 = k1 /\ i2 = i1)) (h : N4 E ops o s = some s1) (k : PD E P ops bs (i + 1) l s1 R) : PD E P ops bs i (o :: l) s R := fun hc cx sA hs => by
 simp only [F4, Bool.and_eq_true] at hc
 obtain ⟨sA1, cx1, h1, h2, h3, h4, h5⟩ := fK hE hs hc.1 h
 obtain ⟨es, sA2, cx2, s2, k0, ki, k1', k2', k3, k4, k5, k6⟩ := k hc.2 cx1 sA1 h2
 rw [h4] at k3
 have ho := hc.1
 rw [hop] at ho
 simp only [B4, Bool.and_eq_true] at ho
 have hav := hs.ev ho.1
 rw [hadr] at hav
 generalize hva : Am.ev sA.tm a = va at hav
 cases hav with
 | @ptr _ _ _ r e =>
  obtain ⟨r', vs, md, q, a1, a2, a3, a4, a5⟩ := hs.pg.obj k1 i1 _ hrow
  rw [e] at a1; cases a1
  obtain ⟨hmd, hq⟩ := a4 (by simp)
  have hq' : q = none := hq
  subst hmd hq'
  have hlt := (hs.pg.at_ _ _ _ e).1
  have hrole := hs.pg.role hrow nofun nofun e
  refine ⟨es, sA2, cx2, s2, k0, ki.mono (fR hs h1), fun K hK => ?_, k2', h3.trans k3, k4.trans h4, k5.trans h5, k6⟩
  have hw : ∀ tm, r5 ops tm o = true := fun tm => by unfold r5; rw [hgd]
  have hnone : x8 E K ops false o sA = none := by
   show (match C1 E K ops o { sA with m := H8 sA.m sA.m.size } with
    | some s1 => some { s1 with m := H8 s1.m sA.m.bar }
    | none => none) = none
   have hst : C1 E K ops o { sA with m := H8 sA.m sA.m.size } = none := by
    rw [w8]
    simp only [hw]
    have hd : E2 E K o sA.tm (H8 sA.m sA.m.size) = none := by
     unfold E2
     rw [r6, hop]
     simp only [hva]
     have hsv : ∀ v, U4 E (H8 sA.m sA.m.size) t ⟨r, o1, none⟩ v = none := fun v => by
      have hsc : ∀ ws, (H8 sA.m sA.m.size).storeCells ⟨r, o1, none⟩ ws = none := fun ws => by
       unfold d5.storeCells
       simp only [p4, a2]
       have hb : Nat.ble (H8 sA.m sA.m.size).bar r = false := by
        show Nat.ble sA.m.size r = false
        cases hq2 : Nat.ble sA.m.size r with
        | false => rfl
        | true => have := Nat.le_of_ble_eq_true hq2; omega
       rw [hb]; rfl
      unfold U4
      cases E.ty t with
      | none => rfl
      | some y =>
       dsimp only
       rw [hsc]
       cases Nat.beq v.cells.toList.length y.size <;> rfl
     rw [hsv]; rfl
    rw [hd]
   rw [hst]
  have hls : Y5 E ops bs i sA.tm r = true := aCH hoff fun t' ht' => by
   obtain ⟨k2, i2, o2, e1, e2⟩ := hL _ (List.mem_map_of_mem ht')
   have hpt := hs.tm t'
   have e1' : c8 s.tm t' = .ptr k2 i2 o2 := e1
   rw [e1'] at hpt
   generalize hvt : Am.ev sA.tm (.tmp t') = vt at hpt
   cases hpt with
   | @ptr _ _ _ r2 e3 =>
    refine ⟨_, rfl, fun hrr => ?_⟩
    have hrr' : r2 = r := hrr
    subst hrr'
    rcases (hs.pg.at_ _ _ _ e3).2 with h7 | h7
    ·rw [hrole] at h7
     cases h7
     exact e2 ⟨rfl, rfl⟩
    ·rw [hrole] at h7; cases h7
  have hst : fF E K ops bs i o sA = some sA1 := by
   unfold fF
   rw [hop]
   simp only [hva, a2, hls]
   exact h1 K
  unfold G1 B0
  rw [hfr, hnone]
  simp only [hst]
  exact k1' K hK
inductive RC where
 | skip
 | ops (l : List RI)
 | drawn (ok : Bool) (l : List RD)
 | seq (a b : RC)
 | cond (x : d9 -> PV) (a b : RC)
 | block (id : Nat) (a : RC)
 | loop (a : RC)
 | scope (a : Code)
 | exit (i : Nat)
 | goto (l : Nat)
 | ret
 | refuse
 | range (f : d9 -> PV) (ps : List Tmp) (asg body : Code)
def aVM (ops : List Oper) (o : Oper) : Bool :=
 match o.dst with
 | some d => ops.any fun c => match c.op with
  | .call cl => match cl.callee with
   | .value (.func _) => match cl.args.toList with
    | [_, _, .tmp i] => Nat.beq i d
    | _ => false
   | _ => false
  | _ => false
 | none => false
def X5 (E : i9) (ops : List Oper) (o : Oper) : RI :=
 match o.op with
 | .buildSlice _ _ _ => match aVM ops o with
  | true => .alt (N4 E ops o) (iK E ops o)
  | false => .st (N4 E ops o)
 | .call c => match c.callee with
  | .value f => .call o.dst (fun s => G8 ops s.tm o) (fun s => l4 s.tm f) (fun s => c.args.toList.map (l4 s.tm))
  | .builtin .append => .alt (N4 E ops o) (iK E ops o)
  | _ => .st (N4 E ops o)
 | _ => match aNJ E o.op with
  | some (neg, x) => .nilc o.dst (fun s => G8 ops s.tm o) neg (fun s => l4 s.tm x)
  | none => .st (N4 E ops o)
def aC9 (o : Oper) : Option Operand := match o.op with
 | .call c => match c.callee with
  | .builtin .append => c.args.toList.head?
  | _ => none
 | _ => none
theorem yZ {o : Oper} {x : Operand} (h : aC9 o = some x) : ∃ c r, o.op = .call c /\ c.callee = .builtin .append /\ c.args.toList = x :: r := by
 unfold aC9 at h
 split at h
 ·rename_i c hc
  split at h
  ·rename_i hcl
   cases hl : c.args.toList with
   | nil => rw [hl] at h; cases h
   | cons y r => rw [hl] at h; cases h; exact ⟨c, r, hc, hcl, hl⟩
  ·cases h
 ·cases h
def zA (E : i9) (ops : List Oper) (bs : List Nat) : Nat -> List Oper -> List RD
 | _, [] => []
 | i, o :: l => (match X5 E ops o with
  | .st f => match (!(G5 E o.op).isHard || F6 E bs ops i) with
   | true => .st true f
   | false => match o.op with
    | .store _ a _ => match o.guard with
     | none => match lZ E ops bs i ops.length with
      | some L => .sto f (fun s => l4 s.tm a) (fun s => L.map (l4 s.tm))
      | none => .st false f
     | some _ => .st false f
    | _ => .st false f
  | .alt f g => match (!(G5 E o.op).isHard || F6 E bs ops i) with
   | true => .alt true f g
   | false => match aC9 o with
    | some x => .apq f (fun s => l4 s.tm x)
    | none => .alt false f g
  | .nilc _ _ _ _ => .st (!(G5 E o.op).isHard || F6 E bs ops i) (N4 E ops o)
  | .call d w f a => .call (!(G5 E o.op).isHard || F6 E bs ops i) d w f a) :: zA E ops bs (i + 1) l
def l9 (E : i9) : Code -> RC
 | .skip => .skip
 | .label _ => .skip
 | .region _ ops draw => match draw with
  | false => .ops (ops.toList.map (X5 E ops.toList))
  | true => match eG E ops.toList with
   | some l => .drawn (sE E (r7 l []) l && F4 E.ng l) (zA E l (r7 l []) 0 l)
   | none => .refuse
 | .seq a b => .seq (l9 E a) (l9 E b)
 | .cond x a b => .cond (fun s => l4 s.tm x) (l9 E a) (l9 E b)
 | .block id a => .block id (l9 E a)
 | .loop a => .loop (l9 E a)
 | .scope a => .scope a
 | .exit i => .exit i
 | .goto l => .goto l
 | .ret => .ret
 | .refuse _ => .refuse
 | .rangeFunc f ps asg body => .range (fun s => l4 s.tm f) ps.toList asg body
def T8 (E : i9) (P : Program) : List RI -> d9 -> (d9 -> Prop) -> Prop
 | [], s, R => R s
 | .st f :: l, s, R => ∃ s1, f s = some s1 /\ T8 E P l s1 R
 | .alt f g :: l, s, R => (∃ s1, f s = some s1 /\ T8 E P l s1 R) \/ (∃ s1, g s = some s1 /\ T8 E P l s1 R)
 | .nilc d w neg x :: l, s, R => (w s = some true /\ ∃ tk es n cs, x s = .lst tk es n cs /\ ∀ b, (n ≠ 0 -> b = false) -> ∃ s1, K4 s d (.v (.bool (xor b neg))) = some s1 /\ T8 E P l s1 R) \/ (w s = some false /\ ∃ s1, K4 s d (.tup []) = some s1 /\ T8 E P l s1 R)
 | .call dst w fn args :: l, s, R => (w s = some true /\ (∃ g first captured, fn s = .fn g first captured /\ PTl E P (s.k + 1) g (first ++ (args s ++ captured)) s.mem (fun x M1 => tD s dst x M1 fun s2 => T8 E P l s2 R))) ∨
   (w s = some true /\ (∃ k i, fn s = .yld k i /\ PRd E P k i (args s) s.mem (fun x M1 => tD s dst x M1 fun s2 => T8 E P l s2 R))) \/ (w s = some false /\ ∃ s1, K4 s dst (.tup []) = some s1 /\ T8 E P l s1 R)
def V0 (E : i9) (P : Program) : List RD -> d9 -> (d9 -> Prop) -> Prop
 | [], s, R => R s
 | .st free f :: l, s, R => free = true /\ ∃ s1, f s = some s1 /\ V0 E P l s1 R
 | .alt free f g :: l, s, R => free = true /\ ((∃ s1, f s = some s1 /\ V0 E P l s1 R) \/ (∃ s1, g s = some s1 /\ V0 E P l s1 R))
 | .apq f px :: l, s, R => (∃ e, px s = .lst .full e 0 []) /\ ∃ s1, f s = some s1 /\ V0 E P l s1 R
 | .sto f adr offs :: l, s, R => ∃ k1 i1 o1 es1 cs1, adr s = .ptr k1 i1 o1 /\ s.mem k1 i1 = some (.row .rw es1 cs1) /\ (∀ v ∈ offs s, ∃ k2 i2 o2, v = .ptr k2 i2 o2 /\ ¬ (k2 = k1 /\ i2 = i1)) /\ ∃ s1, f s = some s1 /\ V0 E P l s1 R
 | .call free dst w fn args :: l, s, R => (w s = some true /\ ∃ g first captured, fn s = .fn g first captured ∧
    (match free with
    | true => PTl E P (s.k + 1) g (first ++ (args s ++ captured)) s.mem (fun x M1 => tD s dst x M1 fun s2 => V0 E P l s2 R)
    | false => PT E P g (first ++ (args s ++ captured)) (U8 s.mem) (fun x M1 => O6 M1 (U8 s.mem) /\ ∃ s2, K4 s dst x = some s2 /\ V0 E P l s2 R))) ∨
   (free = true /\ w s = some false /\ ∃ s1, K4 s dst (.tup []) = some s1 /\ V0 E P l s1 R) \/ (free = false /\ w s = some false /\ ∃ s1, K4 s dst (.tup []) = some s1 /\ V0 E P l s1 R)
section
variable {E : i9} {P : Program} {rd : Option (Nat × Nat)} {s : d9}
theorem gW {ops : List Oper} {o : Oper} {s s1 : d9} (hw : G8 ops s.tm o = some false) (h : K4 s o.dst (.tup []) = some s1) : N4 E ops o s = some s1 := by
 unfold N4; rw [hw]; exact h
theorem T8.sound (hE : e7 E P) {ops : List Oper} : ∀ {l : List Oper} {s : d9} {R : d9 -> Prop}, T8 E P (l.map (X5 E ops)) s R -> PO E P ops l s R
 | [], s, R, h => PO.nil h
 | o :: l, s, R, h => by
  simp only [List.map_cons] at h
  unfold X5 at h
  have st : (∃ s1, N4 E ops o s = some s1 /\ T8 E P (l.map (X5 E ops)) s1 R) -> PO E P ops (o :: l) s R := fun ⟨s1, h1, h2⟩ => PO.step hE h1 (T8.sound hE h2)
  split at h
  ·split at h
   ·rcases h with h | ⟨s1, h1, h2⟩
    ·exact st h
    ·exact PO.stepR hE h1 (T8.sound hE h2)
   ·exact st h
  ·rename_i c hc
   split at h
   ·rename_i f hf
    rcases h with ⟨hw, g, first, captured, h1, h2⟩ | ⟨hw, k, i, h1, h2⟩ | ⟨hw, s1, h1, h2⟩
    ·refine PO.call hw hc hf h1 (h2.mono fun x M1 ⟨os1, M2, s2, a1, a2, a3, a4⟩ => ⟨os1, M2, s2, a1, a2, a3, T8.sound hE a4⟩)
    ·refine PO.yield hw hc hf h1 ?_
     intro cx m l' vargs hg hl ha
     obtain ⟨v, m1, cx1, x, M1, q1, q2, q3, q4, os1, M2, s2, a1, a2, a3, a4⟩ := h2 cx m l' vargs hg hl ha
     exact ⟨v, m1, cx1, x, M1, q1, q2, q3, q4, os1, M2, s2, a1, a2, a3, T8.sound hE a4⟩
    ·exact PO.step hE (gW hw h1) (T8.sound hE h2)
   ·rcases h with h | ⟨s1, h1, h2⟩
    ·exact st h
    ·exact PO.stepR hE h1 (T8.sound hE h2)
   ·exact st h
  ·split at h
   ·rename_i neg x hn
    obtain ⟨op, t, ty, h1, h2, h3⟩ := aB3 hn
    rcases h with ⟨hw, tk, es, n, cs, h4, h5⟩ | ⟨hw, s1, h4, h5⟩
    ·refine PO.nilc hw h1 h2 h3 h4 fun b hb => ?_
     obtain ⟨s1, h6, h7⟩ := h5 b hb
     exact ⟨s1, h6, T8.sound hE h7⟩
    ·exact PO.step hE (gW hw h4) (T8.sound hE h5)
   ·exact st h
theorem aDD {ops : List Oper} {o : Oper} {f g : d9 -> Option d9} (h : X5 E ops o = .alt f g) : f = N4 E ops o /\ g = iK E ops o := by
 unfold X5 at h
 split at h
 ·split at h <;> cases h
  exact ⟨rfl, rfl⟩
 ·split at h
  ·cases h
  ·cases h; exact ⟨rfl, rfl⟩
  ·cases h
 ·split at h <;> cases h
theorem aHX {ops : List Oper} {o : Oper} {f : d9 -> Option d9} (h : X5 E ops o = .st f) : f = N4 E ops o := by
 unfold X5 at h
 split at h
 ·split at h <;> cases h
  rfl
 ·split at h
  ·cases h
  ·cases h
  ·cases h; rfl
 ·split at h
  ·cases h
  ·cases h; rfl
theorem zN {ops : List Oper} {o : Oper} {d : Option Nat} {w : d9 -> Option Bool} {f : d9 -> PV} {a : d9 -> List PV} (h : X5 E ops o = .call d w f a) : ∃ c fo, o.op = .call c /\ c.callee = .value fo /\ o.dst = d /\ (fun s => G8 ops s.tm o) = w /\ (fun s => l4 s.tm fo) = f /\ (fun s => c.args.toList.map (l4 s.tm)) = a := by
 unfold X5 at h
 split at h
 ·split at h <;> cases h
 ·rename_i c hc
  split at h
  ·rename_i fo hf
   cases h; exact ⟨c, fo, hc, hf, rfl, rfl, rfl, rfl⟩
  ·cases h
  ·cases h
 ·split at h <;> cases h
theorem V0.sound (hE : e7 E P) {ops : List Oper} {bs : List Nat} : ∀ {l : List Oper} {i : Nat} {s : d9} {R : d9 -> Prop}, V0 E P (zA E ops bs i l) s R -> PD E P ops bs i l s R
 | [], i, s, R, h => PD.nil h
 | o :: l, i, s, R, h => by
  simp only [zA] at h
  have st : ((!(G5 E o.op).isHard || F6 E bs ops i) = true /\ ∃ s1, N4 E ops o s = some s1 /\ V0 E P (zA E ops bs (i + 1) l) s1 R) -> PD E P ops bs i (o :: l) s R := fun ⟨hf, s1, h1, h2⟩ => PD.step hE hf h1 (V0.sound hE h2)
  split at h
  ·rename_i x f hx
   rw [aHX hx] at h
   cases hfree : (!(G5 E o.op).isHard || F6 E bs ops i) with
   | true =>
    rw [hfree] at h st
    exact st h
   | false =>
    rw [hfree] at h
    dsimp only at h
    split at h
    ·rename_i t a v hop
     split at h
     ·rename_i hgd
      split at h
      ·rename_i L hL
       obtain ⟨k1, i1, o1, es1, cs1, b1, b2, b3, s1, b4, b5⟩ := h
       exact PD.storeOff hE hfree hgd hop hL b1 b2 b3 b4 (V0.sound hE b5)
      ·cases h.1
     ·cases h.1
    ·cases h.1
  ·rename_i x f g hx
   obtain ⟨rfl, rfl⟩ := aDD hx
   cases hfree : (!(G5 E o.op).isHard || F6 E bs ops i) with
   | true =>
    rw [hfree] at h st
    obtain ⟨hf, h | ⟨s1, h1, h2⟩⟩ := h
    ·exact st ⟨hf, h⟩
    ·exact PD.stepR hE hfree h1 (V0.sound hE h2)
   | false =>
    rw [hfree] at h
    dsimp only at h
    split at h
    ·rename_i x hap
     obtain ⟨c, r, hop, hcl, hxs⟩ := yZ hap
     obtain ⟨⟨e, he⟩, s1, h1, h2⟩ := h
     exact PD.appQ hE hfree hop hcl hxs he h1 (V0.sound hE h2)
    ·cases h.1
  ·exact st h
  ·rename_i x d w f a hx
   obtain ⟨c, fo, hc, hf, rfl, rfl, rfl, rfl⟩ := zN hx
   have hcls : G5 E o.op = .hard := by rw [hc]; simp only [G5, hf]
   rcases h with ⟨hw, g, first, captured, h1, h2⟩ | ⟨hf1, hw, s1, h1, h2⟩ | ⟨hf1, hw, s1, h1, h2⟩
   ·cases hfree : (!(G5 E o.op).isHard || F6 E bs ops i) with
    | true =>
     rw [hfree] at h2
     simp only at h2
     have hal : F6 E bs ops i = true := by
      rw [hcls] at hfree
      simpa [nE.isHard] using hfree
     exact PD.call hal hw hc hf h1 (h2.mono fun x M1 ⟨os1, M2, s2, a1, a2, a3, a4⟩ => ⟨os1, M2, s2, a1, a2, a3, V0.sound hE a4⟩)
    | false =>
     rw [hfree] at h2
     simp only at h2
     exact PD.quiet hfree hw hc hf h1 (h2.mono fun x M1 ⟨a1, s2, a3, a4⟩ => ⟨a1, s2, a3, V0.sound hE a4⟩)
   ·exact PD.step hE hf1 (gW hw h1) (V0.sound hE h2)
   ·exact PD.skip hE hw h1 (V0.sound hE h2)
end
end Go.Pm
end