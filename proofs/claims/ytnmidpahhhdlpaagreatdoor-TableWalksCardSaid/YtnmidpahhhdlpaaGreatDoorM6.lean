/- TableWalks holds. Part 6 of 29; no condition. -/
import Derived.Test.YtnmidpahhhdlpaaGreatDoorM5
set_option linter.unusedVariables false
set_option linter.unusedSimpArgs false
noncomputable section
namespace Go.Pm
open Go.RowKit Go.Am
def rg (g : Option (Nat × Bool)) (s : c5) : Option Bool :=
 match g with
 | none => some true
 | some (d, want) => match a7 s.tm d with
  | .v (.bool b) => some (b == want)
  | .tup [] => some false
  | _ => none
def rI (dst : Option Nat) (g : Option (Nat × Bool)) (f : c5 -> Option (PV × c5)) : c5 -> Option c5 := fun s =>
 match rg g s with
 | some true => match f s with
  | some (x, s1) => H8 s1 dst x
  | none => none
 | some false => H8 s dst (.tup [])
 | none => none
def rv (f : c5 -> Option PV) : c5 -> Option (PV × c5) := fun s => match f s with
 | some v => some (v, s)
 | none => none
def c4 (ag : Bool) (n : Nat) (a : Operand) : c5 -> Option PV := fun s => match g7 s.tm a with
 | .ptr k i o => match s.look k i with
  | some (.row _ _ cs) => o9 ag n cs o
  | _ => none
 | .dp cs o => o9 ag n cs o
 | _ => none
def m7 (n : Nat) (a x : Operand) : c5 -> Option (PV × c5) := fun s => match g7 s.tm a with
 | .ptr k i o => match s.look k i with
  | some (.row .rw es cs) => if (e9 (g7 s.tm x)).length = n /\ o + (e9 (g7 s.tm x)).length <= cs.length /\ (e9 (g7 s.tm x)).all p7 = true then some (.junk, s.putO k i (.row .rw es (e8 cs o (e9 (g7 s.tm x))))) else none
  | some (.row .own es cs) => if (e9 (g7 s.tm x)).length = n /\ o + (e9 (g7 s.tm x)).length <= cs.length /\ (e9 (g7 s.tm x)).all p7 = true then some (.junk, s.putO k i (.row .rw es (e8 cs o (e9 (g7 s.tm x))))) else none
  | _ => none
 | _ => none
def d8 (x : Operand) : c5 -> Option PV := fun s => some (g7 s.tm x)
def j9 (c a b : Operand) : c5 -> Option PV := fun s => P1 (g7 s.tm c) (g7 s.tm a) (g7 s.tm b)
def a9 (E : d9) (op : BinOp) (t : Nat) (c d : Bool) (x y : Operand) : c5 -> Option PV := fun s => w9 E op t c d (g7 s.tm x) (g7 s.tm y)
def V3 (op : UnOp) (x : Operand) : c5 -> Option PV := fun s => pun op (g7 s.tm x)
def c6 (off : Nat) (x : Operand) : c5 -> Option PV := fun s => match g7 s.tm x with
 | .ptr k i o => some (.ptr k i (o + off))
 | .dp cs o => some (.dp cs (o + off))
 | _ => none
def aEK (ag : Bool) (n off : Nat) (cs : List PV) : Option PV :=
 match ag with
 | true => some (.agg ((cs.drop off).take n))
 | false => cs[off]?
def aVJ (ag : Bool) (n off : Nat) (x : Operand) : c5 -> Option PV := fun s => match g7 s.tm x with
 | .agg cs => aEK ag n off cs
 | _ => none
def i3 (sz : Nat) (x i : Operand) : c5 -> Option PV := fun s => G8 sz (g7 s.tm x) (g7 s.tm i)
def vT (len sz : Nat) (x i : Operand) : c5 -> Option PV := fun s => jU len sz (g7 s.tm x) (g7 s.tm i)
def Y1 (z : List PV) : c5 -> Option (PV × c5) := fun s => some (dZ s 0 z)
def V1 (x : Operand) : c5 -> Option (PV × c5) := fun s => if B0 (g7 s.tm x) = true then some (dZ s 0 (e9 (g7 s.tm x))) else none
def y6 (x : Operand) : c5 -> Option PV := fun s => T7 (g7 s.tm x)
def E2 (x : Operand) : c5 -> Option PV := fun s => lN (g7 s.tm x)
def E3 (t : Operand) (i : Nat) : c5 -> Option PV := fun s => match g7 s.tm t with
 | .tup vs => vs[i]?
 | _ => none
def lD (E : d9) (t : Nat) : Bool := match E.ty t with
 | some y => match y.desc with
  | .slice _ => true
  | _ => false
 | none => false
section
variable {E : d9} {P : Program} {s : c5} {R : c5 -> Prop} {ops l : List Oper} {o : Oper}
theorem aD5 {t n c : Nat} {a : Option Addr} (hty : lD E t = true) : lQ E 100 t (.slice a n c) (.slice none 0 0) = some a.isNone := by
 unfold lD at hty
 split at hty
 ·rename_i y hy
  split at hty
  ·rename_i e he
   show lQ E (99 + 1) t (.slice a n c) (.slice none 0 0) = some a.isNone
   unfold lQ
   rw [hy]; dsimp only; rw [he]
   cases a <;> rfl
  ·cases hty
 ·cases hty
theorem PO.nilc {t : Nat} {op : BinOp} {x : Operand} {ty : TypeId} {neg : Bool} {tk : lH} {es n : Nat} {cs : List PV} (hw : E4 ops s.tm o = some true) (hop : o.op = .binOp op t x (.const (.slice none 0 0)) ty) (hn : (op = .eql /\ neg = false) \/ (op = .neq /\ neg = true))
  (hty : lD E t = true) (hx : g7 s.tm x = .lst tk es n cs) (h : ∀ b, (n ≠ 0 -> b = false) -> ∃ s1, H8 s o.dst (.v (.bool (xor b neg))) = some s1 /\ PO E P ops l s1 R) : PO E P ops (o :: l) s R := fun hc cx sA hs => by
 simp only [C6, Bool.and_eq_true] at hc
 have ho := hc.1
 rw [hop] at ho
 simp only [x9, Bool.and_eq_true] at ho
 have hv := hs.ev ho.1
 rw [hx] at hv
 obtain ⟨a, c, hv1, _, _, _, hz, _⟩ := hv.lst_view
 obtain ⟨s1, h1, h2⟩ := h a.isNone (fun hn0 => by
  rcases hz with rfl | ⟨r, off, cells, rfl, _⟩
  ·exact absurd rfl hn0
  ·rfl)
 obtain ⟨tm1, q1, q2, q3, q4⟩ := O9 hs (PR.v (cx := cx) (x := .bool (xor a.isNone neg)) rfl) h1
 obtain ⟨sA2, cx2, s2, k1, k2, k3, k4, k5, k6⟩ := h2 hc.2 cx _ q2
 refine ⟨sA2, cx2, s2, ⟨_, { sA with tm := tm1 }, aA7, cZ, ?_, k1⟩, k2, by rw [<- q3]; exact k3, k4.trans q3, k5.trans q4, k6⟩
 rw [p9, v7 hs hw]
 have hd : ∀ K, B4 E K o sA.tm sA.m = some (.bool (xor a.isNone neg), sA.m) := fun K => by
  unfold B4
  rw [o5, hop]
  have hev : Am.ev sA.tm (.const (.slice none 0 0)) = .slice none 0 0 := rfl
  rcases hn with ⟨rfl, rfl⟩ | ⟨rfl, rfl⟩
  ·have hb : B8 E .eql t (.slice a n c) (.slice none 0 0) = some (.bool a.isNone) := by
    show (lQ E 100 t (.slice a n c) (.slice none 0 0)).map _ = _
    rw [aD5 hty]; rfl
   dsimp only
   rw [hv1, hev, hb]
   cases a <;> rfl
  ·have hb : B8 E .neq t (.slice a n c) (.slice none 0 0) = some (.bool (!a.isNone)) := by
    show (lQ E 100 t (.slice a n c) (.slice none 0 0)).map _ = _
    rw [aD5 hty]; rfl
   dsimp only
   rw [hv1, hev, hb]
   cases a <;> rfl
 simp only [hd, q1]
end
def aHW (E : d9) (o : Op) : Option (Bool × Operand) :=
 match o with
 | .binOp op t x y _ => match op with
  | .eql => match y with
   | .const (.slice none 0 0) => bif lD E t then some (false, x) else none
   | _ => none
  | .neq => match y with
   | .const (.slice none 0 0) => bif lD E t then some (true, x) else none
   | _ => none
  | _ => none
 | _ => none
theorem aAJ {E : d9} {o : Op} {neg : Bool} {x : Operand} (h : aHW E o = some (neg, x)) : ∃ op t ty, o = .binOp op t x (.const (.slice none 0 0)) ty /\ ((op = .eql /\ neg = false) \/ (op = .neq /\ neg = true)) /\ lD E t = true := by
 unfold aHW at h
 split at h
 ·rename_i op t y z ty
  split at h
  ·split at h
   ·cases hs : lD E t with
    | true => rw [hs] at h; cases h; exact ⟨_, _, _, rfl, .inl ⟨rfl, rfl⟩, hs⟩
    | false => rw [hs] at h; cases h
   ·cases h
  ·split at h
   ·cases hs : lD E t with
    | true => rw [hs] at h; cases h; exact ⟨_, _, _, rfl, .inr ⟨rfl, rfl⟩, hs⟩
    | false => rw [hs] at h; cases h
   ·cases h
  ·cases h
 ·cases h
inductive RI where
 | nilc (d : Option Nat) (w : c5 -> Option Bool) (neg : Bool) (x : c5 -> PV)
 | st (f : c5 -> Option c5)
 | alt (f g : c5 -> Option c5)
 | call (dst : Option Nat) (w : c5 -> Option Bool) (fn : c5 -> PV) (args : c5 -> List PV)
inductive RD where
 | apq (f : c5 -> Option c5) (px : c5 -> PV)
 | st (free : Bool) (f : c5 -> Option c5)
 | alt (free : Bool) (f g : c5 -> Option c5)
 | call (free : Bool) (dst : Option Nat) (w : c5 -> Option Bool) (fn : c5 -> PV) (args : c5 -> List PV)
 | sto (f : c5 -> Option c5) (adr : c5 -> PV) (offs : c5 -> List PV)
def aA0 (E : d9) (ops : List Oper) (bs : List Nat) (i j : Nat) : Option (List Operand) :=
 match Nat.beq j i || ((wU E ops j).isPure || hU bs i j) with
 | true => some []
 | false => match Nat.blt j i with
  | false => none
  | true => match ops[j]? with
   | none => none
   | some y => match y.op with
    | .load _ x => match x with
     | .tmp t => match B6 i (fun k => Nat.blt k j || (match ops[k]? with
       | some z => match z.dst with
        | some d => !(qZ d (V8 y))
        | none => true
       | none => true)) with
      | true => some [.tmp t]
      | false => none
     | _ => none
    | _ => none
def jP (E : d9) (ops : List Oper) (bs : List Nat) (i : Nat) : Nat -> Option (List Operand)
 | 0 => some []
 | n + 1 => match jP E ops bs i n with
  | some l => match aA0 E ops bs i n with
   | some l' => some (l ++ l')
   | none => none
  | none => none
theorem kN {p : Nat -> Bool} : ∀ {n : Nat}, (∀ j, j < n -> p j = true) -> B6 n p = true
 | 0, _ => rfl
 | n + 1, h => by
  unfold B6
  rw [kN fun j hj => h j (Nat.lt_succ_of_lt hj), h n (Nat.lt_succ_self n)]; rfl
theorem sI {E : d9} {ops : List Oper} {bs : List Nat} {i : Nat} : ∀ {n : Nat} {L : List Operand}, jP E ops bs i n = some L -> ∀ j, j < n -> ∃ l, aA0 E ops bs i j = some l /\ ∀ x ∈ l, x ∈ L
 | 0, _, _, j, hj => absurd hj (Nat.not_lt_zero j)
 | n + 1, L, h, j, hj => by
  unfold jP at h
  split at h
  ·rename_i l hl
   split at h
   ·rename_i l' hl'
    cases h
    rcases Nat.lt_succ_iff_lt_or_eq.1 hj with h1 | h1
    ·obtain ⟨a, e1, e2⟩ := sI hl j h1
     exact ⟨a, e1, fun x hx => List.mem_append_left _ (e2 x hx)⟩
    ·subst h1; exact ⟨l', hl', fun x hx => List.mem_append_right _ hx⟩
   ·cases h
  ·cases h
theorem aBE {E : d9} {ops : List Oper} {bs : List Nat} {i blk : Nat} {tm : Tr Value} {L : List Operand} (h : jP E ops bs i ops.length = some L) (hL : ∀ t, Operand.tmp t ∈ L -> ∃ a, ev tm (.tmp t) = .pointer (some a) /\ a.block ≠ blk) : W3 E ops bs i tm blk = true := by
 unfold W3
 refine kN fun j hj => ?_
 obtain ⟨l, h1, h2⟩ := sI h j hj
 unfold aA0 at h1
 split at h1
 ·rename_i hb
  simp only [Bool.or_eq_true] at hb ⊢
  rcases hb with hb | hb | hb
  ·exact .inl hb
  ·exact .inr (.inl hb)
  ·exact .inr (.inr (.inl hb))
 ·split at h1
  ·cases h1
  ·rename_i hlt
   split at h1
   ·cases h1
   ·rename_i y hy
    split at h1
    ·rename_i t0 x hop
     split at h1
     ·rename_i t
      split at h1
      ·rename_i hall
       cases h1
       obtain ⟨a, e1, e2⟩ := hL t (h2 _ List.mem_cons_self)
       simp only [Bool.or_eq_true, Bool.and_eq_true]
       refine .inr (.inr (.inr ⟨hlt, ?_⟩))
       rw [hy]
       dsimp only
       rw [hop]
       dsimp only
       rw [e1]
       dsimp only
       refine Bool.and_eq_true_iff.2 ⟨?_, hall⟩
       cases hq : Nat.beq a.block blk with
       | false => rfl
       | true => exact absurd (Nat.eq_of_beq_eq_true hq) e2
      ·cases h1
     ·cases h1
    ·cases h1
def aCM (k1 i1 : Nat) (v : PV) : Prop := (∃ k2 i2 o2, v = .ptr k2 i2 o2 /\ ¬ (k2 = k1 /\ i2 = i1)) \/ ∃ cs o, v = .dp cs o
theorem PD.storeOff {E : d9} {P : Program} {ops l : List Oper} {bs : List Nat} {i : Nat} {o : Oper} {s s1 : c5} {R : c5 -> Prop} (hE : c8 E P) {t k1 i1 o1 es1 : Nat} {cs1 : List PV} {a x : Operand} {L : List Operand} (hfr : (!(E1 E o.op).isHard || C5 E bs ops i) = false) (hgd : o.guard = none) (hop : o.op = .store t a x) (hoff : jP E ops bs i ops.length = some L)
  (hadr : g7 s.tm a = .ptr k1 i1 o1) (hrow : s.mem k1 i1 = some (.row .rw es1 cs1)) (hL : ∀ v ∈ L.map (g7 s.tm), aCM k1 i1 v) (h : K7 E ops o s = some s1) (k : PD E P ops bs (i + 1) l s1 R) : PD E P ops bs i (o :: l) s R := fun hc cx sA hs => by
 simp only [C6, Bool.and_eq_true] at hc
 obtain ⟨sA1, cx1, h1, h2, h3, h4, h5⟩ := dM hE hs hc.1 h
 obtain ⟨es, sA2, cx2, s2, k0, ki, k1', k2', k3, k4, k5, k6⟩ := k hc.2 cx1 sA1 h2
 rw [h4] at k3
 have ho := hc.1
 rw [hop] at ho
 simp only [x9, Bool.and_eq_true] at ho
 have hav := hs.ev ho.1
 rw [hadr] at hav
 generalize hva : Am.ev sA.tm a = va at hav
 cases hav with
 | @ptr _ _ _ r e =>
  obtain ⟨r', vs, md, q, a1, a2, a3, a4, a5⟩ := hs.pg.obj k1 i1 _ hrow
  rw [e] at a1; cases a1
  obtain ⟨hmd, hq⟩ := a4 (by simp)
  have hq' : q = none := hq
  subst hmd hq'
  have hlt := (hs.pg.at_ _ _ _ e).1
  have hrole := hs.pg.role hrow nofun nofun e
  refine ⟨es, sA2, cx2, s2, k0, ki.mono (eC hs h1), fun K hK => ?_, k2', h3.trans k3, k4.trans h4, k5.trans h5, k6⟩
  have hw : ∀ tm, o6 ops tm o = true := fun tm => by unfold o6; rw [hgd]
  have hnone : s0 E K ops false o sA = none := by
   show (match y9 E K ops o { sA with m := F5 sA.m sA.m.size } with
    | some s1 => some { s1 with m := F5 s1.m sA.m.bar }
    | none => none) = none
   have hst : y9 E K ops o { sA with m := F5 sA.m sA.m.size } = none := by
    rw [p9]
    simp only [hw]
    have hd : B4 E K o sA.tm (F5 sA.m sA.m.size) = none := by
     unfold B4
     rw [o5, hop]
     simp only [hva]
     have hsv : ∀ v, P8 E (F5 sA.m sA.m.size) t ⟨r, o1, none⟩ v = none := fun v => by
      have hsc : ∀ ws, (F5 sA.m sA.m.size).storeCells ⟨r, o1, none⟩ ws = none := fun ws => by
       unfold b8.storeCells
       simp only [l8, a2]
       have hb : Nat.ble (F5 sA.m sA.m.size).bar r = false := by
        show Nat.ble sA.m.size r = false
        cases hq2 : Nat.ble sA.m.size r with
        | false => rfl
        | true => have := Nat.le_of_ble_eq_true hq2; omega
       rw [hb]; rfl
      unfold P8
      cases E.ty t with
      | none => rfl
      | some y =>
       dsimp only
       rw [hsc]
       cases Nat.beq v.cells.toList.length y.size <;> rfl
     rw [hsv]; rfl
    rw [hd]
   rw [hst]
  have hls : W3 E ops bs i sA.tm r = true := aBE hoff fun t' ht' => by
   have hpt := hs.tm t'
   rcases hL _ (List.mem_map_of_mem ht') with ⟨k2, i2, o2, e1, e2⟩ | ⟨cs2, o2, e1⟩
   ·have e1' : a7 s.tm t' = .ptr k2 i2 o2 := e1
    rw [e1'] at hpt
    generalize hvt : Am.ev sA.tm (.tmp t') = vt at hpt
    cases hpt with
    | @ptr _ _ _ r2 e3 =>
     refine ⟨_, rfl, fun hrr => ?_⟩
     have hrr' : r2 = r := hrr
     subst hrr'
     rcases (hs.pg.at_ _ _ _ e3).2 with h7 | h7
     ·rw [hrole] at h7
      cases h7
      exact e2 ⟨rfl, rfl⟩
     ·rw [hrole] at h7; cases h7
   ·have e1' : a7 s.tm t' = .dp cs2 o2 := e1
    rw [e1'] at hpt
    generalize hvt : Am.ev sA.tm (.tmp t') = vt at hpt
    cases hpt with
    | @dp _ _ r2 off cells hr hl hs' =>
     refine ⟨_, rfl, fun hrr => ?_⟩
     have hrr' : r2 = r := hrr
     subst hrr'
     rw [hrole] at hr; cases hr
  have hst : dN E K ops bs i o sA = some sA1 := by
   unfold dN
   rw [hop]
   simp only [hva, a2, hls]
   exact h1 K
  unfold C9 x7
  rw [hfr, hnone]
  simp only [hst]
  exact k1' K hK
inductive RC where
 | skip
 | ops (l : List RI)
 | drawn (ok : Bool) (l : List RD)
 | seq (a b : RC)
 | cond (x : c5 -> PV) (a b : RC)
 | block (id : Nat) (a : RC)
 | loop (a : RC)
 | scope (a : Code)
 | exit (i : Nat)
 | goto (l : Nat)
 | ret
 | refuse
 | range (f : c5 -> PV) (ps : List Tmp) (asg body : Code)
def aWS (ops : List Oper) (o : Oper) : Bool :=
 match o.dst with
 | some d => ops.any fun c => match c.op with
  | .call cl => match cl.callee with
   | .value (.func _) => match cl.args.toList with
    | [_, _, .tmp i] => Nat.beq i d
    | _ => false
   | _ => false
  | _ => false
 | none => false
def T9 (E : d9) (ops : List Oper) (o : Oper) : RI :=
 match o.op with
 | .buildSlice _ _ _ => match aWS ops o with
  | true => .alt (K7 E ops o) (eY E ops o)
  | false => .st (K7 E ops o)
 | .call c => match c.callee with
  | .value f => .call o.dst (fun s => E4 ops s.tm o) (fun s => g7 s.tm f) (fun s => c.args.toList.map (g7 s.tm))
  | .builtin .append => .alt (K7 E ops o) (eY E ops o)
  | _ => .st (K7 E ops o)
 | _ => match aHW E o.op with
  | some (neg, x) => .nilc o.dst (fun s => E4 ops s.tm o) neg (fun s => g7 s.tm x)
  | none => .st (K7 E ops o)
def aBV (o : Oper) : Option Operand := match o.op with
 | .call c => match c.callee with
  | .builtin .append => c.args.toList.head?
  | _ => none
 | _ => none
theorem xU {o : Oper} {x : Operand} (h : aBV o = some x) : ∃ c r, o.op = .call c /\ c.callee = .builtin .append /\ c.args.toList = x :: r := by
 unfold aBV at h
 split at h
 ·rename_i c hc
  split at h
  ·rename_i hcl
   cases hl : c.args.toList with
   | nil => rw [hl] at h; cases h
   | cons y r => rw [hl] at h; cases h; exact ⟨c, r, hc, hcl, hl⟩
  ·cases h
 ·cases h
def zF (E : d9) (ops : List Oper) (bs : List Nat) : Nat -> List Oper -> List RD
 | _, [] => []
 | i, o :: l => (match T9 E ops o with
  | .st f => match (!(E1 E o.op).isHard || C5 E bs ops i) with
   | true => .st true f
   | false => match o.op with
    | .store _ a _ => match o.guard with
     | none => match jP E ops bs i ops.length with
      | some L => .sto f (fun s => g7 s.tm a) (fun s => L.map (g7 s.tm))
      | none => .st false f
     | some _ => .st false f
    | _ => .st false f
  | .alt f g => match (!(E1 E o.op).isHard || C5 E bs ops i) with
   | true => .alt true f g
   | false => match aBV o with
    | some x => .apq f (fun s => g7 s.tm x)
    | none => .alt false f g
  | .nilc _ _ _ _ => .st (!(E1 E o.op).isHard || C5 E bs ops i) (K7 E ops o)
  | .call d w f a => .call (!(E1 E o.op).isHard || C5 E bs ops i) d w f a) :: zF E ops bs (i + 1) l
def i5 (E : d9) : Code -> RC
 | .skip => .skip
 | .label _ => .skip
 | .region _ ops draw => match draw with
  | false => .ops (ops.toList.map (T9 E ops.toList))
  | true => match bT E ops.toList with
   | some l => .drawn (qF E (o7 l []) l && C6 E.ng l) (zF E l (o7 l []) 0 l)
   | none => .refuse
 | .seq a b => .seq (i5 E a) (i5 E b)
 | .cond x a b => .cond (fun s => g7 s.tm x) (i5 E a) (i5 E b)
 | .block id a => .block id (i5 E a)
 | .loop a => .loop (i5 E a)
 | .scope a => .scope a
 | .exit i => .exit i
 | .goto l => .goto l
 | .ret => .ret
 | .refuse _ => .refuse
 | .rangeFunc f ps asg body => .range (fun s => g7 s.tm f) ps.toList asg body
def S2 (E : d9) (P : Program) : List RI -> c5 -> (c5 -> Prop) -> Prop
 | [], s, R => R s
 | .st f :: l, s, R => ∃ s1, f s = some s1 /\ S2 E P l s1 R
 | .alt f g :: l, s, R => (∃ s1, f s = some s1 /\ S2 E P l s1 R) \/ (∃ s1, g s = some s1 /\ S2 E P l s1 R)
 | .nilc d w neg x :: l, s, R => (w s = some true /\ ∃ tk es n cs, x s = .lst tk es n cs /\ ∀ b, (n ≠ 0 -> b = false) -> ∃ s1, H8 s d (.v (.bool (xor b neg))) = some s1 /\ S2 E P l s1 R) \/ (w s = some false /\ ∃ s1, H8 s d (.tup []) = some s1 /\ S2 E P l s1 R)
 | .call dst w fn args :: l, s, R => (w s = some true /\ (∃ g first captured, fn s = .fn g first captured /\ PTl E P (s.k + 1) g (first ++ (args s ++ captured)) s.mem (fun x M1 => qQ s dst x M1 fun s2 => S2 E P l s2 R))) ∨
   (w s = some true /\ (∃ k i, fn s = .yld k i /\ PRd E P k i (args s) s.mem (fun x M1 => qQ s dst x M1 fun s2 => S2 E P l s2 R))) \/ (w s = some false /\ ∃ s1, H8 s dst (.tup []) = some s1 /\ S2 E P l s1 R)
def Q3 (E : d9) (P : Program) : List RD -> c5 -> (c5 -> Prop) -> Prop
 | [], s, R => R s
 | .st free f :: l, s, R => free = true /\ ∃ s1, f s = some s1 /\ Q3 E P l s1 R
 | .alt free f g :: l, s, R => free = true /\ ((∃ s1, f s = some s1 /\ Q3 E P l s1 R) \/ (∃ s1, g s = some s1 /\ Q3 E P l s1 R))
 | .apq f px :: l, s, R => (∃ e, px s = .lst .full e 0 []) /\ ∃ s1, f s = some s1 /\ Q3 E P l s1 R
 | .sto f adr offs :: l, s, R => ∃ k1 i1 o1 es1 cs1, adr s = .ptr k1 i1 o1 /\ s.mem k1 i1 = some (.row .rw es1 cs1) /\ (∀ v ∈ offs s, aCM k1 i1 v) /\ ∃ s1, f s = some s1 /\ Q3 E P l s1 R
 | .call free dst w fn args :: l, s, R => (w s = some true /\ ∃ g first captured, fn s = .fn g first captured ∧
    (match free with
    | true => PTl E P (s.k + 1) g (first ++ (args s ++ captured)) s.mem (fun x M1 => qQ s dst x M1 fun s2 => Q3 E P l s2 R)
    | false => PT E P g (first ++ (args s ++ captured)) (Q4 s.mem) (fun x M1 => N3 M1 (Q4 s.mem) /\ ∃ s2, H8 s dst x = some s2 /\ Q3 E P l s2 R))) ∨
   (free = true /\ w s = some false /\ ∃ s1, H8 s dst (.tup []) = some s1 /\ Q3 E P l s1 R) \/ (free = false /\ w s = some false /\ ∃ s1, H8 s dst (.tup []) = some s1 /\ Q3 E P l s1 R)
section
variable {E : d9} {P : Program} {rd : Option (Nat × Nat)} {s : c5}
theorem gF {ops : List Oper} {o : Oper} {s s1 : c5} (hw : E4 ops s.tm o = some false) (h : H8 s o.dst (.tup []) = some s1) : K7 E ops o s = some s1 := by
 unfold K7; rw [hw]; exact h
theorem S2.sound (hE : c8 E P) {ops : List Oper} : ∀ {l : List Oper} {s : c5} {R : c5 -> Prop}, S2 E P (l.map (T9 E ops)) s R -> PO E P ops l s R
 | [], s, R, h => PO.nil h
 | o :: l, s, R, h => by
  simp only [List.map_cons] at h
  unfold T9 at h
  have st : (∃ s1, K7 E ops o s = some s1 /\ S2 E P (l.map (T9 E ops)) s1 R) -> PO E P ops (o :: l) s R := fun ⟨s1, h1, h2⟩ => PO.step hE h1 (S2.sound hE h2)
  split at h
  ·split at h
   ·rcases h with h | ⟨s1, h1, h2⟩
    ·exact st h
    ·exact PO.stepR hE h1 (S2.sound hE h2)
   ·exact st h
  ·rename_i c hc
   split at h
   ·rename_i f hf
    rcases h with ⟨hw, g, first, captured, h1, h2⟩ | ⟨hw, k, i, h1, h2⟩ | ⟨hw, s1, h1, h2⟩
    ·refine PO.call hw hc hf h1 (h2.mono fun x M1 ⟨os1, M2, s2, a1, a2, a3, a4⟩ => ⟨os1, M2, s2, a1, a2, a3, S2.sound hE a4⟩)
    ·refine PO.yield hw hc hf h1 ?_
     intro cx m l' vargs hg hl ha
     obtain ⟨v, m1, cx1, x, M1, q1, q2, q3, q4, os1, M2, s2, a1, a2, a3, a4⟩ := h2 cx m l' vargs hg hl ha
     exact ⟨v, m1, cx1, x, M1, q1, q2, q3, q4, os1, M2, s2, a1, a2, a3, S2.sound hE a4⟩
    ·exact PO.step hE (gF hw h1) (S2.sound hE h2)
   ·rcases h with h | ⟨s1, h1, h2⟩
    ·exact st h
    ·exact PO.stepR hE h1 (S2.sound hE h2)
   ·exact st h
  ·split at h
   ·rename_i neg x hn
    obtain ⟨op, t, ty, h1, h2, h3⟩ := aAJ hn
    rcases h with ⟨hw, tk, es, n, cs, h4, h5⟩ | ⟨hw, s1, h4, h5⟩
    ·refine PO.nilc hw h1 h2 h3 h4 fun b hb => ?_
     obtain ⟨s1, h6, h7⟩ := h5 b hb
     exact ⟨s1, h6, S2.sound hE h7⟩
    ·exact PO.step hE (gF hw h4) (S2.sound hE h5)
   ·exact st h
theorem aBG {ops : List Oper} {o : Oper} {f g : c5 -> Option c5} (h : T9 E ops o = .alt f g) : f = K7 E ops o /\ g = eY E ops o := by
 unfold T9 at h
 split at h
 ·split at h <;> cases h
  exact ⟨rfl, rfl⟩
 ·split at h
  ·cases h
  ·cases h; exact ⟨rfl, rfl⟩
  ·cases h
 ·split at h <;> cases h
theorem aFM {ops : List Oper} {o : Oper} {f : c5 -> Option c5} (h : T9 E ops o = .st f) : f = K7 E ops o := by
 unfold T9 at h
 split at h
 ·split at h <;> cases h
  rfl
 ·split at h
  ·cases h
  ·cases h
  ·cases h; rfl
 ·split at h
  ·cases h
  ·cases h; rfl
theorem xE {ops : List Oper} {o : Oper} {d : Option Nat} {w : c5 -> Option Bool} {f : c5 -> PV} {a : c5 -> List PV} (h : T9 E ops o = .call d w f a) : ∃ c fo, o.op = .call c /\ c.callee = .value fo /\ o.dst = d /\ (fun s => E4 ops s.tm o) = w /\ (fun s => g7 s.tm fo) = f /\ (fun s => c.args.toList.map (g7 s.tm)) = a := by
 unfold T9 at h
 split at h
 ·split at h <;> cases h
 ·rename_i c hc
  split at h
  ·rename_i fo hf
   cases h; exact ⟨c, fo, hc, hf, rfl, rfl, rfl, rfl⟩
  ·cases h
  ·cases h
 ·split at h <;> cases h
theorem Q3.sound (hE : c8 E P) {ops : List Oper} {bs : List Nat} : ∀ {l : List Oper} {i : Nat} {s : c5} {R : c5 -> Prop}, Q3 E P (zF E ops bs i l) s R -> PD E P ops bs i l s R
 | [], i, s, R, h => PD.nil h
 | o :: l, i, s, R, h => by
  simp only [zF] at h
  have st : ((!(E1 E o.op).isHard || C5 E bs ops i) = true /\ ∃ s1, K7 E ops o s = some s1 /\ Q3 E P (zF E ops bs (i + 1) l) s1 R) -> PD E P ops bs i (o :: l) s R := fun ⟨hf, s1, h1, h2⟩ => PD.step hE hf h1 (Q3.sound hE h2)
  split at h
  ·rename_i x f hx
   rw [aFM hx] at h
   cases hfree : (!(E1 E o.op).isHard || C5 E bs ops i) with
   | true =>
    rw [hfree] at h st
    exact st h
   | false =>
    rw [hfree] at h
    dsimp only at h
    split at h
    ·rename_i t a v hop
     split at h
     ·rename_i hgd
      split at h
      ·rename_i L hL
       obtain ⟨k1, i1, o1, es1, cs1, b1, b2, b3, s1, b4, b5⟩ := h
       exact PD.storeOff hE hfree hgd hop hL b1 b2 b3 b4 (Q3.sound hE b5)
      ·cases h.1
     ·cases h.1
    ·cases h.1
  ·rename_i x f g hx
   obtain ⟨rfl, rfl⟩ := aBG hx
   cases hfree : (!(E1 E o.op).isHard || C5 E bs ops i) with
   | true =>
    rw [hfree] at h st
    obtain ⟨hf, h | ⟨s1, h1, h2⟩⟩ := h
    ·exact st ⟨hf, h⟩
    ·exact PD.stepR hE hfree h1 (Q3.sound hE h2)
   | false =>
    rw [hfree] at h
    dsimp only at h
    split at h
    ·rename_i x hap
     obtain ⟨c, r, hop, hcl, hxs⟩ := xU hap
     obtain ⟨⟨e, he⟩, s1, h1, h2⟩ := h
     exact PD.appQ hE hfree hop hcl hxs he h1 (Q3.sound hE h2)
    ·cases h.1
  ·exact st h
  ·rename_i x d w f a hx
   obtain ⟨c, fo, hc, hf, rfl, rfl, rfl, rfl⟩ := xE hx
   have hcls : E1 E o.op = .hard := by rw [hc]; simp only [E1, hf]
   rcases h with ⟨hw, g, first, captured, h1, h2⟩ | ⟨hf1, hw, s1, h1, h2⟩ | ⟨hf1, hw, s1, h1, h2⟩
   ·cases hfree : (!(E1 E o.op).isHard || C5 E bs ops i) with
    | true =>
     rw [hfree] at h2
     simp only at h2
     have hal : C5 E bs ops i = true := by
      rw [hcls] at hfree
      simpa [kR.isHard] using hfree
     exact PD.call hal hw hc hf h1 (h2.mono fun x M1 ⟨os1, M2, s2, a1, a2, a3, a4⟩ => ⟨os1, M2, s2, a1, a2, a3, Q3.sound hE a4⟩)
    | false =>
     rw [hfree] at h2
     simp only at h2
     exact PD.quiet hfree hw hc hf h1 (h2.mono fun x M1 ⟨a1, s2, a3, a4⟩ => ⟨a1, s2, a3, Q3.sound hE a4⟩)
   ·exact PD.step hE hf1 (gF hw h1) (Q3.sound hE h2)
   ·exact PD.skip hE hw h1 (Q3.sound hE h2)
end
end Go.Pm
end