/- TableMoves holds. Part 5 of 29; no condition. -/
import Derived.Test.YthjlhgjnjhmfbaaGreatDoorM4
set_option linter.unusedVariables false
set_option linter.unusedSimpArgs false
noncomputable section
namespace Go.Pm
open Go.RowKit Go.Am
def PLe (x y : PV) : Prop := ∀ cx v, PR cx x v -> PR cx y v
theorem PLe.refl (x : PV) : PLe x x := fun _ _ h => h
theorem PLe.trans {x y z : PV} (h : PLe x y) (k : PLe y z) : PLe x z := fun cx v e => k cx v (h cx v e)
theorem PLe.junk (x : PV) : PLe x .junk := fun _ _ _ => .junk _
theorem PLe.nil (e e' : Nat) : PLe (.lst .full e 0 []) (.lst .full e' 0 []) := fun cx v h => by
 obtain ⟨a, c, rfl, _, _, _, _, hf⟩ := h.lst_view
 rw [hf rfl]; exact .f0 _ _
theorem PLe.nil_no (t : Tok) (e e' : Nat) (h : t = .full) : PLe (.lst t e 0 []) (.lst .no e' 0 []) := fun cx v hx => by
 obtain ⟨a, c, rfl, _, _, _, _, hf⟩ := hx.lst_view
 rw [hf h]; exact .l0 _ _ _ (.inl rfl)
theorem PLe.no (t : Tok) (e n : Nat) (cs : List PV) : PLe (.lst t e n cs) (.lst .no e n cs) := fun cx v h => by
 cases h with
 | l0 _ a c he => exact .l0 _ _ _ he
 | f0 _ a => exact .l0 _ _ _ (.inl rfl)
 | lno hr hl hs hn hc he => exact .lno hr hl hs hn hc he
 | lfull hr hl hs hn => exact .lno hr hl hs hn (by rw [capOf_even]; exact Nat.le_refl _) (.inl (by omega))
 | ltok h _ _ _ => exact h
inductive PLes : List PV -> List PV -> Prop where
 | nil : PLes [] []
 | cons {x y : PV} {l l' : List PV} (h : PLe x y) (hs : PLes l l') : PLes (x :: l) (y :: l')
theorem PLes.refl : ∀ l : List PV, PLes l l
 | [] => .nil
 | x :: l => .cons (.refl x) (PLes.refl l)
theorem PLes.sim {l l' : List PV} (h : PLes l l') {cx : Cx} {vs : List Value} (k : PRs cx l vs) : PRs cx l' vs := by
 induction h generalizing vs with
 | nil => exact k
 | cons hx _ ih => cases k with | cons a b => exact .cons (hx _ _ a) (ih b)
theorem PLe.agg {l l' : List PV} (h : PLes l l') : PLe (.agg l) (.agg l') := fun cx v k => by cases k with | agg k => exact .agg (h.sim k)
theorem PLe.tup {l l' : List PV} (h : PLes l l') : PLe (.tup l) (.tup l') := fun cx v k => by cases k with | tup k => exact .tup (h.sim k)
theorem PLes.length {l l' : List PV} (h : PLes l l') : l.length = l'.length := by
 induction h with
 | nil => rfl
 | cons _ _ ih => simp [ih]
theorem PLes.drop {l l' : List PV} (h : PLes l l') : ∀ n, PLes (l.drop n) (l'.drop n) := by
 induction h with
 | nil => intro n; simp; exact .nil
 | cons h hs ih => intro n; cases n with
  | zero => exact .cons h hs
  | succ n => simpa using ih n
inductive OLe : Obj -> Obj -> Prop where
 | refl (o : Obj) : OLe o o
 | row (w : Wm) (es : Nat) {cs cs' : List PV} (h : PLes cs cs') : OLe (.row w es cs) (.row w es cs')
def MLe (M M' : PMem) : Prop := ∀ k i o', M' k i = some o' -> ∃ o, M k i = some o /\ OLe o o'
theorem MLe.refl (M : PMem) : MLe M M := fun _ _ o h => ⟨o, h, .refl o⟩
theorem MLe.of_eq {M M' : PMem} (h : M = M') : MLe M M' := h ▸ MLe.refl M
section
variable {E : Env} {P : Program} {cx cx' : Cx} {s s' s1 s2 : PSt} {sA sA1 : St} {m m' : Mem} {M M' : PMem}
theorem PG.weak (hM : MLe M M') (h : PG E cx M m) : PG E cx M' m where
 obj := fun k i o' e => by
  obtain ⟨o, h1, h2⟩ := hM k i o' e
  have ho := h.obj k i o h1
  cases h2 with
  | refl => exact ho
  | row w es hs =>
   obtain ⟨r, vs, md, q, e1, e2, e3, e4, e5⟩ := ho
   exact ⟨r, vs, md, q, e1, e2, hs.sim e3, e4, e5⟩
 at_ := h.at_
 nd := fun k i o' r e e' => by
  obtain ⟨o, h1, h2⟩ := hM k i o' e
  have hn := h.nd k i o r h1 e'
  cases h2 with
  | refl => exact hn
  | row w es hs =>
   rcases hn with h | h | ⟨n, es', h⟩
   ·exact .inl h
   ·cases h
   ·cases h
 im := h.im
 mks := h.mks
 dd := h.dd
 keys := h.keys
 tkin := fun k1 i1 k2 i2 r n es n' es' e1 e2 e3 e4 => by
  obtain ⟨o1, a1, b1⟩ := hM _ _ _ e1
  obtain ⟨o2, a2, b2⟩ := hM _ _ _ e2
  cases b1; cases b2
  exact h.tkin k1 i1 k2 i2 r n es n' es' a1 a2 e3 e4
 glob := h.glob
 wf := h.wf
 pos := h.pos
structure SLe (s s' : PSt) : Prop where
 tm : ∀ i, PLe (tget s.tm i) (tget s'.tm i)
 nt : s'.nt = s.nt
 k : s'.k = s.k
 os : s'.os.length = s.os.length
 mem : MLe s.mem s'.mem
theorem SLe.refl (s : PSt) : SLe s s := ⟨fun _ => .refl _, rfl, rfl, rfl, .refl _⟩
theorem PS.weak (hs : SLe s s') (h : PS E cx s sA) : PS E cx s' sA :=
 ⟨fun i => hs.tm i _ _ (h.tm i), by rw [hs.nt]; exact h.nt, h.pg.weak hs.mem, fun i hi => by rw [hs.k]; exact h.cur i (by rw [<- hs.os]; exact hi), by rw [hs.k]; exact h.low, by rw [hs.k]; exact h.pos, h.df⟩
def clearS (s : PSt) (sz : Nat) (z : List PV) (x : PV) : Option (PV × PSt) :=
 match x with
 | .sl k i o n c => if n = 0 then some (.junk, s) else match s.look k i with
  | some (.row .rw es cs) => if o + n * sz <= cs.length /\ z.length = sz /\ z.all pone = true then some (.junk, s.putO k i (.row .rw es (psplice cs o (List.replicate n z).flatten))) else none
  | some (.row .own es cs) => if o + n * sz <= cs.length /\ z.length = sz /\ z.all pone = true then some (.junk, s.putO k i (.row .rw es (psplice cs o (List.replicate n z).flatten))) else none
  | _ => none
 | _ => none
def pclear (E : Env) (s : PSt) (t : Nat) (x : PV) : Option (PV × PSt) :=
 match E.ty t with
 | some y => match y.desc with
  | .slice e => match E.ty e, pzero E e with
   | some ye, some z => clearS s ye.size z x
   | _, _ => none
  | _ => none
 | none => none
theorem all_flat {z : List PV} (h : z.all pone = true) : ∀ n, ((List.replicate n z).flatten).all pone = true
 | 0 => rfl
 | n + 1 => by rw [List.replicate_succ, List.flatten_cons, List.all_append, h, all_flat h n]; rfl
theorem pclear_sim (hE : EnvOk E P) (h : PS E cx s sA) {t : Nat} {x z : PV} {vx : Value} (hx : PR cx x vx) (hp : pclear E s t x = some (z, s')) :
  ∃ v m', clearV E sA.m t vx = some (v, m') /\ After E cx s sA z s' v m' := by
 unfold pclear at hp
 split at hp
 ·rename_i y hy
  split at hp
  ·rename_i e hd
   split at hp
   ·rename_i ye zz hye hz
    obtain ⟨zv, hzv, hzr⟩ := pzero_sim hE hz (cx := cx)
    unfold clearS at hp
    split at hp
    ·rename_i k i o n c
     cases hx with
     | sl e0 =>
      rename_i r0
      split at hp
      ·rename_i hn
       cases hp
       subst hn
       refine ⟨undefV, sA.m, ?_, ⟨cx, .junk _, Ext.refl _ _, h⟩, rfl, rfl, rfl⟩
       unfold clearV
       simp only [hy, hd]
      ·rename_i hn
       split at hp
       ·rename_i es cs hk
        split at hp
        ·rename_i hc
         obtain ⟨c1, c2, c3⟩ := hc
         cases hp
         obtain ⟨r, vs, md, q, e1, e2, e3, e4, e5⟩ := h.pg.obj k i _ hk
         obtain ⟨rfl, rfl⟩ := e4 (by simp)
         have hbar := e5 rfl
         rw [e0] at e1; cases e1
         have hfl := repeat_sim hzr n
         have hone := allOne_sim hfl (all_flat c3 n)
         have hl : (repeatCells zv n).length = n * ye.size := by rw [<- hfl.length, flat_len, c2]
         have hlc := e3.length
         have hnb : sA.m.nb <= r0 := Nat.le_trans h.pg.wf.nb hbar
         have hcv : clearV E sA.m t (.slice (some ⟨r0, o, none⟩) n c) = some (undefV, sA.m.upd r0 (some (.row (splice vs o (repeatCells zv n)) .rw es none))) := by
          unfold clearV
          simp only [hy, hd, natBeqF' hn, hye, hzv, Mem.storeCells, e2, bleT hbar, bleT (show o + (repeatCells zv n).length <= vs.length by omega), hone, Bool.and_self, cond_true, Mem.kill, Option.map_some]
         refine ⟨undefV, _, hcv, after_upd h e0 hbar hk ⟨nofun, nofun⟩ (fun _ _ e => by cases e) ?_ (.junk _)⟩
         refine ⟨r0, _, .rw, none, e0, Mem.get_upd_same hnb _, ?_, fun _ => ⟨rfl, rfl⟩, fun _ => by rw [Mem.upd_def]; exact hbar⟩
         rw [splice_eq _ _ _ (by omega)]
         exact psplice_sim e3 hfl o
        ·cases hp
       ·rename_i es cs hk
        split at hp
        ·rename_i hc
         obtain ⟨c1, c2, c3⟩ := hc
         cases hp
         obtain ⟨r, vs, md, q, e1, e2, e3, e4, e5⟩ := h.pg.obj k i _ hk
         obtain ⟨rfl, hbar, hsh⟩ := e4 (by simp)
         rw [e0] at e1; cases e1
         have hfl := repeat_sim hzr n
         have hone := allOne_sim hfl (all_flat c3 n)
         have hl : (repeatCells zv n).length = n * ye.size := by rw [<- hfl.length, flat_len, c2]
         have hlc := e3.length
         have hr : PRs cx (psplice cs o (List.replicate n zz).flatten) (splice vs o (repeatCells zv n)) := by
          rw [splice_eq _ _ _ (by omega)]
          exact psplice_sim e3 hfl o
         obtain ⟨m0, k1, k2⟩ := after_updOwn h e0 hk e2 hbar hsh hr (.junk undefV)
         refine ⟨undefV, _, ?_, k2⟩
         unfold clearV
         simp only [hy, hd, natBeqF' hn, hye, hzv, Mem.storeCells, e2, bleT hbar, bleT (show o + (repeatCells zv n).length <= vs.length by omega), hone, Bool.and_self, cond_true, k1, Option.map_some]
        ·cases hp
       ·cases hp
    ·cases hp
   ·cases hp
  ·cases hp
 ·cases hp
def pop (E : Env) (s : PSt) (o : Op) : Option (PV × PSt) :=
 match o with
 | .alloc e => pmem E s (.alloc e)
 | .box t x => pmem E s (.box t x)
 | .store t a x => pmem E s (.store t a x)
 | .makeSlice t l c => pmem E s (.makeSlice t l c)
 | .buildSlice t len parts => pmem E s (.buildSlice t len parts)
 | .range t x => pmem E s (.range t x)
 | .next it str => pmem E s (.next it str)
 | .convert a d x => match pbytesOf E a d (pev s.tm x) with
  | some v => some (v, s)
  | none => match pconv E a d (pev s.tm x) with
   | some v => some (v, s)
   | none => none
 | .call c => match c.callee with
  | .builtin .append => match c.argTypes.toList, c.args.toList with
   | t :: r, x :: y :: _ => pappend E s t r.head? (pev s.tm x) (pev s.tm y)
   | _, _ => none
  | .builtin .clear => match c.argTypes.toList, c.args.toList with
   | t :: _, x :: _ => pclear E s t (pev s.tm x)
   | _, _ => none
  | .builtin b => match pbuiltin E b c.argTypes.toList (c.args.toList.map (pev s.tm)) with
   | some v => some (v, s)
   | none => none
  | _ => none
 | o => match pval E s o with
  | some v => some (v, s)
  | none => none
theorem pop_sim (hE : EnvOk E P) (h : PS E cx s sA) {o : Oper} (ho : opOk E.ng o.op = true) {x : PV} (hp : pop E s o.op = some (x, s')) : ∃ v m', aop E (ev sA.tm) sA.m o = some (.val v m') /\ After E cx s sA x s' v m' := by
 have val : ∀ {y : PV}, pval E s o.op = some y -> y = x -> s = s' -> ∃ v m', aop E (ev sA.tm) sA.m o = some (.val v m') /\ After E cx s sA x s' v m' := by
  intro y hy e1 e2
  subst e1 e2
  obtain ⟨v, h1, h2⟩ := pval_sim hE h ho hy
  exact ⟨v, sA.m, h1, ⟨cx, h2, Ext.refl _ _, h⟩, rfl, rfl, rfl⟩
 unfold pop at hp
 cases hop : o.op with
 | alloc e => rw [hop] at hp; exact pmem_sim hE h ho (by rw [hop]; exact hp)
 | box t x => rw [hop] at hp; exact pmem_sim hE h ho (by rw [hop]; exact hp)
 | store t a x => rw [hop] at hp; exact pmem_sim hE h ho (by rw [hop]; exact hp)
 | makeSlice t l c => rw [hop] at hp; exact pmem_sim hE h ho (by rw [hop]; exact hp)
 | buildSlice t len parts => rw [hop] at hp; exact pmem_sim hE h ho (by rw [hop]; exact hp)
 | range t x => rw [hop] at hp; exact pmem_sim hE h ho (by rw [hop]; exact hp)
 | next it str => rw [hop] at hp; exact pmem_sim hE h ho (by rw [hop]; exact hp)
 | convert a d y =>
  rw [hop] at hp
  simp only at hp
  split at hp
  ·rename_i v hv
   cases hp
   refine pmem_sim hE h ho ?_
   rw [hop]
   simp only [pmem, hv, Option.map_some]
  ·split at hp
   ·rename_i v hv
    cases hp
    exact val (y := x) (by rw [hop]; exact hv) rfl rfl
   ·cases hp
 | call c =>
  rw [hop] at hp
  simp only at hp
  cases hc : c.callee with
  | builtin b =>
   rw [hc] at hp
   cases b with
   | append =>
    simp only at hp
    split at hp
    ·rename_i t r a b rest h1 h2
     have ho' := ho
     rw [hop] at ho'
     simp only [opOk, Bool.and_eq_true] at ho'
     have hargs := ho'.1
     rw [h2] at hargs
     simp only [opndsOk, Bool.and_eq_true] at hargs
     obtain ⟨v, m', h3, h4⟩ := pappend_sim hE h (h.ev hargs.1) (h.ev hargs.2.1) hp
     refine ⟨v, m', ?_, h4⟩
     rw [aop_def, hop]
     simp only [hc, h1, h2, List.map_cons, builtinV, h3, Option.map_some]
    ·cases hp
   | clear =>
    simp only at hp
    split at hp
    ·rename_i t r a rest h1 h2
     have ho' := ho
     rw [hop] at ho'
     simp only [opOk, Bool.and_eq_true] at ho'
     have hargs := ho'.1
     rw [h2] at hargs
     simp only [opndsOk, Bool.and_eq_true] at hargs
     obtain ⟨v, m', h3, h4⟩ := pclear_sim hE h (h.ev hargs.1) hp
     refine ⟨v, m', ?_, h4⟩
     rw [aop_def, hop]
     simp only [hc, h1, h2, List.map_cons, builtinV, h3, Option.map_some]
    ·cases hp
   | _ =>
    simp only at hp
    split at hp
    ·rename_i v hv
     cases hp
     exact val (y := x) (by rw [hop]; simp only [pval, hc]; exact hv) rfl rfl
    ·cases hp
  | _ => rw [hc] at hp; cases hp
 | _ =>
  rw [hop] at hp
  simp only at hp
  split at hp
  ·rename_i v hv
   cases hp
   exact val (y := x) (by rw [hop]; exact hv) rfl rfl
  ·cases hp
def pput (s : PSt) (dst : Option Nat) (x : PV) : Option PSt :=
 match dst with
 | none => some s
 | some d => if d < s.nt then some { s with tm := (d, x) :: s.tm } else none
def pwanted (ops : List Oper) (tm : List (Nat × PV)) (o : Oper) : Option Bool :=
 match o.guard with
 | none => some true
 | some (j, want) => match ops[j]? with
  | some g => match g.dst with
   | some d => match tget tm d with
    | .v (.bool b) => some (b == want)
    | .tup [] => some false
    | _ => none
   | none => none
  | none => none
def pstep (E : Env) (ops : List Oper) (o : Oper) (s : PSt) : Option PSt :=
 match pwanted ops s.tm o with
 | some true => match pop E s o.op with
  | some (x, s1) => pput s1 o.dst x
  | none => none
 | some false => pput s o.dst (.tup [])
 | none => none
theorem pput_sim (h : PS E cx s sA) {dst : Option Nat} {x : PV} {v : Value} (hx : PR cx x v) (hp : pput s dst x = some s1) : ∃ tm1, putT sA.tm sA.nt dst v = some tm1 /\ PS E cx s1 { sA with tm := tm1 } /\ s1.k = s.k /\ s1.nt = s.nt := by
 unfold pput at hp
 cases dst with
 | none => cases hp; exact ⟨_, rfl, h, rfl, rfl⟩
 | some d =>
  simp only at hp
  split at hp
  ·rename_i hlt
   cases hp
   refine ⟨sA.tm.put d (some v), by simp only [putT, h.nt, bltT hlt, cond_true], ⟨fun i => ?_, h.nt, h.pg, h.cur, h.low, h.pos, h.df⟩, rfl, rfl⟩
   simp only [tget_cons, ev, Tr.at_put]
   by_cases hi : i = d
   ·subst hi; simp only [if_true]; exact hx
   ·rw [if_neg hi, if_neg hi]; exact h.tm i
  ·cases hp
theorem pwanted_sim (h : PS E cx s sA) {ops : List Oper} {o : Oper} {b : Bool} (hw : pwanted ops s.tm o = some b) : wantedV ops sA.tm o = b := by
 unfold pwanted at hw
 unfold wantedV
 split at hw
 ·rename_i hg; rw [hg]; cases hw; rfl
 ·rename_i j want hg
  rw [hg]
  simp only
  split at hw
  ·rename_i g hj
   split at hw
   ·rename_i d hd
    split at hw
    ·rename_i b' hb
     cases hw
     have ht := h.tm d
     rw [hb] at ht
     obtain ⟨e, _⟩ := ht.flat_eq
     have : told ops sA.tm j = some b' := by
      unfold told
      simp only [hj, hd]
      simp only [ev] at e
      cases hat : sA.tm.at d with
      | none => rw [hat] at e; cases e
      | some v => rw [hat] at e; subst e; rfl
     rw [this]
    ·rename_i hb
     cases hw
     have ht := h.tm d
     rw [hb] at ht
     have : told ops sA.tm j = none := by
      unfold told
      simp only [hj, hd]
      cases hat : sA.tm.at d with
      | none => rfl
      | some v =>
       simp only [ev, hat] at ht
       cases ht with
       | tup hh => rfl
     rw [this]
    ·cases hw
   ·cases hw
  ·cases hw
theorem pstep_sim (hE : EnvOk E P) (h : PS E cx s sA) {ops : List Oper} {o : Oper} (ho : opOk E.ng o.op = true) (hp : pstep E ops o s = some s1) :
  ∃ sA1 cx1, (∀ K, stepOp E K ops o sA = some sA1) /\ PS E cx1 s1 sA1 /\ Ext (some s.k) cx cx1 /\ s1.k = s.k /\ s1.nt = s.nt := by
 unfold pstep at hp
 simp only [stepOp_def]
 split at hp
 ·rename_i hw
  simp only [pwanted_sim h hw]
  split at hp
  ·rename_i x s2 hx
   obtain ⟨v, m', h1, ⟨cx1, hr, hext, hps⟩, e1, e2, e3⟩ := pop_sim hE h ho hx
   obtain ⟨tm1, q1, q2, q3, q4⟩ := pput_sim hps hr hp
   have hd : ∀ K, doOp E K o sA.tm sA.m = some (v, m') := fun K => by unfold doOp; rw [h1]
   have q1' : putT sA.tm sA.nt o.dst v = some tm1 := q1
   simp only [hd, q1']
   exact ⟨_, cx1, fun _ => rfl, q2, hext, q3.trans e3, q4.trans e2⟩
  ·cases hp
 ·rename_i hw
  obtain ⟨tm1, q1, q2, q3, q4⟩ := pput_sim h (PR.und (cx := cx)) hp
  simp only [pwanted_sim h hw, q1]
  exact ⟨_, cx, fun _ => rfl, q2, Ext.refl _ _, q3, q4⟩
 ·cases hp
def PT (E : Env) (P : Program) (f : Nat) (args : List PV) (M : PMem) (Q : PV -> PMem -> Prop) : Prop :=
 ∀ cx m vargs, PG E cx M m -> PRs cx args vargs -> ∃ v m1 cx1 x M1, CanT E P (.call f vargs) m v m1 /\ PG E cx1 M1 m1 /\ Ext none cx cx1 /\ PR cx1 x v /\ Q x M1
def PTl (E : Env) (P : Program) (lo : Nat) (f : Nat) (args : List PV) (M : PMem) (Q : PV -> PMem -> Prop) : Prop :=
 ∀ cx m vargs, lo <= cx.nk -> PG E cx M m -> PRs cx args vargs -> ∃ v m1 cx1 x M1, CanT E P (.call f vargs) m v m1 /\ PG E cx1 M1 m1 /\ Ext none cx cx1 /\ PR cx1 x v /\ Q x M1
def PTk (E : Env) (P : Program) (f : Nat) (args : List PV) (M : PMem) (Q : Nat -> PV -> PMem -> Prop) : Prop :=
 ∀ cx m vargs, PG E cx M m -> PRs cx args vargs -> ∃ v m1 cx1 x M1, CanT E P (.call f vargs) m v m1 /\ PG E cx1 M1 m1 /\ Ext none cx cx1 /\ PR cx1 x v /\ Q cx.nk x M1
theorem PT.l {f : Nat} {args : List PV} {Q : PV -> PMem -> Prop} {lo : Nat} (h : PT E P f args M Q) : PTl E P lo f args M Q := fun cx m vargs _ hg ha => h cx m vargs hg ha
theorem PTl.mono {f : Nat} {args : List PV} {Q Q' : PV -> PMem -> Prop} {lo : Nat} (h : PTl E P lo f args M Q) (hq : ∀ x M1, Q x M1 -> Q' x M1) : PTl E P lo f args M Q' := fun cx m vargs hl hg ha => by
 obtain ⟨v, m1, cx1, x, M1, h1, h2, h3, h4, h5⟩ := h cx m vargs hl hg ha
 exact ⟨v, m1, cx1, x, M1, h1, h2, h3, h4, hq _ _ h5⟩
theorem PTk.mono {f : Nat} {args : List PV} {Q Q' : Nat -> PV -> PMem -> Prop} (h : PTk E P f args M Q) (hq : ∀ nk x M1, Q nk x M1 -> Q' nk x M1) : PTk E P f args M Q' := fun cx m vargs hg ha => by
 obtain ⟨v, m1, cx1, x, M1, h1, h2, h3, h4, h5⟩ := h cx m vargs hg ha
 exact ⟨v, m1, cx1, x, M1, h1, h2, h3, h4, hq _ _ _ h5⟩
def PRd (E : Env) (P : Program) (k i : Nat) (args : List PV) (M : PMem) (Q : PV -> PMem -> Prop) : Prop :=
 ∀ cx m l vargs, PG E cx M m -> cx.at_ k i = some l -> PRs cx args vargs -> ∃ v m1 cx1 x M1, CanT E P (.round l vargs) m v m1 /\ PG E cx1 M1 m1 /\ Ext none cx cx1 /\ PR cx1 x v /\ Q x M1
def PO (E : Env) (P : Program) (ops l : List Oper) (s : PSt) (Q : PSt -> Prop) : Prop :=
 opsOk E.ng l = true -> ∀ cx sA, PS E cx s sA -> ∃ sA1 cx1 s1, CanO E P ops l sA sA1 /\ PS E cx1 s1 sA1 /\ Ext (some s.k) cx cx1 /\ s1.k = s.k /\ s1.nt = s.nt /\ Q s1
def rdOf (cx : Cx) : Option (Nat × Nat) -> Option Nat
 | none => none
 | some (k, i) => cx.at_ k i
def rdOk (cx : Cx) : Option (Nat × Nat) -> Prop
 | none => True
 | some (k, i) => cx.at_ k i ≠ none
theorem rdOf_mono {rd : Option (Nat × Nat)} (h : CxLe cx cx') (hr : rdOk cx rd) : rdOf cx' rd = rdOf cx rd /\ rdOk cx' rd := by
 cases rd with
 | none => exact ⟨rfl, trivial⟩
 | some p =>
  obtain ⟨k, i⟩ := p
  simp only [rdOk, rdOf] at *
  cases e : cx.at_ k i with
  | none => exact absurd e hr
  | some r => rw [h.at_ _ _ _ e]; exact ⟨rfl, by simp⟩
def PX (E : Env) (P : Program) (rd : Option (Nat × Nat)) (c : Code) (s : PSt) (Q : AExit -> PSt -> Prop) : Prop :=
 codeOk E.ng c = true -> ∀ cx sA, PS E cx s sA -> rdOk cx rd -> ∃ e sA1 cx1 s1, CanX E P (rdOf cx rd) c sA e sA1 /\ PS E cx1 s1 sA1 /\ Ext (some s.k) cx cx1 /\ s1.k = s.k /\ s1.nt = s.nt /\ Q e s1
def PXL (E : Env) (P : Program) (rd : Option (Nat × Nat)) (b : Code) (s : PSt) (Q : AExit -> PSt -> Prop) : Prop :=
 codeOk E.ng b = true -> ∀ cx sA, PS E cx s sA -> rdOk cx rd -> ∃ n e sA1 cx1 s1, CanL E P (rdOf cx rd) b n sA e sA1 /\ PS E cx1 s1 sA1 /\ Ext (some s.k) cx cx1 /\ s1.k = s.k /\ s1.nt = s.nt /\ Q e s1
def PXS (E : Env) (P : Program) (rd : Option (Nat × Nat)) (b c : Code) (s : PSt) (Q : AExit -> PSt -> Prop) : Prop :=
 codeOk E.ng b = true -> codeOk E.ng c = true -> ∀ cx sA, PS E cx s sA -> rdOk cx rd -> ∃ n e sA1 cx1 s1, CanS E P (rdOf cx rd) b n c sA e sA1 /\ PS E cx1 s1 sA1 /\ Ext (some s.k) cx cx1 /\ s1.k = s.k /\ s1.nt = s.nt /\ Q e s1
variable {rd : Option (Nat × Nat)} {Q Q' : AExit -> PSt -> Prop} {a b c : Code}
theorem PX.conseq (h : PX E P rd c s Q') (hq : ∀ e s1, s1.k = s.k -> s1.nt = s.nt -> Q' e s1 -> ∃ s2, SLe s1 s2 /\ Q e s2) : PX E P rd c s Q := fun hc cx sA hs hr => by
 obtain ⟨e, sA1, cx1, s1, h1, h2, h3, h4, h5, h6⟩ := h hc cx sA hs hr
 obtain ⟨s2, k1, k2⟩ := hq e s1 h4 h5 h6
 exact ⟨e, sA1, cx1, s2, h1, h2.weak k1, h3, k1.k.trans h4, k1.nt.trans h5, k2⟩
theorem PX.mono (h : PX E P rd c s Q') (hq : ∀ e s1, Q' e s1 -> Q e s1) : PX E P rd c s Q := h.conseq fun e s1 _ _ k => ⟨s1, SLe.refl _, hq e s1 k⟩
theorem PX.weak (hs : SLe s s') (h : PX E P rd c s' Q) : PX E P rd c s Q := fun hc cx sA hp hr => by
 obtain ⟨e, sA1, cx1, s1, h1, h2, h3, h4, h5, h6⟩ := h hc cx sA (hp.weak hs) hr
 exact ⟨e, sA1, cx1, s1, h1, h2, by rw [<- hs.k]; exact h3, h4.trans hs.k, h5.trans hs.nt, h6⟩
theorem PXL.weak (hs : SLe s s') (h : PXL E P rd c s' Q) : PXL E P rd c s Q := fun hc cx sA hp hr => by
 obtain ⟨n, e, sA1, cx1, s1, h1, h2, h3, h4, h5, h6⟩ := h hc cx sA (hp.weak hs) hr
 exact ⟨n, e, sA1, cx1, s1, h1, h2, by rw [<- hs.k]; exact h3, h4.trans hs.k, h5.trans hs.nt, h6⟩
theorem PO.weak {ops l : List Oper} {R : PSt -> Prop} (hs : SLe s s') (h : PO E P ops l s' R) : PO E P ops l s R := fun hc cx sA hp => by
 obtain ⟨sA1, cx1, s1, h1, h2, h3, h4, h5, h6⟩ := h hc cx sA (hp.weak hs)
 exact ⟨sA1, cx1, s1, h1, h2, by rw [<- hs.k]; exact h3, h4.trans hs.k, h5.trans hs.nt, h6⟩
theorem PX.pure {e : AExit} (h : ∀ rA sA, CanX E P rA c sA e sA) (q : Q e s) : PX E P rd c s Q := fun _ cx sA hs _ => ⟨e, sA, cx, s, h _ _, hs, Ext.refl _ _, rfl, rfl, q⟩
theorem PX.skip (q : Q .normal s) : PX E P rd .skip s Q := .pure (fun _ _ => .skip) q
theorem PX.label {l : Nat} (q : Q .normal s) : PX E P rd (.label l) s Q := .pure (fun _ _ => .label) q
theorem PX.exit {i : Nat} (q : Q (.exit i) s) : PX E P rd (.exit i) s Q := .pure (fun _ _ => .exit) q
theorem PX.goto {i : Nat} (q : Q (.goto i) s) : PX E P rd (.goto i) s Q := .pure (fun _ _ => .goto) q
theorem PX.ret (q : Q .ret s) : PX E P rd .ret s Q := .pure (fun _ _ => .ret) q
def thenX (E : Env) (P : Program) (rd : Option (Nat × Nat)) (b : Code) (Q : AExit -> PSt -> Prop) : AExit -> PSt -> Prop
 | .normal, s => PX E P rd b s Q
 | e, s => Q e s
theorem PX.seq (h : PX E P rd a s (thenX E P rd b Q)) : PX E P rd (.seq a b) s Q := fun hc cx sA hs hr => by
 simp only [codeOk, Bool.and_eq_true] at hc
 obtain ⟨e, sA1, cx1, s1, h1, h2, h3, h4, h5, h6⟩ := h hc.1 cx sA hs hr
 obtain ⟨g1, g2⟩ := rdOf_mono h3.le hr
 have out : e ≠ .normal -> Q e s1 -> ∃ e sA1 cx1 s1, CanX E P (rdOf cx rd) (.seq a b) sA e sA1 /\ PS E cx1 s1 sA1 /\ Ext (some s.k) cx cx1 /\ s1.k = s.k /\ s1.nt = s.nt /\ Q e s1 :=
  fun he q => ⟨e, sA1, cx1, s1, h1.seq_out he, h2, h3, h4, h5, q⟩
 cases e with
 | normal =>
  obtain ⟨e2, sA2, cx2, s2, k1, k2, k3, k4, k5, k6⟩ := h6 hc.2 cx1 sA1 h2 g2
  rw [g1] at k1
  rw [h4] at k3
  exact ⟨e2, sA2, cx2, s2, h1.seq k1, k2, h3.trans k3, k4.trans h4, k5.trans h5, k6⟩
 | exit i => exact out (by simp) h6
 | goto i => exact out (by simp) h6
 | ret => exact out (by simp) h6
theorem PX.cond {x : Operand} {v : Bool} (hv : pev s.tm x = .v (.bool v)) (h1 : v = true -> PX E P rd a s Q) (h2 : v = false -> PX E P rd b s Q) : PX E P rd (.cond x a b) s Q := fun hc cx sA hs hr => by
 simp only [codeOk, Bool.and_eq_true] at hc
 have hx := hs.ev hc.1
 rw [hv] at hx
 obtain ⟨e0, _⟩ := hx.flat_eq
 cases v with
 | true =>
  obtain ⟨e, sA1, cx1, s1, k1, k⟩ := h1 rfl hc.2.1 cx sA hs hr
  exact ⟨e, sA1, cx1, s1, CanX.cond hc.1 e0 (by simpa using k1), k⟩
 | false =>
  obtain ⟨e, sA1, cx1, s1, k1, k⟩ := h2 rfl hc.2.2 cx sA hs hr
  exact ⟨e, sA1, cx1, s1, CanX.cond hc.1 e0 (by simpa using k1), k⟩
theorem PX.block {id : Nat} (h : PX E P rd a s (fun e s1 => Q (inBlk id e) s1)) : PX E P rd (.block id a) s Q := fun hc cx sA hs hr => by
 obtain ⟨e, sA1, cx1, s1, k1, k⟩ := h hc cx sA hs hr
 exact ⟨_, sA1, cx1, s1, k1.block, k⟩
theorem PX.loop (h : PXL E P rd a s Q) : PX E P rd (.loop a) s Q := fun hc cx sA hs hr => by
 obtain ⟨n, e, sA1, cx1, s1, k1, k⟩ := h hc cx sA hs hr
 exact ⟨e, sA1, cx1, s1, k1.loop, k⟩
def thenL (E : Env) (P : Program) (rd : Option (Nat × Nat)) (b : Code) (Q : AExit -> PSt -> Prop) : AExit -> PSt -> Prop
 | .normal, s => PXL E P rd b s Q
 | e, s => Q e s
theorem PXL.round (h : PX E P rd b s (thenL E P rd b Q)) : PXL E P rd b s Q := fun hc cx sA hs hr => by
 obtain ⟨e, sA1, cx1, s1, h1, h2, h3, h4, h5, h6⟩ := h hc cx sA hs hr
 obtain ⟨g1, g2⟩ := rdOf_mono h3.le hr
 have out : e ≠ .normal -> Q e s1 -> ∃ n e sA1 cx1 s1, CanL E P (rdOf cx rd) b n sA e sA1 /\ PS E cx1 s1 sA1 /\ Ext (some s.k) cx cx1 /\ s1.k = s.k /\ s1.nt = s.nt /\ Q e s1 :=
  fun he q => ⟨1, e, sA1, cx1, s1, CanL.out h1 he, h2, h3, h4, h5, q⟩
 cases e with
 | normal =>
  obtain ⟨n, e2, sA2, cx2, s2, k1, k2, k3, k4, k5, k6⟩ := h6 hc cx1 sA1 h2 g2
  rw [g1] at k1
  rw [h4] at k3
  exact ⟨n + 1, e2, sA2, cx2, s2, CanL.on h1 k1, k2, h3.trans k3, k4.trans h4, k5.trans h5, k6⟩
 | exit i => exact out (by simp) h6
 | goto i => exact out (by simp) h6
 | ret => exact out (by simp) h6
def thenS (E : Env) (P : Program) (rd : Option (Nat × Nat)) (b : Code) (Q : AExit -> PSt -> Prop) : AExit -> PSt -> Prop
 | .goto l, s => match findLabel b l with
  | some rest => PXS E P rd b rest s Q
  | none => Q (.goto l) s
 | e, s => Q e s
theorem PXS.run (h : PX E P rd c s (thenS E P rd b Q)) : PXS E P rd b c s Q := fun hb hc cx sA hs hr => by
 obtain ⟨e, sA1, cx1, s1, h1, h2, h3, h4, h5, h6⟩ := h hc cx sA hs hr
 obtain ⟨g1, g2⟩ := rdOf_mono h3.le hr
 have out : (∀ l rest, e = .goto l -> findLabel b l = some rest -> False) -> Q e s1 -> ∃ n e sA1 cx1 s1, CanS E P (rdOf cx rd) b n c sA e sA1 /\ PS E cx1 s1 sA1 /\ Ext (some s.k) cx cx1 /\ s1.k = s.k /\ s1.nt = s.nt /\ Q e s1 :=
  fun he q => ⟨1, e, sA1, cx1, s1, CanS.out h1 he, h2, h3, h4, h5, q⟩
 cases e with
 | normal => exact out (fun _ _ e => by cases e) h6
 | exit i => exact out (fun _ _ e => by cases e) h6
 | ret => exact out (fun _ _ e => by cases e) h6
 | goto l =>
  simp only [thenS] at h6
  cases hf : findLabel b l with
  | none => rw [hf] at h6; exact out (fun l' rest e he => by cases e; rw [hf] at he; cases he) h6
  | some rest =>
   rw [hf] at h6
   obtain ⟨n, e2, sA2, cx2, s2, k1, k2, k3, k4, k5, k6⟩ := h6 hb (findLabel_ok hb hf) cx1 sA1 h2 g2
   rw [g1] at k1
   rw [h4] at k3
   exact ⟨n + 1, e2, sA2, cx2, s2, CanS.on h1 hf k1, k2, h3.trans k3, k4.trans h4, k5.trans h5, k6⟩
theorem PX.scope (h : PXS E P rd a a s Q) : PX E P rd (.scope a) s Q := fun hc cx sA hs hr => by
 obtain ⟨n, e, sA1, cx1, s1, k1, k⟩ := h hc hc cx sA hs hr
 exact ⟨e, sA1, cx1, s1, k1.scope, k⟩
variable {ops l : List Oper} {o : Oper} {R : PSt -> Prop}
theorem PO.nil (q : R s) : PO E P ops [] s R := fun _ cx sA hs => ⟨sA, cx, s, rfl, hs, Ext.refl _ _, rfl, rfl, q⟩
theorem PO.step (hE : EnvOk E P) (h : pstep E ops o s = some s1) (k : PO E P ops l s1 R) : PO E P ops (o :: l) s R := fun hc cx sA hs => by
 simp only [opsOk, Bool.and_eq_true] at hc
 obtain ⟨sA1, cx1, h1, h2, h3, h4, h5⟩ := pstep_sim hE hs hc.1 h
 obtain ⟨sA2, cx2, s2, k1, k2, k3, k4, k5, k6⟩ := k hc.2 cx1 sA1 h2
 rw [h4] at k3
 exact ⟨sA2, cx2, s2, ⟨_, sA1, noK_ok, noK_keep, h1 _, k1⟩, k2, h3.trans k3, k4.trans h4, k5.trans h5, k6⟩
def buildR (s : PSt) (sz len : Nat) (z : List PV) (parts : List (Nat × PV)) : Option (PV × PSt) :=
 (pfill (fun i => some (i * sz, sz)) z parts).map fun cs => (.sl s.k s.os.length 0 len (2 * len), { s with os := s.os ++ [.row .rw sz cs] })
def pbuildSliceR (E : Env) (s : PSt) (t len : Nat) (parts : List (Nat × PV)) : Option (PV × PSt) :=
 match E.ty t with
 | some y => match y.desc with
  | .slice e => match E.ty e, pzero E e with
   | some ye, some z => if len * ye.size <= 16777216 /\ z.length = ye.size then buildR s ye.size len (List.replicate len z).flatten parts else none
   | _, _ => none
  | _ => none
 | none => none
def popR (E : Env) (s : PSt) (o : Op) : Option (PV × PSt) :=
 match o with
 | .buildSlice t len parts => pbuildSliceR E s t len (parts.toList.map fun p => (p.1, pev s.tm p.2))
 | .call c => match c.callee with
  | .builtin .append => match c.argTypes.toList, c.args.toList with
   | t :: r, x :: y :: _ => pappendR E s t r.head? (pev s.tm x) (pev s.tm y)
   | _, _ => none
  | _ => none
 | _ => none
def pstepR (E : Env) (ops : List Oper) (o : Oper) (s : PSt) : Option PSt :=
 match pwanted ops s.tm o with
 | some true => match popR E s o.op with
  | some (x, s1) => pput s1 o.dst x
  | none => none
 | some false => pput s o.dst (.tup [])
 | none => none
theorem popR_sim (hE : EnvOk E P) (h : PS E cx s sA) {o : Oper} (ho : opOk E.ng o.op = true) {x : PV} (hp : popR E s o.op = some (x, s')) : ∃ v m', aop E (ev sA.tm) sA.m o = some (.val v m') /\ After E cx s sA x s' v m' := by
 unfold popR at hp
 split at hp
 ·rename_i t len parts hop
  unfold pbuildSliceR at hp
  split at hp
  ·rename_i ty hty
   split at hp
   ·rename_i e hd
    split at hp
    ·rename_i ye z hye hz
     obtain ⟨vs, hvs, hr⟩ := pzero_sim hE hz (cx := cx)
     split at hp
     ·rename_i hc
      unfold buildR at hp
      simp only [Option.map_eq_some_iff] at hp
      obtain ⟨out, hf, e0⟩ := hp
      cases e0
      have hlen := hr.length
      obtain ⟨us, e3, hu⟩ := pfill_sim (qs := parts.toList.map fun p => (p.1, ev sA.tm p.2)) (by simp) (by
       rw [hop] at ho
       simp only [opOk] at ho
       have := PRs.operands h ho
       simpa [Function.comp_def] using this) (repeat_sim hr len) hf
      rw [aop_def, hop]
      simp only [buildSliceV, hty, hd, hye, hvs, bleT hc.1, natBeqT (show vs.length = ye.size by omega), Bool.and_self, cond_true, e3, Option.map_some]
      exact ⟨_, _, rfl, after_new h (fun _ _ e => by cases e) (fun e => by cases e) (new_row_OG h.pg (h.cur s.os.length (Nat.le_refl _)).1 hu) (.sl (by simp [Cx.bind]))⟩
     ·cases hp
    ·cases hp
   ·cases hp
  ·cases hp
 ·rename_i c hop
  split at hp
  ·rename_i hc
   split at hp
   ·rename_i t r a b rest h1 h2
    have ho' := ho
    rw [hop] at ho'
    simp only [opOk, Bool.and_eq_true] at ho'
    have hargs := ho'.1
    rw [h2] at hargs
    simp only [opndsOk, Bool.and_eq_true] at hargs
    obtain ⟨v, m', h3, h4⟩ := pappendR_sim hE h (h.ev hargs.1) (h.ev hargs.2.1) hp
    refine ⟨v, m', ?_, h4⟩
    rw [aop_def, hop]
    simp only [hc, h1, h2, List.map_cons, builtinV, h3, Option.map_some]
   ·cases hp
  ·cases hp
 ·cases hp
theorem pstepR_sim (hE : EnvOk E P) (h : PS E cx s sA) {ops : List Oper} {o : Oper} (ho : opOk E.ng o.op = true) (hp : pstepR E ops o s = some s1) :
  ∃ sA1 cx1, (∀ K, stepOp E K ops o sA = some sA1) /\ PS E cx1 s1 sA1 /\ Ext (some s.k) cx cx1 /\ s1.k = s.k /\ s1.nt = s.nt := by
 unfold pstepR at hp
 simp only [stepOp_def]
 split at hp
 ·rename_i hw
  simp only [pwanted_sim h hw]
  split at hp
  ·rename_i x s2 hx
   obtain ⟨v, m', h1, ⟨cx1, hr, hext, hps⟩, e1, e2, e3⟩ := popR_sim hE h ho hx
   obtain ⟨tm1, q1, q2, q3, q4⟩ := pput_sim hps hr hp
   have hd : ∀ K, doOp E K o sA.tm sA.m = some (v, m') := fun K => by unfold doOp; rw [h1]
   have q1' : putT sA.tm sA.nt o.dst v = some tm1 := q1
   simp only [hd, q1']
   exact ⟨_, cx1, fun _ => rfl, q2, hext, q3.trans e3, q4.trans e2⟩
  ·cases hp
 ·rename_i hw
  obtain ⟨tm1, q1, q2, q3, q4⟩ := pput_sim h (PR.und (cx := cx)) hp
  simp only [pwanted_sim h hw, q1]
  exact ⟨_, cx, fun _ => rfl, q2, Ext.refl _ _, q3, q4⟩
 ·cases hp
theorem PO.stepR (hE : EnvOk E P) (h : pstepR E ops o s = some s1) (k : PO E P ops l s1 R) : PO E P ops (o :: l) s R := fun hc cx sA hs => by
 simp only [opsOk, Bool.and_eq_true] at hc
 obtain ⟨sA1, cx1, h1, h2, h3, h4, h5⟩ := pstepR_sim hE hs hc.1 h
 obtain ⟨sA2, cx2, s2, k1, k2, k3, k4, k5, k6⟩ := k hc.2 cx1 sA1 h2
 rw [h4] at k3
 exact ⟨sA2, cx2, s2, ⟨_, sA1, noK_ok, noK_keep, h1 _, k1⟩, k2, h3.trans k3, k4.trans h4, k5.trans h5, k6⟩
theorem PX.region (hE : EnvOk E P) {id : Nat} {ops : Array Oper} (h : PO E P ops.toList ops.toList s (Q .normal)) : PX E P rd (.region id ops false) s Q := fun hc cx sA hs hr => by
 obtain ⟨sA1, cx1, s1, h1, h2⟩ := h hc cx sA hs
 exact ⟨.normal, sA1, cx1, s1, CanO.region hE hc h1, h2⟩
def took (s : PSt) (dst : Option Nat) (x : PV) (M1 : PMem) (K : PSt -> Prop) : Prop :=
 ∃ os1 M2 s2, os1.length = s.os.length /\ MLe M1 (seg M2 s.k os1) /\ pput { s with os := os1, M := M2 } dst x = some s2 /\ K s2
theorem took_sim {dst : Option Nat} {x : PV} {v : Value} {M1 : PMem} {K : PSt -> Prop} {m1 : Mem} {cx1 : Cx} (hs : PS E cx s sA) (hbar : m1.bar = sA.m.bar) (hg : PG E cx1 M1 m1) (hext : Ext none cx cx1) (hx : PR cx1 x v) (h : took s dst x M1 K) :
  ∃ s2 tm1, putT sA.tm sA.nt dst v = some tm1 /\ PS E cx1 s2 { sA with tm := tm1, m := m1 } /\ s2.k = s.k /\ s2.nt = s.nt /\ K s2 := by
 obtain ⟨os1, M2, s2, h1, h2, h3, h4⟩ := h
 have hps : PS E cx1 { s with os := os1, M := M2 } { sA with m := m1 } := by
  refine ⟨fun i => (hs.tm i).mono hext.le, hs.nt, hg.weak h2, fun i hi => ?_, Nat.lt_of_lt_of_le hs.low hext.le.nk, hs.pos, ⟨hs.df.1, fun r hr => ⟨hext.le.mks _ (hs.df.2 r hr).1, by rw [hbar]; exact (hs.df.2 r hr).2⟩⟩⟩
  have hi' : s.os.length <= i := by rw [<- h1]; exact hi
  have hc := hs.cur i hi'
  have hn := hext.names s.k i hs.low (by simp)
  exact ⟨hn.1 hc.1, hn.2 hc.2⟩
 obtain ⟨tm1, q1, q2, q3, q4⟩ := pput_sim hps hx h3
 exact ⟨s2, tm1, q1, q2, q3, q4, h4⟩
theorem one_K {t : Task} {m m1 : Mem} {v : Value} (h : CanT E P t m v m1) : ∃ K, KOk E P K /\ KKeep K /\ K t m = some (v, m1) :=
 ⟨manyK [⟨t, m, v, m1⟩], manyK_ok (fun y hy => by rw [List.mem_singleton.1 hy]; exact h), manyK_keep (E := E) (P := P) (fun y hy => by rw [List.mem_singleton.1 hy]; exact h), by simp [manyK]⟩
theorem PO.call {cl : Call} {f : Operand} {g : Nat} {first captured : List PV} (hw : pwanted ops s.tm o = some true) (hop : o.op = .call cl) (hcl : cl.callee = .value f) (hf : pev s.tm f = .fn g first captured)
  (h : PTl E P (s.k + 1) g (first ++ (cl.args.toList.map (pev s.tm) ++ captured)) s.mem (fun x M1 => took s o.dst x M1 fun s2 => PO E P ops l s2 R)) : PO E P ops (o :: l) s R := fun hc cx sA hs => by
 simp only [opsOk, Bool.and_eq_true] at hc
 have ho := hc.1
 rw [hop] at ho
 simp only [opOk, hcl, Bool.and_eq_true] at ho
 have hfv := hs.ev ho.2
 rw [hf] at hfv
 have hargs := PRs.operands hs ho.1
 generalize hvf : Am.ev sA.tm f = vf at hfv
 cases hfv with
 | fn h1 h2 =>
  obtain ⟨v, m1, cx1, x, M1, k1, k2, k3, k4, k5⟩ := h cx sA.m _ hs.low hs.pg (h1.append (hargs.append h2))
  obtain ⟨s2, tm1, q1, q2, q3, q4, q5⟩ := took_sim hs (k1.keep hs.pg.wf).bar k2 k3 k4 k5
  obtain ⟨sA2, cx2, s3, z1, z2, z3, z4, z5, z6⟩ := q5 hc.2 cx1 _ q2
  obtain ⟨K, hK, hKk, hKe⟩ := one_K k1
  refine ⟨sA2, cx2, s3, ⟨K, { sA with tm := tm1, m := m1 }, hK, hKk, ?_, z1⟩, z2, k3.weak.trans (by rw [<- q3]; exact z3), z4.trans q3, z5.trans q4, z6⟩
  rw [stepOp_def, pwanted_sim hs hw]
  have hd : doOp E K o sA.tm sA.m = some (v, m1) := by
   unfold doOp
   rw [aop_def, hop]
   simp only [hcl, hvf]
   exact hKe
  simp only [hd, q1]
theorem PO.yield {cl : Call} {f : Operand} {k i : Nat} (hw : pwanted ops s.tm o = some true) (hop : o.op = .call cl) (hcl : cl.callee = .value f) (hf : pev s.tm f = .yld k i)
  (h : PRd E P k i (cl.args.toList.map (pev s.tm)) s.mem (fun x M1 => took s o.dst x M1 fun s2 => PO E P ops l s2 R)) : PO E P ops (o :: l) s R := fun hc cx sA hs => by
 simp only [opsOk, Bool.and_eq_true] at hc
 have ho := hc.1
 rw [hop] at ho
 simp only [opOk, hcl, Bool.and_eq_true] at ho
 have hfv := hs.ev ho.2
 rw [hf] at hfv
 have hargs := PRs.operands hs ho.1
 generalize hvf : Am.ev sA.tm f = vf at hfv
 cases hfv with
 | yld e =>
  obtain ⟨v, m1, cx1, x, M1, k1, k2, k3, k4, k5⟩ := h cx sA.m _ _ hs.pg e hargs
  obtain ⟨s2, tm1, q1, q2, q3, q4, q5⟩ := took_sim hs (k1.keep hs.pg.wf).bar k2 k3 k4 k5
  obtain ⟨sA2, cx2, s3, z1, z2, z3, z4, z5, z6⟩ := q5 hc.2 cx1 _ q2
  obtain ⟨K, hK, hKk, hKe⟩ := one_K k1
  refine ⟨sA2, cx2, s3, ⟨K, { sA with tm := tm1, m := m1 }, hK, hKk, ?_, z1⟩, z2, k3.weak.trans (by rw [<- q3]; exact z3), z4.trans q3, z5.trans q4, z6⟩
  rw [stepOp_def, pwanted_sim hs hw]
  have hd : doOp E K o sA.tm sA.m = some (v, m1) := by
   unfold doOp
   rw [aop_def, hop]
   simp only [hcl, hvf, List.nil_append]
   exact hKe
  simp only [hd, q1]
end
end Go.Pm
end
noncomputable section
namespace Go.Pm
open Go.RowKit Go.Am
section
variable {E : Env} {P : Program} {cx cx' : Cx} {s s' s1 s2 : PSt} {sA sA1 : St} {m m' : Mem} {M M' : PMem} {rd : Option (Nat × Nat)} {Q Q' : AExit -> PSt -> Prop} {a b c : Code}
def fresh (M : PMem) (k : Nat) : Prop := ∀ i, M k i = none
theorem PG.bare (h : PG E cx M m) {k : Nat} (hk : cx.nk <= k) : fresh M k := fun i => by
 cases e : M k i with
 | none => rfl
 | some o =>
  have ho := h.obj k i o e
  have hn := h.keys k i hk
  cases o with
  | row w es cs => obtain ⟨r, _, _, _, e1, _⟩ := ho; rw [hn.1] at e1; cases e1
  | str w st pos => obtain ⟨r, e1, _⟩ := ho; rw [hn.1] at e1; cases e1
  | loop w st pend tm nt ps asg body => obtain ⟨r, _, _, e1, _⟩ := ho; rw [hn.1] at e1; cases e1
  | grow n es => obtain ⟨r, e1, _⟩ := ho; rw [hn.2] at e1; cases e1
  | gone => exact absurd ho (Nat.not_lt.2 hk)
def Cx.key (cx : Cx) : Cx := { cx with nk := cx.nk + 1 }
theorem CxLe.key (cx : Cx) : CxLe cx cx.key := ⟨fun _ _ _ e => e, fun _ _ e => e, fun _ e => e, fun _ e => e, fun _ _ r n es e => ⟨r, n, es, e, .inl ⟨rfl, rfl, rfl⟩⟩, Nat.le_succ _⟩
theorem PG.key (h : PG E cx M m) : PG E cx.key M m where
 obj := fun k i o e => (h.obj k i o e).move (CxLe.key cx) (fun p hp => ⟨hp, .inl rfl⟩) rfl (fun _ _ => rfl) (fun _ => rfl) (fun _ _ _ _ _ => rfl)
 at_ := h.at_
 nd := h.nd
 im := h.im
 mks := h.mks
 dd := h.dd
 keys := fun k i e => h.keys k i (by have : cx.nk + 1 <= k := e; omega)
 tkin := h.tkin
 glob := h.glob
 wf := h.wf
 pos := Nat.lt_succ_of_lt h.pos
theorem seg_nil (M : PMem) (k : Nat) (h : fresh M k) : seg M k [] = M := by
 funext k' i
 unfold seg
 split
 ·rename_i e; subst e; simp [h i]
 ·rfl
theorem Ext.key {c : Option Nat} (cx : Cx) : Ext c cx cx.key := ⟨CxLe.key cx, fun _ _ _ _ => ⟨fun e => e, fun e => e⟩⟩
theorem PX.push (h : ∀ k', k' ≠ s.k -> 0 < k' -> fresh s.M k' -> PX E P rd c { s with k := k', os := [], M := s.mem } (fun e s1 => ∃ os1 M1, os1.length = s.os.length /\ MLe s1.mem (seg M1 s.k os1) /\ Q e { s1 with k := s.k, os := os1, M := M1 })) : PX E P rd c s Q :=
 fun hc cx sA hs hr => by
 have hfr := hs.pg.bare (Nat.le_refl cx.nk)
 have hne : cx.nk ≠ s.k := fun e => by have := hs.low; omega
 have hM : fresh s.M cx.nk := fun i => by
  have := hfr i
  unfold PSt.mem seg at this
  rw [if_neg hne] at this
  exact this
 have hps : PS E cx.key { s with k := cx.nk, os := [], M := s.mem } sA := by
  refine ⟨fun i => (hs.tm i).mono (CxLe.key cx), hs.nt, ?_, fun i _ => hs.pg.keys cx.nk i (Nat.le_refl _), Nat.lt_succ_self _, hs.pg.pos, ⟨hs.df.1, hs.df.2⟩⟩
  show PG E cx.key (seg s.mem cx.nk []) sA.m
  rw [seg_nil _ _ hfr]
  exact hs.pg.key
 obtain ⟨g1, g2⟩ := rdOf_mono (CxLe.key cx) hr
 obtain ⟨e, sA1, cx1, s1, h1, h2, h3, h4, h5, os1, M1, h6, h7, h8⟩ := h cx.nk hne hs.pg.pos hM hc cx.key sA hps g2
 rw [g1] at h1
 refine ⟨e, sA1, cx1, { s1 with k := s.k, os := os1, M := M1 }, h1, ⟨h2.tm, h2.nt, h2.pg.weak h7, fun i hi => ?_, ?_, hs.pos, h2.df⟩, ?_, rfl, h5, h8⟩
 ·have hi' : s.os.length <= i := by rw [<- h6]; exact hi
  have hcur := hs.cur i hi'
  have hlow := hs.low
  have hn := h3.names s.k i (by show s.k < cx.nk + 1; omega) (by simp; omega)
  exact ⟨hn.1 hcur.1, hn.2 hcur.2⟩
 ·have := h3.le.nk
  have hlow := hs.low
  show s.k < cx1.nk
  have : cx.nk + 1 <= cx1.nk := this
  omega
 ·refine ⟨(CxLe.key cx).trans h3.le, fun k i hk hkc => ?_⟩
  have hn := h3.names k i (by show k < cx.nk + 1; omega) (by simp; omega)
  exact hn
def argsP : Nat -> List PV -> List (Nat × PV)
 | _, [] => []
 | i, x :: r => (i, x) :: argsP (i + 1) r
theorem argsP_get : ∀ (l : List PV) (i j : Nat), tget (argsP i l) j = if i <= j /\ j < i + l.length then (l[j - i]?).getD .junk else .junk
 | [], i, j => by simp [argsP, tget]
 | x :: l, i, j => by
  simp only [argsP, tget_cons, argsP_get l (i + 1) j, List.length_cons]
  by_cases h : j = i
  ·subst h; rw [if_pos rfl, if_pos (by omega)]; simp
  ·rw [if_neg h]
   by_cases h2 : i + 1 <= j /\ j < i + 1 + l.length
   ·rw [if_pos h2, if_pos (by omega)]
    have : j - i = (j - (i + 1)) + 1 := by omega
    rw [this, List.getElem?_cons_succ]
   ·rw [if_neg h2, if_neg (by omega)]
def presult (E : Env) (s : PSt) : ResultVar -> Option PV
 | .tmp t => some (tget s.tm t)
 | .cell a t => pload E s t (tget s.tm a)
def presults (E : Env) (s : PSt) : List ResultVar -> Option (List PV)
 | [] => some []
 | r :: rs => match presult E s r, presults E s rs with
  | some v, some vs => some (v :: vs)
  | _, _ => none
def ppack : List PV -> PV
 | [v] => v
 | vs => .tup vs
theorem presults_sim (h : PS E cx s sA) {m1 : Mem} (hm : ∀ t a x ad, pload E s t a = some x -> PR cx a (.pointer (some ad)) -> ∃ v, loadV E m1 t ad = some v /\ PR cx x v) : ∀ {rs : List ResultVar} {xs : List PV}, presults E s rs = some xs →
  ∃ vs, resultsV E sA.tm m1 rs = some vs /\ PRs cx xs vs
 | [], xs, e => by cases e; exact ⟨[], rfl, .nil⟩
 | r :: rs, xs, e => by
  unfold presults at e
  split at e
  ·rename_i v vs h1 h2
   cases e
   obtain ⟨ws, k1, k2⟩ := presults_sim h hm h2
   cases r with
   | tmp t =>
    cases h1
    exact ⟨ev sA.tm (.tmp t) :: ws, by simp only [resultsV, resultV, k1], .cons (h.tm t) k2⟩
   | cell ad t =>
    have hp : pload E s t (tget s.tm ad) = some v := h1
    obtain ⟨ax, w, e1, _, _⟩ := pload_sim h.pg (h.tm ad) hp
    have ha := h.tm ad
    rw [e1] at ha
    obtain ⟨w2, e2, e3⟩ := hm t _ _ _ hp ha
    exact ⟨w2 :: ws, by simp only [resultsV, resultV, e1, e2, k1], .cons e3 k2⟩
  ·cases e
theorem ppack_sim {xs : List PV} {vs : List Value} (h : PRs cx xs vs) : PR cx (ppack xs) (packV vs) := by
 cases h with
 | nil => exact .tup (by simpa using PRs.nil)
 | cons h hs =>
  cases hs with
  | nil => exact h
  | cons h2 hs => exact .tup (by simpa using PRs.cons h (.cons h2 hs))
theorem marks_sim : ∀ {dA : List Nat} {m : Mem}, Wf m -> dA.Nodup -> (∀ r ∈ dA, m.get r = some .mark /\ m.bar <= r) →
  ∃ m1, takeMarks dA m = some m1 /\ m1.bar = m.bar /\ m1.size = m.size /\ m1.nb = m.nb /\ (∀ r, r ∉ dA -> m1.get r = m.get r) /\ Wf m1 := by
 intro dA
 induction dA with
 | nil => intro m hw _ _; exact ⟨m, rfl, rfl, rfl, rfl, fun _ _ => rfl, hw⟩
 | cons r dA ih =>
  intro m hw hnd hmk
  obtain ⟨h1, h2⟩ := hmk r List.mem_cons_self
  have hnb : m.nb <= r := Nat.le_trans hw.nb h2
  have hnd' := List.nodup_cons.1 hnd
  obtain ⟨m1, z1, z2, z3, z4, z5, z6⟩ := ih (m := m.upd r none) (hw.keep (Keep.upd hw h2 _)) hnd'.2 (fun r' hr' => by
   have hne : r' ≠ r := fun e => hnd'.1 (by rw [<- e]; exact hr')
   obtain ⟨a1, a2⟩ := hmk r' (List.mem_cons_of_mem _ hr')
   exact ⟨by rw [Mem.get_upd_ne hnb hne]; exact a1, by rw [Mem.upd_def]; exact a2⟩)
  refine ⟨m1, ?_, by rw [z2, Mem.upd_def], by rw [z3, Mem.upd_def], by rw [z4, Mem.upd_def], fun r' hr => ?_, z6⟩
  ·unfold takeMarks
   simp only [h1, bleT h2, cond_true]
   exact z1
  ·rw [z5 r' (fun h => hr (List.mem_cons_of_mem _ h)), Mem.get_upd_ne hnb (fun e => hr (by rw [e]; exact List.mem_cons_self))]
def Cx.unmark (cx : Cx) (l : List Nat) : Cx := { cx with role := fun r => if r ∈ l then .none else cx.role r }
def ends (E : Env) (x : Fun) (Q : PV -> PMem -> Prop) (e : AExit) (s1 : PSt) : Prop :=
 (e = .normal \/ e = .ret) /\ ∃ xs M1, presults E s1 x.results = some xs /\ MLe s1.mem M1 /\ Q (ppack xs) M1
theorem unmark_le {cx0 cx : Cx} {l : List Nat} (h : CxLe cx0 cx) (hm : ∀ r ∈ l, cx.role r = .mk) (h0 : ∀ r ∈ l, cx0.role r ≠ .mk) : CxLe cx0 (cx.unmark l) where
 at_ := h.at_
 im := fun r cells e => by
  have := h.im r cells e
  simp only [Cx.unmark]
  rw [if_neg]
  ·exact this
  ·intro hr; rw [hm r hr] at this; cases this
 mks := fun r e => by
  have := h.mks r e
  simp only [Cx.unmark]
  rw [if_neg]
  ·exact this
  ·intro hr; exact h0 r hr e
 dd := fun r e => by
  have := h.dd r e
  simp only [Cx.unmark]
  rw [if_neg]
  ·exact this
  ·intro hr; rw [hm r hr] at this; cases this
 tk := h.tk
 nk := h.nk
theorem PTk.enter (hE : EnvOk E P) {f : Nat} {x : Fun} {args : List PV} {R : Nat -> PV -> PMem -> Prop} (hf : E.fn f = some x) (hle : args.length <= x.ntmps)
  (h : ∀ k, 0 < k -> fresh M k -> PX E P none x.body ⟨argsP 0 args, x.ntmps, k, [], M⟩ (ends E x (R k))) : PTk E P f args M R := fun cx m vargs hg ha => by
 have hfr := hg.bare (Nat.le_refl cx.nk)
 have hco : codeOk E.ng x.body = true := by obtain ⟨F, _, _, _, _, _, h⟩ := hE.fn f x hf; exact h
 have hlen := ha.length
 have hps : PS E cx.key ⟨argsP 0 args, x.ntmps, cx.nk, [], M⟩ { tm := argsT 0 vargs .nil, nt := x.ntmps, df := [], m := m } := by
  refine ⟨fun i => ?_, rfl, ?_, fun i _ => hg.keys cx.nk i (Nat.le_refl _), Nat.lt_succ_self _, hg.pos, ⟨List.nodup_nil, fun r hr => by cases hr⟩⟩
  ·simp only [argsP_get, ev, argsT_at, Tr.at_nil]
   by_cases hi : 0 <= i /\ i < 0 + args.length
   ·rw [if_pos hi, if_pos (by omega)]
    have hx : args[i - 0]? = some args[i] := by simp
    obtain ⟨v, hv, hr⟩ := ha.get hx
    rw [hx, hv]
    exact hr.mono (CxLe.key cx)
   ·rw [if_neg hi, if_neg (by omega)]
    exact .junk _
  ·show PG E cx.key (seg M cx.nk []) m
   rw [seg_nil _ _ hfr]
   exact hg.key
 obtain ⟨e, sA1, cx1, s1, h1, h2, h3, h4, h5, h6⟩ := h cx.nk hg.pos hfr hco cx.key _ hps trivial
 obtain ⟨q1, xs, M1, q4, q5, q7⟩ := h6
 have hmks : ∀ r ∈ sA1.df, cx1.role r = .mk := fun r hr => (h2.df.2 r hr).1
 obtain ⟨m1, z1, z2, z3, z4, z5, z6⟩ := marks_sim h2.pg.wf h2.df.1 (fun r hr => ⟨(h2.pg.mks r (hmks r hr)).2, (h2.df.2 r hr).2⟩)
 have notMark : ∀ {r : Nat}, cx1.role r ≠ .mk -> m1.get r = sA1.m.get r := fun hr => z5 _ fun hm => hr (hmks _ hm)
 have notMark' : ∀ {r : Nat}, (∃ vs md es q, sA1.m.get r = some (.row vs md es q)) -> m1.get r = sA1.m.get r := fun ⟨vs, md, es, q, e1⟩ => notMark fun hm => by
  rw [(h2.pg.mks _ hm).2] at e1; cases e1
 obtain ⟨vs, k1, k2⟩ := presults_sim h2 (m1 := m1) (fun t ad y a hp ha' => by
  obtain ⟨a2, v, e1, e2, e3⟩ := pload_sim h2.pg ha' hp
  cases e1
  refine ⟨v, ?_, e3⟩
  unfold loadV at e2 ⊢
  cases hty : E.ty t with
  | none => rw [hty] at e2; cases e2
  | some ty =>
   rw [hty] at e2
   simp only at e2 ⊢
   have hcells : ∀ n cs, sA1.m.cells a n = some cs -> m1.cells a n = some cs := by
    intro n cs hc
    unfold Mem.cells at hc ⊢
    split at hc
    ·rename_i cs' md es q hg2
     rw [notMark' ⟨_, _, _, _, hg2⟩, hg2]; exact hc
    ·cases hc
   have hcell : ∀ v, sA1.m.cell a = some v -> m1.cell a = some v := by
    intro v hc
    unfold Mem.cell at hc ⊢
    split at hc
    ·rename_i cs' md es q hg2
     rw [notMark' ⟨_, _, _, _, hg2⟩, hg2]; exact hc
    ·cases hc
   cases hag : Am.isAgg ty.desc with
   | true =>
    rw [hag] at e2
    simp only [Option.map_eq_some_iff] at e2 ⊢
    obtain ⟨cs, c1, c2⟩ := e2
    exact ⟨cs, hcells _ _ c1, c2⟩
   | false =>
    rw [hag] at e2
    exact hcell _ e2) q4
 have hne0 : ∀ r ∈ sA1.df, m.size <= r := fun r hr => by
  rcases h1.df hg.wf r hr with h | h
  ·cases h
  ·exact h
 have hle2 : CxLe cx (cx1.unmark sA1.df) := unmark_le ((CxLe.key cx).trans h3.le) hmks fun r hr hm => by
  have h1 := (hg.mks r hm).1
  have h2 := hne0 r hr
  omega
 have hv : CxV cx1 (cx1.unmark sA1.df) := ⟨fun _ _ _ e => e, fun r cells e => by
  simp only [Cx.unmark]
  rw [if_neg (fun hr => by rw [hmks r hr] at e; cases e)]
  exact e, fun _ _ r n es e => ⟨r, n, es, e, .inl ⟨rfl, rfl, rfl⟩⟩⟩
 refine ⟨packV vs, m1, cx1.unmark sA1.df, ppack xs, M1, CanT.call hE hf (by omega) h1 q1 z1 k1, ?_, ⟨hle2, fun k i hk _ => ?_⟩, (ppack_sim k2).monoV hv, q7⟩
 ·have hw := h2.pg.weak q5
  have hob : ∀ k i r, cx1.at_ k i = some r -> m1.get r = sA1.m.get r := fun k i r e => notMark fun hm => by
   rcases (hw.at_ _ _ _ e).2 with h9 | h9 <;> (rw [h9] at hm; cases hm)
  have hdd : DD cx1 (cx1.unmark sA1.df) sA1.m m1 := fun p hp => ⟨by
   simp only [Cx.unmark]
   rw [if_neg (fun hr => by rw [hmks p hr] at hp; cases hp)]
   exact hp, .inl (notMark (fun hm => by rw [hp] at hm; cases hm))⟩
  refine ⟨fun k i o e => (hw.obj k i o e).moveV hv (Nat.le_refl _) hdd z2 (hob k i) (fun _ => rfl) (fun r n es e1 e2 => ?_), fun k i r e => ?_, fun k i o r hMo e => ?_, fun r cells e => ?_, fun r e => ?_, fun r e => ?_, hw.keys, hw.tkin, hw.glob, z6, hw.pos⟩
  ·subst e1
   obtain ⟨_, _, g1, _, _⟩ := hw.tk_im e e2
   exact notMark' ⟨_, _, _, _, g1⟩
  ·have h := hw.at_ k i r e
   rw [z3]
   simp only [Cx.unmark]
   rw [if_neg (fun hr => by rcases h.2 with h9 | h9 <;> (rw [hmks r hr] at h9; cases h9))]
   exact h
  ·have h := hw.at_ k i r e
   simp only [Cx.unmark]
   rw [if_neg (fun hr => by rcases h.2 with h9 | h9 <;> (rw [hmks r hr] at h9; cases h9))]
   exact hw.nd _ _ _ _ hMo e
  ·simp only [Cx.unmark] at e
   split at e
   ·cases e
   ·obtain ⟨h1, md, es, q, h2'⟩ := hw.im r cells e
    exact ⟨by rw [z3]; exact h1, md, es, q, by rw [notMark' ⟨_, _, _, _, h2'⟩]; exact h2'⟩
  ·simp only [Cx.unmark] at e
   split at e
   ·cases e
   ·rename_i hr
    obtain ⟨h1, h2'⟩ := hw.mks r e
    exact ⟨by rw [z3]; exact h1, by rw [z5 r hr]; exact h2'⟩
  ·simp only [Cx.unmark] at e
   split at e
   ·cases e
   ·rw [z3]; exact hw.dd r e
 ·have hn := h3.names k i (by show k < cx.nk + 1; omega) (by simp; omega)
  exact hn
theorem PT.enter (hE : EnvOk E P) {f : Nat} {x : Fun} {args : List PV} {R : PV -> PMem -> Prop} (hf : E.fn f = some x) (hle : args.length <= x.ntmps)
  (h : ∀ k, 0 < k -> fresh M k -> PX E P none x.body ⟨argsP 0 args, x.ntmps, k, [], M⟩ (ends E x R)) : PT E P f args M R := PTk.enter (R := fun _ => R) hE hf hle h
theorem PT.mono {f : Nat} {args : List PV} {R R' : PV -> PMem -> Prop} (h : PT E P f args M R) (hq : ∀ x M1, R x M1 -> R' x M1) : PT E P f args M R' := fun cx m vargs hg ha => by
 obtain ⟨v, m1, cx1, x, M1, h1, h2, h3, h4, h5⟩ := h cx m vargs hg ha
 exact ⟨v, m1, cx1, x, M1, h1, h2, h3, h4, hq x M1 h5⟩
theorem PT.monoL {f lo : Nat} {args : List PV} {R R' : PV -> PMem -> Prop} (h : PT E P f args M R) (hq : ∀ x M1, R x M1 -> R' x M1) : PTl E P lo f args M R' := (h.mono hq).l
theorem PT.conseq {f : Nat} {args : List PV} {R R' : PV -> PMem -> Prop} (h : PT E P f args M R) (hq : ∀ x M1, R x M1 -> ∃ y M2, PLe x y /\ MLe M1 M2 /\ R' y M2) : PT E P f args M R' := fun cx m vargs hg ha => by
 obtain ⟨v, m1, cx1, x, M1, h1, h2, h3, h4, h5⟩ := h cx m vargs hg ha
 obtain ⟨y, M2, k1, k2, k3⟩ := hq x M1 h5
 exact ⟨v, m1, cx1, y, M2, h1, h2.weak k2, h3, k1 _ _ h4, k3⟩
theorem PT.args {f : Nat} {args args' : List PV} {R : PV -> PMem -> Prop} (hl : PLes args args') (h : PT E P f args' M R) : PT E P f args M R := fun cx m vargs hg ha => h cx m vargs hg (hl.sim ha)
end
end Go.Pm
end
namespace Go.Pm
open Go.RowKit Go.Am
section
variable {E : Env} {P : Program} {cx cx' : Cx} {s s' s1 s2 : PSt} {sA sA1 : St} {m m' : Mem} {M M' : PMem} {rd : Option (Nat × Nat)} {Q Q' : AExit -> PSt -> Prop} {a b c : Code}
def Cx.addMk (cx : Cx) (r : Nat) : Cx := { cx with role := fun r' => if r' = r then .mk else cx.role r' }
theorem CxLe.addMk (h : PG E cx M m) : CxLe cx (cx.addMk m.size) where
 at_ := fun k' i' r e => e
 im := fun r cells e => by
  simp only [Cx.addMk]
  split
  ·rename_i hc; subst hc; have := (h.im _ _ e).1; omega
  ·exact e
 mks := fun r e => by
  simp only [Cx.addMk]
  split
  ·rfl
  ·exact e
 dd := fun r e => by
  have := h.dd _ e
  simp only [Cx.addMk]
  rw [if_neg (by omega)]
  exact e
 tk := fun _ _ r n es e => ⟨r, n, es, e, .inl ⟨rfl, rfl, rfl⟩⟩
 nk := Nat.le_refl _
theorem PG.newMk (h : PG E cx M m) : PG E (cx.addMk m.size) M (m.new .mark) where
 obj := fun k' i' o' e => by
  refine (h.obj k' i' o' e).move (CxLe.addMk h) (h.ddNew (CxLe.addMk h) _) (new_bar _ _) (fun r e1 => new_get h.nbs _ (h.get_lt e1)) (fun _ => rfl) (fun r n es e1 e2 => ?_)
  subst e1
  obtain ⟨_, _, _, h2, _⟩ := h.tk_im e e2
  exact new_get h.nbs _ (h.im _ _ h2).1
 at_ := fun k' i' r e => by
  have := h.at_ k' i' r e
  simp only [Cx.addMk]
  rw [new_size, if_neg (by omega)]
  exact ⟨by omega, this.2⟩
 nd := fun k' i' o' r hM e => by
  have := (h.at_ k' i' r e).1
  simp only [Cx.addMk]
  rw [if_neg (by omega)]
  exact h.nd _ _ _ _ hM e
 im := fun r cells e => by
  simp only [Cx.addMk] at e
  rw [new_size]
  split at e
  ·cases e
  ·obtain ⟨h1, md, es, q, h2⟩ := h.im _ _ e
   exact ⟨by omega, md, es, q, by rw [new_get h.nbs _ h1]; exact h2⟩
 mks := fun r e => by
  simp only [Cx.addMk] at e
  rw [new_size]
  split at e
  ·rename_i hc; subst hc; exact ⟨by omega, Mem.get_new_same h.nbs _⟩
  ·obtain ⟨h1, h2⟩ := h.mks _ e
   exact ⟨by omega, by rw [new_get h.nbs _ h1]; exact h2⟩
 dd := fun r e => by
  simp only [Cx.addMk] at e
  rw [new_size]
  split at e
  ·cases e
  ·have := h.dd _ e; omega
 keys := fun k' i' e => h.keys k' i' e
 tkin := h.tkin
 glob := h.glob
 wf := new_wf h.wf _
 pos := h.pos
theorem after_mark (h : PS E cx s sA) : PS E (cx.addMk sA.m.size) s { sA with m := sA.m.new .mark } := by
 have hle := CxLe.addMk h.pg
 exact ⟨fun i => (h.tm i).mono hle, h.nt, h.pg.newMk, h.cur, h.low, h.pos, ⟨h.df.1, fun r hr => ⟨hle.mks _ (h.df.2 r hr).1, by rw [new_bar]; exact (h.df.2 r hr).2⟩⟩⟩
theorem PX.rangeFunc (hE : EnvOk E P) {f : Operand} {ps : Array Tmp} {asg body : Code} {g : Nat} {x : Fun} {first captured : List PV} (hf : pev s.tm f = .fn g first captured) (hg : E.fn g = some x)
  (hrd : ∀ k i, rd = some (k, i) -> ∃ w st pend tm nt ps asg body, s.look k i = some (.loop w st pend tm nt ps asg body))
  (h : PT E P g (first ++ (.yld s.k s.os.length :: captured)) (seg s.M s.k (s.os ++ [.loop true .ready none s.tm s.nt ps.toList asg body])) (fun _ M1 => ∃ os1 M2 st pend tm' nt' ps' asg' body', os1.length = s.os.length + 1 /\ MLe M1 (seg M2 s.k os1) ∧
   os1[s.os.length]? = some (.loop true st pend tm' nt' ps' asg' body') /\ st ≠ .busy /\ ∃ e, pendExit pend = some e /\ Q e { s with os := os1.set s.os.length (.loop true .exhausted pend tm' nt' ps' asg' body'), M := M2 })) :
  PX E P rd (.rangeFunc f ps asg body) s Q := fun hc cx sA hs hr => by
 have hco := hc
 simp only [codeOk, Bool.and_eq_true] at hc
 have hfv := hs.ev hc.1
 rw [hf] at hfv
 generalize hvf : Am.ev sA.tm f = vf at hfv
 cases hfv with
 | @fn _ _ _ fa ca h1 h2 =>
  -- the record is laid
  have lay : ∀ (cxa : Cx) (ma : Mem) (marks : List Nat) (D : Nat), PS E cxa s { sA with m := ma } -> CxLe cx cxa -> (∀ k i, cx.at_ k i = cxa.at_ k i) -> (∀ k i, cx.tk k i = cxa.tk k i) -> cxa.nk = cx.nk -> sA.m.size <= ma.size -> ma.bar = sA.m.bar -> (∀ r ∈ marks, cxa.role r = .mk /\ sA.m.size <= r /\ sA.m.bar <= r) -> marks.Nodup →
    enterLoopV sA (rdOf cx rd) ps.toList asg body = some (ma.size, marks, ma.new (.loop .ready none sA.tm sA.nt ps.toList asg body D)) →
    ∃ e sA1 cx1 s1, CanX E P (rdOf cx rd) (.rangeFunc f ps asg body) sA e sA1 /\ PS E cx1 s1 sA1 /\ Ext (some s.k) cx cx1 /\ s1.k = s.k /\ s1.nt = s.nt /\ Q e s1 := by
   intro cxa ma marks D hpa hlea hat htk hnk hsz hbar hmk hnd hent
   obtain ⟨c1, c2⟩ := hpa.cur s.os.length (Nat.le_refl _)
   have hO : OG (cxa.bind s.k s.os.length ma.size) (ma.new (.loop .ready none sA.tm sA.nt ps.toList asg body D)) s.k s.os.length (.loop true .ready none s.tm s.nt ps.toList asg body) := by
    refine ⟨ma.size, sA.tm, D, by simp [Cx.bind], ?_, fun j => (hpa.tm j).mono (CxLe.bind hpa.pg c1), fun _ => by rw [new_bar]; exact hpa.pg.wf.bar⟩
    have := Mem.get_new_same hpa.pg.nbs (.loop .ready none sA.tm sA.nt ps.toList asg body D)
    rw [this, hs.nt]
   obtain ⟨⟨cxb, hy, hext, hpb⟩, e1, e2, e3⟩ := after_new (x := .yld s.k s.os.length) (v := .func (.yield ma.size) #[] #[]) hpa (fun _ _ e => by cases e) (fun e => by cases e) hO (.yld (by simp [Cx.bind]))
   have hleb := hlea.trans hext.le
   have hpgb : PG E cxb (seg s.M s.k (s.os ++ [.loop true .ready none s.tm s.nt ps.toList asg body])) (ma.new (.loop .ready none sA.tm sA.nt ps.toList asg body D)) := hpb.pg
   have hargs : PRs cxb (first ++ (.yld s.k s.os.length :: captured)) (fa.toList ++ (.func (.yield ma.size) #[] #[] :: ca.toList)) := (h1.mono hleb).append (.cons hy (h2.mono hleb))
   obtain ⟨v, m2, cx3, y, M1, k1, k2, k3, k4, os1, M2, st, pend, tm', nt', ps', asg', body', q1, q2, q3, q4, e, q5, q6⟩ := h cxb _ _ hpgb hargs
   have hw := k2.weak q2
   have hMk : seg M2 s.k os1 s.k s.os.length = some (.loop true st pend tm' nt' ps' asg' body') := by
    unfold seg; rw [if_pos rfl]; exact q3
   obtain ⟨r, tmA, D', z1, z2, z3, z4⟩ := hw.obj s.k s.os.length _ hMk
   have hatb : cxb.at_ s.k s.os.length = some ma.size := by
    cases hy with | yld hh => exact hh
   have hr0 : r = ma.size := by
    have := k3.le.at_ _ _ _ hatb
    rw [z1] at this; cases this; rfl
   subst hr0
   have hb2 := z4 rfl
   have hbar2 : m2.bar = sA.m.bar := by
    have := (k1.keep hpgb.wf).bar
    rw [new_bar] at this
    exact this.trans hbar
   have hend : endLoopV m2 ma.size = some (pend, m2.upd ma.size (some (.loop .exhausted pend tmA nt' ps' asg' body' D'))) := by
    unfold endLoopV
    rw [z2]
    cases st <;> first | exact absurd rfl q4 | simp only [bleT hb2, cond_true]
   have hcan := CanX.rangeFunc (rd := rdOf cx rd) (s := sA) hE hco hvf hg hent k1 hend q5
   have hO2 : OG cx3 (m2.upd ma.size (some (.loop .exhausted pend tmA nt' ps' asg' body' D'))) s.k s.os.length (.loop true .exhausted pend tm' nt' ps' asg' body') :=
    ⟨ma.size, tmA, D', z1, Mem.get_upd_same (Nat.le_trans hw.wf.nb hb2) _, z3, fun _ => by rw [Mem.upd_def]; exact hb2⟩
   have hpg3 := hw.updObj z1 hb2 hMk ⟨nofun, nofun⟩ (fun _ _ e => by cases e) hO2
   have emem : seg M2 s.k (os1.set s.os.length (.loop true .exhausted pend tm' nt' ps' asg' body')) = putM (seg M2 s.k os1) s.k s.os.length (.loop true .exhausted pend tm' nt' ps' asg' body') := by
    have := PSt.putO_mem (s := ⟨[], 0, s.k, os1, M2⟩) (k := s.k) (i := s.os.length) (o := .loop true .exhausted pend tm' nt' ps' asg' body') (o0 := .loop true st pend tm' nt' ps' asg' body') (by unfold PSt.look; rw [if_pos rfl]; exact q3)
    unfold PSt.putO at this
    rw [if_pos rfl] at this
    exact this
   have hle3 : CxLe cx cx3 := hleb.trans k3.le
   refine ⟨e, _, cx3, { s with os := os1.set s.os.length (.loop true .exhausted pend tm' nt' ps' asg' body'), M := M2 }, hcan, ⟨fun i => (hs.tm i).mono hle3, hs.nt, ?_, fun i hi => ?_, Nat.lt_of_lt_of_le hs.low hle3.nk, hs.pos, ?_⟩, ⟨hle3, fun k i hk hkc => ?_⟩, rfl, rfl, q6⟩
   ·show PG E cx3 (seg M2 s.k (os1.set s.os.length _)) _
    rw [emem]; exact hpg3
   ·have hi' : s.os.length + 1 <= i := by
     have : (os1.set s.os.length (.loop true .exhausted pend tm' nt' ps' asg' body')).length <= i := hi
     rw [List.length_set, q1] at this
     exact this
    have hcb := hpb.cur i (by simpa using hi')
    have hn := k3.names s.k i hpb.low (by simp)
    exact ⟨hn.1 hcb.1, hn.2 hcb.2⟩
   ·show (marks ++ sA.df).Nodup /\ _
    refine ⟨List.nodup_append.2 ⟨hnd, hs.df.1, fun r1 h1 r2 h2 e => ?_⟩, fun r hr => ?_⟩
    ·subst e
     have h3 := (hmk r1 h1).2.1
     have h4 := (hs.pg.mks r1 (hs.df.2 r1 h2).1).1
     omega
    ·have hbar3 : (m2.upd ma.size (some (.loop .exhausted pend tmA nt' ps' asg' body' D'))).bar = sA.m.bar := by rw [Mem.upd_def]; exact hbar2
     show cx3.role r = .mk /\ (m2.upd ma.size (some (.loop .exhausted pend tmA nt' ps' asg' body' D'))).bar <= r
     rw [hbar3]
     rcases List.mem_append.1 hr with h3 | h3
     ·exact ⟨k3.le.mks _ (hext.le.mks _ (hmk r h3).1), (hmk r h3).2.2⟩
     ·exact ⟨hle3.mks _ (hs.df.2 r h3).1, (hs.df.2 r h3).2⟩
   ·have hb := hext.names k i (by rw [hnk]; exact hk) hkc
    have hlt : k < cxb.nk := Nat.lt_of_lt_of_le hk hleb.nk
    have h3 := k3.names k i hlt (by simp)
    exact ⟨fun e => h3.1 (hb.1 (by rw [<- hat]; exact e)), fun e => h3.2 (hb.2 (by rw [<- htk]; exact e))⟩
  cases rd with
  | none =>
   refine lay (cx.addMk sA.m.size) (sA.m.new .mark) [sA.m.size] sA.m.size (after_mark hs) (CxLe.addMk hs.pg) (fun _ _ => rfl) (fun _ _ => rfl) rfl (by rw [new_size]; omega) (new_bar _ _) ?_ (by simp) ?_
   ·intro r hr
    rw [List.mem_singleton.1 hr]
    exact ⟨by simp [Cx.addMk], Nat.le_refl _, hs.pg.wf.bar⟩
   ·show enterLoopV sA none _ _ _ = _
    unfold enterLoopV
    rw [new_size]
  | some p =>
   obtain ⟨k, i⟩ := p
   obtain ⟨w, st, pend, tm', nt', ps', asg', body', hlk⟩ := hrd k i rfl
   obtain ⟨r, tmA, D, z1, z2, _, _⟩ := hs.pg.obj k i _ hlk
   refine lay cx sA.m [] D hs (CxLe.refl _) (fun _ _ => rfl) (fun _ _ => rfl) rfl (Nat.le_refl _) rfl (fun r hr => by cases hr) (by simp) ?_
   show enterLoopV sA (cx.at_ k i) _ _ _ = _
   unfold enterLoopV
   rw [z1]
   simp only [z2]
def pparams : List Tmp -> List PV -> List (Nat × PV) -> Nat -> Option (List (Nat × PV))
 | [], [], t, _ => some t
 | p :: ps, v :: vs, t, nt => if p < nt then pparams ps vs ((p, v) :: t) nt else none
 | _, _, _, _ => none
theorem pparams_sim : ∀ {ps : List Tmp} {args : List PV} {vargs : List Value} {tm tm1 : List (Nat × PV)} {tmA : Tr Value} {nt : Nat}, PRs cx args vargs -> (∀ i, PR cx (tget tm i) (ev tmA (.tmp i))) -> pparams ps args tm nt = some tm1 →
  ∃ tmA1, paramsT ps vargs tmA nt = some tmA1 /\ ∀ i, PR cx (tget tm1 i) (ev tmA1 (.tmp i))
 | [], _, _, tm, tm1, tmA, nt, .nil, ht, h => by cases h; exact ⟨tmA, rfl, ht⟩
 | [], _, _, _, _, _, _, .cons _ _, _, h => by cases h
 | p :: ps, _, _, _, _, _, _, .nil, _, h => by cases h
 | p :: ps, _, _, tm, tm1, tmA, nt, .cons (v := v) hx hs, ht, h => by
  simp only [pparams] at h
  split at h
  ·rename_i hlt
   obtain ⟨tmA1, h1, h2⟩ := pparams_sim hs (tmA := tmA.put p (some v)) (fun i => by
    simp only [tget_cons, ev, Tr.at_put]
    by_cases hi : i = p
    ·subst hi; simp only [if_true]; exact hx
    ·rw [if_neg hi, if_neg hi]; exact ht i) h
   exact ⟨tmA1, by simp only [paramsT, bltT hlt, cond_true]; exact h1, h2⟩
  ·cases h
def roundEnds (k i : Nat) (R : PV -> PMem -> Prop) (e : AExit) (s : PSt) : Prop :=
 ∃ st pend tm nt ps asg body, s.look k i = some (.loop true st pend tm nt ps asg body) ∧
  ∃ M1, MLe (s.putO k i (.loop true (match exitJump e with | none => .ready | some _ => .done) (exitJump e) tm nt ps asg body)).mem M1 /\ R (.v (.bool (exitJump e).isNone)) M1
theorem PRd.run (hE : EnvOk E P) {k i : Nat} {args : List PV} {R : PV -> PMem -> Prop} {pend : Option Code} {tm tm1 : List (Nat × PV)} {nt : Nat} {ps : List Tmp} {asg body : Code} (hca : codeOk E.ng asg = true) (hcb : codeOk E.ng body = true)
  (hM : M k i = some (.loop true .ready pend tm nt ps asg body)) (hp : pparams ps args tm nt = some tm1)
  (h : ∀ k', 0 < k' -> k' ≠ k -> fresh M k' -> PX E P (some (k, i)) asg ⟨tm1, nt, k', [], M⟩ (fun e s1 => e = .normal /\ ∃ pend2 tm2 nt2 ps2 asg2, s1.look k i = some (.loop true .ready pend2 tm2 nt2 ps2 asg2 body) ∧
   PX E P (some (k, i)) body (s1.putO k i (.loop true .busy pend2 tm2 nt2 ps2 asg2 body)) (roundEnds k i R))) : PRd E P k i args M R := fun cx m l vargs hg hl ha => by
 obtain ⟨r, tmA, D, e1, e2, e3, e4⟩ := hg.obj k i _ hM
 rw [hl] at e1; cases e1
 have hbar := e4 rfl
 obtain ⟨tmA1, p1, p2⟩ := pparams_sim ha e3 hp
 have hfr := hg.bare (Nat.le_refl cx.nk)
 have hne : cx.nk ≠ k := fun e => by
  have := (hg.keys k i (by omega)).1
  rw [hl] at this; cases this
 have hps : PS E cx.key ⟨tm1, nt, cx.nk, [], M⟩ { tm := tmA1, nt := nt, df := [], m := m } := by
  refine ⟨fun i => (p2 i).mono (CxLe.key cx), rfl, ?_, fun i _ => hg.keys cx.nk i (Nat.le_refl _), Nat.lt_succ_self _, hg.pos, ⟨List.nodup_nil, fun r hr => by cases hr⟩⟩
  show PG E cx.key (seg M cx.nk []) m
  rw [seg_nil _ _ hfr]
  exact hg.key
 have hrd : rdOf cx.key (some (k, i)) = some l := hl
 have hrk : rdOk cx.key (some (k, i)) := by
  show cx.at_ k i ≠ none
  rw [hl]; simp
 obtain ⟨e, sA1, cx1, s1, h1, h2, h3, h4, h5, h6, pend2, tm2, nt2, ps2, asg2, h7, h8⟩ := h cx.nk hg.pos hne hfr hca cx.key _ hps hrk
 subst h6
 rw [hrd] at h1
 have hl1 : cx1.at_ k i = some l := h3.le.at_ _ _ _ hl
 obtain ⟨r1, tmA2, D2, f1, f2, f3, f4⟩ := h2.pg.obj k i _ h7
 rw [hl1] at f1; cases f1
 have hbar1 := f4 rfl
 -- the record is busy
 have hb1 := after_upd (x := .junk) (v := undefV) h2 hl1 hbar1 h7 (o := .loop true .busy pend2 tm2 nt2 ps2 asg2 body) (ao := .loop .busy pend2 tmA2 nt2 ps2 asg2 body D2) ⟨nofun, nofun⟩ (fun _ _ e => by cases e)
  ⟨l, tmA2, D2, hl1, Mem.get_upd_same (Nat.le_trans h2.pg.wf.nb hbar1) _, f3, fun _ => by rw [Mem.upd_def]; exact hbar1⟩ (.junk _)
 obtain ⟨⟨cx2, _, hext2, hps2⟩, g1, g2, g3⟩ := hb1
 have hl2 : cx2.at_ k i = some l := hext2.le.at_ _ _ _ hl1
 have hrk2 : rdOk cx2 (some (k, i)) := by
  show cx2.at_ k i ≠ none
  rw [hl2]; simp
 obtain ⟨ex2, sA2, cx3, s2, j1, j2, j3, j4, j5, st, pend3, tm3, nt3, ps3, asg3, body3, j6, M1, j7, j8⟩ := h8 hcb cx2 _ hps2 hrk2
 have hrd2 : rdOf cx2 (some (k, i)) = some l := hl2
 rw [hrd2] at j1
 have hl3 : cx3.at_ k i = some l := j3.le.at_ _ _ _ hl2
 obtain ⟨r3, tmA3, D3, t1, t2, t3, t4⟩ := j2.pg.obj k i _ j6
 rw [hl3] at t1; cases t1
 have hbar2 := t4 rfl
 have hcan := CanT.round hE (args := vargs) e2 p1 h1 f2 hbar1 j1 t2 hbar2
 have hb2 := after_upd (x := .junk) (v := undefV) j2 hl3 hbar2 j6 (o := .loop true (match exitJump ex2 with | none => .ready | some _ => .done) (exitJump ex2) tm3 nt3 ps3 asg3 body3)
  (ao := .loop (match exitJump ex2 with | none => .ready | some _ => .done) (exitJump ex2) tmA3 nt3 ps3 asg3 body3 D3) ⟨nofun, nofun⟩ (fun _ _ e => by cases e)
  ⟨l, tmA3, D3, hl3, Mem.get_upd_same (Nat.le_trans j2.pg.wf.nb hbar2) _, t3, fun _ => by rw [Mem.upd_def]; exact hbar2⟩ (.junk _)
 obtain ⟨⟨cx4, _, hext4, hps4⟩, _⟩ := hb2
 have hle : CxLe cx cx4 := (((CxLe.key cx).trans h3.le).trans hext2.le).trans (j3.le.trans hext4.le)
 refine ⟨_, _, cx4, _, M1, hcan, hps4.pg.weak j7, ⟨hle, fun k' i' hk _ => ?_⟩, .v rfl, j8⟩
 have hkey : k' < cx.key.nk := by show k' < cx.nk + 1; omega
 have hne' : k' ≠ cx.nk := by omega
 have n1 := h3.names k' i' hkey (by intro h; cases h; exact hne' rfl)
 have n2 := hext2.names k' i' (Nat.lt_of_lt_of_le hkey h3.le.nk) (by rw [h4]; intro h; cases h; exact hne' rfl)
 have n3 := j3.names k' i' (Nat.lt_of_lt_of_le hkey (Nat.le_trans h3.le.nk hext2.le.nk)) (by rw [g3, h4]; intro h; cases h; exact hne' rfl)
 have n4 := hext4.names k' i' (Nat.lt_of_lt_of_le hkey (Nat.le_trans (Nat.le_trans h3.le.nk hext2.le.nk) j3.le.nk)) (by rw [j4, g3, h4]; intro h; cases h; exact hne' rfl)
 exact ⟨fun e => n4.1 (n3.1 (n2.1 (n1.1 e))), fun e => n4.2 (n3.2 (n2.2 (n1.2 e)))⟩
theorem PT.indexByteString (hX : XTab E P) {f : Nat} {st : ByteArray} {c : Int} {R : PV -> PMem -> Prop} (hf : E.ext f = some xIndexByteString) (hc : c.toNat < 256)
  (q : R (.v (.int .i64 (match byteAt c.toNat 0 st.data.toList with | some i => (i : Int) | none => -1))) M) : PT E P f [.v (.string st), .v (.int .u8 c)] M R := fun cx m vargs hg ha => by
 cases ha with
 | cons h1 hs =>
  cases hs with
  | cons h2 hs =>
   cases hs
   obtain ⟨rfl, _⟩ := h1.flat_eq
   obtain ⟨rfl, _⟩ := h2.flat_eq
   refine ⟨_, m, cx, _, M, CanT.ext hX hf (v := .int .i64 (match byteAt c.toNat 0 st.data.toList with | some i => (i : Int) | none => -1)) ?_, hg, Ext.refl _ _, .v rfl, q⟩
   simp only [xIndexByteString, bltT hc]
   cases byteAt c.toNat 0 st.data.toList <;> rfl
end
end Go.Pm
namespace Go.Pm
open Go.RowKit Go.Am
section
variable {E : Env} {P : Program} {cx cx' : Cx} {s s' s1 s2 : PSt} {sA sA1 : St} {m m' : Mem} {M M' : PMem} {rd : Option (Nat × Nat)} {Q Q' : AExit -> PSt -> Prop}
theorem _root_.Go.Am.CanT.pad {t : Task} {m m1 : Mem} {v : Value} (h : CanT E P t m v m1) : CanT E P t m v (m1.new (.row [] .rw 0 none)) := by
 have up : ∀ {ι : Inj} {w : World} {r : Result Next}, Upon P (Got E ι m w v m1) r -> Upon P (Got E ι m w v (m1.new (.row [] .rw 0 none))) r := fun h => h.mono fun v' w1 ⟨ι1, h1, h2⟩ => ⟨ι1, h1, Step.hole h2 [] 0⟩
 refine ⟨?_, fun hw => (h.keep hw).trans (Keep.new (hw.keep (h.keep hw)) _)⟩
 have ho := h.ok
 cases t with
 | call f args => exact fun ι w args' hR ha => up (ho ι w args' hR ha)
 | round l args => exact fun ι w args' t hR hl ha => up (ho ι w args' t hR hl ha)
theorem PG.pad (h : PG E cx M m) (hr : cx.role m.size = .none) : PG E cx M (m.new (.row [] .rw 0 none)) where
 obj := fun k' i' o' e => by
  refine (h.obj k' i' o' e).move (CxLe.refl _) (h.ddNew (CxLe.refl _) _) (new_bar _ _) (fun r e1 => new_get h.nbs _ (h.get_lt e1)) (fun _ => rfl) (fun r n es e1 e2 => ?_)
  subst e1
  obtain ⟨_, _, _, h2, _⟩ := h.tk_im e e2
  exact new_get h.nbs _ (h.im _ _ h2).1
 at_ := fun k' i' r e => by
  have := h.at_ k' i' r e
  rw [new_size]
  exact ⟨by omega, this.2⟩
 nd := h.nd
 im := fun r cells e => by
  rw [new_size]
  obtain ⟨h1, md, es, q, h2⟩ := h.im _ _ e
  exact ⟨by omega, md, es, q, by rw [new_get h.nbs _ h1]; exact h2⟩
 mks := fun r e => by
  rw [new_size]
  obtain ⟨h1, h2⟩ := h.mks _ e
  exact ⟨by omega, by rw [new_get h.nbs _ h1]; exact h2⟩
 dd := fun r e => by rw [new_size]; have := h.dd _ e; omega
 keys := fun k' i' e => h.keys k' i' e
 tkin := h.tkin
 glob := h.glob
 wf := new_wf h.wf _
 pos := h.pos
def Cx.clear (cx : Cx) (r : Nat) : Cx := { cx with role := fun r' => if r' = r then .none else cx.role r' }
theorem CxLe.clear (h : PG E cx M m) : CxLe cx (cx.clear m.size) where
 at_ := fun _ _ _ e => e
 im := fun r cells e => by
  simp only [Cx.clear]
  rw [if_neg (by have := (h.im _ _ e).1; omega)]; exact e
 mks := fun r e => by
  simp only [Cx.clear]
  rw [if_neg (by have := (h.mks _ e).1; omega)]; exact e
 dd := fun r e => by
  simp only [Cx.clear]
  rw [if_neg (by have := h.dd _ e; omega)]; exact e
 tk := fun _ _ r n es e => ⟨r, n, es, e, .inl ⟨rfl, rfl, rfl⟩⟩
 nk := Nat.le_refl _
theorem PG.clear (h : PG E cx M m) : PG E (cx.clear m.size) M m where
 obj := fun k' i' o' e => (h.obj k' i' o' e).move (CxLe.clear h) (fun p hp => ⟨(CxLe.clear h).dd _ hp, .inl rfl⟩) rfl (fun _ _ => rfl) (fun _ => rfl) (fun _ _ _ _ _ => rfl)
 at_ := fun k' i' r e => by
  have := h.at_ k' i' r e
  simp only [Cx.clear]
  rw [if_neg (by omega)]
  exact this
 nd := fun k' i' o' r hM e => by
  have := (h.at_ k' i' r e).1
  simp only [Cx.clear]
  rw [if_neg (by omega)]
  exact h.nd _ _ _ _ hM e
 im := fun r cells e => by
  simp only [Cx.clear] at e
  split at e
  ·cases e
  ·exact h.im r cells e
 mks := fun r e => by
  simp only [Cx.clear] at e
  split at e
  ·cases e
  ·exact h.mks r e
 dd := fun r e => by
  simp only [Cx.clear] at e
  split at e
  ·cases e
  ·exact h.dd r e
 keys := h.keys
 tkin := h.tkin
 glob := h.glob
 wf := h.wf
 pos := h.pos
theorem PG.padded (h : PG E cx M m) : CxLe cx (cx.clear m.size) /\ PG E (cx.clear m.size) M (m.new (.row [] .rw 0 none)) := ⟨CxLe.clear h, h.clear.pad (by simp [Cx.clear])⟩
theorem Ext.clear {c : Option Nat} (h : PG E cx M m) : Ext c cx (cx.clear m.size) := ⟨CxLe.clear h, fun _ _ _ _ => ⟨fun e => e, fun e => e⟩⟩
def holdO : Obj -> Obj
 | .row .rw es cs => .row .held es cs
 | .row .own es cs => .row .hown es cs
 | .str _ s p => .str false s p
 | .loop _ st pend tm nt ps asg body => .loop false st pend tm nt ps asg body
 | o => o
def holdM (M : PMem) : PMem := fun k i => (M k i).map holdO
def barM (m : Mem) (b : Nat) : Mem := { m with bar := b }
theorem barM_get (m : Mem) (b r : Nat) : (barM m b).get r = m.get r := by cases m; rfl
theorem PG.hold (h : PG E cx M m) : PG E cx (holdM M) (barM m m.size) where
 obj := fun k i o e => by
  simp only [holdM, Option.map_eq_some_iff] at e
  obtain ⟨o0, e0, rfl⟩ := e
  have ho := h.obj k i o0 e0
  cases o0 with
  | row w es cs =>
   obtain ⟨r, vs, md, q, e1, e2, e3, e4, e5⟩ := ho
   cases w with
   | ro => exact ⟨r, vs, md, q, e1, by rw [barM_get]; exact e2, e3, e4, fun h => by cases h⟩
   | held => exact ⟨r, vs, md, q, e1, by rw [barM_get]; exact e2, e3, e4, fun h => by cases h⟩
   | rw => exact ⟨r, vs, md, q, e1, by rw [barM_get]; exact e2, e3, fun _ => e4 (by simp), fun h => by cases h⟩
   | own => exact ⟨r, vs, md, q, e1, by rw [barM_get]; exact e2, e3, fun _ => ⟨(e4 (by simp)).1, trivial⟩, fun h => by cases h⟩
   | hown => exact ⟨r, vs, md, q, e1, by rw [barM_get]; exact e2, e3, e4, fun h => by cases h⟩
  | str w st pos =>
   obtain ⟨r, e1, e2, e3⟩ := ho
   exact ⟨r, e1, by rw [barM_get]; exact e2, fun h => by cases h⟩
  | loop w st pend tm nt ps asg body =>
   obtain ⟨r, tmA, D, e1, e2, e3, e4⟩ := ho
   exact ⟨r, tmA, D, e1, by rw [barM_get]; exact e2, e3, fun h => by cases h⟩
  | grow n es =>
   obtain ⟨ro, e1, e2, e3⟩ := ho
   refine ⟨ro, e1, e2, ?_⟩
   cases ro with
   | none => exact e3
   | some r => obtain ⟨vs, q, h1, h2⟩ := e3; exact ⟨vs, q, by rw [barM_get]; exact h1, h2⟩
  | gone => exact ho
 at_ := h.at_
 nd := fun k i o r e e' => by
  simp only [holdM, Option.map_eq_some_iff] at e
  obtain ⟨o0, e0, rfl⟩ := e
  rcases h.nd k i o0 r e0 e' with h1 | h1 | ⟨n, es, h1⟩
  ·exact .inl h1
  ·subst h1; exact .inr (.inl rfl)
  ·subst h1; exact .inr (.inr ⟨n, es, rfl⟩)
 im := fun r cells e => by
  obtain ⟨h1, md, es, q, h2⟩ := h.im r cells e
  exact ⟨h1, md, es, q, by rw [barM_get]; exact h2⟩
 mks := fun r e => by
  obtain ⟨h1, h2⟩ := h.mks r e
  exact ⟨h1, by rw [barM_get]; exact h2⟩
 dd := h.dd
 keys := h.keys
 tkin := fun k1 i1 k2 i2 r n es n' es' e1 e2 e3 e4 => by
  have key : ∀ {k i n es}, holdM M k i = some (.grow n es) -> M k i = some (.grow n es) := by
   intro k i n es e
   simp only [holdM, Option.map_eq_some_iff] at e
   obtain ⟨o0, e0, e⟩ := e
   cases o0 with
   | row w es cs => cases w <;> cases e
   | grow n es => cases e; exact e0
   | _ => cases e
  exact h.tkin k1 i1 k2 i2 r n es n' es' (key e1) (key e2) e3 e4
 glob := h.glob
 wf := ⟨Nat.le_trans h.wf.nb h.wf.bar, Nat.le_refl _, fun b o hb ho => h.wf.base b o hb (by rw [barM_get] at ho; exact ho)⟩
 pos := h.pos
theorem Shade.same {m1 : Mem} (hle : CxLe cx cx') (hdd : ∀ r, cx.role r = .dead -> r < m.size) (hsame : ∀ b, b < m.size -> Same (m.get b) (m1.get b)) {b : Nat} {q : Option Nat} (h : Shade cx m b q) : Shade cx' (barM m1 m.bar) b q := by
 induction h with
 | none => exact .none
 | gone hp hd hb hg =>
  refine .gone hp (hle.dd _ hd) hb ?_
  rw [barM_get]
  rcases hsame _ (hdd _ hd) with hsp | ⟨cs', es', q', h1, h2⟩
  ·rw [<- hsp]; exact hg
  ·rw [hg] at h1; cases h1
 | @more b p es cs q hp hd hb hg r ih =>
  refine .more hp (hle.dd _ hd) hb (cs := cs) (es := es) ?_ ih
  rw [barM_get]
  rcases hsame _ (hdd _ hd) with hsp | ⟨cs', es', q', h1, h2⟩
  ·rw [<- hsp]; exact hg
  ·rw [hg] at h1; cases h1
theorem PG.unhold (h0 : PG E cx M m) {m1 : Mem} (hle : CxLe cx cx') (hnb : m1.nb = m.nb) (hsz : m.size <= m1.size) (hsame : ∀ b, b < m.size -> Same (m.get b) (m1.get b)) (h : PG E cx' (holdM M) m1) : PG E cx' M (barM m1 m.bar) where
 obj := fun k i o e => by
  have ho := h.obj k i (holdO o) (by simp only [holdM, e, Option.map_some])
  have h0o := h0.obj k i o e
  cases o with
  | row w es cs =>
   obtain ⟨r0, vs0, md0, q0, a1, a2, a3, a4, a5⟩ := h0o
   have a1' := hle.at_ _ _ _ a1
   cases w with
   | ro =>
    obtain ⟨r, vs, md, q, e1, e2, e3, e4, e5⟩ := ho
    exact ⟨r, vs, md, q, e1, by rw [barM_get]; exact e2, e3, e4, fun h => by cases h⟩
   | held =>
    obtain ⟨r, vs, md, q, e1, e2, e3, e4, e5⟩ := ho
    exact ⟨r, vs, md, q, e1, by rw [barM_get]; exact e2, e3, e4, fun h => by cases h⟩
   | rw =>
    obtain ⟨r, vs, md, q, e1, e2, e3, e4, e5⟩ := ho
    rw [a1'] at e1; cases e1
    exact ⟨r0, vs, md, q, a1', by rw [barM_get]; exact e2, e3, fun _ => e4 (by simp), fun _ => a5 rfl⟩
   | hown =>
    obtain ⟨r, vs, md, q, e1, e2, e3, e4, e5⟩ := ho
    exact ⟨r, vs, md, q, e1, by rw [barM_get]; exact e2, e3, e4, fun h => by cases h⟩
   | own =>
    obtain ⟨r, vs, md, q, e1, e2, e3, e4, e5⟩ := ho
    rw [a1'] at e1; cases e1
    obtain ⟨hmd, hbr, hsh⟩ := a4 (by simp)
    have hmd2 := (e4 (by simp)).1
    subst hmd hmd2
    have hs0 := hsame r0 (h0.at_ _ _ _ a1).1
    have hq : m1.get r0 = m.get r0 := by
     rcases hs0 with hs0 | ⟨cs', es', q', h1, h2⟩
     ·exact hs0.symm
     ·rw [e2] at h2; cases h2
    refine ⟨r0, vs0, .rw, q0, a1', by rw [barM_get, hq]; exact a2, a3.mono hle, fun _ => ⟨rfl, hbr, ?_⟩, fun h => by cases h⟩
    exact hsh.same hle h0.dd hsame
  | str w st pos =>
   obtain ⟨r0, a1, _, a3⟩ := h0o
   obtain ⟨r, e1, e2, e3⟩ := ho
   have a1' := hle.at_ _ _ _ a1
   rw [a1'] at e1; cases e1
   exact ⟨r0, a1', by rw [barM_get]; exact e2, a3⟩
  | loop w st pend tm nt ps asg body =>
   obtain ⟨r0, _, _, a1, _, _, a4⟩ := h0o
   obtain ⟨r, tmA, D, e1, e2, e3, e4⟩ := ho
   have a1' := hle.at_ _ _ _ a1
   rw [a1'] at e1; cases e1
   exact ⟨r0, tmA, D, a1', by rw [barM_get]; exact e2, e3, a4⟩
  | grow n es =>
   obtain ⟨ro, e1, e2, e3⟩ := ho
   refine ⟨ro, e1, e2, ?_⟩
   cases ro with
   | none => exact e3
   | some r => obtain ⟨vs, q, h1, h2⟩ := e3; exact ⟨vs, q, by rw [barM_get]; exact h1, h2⟩
  | gone => exact ho
 at_ := h.at_
 nd := fun k i o r e e' => by
  rcases h.nd k i (holdO o) r (by simp only [holdM, e, Option.map_some]) e' with h1 | h1 | ⟨n, es, h1⟩
  ·exact .inl h1
  ·cases o with
   | gone => exact .inr (.inl rfl)
   | row w es cs => cases w <;> cases h1
   | _ => cases h1
  ·cases o with
   | grow n' es' => exact .inr (.inr ⟨_, _, rfl⟩)
   | row w es cs => cases w <;> cases h1
   | _ => cases h1
 im := fun r cells e => by
  obtain ⟨h1, md, es, q, h2⟩ := h.im r cells e
  exact ⟨h1, md, es, q, by rw [barM_get]; exact h2⟩
 mks := fun r e => by
  obtain ⟨h1, h2⟩ := h.mks r e
  exact ⟨h1, by rw [barM_get]; exact h2⟩
 dd := h.dd
 keys := h.keys
 tkin := fun k1 i1 k2 i2 r n es n' es' e1 e2 e3 e4 => h.tkin k1 i1 k2 i2 r n es n' es' (by simp only [holdM, e1, Option.map_some, holdO]) (by simp only [holdM, e2, Option.map_some, holdO]) e3 e4
 glob := h.glob
 wf := ⟨by show m1.nb <= m.bar; rw [hnb]; exact h0.wf.nb, Nat.le_trans h0.wf.bar hsz, fun b o hb ho => h.wf.base b o hb (by rw [barM_get] at ho; exact ho)⟩
 pos := h.pos
def Inc : Nat -> List Entry -> Prop
 | _, [] => True
 | n, x :: r => n <= x.m.size /\ Inc (x.m.size + 1) r
theorem Inc.mono : ∀ {l : List Entry} {n n' : Nat}, n' <= n -> Inc n l -> Inc n' l
 | [], _, _, _, _ => trivial
 | x :: r, _, _, h, k => ⟨Nat.le_trans h k.1, k.2⟩
theorem Inc.size : ∀ {l : List Entry} {n : Nat}, Inc n l -> ∀ x ∈ l, n <= x.m.size
 | [], _, _, x, hx => by cases hx
 | y :: r, n, h, x, hx => by
  rcases List.mem_cons.1 hx with rfl | hx
  ·exact h.1
  ·have h1 := h.1
   have := Inc.size h.2 x hx
   omega
theorem Inc.many : ∀ {l : List Entry} {n : Nat}, Inc n l -> ∀ x ∈ l, manyK l x.t x.m = some (x.v, x.m1)
 | [], _, _, x, hx => by cases hx
 | y :: r, n, h, x, hx => by
  unfold manyK
  rcases List.mem_cons.1 hx with rfl | hx
  ·simp
  ·have := Inc.size h.2 x hx
   rw [if_neg (fun hc => by have e := congrArg Mem.size hc.2; omega)]
   exact Inc.many h.2 x hx
def PD (E : Env) (P : Program) (ops : List Oper) (bs : List Nat) (i : Nat) (l : List Oper) (s : PSt) (R : PSt -> Prop) : Prop :=
 opsOk E.ng l = true -> ∀ cx sA, PS E cx s sA -> ∃ es sA1 cx1 s1, (∀ x ∈ es, CanT E P x.t x.m x.v x.m1) /\ Inc sA.m.size es /\ (∀ K, (∀ x ∈ es, K x.t x.m = some (x.v, x.m1)) -> runDraw E K ops bs i l sA = some sA1) ∧
  PS E cx1 s1 sA1 /\ Ext (some s.k) cx cx1 /\ s1.k = s.k /\ s1.nt = s.nt /\ R s1
variable {ops l : List Oper} {bs : List Nat} {i : Nat} {o : Oper} {R : PSt -> Prop}
theorem PD.nil (q : R s) : PD E P ops bs i [] s R := fun _ cx sA hs => ⟨[], sA, cx, s, fun x hx => (by cases hx), trivial, fun _ _ => rfl, hs, Ext.refl _ _, rfl, rfl, q⟩
theorem step_size (hs : PS E cx s sA) (h : ∀ K, stepOp E K ops o sA = some sA1) : sA.m.size <= sA1.m.size := (stepOp_keep noK_keep hs.pg.wf (h _)).size
theorem PD.step (hE : EnvOk E P) (hf : (!(cls E o.op).isHard || alone E bs ops i) = true) (h : pstep E ops o s = some s1) (k : PD E P ops bs (i + 1) l s1 R) : PD E P ops bs i (o :: l) s R := fun hc cx sA hs => by
 simp only [opsOk, Bool.and_eq_true] at hc
 obtain ⟨sA1, cx1, h1, h2, h3, h4, h5⟩ := pstep_sim hE hs hc.1 h
 obtain ⟨es, sA2, cx2, s2, k0, ki, k1, k2, k3, k4, k5, k6⟩ := k hc.2 cx1 sA1 h2
 rw [h4] at k3
 refine ⟨es, sA2, cx2, s2, k0, ki.mono (step_size hs h1), fun K hK => ?_, k2, h3.trans k3, k4.trans h4, k5.trans h5, k6⟩
 unfold runDraw stepDrawI
 rw [hf]
 simp only [stepDraw, h1 K]
 exact k1 K hK
theorem PD.stepR (hE : EnvOk E P) (hf : (!(cls E o.op).isHard || alone E bs ops i) = true) (h : pstepR E ops o s = some s1) (k : PD E P ops bs (i + 1) l s1 R) : PD E P ops bs i (o :: l) s R := fun hc cx sA hs => by
 simp only [opsOk, Bool.and_eq_true] at hc
 obtain ⟨sA1, cx1, h1, h2, h3, h4, h5⟩ := pstepR_sim hE hs hc.1 h
 obtain ⟨es, sA2, cx2, s2, k0, ki, k1, k2, k3, k4, k5, k6⟩ := k hc.2 cx1 sA1 h2
 rw [h4] at k3
 refine ⟨es, sA2, cx2, s2, k0, ki.mono (step_size hs h1), fun K hK => ?_, k2, h3.trans k3, k4.trans h4, k5.trans h5, k6⟩
 unfold runDraw stepDrawI
 rw [hf]
 simp only [stepDraw, h1 K]
 exact k1 K hK
theorem PD.skip (hE : EnvOk E P) (hw : pwanted ops s.tm o = some false) (h : pput s o.dst (.tup []) = some s1) (k : PD E P ops bs (i + 1) l s1 R) : PD E P ops bs i (o :: l) s R := fun hc cx sA hs => by
 simp only [opsOk, Bool.and_eq_true] at hc
 obtain ⟨tm1, q1, q2, q3, q4⟩ := pput_sim hs (PR.und (cx := cx)) h
 obtain ⟨es, sA2, cx2, s2, k0, ki, k1, k2, k3, k4, k5, k6⟩ := k hc.2 cx _ q2
 rw [q3] at k3
 refine ⟨es, sA2, cx2, s2, k0, ki, fun K hK => ?_, k2, k3, k4.trans q3, k5.trans q4, k6⟩
 unfold runDraw stepDrawI
 have hw' := pwanted_sim hs hw
 cases hfree : (!(cls E o.op).isHard || alone E bs ops i) with
 | true =>
  have hst : stepOp E K ops o sA = some { sA with tm := tm1 } := by
   rw [stepOp_def, hw']; simp only [q1]
  simp only [stepDraw, hst]
  exact k1 K hK
 | false =>
  have hst : stepOp E K ops o { sA with m := barM sA.m sA.m.size } = some { sA with tm := tm1, m := barM sA.m sA.m.size } := by
   rw [stepOp_def]
   simp only [hw']
   have q1' : putT sA.tm sA.nt o.dst undefV = some tm1 := q1
   simp only [q1']
  have hsd : stepDraw E K ops false o sA = some { sA with tm := tm1 } := by
   show (match stepOp E K ops o { sA with m := barM sA.m sA.m.size } with
    | some s1 => some { s1 with m := barM s1.m sA.m.bar }
    | none => none) = _
   rw [hst]
   rfl
  simp only [hsd]
  exact k1 K hK
theorem PD.call {cl : Call} {f : Operand} {g : Nat} {first captured : List PV} (hfr : alone E bs ops i = true) (hw : pwanted ops s.tm o = some true) (hop : o.op = .call cl) (hcl : cl.callee = .value f) (hf : pev s.tm f = .fn g first captured)
  (h : PTl E P (s.k + 1) g (first ++ (cl.args.toList.map (pev s.tm) ++ captured)) s.mem (fun x M1 => took s o.dst x M1 fun s2 => PD E P ops bs (i + 1) l s2 R)) : PD E P ops bs i (o :: l) s R := fun hc cx sA hs => by
 simp only [opsOk, Bool.and_eq_true] at hc
 have ho := hc.1
 rw [hop] at ho
 simp only [opOk, hcl, Bool.and_eq_true] at ho
 have hfv := hs.ev ho.2
 rw [hf] at hfv
 have hargs := PRs.operands hs ho.1
 generalize hvf : Am.ev sA.tm f = vf at hfv
 cases hfv with
 | @fn _ _ _ fa ca h1 h2 =>
  obtain ⟨v, m1, cx1, x, M1, k1, k2, k3, k4, k5⟩ := h cx sA.m _ hs.low hs.pg (h1.append (hargs.append h2))
  have kp := k1.pad
  obtain ⟨c1, c2⟩ := k2.padded
  have kk := kp.keep hs.pg.wf
  obtain ⟨s2, tm1, q1, q2, q3, q4, q5⟩ := took_sim hs kk.bar c2 (k3.trans (Ext.clear k2)) (k4.mono c1) k5
  obtain ⟨es, sA2, cx2, s3, z0, zi, z1, z2, z3, z4, z5, z6⟩ := q5 hc.2 _ _ q2
  have hks := k1.keep hs.pg.wf
  refine ⟨⟨.call g (fa.toList ++ (cl.args.toList.map (ev sA.tm) ++ ca.toList)), sA.m, v, m1.new (.row [] .rw 0 none)⟩ :: es, sA2, cx2, s3, fun y hy => ?_, ⟨Nat.le_refl _, zi.mono ?_⟩, fun K hK => ?_, z2, (k3.trans (Ext.clear k2)).weak.trans (by rw [<- q3]; exact z3), z4.trans q3, z5.trans q4, z6⟩
  ·rcases List.mem_cons.1 hy with rfl | hy
   ·exact kp
   ·exact z0 y hy
  ·show sA.m.size + 1 <= (m1.new _).size
   rw [new_size]
   have : sA.m.size <= m1.size := hks.size
   omega
  ·unfold runDraw stepDrawI
   rw [hfr, Bool.or_true]
   have hKe := hK _ List.mem_cons_self
   have hd : doOp E K o sA.tm sA.m = some (v, m1.new (.row [] .rw 0 none)) := by
    unfold doOp
    rw [aop_def, hop]
    simp only [hcl, hvf]
    exact hKe
   have hst : stepOp E K ops o sA = some { sA with tm := tm1, m := m1.new (.row [] .rw 0 none) } := by
    rw [stepOp_def, pwanted_sim hs hw]
    simp only [hd, q1]
   simp only [stepDraw, hst]
   exact z1 K fun y hy => hK y (List.mem_cons_of_mem _ hy)
theorem PD.quiet {cl : Call} {f : Operand} {g : Nat} {first captured : List PV} (hfr : (!(cls E o.op).isHard || alone E bs ops i) = false) (hw : pwanted ops s.tm o = some true) (hop : o.op = .call cl) (hcl : cl.callee = .value f) (hf : pev s.tm f = .fn g first captured)
  (h : PT E P g (first ++ (cl.args.toList.map (pev s.tm) ++ captured)) (holdM s.mem) (fun x M1 => MLe M1 (holdM s.mem) /\ ∃ s2, pput s o.dst x = some s2 /\ PD E P ops bs (i + 1) l s2 R)) : PD E P ops bs i (o :: l) s R := fun hc cx sA hs => by
 simp only [opsOk, Bool.and_eq_true] at hc
 have ho := hc.1
 rw [hop] at ho
 simp only [opOk, hcl, Bool.and_eq_true] at ho
 have hfv := hs.ev ho.2
 rw [hf] at hfv
 have hargs := PRs.operands hs ho.1
 generalize hvf : Am.ev sA.tm f = vf at hfv
 cases hfv with
 | @fn _ _ _ fa ca h1 h2 =>
  have hh := hs.pg.hold
  obtain ⟨v, m1, cx1, x, M1, k1, k2, k3, k4, k5, s2, k6, k7⟩ := h cx _ _ hh (h1.append (hargs.append h2))
  have kp := k1.pad
  have k2' := k2.weak k5
  obtain ⟨c1, c2⟩ := k2'.padded
  have kk := kp.keep hh.wf
  have hle := k3.le.trans c1
  have hun := hs.pg.unhold hle kk.nb (by have := kk.size; exact this) (fun b hb => by have := kk.same b hb; rw [barM_get] at this; exact this) c2
  have hps : PS E (cx1.clear m1.size) s { sA with m := barM (m1.new (.row [] .rw 0 none)) sA.m.bar } := by
   refine ⟨fun i => (hs.tm i).mono hle, hs.nt, hun, fun i hi => ?_, Nat.lt_of_lt_of_le hs.low hle.nk, hs.pos, ⟨hs.df.1, fun r hr => ⟨hle.mks _ (hs.df.2 r hr).1, (hs.df.2 r hr).2⟩⟩⟩
   have hcu := hs.cur i hi
   have hn := (k3.trans (Ext.clear k2')).names s.k i hs.low (by simp)
   exact ⟨hn.1 hcu.1, hn.2 hcu.2⟩
  obtain ⟨tm1, q1, q2, q3, q4⟩ := pput_sim hps (k4.mono c1) k6
  obtain ⟨es, sA2, cx2, s3, z0, zi, z1, z2, z3, z4, z5, z6⟩ := k7 hc.2 _ _ q2
  have hks := k1.keep hh.wf
  refine ⟨⟨.call g (fa.toList ++ (cl.args.toList.map (ev sA.tm) ++ ca.toList)), barM sA.m sA.m.size, v, m1.new (.row [] .rw 0 none)⟩ :: es, sA2, cx2, s3, fun y hy => ?_, ⟨Nat.le_refl _, zi.mono ?_⟩, fun K hK => ?_, z2, (k3.trans (Ext.clear k2')).weak.trans (by rw [<- q3]; exact z3), z4.trans q3, z5.trans q4, z6⟩
  ·rcases List.mem_cons.1 hy with rfl | hy
   ·exact kp
   ·exact z0 y hy
  ·show sA.m.size + 1 <= (m1.new (.row [] .rw 0 none)).size
   rw [new_size]
   have : sA.m.size <= m1.size := hks.size
   omega
  ·unfold runDraw stepDrawI
   rw [hfr]
   have hKe := hK _ List.mem_cons_self
   have hd : doOp E K o sA.tm (barM sA.m sA.m.size) = some (v, m1.new (.row [] .rw 0 none)) := by
    unfold doOp
    rw [aop_def, hop]
    simp only [hcl, hvf]
    exact hKe
   have hst : stepOp E K ops o { sA with m := barM sA.m sA.m.size } = some { sA with tm := tm1, m := m1.new (.row [] .rw 0 none) } := by
    rw [stepOp_def]
    have hw' := pwanted_sim hs hw
    simp only [hw', hd]
    have q1' : putT sA.tm sA.nt o.dst v = some tm1 := q1
    simp only [q1']
   have hsd : stepDraw E K ops false o sA = some { sA with tm := tm1, m := barM (m1.new (.row [] .rw 0 none)) sA.m.bar } := by
    show (match stepOp E K ops o { sA with m := barM sA.m sA.m.size } with
     | some s1 => some { s1 with m := barM s1.m sA.m.bar }
     | none => none) = _
    rw [hst]
   simp only [hsd]
   exact z1 K fun y hy => hK y (List.mem_cons_of_mem _ hy)
theorem barM_cells (m : Mem) (b : Nat) (a : Addr) (n : Nat) : (barM m b).cells a n = m.cells a n := by unfold Mem.cells; rw [barM_get]
theorem barM_new (m : Mem) (b : Nat) (o : AObj) : (barM m b).new o = barM (m.new o) b := by cases m; rfl
theorem append_bar {t : Nat} {t2 : Option Nat} {a : Option Addr} {vy v : Value} {m m' : Mem} {b : Nat} (h : appendV E m t t2 (.slice a 0 0) vy = some (v, m')) : appendV E (barM m b) t t2 (.slice a 0 0) vy = some (v, barM m' b) := by
 have hsrc : ∀ size zeros e x, sourceV E (barM m b) size zeros e x = sourceV E m size zeros e x := fun size zeros e x => by unfold sourceV; simp only [barM_cells]
 have hh : ∀ (m : Mem) s, headV m s a 0 = some [] := fun m s => by cases a <;> rfl
 unfold appendV at h ⊢
 cases ht : E.ty t with
 | none => simp only [ht] at h; cases h
 | some y =>
  simp only [ht] at h ⊢
  cases hd : y.desc with
  | slice e =>
   simp only [hd] at h ⊢
   cases he : E.ty e with
   | none => simp only [he] at h; cases h
   | some ye =>
    simp only [he, hsrc, hh] at h ⊢
    split at h
    ·cases h
    ·rename_i zeros hz
     split at h
     ·cases h
     ·rename_i new n hs
      rw [Bool.cond_eq_ite] at h ⊢
      by_cases hb : Nat.ble (0 + n) (capOf 0) = true
      ·rw [if_pos hb] at h ⊢
       have hn : n = 0 := by
        have := Nat.le_of_ble_eq_true hb
        have h0 : capOf 0 = 0 := rfl
        omega
       subst hn
       cases a with
       | none => simp only [show Nat.beq 0 0 = true from rfl, cond_true] at h ⊢; cases h; rfl
       | some a => simp only [show Nat.beq 0 0 = true from rfl, cond_true] at h ⊢; cases h; rfl
      ·rw [if_neg hb] at h ⊢
       rw [Bool.cond_eq_ite] at h ⊢
       split at h
       ·cases h
       ·rename_i hc
        rw [if_neg hc]
        split at h
        ·rename_i old z h1 h2
         cases h1
         rw [Bool.cond_eq_ite] at h ⊢
         split at h
         ·cases h
         ·rename_i hq
          rw [if_neg hq]
          simp only [show Nat.beq (0 % 2) 0 = true from rfl, cond_true, Am.newRow] at h ⊢
          cases h
          rw [barM_new]
          rfl
        ·cases h
  | _ => simp only [hd] at h; cases h
theorem PD.appQ (hE : EnvOk E P) {cl : Call} {x : Operand} {r : List Operand} {e : Nat} (hfr : (!(cls E o.op).isHard || alone E bs ops i) = false) (hop : o.op = .call cl) (hcl : cl.callee = .builtin .append) (hx : cl.args.toList = x :: r) (hp : pev s.tm x = .lst .full e 0 []) (h : pstep E ops o s = some s1)
  (k : PD E P ops bs (i + 1) l s1 R) : PD E P ops bs i (o :: l) s R := by
 cases hw : pwanted ops s.tm o with
 | none => unfold pstep at h; rw [hw] at h; cases h
 | some b =>
  cases b with
  | false => exact PD.skip hE hw (by unfold pstep at h; rw [hw] at h; exact h) k
  | true =>
   intro hc cx sA hs
   simp only [opsOk, Bool.and_eq_true] at hc
   obtain ⟨sA1, cx1, h1, h2, h3, h4, h5⟩ := pstep_sim hE hs hc.1 h
   obtain ⟨es, sA2, cx2, s2, k0, ki, k1, k2, k3, k4, k5, k6⟩ := k hc.2 cx1 sA1 h2
   rw [h4] at k3
   refine ⟨es, sA2, cx2, s2, k0, ki.mono (step_size hs h1), fun K hK => ?_, k2, h3.trans k3, k4.trans h4, k5.trans h5, k6⟩
   have hbar : sA1.m.bar = sA.m.bar := (stepOp_keep (E := E) (K := manyK []) noK_keep hs.pg.wf (h1 _)).bar
   have hw' := pwanted_sim hs hw
   have hv := h1 K
   rw [stepOp_def] at hv
   simp only [hw'] at hv
   have ho := hc.1
   rw [hop] at ho
   simp only [opOk, Bool.and_eq_true] at ho
   have hargs := ho.1
   rw [hx] at hargs
   simp only [opndsOk, Bool.and_eq_true] at hargs
   have hxv := hs.ev hargs.1
   rw [hp] at hxv
   obtain ⟨a, c, hva, _, _, _, _, hfull⟩ := hxv.lst_view
   have hc0 : c = 0 := hfull rfl
   subst hc0
   have hbi : ∀ {m m' : Mem} {v : Value} {b : Nat}, builtinV E m .append cl.argTypes.toList (cl.args.toList.map (ev sA.tm)) = some (v, m') -> builtinV E (barM m b) .append cl.argTypes.toList (cl.args.toList.map (ev sA.tm)) = some (v, barM m' b) := fun {m m' v b} hb => by
    rw [hx] at hb ⊢
    cases r with
    | nil =>
     cases ht : cl.argTypes.toList with
     | nil => rw [ht] at hb; simp [builtinV] at hb
     | cons t ts => rw [ht] at hb; simp [builtinV] at hb
    | cons y r =>
     cases ht : cl.argTypes.toList with
     | nil => rw [ht] at hb; simp [builtinV] at hb
     | cons t ts =>
      rw [ht] at hb
      simp only [List.map_cons, builtinV, hva] at hb ⊢
      exact append_bar hb
   have hdo : ∀ {m m' : Mem} {v : Value} {b : Nat}, doOp E K o sA.tm m = some (v, m') -> doOp E K o sA.tm (barM m b) = some (v, barM m' b) := fun {m m' v b} hd => by
    unfold doOp at hd ⊢
    rw [aop_def, hop] at hd ⊢
    simp only [hcl] at hd ⊢
    cases hb : builtinV E m .append cl.argTypes.toList (cl.args.toList.map (ev sA.tm)) with
    | none => rw [hb] at hd; cases hd
    | some p =>
     obtain ⟨v1, m1⟩ := p
     rw [hb] at hd
     rw [hbi hb]
     cases hd
     rfl
   cases hd : doOp E K o sA.tm sA.m with
   | none => rw [hd] at hv; cases hv
   | some p =>
    obtain ⟨v, m'⟩ := p
    rw [hd] at hv
    simp only at hv
    cases hq : putT sA.tm sA.nt o.dst v with
    | none => rw [hq] at hv; cases hv
    | some tm1 =>
     rw [hq] at hv
     simp only [Option.some.injEq] at hv
     subst hv
     unfold runDraw stepDrawI
     rw [hfr]
     have hst : stepOp E K ops o { sA with m := barM sA.m sA.m.size } = some { sA with tm := tm1, m := barM m' sA.m.size } := by
      rw [stepOp_def]
      simp only [hw', hdo hd, hq]
     have hmm : barM (barM m' sA.m.size) sA.m.bar = m' := by
      have : m'.bar = sA.m.bar := hbar
      rw [<- this]; cases m'; rfl
     have hsd : stepDraw E K ops false o sA = some { sA with tm := tm1, m := m' } := by
      show (match stepOp E K ops o { sA with m := barM sA.m sA.m.size } with
       | some s1 => some { s1 with m := barM s1.m sA.m.bar }
       | none => none) = _
      rw [hst]
      simp only [hmm]
     simp only [hsd]
     exact k1 K hK
theorem PX.drawn (hE : EnvOk E P) {id : Nat} {ops : Array Oper} (ha : arranged E ops.toList = some l) (hd : drawOk E (befores l []) l = true) (hl : opsOk E.ng l = true) (h : PD E P l (befores l []) 0 l s (Q .normal)) : PX E P rd (.region id ops true) s Q := fun hc cx sA hs hr => by
 obtain ⟨es, sA1, cx1, s1, h1, h2, h3, h4⟩ := h hl cx sA hs
 have hK := manyK_ok h1
 have hKk := manyK_keep h1
 have hrun := h3 (manyK es) (Inc.many h2)
 refine ⟨.normal, sA1, cx1, s1, CanX.drawn hE hK hKk hc ?_, h4⟩
 unfold Am.drawn
 rw [ha]
 simp only [hd]
 exact hrun
end
end Go.Pm