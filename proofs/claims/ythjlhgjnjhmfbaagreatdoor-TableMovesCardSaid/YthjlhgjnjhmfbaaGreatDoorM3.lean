/- TableMoves holds. Part 3 of 29; no condition. -/
import Derived.Test.YthjlhgjnjhmfbaaGreatDoorM2
set_option linter.unusedVariables false
set_option linter.unusedSimpArgs false
noncomputable section
namespace Go.Am
open Go.RowKit
section
variable {E : Env} {P : Program} {ι ι1 ι2 ι0 : Inj} {m m1 m2 m0 : Mem} {w w1 w2 w0 : World}
def TaskOk (E : Env) (P : Program) : Task -> Mem -> Value -> Mem -> Prop
 | .call f args, m, v, m1 => ∀ (ι : Inj) (w : World) (args' : List Value), Rel E ι m w -> VRs ι args args' -> Upon P (Got E ι m w v m1) ((callFunc f args'.toArray).run P w)
 | .round l args, m, v, m1 => ∀ (ι : Inj) (w : World) (args' : List Value) (t : Tgt), Rel E ι m w -> ι l = some t -> VRs ι args args' -> Upon P (Got E ι m w v m1) ((Instr.yield t.blk args'.toArray).run P w)
structure CanT (E : Env) (P : Program) (t : Task) (m : Mem) (v : Value) (m1 : Mem) : Prop where
 ok : TaskOk E P t m v m1
 keep : Wf m -> Keep m m1
structure Entry where
 t : Task
 m : Mem
 v : Value
 m1 : Mem
open Classical in
def manyK : List Entry -> Task -> Mem -> Option (Value × Mem)
 | [], _, _ => none
 | x :: r, t, m => if t = x.t /\ m = x.m then some (x.v, x.m1) else manyK r t m
theorem manyK_some {l : List Entry} {t : Task} {m : Mem} {r : Value × Mem} (h : manyK l t m = some r) : ∃ x ∈ l, x.t = t /\ x.m = m /\ r = (x.v, x.m1) := by
 induction l with
 | nil => cases h
 | cons x l ih =>
  unfold manyK at h
  split at h
  ·rename_i hc; cases h; exact ⟨x, List.mem_cons_self, hc.1.symm, hc.2.symm, rfl⟩
  ·obtain ⟨y, hy, e⟩ := ih h; exact ⟨y, List.mem_cons_of_mem _ hy, e⟩
theorem manyK_ok {l : List Entry} (h : ∀ x ∈ l, CanT E P x.t x.m x.v x.m1) : KOk E P (manyK l) := by
 refine ⟨fun {f args m m1 v ι w args'} hk hR ha => ?_, fun {l' args m m1 v ι w args' t} hk hR hl ha => ?_⟩
 ·obtain ⟨x, hx, e1, e2, e3⟩ := manyK_some hk
  have := (h x hx).ok
  rw [e1, e2] at this
  cases e3
  exact this ι w args' hR ha
 ·obtain ⟨x, hx, e1, e2, e3⟩ := manyK_some hk
  have := (h x hx).ok
  rw [e1, e2] at this
  cases e3
  exact this ι w args' t hR hl ha
theorem manyK_keep {l : List Entry} (h : ∀ x ∈ l, CanT E P x.t x.m x.v x.m1) : KKeep (manyK l) := by
 intro t m v m1 hw hk
 obtain ⟨x, hx, e1, e2, e3⟩ := manyK_some hk
 cases e3
 subst e1 e2
 exact (h x hx).keep hw
theorem noK_ok : KOk E P (manyK []) := manyK_ok (fun x hx => absurd hx (by simp))
theorem noK_keep : KKeep (manyK []) := fun t m v m1 hw h => by simp [manyK] at h
structure CanX (E : Env) (P : Program) (rd : Option Nat) (c : Code) (s : St) (e : AExit) (s1 : St) : Prop where
 ok : ∀ (ι : Inj) (a : Act) (w : World) (r : Option Nat), Rel E ι s.m w -> TR ι s.tm s.nt a.tmps -> DR ι s.df a.defers -> RR ι rd r -> c.wpIn (fen r) 0 P (PX E ι s.m w e s1) a w
 keep : Wf s.m -> Keep s.m s1.m
 nt : s1.nt = s.nt
 df : Wf s.m -> ∀ r ∈ s1.df, r ∈ s.df \/ s.m.size <= r
variable {rd : Option Nat} {s s1 s2 : St} {e : AExit} {a b c : Code}
theorem CanX.pure {c : Code} (h : ∀ (F : Fence) (Q : Exit -> Act -> World -> Prop) (a : Act) (w : World), Q (toExit e) a w -> c.wpIn F 0 P Q a w) : CanX E P rd c s e s :=
 ⟨fun ι a w r hR hT hD _ => h _ _ _ _ (PX.pure hR hT hD), fun _ => Keep.refl _, rfl, fun _ _ h => .inl h⟩
theorem CanX.skip : CanX E P rd .skip s .normal s := CanX.pure fun _ _ _ _ h => wpIn_skip h
theorem CanX.label {l : Nat} : CanX E P rd (.label l) s .normal s := CanX.pure fun _ _ _ _ h => wpIn_label h
theorem CanX.exit {i : Nat} : CanX E P rd (.exit i) s (.exit i) s := CanX.pure fun _ _ _ _ h => wpIn_exit h
theorem CanX.goto {i : Nat} : CanX E P rd (.goto i) s (.goto i) s := CanX.pure fun _ _ _ _ h => wpIn_goto h
theorem CanX.ret : CanX E P rd .ret s .ret s := CanX.pure fun _ _ _ _ h => wpIn_ret h
theorem CanX.seq (h1 : CanX E P rd a s .normal s1) (h2 : CanX E P rd b s1 e s2) : CanX E P rd (.seq a b) s e s2 :=
 ⟨fun ι x w r hR hT hD hr => wpIn_seq (wpIn_mono (h1.ok ι x w r hR hT hD hr) fun e' a' w' hp => by
   obtain ⟨ι1, q1, q2, q3, q4⟩ := hp
   subst q1
   exact wpIn_mono (h2.ok ι1 a' w' r q4.rel (by rw [h1.nt]; rw [h1.nt] at q2; exact q2) q3 (hr.mono q4.sub)) fun e' a' w' hp => hp.after q4),
  fun hw => (h1.keep hw).trans (h2.keep (hw.keep (h1.keep hw))), h2.nt.trans h1.nt, fun hw r hr => by
   have k1 := h1.keep hw
   rcases h2.df (hw.keep k1) r hr with h | h
   ·exact h1.df hw r h
   ·exact .inr (Nat.le_trans k1.size h)⟩
theorem CanX.seq_out (h1 : CanX E P rd a s e s1) (he : e ≠ .normal) : CanX E P rd (.seq a b) s e s1 :=
 ⟨fun ι x w r hR hT hD hr => wpIn_seq (wpIn_mono (h1.ok ι x w r hR hT hD hr) fun e' a' w' hp => by
   obtain ⟨ι1, q1, q2, q3, q4⟩ := hp
   cases e with
   | normal => exact absurd rfl he
   | exit i => subst q1; exact ⟨ι1, rfl, q2, q3, q4⟩
   | goto i => subst q1; exact ⟨ι1, rfl, q2, q3, q4⟩
   | ret => subst q1; exact ⟨ι1, rfl, q2, q3, q4⟩), h1.keep, h1.nt, h1.df⟩
theorem CanX.cond {x : Operand} {v : Bool} (hx : opndOk E.ng x = true) (hv : ev s.tm x = .bool v) (h : CanX E P rd (if v then a else b) s e s1) : CanX E P rd (.cond x a b) s e s1 :=
 ⟨fun ι y w r hR hT hD hr => by
   have hv' := ev_rel hR hT hx
   rw [hv] at hv'
   have he : y.eval x = .bool v := by generalize y.eval x = z at hv'; cases hv'; rfl
   cases v with
   | true => exact wpIn_cond_true he (h.ok ι y w r hR hT hD hr)
   | false => exact wpIn_cond_false he (h.ok ι y w r hR hT hD hr), h.keep, h.nt, h.df⟩
def inBlk (id : Nat) : AExit -> AExit
 | .exit i => bif Nat.beq i id then .normal else .exit i
 | e => e
theorem CanX.block {id : Nat} (h : CanX E P rd a s e s1) : CanX E P rd (.block id a) s (inBlk id e) s1 :=
 ⟨fun ι y w r hR hT hD hr => wpIn_block (wpIn_mono (h.ok ι y w r hR hT hD hr) fun e' a' w' hp => by
   obtain ⟨ι1, q1, q2, q3, q4⟩ := hp
   cases e with
   | normal => subst q1; exact ⟨ι1, rfl, q2, q3, q4⟩
   | goto i => subst q1; exact ⟨ι1, rfl, q2, q3, q4⟩
   | ret => subst q1; exact ⟨ι1, rfl, q2, q3, q4⟩
   | exit i =>
    subst q1
    by_cases hid : i = id
    ·subst hid
     simp only [toExit, Exit.inBlock, if_true]
     exact ⟨ι1, by simp [inBlk, toExit], q2, q3, q4⟩
    ·have hb : Nat.beq i id = false := by
      cases hb : Nat.beq i id with
      | false => rfl
      | true => exact absurd (Nat.eq_of_beq_eq_true hb) hid
     simp only [toExit, Exit.inBlock, if_neg hid]
     exact ⟨ι1, by simp [inBlk, toExit, hb], q2, q3, q4⟩), h.keep, h.nt, h.df⟩
structure CanL (E : Env) (P : Program) (rd : Option Nat) (b : Code) (n : Nat) (s : St) (e : AExit) (s1 : St) : Prop where
 ok : ∀ (ι0 : Inj) (m0 : Mem) (w0 : World) (ι : Inj) (a : Act) (w : World) (r : Option Nat), Rel E ι s.m w -> TR ι s.tm s.nt a.tmps -> DR ι s.df a.defers -> RR ι rd r -> Step E ι0 m0 w0 ι s.m w →
  Code.roundsIn (fen r) 0 P b (PX E ι0 m0 w0 e s1) n a w
 keep : Wf s.m -> Keep s.m s1.m
 nt : s1.nt = s.nt
 df : Wf s.m -> ∀ r ∈ s1.df, r ∈ s.df \/ s.m.size <= r
theorem CanL.out (h : CanX E P rd b s e s1) (he : e ≠ .normal) : CanL E P rd b 1 s e s1 :=
 ⟨fun ι0 m0 w0 ι a w r hR hT hD hr hs => by
  rw [roundsIn_succ]
  refine wpIn_mono (h.ok ι a w r hR hT hD hr) fun e' a' w' hp => ?_
  obtain ⟨ι1, h1, h2, h3, h4⟩ := hp
  cases e with
  | normal => exact absurd rfl he
  | exit i => subst h1; exact ⟨ι1, rfl, h2, h3, hs.trans h4⟩
  | goto i => subst h1; exact ⟨ι1, rfl, h2, h3, hs.trans h4⟩
  | ret => subst h1; exact ⟨ι1, rfl, h2, h3, hs.trans h4⟩, h.keep, h.nt, h.df⟩
theorem CanL.on {n : Nat} (h : CanX E P rd b s .normal s1) (k : CanL E P rd b n s1 e s2) : CanL E P rd b (n + 1) s e s2 :=
 ⟨fun ι0 m0 w0 ι a w r hR hT hD hr hs => by
  rw [roundsIn_succ]
  refine wpIn_mono (h.ok ι a w r hR hT hD hr) fun e' a' w' hp => ?_
  obtain ⟨ι1, h1, h2, h3, h4⟩ := hp
  subst h1
  exact k.ok ι0 m0 w0 ι1 a' w' r h4.rel h2 h3 (hr.mono h4.sub) (hs.trans h4), fun hw => (h.keep hw).trans (k.keep (hw.keep (h.keep hw))), k.nt.trans h.nt, fun hw r hr => by
   have k1 := h.keep hw
   rcases k.df (hw.keep k1) r hr with h' | h'
   ·exact h.df hw r h'
   ·exact .inr (Nat.le_trans k1.size h')⟩
theorem CanL.loop {n : Nat} (h : CanL E P rd b n s e s1) : CanX E P rd (.loop b) s e s1 :=
 ⟨fun ι a w r hR hT hD hr => wpIn_loop_rounds n (h.ok ι s.m w ι a w r hR hT hD hr (Step.refl hR)), h.keep, h.nt, h.df⟩
structure CanS (E : Env) (P : Program) (rd : Option Nat) (b : Code) (n : Nat) (c : Code) (s : St) (e : AExit) (s1 : St) : Prop where
 ok : ∀ (ι0 : Inj) (m0 : Mem) (w0 : World) (ι : Inj) (a : Act) (w : World) (r : Option Nat), Rel E ι s.m w -> TR ι s.tm s.nt a.tmps -> DR ι s.df a.defers -> RR ι rd r -> Step E ι0 m0 w0 ι s.m w →
  scopeIn (fen r) 0 P b (PX E ι0 m0 w0 e s1) n c a w
 keep : Wf s.m -> Keep s.m s1.m
 nt : s1.nt = s.nt
 df : Wf s.m -> ∀ r ∈ s1.df, r ∈ s.df \/ s.m.size <= r
theorem CanS.out (h : CanX E P rd c s e s1) (he : ∀ l rest, e = .goto l -> findLabel b l = some rest -> False) : CanS E P rd b 1 c s e s1 :=
 ⟨fun ι0 m0 w0 ι a w r hR hT hD hr hs => by
  unfold scopeIn
  refine wpIn_mono (h.ok ι a w r hR hT hD hr) fun e' a' w' hp => ?_
  obtain ⟨ι1, h1, h2, h3, h4⟩ := hp
  cases e with
  | normal => subst h1; exact ⟨ι1, rfl, h2, h3, hs.trans h4⟩
  | exit i => subst h1; exact ⟨ι1, rfl, h2, h3, hs.trans h4⟩
  | ret => subst h1; exact ⟨ι1, rfl, h2, h3, hs.trans h4⟩
  | goto l =>
   subst h1
   simp only [toExit]
   cases hf : findLabel b l with
   | some rest => exact (he l rest rfl hf).elim
   | none => exact ⟨ι1, rfl, h2, h3, hs.trans h4⟩, h.keep, h.nt, h.df⟩
theorem CanS.on {n l : Nat} {rest : Code} (h : CanX E P rd c s (.goto l) s1) (hf : findLabel b l = some rest) (k : CanS E P rd b n rest s1 e s2) : CanS E P rd b (n + 1) c s e s2 :=
 ⟨fun ι0 m0 w0 ι a w r hR hT hD hr hs => by
  unfold scopeIn
  refine wpIn_mono (h.ok ι a w r hR hT hD hr) fun e' a' w' hp => ?_
  obtain ⟨ι1, h1, h2, h3, h4⟩ := hp
  subst h1
  simp only [toExit, hf]
  exact k.ok ι0 m0 w0 ι1 a' w' r h4.rel h2 h3 (hr.mono h4.sub) (hs.trans h4), fun hw => (h.keep hw).trans (k.keep (hw.keep (h.keep hw))), k.nt.trans h.nt, fun hw r hr => by
   have k1 := h.keep hw
   rcases k.df (hw.keep k1) r hr with h' | h'
   ·exact h.df hw r h'
   ·exact .inr (Nat.le_trans k1.size h')⟩
theorem CanS.scope {n : Nat} (h : CanS E P rd b n b s e s1) : CanX E P rd (.scope b) s e s1 :=
 ⟨fun ι a w r hR hT hD hr => wpIn_scope_rounds n (h.ok ι s.m w ι a w r hR hT hD hr (Step.refl hR)), h.keep, h.nt, h.df⟩
def CanO (E : Env) (P : Program) (ops : List Oper) : List Oper -> St -> St -> Prop
 | [], s, s1 => s = s1
 | o :: l, s, s2 => ∃ K s1, KOk E P K /\ KKeep K /\ stepOp E K ops o s = some s1 /\ CanO E P ops l s1 s2
theorem CanO.keep {ops : List Oper} : ∀ {l : List Oper} {s s1 : St}, CanO E P ops l s s1 -> Wf s.m -> Keep s.m s1.m
 | [], s, s1, h, hw => by cases h; exact Keep.refl _
 | o :: l, s, s2, h, hw => by
  obtain ⟨K, s1, _, hk, hs, hr⟩ := h
  have := stepOp_keep hk hw hs
  exact this.trans (CanO.keep hr (hw.keep this))
theorem CanO.nt {ops : List Oper} : ∀ {l : List Oper} {s s1 : St}, CanO E P ops l s s1 -> s1.nt = s.nt /\ s1.df = s.df
 | [], s, s1, h => by cases h; exact ⟨rfl, rfl⟩
 | o :: l, s, s2, h => by
  obtain ⟨K, s1, _, hk, hs, hr⟩ := h
  have h1 := stepOp_nt hs
  have h2 := CanO.nt hr
  exact ⟨h2.1.trans h1.1, h2.2.trans h1.2⟩
theorem CanO.ok (hE : EnvOk E P) {ops : Array Oper} {r : Option Nat} {Q : Exit -> Act -> World -> Prop} : ∀ (l : List Oper) (i : Nat) (ι : Inj) (s s1 : St) (a : Act) (w : World),
  ops.toList.drop i = l -> opsOk E.ng l = true -> CanO E P ops.toList l s s1 -> Rel E ι s.m w -> TR ι s.tm s.nt a.tmps -> DR ι s.df a.defers →
  (∀ ι1 a1 w1, Step E ι s.m w ι1 s1.m w1 -> TR ι1 s1.tm s1.nt a1.tmps -> DR ι1 s1.df a1.defers -> Q .normal a1 w1) →
  wpOpsIn (fen r) 0 P ops Q (List.range' i l.length) a w := by
 intro l
 induction l with
 | nil =>
  intro i ι s s1 a w _ _ hr h hT hD hn
  cases hr
  exact hn ι a w (Step.refl h) hT hD
 | cons o l ih =>
  intro i ι s s1 a w hl ho hr h hT hD hn
  simp only [opsOk, Bool.and_eq_true] at ho
  have hoi : ops[i]? = some o := by
   have : (ops.toList.drop i)[0]? = some o := by rw [hl]; rfl
   simpa using this
  have hl' : ops.toList.drop (i + 1) = l := by
   have : (ops.toList.drop i).drop 1 = l := by rw [hl]; rfl
   rw [List.drop_drop] at this
   exact this
  obtain ⟨K, s2, hK, _, hs, hrest⟩ := hr
  simp only [List.length_cons, List.range'_succ, wpOpsIn, hoi]
  exact stepOp_ok hE hK ho.1 hs h hT hD fun ι1 a1 w1 hst hT1 hD1 =>
   ih (i + 1) ι1 s2 s1 a1 w1 hl' ho.2 hrest hst.rel hT1 hD1 fun ι2 a2 w2 hst2 hT2 hD2 => hn ι2 a2 w2 (hst.trans hst2) hT2 hD2
theorem CanO.region (hE : EnvOk E P) {ops : Array Oper} {id : Nat} (hc : opsOk E.ng ops.toList = true) (h : CanO E P ops.toList ops.toList s s1) : CanX E P rd (.region id ops false) s .normal s1 :=
 ⟨fun ι a w r hR hT hD hr => by
  refine wpIn_region ?_
  have := CanO.ok hE (r := r) (Q := PX E ι s.m w .normal s1) ops.toList 0 ι s s1 a w rfl hc h hR hT hD fun ι1 a1 w1 h1 h2 h3 => ⟨ι1, rfl, h2, h3, h1⟩
  rw [List.range_eq_range']
  simpa using this, fun hw => h.keep hw, h.nt.1, fun _ r hr => .inl (by rw [h.nt.2] at hr; exact hr)⟩
theorem runDraw_nt {K : Task -> Mem -> Option (Value × Mem)} {ops : List Oper} {bs : List Nat} : ∀ (l : List Oper) (i : Nat) (s s1 : St), runDraw E K ops bs i l s = some s1 -> s1.nt = s.nt /\ s1.df = s.df := by
 intro l
 induction l with
 | nil => intro i s s1 h; cases h; exact ⟨rfl, rfl⟩
 | cons o l ih =>
  intro i s s1 h
  unfold runDraw at h
  split at h
  ·rename_i s2 hs
   have key : ∀ f, stepDraw E K ops f o s = some s2 -> s2.nt = s.nt /\ s2.df = s.df := by
    intro f hs
    unfold stepDraw at hs
    split at hs
    ·exact stepOp_nt hs
    ·split at hs
     ·rename_i s3 h3
      cases hs
      have := stepOp_nt h3
      exact ⟨this.1, this.2⟩
     ·cases hs
   have h1 : s2.nt = s.nt /\ s2.df = s.df := by
    rcases stepDrawI_cases hs with hs | ⟨_, hs⟩
    ·exact key _ hs
    ·exact key _ hs
   have h2 := ih _ _ _ h
   exact ⟨h2.1.trans h1.1, h2.2.trans h1.2⟩
  ·cases h
theorem drawn_nt {K : Task -> Mem -> Option (Value × Mem)} {ops : List Oper} (h : Am.drawn E K ops s = some s1) : s1.nt = s.nt /\ s1.df = s.df := by
 unfold Am.drawn at h
 split at h
 ·split at h
  ·exact runDraw_nt _ _ _ _ h
  ·cases h
 ·cases h
theorem CanX.drawn (hE : EnvOk E P) {K : Task -> Mem -> Option (Value × Mem)} (hK : KOk E P K) (hkeep : KKeep K) {ops : Array Oper} {id : Nat} (hc : opsOk E.ng ops.toList = true) (h : Am.drawn E K ops.toList s = some s1) :
    CanX E P rd (.region id ops true) s .normal s1 :=
  ⟨fun ι a w r hR hT hD hr => drawn_ok hE hK hkeep hc h hR hT hD fun ι1 a1 w1 h1 h2 h3 => ⟨ι1, rfl, h2, h3, h1⟩,
   fun hw => drawn_keep hkeep hw h, (drawn_nt h).1, fun _ r hr => .inl (by rw [(drawn_nt h).2] at hr; exact hr)⟩
def pendExit : Option Code -> Option AExit
 | none => some .normal
 | some c => jumpOf c
theorem CanX.rangeFunc (hE : EnvOk E P) {f : Operand} {ps : Array Tmp} {asg body : Code} {g : Nat} {x : Fun} {first captured : Array Value} {L : Nat} {marks : List Nat} {m1 m2 m3 : Mem} {v : Value} {pend : Option Code}
  (hc : codeOk E.ng (.rangeFunc f ps asg body) = true) (hf : ev s.tm f = .func (.func g) first captured) (hg : E.fn g = some x) (he : enterLoopV s rd ps.toList asg body = some (L, marks, m1))
  (hk : CanT E P (.call g (first.toList ++ (.func (.yield L) #[] #[] :: captured.toList))) m1 v m2) (hd : endLoopV m2 L = some (pend, m3))
  (hj : pendExit pend = some e) : CanX E P rd (.rangeFunc f ps asg body) s e { s with df := marks ++ s.df, m := m3 } := by
 have hK := manyK_ok (E := E) (P := P) (l := [⟨_, _, _, _⟩]) (fun y hy => by rw [List.mem_singleton.1 hy]; exact hk)
 have hKk := manyK_keep (E := E) (P := P) (l := [⟨_, _, _, _⟩]) (fun y hy => by rw [List.mem_singleton.1 hy]; exact hk)
 have hx : exec E (manyK [⟨.call g (first.toList ++ (.func (.yield L) #[] #[] :: captured.toList)), m1, v, m2⟩]) rd 1 (.rangeFunc f ps asg body) s = some (e, { s with df := marks ++ s.df, m := m3 }) := by
  rw [exec_succ]
  simp only [hf, hg, he, manyK, and_self, if_true, hd]
  cases pend with
  | none => simp only [pendExit] at hj ⊢; cases hj; rfl
  | some c => simp only [pendExit] at hj ⊢; rw [hj]
 exact ⟨fun ι a w r hR hT hD hr => exec_ok hE hK hKk 1 _ s e _ ι a w r hc hx hR hT hD hr, fun hw => exec_keep hKk 1 _ s e _ hw hx, rfl, fun hw r hr => by
  have hr' : r ∈ marks ++ s.df := hr
  rcases List.mem_append.1 hr' with h | h
  ·unfold enterLoopV at he
   split at he
   ·cases he; rw [List.mem_singleton.1 h]; exact .inr (Nat.le_refl _)
   ·split at he
    ·cases he; cases h
    ·cases he
  ·exact .inl h⟩
theorem CanT.call (hE : EnvOk E P) {f : Nat} {x : Fun} {args : List Value} {m m1 : Mem} {e : AExit} {s : St} {vs : List Value} (hf : E.fn f = some x) (hle : args.length <= x.ntmps)
  (h : CanX E P none x.body { tm := argsT 0 args .nil, nt := x.ntmps, df := [], m := m } e s) (he : e = .normal \/ e = .ret) (ht : takeMarks s.df s.m = some m1) (hv : resultsV E s.tm m1 x.results = some vs) :
  CanT E P (.call f args) m (packV vs) m1 := by
 obtain ⟨F, hF, hb, hnt, hres, _, hco⟩ := hE.fn f x hf
 refine ⟨fun ι w args' hR ha => ?_, fun hw => ?_⟩
 ·rw [callFunc_enter hE hf]
  refine callsIn_of_wp_marks hF hb trivial ?_
  have hT := args_TR ha hle
  rw [<- hnt] at hT
  refine wpIn_mono (h.ok ι { tmps := args'.toArray ++ Array.replicate (F.ntmps - args'.toArray.size) undef, defers := [] } w none hR (by rw [<- hnt]; exact hT) .nil trivial) fun e' a' w' hp => ?_
  obtain ⟨ι1, h1, h2, h3, h4⟩ := hp
  have fin : LeavesInM Fence.wide 0 P F a'.tmps (retOnly (Got E ι m w (packV vs) m1)) a'.defers .returning w' :=
   leaves_ok hE h3 ht h4.rel h2 (by rw [hres]; exact hv) fun v' w1 hv' hst => ⟨ι1, hv', h4.trans hst⟩
  rcases he with rfl | rfl
  ·subst h1; exact fin
  ·subst h1; exact fin
 ·have h1 := h.keep hw
  exact h1.trans (takeMarks_keep _ _ _ (hw.keep h1) ht)
theorem CanT.round (hE : EnvOk E P) {l : Nat} {args : List Value} {m : Mem} {pend pend2 pend3 : Option Code} {tm tm1 tm2 tm3 : Tr Value} {nt nt2 nt3 : Nat} {ps ps2 ps3 : List Tmp} {asg body asg2 body2 asg3 body3 : Code} {D D2 D3 : Nat} {st3 : LoopState} {s1 s2 : St} {e : AExit}
  (hg : m.get l = some (.loop .ready pend tm nt ps asg body D)) (hp : paramsT ps args tm nt = some tm1)
  (h1 : CanX E P (some l) asg { tm := tm1, nt := nt, df := [], m := m } .normal s1)
  (hg2 : s1.m.get l = some (.loop .ready pend2 tm2 nt2 ps2 asg2 body2 D2)) (hb1 : s1.m.bar <= l)
  (h2 : CanX E P (some l) body { s1 with m := s1.m.upd l (some (.loop .busy pend2 tm2 nt2 ps2 asg2 body2 D2)) } e s2)
  (hg3 : s2.m.get l = some (.loop st3 pend3 tm3 nt3 ps3 asg3 body3 D3)) (hb2 : s2.m.bar <= l) :
  CanT E P (.round l args) m (.bool (exitJump e).isNone) (s2.m.upd l (some (.loop (match exitJump e with | none => .ready | some _ => .done) (exitJump e) tm3 nt3 ps3 asg3 body3 D3))) := by
 refine ⟨fun ι w args' t hR hl ha => ?_, fun hw => ?_⟩
 ·obtain ⟨h0, hca, hcb, fn, tmps, D', hh, hT⟩ := hR.obj _ _ _ hl hg
  obtain ⟨hlen, hT1⟩ := params_TR ha hp hT
  rw [run_yield hh (by simp [hlen])]
  refine roundIn_of_wpIn (F := Fence.wide) trivial ?_
  have etm : ((ps.toArray.zip args'.toArray).foldl (fun tmps (x : Tmp × Value) => tmps.setIfInBounds x.1 x.2) tmps) = ((ps.zip args').foldl (fun tmps (p : Tmp × Value) => tmps.setIfInBounds p.1 p.2) tmps) := by
   simp
  have hrr : RR ι (some l) (some t.blk) := ⟨t, hl, rfl⟩
  have hT1' : TR ι tm1 nt ({ tmps := ((ps.toArray.zip args'.toArray).foldl (fun tmps (x : Tmp × Value) => tmps.setIfInBounds x.1 x.2) tmps), defers := [] } : Act).tmps := by
   show TR ι tm1 nt _
   rw [etm]; exact hT1
  refine wpIn_mono (h1.ok ι _ w (some t.blk) hR hT1' .nil hrr) fun e' a' w' hpx => ?_
  obtain ⟨ι1, e1, q2, q3, q4⟩ := hpx
  subst e1
  have hl1 := q4.sub _ _ hl
  obtain ⟨k0, kca, kcb, fn2, tmps2, D2', kh, kT⟩ := q4.rel.obj _ _ _ hl1 hg2
  have hst2 : Step E ι1 s1.m w' ι1 (s1.m.upd l (some (.loop .busy pend2 tm2 nt2 ps2 asg2 body2 D2))) (w'.putObj t.blk (.loop { state := .busy, pending := pend2, fn := fn2, tmps := tmps2, params := ps2.toArray, assign := asg2, body := body2, defers := D2' })) :=
   Step.upd q4.rel hl1 hg2 (fun _ _ _ _ e => by cases e) (fun _ _ _ _ e => by cases e) hb1 (fun c hc => World.putObj_heap_other hc) World.putObj_size rfl rfl rfl
    ⟨k0, kca, kcb, fn2, tmps2, D2', World.putObj_heap_same (q4.rel.dom _ _ hl1).2, kT⟩
  refine ⟨_, run_beginRound kh rfl, ?_⟩
  refine wpIn_mono (h2.ok ι1 a' _ (some t.blk) hst2.rel q2 q3 ⟨t, hl1, rfl⟩) fun e' a'' w'' hpy => ?_
  obtain ⟨ι2, e2, z2, z3, z4⟩ := hpy
  subst e2
  have hl2 := z4.sub _ _ hl1
  obtain ⟨g0, gca, gcb, fn3, tmps3, D3', gh, gT⟩ := z4.rel.obj _ _ _ hl2 hg3
  have fin : ∀ (jump : Option Code) (st4 : LoopState), (if jump.isNone then .ready else .done) = st4 →
    Step E ι2 s2.m w'' ι2 (s2.m.upd l (some (.loop st4 jump tm3 nt3 ps3 asg3 body3 D3))) (w''.putObj t.blk (.loop { state := if jump.isNone then .ready else .done, pending := jump, fn := fn3, tmps := tmps3, params := ps3.toArray, assign := asg3, body := body3, defers := D3' })) := by
   intro jump st4 hst4
   subst hst4
   exact Step.upd z4.rel hl2 hg3 (fun _ _ _ _ e => by cases e) (fun _ _ _ _ e => by cases e) hb2 (fun c hc => World.putObj_heap_other hc) World.putObj_size rfl rfl rfl
    ⟨g0, gca, gcb, fn3, tmps3, D3', World.putObj_heap_same (z4.rel.dom _ _ hl2).2, gT⟩
  have all := (q4.trans hst2).trans z4
  cases e with
  | normal => exact ⟨_, _, run_endRound none gh, ι2, .bool true, all.trans (fin none .ready rfl)⟩
  | exit i => exact ⟨_, _, run_endRound (some (.exit i)) gh, ι2, .bool false, all.trans (fin (some (.exit i)) .done rfl)⟩
  | goto i => exact ⟨_, _, run_endRound (some (.goto i)) gh, ι2, .bool false, all.trans (fin (some (.goto i)) .done rfl)⟩
  | ret => exact ⟨_, _, run_endRound (some .ret) gh, ι2, .bool false, all.trans (fin (some .ret) .done rfl)⟩
 ·have k1 := h1.keep hw
  have w1 := hw.keep k1
  have k2 : Keep s1.m (s1.m.upd l (some (.loop .busy pend2 tm2 nt2 ps2 asg2 body2 D2))) := Keep.upd w1 hb1 _
  have w2 := w1.keep k2
  have k3 := h2.keep w2
  have w3 := w2.keep k3
  exact ((k1.trans k2).trans k3).trans (Keep.upd w3 hb2 _)
theorem CanT.ext (hX : XTab E P) {f : Nat} {g : List Value -> Mem -> Option (Value × Mem)} (hg : E.ext f = some g) {args : List Value} {m m1 : Mem} {v : Value} (h : g args m = some (v, m1)) : CanT E P (.call f args) m v m1 :=
 ⟨fun ι w args' hR ha => hX.ok hg h hR ha, fun hw => hX.keep f g args m v m1 hg hw h⟩
end
end Go.Am
end
namespace Go.Pm
open Go.RowKit Go.Am
inductive Tok where
 | no | full | id (k i : Nat)
inductive PV where
 | v (x : Value)
 | junk
 | lst (t : Tok) (es n : Nat) (cs : List PV)
 | dp (cs : List PV) (o : Nat)
 | ptr (k i o : Nat)
 | sl (k i o n c : Nat)
 | agg (cs : List PV)
 | tup (cs : List PV)
 | fn (f : Nat) (first captured : List PV)
 | yld (k i : Nat)
 | iface (t : Nat) (x : PV)
inductive Wm where
 | ro | held | rw | own | hown
 deriving DecidableEq
inductive Obj where
 | row (w : Wm) (es : Nat) (cs : List PV)
 | str (w : Bool) (s : ByteArray) (pos : Nat)
 | loop (w : Bool) (st : LoopState) (pend : Option Code) (tm : List (Nat × PV)) (nt : Nat) (ps : List Tmp) (asg body : Code)
 | grow (n es : Nat)
 | gone
abbrev PMem := Nat -> Nat -> Option Obj
inductive Role where
 | none
 | im (cells : List Value)
 | ob (k i : Nat)
 | mk
 | dead
structure Cx where
 at_ : Nat -> Nat -> Option Nat
 role : Nat -> Role
 tk : Nat -> Nat -> Option (Option Nat × Nat × Nat)
 nk : Nat
def TokV (r : Option Nat) (n es : Nat) (v : Value) : Prop :=
 match r with
 | none => ∃ a, v = .slice a 0 0
 | some r => v = .slice (some ⟨r, 0, none⟩) n (loCap n es)
mutual
inductive PR (cx : Cx) : PV -> Value -> Prop where
 | v {x : Value} (h : flat x = true) : PR cx (.v x) x
 | junk (x : Value) : PR cx .junk x
 | l0 (es : Nat) (a : Option Addr) (c : Nat) (he : c % 2 = 0 \/ esOf c = es) : PR cx (.lst .no es 0 []) (.slice a 0 c)
 | f0 (es : Nat) (a : Option Addr) : PR cx (.lst .full es 0 []) (.slice a 0 0)
 | lno {es n : Nat} {cs : List PV} {r off c : Nat} {cells : List Value} (hr : cx.role r = .im cells) (hl : off + cs.length <= cells.length) (hs : PRs cx cs ((cells.drop off).take cs.length)) (hn : cs.length = n * es) (hc : n <= capOf c)
   (he : c % 2 = 0 \/ esOf c = es) : PR cx (.lst .no es n cs) (.slice (some ⟨r, off, none⟩) n c)
 | lfull {es n : Nat} {cs : List PV} {r off : Nat} {cells : List Value} (hr : cx.role r = .im cells) (hl : off + cs.length <= cells.length) (hs : PRs cx cs ((cells.drop off).take cs.length)) (hn : cs.length = n * es) :
   PR cx (.lst .full es n cs) (.slice (some ⟨r, off, none⟩) n (2 * n))
 | ltok {k i n n0 es : Nat} {r0 : Option Nat} {cs : List PV} {v : Value} (h : PR cx (.lst .no es n cs) v) (ht : cx.tk k i = some (r0, n0, es)) (hn : n <= n0) (he : n = n0 -> TokV r0 n0 es v) : PR cx (.lst (.id k i) es n cs) v
 | dp {cs : List PV} {o r off : Nat} {cells : List Value} (hr : cx.role r = .im cells) (hl : off + cs.length <= cells.length) (hs : PRs cx cs ((cells.drop off).take cs.length)) :
   PR cx (.dp cs o) (.pointer (some ⟨r, off + o, none⟩))
 | ptr {k i o r : Nat} (h : cx.at_ k i = some r) : PR cx (.ptr k i o) (.pointer (some ⟨r, o, none⟩))
 | sl {k i o n c r : Nat} (h : cx.at_ k i = some r) : PR cx (.sl k i o n c) (.slice (some ⟨r, o, none⟩) n c)
 | agg {cs : List PV} {x : Array Value} (h : PRs cx cs x.toList) : PR cx (.agg cs) (.agg x)
 | tup {cs : List PV} {x : Array Value} (h : PRs cx cs x.toList) : PR cx (.tup cs) (.tuple x)
 | fn {f : Nat} {a b : List PV} {x y : Array Value} (h1 : PRs cx a x.toList) (h2 : PRs cx b y.toList) : PR cx (.fn f a b) (.func (.func f) x y)
 | yld {k i r : Nat} (h : cx.at_ k i = some r) : PR cx (.yld k i) (.func (.yield r) #[] #[])
 | iface {t : Nat} {x : PV} {v : Value} (h : PR cx x v) : PR cx (.iface t x) (.iface t v)
inductive PRs (cx : Cx) : List PV -> List Value -> Prop where
 | nil : PRs cx [] []
 | cons {x : PV} {v : Value} {l : List PV} {l' : List Value} (h : PR cx x v) (hs : PRs cx l l') : PRs cx (x :: l) (v :: l')
end
structure CxV (cx cx' : Cx) : Prop where
 at_ : ∀ k i r, cx.at_ k i = some r -> cx'.at_ k i = some r
 im : ∀ r cells, cx.role r = .im cells -> cx'.role r = .im cells
 tk : ∀ k i r n es, cx.tk k i = some (r, n, es) -> ∃ r' n' es', cx'.tk k i = some (r', n', es') /\ ((r' = r /\ n' = n /\ es' = es) \/ (n < n' /\ es' = es))
structure CxLe (cx cx' : Cx) : Prop where
 at_ : ∀ k i r, cx.at_ k i = some r -> cx'.at_ k i = some r
 im : ∀ r cells, cx.role r = .im cells -> cx'.role r = .im cells
 mks : ∀ r, cx.role r = .mk -> cx'.role r = .mk
 dd : ∀ r, cx.role r = .dead -> cx'.role r = .dead
 tk : ∀ k i r n es, cx.tk k i = some (r, n, es) -> ∃ r' n' es', cx'.tk k i = some (r', n', es') /\ ((r' = r /\ n' = n /\ es' = es) \/ (n < n' /\ es' = es))
 nk : cx.nk <= cx'.nk
theorem CxLe.refl (cx : Cx) : CxLe cx cx := ⟨fun _ _ _ h => h, fun _ _ h => h, fun _ h => h, fun _ h => h, fun _ _ r n es h => ⟨r, n, es, h, .inl ⟨rfl, rfl, rfl⟩⟩, Nat.le_refl _⟩
theorem CxLe.trans {a b c : Cx} (h : CxLe a b) (k : CxLe b c) : CxLe a c where
 at_ := fun x i r e => k.at_ _ _ _ (h.at_ _ _ _ e)
 im := fun r cs e => k.im _ _ (h.im _ _ e)
 mks := fun r e => k.mks _ (h.mks _ e)
 dd := fun r e => k.dd _ (h.dd _ e)
 tk := fun x i r n es e => by
  obtain ⟨r1, n1, es1, e1, d1⟩ := h.tk x i r n es e
  obtain ⟨r2, n2, es2, e2, d2⟩ := k.tk x i r1 n1 es1 e1
  refine ⟨r2, n2, es2, e2, ?_⟩
  rcases d1 with ⟨rfl, rfl, rfl⟩ | ⟨d1, rfl⟩
  ·exact d2
  ·rcases d2 with ⟨rfl, rfl, rfl⟩ | ⟨d2, rfl⟩
   ·exact .inr ⟨d1, rfl⟩
   ·exact .inr ⟨Nat.lt_trans d1 d2, rfl⟩
 nk := Nat.le_trans h.nk k.nk
mutual
theorem PR.monoV {cx cx' : Cx} (h : CxV cx cx') : ∀ {x : PV} {v : Value}, PR cx x v -> PR cx' x v
 | _, _, .v e => .v e
 | _, _, .junk x => .junk x
 | _, _, .l0 es a c he => .l0 es a c he
 | _, _, .f0 es a => .f0 es a
 | _, _, .lno hr hl hs hn hc he => .lno (h.im _ _ hr) hl (PRs.monoV h hs) hn hc he
 | _, _, .lfull hr hl hs hn => .lfull (h.im _ _ hr) hl (PRs.monoV h hs) hn
 | _, _, .ltok (k := k) (i := i) (n := n) (n0 := n0) (r0 := r0) (es := es) e ht hn he => by
  obtain ⟨r', n', es', e', d⟩ := h.tk _ _ _ _ _ ht
  have hes : es' = es := by
   rcases d with ⟨_, _, h1⟩ | ⟨_, h1⟩ <;> exact h1
  rw [hes] at e'
  refine .ltok (PR.monoV h e) e' ?_ ?_
  ·rcases d with ⟨_, rfl, _⟩ | ⟨d, _⟩
   ·exact hn
   ·omega
  ·intro hh
   rcases d with ⟨h1, h2, _⟩ | ⟨d, _⟩
   ·rw [h1, h2]; exact he (by omega)
   ·omega
 | _, _, .dp hr hl hs => .dp (h.im _ _ hr) hl (PRs.monoV h hs)
 | _, _, .ptr e => .ptr (h.at_ _ _ _ e)
 | _, _, .sl e => .sl (h.at_ _ _ _ e)
 | _, _, .agg e => .agg (PRs.monoV h e)
 | _, _, .tup e => .tup (PRs.monoV h e)
 | _, _, .fn e1 e2 => .fn (PRs.monoV h e1) (PRs.monoV h e2)
 | _, _, .yld e => .yld (h.at_ _ _ _ e)
 | _, _, .iface e => .iface (PR.monoV h e)
theorem PRs.monoV {cx cx' : Cx} (h : CxV cx cx') : ∀ {l : List PV} {l' : List Value}, PRs cx l l' -> PRs cx' l l'
 | _, _, .nil => .nil
 | _, _, .cons a b => .cons (PR.monoV h a) (PRs.monoV h b)
end
theorem CxLe.v {cx cx' : Cx} (h : CxLe cx cx') : CxV cx cx' := ⟨h.at_, h.im, h.tk⟩
theorem PR.mono {cx cx' : Cx} (h : CxLe cx cx') {x : PV} {v : Value} (k : PR cx x v) : PR cx' x v := k.monoV h.v
theorem PRs.mono {cx cx' : Cx} (h : CxLe cx cx') {l : List PV} {l' : List Value} (k : PRs cx l l') : PRs cx' l l' := k.monoV h.v
section
variable {cx : Cx}
theorem PRs.length {l : List PV} {l' : List Value} (h : PRs cx l l') : l.length = l'.length := by
 induction l generalizing l' with
 | nil => cases h; rfl
 | cons a l ih => cases h with | cons h hs => simp [ih hs]
theorem PRs.get {l : List PV} {l' : List Value} (h : PRs cx l l') {i : Nat} {v : PV} (hv : l[i]? = some v) : ∃ v', l'[i]? = some v' /\ PR cx v v' := by
 induction l generalizing l' i with
 | nil => simp at hv
 | cons a l ih =>
  cases h with
  | cons h hs =>
   cases i with
   | zero => simp at hv; subst hv; exact ⟨_, rfl, h⟩
   | succ i => simp at hv; simpa using ih hs hv
theorem PRs.append {a b : List PV} {a' b' : List Value} (h : PRs cx a a') (k : PRs cx b b') : PRs cx (a ++ b) (a' ++ b') := by
 induction a generalizing a' with
 | nil => cases h; exact k
 | cons x a ih => cases h with | cons h hs => exact .cons h (ih hs)
theorem PRs.drop {a : List PV} {a' : List Value} (h : PRs cx a a') : ∀ n : Nat, PRs cx (a.drop n) (a'.drop n) := by
 induction a generalizing a' with
 | nil => cases h; intro n; simp; exact .nil
 | cons x a ih =>
  cases h with
  | cons h hs =>
   intro n
   cases n with
   | zero => exact .cons h hs
   | succ n => simpa using ih hs n
theorem PRs.take {a : List PV} {a' : List Value} (h : PRs cx a a') : ∀ n : Nat, PRs cx (a.take n) (a'.take n) := by
 induction a generalizing a' with
 | nil => cases h; intro n; simp; exact .nil
 | cons x a ih =>
  cases h with
  | cons h hs =>
   intro n
   cases n with
   | zero => exact .nil
   | succ n => simpa using .cons h (ih hs n)
theorem PRs.snoc {a : List PV} {a' : List Value} {v : PV} {v' : Value} (h : PRs cx a a') (hv : PR cx v v') : PRs cx (a ++ [v]) (a' ++ [v']) := h.append (.cons hv .nil)
theorem PRs.map {α : Type} {f : α -> PV} {g : α -> Value} : ∀ {l : List α}, (∀ x ∈ l, PR cx (f x) (g x)) -> PRs cx (l.map f) (l.map g)
 | [], _ => .nil
 | x :: l, h => .cons (h x List.mem_cons_self) (PRs.map fun y hy => h y (List.mem_cons_of_mem _ hy))
theorem PRs.one {x : PV} {v : Value} (h : PR cx x v) : PRs cx [x] [v] := .cons h .nil
theorem PR.und : PR cx (.tup []) undefV := .tup .nil
end
def ofC : Value -> PV
 | .slice none n c => if n = 0 /\ c = 0 then .lst .full 0 0 [] else .v (.slice none n c)
 | x => .v x
def ofV : Value -> PV
 | .agg cs => .agg (cs.toList.map ofC)
 | .tuple cs => .tup (cs.toList.map ofC)
 | .iface t x => .iface t (ofC x)
 | .func (.func f) x y => .fn f (x.toList.map ofC) (y.toList.map ofC)
 | x => ofC x
theorem PR.ofC {cx : Cx} {x : Value} (h : flat x = true) : PR cx (Pm.ofC x) x := by
 unfold Pm.ofC
 split
 ·split
  ·rename_i hc
   obtain ⟨rfl, rfl⟩ := hc
   exact .f0 0 none
  ·exact .v h
 ·exact .v h
theorem PRs.ofC {cx : Cx} : ∀ {l : List Value}, flats l = true -> PRs cx (l.map Pm.ofC) l
 | [], _ => .nil
 | v :: r, h => by simp [Am.flats] at h; exact .cons (PR.ofC h.1) (PRs.ofC h.2)
theorem PR.ofV {cx : Cx} {x : Value} (h : closedV x = true) : PR cx (Pm.ofV x) x := by
 unfold closedV at h
 split at h
 ·exact .agg (PRs.ofC h)
 ·exact .tup (PRs.ofC h)
 ·exact .iface (PR.ofC h)
 ·simp at h; exact .fn (PRs.ofC h.1) (PRs.ofC h.2)
 ·rename_i h1 h2 h3 h4
  unfold Pm.ofV
  split
  ·exact absurd rfl (h1 _)
  ·exact absurd rfl (h2 _)
  ·exact absurd rfl (h3 _ _)
  ·exact absurd rfl (h4 _ _ _)
  ·exact PR.ofC h
def tget : List (Nat × PV) -> Nat -> PV
 | [], _ => .junk
 | (j, v) :: r, i => bif Nat.beq i j then v else tget r i
theorem tget_cons (j : Nat) (v : PV) (r : List (Nat × PV)) (i : Nat) : tget ((j, v) :: r) i = if i = j then v else tget r i := by
 by_cases h : i = j
 ·subst h; simp [tget]
 ·have : Nat.beq i j = false := by
   cases e : Nat.beq i j with
   | false => rfl
   | true => exact absurd (Nat.eq_of_beq_eq_true e) h
  simp [tget, h, this]
def pev (tm : List (Nat × PV)) : Operand -> PV
 | .tmp i => tget tm i
 | .const v => ofV v
 | .global g => .ptr 0 g 0
 | .func f => .fn f [] []
inductive Shade (cx : Cx) (m : Mem) : Nat -> Option Nat -> Prop where
 | none {b : Nat} : Shade cx m b none
 | gone {b p : Nat} (hp : p < b) (hd : cx.role p = .dead) (hb : m.bar <= p) (hg : m.get p = .none) : Shade cx m b (some p)
 | more {b p es : Nat} {cs : List Value} {q : Option Nat} (hp : p < b) (hd : cx.role p = .dead) (hb : m.bar <= p) (hg : m.get p = some (.row cs .cl es q)) (r : Shade cx m p q) : Shade cx m b (some p)
def OG (cx : Cx) (m : Mem) (k i : Nat) : Obj -> Prop
 | .gone => k < cx.nk
 | .row w es cs => ∃ r vs md q, cx.at_ k i = some r /\ m.get r = some (.row vs md es q) /\ PRs cx cs vs /\ (w ≠ .ro -> md = .rw /\ (match w with | .own => m.bar <= r /\ Shade cx m r q | .hown => True | _ => q = none)) /\ (w = .rw -> m.bar <= r)
 | .str w s pos => ∃ r, cx.at_ k i = some r /\ m.get r = some (.str s pos) /\ (w = true -> m.bar <= r)
 | .loop w st pend tm nt ps asg body => ∃ r tmA D, cx.at_ k i = some r /\ m.get r = some (.loop st pend tmA nt ps asg body D) /\ (∀ j, PR cx (tget tm j) (ev tmA (.tmp j))) /\ (w = true -> m.bar <= r)
 | .grow n es => ∃ ro, cx.tk k i = some (ro, n, es) /\ es < 4096 /\ (match ro with
  | none => n = 0
  | some r => ∃ vs q, m.get r = some (.row vs .rw es q) /\ cx.role r = .im vs /\ vs.length = n * es)
structure PG (E : Env) (cx : Cx) (M : PMem) (m : Mem) : Prop where
 obj : ∀ k i o, M k i = some o -> OG cx m k i o
 at_ : ∀ k i r, cx.at_ k i = some r -> r < m.size /\ (cx.role r = .ob k i \/ cx.role r = .dead)
 nd : ∀ k i o r, M k i = some o -> cx.at_ k i = some r -> cx.role r = .ob k i \/ o = .gone \/ ∃ n es, o = .grow n es
 im : ∀ r cells, cx.role r = .im cells -> r < m.size /\ ∃ md es q, m.get r = some (.row cells md es q)
 mks : ∀ r, cx.role r = .mk -> r < m.size /\ m.get r = some .mark
 dd : ∀ r, cx.role r = .dead -> r < m.size
 keys : ∀ k i, cx.nk <= k -> cx.at_ k i = none /\ cx.tk k i = none
 tkin : ∀ k i k' i' r n es n' es' , M k i = some (.grow n es) -> M k' i' = some (.grow n' es') -> cx.tk k i = some (some r, n, es) -> cx.tk k' i' = some (some r, n', es') -> k = k' /\ i = i'
 glob : ∀ g, g < E.ng -> cx.at_ 0 g = some g
 wf : Wf m
 pos : 0 < cx.nk
structure Ext (c : Option Nat) (cx cx' : Cx) : Prop where
 le : CxLe cx cx'
 names : ∀ k i, k < cx.nk -> some k ≠ c -> (cx.at_ k i = none -> cx'.at_ k i = none) /\ (cx.tk k i = none -> cx'.tk k i = none)
theorem Ext.refl (c : Option Nat) (cx : Cx) : Ext c cx cx := ⟨CxLe.refl _, fun _ _ _ _ => ⟨id, id⟩⟩
theorem Ext.trans {c : Option Nat} {a b d : Cx} (h : Ext c a b) (k : Ext c b d) : Ext c a d :=
 ⟨h.le.trans k.le, fun x i hx hc => ⟨fun e => (k.names x i (Nat.lt_of_lt_of_le hx h.le.nk) hc).1 ((h.names x i hx hc).1 e), fun e => (k.names x i (Nat.lt_of_lt_of_le hx h.le.nk) hc).2 ((h.names x i hx hc).2 e)⟩⟩
theorem Ext.weak {c : Option Nat} {a b : Cx} (h : Ext none a b) : Ext c a b := ⟨h.le, fun x i hx _ => h.names x i hx (by simp)⟩
def seg (M : PMem) (k : Nat) (os : List Obj) : PMem := fun k' i => if k' = k then os[i]? else M k' i
structure PSt where
 tm : List (Nat × PV)
 nt : Nat
 k : Nat
 os : List Obj
 M : PMem
def PSt.mem (s : PSt) : PMem := seg s.M s.k s.os
def PSt.look (s : PSt) (k i : Nat) : Option Obj := if k = s.k then s.os[i]? else s.M k i
structure PS (E : Env) (cx : Cx) (s : PSt) (sA : St) : Prop where
 tm : ∀ i, PR cx (tget s.tm i) (ev sA.tm (.tmp i))
 nt : sA.nt = s.nt
 pg : PG E cx s.mem sA.m
 cur : ∀ i, s.os.length <= i -> cx.at_ s.k i = none /\ cx.tk s.k i = none
 low : s.k < cx.nk
 pos : 0 < s.k
 df : sA.df.Nodup /\ ∀ r ∈ sA.df, cx.role r = .mk /\ sA.m.bar <= r
theorem PS.ev {E : Env} {cx : Cx} {s : PSt} {sA : St} (h : PS E cx s sA) {x : Operand} (hx : opndOk E.ng x = true) : PR cx (pev s.tm x) (Am.ev sA.tm x) := by
 cases x with
 | tmp i => exact h.tm i
 | const v => exact PR.ofV hx
 | global g =>
  have : g < E.ng := by simpa [opndOk] using hx
  exact .ptr (h.pg.glob g this)
 | func f => exact .fn .nil .nil
end Go.Pm
noncomputable section
namespace Go.Pm
open Go.RowKit Go.Am
def ptake (b : Bool) (n : Nat) (cs : List PV) (o : Nat) : Option PV :=
 match b with
 | true => if o + n <= cs.length then some (.agg ((cs.drop o).take n)) else none
 | false => cs[o]?
def pload (E : Env) (s : PSt) (t : Nat) (a : PV) : Option PV :=
 match E.ty t with
 | none => none
 | some y =>
  match a with
  | .ptr k i o => match s.look k i with
   | some (.row _ _ cs) => ptake (Am.isAgg y.desc) y.size cs o
   | _ => none
  | .dp cs o => ptake (Am.isAgg y.desc) y.size cs o
  | _ => none
section
variable {E : Env} {P : Program} {cx : Cx} {s : PSt} {sA : St}
theorem cells_eq {m : Mem} {r o n : Nat} {vs : List Value} {md : Md} {es : Nat} {q : Option Nat} (h : m.get r = some (.row vs md es q)) (hl : o + n <= vs.length) : m.cells ⟨r, o, none⟩ n = some ((vs.drop o).take n) := by
 unfold Mem.cells
 simp only [h, bleT hl, cond_true]
theorem cell_eq {m : Mem} {r o : Nat} {vs : List Value} {md : Md} {es : Nat} {q : Option Nat} (h : m.get r = some (.row vs md es q)) : m.cell ⟨r, o, none⟩ = vs[o]? := by
 unfold Mem.cell
 simp only [h]
theorem take_sim {m : Mem} {t : Nat} {y : Ty} {r off o : Nat} {vs : List Value} {cs : List PV} {md : Md} {es : Nat} {q : Option Nat} {x : PV} (hy : E.ty t = some y) (hg : m.get r = some (.row vs md es q))
  (hl : off + cs.length <= vs.length) (hs : PRs cx cs ((vs.drop off).take cs.length)) (h : ptake (Am.isAgg y.desc) y.size cs o = some x) :
  ∃ v, loadV E m t ⟨r, off + o, none⟩ = some v /\ PR cx x v := by
 unfold loadV
 rw [hy]
 unfold ptake at h
 cases ha : Am.isAgg y.desc with
 | true =>
  rw [ha] at h
  simp only at h
  split at h
  ·rename_i hle
   cases h
   have hc : off + o + y.size <= vs.length := by omega
   simp only [ha, cells_eq hg hc, Option.map_some]
   refine ⟨_, rfl, .agg ?_⟩
   have := (hs.drop o).take y.size
   simp only [List.drop_take, List.drop_drop, List.take_take] at this
   rw [Nat.min_eq_left (by omega)] at this
   simpa using this
  ·cases h
 | false =>
  rw [ha] at h
  simp only at h
  obtain ⟨v, hv, hr⟩ := hs.get h
  simp only [ha, cell_eq hg]
  refine ⟨v, ?_, hr⟩
  have ho : o < cs.length := by
   rcases Nat.lt_or_ge o cs.length with hx | hx
   ·exact hx
   ·rw [List.getElem?_eq_none hx] at h; cases h
  rw [List.getElem?_take_of_lt ho, List.getElem?_drop] at hv
  exact hv
theorem pload_sim (h : PG E cx s.mem sA.m) {t : Nat} {a x : PV} {va : Value} (ha : PR cx a va) (hl : pload E s t a = some x) : ∃ ad v, va = .pointer (some ad) /\ loadV E sA.m t ad = some v /\ PR cx x v := by
 unfold pload at hl
 split at hl
 ·cases hl
 ·rename_i y hy
  split at hl
  ·rename_i k i o
   split at hl
   ·rename_i w es cs hk
    obtain ⟨r, vs, md, q, e1, e2, e3, e4, e5⟩ := h.obj k i _ hk
    cases ha with
    | ptr e =>
     rw [e1] at e; cases e
     have hlen := e3.length
     obtain ⟨v, h1, h2⟩ := take_sim (off := 0) (o := o) hy e2 (by omega) (by rw [List.drop_zero, List.take_of_length_le (by omega)]; exact e3) hl
     exact ⟨_, v, rfl, by simpa using h1, h2⟩
   ·cases hl
  ·cases ha with
   | dp hr hle hs =>
    obtain ⟨_, md, es, q, hg⟩ := h.im _ _ hr
    obtain ⟨v, h1, h2⟩ := take_sim hy hg hle hs hl
    exact ⟨_, v, rfl, h1, h2⟩
  ·cases hl
def pcells : PV -> List PV
 | .agg cs => cs
 | x => [x]
def pone : PV -> Bool
 | .agg _ => false
 | .tup _ => false
 | .junk => false
 | _ => true
def psplice (cs : List PV) (o : Nat) (vs : List PV) : List PV := cs.take o ++ (vs ++ cs.drop (o + vs.length))
theorem pcells_sim {x : PV} {v : Value} (h : PR cx x v) (hj : x = .junk -> False) : PRs cx (pcells x) v.cells.toList := by
 cases h with
 | junk => exact (hj rfl).elim
 | agg h => exact h
 | v hf =>
  cases v
  all_goals first | exact .one (.v hf) | (simp [Am.flat] at hf)
 | tup h => exact .one (.tup h)
 | fn h1 h2 => exact .one (.fn h1 h2)
 | yld e => exact .one (.yld e)
 | iface h => exact .one (.iface h)
 | ptr h => exact .one (.ptr h)
 | sl h => exact .one (.sl h)
 | dp a b c => exact .one (.dp a b c)
 | l0 _ _ _ he => exact .one (.l0 _ _ _ he)
 | f0 _ _ => exact .one (.f0 _ _)
 | lno a b c d e f => exact .one (.lno a b c d e f)
 | lfull a b c d => exact .one (.lfull a b c d)
 | ltok h ht hn he =>
  cases h with
  | l0 _ _ _ hh => exact .one (.ltok (.l0 _ _ _ hh) ht hn he)
  | lno a b c d e f => exact .one (.ltok (.lno a b c d e f) ht hn he)
def notJunk : PV -> Bool
 | .junk => false
 | _ => true
def pflats? : List PV -> Option (List Value)
 | [] => some []
 | .v x :: r => (pflats? r).map fun l => x :: l
 | _ :: _ => none
def pnat? : PV -> Option Nat
 | .v x => asNat? x
 | _ => none
theorem PR.flat_eq {x v : Value} (h : PR cx (.v x) v) : v = x /\ flat x = true := by cases h with | v hf => exact ⟨rfl, hf⟩
theorem pnat_sim {x : PV} {v : Value} {n : Nat} (h : PR cx x v) (hn : pnat? x = some n) : asNat? v = some n := by
 cases x with
 | v y => obtain ⟨rfl, _⟩ := h.flat_eq; exact hn
 | _ => cases hn
theorem pflats_sim : ∀ {l : List PV} {vs xs : List Value}, PRs cx l vs -> pflats? l = some xs -> vs = xs /\ flats xs = true
 | [], _, _, .nil, h => by cases h; exact ⟨rfl, rfl⟩
 | x :: l, _, xs, .cons hx hs, h => by
  cases x with
  | v y =>
   simp only [pflats?, Option.map_eq_some_iff] at h
   obtain ⟨l', h1, rfl⟩ := h
   obtain ⟨rfl, hf⟩ := hx.flat_eq
   obtain ⟨rfl, hfs⟩ := pflats_sim hs h1
   exact ⟨rfl, by simp [flats, hf, hfs]⟩
  | _ => cases h
def ppick (c a b : PV) : Option PV :=
 match c with
 | .v (.bool true) => some a
 | .v (.bool false) => some b
 | _ => none
def ppart (E : Env) (t : Nat) (cs : List PV) (off : Nat) : Option PV :=
 match E.ty t with
 | some y => match Am.isAgg y.desc with
  | true => some (.agg ((cs.drop off).take y.size))
  | false => cs[off]?
 | none => none
theorem ppart_sim {t off : Nat} {cs : List PV} {vs : List Value} {x : PV} (hs : PRs cx cs vs) (h : ppart E t cs off = some x) : ∃ v, partV E t vs off = some v /\ PR cx x v := by
 unfold ppart at h
 unfold partV
 split at h
 ·rename_i y hy
  split at h
  ·rename_i ha
   cases h
   simp only [hy, ha]
   exact ⟨_, rfl, .agg (by simpa using (hs.drop off).take y.size)⟩
  ·rename_i ha
   simp only [hy, ha]
   exact hs.get h
 ·cases h
def pfieldAddr (E : Env) (t : Nat) (x : PV) (f : Nat) : Option PV :=
 match E.ty t with
 | some y => match y.desc with
  | .struct fields => match fields.toList[f]? with
   | some fd => match E.ty fd.type with
    | some yf => if yf.size = 0 then none else match x with
     | .ptr k i o => some (.ptr k i (o + fd.offset))
     | .dp cs o => some (.dp cs (o + fd.offset))
     | _ => none
    | none => none
   | none => none
  | _ => none
 | none => none
def fieldI (E : Env) (t off : Nat) (x : PV) : Option PV :=
 match x with
 | .agg cs => ppart E t cs off
 | _ => none
def pfield (E : Env) (t : Nat) (x : PV) (f : Nat) : Option PV :=
 match E.ty t with
 | some y => match y.desc with
  | .struct fields => match fields.toList[f]? with
   | some fd => fieldI E fd.type fd.offset x
   | none => none
  | _ => none
 | none => none
def iaddrS (sz : Nat) (x i : PV) : Option PV :=
 match pnat? i with
 | some i => match x with
  | .lst _ _ n cs => if i < n then some (.dp cs (i * sz)) else none
  | .sl k b o n _ => if i < n then some (.ptr k b (o + i * sz)) else none
  | _ => none
 | none => none
def iaddrA (n sz : Nat) (x i : PV) : Option PV :=
 match pnat? i with
 | some i => match x with
  | .ptr k b o => if i < n then some (.ptr k b (o + i * sz)) else none
  | .dp cs o => if i < n then some (.dp cs (o + i * sz)) else none
  | _ => none
 | none => none
def pindexAddr (E : Env) (t : Nat) (x i : PV) : Option PV :=
 match E.ty t with
 | some y => match y.desc with
  | .slice e => match E.ty e with
   | some ye => iaddrS ye.size x i
   | none => none
  | .array n e => match E.ty e with
   | some ye => iaddrA n ye.size x i
   | none => none
  | _ => none
 | none => none
def idxS (x i : PV) : Option PV :=
 match pnat? i with
 | some i => match x with
  | .v (.string s) => match s.data.toList[i]? with
   | some b => some (.v (.int .u8 b.toNat))
   | none => none
  | _ => none
 | none => none
def idxA (E : Env) (n e sz : Nat) (x i : PV) : Option PV :=
 match pnat? i with
 | some i => match x with
  | .agg cs => if i < n then ppart E e cs (i * sz) else none
  | _ => none
 | none => none
def pindex (E : Env) (t : Nat) (x i : PV) : Option PV :=
 match E.ty t with
 | some y => match y.desc with
  | .array n e => match E.ty e with
   | some ye => idxA E n e ye.size x i
   | none => none
  | .string => idxS x i
  | _ => none
 | none => none
def pbin (E : Env) (op : BinOp) (t : Nat) (cx cy : Bool) (x y : PV) : Option PV :=
 match x, y with
 | .v a, .v b => match op with
  | .eql => bif eqFine E t cx cy a b then (binV E .eql t a b).map .v else none
  | .neq => bif eqFine E t cx cy a b then (binV E .neq t a b).map .v else none
  | op => (binV E op t a b).map .v
 | .agg as, .agg bs => match pflats? as, pflats? bs with
  | some as, some bs => match op with
   | .eql => bif E.plainEq t then (binV E .eql t (.agg as.toArray) (.agg bs.toArray)).map .v else none
   | .neq => bif E.plainEq t then (binV E .neq t (.agg as.toArray) (.agg bs.toArray)).map .v else none
   | _ => none
  | _, _ => none
 | a, b => match E.ty t with
  | some y => match y.desc with
   | .pointer _ => match a, b with
    | .ptr _ _ _, .v (.pointer none) => match op with
     | .eql => some (.v (.bool false))
     | .neq => some (.v (.bool true))
     | _ => none
    | .dp _ _, .v (.pointer none) => match op with
     | .eql => some (.v (.bool false))
     | .neq => some (.v (.bool true))
     | _ => none
    | _, _ => none
   | _ => none
  | none => none
def pun (op : UnOp) (x : PV) : Option PV :=
 match x with
 | .v a => (unV op a).map .v
 | _ => none
def pbytes? : List PV -> Option (List UInt8)
 | [] => some []
 | .v (.int .u8 n) :: r => (pbytes? r).map fun l => UInt8.ofNat n.toNat :: l
 | _ :: _ => none
def convI (k : IntKind) (x : PV) : Option PV :=
 match x with
 | .v (.int _ n) => some (.v (.int k (k.wrap n)))
 | _ => none
def convS (x : PV) : Option PV :=
 match x with
 | .v (.string s) => some (.v (.string s))
 | _ => none
def convB (x : PV) : Option PV :=
 match x with
 | .lst _ es n cs => if es = 1 then (pbytes? cs).map fun l => .v (.string ⟨l.toArray⟩) else none
 | _ => none
def pconv (E : Env) (src dst : Nat) (x : PV) : Option PV :=
 match E.ty src, E.ty dst with
 | some s, some d =>
  match d.desc with
  | .int k => convI k x
  | .string => match s.desc with
   | .slice e => match E.ty e with
    | some ye => match ye.desc with
     | .int .u8 => convB x
     | _ => none
    | none => none
   | .string => convS x
   | _ => none
  | _ => none
 | _, _ => none
def sliceS (x : PV) (low high : Option PV) : Option PV :=
 match x with
 | .v (.string s) => match (low.map pnat?), (high.map pnat?) with
  | none, none => some (.v (.string s))
  | some (some l), none => if l <= s.data.toList.length then some (.v (.string ⟨((s.data.toList.drop l).take (s.data.toList.length - l)).toArray⟩)) else none
  | none, some (some h) => if h <= s.data.toList.length then some (.v (.string ⟨(s.data.toList.take h).toArray⟩)) else none
  | some (some l), some (some h) => if l <= h /\ h <= s.data.toList.length then some (.v (.string ⟨((s.data.toList.drop l).take (h - l)).toArray⟩)) else none
  | _, _ => none
 | _ => none
def sliceL (sz : Nat) (x : PV) (low high max : Option PV) : Option PV :=
 match x with
 | .lst t es n cs => if sz = es then
   match (match low with | none => some 0 | some l => pnat? l), (match high with | none => some n | some h => pnat? h), max with
   | some l, some h, none => if l <= h /\ h <= n then some (.lst .no es (h - l) ((cs.drop (l * es)).take ((h - l) * es))) else none
   | some l, some h, some mx => match pnat? mx with
    | some mx => if l <= h /\ h <= n /\ mx = h /\ high.isSome then some (.lst .full es (h - l) ((cs.drop (l * es)).take ((h - l) * es))) else none
    | none => none
   | _, _, _ => none
   else match t with
   | .full => match (match low with | none => some 0 | some l => pnat? l), (match high with | none => some n | some h => pnat? h), max with
    | some l, some h, none => if l = 0 /\ h = 0 /\ n = 0 then some (.lst .full sz 0 []) else none
    | _, _, _ => none
   | _ => none
 | .sl a b o n k =>
   match (match low with | none => some 0 | some l => pnat? l), (match high with | none => some n | some h => pnat? h), max with
   | some l, some h, none => if l <= h /\ h <= capOf k /\ ((k % 2 = 0 /\ (l = 0 \/ l < capOf k)) \/ (k % 2 = 1 /\ esOf k = sz /\ sz < 4096)) then some (.sl a b (o + l * sz) (h - l) (if k % 2 = 0 then 2 * (capOf k - l) else loCap (capOf k - l) sz)) else none
   | _, _, _ => none
 | _ => none
def sliceA (n : Nat) (x : PV) : Option PV :=
 match x with
 | .ptr k i o => some (.sl k i o n (2 * n))
 | _ => none
def pslice (E : Env) (t : Nat) (x : PV) (low high max : Option PV) : Option PV :=
 match E.ty t with
 | none => none
 | some y => match y.desc with
  | .string => match max with
   | none => sliceS x low high
   | some _ => none
  | .slice e => match E.ty e with
   | some ye => sliceL ye.size x low high max
   | none => none
  | .array n e => match E.ty e, low, high, max with
   | some _, none, none, none => sliceA n x
   | _, _, _, _ => none
  | _ => none
def pfill (place : Nat -> Option (Nat × Nat)) (cells : List PV) : List (Nat × PV) -> Option (List PV)
 | [] => some cells
 | (i, v) :: rest =>
  match place i with
  | none => none
  | some (off, size) =>
   if (pcells v).length = size /\ off + (pcells v).length <= cells.length /\ notJunk v = true then
    pfill place (psplice cells off (pcells v)) rest
   else none
def pzero (E : Env) (t : Nat) : Option (List PV) := (zeroOf E t).map (·.map ofV)
def pbuild (E : Env) (t : Nat) (parts : List (Nat × PV)) : Option PV :=
 match E.ty t, pzero E t with
 | some y, some z =>
  match y.desc with
  | .struct fields => match fieldPlaces E fields.toList with
   | some ps => (pfill (fun i => ps[i]?) z parts).map .agg
   | none => none
  | .array _ e => match E.ty e with
   | some ye => (pfill (fun i => some (i * ye.size, ye.size)) z parts).map .agg
   | none => none
  | _ => none
 | _, _ => none
def lenS (x : PV) : Option PV :=
 match x with
 | .v (.string s) => some (.v (.int .i64 s.data.toList.length))
 | _ => none
def lenL (x : PV) : Option PV :=
 match x with
 | .lst _ _ n _ => some (.v (.int .i64 n))
 | .sl _ _ _ n _ => some (.v (.int .i64 n))
 | _ => none
def capL (x : PV) : Option PV :=
 match x with
 | .lst .full _ n _ => some (.v (.int .i64 n))
 | .sl _ _ _ n k => if k % 2 = 0 then some (.v (.int .i64 (k / 2 : Nat))) else none
 | _ => none
def plen (E : Env) (t : Nat) (x : PV) : Option PV :=
 match E.ty t with
 | none => none
 | some y => match y.desc with
  | .string => lenS x
  | .array n _ => some (.v (.int .i64 n))
  | .slice _ => lenL x
  | _ => none
def pcap (E : Env) (t : Nat) (x : PV) : Option PV :=
 match E.ty t with
 | none => none
 | some y => match y.desc with
  | .array n _ => some (.v (.int .i64 n))
  | .slice _ => capL x
  | _ => none
def pmm (f : Value -> List Value -> Option Value) (args : List PV) : Option PV :=
 match pflats? args with
 | some (x :: r) => (f x r).map .v
 | _ => none
def pbuiltin (E : Env) (b : Builtin) (ats : List Nat) (args : List PV) : Option PV :=
 match b with
 | .len => match ats, args with
  | t :: _, x :: _ => plen E t x
  | _, _ => none
 | .cap => match ats, args with
  | t :: _, x :: _ => pcap E t x
  | _, _ => none
 | .max => pmm maxV args
 | .min => pmm minV args
 | _ => none
def pval (E : Env) (s : PSt) (o : Op) : Option PV :=
 match o with
 | .move x => some (pev s.tm x)
 | .assign x => some (pev s.tm x)
 | .pick c a b => ppick (pev s.tm c) (pev s.tm a) (pev s.tm b)
 | .build t parts => pbuild E t (parts.toList.map fun p => (p.1, pev s.tm p.2))
 | .load t a => pload E s t (pev s.tm a)
 | .nilCheck x => match pev s.tm x with
  | .ptr k i o => some (.ptr k i o)
  | .dp cs o => some (.dp cs o)
  | .fn f a b => some (.fn f a b)
  | .yld k i => some (.yld k i)
  | .iface t x => some (.iface t x)
  | _ => none
 | .binOp op t x y _ => pbin E op t (isConst x) (isConst y) (pev s.tm x) (pev s.tm y)
 | .unOp op _ x => pun op (pev s.tm x)
 | .convert a d x => pconv E a d (pev s.tm x)
 | .makeInterface t x => match E.ty t with
  | some y => match y.desc with
   | .interface _ => none
   | _ => some (.iface t (pev s.tm x))
  | none => none
 | .makeFunc fn first captured => match fn with
  | .func f => some (.fn f (first.toList.map (pev s.tm)) (captured.toList.map (pev s.tm)))
  | _ => none
 | .slice t x lo hi mx => pslice E t (pev s.tm x) (lo.map (pev s.tm)) (hi.map (pev s.tm)) (mx.map (pev s.tm))
 | .fieldAddr t x f => pfieldAddr E t (pev s.tm x) f
 | .field t x f => pfield E t (pev s.tm x) f
 | .indexAddr t x i => pindexAddr E t (pev s.tm x) (pev s.tm i)
 | .index t x i => pindex E t (pev s.tm x) (pev s.tm i)
 | .extract t i => match pev s.tm t with
  | .tup vs => vs[i]?
  | _ => none
 | .call c => match c.callee with
  | .builtin b => pbuiltin E b c.argTypes.toList (c.args.toList.map (pev s.tm))
  | _ => none
 | _ => none
end
end Go.Pm
end
namespace Go.Pm
open Go.RowKit Go.Am
section
variable {E : Env} {P : Program} {cx : Cx} {s : PSt} {sA : St}
theorem setCells_eq : ∀ (vs cs : List Value) (off : Nat), off + vs.length <= cs.length -> setCells cs off vs = cs.take off ++ (vs ++ cs.drop (off + vs.length))
 | [], cs, off, h => by simp [setCells]
 | v :: vs, cs, off, h => by
  simp only [List.length_cons] at h
  have hlt : off < cs.length := by omega
  rw [setCells, setCells_eq vs _ (off + 1) (by simp; omega)]
  apply List.ext_getElem?
  intro i
  simp only [List.length_cons, List.getElem?_append, List.length_take, List.length_set, List.getElem?_take, List.getElem?_set, List.getElem?_drop, List.getElem?_cons]
  by_cases h1 : i < off
  ·simp [h1, show i < off + 1 by omega, show off ≠ i by omega, Nat.min_eq_left (show off <= cs.length by omega), show min (off + 1) cs.length = off + 1 by omega]
  ·by_cases h2 : i = off
   ·subst h2
    simp [show min (i + 1) cs.length = i + 1 by omega, hlt, Nat.min_eq_left (show i <= cs.length by omega)]
   ·have e1 : min (off + 1) cs.length = off + 1 := by omega
    have e2 : min off cs.length = off := by omega
    rw [e1, e2, if_neg (show ¬ i < off + 1 by omega), if_neg h1, if_neg (show i - off ≠ 0 by omega)]
    have e3 : i - (off + 1) = i - off - 1 := by omega
    rw [e3]
    by_cases h3 : i - off - 1 < vs.length
    ·rw [if_pos h3, if_pos (show i - off < vs.length + 1 by omega)]
    ·rw [if_neg h3, if_neg (show ¬ i - off < vs.length + 1 by omega), if_neg (by omega)]
     congr 1
     omega
theorem splice_eq (cs vs : List Value) (off : Nat) (h : off + vs.length <= cs.length) : splice cs off vs = cs.take off ++ (vs ++ cs.drop (off + vs.length)) := by
 apply List.ext_getElem?
 intro i
 rw [splice_get cs off vs h]
 simp only [List.getElem?_append, List.length_take, List.getElem?_take, List.getElem?_drop]
 have e2 : min off cs.length = off := by omega
 rw [e2]
 by_cases h1 : i < off
 ·rw [if_neg (by omega), if_pos h1, if_pos h1]
 ·rw [if_neg h1]
  by_cases h2 : i - off < vs.length
  ·rw [if_pos (by omega), if_pos h2]
  ·rw [if_neg (by omega), if_neg h2]
   congr 1
   omega
theorem psplice_sim {cs vs : List PV} {cs' vs' : List Value} (h : PRs cx cs cs') (k : PRs cx vs vs') (off : Nat) : PRs cx (psplice cs off vs) (cs'.take off ++ (vs' ++ cs'.drop (off + vs'.length))) := by
 unfold psplice
 rw [<- k.length]
 exact (h.take off).append (k.append (h.drop _))
theorem psplice_length {cs vs : List PV} {off : Nat} (h : off + vs.length <= cs.length) : (psplice cs off vs).length = cs.length := by
 unfold psplice; simp; omega
theorem PR.lst_view {t : Tok} {es n : Nat} {cs : List PV} {v : Value} (h : PR cx (.lst t es n cs) v) :
  ∃ a c, v = .slice a n c /\ n <= capOf c /\ (c % 2 = 0 \/ esOf c = es) /\ cs.length = n * es /\ (n = 0 \/ ∃ r off cells, a = some ⟨r, off, none⟩ /\ cx.role r = .im cells /\ off + cs.length <= cells.length /\ PRs cx cs ((cells.drop off).take cs.length)) ∧
   (t = .full -> c = 2 * n) := by
 cases h with
 | l0 _ a c he => exact ⟨a, c, rfl, Nat.zero_le _, he, by simp, .inl rfl, fun h => by cases h⟩
 | f0 _ a => exact ⟨a, 0, rfl, Nat.zero_le _, .inl rfl, by simp, .inl rfl, fun _ => rfl⟩
 | lno hr hl hs hn hc he => exact ⟨_, _, rfl, hc, he, hn, .inr ⟨_, _, _, rfl, hr, hl, hs⟩, fun h => by cases h⟩
 | lfull hr hl hs hn => exact ⟨_, _, rfl, by rw [capOf_even]; exact Nat.le_refl _, .inl (by omega), hn, .inr ⟨_, _, _, rfl, hr, hl, hs⟩, fun _ => rfl⟩
 | ltok h ht hn0 he0 =>
  cases h with
  | l0 _ a c he => exact ⟨a, c, rfl, Nat.zero_le _, he, by simp, .inl rfl, fun h => by cases h⟩
  | lno hr hl hs hn hc he => exact ⟨_, _, rfl, hc, he, hn, .inr ⟨_, _, _, rfl, hr, hl, hs⟩, fun h => by cases h⟩
theorem capOf_lo' (c es : Nat) (h : es < 4096) : capOf (loCap c es) = c := capOf_lo c es h
theorem piece {t : Tok} {es n l h : Nat} {cs : List PV} {a : Option Addr} {c c' : Nat} {a' : Option Addr} (hv : PR cx (.lst t es n cs) (.slice a n c)) (hlh : l <= h) (hhn : h <= n)
  (hc : h - l <= capOf c') (he : c' % 2 = 0 \/ esOf c' = es) (ha : l < h -> ∀ b, a = some b -> a' = some (addOff b (l * es))) :
  PR cx (.lst .no es (h - l) ((cs.drop (l * es)).take ((h - l) * es))) (.slice a' (h - l) c') := by
 obtain ⟨a0, c0, e, _, _, hn, hd, _⟩ := hv.lst_view
 cases e
 by_cases hlt : l < h
 ·rcases hd with rfl | ⟨r, off, cells, rfl, hr, hl, hs⟩
  ·omega
  ·rw [ha hlt _ rfl]
   have hle : l * es + (h - l) * es <= cs.length := by
    rw [hn, <- Nat.add_mul]
    exact Nat.mul_le_mul_right _ (by omega)
   have hlen : ((cs.drop (l * es)).take ((h - l) * es)).length = (h - l) * es := by simp; omega
   refine .lno (r := r) (off := off + l * es) (cells := cells) hr (by rw [hlen]; omega) ?_ hlen hc he
   rw [hlen]
   have := (hs.drop (l * es)).take ((h - l) * es)
   simp only [List.drop_take, List.drop_drop, List.take_take] at this
   rw [Nat.min_eq_left (by omega)] at this
   exact this
 ·rw [Nat.sub_eq_zero_of_le (Nat.le_of_not_lt hlt)]
  simp only [Nat.zero_mul, List.take_zero]
  exact .l0 _ _ _ he
theorem natBeqT {a b : Nat} (h : a = b) : Nat.beq a b = true := by subst h; exact Nat.beq_refl a
theorem evenT {c : Nat} (h : c % 2 = 0) : Nat.beq (c % 2) 0 = true := natBeqT h
theorem oddF {c : Nat} (h : c % 2 ≠ 0) : Nat.beq (c % 2) 0 = false := by
 cases e : Nat.beq (c % 2) 0 with
 | false => rfl
 | true => exact absurd (Nat.eq_of_beq_eq_true e) h
theorem pslice_sim {t : Nat} {x y : PV} {lo hi mx : Option PV} {v : Value} {lo' hi' mx' : Option Value} (hx : PR cx x v)
  (h1 : ∀ p, lo = some p -> ∃ q, lo' = some q /\ PR cx p q) (h1n : lo = none -> lo' = none) (h2 : ∀ p, hi = some p -> ∃ q, hi' = some q /\ PR cx p q) (h2n : hi = none -> hi' = none)
  (h3 : ∀ p, mx = some p -> ∃ q, mx' = some q /\ PR cx p q) (h3n : mx = none -> mx' = none) (h : pslice E t x lo hi mx = some y) : ∃ u, sliceV E t v lo' hi' mx' = some u /\ PR cx y u := by
 unfold pslice at h
 unfold sliceV
 split at h
 ·cases h
 ·rename_i ty hty
  simp only [hty]
  have nn : ∀ {p : PV} {n : Nat} {q : Value}, PR cx p q -> pnat? p = some n -> asNat? q = some n := fun a b => pnat_sim a b
  split at h
  ·-- strings
   rename_i hd
   split at h
   ·unfold sliceS at h
    split at h
    case h_2 => cases h
    rename_i s
    obtain ⟨rfl, hf⟩ := hx.flat_eq
    rw [h3n rfl]
    simp only [hd]
    have fin : ∀ l : List UInt8, PR cx (.v (.string ⟨l.toArray⟩)) (.string ⟨l.toArray⟩) := fun l => .v rfl
    cases lo with
    | none =>
     rw [h1n rfl]
     cases hi with
     | none =>
      rw [h2n rfl]
      simp only [Option.map_none] at h
      cases h
      simp only [boundsV, bleT (Nat.le_refl _), cond_true, Option.map_some, List.drop_zero, Nat.sub_zero, List.take_length]
      exact ⟨_, rfl, .v rfl⟩
     | some p =>
      obtain ⟨q, rfl, hq⟩ := h2 p rfl
      simp only [Option.map_none, Option.map_some] at h
      cases hn : pnat? p with
      | none => rw [hn] at h; cases h
      | some n =>
       rw [hn] at h
       simp only at h
       split at h
       ·rename_i hle
        cases h
        simp only [boundsV, nn hq hn, bleT hle, cond_true, Option.map_some, List.drop_zero, Nat.sub_zero]
        exact ⟨_, rfl, fin _⟩
       ·cases h
    | some pl =>
     obtain ⟨ql, rfl, hql⟩ := h1 pl rfl
     cases hi with
     | none =>
      rw [h2n rfl]
      simp only [Option.map_none, Option.map_some] at h
      cases hn : pnat? pl with
      | none => rw [hn] at h; cases h
      | some n =>
       rw [hn] at h
       simp only at h
       split at h
       ·rename_i hle
        cases h
        simp only [boundsV, nn hql hn, bleT hle, bleT (Nat.le_refl _), cond_true, Bool.and_self, Option.map_some]
        exact ⟨_, rfl, fin _⟩
       ·cases h
     | some p =>
      obtain ⟨q, rfl, hq⟩ := h2 p rfl
      simp only [Option.map_some] at h
      cases hn : pnat? pl with
      | none => rw [hn] at h; cases h' : pnat? p <;> rw [h'] at h <;> cases h
      | some n =>
       cases hn2 : pnat? p with
       | none => rw [hn, hn2] at h; cases h
       | some n2 =>
        rw [hn, hn2] at h
        simp only at h
        split at h
        ·rename_i hle
         cases h
         simp only [boundsV, nn hql hn, nn hq hn2, bleT hle.1, bleT hle.2, cond_true, Bool.and_self, Option.map_some]
         exact ⟨_, rfl, fin _⟩
        ·cases h
   ·cases h
  ·-- lists
   rename_i e hde
   split at h
   ·rename_i ye hye
    unfold sliceL at h
    split at h
    ·rename_i tk es n cs
     obtain ⟨a, c, rfl, hcap, hodd, hn, hd, hfull⟩ := hx.lst_view
     split at h
     ·rename_i hes
      simp only [hde, hye]
      split at h
      ·-- no max
       rename_i l hh hl0 hh0
       rw [h3n rfl]
       have el : (lo' = none /\ l = 0) \/ ∃ q, lo' = some q /\ asNat? q = some l := by
        cases lo with
        | none => cases hl0; exact .inl ⟨h1n rfl, rfl⟩
        | some p => obtain ⟨q, e, hq⟩ := h1 p rfl; exact .inr ⟨q, e, nn hq hl0⟩
       have eh : (hi' = none /\ hh = n) \/ ∃ q, hi' = some q /\ asNat? q = some hh := by
        cases hi with
        | none => cases hh0; exact .inl ⟨h2n rfl, rfl⟩
        | some p => obtain ⟨q, e, hq⟩ := h2 p rfl; exact .inr ⟨q, e, nn hq hh0⟩
       split at h
       ·rename_i hle
        cases h
        have eb : boundsV n (capOf c) lo' hi' none = some (l, hh, capOf c) := by
         unfold boundsV
         rcases el with ⟨e1, e2⟩ | ⟨q, e1, e2⟩ <;> rcases eh with ⟨e3, e4⟩ | ⟨q2, e3, e4⟩ <;> simp only [e1, e2, e3, e4]
         ·simp only [bleT hcap, cond_true]
         ·simp only [bleT (show hh <= capOf c by omega), cond_true]
         ·subst e4
          simp only [bleT hcap, bleT hle.1, Bool.and_self, cond_true]
         ·simp only [bleT (show hh <= capOf c by omega), bleT hle.1, Bool.and_self, cond_true]
        simp only [eb]
        cases a with
        | none =>
         refine ⟨_, rfl, ?_⟩
         refine piece hx hle.1 hle.2 (by rw [capOf_even]; omega) (.inl (by omega)) (fun _ b hb => by cases hb)
        | some b =>
         by_cases he : c % 2 = 0
         ·simp only [evenT he]
          refine ⟨_, rfl, piece hx hle.1 hle.2 (by rw [capOf_even]; omega) (.inl (by omega)) (fun hlt b' hb' => ?_)⟩
          cases hb'
          have : Nat.beq (capOf c) l = false := by
           cases e : Nat.beq (capOf c) l with
           | false => rfl
           | true => have := Nat.eq_of_beq_eq_true e; omega
          rw [this, hes]; rfl
         ·have hes2 : esOf c = es := hodd.resolve_left he
          simp only [oddF he, natBeqT (hes2.trans hes.symm), cond_true]
          have hlt : es < 4096 := by rw [<- hes2]; unfold esOf; omega
          refine ⟨_, rfl, piece hx hle.1 hle.2 ?_ (.inr (by rw [hes]; exact esOf_lo _ _ hlt)) (fun _ b' hb' => by cases hb'; rw [hes])⟩
          rw [hes, capOf_lo _ _ hlt]; omega
       ·cases h
      ·-- a max
       rename_i l hh pm hl0 hh0
       obtain ⟨qm, rfl, hqm⟩ := h3 pm rfl
       split at h
       ·rename_i m hm
        split at h
        ·rename_i hle
         cases h
         obtain ⟨h1', h2', rfl, hsome⟩ := hle
         cases hi with
         | none => cases hsome
         | some p =>
          obtain ⟨q, rfl, hq⟩ := h2 p rfl
          have eh := nn hq hh0
          have em := nn hqm hm
          have eb : boundsV n (capOf c) lo' (some q) (some qm) = some (l, m, m) := by
           unfold boundsV
           simp only [em, eh]
           cases lo with
           | none =>
            rw [h1n rfl]
            cases hl0
            simp only [bleT (show m <= capOf c by omega), bleT (Nat.le_refl m), Bool.and_self, cond_true]
           | some pl =>
            obtain ⟨ql, rfl, hql⟩ := h1 pl rfl
            simp only [nn hql hl0, bleT (show m <= capOf c by omega), bleT (Nat.le_refl m), bleT h1', Bool.and_self, cond_true]
          simp only [eb]
          cases a with
          | none =>
           refine ⟨_, rfl, ?_⟩
           have : m - l = 0 := by
            rcases hd with rfl | ⟨_, _, _, h', _⟩
            ·omega
            ·cases h'
           rw [this]
           simp only [Nat.zero_mul, List.take_zero]
           exact .f0 _ _
          | some b =>
           by_cases hlt : l < m
           ·have : Nat.beq m l = false := by
             cases e : Nat.beq m l with
             | false => rfl
             | true => have := Nat.eq_of_beq_eq_true e; omega
            simp only [this, cond_false]
            refine ⟨_, rfl, ?_⟩
            have hp := piece (a' := some (addOff b (l * es))) (c' := 2 * (m - l)) hx h1' h2' (by rw [capOf_even]; exact Nat.le_refl _) (.inl (by omega)) (fun _ b' hb' => by cases hb'; rfl)
            have hm0 : m - l ≠ 0 := by omega
            have hbs : ∃ r off, b = ⟨r, off, none⟩ := by
             rcases hd with rfl | ⟨r, off, cells, hb, _⟩
             ·omega
             ·cases hb; exact ⟨_, _, rfl⟩
            obtain ⟨r0, off0, rfl⟩ := hbs
            rw [hes]
            have ea : addOff ⟨r0, off0, none⟩ (l * es) = ⟨r0, off0 + l * es, none⟩ := rfl
            rw [ea] at hp ⊢
            generalize hN : m - l = N at hp hm0
            generalize hL : List.take (N * es) (List.drop (l * es) cs) = L at hp
            cases hp with
            | l0 => exact absurd rfl hm0
            | lno hr hl hs hn' hc' he' => exact .lfull hr hl hs hn'
           ·have hz : m - l = 0 := by omega
            rw [hz]
            simp only [Nat.zero_mul, List.take_zero, Nat.mul_zero]
            exact ⟨_, rfl, .f0 _ _⟩
        ·cases h
       ·cases h
      ·cases h
     ·simp only [hde, hye]
      split at h
      ·split at h
       ·rename_i l hh hl0 hh0
        rw [h3n rfl]
        split at h
        ·rename_i hz
         obtain ⟨rfl, rfl, rfl⟩ := hz
         cases h
         have hc0 := hfull rfl
         subst hc0
         have el : (lo' = none) \/ ∃ q, lo' = some q /\ asNat? q = some 0 := by
          cases lo with
          | none => exact .inl (h1n rfl)
          | some p => obtain ⟨q, e, hq⟩ := h1 p rfl; exact .inr ⟨q, e, nn hq hl0⟩
         have eh : (hi' = none) \/ ∃ q, hi' = some q /\ asNat? q = some 0 := by
          cases hi with
          | none => exact .inl (h2n rfl)
          | some p => obtain ⟨q, e, hq⟩ := h2 p rfl; exact .inr ⟨q, e, nn hq hh0⟩
         have eb : boundsV 0 (capOf (2 * 0)) lo' hi' none = some (0, 0, capOf (2 * 0)) := by
          unfold boundsV
          rcases el with e1 | ⟨q, e1, e2⟩ <;> rcases eh with e3 | ⟨q2, e3, e4⟩ <;> simp only [*, bleT (Nat.zero_le _), Bool.and_self, cond_true]
         simp only [eb]
         have hc : capOf (2 * 0) - 0 = 0 := by rw [capOf_even]
         rw [hc]
         cases a with
         | none => exact ⟨_, rfl, .f0 _ _⟩
         | some b => exact ⟨_, rfl, .f0 _ _⟩
        ·cases h
       ·cases h
      ·cases h
    ·rename_i ka kb o n c
     cases hx with
     | sl e0 =>
     rename_i r0
     simp only [hde, hye]
     split at h
     ·rename_i l hh hl0 hh0
      rw [h3n rfl]
      have el : (lo' = none /\ l = 0) \/ ∃ q, lo' = some q /\ asNat? q = some l := by
       cases lo with
       | none => cases hl0; exact .inl ⟨h1n rfl, rfl⟩
       | some p => obtain ⟨q, e, hq⟩ := h1 p rfl; exact .inr ⟨q, e, nn hq hl0⟩
      have eh : (hi' = none /\ hh = n) \/ ∃ q, hi' = some q /\ asNat? q = some hh := by
       cases hi with
       | none => cases hh0; exact .inl ⟨h2n rfl, rfl⟩
       | some p => obtain ⟨q, e, hq⟩ := h2 p rfl; exact .inr ⟨q, e, nn hq hh0⟩
      split at h
      ·rename_i hc
       obtain ⟨hlh, hhc, hpar⟩ := hc
       have eb : boundsV n (capOf c) lo' hi' none = some (l, hh, capOf c) := by
        unfold boundsV
        rcases el with ⟨e1, e2⟩ | ⟨q, e1, e2⟩ <;> rcases eh with ⟨e3, e4⟩ | ⟨q2, e3, e4⟩ <;> simp only [e1, e2, e3, e4]
        ·subst e4; simp only [bleT hhc, cond_true]
        ·simp only [bleT hhc, cond_true]
        ·subst e4; simp only [bleT hhc, bleT hlh, Bool.and_self, cond_true]
        ·simp only [bleT hhc, bleT hlh, Bool.and_self, cond_true]
       simp only [eb]
       rcases hpar with ⟨he, hlc⟩ | ⟨ho, hes, _⟩
       ·simp only [evenT he]
        rw [if_pos he] at h
        cases h
        refine ⟨_, rfl, ?_⟩
        have : (bif Nat.beq (capOf c) l then (⟨r0, o, none⟩ : Addr) else addOff ⟨r0, o, none⟩ (l * ye.size)) = ⟨r0, o + l * ye.size, none⟩ := by
         cases e : Nat.beq (capOf c) l with
         | false => rfl
         | true =>
          have := Nat.eq_of_beq_eq_true e
          have hl0 : l = 0 := by omega
          subst hl0
          simp
        rw [this]
        exact .sl e0
       ·have he : ¬ c % 2 = 0 := by omega
        simp only [oddF he, natBeqT hes, cond_true]
        rw [if_neg he] at h
        cases h
        exact ⟨_, rfl, .sl e0⟩
      ·cases h
     ·cases h
    ·cases h
   ·cases h
  ·rename_i n e hd
   split at h
   ·rename_i ye hye
    unfold sliceA at h
    split at h
    ·rename_i k i o
     cases h
     cases hx with
     | ptr ha =>
      rename_i r
      rw [h1n rfl, h2n rfl, h3n rfl]
      have eb : boundsV n n none none none = some (0, n, n) := by unfold boundsV; simp only [bleT (Nat.le_refl _), cond_true]
      have ea : (bif Nat.beq n 0 then (⟨r, o, none⟩ : Addr) else addOff ⟨r, o, none⟩ (0 * ye.size)) = ⟨r, o, none⟩ := by cases Nat.beq n 0 <;> simp [addOff]
      simp only [hd, hye, eb, ea, Nat.sub_zero]
      exact ⟨_, rfl, .sl ha⟩
    ·cases h
   ·cases h
  ·cases h
end
end Go.Pm
namespace Go.Pm
open Go.RowKit Go.Am
section
variable {E : Env} {P : Program} {cx : Cx} {s : PSt} {sA : St}
theorem intBin_flat {op : BinOp} {k : IntKind} {a b : Int} {v : Value} (h : intBin op k a b = some v) : flat v = true := by
 unfold intBin at h
 split at h
 all_goals first | (cases h; rfl) | (split at h <;> first | (cases h; done) | (cases h; rfl)) | cases h
theorem strBin_flat {op : BinOp} {a b : ByteArray} {v : Value} (h : strBin op a b = some v) : flat v = true := by
 unfold strBin at h
 split at h
 all_goals first | (cases h; rfl) | (split at h <;> first | (cases h; done) | (cases h; rfl)) | cases h
theorem binV_flat {op : BinOp} {t : Nat} {x y v : Value} (h : binV E op t x y = some v) : flat v = true := by
 unfold binV at h
 split at h
 ·unfold shiftV at h
  split at h
  ·cases h
  ·cases h; rfl
 ·unfold shiftV at h
  split at h
  ·cases h
  ·cases h; rfl
 ·split at h
  ·exact intBin_flat h
  ·cases h
 ·exact strBin_flat h
 ·simp only [Option.map_eq_some_iff] at h
  obtain ⟨_, _, rfl⟩ := h; rfl
 ·simp only [Option.map_eq_some_iff] at h
  obtain ⟨_, _, rfl⟩ := h; rfl
 ·cases h
theorem unV_flat {op : UnOp} {x v : Value} (h : unV op x = some v) : flat v = true := by
 unfold unV at h
 split at h
 ·cases h; rfl
 ·exact intBin_flat h
 ·cases h; rfl
 ·cases h
theorem PR.agg_view {cs : List PV} {v : Value} (h : PR cx (.agg cs) v) : ∃ arr, v = .agg arr /\ PRs cx cs arr.toList := by cases h with | agg h => exact ⟨_, rfl, h⟩
theorem binAgg {op : BinOp} {t : Nat} {x y : Array Value} (ho : op = .eql \/ op = .neq) (c d : Bool) : eqFine E t c d (.agg x) (.agg y) = E.plainEq t := rfl
theorem pbin_sim {op : BinOp} {t : Nat} {c d : Bool} {x y z : PV} {vx vy : Value} (hx : PR cx x vx) (hy : PR cx y vy) (h : pbin E op t c d x y = some z) :
  ∃ v, (match op with
   | .eql => bif eqFine E t c d vx vy then (binV E .eql t vx vy).map fun v => (ANext.val v sA.m) else none
   | .neq => bif eqFine E t c d vx vy then (binV E .neq t vx vy).map fun v => (ANext.val v sA.m) else none
   | op => (binV E op t vx vy).map fun v => (ANext.val v sA.m)) = some (.val v sA.m) /\ PR cx z v := by
 have main : ∀ {f : Option Value}, f.map PV.v = some z -> (∀ v, f = some v -> flat v = true) -> ∃ v, f.map (fun v => (ANext.val v sA.m)) = some (.val v sA.m) /\ PR cx z v := by
  intro f hf hfl
  simp only [Option.map_eq_some_iff] at hf
  obtain ⟨v, rfl, rfl⟩ := hf
  exact ⟨v, rfl, .v (hfl v rfl)⟩
 unfold pbin at h
 split at h
 ·rename_i a b
  obtain ⟨rfl, _⟩ := hx.flat_eq
  obtain ⟨rfl, _⟩ := hy.flat_eq
  split at h
  ·cases hb : eqFine E t c d vx vy with
   | false => rw [hb] at h; cases h
   | true =>
    rw [hb] at h
    simp only [cond_true] at h ⊢
    exact main h fun v hv => binV_flat hv
  ·cases hb : eqFine E t c d vx vy with
   | false => rw [hb] at h; cases h
   | true =>
    rw [hb] at h
    simp only [cond_true] at h ⊢
    exact main h fun v hv => binV_flat hv
  ·rename_i h1 h2
   cases op
   all_goals first
    | exact main h fun v hv => binV_flat hv
    | exact absurd rfl h1
    | exact absurd rfl h2
 ·rename_i as bs
  obtain ⟨xa, rfl, ha⟩ := hx.agg_view
  obtain ⟨ya, rfl, hb⟩ := hy.agg_view
  split at h
  ·rename_i la lb ea eb
   obtain ⟨e1, _⟩ := pflats_sim ha ea
   obtain ⟨e2, _⟩ := pflats_sim hb eb
   have e1' : la.toArray = xa := by rw [<- e1]
   have e2' : lb.toArray = ya := by rw [<- e2]
   rw [e1', e2'] at h
   split at h
   ·simp only [binAgg (.inl rfl)]
    cases hp : E.plainEq t with
    | false => rw [hp] at h; cases h
    | true =>
     rw [hp] at h
     simp only [cond_true] at h ⊢
     exact main h fun v hv => binV_flat hv
   ·simp only [binAgg (.inr rfl)]
    cases hp : E.plainEq t with
    | false => rw [hp] at h; cases h
    | true =>
     rw [hp] at h
     simp only [cond_true] at h ⊢
     exact main h fun v hv => binV_flat hv
   ·cases h
  ·cases h
 ·split at h
  ·rename_i ty hty
   split at h
   ·rename_i e hd
    have eq1 : ∀ a : Addr, aEq E 100 t (.pointer (some a)) (.pointer none) = some false := fun a => by
     unfold aEq; simp only [hty, hd]
    have fineE : ∀ a : Addr, eqFine E t c d (.pointer (some a)) (.pointer none) = true := fun a => rfl
    have bE : ∀ a : Addr, binV E .eql t (.pointer (some a)) (.pointer none) = some (.bool false) := fun a => by
     unfold binV; simp only [eq1, Option.map_some]
    have bN : ∀ a : Addr, binV E .neq t (.pointer (some a)) (.pointer none) = some (.bool true) := fun a => by
     unfold binV; simp only [eq1, Option.map_some]; rfl
    split at h
    ·obtain ⟨rfl, _⟩ := hy.flat_eq
     cases hx with
     | ptr e =>
      split at h
      ·cases h; simp only [fineE, bE, cond_true, Option.map_some]; exact ⟨_, rfl, .v rfl⟩
      ·cases h; simp only [fineE, bN, cond_true, Option.map_some]; exact ⟨_, rfl, .v rfl⟩
      ·cases h
    ·obtain ⟨rfl, _⟩ := hy.flat_eq
     cases hx with
     | dp _ _ _ =>
      split at h
      ·cases h; simp only [fineE, bE, cond_true, Option.map_some]; exact ⟨_, rfl, .v rfl⟩
      ·cases h; simp only [fineE, bN, cond_true, Option.map_some]; exact ⟨_, rfl, .v rfl⟩
      ·cases h
    ·cases h
   ·cases h
  ·cases h
theorem pbytes_sim : ∀ {l : List PV} {vs : List Value} {bs : List UInt8}, PRs cx l vs -> pbytes? l = some bs -> cellsBytes vs = some bs
 | [], _, _, .nil, h => by cases h; rfl
 | x :: l, _, bs, .cons hx hs, h => by
  unfold pbytes? at h
  split at h
  ·rename_i e; cases e
  ·rename_i n r e
   cases e
   simp only [Option.map_eq_some_iff] at h
   obtain ⟨l', h1, rfl⟩ := h
   obtain ⟨rfl, _⟩ := hx.flat_eq
   simp only [cellsBytes, pbytes_sim hs h1, Option.map_some]
  ·cases h
theorem cells_zero {m : Mem} {b : Addr} {cs : List Value} (hc : m.cells b 0 = some cs) : cs = [] := by
 unfold Mem.cells at hc
 split at hc
 ·simp only [Bool.cond_eq_ite] at hc
  split at hc
  ·cases hc; simp
  ·cases hc
 ·cases hc
theorem pconv_sim (hg : PG E cx s.mem sA.m) {a d : Nat} {x y : PV} {vx : Value} (hx : PR cx x vx) (h : pconv E a d x = some y) : ∃ v, convV E sA.m a d vx = some (v, sA.m) /\ PR cx y v := by
 unfold pconv at h
 unfold convV
 split at h
 ·rename_i ts td e1 e2
  simp only [e1, e2]
  split at h
  ·rename_i k hd
   unfold convI at h
   split at h
   ·rename_i k' n
    obtain ⟨rfl, _⟩ := hx.flat_eq
    cases h
    simp only [hd]
    exact ⟨_, rfl, .v rfl⟩
   ·cases h
  ·rename_i hd
   split at h
   ·rename_i e hs
    split at h
    ·rename_i ye hye
     split at h
     ·rename_i hk
      unfold convB at h
      split at h
      ·rename_i tk es n cs
       obtain ⟨ad, c, rfl, _, _, hn, hv, _⟩ := hx.lst_view
       split at h
       ·rename_i hes
        subst hes
        simp only [Option.map_eq_some_iff] at h
        obtain ⟨l, hl, rfl⟩ := h
        simp only [hd, hs]
        have zero : n = 0 -> l = [] := fun e => by
         subst e
         have : cs = [] := by simpa using hn
         subst this
         cases hl; rfl
        cases ad with
        | none =>
         simp only [hye, hk]
         have hn0 : n = 0 := by
          rcases hv with e | ⟨_, _, _, e, _⟩
          ·exact e
          ·cases e
         rw [zero hn0]
         exact ⟨_, rfl, .v rfl⟩
        | some b =>
         simp only [hye, hk]
         rcases hv with e | ⟨r, off, cells, e, hr, hle, hss⟩
         ·subst e
          rw [zero rfl]
          cases hc : sA.m.cells b 0 with
          | none => exact ⟨_, rfl, .v rfl⟩
          | some cs0 =>
           rw [cells_zero hc]
           exact ⟨_, rfl, .v rfl⟩
         ·cases e
          obtain ⟨_, md, es', q, hget⟩ := hg.im _ _ hr
          rw [Nat.mul_one] at hn
          rw [cells_eq hget (by omega)]
          rw [hn] at hss
          simp only [pbytes_sim hss hl, Option.map_some]
          exact ⟨_, rfl, .v rfl⟩
       ·cases h
      ·cases h
     ·cases h
    ·cases h
   ·rename_i hs
    unfold convS at h
    split at h
    ·obtain ⟨rfl, _⟩ := hx.flat_eq
     cases h
     simp only [hd, hs]
     exact ⟨_, rfl, .v rfl⟩
    ·cases h
   ·cases h
  ·cases h
 ·cases h
theorem PR.dp_add {cs : List PV} {o : Nat} {v : Value} (h : PR cx (.dp cs o) v) (k : Nat) : ∃ a, v = .pointer (some a) /\ PR cx (.dp cs (o + k)) (.pointer (some (addOff a k))) := by
 cases h with
 | dp a b c =>
  refine ⟨_, rfl, ?_⟩
  have := PR.dp (o := o + k) a b c
  simpa [addOff, Nat.add_assoc] using this
theorem pfieldAddr_sim {t f : Nat} {x y : PV} {vx : Value} (hx : PR cx x vx) (h : pfieldAddr E t x f = some y) : ∃ v, fieldAddrV E t vx f = some v /\ PR cx y v := by
 unfold pfieldAddr at h
 unfold fieldAddrV
 split at h
 ·rename_i ty hty
  split at h
  ·rename_i fields hd
   split at h
   ·rename_i fd hf
    split at h
    ·rename_i yf hyf
     split at h
     ·cases h
     ·rename_i hne
      have hb : Nat.beq yf.size 0 = false := by
       cases e : Nat.beq yf.size 0 with
       | false => rfl
       | true => exact absurd (Nat.eq_of_beq_eq_true e) hne
      split at h
      ·cases h
       cases hx with
       | ptr e =>
        simp only [hty, hd, hf, hyf, hb, cond_false]
        exact ⟨_, rfl, .ptr e⟩
      ·cases h
       obtain ⟨a, rfl, ha⟩ := hx.dp_add fd.offset
       simp only [hty, hd, hf, hyf, hb, cond_false]
       exact ⟨_, rfl, ha⟩
      ·cases h
    ·cases h
   ·cases h
  ·cases h
 ·cases h
theorem pfield_sim {t f : Nat} {x y : PV} {vx : Value} (hx : PR cx x vx) (h : pfield E t x f = some y) : ∃ v, fieldV E t vx f = some v /\ PR cx y v := by
 unfold pfield at h
 split at h
 ·rename_i ty hty
  split at h
  ·rename_i fields hd
   split at h
   ·rename_i fd hf
    unfold fieldI at h
    split at h
    ·rename_i cs
     obtain ⟨arr, rfl, ha⟩ := hx.agg_view
     unfold fieldV
     simp only [hty, hd, hf]
     exact ppart_sim ha h
    ·cases h
   ·cases h
  ·cases h
 ·cases h
theorem pindexAddr_sim {t : Nat} {x i y : PV} {vx vi : Value} (hx : PR cx x vx) (hi : PR cx i vi) (h : pindexAddr E t x i = some y) : ∃ v, indexAddrV E t vx vi = some v /\ PR cx y v := by
 unfold pindexAddr at h
 split at h
 ·rename_i ty hty
  split at h
  ·rename_i e hd
   split at h
   ·rename_i ye hye
    unfold iaddrS at h
    split at h
    ·rename_i n hn
     split at h
     ·rename_i tk es len cs
      split at h
      ·rename_i hlt
       cases h
       obtain ⟨a, c, rfl, _, _, _, hv, _⟩ := hx.lst_view
       rcases hv with rfl | ⟨r, off, cells, rfl, hr, hle, hs⟩
       ·omega
       ·unfold indexAddrV
        simp only [hty, pnat_sim hi hn, hd, hye, bltT hlt, cond_true]
        exact ⟨_, rfl, .dp hr hle hs⟩
      ·cases h
     ·rename_i k b o len c
      split at h
      ·rename_i hlt
       cases h
       cases hx with
       | sl e =>
        unfold indexAddrV
        simp only [hty, pnat_sim hi hn, hd, hye, bltT hlt, cond_true]
        exact ⟨_, rfl, .ptr e⟩
      ·cases h
     ·cases h
    ·cases h
   ·cases h
  ·rename_i len e hd
   split at h
   ·rename_i ye hye
    unfold iaddrA at h
    split at h
    ·rename_i n hn
     split at h
     ·split at h
      ·rename_i hlt
       cases h
       cases hx with
       | ptr e =>
        unfold indexAddrV
        simp only [hty, pnat_sim hi hn, hd, hye, bltT hlt, cond_true]
        exact ⟨_, rfl, .ptr e⟩
      ·cases h
     ·split at h
      ·rename_i hlt
       cases h
       obtain ⟨a, rfl, ha⟩ := hx.dp_add (n * ye.size)
       unfold indexAddrV
       simp only [hty, pnat_sim hi hn, hd, hye, bltT hlt, cond_true]
       exact ⟨_, rfl, ha⟩
      ·cases h
     ·cases h
    ·cases h
   ·cases h
  ·cases h
 ·cases h
theorem pindex_sim {t : Nat} {x i y : PV} {vx vi : Value} (hx : PR cx x vx) (hi : PR cx i vi) (h : pindex E t x i = some y) : ∃ v, indexV E t vx vi = some v /\ PR cx y v := by
 unfold pindex at h
 split at h
 ·rename_i ty hty
  split at h
  ·rename_i len e hd
   split at h
   ·rename_i ye hye
    unfold idxA at h
    split at h
    ·rename_i n hn
     split at h
     ·rename_i cs
      obtain ⟨arr, rfl, ha⟩ := hx.agg_view
      split at h
      ·rename_i hlt
       unfold indexV
       simp only [hty, pnat_sim hi hn, hd, hye, bltT hlt, cond_true]
       exact ppart_sim ha h
      ·cases h
     ·cases h
    ·cases h
   ·cases h
  ·rename_i hd
   unfold idxS at h
   split at h
   ·rename_i n hn
    split at h
    ·rename_i st
     obtain ⟨rfl, _⟩ := hx.flat_eq
     split at h
     ·rename_i b hb
      cases h
      unfold indexV
      simp only [hty, pnat_sim hi hn, hd, hb]
      exact ⟨_, rfl, .v rfl⟩
     ·cases h
    ·cases h
   ·cases h
  ·cases h
 ·cases h
theorem pfill_sim {place : Nat -> Option (Nat × Nat)} : ∀ {ps : List (Nat × PV)} {qs : List (Nat × Value)} {cells : List PV} {vs : List Value} {out : List PV},
  qs.map (·.1) = ps.map (·.1) -> PRs cx (ps.map (·.2)) (qs.map (·.2)) -> PRs cx cells vs -> pfill place cells ps = some out -> ∃ us, fillL place vs qs = some us /\ PRs cx out us
 | [], [], cells, vs, out, _, _, hc, h => by cases h; exact ⟨vs, rfl, hc⟩
 | [], q :: qs, _, _, _, h, _, _, _ => by simp at h
 | p :: ps, [], _, _, _, h, _, _, _ => by simp at h
 | (i, x) :: ps, (j, v) :: qs, cells, vs, out, h1, h2, hc, h => by
  simp only [List.map_cons, List.cons.injEq] at h1
  obtain ⟨rfl, h1⟩ := h1
  cases h2 with
  | cons hx hs =>
   simp only [pfill] at h
   simp only [fillL]
   cases hp : place j with
   | none => rw [hp] at h; cases h
   | some q =>
    obtain ⟨off, size⟩ := q
    rw [hp] at h
    simp only at h ⊢
    by_cases hcond : (pcells x).length = size /\ off + (pcells x).length <= cells.length /\ notJunk x = true
    ·rw [if_pos hcond] at h
     obtain ⟨k1, k2, k3⟩ := hcond
     have hj : x = .junk -> False := fun e => by subst e; cases k3
     have hcs : PRs cx (pcells x) v.cells.toList := pcells_sim hx hj
     have hl := hcs.length
     have hlc := hc.length
     simp only [natBeqT (show v.cells.toList.length = size by omega), bleT (show off + v.cells.toList.length <= vs.length by omega), Bool.and_self, cond_true]
     rw [setCells_eq _ _ _ (by omega)]
     exact pfill_sim h1 hs (psplice_sim hc hcs off) h
    ·rw [if_neg hcond] at h; cases h
theorem flat_closed {x : Value} (h : flat x = true) : closedV x = true := by
 cases x <;> simp_all [Am.flat, closedV]
theorem pzero_sim (hE : EnvOk E P) {t : Nat} {z : List PV} (h : pzero E t = some z) : ∃ vs, zeroOf E t = some vs /\ PRs cx z vs := by
 unfold pzero at h
 simp only [Option.map_eq_some_iff] at h
 obtain ⟨vs, hz, rfl⟩ := h
 refine ⟨vs, hz, ?_⟩
 obtain ⟨z, _, rfl, hcl, _⟩ := hE.zero hz (w := default)
 have : ∀ x ∈ z.cells.toList, closedV x = true := by
  intro x hx
  cases z with
  | agg cs =>
   have hf : flats cs.toList = true := hcl
   have hx' : x ∈ cs.toList := hx
   have key : ∀ (l : List Value), flats l = true -> ∀ y ∈ l, closedV y = true := by
    intro l
    induction l with
    | nil => intro _ y hy; cases hy
    | cons a l ih =>
     intro hl y hy
     simp only [flats, Bool.and_eq_true] at hl
     rcases List.mem_cons.1 hy with rfl | hy
     ·exact flat_closed hl.1
     ·exact ih hl.2 y hy
   exact key _ hf x hx'
  | _ =>
   have hx' : x = _ := List.mem_singleton.1 (show x ∈ [_] from hx)
   subst hx'; exact hcl
 have := PRs.map (cx := cx) (f := ofV) (g := id) (l := z.cells.toList) fun x hx => PR.ofV (this x hx)
 simpa using this
theorem pbuild_sim (hE : EnvOk E P) {t : Nat} {ps : List (Nat × PV)} {qs : List (Nat × Value)} {x : PV} (h1 : qs.map (·.1) = ps.map (·.1)) (h2 : PRs cx (ps.map (·.2)) (qs.map (·.2))) (h : pbuild E t ps = some x) :
  ∃ v, buildV E t qs = some v /\ PR cx x v := by
 unfold pbuild at h
 unfold buildV
 split at h
 ·rename_i ty z hty hz
  obtain ⟨vs, hvs, hr⟩ := pzero_sim hE hz (cx := cx)
  simp only [hty, hvs]
  split at h
  ·rename_i fields hd
   split at h
   ·rename_i pl hpl
    simp only [Option.map_eq_some_iff] at h
    obtain ⟨out, hf, rfl⟩ := h
    obtain ⟨us, e, hu⟩ := pfill_sim h1 h2 hr hf
    simp only [hd, hpl, e, Option.map_some]
    exact ⟨_, rfl, .agg (by simpa using hu)⟩
   ·cases h
  ·rename_i len e hd
   split at h
   ·rename_i ye hye
    simp only [Option.map_eq_some_iff] at h
    obtain ⟨out, hf, rfl⟩ := h
    obtain ⟨us, e, hu⟩ := pfill_sim h1 h2 hr hf
    simp only [hd, hye, e, Option.map_some]
    exact ⟨_, rfl, .agg (by simpa using hu)⟩
   ·cases h
  ·cases h
 ·cases h
theorem maxV_flat : ∀ {l : List Value} {x v : Value}, flat x = true -> maxV x l = some v -> flat v = true
 | [], x, v, hx, h => by cases h; exact hx
 | y :: r, x, v, hx, h => by
  unfold maxV at h
  split at h
  ·cases h; exact hx
  ·rename_i e; cases e
   split at h
   ·exact maxV_flat rfl h
   ·cases h
  ·cases h
theorem minV_flat : ∀ {l : List Value} {x v : Value}, flat x = true -> minV x l = some v -> flat v = true
 | [], x, v, hx, h => by cases h; exact hx
 | y :: r, x, v, hx, h => by
  unfold minV at h
  split at h
  ·cases h; exact hx
  ·rename_i e; cases e
   split at h
   ·exact minV_flat rfl h
   ·cases h
  ·cases h
theorem pbuiltin_sim {b : Builtin} {ats : List Nat} {ps : List PV} {qs : List Value} {x : PV} (hs : PRs cx ps qs) (h : pbuiltin E b ats ps = some x) :
    ∃ v, builtinV E sA.m b ats qs = some (v, sA.m) /\ PR cx x v := by
  unfold pbuiltin at h
  unfold builtinV
  split at h
  · split at h
    · cases hs with
      | cons hx hs =>
        unfold plen at h
        simp only [lenV]
        split at h
        · cases h
        · rename_i ty hty
          simp only [hty]
          split at h
          · rename_i hd
            unfold lenS at h
            split at h
            · obtain ⟨rfl, _⟩ := hx.flat_eq
              cases h
              simp only [hd, Option.map_some]
              exact ⟨_, rfl, .v rfl⟩
            · cases h
          · rename_i n e hd
            cases h
            simp only [hd, Option.map_some]
            exact ⟨_, rfl, .v rfl⟩
          · rename_i e hd
            unfold lenL at h
            split at h
            · obtain ⟨a, c, rfl, _⟩ := hx.lst_view
              cases h
              simp only [hd, Option.map_some]
              exact ⟨_, rfl, .v rfl⟩
            · cases hx with
              | sl e =>
                cases h
                simp only [hd, Option.map_some]
                exact ⟨_, rfl, .v rfl⟩
            · cases h
          · cases h
    · cases h
  · split at h
    · cases hs with
      | cons hx hs =>
        unfold pcap at h
        simp only [capV]
        split at h
        · cases h
        · rename_i ty hty
          simp only [hty]
          split at h
          · rename_i n e hd
            cases h
            simp only [hd, Option.map_some]
            exact ⟨_, rfl, .v rfl⟩
          · rename_i e hd
            unfold capL at h
            split at h
            · rename_i es n cs
              obtain ⟨a, c, rfl, _, _, _, _, hf⟩ := hx.lst_view
              cases h
              have hc := hf rfl
              subst hc
              simp only [hd, evenT (show 2 * n % 2 = 0 by omega), cond_true, Option.map_some, show 2 * n / 2 = n by omega]
              exact ⟨_, rfl, .v rfl⟩
            · rename_i k i o n c
              cases hx with
              | sl e =>
                split at h
                · rename_i hev
                  cases h
                  simp only [hd, evenT hev, cond_true, Option.map_some]
                  exact ⟨_, rfl, .v rfl⟩
                · cases h
            · cases h
          · cases h
    · cases h
  all_goals first
    | cases h; done
    | (unfold pmm at h
       split at h
       · rename_i y r hf
         simp only [Option.map_eq_some_iff] at h
         obtain ⟨v, hv, rfl⟩ := h
         obtain ⟨rfl, hfl⟩ := pflats_sim hs hf
         simp only [hv, Option.map_some]
         simp only [flats, Bool.and_eq_true] at hfl
         first
           | exact ⟨_, rfl, .v (maxV_flat hfl.1 hv)⟩
           | exact ⟨_, rfl, .v (minV_flat hfl.1 hv)⟩
       · cases h)
theorem ppick_sim {c a b y : PV} {vc va vb : Value} (hc : PR cx c vc) (ha : PR cx a va) (hb : PR cx b vb) (h : ppick c a b = some y) :
  ∃ v, (match vc with
   | .bool true => some (ANext.val va sA.m)
   | .bool false => some (ANext.val vb sA.m)
   | _ => none) = some (.val v sA.m) /\ PR cx y v := by
 unfold ppick at h
 split at h
 ·obtain ⟨rfl, _⟩ := hc.flat_eq; cases h; exact ⟨_, rfl, ha⟩
 ·obtain ⟨rfl, _⟩ := hc.flat_eq; cases h; exact ⟨_, rfl, hb⟩
 ·cases h
theorem PRs.operands (h : PS E cx s sA) : ∀ {l : List Operand}, opndsOk E.ng l = true -> PRs cx (l.map (pev s.tm)) (l.map (ev sA.tm))
 | [], _ => .nil
 | x :: l, hl => by
  simp only [opndsOk, Bool.and_eq_true] at hl
  exact .cons (h.ev hl.1) (PRs.operands h hl.2)
theorem opt_sim (h : PS E cx s sA) {x : Option Operand} (hx : optOk E.ng x = true) : (∀ p, x.map (pev s.tm) = some p -> ∃ q, x.map (ev sA.tm) = some q /\ PR cx p q) /\ (x.map (pev s.tm) = none -> x.map (ev sA.tm) = none) := by
 cases x with
 | none => exact ⟨fun p e => (by cases e), fun _ => rfl⟩
 | some x => exact ⟨fun p e => (by cases e; exact ⟨_, rfl, h.ev hx⟩), fun e => (by cases e)⟩
theorem pval_sim (hE : EnvOk E P) (h : PS E cx s sA) {o : Oper} (ho : opOk E.ng o.op = true) {x : PV} (hp : pval E s o.op = some x) : ∃ v, aop E (ev sA.tm) sA.m o = some (.val v sA.m) /\ PR cx x v := by
 rw [aop_def]
 unfold pval at hp
 cases hop : o.op with
 | move y => rw [hop] at hp ho; cases hp; exact ⟨_, rfl, h.ev ho⟩
 | assign y => rw [hop] at hp ho; cases hp; exact ⟨_, rfl, h.ev ho⟩
 | pick c a b =>
  rw [hop] at hp ho
  simp only [opOk, Bool.and_eq_true] at ho
  exact ppick_sim (h.ev ho.1) (h.ev ho.2.1) (h.ev ho.2.2) hp
 | build t parts =>
  rw [hop] at hp ho
  simp only at hp ⊢
  obtain ⟨v, e, hr⟩ := pbuild_sim (cx := cx) hE (qs := parts.toList.map fun p => (p.1, ev sA.tm p.2)) (by simp) (by
   simp only [opOk] at ho
   have := PRs.operands h ho
   simpa [Function.comp_def] using this) hp
  rw [e]; exact ⟨v, rfl, hr⟩
 | load t a =>
  rw [hop] at hp ho
  simp only at hp ⊢
  obtain ⟨ad, v, e, h1, h2⟩ := pload_sim h.pg (h.ev ho) hp
  rw [e]; simp only [h1, Option.map_some]; exact ⟨v, rfl, h2⟩
 | nilCheck y =>
  rw [hop] at hp ho
  simp only at hp ⊢
  have hy := h.ev (x := y) ho
  generalize pev s.tm y = z at hp hy
  generalize Am.ev sA.tm y = u at hy
  split at hp
  ·cases hp; cases hy with | ptr e => exact ⟨_, rfl, .ptr e⟩
  ·cases hp; cases hy with | dp a b c => exact ⟨_, rfl, .dp a b c⟩
  ·cases hp; cases hy with | fn a b => exact ⟨_, rfl, .fn a b⟩
  ·cases hp; cases hy with | yld e => exact ⟨_, rfl, .yld e⟩
  ·cases hp; cases hy with | iface e => exact ⟨_, rfl, .iface e⟩
  ·cases hp
 | binOp op t a b k =>
  rw [hop] at hp ho
  simp only [opOk, Bool.and_eq_true] at ho
  simp only at hp ⊢
  exact pbin_sim (h.ev ho.1) (h.ev ho.2) hp
 | unOp op k y =>
  rw [hop] at hp ho
  simp only at hp ⊢
  have hy := h.ev (x := y) ho
  generalize pev s.tm y = z at hp hy
  generalize Am.ev sA.tm y = u at hy
  unfold pun at hp
  split at hp
  ·obtain ⟨rfl, _⟩ := hy.flat_eq
   simp only [Option.map_eq_some_iff] at hp
   obtain ⟨v, e, rfl⟩ := hp
   simp only [e, Option.map_some]
   exact ⟨_, rfl, .v (unV_flat e)⟩
  ·cases hp
 | convert a d y =>
  rw [hop] at hp ho
  simp only at hp ⊢
  obtain ⟨v, e, hr⟩ := pconv_sim h.pg (h.ev ho) hp
  rw [e]; exact ⟨v, rfl, hr⟩
 | makeInterface t y =>
  rw [hop] at hp ho
  simp only at hp ⊢
  split at hp
  ·rename_i ty hty
   split at hp
   ·cases hp
   ·rename_i hd
    cases hp
    simp only [hty]
    exact ⟨_, rfl, .iface (h.ev ho)⟩
  ·cases hp
 | makeFunc fn first captured =>
  rw [hop] at hp ho
  simp only [opOk, Bool.and_eq_true] at ho
  simp only at hp ⊢
  cases fn with
  | func f =>
   simp only at hp ⊢
   cases hp
   refine ⟨_, rfl, .fn ?_ ?_⟩
   ·simpa using PRs.operands h ho.1
   ·simpa using PRs.operands h ho.2
  | _ => cases hp
 | slice t y lo hi mx =>
  rw [hop] at hp ho
  simp only [opOk, Bool.and_eq_true] at ho
  simp only at hp ⊢
  obtain ⟨a1, a2⟩ := opt_sim h ho.2.1
  obtain ⟨b1, b2⟩ := opt_sim h ho.2.2.1
  obtain ⟨c1, c2⟩ := opt_sim h ho.2.2.2
  obtain ⟨v, e, hr⟩ := pslice_sim (h.ev ho.1) a1 a2 b1 b2 c1 c2 hp
  rw [e]; exact ⟨v, rfl, hr⟩
 | fieldAddr t y f =>
  rw [hop] at hp ho
  simp only at hp ⊢
  obtain ⟨v, e, hr⟩ := pfieldAddr_sim (h.ev ho) hp
  rw [e]; exact ⟨v, rfl, hr⟩
 | field t y f =>
  rw [hop] at hp ho
  simp only at hp ⊢
  obtain ⟨v, e, hr⟩ := pfield_sim (h.ev ho) hp
  rw [e]; exact ⟨v, rfl, hr⟩
 | indexAddr t y i =>
  rw [hop] at hp ho
  simp only [opOk, Bool.and_eq_true] at ho
  simp only at hp ⊢
  obtain ⟨v, e, hr⟩ := pindexAddr_sim (h.ev ho.1) (h.ev ho.2) hp
  rw [e]; exact ⟨v, rfl, hr⟩
 | index t y i =>
  rw [hop] at hp ho
  simp only [opOk, Bool.and_eq_true] at ho
  simp only at hp ⊢
  obtain ⟨v, e, hr⟩ := pindex_sim (h.ev ho.1) (h.ev ho.2) hp
  rw [e]; exact ⟨v, rfl, hr⟩
 | extract y i =>
  rw [hop] at hp ho
  simp only at hp ⊢
  have hy := h.ev (x := y) ho
  generalize pev s.tm y = z at hp hy
  generalize Am.ev sA.tm y = u at hy
  split at hp
  ·cases hy with
   | tup hs =>
    obtain ⟨v, e, hr⟩ := hs.get hp
    simp only [e, Option.map_some]
    exact ⟨v, rfl, hr⟩
  ·cases hp
 | call c =>
  rw [hop] at hp ho
  simp only [opOk, Bool.and_eq_true] at ho
  simp only at hp ⊢
  cases hc : c.callee with
  | builtin b =>
   rw [hc] at hp
   simp only at hp ⊢
   obtain ⟨v, e, hr⟩ := pbuiltin_sim (sA := sA) (PRs.operands h ho.1) hp
   rw [e]; exact ⟨v, rfl, hr⟩
  | _ => rw [hc] at hp; cases hp
 | _ => rw [hop] at hp; cases hp
end
end Go.Pm
noncomputable section
namespace Go.Pm
open Go.RowKit Go.Am
def Cx.bind (cx : Cx) (k i r : Nat) : Cx := { cx with at_ := fun k' i' => if k' = k /\ i' = i then some r else cx.at_ k' i', role := fun r' => if r' = r then .ob k i else cx.role r' }
def Cx.addIm (cx : Cx) (r : Nat) (vs : List Value) : Cx := { cx with role := fun r' => if r' = r then .im vs else cx.role r' }
def Cx.setTk (cx : Cx) (k i : Nat) (x : Option Nat × Nat × Nat) : Cx := { cx with tk := fun k' i' => if k' = k /\ i' = i then some x else cx.tk k' i' }
section
variable {E : Env} {P : Program} {cx cx' : Cx} {s : PSt} {sA : St} {m m' : Mem} {M M' : PMem}
def DD (cx cx' : Cx) (m m' : Mem) : Prop := ∀ p, cx.role p = .dead -> cx'.role p = .dead /\ (m'.get p = m.get p \/ m'.get p = none)
theorem Shade.move (hd : DD cx cx' m m') (hbar : m'.bar <= m.bar) {b : Nat} {q : Option Nat} (h : Shade cx m b q) : Shade cx' m' b q := by
 induction h with
 | none => exact .none
 | gone hp hdd hb hg =>
  obtain ⟨g1, g2⟩ := hd _ hdd
  refine .gone hp g1 (Nat.le_trans hbar hb) ?_
  rcases g2 with g2 | g2
  ·rw [g2]; exact hg
  ·exact g2
 | more hp hdd hb hg r ih =>
  obtain ⟨g1, g2⟩ := hd _ hdd
  rcases g2 with g2 | g2
  ·exact .more hp g1 (Nat.le_trans hbar hb) (by rw [g2]; exact hg) ih
  ·exact .gone hp g1 (Nat.le_trans hbar hb) g2
theorem Shade.low {b : Nat} {q : Option Nat} (h : Shade cx m b q) : ∀ {m' : Mem}, m'.bar = m.bar -> (∀ x, x < b -> m'.get x = m.get x) -> Shade cx m' b q := by
 induction h with
 | none => intro m' _ _; exact .none
 | gone hp hdd hb hg => intro m' h1 h2; exact .gone hp hdd (by rw [h1]; exact hb) (by rw [h2 _ hp]; exact hg)
 | more hp hdd hb hg r ih => intro m' h1 h2; exact .more hp hdd (by rw [h1]; exact hb) (by rw [h2 _ hp]; exact hg) (ih h1 fun x hx => h2 x (Nat.lt_trans hx hp))
theorem Shade.kill : ∀ (k b : Nat) (q : Option Nat) {m : Mem}, Shade cx m b q -> m.nb <= m.bar -> b <= k -> ∃ m0, m.kill k q = some m0 /\ m0.size = m.size /\ m0.bar = m.bar /\ m0.nb = m.nb /\ ∀ x, m0.get x = m.get x \/ (cx.role x = .dead /\ m0.get x = .none)
 | 0, b, q, m, h, hnb, hk => by
  cases h with
  | none => exact ⟨m, rfl, rfl, rfl, rfl, fun x => .inl rfl⟩
  | gone hp => omega
  | more hp => omega
 | k + 1, b, q, m, h, hnb, hk => by
  cases h with
  | none => exact ⟨m, rfl, rfl, rfl, rfl, fun x => .inl rfl⟩
  | gone hp hd hb hg => exact ⟨m, by simp only [Mem.kill, hg], rfl, rfl, rfl, fun x => .inl rfl⟩
  | @more _ p es cs q hp hd hb hg r =>
   have hnp : m.nb <= p := Nat.le_trans hnb hb
   have hs : Shade cx (m.upd p Option.none) p q := r.low (by rw [Mem.upd_def]) fun x hx => Mem.get_upd_ne hnp (by omega) _
   obtain ⟨m0, h1, h2, h3, h4, h5⟩ := Shade.kill k p q hs (by rw [Mem.upd_def]; exact hnb) (by omega)
   refine ⟨m0, by simp only [Mem.kill, hg, bleT hb, cond_true]; exact h1, by rw [h2, Mem.upd_def], by rw [h3, Mem.upd_def], by rw [h4, Mem.upd_def], fun x => ?_⟩
   by_cases hx : x = p
   ·subst hx
    refine .inr ⟨hd, ?_⟩
    rcases h5 x with h5 | h5
    ·rw [h5]; exact Mem.get_upd_same hnp _
    ·exact h5.2
   ·rcases h5 x with h5 | h5
    ·exact .inl (by rw [h5]; exact Mem.get_upd_ne hnp hx _)
    ·exact .inr h5
theorem DD.refl (cx : Cx) (m : Mem) : DD cx cx m m := fun p h => ⟨h, .inl rfl⟩
theorem OG.moveV (hle : CxV cx cx') (hnk : cx.nk <= cx'.nk) (hd : DD cx cx' m m') {k i : Nat} {o : Obj} (hbar : m'.bar = m.bar) (hget : ∀ r, cx.at_ k i = some r -> m'.get r = m.get r) (htk : (∃ n es, o = .grow n es) -> cx'.tk k i = cx.tk k i)
  (htg : ∀ r n es, o = .grow n es -> cx.tk k i = some (some r, n, es) -> m'.get r = m.get r) (h : OG cx m k i o) : OG cx' m' k i o := by
 cases o with
 | gone => exact Nat.lt_of_lt_of_le h hnk
 | row w es cs =>
  obtain ⟨r, vs, md, q, e1, e2, e3, e4, e5⟩ := h
  refine ⟨r, vs, md, q, hle.at_ _ _ _ e1, by rw [hget r e1]; exact e2, e3.monoV hle, fun hw => ⟨(e4 hw).1, ?_⟩, by rw [hbar]; exact e5⟩
  have := (e4 hw).2
  cases w with
  | own => exact ⟨by rw [hbar]; exact this.1, this.2.move hd (Nat.le_of_eq hbar)⟩
  | _ => exact this
 | str w st pos =>
  obtain ⟨r, e1, e2, e3⟩ := h
  exact ⟨r, hle.at_ _ _ _ e1, by rw [hget r e1]; exact e2, by rw [hbar]; exact e3⟩
 | loop w st pend tm nt ps asg body =>
  obtain ⟨r, tmA, D, e1, e2, e3, e4⟩ := h
  exact ⟨r, tmA, D, hle.at_ _ _ _ e1, by rw [hget r e1]; exact e2, fun j => (e3 j).monoV hle, by rw [hbar]; exact e4⟩
 | grow n es =>
  obtain ⟨ro, e1, e2, e3⟩ := h
  refine ⟨ro, by rw [htk ⟨_, _, rfl⟩]; exact e1, e2, ?_⟩
  cases ro with
  | none => exact e3
  | some r =>
   obtain ⟨vs, q, h1, h2, h3⟩ := e3
   exact ⟨vs, q, by rw [htg r n es rfl e1]; exact h1, hle.im _ _ h2, h3⟩
theorem OG.move (hle : CxLe cx cx') (hd : DD cx cx' m m') {k i : Nat} {o : Obj} (hbar : m'.bar = m.bar) (hget : ∀ r, cx.at_ k i = some r -> m'.get r = m.get r) (htk : (∃ n es, o = .grow n es) -> cx'.tk k i = cx.tk k i)
  (htg : ∀ r n es, o = .grow n es -> cx.tk k i = some (some r, n, es) -> m'.get r = m.get r) (h : OG cx m k i o) : OG cx' m' k i o := OG.moveV hle.v hle.nk hd hbar hget htk htg h
theorem PG.get_lt (h : PG E cx M m) {k i r : Nat} (e : cx.at_ k i = some r) : r < m.size := (h.at_ k i r e).1
theorem PG.nbs (h : PG E cx M m) : m.nb <= m.size := Nat.le_trans h.wf.nb h.wf.bar
theorem PG.tk_im (h : PG E cx M m) {k i n es r : Nat} (hM : M k i = some (.grow n es)) (ht : cx.tk k i = some (some r, n, es)) : ∃ vs q, m.get r = some (.row vs .rw es q) /\ cx.role r = .im vs /\ vs.length = n * es := by
 obtain ⟨ro, e1, e2, e3⟩ := h.obj k i _ hM
 rw [ht] at e1; cases e1
 exact e3
theorem PG.role (h : PG E cx M m) {k i r : Nat} {o : Obj} (hM : M k i = some o) (ho : o ≠ .gone) (hg : ∀ n es, o ≠ .grow n es) (e : cx.at_ k i = some r) : cx.role r = .ob k i := by
 rcases h.nd k i o r hM e with h1 | h1 | ⟨n, es, h1⟩
 ·exact h1
 ·exact absurd h1 ho
 ·exact absurd h1 (hg n es)
theorem ob_inj {cx : Cx} {k i k' i' r : Nat} (h1 : cx.role r = .ob k i) (h2 : cx.role r = .ob k' i') : k = k' /\ i = i' := by
 rw [h1] at h2
 cases h2
 exact ⟨rfl, rfl⟩
theorem CxLe.bind (h : PG E cx M m) {k i : Nat} (ha : cx.at_ k i = none) : CxLe cx (cx.bind k i m.size) where
 at_ := fun k' i' r e => by
  simp only [Cx.bind]
  split
  ·rename_i hc; rw [hc.1, hc.2, ha] at e; cases e
  ·exact e
 im := fun r cells e => by
  simp only [Cx.bind]
  split
  ·rename_i hc; subst hc; have := (h.im _ _ e).1; omega
  ·exact e
 mks := fun r e => by
  have := (h.mks _ e).1
  simp only [Cx.bind, Cx.addIm]
  rw [if_neg (by omega)]
  exact e
 dd := fun r e => by
  have := h.dd _ e
  simp only [Cx.bind, Cx.addIm]
  rw [if_neg (by omega)]
  exact e
 tk := fun _ _ r n es e => ⟨r, n, es, e, .inl ⟨rfl, rfl, rfl⟩⟩
 nk := Nat.le_refl _
theorem CxLe.addIm (h : PG E cx M m) (vs : List Value) : CxLe cx (cx.addIm m.size vs) where
 at_ := fun k' i' r e => e
 im := fun r cells e => by
  simp only [Cx.addIm]
  split
  ·rename_i hc; subst hc; have := (h.im _ _ e).1; omega
  ·exact e
 mks := fun r e => by
  have := (h.mks _ e).1
  simp only [Cx.bind, Cx.addIm]
  rw [if_neg (by omega)]
  exact e
 dd := fun r e => by
  have := h.dd _ e
  simp only [Cx.bind, Cx.addIm]
  rw [if_neg (by omega)]
  exact e
 tk := fun _ _ r n es e => ⟨r, n, es, e, .inl ⟨rfl, rfl, rfl⟩⟩
 nk := Nat.le_refl _
theorem new_get (hnb : m.nb <= m.size) (ao : AObj) {r : Nat} (h : r < m.size) : (m.new ao).get r = m.get r := Mem.get_new_ne hnb (by omega) ao
theorem new_wf (hw : Wf m) (ao : AObj) : Wf (m.new ao) := hw.keep (Keep.new hw ao)
theorem new_size (m : Mem) (ao : AObj) : (m.new ao).size = m.size + 1 := by rw [Mem.new_def]
theorem new_bar (m : Mem) (ao : AObj) : (m.new ao).bar = m.bar := by rw [Mem.new_def]
theorem PG.ddNew (h : PG E cx M m) (hle : CxLe cx cx') (ao : AObj) : DD cx cx' m (m.new ao) := fun p hp => ⟨hle.dd _ hp, .inl (new_get h.nbs _ (h.dd _ hp))⟩
def putM (M : PMem) (k i : Nat) (o : Obj) : PMem := fun k' i' => if k' = k /\ i' = i then some o else M k' i'
theorem PG.newObj (h : PG E cx M m) {k i : Nat} (hk : k < cx.nk) (ha : cx.at_ k i = none) (ht : cx.tk k i = none) (h0 : E.ng <= i \/ 0 < k) {ao : AObj} {o : Obj} (hg : ∀ n es, o ≠ .grow n es)
  (hgo : o ≠ .gone) (hO : OG (cx.bind k i m.size) (m.new ao) k i o) : PG E (cx.bind k i m.size) (putM M k i o) (m.new ao) where
 obj := fun k' i' o' e => by
  unfold putM at e
  split at e
  ·rename_i hc; cases e; obtain ⟨rfl, rfl⟩ := hc; exact hO
  ·refine (h.obj k' i' o' e).move (CxLe.bind h ha) (h.ddNew (CxLe.bind h ha) _) (new_bar _ _) (fun r e1 => new_get h.nbs _ (h.get_lt e1)) (fun _ => rfl) (fun r n es e1 e2 => ?_)
   subst e1
   obtain ⟨_, _, _, h2, _⟩ := h.tk_im e e2
   exact new_get h.nbs _ (h.im _ _ h2).1
 at_ := fun k' i' r e => by
  simp only [Cx.bind] at e ⊢
  rw [new_size]
  split at e
  ·rename_i hc; cases e; obtain ⟨rfl, rfl⟩ := hc; exact ⟨by omega, by simp⟩
  ·have := h.at_ _ _ _ e
   exact ⟨by omega, by rw [if_neg (by omega)]; exact this.2⟩
 nd := fun k' i' o' r hM e => by
  simp only [Cx.bind] at e ⊢
  split at e
  ·rename_i hc; cases e; obtain ⟨rfl, rfl⟩ := hc; exact .inl (by simp)
  ·rename_i hc
   unfold putM at hM
   rw [if_neg hc] at hM
   have := (h.at_ _ _ _ e).1
   rw [if_neg (by omega)]
   exact h.nd _ _ _ _ hM e
 im := fun r cells e => by
  simp only [Cx.bind] at e
  rw [new_size]
  split at e
  ·cases e
  ·obtain ⟨h1, md, es, q, h2⟩ := h.im _ _ e
   exact ⟨by omega, md, es, q, by rw [new_get h.nbs _ h1]; exact h2⟩
 mks := fun r e => by
  simp only [Cx.bind, Cx.addIm] at e
  rw [new_size]
  split at e
  ·cases e
  ·obtain ⟨h1, h2⟩ := h.mks _ e
   exact ⟨by omega, by rw [new_get h.nbs _ h1]; exact h2⟩
 dd := fun r e => by
  simp only [Cx.bind] at e
  rw [new_size]
  split at e
  ·cases e
  ·have := h.dd _ e; omega
 keys := fun k' i' e => by
  have e' : cx.nk <= k' := e
  have := h.keys k' i' e'
  simp only [Cx.bind]
  rw [if_neg (by omega)]
  exact this
 tkin := fun k1 i1 k2 i2 r n es n' es' e1 e2 e3 e4 => by
  unfold putM at e1 e2
  split at e1
  ·cases e1; exact absurd rfl (hg _ _)
  ·split at e2
   ·cases e2; exact absurd rfl (hg _ _)
   ·exact h.tkin k1 i1 k2 i2 r n es n' es' e1 e2 e3 e4
 glob := fun g hgl => by
  simp only [Cx.bind]
  rw [if_neg (by omega)]
  exact h.glob g hgl
 wf := new_wf h.wf _
 pos := h.pos
theorem PG.newIm (h : PG E cx M m) (vs : List Value) (es : Nat) (q : Option Nat) : PG E (cx.addIm m.size vs) M (m.new (.row vs .rw es q)) where
 obj := fun k' i' o' e => by
  refine (h.obj k' i' o' e).move (CxLe.addIm h vs) (h.ddNew (CxLe.addIm h vs) _) (new_bar _ _) (fun r e1 => new_get h.nbs _ (h.get_lt e1)) (fun _ => rfl) (fun r n es e1 e2 => ?_)
  subst e1
  obtain ⟨_, _, _, h2, _⟩ := h.tk_im e e2
  exact new_get h.nbs _ (h.im _ _ h2).1
 at_ := fun k' i' r e => by
  have := h.at_ k' i' r e
  simp only [Cx.addIm]
  rw [new_size, if_neg (by omega)]
  exact ⟨by omega, this.2⟩
 nd := fun k' i' o' r hM e => by
  have := (h.at_ k' i' r e).1
  simp only [Cx.addIm]
  rw [if_neg (by omega)]
  exact h.nd _ _ _ _ hM e
 im := fun r cells e => by
  simp only [Cx.addIm] at e
  rw [new_size]
  split at e
  ·rename_i hc; cases e; subst hc; exact ⟨by omega, _, _, _, Mem.get_new_same h.nbs _⟩
  ·obtain ⟨h1, md, es, q, h2⟩ := h.im _ _ e
   exact ⟨by omega, md, es, q, by rw [new_get h.nbs _ h1]; exact h2⟩
 mks := fun r e => by
  simp only [Cx.bind, Cx.addIm] at e
  rw [new_size]
  split at e
  ·cases e
  ·obtain ⟨h1, h2⟩ := h.mks _ e
   exact ⟨by omega, by rw [new_get h.nbs _ h1]; exact h2⟩
 dd := fun r e => by
  simp only [Cx.addIm] at e
  rw [new_size]
  split at e
  ·cases e
  ·have := h.dd _ e; omega
 keys := fun k' i' e => h.keys k' i' e
 tkin := h.tkin
 glob := h.glob
 wf := new_wf h.wf _
 pos := h.pos
theorem PG.updObj (h : PG E cx M m) {k i r : Nat} (ha : cx.at_ k i = some r) (hbar : m.bar <= r) {ao : Option AObj} {o o0 : Obj} (hM : M k i = some o0) (hg0 : o0 ≠ .gone /\ ∀ n es, o0 ≠ .grow n es) (hg : ∀ n es, o ≠ .grow n es) (hO : OG cx (m.upd r ao) k i o) :
  PG E cx (putM M k i o) (m.upd r ao) := by
 have hnb : m.nb <= r := Nat.le_trans h.wf.nb hbar
 have hget : ∀ r', r' ≠ r -> (m.upd r ao).get r' = m.get r' := fun r' hr => Mem.get_upd_ne hnb hr _
 have hrole := h.role hM hg0.1 hg0.2 ha
 have hne : ∀ r' cells, cx.role r' = .im cells -> r' ≠ r := fun r' cells e hr => by subst hr; rw [hrole] at e; cases e
 have hbr : (m.upd r ao).bar = m.bar := by rw [Mem.upd_def]
 have hsz : (m.upd r ao).size = m.size := by rw [Mem.upd_def]
 have hdd : DD cx cx m (m.upd r ao) := fun p hp => ⟨hp, .inl (hget p fun e => by subst e; rw [hrole] at hp; cases hp)⟩
 constructor
 ·intro k' i' o' e
  unfold putM at e
  split at e
  ·rename_i hc; cases e; obtain ⟨rfl, rfl⟩ := hc; exact hO
  ·rename_i hc
   have hO' := h.obj k' i' o' e
   by_cases hgo : o' = .gone
   ·subst hgo; exact hO'
   by_cases hgg : ∃ n es, o' = .grow n es
   ·obtain ⟨n, es, rfl⟩ := hgg
    obtain ⟨ro, e1, e2, e3⟩ := hO'
    refine ⟨ro, e1, e2, ?_⟩
    cases ro with
    | none => exact e3
    | some r' =>
     obtain ⟨vs, q, h1, h2, h3⟩ := e3
     exact ⟨vs, q, by rw [hget r' (hne _ _ h2)]; exact h1, h2, h3⟩
   refine hO'.move (CxLe.refl _) hdd hbr (fun r' e1 => hget r' fun hr => ?_) (fun _ => rfl) (fun r' n es e1 e2 => ?_)
   ·subst hr; exact hc (ob_inj (h.role e hgo (fun n es he => hgg ⟨n, es, he⟩) e1) hrole)
   ·subst e1
    obtain ⟨_, _, _, h2, _⟩ := h.tk_im e e2
    exact hget r' (hne _ _ h2)
 ·intro k' i' r' e; rw [hsz]; exact h.at_ k' i' r' e
 ·intro k' i' o' r' e e'
  unfold putM at e
  split at e
  ·rename_i hc
   obtain ⟨rfl, rfl⟩ := hc
   rw [ha] at e'; cases e'
   exact .inl hrole
  ·exact h.nd _ _ _ _ e e'
 ·intro r' cells e
  obtain ⟨h1, md, es, q, h2⟩ := h.im _ _ e
  exact ⟨by rw [hsz]; exact h1, md, es, q, by rw [hget r' (hne _ _ e)]; exact h2⟩
 ·intro r' e
  obtain ⟨h1, h2⟩ := h.mks _ e
  exact ⟨by rw [hsz]; exact h1, by rw [hget r' (fun hr => by subst hr; rw [hrole] at e; cases e)]; exact h2⟩
 ·intro r' e; rw [hsz]; exact h.dd r' e
 ·exact h.keys
 ·intro k1 i1 k2 i2 r n es n' es' e1 e2 e3 e4
  unfold putM at e1 e2
  split at e1
  ·cases e1; exact absurd rfl (hg _ _)
  ·split at e2
   ·cases e2; exact absurd rfl (hg _ _)
   ·exact h.tkin k1 i1 k2 i2 r n es n' es' e1 e2 e3 e4
 ·exact h.glob
 ·exact h.wf.keep (Keep.upd h.wf hbar _)
 ·exact h.pos
theorem PG.kill (h : PG E cx M m) {b : Nat} {q : Option Nat} (hs : Shade cx m b q) (hb : b <= m.size) : ∃ m0, m.kill m.size q = some m0 /\ PG E cx M m0 /\ m0.size = m.size /\ m0.bar = m.bar /\ m0.nb = m.nb /\ ∀ x, cx.role x ≠ .dead -> m0.get x = m.get x := by
 obtain ⟨m0, h1, h2, h3, h4, h5⟩ := Shade.kill m.size b q hs h.wf.nb hb
 have hget : ∀ x, cx.role x ≠ .dead -> m0.get x = m.get x := fun x hx => by
  rcases h5 x with h5 | ⟨h5, _⟩
  ·exact h5
  ·exact absurd h5 hx
 have hdd : DD cx cx m m0 := fun p hp => ⟨hp, by
  rcases h5 p with h5 | ⟨_, h5⟩
  ·exact .inl h5
  ·exact .inr h5⟩
 refine ⟨m0, h1, ⟨fun k i o e => ?_, fun k i r e => by rw [h2]; exact h.at_ k i r e, h.nd, fun r cells e => ?_, fun r e => ?_, fun r e => by rw [h2]; exact h.dd r e, h.keys, h.tkin, h.glob, h.wf.keep (Keep.kill _ _ _ _ h.wf h1), h.pos⟩, h2, h3, h4, hget⟩
 ·have ho := h.obj k i o e
  by_cases hgo : o = .gone
  ·subst hgo; exact ho
  by_cases hgg : ∃ n es, o = .grow n es
  ·obtain ⟨n, es, rfl⟩ := hgg
   obtain ⟨ro, e1, e2, e3⟩ := ho
   refine ⟨ro, e1, e2, ?_⟩
   cases ro with
   | none => exact e3
   | some r' =>
    obtain ⟨vs, q, g1, g2, g3⟩ := e3
    exact ⟨vs, q, by rw [hget r' (fun hr => by rw [g2] at hr; cases hr)]; exact g1, g2, g3⟩
  refine ho.move (CxLe.refl _) hdd h3 (fun r' e1 => hget r' fun hr => ?_) (fun _ => rfl) (fun r' n es e1 e2 => absurd ⟨n, es, e1⟩ hgg)
  rw [h.role e hgo (fun n es he => hgg ⟨n, es, he⟩) e1] at hr; cases hr
 ·obtain ⟨g1, md, es, q, g2⟩ := h.im r cells e
  exact ⟨by rw [h2]; exact g1, md, es, q, by rw [hget r (fun hr => by rw [e] at hr; cases hr)]; exact g2⟩
 ·obtain ⟨g1, g2⟩ := h.mks r e
  exact ⟨by rw [h2]; exact g1, by rw [hget r (fun hr => by rw [e] at hr; cases hr)]; exact g2⟩
theorem putM_seg {k : Nat} {os : List Obj} {o : Obj} : seg M k (os ++ [o]) = putM (seg M k os) k os.length o := by
 funext k' i'
 unfold seg putM
 by_cases h1 : k' = k
 ·subst h1
  simp only [if_true, true_and]
  by_cases h2 : i' = os.length
  ·subst h2; simp
  ·rw [if_neg h2, List.getElem?_append]
   split
   ·rfl
   ·rw [List.getElem?_eq_none (by simp; omega), List.getElem?_eq_none (by omega)]
 ·simp [h1]
def PSt.putO (s : PSt) (k i : Nat) (o : Obj) : PSt := if k = s.k then { s with os := s.os.set i o } else { s with M := putM s.M k i o }
theorem PSt.putO_mem {k i : Nat} {o o0 : Obj} (h : s.look k i = some o0) : (s.putO k i o).mem = putM s.mem k i o := by
 funext k' i'
 unfold PSt.putO PSt.mem
 unfold PSt.look at h
 by_cases hk : k = s.k
 ·subst hk
  rw [if_pos rfl]
  rw [if_pos rfl] at h
  simp only [seg, putM]
  by_cases h1 : k' = s.k
  ·subst h1
   simp only [if_true, true_and]
   by_cases h2 : i' = i
   ·subst h2
    have : i' < s.os.length := by
     rcases Nat.lt_or_ge i' s.os.length with hx | hx
     ·exact hx
     ·rw [List.getElem?_eq_none hx] at h; cases h
    rw [if_pos rfl, List.getElem?_set_self this]
   ·rw [if_neg h2, List.getElem?_set_ne (Ne.symm h2)]
  ·simp [h1]
 ·rw [if_neg hk]
  simp only [seg, putM]
  by_cases h1 : k' = s.k
  ·rw [if_pos h1, if_pos h1, if_neg (fun e => hk (by rw [<- e.1, h1]))]
  ·rw [if_neg h1, if_neg h1]
theorem PSt.putO_tm {k i : Nat} {o : Obj} : (s.putO k i o).tm = s.tm /\ (s.putO k i o).nt = s.nt /\ (s.putO k i o).k = s.k /\ (s.putO k i o).os.length = s.os.length := by
 unfold PSt.putO; split <;> simp
structure After (E : Env) (cx : Cx) (s : PSt) (sA : St) (x : PV) (s' : PSt) (v : Value) (m' : Mem) : Prop where
 ex : ∃ cx', PR cx' x v /\ Ext (some s.k) cx cx' /\ PS E cx' s' { sA with m := m' }
 tm : s'.tm = s.tm
 nt : s'.nt = s.nt
 k : s'.k = s.k
theorem Ext.bind (h : PG E cx M m) {k i : Nat} (ha : cx.at_ k i = none) : Ext (some k) cx (cx.bind k i m.size) :=
 ⟨CxLe.bind h ha, fun k' i' _ hk => ⟨fun e => by
  simp only [Cx.bind]
  rw [if_neg (fun hc => hk (by rw [hc.1]))]; exact e, fun e => e⟩⟩
theorem Ext.addIm (h : PG E cx M m) (vs : List Value) {c : Option Nat} : Ext c cx (cx.addIm m.size vs) := ⟨CxLe.addIm h vs, fun k' i' _ _ => ⟨fun e => e, fun e => e⟩⟩
theorem after_new (h : PS E cx s sA) {ao : AObj} {o : Obj} {x : PV} {v : Value} (hg : ∀ n es, o ≠ .grow n es) (hgo : o ≠ .gone)
  (hO : OG (cx.bind s.k s.os.length sA.m.size) (sA.m.new ao) s.k s.os.length o) (hx : PR (cx.bind s.k s.os.length sA.m.size) x v) : After E cx s sA x { s with os := s.os ++ [o] } v (sA.m.new ao) := by
 obtain ⟨c1, c2⟩ := h.cur s.os.length (Nat.le_refl _)
 have hpg := h.pg.newObj h.low c1 c2 (.inr h.pos) hg hgo hO
 refine ⟨⟨_, hx, Ext.bind h.pg c1, ?_⟩, rfl, rfl, rfl⟩
 have hle := CxLe.bind h.pg c1
 refine ⟨fun i => (h.tm i).mono hle, h.nt, ?_, fun i hi => ?_, h.low, h.pos, ⟨h.df.1, fun r hr => ⟨hle.mks _ (h.df.2 r hr).1, by rw [new_bar]; exact (h.df.2 r hr).2⟩⟩⟩
 ·have : (({ s with os := s.os ++ [o] } : PSt)).mem = putM s.mem s.k s.os.length o := putM_seg
  rw [this]; exact hpg
 ·have hi' : s.os.length + 1 <= i := by simpa using hi
  have := h.cur i (by omega)
  simp only [Cx.bind]
  exact ⟨by rw [if_neg (by omega)]; exact this.1, this.2⟩
theorem after_im (h : PS E cx s sA) {vs : List Value} {es : Nat} {x : PV} {v : Value} (hx : PR (cx.addIm sA.m.size vs) x v) : After E cx s sA x s v (sA.m.new (.row vs .rw es none)) := by
 refine ⟨⟨_, hx, Ext.addIm h.pg vs, ?_⟩, rfl, rfl, rfl⟩
 have hle := CxLe.addIm h.pg vs
 exact ⟨fun i => (h.tm i).mono hle, h.nt, h.pg.newIm vs es none, h.cur, h.low, h.pos, ⟨h.df.1, fun r hr => ⟨hle.mks _ (h.df.2 r hr).1, by rw [new_bar]; exact (h.df.2 r hr).2⟩⟩⟩
theorem after_upd (h : PS E cx s sA) {k i r : Nat} (ha : cx.at_ k i = some r) (hbar : sA.m.bar <= r) {ao : AObj} {o o0 : Obj} (hM : s.look k i = some o0) (hg0 : o0 ≠ .gone /\ ∀ n es, o0 ≠ .grow n es) (hg : ∀ n es, o ≠ .grow n es) (hO : OG cx (sA.m.upd r (some ao)) k i o) {x : PV} {v : Value} (hx : PR cx x v) :
  After E cx s sA x (s.putO k i o) v (sA.m.upd r (some ao)) := by
 have hpg := h.pg.updObj ha hbar hM hg0 hg hO
 obtain ⟨e1, e2, e3, e5⟩ := PSt.putO_tm (s := s) (k := k) (i := i) (o := o)
 refine ⟨⟨cx, hx, Ext.refl _ _, ?_⟩, e1, e2, e3⟩
 refine ⟨fun j => by rw [e1]; exact h.tm j, by rw [e2]; exact h.nt, by rw [PSt.putO_mem hM]; exact hpg, fun j hj => by rw [e3]; exact h.cur j (by rw [e5] at hj; exact hj), by rw [e3]; exact h.low, by rw [e3]; exact h.pos, ⟨h.df.1, fun r hr => ⟨(h.df.2 r hr).1, by rw [Mem.upd_def]; exact (h.df.2 r hr).2⟩⟩⟩
theorem after_updOwn (h : PS E cx s sA) {k i r es : Nat} {cs cs' : List PV} {vs vs' : List Value} {q : Option Nat} (ha : cx.at_ k i = some r) (hM : s.look k i = some (.row .own es cs)) (hg : sA.m.get r = some (.row vs .rw es q)) (hbar : sA.m.bar <= r) (hs : Shade cx sA.m r q) (hr : PRs cx cs' vs') {x : PV} {v : Value} (hx : PR cx x v) :
  ∃ m0, sA.m.kill sA.m.size q = some m0 /\ After E cx s sA x (s.putO k i (.row .rw es cs')) v (m0.upd r (some (.row vs' .rw es none))) := by
 have hrs := (h.pg.at_ _ _ _ ha).1
 have hrole := h.pg.role hM nofun nofun ha
 obtain ⟨m0, h1, h2, h3, h4, h5, h6⟩ := h.pg.kill hs (Nat.le_of_lt hrs)
 refine ⟨m0, h1, ?_⟩
 have hps : PS E cx s { sA with m := m0 } := ⟨h.tm, h.nt, h2, h.cur, h.low, h.pos, h.df.1, fun r' hr' => ⟨(h.df.2 r' hr').1, by show m0.bar <= r'; rw [h4]; exact (h.df.2 r' hr').2⟩⟩
 have hnb : m0.nb <= r := by rw [h5]; exact Nat.le_trans h.pg.wf.nb hbar
 obtain ⟨e1, e2, e3, e4⟩ := after_upd hps ha (by show m0.bar <= r; rw [h4]; exact hbar) hM ⟨nofun, nofun⟩ (ao := .row vs' .rw es none) (o := .row .rw es cs') nofun ⟨r, vs', .rw, none, ha, Mem.get_upd_same hnb _, hr, fun _ => ⟨rfl, rfl⟩, fun _ => by rw [Mem.upd_def]; show m0.bar <= r; rw [h4]; exact hbar⟩ hx
 exact ⟨e1, e2, e3, e4⟩
def pnewRow (s : PSt) (es : Nat) (cs : List PV) : PV × PSt := (.ptr s.k s.os.length 0, { s with os := s.os ++ [.row .rw es cs] })
def pstore (E : Env) (s : PSt) (t : Nat) (a x : PV) : Option (PV × PSt) :=
 match E.ty t with
 | none => none
 | some y => match a with
  | .ptr k i o => match s.look k i with
   | some (.row .rw es cs) => if (pcells x).length = y.size /\ o + (pcells x).length <= cs.length /\ (pcells x).all pone = true then some (.junk, s.putO k i (.row .rw es (psplice cs o (pcells x)))) else none
   | some (.row .own es cs) => if (pcells x).length = y.size /\ o + (pcells x).length <= cs.length /\ (pcells x).all pone = true then some (.junk, s.putO k i (.row .rw es (psplice cs o (pcells x)))) else none
   | _ => none
  | _ => none
def mkS (s : PSt) (sz by_ : Nat) (z : List PV) (l c : PV) : Option (PV × PSt) :=
 match l, c with
 | .v (.int _ l), .v (.int _ c) =>
  if 0 <= l /\ l <= c /\ c <= 4611686018427387904 /\ (by_ : Int) * c <= 281474976710656 /\ z.length = sz then
   some (.sl s.k s.os.length 0 l.toNat (2 * c.toNat), { s with os := s.os ++ [.row .rw sz (List.replicate c.toNat z).flatten] })
  else none
 | _, _ => none
def pmakeSlice (E : Env) (s : PSt) (t : Nat) (l c : PV) : Option (PV × PSt) :=
 match E.ty t with
 | some y => match y.desc with
  | .slice e => match E.ty e, pzero E e with
   | some ye, some z => mkS s ye.size ye.bytes z l c
   | _, _ => none
  | _ => none
 | none => none
def pbuildSlice (E : Env) (t len : Nat) (parts : List (Nat × PV)) : Option PV :=
 match E.ty t with
 | some y => match y.desc with
  | .slice e => match E.ty e, pzero E e with
   | some ye, some z =>
    if len * ye.size <= 16777216 /\ z.length = ye.size then
     (pfill (fun i => some (i * ye.size, ye.size)) (List.replicate len z).flatten parts).map fun cs => .lst .full ye.size len cs
    else none
   | _, _ => none
  | _ => none
 | none => none
def bytesS (x : PV) : Option PV :=
 match x with
 | .v (.string s) => some (.lst .no 1 s.data.toList.length (s.data.toList.map fun b => .v (.int .u8 b.toNat)))
 | _ => none
theorem bytesS_some {x v : PV} (h : bytesS x = some v) : ∃ s, x = .v (.string s) /\ .lst .no 1 s.data.toList.length (s.data.toList.map fun b => .v (.int .u8 b.toNat)) = v := by
 unfold bytesS at h
 split at h
 ·cases h; exact ⟨_, rfl, rfl⟩
 ·cases h
def pbytesOf (E : Env) (src dst : Nat) (x : PV) : Option PV :=
 match E.ty src, E.ty dst with
 | some _, some d => match d.desc with
  | .slice e => match E.ty e with
   | some ye => match ye.desc with
    | .int .u8 => bytesS x
    | _ => none
   | none => none
  | _ => none
 | _, _ => none
def rangeS (s : PSt) (x : PV) : Option (PV × PSt) :=
 match x with
 | .v (.string st) => some (.ptr s.k s.os.length 0, { s with os := s.os ++ [.str true st 0] })
 | _ => none
theorem rangeS_some {s : PSt} {x : PV} {v : PV × PSt} (h : rangeS s x = some v) : ∃ st, x = .v (.string st) /\ (.ptr s.k s.os.length 0, { s with os := s.os ++ [.str true st 0] }) = v := by
 unfold rangeS at h
 split at h
 ·cases h; exact ⟨_, rfl, rfl⟩
 ·cases h
def prange (E : Env) (s : PSt) (t : Nat) (x : PV) : Option (PV × PSt) :=
 match E.ty t with
 | some y => match y.desc with
  | .string => rangeS s x
  | _ => none
 | none => none
def pnext (s : PSt) (it : PV) (isString : Bool) : Option (PV × PSt) :=
 match isString with
 | true => match it with
  | .ptr k i 0 => match s.look k i with
   | some (.str true st pos) =>
    if pos < st.data.toList.length then
     some (.tup [.v (.bool true), .v (.int .i64 pos), .v (.int .i32 (Utf8.decode st pos).1)], s.putO k i (.str true st (pos + (Utf8.decode st pos).2)))
    else some (.tup [.v (.bool false)], s)
   | _ => none
  | _ => none
 | false => none
def pmem (E : Env) (s : PSt) (o : Op) : Option (PV × PSt) :=
 match o with
 | .alloc e => (pzero E e).map fun z => pnewRow s 0 z
 | .box _ x => if notJunk (pev s.tm x) = true then some (pnewRow s 0 (pcells (pev s.tm x))) else none
 | .store t a x => pstore E s t (pev s.tm a) (pev s.tm x)
 | .makeSlice t l c => pmakeSlice E s t (pev s.tm l) (pev s.tm c)
 | .buildSlice t len parts => (pbuildSlice E t len (parts.toList.map fun p => (p.1, pev s.tm p.2))).map fun x => (x, s)
 | .convert a d x => (pbytesOf E a d (pev s.tm x)).map fun x => (x, s)
 | .range t x => prange E s t (pev s.tm x)
 | .next it str => pnext s (pev s.tm it) str
 | _ => none
theorem repeat_sim {z : List PV} {vs : List Value} (h : PRs cx z vs) : ∀ n, PRs cx (List.replicate n z).flatten (repeatCells vs n)
 | 0 => by simp [repeatCells]; exact .nil
 | n + 1 => by
  simp only [List.replicate_succ, List.flatten_cons, repeatCells]
  exact h.append (repeat_sim h n)
theorem one_sim {x : PV} {v : Value} (h : PR cx x v) (hp : pone x = true) (r : List Value) : allOne (v :: r) = allOne r := by
 cases h with
 | v hf => cases v <;> first | rfl | (simp [Am.flat] at hf)
 | junk => cases hp
 | agg => cases hp
 | tup => cases hp
 | ltok h0 =>
  obtain ⟨a, c, rfl, _⟩ := h0.lst_view
  rfl
 | _ => rfl
theorem allOne_sim : ∀ {l : List PV} {vs : List Value}, PRs cx l vs -> l.all pone = true -> allOne vs = true
 | [], _, .nil, _ => rfl
 | x :: l, _, .cons hx hs, h => by
  simp only [List.all_cons, Bool.and_eq_true] at h
  rw [one_sim hx h.1]
  exact allOne_sim hs h.2
theorem new_row_OG (h : PG E cx M m) {k i es : Nat} {cs : List PV} {vs : List Value} (hk : cx.at_ k i = none) (hs : PRs cx cs vs) : OG (cx.bind k i m.size) (m.new (.row vs .rw es none)) k i (.row .rw es cs) :=
 ⟨m.size, vs, .rw, none, by simp [Cx.bind], by
  have := Mem.get_new_same h.nbs (.row vs .rw es none)
  rw [this], hs.mono (CxLe.bind h hk), fun _ => ⟨rfl, rfl⟩, fun _ => by rw [new_bar]; exact h.wf.bar⟩
end
end Go.Pm
end
namespace Go.Pm
open Go.RowKit Go.Am
section
variable {E : Env} {P : Program} {cx cx' : Cx} {s s' : PSt} {sA : St} {m m' : Mem} {M M' : PMem}
theorem pmem_sim (hE : EnvOk E P) (h : PS E cx s sA) {o : Oper} (ho : opOk E.ng o.op = true) {x : PV} (hp : pmem E s o.op = some (x, s')) : ∃ v m', aop E (ev sA.tm) sA.m o = some (.val v m') /\ After E cx s sA x s' v m' := by
 rw [aop_def]
 unfold pmem at hp
 have hcur := (h.cur s.os.length (Nat.le_refl _)).1
 have hptr : PR (cx.bind s.k s.os.length sA.m.size) (.ptr s.k s.os.length 0) (.pointer (some ⟨sA.m.size, 0, none⟩)) := .ptr (by simp [Cx.bind])
 cases hop : o.op with
 | alloc e =>
  rw [hop] at hp
  simp only [Option.map_eq_some_iff] at hp
  obtain ⟨z, hz, e2⟩ := hp
  obtain ⟨vs, hvs, hr⟩ := pzero_sim hE hz (cx := cx)
  unfold pnewRow at e2
  cases e2
  simp only [hvs]
  exact ⟨_, _, rfl, after_new h (fun _ _ e => by cases e) (fun e => by cases e) (new_row_OG h.pg hcur hr) hptr⟩
 | box t y =>
  rw [hop] at hp ho
  simp only at hp
  split at hp
  ·rename_i hj
   unfold pnewRow at hp
   cases hp
   refine ⟨_, _, rfl, after_new h (fun _ _ e => by cases e) (fun e => by cases e) (new_row_OG h.pg hcur (pcells_sim (h.ev ho) fun e => by rw [e] at hj; cases hj)) hptr⟩
  ·cases hp
 | store t a y =>
  rw [hop] at hp ho
  simp only [opOk, Bool.and_eq_true] at ho
  simp only at hp ⊢
  have ha := h.ev ho.1
  have hy := h.ev ho.2
  generalize pev s.tm a = pa at hp ha
  generalize Am.ev sA.tm a = va at ha
  generalize pev s.tm y = py at hp hy
  generalize Am.ev sA.tm y = vy at hy
  unfold pstore at hp
  split at hp
  ·cases hp
  ·rename_i ty hty
   split at hp
   ·rename_i k i off
    split at hp
    ·rename_i es cs hk
     split at hp
     ·rename_i hc
      obtain ⟨c1, c2, c3⟩ := hc
      cases hp
      obtain ⟨r, vs, md, q, e1, e2, e3, e4, e5⟩ := h.pg.obj k i _ hk
      obtain ⟨rfl, rfl⟩ := e4 (by simp)
      have hbar := e5 rfl
      cases ha with
      | ptr e =>
       rw [e1] at e; cases e
       have hj : py = .junk -> False := fun e => by
        subst e
        simp [pcells, pone] at c3
       have hcs := pcells_sim hy hj
       have hl := hcs.length
       have hlc := e3.length
       have hone := allOne_sim hcs c3
       simp only [storeV, hty, natBeqT (show vy.cells.toList.length = ty.size by omega), cond_true, Mem.storeCells, e2, bleT hbar, bleT (show off + vy.cells.toList.length <= vs.length by omega), hone, Bool.and_self, Mem.kill, Option.map_some]
       refine ⟨_, _, rfl, after_upd h e1 hbar hk ⟨nofun, nofun⟩ (fun _ _ e => by cases e) ?_ (.junk _)⟩
       have hnb : sA.m.nb <= r := Nat.le_trans h.pg.wf.nb hbar
       refine ⟨r, _, .rw, none, e1, Mem.get_upd_same hnb _, ?_, fun _ => ⟨rfl, rfl⟩, fun _ => by rw [Mem.upd_def]; exact hbar⟩
       rw [splice_eq _ _ _ (by omega)]
       exact psplice_sim e3 hcs off
     ·cases hp
    ·rename_i es cs hk
     split at hp
     ·rename_i hc
      obtain ⟨c1, c2, c3⟩ := hc
      cases hp
      obtain ⟨r, vs, md, q, e1, e2, e3, e4, e5⟩ := h.pg.obj k i _ hk
      obtain ⟨rfl, hbar, hsh⟩ := e4 (by simp)
      cases ha with
      | ptr e =>
       rw [e1] at e; cases e
       have hj : py = .junk -> False := fun e => by
        subst e
        simp [pcells, pone] at c3
       have hcs := pcells_sim hy hj
       have hl := hcs.length
       have hlc := e3.length
       have hone := allOne_sim hcs c3
       have hps := psplice_sim e3 hcs off
       rw [<- splice_eq _ _ _ (by omega)] at hps
       obtain ⟨m0, hk0, haft⟩ := after_updOwn h e1 hk e2 hbar hsh hps (x := .junk) (v := undefV) (.junk _)
       simp only [storeV, hty, natBeqT (show vy.cells.toList.length = ty.size by omega), cond_true, Mem.storeCells, e2, bleT hbar, bleT (show off + vy.cells.toList.length <= vs.length by omega), hone, Bool.and_self, hk0, Option.map_some]
       exact ⟨_, _, rfl, haft⟩
     ·cases hp
    ·cases hp
   ·cases hp
 | makeSlice t l c =>
  rw [hop] at hp ho
  simp only [opOk, Bool.and_eq_true] at ho
  simp only at hp ⊢
  have ha := h.ev ho.1
  have hy := h.ev ho.2
  generalize pev s.tm l = pa at hp ha
  generalize Am.ev sA.tm l = va at ha
  generalize pev s.tm c = py at hp hy
  generalize Am.ev sA.tm c = vy at hy
  unfold pmakeSlice at hp
  split at hp
  ·rename_i ty hty
   split at hp
   ·rename_i e hd
    split at hp
    ·rename_i ye z hye hz
     obtain ⟨vs, hvs, hr⟩ := pzero_sim hE hz (cx := cx)
     unfold mkS at hp
     split at hp
     ·rename_i k1 l k2 c
      obtain ⟨rfl, _⟩ := ha.flat_eq
      obtain ⟨rfl, _⟩ := hy.flat_eq
      split at hp
      ·rename_i hc
       cases hp
       have hlen := hr.length
       rw [hlen] at hc
       simp only [makeSliceV, hty, hd, hye, hvs, if_pos hc, Option.map_some]
       exact ⟨_, _, rfl, after_new h (fun _ _ e => by cases e) (fun e => by cases e) (new_row_OG h.pg hcur (repeat_sim hr _)) (.sl (by simp [Cx.bind]))⟩
      ·cases hp
     ·cases hp
    ·cases hp
   ·cases hp
  ·cases hp
 | buildSlice t len parts =>
  rw [hop] at hp ho
  simp only [Option.map_eq_some_iff, Prod.mk.injEq] at hp ⊢
  obtain ⟨y, hp, rfl, rfl⟩ := hp
  unfold pbuildSlice at hp
  split at hp
  ·rename_i ty hty
   split at hp
   ·rename_i e hd
    split at hp
    ·rename_i ye z hye hz
     obtain ⟨vs, hvs, hr⟩ := pzero_sim hE hz (cx := cx)
     split at hp
     ·rename_i hc
      simp only [Option.map_eq_some_iff] at hp
      obtain ⟨out, hf, rfl⟩ := hp
      have hlen := hr.length
      obtain ⟨us, e3, hu⟩ := pfill_sim (qs := parts.toList.map fun p => (p.1, ev sA.tm p.2)) (by simp) (by
       simp only [opOk] at ho
       have := PRs.operands h ho
       simpa [Function.comp_def] using this) (repeat_sim hr len) hf
      have hol : out.length = len * ye.size := by
       have hfl : ∀ {ps : List (Nat × PV)} {cells out : List PV}, pfill (fun i => some (i * ye.size, ye.size)) cells ps = some out -> out.length = cells.length := by
        intro ps
        induction ps with
        | nil => intro cells out h; cases h; rfl
        | cons p ps ih =>
         intro cells out h
         obtain ⟨i, v⟩ := p
         simp only [pfill] at h
         split at h
         ·rename_i hc
          rw [ih h, psplice_length hc.2.1]
         ·cases h
       rw [hfl hf]
       simp [hc.2]
      simp only [buildSliceV, hty, hd, hye, hvs, bleT hc.1, natBeqT (show vs.length = ye.size by omega), Bool.and_self, cond_true, e3, Option.map_some]
      refine ⟨_, _, ⟨_, rfl, rfl⟩, after_im h ?_⟩
      have hle := CxLe.addIm h.pg us
      have hul := hu.length
      have hu' : PRs (cx.addIm sA.m.size us) out ((us.drop 0).take out.length) := by
       rw [List.drop_zero, List.take_of_length_le (by omega)]; exact hu.mono hle
      exact .lfull (r := sA.m.size) (off := 0) (cells := us) (by simp [Cx.addIm]) (by omega) hu' hol
     ·cases hp
    ·cases hp
   ·cases hp
  ·cases hp
 | convert a d y =>
  rw [hop] at hp ho
  simp only [Option.map_eq_some_iff, Prod.mk.injEq] at hp ⊢
  obtain ⟨z, hp, rfl, rfl⟩ := hp
  have hy := h.ev (x := y) ho
  generalize pev s.tm y = py at hp hy
  generalize Am.ev sA.tm y = vy at hy
  unfold pbytesOf at hp
  split at hp
  ·rename_i ts td e1 e2
   split at hp
   ·rename_i e hd
    split at hp
    ·rename_i ye hye
     split at hp
     ·rename_i hk
      obtain ⟨st, rfl, rfl⟩ := bytesS_some hp
      obtain ⟨rfl, _⟩ := hy.flat_eq
      have hcv : convV E sA.m a d (.string st) = some (.slice (some ⟨sA.m.size, 0, none⟩) st.data.toList.length (loCap st.data.toList.length 1), sA.m.new (.row (byteCells st.data.toList) .rw 1 none)) := by
       unfold convV
       simp only [e1, e2, hd, hye, hk]
       rfl
      rw [hcv]
      refine ⟨_, _, ⟨_, rfl, rfl⟩, after_im h ?_⟩
      have hb : ∀ {cx : Cx} (l : List UInt8), PRs cx (l.map fun b => .v (.int .u8 b.toNat)) (byteCells l) := by
       intro cx l
       induction l with
       | nil => exact .nil
       | cons b l ih => exact .cons (.v rfl) ih
      have hl := (hb (cx := cx) st.data.toList).length
      simp only [List.length_map] at hl
      refine .lno (r := sA.m.size) (off := 0) (cells := byteCells st.data.toList) (by simp [Cx.addIm]) (by simp [hl]) ?_ (by simp) ?_ (.inr (esOf_lo _ _ (by omega)))
      ·rw [List.drop_zero, List.take_of_length_le (by simp [hl])]; exact hb _
      ·rw [capOf_lo _ _ (by omega)]; exact Nat.le_refl _
     ·cases hp
    ·cases hp
   ·cases hp
  ·cases hp
 | range t y =>
  rw [hop] at hp ho
  simp only at hp ⊢
  have hy := h.ev (x := y) ho
  generalize pev s.tm y = py at hp hy
  generalize Am.ev sA.tm y = vy at hy
  unfold prange at hp
  split at hp
  ·rename_i ty hty
   split at hp
   ·rename_i hd
    obtain ⟨st, rfl, hp⟩ := rangeS_some hp
    obtain ⟨rfl, _⟩ := hy.flat_eq
    cases hp
    simp only [rangeV, hty, hd, addr, Option.map_some]
    refine ⟨_, _, rfl, after_new h (fun _ _ e => by cases e) (fun e => by cases e) ?_ hptr⟩
    exact ⟨sA.m.size, by simp [Cx.bind], Mem.get_new_same h.pg.nbs _, fun _ => by rw [new_bar]; exact h.pg.wf.bar⟩
   ·cases hp
  ·cases hp
 | next it str =>
  rw [hop] at hp ho
  simp only at hp ⊢
  have hy := h.ev (x := it) ho
  generalize pev s.tm it = py at hp hy
  generalize Am.ev sA.tm it = vy at hy
  unfold pnext at hp
  split at hp
  ·split at hp
   ·rename_i k i
    split at hp
    ·rename_i st pos hk
     obtain ⟨r, e1, e2, e3⟩ := h.pg.obj k i _ hk
     have hbar := e3 rfl
     cases hy with
     | ptr e =>
      rw [e1] at e; cases e
      split at hp
      ·rename_i hlt
       cases hp
       simp only [nextV, e2, Nat.beq_refl, Bool.not_true, cond_false, bltT hlt, bleT hbar, cond_true, Option.map_some]
       refine ⟨_, _, rfl, after_upd h e1 hbar hk ⟨nofun, nofun⟩ (fun _ _ e => by cases e) ?_ (.tup (.cons (.v rfl) (.cons (.v rfl) (.cons (.v rfl) .nil))))⟩
       exact ⟨r, e1, Mem.get_upd_same (Nat.le_trans h.pg.wf.nb hbar) _, fun _ => by rw [Mem.upd_def]; exact hbar⟩
      ·rename_i hlt
       cases hp
       simp only [nextV, e2, Nat.beq_refl, Bool.not_true, cond_false, bltF hlt, Option.map_some]
       exact ⟨_, _, rfl, ⟨⟨cx, .tup (.cons (.v rfl) .nil), Ext.refl _ _, h⟩, rfl, rfl, rfl⟩⟩
    ·cases hp
   ·cases hp
  ·cases hp
 | _ => rw [hop] at hp; cases hp
end
end Go.Pm
noncomputable section
namespace Go.Pm
open Go.RowKit Go.Am
section
variable {E : Env} {P : Program} {cx cx' : Cx} {s s' : PSt} {sA : St} {m m' : Mem} {M M' : PMem}
def psource (s : PSt) (size : Nat) (x : PV) : Option (List PV × Nat) :=
 match x with
 | .lst _ es n cs => if n = 0 then some ([], 0) else if es = size then some (cs, n) else none
 | .v (.string st) => if size = 1 then some (st.data.toList.map fun b => .v (.int .u8 b.toNat), st.data.toList.length) else none
 | .sl k i o n _ => if n = 0 then some ([], 0) else match s.look k i with
  | some (.row _ _ cs) => if o + n * size <= cs.length then some ((cs.drop o).take (n * size), n) else none
  | _ => none
 | _ => none
def listTy (E : Env) (t2 : Option Nat) : Bool :=
 match t2 with
 | none => false
 | some u => match E.ty u with
  | some yu => match zerosD yu.desc with
   | some b => !b
   | none => false
  | none => false
def pappend (E : Env) (s : PSt) (t : Nat) (t2 : Option Nat) (x y : PV) : Option (PV × PSt) :=
 match E.ty t with
 | none => none
 | some yt => match yt.desc with
  | .slice e => match E.ty e, pzero E e with
   | some ye, some z => match listTy E t2 with
    | false => none
    | true => match psource s ye.size y with
     | none => none
     | some (new, k) => match x with
      | .lst tok es n cs =>
       if k = 0 then some (.lst tok es n cs, s)
       else if (n = 0 \/ es = ye.size) /\ (2 * (n + k) + 2000) * ye.bytes <= 281474976710656 /\ n + k <= 4611686018427387904 /\ ye.size < 4096 /\ z.length = ye.size /\ new.all pone = true then
        match tok with
        | .full => some (.lst (.id s.k s.os.length) ye.size (n + k) (cs ++ new), { s with os := s.os ++ [.grow (n + k) ye.size] })
        | .id a b => match s.look a b with
         | some (.grow n' es') => if n' = n /\ es' = ye.size /\ es = ye.size then some (.lst (.id a b) es (n + k) (cs ++ new), s.putO a b (.grow (n + k) es)) else none
         | _ => none
        | .no => none
       else none
      | _ => none
   | _, _ => none
  | _ => none
theorem byteCells_sim {cx : Cx} : ∀ (l : List UInt8), PRs cx (l.map fun b => .v (.int .u8 b.toNat)) (byteCells l)
 | [] => .nil
 | b :: l => .cons (.v rfl) (byteCells_sim l)
theorem byteCells_length (l : List UInt8) : (byteCells l).length = l.length := by
 have := (byteCells_sim (cx := ⟨fun _ _ => none, fun _ => .none, fun _ _ => none, 0⟩) l).length
 simpa using this.symm
theorem psource_sim (h : PG E cx s.mem m) {size e k : Nat} {x : PV} {v : Value} {new : List PV} (hx : PR cx x v) (hp : psource s size x = some (new, k)) :
  ∃ vs, sourceV E m size false e v = some (vs, k) /\ PRs cx new vs /\ vs.length = k * size := by
 unfold psource at hp
 split at hp
 ·rename_i tok es n cs
  obtain ⟨a, c, rfl, _, _, hn, hv, _⟩ := hx.lst_view
  split at hp
  ·rename_i h0
   cases hp; subst h0
   unfold sourceV
   cases a with
   | none => exact ⟨[], rfl, .nil, by simp⟩
   | some b => exact ⟨[], rfl, .nil, by simp⟩
  ·rename_i h0
   split at hp
   ·rename_i hes
    cases hp; subst hes
    rcases hv with e1 | ⟨r, off, cells, rfl, hr, hle, hs⟩
    ·exact absurd e1 h0
    ·obtain ⟨_, md, es', q, hg⟩ := h.im _ _ hr
     have hb : Nat.beq k 0 = false := by
      cases e1 : Nat.beq k 0 with
      | false => rfl
      | true => exact absurd (Nat.eq_of_beq_eq_true e1) h0
     unfold sourceV
     simp only [hb, cond_false, cells_eq hg (show off + k * es <= cells.length by omega)]
     refine ⟨_, rfl, by rw [<- hn]; exact hs, by simp; omega⟩
   ·cases hp
 ·rename_i st
  obtain ⟨rfl, _⟩ := hx.flat_eq
  split at hp
  ·rename_i h1
   cases hp; subst h1
   unfold sourceV
   exact ⟨_, rfl, byteCells_sim _, by rw [byteCells_length]; simp⟩
  ·cases hp
 ·rename_i k' i o n c
  cases hx with
  | sl e1 =>
   split at hp
   ·rename_i h0
    cases hp; subst h0
    unfold sourceV
    exact ⟨[], rfl, .nil, by simp⟩
   ·rename_i h0
    split at hp
    ·rename_i w es cs hk
     split at hp
     ·rename_i hle
      cases hp
      obtain ⟨r, vs, md, q, q1, q2, q3, q4, q5⟩ := h.obj k' i _ hk
      rw [e1] at q1; cases q1
      have hl := q3.length
      have hb : Nat.beq k 0 = false := by
       cases e1 : Nat.beq k 0 with
       | false => rfl
       | true => exact absurd (Nat.eq_of_beq_eq_true e1) h0
      unfold sourceV
      simp only [hb, cond_false, cells_eq q2 (show o + k * size <= vs.length by omega)]
      exact ⟨_, rfl, (q3.drop o).take _, by simp; omega⟩
     ·cases hp
    ·cases hp
 ·cases hp
theorem listTy_sim {t2 : Option Nat} (h : listTy E t2 = true) : ∃ u yu, t2 = some u /\ E.ty u = some yu /\ zerosD yu.desc = some false := by
 unfold listTy at h
 cases t2 with
 | none => cases h
 | some u =>
  simp only at h ⊢
  cases hu : E.ty u with
  | none => rw [hu] at h; cases h
  | some yu =>
   rw [hu] at h
   simp only at h ⊢
   cases hz : zerosD yu.desc with
   | none => rw [hz] at h; cases h
   | some b =>
    rw [hz] at h
    cases b with
    | false => exact ⟨u, yu, rfl, hu, hz⟩
    | true => cases h
theorem after_grow (h : PS E cx s sA) {vs : List Value} {new : List PV} {n es : Nat} (hs : PRs cx new vs) (hl : new.length = n * es) (hes : es < 4096) :
  After E cx s sA (.lst (.id s.k s.os.length) es n new) { s with os := s.os ++ [.grow n es] } (.slice (some ⟨sA.m.size, 0, none⟩) n (loCap n es)) (sA.m.new (.row vs .rw es none)) := by
 obtain ⟨c1, c2⟩ := h.cur s.os.length (Nat.le_refl _)
 have hpg := h.pg.newIm vs es none
 have hle0 := CxLe.addIm h.pg vs
 have hle1 : CxLe (cx.addIm sA.m.size vs) ((cx.addIm sA.m.size vs).setTk s.k s.os.length (some sA.m.size, n, es)) := by
  refine ⟨fun _ _ _ e => e, fun _ _ e => e, fun _ e => e, fun _ e => e, fun k i r n' es' e => ⟨r, n', es', ?_, .inl ⟨rfl, rfl, rfl⟩⟩, Nat.le_refl _⟩
  have e' : cx.tk k i = some (r, n', es') := e
  simp only [Cx.setTk]
  rw [if_neg]
  ·exact e
  ·rintro ⟨rfl, rfl⟩
   rw [c2] at e'; cases e'
 have hle := hle0.trans hle1
 have hvl := hs.length
 refine ⟨⟨_, ?_, ⟨hle, fun k i hk hc => ⟨fun e => e, fun e => ?_⟩⟩, ?_⟩, rfl, rfl, rfl⟩
 ·refine .ltok (r0 := some sA.m.size) (n0 := n) (es := es) ?_ (by simp [Cx.setTk]) (Nat.le_refl _) (fun _ => rfl)
  refine .lno (r := sA.m.size) (off := 0) (cells := vs) (by simp [Cx.setTk, Cx.addIm]) (by omega) ?_ hl (by rw [capOf_lo _ _ hes]; exact Nat.le_refl _) (.inr (esOf_lo _ _ hes))
  rw [List.drop_zero, List.take_of_length_le (by omega)]
  exact hs.mono hle
 ·simp only [Cx.setTk]
  rw [if_neg (fun hh => hc (by rw [hh.1]))]
  exact e
 ·refine ⟨fun i => (h.tm i).mono hle, h.nt, ?_, fun i hi => ?_, h.low, h.pos, ⟨h.df.1, fun r hr => ⟨hle.mks _ (h.df.2 r hr).1, by rw [new_bar]; exact (h.df.2 r hr).2⟩⟩⟩
  ·have em : (({ s with os := s.os ++ [.grow n es] } : PSt)).mem = putM s.mem s.k s.os.length (.grow n es) := putM_seg
   rw [em]
   refine ⟨fun k' i' o' e => ?_, hpg.at_, fun k' i' o' r hM e => ?_, hpg.im, hpg.mks, hpg.dd, fun k' i' e => ?_, fun k1 i1 k2 i2 r n1 es1 n2 es2 e1 e2 e3 e4 => ?_, hpg.glob, hpg.wf, hpg.pos⟩
   ·unfold putM at e
    split at e
    ·rename_i hc
     obtain ⟨rfl, rfl⟩ := hc
     cases e
     exact ⟨some sA.m.size, by simp [Cx.setTk], hes, vs, none, Mem.get_new_same h.pg.nbs _, by simp [Cx.setTk, Cx.addIm], by omega⟩
    ·rename_i hc
     refine (hpg.obj k' i' o' e).move hle1 (fun p hp => ⟨hp, .inl rfl⟩) rfl (fun _ _ => rfl) (fun _ => ?_) (fun _ _ _ _ _ => rfl)
     simp only [Cx.setTk]
     rw [if_neg hc]
   ·unfold putM at hM
    split at hM
    ·cases hM; exact .inr (.inr ⟨_, _, rfl⟩)
    ·exact hpg.nd _ _ _ _ hM e
   ·have e' : cx.nk <= k' := e
    have := h.pg.keys k' i' e'
    simp only [Cx.setTk, Cx.addIm]
    have hlow := h.low
    rw [if_neg (by omega)]
    exact this
   ·have key : ∀ {k i n' es'}, putM s.mem s.k s.os.length (.grow n es) k i = some (.grow n' es') -> ((cx.addIm sA.m.size vs).setTk s.k s.os.length (some sA.m.size, n, es)).tk k i = some (some r, n', es') →
      (k = s.k /\ i = s.os.length /\ r = sA.m.size) \/ (s.mem k i = some (.grow n' es') /\ cx.tk k i = some (some r, n', es') /\ r < sA.m.size) := by
     intro k i n' es' a b
     by_cases hc : k = s.k /\ i = s.os.length
     ·simp only [Cx.setTk] at b
      rw [if_pos hc] at b
      cases b
      exact .inl ⟨hc.1, hc.2, rfl⟩
     ·unfold putM at a
      rw [if_neg hc] at a
      simp only [Cx.setTk] at b
      rw [if_neg hc] at b
      have b' : cx.tk k i = some (some r, n', es') := b
      obtain ⟨_, _, _, hr, _⟩ := h.pg.tk_im a b'
      exact .inr ⟨a, b', (h.pg.im _ _ hr).1⟩
    rcases key e1 e3 with ⟨rfl, rfl, h1⟩ | ⟨a1, b1, c1⟩
    ·rcases key e2 e4 with ⟨rfl, rfl, _⟩ | ⟨_, _, c2⟩
     ·exact ⟨rfl, rfl⟩
     ·omega
    ·rcases key e2 e4 with ⟨_, _, h2⟩ | ⟨a2, b2, c2⟩
     ·omega
     ·exact h.pg.tkin k1 i1 k2 i2 r n1 es1 n2 es2 a1 a2 b1 b2
  ·have hi' : s.os.length + 1 <= i := by simpa using hi
   have := h.cur i (by omega)
   simp only [Cx.setTk, Cx.addIm]
   exact ⟨this.1, by rw [if_neg (by omega)]; exact this.2⟩
theorem after_more (h : PS E cx s sA) {vs : List Value} {new : List PV} {n n0 es a b : Nat} {ro : Option Nat} {m1 : Mem} {q1 : Option Nat} (hM : s.look a b = some (.grow n0 es)) (ht : cx.tk a b = some (ro, n0, es)) (hlt : n0 < n)
  (hs : PRs cx new vs) (hl : new.length = n * es) (hes : es < 4096) (hsz : m1.size = sA.m.size) (hbar : m1.bar = sA.m.bar) (hwf : Wf m1)
  (hget : ∀ r, m1.get r = sA.m.get r \/ (ro = some r /\ ∃ cs es' q, sA.m.get r = some (.row cs .rw es' q) /\ m1.get r = some (.row cs .cl es' q))) :
  After E cx s sA (.lst (.id a b) es n new) (s.putO a b (.grow n es)) (.slice (some ⟨sA.m.size, 0, none⟩) n (loCap n es)) (m1.new (.row vs .rw es q1)) := by
 have hnb1 : m1.nb <= m1.size := Nat.le_trans hwf.nb hwf.bar
 have hle : CxLe cx ((cx.addIm sA.m.size vs).setTk a b (some sA.m.size, n, es)) := by
  refine ⟨fun _ _ _ e => e, (CxLe.addIm h.pg vs).im, (CxLe.addIm h.pg vs).mks, (CxLe.addIm h.pg vs).dd, fun k i r n' es' e => ?_, Nat.le_refl _⟩
  by_cases hc : k = a /\ i = b
  ·obtain ⟨rfl, rfl⟩ := hc
   rw [ht] at e; cases e
   exact ⟨some sA.m.size, n, es, by simp [Cx.setTk], .inr ⟨hlt, rfl⟩⟩
  ·exact ⟨r, n', es', by simp only [Cx.setTk]; rw [if_neg hc]; exact e, .inl ⟨rfl, rfl, rfl⟩⟩
 have hvl := hs.length
 obtain ⟨p1, p2, p3, p5⟩ := PSt.putO_tm (s := s) (k := a) (i := b) (o := .grow n es)
 have row0 : ∀ r, ro = some r -> ∃ cells, cx.role r = .im cells := fun r e => by
  subst e
  obtain ⟨_, _, _, h2, _⟩ := h.pg.tk_im hM ht
  exact ⟨_, h2⟩
 have getOb : ∀ {k i r}, cx.at_ k i = some r -> (m1.new (.row vs .rw es q1)).get r = sA.m.get r := by
  intro k i r e
  have h1 := h.pg.at_ _ _ _ e
  rw [new_get hnb1 _ (by omega)]
  rcases hget r with e2 | ⟨e2, _⟩
  ·exact e2
  ·obtain ⟨cells, e3⟩ := row0 r e2
   rcases h1.2 with h2 | h2 <;> (rw [h2] at e3; cases e3)
 have hdd : DD cx ((cx.addIm sA.m.size vs).setTk a b (some sA.m.size, n, es)) sA.m (m1.new (.row vs .rw es q1)) := fun p hp => ⟨hle.dd _ hp, .inl (by
  have := h.pg.dd _ hp
  rw [new_get hnb1 _ (by omega)]
  rcases hget p with e2 | ⟨e2, _⟩
  ·exact e2
  ·obtain ⟨cells, e3⟩ := row0 p e2
   rw [hp] at e3; cases e3)⟩
 refine ⟨⟨_, ?_, ⟨hle, fun k i hk hc => ⟨fun e => e, fun e => ?_⟩⟩, ?_⟩, p1, p2, p3⟩
 ·refine .ltok (r0 := some sA.m.size) (n0 := n) (es := es) ?_ (by simp [Cx.setTk]) (Nat.le_refl _) (fun _ => rfl)
  refine .lno (r := sA.m.size) (off := 0) (cells := vs) (by simp [Cx.setTk, Cx.addIm]) (by omega) ?_ hl (by rw [capOf_lo _ _ hes]; exact Nat.le_refl _) (.inr (esOf_lo _ _ hes))
  rw [List.drop_zero, List.take_of_length_le (by omega)]
  exact hs.mono hle
 ·simp only [Cx.setTk]
  split
  ·rename_i hh; rw [hh.1, hh.2, ht] at e; cases e
  ·exact e
 ·refine ⟨fun i => by rw [p1]; exact (h.tm i).mono hle, by rw [p2]; exact h.nt, ?_, fun i hi => ?_, by rw [p3]; exact h.low, by rw [p3]; exact h.pos, ⟨h.df.1, fun r hr => ⟨hle.mks _ (h.df.2 r hr).1, by rw [new_bar, hbar]; exact (h.df.2 r hr).2⟩⟩⟩
  ·rw [PSt.putO_mem hM]
   refine ⟨fun k' i' o' e => ?_, fun k' i' r e => ?_, fun k' i' o' r hMo e => ?_, fun r cells e => ?_, fun r e => ?_, fun r e => ?_, fun k' i' e => ?_, fun k1 i1 k2 i2 r n1 es1 n2 es2 e1 e2 e3 e4 => ?_, h.pg.glob, new_wf hwf _, h.pg.pos⟩
   ·unfold putM at e
    split at e
    ·rename_i hc
     obtain ⟨rfl, rfl⟩ := hc
     cases e
     refine ⟨some sA.m.size, by simp [Cx.setTk], hes, vs, q1, ?_, by simp [Cx.setTk, Cx.addIm], by omega⟩
     rw [<- hsz]; exact Mem.get_new_same hnb1 _
    ·rename_i hc
     refine (h.pg.obj k' i' o' e).move hle hdd (by rw [new_bar, hbar]) (fun r e1 => getOb e1) (fun _ => ?_) (fun r n' es' e1 e2 => ?_)
     ·simp only [Cx.setTk]
      rw [if_neg hc]; rfl
     ·subst e1
      obtain ⟨_, _, _, h2, _⟩ := h.pg.tk_im e e2
      have hlt2 := (h.pg.im _ _ h2).1
      rw [new_get hnb1 _ (by omega)]
      rcases hget r with e3 | ⟨e3, _⟩
      ·exact e3
      ·subst e3
       exact absurd (h.pg.tkin k' i' a b r n' es' n0 es e hM e2 ht) hc
   ·have h1 := h.pg.at_ k' i' r e
    rw [new_size, hsz]
    simp only [Cx.setTk, Cx.addIm]
    rw [if_neg (by omega)]
    exact ⟨by omega, h1.2⟩
   ·unfold putM at hMo
    have h1 := (h.pg.at_ k' i' r e).1
    simp only [Cx.setTk, Cx.addIm]
    rw [if_neg (by omega)]
    split at hMo
    ·cases hMo; exact .inr (.inr ⟨_, _, rfl⟩)
    ·exact h.pg.nd _ _ _ _ hMo e
   ·simp only [Cx.setTk, Cx.addIm] at e
    rw [new_size, hsz]
    split at e
    ·rename_i hc; cases e; subst hc; exact ⟨by omega, _, _, _, by rw [<- hsz]; exact Mem.get_new_same hnb1 _⟩
    ·obtain ⟨h1, md, es', q, h2⟩ := h.pg.im _ _ e
     refine ⟨by omega, ?_⟩
     rw [new_get hnb1 _ (by omega)]
     rcases hget r with e3 | ⟨_, cs, es2, q2, e4, e5⟩
     ·exact ⟨md, es', q, by rw [e3]; exact h2⟩
     ·rw [h2] at e4; cases e4; exact ⟨_, _, _, e5⟩
   ·simp only [Cx.setTk, Cx.addIm] at e
    rw [new_size, hsz]
    split at e
    ·cases e
    ·obtain ⟨h1, h2⟩ := h.pg.mks _ e
     refine ⟨by omega, ?_⟩
     rw [new_get hnb1 _ (by omega)]
     rcases hget r with e3 | ⟨_, cs, es2, q2, e4, e5⟩
     ·rw [e3]; exact h2
     ·rw [h2] at e4; cases e4
   ·simp only [Cx.setTk, Cx.addIm] at e
    rw [new_size, hsz]
    split at e
    ·cases e
    ·have := h.pg.dd _ e; omega
   ·have e' : cx.nk <= k' := e
    have := h.pg.keys k' i' e'
    refine ⟨this.1, ?_⟩
    simp only [Cx.setTk]
    rw [if_neg]
    ·exact this.2
    ·rintro ⟨rfl, rfl⟩
     rw [this.2] at ht; cases ht
   ·have key : ∀ {k i n' es'}, putM s.mem a b (.grow n es) k i = some (.grow n' es') -> ((cx.addIm sA.m.size vs).setTk a b (some sA.m.size, n, es)).tk k i = some (some r, n', es') →
      (k = a /\ i = b /\ r = sA.m.size) \/ (s.mem k i = some (.grow n' es') /\ cx.tk k i = some (some r, n', es') /\ r < sA.m.size) := by
     intro k i n' es' x y
     by_cases hc : k = a /\ i = b
     ·simp only [Cx.setTk] at y
      rw [if_pos hc] at y
      cases y
      exact .inl ⟨hc.1, hc.2, rfl⟩
     ·unfold putM at x
      rw [if_neg hc] at x
      simp only [Cx.setTk] at y
      rw [if_neg hc] at y
      have y' : cx.tk k i = some (some r, n', es') := y
      obtain ⟨_, _, _, hr, _⟩ := h.pg.tk_im x y'
      exact .inr ⟨x, y', (h.pg.im _ _ hr).1⟩
    rcases key e1 e3 with ⟨rfl, rfl, h1⟩ | ⟨a1, b1, c1⟩
    ·rcases key e2 e4 with ⟨rfl, rfl, _⟩ | ⟨_, _, c2⟩
     ·exact ⟨rfl, rfl⟩
     ·omega
    ·rcases key e2 e4 with ⟨_, _, h2⟩ | ⟨a2, b2, c2⟩
     ·omega
     ·exact h.pg.tkin k1 i1 k2 i2 r n1 es1 n2 es2 a1 a2 b1 b2
  ·rw [p3]
   rw [p5] at hi
   have := h.cur i hi
   refine ⟨this.1, ?_⟩
   simp only [Cx.setTk]
   rw [if_neg]
   ·exact this.2
   ·rintro ⟨rfl, rfl⟩
    rw [this.2] at ht; cases ht
theorem natBeqF' {a b : Nat} (h : a ≠ b) : Nat.beq a b = false := by
 cases e : Nat.beq a b with
 | false => rfl
 | true => exact absurd (Nat.eq_of_beq_eq_true e) h
theorem pappend_sim (hE : EnvOk E P) (h : PS E cx s sA) {t : Nat} {t2 : Option Nat} {x y z : PV} {vx vy : Value} (hx : PR cx x vx) (hy : PR cx y vy) (hp : pappend E s t t2 x y = some (z, s')) :
  ∃ v m', appendV E sA.m t t2 vx vy = some (v, m') /\ After E cx s sA z s' v m' := by
 unfold pappend at hp
 split at hp
 ·cases hp
 ·rename_i yt hyt
  split at hp
  ·rename_i e hd
   split at hp
   ·rename_i ye zz hye hzz
    obtain ⟨zv, hzv, hzr⟩ := pzero_sim hE hzz (cx := cx)
    split at hp
    ·cases hp
    ·rename_i hlt
     split at hp
     ·cases hp
     ·rename_i new k hsrc
      obtain ⟨nv, hnv, hnr, hnl⟩ := psource_sim (e := e) h.pg hy hsrc
      obtain ⟨u2, yu2, rfl, hu2, hz⟩ := listTy_sim hlt
      split at hp
      ·rename_i tok es n cs
       obtain ⟨a, c, rfl, hcap, hodd, hn, hv, hfull⟩ := hx.lst_view
       -- what the machine looks up
       have hA : appendV E sA.m t (some u2) (.slice a n c) vy =
         (bif Nat.ble (n + k) (capOf c) then
          match a with
          | none => bif Nat.beq k 0 then some (.slice none n c, sA.m) else none
          | some a => bif Nat.beq k 0 then some (.slice (some a) n c, sA.m) else
           (sA.m.storeCells (addOff a (n * ye.size)) nv).map fun m1 => (.slice (some a) (n + k) c, m1)
         else bif !(Nat.ble ((2 * (n + k) + 2000) * ye.bytes) 281474976710656 && Nat.ble (n + k) 4611686018427387904 && Nat.blt ye.size 4096) then none else
         match headV sA.m ye.size a n with
         | some old =>
          bif !(Nat.beq zv.length ye.size && allOne nv) then none else
          bif Nat.beq (c % 2) 0 then
           match Am.newRow sA.m (old ++ nv) ye.size with
           | (b, m1) => some (.slice (some b) (n + k) (loCap (n + k) ye.size), m1)
          else
           match a with
           | none => none
           | some a => match sA.m.get a.block with
            | some (.row cs .rw es prev) =>
             bif Nat.beq (esOf c) ye.size && Nat.beq es ye.size && Nat.beq (a.off + n * ye.size) cs.length then
              let m1 := sA.m.upd a.block (some (.row cs .cl es prev))
              some (.slice (some (addr m1.size 0)) (n + k) (loCap (n + k) ye.size), m1.new (.row (old ++ nv) .rw es (some a.block)))
             else none
            | _ => none
         | none => none) := by
        unfold appendV
        simp only [hyt, hd, hye, hu2, hz, hnv, hzv]
        cases headV sA.m ye.size a n <;> rfl
       rw [hA]
       split at hp
       ·rename_i hk0
        subst hk0
        cases hp
        simp only [Nat.add_zero, bleT hcap, cond_true]
        cases a with
        | none => exact ⟨_, _, rfl, ⟨cx, hx, Ext.refl _ _, h⟩, rfl, rfl, rfl⟩
        | some b => exact ⟨_, _, rfl, ⟨cx, hx, Ext.refl _ _, h⟩, rfl, rfl, rfl⟩
       ·rename_i hk0
        split at hp
        ·rename_i hc
         obtain ⟨q1, q2, q3, q4, q5, q6⟩ := hc
         have hone := allOne_sim hnr q6
         have hzl := hzr.length
         have hnlp := hnr.length
         have hcl : cs.length = n * ye.size := by
          rcases q1 with rfl | rfl
          ·simpa using hn
          ·exact hn
         have hhead : ∃ old, headV sA.m ye.size a n = some old /\ PRs cx cs old := by
          rcases hv with rfl | ⟨r, off, cells, rfl, hr, hle, hs⟩
          ·have : cs = [] := by simpa using hcl
           subst this
           cases a <;> exact ⟨[], rfl, .nil⟩
          ·by_cases hn0 : n = 0
           ·subst hn0
            have : cs = [] := by simpa using hcl
            subst this
            exact ⟨[], rfl, .nil⟩
           ·obtain ⟨_, md, es', q, hg⟩ := h.pg.im _ _ hr
            refine ⟨_, ?_, hs⟩
            unfold headV
            simp only [natBeqF' hn0, cond_false]
            rw [cells_eq hg (by omega), hcl]
         obtain ⟨old, hold, holdr⟩ := hhead
         have hall : PRs cx (cs ++ new) (old ++ nv) := holdr.append hnr
         have hlen : (cs ++ new).length = (n + k) * ye.size := by
          rw [List.length_append, hcl, Nat.add_mul]; omega
         have hb3 : (!(Nat.ble ((2 * (n + k) + 2000) * ye.bytes) 281474976710656 && Nat.ble (n + k) 4611686018427387904 && Nat.blt ye.size 4096)) = false := by
          simp only [bleT q2, bleT q3, bltT q4, Bool.and_self, Bool.not_true]
         have hb4 : (!(Nat.beq zv.length ye.size && allOne nv)) = false := by
          simp only [natBeqT (show zv.length = ye.size by omega), hone, Bool.and_self, Bool.not_true]
         cases tok with
         | no => cases hp
         | full =>
          cases hp
          have hc2 := hfull rfl
          subst hc2
          simp only [bleF (show ¬ n + k <= capOf (2 * n) by rw [capOf_even]; exact Nat.not_le.2 (Nat.lt_add_of_pos_right (Nat.pos_of_ne_zero hk0))), cond_false, hb3, hold, hb4, evenT (show 2 * n % 2 = 0 by omega), cond_true, Am.newRow, addr]
          exact ⟨_, _, rfl, after_grow h hall hlen q4⟩
         | id ka kb =>
          simp only at hp
          split at hp
          ·rename_i n' es' hk
           split at hp
           ·rename_i hc2
            obtain ⟨rfl, rfl, rfl⟩ := hc2
            cases hp
            obtain ⟨ro, t1, t2, t3⟩ := h.pg.obj ka kb _ hk
            cases hx with
            | ltok hx0 ht0 hn0 he0 =>
             rw [t1] at ht0
             cases ht0
             have htv := he0 rfl
             cases ro with
             | none =>
              obtain ⟨a', ea⟩ := htv
              cases ea
              simp only [bleF (show ¬ 0 + k <= capOf 0 by rw [show capOf 0 = 0 from rfl]; exact Nat.not_le.2 (Nat.lt_add_of_pos_right (Nat.pos_of_ne_zero hk0))), cond_false, hb3, hold, hb4, show Nat.beq (0 % 2) 0 = true from rfl, cond_true, Am.newRow, addr]
              refine ⟨_, _, rfl, ?_⟩
              exact after_more h hk t1 (Nat.lt_add_of_pos_right (Nat.pos_of_ne_zero hk0)) hall hlen q4 rfl rfl h.pg.wf (fun r => .inl rfl)
             | some r =>
              obtain ⟨vs, q, g1, g2, g3⟩ := t3
              cases htv
              have hodd2 : Nat.beq (loCap n' ye.size % 2) 0 = false := odd_lo _ _
              simp only [bleF (show ¬ n' + k <= capOf (loCap n' ye.size) by rw [capOf_lo _ _ q4]; exact Nat.not_le.2 (Nat.lt_add_of_pos_right (Nat.pos_of_ne_zero hk0))), cond_false, hb3, hold, hb4, hodd2, g1, natBeqT (esOf_lo n' ye.size q4), natBeqT (show 0 + n' * ye.size = vs.length by omega), Nat.beq_refl, Bool.and_self, cond_true, addr]
              have hszu : (sA.m.upd r (some (.row vs .cl ye.size q))).size = sA.m.size := by rw [Mem.upd_def]
              rw [hszu]
              refine ⟨_, _, rfl, ?_⟩
              refine after_more h hk t1 (Nat.lt_add_of_pos_right (Nat.pos_of_ne_zero hk0)) hall hlen q4 hszu (by rw [Mem.upd_def]) ?_ (fun r' => ?_)
              ·have := Keep.claim h.pg.wf g1
               exact h.pg.wf.keep this
              ·by_cases hr : r' = r
               ·subst hr
                refine .inr ⟨rfl, _, _, _, g1, ?_⟩
                refine Mem.get_upd_same ?_ _
                rcases Nat.lt_or_ge r' sA.m.nb with hx1 | hx1
                ·have := h.pg.wf.base r' _ hx1 g1
                 simp [AObj.isRo] at this
                ·exact hx1
               ·refine .inl (Mem.get_upd_ne ?_ hr _)
                rcases Nat.lt_or_ge r sA.m.nb with hx1 | hx1
                ·have := h.pg.wf.base r _ hx1 g1
                 simp [AObj.isRo] at this
                ·exact hx1
           ·cases hp
          ·cases hp
        ·cases hp
      ·cases hp
   ·cases hp
  ·cases hp
end
end Go.Pm
end