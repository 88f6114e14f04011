/- EventBack. Part 26 of 30; no condition. -/
import Derived.Test.YtmgmbdnhodicjaaGreatDoorM25
set_option linter.unusedVariables false
set_option linter.unusedSimpArgs false
section
namespace Go.Pm
open Go.RowKit Go.Am
section
variable {E : Env} {P : Program} {tm : List (Nat × PV)} {nt k : Nat} {os : List Obj} {M : PMem}
theorem PRs.setc {cx : Cx} : ∀ {l : List PV} {vs : List Value} {f : Nat} {x : PV}, PRs cx l vs → (∀ v, vs[f]? = some v → PR cx x v) → PRs cx (l.set f x) vs
  | _, _, _, _, .nil, _ => .nil
  | _, _, 0, _, .cons h hs, hx => .cons (hx _ rfl) hs
  | _, _, f + 1, _, .cons h hs, hx => .cons h (PRs.setc hs (fun v e => hx v e))
theorem set_at {l : List Obj} {j i : Nat} {x : Obj} : (l.set j x)[i]? = if i = j then (if i < l.length then some x else none) else l[i]? := by
  by_cases h : i = j
  · subst h
    rw [if_pos rfl]
    by_cases hl : i < l.length
    · rw [if_pos hl]; simp [hl]
    · rw [if_neg hl]; rw [List.getElem?_eq_none (by simpa using hl)]
  · rw [if_neg h, List.getElem?_set_ne (Ne.symm h)]
theorem PX.lay {rd : Option (Nat × Nat)} {Q : AExit → PSt → Prop} {c : Code} {j f e0 es : Nat} {w : Wm} {es0 : Nat} {cs : List PV} (hes : es < 4096) (hj : os[j]? = some (.row w es0 cs)) (hf : cs[f]? = some (.lst .full e0 0 []))
    (h : PX E P rd c ⟨tm, nt, k, os.set j (.row w es0 (cs.set f (.lst (.id k os.length) es 0 []))) ++ [.grow 0 es], M⟩ Q) : PX E P rd c ⟨tm, nt, k, os, M⟩ Q := fun hc cx sA hs hr => by
  have hcur := hs.cur
  have hlow : k < cx.nk := hs.low
  have ht : cx.tk k os.length = none := (hcur os.length (Nat.le_refl _)).2
  have hjl : j < os.length := by
    rcases Nat.lt_or_ge j os.length with h | h
    · exact h
    · rw [List.getElem?_eq_none h] at hj; cases hj
  have hle : CxLe cx (cx.setTk k os.length (none, 0, es)) := by
    refine ⟨fun _ _ _ e => e, fun _ _ e => e, fun _ e => e, fun _ e => e, fun a i r n es e => ?_, Nat.le_refl _⟩
    refine ⟨r, n, es, ?_, .inl ⟨rfl, rfl, rfl⟩⟩
    simp only [Cx.setTk]
    rw [if_neg]
    · exact e
    · rintro ⟨rfl, rfl⟩; rw [ht] at e; cases e
  have htk : (cx.setTk k os.length (none, 0, es)).tk k os.length = some (none, 0, es) := by simp [Cx.setTk]
  have hlen : (os.set j (.row w es0 (cs.set f (.lst (.id k os.length) es 0 [])))).length = os.length := by simp
  have hlook : ∀ (a i : Nat) (o : Obj), seg M k (os.set j (.row w es0 (cs.set f (.lst (.id k os.length) es 0 []))) ++ [.grow 0 es]) a i = some o →
      (a = k ∧ i = os.length ∧ o = .grow 0 es) ∨ (a = k ∧ i = j ∧ o = .row w es0 (cs.set f (.lst (.id k os.length) es 0 []))) ∨ (seg M k os a i = some o ∧ ¬ (a = k ∧ i = os.length) ∧ ¬ (a = k ∧ i = j)) := fun a i o e => by
    by_cases ha : a = k
    · subst ha
      rw [seg_same] at e
      rcases Nat.lt_trichotomy i os.length with hi | hi | hi
      · rw [List.getElem?_append_left (by rw [hlen]; exact hi), set_at] at e
        by_cases hij : i = j
        · subst hij
          rw [if_pos rfl, if_pos hi] at e
          cases e
          exact .inr (.inl ⟨rfl, rfl, rfl⟩)
        · rw [if_neg hij] at e
          exact .inr (.inr ⟨by rw [seg_same]; exact e, by omega, fun x => hij x.2⟩)
      · subst hi
        rw [List.getElem?_append_right (by rw [hlen]; exact Nat.le_refl _), hlen, Nat.sub_self] at e
        cases e
        exact .inl ⟨rfl, rfl, rfl⟩
      · rw [List.getElem?_eq_none (by simp; omega)] at e; cases e
    · rw [seg_ne _ _ _ ha] at e
      exact .inr (.inr ⟨by rw [seg_ne _ _ _ ha]; exact e, fun x => ha x.1, fun x => ha x.1⟩)
  have hps : PS E (cx.setTk k os.length (none, 0, es)) ⟨tm, nt, k, os.set j (.row w es0 (cs.set f (.lst (.id k os.length) es 0 []))) ++ [.grow 0 es], M⟩ sA := by
    refine ⟨fun i => (hs.tm i).mono hle, hs.nt, ?_, fun i hi => ?_, hlow, hs.pos, hs.df⟩
    · have hpg := hs.pg
      have hmv : ∀ a i o, seg M k os a i = some o → ¬ (a = k ∧ i = os.length) → OG (cx.setTk k os.length (none, 0, es)) sA.m a i o := fun a i o e hne => by
        refine OG.move hle (fun p hp => ⟨hp, .inl rfl⟩) rfl (fun _ _ => rfl) (fun _ => ?_) (fun _ _ _ _ _ => rfl) (hpg.obj a i o e)
        simp only [Cx.setTk]; rw [if_neg hne]
      refine ⟨fun a i o e => ?_, hpg.at_, fun a i o r e e' => ?_, hpg.im, hpg.mks, hpg.dd, fun a i ha => ?_, fun a i a' i' r n es1 n' es' e e' t t' => ?_, hpg.glob, hpg.wf, hpg.pos⟩
      · rcases hlook a i o e with ⟨rfl, rfl, rfl⟩ | ⟨rfl, rfl, rfl⟩ | ⟨e, hne, hne2⟩
        · exact ⟨none, htk, hes, rfl⟩
        · have hold := hmv a i _ (show seg M a os a i = some (.row w es0 cs) by rw [seg_same]; exact hj) (fun x => by have := x.2; omega)
          obtain ⟨r, vs, md, q, e1, e2, e3, e4, e5⟩ := hold
          refine ⟨r, vs, md, q, e1, e2, e3.setc (fun v hv => ?_), e4, e5⟩
          obtain ⟨v', hv', hpr⟩ := e3.get hf
          rw [hv] at hv'; cases hv'
          cases hpr with
          | f0 _ ad => exact .ltok (r0 := none) (n0 := 0) (.l0 _ _ _ (.inl rfl)) htk (Nat.le_refl _) (fun _ => ⟨ad, rfl⟩)
          | lfull hr' hl hs' hn =>
            refine .ltok (r0 := none) (n0 := 0) (.l0 _ _ _ (.inl (by omega))) htk (Nat.le_refl _) (fun _ => ⟨_, rfl⟩)
        · exact hmv a i o e hne
      · rcases hlook a i o e with ⟨rfl, rfl, rfl⟩ | ⟨rfl, rfl, rfl⟩ | ⟨e, _⟩
        · exact .inr (.inr ⟨_, _, rfl⟩)
        · exact .inl (hpg.role (show seg M a os a i = some (.row w es0 cs) by rw [seg_same]; exact hj) nofun nofun e')
        · exact hpg.nd _ _ _ _ e e'
      · refine ⟨(hpg.keys a i ha).1, ?_⟩
        simp only [Cx.setTk]
        rw [if_neg (fun x => by have h1 : cx.nk ≤ a := ha; have h2 := x.1; omega)]
        exact (hpg.keys a i ha).2
      · have key : ∀ {a i n es1}, seg M k (os.set j (.row w es0 (cs.set f (.lst (.id k os.length) es 0 []))) ++ [.grow 0 es]) a i = some (.grow n es1) → (cx.setTk k os.length (none, 0, es)).tk a i = some (some r, n, es1) → seg M k os a i = some (.grow n es1) ∧ cx.tk a i = some (some r, n, es1) := fun {a i n es1} e t => by
          rcases hlook a i _ e with ⟨rfl, rfl, _⟩ | ⟨rfl, rfl, hh⟩ | ⟨e, hne, _⟩
          · simp [Cx.setTk] at t
          · cases hh
          · simp only [Cx.setTk] at t
            rw [if_neg hne] at t
            exact ⟨e, t⟩
        obtain ⟨x1, x2⟩ := key e t
        obtain ⟨y1, y2⟩ := key e' t'
        exact hpg.tkin _ _ _ _ _ _ _ _ _ x1 y1 x2 y2
    · have hi' : os.length + 1 ≤ i := by simpa using hi
      refine ⟨(hcur i (show os.length ≤ i by omega)).1, ?_⟩
      simp only [Cx.setTk]
      rw [if_neg (fun x => by have := x.2; omega)]
      exact (hcur i (show os.length ≤ i by omega)).2
  obtain ⟨g1, g2⟩ := rdOf_mono hle hr
  obtain ⟨e, sA1, cx2, s1, h1, h2, h3, h4, h5, h6⟩ := h hc _ sA hps g2
  rw [g1] at h1
  have hext : Ext (some k) cx (cx.setTk k os.length (none, 0, es)) := ⟨hle, fun a i ha hn => ⟨id, fun e => by
    simp only [Cx.setTk]
    rw [if_neg (fun x => hn (by rw [x.1]))]
    exact e⟩⟩
  exact ⟨e, sA1, cx2, s1, h1, h2, hext.trans h3, h4, h5, h6⟩
theorem RX.lay {rd : Option (Nat × Nat)} {Q : AExit → PSt → Prop} {c : RC} {j f e0 es : Nat} {w : Wm} {es0 : Nat} {cs : List PV} (hes : es < 4096) (hj : os[j]? = some (.row w es0 cs)) (hf : cs[f]? = some (.lst .full e0 0 []))
    (h : RX E P rd c ⟨tm, nt, k, os.set j (.row w es0 (cs.set f (.lst (.id k os.length) es 0 []))) ++ [.grow 0 es], M⟩ Q) : RX E P rd c ⟨tm, nt, k, os, M⟩ Q := fun code e => PX.lay hes hj hf (h code e)
end
theorem RX.cut {E : Env} {P : Program} {rd : Option (Nat × Nat)} {a b : RC} {s : PSt} {Q : AExit → PSt → Prop} (R : PSt → Prop) (h : RX E P rd a s (fun e s1 => e = .normal ∧ R s1)) (k : ∀ s1, R s1 → RX E P rd b s1 Q) : RX E P rd (.seq a b) s Q :=
  RX.seq (h.mono fun e s1 hr => by
    obtain ⟨he, hr⟩ := hr
    subst he
    exact k s1 hr)
end Go.Pm
end

section
namespace Go.Pm
open Go.RowKit Go.Am
def overM (M N : PMem) : PMem := fun k i => match M k i with
  | some o => some o
  | none => N k i
section
variable {E : Env} {P : Program} {cx cx' : Cx} {M N : PMem} {m m1 : Mem}
theorem overM_cases {k i : Nat} {o : Obj} (e : overM M N k i = some o) : M k i = some o ∨ (M k i = none ∧ N k i = some o) := by
  unfold overM at e
  cases h : M k i with
  | some o' => rw [h] at e; exact .inl e
  | none => rw [h] at e; exact .inr ⟨rfl, e⟩
theorem overM_l {k i : Nat} {o : Obj} (e : M k i = some o) : overM M N k i = some o := by unfold overM; rw [e]
theorem overM_r {k i : Nat} (e : M k i = none) : overM M N k i = N k i := by unfold overM; rw [e]
theorem Shade.lower {b' b : Nat} {q : Option Nat} (hb' : b' ≤ m.bar) (h : Shade cx m b q) : Shade cx (barM m b') b q := by
  induction h with
  | none => exact .none
  | gone hp hd hb hg => exact .gone hp hd (Nat.le_trans hb' hb) (by rw [barM_get]; exact hg)
  | more hp hd hb hg r ih => exact .more hp hd (Nat.le_trans hb' hb) (by rw [barM_get]; exact hg) ih
theorem OG.lower {k i b' : Nat} {o : Obj} (hb' : b' ≤ m.bar) (h : OG cx m k i o) : OG cx (barM m b') k i o := by
  cases o with
  | gone => exact h
  | row w es cs =>
    obtain ⟨r, vs, md, q, e1, e2, e3, e4, e5⟩ := h
    refine ⟨r, vs, md, q, e1, by rw [barM_get]; exact e2, e3, fun hw => ⟨(e4 hw).1, ?_⟩, fun hw => Nat.le_trans hb' (e5 hw)⟩
    have := (e4 hw).2
    cases w with
    | own => exact ⟨Nat.le_trans hb' this.1, this.2.lower hb'⟩
    | _ => exact this
  | str w s pos =>
    obtain ⟨r, e1, e2, e3⟩ := h
    exact ⟨r, e1, by rw [barM_get]; exact e2, fun hw => Nat.le_trans hb' (e3 hw)⟩
  | loop w st pend tm nt ps asg body =>
    obtain ⟨r, tmA, D, e1, e2, e3, e4⟩ := h
    exact ⟨r, tmA, D, e1, by rw [barM_get]; exact e2, e3, fun hw => Nat.le_trans hb' (e4 hw)⟩
  | grow n es =>
    obtain ⟨ro, e1, e2, e3⟩ := h
    refine ⟨ro, e1, e2, ?_⟩
    cases ro with
    | none => exact e3
    | some r => obtain ⟨vs, q, h1, h2⟩ := e3; exact ⟨vs, q, by rw [barM_get]; exact h1, h2⟩
theorem hold_none {k i : Nat} : holdM M k i = none ↔ M k i = none := by simp [holdM]
theorem PG.unholdN (h0 : PG E cx M m) (hle : CxLe cx cx') (hnb : m1.nb = m.nb) (hbar : m.bar ≤ m1.bar) (hsz : m.size ≤ m1.size) (hsame : ∀ b, b < m.size → Same (m.get b) (m1.get b)) (h : PG E cx' (overM (holdM M) N) m1) : PG E cx' (overM M N) (barM m1 m.bar) := by
  have hold : PG E cx' (holdM M) m1 := h.weak fun k i o e => ⟨o, overM_l e, .refl _⟩
  have hu := h0.unhold hle hnb hsz hsame hold
  have new : ∀ {k i : Nat} {o : Obj}, M k i = none → N k i = some o → overM (holdM M) N k i = some o := fun {k i o} e1 e2 => by rw [overM_r (hold_none.2 e1)]; exact e2
  refine ⟨fun k i o e => ?_, hu.at_, fun k i o r e e' => ?_, hu.im, hu.mks, hu.dd, hu.keys, fun k1 i1 k2 i2 r n es n' es' e1 e2 e3 e4 => ?_, hu.glob, hu.wf, hu.pos⟩
  · rcases overM_cases e with e | ⟨e1, e2⟩
    · exact hu.obj k i o e
    · exact (h.obj k i o (new e1 e2)).lower hbar
  · rcases overM_cases e with e | ⟨e1, e2⟩
    · exact hu.nd k i o r e e'
    · exact h.nd k i o r (new e1 e2) e'
  · have key : ∀ {k i n es}, overM M N k i = some (.grow n es) → overM (holdM M) N k i = some (.grow n es) := fun {k i n es} e => by
      rcases overM_cases e with e | ⟨e1, e2⟩
      · exact overM_l (by simp only [holdM, e, Option.map_some, holdO])
      · exact new e1 e2
    exact h.tkin k1 i1 k2 i2 r n es n' es' (key e1) (key e2) e3 e4
theorem seg_over {k : Nat} {os : List Obj} (hN : ∀ i, N k i = none) : seg (overM M N) k os = overM (seg M k os) N := by
  funext a i
  by_cases ha : a = k
  · subst ha
    show (if a = a then os[i]? else _) = _
    rw [if_pos rfl]
    unfold overM seg
    rw [if_pos rfl]
    cases os[i]? with
    | some o => rfl
    | none => exact (hN i).symm
  · unfold overM seg
    rw [if_neg ha, if_neg ha]
theorem PD.quietN {ops l : List Oper} {bs : List Nat} {i : Nat} {o : Oper} {s : PSt} {R : PSt → Prop} {cl : Call} {f : Operand} {g : Nat} {first captured : List PV} (hfr : (!(cls E o.op).isHard || alone E bs ops i) = false) (hw : pwanted ops s.tm o = some true) (hop : o.op = .call cl) (hcl : cl.callee = .value f) (hf : pev s.tm f = .fn g first captured)
    (h : PTk E P g (first ++ (cl.args.toList.map (pev s.tm) ++ captured)) (holdM s.mem) (fun nk x M1 => s.k < nk → ∃ N : PMem, (∀ i, N s.k i = none) ∧ MLe M1 (overM (holdM s.mem) N) ∧ ∃ s2, pput { s with M := overM s.M N } o.dst x = some s2 ∧ PD E P ops bs (i + 1) l s2 R)) : PD E P ops bs i (o :: l) s R := fun hc cx sA hs => by
  simp only [opsOk, Bool.and_eq_true] at hc
  have ho := hc.1
  rw [hop] at ho
  simp only [opOk, hcl, Bool.and_eq_true] at ho
  have hfv := hs.ev ho.2
  rw [hf] at hfv
  have hargs := PRs.operands hs ho.1
  generalize hvf : Am.ev sA.tm f = vf at hfv
  cases hfv with
  | @fn _ _ _ fa ca h1 h2 =>
    have hh := hs.pg.hold
    obtain ⟨v, m1, cx1, x, M1, k1, k2, k3, k4, k50⟩ := h cx _ _ hh (h1.append (hargs.append h2))
    obtain ⟨N, hN, k5, s2, k6, k7⟩ := k50 hs.low
    have kp := k1.pad
    have k2' := k2.weak k5
    obtain ⟨c1, c2⟩ := k2'.padded
    have kk := kp.keep hh.wf
    have hle := k3.le.trans c1
    have hun := hs.pg.unholdN (N := N) hle kk.nb (by have := kk.bar; rw [this]; exact hs.pg.wf.bar) (by have := kk.size; exact this) (fun b hb => by have := kk.same b hb; rw [barM_get] at this; exact this) c2
    have hps : PS E (cx1.clear m1.size) { s with M := overM s.M N } { sA with m := barM (m1.new (.row [] .rw 0 none)) sA.m.bar } := by
      refine ⟨fun i => (hs.tm i).mono hle, hs.nt, ?_, fun i hi => ?_, Nat.lt_of_lt_of_le hs.low hle.nk, hs.pos, ⟨hs.df.1, fun r hr => ⟨hle.mks _ (hs.df.2 r hr).1, (hs.df.2 r hr).2⟩⟩⟩
      · show PG E _ (seg (overM s.M N) s.k s.os) _
        rw [seg_over hN]
        exact hun
      · have hcu := hs.cur i hi
        have hn := (k3.trans (Ext.clear k2')).names s.k i hs.low (by simp)
        exact ⟨hn.1 hcu.1, hn.2 hcu.2⟩
    obtain ⟨tm1, q1, q2, q3, q4⟩ := pput_sim hps (k4.mono c1) k6
    obtain ⟨es, sA2, cx2, s3, z0, zi, z1, z2, z3, z4, z5, z6⟩ := k7 hc.2 _ _ q2
    have hks := k1.keep hh.wf
    refine ⟨⟨.call g (fa.toList ++ (cl.args.toList.map (ev sA.tm) ++ ca.toList)), barM sA.m sA.m.size, v, m1.new (.row [] .rw 0 none)⟩ :: es, sA2, cx2, s3, fun y hy => ?_, ⟨Nat.le_refl _, zi.mono ?_⟩, fun K hK => ?_, z2, (k3.trans (Ext.clear k2')).weak.trans (by have q3' : s2.k = s.k := q3; rw [← q3']; exact z3), z4.trans q3, z5.trans q4, z6⟩
    · rcases List.mem_cons.1 hy with rfl | hy
      · exact kp
      · exact z0 y hy
    · show sA.m.size + 1 ≤ (m1.new (.row [] .rw 0 none)).size
      rw [new_size]
      have : sA.m.size ≤ m1.size := hks.size
      omega
    · unfold runDraw stepDrawI
      rw [hfr]
      have hKe := hK _ List.mem_cons_self
      have hd : doOp E K o sA.tm (barM sA.m sA.m.size) = some (v, m1.new (.row [] .rw 0 none)) := by
        unfold doOp
        rw [aop_def, hop]
        simp only [hcl, hvf]
        exact hKe
      have hst : stepOp E K ops o { sA with m := barM sA.m sA.m.size } = some { sA with tm := tm1, m := m1.new (.row [] .rw 0 none) } := by
        rw [stepOp_def]
        have hw' := pwanted_sim hs hw
        simp only [hw', hd]
        have q1' : putT sA.tm sA.nt o.dst v = some tm1 := q1
        simp only [q1']
      have hsd : stepDraw E K ops false o sA = some { sA with tm := tm1, m := barM (m1.new (.row [] .rw 0 none)) sA.m.bar } := by
        show (match stepOp E K ops o { sA with m := barM sA.m sA.m.size } with
          | some s1 => some { s1 with m := barM s1.m sA.m.bar }
          | none => none) = _
        rw [hst]
      simp only [hsd]
      exact z1 K fun y hy => hK y (List.mem_cons_of_mem _ hy)
def RPN (E : Env) (P : Program) : List RD → PSt → (PSt → Prop) → Prop
  | [], s, R => R s
  | .st free f :: l, s, R => free = true ∧ ∃ s1, f s = some s1 ∧ RPN E P l s1 R
  | .alt free f g :: l, s, R => free = true ∧ ((∃ s1, f s = some s1 ∧ RPN E P l s1 R) ∨ (∃ s1, g s = some s1 ∧ RPN E P l s1 R))
  | .sto f adr offs :: l, s, R => ∃ k1 i1 o1 es1 cs1, adr s = .ptr k1 i1 o1 ∧ s.mem k1 i1 = some (.row .rw es1 cs1) ∧ (∀ v ∈ offs s, ∃ k2 i2 o2, v = .ptr k2 i2 o2 ∧ ¬ (k2 = k1 ∧ i2 = i1)) ∧ ∃ s1, f s = some s1 ∧ RPN E P l s1 R
  | .call free dst w fn args :: l, s, R => (w s = some true ∧ ∃ g first captured, fn s = .fn g first captured ∧
        (match free with
        | true => PTl E P (s.k + 1) g (first ++ (args s ++ captured)) s.mem (fun x M1 => took s dst x M1 fun s2 => RPN E P l s2 R)
        | false => PTk E P g (first ++ (args s ++ captured)) (holdM s.mem) (fun nk x M1 => s.k < nk → ∃ N : PMem, (∀ i, N s.k i = none) ∧ MLe M1 (overM (holdM s.mem) N) ∧ ∃ s2, pput { s with M := overM s.M N } dst x = some s2 ∧ RPN E P l s2 R))) ∨
      (free = true ∧ w s = some false ∧ ∃ s1, pput s dst (.tup []) = some s1 ∧ RPN E P l s1 R) ∨ (free = false ∧ w s = some false ∧ ∃ s1, pput s dst (.tup []) = some s1 ∧ RPN E P l s1 R)
theorem RPN.sound (hE : EnvOk E P) {ops : List Oper} {bs : List Nat} : ∀ {l : List Oper} {i : Nat} {s : PSt} {R : PSt → Prop}, RPN E P (compD E ops bs i l) s R → PD E P ops bs i l s R
  | [], i, s, R, h => PD.nil h
  | o :: l, i, s, R, h => by
    simp only [compD] at h
    have st : ((!(cls E o.op).isHard || alone E bs ops i) = true ∧ ∃ s1, pstep E ops o s = some s1 ∧ RPN E P (compD E ops bs (i + 1) l) s1 R) → PD E P ops bs i (o :: l) s R := fun ⟨hf, s1, h1, h2⟩ => PD.step hE hf h1 (RPN.sound hE h2)
    split at h
    · rename_i x f hx
      rw [compOp_st hx] at h
      cases hfree : (!(cls E o.op).isHard || alone E bs ops i) with
      | true =>
        rw [hfree] at h st
        exact st h
      | false =>
        rw [hfree] at h
        dsimp only at h
        split at h
        · rename_i t a v hop
          split at h
          · rename_i hgd
            split at h
            · rename_i L hL
              obtain ⟨k1, i1, o1, es1, cs1, b1, b2, b3, s1, b4, b5⟩ := h
              exact PD.storeOff hE hfree hgd hop hL b1 b2 b3 b4 (RPN.sound hE b5)
            · cases h.1
          · cases h.1
        · cases h.1
    · rename_i x f g hx
      obtain ⟨rfl, rfl⟩ := compOp_alt hx
      obtain ⟨hf, h | ⟨s1, h1, h2⟩⟩ := h
      · exact st ⟨hf, h⟩
      · exact PD.stepR hE hf h1 (RPN.sound hE h2)
    · exact st h
    · rename_i x d w f a hx
      obtain ⟨c, fo, hc, hf, rfl, rfl, rfl, rfl⟩ := compOp_call hx
      have hcls : cls E o.op = .hard := by rw [hc]; simp only [cls, hf]
      rcases h with ⟨hw, g, first, captured, h1, h2⟩ | ⟨hf1, hw, s1, h1, h2⟩ | ⟨hf1, hw, s1, h1, h2⟩
      · cases hfree : (!(cls E o.op).isHard || alone E bs ops i) with
        | true =>
          rw [hfree] at h2
          simp only at h2
          have hal : alone E bs ops i = true := by
            rw [hcls] at hfree
            simpa [Cls.isHard] using hfree
          exact PD.call hal hw hc hf h1 (h2.mono fun x M1 ⟨os1, M2, s2, a1, a2, a3, a4⟩ => ⟨os1, M2, s2, a1, a2, a3, RPN.sound hE a4⟩)
        | false =>
          rw [hfree] at h2
          simp only at h2
          exact PD.quietN hfree hw hc hf h1 (h2.mono fun nk x M1 h3 hlt => by
            obtain ⟨N, a0, a1, s2, a3, a4⟩ := h3 hlt
            exact ⟨N, a0, a1, s2, a3, RPN.sound hE a4⟩)
      · exact PD.step hE hf1 (pstep_skip hw h1) (RPN.sound hE h2)
      · exact PD.skip hE hw h1 (RPN.sound hE h2)
theorem over_none {A : PMem} : overM A (fun _ _ => none) = A := by
  funext k i
  unfold overM
  cases A k i <;> rfl
theorem RPN.of : ∀ {l1 l2 : List RD} {s : PSt} {R : PSt → Prop}, RPD E P l1 s (fun s1 => RPN E P l2 s1 R) → RPN E P (l1 ++ l2) s R
  | [], l2, s, R, h => h
  | .st free f :: l, l2, s, R, ⟨h1, s1, h2, h3⟩ => ⟨h1, s1, h2, RPN.of h3⟩
  | .sto f adr offs :: l, l2, s, R, ⟨k1, i1, o1, es1, cs1, b1, b2, b3, s1, b4, b5⟩ => ⟨k1, i1, o1, es1, cs1, b1, b2, b3, s1, b4, RPN.of b5⟩
  | .alt free f g :: l, l2, s, R, ⟨h1, h⟩ => ⟨h1, by
      rcases h with ⟨s1, h2, h3⟩ | ⟨s1, h2, h3⟩
      · exact .inl ⟨s1, h2, RPN.of h3⟩
      · exact .inr ⟨s1, h2, RPN.of h3⟩⟩
  | .call free dst w fn args :: l, l2, s, R, h => by
      rcases h with ⟨hw, g, first, captured, h1, h2⟩ | ⟨hf1, hw, s1, h1, h2⟩ | ⟨hf1, hw, s1, h1, h2⟩
      · refine .inl ⟨hw, g, first, captured, h1, ?_⟩
        cases free with
        | true => exact PTl.mono h2 fun x M1 ⟨os1, M2, s2, a1, a2, a3, a4⟩ => ⟨os1, M2, s2, a1, a2, a3, RPN.of a4⟩
        | false =>
          have h2' : PTk E P g (first ++ (args s ++ captured)) (holdM s.mem) (fun _ x M1 => MLe M1 (holdM s.mem) ∧ ∃ s2, pput s dst x = some s2 ∧ RPD E P l s2 (fun s1 => RPN E P l2 s1 R)) := h2
          refine h2'.mono fun nk x M1 ⟨a1, s2, a3, a4⟩ hlt => ⟨fun _ _ => none, fun _ => rfl, by rw [over_none]; exact a1, s2, by rw [over_none]; exact a3, RPN.of a4⟩
      · exact .inr (.inl ⟨hf1, hw, s1, h1, RPN.of h2⟩)
      · exact .inr (.inr ⟨hf1, hw, s1, h1, RPN.of h2⟩)
end
end Go.Pm
end

section
namespace Go.Pm
open Go.RowKit Go.Am
theorem RX.scopeL {E : Env} {P : Program} {rd : Option (Nat × Nat)} {s : PSt} {Q : AExit → PSt → Prop} {a : Code} {c cr : RC} (l0 : Nat) (hc : comp E a = c) (hl : (match findLabel a l0 with | some r => comp E r | none => .refuse) = cr) (hl' : (findLabel a l0).isSome = true)
    (h : RX E P rd c s (fun e s1 => (match e with | .goto l => l = l0 ∧ RX E P rd cr s1 (fun e s2 => (∀ l, e ≠ .goto l) ∧ Q e s2) | _ => Q e s1))) : RX E P rd (.scope a) s Q :=
  RX.scope (PXS.run ((h a hc).mono fun e s1 h1 => by
    cases e with
    | goto l =>
      obtain ⟨rfl, h2⟩ := h1
      show thenS E P rd a Q (.goto l) s1
      unfold thenS
      cases hf : findLabel a l with
      | none => rw [hf] at hl'; cases hl'
      | some rest =>
        rw [hf] at hl
        dsimp only at hl ⊢
        simp only [hf]
        exact PXS.run ((h2 rest hl).mono fun e s2 ⟨h3, h4⟩ => by
          cases e with
          | goto l => exact absurd rfl (h3 l)
          | _ => exact h4)
    | normal => exact h1
    | exit i => exact h1
    | ret => exact h1))
theorem sto_f {tm : List (Nat × PV)} {nt k n i o : Nat} {os : List Obj} {M : PMem} {A B : Operand} {v : PV} {ob : Obj} (hA : pev tm A = .ptr k i o) (hB : pev tm B = v) (h : storeO n o v os[i]? = some ob) : rI none none (rstore n A B) ⟨tm, nt, k, os, M⟩ = some ⟨tm, nt, k, os.set i ob, M⟩ := by
  unfold rI rg
  dsimp only
  rw [r_store, hA, hB]
  unfold storeP
  dsimp only
  rw [if_pos rfl, h]
  rfl
def gH (E : Env) (P : Program) (d : Nat) (w : Bool) (κ : Kont) (R : PSt → Prop) (tm : List (Nat × PV)) (nt k : Nat) (os : List Obj) (M : PMem) (r : Option (PV × PSt)) (gv : PV) : Prop :=
  match rgV w gv with
  | some true => nU E P d κ R r
  | some false => nV E P d κ tm nt k os M R (some (.tup []))
  | none => False
section
variable {E : Env} {P : Program} {R : PSt → Prop} {tm : List (Nat × PV)} {nt k d g : Nat} {os : List Obj} {M : PMem} {w : Bool} {F : PSt → Option (PV × PSt)} {l : List RI} {κ : Kont} {r : Option (PV × PSt)}
theorem e_OH : RPO E P (oH d g w F :: l) ⟨tm, nt, k, os, M⟩ R = gH E P d w (.o l) R tm nt k os M (F ⟨tm, nt, k, os, M⟩) (tget tm g) := by
  have hg : rg (some (g, w)) ⟨tm, nt, k, os, M⟩ = rgV w (tget tm g) := rg_V
  show (∃ s1, rI (some d) (some (g, w)) F ⟨tm, nt, k, os, M⟩ = some s1 ∧ RK E P (.o l) s1 R) = _
  unfold gH rI
  rw [hg]
  cases rgV w (tget tm g) with
  | none => simp
  | some b =>
    cases b with
    | true =>
      dsimp only
      cases F ⟨tm, nt, k, os, M⟩ with
      | none => simp [nU]
      | some x => exact put_ex
    | false => exact nV_put
theorem gH_tt : gH E P d true κ R tm nt k os M r (.v (.bool true)) = nU E P d κ R r := rfl
theorem gH_tf : gH E P d true κ R tm nt k os M r (.v (.bool false)) = nV E P d κ tm nt k os M R (some (.tup [])) := rfl
theorem gH_ff : gH E P d false κ R tm nt k os M r (.v (.bool false)) = nU E P d κ R r := rfl
theorem gH_ft : gH E P d false κ R tm nt k os M r (.v (.bool true)) = nV E P d κ tm nt k os M R (some (.tup [])) := rfl
end
end Go.Pm
end

section
namespace Go.Proofs.YtmgmbdnhodicjaaGreatDoor
open Go Go.Am Go.Pm
set_option maxHeartbeats 2000000
set_option maxRecDepth 100000
theorem pt130 : ∃ y e, env.ty 130 = some y ∧ y.desc = .pointer e := by
  have h : (match env.ty 130 with | some y => (match y.desc with | .pointer _ => true | _ => false) | none => false) = true := by kernel_rfl
  cases hy : env.ty 130 with
  | none => rw [hy] at h; cases h
  | some y =>
    rw [hy] at h
    dsimp only at h
    split at h
    · rename_i e he; exact ⟨y, e, rfl, he⟩
    · cases h
def rdC (b : List UInt8) (p : Nat) (e f : Int) : List PV := [bv true, encBytes b, iv p, iv e, iv f]
def rdRow (b : List UInt8) (p : Nat) (e f : Int) : Pm.Obj := .row .rw 0 (rdC b p e f)
theorem none151 {M0 : PMem} {a i : Nat} {w : Wm} {r : List PV} (hM : M0 a i = some (.row w 0 (bv true :: r))) : PTs env Tryz.prog M0 151 [.ptr a i 0] (bv false) := by
  refine PTs.enter env_ok fn151 (by simp) comp151 fun M k hs hk hf => ?_
  have hM' := hs _ _ _ hM
  have hld : ∀ {ag : Bool} {n o : Nat} {os : List Pm.Obj}, loadP k os M ag n (.ptr a i o) = rowTake ag n o (M a i) := loadP_out (fresh_ne hf hM')
  simp only [G0, Nat.reduceLT, Nat.reduceEqDiff, Nat.reduceAdd, Nat.reduceLeDiff, Nat.reduceMul, argsP, ptr_eql, pt130, hld, hM', Bool.not_true, Bool.not_false, cnd_f, cnd_t, Bool.or_false]
  exact end1 hf rfl ⟨rfl, rfl⟩
theorem slice_lst {b : List UInt8} {l h : Nat} (hlh : l ≤ h) (hn : h ≤ b.length) : sliceL 1 (.lst .no 1 b.length (b.map encB)) (some (iv l)) (some (iv h)) none = some (encBytes ((b.drop l).take (h - l))) := by
  have h1 : pnat? (iv (l : Int)) = some l := pnat_int
  have h2 : pnat? (iv (h : Int)) = some h := pnat_int
  unfold sliceL
  simp only [if_true, h1, h2]
  rw [if_pos ⟨hlh, hn⟩]
  unfold encBytes
  rw [Nat.mul_one, Nat.mul_one]
  rw [List.length_take, List.length_drop, List.map_take, List.map_drop, Nat.min_eq_left (by omega)]
theorem byte_at {b : List UInt8} {i : Nat} {c : UInt8} (h : b[i]? = some c) : (b.map encB)[i]? = some (encB c) := by rw [List.getElem?_map, h]; rfl
structure Kn (tm : List (Nat × PV)) (a : Nat) (lo hi : Int) (many : Nat) (ln : Nat) : Prop where
  t0 : tget tm 0 = .ptr a 0 0
  t1 : tget tm 1 = iv lo
  t2 : tget tm 2 = iv hi
  t8 : tget tm 8 = iv many
  t9 : tget tm 9 = iv 4
  t10 : tget tm 10 = iv ln
theorem loop110 (l : List UInt8) (hl : l.length ≤ 8) (M : PMem) (k : Nat) (Q : AExit → PSt → Prop) {a : Nat} {lo hi : Int} {many ln : Nat} (q : ∀ tm, Kn tm a lo hi many ln → tget tm 7 = uv (beN l 0) → Q (.exit 0) ⟨tm, 151, k, [], M⟩) :
    ∀ d i tm, l.length - i = d → i ≤ l.length → Kn tm a lo hi many ln → tget tm 7 = uv (beN (l.take i) 0) → tget tm 84 = encBytes l → tget tm 85 = iv l.length → tget tm 86 = iv i → RXL env Tryz.prog none c110_30 ⟨tm, 151, k, [], M⟩ Q := by
  intro d
  induction d with
  | zero =>
    intro i tm hd hi' hK t7 t84 t85 t86
    have : i = l.length := by omega
    subst this
    rw [List.take_length] at t7
    obtain ⟨t0, t1, t2, t8, t9, t10⟩ := hK
    refine RXL.round (RX.of env_ok ?_)
    simp only [G0, Nat.reduceLT, Nat.reduceEqDiff, Nat.reduceAdd, Nat.reduceLeDiff, Nat.reduceMul, t85, t86, Int.lt_irrefl, decide_false]
    exact q _ ⟨t0, t1, t2, t8, t9, t10⟩ t7
  | succ d ih =>
    intro i tm hd hi' hK t7 t84 t85 t86
    have hi2 : i < l.length := by omega
    have hii : (i : Int) < l.length := by omega
    obtain ⟨c, hc, hdx⟩ := getE hi2
    have hb : (l.map encB)[i * 1]? = some (encB c) := by rw [Nat.mul_one]; exact byte_at hc
    have hw : IntKind.i64.wrap ((i : Int) + 1) = ((i + 1 : Nat) : Int) := by rw [wrap64_id (by omega) (by omega)]; rfl
    have hlt : beN (l.take i) 0 < 72057594037927936 := by
      have := beN_lt (l.take i) 0 0 (by decide)
      have h2 : (l.take i).length ≤ 7 := by rw [List.length_take]; omega
      have h3 : 256 ^ (0 + (l.take i).length) ≤ 256 ^ 7 := Nat.pow_le_pow_right (by decide) (by omega)
      have h4 : (256 : Nat) ^ 7 = 72057594037927936 := by decide
      omega
    have hcv : ∀ {c : UInt8}, convI .u64 (encB c) = some (uv c.toNat) := fun {c} => by
      have := u8_lt c
      unfold encB
      simp only [convI, wrap_u64 (show c.toNat < 18446744073709551616 by omega)]
    have hnx : beN (l.take (i + 1)) 0 = beN (l.take i) 0 * 256 + c.toNat := by
      rw [List.take_add_one, hc]
      unfold beN
      rw [List.foldl_append]
      rfl
    have hs : ∀ {t : Nat} {c d : Bool}, pbin env .shl t c d (uv (beN (l.take i) 0)) (.v (.int .u64 8)) = some (uv (beN (l.take i) 0 * 256)) := shl_u64 hlt
    have ho : ∀ {t : Nat} {c1 d : Bool}, pbin env .or t c1 d (uv (beN (l.take i) 0 * 256)) (uv c.toNat) = some (uv (beN (l.take i) 0 * 256 + c.toNat)) := or_u64 hlt (u8_lt c)
    obtain ⟨t0, t1, t2, t8, t9, t10⟩ := hK
    refine RXL.round (RX.of env_ok ?_)
    simp only [G0, Nat.reduceLT, Nat.reduceEqDiff, Nat.reduceAdd, Nat.reduceLeDiff, Nat.reduceMul, t7, t84, t85, t86, encBytes, hii, decide_true, hi2, hb, hs, hcv, ho, hw]
    exact ih (i + 1) _ (by omega) (by omega) (by exact ⟨t0, t1, t2, t8, t9, t10⟩) (by rw [hnx]; rfl) (by exact t84) (by exact t85) (by rfl)
end Go.Proofs.YtmgmbdnhodicjaaGreatDoor
end
