/- Regions whose order of evaluation is open: one order serves for all. Part 3: one operation, all. -/
import Derived.Test.YtnhhppflnpfehacGreatDoorAm18
namespace Go.Am
open Go.RowKit

section
variable {E : Env} {P : Program} {K : Task → Mem → Option (Value × Mem)} {ι ι1 ι2 ι0 : Inj} {m m1 m2 : Mem} {w w1 w2 w0 : World} {ops : List Oper} {f : Nat → St} {d : Nat → Prop} {tm : Tr Value} {h : Nat}

theorem doOp_congr {o : Oper} {tm tm' : Tr Value} (he : ∀ t, t ∈ readsOf o → tm.at t = tm'.at t) (m : Mem) : doOp E K o tm m = doOp E K o tm' m := by
  unfold doOp
  rw [aop_congr (ev_congr he)]

theorem touches_lt (hR : Rel E ι m w) {nt : Nat} {a : Act} (hT : TR ι tm nt a.tmps) {o : Oper} (ho : opOk E.ng o.op = true) {b : Nat} (ht : touches (ev tm) o = some b) (hc : (cls E o.op).isHard = false) (hf : (cls E o.op).isFresh = false) :
    b < m.size ∧ (cls E o.op).isPure = false := by
  obtain ⟨dst, op, ty, pos, after, guard⟩ := o
  unfold touches at ht
  cases op with
  | load t x =>
    simp only at ht
    refine ⟨?_, rfl⟩
    split at ht
    · rename_i a' ha
      cases ht
      have hv := ev_rel hR hT (x := x) ho
      rw [ha] at hv
      generalize a.eval x = y at hv
      cases hv with
      | ptr o e => exact (hR.dom _ _ e).1
    · cases ht
  | call c =>
    simp only at ht
    refine ⟨?_, ?_⟩
    · split at ht
      · rename_i b' r hc
        cases ht
        simp only [opOk, Bool.and_eq_true] at ho
        have hv := evs_rel hR hT ho.1
        rw [hc] at hv
        generalize c.args.toList.map a.eval = ys at hv
        cases hv with
        | cons h1 _ =>
          cases h1 with
          | mp e => exact (hR.dom _ _ e).1
      · cases ht
    · simp only [cls]
      split <;> rfl
  | convert s d x =>
    simp only at ht
    refine ⟨?_, ?_⟩
    · split at ht
      · rename_i a' n k ha
        have hv := ev_rel hR hT (x := x) ho
        rw [ha] at hv
        rw [Bool.cond_eq_ite] at ht
        split at ht
        · cases ht
        · rename_i hn
          cases ht
          generalize a.eval x = y at hv
          cases hv with
          | sex o n c e => exact (hR.dom _ _ e).1
          | slo o n c c' e _ _ _ => exact (hR.dom _ _ e).1
          | semp _ _ _ _ => exact absurd rfl hn
          | sem0 _ _ => exact absurd rfl hn
      · cases ht
    · simp only [cls, clsConv] at hc hf ⊢
      split
      · rename_i y hy
        rw [hy] at hf
        simp only at hf
        split
        · rename_i e hd
          rw [hd] at hf
          simp [Cls.isFresh] at hf
        · rfl
      · rfl
  | _ => cases ht

theorem bef_false {bs : List Nat} {i j : Nat} (h : bef bs i j = true → False) : bef bs i j = false := by
  cases hb : bef bs i j with
  | false => rfl
  | true => exact (h hb).elim

theorem loadOff_at {k blk : Nat} {tm' : Tr Value} (h : loadOff E ops (befores ops []) k tm' blk = true) {j : Nat} {o : Oper} (ho : ops[j]? = some o) (hne : j ≠ k) (hp : (cls E o.op).isPure = false)
    (b1 : bef (befores ops []) k j = false) (b2 : bef (befores ops []) j k = false) :
    j < k ∧ ∃ t x, o.op = .load t x ∧ (∀ ad, ev tm' x = .pointer (some ad) → ad.block ≠ blk) ∧ ∀ k', j ≤ k' → k' < k → ∀ z, ops[k']? = some z → ∀ d, z.dst = some d → ¬ d ∈ readsOf o := by
  unfold loadOff at h
  rw [allBelow_iff] at h
  have h := h j (lt_of_get ho)
  have e0 : Nat.beq j k = false := by
    cases hb : Nat.beq j k with
    | false => rfl
    | true => exact absurd (Nat.eq_of_beq_eq_true hb) hne
  simp only [e0, clsAt, ho, hp, ordered, b1, b2, Bool.false_or, Bool.and_eq_true] at h
  obtain ⟨h1, h2, h3⟩ := h
  refine ⟨by simpa using h1, ?_⟩
  split at h2
  · rename_i t x hop
    refine ⟨t, x, hop, fun ad e => ?_, fun k' hk1 hk2 z hz d hd hm => ?_⟩
    · rw [e] at h2
      simp only [Bool.not_eq_true'] at h2
      intro e2
      rw [e2, Nat.beq_refl] at h2
      cases h2
    · rw [allBelow_iff] at h3
      have h3 := h3 k' hk2
      rw [bltF (by omega : ¬ k' < j)] at h3
      simp only [hz, hd, Bool.false_or, Bool.not_eq_true'] at h3
      rw [memN_iff.2 hm] at h3
      cases h3
  · cases h2

theorem Mid.next (hm : Mid E ops f ι0 w0 d tm h ι w) (t : Text E K ops f) {j : Nat} {o : Oper} (hr : Rdy ops d j o) {v : Value} {tm3 : Tr Value} {nt nt' : Nat}
    (h3 : putT tm nt o.dst v = some tm3) (hp : putT (f j).tm nt' o.dst v = some (f (j + 1)).tm) {h1 : Nat} (hlt : h1 ≤ ops.length)
    (hh : ∀ k o, ops[k]? = some o → (cls E o.op).isHard = true → ((d k ∨ k = j) ↔ k < h1)) (hst : Step E ι0 (f 0).m w0 ι1 (f h1).m w1)
    (htop : ∀ k, k ≤ h1 → ∀ b, (f k).m.size ≤ b → (f k).m.get b = none)
    (hho : ∀ i o, ops[i]? = some o → (cls E o.op).isFresh = true → i < h1 → ¬ d i → i ≠ j → wantedV ops (f i).tm o = true → ι1 (f i).m.size = none) : Mid E ops f ι0 w0 (fun k => d k ∨ k = j) tm3 h1 ι1 w1 where
  down := fun k o' ho' hk e he hb => by
    rcases hk with hk | rfl
    · exact .inl (hm.down k o' ho' hk e he hb)
    · rw [hr.1] at ho'; cases ho'
      exact .inl (hr.2.2 e he hb)
  lt := hlt
  hard := hh
  step := hst
  top := htop
  hole := fun i o' ho' hf hi hd hw => hho i o' ho' hf hi (fun x => hd (.inl x)) (fun x => hd (.inr x)) hw
  wrote := fun i o' x ho' hx hd => by
    rcases hd with hd | rfl
    · rw [putT_ne h3 fun e => ?_]
      · exact hm.wrote i o' x ho' hx hd
      · have := t.ok.dst ho' hr.1 hx e
        subst this
        exact hr.2.1 hd
    · rw [hr.1] at ho'; cases ho'
      rw [hx] at h3 hp
      rw [putT_same h3, ← t.at_dst (Nat.lt_succ_self i) (lt_of_get hr.1) hr.1 hx, putT_same hp]
  not := fun x hx => by
    rw [putT_ne h3 fun e => hx j o hr.1 (.inr rfl) e]
    exact hm.not x fun i o' ho' hd => hx i o' ho' (.inl hd)

/-- One place on, over an operation that is no 'hard' one. -/
theorem Mid.adv1 (hm : Mid E ops f ι0 w0 d tm h ι w) (t : Text E K ops f) {o : Oper} (ho : ops[h]? = some o) (hc : (cls E o.op).isHard = false) : Mid E ops f ι0 w0 d tm (h + 1) ι w := by
  have hlt := lt_of_get ho
  have hst : Step E ι0 (f 0).m w0 ι (f (h + 1)).m w := by
    rcases t.quiet ho hc with e | ⟨cs, es, e⟩
    · rw [e]; exact hm.step
    · rw [e]; exact hm.step.hole cs es
  refine ⟨hm.down, hlt, fun k y hy hyc => ?_, hst, fun k hk => ?_, fun i y hy hyf hi hd hw => ?_, hm.wrote, hm.not⟩
  · rw [hm.hard k y hy hyc]
    constructor
    · intro hk; omega
    · intro hk
      rcases Nat.lt_or_ge k h with hl | hl
      · exact hl
      · have : k = h := by omega
        subst this
        rw [ho] at hy; cases hy; rw [hc] at hyc; cases hyc
  · rcases Nat.lt_or_ge h k with hl | hl
    · have : k = h + 1 := by omega
      subst this
      exact hst.rel.top
    · exact hm.top k hl
  · rcases Nat.lt_or_ge i h with hl | hl
    · exact hm.hole i y hy hyf hl hd hw
    · have : i = h := by omega
      subst this
      exact hm.step.rel.none_of_size

theorem Mid.adv (hm : Mid E ops f ι0 w0 d tm h ι w) (t : Text E K ops f) : ∀ {q : Nat}, h ≤ q → q ≤ ops.length → (∀ k o, h ≤ k → k < q → ops[k]? = some o → (cls E o.op).isHard = false) → Mid E ops f ι0 w0 d tm q ι w := by
  intro q
  induction q with
  | zero => intro h1 _ _; have : h = 0 := by omega
            subst this; exact hm
  | succ q ih =>
    intro h1 h2 hn
    rcases Nat.lt_or_ge h (q + 1) with hl | hl
    · obtain ⟨o, ho⟩ := get_of_lt (ops := ops) (i := q) (by omega)
      exact (ih (by omega) (by omega) fun k o hk1 hk2 => hn k o hk1 (by omega)).adv1 t ho (hn q o (by omega) (by omega) ho)
    · have : h = q + 1 := by omega
      subst this; exact hm

/-- A 'hard' operation that is ready, or one that lays a row and that stands at the place or behind: no 'hard' one stands between. -/
theorem Mid.reach (hm : Mid E ops f ι0 w0 d tm h ι w) (t : Text E K ops f) {j : Nat} {o : Oper} (hr : Rdy ops d j o) (hc : (cls E o.op).isHard = true ∨ (cls E o.op).isFresh = true) :
    ∀ k y, h ≤ k → k < j → ops[k]? = some y → (cls E y.op).isHard = false := by
  intro k y hk1 hk2 hy
  cases hyc : (cls E y.op).isHard with
  | false => rfl
  | true =>
    have hnd : ¬ d k := fun hd => by have := (hm.hard k y hy hyc).1 hd; omega
    have hp := t.ok.pair hk2 hy hr.1
    simp only [pairOk, Bool.and_eq_true, Bool.or_eq_true, hyc] at hp
    rcases hp.2 with hb | hb
    · exact absurd (hm.down.reach' hr.1 hr.2.2 (bef_reach hb)) hnd
    · rcases hc with hc | hc <;> rw [hc] at hb <;> simp at hb

theorem Mid.hardAt (hm : Mid E ops f ι0 w0 d tm h ι w) (t : Text E K ops f) {j : Nat} {o : Oper} (hr : Rdy ops d j o) (hc : (cls E o.op).isHard = true) :
    Mid E ops f ι0 w0 d tm j ι w ∧ ∀ k o, ops[k]? = some o → (cls E o.op).isHard = true → ((d k ∨ k = j) ↔ k < j + 1) := by
  have hj := lt_of_get hr.1
  have hle : h ≤ j := by
    rcases Nat.lt_or_ge j h with hl | hl
    · exact absurd ((hm.hard j o hr.1 hc).2 hl) hr.2.1
    · exact hl
  have hm' := hm.adv t hle (Nat.le_of_lt hj) (hm.reach t hr (.inl hc))
  refine ⟨hm', fun k y hy hyc => ?_⟩
  rw [hm'.hard k y hy hyc]
  omega

/-- One that changes nothing gives in this state what it gives in the text's. -/
theorem Mid.softAt (hm : Mid E ops f ι0 w0 d tm h ι w) (t : Text E K ops f) {j : Nat} {o : Oper} (hr : Rdy ops d j o) (hc : (cls E o.op).isHard = false) (hf : (cls E o.op).isFresh = false)
    {nt : Nat} {a : Act} (hT : TR ι tm nt a.tmps) (ho : opOk E.ng o.op = true) {v : Value} {m' : Mem} (hd : doOp E K o (f j).tm (f j).m = some (v, m')) : doOp E K o tm (f h).m = some (v, (f h).m) := by
  have hj := lt_of_get hr.1
  rw [← doOp_congr (fun x hx => hm.read t hr hx)] at hd
  unfold doOp at hd ⊢
  cases ha : aop E (ev tm) (f j).m o with
  | none => rw [ha] at hd; cases hd
  | some r =>
    obtain ⟨v2, rfl, hs⟩ := aop_soft (m1 := (f h).m) hc hf ha
    rw [ha] at hd
    cases hd
    rw [hs fun b hb hx => ?_]
    obtain ⟨hbl, hpu⟩ := touches_lt hm.step.rel hT ho hb hc hf
    rcases Nat.le_total h j with hl | hl
    · refine .inr (t.mem_range hl (Nat.le_of_lt hj) (fun k hk1 hk2 y hy hyc => ?_) hbl)
      have hnd : ¬ d k := fun hdk => by have := (hm.hard k y hy hyc).1 hdk; omega
      have b1 : bef (befores ops []) k j = false := bef_false fun hb => by have := t.ok.lt (bef_reach hb); omega
      have b2 : bef (befores ops []) j k = false := bef_false fun hb => hnd (hm.down.reach' hr.1 hr.2.2 (bef_reach hb))
      refine ⟨alone_false hr.1 (by omega) hpu b1 b2, fun t0 a x ad e1 e2 e3 => ?_⟩
      obtain ⟨hlt, _⟩ := loadOff_at e3 hr.1 (by omega) hpu b1 b2
      omega
    · have hbj : b < (f j).m.size := by
        rcases Nat.lt_or_ge b (f j).m.size with hlt | hge
        · exact hlt
        · obtain ⟨x, hx⟩ := hx
          rw [hm.top j hl b hge] at hx; cases hx
      refine .inl (t.mem_range hl hm.lt (fun k hk1 hk2 y hy hyc => ?_) hbj)
      have hdk : d k := (hm.hard k y hy hyc).2 hk2
      have hne : j ≠ k := fun e => by subst e; exact hr.2.1 hdk
      have b1 : bef (befores ops []) k j = false := bef_false fun hb => hr.2.1 (hm.down.reach (bef_reach hb) hdk)
      have b2 : bef (befores ops []) j k = false := bef_false fun hb => by have := t.ok.lt (bef_reach hb); omega
      refine ⟨alone_false hr.1 hne hpu b1 b2, fun t0 a x ad e1 e2 e3 => ?_⟩
      obtain ⟨hlt, t1, y1, e4, e5, e6⟩ := loadOff_at e3 hr.1 hne hpu b1 b2
      have hev : ev (f k).tm y1 = ev tm y1 := by
        refine ev_congr (o := o) (fun z hz => ?_) y1 (by rw [e4]; simp [Op.operands])
        rw [hm.read t hr hz]
        exact t.at_range hk1 (Nat.le_of_lt (lt_of_get hy)) fun k' o' h1 h2 ho' hd' => by
          have := e6 k' h1 h2 o' ho' z hd'
          exact this hz
      rw [hev] at e5
      unfold touches at hb
      rw [e4] at hb
      simp only at hb
      split at hb
      · rename_i ad2 h2
        cases hb
        exact e5 _ h2
      · cases hb

/-- The holes stay holes over a step that starts where they are. -/
theorem Mid.holes (hm : Mid E ops f ι0 w0 d tm h ι w) (t : Text E K ops f) {m' m1 : Mem} {w' w1 : World} (hst : Step E ι m' w' ι1 m1 w1) (hsz : m'.size = (f h).m.size) :
    ∀ i o, ops[i]? = some o → (cls E o.op).isFresh = true → i < h → ¬ d i → wantedV ops (f i).tm o = true → ι1 (f i).m.size = none := by
  intro i o ho hf hi hd hw
  have h0 := hm.hole i o ho hf hi hd hw
  obtain ⟨v, cs, es, _, _, e⟩ := t.fresh ho hf hw
  have h1 := t.sizes (i := i + 1) (j := h) (by omega) hm.lt
  have h2 : (f (i + 1)).m.size = (f i).m.size + 1 := by rw [e]; rfl
  cases hx : ι1 (f i).m.size with
  | none => rfl
  | some u => have := hst.fresh _ _ hx h0; omega

theorem isFresh_notHard {c : Cls} (h : c.isFresh = true) : c.isHard = false := by cases c <;> first | rfl | cases h

theorem Mid.op (hE : EnvOk E P) (hK : KOk E P K) (hm : Mid E ops f ι0 w0 d tm h ι w) (t : Text E K ops f) {j : Nat} {o : Oper} (hr : Rdy ops d j o)
    {a : Act} {nx : Act → World → Prop} (ho : opOk E.ng o.op = true) (hT : TR ι tm (f 0).nt a.tmps) (hD : DR ι (f 0).df a.defers)
    (hn : ∀ ι1 tm1 h1 a1 w1, Mid E ops f ι0 w0 (fun k => d k ∨ k = j) tm1 h1 ι1 w1 → TR ι1 tm1 (f 0).nt a1.tmps → DR ι1 (f 0).df a1.defers → nx a1 w1) :
    (wantedV ops tm o = true ∧ (∀ c, o.op ≠ .defer c) ∧ Upon P (fun v w => nx (a.put o.dst v) w) ((execOp a.eval o).run P w)) ∨ (wantedV ops tm o = false ∧ nx (a.put o.dst undef) w) := by
  have hj := lt_of_get hr.1
  obtain ⟨c1, c2, v, g, hgt, hp, hc⟩ := stepDrawI_g (t.step j o hr.1)
  obtain ⟨tm3, h3⟩ := putT_some (tm2 := tm) hp
  rw [(t.const (Nat.le_of_lt hj)).1] at h3
  rw [hm.wanted t hr]
  rcases hc with ⟨hwt, m', hd, hmem⟩ | ⟨hwt, hv, hmem⟩
  · refine .inl ⟨hwt, doOp_notDefer hd, ?_⟩
    cases hh : (cls E o.op).isHard with
    | true =>
      obtain ⟨hmj, hhard⟩ := hm.hardAt t hr hh
      rw [← doOp_congr (fun x hx => hm.read t hr hx)] at hd
      refine Upon.mono (fun v' w1 hg => ?_) (doOp_ok hE hK (hmj.step.rel.barOf _) hT ho hd)
      obtain ⟨ι1, hv, hst⟩ := hg
      have hk := doOp_keep t.keep (hmj.step.rel.barOf _).wf hd
      have hho := hmj.holes t hst (by unfold Am.barOf; split <;> rfl)
      have hst1 := hst.unbar hmj.step.rel _ hk
      rw [← hmem] at hst1
      refine hn ι1 tm3 (j + 1) _ w1 (hmj.next t hr h3 hp hj hhard (hmj.step.trans hst1) (fun k hk => ?_) fun i o' ho' hf hi hdi hne hw => hho i o' ho' hf (by omega) hdi hw) ((hT.mono hst1.sub).put h3 hv) (by rw [put_defers]; exact hD.mono hst1.sub)
      rcases Nat.lt_or_ge j k with hl | hl
      · have : k = j + 1 := by omega
        subst this
        exact hst1.rel.top
      · exact hmj.top k hl
    | false =>
      have hgt := hgt hh
      subst hgt
      have hmem' : (f (j + 1)).m = m' := hmem
      have hd' : doOp E K o (f j).tm (f j).m = some (v, m') := hd
      have hnot : ∀ {h1 : Nat}, h1 = h → ∀ k y, ops[k]? = some y → (cls E y.op).isHard = true → ((d k ∨ k = j) ↔ k < h1) := fun {h1} e k y hy hyc => by
        subst e
        rw [← hm.hard k y hy hyc]
        refine ⟨fun hx => ?_, .inl⟩
        rcases hx with hx | rfl
        · exact hx
        · rw [hr.1] at hy; cases hy; rw [hh] at hyc; cases hyc
      cases hf : (cls E o.op).isFresh with
      | false =>
        have hd2 := hm.softAt t hr hh hf hT ho hd'
        refine Upon.mono (fun v' w1 hg => ?_) (doOp_ok hE hK hm.step.rel hT ho hd2)
        obtain ⟨ι1, hv, hst⟩ := hg
        exact hn ι1 tm3 h _ w1 (hm.next t hr h3 hp hm.lt (hnot rfl) (hm.step.trans hst) hm.top fun i o' ho' hf' hi hdi hne hw => hm.holes t hst rfl i o' ho' hf' hi hdi hw) ((hT.mono hst.sub).put h3 hv) (by rw [put_defers]; exact hD.mono hst.sub)
      | true =>
        rcases Nat.lt_or_ge j h with hjh | hjh
        · -- late: the machine has the row
          obtain ⟨v2, cs0, es0, hp0, ha0, hm0⟩ := t.fresh hr.1 hf hwt
          rw [← aop_congr (ev_congr fun x hx => hm.read t hr hx)] at ha0
          obtain ⟨F, cs, es, hall, tg, w1, v', hrun, hlaid, hF⟩ := fresh_sim (P := P) (w := w) hE hm.step.rel hT ho hf ha0
          have e0 := hall (f j).m
          rw [ha0] at e0
          injection e0 with e0
          injection e0 with ev2 em
          have hvv : v = v2 := by
            have := doOp_val (by rw [doOp_congr (fun x hx => hm.read t hr hx)]; exact hd') (fun r hr' => by obtain ⟨v, cs, es, e⟩ := aop_fresh hf hr'; exact ⟨_, _, e⟩)
            rw [ha0] at this
            injection this with this
            injection this with q1 q2
            exact q1.symm
          have hwfj := (t.const (Nat.le_of_lt hj)).2.2
          have hgj : (f (j + 1)).m.get (f j).m.size = some (.row cs .rw es none) := by rw [em]; exact Mem.get_new_same (Nat.le_trans hwfj.nb hwfj.bar) _
          have hszj : (f (j + 1)).m.size = (f j).m.size + 1 := by rw [em]; rfl
          have hszh := t.sizes (i := j + 1) (j := h) hjh hm.lt
          have hsame := t.mem_range (i := j + 1) (j := h) (b := (f j).m.size) hjh hm.lt (fun k hk1 hk2 y hy hyc => by
            have hdk : d k := (hm.hard k y hy hyc).2 hk2
            have hpu : (cls E o.op).isPure = false := by revert hf; cases cls E o.op <;> simp [Cls.isPure, Cls.isFresh]
            have b1 : bef (befores ops []) k j = false := bef_false fun hb => hr.2.1 (hm.down.reach (bef_reach hb) hdk)
            have b2 : bef (befores ops []) j k = false := bef_false fun hb => by have := t.ok.lt (bef_reach hb); omega
            refine ⟨alone_false hr.1 (by omega) hpu b1 b2, fun t0 a x ad e1 e2 e3 => ?_⟩
            obtain ⟨_, t1, y1, e4, _⟩ := loadOff_at e3 hr.1 (by omega) hpu b1 b2
            rw [e4] at hf
            cases hf) (by omega)
          have hgh : ∃ md, (f h).m.get (f j).m.size = some (.row cs md es none) ∧ (md = .rw ∨ md = .cl) := by
            rcases hsame with e | ⟨cs', es', q', e1, e2⟩
            · exact ⟨.rw, by rw [← e]; exact hgj, .inl rfl⟩
            · rw [hgj] at e1; cases e1; exact ⟨.cl, e2, .inr rfl⟩
          obtain ⟨md, hgh, hmd⟩ := hgh
          have hhole := hm.hole j o hr.1 hf hjh hr.2.1 hwt
          have hsz0 := t.sizes (i := 0) (j := j) (Nat.zero_le _) (Nat.le_of_lt hj)
          have hst := hm.step.late hlaid hhole hsz0 (by omega) hgh hmd
          have hsub := Inj.put_sub (ι := ι) tg hhole
          rw [hrun]
          have hv2 : VR (ι.put (f j).m.size tg) v v' := by
            rw [hvv, ev2]
            exact hF _ _ (by unfold Inj.put; rw [if_pos rfl])
          refine hn _ tm3 h _ w1 (hm.next t hr h3 hp hm.lt (hnot rfl) hst hm.top fun i o' ho' hf' hi hdi hne hw => ?_) ((hT.mono hsub).put h3 hv2) (by rw [put_defers]; exact hD.mono hsub)
          have h0 := hm.hole i o' ho' hf' hi hdi hw
          have hnesz : (f i).m.size ≠ (f j).m.size := by
            obtain ⟨_, csi, esi, _, _, ei⟩ := t.fresh ho' hf' hw
            have hsi : (f (i + 1)).m.size = (f i).m.size + 1 := by rw [ei]; rfl
            rcases Nat.lt_trichotomy i j with hl | hl | hl
            · have := t.sizes (i := i + 1) (j := j) hl (Nat.le_of_lt hj); omega
            · exact absurd hl hne
            · have := t.sizes (i := j + 1) (j := i) hl (Nat.le_of_lt (lt_of_get ho')); omega
          unfold Inj.put
          rw [if_neg hnesz]; exact h0
        · have hmj := hm.adv t hjh (Nat.le_of_lt hj) (hm.reach t hr (.inr hf))
          rw [← doOp_congr (fun x hx => hm.read t hr hx)] at hd'
          refine Upon.mono (fun v' w1 hg => ?_) (doOp_ok hE hK hmj.step.rel hT ho hd')
          obtain ⟨ι1, hv, hst⟩ := hg
          have hho := hmj.holes t hst rfl
          rw [← hmem'] at hst
          refine hn ι1 tm3 (j + 1) _ w1 (hmj.next t hr h3 hp hj (fun k y hy hyc => ?_) (hmj.step.trans hst) (fun k hk => ?_) fun i o' ho' hf hi hdi hne hw => hho i o' ho' hf (by omega) hdi hw) ((hT.mono hst.sub).put h3 hv) (by rw [put_defers]; exact hD.mono hst.sub)
          · rw [hmj.hard k y hy hyc]
            omega
          · rcases Nat.lt_or_ge j k with hl | hl
            · have : k = j + 1 := by omega
              subst this
              exact hst.rel.top
            · exact hmj.top k hl
  · refine .inr ⟨hwt, ?_⟩
    subst hv
    have hT3 := hT.put h3 VR.undef
    have hD3 : DR ι (f 0).df (a.put o.dst undef).defers := by rw [put_defers]; exact hD
    cases hh : (cls E o.op).isHard with
    | true =>
      obtain ⟨hmj, hhard⟩ := hm.hardAt t hr hh
      have e : (f (j + 1)).m = (f j).m := hmem
      refine hn ι tm3 (j + 1) _ w (hmj.next t hr h3 hp hj hhard (by rw [e]; exact hmj.step) (fun k hk b hb => ?_) fun i o' ho' hf hi hdi hne hw => hmj.hole i o' ho' hf (by omega) hdi hw) hT3 hD3
      rcases Nat.lt_or_ge j k with hl | hl
      · have : k = j + 1 := by omega
        subst this
        rw [e] at hb ⊢
        exact hmj.top j (Nat.le_refl _) b hb
      · exact hmj.top k hl b hb
    | false =>
      refine hn ι tm3 h _ w (hm.next t hr h3 hp hm.lt (fun k y hy hyc => ?_) hm.step hm.top fun i o' ho' hf hi hdi hne hw => hm.hole i o' ho' hf hi hdi hw) hT3 hD3
      rw [← hm.hard k y hy hyc]
      refine ⟨fun hx => ?_, .inl⟩
      rcases hx with hx | rfl
      · exact hx
      · rw [hr.1] at hy; cases hy; rw [hh] at hyc; cases hyc
end
end Go.Am
