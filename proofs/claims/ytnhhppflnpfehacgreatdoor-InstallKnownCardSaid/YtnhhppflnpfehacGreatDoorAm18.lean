/- Regions whose order of evaluation is open: the text's order serves for all. Part 2: the walk. -/
import Derived.Test.YtnhhppflnpfehacGreatDoorAm17
namespace Go.Am
open Go.RowKit

def barOf (f : Bool) (m : Mem) : Mem := match f with | true => m | false => { m with bar := m.size }
def unbar (f : Bool) (m0 m1 : Mem) : Mem := match f with | true => m1 | false => { m1 with bar := m0.bar }

section
variable {E : Env} {P : Program} {K : Task → Mem → Option (Value × Mem)} {ι ι1 ι2 : Inj} {m m1 m2 m0 : Mem} {w w1 w2 : World}

theorem Rel.wf (h : Rel E ι m w) : Wf m := ⟨h.nb, h.bar, fun b o hb ho => by obtain ⟨cs, es, rfl⟩ := h.base b o hb ho; rfl⟩

theorem Rel.barOf (h : Rel E ι m w) (f : Bool) : Rel E ι (Am.barOf f m) w := by
  cases f with
  | true => exact h
  | false => exact h.setBar (Nat.le_trans h.nb h.bar) (Nat.le_refl _)

theorem Step.unbar (h : Rel E ι m w) (f : Bool) (hs : Step E ι (barOf f m) w ι1 m1 w1) (hk : Keep (barOf f m) m1) : Step E ι m w ι1 (Am.unbar f m m1) w1 := by
  cases f with
  | true => exact hs
  | false =>
    have h1 : m1.nb = m.nb := hk.nb
    have h2 : m.size ≤ m1.size := hk.size
    exact ⟨hs.sub, hs.fresh, hs.rel.setBar (by rw [h1]; exact h.nb) (Nat.le_trans h.bar h2), hs.own, hs.keep, hs.size, hs.msize, hs.os, hs.tape, hs.output⟩

theorem stepDraw_cases {ops : List Oper} {f : Bool} {o : Oper} {s s1 : St} (h : stepDraw E K ops f o s = some s1) :
    s1.nt = s.nt ∧ s1.df = s.df ∧ ∃ v, putT s.tm s.nt o.dst v = some s1.tm ∧
      ((wantedV ops s.tm o = true ∧ ∃ m', doOp E K o s.tm (barOf f s.m) = some (v, m') ∧ s1.m = unbar f s.m m') ∨ (wantedV ops s.tm o = false ∧ v = undefV ∧ s1.m = s.m)) := by
  have key : ∀ {s s1 : St}, stepOp E K ops o s = some s1 → s1.nt = s.nt ∧ s1.df = s.df ∧ ∃ v, putT s.tm s.nt o.dst v = some s1.tm ∧
      ((wantedV ops s.tm o = true ∧ doOp E K o s.tm s.m = some (v, s1.m)) ∨ (wantedV ops s.tm o = false ∧ v = undefV ∧ s1.m = s.m)) := by
    intro s s1 h
    rw [stepOp_def] at h
    split at h
    · rename_i hw
      split at h
      · rename_i v m1 hd
        split at h
        · rename_i tm1 hp
          cases h
          exact ⟨rfl, rfl, v, hp, .inl ⟨hw, hd⟩⟩
        · cases h
      · cases h
    · rename_i hw
      split at h
      · rename_i tm1 hp
        cases h
        exact ⟨rfl, rfl, _, hp, .inr ⟨hw, rfl, rfl⟩⟩
      · cases h
  cases f with
  | true =>
    obtain ⟨h1, h2, v, h3, h4⟩ := key h
    refine ⟨h1, h2, v, h3, ?_⟩
    rcases h4 with ⟨hw, hd⟩ | h4
    · exact .inl ⟨hw, _, hd, rfl⟩
    · exact .inr h4
  | false =>
    unfold stepDraw at h
    simp only at h
    split at h
    · rename_i s2 hs
      cases h
      obtain ⟨h1, h2, v, h3, h4⟩ := key hs
      refine ⟨h1, h2, v, h3, ?_⟩
      rcases h4 with ⟨hw, hd⟩ | ⟨hw, hv, hm⟩
      · exact .inl ⟨hw, _, hd, rfl⟩
      · refine .inr ⟨hw, hv, ?_⟩
        simp only at hm ⊢
        rw [hm]
    · cases h

theorem stepDrawI_g {ops : List Oper} {bs : List Nat} {i : Nat} {o : Oper} {s s1 : St} (h : stepDrawI E K ops bs i o s = some s1) :
    s1.nt = s.nt ∧ s1.df = s.df ∧ ∃ v g, ((cls E o.op).isHard = false → g = true) ∧ putT s.tm s.nt o.dst v = some s1.tm ∧
      ((wantedV ops s.tm o = true ∧ ∃ m', doOp E K o s.tm (barOf g s.m) = some (v, m') ∧ s1.m = unbar g s.m m') ∨ (wantedV ops s.tm o = false ∧ v = undefV ∧ s1.m = s.m)) := by
  rcases stepDrawI_cases h with h | ⟨_, h⟩
  · obtain ⟨h1, h2, v, h3, h4⟩ := stepDraw_cases h
    exact ⟨h1, h2, v, _, fun hh => by rw [hh]; rfl, h3, h4⟩
  · obtain ⟨h1, h2, v, h3, h4⟩ := stepDraw_cases h
    exact ⟨h1, h2, v, true, fun _ => rfl, h3, h4⟩

theorem runDraw_seq {ops : List Oper} {bs : List Nat} : ∀ (l : List Oper) (i : Nat) (s s1 : St), runDraw E K ops bs i l s = some s1 →
    ∃ f : Nat → St, f i = s ∧ f (i + l.length) = s1 ∧ ∀ k o, l[k]? = some o → stepDrawI E K ops bs (i + k) o (f (i + k)) = some (f (i + k + 1)) := by
  intro l
  induction l with
  | nil => intro i s s1 h; cases h; exact ⟨fun _ => s, rfl, rfl, fun k o h => by simp at h⟩
  | cons o l ih =>
    intro i s s1 h
    unfold runDraw at h
    split at h
    · rename_i s2 hs
      obtain ⟨g, h1, h2, h3⟩ := ih _ _ _ h
      refine ⟨fun k => if k ≤ i then s else g k, by simp, ?_, ?_⟩
      · have e : i + (o :: l).length = i + 1 + l.length := by simp; omega
        rw [e]
        show (if _ then _ else _) = _
        rw [if_neg (by omega)]; exact h2
      · intro k o' hk
        cases k with
        | zero =>
          simp at hk; subst hk
          simp only [Nat.add_zero]
          rw [if_pos (Nat.le_refl _), if_neg (by omega), h1]; exact hs
        | succ k =>
          simp only [List.getElem?_cons_succ] at hk
          have := h3 k o' hk
          have e : i + (k + 1) = i + 1 + k := by omega
          rw [e]
          simp only
          rw [if_neg (by omega), if_neg (by omega)]
          exact this
    · cases h

/-- The text's run, step by step. -/
structure Text (E : Env) (K : Task → Mem → Option (Value × Mem)) (ops : List Oper) (f : Nat → St) : Prop where
  ok : DrawS E ops
  step : ∀ k o, ops[k]? = some o → stepDrawI E K ops (befores ops []) k o (f k) = some (f (k + 1))
  keep : KKeep K
  wf : Wf (f 0).m

variable {ops : List Oper} {f : Nat → St}

theorem lt_of_get {i : Nat} {o : Oper} (h : ops[i]? = some o) : i < ops.length := by
  rcases Nat.lt_or_ge i ops.length with h' | h'
  · exact h'
  · rw [List.getElem?_eq_none h'] at h; cases h
theorem get_of_lt {i : Nat} (h : i < ops.length) : ∃ o, ops[i]? = some o := ⟨_, List.getElem?_eq_getElem h⟩

theorem Text.const (t : Text E K ops f) {k : Nat} (hk : k ≤ ops.length) : (f k).nt = (f 0).nt ∧ (f k).df = (f 0).df ∧ Wf (f k).m := by
  induction k with
  | zero => exact ⟨rfl, rfl, t.wf⟩
  | succ k ih =>
    obtain ⟨h1, h2, h3⟩ := ih (by omega)
    obtain ⟨o, ho⟩ := get_of_lt (ops := ops) (i := k) (by omega)
    obtain ⟨c1, c2, _⟩ := stepDrawI_g (t.step k o ho)
    exact ⟨c1.trans h1, c2.trans h2, h3.keep (stepDrawI_keep t.keep h3 (t.step k o ho))⟩

theorem putT_ne {tm tm1 : Tr Value} {nt : Nat} {dst : Option Nat} {v : Value} (h : putT tm nt dst v = some tm1) {x : Nat} (hx : dst ≠ some x) : tm1.at x = tm.at x := by
  unfold putT at h
  split at h
  · cases h; rfl
  · rename_i d
    rw [Bool.cond_eq_ite] at h
    split at h
    · cases h; exact Tr.at_put_ne _ _ (fun e => hx (by rw [e]))
    · cases h
theorem putT_same {tm tm1 : Tr Value} {nt : Nat} {d : Nat} {v : Value} (h : putT tm nt (some d) v = some tm1) : tm1.at d = some v := by
  unfold putT at h
  simp only at h
  rw [Bool.cond_eq_ite] at h
  split at h
  · cases h; exact Tr.at_put_same _ _ _
  · cases h
theorem putT_some {tm tm1 tm2 : Tr Value} {nt : Nat} {dst : Option Nat} {v : Value} (h : putT tm nt dst v = some tm1) : ∃ tm3, putT tm2 nt dst v = some tm3 := by
  unfold putT at h ⊢
  cases dst with
  | none => exact ⟨_, rfl⟩
  | some d =>
    simp only at h ⊢
    rw [Bool.cond_eq_ite] at h ⊢
    split at h
    · rename_i hd; rw [if_pos hd]; exact ⟨_, rfl⟩
    · cases h

/-- A place that no operation from i to before j writes. -/
theorem Text.at_range (t : Text E K ops f) {i j : Nat} (hij : i ≤ j) (hj : j ≤ ops.length) {x : Nat} (hx : ∀ k o, i ≤ k → k < j → ops[k]? = some o → o.dst ≠ some x) : (f j).tm.at x = (f i).tm.at x := by
  induction j with
  | zero => have : i = 0 := by omega
            subst this; rfl
  | succ j ih =>
    rcases Nat.lt_or_ge i (j + 1) with h | h
    · obtain ⟨o, ho⟩ := get_of_lt (ops := ops) (i := j) (by omega)
      obtain ⟨_, _, v, _, _, hp, _⟩ := stepDrawI_g (t.step j o ho)
      rw [putT_ne hp (hx j o (by omega) (by omega) ho)]
      exact ih (by omega) (by omega) fun k o h1 h2 => hx k o h1 (by omega)
    · have : i = j + 1 := by omega
      subst this; rfl

theorem DrawS.dst (h : DrawS E ops) {i j : Nat} {x y : Oper} (hx : ops[i]? = some x) (hy : ops[j]? = some y) {d : Nat} (dx : x.dst = some d) (dy : y.dst = some d) : i = j := by
  rcases Nat.lt_trichotomy i j with hl | he | hl
  · have := h.pair hl hx hy
    simp only [pairOk, dx, dy, Bool.and_eq_true] at this
    have := this.1.1.1
    simp at this
  · exact he
  · have := h.pair hl hy hx
    simp only [pairOk, dx, dy, Bool.and_eq_true] at this
    have := this.1.1.1
    simp at this

/-- What an operation of place i has written is there to the end. -/
theorem Text.at_dst (t : Text E K ops f) {i j : Nat} (hij : i < j) (hj : j ≤ ops.length) {o : Oper} (ho : ops[i]? = some o) {d : Nat} (hd : o.dst = some d) : (f j).tm.at d = (f ops.length).tm.at d := by
  refine (t.at_range (i := j) hj (Nat.le_refl _) fun k o' h1 _ hk hd' => ?_).symm
  have := t.ok.dst ho hk hd hd'
  omega
theorem Text.at_not (t : Text E K ops f) {j : Nat} (hj : j ≤ ops.length) {x : Nat} (hx : ∀ k o, k < j → ops[k]? = some o → o.dst ≠ some x) : (f j).tm.at x = (f 0).tm.at x :=
  t.at_range (Nat.zero_le _) hj fun k o _ h2 hk => hx k o h2 hk

/-! ### The state in the midst of a run in another order -/
structure Mid (E : Env) (ops : List Oper) (f : Nat → St) (ι0 : Inj) (w0 : World) (d : Nat → Prop) (tm : Tr Value) (h : Nat) (ι : Inj) (w : World) : Prop where
  down : Down ops d
  lt : h ≤ ops.length
  hard : ∀ k o, ops[k]? = some o → (cls E o.op).isHard = true → (d k ↔ k < h)
  step : Step E ι0 (f 0).m w0 ι (f h).m w
  top : ∀ k, k ≤ h → ∀ b, (f k).m.size ≤ b → (f k).m.get b = none
  hole : ∀ i o, ops[i]? = some o → (cls E o.op).isFresh = true → i < h → ¬ d i → wantedV ops (f i).tm o = true → ι (f i).m.size = none
  wrote : ∀ i o x, ops[i]? = some o → o.dst = some x → d i → tm.at x = (f ops.length).tm.at x
  not : ∀ x, (∀ i o, ops[i]? = some o → d i → o.dst ≠ some x) → tm.at x = (f 0).tm.at x

variable {ι0 : Inj} {w0 : World} {d : Nat → Prop} {tm : Tr Value} {h : Nat}

/-- Ready: not done; all that must come ahead is done. -/
def Rdy (ops : List Oper) (d : Nat → Prop) (j : Nat) (o : Oper) : Prop := ops[j]? = some o ∧ ¬ d j ∧ ∀ e ∈ o.after.toList, Region.binds .any e = true → d e.on

theorem Mid.read (hm : Mid E ops f ι0 w0 d tm h ι w) (t : Text E K ops f) {j : Nat} {o : Oper} (hr : Rdy ops d j o) {x : Nat} (hx : x ∈ readsOf o) : tm.at x = (f j).tm.at x := by
  have hj := lt_of_get hr.1
  by_cases hw : ∃ (i : Nat) (y : Oper), ops[i]? = some y ∧ y.dst = some x
  · obtain ⟨i, y, hy, hd⟩ := hw
    rcases Nat.lt_trichotomy i j with hl | he | hl
    · have hp := t.ok.pair hl hy hr.1
      simp only [pairOk, hd, Bool.and_eq_true, Bool.or_eq_true, Bool.not_eq_true'] at hp
      have hb : bef (befores ops []) j i = true := by
        rcases hp.1.1.2 with hb | hb
        · exact hb
        · rw [memN_iff.2 hx] at hb; cases hb
      have hdi : d i := hm.down.reach' hr.1 hr.2.2 (bef_reach hb)
      rw [hm.wrote i y x hy hd hdi, t.at_dst hl (Nat.le_of_lt hj) hy hd]
    · subst he
      rw [hm.not x fun i' o' ho' hd' hx' => ?_, t.at_not (Nat.le_of_lt hj) fun k o' hk ho' hx' => ?_]
      · have := t.ok.dst hy ho' hd hx'
        omega
      · have := t.ok.dst hy ho' hd hx'
        subst this
        exact hr.2.1 hd'
    · have hp := t.ok.pair hl hr.1 hy
      simp only [pairOk, hd, Bool.and_eq_true, Bool.or_eq_true, Bool.not_eq_true'] at hp
      rw [memN_iff.2 hx] at hp
      have hb : bef (befores ops []) i j = true := by
        rcases hp.1.2 with hb | hb
        · exact hb
        · cases hb
      rw [hm.not x fun i' o' ho' hd' hx' => ?_, t.at_not (Nat.le_of_lt hj) fun k o' hk ho' hx' => ?_]
      · have := t.ok.dst hy ho' hd hx'
        omega
      · have := t.ok.dst hy ho' hd hx'
        subst this
        exact hr.2.1 (hm.down.reach (bef_reach hb) hd')
  · rw [hm.not x fun i o' ho' _ hx' => hw ⟨i, o', ho', hx'⟩, t.at_not (Nat.le_of_lt hj) fun k o' _ ho' hx' => hw ⟨k, o', ho', hx'⟩]

theorem Mid.wanted (hm : Mid E ops f ι0 w0 d tm h ι w) (t : Text E K ops f) {j : Nat} {o : Oper} (hr : Rdy ops d j o) : wantedV ops tm o = wantedV ops (f j).tm o := by
  have hg := t.ok.guard hr.1
  unfold guardBack at hg
  unfold wantedV
  cases hgd : o.guard with
  | none => rfl
  | some p =>
    obtain ⟨g, want⟩ := p
    rw [hgd] at hg
    simp only at hg ⊢
    have hgr := bef_reach hg
    have hdg : d g := hm.down.reach' hr.1 hr.2.2 hgr
    have hlt := t.ok.lt hgr
    have : told ops tm g = told ops (f j).tm g := by
      unfold told
      cases hy : ops[g]? with
      | none => rfl
      | some y =>
        simp only
        cases hd : y.dst with
        | none => rfl
        | some x =>
          simp only
          rw [hm.wrote g y x hy hd hdg, t.at_dst hlt (Nat.le_of_lt (lt_of_get hr.1)) hy hd]
    rw [this]

/-! ### What the text's operations do to memory -/
theorem Text.sizes (t : Text E K ops f) {i j : Nat} (hij : i ≤ j) (hj : j ≤ ops.length) : (f i).m.size ≤ (f j).m.size := by
  induction j with
  | zero => have : i = 0 := by omega
            subst this; exact Nat.le_refl _
  | succ j ih =>
    rcases Nat.lt_or_ge i (j + 1) with hl | hl
    · obtain ⟨o, ho⟩ := get_of_lt (ops := ops) (i := j) (by omega)
      exact Nat.le_trans (ih (by omega) (by omega)) (stepDrawI_keep t.keep (t.const (by omega)).2.2 (t.step j o ho)).size
    · have : i = j + 1 := by omega
      subst this; exact Nat.le_refl _

theorem Text.free (t : Text E K ops f) {j : Nat} {o : Oper} (ho : ops[j]? = some o) (hh : (cls E o.op).isHard = false) : stepDraw E K ops true o (f j) = some (f (j + 1)) := by
  rcases stepDrawI_cases (t.step j o ho) with h | ⟨_, h⟩
  · rw [hh] at h
    exact h
  · exact h

/-- One that is no 'hard' one, and wanted. -/
theorem Text.wanted (t : Text E K ops f) {j : Nat} {o : Oper} (ho : ops[j]? = some o) (hh : (cls E o.op).isHard = false) (hw : wantedV ops (f j).tm o = true) :
    ∃ v, putT (f j).tm (f j).nt o.dst v = some (f (j + 1)).tm ∧ doOp E K o (f j).tm (f j).m = some (v, (f (j + 1)).m) := by
  obtain ⟨_, _, v, hp, hc⟩ := stepDraw_cases (t.free ho hh)
  rcases hc with ⟨_, m', hd, e⟩ | ⟨hw', _, _⟩
  · refine ⟨v, hp, ?_⟩
    have e' : (f (j + 1)).m = m' := e
    rw [e']; exact hd
  · rw [hw] at hw'; cases hw'

theorem doOp_val {o : Oper} {tm : Tr Value} {v : Value} {m' : Mem} (hd : doOp E K o tm m = some (v, m')) (hq : ∀ r, aop E (ev tm) m o = some r → ∃ v2 m2, r = .val v2 m2) : aop E (ev tm) m o = some (.val v m') := by
  unfold doOp at hd
  cases ha : aop E (ev tm) m o with
  | none => rw [ha] at hd; cases hd
  | some r =>
    obtain ⟨v2, m2, rfl⟩ := hq r ha
    rw [ha] at hd
    cases hd
    rfl

theorem Text.fresh (t : Text E K ops f) {j : Nat} {o : Oper} (ho : ops[j]? = some o) (hf : (cls E o.op).isFresh = true) (hw : wantedV ops (f j).tm o = true) :
    ∃ v cs es, putT (f j).tm (f j).nt o.dst v = some (f (j + 1)).tm ∧ aop E (ev (f j).tm) (f j).m o = some (.val v (f (j + 1)).m) ∧ (f (j + 1)).m = (f j).m.new (.row cs .rw es none) := by
  have hh : (cls E o.op).isHard = false := by revert hf; cases cls E o.op <;> simp [Cls.isFresh, Cls.isHard]
  obtain ⟨v, hp, hd⟩ := t.wanted ho hh hw
  have ha := doOp_val hd fun r hr => by obtain ⟨v, cs, es, e⟩ := aop_fresh hf hr; exact ⟨_, _, e⟩
  obtain ⟨v2, cs, es, e⟩ := aop_fresh hf ha
  injection e with e1 e2
  exact ⟨v, cs, es, hp, ha, e2⟩

theorem Text.quiet (t : Text E K ops f) {j : Nat} {o : Oper} (ho : ops[j]? = some o) (hh : (cls E o.op).isHard = false) :
    (f (j + 1)).m = (f j).m ∨ ∃ cs es, (f (j + 1)).m = (f j).m.new (.row cs .rw es none) := by
  cases hw : wantedV ops (f j).tm o with
  | false =>
    obtain ⟨_, _, v, hp, hc⟩ := stepDraw_cases (t.free ho hh)
    rcases hc with ⟨hw', _⟩ | ⟨_, _, e⟩
    · rw [hw] at hw'; cases hw'
    · exact .inl e
  | true =>
    cases hf : (cls E o.op).isFresh with
    | true =>
      obtain ⟨v, cs, es, _, _, e⟩ := t.fresh ho hf hw
      exact .inr ⟨cs, es, e⟩
    | false =>
      obtain ⟨v, hp, hd⟩ := t.wanted ho hh hw
      have ha := doOp_val hd fun r hr => by obtain ⟨v, e, _⟩ := aop_soft (m1 := (f j).m) hh hf hr; exact ⟨_, _, e⟩
      obtain ⟨v2, e, _⟩ := aop_soft (m1 := (f j).m) hh hf ha
      left
      injection e

theorem store_off {o : Oper} {tm : Tr Value} {v : Value} {m' : Mem} {t : TypeId} {a x : Operand} {ad : Addr} {cs : List Value} {es : Nat} (hw : Wf m) (hop : o.op = .store t a x) (he : ev tm a = .pointer (some ad))
    (hg : m.get ad.block = some (.row cs .rw es none)) (hd : doOp E K o tm m = some (v, m')) {b : Nat} (hb : b ≠ ad.block) : m'.get b = m.get b := by
  unfold doOp at hd
  rw [aop_def, hop] at hd
  simp only [he] at hd
  cases hs : storeV E m t ad (ev tm x) with
  | none => rw [hs] at hd; cases hd
  | some m2 =>
    rw [hs] at hd
    cases hd
    unfold storeV at hs
    split at hs
    · rw [Bool.cond_eq_ite] at hs
      split at hs
      · unfold Mem.storeCells at hs
        rw [hg] at hs
        simp only [Bool.cond_eq_ite] at hs
        split at hs
        · rename_i hc
          simp only [Bool.and_eq_true] at hc
          have hbar := Nat.le_of_ble_eq_true hc.1.1
          simp only [Option.map_eq_some_iff] at hs
          obtain ⟨m3, hk, e⟩ := hs
          have e3 : m3 = m := by
            cases hz : m.size with
            | zero => rw [hz] at hk; simp [Mem.kill] at hk; exact hk.symm
            | succ n => rw [hz] at hk; simp [Mem.kill] at hk; exact hk.symm
          subst e3
          rw [← e]
          exact Mem.get_upd_ne (Nat.le_trans hw.nb hbar) hb _
        · cases hs
      · cases hs
    · cases hs

/-- A 'hard' operation that leaves a row as it was. -/
def Leaves (E : Env) (ops : List Oper) (f : Nat → St) (k b : Nat) : Prop := ∀ o, ops[k]? = some o → (cls E o.op).isHard = true → alone E (befores ops []) ops k = false ∧
  ∀ t a x ad, o.op = .store t a x → ev (f k).tm a = .pointer (some ad) → loadOff E ops (befores ops []) k (f k).tm ad.block = true → b ≠ ad.block

/-- Between two places, where each 'hard' operation leaves a row, it stays. -/
theorem Text.mem_range (t : Text E K ops f) {i j : Nat} (hij : i ≤ j) (hj : j ≤ ops.length) {b : Nat}
    (hn : ∀ k, i ≤ k → k < j → Leaves E ops f k b) (hb : b < (f i).m.size) : Same ((f i).m.get b) ((f j).m.get b) := by
  induction j with
  | zero => have : i = 0 := by omega
            subst this; exact Same.refl _
  | succ j ih =>
    rcases Nat.lt_or_ge i (j + 1) with hl | hl
    · have h2 := ih (by omega) (by omega) fun k h1 h2 => hn k h1 (by omega)
      have h1 := t.sizes (i := i) (j := j) (by omega) (by omega)
      obtain ⟨o, ho⟩ := get_of_lt (ops := ops) (i := j) (by omega)
      have hwf := (t.const (k := j) (by omega)).2.2
      cases hh : (cls E o.op).isHard with
      | false =>
        rcases t.quiet ho hh with e | ⟨cs, es, e⟩
        · rw [e]; exact h2
        · rw [e, Mem.get_new_ne (Nat.le_trans hwf.nb hwf.bar) (by omega)]
          exact h2
      | true =>
        obtain ⟨hal, hst⟩ := hn j (by omega) (by omega) o ho hh
        rcases stepDrawI_cases (t.step j o ho) with hs | ⟨⟨⟨t0, a, x, ad, cs, es, e1, e2, e3, e4⟩⟩, hs⟩
        · rw [hh, hal] at hs
          obtain ⟨_, _, k1, k2⟩ := stepDraw_strict t.keep hwf hs
          exact h2.trans (k2 b (Nat.lt_of_lt_of_le hb h1))
        · obtain ⟨_, _, v, _, hc⟩ := stepDraw_cases hs
          rcases hc with ⟨_, m', hd, e⟩ | ⟨_, _, e⟩
          · have hd' : doOp E K o (f j).tm (f j).m = some (v, m') := hd
            have e' : (f (j + 1)).m = m' := e
            rw [e', store_off hwf e1 e2 e3 hd' (hst t0 a x ad e1 e2 e4)]
            exact h2
          · rw [e]; exact h2
    · have : i = j + 1 := by omega
      subst this; exact Same.refl _

theorem alone_false {bs : List Nat} {i j : Nat} {oj : Oper} (hj : ops[j]? = some oj) (hne : j ≠ i) (hc : (cls E oj.op).isPure = false) (h1 : bef bs i j = false) (h2 : bef bs j i = false) : alone E bs ops i = false := by
  cases ha : alone E bs ops i with
  | false => rfl
  | true =>
    unfold alone at ha
    rw [allBelow_iff] at ha
    have := ha j (lt_of_get hj)
    have e1 : Nat.beq j i = false := by
      cases hb : Nat.beq j i with
      | false => rfl
      | true => exact absurd (Nat.eq_of_beq_eq_true hb) hne
    simp only [e1, clsAt, hj, hc, ordered, h1, h2] at this
    cases this

/-! ### Rows that the machine has and the model has not yet -/
theorem anc_new (h : Rel E ι m w) {o : AObj} {b c : Nat} (ha : Anc (m.new o) b c) (hc : c ≠ m.size) : b ≠ m.size ∧ Anc m b c := by
  have hnb : m.nb ≤ m.size := Nat.le_trans h.nb h.bar
  have hget : ∀ b, b ≠ m.size → (m.new o).get b = m.get b := fun b hb => Mem.get_new_ne hnb hb o
  have low : ∀ {c : Nat} {x : AObj}, m.get c = some x → c < m.size := fun {c x} e => by
    rcases Nat.lt_or_ge c m.size with hx | hx
    · exact hx
    · rw [h.top _ hx] at e; cases e
  induction ha with
  | @one c _ _ _ _ _ _ h' k' =>
    rw [hget _ hc] at h'
    have h1 := (h.prv _ _ _ _ _ h').1
    have h2 := low h'
    have hb : b ≠ m.size := by omega
    exact ⟨hb, .one h' (by rw [← hget _ hb]; exact k')⟩
  | @step x c _ _ _ _ _ _ h' k' r ih =>
    rw [hget _ hc] at h'
    have h1 := (h.prv _ _ _ _ _ h').1
    have h2 := low h'
    have hx : x ≠ m.size := by omega
    obtain ⟨hb, ha⟩ := ih hx
    exact ⟨hb, .step h' (by rw [← hget _ hx]; exact k') ha⟩

theorem Step.hole (hs : Step E ι0 m0 w0 ι m w) (cs : List Value) (es : Nat) : Step E ι0 m0 w0 ι (m.new (.row cs .rw es none)) w := by
  have h := hs.rel
  have hnb : m.nb ≤ m.size := Nat.le_trans h.nb h.bar
  have hne : ∀ {b t}, ι b = some t → b ≠ m.size := fun {b t} e => by have := (h.dom _ _ e).1; omega
  have hget : ∀ b, b ≠ m.size → (m.new (.row cs .rw es none)).get b = m.get b := fun b hb => Mem.get_new_ne hnb hb _
  have up : ∀ b c, Anc m b c → Anc (m.new (.row cs .rw es none)) b c := fun b c ha => ha.under h.top fun x hx => hget x (by omega)
  refine ⟨hs.sub, hs.fresh, ?_, ?_, hs.keep, hs.size, Nat.le_succ_of_le hs.msize, hs.os, hs.tape, hs.output⟩
  · constructor
    · intro b t e; have := h.dom _ _ e; exact ⟨Nat.lt_succ_of_lt this.1, this.2⟩
    · intro b t o e k; rw [hget b (hne e)] at k; exact h.obj b t o e k
    · intro b c t u ob oc e1 e2 k1 k2 hn hb hro
      rw [hget b (hne e1)] at k1; rw [hget c (hne e2)] at k2
      exact (h.sep b c t u ob oc e1 e2 k1 k2 hn hb hro).imp (up _ _) (up _ _)
    · intro b c t u e1 e2 ha hb
      rw [hget b (hne e1), hget c (hne e2)]
      exact h.rng b c t u e1 e2 (anc_new h ha (hne e2)).2 hb
    · exact h.nb
    · exact Nat.le_succ_of_le h.bar
    · intro b o hb k
      have hb' : b < m.nb := hb
      rw [hget b (by omega)] at k
      exact h.base b o hb' k
    · exact h.glob
    · intro b hb
      have hb' : m.size + 1 ≤ b := hb
      rw [hget b (by omega)]; exact h.top b (by omega)
    · intro b cs' md es' q k
      by_cases hb : b = m.size
      · subst hb
        rw [Mem.get_new_same hnb] at k
        cases k
      · rw [hget b hb] at k
        obtain ⟨hq, ha⟩ := h.prv _ _ _ _ _ k
        have hb1 : b < m.size := by
          rcases Nat.lt_or_ge b m.size with hx | hx
          · exact hx
          · rw [h.top _ hx] at k; cases k
        exact ⟨hq, fun o' e => ha o' (by rw [← hget q (by omega)]; exact e)⟩
  · rintro b hb ⟨a, t, o, e, k, hr, hu⟩
    rw [hget a (hne e)] at k
    exact hs.own b hb ⟨a, t, o, e, k, hr, hu⟩

/-- The model lays such a row at last. -/
theorem Step.late (hs : Step E ι0 m0 w0 ι m w) {t : Tgt} {cs : List Value} {es b : Nat} {md : Md} {w1 : World} (hl : Laid E ι w t cs es w1) (hb : ι b = none) (h0 : m0.size ≤ b) (h1 : b < m.size)
    (hg : m.get b = some (.row cs md es none)) (hmd : md = .rw ∨ md = .cl) : Step E ι0 m0 w0 (ι.put b t) m w1 := by
  have h := hs.rel
  obtain ⟨⟨O, hheap⟩, hos, htape, hout, hblk, hor⟩ := hl
  have hsub := Inj.put_sub (ι := ι) t hb
  have hsz : w1.heap.size = w.heap.size + 1 := by rw [hheap]; simp
  have hold : ∀ x, x < w.heap.size → w1.heap[x]? = w.heap[x]? := fun x hx => by rw [hheap, Array.getElem?_push, if_neg (by omega)]
  have hput : ∀ c u, (ι.put b t) c = some u → (c = b ∧ u = t) ∨ (c ≠ b ∧ ι c = some u) := fun c u e => by
    unfold Inj.put at e; split at e
    · rename_i hc; cases e; exact .inl ⟨hc, rfl⟩
    · rename_i hc; exact .inr ⟨hc, e⟩
  have hOR : OR E.ng (ι.put b t) w1 t (.row cs md es none) := by
    obtain ⟨p, q⟩ := hor _ hsub
    refine ⟨p, fun hn => ?_⟩
    exact q (by simp)
  refine ⟨hs.sub.trans hsub, ?_, ?_, ?_, ?_, by have := hs.size; omega, hs.msize, hos.trans hs.os, htape.trans hs.tape, hout.trans hs.output⟩
  · intro c u e n
    rcases hput c u e with ⟨rfl, _⟩ | ⟨_, e'⟩
    · exact h0
    · exact hs.fresh c u e' n
  · constructor
    · intro c u e
      rcases hput c u e with ⟨rfl, rfl⟩ | ⟨_, e'⟩
      · exact ⟨h1, by omega⟩
      · have := h.dom _ _ e'; exact ⟨this.1, by omega⟩
    · intro c u o e k
      rcases hput c u e with ⟨rfl, rfl⟩ | ⟨_, e'⟩
      · rw [hg] at k; cases k; exact hOR
      · exact (h.obj c u o e' k).move hsub (hold _ (h.dom _ _ e').2)
    · intro x y u v ox oy e1 e2 k1 k2 hn hq hro
      rcases hput x u e1 with ⟨rfl, rfl⟩ | ⟨_, e1'⟩
      · rcases hput y v e2 with ⟨rfl, rfl⟩ | ⟨_, e2'⟩
        · exact absurd rfl hn
        · have := (h.dom _ _ e2').2; omega
      · rcases hput y v e2 with ⟨rfl, rfl⟩ | ⟨_, e2'⟩
        · have := (h.dom _ _ e1').2; omega
        · exact h.sep x y u v ox oy e1' e2' k1 k2 hn hq hro
    · intro x y u v e1 e2 ha hq
      rcases hput y v e2 with ⟨rfl, rfl⟩ | ⟨_, e2'⟩
      · rcases hput x u e1 with ⟨rfl, rfl⟩ | ⟨_, e1'⟩
        · exact Nat.le_refl _
        · have := (h.dom _ _ e1').2; omega
      · rcases hput x u e1 with ⟨rfl, rfl⟩ | ⟨_, e1'⟩
        · have := (h.dom _ _ e2').2; omega
        · exact h.rng x y u v e1' e2' ha hq
    · exact h.nb
    · exact h.bar
    · exact h.base
    · intro g hgl
      obtain ⟨u, e, hu⟩ := h.glob g hgl
      exact ⟨u, hsub _ _ e, hu⟩
    · exact h.top
    · exact h.prv
  · rintro x hx ⟨c, u, o, e, k, hr, hu⟩
    rcases hput c u e with ⟨rfl, rfl⟩ | ⟨_, e'⟩
    · have := hs.size; omega
    · exact hs.own x hx ⟨c, u, o, e', k, hr, hu⟩
  · intro x hx hn
    rw [hold x (Nat.lt_of_lt_of_le hx hs.size)]
    exact hs.keep x hx hn
end
end Go.Am
