/- What the abstract machine leaves alone: below the barrier nothing changes but that rows may be claimed. -/
import Derived.Test.YtnhhppflnpfehacGreatDoorAm15
namespace Go.Am

/-- As it was, but that a row may have been claimed. -/
def Same (x y : Option AObj) : Prop := x = y ∨ ∃ cs es q, x = some (.row cs .rw es q) ∧ y = some (.row cs .cl es q)

theorem Same.refl (x : Option AObj) : Same x x := .inl rfl
theorem Same.trans {x y z : Option AObj} (h : Same x y) (k : Same y z) : Same x z := by
  rcases h with rfl | ⟨cs, es, q, rfl, rfl⟩
  · exact k
  · rcases k with rfl | ⟨cs2, es2, q2, h, rfl⟩
    · exact .inr ⟨_, _, _, rfl, rfl⟩
    · cases h

structure Wf (m : Mem) : Prop where
  nb : m.nb ≤ m.bar
  bar : m.bar ≤ m.size
  base : ∀ b o, b < m.nb → m.get b = some o → o.isRo = true

structure Keep (m m1 : Mem) : Prop where
  nb : m1.nb = m.nb
  bar : m1.bar = m.bar
  size : m.size ≤ m1.size
  same : ∀ b, b < m.bar → Same (m.get b) (m1.get b)

section
variable {E : Env} {m m1 m2 : Mem}

theorem Keep.refl (m : Mem) : Keep m m := ⟨rfl, rfl, Nat.le_refl _, fun _ _ => Same.refl _⟩
theorem Keep.trans (h : Keep m m1) (k : Keep m1 m2) : Keep m m2 :=
  ⟨k.nb.trans h.nb, k.bar.trans h.bar, Nat.le_trans h.size k.size, fun b hb => (h.same b hb).trans (k.same b (by rw [h.bar]; exact hb))⟩
theorem Wf.keep (hw : Wf m) (h : Keep m m1) : Wf m1 :=
  ⟨by rw [h.nb, h.bar]; exact hw.nb, by rw [h.bar]; exact Nat.le_trans hw.bar h.size, fun b o hb ho => by
    rw [h.nb] at hb
    rcases h.same b (Nat.lt_of_lt_of_le hb hw.nb) with e | ⟨cs, es, q, e, _⟩
    · exact hw.base b o hb (e.trans ho)
    · have := hw.base b _ hb e
      simp [AObj.isRo] at this⟩

theorem Keep.new (hw : Wf m) (o : AObj) : Keep m (m.new o) :=
  ⟨rfl, rfl, Nat.le_succ _, fun b hb => .inl (Mem.get_new_ne (Nat.le_trans hw.nb hw.bar) (by have := hw.bar; omega) o).symm⟩
theorem Keep.upd (hw : Wf m) {b : Nat} (hb : m.bar ≤ b) (o : Option AObj) : Keep m (m.upd b o) :=
  ⟨rfl, rfl, Nat.le_refl _, fun c hc => .inl (Mem.get_upd_ne (Nat.le_trans hw.nb hb) (by omega) o).symm⟩

theorem get_upd_low {b : Nat} (hb : ¬ m.nb ≤ b) (o : Option AObj) {c : Nat} (h : c ≠ b - m.nb + m.nb) : (m.upd b o).get c = m.get c := by
  simp only [Mem.get_def, Mem.upd_def]
  cases hlt : Nat.blt c m.nb with
  | true => rfl
  | false =>
    have := of_bltF hlt
    simp only [cond_false]
    rw [Tr.at_put_ne _ _ (by omega)]

theorem Keep.kill : ∀ (k : Nat) (m m1 : Mem) (p : Option Nat), Wf m → m.kill k p = some m1 → Keep m m1 := by
  intro k
  induction k with
  | zero =>
    intro m m1 p hw h
    cases p with
    | none => simp [Mem.kill] at h; subst h; exact Keep.refl _
    | some p => simp [Mem.kill] at h
  | succ k ih =>
    intro m m1 p hw h
    cases p with
    | none => simp [Mem.kill] at h; subst h; exact Keep.refl _
    | some p =>
      simp only [Mem.kill] at h
      split at h
      · cases hb : Nat.ble m.bar p with
        | false => rw [hb] at h; cases h
        | true =>
          rw [hb] at h
          have hu := Keep.upd hw (Nat.le_of_ble_eq_true hb) none
          exact hu.trans (ih _ _ _ (hw.keep hu) h)
      · cases h; exact Keep.refl _
      · cases h

theorem Keep.storeCells (hw : Wf m) {a : Addr} {vs : List Value} (h : m.storeCells a vs = some m1) : Keep m m1 := by
  unfold Mem.storeCells at h
  split at h
  · rw [Bool.cond_eq_ite] at h
    split at h
    · rename_i hc
      simp only [Bool.and_eq_true] at hc
      cases hk : m.kill m.size (by assumption) with
      | none => rw [hk] at h; cases h
      | some m2 =>
        rw [hk] at h
        cases h
        have k1 := Keep.kill _ _ _ _ hw hk
        exact k1.trans (Keep.upd (hw.keep k1) (by rw [k1.bar]; exact Nat.le_of_ble_eq_true hc.1.1) _)
    · cases h
  · cases h

theorem Keep.buildSlice (hw : Wf m) {t len : Nat} {ps : List (Nat × Value)} {v : Value} (h : buildSliceV E m t len ps = some (v, m1)) : Keep m m1 := by
  unfold buildSliceV at h
  simp only [Bool.cond_eq_ite, newRow] at h
  repeat' split at h
  all_goals cases h
  exact Keep.new hw _

theorem Keep.conv (hw : Wf m) {s d : Nat} {x v : Value} (h : convV E m s d x = some (v, m1)) : Keep m m1 := by
  unfold convV at h
  simp only [Bool.cond_eq_ite, newRow] at h
  repeat' split at h
  all_goals first | (cases h; exact Keep.refl _) | (cases h; exact Keep.new hw _) | skip
  all_goals first | (cases h; done) | skip
  simp only [Option.map_eq_some_iff] at h
  obtain ⟨l, _, e⟩ := h
  cases e
  exact Keep.refl _

theorem Keep.makeSlice (hw : Wf m) {t : Nat} {x y v : Value} (h : makeSliceV E m t x y = some (v, m1)) : Keep m m1 := by
  unfold makeSliceV at h
  simp only [newRow] at h
  repeat' split at h
  all_goals cases h
  exact Keep.new hw _

theorem Keep.range (hw : Wf m) {t : Nat} {x v : Value} (h : rangeV E m t x = some (v, m1)) : Keep m m1 := by
  unfold rangeV at h
  repeat' split at h
  all_goals cases h
  exact Keep.new hw _

theorem Keep.next (hw : Wf m) {x v : Value} {s : Bool} (h : nextV m x s = some (v, m1)) : Keep m m1 := by
  unfold nextV at h
  simp only [Bool.cond_eq_ite] at h
  repeat' split at h
  all_goals first | (cases h; exact Keep.refl _) | skip
  all_goals first | (cases h; done) | skip
  cases h
  rename_i hb
  exact Keep.upd hw (Nat.le_of_ble_eq_true hb) _

theorem Keep.claim (hw : Wf m) {b : Nat} {cs : List Value} {es : Nat} {q : Option Nat} (h : m.get b = some (.row cs .rw es q)) : Keep m (m.upd b (some (.row cs .cl es q))) := by
  have hb : m.nb ≤ b := by
    rcases Nat.lt_or_ge b m.nb with hb | hb
    · have := hw.base b _ hb h
      simp [AObj.isRo] at this
    · exact hb
  refine ⟨rfl, rfl, Nat.le_refl _, fun c hc => ?_⟩
  by_cases e : c = b
  · subst e
    rw [Mem.get_upd_same hb, h]
    exact .inr ⟨_, _, _, rfl, rfl⟩
  · rw [Mem.get_upd_ne hb e]; exact Same.refl _

theorem Keep.append (hw : Wf m) {t : Nat} {t2 : Option Nat} {s x v : Value} (h : appendV E m t t2 s x = some (v, m1)) : Keep m m1 := by
  unfold appendV at h
  simp only [Bool.cond_eq_ite, newRow] at h
  repeat' split at h
  all_goals first | (cases h; done) | (cases h; exact Keep.refl _) | (cases h; exact Keep.new hw _) | skip
  · simp only [Option.map_eq_some_iff] at h
    obtain ⟨m2, hs, e⟩ := h
    cases e
    exact Keep.storeCells hw hs
  · cases h
    rename_i hg _
    have hc := Keep.claim hw hg
    exact hc.trans (Keep.new (hw.keep hc) _)

theorem Keep.clear (hw : Wf m) {t : Nat} {x v : Value} (h : clearV E m t x = some (v, m1)) : Keep m m1 := by
  unfold clearV at h
  repeat' split at h
  all_goals first | (cases h; done) | (cases h; exact Keep.refl _) | skip
  simp only [Option.map_eq_some_iff] at h
  obtain ⟨m2, hs, e⟩ := h
  cases e
  exact Keep.storeCells hw hs
theorem Keep.copy (hw : Wf m) {t : Nat} {x y v : Value} (h : copyV E m t x y = some (v, m1)) : Keep m m1 := by
  unfold copyV at h
  repeat' split at h
  all_goals first | (cases h; done) | (cases h; exact Keep.refl _) | skip
  simp only [Option.map_eq_some_iff] at h
  obtain ⟨m2, hs, e⟩ := h
  cases e
  exact Keep.storeCells hw hs

theorem Keep.builtin (hw : Wf m) {b : Builtin} {ats : List Nat} {args : List Value} {v : Value} (h : builtinV E m b ats args = some (v, m1)) : Keep m m1 := by
  unfold builtinV at h
  split at h
  all_goals first | (simp only [Option.map_eq_some_iff] at h; obtain ⟨_, _, e⟩ := h; cases e; exact Keep.refl _) | exact Keep.append hw h | exact Keep.clear hw h | exact Keep.copy hw h | cases h

theorem Keep.mapPut (hw : Wf m) {t : Nat} {x k v : Value} (h : mapPutV E m t x k v = some m1) : Keep m m1 := by
  unfold mapPutV at h
  split at h
  case h_2 => cases h
  split at h
  case h_2 => cases h
  split at h
  case h_2 => cases h
  rename_i hc
  rw [Bool.and_eq_true] at hc
  have hb := Nat.le_of_ble_eq_true hc.2
  split at h
  · simp only [Option.map_eq_some_iff] at h
    obtain ⟨_, _, rfl⟩ := h
    exact Keep.upd hw hb _
  · cases h
    exact Keep.upd hw hb _
  · cases h

theorem Keep.aop (hw : Wf m) {ρ : Operand → Value} {o : Oper} {v : Value} (h : aop E ρ m o = some (.val v m1)) : Keep m m1 := by
  rw [aop_def] at h
  simp only [Bool.cond_eq_ite, newRow] at h
  repeat' split at h
  all_goals first | (cases h; done) | (cases h; exact Keep.refl _) | (cases h; exact Keep.new hw _) | skip
  all_goals simp only [Option.map_eq_some_iff] at h
  all_goals obtain ⟨r, hr, e⟩ := h
  all_goals first | (cases e; exact Keep.refl _) | skip
  all_goals first
    | (cases e; first | exact Keep.buildSlice hw hr | exact Keep.conv hw hr | exact Keep.makeSlice hw hr | exact Keep.range hw hr | exact Keep.next hw hr | exact Keep.builtin hw hr | exact Keep.mapPut hw hr)
    | (cases e; unfold storeV at hr; simp only [Bool.cond_eq_ite] at hr; repeat' split at hr
       all_goals first | exact Keep.storeCells hw hr | cases hr)

/-! ### Code -/
def KKeep (K : Task → Mem → Option (Value × Mem)) : Prop := ∀ t m v m1, Wf m → K t m = some (v, m1) → Keep m m1

variable {K : Task → Mem → Option (Value × Mem)}

theorem doOp_keep (hK : KKeep K) (hw : Wf m) {o : Oper} {tm : Tr Value} {v : Value} (h : doOp E K o tm m = some (v, m1)) : Keep m m1 := by
  unfold doOp at h
  split at h
  · rename_i v1 m2 ha
    cases h; exact Keep.aop hw ha
  · exact hK _ _ _ _ hw h
  · exact hK _ _ _ _ hw h
  · cases h

theorem stepOp_keep (hK : KKeep K) {ops : List Oper} {o : Oper} {s s1 : St} (hw : Wf s.m) (h : stepOp E K ops o s = some s1) : Keep s.m s1.m := by
  rw [stepOp_def] at h
  split at h
  · split at h
    · rename_i v m1 hd
      split at h
      · cases h; exact doOp_keep hK hw hd
      · cases h
    · cases h
  · split at h
    · cases h; exact Keep.refl _
    · cases h

theorem stepOp_nt {ops : List Oper} {o : Oper} {s s1 : St} (h : stepOp E K ops o s = some s1) : s1.nt = s.nt ∧ s1.df = s.df := by
  rw [stepOp_def] at h
  repeat' split at h
  all_goals first | (cases h; exact ⟨rfl, rfl⟩) | cases h

theorem runOps_keep (hK : KKeep K) {ops : List Oper} : ∀ (l : List Oper) (s s1 : St), Wf s.m → runOps E K ops l s = some s1 → Keep s.m s1.m := by
  intro l
  induction l with
  | nil => intro s s1 _ h; cases h; exact Keep.refl _
  | cons o l ih =>
    intro s s1 hw h
    unfold runOps at h
    split at h
    · rename_i s2 hs
      have k := stepOp_keep hK hw hs
      exact k.trans (ih _ _ (hw.keep k) h)
    · cases h

theorem Wf.raise (hw : Wf m) : Wf { m with bar := m.size } := ⟨Nat.le_trans hw.nb hw.bar, Nat.le_refl _, hw.base⟩

/-- What an operation under the barrier leaves: everything. -/
theorem stepDraw_strict (hK : KKeep K) {ops : List Oper} {o : Oper} {s s1 : St} (hw : Wf s.m) (h : stepDraw E K ops false o s = some s1) :
    s1.m.nb = s.m.nb ∧ s1.m.bar = s.m.bar ∧ s.m.size ≤ s1.m.size ∧ ∀ b, b < s.m.size → Same (s.m.get b) (s1.m.get b) := by
  unfold stepDraw at h
  simp only at h
  split at h
  · rename_i s2 hs
    cases h
    have k := stepOp_keep hK (s := { s with m := { s.m with bar := s.m.size } }) hw.raise hs
    exact ⟨k.nb, rfl, k.size, k.same⟩
  · cases h

theorem stepDraw_keep (hK : KKeep K) {ops : List Oper} {f : Bool} {o : Oper} {s s1 : St} (hw : Wf s.m) (h : stepDraw E K ops f o s = some s1) : Keep s.m s1.m := by
  cases f with
  | true => exact stepOp_keep hK hw h
  | false =>
    obtain ⟨h1, h2, h3, h4⟩ := stepDraw_strict hK hw h
    exact ⟨h1, h2, h3, fun b hb => h4 b (Nat.lt_of_lt_of_le hb hw.bar)⟩

/-- What is known of a store that none of the unordered loads meets. -/
structure Stored (E : Env) (ops : List Oper) (bs : List Nat) (i : Nat) (o : Oper) (s : St) : Prop where
  ex : ∃ t a x ad cs es, o.op = .store t a x ∧ ev s.tm a = .pointer (some ad) ∧ s.m.get ad.block = some (.row cs .rw es none) ∧ loadOff E ops bs i s.tm ad.block = true

theorem stepDrawI_cases {ops : List Oper} {bs : List Nat} {i : Nat} {o : Oper} {s s1 : St} (h : stepDrawI E K ops bs i o s = some s1) :
    stepDraw E K ops (!(cls E o.op).isHard || alone E bs ops i) o s = some s1 ∨ (Stored E ops bs i o s ∧ stepDraw E K ops true o s = some s1) := by
  unfold stepDrawI at h
  split at h
  · rename_i s2 hs
    cases h; exact .inl hs
  · right
    unfold stepStore at h
    split at h
    · rename_i t a x hop
      split at h
      · rename_i ad hev
        split at h
        · rename_i cs es hg
          split at h
          · rename_i hl
            exact ⟨⟨t, a, x, ad, cs, es, hop, hev, hg, hl⟩, h⟩
          · cases h
        · cases h
      · cases h
    · cases h
theorem stepDrawI_of {ops : List Oper} {bs : List Nat} {i : Nat} {o : Oper} {s s1 : St} (h : stepDraw E K ops (!(cls E o.op).isHard || alone E bs ops i) o s = some s1) : stepDrawI E K ops bs i o s = some s1 := by
  unfold stepDrawI; rw [h]
theorem stepDrawI_keep (hK : KKeep K) {ops : List Oper} {bs : List Nat} {i : Nat} {o : Oper} {s s1 : St} (hw : Wf s.m) (h : stepDrawI E K ops bs i o s = some s1) : Keep s.m s1.m := by
  rcases stepDrawI_cases h with h | ⟨_, h⟩
  · exact stepDraw_keep hK hw h
  · exact stepDraw_keep hK hw h

theorem runDraw_keep (hK : KKeep K) {ops : List Oper} {bs : List Nat} : ∀ (l : List Oper) (i : Nat) (s s1 : St), Wf s.m → runDraw E K ops bs i l s = some s1 → Keep s.m s1.m := by
  intro l
  induction l with
  | nil => intro i s s1 _ h; cases h; exact Keep.refl _
  | cons o l ih =>
    intro i s s1 hw h
    unfold runDraw at h
    split at h
    · rename_i s2 hs
      have k := stepDrawI_keep hK hw hs
      exact k.trans (ih _ _ _ (hw.keep k) h)
    · cases h

theorem drawn_keep (hK : KKeep K) {ops : List Oper} {s s1 : St} (hw : Wf s.m) (h : drawn E K ops s = some s1) : Keep s.m s1.m := by
  unfold drawn at h
  split at h
  · split at h
    · exact runDraw_keep hK _ _ _ _ hw h
    · cases h
  · cases h

theorem loopRun_keep {ex : Code → St → Option (AExit × St)} (hx : ∀ c s e s1, Wf s.m → ex c s = some (e, s1) → Keep s.m s1.m) {b : Code} : ∀ (n : Nat) (s : St) (e : AExit) (s1 : St), Wf s.m → loopRun ex b n s = some (e, s1) → Keep s.m s1.m := by
  intro n
  induction n with
  | zero => intro s e s1 _ h; cases h
  | succ n ih =>
    intro s e s1 hw h
    unfold loopRun at h
    split at h
    · rename_i s2 hs
      have k := hx _ _ _ _ hw hs
      exact k.trans (ih _ _ _ (hw.keep k) h)
    · exact hx _ _ _ _ hw h

theorem scopeRun_keep {ex : Code → St → Option (AExit × St)} (hx : ∀ c s e s1, Wf s.m → ex c s = some (e, s1) → Keep s.m s1.m) {b : Code} : ∀ (n : Nat) (c : Code) (s : St) (e : AExit) (s1 : St), Wf s.m → scopeRun ex b n c s = some (e, s1) → Keep s.m s1.m := by
  intro n
  induction n with
  | zero => intro c s e s1 _ h; cases h
  | succ n ih =>
    intro c s e s1 hw h
    unfold scopeRun at h
    split at h
    · rename_i l s2 hs
      have k := hx _ _ _ _ hw hs
      split at h
      · exact k.trans (ih _ _ _ _ (hw.keep k) h)
      · cases h; exact k
    · exact hx _ _ _ _ hw h

theorem endLoopV_keep (hw : Wf m) {L : Nat} {p : Option Code} (h : endLoopV m L = some (p, m1)) : Keep m m1 := by
  unfold endLoopV at h
  simp only [Bool.cond_eq_ite] at h
  repeat' split at h
  all_goals first | (cases h; done) | skip
  all_goals
    cases h
    exact Keep.upd hw (Nat.le_of_ble_eq_true (by assumption)) _

theorem enterLoopV_keep {s : St} (hw : Wf s.m) {round : Option Nat} {ps : List Tmp} {asg body : Code} {L : Nat} {marks : List Nat} (h : enterLoopV s round ps asg body = some (L, marks, m1)) : Keep s.m m1 := by
  unfold enterLoopV at h
  repeat' split at h
  all_goals first | (cases h; done) | skip
  · cases h
    have k := Keep.new hw .mark
    exact k.trans (Keep.new (hw.keep k) _)
  · cases h
    exact Keep.new hw _

theorem exec_keep (hK : KKeep K) {round : Option Nat} : ∀ (k : Nat) (c : Code) (s : St) (e : AExit) (s1 : St), Wf s.m → exec E K round k c s = some (e, s1) → Keep s.m s1.m := by
  intro k
  induction k with
  | zero => intro c s e s1 _ h; cases h
  | succ k ih =>
    intro c s e s1 hw h
    cases c with
    | skip => simp [exec_succ] at h; rw [h.2]; exact Keep.refl _
    | label l => simp [exec_succ] at h; rw [h.2]; exact Keep.refl _
    | region id ops draw =>
      simp only [exec_succ] at h
      repeat' split at h
      all_goals first | (cases h; done) | skip
      · rename_i hr
        cases h; exact runOps_keep hK _ _ _ hw hr
      · rename_i hr
        cases h; exact drawn_keep hK hw hr
    | seq a b =>
      simp only [exec_succ] at h
      split at h
      · rename_i s2 hs
        have k := ih _ _ _ _ hw hs
        exact k.trans (ih _ _ _ _ (hw.keep k) h)
      · exact ih _ _ _ _ hw h
    | cond c a b =>
      simp only [exec_succ] at h
      split at h
      · exact ih _ _ _ _ hw h
      · exact ih _ _ _ _ hw h
      · cases h
    | block id b =>
      simp only [exec_succ] at h
      split at h
      · rename_i hs
        cases h
        exact ih _ _ _ _ hw hs
      · exact ih _ _ _ _ hw h
    | loop b => exact loopRun_keep (fun c s e s1 => ih c s e s1) _ _ _ _ hw h
    | scope b => exact scopeRun_keep (fun c s e s1 => ih c s e s1) _ _ _ _ _ hw h
    | exit i => simp [exec_succ] at h; rw [h.2]; exact Keep.refl _
    | goto i => simp [exec_succ] at h; rw [h.2]; exact Keep.refl _
    | ret => simp [exec_succ] at h; rw [h.2]; exact Keep.refl _
    | refuse _ => simp [exec_succ] at h
    | rangeFunc f ps asg body =>
      simp only [exec_succ] at h
      split at h
      · split at h
        · cases h
        split at h
        · rename_i he
          have k1 := enterLoopV_keep hw he
          split at h
          · rename_i hc
            have k2 := hK _ _ _ _ (hw.keep k1) hc
            have k12 := k1.trans k2
            split at h
            · rename_i hd
              cases h
              exact k12.trans (endLoopV_keep (hw.keep k12) hd)
            · rename_i hd
              split at h
              · cases h; exact k12.trans (endLoopV_keep (hw.keep k12) hd)
              · cases h
            · cases h
          · cases h
        · cases h
      · cases h

theorem takeMarks_keep : ∀ (l : List Nat) (m m1 : Mem), Wf m → takeMarks l m = some m1 → Keep m m1 := by
  intro l
  induction l with
  | nil => intro m m1 _ h; cases h; exact Keep.refl _
  | cons D l ih =>
    intro m m1 hw h
    unfold takeMarks at h
    simp only [Bool.cond_eq_ite] at h
    split at h
    · split at h
      · rename_i hb
        have k := Keep.upd hw (Nat.le_of_ble_eq_true hb) none
        exact k.trans (ih _ _ (hw.keep k) h)
      · cases h
    · cases h

theorem callBody_keep (hK : KKeep K) {j : Nat} {fn : Fun} {args : List Value} {v : Value} (hw : Wf m) (h : callBody E K j fn args m = some (v, m1)) : Keep m m1 := by
  unfold callBody at h
  simp only [Bool.cond_eq_ite] at h
  split at h
  · split at h
    · rename_i e s hx
      have k := exec_keep hK _ _ (s := { tm := argsT 0 args .nil, nt := fn.ntmps, df := [], m := m }) _ _ hw hx
      split at h
      · cases h
      · cases h
      · split at h
        · rename_i m2 ht
          have k2 := takeMarks_keep _ _ _ (hw.keep k) ht
          split at h
          · cases h; exact k.trans k2
          · cases h
        · cases h
    · cases h
  · cases h

theorem roundBody_keep (hK : KKeep K) {j l : Nat} {args : List Value} {v : Value} (hw : Wf m) (h : roundBody E K j l args m = some (v, m1)) : Keep m m1 := by
  unfold roundBody at h
  simp only [Bool.cond_eq_ite] at h
  split at h
  · split at h
    · split at h
      · rename_i s1 hx
        have k1 := exec_keep hK _ _ _ _ _ (by exact hw) hx
        split at h
        · split at h
          · rename_i hb
            have k2 := Keep.upd (hw.keep k1) (Nat.le_of_ble_eq_true hb)
            split at h
            · rename_i e s2 hy
              have k3 := exec_keep hK _ _ _ _ _ (by exact (hw.keep k1).keep (k2 _)) hy
              have k123 := (k1.trans (k2 _)).trans k3
              split at h
              · split at h
                · rename_i hb2
                  cases h
                  exact k123.trans (Keep.upd (hw.keep k123) (Nat.le_of_ble_eq_true hb2) _)
                · cases h
              · cases h
            · cases h
          · cases h
        · cases h
      · cases h
    · cases h
  · cases h

def ExtKeep (E : Env) : Prop := ∀ f g args m v m1, E.ext f = some g → Wf m → g args m = some (v, m1) → Keep m m1

theorem run_keep (hX : ExtKeep E) {j : Nat} : ∀ k, KKeep (run E j k) := by
  intro k
  induction k with
  | zero => intro t m v m1 _ h; cases h
  | succ k ih =>
    intro t m v m1 hw h
    cases t with
    | call f args =>
      simp only [run] at h
      split at h
      · rename_i g hg
        exact hX f g args m v m1 hg hw h
      · split at h
        · exact callBody_keep ih hw h
        · cases h
    | round l args => exact roundBody_keep ih hw h
end
end Go.Am
