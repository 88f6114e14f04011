/- Regions whose order of evaluation is open: the text's order serves for all. Part 1: orders, places, reads. -/
import Derived.Test.YtnhhppflnpfehacGreatDoorAm16
import Derived.Test.YtnhhppflnpfehacGreatDoorAmF
namespace Go.Am
open Go.RowKit

theorem allBelow_iff {n : Nat} {p : Nat → Bool} : allBelow n p = true ↔ ∀ i, i < n → p i = true := by
  induction n with
  | zero => simp [allBelow]
  | succ n ih =>
    simp only [allBelow, Bool.and_eq_true, ih]
    constructor
    · rintro ⟨h1, h2⟩ i hi
      rcases Nat.lt_or_ge i n with h | h
      · exact h1 i h
      · have : i = n := by omega
        subst this; exact h2
    · intro h
      exact ⟨fun i hi => h i (by omega), h n (by omega)⟩

/-! ### Who is bound to come after whom -/
inductive Reach (ops : List Oper) : Nat → Nat → Prop where
  | edge {j : Nat} {o : Oper} {e : Edge} (h : ops[j]? = some o) (he : e ∈ o.after.toList) (hb : Region.binds .any e = true) : Reach ops j e.on
  | step {j i : Nat} {o : Oper} {e : Edge} (h : ops[j]? = some o) (he : e ∈ o.after.toList) (hb : Region.binds .any e = true) (r : Reach ops e.on i) : Reach ops j i

theorem edgeBits_spec {acc : List Nat} : ∀ {es : List Edge} {i : Nat}, (edgeBits acc es).testBit i = true → ∃ e, e ∈ es ∧ Region.binds .any e = true ∧ (i = e.on ∨ (acc.getD e.on 0).testBit i = true)
  | [], i, h => by simp [edgeBits] at h
  | e :: r, i, h => by
    unfold edgeBits at h
    split at h
    · rename_i hb
      simp only [Nat.testBit_or, Bool.or_eq_true] at h
      rcases h with h | h | h
      · rw [Nat.testBit_two_pow] at h
        exact ⟨e, List.mem_cons_self, hb, .inl (of_decide_eq_true h).symm⟩
      · exact ⟨e, List.mem_cons_self, hb, .inr h⟩
      · obtain ⟨e', h1, h2, h3⟩ := edgeBits_spec h
        exact ⟨e', List.mem_cons_of_mem _ h1, h2, h3⟩
    · obtain ⟨e', h1, h2, h3⟩ := edgeBits_spec h
      exact ⟨e', List.mem_cons_of_mem _ h1, h2, h3⟩

theorem befores_spec (ops : List Oper) : ∀ (r : List Oper) (acc : List Nat), ops.drop acc.length = r → (∀ j i, (acc.getD j 0).testBit i = true → Reach ops j i) →
    ∀ j i, ((befores r acc).getD j 0).testBit i = true → Reach ops j i := by
  intro r
  induction r with
  | nil => intro acc _ h; exact h
  | cons o r ih =>
    intro acc hd h
    have ho : ops[acc.length]? = some o := by
      have : (ops.drop acc.length)[0]? = some o := by rw [hd]; rfl
      simpa using this
    refine ih _ ?_ ?_
    · have : (ops.drop acc.length).drop 1 = r := by rw [hd]; rfl
      rw [List.drop_drop] at this
      simpa using this
    · intro j i hj
      rcases Nat.lt_trichotomy j acc.length with hlt | heq | hgt
      · refine h j i ?_
        rw [List.getD_eq_getElem?_getD, List.getElem?_append_left hlt] at hj
        rw [List.getD_eq_getElem?_getD]; exact hj
      · subst heq
        have e1 : (acc ++ [edgeBits acc o.after.toList]).getD acc.length 0 = edgeBits acc o.after.toList := by
          simp [List.getD_eq_getElem?_getD]
        rw [e1] at hj
        obtain ⟨e, he, hb, hc⟩ := edgeBits_spec hj
        rcases hc with rfl | hc
        · exact .edge ho he hb
        · exact .step ho he hb (h _ _ hc)
      · have e1 : (acc ++ [edgeBits acc o.after.toList]).getD j 0 = 0 := by
          rw [List.getD_eq_getElem?_getD, List.getElem?_eq_none (by simp; omega)]; rfl
        rw [e1] at hj
        simp at hj

theorem bef_reach {ops : List Oper} {j i : Nat} (h : bef (befores ops []) j i = true) : Reach ops j i :=
  befores_spec ops ops [] rfl (fun j i h => by simp at h) j i h

theorem edgesBack_spec {i : Nat} : ∀ {es : List Edge}, edgesBack i es = true → ∀ e ∈ es, Region.binds .any e = true → e.on < i
  | [], _, e, h, _ => by cases h
  | x :: r, h, e, he, hb => by
    simp only [edgesBack, Bool.and_eq_true, Bool.or_eq_true, Bool.not_eq_true'] at h
    rcases List.mem_cons.1 he with rfl | he
    · rcases h.1 with h1 | h1
      · rw [hb] at h1; cases h1
      · simpa using h1
    · exact edgesBack_spec h.2 e he hb

/-- What the check says. -/
structure DrawS (E : Env) (ops : List Oper) : Prop where
  back : ∀ {j o}, ops[j]? = some o → ∀ e ∈ o.after.toList, Region.binds .any e = true → e.on < j
  guard : ∀ {j o}, ops[j]? = some o → guardBack (befores ops []) j o = true
  pair : ∀ {i j x y}, i < j → ops[i]? = some x → ops[j]? = some y → pairOk E (bef (befores ops []) j i) x y = true

theorem drawOk_spec {E : Env} {ops : List Oper} (h : drawOk E (befores ops []) ops = true) : DrawS E ops := by
  unfold drawOk at h
  rw [allBelow_iff] at h
  have key : ∀ {j : Nat} {y : Oper}, ops[j]? = some y → (edgesBack j y.after.toList = true ∧ guardBack (befores ops []) j y = true) ∧ ∀ i, i < j → ∀ x, ops[i]? = some x → pairOk E (bef (befores ops []) j i) x y = true := by
    intro j y hy
    have hj : j < ops.length := by
      rcases Nat.lt_or_ge j ops.length with h' | h'
      · exact h'
      · rw [List.getElem?_eq_none h'] at hy; cases hy
    have := h j hj
    rw [hy] at this
    simp only [Bool.and_eq_true, allBelow_iff] at this
    refine ⟨this.1, fun i hi x hx => ?_⟩
    have h2 := this.2 i hi
    rw [hx] at h2
    exact h2
  exact ⟨fun hj e he hb => edgesBack_spec (key hj).1.1 e he hb, fun hj => (key hj).1.2, fun hij hx hy => (key hy).2 _ hij _ hx⟩

theorem DrawS.lt {E : Env} {ops : List Oper} (h : DrawS E ops) {j i : Nat} (hr : Reach ops j i) : i < j := by
  induction hr with
  | edge hj he hb => exact h.back hj _ he hb
  | step hj he hb _ ih => exact Nat.lt_trans ih (h.back hj _ he hb)

/-- Done: a set of operations closed against the orders. -/
def Down (ops : List Oper) (d : Nat → Prop) : Prop := ∀ j o, ops[j]? = some o → d j → ∀ e ∈ o.after.toList, Region.binds .any e = true → d e.on

theorem Down.reach {ops : List Oper} {d : Nat → Prop} (hd : Down ops d) {j i : Nat} (hr : Reach ops j i) (hj : d j) : d i := by
  induction hr with
  | edge h he hb => exact hd _ _ h hj _ he hb
  | step h he hb _ ih => exact ih (hd _ _ h hj _ he hb)

theorem Down.reach' {ops : List Oper} {d : Nat → Prop} (hd : Down ops d) {j i : Nat} {o : Oper} (ho : ops[j]? = some o) (hj : ∀ e ∈ o.after.toList, Region.binds .any e = true → d e.on) (hr : Reach ops j i) : d i := by
  cases hr with
  | edge h he hb => rw [ho] at h; cases h; exact hj _ he hb
  | step h he hb r => rw [ho] at h; cases h; exact hd.reach r (hj _ he hb)

/-! ### Reads -/
theorem memN_iff {d : Nat} {l : List Nat} : memN d l = true ↔ d ∈ l := by
  induction l with
  | nil => simp [memN]
  | cons x r ih => simp [memN, ih]

theorem tmpsOf_mem {t : Nat} : ∀ {l : List Operand}, Operand.tmp t ∈ l → t ∈ tmpsOf l
  | [], h => by cases h
  | x :: r, h => by
    rcases List.mem_cons.1 h with rfl | h
    · exact List.mem_cons_self
    · have := tmpsOf_mem h
      cases x <;> simp [tmpsOf, this]

theorem ev_congr {o : Oper} {tm tm' : Tr Value} (h : ∀ t, t ∈ readsOf o → tm.at t = tm'.at t) : ∀ x ∈ o.op.operands, ev tm x = ev tm' x := by
  intro x hx
  cases x with
  | tmp t => simp only [ev, h t (tmpsOf_mem (by simpa using hx))]
  | const v => rfl
  | global g => rfl
  | func f => rfl

theorem map_congr' {ρ ρ' : Operand → Value} {l : List Operand} (h : ∀ x ∈ l, ρ x = ρ' x) : l.map ρ = l.map ρ' := List.map_congr_left h
theorem parts_congr {ρ ρ' : Operand → Value} {l : List (Nat × Operand)} (h : ∀ x ∈ l.map (·.2), ρ x = ρ' x) : l.map (fun p => (p.1, ρ p.2)) = l.map (fun p => (p.1, ρ' p.2)) :=
  List.map_congr_left fun p hp => by rw [h p.2 (List.mem_map_of_mem hp)]
theorem opt_congr {ρ ρ' : Operand → Value} {l : Option Operand} (h : ∀ x, l = some x → ρ x = ρ' x) : l.map ρ = l.map ρ' := by
  cases l with
  | none => rfl
  | some x => simp [h x rfl]

theorem aop_congr {E : Env} {ρ ρ' : Operand → Value} {m : Mem} {o : Oper} (h : ∀ x ∈ o.op.operands, ρ x = ρ' x) : aop E ρ m o = aop E ρ' m o := by
  obtain ⟨dst, op, ty, pos, after, guard⟩ := o
  simp only at h
  rw [aop_def, aop_def]
  cases op with
  | build t ps =>
    have := parts_congr (ρ := ρ) (ρ' := ρ') (l := ps.toList) (fun x hx => h x (by simpa [Op.operands] using hx))
    simp only [this]
  | buildSlice t n ps =>
    have := parts_congr (ρ := ρ) (ρ' := ρ') (l := ps.toList) (fun x hx => h x (by simpa [Op.operands] using hx))
    simp only [this]
  | makeFunc fn a b =>
    have h1 := map_congr' (ρ := ρ) (ρ' := ρ') (l := a.toList) (fun x hx => h x (by simp only [Op.operands, Array.mem_append]; exact .inl (by simpa using hx)))
    have h2 := map_congr' (ρ := ρ) (ρ' := ρ') (l := b.toList) (fun x hx => h x (by simp only [Op.operands, Array.mem_append]; exact .inr (by simpa using hx)))
    simp only [h1, h2]
  | slice t x l hi mx =>
    have h0 : ρ x = ρ' x := h x (by simp [Op.operands])
    have h1 := opt_congr (ρ := ρ) (ρ' := ρ') (l := l) (fun y hy => h y (by subst hy; simp [Op.operands]))
    have h2 := opt_congr (ρ := ρ) (ρ' := ρ') (l := hi) (fun y hy => h y (by subst hy; simp [Op.operands]))
    have h3 := opt_congr (ρ := ρ) (ρ' := ρ') (l := mx) (fun y hy => h y (by subst hy; simp [Op.operands]))
    simp only [h0, h1, h2, h3]
  | call c =>
    have h1 := map_congr' (ρ := ρ) (ρ' := ρ') (l := c.args.toList) (fun x hx => h x (by simp only [Op.operands, Call.operands, Array.mem_append]; exact .inr (by simpa using hx)))
    cases hc : c.callee with
    | value f =>
      have h2 : ρ f = ρ' f := h f (by simp [Op.operands, Call.operands, hc])
      simp only [hc, h1, h2]
    | builtin b => simp only [hc, h1]
    | _ => simp only [hc]
  | move x => have h0 := h x (by simp [Op.operands]); simp only [h0]
  | assign x => have h0 := h x (by simp [Op.operands]); simp only [h0]
  | box e x => have h0 := h x (by simp [Op.operands]); simp only [h0]
  | load t x => have h0 := h x (by simp [Op.operands]); simp only [h0]
  | nilCheck x => have h0 := h x (by simp [Op.operands]); simp only [h0]
  | unOp p k x => have h0 := h x (by simp [Op.operands]); simp only [h0]
  | convert s d x => have h0 := h x (by simp [Op.operands]); simp only [h0]
  | makeInterface t x => have h0 := h x (by simp [Op.operands]); simp only [h0]
  | fieldAddr s x f => have h0 := h x (by simp [Op.operands]); simp only [h0]
  | field s x f => have h0 := h x (by simp [Op.operands]); simp only [h0]
  | range t x => have h0 := h x (by simp [Op.operands]); simp only [h0]
  | next x s => have h0 := h x (by simp [Op.operands]); simp only [h0]
  | extract x i => have h0 := h x (by simp [Op.operands]); simp only [h0]
  | pick c a b => have h0 := h c (by simp [Op.operands]); have h1 := h a (by simp [Op.operands]); have h2 := h b (by simp [Op.operands]); simp only [h0, h1, h2]
  | store t a v => have h0 := h a (by simp [Op.operands]); have h1 := h v (by simp [Op.operands]); simp only [h0, h1]
  | binOp p t a v k => have h0 := h a (by simp [Op.operands]); have h1 := h v (by simp [Op.operands]); simp only [h0, h1]
  | makeSlice t a v => have h0 := h a (by simp [Op.operands]); have h1 := h v (by simp [Op.operands]); simp only [h0, h1]
  | indexAddr t a v => have h0 := h a (by simp [Op.operands]); have h1 := h v (by simp [Op.operands]); simp only [h0, h1]
  | index t a v => have h0 := h a (by simp [Op.operands]); have h1 := h v (by simp [Op.operands]); simp only [h0, h1]
  | lookup t a v ok => have h0 := h a (by simp [Op.operands]); have h1 := h v (by simp [Op.operands]); simp only [h0, h1]
  | mapUpdate t a k v => have h0 := h a (by simp [Op.operands]); have h1 := h k (by simp [Op.operands]); have h2 := h v (by simp [Op.operands]); simp only [h0, h1, h2]
  | insert t a k v => have h0 := h a (by simp [Op.operands]); have h1 := h k (by simp [Op.operands]); have h2 := h v (by simp [Op.operands]); simp only [h0, h1, h2]
  | makeMap t r =>
    cases r with
    | none => rfl
    | some x => have h0 := h x (by simp [Op.operands]); simp only [h0]
  | _ => rfl

/-! ### Operations that change nothing -/
def SameE (x y : Option AObj) : Prop := Same x y ∨ Same y x

theorem SameE.row {x y : Option AObj} (h : SameE x y) {cs : List Value} {md : Md} {es : Nat} {q : Option Nat} (hx : x = some (.row cs md es q)) : ∃ md' , y = some (.row cs md' es q) := by
  rcases h with (rfl | ⟨cs', es', q', h1, h2⟩) | (rfl | ⟨cs', es', q', h1, h2⟩)
  · exact ⟨_, hx⟩
  · rw [h1] at hx; cases hx; exact ⟨_, h2⟩
  · exact ⟨_, hx⟩
  · rw [h2] at hx; cases hx; exact ⟨_, h1⟩
theorem SameE.map {x y : Option AObj} (h : SameE x y) {es : List MapEntry} {c : Nat} (hx : x = some (.map es c)) : y = some (.map es c) := by
  rcases h with (rfl | ⟨cs', es', q', h1, h2⟩) | (rfl | ⟨cs', es', q', h1, h2⟩)
  · exact hx
  · rw [h1] at hx; cases hx
  · exact hx
  · rw [h2] at hx; cases hx

theorem cells_same {m m' : Mem} {a : Addr} {n : Nat} {cs : List Value} (h : SameE (m.get a.block) (m'.get a.block)) (hc : m.cells a n = some cs) : m'.cells a n = some cs := by
  unfold Mem.cells at hc ⊢
  split at hc
  · rename_i hg
    obtain ⟨md', e⟩ := h.row hg
    rw [e]; exact hc
  · cases hc
theorem cell_same {m m' : Mem} {a : Addr} {v : Value} (h : SameE (m.get a.block) (m'.get a.block)) (hc : m.cell a = some v) : m'.cell a = some v := by
  unfold Mem.cell at hc ⊢
  split at hc
  · rename_i hg
    obtain ⟨md', e⟩ := h.row hg
    rw [e]; exact hc
  · cases hc

theorem lenV_same {E : Env} {m m' : Mem} {t : Nat} {x v : Value} (h : lenV E m t x = some v) (hs : ∀ b, x = .map (some b) → (∃ o, m.get b = some o) → SameE (m.get b) (m'.get b)) : lenV E m' t x = some v := by
  have key : ∀ y : Ty, E.ty t = some y → (∀ r, x ≠ .map (some r)) → lenV E m t x = lenV E m' t x := by
    intro y hy hx
    unfold lenV
    simp only [hy]
    obtain ⟨d, sz, by', z, c⟩ := y
    cases x with
    | map r => cases r with
      | none => cases d <;> rfl
      | some r => exact absurd rfl (hx r)
    | _ => cases d <;> rfl
  cases hy : E.ty t with
  | none => unfold lenV at h; rw [hy] at h; cases h
  | some y =>
    by_cases hx : ∃ r, x = .map (some r)
    · obtain ⟨r, rfl⟩ := hx
      obtain ⟨d, sz, by', z, c⟩ := y
      unfold lenV at h ⊢
      rw [hy] at h ⊢
      cases d
      case map k e =>
        simp only at h ⊢
        split at h
        · rename_i hg
          rw [(hs r rfl ⟨_, hg⟩).map hg]
          exact h
        · cases h
      all_goals first | exact h | cases h
    · rw [← key y hy fun r e => hx ⟨r, e⟩]; exact h

/-- The block that a 'soft' operation looks at. -/
def touches (ρ : Operand → Value) (o : Oper) : Option Nat :=
  match o.op with
  | .load _ x => match ρ x with | .pointer (some a) => some a.block | _ => none
  | .call c => match c.args.toList.map ρ with
    | .map (some b) :: _ => some b
    | _ => none
  | .convert _ _ x => match ρ x with
    | .slice (some a) n _ => bif Nat.beq n 0 then none else some a.block
    | _ => none
  | _ => none

theorem aop_pure {E : Env} {ρ : Operand → Value} {m m1 : Mem} {o : Oper} {r : ANext} (hp : (cls E o.op).isPure = true) (h : aop E ρ m o = some r) : ∃ v, r = .val v m ∧ aop E ρ m1 o = some (.val v m1) := by
  obtain ⟨dst, op, ty, pos, after, guard⟩ := o
  simp only at hp
  rw [aop_def] at h ⊢
  cases op
  case binOp p t x y k =>
    simp only at h ⊢
    simp only [Bool.cond_eq_ite] at h ⊢
    cases p <;> simp only at h ⊢ <;> (repeat' split at h) <;>
      first
        | (simp only [Option.map_eq_some_iff] at h; obtain ⟨v, hv, e⟩ := h; cases e; refine ⟨v, rfl, ?_⟩; simp_all)
        | cases h
  case call c => simp only [cls] at hp; split at hp <;> simp [Cls.isPure] at hp
  case convert s d x => simp only [cls, clsConv] at hp; repeat' split at hp
                        all_goals simp [Cls.isPure] at hp
  all_goals first | (simp [cls, Cls.isPure] at hp; done) | skip
  all_goals simp only at h ⊢
  all_goals (repeat' split at h)
  all_goals first
    | (simp only [Option.map_eq_some_iff] at h; obtain ⟨v, hv, e⟩ := h; cases e; refine ⟨v, rfl, ?_⟩; simp_all; done)
    | (cases h; done)
    | (cases h; refine ⟨_, rfl, ?_⟩; simp_all; done)

theorem aop_soft {E : Env} {ρ : Operand → Value} {m m1 : Mem} {o : Oper} {r : ANext} (hp : (cls E o.op).isHard = false) (hf : (cls E o.op).isFresh = false) (h : aop E ρ m o = some r) :
    ∃ v, r = .val v m ∧ ((∀ b, touches ρ o = some b → (∃ x, m.get b = some x) → SameE (m.get b) (m1.get b)) → aop E ρ m1 o = some (.val v m1)) := by
  cases hq : (cls E o.op).isPure with
  | true => obtain ⟨v, h1, h2⟩ := aop_pure (m1 := m1) hq h; exact ⟨v, h1, fun _ => h2⟩
  | false =>
    obtain ⟨dst, op, ty, pos, after, guard⟩ := o
    simp only at hp hq hf
    rw [aop_def] at h ⊢
    cases op
    case load t x =>
      simp only at h ⊢
      split at h
      · rename_i a ha
        simp only [Option.map_eq_some_iff] at h
        obtain ⟨v, hv, e⟩ := h
        cases e
        refine ⟨v, rfl, fun hs => ?_⟩
        have hs := hs a.block (by simp [touches, ha])
        have : loadV E m1 t a = some v := by
          unfold loadV at hv ⊢
          split at hv
          · split at hv
            · simp only [Option.map_eq_some_iff] at hv ⊢
              obtain ⟨cs, hc, e⟩ := hv
              refine ⟨cs, cells_same (hs ?_) hc, e⟩
              unfold Mem.cells at hc; split at hc
              · rename_i hg; exact ⟨_, hg⟩
              · cases hc
            · refine cell_same (hs ?_) hv
              unfold Mem.cell at hv; split at hv
              · rename_i hg; exact ⟨_, hg⟩
              · cases hv
          · cases hv
        simp [this]
      · cases h
    case call c =>
      simp only at h ⊢
      simp only [cls] at hp
      cases hc : c.callee with
      | builtin b =>
        rw [hc] at hp h
        simp only [Option.map_eq_some_iff] at h
        obtain ⟨⟨v, m2⟩, hb, e⟩ := h
        unfold builtinV at hb
        split at hb
        · rename_i t tl x xl hat hx
          simp only [Option.map_eq_some_iff] at hb
          obtain ⟨v2, hv, e2⟩ := hb
          cases e2; cases e
          refine ⟨v, rfl, fun hs => ?_⟩
          have hl := lenV_same (m' := m1) hv fun b e hx' => hs b (by simp [touches, hx, e]) hx'
          simp [builtinV, hat, hx, hl]
        · simp only [Option.map_eq_some_iff] at hb
          obtain ⟨v2, hv, e2⟩ := hb
          cases e2; cases e
          refine ⟨v, rfl, fun hs => ?_⟩
          simp [builtinV, *]
        · simp only [Option.map_eq_some_iff] at hb
          obtain ⟨v2, hv, e2⟩ := hb
          cases e2; cases e
          refine ⟨v, rfl, fun hs => ?_⟩
          simp [builtinV, *]
        · simp only [Option.map_eq_some_iff] at hb
          obtain ⟨v2, hv, e2⟩ := hb
          cases e2; cases e
          refine ⟨v, rfl, fun hs => ?_⟩
          simp [builtinV, *]
        · simp [Cls.isHard] at hp
        · simp [Cls.isHard] at hp
        · simp [Cls.isHard] at hp
        · cases hb
      | _ => rw [hc] at hp; simp [Cls.isHard] at hp
    case convert s d x =>
      simp only at h ⊢
      simp only [Option.map_eq_some_iff] at h
      obtain ⟨⟨v, m2⟩, hb, e⟩ := h
      cases e
      simp only [cls, clsConv] at hp hf
      unfold convV at hb
      split at hb
      case h_2 => cases hb
      rename_i s' d' hs hd
      rw [hd] at hp hf
      simp only at hp hf
      split at hb
      · rename_i hdd hx
        cases hb
        refine ⟨_, rfl, fun _ => ?_⟩
        simp [convV, hs, hd, hdd, hx]
      · rename_i hdd hx
        cases hb
        refine ⟨_, rfl, fun _ => ?_⟩
        simp [convV, hs, hd, hdd, hx]
      · rename_i hdd hx
        rw [hdd] at hf
        simp [Cls.isFresh] at hf
      · rename_i hsd hdd hx
        split at hb
        case h_2 => cases hb
        rename_i ye hye
        split at hb
        case h_2 => cases hb
        rename_i hyd
        cases hb
        refine ⟨_, rfl, fun _ => ?_⟩
        simp [convV, hs, hd, hsd, hdd, hx, hye, hyd]
      · rename_i e0 a n k hsd hdd hx
        split at hb
        case h_2 => cases hb
        rename_i ye hye
        split at hb
        case h_2 => cases hb
        rename_i hyd
        by_cases hn : n = 0
        · subst hn
          have key : ∀ m' : Mem, convV E m' s d (ρ x) = some (.string ⟨#[]⟩, m') := by
            intro m'
            simp only [convV, hs, hd, hsd, hdd, hx, hye, hyd]
            cases hc : m'.cells a 0 with
            | none => rfl
            | some cs =>
              have := cells_zero hc
              subst this
              rfl
          have h0 : v = .string ⟨#[]⟩ ∧ m2 = m := by
            have := key m
            simp only [convV, hs, hd, hsd, hdd, hx, hye, hyd] at this
            rw [this] at hb
            cases hb
            exact ⟨rfl, rfl⟩
          obtain ⟨rfl, rfl⟩ := h0
          exact ⟨_, rfl, fun _ => by rw [key]; rfl⟩
        · split at hb
          · rename_i cs hc
            simp only [Option.map_eq_some_iff] at hb
            obtain ⟨l, hl, e⟩ := hb
            cases e
            refine ⟨_, rfl, fun hsm => ?_⟩
            have hb0 : Nat.beq n 0 = false := natBeqF hn
            have hc1 := cells_same (m' := m1) (hsm a.block (by simp [touches, hx, hb0]) (by
              unfold Mem.cells at hc; split at hc
              · rename_i hg; exact ⟨_, hg⟩
              · cases hc)) hc
            simp [convV, hs, hd, hsd, hdd, hx, hye, hyd, hc1, hl]
          · rw [natBeqF hn] at hb; cases hb
      · cases hb
    all_goals first | (simp [cls, Cls.isHard] at hp; done) | (simp [cls, Cls.isPure] at hq; done) | (simp [cls, Cls.isFresh] at hf; done)
end Go.Am
