/- What a task's end is on the model's side; one operation's step. -/
import Derived.Test.YtnhhppflnpfehacGreatDoorAm14
import Derived.RangeFuncRecord
namespace Go.Am
open Go.RowKit

/-- What comes of a value handed back. -/
def Got (E : Env) (ι : Inj) (m : Mem) (w : World) (v : Value) (m1 : Mem) (v' : Value) (w1 : World) : Prop := ∃ ι1, VR ι1 v v' ∧ Step E ι m w ι1 m1 w1

def retOnly (next : Value → World → Prop) : Ending → World → Prop
  | .returned v, w => next v w
  | _, _ => False

def Upon (P : Program) (next : Value → World → Prop) : Result Next → Prop
  | .ok (.value v) w => next v w
  | .ok .skip w => next undef w
  | .ok (.enter f args) w => CallsIn Fence.wide 0 P f args w (retOnly next)
  | .ok (.row row args) w => RowsIn Fence.wide 0 P row args w next
  | .ok (.round l f tmps assign body) w => RoundIn Fence.wide 0 P l f tmps assign body w (retOnly next)
  | _ => False

theorem Upon.mono {P : Program} {next next' : Value → World → Prop} (hn : ∀ v w, next v w → next' v w) {r : Result Next} (h : Upon P next r) : Upon P next' r := by
  have hr : ∀ e w, retOnly next e w → retOnly next' e w := fun e w h => by
    cases e <;> first | exact hn _ _ h | exact h
  cases r with
  | ok x w => cases x <;> first | exact hn _ _ h | exact CallsIn.mono h hr | exact RowsIn.mono h hn | exact RoundIn.mono h hr | exact h
  | halt x w => exact h

/-- The fence of an activation: of a function, or of a round of the loop at this block. -/
def fen (r : Option Nat) : Fence := { fn := fun _ => True, depth := none, alive := false, round := r }

theorem Upon.uponIn {P : Program} {o : Oper} {a : Act} {r : Option Nat} {next : Value → World → Prop} {nx : Act → World → Prop} {Q : Exit → Act → World → Prop} {res : Result Next}
    (h : Upon P next res) (hn : ∀ v w, next v w → nx (a.put o.dst v) w) : o.uponIn (fen r) 0 P a nx Q res := by
  have hr : ∀ e w, retOnly next e w → (match e with | .returned v => nx (a.put o.dst v) w | .panicked chain => Q (.panic chain) a w | .outgrown => LetsOut Q) := fun e w h => by
    cases e <;> first | exact hn _ _ h | exact h.elim
  cases res with
  | ok x w =>
    cases x with
    | value v => exact hn _ _ h
    | skip => exact hn _ _ h
    | enter f args =>
      have h' : CallsIn (fen r) 0 P f args w (retOnly next) := h
      refine ⟨fun k => (by cases k), CallsIn.mono h' fun e w hh => ?_⟩
      have := hr e w hh
      cases e <;> exact this
    | row row args =>
      have h' : RowsIn (fen r) 0 P row args w next := h
      exact ⟨fun k => (by cases k), RowsIn.mono h' fun v w hh => hn v w hh⟩
    | round l f tmps assign body =>
      have h' : RoundIn (fen r) 0 P l f tmps assign body w (retOnly next) := h
      refine ⟨fun k => (by cases k), RoundIn.mono h' fun e w hh => ?_⟩
      have := hr e w hh
      cases e <;> exact this
    | _ => exact h.elim
  | halt x w => exact h.elim

/-- The tasks that K does, the model does. -/
structure KOk (E : Env) (P : Program) (K : Task → Mem → Option (Value × Mem)) : Prop where
  call : ∀ {f : Nat} {args : List Value} {m m1 : Mem} {v : Value} {ι : Inj} {w : World} {args' : List Value}, K (.call f args) m = some (v, m1) → Rel E ι m w → VRs ι args args' →
    Upon P (Got E ι m w v m1) ((callFunc f args'.toArray).run P w)
  round : ∀ {l : Nat} {args : List Value} {m m1 : Mem} {v : Value} {ι : Inj} {w : World} {args' : List Value} {t : Tgt}, K (.round l args) m = some (v, m1) → Rel E ι m w → ι l = some t → VRs ι args args' →
    Upon P (Got E ι m w v m1) ((Instr.yield t.blk args'.toArray).run P w)

section
variable {E : Env} {P : Program} {K : Task → Mem → Option (Value × Mem)} {ι ι1 ι2 : Inj} {m m1 m2 : Mem} {w w1 w2 : World}

theorem doOp_ok (hE : EnvOk E P) (hK : KOk E P K) (h : Rel E ι m w) {tm : Tr Value} {nt : Nat} {a : Act} (hT : TR ι tm nt a.tmps) {o : Oper} (ho : opOk E.ng o.op = true)
    {v : Value} (hr : doOp E K o tm m = some (v, m1)) : Upon P (Got E ι m w v m1) ((execOp a.eval o).run P w) := by
  unfold doOp at hr
  split at hr
  · rename_i v1 m2 ha
    cases hr
    obtain ⟨ι1, w1, x, v', h1, h2, h3, h4⟩ := aop_sim (P := P) hE h hT ho ha
    rw [h1]
    rcases h2 with rfl | ⟨rfl, rfl⟩
    · exact ⟨ι1, h3, h4⟩
    · exact ⟨ι1, h3, h4⟩
  · rename_i f args ha
    obtain ⟨args', h1, h2⟩ := aop_sim (P := P) hE h hT ho ha
    rw [h2]
    exact hK.call hr h h1
  · rename_i l args ha
    obtain ⟨t, args', h0, h1, h2⟩ := aop_sim (P := P) hE h hT ho ha
    rw [h2]
    exact hK.round hr h h0 h1
  · cases hr

theorem doOp_notDefer {o : Oper} {tm : Tr Value} {x : Value × Mem} (hr : doOp E K o tm m = some x) : ∀ c, o.op ≠ .defer c := fun c hc => by
  unfold doOp at hr; rw [aop_def] at hr
  rw [hc] at hr
  simp at hr

/-! ### The temporaries -/
theorem TR.put {tm tm1 : Tr Value} {nt : Nat} {a : Act} (hT : TR ι tm nt a.tmps) {dst : Option Nat} {v v' : Value} (hp : putT tm nt dst v = some tm1) (hv : VR ι v v') : TR ι tm1 nt (a.put dst v').tmps := by
  unfold putT at hp
  split at hp
  · cases hp; exact hT
  · rename_i d
    cases hlt : Nat.blt d nt with
    | false => rw [hlt] at hp; cases hp
    | true =>
      rw [hlt] at hp
      have hd : d < nt := by simpa using hlt
      cases hp
      refine ⟨by simpa [Act.put] using hT.1, fun i => ?_⟩
      have hi := hT.2 i
      simp only [ev, Tr.at_put, Act.put] at hi ⊢
      by_cases e : i = d
      · subst e
        have hs : i < a.tmps.size := by rw [hT.1]; exact hd
        simp [Array.getD, hs]
        exact hv
      · rw [if_neg e]
        have : (a.tmps.setIfInBounds d v').getD i undef = a.tmps.getD i undef := by
          simp [Array.getD_eq_getD_getElem?, Array.getElem?_setIfInBounds_ne (Ne.symm e)]
        rw [this]; exact hi

theorem told_eq {ops : Array Oper} {tm : Tr Value} {nt : Nat} {a : Act} (hT : TR ι tm nt a.tmps) (j : Nat) : told ops.toList tm j = yielded ops a.tmps j := by
  unfold told yielded
  have e1 : ops.toList[j]? = ops[j]? := by simp
  rw [e1]
  cases ops[j]? with
  | none => rfl
  | some o =>
    simp only [Option.bind_some]
    cases o.dst with
    | none => rfl
    | some d =>
      simp only [Option.bind_some]
      have hd := hT.2 d
      simp only [ev, Array.getD_eq_getD_getElem?] at hd
      have noB : ∀ {v v' : Value} {b : Bool}, VR ι v v' → v' = .bool b → v = .bool b := fun h e => by subst e; cases h; rfl
      cases hx : a.tmps[d]? with
      | none =>
        rw [hx] at hd
        cases hy : tm.at d with
        | none => rfl
        | some v =>
          rw [hy] at hd
          simp only at hd
          split
          · rename_i b hb
            cases hb
            cases hd
          · rfl
      | some v' =>
        rw [hx] at hd
        simp only [Option.getD_some] at hd
        cases hy : tm.at d with
        | none =>
          rw [hy] at hd
          cases hd
          rfl
        | some v =>
          rw [hy] at hd
          simp only at hd
          cases hd <;> rfl

theorem wanted_eq {ops : Array Oper} {tm : Tr Value} {nt : Nat} {a : Act} (hT : TR ι tm nt a.tmps) (o : Oper) : wantedV ops.toList tm o = Region.wanted o (yielded ops a.tmps) := by
  unfold wantedV Region.wanted
  cases o.guard with
  | none => rfl
  | some p =>
    obtain ⟨j, want⟩ := p
    simp only [told_eq hT]
    cases yielded ops a.tmps j with
    | none => rfl
    | some b => rfl

/-- The deferred calls: marks alone. -/
inductive DR (ι : Inj) : List Nat → List Deferred → Prop where
  | nil : DR ι [] []
  | cons {D : Nat} {t : Tgt} {df : List Nat} {ds : List Deferred} (h : ι D = some t) (hs : DR ι df ds) : DR ι (D :: df) ({ target := .collected t.blk, args := #[] } :: ds)

theorem DR.mono (hs : Sub ι ι1) {df : List Nat} {ds : List Deferred} (h : DR ι df ds) : DR ι1 df ds := by
  induction h with
  | nil => exact .nil
  | cons h _ ih => exact .cons (hs _ _ h) ih

theorem put_defers (a : Act) (d : Option Tmp) (v : Value) : (a.put d v).defers = a.defers := by cases d <;> rfl

/-- One operation of a region, on the model's side: what comes next holds. -/
theorem stepOp_ok (hE : EnvOk E P) (hK : KOk E P K) {ops : Array Oper} {o : Oper} {s s1 : St} {a : Act} {r : Option Nat} {nx : Act → World → Prop} {Q : Exit → Act → World → Prop}
    (ho : opOk E.ng o.op = true) (hr : stepOp E K ops.toList o s = some s1) (h : Rel E ι s.m w) (hT : TR ι s.tm s.nt a.tmps) (hD : DR ι s.df a.defers)
    (hn : ∀ ι1 a1 w1, Step E ι s.m w ι1 s1.m w1 → TR ι1 s1.tm s1.nt a1.tmps → DR ι1 s1.df a1.defers → nx a1 w1) :
    if Region.wanted o (yielded ops a.tmps) = true then o.wpIn (fen r) 0 P a w nx Q else (∀ f, o.about P w a.eval = some f → (fen r).fn f) ∧ nx (a.put o.dst undef) w := by
  rw [stepOp_def] at hr
  rw [wanted_eq hT] at hr
  cases hw : Region.wanted o (yielded ops a.tmps) with
  | true =>
    rw [hw] at hr
    simp only [if_true]
    simp only at hr
    cases hd : doOp E K o s.tm s.m with
    | none => rw [hd] at hr; cases hr
    | some p =>
      obtain ⟨v, m1⟩ := p
      rw [hd] at hr
      simp only at hr
      cases hp : putT s.tm s.nt o.dst v with
      | none => rw [hp] at hr; cases hr
      | some tm1 =>
        rw [hp] at hr
        cases hr
        refine ⟨fun _ _ => trivial, ?_⟩
        rw [Oper.semAt_eq _ _ _ (doOp_notDefer hd)]
        refine Upon.uponIn (doOp_ok hE hK h hT ho hd) fun v' w1 hg => ?_
        obtain ⟨ι1, hv, hst⟩ := hg
        exact hn ι1 _ w1 hst ((hT.mono hst.sub).put hp hv) (by rw [put_defers]; exact hD.mono hst.sub)
  | false =>
    rw [hw] at hr
    simp only [Bool.false_eq_true, if_false]
    simp only at hr
    cases hp : putT s.tm s.nt o.dst undefV with
    | none => rw [hp] at hr; cases hr
    | some tm1 =>
      rw [hp] at hr
      cases hr
      exact ⟨fun _ _ => trivial, hn ι _ w (Step.refl h) (hT.put hp VR.undef) (by rw [put_defers]; exact hD)⟩

theorem opsOk_mem {ng : Nat} : ∀ {l : List Oper}, opsOk ng l = true → ∀ o ∈ l, opOk ng o.op = true
  | [], _, _, h => by cases h
  | x :: r, h, o, ho => by
    simp only [opsOk, Bool.and_eq_true] at h
    rcases List.mem_cons.1 ho with rfl | ho
    · exact h.1
    · exact opsOk_mem h.2 o ho

theorem runOps_ok (hE : EnvOk E P) (hK : KOk E P K) {ops : Array Oper} {r : Option Nat} {Q : Exit → Act → World → Prop} : ∀ (l : List Oper) (i : Nat) (ι : Inj) (s s1 : St) (a : Act) (w : World),
    ops.toList.drop i = l → opsOk E.ng l = true → runOps E K ops.toList l s = some s1 → Rel E ι s.m w → TR ι s.tm s.nt a.tmps → DR ι s.df a.defers →
    (∀ ι1 a1 w1, Step E ι s.m w ι1 s1.m w1 → TR ι1 s1.tm s1.nt a1.tmps → DR ι1 s1.df a1.defers → Q .normal a1 w1) →
    wpOpsIn (fen r) 0 P ops Q (List.range' i l.length) a w := by
  intro l
  induction l with
  | nil =>
    intro i ι s s1 a w _ _ hr h hT hD hn
    cases hr
    exact hn ι a w (Step.refl h) hT hD
  | cons o l ih =>
    intro i ι s s1 a w hl ho hr h hT hD hn
    simp only [opsOk, Bool.and_eq_true] at ho
    have hoi : ops[i]? = some o := by
      have : (ops.toList.drop i)[0]? = some o := by rw [hl]; rfl
      simpa using this
    have hl' : ops.toList.drop (i + 1) = l := by
      have : (ops.toList.drop i).drop 1 = l := by rw [hl]; rfl
      rw [List.drop_drop] at this
      exact this
    unfold runOps at hr
    cases hs : stepOp E K ops.toList o s with
    | none => rw [hs] at hr; cases hr
    | some s2 =>
      rw [hs] at hr
      simp only at hr
      simp only [List.length_cons, List.range'_succ, wpOpsIn, hoi]
      exact stepOp_ok hE hK ho.1 hs h hT hD fun ι1 a1 w1 hst hT1 hD1 =>
        ih (i + 1) ι1 s2 s1 a1 w1 hl' ho.2 hr hst.rel hT1 hD1 fun ι2 a2 w2 hst2 hT2 hD2 => hn ι2 a2 w2 (hst.trans hst2) hT2 hD2
end
end Go.Am
