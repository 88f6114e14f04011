/- The code: what the abstract machine runs, the model runs. -/
import Derived.Test.YtnhhppflnpfehacGreatDoorAmP
import Derived.LoopNIn
namespace Go.Am
open Go.RowKit

section
variable {E : Env} {P : Program} {K : Task → Mem → Option (Value × Mem)} {ι ι1 ι2 ι0 : Inj} {m m1 m2 : Mem} {w w1 w2 w0 : World}

/-- An object that is no row is given up. -/
theorem Step.del (h : Rel E ι m w) {b : Nat} {t : Tgt} {o : AObj} (hb : ι b = some t) (hg : m.get b = some o) (hr : ∀ cs md es q, o ≠ .row cs md es q)
    (hbar : m.bar ≤ b) (hw : ∀ c, c ≠ t.blk → w1.heap[c]? = w.heap[c]?) (hsz : w1.heap.size = w.heap.size) (h1 : w1.os = w.os) (h2 : w1.tape = w.tape) (h3 : w1.output = w.output)
    : Step E ι m w ι (m.upd b none) w1 := by
  have hnb : m.nb ≤ b := Nat.le_trans h.nb hbar
  have hsame : (m.upd b none).get b = none := Mem.get_upd_same hnb _
  have hget : ∀ c, c ≠ b → (m.upd b none).get c = m.get c := fun c hc => Mem.get_upd_ne hnb hc _
  have hnr : ∀ x cs md es q, m.get x = some (.row cs md es q) → x ≠ b := fun x cs md es q e hx => by subst hx; rw [hg] at e; cases e; exact hr _ _ _ _ rfl
  have hnr' : ∀ x cs md es q, (m.upd b none).get x = some (.row cs md es q) → x ≠ b := fun x cs md es q e hx => by subst hx; rw [hsame] at e; cases e
  have up : ∀ x y, Anc m x y → Anc (m.upd b none) x y := fun x y ha => ha.move fun z ⟨_, _, _, _, e⟩ => hget z (hnr _ _ _ _ _ e)
  have down : ∀ x y, Anc (m.upd b none) x y → Anc m x y := fun x y ha => ha.move fun z ⟨_, _, _, _, e⟩ => (hget z (hnr' _ _ _ _ _ e)).symm
  -- no two live blocks of one real block, one of them no row
  have alone : ∀ c u oc, ι c = some u → m.get c = some oc → c ≠ b → u.blk ≠ t.blk := fun c u oc e k hne hblk => by
    rcases h.sep c b u t oc o e hb k hg hne hblk (by rw [AObj.notRow hr, Bool.and_false]) with ha | ha
    · obtain ⟨_, _, _, _, _, e'⟩ := ha.rows; exact hnr b _ _ _ _ e' rfl
    · obtain ⟨⟨_, _, _, e'⟩, _⟩ := ha.rows; exact hnr b _ _ _ _ e' rfl
  refine ⟨Sub.refl _, (fun c u e n => by rw [e] at n; cases n), ?_, ?_, ?_, by omega, Nat.le_refl _, h1, h2, h3⟩
  · constructor
    · intro c u e; have := h.dom _ _ e; exact ⟨this.1, by omega⟩
    · intro c u oc e k
      by_cases hc : c = b
      · subst hc; rw [hsame] at k; cases k
      · rw [hget c hc] at k
        exact (h.obj c u oc e k).move (Sub.refl _) (hw _ (alone c u oc e k hc))
    · intro x y u v ox oy e1 e2 k1 k2 hne hblk hro
      by_cases hx : x = b
      · subst hx
        rw [hsame] at k1; cases k1
      · by_cases hy : y = b
        · subst hy
          rw [hsame] at k2; cases k2
        · rw [hget x hx] at k1; rw [hget y hy] at k2
          exact (h.sep x y u v ox oy e1 e2 k1 k2 hne hblk hro).imp (up _ _) (up _ _)
    · intro x y u v e1 e2 ha hblk
      have ha' := down _ _ ha
      obtain ⟨⟨_, _, _, ex⟩, _, _, _, _, ey⟩ := ha'.rows
      rw [hget x (hnr _ _ _ _ _ ex), hget y (hnr _ _ _ _ _ ey)]
      exact h.rng x y u v e1 e2 ha' hblk
    · exact h.nb
    · exact h.bar
    · intro c oc hc k
      have hc' : c < m.nb := hc
      rw [hget c (by omega)] at k
      exact h.base c oc hc' k
    · exact h.glob
    · intro c hc
      have hc' : m.size ≤ c := hc
      have := (h.dom _ _ hb).1
      rw [hget c (by omega)]; exact h.top c hc'
    · intro c cs md es q k
      rw [hget c (hnr' _ _ _ _ _ k)] at k
      obtain ⟨hq, ha⟩ := h.prv _ _ _ _ _ k
      refine ⟨hq, fun oq e => ?_⟩
      by_cases hqb : q = b
      · subst hqb
        obtain ⟨_, _, _, e'⟩ := ha o hg
        exact absurd e' (hr _ _ _ _)
      · exact ha oq (by rw [← hget q hqb]; exact e)
  · rintro x hx ⟨a, u, oa, e, k, hro, hu⟩
    by_cases ha : a = b
    · subst ha
      rw [hsame] at k; cases k
    · rw [hget a ha] at k; exact ⟨a, u, oa, e, k, hro, hu⟩
  · intro x hx hn
    exact hw x (fun e => hn ⟨b, t, o, hb, hg, by cases o <;> first | rfl | exact absurd rfl (hr _ _ _ _), e.symm⟩)
end

/-! ### A scope with jumps -/
section
variable {P : Program} {b : Frame} {a : Act} {k : List Item} {cs : List Frame} {w : World}
theorem stepR_scope {x : Code} : step P (lone (b.atR a (.code (.scope x) :: k)) cs w) = .next (lone (b.atR a (.code x :: .inScope x :: k)) cs w) :=
  step_lone_go (by simp [stepG, stepG.exec, Frame.atR])
theorem stepR_inScope {x : Code} : step P (lone (b.atR a (.inScope x :: k)) cs w) = .next (lone (b.atR a k) cs w) :=
  step_lone_go (by simp [stepG, stepG.exec, Frame.atR])
end

def scopeIn (F : Fence) (n : Nat) (P : Program) (b : Code) (Q : Exit → Act → World → Prop) : Nat → Code → Act → World → Prop
  | 0, _, _, _ => False
  | m + 1, c, a, w => c.wpIn F n P (fun e a' w' => match e with
    | .goto l => (match findLabel b l with
      | some rest => scopeIn F n P b Q m rest a' w'
      | none => Q (.goto l) a' w')
    | e => Q e a' w') a w

theorem wpIn_scope_rounds {F : Fence} {n : Nat} {P : Program} {Q : Exit → Act → World → Prop} {a : Act} {w : World} {c : Code} (m : Nat) (h : scopeIn F n P c Q m c a w) : (Code.scope c).wpIn F n P Q a w := by
  intro b k cs hro hb hr
  have key : ∀ m x a w, scopeIn F n P c Q m x a w →
      ∃ e a' w', Q e a' w' ∧ ArrivesIn (Machine.fenced P F) P (lone (b.atR a (.code x :: .inScope c :: k)) cs w) b k cs e a' w' := by
    intro m
    induction m with
    | zero => intro x a w h; exact h.elim
    | succ m ih =>
      intro x a w h
      obtain ⟨e, a₁, w₁, hq, harr⟩ := h b (.inScope c :: k) cs hro hb hr
      cases e with
      | normal => exact ⟨.normal, a₁, w₁, hq, StepsIn.trans harr (.one (fenced_calm hb hr rfl) stepR_inScope)⟩
      | exit id => exact ⟨_, a₁, w₁, hq, fun k' hk => harr.1 k' (by simp [exitTo, hk]), fun hr' hk => harr.2 hr' (by simp [exitTo, hk])⟩
      | goto l =>
        simp only at hq
        cases hf : findLabel c l with
        | none =>
          rw [hf] at hq
          have hx : gotoIn l (.inScope c :: k) = gotoIn l k := by simp [gotoIn, hf]
          exact ⟨_, a₁, w₁, hq, fun k' hk => harr.1 k' (by rw [hx]; exact hk), fun hr' hk => harr.2 hr' (by rw [hx]; exact hk)⟩
        | some rest =>
          rw [hf] at hq
          obtain ⟨e₂, a₂, w₂, hq₂, harr₂⟩ := ih rest a₁ w₁ hq
          exact ⟨e₂, a₂, w₂, hq₂, .of_steps (harr.1 _ (by simp [gotoIn, hf])) harr₂⟩
      | ret => exact ⟨_, a₁, w₁, hq, harr⟩
      | panic ch => exact ⟨_, a₁, w₁, hq, harr⟩
      | outgrown => exact ⟨_, a₁, w₁, hq, harr⟩
  obtain ⟨e, a', w', hq, harr⟩ := key m c a w h
  exact ⟨e, a', w', hq, .of_steps (.one (fenced_calm hb hr rfl) stepR_scope) harr⟩

/-! ### Ends -/
def toExit : AExit → Exit
  | .normal => .normal
  | .exit i => .exit i
  | .goto l => .goto l
  | .ret => .ret

section
variable {E : Env} {P : Program} {K : Task → Mem → Option (Value × Mem)} {ι ι1 ι2 ι0 : Inj} {m m1 m2 m0 : Mem} {w w1 w2 w0 : World}

def PX (E : Env) (ι : Inj) (m : Mem) (w : World) (e : AExit) (s1 : St) : Exit → Act → World → Prop := fun e' a' w' =>
  ∃ ι1, e' = toExit e ∧ TR ι1 s1.tm s1.nt a'.tmps ∧ DR ι1 s1.df a'.defers ∧ Step E ι m w ι1 s1.m w'

theorem PX.after (hs : Step E ι0 m0 w0 ι m w) {e : AExit} {s1 : St} {e' : Exit} {a' : Act} {w' : World} (h : PX E ι m w e s1 e' a' w') : PX E ι0 m0 w0 e s1 e' a' w' := by
  obtain ⟨ι1, h1, h2, h3, h4⟩ := h
  exact ⟨ι1, h1, h2, h3, hs.trans h4⟩

/-- The round that the code runs in. -/
def RR (ι : Inj) : Option Nat → Option Nat → Prop
  | none, none => True
  | some l, some b => ∃ t, ι l = some t ∧ t.blk = b
  | _, _ => False

theorem RR.mono (hs : Sub ι ι1) {x y : Option Nat} (h : RR ι x y) : RR ι1 x y := by
  cases x <;> cases y <;> first | exact h | (obtain ⟨t, e, hb⟩ := h; exact ⟨t, hs _ _ e, hb⟩)

/-- What a run of code gives. -/
def ExecOk (E : Env) (P : Program) (round : Option Nat) (ex : Code → St → Option (AExit × St)) : Prop :=
  ∀ (c : Code) (s : St) (e : AExit) (s1 : St) (ι : Inj) (a : Act) (w : World) (r : Option Nat), codeOk E.ng c = true → ex c s = some (e, s1) → Rel E ι s.m w → TR ι s.tm s.nt a.tmps → DR ι s.df a.defers → RR ι round r →
    c.wpIn (fen r) 0 P (PX E ι s.m w e s1) a w

theorem loopRun_ok {round r : Option Nat} {ex : Code → St → Option (AExit × St)} (hx : ExecOk E P round ex) {b : Code} (hb : codeOk E.ng b = true) : ∀ (n : Nat) (s : St) (e : AExit) (s1 : St) (ι : Inj) (a : Act) (w : World),
    loopRun ex b n s = some (e, s1) → Rel E ι s.m w → TR ι s.tm s.nt a.tmps → DR ι s.df a.defers → RR ι round r → Step E ι0 m0 w0 ι s.m w → Code.roundsIn (fen r) 0 P b (PX E ι0 m0 w0 e s1) n a w := by
  intro n
  induction n with
  | zero => intro s e s1 ι a w h; cases h
  | succ n ih =>
    intro s e s1 ι a w h hR hT hD hr hs
    unfold loopRun at h
    rw [roundsIn_succ]
    cases hex : ex b s with
    | none => rw [hex] at h; cases h
    | some p =>
      obtain ⟨e2, s2⟩ := p
      rw [hex] at h
      refine wpIn_mono (hx b s e2 s2 ι a w r hb hex hR hT hD hr) fun e' a' w' hp => ?_
      obtain ⟨ι1, h1, h2, h3, h4⟩ := hp
      cases e2 with
      | normal =>
        subst h1
        exact ih s2 e s1 ι1 a' w' h h4.rel h2 h3 (hr.mono h4.sub) (hs.trans h4)
      | exit i => cases h; subst h1; exact ⟨ι1, rfl, h2, h3, hs.trans h4⟩
      | goto i => cases h; subst h1; exact ⟨ι1, rfl, h2, h3, hs.trans h4⟩
      | ret => cases h; subst h1; exact ⟨ι1, rfl, h2, h3, hs.trans h4⟩

theorem findLabel_ok {ng : Nat} {l : Nat} : ∀ {c rest : Code}, codeOk ng c = true → findLabel c l = some rest → codeOk ng rest = true := by
  intro c
  induction c with
  | seq x y ihx ihy =>
    intro rest h hf
    simp only [codeOk, Bool.and_eq_true] at h
    simp only [findLabel] at hf
    split at hf
    · rename_i r hr
      cases hf
      simp only [codeOk, Bool.and_eq_true]
      exact ⟨ihx h.1 hr, h.2⟩
    · exact ihy h.2 hf
  | label l' =>
    intro rest h hf
    simp only [findLabel] at hf
    split at hf
    · cases hf; rfl
    · cases hf
  | _ => intro rest h hf; simp [findLabel] at hf

theorem scopeRun_ok {round r : Option Nat} {ex : Code → St → Option (AExit × St)} (hx : ExecOk E P round ex) {b : Code} (hb : codeOk E.ng b = true) : ∀ (n : Nat) (c : Code) (s : St) (e : AExit) (s1 : St) (ι : Inj) (a : Act) (w : World),
    codeOk E.ng c = true → scopeRun ex b n c s = some (e, s1) → Rel E ι s.m w → TR ι s.tm s.nt a.tmps → DR ι s.df a.defers → RR ι round r → Step E ι0 m0 w0 ι s.m w → scopeIn (fen r) 0 P b (PX E ι0 m0 w0 e s1) n c a w := by
  intro n
  induction n with
  | zero => intro c s e s1 ι a w _ h; cases h
  | succ n ih =>
    intro c s e s1 ι a w hc h hR hT hD hr hs
    unfold scopeRun at h
    cases hex : ex c s with
    | none => rw [hex] at h; cases h
    | some p =>
      obtain ⟨e2, s2⟩ := p
      rw [hex] at h
      refine wpIn_mono (hx c s e2 s2 ι a w r hc hex hR hT hD hr) fun e' a' w' hp => ?_
      obtain ⟨ι1, h1, h2, h3, h4⟩ := hp
      cases e2 with
      | normal => cases h; subst h1; exact ⟨ι1, rfl, h2, h3, hs.trans h4⟩
      | exit i => cases h; subst h1; exact ⟨ι1, rfl, h2, h3, hs.trans h4⟩
      | goto i =>
        subst h1
        simp only [toExit]
        simp only at h
        cases hf : findLabel b i with
        | none => rw [hf] at h; cases h; exact ⟨ι1, rfl, h2, h3, hs.trans h4⟩
        | some rest =>
          rw [hf] at h
          exact ih rest s2 e s1 ι1 a' w' (findLabel_ok hb hf) h h4.rel h2 h3 (hr.mono h4.sub) (hs.trans h4)
      | ret => cases h; subst h1; exact ⟨ι1, rfl, h2, h3, hs.trans h4⟩

/-! ### A loop over a function -/
theorem run_enterLoop_inner {l : Nat} {r : Loop} (fn : FuncId) (tmps : Array Value) (ps : Array Tmp) (assign body : Code) (h : w.heap[l]? = some (.loop r)) :
    (Instr.enterLoop fn tmps ps assign body (some l)).run P w =
      .ok (w.heap.size, []) (w.alloc (.loop { state := .ready, pending := none, fn, tmps, params := ps, assign, body, defers := r.defers })) := by
  unfold Instr.enterLoop
  simp only [Sem.run_bind, run_getLoop h, Result.andThen, Sem.run_pure, run_newObj_alloc]

/-- The record is laid. -/
theorem enterLoop_ok {s : St} {a : Act} {round r : Option Nat} {ps : Array Tmp} {asg body : Code} {L : Nat} {marks : List Nat} (hR : Rel E ι s.m w) (hT : TR ι s.tm s.nt a.tmps) (hr : RR ι round r)
    (hca : codeOk E.ng asg = true) (hcb : codeOk E.ng body = true) (h : enterLoopV s round ps.toList asg body = some (L, marks, m1)) (fn : FuncId) :
    ∃ ι1 w1 t mk, ι1 L = some t ∧ (Instr.enterLoop fn a.tmps ps asg body r).run P w = .ok (t.blk, mk) w1 ∧ Step E ι s.m w ι1 m1 w1 ∧ (∀ df ds, DR ι1 df ds → DR ι1 (marks ++ df) (mk ++ ds)) := by
  have lay : ∀ {ι : Inj} {m : Mem} {w : World} (D : Nat) (D' : Nat), Rel E ι m w → TR ι s.tm s.nt a.tmps →
      Step E ι m w (ι.put m.size ⟨w.heap.size, 0, 0, 0⟩) (m.new (.loop .ready none s.tm s.nt ps.toList asg body D)) (w.alloc (.loop { state := .ready, pending := none, fn := fn, tmps := a.tmps, params := ps, assign := asg, body := body, defers := D' })) := by
    intro ι m w D D' hR hT
    refine Step.new hR (O := .loop { state := .ready, pending := none, fn := fn, tmps := a.tmps, params := ps, assign := asg, body := body, defers := D' }) rfl rfl rfl rfl rfl ?_ (fun cs md es q e => by cases e)
    refine ⟨rfl, hca, hcb, fn, a.tmps, D', ?_, hT.mono (Inj.put_sub _ hR.none_of_size)⟩
    rw [World.alloc_heap_new]
  cases round with
  | none =>
    cases r with
    | some b => exact hr.elim
    | none =>
      simp only [enterLoopV] at h
      cases h
      have s1 : Step E ι s.m w (ι.put s.m.size ⟨w.heap.size, 0, 0, 0⟩) (s.m.new .mark) (w.alloc (.deferred (some []))) :=
        Step.new hR (O := .deferred (some [])) rfl rfl rfl rfl rfl (World.alloc_heap_new w _) (fun cs md es q e => by cases e)
      have s2 := lay s.m.size w.heap.size s1.rel (hT.mono s1.sub)
      refine ⟨(ι.put s.m.size ⟨w.heap.size, 0, 0, 0⟩).put (s.m.size + 1) ⟨w.heap.size + 1, 0, 0, 0⟩, _, ⟨w.heap.size + 1, 0, 0, 0⟩, _, ?_, run_enterLoop_outer fn a.tmps ps asg body, ?_, ?_⟩
      · simp [Inj.put]
      · have := s1.trans s2
        simpa [Mem.new_def] using this
      · intro df ds hd
        refine .cons (t := ⟨w.heap.size, 0, 0, 0⟩) ?_ hd
        simp [Inj.put, Mem.new_def]
  | some l =>
    cases r with
    | none => exact hr.elim
    | some b =>
      obtain ⟨t, hl, rfl⟩ := hr
      simp only [enterLoopV] at h
      split at h
      · rename_i D hg
        cases h
        have ho := hR.obj _ _ _ hl hg
        obtain ⟨_, _, _, fn0, tmps0, D', hh, _⟩ := ho
        refine ⟨_, _, ⟨w.heap.size, 0, 0, 0⟩, [], ?_, run_enterLoop_inner fn a.tmps ps asg body hh, lay D _ hR hT, fun df ds hd => hd⟩
        simp [Inj.put]
      · cases h

/-- The loop is over. -/
theorem endLoop_ok {L : Nat} {t : Tgt} {pend : Option Code} (hR : Rel E ι m w) (hL : ι L = some t) (h : endLoopV m L = some (pend, m1)) :
    ∃ w1, (Instr.endLoop t.blk).run P w = .ok pend w1 ∧ Step E ι m w ι m1 w1 := by
  unfold endLoopV at h
  split at h
  · rename_i st pd tm nt ps asg body D hg
    obtain ⟨h0, hca, hcb, fn, tmps, D', hh, hT⟩ := hR.obj _ _ _ hL hg
    have hnb : st ≠ .busy := fun e => by subst e; cases h
    have h' : (bif Nat.ble m.bar L then some (pd, m.upd L (some (.loop .exhausted pd tm nt ps asg body D))) else none) = some (pend, m1) := by
      cases st <;> first | exact h | exact absurd rfl hnb
    rw [Bool.cond_eq_ite] at h'
    split at h'
    · rename_i hb
      cases h'
      refine ⟨_, run_endLoop hh hnb, ?_⟩
      refine Step.upd hR hL hg (fun _ _ _ _ e => by cases e) (fun _ _ _ _ e => by cases e) (Nat.le_of_ble_eq_true hb) (fun c hc => World.putObj_heap_other hc) World.putObj_size rfl rfl rfl ?_
      exact ⟨h0, hca, hcb, fn, tmps, D', World.putObj_heap_same (hR.dom _ _ hL).2, hT⟩
    · cases h'
  · cases h

theorem callFunc_enter (hE : EnvOk E P) {g : Nat} {x : Fun} (hg : E.fn g = some x) (args : Array Value) (w : World) : (callFunc g args).run P w = .ok (.enter g args) w := by
  obtain ⟨F, hF, hb, _, _, hn, _⟩ := hE.fn g x hg
  have hb' : F.body ≠ none := by rw [hb]; simp
  have hn' : F.name ≠ "runtime.NumGoroutine" := by simpa using hn
  unfold callFunc
  have hp : (program).run P w = .ok P w := rfl
  simp [Sem.run_bind, hp, hF, hn', hb', Result.andThen]
end
end Go.Am
