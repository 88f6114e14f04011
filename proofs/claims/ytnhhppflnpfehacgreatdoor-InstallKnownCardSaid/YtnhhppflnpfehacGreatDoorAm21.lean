/- The machine's runs are the model's: code, calls, rounds. -/
import Derived.Test.YtnhhppflnpfehacGreatDoorAm20
namespace Go.Am
open Go.RowKit

section
variable {E : Env} {P : Program} {K : Task → Mem → Option (Value × Mem)} {ι ι1 ι2 ι0 : Inj} {m m1 m2 m0 : Mem} {w w1 w2 w0 : World}

theorem PX.pure {e : AExit} {s : St} {a : Act} (hR : Rel E ι s.m w) (hT : TR ι s.tm s.nt a.tmps) (hD : DR ι s.df a.defers) : PX E ι s.m w e s (toExit e) a w :=
  ⟨ι, rfl, hT, hD, Step.refl hR⟩

theorem exec_ok (hE : EnvOk E P) (hK : KOk E P K) (hkeep : KKeep K) {round : Option Nat} : ∀ k, ExecOk E P round (exec E K round k) := by
  intro k
  induction k with
  | zero => intro c s e s1 ι a w r _ h; cases h
  | succ k ih =>
    intro c s e s1 ι a w r hc h hR hT hD hr
    cases c with
    | skip => simp [exec_succ] at h; obtain ⟨rfl, rfl⟩ := h; exact wpIn_skip (PX.pure hR hT hD)
    | label l => simp [exec_succ] at h; obtain ⟨rfl, rfl⟩ := h; exact wpIn_label (PX.pure hR hT hD)
    | exit i => simp [exec_succ] at h; obtain ⟨rfl, rfl⟩ := h; exact wpIn_exit (PX.pure hR hT hD)
    | goto i => simp [exec_succ] at h; obtain ⟨rfl, rfl⟩ := h; exact wpIn_goto (PX.pure hR hT hD)
    | ret => simp [exec_succ] at h; obtain ⟨rfl, rfl⟩ := h; exact wpIn_ret (PX.pure hR hT hD)
    | refuse _ => simp [exec_succ] at h
    | region id ops draw =>
      simp only [exec_succ] at h
      split at h
      · split at h
        · rename_i s2 hs
          cases h
          refine wpIn_region ?_
          have := runOps_ok hE hK (r := r) (Q := PX E ι s.m w .normal s1) ops.toList 0 ι s s1 a w rfl hc hs hR hT hD fun ι1 a1 w1 h1 h2 h3 => ⟨ι1, rfl, h2, h3, h1⟩
          rw [List.range_eq_range']
          simpa using this
        · cases h
      · split at h
        · rename_i s2 hs
          cases h
          exact drawn_ok hE hK hkeep hc hs hR hT hD fun ι1 a1 w1 h1 h2 h3 => ⟨ι1, rfl, h2, h3, h1⟩
        · cases h
    | seq x y =>
      simp only [codeOk, Bool.and_eq_true] at hc
      simp only [exec_succ] at h
      refine wpIn_seq ?_
      cases hx : exec E K round k x s with
      | none => rw [hx] at h; cases h
      | some p =>
        obtain ⟨e2, s2⟩ := p
        rw [hx] at h
        refine wpIn_mono (ih x s e2 s2 ι a w r hc.1 hx hR hT hD hr) fun e' a' w' hp => ?_
        obtain ⟨ι1, h1, h2, h3, h4⟩ := hp
        cases e2 with
        | normal =>
          subst h1
          exact wpIn_mono (ih y s2 e s1 ι1 a' w' r hc.2 h h4.rel h2 h3 (hr.mono h4.sub)) fun e' a' w' hp => hp.after h4
        | exit i => cases h; subst h1; exact ⟨ι1, rfl, h2, h3, h4⟩
        | goto i => cases h; subst h1; exact ⟨ι1, rfl, h2, h3, h4⟩
        | ret => cases h; subst h1; exact ⟨ι1, rfl, h2, h3, h4⟩
    | cond c x y =>
      simp only [codeOk, Bool.and_eq_true] at hc
      simp only [exec_succ] at h
      have hv := ev_rel hR hT hc.1
      split at h
      · rename_i hev
        rw [hev] at hv
        have : a.eval c = .bool true := by generalize a.eval c = z at hv; cases hv; rfl
        exact wpIn_cond_true this (ih x s e s1 ι a w r hc.2.1 h hR hT hD hr)
      · rename_i hev
        rw [hev] at hv
        have : a.eval c = .bool false := by generalize a.eval c = z at hv; cases hv; rfl
        exact wpIn_cond_false this (ih y s e s1 ι a w r hc.2.2 h hR hT hD hr)
      · cases h
    | block id x =>
      simp only [codeOk] at hc
      simp only [exec_succ] at h
      refine wpIn_block ?_
      cases hx : exec E K round k x s with
      | none => rw [hx] at h; cases h
      | some p =>
        obtain ⟨e2, s2⟩ := p
        rw [hx] at h
        refine wpIn_mono (ih x s e2 s2 ι a w r hc hx hR hT hD hr) fun e' a' w' hp => ?_
        obtain ⟨ι1, h1, h2, h3, h4⟩ := hp
        cases e2 with
        | normal => cases h; subst h1; exact ⟨ι1, rfl, h2, h3, h4⟩
        | goto i => cases h; subst h1; exact ⟨ι1, rfl, h2, h3, h4⟩
        | ret => cases h; subst h1; exact ⟨ι1, rfl, h2, h3, h4⟩
        | exit i =>
          subst h1
          simp only [Bool.cond_eq_ite] at h
          cases h
          by_cases hid : i = id
          · subst hid
            simp only [toExit, Exit.inBlock, if_true]
            exact ⟨ι1, by simp [toExit], h2, h3, h4⟩
          · have hb : Nat.beq i id = false := by
              cases hb : Nat.beq i id with
              | false => rfl
              | true => exact absurd (Nat.eq_of_beq_eq_true hb) hid
            simp only [toExit, Exit.inBlock, if_neg hid]
            exact ⟨ι1, by simp [toExit, hb], h2, h3, h4⟩
    | loop b =>
      have hc' : codeOk E.ng b = true := hc
      exact wpIn_loop_rounds k (loopRun_ok (E := E) (P := P) ih hc' k s e s1 ι a w h hR hT hD hr (Step.refl hR))
    | scope b =>
      have hc' : codeOk E.ng b = true := hc
      exact wpIn_scope_rounds k (scopeRun_ok (E := E) (P := P) ih hc' k b s e s1 ι a w hc' h hR hT hD hr (Step.refl hR))
    | rangeFunc f ps asg body =>
      simp only [codeOk, Bool.and_eq_true] at hc
      simp only [exec_succ] at h
      split at h
      · rename_i g first captured hev
        split at h
        · cases h
        rename_i x hg
        split at h
        · rename_i L marks m1 he
          split at h
          · rename_i v m2 hk
            refine wpIn_rangeFunc fun fn _ => ?_
            obtain ⟨ι1, w1, t, mk, hL, hrun, hst, hdr⟩ := enterLoop_ok (P := P) hR hT hr hc.2.1 hc.2.2 he fn
            have hfv := ev_rel hR hT hc.1
            rw [hev] at hfv
            cases hfe : a.eval f with
            | func fn' first' captured' =>
              rw [hfe] at hfv
              cases hfv with
              | fn _ h1 h2 =>
                refine ⟨t.blk, mk, w1, { target := .fn (.func g) captured', args := first' ++ #[.func (.yield t.blk) #[] #[]] }, w1, g, first' ++ #[.func (.yield t.blk) #[] #[]] ++ captured', w1, hrun, ?_, fun _ _ => trivial, ?_, fun q => (by cases q), ?_⟩
                · show (Deferred.ofValue (a.eval f) (#[Operand.const (.func (.yield t.blk) #[] #[])].map a.eval)).run P w1 = _
                  rw [hfe]
                  simp [Deferred.ofValue, Act.eval]
                · show (callFunc g _).run P w1 = _
                  exact callFunc_enter hE hg _ w1
                · have hcall := hK.call (args' := first'.toList ++ (.func (.yield t.blk) #[] #[] :: captured'.toList)) hk hst.rel ((h1.mono hst.sub).append (.cons (.yld hL) (h2.mono hst.sub)))
                  rw [callFunc_enter hE hg] at hcall
                  have e1 : (first'.toList ++ (.func (.yield t.blk) #[] #[] :: captured'.toList)).toArray = first' ++ #[.func (.yield t.blk) #[] #[]] ++ captured' := by apply Array.ext'; simp
                  rw [e1] at hcall
                  have hcall' : CallsIn (fen r) 0 P g (first' ++ #[.func (.yield t.blk) #[] #[]] ++ captured') w1 (retOnly (Got E ι1 m1 w1 v m2)) := hcall
                  refine CallsIn.mono hcall' fun e3 w3 hg3 => ?_
                  cases e3 with
                  | panicked _ => exact hg3.elim
                  | outgrown => exact hg3.elim
                  | returned v' =>
                    obtain ⟨ι2, _, hst2⟩ := hg3
                    have hst12 := hst.trans hst2
                    split at h
                    · rename_i m3 hd
                      cases h
                      obtain ⟨w4, hrun4, hst4⟩ := endLoop_ok (P := P) hst2.rel (hst2.sub _ _ hL) hd
                      refine ⟨none, w4, hrun4, ι2, rfl, ?_, ?_, hst12.trans hst4⟩
                      · exact hT.mono hst12.sub
                      · exact (hdr _ _ (hD.mono hst.sub)).mono hst2.sub
                    · rename_i c' m3 hd
                      obtain ⟨w4, hrun4, hst4⟩ := endLoop_ok (P := P) hst2.rel (hst2.sub _ _ hL) hd
                      have hT4 : TR ι2 s.tm s.nt { a with defers := mk ++ a.defers }.tmps := hT.mono hst12.sub
                      have hD4 := (hdr _ _ (hD.mono hst.sub)).mono hst2.sub
                      have hst124 := hst12.trans hst4
                      refine ⟨some c', w4, hrun4, ?_⟩
                      cases c' with
                      | exit i => simp only [jumpOf] at h; cases h; exact wpIn_exit ⟨ι2, rfl, hT4, hD4, hst124⟩
                      | goto i => simp only [jumpOf] at h; cases h; exact wpIn_goto ⟨ι2, rfl, hT4, hD4, hst124⟩
                      | ret => simp only [jumpOf] at h; cases h; exact wpIn_ret ⟨ι2, rfl, hT4, hD4, hst124⟩
                      | _ => simp [jumpOf] at h
                    · cases h
            | _ => rw [hfe] at hfv; cases hfv
          · cases h
        · cases h
      · cases h

/-! ### Results -/
theorem resultV_ok (hE : EnvOk E P) (hR : Rel E ι m w) {tm : Tr Value} {nt : Nat} {tmps : Array Value} (hT : TR ι tm nt tmps) {x : ResultVar} {v : Value} (h : resultV E tm m x = some v) :
    ∃ v', (match x with | .tmp t => (Pure.pure (tmps.getD t undef) : Sem Value) | .cell a t => do loadVar t (← asAddr (tmps.getD a undef))).run P w = .ok v' w ∧ VR ι v v' := by
  cases x with
  | tmp t => simp only [resultV] at h; cases h; exact ⟨_, rfl, hT.2 t⟩
  | cell a t =>
    simp only [resultV] at h
    have ha := hT.2 a
    split at h
    · rename_i b hb
      rw [hb] at ha
      cases hx : tmps.getD a undef with
      | pointer p =>
        rw [hx] at ha
        cases p with
        | none => cases ha
        | some a' =>
          obtain ⟨v', h1, h2⟩ := sim_loadVar (P := P) hE hR h ha
          refine ⟨v', ?_, h2⟩
          show (asAddr (tmps.getD a undef) >>= fun b => loadVar t b).run P w = _
          rw [hx]
          simp [asAddr, h1]
      | _ => rw [hx] at ha; cases ha
    · cases h

theorem resultsV_ok (hE : EnvOk E P) (hR : Rel E ι m w) {tm : Tr Value} {nt : Nat} {tmps : Array Value} (hT : TR ι tm nt tmps) : ∀ {rs : List ResultVar} {vs : List Value}, resultsV E tm m rs = some vs →
    ∃ vs', (rs.mapM fun (x : ResultVar) => (match x with | .tmp t => (Pure.pure (tmps.getD t undef) : Sem Value) | .cell a t => do loadVar t (← asAddr (tmps.getD a undef)))).run P w = .ok vs' w ∧ VRs ι vs vs'
  | [], vs, h => by cases h; exact ⟨[], rfl, .nil⟩
  | x :: r, vs, h => by
    simp only [resultsV] at h
    split at h
    · rename_i v vs1 h1 h2
      cases h
      obtain ⟨v', e1, r1⟩ := resultV_ok (P := P) hE hR hT h1
      obtain ⟨vs', e2, r2⟩ := resultsV_ok hE hR hT h2
      refine ⟨v' :: vs', ?_, .cons r1 r2⟩
      rw [List.mapM_cons, Sem.run_bind, e1, Result.andThen_ok, Sem.run_bind, e2, Result.andThen_ok]
      rfl
    · cases h

theorem results_ok (hE : EnvOk E P) (hR : Rel E ι m w) {tm : Tr Value} {nt : Nat} {tmps : Array Value} (hT : TR ι tm nt tmps) {F : Func} {vs : List Value} (h : resultsV E tm m F.results.toList = some vs) :
    ∃ v', (results F tmps).run P w = .ok v' w ∧ VR ι (packV vs) v' := by
  obtain ⟨vs', h1, h2⟩ := resultsV_ok (P := P) hE hR hT h
  unfold results
  rw [Sem.run_bind, Array.mapM_eq_mapM_toList, map_eq_pure_bind, Sem.run_bind]
  generalize hG : Sem.run P (List.mapM _ F.results.toList) w = z
  have hz : z = .ok vs' w := by rw [← hG]; exact h1
  rw [hz]
  simp only [Result.andThen_ok, Sem.run_pure]
  cases h2 with
  | nil => exact ⟨_, rfl, .tuple .nil⟩
  | cons a b =>
    cases b with
    | nil => exact ⟨_, rfl, a⟩
    | cons b c => exact ⟨_, rfl, .tuple (.cons a (.cons b c))⟩

/-! ### Arguments -/
theorem argsT_at : ∀ (l : List Value) (i : Nat) (t : Tr Value) (x : Nat), (argsT i l t).at x = if i ≤ x ∧ x < i + l.length then l[x - i]? else t.at x := by
  intro l
  induction l with
  | nil => intro i t x; simp [argsT]; omega
  | cons v l ih =>
    intro i t x
    simp only [argsT, ih, Tr.at_put, List.length_cons]
    by_cases h : x = i
    · subst h
      rw [if_neg (by omega), if_pos rfl, if_pos (by omega)]
      simp
    · rw [if_neg h]
      by_cases h2 : i + 1 ≤ x ∧ x < i + 1 + l.length
      · rw [if_pos h2, if_pos (by omega)]
        have : x - i = (x - (i + 1)) + 1 := by omega
        rw [this, List.getElem?_cons_succ]
      · rw [if_neg h2, if_neg (by omega)]

theorem args_TR {args args' : List Value} (h : VRs ι args args') {n : Nat} (hn : args.length ≤ n) : TR ι (argsT 0 args .nil) n (args'.toArray ++ Array.replicate (n - args'.toArray.size) undef) := by
  have hl := h.length
  refine ⟨by simp; omega, fun x => ?_⟩
  simp only [ev, argsT_at]
  by_cases hx : x < args.length
  · rw [if_pos (by omega)]
    have h1 : args[x]? = some args[x] := List.getElem?_eq_getElem hx
    obtain ⟨v', e, r⟩ := h.get h1
    simp only [Nat.sub_zero, h1]
    have : (args'.toArray ++ Array.replicate (n - args'.toArray.size) undef).getD x undef = v' := by
      rw [Array.getD_eq_getD_getElem?, Array.getElem?_append_left (by simp; omega)]
      simp [e]
    rw [this]; exact r
  · rw [if_neg (by omega), Tr.at_nil]
    have : (args'.toArray ++ Array.replicate (n - args'.toArray.size) undef).getD x undef = undef := by
      rw [Array.getD_eq_getD_getElem?, Array.getElem?_append_right (by simp; omega), Array.getElem?_replicate]
      split <;> rfl
    rw [this]; exact VR.undef

/-! ### Calls -/
theorem leaves_ok (hE : EnvOk E P) {F : Func} {tmps : Array Value} {tm : Tr Value} {nt : Nat} {next : Value → World → Prop} {vs : List Value} : ∀ {df : List Nat} {ds : List Deferred} {ι : Inj} {m m1 : Mem} {w : World},
    DR ι df ds → takeMarks df m = some m1 → Rel E ι m w → TR ι tm nt tmps → resultsV E tm m1 F.results.toList = some vs →
    (∀ v' w1, VR ι (packV vs) v' → Step E ι m w ι m1 w1 → next v' w1) → LeavesInM Fence.wide 0 P F tmps (retOnly next) ds .returning w := by
  intro df
  induction df with
  | nil =>
    intro ds ι m m1 w hD ht hR hT hv hn
    cases hD
    cases ht
    obtain ⟨v', h1, h2⟩ := results_ok hE hR hT hv
    exact ⟨v', h1, hn v' w h2 (Step.refl hR)⟩
  | cons D df ih =>
    intro ds ι m m1 w hD ht hR hT hv hn
    cases hD with
    | @cons _ t _ ds hDt hs =>
      unfold takeMarks at ht
      simp only [Bool.cond_eq_ite] at ht
      split at ht
      · rename_i hg
        split at ht
        · rename_i hb
          have ho := hR.obj _ _ _ hDt hg
          have hst : Step E ι m w ι (m.upd D none) (w.putObj t.blk (.deferred none)) :=
            Step.del hR hDt hg (fun _ _ _ _ e => by cases e) (Nat.le_of_ble_eq_true hb) (fun c hc => World.putObj_heap_other hc) World.putObj_size rfl rfl rfl
          refine ⟨by simp, .inl ⟨t.blk, _, rfl, run_takeDeferred ho, ?_⟩⟩
          exact ih hs ht hst.rel hT hv fun v' w1 hv' hst' => hn v' w1 hv' (hst.trans hst')
        · cases ht
      · cases ht

theorem callBody_ok (hE : EnvOk E P) (hK : KOk E P K) (hkeep : KKeep K) {j f : Nat} {x : Fun} {args args' : List Value} {v : Value} (hf : E.fn f = some x) (h : callBody E K j x args m = some (v, m1))
    (hR : Rel E ι m w) (ha : VRs ι args args') : CallsIn Fence.wide 0 P f args'.toArray w (retOnly (Got E ι m w v m1)) := by
  obtain ⟨F, hF, hb, hnt, hres, _, hco⟩ := hE.fn f x hf
  unfold callBody at h
  simp only [Bool.cond_eq_ite] at h
  split at h
  · rename_i hle
    have hle := Nat.le_of_ble_eq_true hle
    split at h
    · rename_i e s hx
      refine callsIn_of_wp_marks hF hb trivial ?_
      have hT := args_TR ha hle
      rw [← hnt] at hT
      refine wpIn_mono (exec_ok hE hK hkeep j x.body _ e s ι { tmps := args'.toArray ++ Array.replicate (F.ntmps - args'.toArray.size) undef, defers := [] } w none hco hx hR (by rw [← hnt]; exact hT) .nil trivial) fun e' a' w' hp => ?_
      obtain ⟨ι1, h1, h2, h3, h4⟩ := hp
      have fin : (match takeMarks s.df s.m with
          | some m1 => match resultsV E s.tm m1 x.results with
            | some vs => some (packV vs, m1)
            | none => none
          | none => none) = some (v, m1) → LeavesInM Fence.wide 0 P F a'.tmps (retOnly (Got E ι m w v m1)) a'.defers .returning w' := by
        intro h
        split at h
        · rename_i m2 ht
          split at h
          · rename_i vs hv
            cases h
            exact leaves_ok hE h3 ht h4.rel h2 (by rw [hres]; exact hv) fun v' w1 hv' hst => ⟨ι1, hv', h4.trans hst⟩
          · cases h
        · cases h
      cases e with
      | normal => subst h1; exact fin h
      | ret => subst h1; exact fin h
      | exit i => cases h
      | goto i => cases h
    · cases h
  · cases h

/-! ### Rounds -/
theorem params_TR : ∀ {ps : List Tmp} {args args' : List Value} {tm tm1 : Tr Value} {nt : Nat} {tmps : Array Value}, VRs ι args args' → paramsT ps args tm nt = some tm1 → TR ι tm nt tmps →
    ps.length = args'.length ∧ TR ι tm1 nt ((ps.zip args').foldl (fun tmps (p : Tmp × Value) => tmps.setIfInBounds p.1 p.2) tmps)
  | [], _, _, tm, tm1, nt, tmps, .nil, h, hT => by cases h; exact ⟨rfl, hT⟩
  | [], _, _, tm, tm1, nt, tmps, .cons _ _, h, hT => by cases h
  | p :: ps, _, _, tm, tm1, nt, tmps, .nil, h, hT => by cases h
  | p :: ps, _, _, tm, tm1, nt, tmps, .cons (v := v) (v' := v') hv hs, h, hT => by
    simp only [paramsT, Bool.cond_eq_ite] at h
    split at h
    · rename_i hlt
      have hp : putT tm nt (some p) v = some (tm.put p (some v)) := by simp [putT, hlt]
      have hT' := TR.put (a := { tmps := tmps, defers := [] }) hT hp hv
      obtain ⟨h1, h2⟩ := params_TR hs h hT'
      exact ⟨by simp [h1], h2⟩
    · cases h

theorem roundBody_ok (hE : EnvOk E P) (hK : KOk E P K) (hkeep : KKeep K) {j l : Nat} {t : Tgt} {args args' : List Value} {v : Value} (h : roundBody E K j l args m = some (v, m1))
    (hR : Rel E ι m w) (hl : ι l = some t) (ha : VRs ι args args') : Upon P (Got E ι m w v m1) ((Instr.yield t.blk args'.toArray).run P w) := by
  unfold roundBody at h
  split at h
  · rename_i pend tm nt ps asg body D hg
    obtain ⟨h0, hca, hcb, fn, tmps, D', hh, hT⟩ := hR.obj _ _ _ hl hg
    split at h
    · rename_i tm1 hp
      obtain ⟨hlen, hT1⟩ := params_TR ha hp hT
      rw [run_yield hh (by simp [hlen])]
      refine roundIn_of_wpIn (F := Fence.wide) trivial ?_
      have etm : ((ps.toArray.zip args'.toArray).foldl (fun tmps (x : Tmp × Value) => tmps.setIfInBounds x.1 x.2) tmps) = ((ps.zip args').foldl (fun tmps (p : Tmp × Value) => tmps.setIfInBounds p.1 p.2) tmps) := by
        simp
      split at h
      · rename_i s1 hx
        have hrr : RR ι (some l) (some t.blk) := ⟨t, hl, rfl⟩
        have hT1' : TR ι tm1 nt ({ tmps := ((ps.toArray.zip args'.toArray).foldl (fun tmps (x : Tmp × Value) => tmps.setIfInBounds x.1 x.2) tmps), defers := [] } : Act).tmps := by
          show TR ι tm1 nt _
          rw [etm]; exact hT1
        refine wpIn_mono (exec_ok hE hK hkeep j asg _ .normal s1 ι _ w (some t.blk) hca hx hR hT1' .nil hrr) fun e' a' w' hpx => ?_
        obtain ⟨ι1, e1, h2, h3, h4⟩ := hpx
        subst e1
        split at h
        · rename_i pend2 tm2 nt2 ps2 asg2 body2 D2 hg2
          simp only [Bool.cond_eq_ite] at h
          split at h
          · rename_i hb1
            have hl1 := h4.sub _ _ hl
            obtain ⟨k0, kca, kcb, fn2, tmps2, D2', kh, kT⟩ := h4.rel.obj _ _ _ hl1 hg2
            have hst2 : Step E ι1 s1.m w' ι1 (s1.m.upd l (some (.loop .busy pend2 tm2 nt2 ps2 asg2 body2 D2))) (w'.putObj t.blk (.loop { state := .busy, pending := pend2, fn := fn2, tmps := tmps2, params := ps2.toArray, assign := asg2, body := body2, defers := D2' })) :=
              Step.upd h4.rel hl1 hg2 (fun _ _ _ _ e => by cases e) (fun _ _ _ _ e => by cases e) (Nat.le_of_ble_eq_true hb1) (fun c hc => World.putObj_heap_other hc) World.putObj_size rfl rfl rfl
                ⟨k0, kca, kcb, fn2, tmps2, D2', World.putObj_heap_same (h4.rel.dom _ _ hl1).2, kT⟩
            refine ⟨_, run_beginRound kh rfl, ?_⟩
            split at h
            · rename_i e s2 hy
              refine wpIn_mono (exec_ok hE hK hkeep j body _ e s2 ι1 a' _ (some t.blk) hcb hy hst2.rel h2 h3 ⟨t, hl1, rfl⟩) fun e' a'' w'' hpy => ?_
              obtain ⟨ι2, e2, q2, q3, q4⟩ := hpy
              subst e2
              split at h
              · rename_i st3 pend3 tm3 nt3 ps3 asg3 body3 D3 hg3
                split at h
                · rename_i hb2
                  have hl2 := q4.sub _ _ hl1
                  obtain ⟨g0, gca, gcb, fn3, tmps3, D3', gh, gT⟩ := q4.rel.obj _ _ _ hl2 hg3
                  have fin : ∀ (jump : Option Code) (st4 : LoopState), (if jump.isNone then .ready else .done) = st4 →
                      Step E ι2 s2.m w'' ι2 (s2.m.upd l (some (.loop st4 jump tm3 nt3 ps3 asg3 body3 D3))) (w''.putObj t.blk (.loop { state := if jump.isNone then .ready else .done, pending := jump, fn := fn3, tmps := tmps3, params := ps3.toArray, assign := asg3, body := body3, defers := D3' })) := by
                    intro jump st4 hst4
                    subst hst4
                    exact Step.upd q4.rel hl2 hg3 (fun _ _ _ _ e => by cases e) (fun _ _ _ _ e => by cases e) (Nat.le_of_ble_eq_true hb2) (fun c hc => World.putObj_heap_other hc) World.putObj_size rfl rfl rfl
                      ⟨g0, gca, gcb, fn3, tmps3, D3', World.putObj_heap_same (q4.rel.dom _ _ hl2).2, gT⟩
                  have all := (h4.trans hst2).trans q4
                  cases e with
                  | normal => cases h; exact ⟨_, _, run_endRound none gh, ι2, .bool true, all.trans (fin none .ready rfl)⟩
                  | exit i => cases h; exact ⟨_, _, run_endRound (some (.exit i)) gh, ι2, .bool false, all.trans (fin (some (.exit i)) .done rfl)⟩
                  | goto i => cases h; exact ⟨_, _, run_endRound (some (.goto i)) gh, ι2, .bool false, all.trans (fin (some (.goto i)) .done rfl)⟩
                  | ret => cases h; exact ⟨_, _, run_endRound (some .ret) gh, ι2, .bool false, all.trans (fin (some .ret) .done rfl)⟩
                · cases h
              · cases h
            · cases h
          · cases h
        · cases h
      · cases h
    · cases h
  · cases h

/-! ### The whole -/
def ExtOk (E : Env) (P : Program) : Prop := ∀ {f : Nat} {g : List Value → Mem → Option (Value × Mem)} {args args' : List Value} {m m1 : Mem} {v : Value} {ι : Inj} {w : World},
  E.ext f = some g → g args m = some (v, m1) → Rel E ι m w → VRs ι args args' → Upon P (Got E ι m w v m1) ((callFunc f args'.toArray).run P w)

theorem run_ok (hE : EnvOk E P) (hX : ExtOk E P) (hXk : ExtKeep E) {j : Nat} : ∀ k, KOk E P (run E j k) := by
  intro k
  induction k with
  | zero => exact ⟨fun h => (by cases h), fun h => (by cases h)⟩
  | succ k ih =>
    refine ⟨fun {f args m m1 v ι w args'} h hR ha => ?_, fun {l args m m1 v ι w args' t} h hR hl ha => ?_⟩
    · simp only [run] at h
      split at h
      · rename_i g hg
        exact hX hg h hR ha
      · split at h
        · rename_i x hx
          rw [callFunc_enter hE hx]
          exact callBody_ok hE ih (run_keep hXk k) hx h hR ha
        · cases h
    · exact roundBody_ok hE ih (run_keep hXk k) h hR hl ha
end
end Go.Am
