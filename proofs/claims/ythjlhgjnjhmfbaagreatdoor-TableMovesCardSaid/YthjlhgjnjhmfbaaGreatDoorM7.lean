/- TableMoves holds. Part 7 of 29; no condition. -/
import Derived.Test.YthjlhgjnjhmfbaaGreatDoorM6
set_option linter.unusedVariables false
set_option linter.unusedSimpArgs false
namespace Go.Pm
open Go.RowKit Go.Am
section
variable {E : Env} {P : Program} {rd : Option (Nat × Nat)} {s s' : PSt} {Q Q' : AExit -> PSt -> Prop} {a b : RC}
def RX (E : Env) (P : Program) (rd : Option (Nat × Nat)) (c : RC) (s : PSt) (Q : AExit -> PSt -> Prop) : Prop := ∀ code, comp E code = c -> PX E P rd code s Q
def RXL (E : Env) (P : Program) (rd : Option (Nat × Nat)) (c : RC) (s : PSt) (Q : AExit -> PSt -> Prop) : Prop := ∀ code, comp E code = c -> PXL E P rd code s Q
theorem comp_region {id : Nat} {ops : Array Oper} {d : Bool} : (∃ l, comp E (.region id ops d) = .ops l) \/ (∃ ok l, comp E (.region id ops d) = .drawn ok l) \/ comp E (.region id ops d) = .refuse := by
 simp only [comp]
 cases d with
 | false => exact .inl ⟨_, rfl⟩
 | true =>
  simp only
  split
  ·exact .inr (.inl ⟨_, _, rfl⟩)
  ·exact .inr (.inr rfl)
theorem RX.skip (q : Q .normal s) : RX E P rd .skip s Q := fun code h => by
 cases code with
 | skip => exact PX.skip q
 | label l => exact PX.label q
 | region id ops d => rcases comp_region (E := E) (id := id) (ops := ops) (d := d) with ⟨l, e⟩ | ⟨ok, l, e⟩ | e <;> rw [e] at h <;> cases h
 | _ => cases h
theorem RX.exit {i : Nat} (q : Q (.exit i) s) : RX E P rd (.exit i) s Q := fun code h => by
 cases code with
 | exit j => cases h; exact PX.exit q
 | region id ops d => rcases comp_region (E := E) (id := id) (ops := ops) (d := d) with ⟨l, e⟩ | ⟨ok, l, e⟩ | e <;> rw [e] at h <;> cases h
 | _ => cases h
theorem RX.goto {i : Nat} (q : Q (.goto i) s) : RX E P rd (.goto i) s Q := fun code h => by
 cases code with
 | goto j => cases h; exact PX.goto q
 | region id ops d => rcases comp_region (E := E) (id := id) (ops := ops) (d := d) with ⟨l, e⟩ | ⟨ok, l, e⟩ | e <;> rw [e] at h <;> cases h
 | _ => cases h
theorem RX.ret (q : Q .ret s) : RX E P rd .ret s Q := fun code h => by
 cases code with
 | ret => exact PX.ret q
 | region id ops d => rcases comp_region (E := E) (id := id) (ops := ops) (d := d) with ⟨l, e⟩ | ⟨ok, l, e⟩ | e <;> rw [e] at h <;> cases h
 | _ => cases h
def thenR (E : Env) (P : Program) (rd : Option (Nat × Nat)) (b : RC) (Q : AExit -> PSt -> Prop) : AExit -> PSt -> Prop
 | .normal, s => RX E P rd b s Q
 | e, s => Q e s
theorem RX.seq (h : RX E P rd a s (thenR E P rd b Q)) : RX E P rd (.seq a b) s Q := fun code e => by
 cases code with
 | seq x y =>
  simp only [comp, RC.seq.injEq] at e
  refine PX.seq ((h x e.1).mono fun e1 s1 k => ?_)
  cases e1 with
  | normal => exact k y e.2
  | exit i => exact k
  | goto i => exact k
  | ret => exact k
 | region id ops d => rcases comp_region (E := E) (id := id) (ops := ops) (d := d) with ⟨l, e1⟩ | ⟨ok, l, e1⟩ | e1 <;> rw [e1] at e <;> cases e
 | _ => cases e
theorem RX.cond {x : PSt -> PV} {v : Bool} (hv : x s = .v (.bool v)) (h1 : v = true -> RX E P rd a s Q) (h2 : v = false -> RX E P rd b s Q) : RX E P rd (.cond x a b) s Q := fun code e => by
 cases code with
 | cond y p q =>
  simp only [comp, RC.cond.injEq] at e
  obtain ⟨rfl, e1, e2⟩ := e
  exact PX.cond hv (fun k => h1 k p e1) (fun k => h2 k q e2)
 | region id ops d => rcases comp_region (E := E) (id := id) (ops := ops) (d := d) with ⟨l, e1⟩ | ⟨ok, l, e1⟩ | e1 <;> rw [e1] at e <;> cases e
 | _ => cases e
theorem RX.block {id : Nat} (h : RX E P rd a s (fun e s1 => Q (inBlk id e) s1)) : RX E P rd (.block id a) s Q := fun code e => by
 cases code with
 | block i y =>
  simp only [comp, RC.block.injEq] at e
  obtain ⟨rfl, e1⟩ := e
  exact PX.block (h y e1)
 | region id ops d => rcases comp_region (E := E) (id := id) (ops := ops) (d := d) with ⟨l, e1⟩ | ⟨ok, l, e1⟩ | e1 <;> rw [e1] at e <;> cases e
 | _ => cases e
theorem RX.loop (h : RXL E P rd a s Q) : RX E P rd (.loop a) s Q := fun code e => by
 cases code with
 | loop y =>
  simp only [comp, RC.loop.injEq] at e
  exact PX.loop (h y e)
 | region id ops d => rcases comp_region (E := E) (id := id) (ops := ops) (d := d) with ⟨l, e1⟩ | ⟨ok, l, e1⟩ | e1 <;> rw [e1] at e <;> cases e
 | _ => cases e
def thenRL (E : Env) (P : Program) (rd : Option (Nat × Nat)) (b : RC) (Q : AExit -> PSt -> Prop) : AExit -> PSt -> Prop
 | .normal, s => RXL E P rd b s Q
 | e, s => Q e s
theorem RXL.round (h : RX E P rd a s (thenRL E P rd a Q)) : RXL E P rd a s Q := fun code e =>
 PXL.round ((h code e).mono fun e1 s1 k => by
  cases e1 with
  | normal => exact k code e
  | exit i => exact k
  | goto i => exact k
  | ret => exact k)
theorem RX.scope {c : Code} (h : PXS E P rd c c s Q) : RX E P rd (.scope c) s Q := fun code e => by
 cases code with
 | scope y => cases e; exact PX.scope h
 | region id ops d => rcases comp_region (E := E) (id := id) (ops := ops) (d := d) with ⟨l, e1⟩ | ⟨ok, l, e1⟩ | e1 <;> rw [e1] at e <;> cases e
 | _ => cases e
theorem RX.ops (hE : EnvOk E P) {l : List RI} (h : RPO E P l s (Q .normal)) : RX E P rd (.ops l) s Q := fun code e => by
 cases code with
 | region id ops d =>
  cases d with
  | false =>
   simp only [comp, RC.ops.injEq] at e
   subst e
   exact PX.region hE (RPO.sound hE h)
  | true =>
   simp only [comp] at e
   split at e <;> cases e
 | _ => cases e
theorem RX.drawn (hE : EnvOk E P) {l : List RD} (h : RPD E P l s (Q .normal)) : RX E P rd (.drawn true l) s Q := fun code e => by
 cases code with
 | region id ops d =>
  cases d with
  | false => simp only [comp] at e; cases e
  | true =>
   simp only [comp] at e
   split at e
   ·rename_i l' ha
    simp only [RC.drawn.injEq, Bool.and_eq_true] at e
    obtain ⟨⟨e1, e2⟩, rfl⟩ := e
    exact PX.drawn hE ha e1 e2 (RPD.sound hE h)
   ·cases e
 | _ => cases e
theorem RX.range (hE : EnvOk E P) {f : PSt -> PV} {ps : List Tmp} {asg body : Code} {g : Nat} {x : Fun} {first captured : List PV} (hf : f s = .fn g first captured) (hg : E.fn g = some x)
  (hrd : ∀ k i, rd = some (k, i) -> ∃ w st pend tm nt ps asg body, s.look k i = some (.loop w st pend tm nt ps asg body))
  (h : PT E P g (first ++ (.yld s.k s.os.length :: captured)) (seg s.M s.k (s.os ++ [.loop true .ready none s.tm s.nt ps asg body])) (fun _ M1 => ∃ os1 M2 st pend tm' nt' ps' asg' body', os1.length = s.os.length + 1 /\ MLe M1 (seg M2 s.k os1) ∧
   os1[s.os.length]? = some (.loop true st pend tm' nt' ps' asg' body') /\ st ≠ .busy /\ ∃ e, pendExit pend = some e /\ Q e { s with os := os1.set s.os.length (.loop true .exhausted pend tm' nt' ps' asg' body'), M := M2 })) :
  RX E P rd (.range f ps asg body) s Q := fun code e => by
 cases code with
 | rangeFunc f0 ps0 asg0 body0 =>
  simp only [comp, RC.range.injEq] at e
  obtain ⟨rfl, rfl, rfl, rfl⟩ := e
  exact PX.rangeFunc hE hf hg hrd h
 | region id ops d => rcases comp_region (E := E) (id := id) (ops := ops) (d := d) with ⟨l, e1⟩ | ⟨ok, l, e1⟩ | e1 <;> rw [e1] at e <;> cases e
 | _ => cases e
theorem RX.mono (h : RX E P rd a s Q') (hq : ∀ e s1, Q' e s1 -> Q e s1) : RX E P rd a s Q := fun code e => (h code e).mono hq
theorem RX.conseq (h : RX E P rd a s Q') (hq : ∀ e s1, s1.k = s.k -> s1.nt = s.nt -> Q' e s1 -> ∃ s2, SLe s1 s2 /\ Q e s2) : RX E P rd a s Q := fun code e => (h code e).conseq hq
theorem RX.weak (hs : SLe s s') (h : RX E P rd a s' Q) : RX E P rd a s Q := fun code e => (h code e).weak hs
theorem RXL.weak (hs : SLe s s') (h : RXL E P rd a s' Q) : RXL E P rd a s Q := fun code e => (h code e).weak hs
theorem RX.push (h : ∀ k', k' ≠ s.k -> 0 < k' -> fresh s.M k' -> RX E P rd a { s with k := k', os := [], M := s.mem } (fun e s1 => ∃ os1 M1, os1.length = s.os.length /\ MLe s1.mem (seg M1 s.k os1) /\ Q e { s1 with k := s.k, os := os1, M := M1 })) : RX E P rd a s Q :=
 fun code e => PX.push fun k' h1 h2 h3 => h k' h1 h2 h3 code e
theorem PTk.enterR (hE : EnvOk E P) {f nt : Nat} {res : List ResultVar} {body : Code} {c : RC} {args : List PV} {M : PMem} {R : Nat -> PV -> PMem -> Prop} (hf : E.fn f = some ⟨nt, res, body⟩) (hle : args.length <= nt) (hc : comp E body = c)
  (h : ∀ k, 0 < k -> fresh M k -> RX E P none c ⟨argsP 0 args, nt, k, [], M⟩ (ends E ⟨nt, res, body⟩ (R k))) : PTk E P f args M R :=
 PTk.enter hE hf hle fun k h1 h2 => h k h1 h2 body hc
theorem PT.enterR (hE : EnvOk E P) {f nt : Nat} {res : List ResultVar} {body : Code} {c : RC} {args : List PV} {M : PMem} {R : PV -> PMem -> Prop} (hf : E.fn f = some ⟨nt, res, body⟩) (hle : args.length <= nt) (hc : comp E body = c)
  (h : ∀ k, 0 < k -> fresh M k -> RX E P none c ⟨argsP 0 args, nt, k, [], M⟩ (ends E ⟨nt, res, body⟩ R)) : PT E P f args M R :=
 PT.enter hE hf hle fun k h1 h2 => h k h1 h2 body hc
theorem SLe.tms {tm tm' : List (Nat × PV)} {nt k : Nat} {os : List Obj} {M : PMem} (h : ∀ i, PLe (tget tm i) (tget tm' i)) : SLe ⟨tm, nt, k, os, M⟩ ⟨tm', nt, k, os, M⟩ := ⟨h, rfl, rfl, rfl, .refl _⟩
theorem keepT {tm : List (Nat × PV)} : ∀ {tm' : List (Nat × PV)}, (∀ p ∈ tm', PLe (tget tm p.1) p.2) -> ∀ i, PLe (tget tm i) (tget tm' i)
 | [], _, i => .junk _
 | (j, v) :: r, h, i => by
  simp only [tget_cons]
  by_cases hi : i = j
  ·rw [if_pos hi]; subst hi; exact h (i, v) List.mem_cons_self
  ·rw [if_neg hi]; exact keepT (fun p hp => h p (List.mem_cons_of_mem _ hp)) i
end
theorem seg_same (M : PMem) (k : Nat) (os : List Obj) (i : Nat) : seg M k os k i = os[i]? := by simp [seg]
theorem seg_ne {k k' : Nat} (M : PMem) (os : List Obj) (i : Nat) (h : k' ≠ k) : seg M k os k' i = M k' i := by simp [seg, h]
theorem MLe.pop {M : PMem} {k : Nat} {os : List Obj} (h : fresh M k) : MLe (seg M k os) M := fun k' i o e => by
 refine ⟨o, ?_, .refl o⟩
 rw [seg_ne _ _ _ (fun hk => by subst hk; rw [h i] at e; cases e)]
 exact e
theorem fresh_ne {M : PMem} {k k' i : Nat} {o : Obj} (h : fresh M k) (e : M k' i = some o) : k' ≠ k := fun hk => by subst hk; rw [h i] at e; cases e
theorem fresh_seg {M : PMem} {k k' : Nat} {os : List Obj} (h : fresh M k) (hk : k ≠ k') : fresh (seg M k' os) k := fun i => by rw [seg_ne _ _ _ hk]; exact h i
theorem putM_same (M : PMem) (k i : Nat) (o : Obj) : putM M k i o k i = some o := by simp [putM]
end Go.Pm