/- ShelfOrder holds. Part 7 of 32; no condition. -/
import Derived.Test.YtlbjplpehkgcdaaGreatDoorM6
set_option linter.unusedVariables false
set_option linter.unusedSimpArgs false
namespace Go.Pm
open Go.RowKit Go.Am
section
variable {E : i9} {P : Program} {rd : Option (Nat × Nat)} {s s' : d9} {Q Q' : f7 -> d9 -> Prop} {a b : RC}
def RX (E : i9) (P : Program) (rd : Option (Nat × Nat)) (c : RC) (s : d9) (Q : f7 -> d9 -> Prop) : Prop := ∀ code, l9 E code = c -> PX E P rd code s Q
def w7 (E : i9) (P : Program) (rd : Option (Nat × Nat)) (c : RC) (s : d9) (Q : f7 -> d9 -> Prop) : Prop := ∀ code, l9 E code = c -> PXL E P rd code s Q
theorem C6 {id : Nat} {ops : Array Oper} {d : Bool} : (∃ l, l9 E (.region id ops d) = .ops l) \/ (∃ ok l, l9 E (.region id ops d) = .drawn ok l) \/ l9 E (.region id ops d) = .refuse := by
 simp only [l9]
 cases d with
 | false => exact .inl ⟨_, rfl⟩
 | true =>
  simp only
  split
  ·exact .inr (.inl ⟨_, _, rfl⟩)
  ·exact .inr (.inr rfl)
theorem RX.skip (q : Q .normal s) : RX E P rd .skip s Q := fun code h => by
 cases code with
 | skip => exact PX.skip q
 | label l => exact PX.label q
 | region id ops d => rcases C6 (E := E) (id := id) (ops := ops) (d := d) with ⟨l, e⟩ | ⟨ok, l, e⟩ | e <;> rw [e] at h <;> cases h
 | _ => cases h
theorem RX.exit {i : Nat} (q : Q (.exit i) s) : RX E P rd (.exit i) s Q := fun code h => by
 cases code with
 | exit j => cases h; exact PX.exit q
 | region id ops d => rcases C6 (E := E) (id := id) (ops := ops) (d := d) with ⟨l, e⟩ | ⟨ok, l, e⟩ | e <;> rw [e] at h <;> cases h
 | _ => cases h
theorem RX.goto {i : Nat} (q : Q (.goto i) s) : RX E P rd (.goto i) s Q := fun code h => by
 cases code with
 | goto j => cases h; exact PX.goto q
 | region id ops d => rcases C6 (E := E) (id := id) (ops := ops) (d := d) with ⟨l, e⟩ | ⟨ok, l, e⟩ | e <;> rw [e] at h <;> cases h
 | _ => cases h
theorem RX.ret (q : Q .ret s) : RX E P rd .ret s Q := fun code h => by
 cases code with
 | ret => exact PX.ret q
 | region id ops d => rcases C6 (E := E) (id := id) (ops := ops) (d := d) with ⟨l, e⟩ | ⟨ok, l, e⟩ | e <;> rw [e] at h <;> cases h
 | _ => cases h
def bA0 (E : i9) (P : Program) (rd : Option (Nat × Nat)) (b : RC) (Q : f7 -> d9 -> Prop) : f7 -> d9 -> Prop
 | .normal, s => RX E P rd b s Q
 | e, s => Q e s
theorem RX.seq (h : RX E P rd a s (bA0 E P rd b Q)) : RX E P rd (.seq a b) s Q := fun code e => by
 cases code with
 | seq x y =>
  simp only [l9, RC.seq.injEq] at e
  refine PX.seq ((h x e.1).mono fun e1 s1 k => ?_)
  cases e1 with
  | normal => exact k y e.2
  | exit i => exact k
  | goto i => exact k
  | ret => exact k
 | region id ops d => rcases C6 (E := E) (id := id) (ops := ops) (d := d) with ⟨l, e1⟩ | ⟨ok, l, e1⟩ | e1 <;> rw [e1] at e <;> cases e
 | _ => cases e
theorem RX.cond {x : d9 -> PV} {v : Bool} (hv : x s = .v (.bool v)) (h1 : v = true -> RX E P rd a s Q) (h2 : v = false -> RX E P rd b s Q) : RX E P rd (.cond x a b) s Q := fun code e => by
 cases code with
 | cond y p q =>
  simp only [l9, RC.cond.injEq] at e
  obtain ⟨rfl, e1, e2⟩ := e
  exact PX.cond hv (fun k => h1 k p e1) (fun k => h2 k q e2)
 | region id ops d => rcases C6 (E := E) (id := id) (ops := ops) (d := d) with ⟨l, e1⟩ | ⟨ok, l, e1⟩ | e1 <;> rw [e1] at e <;> cases e
 | _ => cases e
theorem RX.block {id : Nat} (h : RX E P rd a s (fun e s1 => Q (nD id e) s1)) : RX E P rd (.block id a) s Q := fun code e => by
 cases code with
 | block i y =>
  simp only [l9, RC.block.injEq] at e
  obtain ⟨rfl, e1⟩ := e
  exact PX.block (h y e1)
 | region id ops d => rcases C6 (E := E) (id := id) (ops := ops) (d := d) with ⟨l, e1⟩ | ⟨ok, l, e1⟩ | e1 <;> rw [e1] at e <;> cases e
 | _ => cases e
theorem RX.loop (h : w7 E P rd a s Q) : RX E P rd (.loop a) s Q := fun code e => by
 cases code with
 | loop y =>
  simp only [l9, RC.loop.injEq] at e
  exact PX.loop (h y e)
 | region id ops d => rcases C6 (E := E) (id := id) (ops := ops) (d := d) with ⟨l, e1⟩ | ⟨ok, l, e1⟩ | e1 <;> rw [e1] at e <;> cases e
 | _ => cases e
def lQ (E : i9) (P : Program) (rd : Option (Nat × Nat)) (b : RC) (Q : f7 -> d9 -> Prop) : f7 -> d9 -> Prop
 | .normal, s => w7 E P rd b s Q
 | e, s => Q e s
theorem w7.round (h : RX E P rd a s (lQ E P rd a Q)) : w7 E P rd a s Q := fun code e =>
 PXL.round ((h code e).mono fun e1 s1 k => by
  cases e1 with
  | normal => exact k code e
  | exit i => exact k
  | goto i => exact k
  | ret => exact k)
theorem RX.scope {c : Code} (h : PXS E P rd c c s Q) : RX E P rd (.scope c) s Q := fun code e => by
 cases code with
 | scope y => cases e; exact PX.scope h
 | region id ops d => rcases C6 (E := E) (id := id) (ops := ops) (d := d) with ⟨l, e1⟩ | ⟨ok, l, e1⟩ | e1 <;> rw [e1] at e <;> cases e
 | _ => cases e
theorem RX.ops (hE : e7 E P) {l : List RI} (h : T8 E P l s (Q .normal)) : RX E P rd (.ops l) s Q := fun code e => by
 cases code with
 | region id ops d =>
  cases d with
  | false =>
   simp only [l9, RC.ops.injEq] at e
   subst e
   exact PX.region hE (T8.sound hE h)
  | true =>
   simp only [l9] at e
   split at e <;> cases e
 | _ => cases e
theorem RX.drawn (hE : e7 E P) {l : List RD} (h : V0 E P l s (Q .normal)) : RX E P rd (.drawn true l) s Q := fun code e => by
 cases code with
 | region id ops d =>
  cases d with
  | false => simp only [l9] at e; cases e
  | true =>
   simp only [l9] at e
   split at e
   ·rename_i l' ha
    simp only [RC.drawn.injEq, Bool.and_eq_true] at e
    obtain ⟨⟨e1, e2⟩, rfl⟩ := e
    exact PX.drawn hE ha e1 e2 (V0.sound hE h)
   ·cases e
 | _ => cases e
theorem RX.range (hE : e7 E P) {f : d9 -> PV} {ps : List Tmp} {asg body : Code} {g : Nat} {x : nA} {first captured : List PV} (hf : f s = .fn g first captured) (hg : E.fn g = some x)
  (hrd : ∀ k i, rd = some (k, i) -> ∃ w st pend tm nt ps asg body, s.look k i = some (.loop w st pend tm nt ps asg body))
  (h : PT E P g (first ++ (.yld s.k s.os.length :: captured)) (seg s.M s.k (s.os ++ [.loop true .ready none s.tm s.nt ps asg body])) (fun _ M1 => ∃ os1 M2 st pend tm' nt' ps' asg' body', os1.length = s.os.length + 1 /\ O6 M1 (seg M2 s.k os1) ∧
   os1[s.os.length]? = some (.loop true st pend tm' nt' ps' asg' body') /\ st ≠ .busy /\ ∃ e, eU pend = some e /\ Q e { s with os := os1.set s.os.length (.loop true .exhausted pend tm' nt' ps' asg' body'), M := M2 })) :
  RX E P rd (.range f ps asg body) s Q := fun code e => by
 cases code with
 | rangeFunc f0 ps0 asg0 body0 =>
  simp only [l9, RC.range.injEq] at e
  obtain ⟨rfl, rfl, rfl, rfl⟩ := e
  exact PX.rangeFunc hE hf hg hrd h
 | region id ops d => rcases C6 (E := E) (id := id) (ops := ops) (d := d) with ⟨l, e1⟩ | ⟨ok, l, e1⟩ | e1 <;> rw [e1] at e <;> cases e
 | _ => cases e
theorem RX.mono (h : RX E P rd a s Q') (hq : ∀ e s1, Q' e s1 -> Q e s1) : RX E P rd a s Q := fun code e => (h code e).mono hq
theorem RX.conseq (h : RX E P rd a s Q') (hq : ∀ e s1, s1.k = s.k -> s1.nt = s.nt -> Q' e s1 -> ∃ s2, wB s1 s2 /\ Q e s2) : RX E P rd a s Q := fun code e => (h code e).conseq hq
theorem RX.weak (hs : wB s s') (h : RX E P rd a s' Q) : RX E P rd a s Q := fun code e => (h code e).weak hs
theorem w7.weak (hs : wB s s') (h : w7 E P rd a s' Q) : w7 E P rd a s Q := fun code e => (h code e).weak hs
theorem RX.push (h : ∀ k', k' ≠ s.k -> 0 < k' -> fresh s.M k' -> RX E P rd a { s with k := k', os := [], M := s.mem } (fun e s1 => ∃ os1 M1, os1.length = s.os.length /\ O6 s1.mem (seg M1 s.k os1) /\ Q e { s1 with k := s.k, os := os1, M := M1 })) : RX E P rd a s Q :=
 fun code e => PX.push fun k' h1 h2 h3 => h k' h1 h2 h3 code e
theorem kW.enterR (hE : e7 E P) {f nt : Nat} {res : List ResultVar} {body : Code} {c : RC} {args : List PV} {M : c7} {R : Nat -> PV -> c7 -> Prop} (hf : E.fn f = some ⟨nt, res, body⟩) (hle : args.length <= nt) (hc : l9 E body = c)
  (h : ∀ k, 0 < k -> fresh M k -> RX E P none c ⟨f8 0 args, nt, k, [], M⟩ (dK E ⟨nt, res, body⟩ (R k))) : kW E P f args M R :=
 kW.enter hE hf hle fun k h1 h2 => h k h1 h2 body hc
theorem PT.enterR (hE : e7 E P) {f nt : Nat} {res : List ResultVar} {body : Code} {c : RC} {args : List PV} {M : c7} {R : PV -> c7 -> Prop} (hf : E.fn f = some ⟨nt, res, body⟩) (hle : args.length <= nt) (hc : l9 E body = c)
  (h : ∀ k, 0 < k -> fresh M k -> RX E P none c ⟨f8 0 args, nt, k, [], M⟩ (dK E ⟨nt, res, body⟩ R)) : PT E P f args M R :=
 PT.enter hE hf hle fun k h1 h2 => h k h1 h2 body hc
theorem wB.tms {tm tm' : List (Nat × PV)} {nt k : Nat} {os : List Obj} {M : c7} (h : ∀ i, J6 (c8 tm i) (c8 tm' i)) : wB ⟨tm, nt, k, os, M⟩ ⟨tm', nt, k, os, M⟩ := ⟨h, rfl, rfl, rfl, .refl _⟩
theorem aSI {tm : List (Nat × PV)} : ∀ {tm' : List (Nat × PV)}, (∀ p ∈ tm', J6 (c8 tm p.1) p.2) -> ∀ i, J6 (c8 tm i) (c8 tm' i)
 | [], _, i => .junk _
 | (j, v) :: r, h, i => by
  simp only [Q6]
  by_cases hi : i = j
  ·rw [if_pos hi]; subst hi; exact h (i, v) List.mem_cons_self
  ·rw [if_neg hi]; exact aSI (fun p hp => h p (List.mem_cons_of_mem _ hp)) i
end
theorem e8 (M : c7) (k : Nat) (os : List Obj) (i : Nat) : seg M k os k i = os[i]? := by simp [seg]
theorem g6 {k k' : Nat} (M : c7) (os : List Obj) (i : Nat) (h : k' ≠ k) : seg M k os k' i = M k' i := by simp [seg, h]
theorem O6.pop {M : c7} {k : Nat} {os : List Obj} (h : fresh M k) : O6 (seg M k os) M := fun k' i o e => by
 refine ⟨o, ?_, .refl o⟩
 rw [g6 _ _ _ (fun hk => by subst hk; rw [h i] at e; cases e)]
 exact e
theorem I6 {M : c7} {k k' i : Nat} {o : Obj} (h : fresh M k) (e : M k' i = some o) : k' ≠ k := fun hk => by subst hk; rw [h i] at e; cases e
theorem N9 {M : c7} {k k' : Nat} {os : List Obj} (h : fresh M k) (hk : k ≠ k') : fresh (seg M k' os) k := fun i => by rw [g6 _ _ _ hk]; exact h i
theorem y8 (M : c7) (k i : Nat) (o : Obj) : l7 M k i o k i = some o := by simp [l7]
end Go.Pm