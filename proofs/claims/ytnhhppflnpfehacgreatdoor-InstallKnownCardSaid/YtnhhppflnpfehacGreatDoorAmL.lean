/- Calls over data that are known to the leaves, and that answer a list of leaves: their answers in place of their runs. Plain lemmas; no condition. -/
import Derived.Test.YtnhhppflnpfehacGreatDoorAm25
set_option linter.unusedVariables false
namespace Go.Am
open Go.RowKit

inductive Ans where
  | lf (x : Value)
  | tl (xs : List Value)
  | sl (es n : Nat) (cs : List Value)
  | ts (es n : Nat) (cs post : List Value)

noncomputable def leafEqs : List Value → List Value → Bool
  | [], l => match l with
    | [] => true
    | _ :: _ => false
  | x :: xs, l => match l with
    | y :: ys => leafEq x y && leafEqs xs ys
    | [] => false

section
variable {E : Env} {P : Program} {ι : Inj} {m m1 : Mem} {w w1 : World}

theorem leafEqs_ok : ∀ {xs ys zs : List Value}, leafEqs xs ys = true → VRs ι ys zs → zs = xs ∧ ∀ ι', VRs ι' xs xs
  | [], [], _, _, hv => by cases hv; exact ⟨rfl, fun _ => .nil⟩
  | [], _ :: _, _, h, _ => by unfold leafEqs at h; cases h
  | _ :: _, [], _, h, _ => by unfold leafEqs at h; cases h
  | x :: xs, y :: ys, _, h, hv => by
    unfold leafEqs at h
    simp only [Bool.and_eq_true] at h
    cases hv with
    | cons h1 h2 =>
      obtain ⟨rfl, hc⟩ := leafEq_ok h.1 h1
      obtain ⟨rfl, hs⟩ := leafEqs_ok h.2 h2
      exact ⟨rfl, fun ι' => .cons (VR.closed hc) (hs ι')⟩
theorem leafEqs_get : ∀ {xs ys : List Value}, leafEqs xs ys = true → ∀ (j : Nat) x, xs[j]? = some x → ∃ y, ys[j]? = some y ∧ leafEq x y = true
  | [], _, _, j, x, e => by simp at e
  | _ :: _, [], h, _, _, _ => by unfold leafEqs at h; cases h
  | x :: xs, y :: ys, h, 0, u, e => by
    unfold leafEqs at h
    simp only [Bool.and_eq_true] at h
    simp at e; subst e
    exact ⟨y, rfl, h.1⟩
  | x :: xs, y :: ys, h, j + 1, u, e => by
    unfold leafEqs at h
    simp only [Bool.and_eq_true] at h
    simpa using leafEqs_get h.2 j u (by simpa using e)
theorem leafEqs_length : ∀ {xs ys : List Value}, leafEqs xs ys = true → xs.length = ys.length
  | [], [], _ => rfl
  | [], _ :: _, h => by unfold leafEqs at h; cases h
  | _ :: _, [], h => by unfold leafEqs at h; cases h
  | x :: xs, y :: ys, h => by
    unfold leafEqs at h
    simp only [Bool.and_eq_true] at h
    simp [leafEqs_length h.2]

/-- A new list of leaves, in the world. -/
def SlW (ng : Nat) (w w1 : World) (es n : Nat) (cs : List Value) (s : Value) : Prop :=
  ∃ t : Tgt, w.heap.size ≤ t.blk ∧ t.blk < w1.heap.size ∧ (∀ ι, OR ng ι w1 t (.row cs .rw es none)) ∧ ∀ (ι : Inj) (b : Nat), ι b = some t → VR ι (.slice (some ⟨b, 0, none⟩) n (loCap n es)) s
def AnsW (ng : Nat) (w w1 : World) : Ans → Value → Prop
  | .lf x, v => v = x ∧ closedV x = true
  | .tl xs, v => v = .tuple xs.toArray ∧ ∀ ι, VRs ι xs xs
  | .sl es n cs, v => SlW ng w w1 es n cs v
  | .ts es n cs post, v => ∃ s, SlW ng w w1 es n cs s ∧ v = .tuple (s :: post).toArray ∧ ∀ ι, VRs ι post post

noncomputable def isSl (m1 : Mem) (es n : Nat) (cs : List Value) (y : Value) : Bool := match y with
  | .slice (some ⟨r, 0, none⟩) n' k' => Nat.beq n' n && (Nat.blt 0 n && (Nat.blt es 4096 && (Nat.ble n (capOf k') && (match m1.get r with
    | some (.row cells .rw es' _) => Nat.beq es' es && ((bif Nat.beq (k' % 2) 0 then Nat.ble (k' / 2 * es) cells.length else true) && leafEqs cs (cells.take cs.length))
    | _ => false))))
  | _ => false
noncomputable def isAns (a : Ans) : Option (Value × Mem) → Bool
  | none => false
  | some (y, m1) => match a with
    | .lf x => leafEq x y
    | .tl xs => match y with
      | .tuple l => leafEqs xs l.toList
      | _ => false
    | .sl es n cs => isSl m1 es n cs y
    | .ts es n cs post => match y with
      | .tuple l => match l.toList with
        | s :: r => isSl m1 es n cs s && leafEqs post r
        | [] => false
      | _ => false

theorem isSl_ok {R : List (List Value × Nat)} {ι0 : Inj} (hs : Step E ι0 (memR E.ng R) w ι m1 w1) {es n : Nat} {cs : List Value} {y v' : Value} (h : isSl m1 es n cs y = true) (hv : VR ι y v') : SlW E.ng w w1 es n cs v' := by
  unfold isSl at h
  split at h
  case h_2 => cases h
  rename_i r n' k'
  simp only [Bool.and_eq_true] at h
  obtain ⟨h1, h2, h3, h4, h5⟩ := h
  have e1 := Nat.eq_of_beq_eq_true h1
  have e2 : 0 < n := by simpa using h2
  have e3 : es < 4096 := by simpa using h3
  have e4 := Nat.le_of_ble_eq_true h4
  subst e1
  split at h5
  case h_2 => cases h5
  rename_i cells es' q hg
  simp only [Bool.and_eq_true] at h5
  obtain ⟨h5, h6, h7⟩ := h5
  have e5 := Nat.eq_of_beq_eq_true h5
  subst e5
  have main : ∀ t, ι r = some t → w.heap.size ≤ t.blk ∧ t.blk < w1.heap.size ∧ (∀ ι, OR E.ng ι w1 t (.row cs .rw es' none)) ∧ es' = t.es ∧ t.dlt + cells.length ≤ t.cap := fun t ht => by
    obtain ⟨o1, o2⟩ := hs.rel.obj r t _ ht hg
    obtain ⟨p1, p2, p3⟩ := o2 (by decide)
    refine ⟨?_, (hs.rel.dom _ _ ht).2, fun ι' => ?_, p1, p2⟩
    · rcases Nat.lt_or_ge t.blk w.heap.size with hx | hx
      · exact absurd (hs.own t.blk hx ⟨r, t, _, ht, hg, rfl, rfl⟩) ownR
      · exact hx
    · refine ⟨fun j v e => ?_, fun _ => ⟨p1, ?_, p3⟩⟩
      · obtain ⟨y, k1, k2⟩ := leafEqs_get h7 j v e
        have k1' : cells[j]? = some y := by
          rw [List.getElem?_take] at k1
          split at k1
          · exact k1
          · cases k1
        obtain ⟨v', k3, k4⟩ := o1 j y k1'
        obtain ⟨rfl, hc⟩ := leafEq_ok k2 k4
        exact ⟨_, k3, VR.closed hc⟩
      · have := leafEqs_length h7
        rw [List.length_take] at this
        omega
  cases hv with
  | sex o n c ht =>
    obtain ⟨a1, a2, a3, a4, a5⟩ := main _ ht
    rw [capOf_even] at e4
    rw [show 2 * c % 2 = 0 by omega, show 2 * c / 2 = c by omega] at h6
    simp only [Nat.beq_refl, cond_true] at h6
    have h6 := Nat.le_of_ble_eq_true h6
    subst a4
    exact ⟨_, a1, a2, a3, fun ι' b hb => .slo 0 _ _ _ hb e4 (by rw [Nat.add_zero]; omega) e3⟩
  | slo o n c c' ht g1 g2 g3 =>
    obtain ⟨a1, a2, a3, a4, a5⟩ := main _ ht
    rw [capOf_lo _ _ g3] at e4
    subst a4
    exact ⟨_, a1, a2, a3, fun ι' b hb => .slo 0 _ _ _ hb (Nat.le_trans e4 g1) g2 g3⟩
  | semp => omega
  | sem0 => omega

/-- A call over data yields an answer, and leaves what there was. -/
def PureA (P : Program) (ng f : Nat) (ds : List DV) (a : Ans) : Prop :=
  ∀ (w : World) (args' : List Value), ng ≤ w.heap.size → DWs w ds args' →
    Upon P (fun v' w1 => AnsW ng w w1 a v' ∧ (∀ b, b < w.heap.size → w1.heap[b]? = w.heap[b]?) ∧ w.heap.size ≤ w1.heap.size ∧ w1.os = w.os ∧ w1.tape = w.tape ∧ w1.output = w.output) ((callFunc f args'.toArray).run P w)

theorem ans_run (hE : EnvOk E P) (hX : ExtOk E P) (hXk : ExtKeep E) {f j k : Nat} {ds : List DV} {a : Ans} (hr : isAns a (runD E j k f ds) = true) : PureA P E.ng f ds a := by
  intro w args' hng hd
  unfold runD at hr
  obtain ⟨Y, X, h1, h2, h3, h4⟩ := lays_ok E.ng hd [] [] rfl
  generalize hq : lays E.ng ds [] = q at hr h1 h4
  obtain ⟨vs, R⟩ := q
  simp only [List.nil_append] at h1 h4 hr
  subst h1
  obtain ⟨k1, k2⟩ := h4 (injR E.ng X) (fun i t e => by
    unfold injR
    rw [if_neg (by omega), Nat.add_sub_cancel_left, e])
  have hrel : Rel E (injR E.ng X) (memR E.ng R) w := relR h2 hng h3 (fun i t cs es e e' => k2 i t cs es e e')
  unfold isAns at hr
  split at hr
  · cases hr
  · rename_i y m1 hrun
    refine ((run_ok hE hX hXk (j := j) k).call hrun hrel k1).mono fun v' w1 ⟨ι1, hv, hs⟩ => ?_
    refine ⟨?_, fun b hb => hs.keep b hb ownR, hs.size, hs.os, hs.tape, hs.output⟩
    split at hr
    · exact leafEq_ok hr hv
    · split at hr
      case h_2 => cases hr
      cases hv with
      | @tuple x x' h =>
        obtain ⟨e, hc⟩ := leafEqs_ok hr h
        refine ⟨?_, hc⟩
        rw [← e]
    · exact isSl_ok hs hr hv
    · split at hr
      case h_2 => cases hr
      split at hr
      case h_2 => cases hr
      rename_i l s r hl
      simp only [Bool.and_eq_true] at hr
      cases hv with
      | @tuple x x' h =>
        rw [hl] at h
        generalize hx : x'.toList = z at h
        cases h with
        | cons g1 g2 =>
          obtain ⟨e, hc⟩ := leafEqs_ok hr.2 g2
          refine ⟨_, isSl_ok hs hr.1 g1, ?_, hc⟩
          rw [← e, ← hx]

noncomputable def ansM : Ans → Mem → Value × Mem
  | .lf x, m => (x, m)
  | .tl xs, m => (.tuple xs.toArray, m)
  | .sl es n cs, m => (.slice (some (addr m.size 0)) n (loCap n es), m.new (.row cs .rw es none))
  | .ts es n cs post, m => (.tuple (.slice (some (addr m.size 0)) n (loCap n es) :: post).toArray, m.new (.row cs .rw es none))
noncomputable def memoA : List (List DV × Ans) → List Value → Mem → Option (Value × Mem)
  | [], _, _ => none
  | (ds, x) :: r, args, m => match Nat.beq ds.length args.length && rdMs m ds args with
    | true => some (ansM x m)
    | false => memoA r args m
noncomputable def Env.memoA (E : Env) (g : Nat) (l : List (List DV × Ans)) : Env := { E with ext := fun f => match Nat.beq f g with
  | true => some (Am.memoA l)
  | false => E.ext f }
theorem memoA_some : ∀ {l : List (List DV × Ans)} {args : List Value} {m m1 : Mem} {v : Value}, memoA l args m = some (v, m1) → ∃ ds a, (ds, a) ∈ l ∧ ansM a m = (v, m1) ∧ ds.length = args.length ∧ rdMs m ds args = true
  | [], _, _, _, _, h => by cases h
  | (ds, x) :: r, args, m, m1, v, h => by
    unfold memoA at h
    split at h
    · rename_i hc
      rw [Bool.and_eq_true] at hc
      injection h with h
      exact ⟨ds, x, List.mem_cons_self, h, Nat.eq_of_beq_eq_true hc.1, hc.2⟩
    · obtain ⟨ds', a, h2, h3⟩ := memoA_some h
      exact ⟨ds', a, List.mem_cons_of_mem _ h2, h3⟩

def EntsA (P : Program) (ng g : Nat) (l : List (List DV × Ans)) : Prop := ∀ e ∈ l, PureA P ng g e.1 e.2
theorem EntsA.nil {P : Program} {ng g : Nat} : EntsA P ng g [] := fun e he => by cases he
theorem EntsA.cons {P : Program} {ng g : Nat} {ds : List DV} {x : Ans} {l : List (List DV × Ans)} (h : PureA P ng g ds x) (hl : EntsA P ng g l) : EntsA P ng g ((ds, x) :: l) := fun e he => by
  rcases List.mem_cons.1 he with rfl | he
  · exact h
  · exact hl e he

theorem SlW.step (hR : Rel E ι m w) (e2 : ∀ b, b < w.heap.size → w1.heap[b]? = w.heap[b]?) (e3 : w.heap.size ≤ w1.heap.size) (e4 : w1.os = w.os) (e5 : w1.tape = w.tape) (e6 : w1.output = w.output)
    {es n : Nat} {cs : List Value} {s : Value} (h : SlW E.ng w w1 es n cs s) : ∃ ι1, VR ι1 (.slice (some (addr m.size 0)) n (loCap n es)) s ∧ Step E ι m w ι1 (m.new (.row cs .rw es none)) w1 := by
  obtain ⟨t, h1, h2, h3, h4⟩ := h
  refine ⟨ι.put m.size t, h4 _ _ (by unfold Inj.put; rw [if_pos rfl]), Step.newAt hR e3 e2 e4 e5 e6 h1 h2 (h3 _) (fun cs md es q e => by cases e)⟩

theorem Sure.memoA (h : Sure E P) {g : Nat} {l : List (List DV × Ans)} (ht : EntsA P E.ng g l) : Sure (E.memoA g l) P := by
  refine ⟨⟨h.ok.ty, h.ok.fn, h.ok.plain, h.ok.mixed⟩, ?_, ?_⟩
  · intro f g' args args' m m1 v ι w hg hr hR ha
    have hg' : (match Nat.beq f g with
      | true => some (Am.memoA l)
      | false => E.ext f) = some g' := hg
    split at hg'
    · rename_i hb
      have := Nat.eq_of_beq_eq_true hb
      subst this
      cases hg'
      obtain ⟨ds, a, h1, h2, h3, h4⟩ := memoA_some hr
      have hR' : Rel E ι m w := Rel.env (E := E.memoA f l) rfl hR
      refine (ht _ h1 w args' hR'.ng (rdMs_all hR' h4 h3 ha)).mono fun v' w1 ⟨e1, e2, e3, e4, e5, e6⟩ => ?_
      refine Got.env (E := E) (E' := E.memoA f l) rfl ?_
      cases a with
      | lf x =>
        obtain ⟨rfl, hc⟩ := e1
        cases h2
        exact ⟨ι, VR.closed hc, Sub.refl _, (fun b t e n => by rw [e] at n; cases n), hR'.more e2 e3, fun b _ ho => ho, fun b hb _ => e2 b hb, e3, Nat.le_refl _, e4, e5, e6⟩
      | tl xs =>
        obtain ⟨rfl, hc⟩ := e1
        cases h2
        exact ⟨ι, .tuple (by simpa using hc ι), Sub.refl _, (fun b t e n => by rw [e] at n; cases n), hR'.more e2 e3, fun b _ ho => ho, fun b hb _ => e2 b hb, e3, Nat.le_refl _, e4, e5, e6⟩
      | sl es n cs =>
        cases h2
        exact SlW.step hR' e2 e3 e4 e5 e6 e1
      | ts es n cs post =>
        obtain ⟨s, hs, rfl, hc⟩ := e1
        cases h2
        obtain ⟨ι1, g1, g2⟩ := SlW.step hR' e2 e3 e4 e5 e6 hs
        exact ⟨ι1, .tuple (by simpa using VRs.cons g1 (hc ι1)), g2⟩
    · exact Upon.mono (next' := Got (E.memoA g l) ι m w v m1) (fun v' w1 h => Got.env (E := E) (E' := E.memoA g l) rfl h) (h.ext hg' hr (Rel.env (E := E.memoA g l) rfl hR) ha)
  · intro f g' args m v m1 hg hw hr
    have hg' : (match Nat.beq f g with
      | true => some (Am.memoA l)
      | false => E.ext f) = some g' := hg
    split at hg'
    · cases hg'
      obtain ⟨ds, a, h1, h2, h3, h4⟩ := memoA_some hr
      cases a <;> cases h2
      · exact Keep.refl _
      · exact Keep.refl _
      · exact Keep.new hw _
      · exact Keep.new hw _
    · exact h.keep f g' args m v m1 hg' hw hr
theorem Sure.ans (h : Sure E P) {f : Nat} (j k : Nat) {ds : List DV} {a : Ans} (hr : isAns a (runD E j k f ds) = true) : PureA P E.ng f ds a := ans_run h.ok h.ext h.keep hr
end
end Go.Am
