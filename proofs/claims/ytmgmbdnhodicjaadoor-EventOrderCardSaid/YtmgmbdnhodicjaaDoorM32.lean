/- EventOrder: closed events are in order, and one made behind them is closed with them. Of any arguments. Part 32 of 38; no condition. -/
import Derived.Test.YtmgmbdnhodicjaaDoorM31
set_option linter.unusedVariables false
set_option linter.unusedSimpArgs false
section
namespace Go.Pm
open Go.RowKit Go.Am
section
variable {E : Env} {P : Program} {tm : List (Nat × PV)} {nt k : Nat} {os : List Obj} {M : PMem}
theorem PRs.setc {cx : Cx} : ∀ {l : List PV} {vs : List Value} {f : Nat} {x : PV}, PRs cx l vs → (∀ v, vs[f]? = some v → PR cx x v) → PRs cx (l.set f x) vs
  | _, _, _, _, .nil, _ => .nil
  | _, _, 0, _, .cons h hs, hx => .cons (hx _ rfl) hs
  | _, _, f + 1, _, .cons h hs, hx => .cons h (PRs.setc hs (fun v e => hx v e))
theorem set_at {l : List Obj} {j i : Nat} {x : Obj} : (l.set j x)[i]? = if i = j then (if i < l.length then some x else none) else l[i]? := by
  by_cases h : i = j
  · subst h
    rw [if_pos rfl]
    by_cases hl : i < l.length
    · rw [if_pos hl]; simp [hl]
    · rw [if_neg hl]; rw [List.getElem?_eq_none (by simpa using hl)]
  · rw [if_neg h, List.getElem?_set_ne (Ne.symm h)]
theorem PX.lay {rd : Option (Nat × Nat)} {Q : AExit → PSt → Prop} {c : Code} {j f e0 es : Nat} {w : Wm} {es0 : Nat} {cs : List PV} (hes : es < 4096) (hj : os[j]? = some (.row w es0 cs)) (hf : cs[f]? = some (.lst .full e0 0 []))
    (h : PX E P rd c ⟨tm, nt, k, os.set j (.row w es0 (cs.set f (.lst (.id k os.length) es 0 []))) ++ [.grow 0 es], M⟩ Q) : PX E P rd c ⟨tm, nt, k, os, M⟩ Q := fun hc cx sA hs hr => by
  have hcur := hs.cur
  have hlow : k < cx.nk := hs.low
  have ht : cx.tk k os.length = none := (hcur os.length (Nat.le_refl _)).2
  have hjl : j < os.length := by
    rcases Nat.lt_or_ge j os.length with h | h
    · exact h
    · rw [List.getElem?_eq_none h] at hj; cases hj
  have hle : CxLe cx (cx.setTk k os.length (none, 0, es)) := by
    refine ⟨fun _ _ _ e => e, fun _ _ e => e, fun _ e => e, fun _ e => e, fun a i r n es e => ?_, Nat.le_refl _⟩
    refine ⟨r, n, es, ?_, .inl ⟨rfl, rfl, rfl⟩⟩
    simp only [Cx.setTk]
    rw [if_neg]
    · exact e
    · rintro ⟨rfl, rfl⟩; rw [ht] at e; cases e
  have htk : (cx.setTk k os.length (none, 0, es)).tk k os.length = some (none, 0, es) := by simp [Cx.setTk]
  have hlen : (os.set j (.row w es0 (cs.set f (.lst (.id k os.length) es 0 [])))).length = os.length := by simp
  have hlook : ∀ (a i : Nat) (o : Obj), seg M k (os.set j (.row w es0 (cs.set f (.lst (.id k os.length) es 0 []))) ++ [.grow 0 es]) a i = some o →
      (a = k ∧ i = os.length ∧ o = .grow 0 es) ∨ (a = k ∧ i = j ∧ o = .row w es0 (cs.set f (.lst (.id k os.length) es 0 []))) ∨ (seg M k os a i = some o ∧ ¬ (a = k ∧ i = os.length) ∧ ¬ (a = k ∧ i = j)) := fun a i o e => by
    by_cases ha : a = k
    · subst ha
      rw [seg_same] at e
      rcases Nat.lt_trichotomy i os.length with hi | hi | hi
      · rw [List.getElem?_append_left (by rw [hlen]; exact hi), set_at] at e
        by_cases hij : i = j
        · subst hij
          rw [if_pos rfl, if_pos hi] at e
          cases e
          exact .inr (.inl ⟨rfl, rfl, rfl⟩)
        · rw [if_neg hij] at e
          exact .inr (.inr ⟨by rw [seg_same]; exact e, by omega, fun x => hij x.2⟩)
      · subst hi
        rw [List.getElem?_append_right (by rw [hlen]; exact Nat.le_refl _), hlen, Nat.sub_self] at e
        cases e
        exact .inl ⟨rfl, rfl, rfl⟩
      · rw [List.getElem?_eq_none (by simp; omega)] at e; cases e
    · rw [seg_ne _ _ _ ha] at e
      exact .inr (.inr ⟨by rw [seg_ne _ _ _ ha]; exact e, fun x => ha x.1, fun x => ha x.1⟩)
  have hps : PS E (cx.setTk k os.length (none, 0, es)) ⟨tm, nt, k, os.set j (.row w es0 (cs.set f (.lst (.id k os.length) es 0 []))) ++ [.grow 0 es], M⟩ sA := by
    refine ⟨fun i => (hs.tm i).mono hle, hs.nt, ?_, fun i hi => ?_, hlow, hs.pos, hs.df⟩
    · have hpg := hs.pg
      have hmv : ∀ a i o, seg M k os a i = some o → ¬ (a = k ∧ i = os.length) → OG (cx.setTk k os.length (none, 0, es)) sA.m a i o := fun a i o e hne => by
        refine OG.move hle (fun p hp => ⟨hp, .inl rfl⟩) rfl (fun _ _ => rfl) (fun _ => ?_) (fun _ _ _ _ _ => rfl) (hpg.obj a i o e)
        simp only [Cx.setTk]; rw [if_neg hne]
      refine ⟨fun a i o e => ?_, hpg.at_, fun a i o r e e' => ?_, hpg.im, hpg.mks, hpg.dd, fun a i ha => ?_, fun a i a' i' r n es1 n' es' e e' t t' => ?_, hpg.glob, hpg.wf, hpg.pos⟩
      · rcases hlook a i o e with ⟨rfl, rfl, rfl⟩ | ⟨rfl, rfl, rfl⟩ | ⟨e, hne, hne2⟩
        · exact ⟨none, htk, hes, rfl⟩
        · have hold := hmv a i _ (show seg M a os a i = some (.row w es0 cs) by rw [seg_same]; exact hj) (fun x => by have := x.2; omega)
          obtain ⟨r, vs, md, q, e1, e2, e3, e4, e5⟩ := hold
          refine ⟨r, vs, md, q, e1, e2, e3.setc (fun v hv => ?_), e4, e5⟩
          obtain ⟨v', hv', hpr⟩ := e3.get hf
          rw [hv] at hv'; cases hv'
          cases hpr with
          | f0 _ ad => exact .ltok (r0 := none) (n0 := 0) (.l0 _ _ _ (.inl rfl)) htk (Nat.le_refl _) (fun _ => ⟨ad, rfl⟩)
          | lfull hr' hl hs' hn =>
            refine .ltok (r0 := none) (n0 := 0) (.l0 _ _ _ (.inl (by omega))) htk (Nat.le_refl _) (fun _ => ⟨_, rfl⟩)
        · exact hmv a i o e hne
      · rcases hlook a i o e with ⟨rfl, rfl, rfl⟩ | ⟨rfl, rfl, rfl⟩ | ⟨e, _⟩
        · exact .inr (.inr ⟨_, _, rfl⟩)
        · exact .inl (hpg.role (show seg M a os a i = some (.row w es0 cs) by rw [seg_same]; exact hj) nofun nofun e')
        · exact hpg.nd _ _ _ _ e e'
      · refine ⟨(hpg.keys a i ha).1, ?_⟩
        simp only [Cx.setTk]
        rw [if_neg (fun x => by have h1 : cx.nk ≤ a := ha; have h2 := x.1; omega)]
        exact (hpg.keys a i ha).2
      · have key : ∀ {a i n es1}, seg M k (os.set j (.row w es0 (cs.set f (.lst (.id k os.length) es 0 []))) ++ [.grow 0 es]) a i = some (.grow n es1) → (cx.setTk k os.length (none, 0, es)).tk a i = some (some r, n, es1) → seg M k os a i = some (.grow n es1) ∧ cx.tk a i = some (some r, n, es1) := fun {a i n es1} e t => by
          rcases hlook a i _ e with ⟨rfl, rfl, _⟩ | ⟨rfl, rfl, hh⟩ | ⟨e, hne, _⟩
          · simp [Cx.setTk] at t
          · cases hh
          · simp only [Cx.setTk] at t
            rw [if_neg hne] at t
            exact ⟨e, t⟩
        obtain ⟨x1, x2⟩ := key e t
        obtain ⟨y1, y2⟩ := key e' t'
        exact hpg.tkin _ _ _ _ _ _ _ _ _ x1 y1 x2 y2
    · have hi' : os.length + 1 ≤ i := by simpa using hi
      refine ⟨(hcur i (show os.length ≤ i by omega)).1, ?_⟩
      simp only [Cx.setTk]
      rw [if_neg (fun x => by have := x.2; omega)]
      exact (hcur i (show os.length ≤ i by omega)).2
  obtain ⟨g1, g2⟩ := rdOf_mono hle hr
  obtain ⟨e, sA1, cx2, s1, h1, h2, h3, h4, h5, h6⟩ := h hc _ sA hps g2
  rw [g1] at h1
  have hext : Ext (some k) cx (cx.setTk k os.length (none, 0, es)) := ⟨hle, fun a i ha hn => ⟨id, fun e => by
    simp only [Cx.setTk]
    rw [if_neg (fun x => hn (by rw [x.1]))]
    exact e⟩⟩
  exact ⟨e, sA1, cx2, s1, h1, h2, hext.trans h3, h4, h5, h6⟩
theorem RX.lay {rd : Option (Nat × Nat)} {Q : AExit → PSt → Prop} {c : RC} {j f e0 es : Nat} {w : Wm} {es0 : Nat} {cs : List PV} (hes : es < 4096) (hj : os[j]? = some (.row w es0 cs)) (hf : cs[f]? = some (.lst .full e0 0 []))
    (h : RX E P rd c ⟨tm, nt, k, os.set j (.row w es0 (cs.set f (.lst (.id k os.length) es 0 []))) ++ [.grow 0 es], M⟩ Q) : RX E P rd c ⟨tm, nt, k, os, M⟩ Q := fun code e => PX.lay hes hj hf (h code e)
end
theorem RX.cut {E : Env} {P : Program} {rd : Option (Nat × Nat)} {a b : RC} {s : PSt} {Q : AExit → PSt → Prop} (R : PSt → Prop) (h : RX E P rd a s (fun e s1 => e = .normal ∧ R s1)) (k : ∀ s1, R s1 → RX E P rd b s1 Q) : RX E P rd (.seq a b) s Q :=
  RX.seq (h.mono fun e s1 hr => by
    obtain ⟨he, hr⟩ := hr
    subst he
    exact k s1 hr)
end Go.Pm
end
