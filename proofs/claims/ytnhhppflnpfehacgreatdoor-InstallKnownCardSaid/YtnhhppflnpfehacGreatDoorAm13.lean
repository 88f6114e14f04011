/- Appends; iterators over texts; each operation at once. -/
import Derived.Test.YtnhhppflnpfehacGreatDoorAm12
namespace Go.Am
open Go.RowKit

section
variable {E : Env} {P : Program} {ι ι1 ι2 : Inj} {m m1 m2 : Mem} {w w1 w2 : World}

theorem append_opened {t : Nat} {t2 : Option Nat} {s x v : Value} (ha : appendV E m t t2 s x = some (v, m1)) :
    ∃ base len k e y ye zeros new n, s = .slice base len k ∧ E.ty t = some y ∧ y.desc = .slice e ∧ E.ty e = some ye ∧
      (match t2 with | none => none | some u => match E.ty u with | some yu => zerosD yu.desc | none => none) = some zeros ∧
      sourceV E m ye.size zeros e x = some (new, n) ∧
      ((len + n ≤ capOf k ∧ (match base with
        | none => bif Nat.beq n 0 then some ((.slice none len k : Value), m) else none
        | some a => bif Nat.beq n 0 then some (.slice (some a) len k, m) else (m.storeCells (addOff a (len * ye.size)) new).map fun m1 => (.slice (some a) (len + n) k, m1)) = some (v, m1)) ∨
       (capOf k < len + n ∧ Nonempty (Grows E m e ye base len k n new v m1))) := by
  unfold appendV at ha
  split at ha
  case h_2 => cases ha
  rename_i y base len k hy
  split at ha
  case h_2 => cases ha
  rename_i e hd
  split at ha
  case h_2 => cases ha
  rename_i ye hye
  split at ha
  case h_1 => cases ha
  rename_i zeros hz
  split at ha
  case h_1 => cases ha
  rename_i new n hsrc
  refine ⟨base, len, k, e, y, ye, zeros, new, n, rfl, hy, hd, hye, hz, hsrc, ?_⟩
  cases hle : Nat.ble (len + n) (capOf k) with
  | true =>
    rw [hle] at ha
    exact .inl ⟨Nat.le_of_ble_eq_true hle, ha⟩
  | false =>
    rw [hle] at ha
    simp only [cond_false] at ha
    have hgt : capOf k < len + n := by
      rcases Nat.lt_or_ge (capOf k) (len + n) with hx | hx
      · exact hx
      · rw [bleT hx] at hle; cases hle
    refine .inr ⟨hgt, ?_⟩
    cases hb : (!(Nat.ble ((2 * (len + n) + 2000) * ye.bytes) 281474976710656 && Nat.ble (len + n) 4611686018427387904 && Nat.blt ye.size 4096)) with
    | true => rw [hb] at ha; cases ha
    | false =>
    rw [hb] at ha
    simp only [cond_false] at ha
    simp only [Bool.not_eq_false', Bool.and_eq_true] at hb
    obtain ⟨⟨hb1, hb2⟩, hb3⟩ := hb
    split at ha
    case h_2 => cases ha
    rename_i old z hold hz2
    cases hc : (!(Nat.beq z.length ye.size && allOne new)) with
    | true => rw [hc] at ha; cases ha
    | false =>
    rw [hc] at ha
    simp only [cond_false] at ha
    simp only [Bool.not_eq_false', Bool.and_eq_true] at hc
    cases hev : Nat.beq (k % 2) 0 with
    | true =>
      rw [hev] at ha
      simp only [cond_true, newRow, Option.some.injEq, Prod.mk.injEq] at ha
      exact ⟨⟨old, z, hold, hz2, Nat.eq_of_beq_eq_true hc.1, hc.2, by simpa using hb3, Nat.le_of_ble_eq_true hb1, Nat.le_of_ble_eq_true hb2, .inl ⟨hev, ha.1.symm, ha.2.symm⟩⟩⟩
    | false =>
      rw [hev] at ha
      simp only [cond_false] at ha
      split at ha
      · cases ha
      · rename_i a
        split at ha
        case h_2 => cases ha
        rename_i cs es prev hg
        cases hq : (Nat.beq (esOf k) ye.size && Nat.beq es ye.size && Nat.beq (a.off + len * ye.size) cs.length) with
        | false => rw [hq] at ha; cases ha
        | true =>
          rw [hq] at ha
          simp only [cond_true, Option.some.injEq, Prod.mk.injEq] at ha
          rw [Bool.and_eq_true, Bool.and_eq_true] at hq
          have q1 := Nat.eq_of_beq_eq_true hq.1.1
          have q2 := Nat.eq_of_beq_eq_true hq.1.2
          have q3 := Nat.eq_of_beq_eq_true hq.2
          subst q2
          exact ⟨⟨old, z, hold, hz2, Nat.eq_of_beq_eq_true hc.1, hc.2, by simpa using hb3, Nat.le_of_ble_eq_true hb1, Nat.le_of_ble_eq_true hb2, .inr ⟨hev, a, cs, prev, rfl, hg, q1, q3, ha.1.symm, ha.2.symm⟩⟩⟩

theorem sim_append (hE : EnvOk E P) (h : Rel E ι m w) {t : Nat} {t2 : Option Nat} {s x v s' x' : Value} {ats : Array TypeId} {ty : TypeId} {args : Array Value} (ha : appendV E m t t2 s x = some (v, m1)) (hs : VR ι s s') (hx : VR ι x x')
    (h0 : ats[0]? = some t) (h1 : ats[1]? = t2) (ha0 : args[0]? = some s') (ha1 : args[1]? = some x') :
    ∃ ι1 w1 v', (Builtin.append_ ats ty args).run P w = .ok v' w1 ∧ VR ι1 v v' ∧ Step E ι m w ι1 m1 w1 := by
  obtain ⟨base, len, k, e, y, ye, zeros, new, n, rfl, hy, hd, hye, hz, hsrc, hcase⟩ := append_opened ha
  obtain ⟨base', k', rfl, hnone, hck, hex⟩ := hs.slice_shape
  have hu := hE.und hy
  rw [hd] at hu
  obtain ⟨ii, hi, _, hib, _⟩ := hE.ty _ _ hye
  have hti : ∀ w, (typeInfo e).run P w = .ok ii w := fun w => by simp [typeInfo, hi]
  -- the two ends
  have fin : ∀ new' : List Value, VRs ι new new' → new.length = n * ye.size →
      (len + n ≤ k' → ∃ ι1 w1 v', (∀ (f : Addr → Sem Unit), (∀ a, f a = storeCells (a.add (len * ye.size)) new') → (match base' with
          | some a => f a | none => pure () : Sem Unit).run P w = .ok () w1) ∧ v' = Value.slice base' (len + n) k' ∧ VR ι1 v v' ∧ Step E ι m w ι1 m1 w1) ∧
      (¬ len + n ≤ k' → ∃ (old' : List Value) (zv : Value), (∀ w1 : World, w1.heap = w.heap → (Builtin.firstCells ye.size len (.slice base' len k')).run P w1 = .ok old'.toArray w1) ∧ (∀ w1, (zeroValue e).run P w1 = .ok zv w1) ∧
        Builtin.nextslicecap (len + n) k' * ii.bytes ≤ 281474976710656 ∧ ((len + n : Nat) : Int) ≤ 4611686018427387904 ∧
        ∀ cap, len + n ≤ cap → ∃ ι1, Step E ι m w ι1 m1 (w.drew.alloc (.cells (old'.toArray ++ new'.toArray ++ Builtin.zeroCells zv.cells (cap - (len + n))) e)) ∧ VR ι1 v (.slice (some ⟨w.heap.size, 0, none⟩) (len + n) cap)) := by
    intro new' hnew hnl
    rcases hcase with ⟨hle, hw⟩ | ⟨hgt, ⟨G⟩⟩
    · refine ⟨fun _ => ?_, fun hn => absurd (Nat.le_trans hle hck) hn⟩
      rcases within (P := P) h hw hs rfl hnew hnl hle with ⟨hb, hn, hv, hm⟩ | ⟨a', w1, hb, hr, hst, hvr⟩
      · subst hn
        have hbase : base = none := hnone.2 hb
        subst hb; subst hbase
        rw [hv, hm]
        exact ⟨ι, w, _, fun f _ => rfl, rfl, hs, Step.refl h⟩
      · subst hb
        exact ⟨ι, w1, _, fun f hf => by simp only [hf]; exact hr, rfl, hvr, hst⟩
    · refine ⟨fun hin => ?_, fun hn => ?_⟩
      · obtain ⟨a', ι1, w1, hb, hr, hst, hvr⟩ := grow_in (P := P) h G hs hnew hnl hgt rfl hin
        subst hb
        exact ⟨ι1, w1, _, fun f hf => by simp only [hf]; exact hr, rfl, hvr, hst⟩
      · obtain ⟨hol, old', ho, hor⟩ := load_head (P := P) h G.hold hs
        obtain ⟨zv, hzr, hzc, _, _⟩ := hE.zero G.hz w
        have hzall : ∀ w1, (zeroValue e).run P w1 = .ok zv w1 := fun w1 => by
          obtain ⟨z2, hz2, _, _, _⟩ := hE.zero G.hz w1
          have e1 : z2 = zv := by
            simp [zeroValue, typeInfo, hi] at hzr hz2
            cases hz0 : ii.zero with
            | none => rw [hz0] at hzr; simp at hzr
            | some zz => rw [hz0] at hzr hz2; simp at hzr hz2; rw [← hzr, ← hz2]
          rw [← e1]; exact hz2
        refine ⟨old', zv, hor, hzall, ?_, by have := G.hneed; omega, fun cap hc => grow_out hE h G hnew hnl ho hol hye cap hc hzc e⟩
        have := nextcap_le (need := len + n) (old := k') (by omega)
        rw [hib]
        exact Nat.le_trans (Nat.mul_le_mul_right _ this) G.hbytes
  -- the type of what is appended
  obtain ⟨u, yu, ht2, hyu, hzd⟩ : ∃ u yu, t2 = some u ∧ E.ty u = some yu ∧ zerosD yu.desc = some zeros := by
    cases t2 with
    | none => cases hz
    | some u =>
      simp only at hz
      split at hz
      · rename_i yu hyu; exact ⟨u, yu, rfl, hyu, hz⟩
      · cases hz
  subst ht2
  have huu := hE.und hyu
  have hmax : IntKind.i64.max = 9223372036854775807 := by decide
  have hpow : (2 : Nat) ^ 48 = 281474976710656 := by decide
  have hd0 : ({ heap := w.heap, tape := w.tape, drawn := w.drawn + 1, os := w.os, output := w.output } : World) = w.drew := rfl
  have plain : zeros = false → ∀ d, yu.desc = d → (d = .string ∨ ∃ e2, d = .slice e2) → ∃ ι1 w1 v', (Builtin.append_ ats ty args).run P w = .ok v' w1 ∧ VR ι1 v v' ∧ Step E ι m w ι1 m1 w1 := by
    intro hzf d hdd hdk
    subst hzf
    obtain ⟨hnl, hnr, new', hnew, happ⟩ := source_plain (P := P) h hsrc hx
    obtain ⟨f1, f2⟩ := fin new' hnew hnl
    rw [hdd] at huu
    by_cases hin : len + n ≤ k'
    · obtain ⟨ι1, w1, v', hr, rfl, hvr, hst⟩ := f1 hin
      refine ⟨ι1, w1, _, ?_, hvr, hst⟩
      have hr := hr (fun a => storeCells (a.add (len * ye.size)) new') (fun _ => rfl)
      rcases hdk with rfl | ⟨e2, rfl⟩ <;>
      · unfold Builtin.append_
        rw [h0, ha0, ha1]
        simp only [Sem.run_bind, hu, Result.andThen_ok, hE.size hye]
        rw [h1]
        simp only [Sem.run_bind, huu, Sem.run_pure, Result.andThen_ok, Bool.false_eq_true, if_false, hnr, Bool.not_false, if_true, false_or, Sem.run_ite, happ w rfl, hti]
        rw [if_pos hin]
        cases base' with
        | none => simp only [Sem.run_pure, Result.ok.injEq, true_and] at hr; subst hr; rfl
        | some a => simp only at hr; simp only [Sem.run_bind, hr, Result.andThen_ok, Sem.run_pure]
    · obtain ⟨old', zv, hor, hzr, hnc, hneed, hout⟩ := f2 hin
      have hq : len + n ≤ (Question.appendCap (len + n) k' e).cut (w.tape w.drawn (Question.appendCap (len + n) k' e)) := by simp [Question.cut]
      generalize hcg : (Question.appendCap (len + n) k' e).cut (w.tape w.drawn (Question.appendCap (len + n) k' e)) = cap at hq
      obtain ⟨ι1, hst, hvr⟩ := hout cap hq
      refine ⟨ι1, _, _, ?_, hvr, hst⟩
      have c1 : ¬ (((len + n : Nat) : Int) > IntKind.i64.max ∧ ii.bytes = 0) := by rw [hmax]; omega
      have c2 : ¬ Builtin.nextslicecap (len + n) k' * ii.bytes > 2 ^ 48 := by rw [hpow]; omega
      rcases hdk with rfl | ⟨e2, rfl⟩ <;>
      · unfold Builtin.append_
        rw [h0, ha0, ha1]
        simp only [Sem.run_bind, hu, Result.andThen_ok, hE.size hye]
        rw [h1]
        simp only [Sem.run_bind, huu, Sem.run_pure, Result.andThen_ok, Bool.false_eq_true, if_false, hnr, Bool.not_false, if_true, false_or, Sem.run_ite, hti]
        rw [if_neg hin, if_neg c1, if_neg c2]
        simp only [run_choose, Question.forced, Bool.false_eq_true, if_false, Result.andThen_ok, hcg, run_askRoom, hd0]
        rw [hor w.drew rfl]
        simp only [Result.andThen_ok]
        rw [happ w.drew rfl]
        simp only [Result.andThen_ok, hzr, Go.newRow, Sem.run_bind, run_newObj, Sem.run_pure, World.alloc_eq]
        rfl
  unfold zerosD at hzd
  split at hzd
  · rename_i kk hdd
    cases hzd
    unfold sourceV at hsrc
    simp only at hsrc
    split at hsrc
    case h_2 => cases hsrc
    rename_i n0 z ye2 hn0 hzz hye2
    rw [hye] at hye2; cases hye2
    obtain ⟨ki, i, rfl, hi0, hin0⟩ := asNat_spec hn0 hx
    cases hcond : (Nat.ble n0 1048576 && Nat.beq z.length ye.size && Nat.ble (ye.bytes * n0) 281474976710656) with
    | false => rw [hcond] at hsrc; cases hsrc
    | true =>
    rw [hcond] at hsrc; cases hsrc
    rw [Bool.and_eq_true, Bool.and_eq_true] at hcond
    have hle := Nat.le_of_ble_eq_true hcond.1.1
    have hzl := Nat.eq_of_beq_eq_true hcond.1.2
    have hbn := Nat.le_of_ble_eq_true hcond.2
    obtain ⟨_, _, _, _, hzV⟩ := hE.zero hzz w
    have hnl : (repeatCells z n).length = n * ye.size := by rw [repeat_length, hzl]
    obtain ⟨f1, f2⟩ := fin (repeatCells z n) ((hzV ι).repeat n) hnl
    have happ : ∀ w1 : World, (if n * ye.size = 0 then pure #[] else do pure (Builtin.zeroCells (← zeroValue e).cells n) : Sem (Array Value)).run P w1 = .ok (repeatCells z n).toArray w1 := fun w1 => by
      obtain ⟨zv, hzr, hzc, _, _⟩ := hE.zero hzz w1
      have hsz : zv.cells.size = ye.size := by
        have hq : zv.cells.toList.length = z.length := by rw [hzc]
        rw [Array.length_toList] at hq; omega
      by_cases h0 : n * ye.size = 0
      · have : repeatCells z n = [] := List.eq_nil_of_length_eq_zero (by omega)
        rw [this, if_pos h0]; rfl
      · have hne : ye.size ≠ 0 := fun e => h0 (by rw [e]; simp)
        rw [if_neg h0]
        simp only [Sem.run_bind, hzr, Result.andThen_ok, Sem.run_pure]
        congr 1
        apply Array.ext'
        rw [zeroCells_eq _ _ (by omega), hzc]
    have hw := wrap_small (n := i) hi0 (by omega)
    have hneg : ¬ i < 0 := by omega
    have hnb : ¬ i * (ii.bytes : Int) > 2 ^ 48 := by
      have e1 : i = (n : Int) := by omega
      rw [e1, hib]
      have h9 : n * ye.bytes ≤ 281474976710656 := by rw [Nat.mul_comm]; exact hbn
      have e2 : (2 : Int) ^ 48 = 281474976710656 := by decide
      rw [← Int.natCast_mul, e2]
      omega
    rw [hdd] at huu
    by_cases hin : len + n ≤ k'
    · obtain ⟨ι1, w1, v', hr, rfl, hvr, hst⟩ := f1 hin
      refine ⟨ι1, w1, _, ?_, hvr, hst⟩
      have hr := hr (fun a => storeCells (a.add (len * ye.size)) (repeatCells z n)) (fun _ => rfl)
      unfold Builtin.append_
      rw [h0, ha0, ha1]
      simp only [Sem.run_bind, hu, Result.andThen_ok, hE.size hye]
      rw [h1]
      simp only [Sem.run_bind, huu, Sem.run_pure, Result.andThen_ok, if_true, asInt, asIntOf, Sem.run_ite, hw, hti]
      rw [if_neg hneg, if_neg hnb]
      simp only [hin0]
      rw [if_pos hin]
      have happ' := happ w
      simp only [Sem.run_ite, Sem.run_pure, Sem.run_bind] at happ'
      by_cases hz0 : n * ye.size = 0
      · have hnil : repeatCells z n = [] := List.eq_nil_of_length_eq_zero (by omega)
        rw [hnil] at hr
        simp only [Bool.not_true, Bool.false_eq_true, if_false, hz0, if_true, Sem.run_pure, Result.andThen_ok]
        cases base' with
        | none => simp only [Sem.run_pure, Result.ok.injEq, true_and] at hr; subst hr; rfl
        | some a => simp only at hr; simp only [Sem.run_bind, hr, Result.andThen_ok, Sem.run_pure]
      · obtain ⟨zv, hzr, _, _, _⟩ := hE.zero hzz w
        rw [if_neg hz0, hzr] at happ'
        simp only [Result.andThen_ok, Result.ok.injEq, and_true] at happ'
        simp only [Bool.not_true, Bool.false_eq_true, if_false, hz0, hzr, Sem.run_bind, Sem.run_pure, Result.andThen_ok, happ']
        cases base' with
        | none => simp only [Sem.run_pure, Result.ok.injEq, true_and] at hr; subst hr; rfl
        | some a => simp only at hr; simp only [Sem.run_bind, hr, Result.andThen_ok, Sem.run_pure]
    · obtain ⟨old', zv, hor, hzr, hnc, hneed, hout⟩ := f2 hin
      have hq : len + n ≤ (Question.appendCap (len + n) k' e).cut (w.tape w.drawn (Question.appendCap (len + n) k' e)) := by simp [Question.cut]
      generalize hcg : (Question.appendCap (len + n) k' e).cut (w.tape w.drawn (Question.appendCap (len + n) k' e)) = cap at hq
      obtain ⟨ι1, hst, hvr⟩ := hout cap hq
      refine ⟨ι1, _, _, ?_, hvr, hst⟩
      have c1 : ¬ (((len + n : Nat) : Int) > IntKind.i64.max ∧ (True ∨ ii.bytes = 0)) := by rw [hmax]; omega
      have c2 : ¬ Builtin.nextslicecap (len + n) k' * ii.bytes > 2 ^ 48 := by rw [hpow]; omega
      have happ' := happ w.drew
      simp only [Sem.run_ite, Sem.run_pure, Sem.run_bind, hzr, Result.andThen_ok] at happ'
      unfold Builtin.append_
      rw [h0, ha0, ha1]
      simp only [Sem.run_bind, hu, Result.andThen_ok, hE.size hye]
      rw [h1]
      simp only [Sem.run_bind, huu, Sem.run_pure, Result.andThen_ok, if_true, asInt, asIntOf, Sem.run_ite, hw, hti]
      rw [if_neg hneg, if_neg hnb]
      simp only [hin0]
      rw [if_neg hin, if_neg c1, if_neg c2]
      simp only [run_choose, Question.forced, Bool.false_eq_true, if_false, Result.andThen_ok, hcg, run_askRoom, hd0]
      rw [hor w.drew rfl]
      simp only [Result.andThen_ok, Bool.not_true, Bool.false_eq_true, if_false, Sem.run_ite, Sem.run_bind, hzr, Sem.run_pure, happ', Go.newRow, run_newObj, World.alloc_eq]
      rfl
  · cases hzd; exact plain rfl _ ‹_› (.inr ⟨_, rfl⟩)
  · cases hzd; exact plain rfl _ ‹_› (.inl rfl)
  · cases hzd
end
end Go.Am
