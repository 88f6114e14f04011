/- bytealg.Compare; tables of known answers put together. Plain lemmas; no condition. -/
import Derived.Test.YtnhhppflnpfehacGreatDoorAm24
set_option linter.unusedVariables false
namespace Go.Am
open Go.RowKit

section
variable {E : Env} {P : Program} {ι : Inj} {m : Mem} {w : World}

theorem cmp_drop (a b : ByteArray) : ∀ (la lb : List UInt8) (i : Nat), a.data.toList.drop i = la → b.data.toList.drop i = lb → i ≤ a.size → i ≤ b.size →
    (match (List.range' i (min la.length lb.length)).find? (fun j => a[j]! != b[j]!) with
      | some j => if a[j]! < b[j]! then (-1 : Int) else 1
      | none => if a.size < b.size then -1 else if a.size > b.size then 1 else 0) = cmpL la lb
  | [], lb, i, ha, hb, h1, h2 => by
    have ea : a.data.toList.length - i = 0 := by rw [← List.length_drop, ha]; rfl
    have eb : b.data.toList.length - i = lb.length := by rw [← List.length_drop, hb]
    have la' : a.data.toList.length = a.size := Array.length_toList
    have lb' : b.data.toList.length = b.size := Array.length_toList
    cases lb with
    | nil =>
      simp only [List.length_nil, Nat.min_self, List.range'_zero, List.find?_nil, cmpL]
      simp at eb
      rw [if_neg (by omega), if_neg (by omega)]
    | cons y lb =>
      simp only [List.length_nil, Nat.zero_min, List.range'_zero, List.find?_nil, cmpL]
      simp at eb
      rw [if_pos (by omega)]
  | x :: la, [], i, ha, hb, h1, h2 => by
    have ea : a.data.toList.length - i = la.length + 1 := by rw [← List.length_drop, ha]; rfl
    have eb : b.data.toList.length - i = 0 := by rw [← List.length_drop, hb]; rfl
    have la' : a.data.toList.length = a.size := Array.length_toList
    have lb' : b.data.toList.length = b.size := Array.length_toList
    simp only [List.length_nil, Nat.min_zero, List.range'_zero, List.find?_nil, cmpL]
    rw [if_neg (by omega), if_pos (by omega)]
  | x :: la, y :: lb, i, ha, hb, h1, h2 => by
    have ea : a.data.toList.length - i = la.length + 1 := by rw [← List.length_drop, ha]; rfl
    have eb : b.data.toList.length - i = lb.length + 1 := by rw [← List.length_drop, hb]; rfl
    have la' : a.data.toList.length = a.size := Array.length_toList
    have lb' : b.data.toList.length = b.size := Array.length_toList
    have ga : a[i]! = x := by
      have : a.data.toList[i]? = some x := by
        have := congrArg (fun l => l[0]?) ha
        simpa [List.getElem?_drop] using this
      rw [getElem!_pos a i (by show i < a.size; omega)]
      rw [Array.getElem?_toList, Array.getElem?_eq_getElem (by show i < a.size; omega)] at this
      exact Option.some.inj this
    have gb : b[i]! = y := by
      have : b.data.toList[i]? = some y := by
        have := congrArg (fun l => l[0]?) hb
        simpa [List.getElem?_drop] using this
      rw [getElem!_pos b i (by show i < b.size; omega)]
      rw [Array.getElem?_toList, Array.getElem?_eq_getElem (by show i < b.size; omega)] at this
      exact Option.some.inj this
    have da : a.data.toList.drop (i + 1) = la := by rw [← List.drop_drop, ha]; rfl
    have db : b.data.toList.drop (i + 1) = lb := by rw [← List.drop_drop, hb]; rfl
    have ih := cmp_drop a b la lb (i + 1) da db (by omega) (by omega)
    simp only [List.length_cons, Nat.add_min_add_right, List.range'_succ, List.find?_cons, ga, gb]
    unfold cmpL
    by_cases hxy : x = y
    · subst hxy
      have e : (x != x) = false := by simp
      rw [e]
      have e2 : Nat.blt x.toNat x.toNat = false := bltF (Nat.lt_irrefl _)
      simp only [e2, cond_false]
      exact ih
    · have e : (x != y) = true := by simp [hxy]
      rw [e]
      dsimp only
      rw [ga, gb]
      by_cases hlt : x < y
      · have hlt' : x.toNat < y.toNat := UInt8.lt_iff_toNat_lt.1 hlt
        rw [if_pos hlt, bltT hlt']; rfl
      · have hge : ¬ x.toNat < y.toNat := fun h => hlt (UInt8.lt_iff_toNat_lt.2 h)
        have hne : x.toNat ≠ y.toNat := fun h => hxy (UInt8.toNat_inj.1 h)
        rw [if_neg hlt, bltF hge, bltT (by omega)]; rfl

theorem cmp_eq (a b : ByteArray) : Extern.BytealgCompare.cmp a b = cmpL a.data.toList b.data.toList := by
  have h := cmp_drop a b a.data.toList b.data.toList 0 rfl rfl (Nat.zero_le _) (Nat.zero_le _)
  rw [← h]
  unfold Extern.BytealgCompare.cmp
  have la' : a.data.toList.length = a.size := Array.length_toList
  have lb' : b.data.toList.length = b.size := Array.length_toList
  rw [la', lb', List.range_eq_range']
  generalize List.find? _ _ = q
  cases q <;> rfl

theorem run_loadBytes (b : Nat) : ∀ (ns : List Int) (o : Nat) (acc : ByteArray), (∀ (j : Nat) v, (ns.map (Value.int .u8))[j]? = some v → w.cell? ⟨b, o + j, none⟩ = some v) →
    (Extern.Bytes.loadBytes ⟨b, o, none⟩ ns.length acc).run P w = .ok ⟨(acc.data.toList ++ ns.map fun n => UInt8.ofNat n.toNat).toArray⟩ w
  | [], o, acc, _ => by
    show Sem.run P (Pure.pure acc) w = _
    rw [Sem.run_pure]
    simp
  | n :: ns, o, acc, h => by
    have h0 : w.cell? ⟨b, o, none⟩ = some (.int .u8 n) := h 0 _ rfl
    have h1 := run_loadBytes b ns (o + 1) (acc.push n.toNat.toUInt8) (fun j v e => by
      have := h (j + 1) v (by simpa using e)
      rw [show o + 1 + j = o + (j + 1) by omega]; exact this)
    show Sem.run P (Extern.Bytes.loadBytes ⟨b, o, none⟩ (ns.length + 1) acc) w = _
    unfold Extern.Bytes.loadBytes
    rw [Sem.run_bind, run_load h0]
    simp only [Result.andThen_ok]
    rw [add_eq, h1]
    congr 3
    simp [ByteArray.push]

theorem bytesOf_sim (hR : Rel E ι m w) {v v' : Value} {l : List UInt8} (h : bytesOfV m v = some l) (hv : VR ι v v') : ∃ s : ByteArray, (Extern.Bytes.bytesOf v').run P w = .ok s w ∧ s.data.toList = l := by
  unfold bytesOfV at h
  split at h
  · cases h; cases hv; exact ⟨_, rfl, rfl⟩
  · cases h
    cases hv
    exact ⟨.empty, rfl, rfl⟩
  · rename_i a n c
    cases hn : Nat.beq n 0 with
    | true =>
      rw [hn] at h
      simp only [cond_true] at h
      cases h
      have := Nat.eq_of_beq_eq_true hn
      subst this
      cases hv <;> exact ⟨.empty, rfl, rfl⟩
    | false =>
      rw [hn] at h
      simp only [cond_false] at h
      split at h
      · rename_i cs hcs
        have hn0 : n ≠ 0 := fun e => by subst e; cases hn
        have main : ∀ {bb o : Nat} {t : Tgt} {c' : Nat}, ι bb = some t → m.cells ⟨bb, o, none⟩ n = some cs → ∃ s : ByteArray, (Extern.Bytes.bytesOf (.slice (some ⟨t.blk, t.dlt + o, none⟩) n c')).run P w = .ok s w ∧ s.data.toList = l := fun {bb o t c'} ht hm => by
          obtain ⟨cs', hrun, hrel, hcell⟩ : ∃ cs', True ∧ VRs ι cs cs' ∧ ∀ (j : Nat) v, cs'[j]? = some v → w.cell? ⟨t.blk, t.dlt + o + j, none⟩ = some v := by
            unfold Mem.cells at hm
            split at hm
            · rename_i cells md es q hg
              cases hb : Nat.ble (o + n) cells.length with
              | false => rw [hb] at hm; cases hm
              | true =>
                rw [hb] at hm
                simp only [cond_true, Option.some.injEq] at hm
                have hle := Nat.le_of_ble_eq_true hb
                have hob := (hR.obj bb t _ ht hg).1
                have hl : cs.length = n := by rw [← hm]; simp; omega
                refine ⟨(List.range cs.length).map fun j => (w.cell? ⟨t.blk, t.dlt + (o + j), none⟩).getD undef, trivial, ?_, ?_⟩
                · refine VRs.of_get (by simp) fun j v e => ?_
                  have hj : j < cs.length := by
                    rcases Nat.lt_or_ge j cs.length with hx | hx
                    · exact hx
                    · rw [List.getElem?_eq_none hx] at e; cases e
                  have e2 : cells[o + j]? = some v := by
                    rw [← hm, List.getElem?_take_of_lt (by omega), List.getElem?_drop] at e; exact e
                  obtain ⟨v', k1, k2⟩ := hob _ _ e2
                  refine ⟨v', ?_, k2⟩
                  rw [List.getElem?_map, List.getElem?_range hj]
                  simp [k1]
                · intro j v e
                  have hj : j < cs.length := by
                    rcases Nat.lt_or_ge j cs.length with hx | hx
                    · exact hx
                    · rw [List.getElem?_eq_none (by simpa using hx)] at e; cases e
                  rw [List.getElem?_map, List.getElem?_range hj] at e
                  simp at e
                  have e2 : ∃ u, cells[o + j]? = some u := by
                    have : o + j < cells.length := by omega
                    exact ⟨cells[o + j], by simp [this]⟩
                  obtain ⟨u, e2⟩ := e2
                  obtain ⟨v', k1, _⟩ := hob _ _ e2
                  rw [k1] at e
                  simp at e
                  subst e
                  rw [Nat.add_assoc]; exact k1
            · cases hm
          obtain ⟨ns, rfl, rfl⟩ := cellsBytes_spec h hrel
          have hl : ns.length = n := by
            have h1 := hrel.length
            have h2 : cs.length = n := by
              unfold Mem.cells at hm
              split at hm
              · rename_i cells md es q hg
                cases hb : Nat.ble (o + n) cells.length with
                | false => rw [hb] at hm; cases hm
                | true =>
                  rw [hb] at hm
                  simp only [cond_true, Option.some.injEq] at hm
                  have hle := Nat.le_of_ble_eq_true hb
                  rw [← hm]; simp; omega
              · cases hm
            simp at h1; omega
          refine ⟨⟨(ByteArray.empty.data.toList ++ ns.map fun n => UInt8.ofNat n.toNat).toArray⟩, ?_, by simp⟩
          have := run_loadBytes (P := P) (w := w) t.blk ns (t.dlt + o) .empty hcell
          rw [hl] at this
          exact this
        cases hv with
        | sex o n c' ht => exact main ht hcs
        | slo o n c0 c' ht hc hrg he => exact main ht hcs
        | semp a a' es0 he => exact absurd rfl hn0
        | sem0 a a' => exact absurd rfl hn0
      · cases h
  · cases h

theorem ba_loop {β : Type} (f : β → UInt8 → β) (b : ByteArray) (h : b.size ≤ b.size) : ∀ (i j : Nat) (acc : β), j + i = b.size → (ByteArray.foldlM.loop (m := _root_.Id) (fun x y => pure (f x y)) b b.size h i j acc : _root_.Id β) = (b.data.toList.drop j).foldl f acc
  | 0, j, acc, hj => by
    unfold ByteArray.foldlM.loop
    have : b.data.toList.drop j = [] := List.drop_of_length_le (by have : b.data.toList.length = b.size := Array.length_toList; omega)
    rw [dif_neg (by omega), this]; rfl
  | i + 1, j, acc, hj => by
    unfold ByteArray.foldlM.loop
    have hl : b.data.toList.length = b.size := Array.length_toList
    have hlt : j < b.size := by omega
    rw [dif_pos hlt]
    have e : b.data.toList.drop j = b[j] :: b.data.toList.drop (j + 1) := by
      rw [List.drop_eq_getElem_cons (by omega)]
      rfl
    rw [e, List.foldl_cons]
    exact ba_loop f b h i (j + 1) (f acc b[j]) (by omega)
theorem ba_foldl {β : Type} (f : β → UInt8 → β) (init : β) (b : ByteArray) : b.foldl f init = b.data.toList.foldl f init := by
  unfold ByteArray.foldl ByteArray.foldlM
  rw [dif_pos (Nat.le_refl _)]
  have := ba_loop f b (Nat.le_refl _) b.size 0 init (by omega)
  exact this

noncomputable def countB (c : Nat) : List UInt8 → Nat → Nat
  | [], n => n
  | b :: r, n => match Nat.beq b.toNat c with
    | true => countB c r (Nat.succ n)
    | false => countB c r n
theorem countB_eq (c : Nat) (hc : c < 256) : ∀ (l : List UInt8) (n : Nat), l.foldl (fun (n : Int) x => if x == c.toUInt8 then n + 1 else n) (n : Int) = (countB c l n : Nat)
  | [], n => rfl
  | b :: r, n => by
    rw [List.foldl_cons]
    unfold countB
    have e : (b == c.toUInt8) = Nat.beq b.toNat c := by
      cases hb : Nat.beq b.toNat c with
      | true =>
        have := Nat.eq_of_beq_eq_true hb
        subst this
        simp
      | false =>
        have hne : b.toNat ≠ c := fun e => by rw [e] at hb; simp at hb
        have : b ≠ c.toUInt8 := fun e => hne (by rw [e]; simp; omega)
        simpa using this
    rw [e]
    cases Nat.beq b.toNat c with
    | true => exact countB_eq c hc r (n + 1)
    | false => exact countB_eq c hc r n
noncomputable def xCountString : List Value → Mem → Option (Value × Mem)
  | [.string s, .int .u8 c], m => match Nat.blt c.toNat 256 with
    | true => some (.int .i64 (countB c.toNat s.data.toList 0 : Nat), m)
    | false => none
  | _, _ => none
theorem xCountString_sim : XSim E P xCountString Extern.BytealgCount.count := by
  constructor
  · intro args args' m m1 v ι w h hR ha
    unfold xCountString at h
    split at h
    · rename_i s c
      split at h
      · rename_i hlt
        have hc : c.toNat < 256 := by simpa using hlt
        cases h
        cases ha with
        | cons h1 h2 =>
          cases h2 with
          | cons h2 h3 =>
            cases h3
            cases h1
            cases int_arg h2
            refine ⟨_, w, ?_, ι, .int _ _, Step.refl hR⟩
            show Sem.run P (Extern.Bytes.bytesOf (.string s) >>= _) w = _
            rw [Sem.run_bind]
            show Result.andThen (.ok s w) _ = _
            rw [Result.andThen_ok]
            show Sem.run P (Extern.Bytes.asByte (.int .u8 c) >>= _) w = _
            rw [Sem.run_bind]
            show Result.andThen (.ok c.toNat.toUInt8 w) _ = _
            rw [Result.andThen_ok]
            show Sem.run P (Pure.pure (goInt (s.foldl (fun n x => if x == c.toNat.toUInt8 then n + 1 else n) (0 : Nat)))) w = _
            rw [Sem.run_pure, ba_foldl, countB_eq _ hc]
            rfl
      · cases h
    · cases h
  · intro args m m1 v hw h
    unfold xCountString at h
    repeat' split at h
    all_goals first | (cases h; exact Keep.refl _) | cases h

theorem xCompare_sim : XSim E P xCompare Extern.BytealgCompare.compare := by
  constructor
  · intro args args' m m1 v ι w h hR ha
    unfold xCompare at h
    split at h
    · rename_i x y
      split at h
      · rename_i a b hx hy
        cases h
        cases ha with
        | @cons _ x' _ _ h1 h2 =>
          cases h2 with
          | @cons _ y' _ _ h2 h3 =>
            cases h3
            obtain ⟨s, k1, k2⟩ := bytesOf_sim (P := P) hR hx h1
            obtain ⟨t, k3, k4⟩ := bytesOf_sim (P := P) hR hy h2
            refine ⟨_, w, ?_, ι, .int _ _, Step.refl hR⟩
            show Sem.run P (Extern.Bytes.bytesOf x' >>= _) w = _
            rw [Sem.run_bind, k1, Result.andThen_ok]
            show Sem.run P (Extern.Bytes.bytesOf y' >>= _) w = _
            rw [Sem.run_bind, k3, Result.andThen_ok]
            show Sem.run P (Pure.pure (goInt (Extern.BytealgCompare.cmp s t))) w = _
            rw [Sem.run_pure, cmp_eq, k2, k4]
            rfl
      · cases h
    · cases h
  · intro args m m1 v hw h
    unfold xCompare at h
    repeat' split at h
    all_goals first | (cases h; exact Keep.refl _) | cases h
end

/-! ### Tables -/
noncomputable def tab1 (g : Nat) (l : List (List DV × Value)) : Nat → Option (List (List DV × Value)) := fun f => match Nat.beq f g with
  | true => some l
  | false => none
def Ents (P : Program) (ng g : Nat) (l : List (List DV × Value)) : Prop := ∀ e ∈ l, PureE P ng g e.1 e.2 ∧ closedV e.2 = true
theorem Ents.nil {P : Program} {ng g : Nat} : Ents P ng g [] := fun e he => by cases he
theorem Ents.cons {P : Program} {ng g : Nat} {ds : List DV} {x : Value} {l : List (List DV × Value)} (h : PureE P ng g ds x) (hx : closedV x = true) (hl : Ents P ng g l) : Ents P ng g ((ds, x) :: l) := fun e he => by
  rcases List.mem_cons.1 he with rfl | he
  · exact ⟨h, hx⟩
  · exact hl e he
theorem MemoOk.tab {P : Program} {ng g : Nat} {l : List (List DV × Value)} (h : Ents P ng g l) : MemoOk P ng (tab1 g l) := ⟨fun f l' hf e he => by
  unfold tab1 at hf
  split at hf
  · rename_i hb
    have := Nat.eq_of_beq_eq_true hb
    subst this
    cases hf
    exact h e he
  · cases hf⟩
/-- An environment whose runs are the program's. -/
structure Sure (E : Env) (P : Program) : Prop where
  ok : EnvOk E P
  ext : ExtOk E P
  keep : ExtKeep E
theorem Sure.of {E : Env} {P : Program} (h : EnvOk E P) (hX : XTab E P) : Sure E P := ⟨h, hX.ok, hX.keep⟩
theorem Sure.memo {E : Env} {P : Program} (h : Sure E P) {g : Nat} {l : List (List DV × Value)} (ht : Ents P E.ng g l) : Sure (E.memo (tab1 g l)) P := ⟨Env.memo_env h.ok _, Env.memo_ext h.ext (MemoOk.tab ht), Env.memo_keep h.keep⟩
theorem Sure.pure {E : Env} {P : Program} (h : Sure E P) {f : Nat} (j k : Nat) {ds : List DV} {x : Value} (hr : isLeaf x (runD E j k f ds) = true) : PureE P E.ng f ds x := pure_run h.ok h.ext h.keep hr
end Go.Am
