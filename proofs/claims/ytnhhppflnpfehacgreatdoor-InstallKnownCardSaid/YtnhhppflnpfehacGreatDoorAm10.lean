/- What each operation comes to on the model's side: types, loads, stores, building, comparing. -/
import Derived.Test.YtnhhppflnpfehacGreatDoorAm9
import Derived.Laws.StructEq
import Derived.Laws.BytesString
import Derived.Laws.Tables
namespace Go.Am
open Go.RowKit

/-- The tables fit the program. -/
structure EnvOk (E : Env) (P : Program) : Prop where
  ty : ∀ t y, E.ty t = some y → ∃ i, P.info? t = some i ∧ i.size = y.size ∧ i.bytes = y.bytes ∧ (∀ z, y.zero = some z → i.zero = some z ∧ closedV z = true) ∧ i.comparable = y.cmp ∧ P.underlying t = some y.desc
  fn : ∀ f x, E.fn f = some x → ∃ F, P.funcs[f]? = some F ∧ F.body = some x.body ∧ F.ntmps = x.ntmps ∧ F.results.toList = x.results ∧ (F.name == "runtime.NumGoroutine") = false ∧ codeOk E.ng x.body = true
  plain : ∀ t, E.plainEq t = true → P.eqGuardType P.depth t = false ∧ P.stoodInHeld t = false
  mixed : P.follows .mixedOrders = true

section
variable {E : Env} {P : Program} {ι ι1 ι2 : Inj} {m m1 m2 : Mem} {w w1 w2 : World}

theorem EnvOk.und (hE : EnvOk E P) {t : Nat} {y : Ty} (h : E.ty t = some y) (w : World) : (underlying t).run P w = .ok y.desc w := by
  obtain ⟨_, _, _, _, _, _, hu⟩ := hE.ty t y h; exact run_underlying hu w
theorem EnvOk.undP (hE : EnvOk E P) {t : Nat} {y : Ty} (h : E.ty t = some y) : P.underlying t = some y.desc := by
  obtain ⟨_, _, _, _, _, _, hu⟩ := hE.ty t y h; exact hu
theorem EnvOk.size (hE : EnvOk E P) {t : Nat} {y : Ty} (h : E.ty t = some y) (w : World) : (sizeOf t).run P w = .ok y.size w := by
  obtain ⟨i, hi, hs, _⟩ := hE.ty t y h; simp [sizeOf, typeInfo, hi, hs]
theorem EnvOk.infoR (hE : EnvOk E P) {t : Nat} {y : Ty} (h : E.ty t = some y) (w : World) : ∃ i, (typeInfo t).run P w = .ok i w ∧ i.size = y.size ∧ i.bytes = y.bytes ∧ i.comparable = y.cmp := by
  obtain ⟨i, hi, hs, hb, _, hc, _⟩ := hE.ty t y h; exact ⟨i, by simp [typeInfo, hi], hs, hb, hc⟩
theorem EnvOk.agg (hE : EnvOk E P) {t : Nat} {y : Ty} (h : E.ty t = some y) (w : World) : (Go.isAgg t).run P w = .ok (isAgg y.desc) w := by
  simp only [Go.isAgg, Sem.run_bind, hE.und h, Result.andThen_ok]
  cases y.desc <;> rfl
theorem EnvOk.zero (hE : EnvOk E P) {t : Nat} {zs : List Value} (h : zeroOf E t = some zs) (w : World) : ∃ z, (zeroValue t).run P w = .ok z w ∧ z.cells.toList = zs ∧ closedV z = true ∧ ∀ ι, VRs ι zs zs := by
  unfold zeroOf at h
  split at h
  · rename_i y hy
    obtain ⟨i, hi, _, _, hz, _⟩ := hE.ty t y hy
    split at h
    · rename_i v hv
      cases h
      obtain ⟨hz1, hz2⟩ := hz v hv
      exact ⟨v, by simp [zeroValue, typeInfo, hi, hz1], rfl, hz2, fun ι => (VR.closed hz2).cells⟩
    · cases h
  · cases h

/-! ### Loads and stores of a type -/
theorem sim_loadVar (hE : EnvOk E P) (h : Rel E ι m w) {t : Nat} {a a' : Addr} {v : Value} (hv : loadV E m t a = some v) (ha : VR ι (.pointer (some a)) (.pointer (some a'))) :
    ∃ v', (loadVar t a').run P w = .ok v' w ∧ VR ι v v' := by
  unfold loadV at hv
  split at hv
  · rename_i y hy
    simp only [loadVar, Sem.run_bind, hE.agg hy, Result.andThen_ok]
    cases hag : isAgg y.desc with
    | true =>
      rw [hag] at hv
      simp only at hv
      cases hc : m.cells a y.size with
      | none => rw [hc] at hv; cases hv
      | some cs =>
        rw [hc] at hv; cases hv
        cases ha with
        | @ptr b tg o hb =>
          obtain ⟨hlen, cs', h1, h2⟩ := load_cells h hb hc
          refine ⟨.agg cs'.toArray, ?_, .agg (by simpa using h1)⟩
          have hl : cs'.length = y.size := by rw [← h1.length]; exact hlen
          have := run_loadCells (P := P) (w := w) (b := tg.blk) (o := tg.dlt + o) (vs := cs') h2
          rw [hl] at this
          simp [hE.size hy, this]
    | false =>
      rw [hag] at hv
      obtain ⟨v', hc, hr⟩ := load_cell h ha hv
      exact ⟨v', by simp [hc], hr⟩
  · cases hv

theorem sim_storeVar (hE : EnvOk E P) (h : Rel E ι m w) {t : Nat} {a a' : Addr} {v v' : Value} (hm : storeV E m t a v = some m1) (ha : VR ι (.pointer (some a)) (.pointer (some a'))) (hv : VR ι v v') :
    ∃ w1, (storeVar t a' v').run P w = .ok () w1 ∧ Step E ι m w ι m1 w1 := by
  unfold storeV at hm
  split at hm
  · rename_i y hy
    cases hl : Nat.beq v.cells.toList.length y.size with
    | false => rw [hl] at hm; cases hm
    | true =>
      rw [hl] at hm
      simp only [cond_true] at hm
      have hl := Nat.eq_of_beq_eq_true hl
      obtain ⟨w1, hr, hs⟩ := store_cells (P := P) h ha hv.cells hm
      refine ⟨w1, ?_, hs⟩
      have hsz : v'.cells.size = y.size := by have := hv.cells.length; simp at this hl; omega
      simp [storeVar, hE.size hy, hsz, hr]
  · cases hm

/-! ### New memory -/
theorem sim_new (h : Rel E ι m w) {cs cs' : List Value} (hcs : VRs ι cs cs') (el es : Nat) :
    Step E ι m w (ι.put m.size ⟨w.heap.size, 0, cs'.length, es⟩) (newRow m cs es).2 (w.alloc (.cells cs'.toArray el)) ∧
      (ι.put m.size ⟨w.heap.size, 0, cs'.length, es⟩) m.size = some ⟨w.heap.size, 0, cs'.length, es⟩ := by
  have hs := Inj.put_sub (ι := ι) ⟨w.heap.size, 0, cs'.length, es⟩ h.none_of_size
  have hb : (w.alloc (.cells cs'.toArray el)).heap[w.heap.size]? = some (.cells cs'.toArray el) := by show (w.heap.push _)[w.heap.size]? = _; simp
  refine ⟨Step.new h rfl rfl rfl rfl rfl ?_ (fun _ _ _ _ e => by cases e), ?_⟩
  · refine ⟨fun j v e => ?_, fun _ => ⟨rfl, by simp [hcs.length], cs'.toArray, el, (0, 0), hb, by simp, fun j _ => ?_⟩⟩
    · obtain ⟨v', e', hr⟩ := hcs.get e
      exact ⟨v', by rw [cell?_block hb]; simpa using e', hr.mono hs⟩
    · unfold World.frozen?; rw [hb]; simp
  · unfold Inj.put; rw [if_pos rfl]

theorem VRs.repeat {a : List Value} {a' : List Value} (h : VRs ι a a') : ∀ n, VRs ι (repeatCells a n) (repeatCells a' n)
  | 0 => .nil
  | n + 1 => h.append (VRs.repeat h n)

theorem repeat_length (z : List Value) : ∀ n, (repeatCells z n).length = n * z.length
  | 0 => by simp [repeatCells]
  | n + 1 => by simp [repeatCells, repeat_length z n, Nat.add_mul]; omega

theorem repeat_get (z : List Value) : ∀ (n i : Nat), i < n * z.length → (repeatCells z n)[i]? = z[i % z.length]?
  | 0, i, h => by simp at h
  | n + 1, i, h => by
    rw [repeatCells]
    by_cases hi : i < z.length
    · rw [List.getElem?_append_left hi, Nat.mod_eq_of_lt hi]
    · rw [List.getElem?_append_right (by omega), repeat_get z n _ (by rw [Nat.add_mul] at h; omega)]
      congr 1
      rw [Nat.mod_eq_sub_mod (a := i) (by omega)]

/-- The model's way to lay a row of zeros. -/
theorem zeros_toList (z : Array Value) (n : Nat) (hz : z.size ≠ 0) : ((Array.range (n * z.size)).map (z[· % z.size]!)).toList = repeatCells z.toList n := by
  apply List.ext_getElem?
  intro i
  by_cases hi : i < n * z.size
  · rw [repeat_get _ _ _ (by simpa using hi)]
    have hm : i % z.size < z.size := Nat.mod_lt _ (by omega)
    simp [hi, getElem!_pos, hm]
  · rw [List.getElem?_eq_none (by simp; omega), List.getElem?_eq_none (by rw [repeat_length]; simp; omega)]

/-! ### Building -/
theorem setCells_foldl : ∀ (vs : List Value) (k off : Nat) (arr : Array Value),
    ((vs.zipIdx k).foldl (fun cs p => cs.setIfInBounds (off + p.2) p.1) arr).toList = setCells arr.toList (off + k) vs
  | [], _, _, _ => rfl
  | v :: r, k, off, arr => by
    simp only [List.zipIdx_cons, List.foldl_cons, setCells]
    rw [setCells_foldl r (k + 1) off]
    simp [Nat.add_assoc]

theorem VRs.setCells : ∀ {vs vs' cs cs' : List Value} (off : Nat), VRs ι cs cs' → VRs ι vs vs' → VRs ι (setCells cs off vs) (Am.setCells cs' off vs')
  | [], _, _, _, _, h, k => by cases k; exact h
  | v :: r, _, _, _, off, h, k => by cases k with | cons k1 k2 => exact VRs.setCells (off + 1) (h.set k1 off) k2

inductive PRs (ι : Inj) : List (Nat × Value) → List (Nat × Value) → Prop where
  | nil : PRs ι [] []
  | cons {i : Nat} {v v' : Value} {l l' : List (Nat × Value)} (h : VR ι v v') (hs : PRs ι l l') : PRs ι ((i, v) :: l) ((i, v') :: l')

theorem sim_fill {place : Nat → Option (Nat × Nat)} : ∀ {parts parts' : List (Nat × Value)} {cs cs' r : List Value}, PRs ι parts parts' → VRs ι cs cs' → fillL place cs parts = some r →
    ∃ r', Instr.fill place cs'.toArray parts' = some r'.toArray ∧ VRs ι r r'
  | [], _, cs, cs', r, hp, hc, h => by cases hp; simp [fillL] at h; subst h; exact ⟨cs', by simp [Instr.fill], hc⟩
  | (i, v) :: rest, _, cs, cs', r, hp, hc, h => by
    cases hp with
    | @cons _ _ v' _ rest' hv hs =>
    simp only [fillL] at h
    cases hpl : place i with
    | none => rw [hpl] at h; cases h
    | some os =>
      obtain ⟨off, size⟩ := os
      rw [hpl] at h
      simp only at h
      cases hcond : (Nat.beq v.cells.toList.length size && Nat.ble (off + v.cells.toList.length) cs.length) with
      | false => rw [hcond] at h; cases h
      | true =>
        rw [hcond] at h
        simp only [cond_true] at h
        rw [Bool.and_eq_true] at hcond
        have h1 := Nat.eq_of_beq_eq_true hcond.1
        have h2 := Nat.le_of_ble_eq_true hcond.2
        have hl := hv.cells.length
        have hlc := hc.length
        obtain ⟨r', e, hr⟩ := sim_fill hs (VRs.setCells off hc hv.cells) h
        refine ⟨r', ?_, hr⟩
        simp only [Instr.fill, hpl]
        rw [if_neg (by simp at hl h1 h2 ⊢; omega)]
        rw [← e]
        congr 1
        apply Array.ext'
        have := setCells_foldl v'.cells.toList 0 off cs'.toArray
        simp only [Nat.add_zero] at this
        rw [← this]
        rw [← Array.foldl_toList, Array.toList_zipIdx]

theorem places_eq (hE : EnvOk E P) : ∀ {fs : List Field} {ps : List (Nat × Nat)}, fieldPlaces E fs = some ps → fs.mapM (fun f => (P.info? f.type).map fun i => (f.offset, i.size)) = some ps
  | [], ps, h => by simp [fieldPlaces] at h; subst h; rfl
  | f :: r, ps, h => by
    simp only [fieldPlaces] at h
    split at h
    · rename_i y l hy hl
      cases h
      obtain ⟨i, hi, hs, _⟩ := hE.ty _ _ hy
      simp [List.mapM_cons, hi, hs, places_eq hE hl]
    · cases h

theorem sim_build (hE : EnvOk E P) {t : Nat} {parts parts' : List (Nat × Value)} {v : Value} (h : buildV E t parts = some v) (hp : PRs ι parts parts') :
    ∃ v', (∀ w, (Instr.build t parts'.toArray).run P w = .ok v' w) ∧ VR ι v v' := by
  unfold buildV at h
  split at h
  case h_2 => cases h
  rename_i y z hy hz
  obtain ⟨i, hi, hs, _, hzz, _, hu⟩ := hE.ty _ _ hy
  obtain ⟨zv, hzr, hzc, hzcl, hzV⟩ := hE.zero hz default
  have hiz : i.zero = some zv := by
    unfold zeroOf at hz; rw [hy] at hz; simp only at hz
    split at hz
    · rename_i v hv
      have := (hzz v hv).1
      simp [zeroValue, typeInfo, hi, this] at hzr
      rw [this, hzr]
    · cases hz
  split at h
  · rename_i fields hd
    rw [hd] at hu
    split at h
    · rename_i ps hps
      cases hf : fillL (fun i => ps[i]?) z parts with
      | none => rw [hf] at h; cases h
      | some cs =>
        rw [hf] at h; cases h
        obtain ⟨r', e, hr⟩ := sim_fill hp (hzV ι) hf
        refine ⟨.agg r'.toArray, fun w => run_build w t _ _ ?_, .agg (by simpa using hr)⟩
        unfold Program.built
        simp only [hi, hu, hiz, places_eq hE hps]
        rw [← e]
        have : zv.cells = z.toArray := by apply Array.ext'; simpa using hzc
        rw [this]; simp
    · cases h
  · rename_i n e hd
    rw [hd] at hu
    split at h
    · rename_i ye hye
      obtain ⟨ie, hie, hse, _⟩ := hE.ty _ _ hye
      cases hf : fillL (fun i => some (i * ye.size, ye.size)) z parts with
      | none => rw [hf] at h; cases h
      | some cs =>
        rw [hf] at h; cases h
        obtain ⟨r', e', hr⟩ := sim_fill hp (hzV ι) hf
        refine ⟨.agg r'.toArray, fun w => run_build w t _ _ ?_, .agg (by simpa using hr)⟩
        unfold Program.built
        simp only [hi, hu, hiz, hie]
        rw [← e']
        have : zv.cells = z.toArray := by apply Array.ext'; simpa using hzc
        rw [this, hse]
    · cases h
  · cases h

theorem sim_buildSlice (hE : EnvOk E P) (h : Rel E ι m w) {t len : Nat} {parts parts' : List (Nat × Value)} {v : Value} (hb : buildSliceV E m t len parts = some (v, m1)) (hp : PRs ι parts parts') :
    ∃ ι1 w1 v', (Instr.buildSlice t len parts'.toArray).run P w = .ok v' w1 ∧ VR ι1 v v' ∧ Step E ι m w ι1 m1 w1 := by
  unfold buildSliceV at hb
  split at hb
  case h_2 => cases hb
  rename_i y hy
  split at hb
  case h_2 => cases hb
  rename_i e hd
  split at hb
  case h_2 => cases hb
  rename_i ye z hye hz
  cases hcond : (Nat.ble (len * ye.size) 16777216 && Nat.beq z.length ye.size) with
  | false => rw [hcond] at hb; cases hb
  | true =>
  rw [hcond] at hb
  simp only [cond_true] at hb
  rw [Bool.and_eq_true] at hcond
  have h1 := Nat.le_of_ble_eq_true hcond.1
  have h2 := Nat.eq_of_beq_eq_true hcond.2
  split at hb
  case h_2 => cases hb
  rename_i cs hcs
  simp only [newRow, Option.some.injEq, Prod.mk.injEq] at hb
  obtain ⟨rfl, rfl⟩ := hb
  obtain ⟨zv, hzr, hzc, _, hzV⟩ := hE.zero hz w
  obtain ⟨r', e', hr⟩ := sim_fill hp ((hzV ι).repeat len) hcs
  obtain ⟨hst, hvr⟩ := sim_new h hr e ye.size
  refine ⟨_, _, .slice (some ⟨w.heap.size, 0, none⟩) len len, ?_, ?_, hst⟩
  · have hu := hE.und hy
    rw [hd] at hu
    have hfill : Instr.fill (fun i => some (i * ye.size, ye.size)) ((Array.range (len * ye.size)).map fun x => zv.cells[x % zv.cells.size]!) parts' = some r'.toArray := by
      rw [← e']
      by_cases h0 : ye.size = 0
      · have hz0 : z = [] := List.eq_nil_of_length_eq_zero (by omega)
        congr 1; apply Array.ext'; rw [hz0]
        have : ∀ n, repeatCells [] n = [] := fun n => by induction n with | zero => rfl | succ n ih => simp [repeatCells, ih]
        simp [h0, this]
      · have hsz : zv.cells.size = ye.size := by
          have hq : zv.cells.toList.length = z.length := by rw [hzc]
          rw [Array.length_toList] at hq; omega
        congr 1; apply Array.ext'
        rw [← hzc, ← zeros_toList _ _ (by omega), hsz]
    have hfill' : Instr.fill (fun i => some (i * ye.size, ye.size)) ((Array.range (len * ye.size)).map fun x => (if len * ye.size = 0 then #[] else zv.cells)[x % (if len * ye.size = 0 then (#[] : Array Value) else zv.cells).size]!) parts' = some r'.toArray := by
      by_cases h0 : len * ye.size = 0
      · rw [← hfill]; congr 1; rw [h0]; simp
      · simp only [if_neg h0]; exact hfill
    simp only [Instr.buildSlice, Sem.run_bind, hu, Result.andThen_ok, hE.size hye, Sem.run_ite, Sem.run_pure]
    rw [if_neg (by omega)]
    by_cases h0 : len * ye.size = 0
    · simp only [if_pos h0] at hfill'
      rw [if_pos h0, hfill']; rfl
    · rw [if_neg h0, hzr]
      simp only [Result.andThen_ok]
      rw [hfill]; rfl
  · exact VR.sex 0 len len hvr

/-! ### Comparing -/
theorem sim_part (hE : EnvOk E P) {t off : Nat} {cs cs' : Array Value} {v : Value} (h : partV E t cs.toList off = some v) (hc : VRs ι cs.toList cs'.toList) :
    ∃ v', (∀ w, (part t cs' off).run P w = .ok v' w) ∧ VR ι v v' := by
  unfold partV at h
  split at h
  · rename_i y hy
    cases hag : isAgg y.desc with
    | true =>
      rw [hag] at h; cases h
      refine ⟨.agg (cs'.extract off (off + y.size)), fun w => by simp [part, hE.agg hy, hag, hE.size hy], .agg ?_⟩
      have e1 : (cs'.extract off (off + y.size)).toList = (cs'.toList.drop off).take y.size := by
        rw [Array.toList_extract, List.extract_eq_take_drop]; congr 1; omega
      rw [e1]
      exact (hc.drop off).take y.size
    | false =>
      rw [hag] at h
      obtain ⟨v', e, hr⟩ := hc.get h
      exact ⟨v', fun w => by
        have : cs'[off]? = some v' := by simpa using e
        simp [part, hE.agg hy, hag, this], hr⟩
  · cases h

theorem natBeqF {a b : Nat} (h : a ≠ b) : Nat.beq a b = false := by
  cases e : Nat.beq a b with
  | false => rfl
  | true => exact absurd (Nat.eq_of_beq_eq_true e) h

theorem bytesEq_eq : ∀ a b : List UInt8, bytesEq a b = (a == b)
  | [], [] => rfl
  | [], _ :: _ => rfl
  | _ :: _, [] => rfl
  | a :: x, b :: y => by
    simp only [bytesEq, bytesEq_eq x y, List.cons_beq_cons]
    congr 1
    by_cases h : a = b
    · subst h; simp
    · have : a.toNat ≠ b.toNat := fun e => h (UInt8.toNat_inj.1 e)
      rw [natBeqF this, beq_eq_false_iff_ne.2 h]

set_option maxHeartbeats 1600000 in
theorem sim_eq (hE : EnvOk E P) : ∀ (d : Nat) {D t : Nat} {x y x' y' : Value} {r : Bool}, d ≤ D → aEq E d t x y = some r → VR ι x x' → VR ι y y' → ∀ w, (Op.equalIn D t x' y').run P w = .ok r w := by
  intro d
  induction d with
  | zero => intro D t x y x' y' r _ h; simp [aEq] at h
  | succ d ih =>
    intro D t x y x' y' r hD h hx hy w
    obtain ⟨D, rfl⟩ : ∃ k, D = k + 1 := ⟨D - 1, by omega⟩
    simp only [aEq] at h
    split at h
    · cases h
    rename_i ty hty
    have hu := hE.und hty
    split at h
    case h_1 hd => cases hx; cases hy; rw [hd] at hu; cases h; simp [Op.equalIn, hu]
    case h_2 hd =>
      cases hx; cases hy; rw [hd] at hu
      split at h
      · rename_i hk; cases h; subst hk; simp [Op.equalIn, hu]
      · cases h
    case h_3 hd =>
      cases hx; cases hy; rw [hd] at hu; cases h
      simp only [Op.equalIn, Sem.run_bind, hu, Result.andThen_ok, Sem.run_pure, bytesEq_eq]
      congr 1
      rw [beq_toListBytes, ByteArray.toList_eq, ByteArray.toList_eq]
    case h_4 hd =>
      rw [hd] at hu; cases h
      cases hx; cases hy <;> simp [Op.equalIn, hu]
    case h_5 hd =>
      rw [hd] at hu; cases h
      cases hx; cases hy; simp [Op.equalIn, hu]
    case h_6 e a b hd =>
      rw [hd] at hu
      split at h
      · rename_i ye hye
        cases hcond : (!(Nat.beq ye.size 0) && Nat.beq a.block b.block) with
        | false => rw [hcond] at h; cases h
        | true =>
          rw [hcond] at h; simp only [cond_true, Option.some.injEq] at h; subst h
          rw [Bool.and_eq_true] at hcond
          have h0 : ye.size ≠ 0 := fun e0 => by rw [e0] at hcond; simp at hcond
          have hb := Nat.eq_of_beq_eq_true hcond.2
          cases hx with
          | @ptr b1 t1 o1 e1 =>
            cases hy with
            | @ptr b2 t2 o2 e2 =>
              simp only at hb; subst hb
              rw [e1] at e2; cases e2
              simp only [Op.equalIn, Sem.run_bind, hu, Result.andThen_ok, hE.size hye, ne_eq, h0, not_false_eq_true, if_true, sameAddr]
              simp only [BEq.rfl, if_true, Sem.run_pure]
              congr 1
              by_cases ho : o1 = o2
              · subst ho; simp
              · have : (⟨t1.blk, t1.dlt + o1, none⟩ : Addr) ≠ ⟨t1.blk, t1.dlt + o2, none⟩ := fun e => by injection e with _ e; omega
                rw [natBeqF ho]; exact beq_eq_false_iff_ne.2 this
      · cases h
    case h_7 hd => rw [hd] at hu; cases h; cases hx; cases hy; simp [Op.equalIn, hu]
    case h_8 hd => rw [hd] at hu; cases h; cases hx; cases hy; simp [Op.equalIn, hu]
    case h_9 hd => rw [hd] at hu; cases h; cases hx; cases hy; simp [Op.equalIn, hu]
    case h_10 tx vx ty2 vy hd =>
      rw [hd] at hu
      cases hx with
      | iface _ hvx =>
      cases hy with
      | iface _ hvy =>
      cases hb : Nat.beq tx ty2 with
      | false =>
        rw [hb] at h; simp only [cond_false, Option.some.injEq] at h; subst h
        have hne : tx ≠ ty2 := fun e => by subst e; simp at hb
        simp [Op.equalIn, hu, hne]
      | true =>
        have := Nat.eq_of_beq_eq_true hb; subst this
        simp only [hb, cond_true] at h
        split at h
        · rename_i yx hyx
          obtain ⟨i, hi, _, _, hcmp⟩ := hE.infoR hyx w
          split at h
          · rename_i hc
            have := ih (D := D) (by omega) h hvx hvy w
            simp [Op.equalIn, hu, hi, hcmp, hc, this]
          · cases h
        · cases h
    case h_11 fields xs ys hd =>
      cases hx with
      | agg hxs =>
      cases hy with
      | agg hys =>
      rename_i xs' ys'
      split at h
      · rename_i hpl
        have hP := hE.undP hty
        rw [hd] at hP
        have hf : P.fieldsOf t = fields := by unfold Program.fieldsOf; rw [hP]
        rw [run_equalIn_struct w D t xs' ys' (by rw [hf]; exact hP) (hE.plain t hpl).2, hf]
        -- field by field
        revert h
        generalize fields.toList = fs
        intro h
        induction fs with
        | nil => simp only [eqFields, Option.some.injEq] at h; subst h; rfl
        | cons f fs ihf =>
          simp only [eqFields] at h
          simp only [Op.eqFields]
          by_cases hn : f.name = "_"
          · rw [if_pos hn] at h; rw [if_neg (by simp [hn])]; exact ihf h
          · rw [if_neg hn] at h; rw [if_pos hn]
            split at h
            · rename_i p q hp hq
              obtain ⟨p', hp', hpr⟩ := sim_part hE hp hxs
              obtain ⟨q', hq', hqr⟩ := sim_part hE hq hys
              split at h
              · rename_i he
                have := ih (D := D) (by omega) he hpr hqr w
                simp [hp', hq', this, ihf h]
              · rename_i he
                cases h
                have := ih (D := D) (by omega) he hpr hqr w
                simp [hp', hq', this]
              · cases h
            · cases h
      · cases h
    case h_12 hd => rw [hd] at hu; cases h; cases hx; cases hy <;> simp [Op.equalIn, hu]
    case h_13 hd => rw [hd] at hu; cases h; cases hx <;> cases hy <;> simp [Op.equalIn, hu]
    case h_14 hd => rw [hd] at hu; cases h; cases hx; cases hy <;> simp [Op.equalIn, hu]
    case h_15 hd => rw [hd] at hu; cases h; cases hx; cases hy; simp [Op.equalIn, hu]
    case h_16 hd => rw [hd] at hu; cases h; cases hx; cases hy; simp [Op.equalIn, hu]
    case h_17 hd => rw [hd] at hu; cases h; cases hx; cases hy <;> simp [Op.equalIn, hu]
    case h_18 hd => rw [hd] at hu; cases h; cases hy; cases hx <;> simp [Op.equalIn, hu]
    case h_19 => cases h
end
end Go.Am
