/- What each touch of memory does: loads, stores, appends, records. -/
import Derived.Test.YtnhhppflnpfehacGreatDoorAm6
namespace Go.Am
open Go.RowKit

section
variable {E : Env} {P : Program} {ι ι1 ι2 : Inj} {m m1 m2 : Mem} {w w1 w2 : World}

/-! ### Runs on the model's side -/
theorem add_eq (b o n : Nat) : (⟨b, o, none⟩ : Addr).add n = ⟨b, o + n, none⟩ := by
  unfold Addr.add; split
  · subst_vars; rfl
  · rfl

theorem run_load {a : Addr} {v : Value} {md : Mode} (h : w.cell? a = some v) : (load a md).run P w = .ok v w := by simp [load, Sem.run, h]

theorem run_loadCellsFrom (b o : Nat) : ∀ (vs : List Value) (i : Nat) (acc : Array Value), (∀ (j : Nat) v, vs[j]? = some v → w.cell? ⟨b, o + (i + j), none⟩ = some v) →
    (loadCellsFrom ⟨b, o, none⟩ i vs.length acc).run P w = .ok (acc ++ vs.toArray) w
  | [], i, acc, _ => by simp [loadCellsFrom, Sem.run_pure]
  | v :: r, i, acc, h => by
    simp only [List.length_cons, loadCellsFrom, add_eq]
    have h0 := h 0 v rfl
    rw [Sem.run_bind, run_load (by simpa using h0)]
    simp only [Result.andThen]
    rw [run_loadCellsFrom b o r (i + 1) (acc.push v) (fun j u e => by
      have := h (j + 1) u (by simpa using e)
      rw [show o + (i + (j + 1)) = o + (i + 1 + j) by omega] at this; exact this)]
    congr 1
    apply Array.ext'
    simp

theorem run_loadCells {b o : Nat} {vs : List Value} (h : ∀ (j : Nat) v, vs[j]? = some v → w.cell? ⟨b, o + j, none⟩ = some v) :
    (loadCells ⟨b, o, none⟩ vs.length).run P w = .ok vs.toArray w := by
  unfold loadCells
  rw [run_loadCellsFrom b o vs 0 #[] (fun j v e => by simpa using h j v e)]
  simp

/-- The cells from a place on become those of a list. -/
def setAll (w : World) (b o : Nat) : List Value → World
  | [] => w
  | v :: r => setAll (w.setCell ⟨b, o, none⟩ v) b (o + 1) r

theorem setAll_size (b : Nat) : ∀ (vs : List Value) (o : Nat) (w : World), (setAll w b o vs).heap.size = w.heap.size
  | [], _, _ => rfl
  | v :: r, o, w => by rw [setAll, setAll_size b r]; simp
theorem setAll_other (b c : Nat) (h : c ≠ b) : ∀ (vs : List Value) (o : Nat) (w : World), (setAll w b o vs).heap[c]? = w.heap[c]?
  | [], _, _ => rfl
  | v :: r, o, w => by rw [setAll, setAll_other b c h r, Below.heap_setCell _ _ _ _ h]
theorem setAll_streams (b : Nat) : ∀ (vs : List Value) (o : Nat) (w : World), (setAll w b o vs).os = w.os ∧ (setAll w b o vs).tape = w.tape ∧ (setAll w b o vs).output = w.output
  | [], _, _ => ⟨rfl, rfl, rfl⟩
  | v :: r, o, w => by rw [setAll]; exact setAll_streams b r (o + 1) _
theorem setAll_frozen (b : Nat) (a : Addr) : ∀ (vs : List Value) (o : Nat) (w : World), (setAll w b o vs).frozen? a = w.frozen? a
  | [], _, _ => rfl
  | v :: r, o, w => by rw [setAll, setAll_frozen b a r]; simp

theorem setCell_block {b o : Nat} {v : Value} {c : Array Value} {el : TypeId} {fz : Nat × Nat} (h : w.heap[b]? = some (.cells c el fz)) :
    (w.setCell ⟨b, o, none⟩ v).heap[b]? = some (.cells (c.setIfInBounds o v) el fz) := by
  simp only [World.setCell, Array.getElem?_modify, if_true]
  rw [h]; simp

theorem setAll_block (b : Nat) : ∀ (vs : List Value) (o : Nat) (w : World) (c : Array Value) (el : TypeId) (fz : Nat × Nat), w.heap[b]? = some (.cells c el fz) → o + vs.length ≤ c.size →
    ∃ c', (setAll w b o vs).heap[b]? = some (.cells c' el fz) ∧ c'.size = c.size ∧ ∀ j, c'[j]? = if o ≤ j ∧ j < o + vs.length then vs[j - o]? else c[j]?
  | [], o, w, c, el, fz, h, _ => ⟨c, h, rfl, fun j => by rw [if_neg (by simp only [List.length_nil]; omega)]⟩
  | v :: r, o, w, c, el, fz, h, hl => by
    simp only [List.length_cons] at hl
    obtain ⟨c', h1, h2, h3⟩ := setAll_block b r (o + 1) (w.setCell ⟨b, o, none⟩ v) _ el fz (setCell_block h) (by simp; omega)
    refine ⟨c', h1, by simpa using h2, fun j => ?_⟩
    rw [h3 j]
    by_cases hj : j = o
    · subst hj
      rw [if_neg (by omega), if_pos (by simp)]
      have : j < c.size := by omega
      simp [this]
    · by_cases hj2 : o + 1 ≤ j ∧ j < o + 1 + r.length
      · rw [if_pos hj2, if_pos (by simp; omega)]
        rw [show j - o = (j - (o + 1)) + 1 by omega]; simp
      · rw [if_neg hj2, if_neg (by simp; omega)]
        rw [Array.getElem?_setIfInBounds_ne (Ne.symm hj)]

def oneC : Value → Bool
  | .agg _ | .tuple _ => false
  | _ => true

theorem run_store_one {a : Addr} {v u : Value} {md : Mode} (hv : oneC v = true) (hc : w.cell? a = some u) (hf : w.frozen? a = false) : (store a v md).run P w = .ok () (w.setCell a v) := by
  unfold store
  cases v <;> simp_all [Sem.run, oneC]

theorem cell?_setCell_ne {a b : Addr} {v : Value} (h : a ≠ b) : (w.setCell a v).cell? b = w.cell? b := World.cell?_setCell_other w a b v h

theorem run_storeCells (b o : Nat) : ∀ (vs : List Value) (i : Nat) (w : World), (∀ v ∈ vs, oneC v = true) → (∀ j, j < vs.length → (w.cell? ⟨b, o + i + j, none⟩).isSome = true) →
    (∀ j, j < vs.length → w.frozen? ⟨b, o + i + j, none⟩ = false) → (storeCells ⟨b, o, none⟩ vs i).run P w = .ok () (setAll w b (o + i) vs)
  | [], i, w, _, _, _ => by simp [storeCells, Sem.run_pure, setAll]
  | v :: r, i, w, h1, h2, h3 => by
    simp only [storeCells, add_eq]
    have hc := h2 0 (by simp)
    obtain ⟨u, hu⟩ := Option.isSome_iff_exists.1 hc
    rw [Sem.run_bind, run_store_one (h1 v (by simp)) (by simpa using hu) (by simpa using h3 0 (by simp))]
    simp only [Result.andThen]
    rw [run_storeCells b o r (i + 1) _ (fun v hv => h1 v (by simp [hv]))
      (fun j hj => by
        have := h2 (j + 1) (by simp; omega)
        rw [show o + i + (j + 1) = o + (i + 1) + j by omega] at this
        have hne : (⟨b, o + i, none⟩ : Addr) ≠ ⟨b, o + (i + 1) + j, none⟩ := by intro e; injection e with _ e; omega
        rw [cell?_setCell_ne hne]; exact this)
      (fun j hj => by
        have := h3 (j + 1) (by simp; omega)
        rw [show o + i + (j + 1) = o + (i + 1) + j by omega] at this
        simpa using this)]
    rw [setAll]; rfl

theorem cell?_block {b j : Nat} {c : Array Value} {el : TypeId} {fz : Nat × Nat} (h : w.heap[b]? = some (.cells c el fz)) : w.cell? ⟨b, j, none⟩ = c[j]? := by
  unfold World.cell?; simp [h]

theorem VR.oneC {v v' : Value} (h : VR ι v v') (hv : oneC v = true) : oneC v' = true := by
  cases h <;> first | rfl | exact hv

theorem allOne_mem : ∀ {l : List Value}, allOne l = true → ∀ v ∈ l, oneC v = true
  | [], _, v, hv => by simp at hv
  | x :: r, h, v, hv => by
    cases x <;> simp only [allOne] at h
    all_goals first | (cases h; done) | skip
    all_goals
      rcases List.mem_cons.1 hv with e | e
      · subst e; rfl
      · exact allOne_mem h v e

theorem VRs.allOne {l l' : List Value} (h : VRs ι l l') (ha : allOne l = true) : ∀ v' ∈ l', oneC v' = true := fun v' hv' => by
  obtain ⟨i, hi⟩ := List.mem_iff_getElem?.1 hv'
  obtain ⟨v, hv, hr⟩ := h.get' hi
  exact hr.oneC (allOne_mem ha v (List.mem_of_getElem? hv))

/-! ### Loads -/
theorem load_cell (h : Rel E ι m w) {a a' : Addr} {v : Value} (ha : VR ι (.pointer (some a)) (.pointer (some a'))) (hv : m.cell a = some v) : ∃ v', w.cell? a' = some v' ∧ VR ι v v' := by
  cases ha with
  | @ptr b t o hb =>
    unfold Mem.cell at hv
    split at hv
    · rename_i cs md es q hg
      have := (h.obj _ _ _ hb hg).1 o v hv
      exact this
    · cases hv

theorem load_cells (h : Rel E ι m w) {b o n : Nat} {t : Tgt} {cs : List Value} (hb : ι b = some t) (hv : m.cells ⟨b, o, none⟩ n = some cs) :
    cs.length = n ∧ ∃ cs', VRs ι cs cs' ∧ ∀ (j : Nat) v', cs'[j]? = some v' → w.cell? ⟨t.blk, t.dlt + o + j, none⟩ = some v' := by
  unfold Mem.cells at hv
  split at hv
  · rename_i rs md es q hg
    cases hle : Nat.ble (o + n) rs.length with
    | false => simp [hle] at hv
    | true =>
      simp only [hle, cond_true] at hv
      cases hv
      have hle' := Nat.le_of_ble_eq_true hle
      have hlen : ((rs.drop o).take n).length = n := by simp; omega
      refine ⟨hlen, ?_⟩
      have hobj := (h.obj _ _ _ hb hg).1
      -- read the cells one by one
      have key : ∀ k, k ≤ n → ∃ cs', VRs ι ((rs.drop o).take k) cs' ∧ ∀ (j : Nat) v', cs'[j]? = some v' → w.cell? ⟨t.blk, t.dlt + o + j, none⟩ = some v' := by
        intro k
        induction k with
        | zero => intro _; exact ⟨[], by simp; exact .nil, fun j v' e => by simp at e⟩
        | succ k ih =>
          intro hk
          obtain ⟨cs', h1, h2⟩ := ih (by omega)
          have hlt : o + k < rs.length := by omega
          obtain ⟨v', hc, hv⟩ := hobj (o + k) rs[o + k] (by simp [hlt])
          refine ⟨cs' ++ [v'], ?_, fun j u e => ?_⟩
          · rw [List.take_add_one]
            have : (rs.drop o)[k]? = some rs[o + k] := by simp [hlt]
            rw [this]; exact h1.snoc hv
          · have hl : cs'.length = k := by rw [← h1.length]; simp; omega
            rw [List.getElem?_append] at e
            split at e
            · exact h2 j u e
            · rename_i hj
              have hjk : j = k := by
                rcases Nat.lt_or_ge (j - cs'.length) 1 with h' | h'
                · omega
                · rw [List.getElem?_eq_none (by simpa using h')] at e; cases e
              subst hjk
              rw [hl, Nat.sub_self] at e
              simp at e; subst e
              rw [Nat.add_assoc]; exact hc
      exact key n (Nat.le_refl _)
  · cases hv

/-! ### Other barriers -/
theorem Rel.setBar (h : Rel E ι m w) {b : Nat} (h1 : m.nb ≤ b) (h2 : b ≤ m.size) : Rel E ι { m with bar := b } w where
  dom := h.dom
  obj := h.obj
  sep := fun b c t u ob oc e1 e2 k1 k2 hne hb hro => (h.sep b c t u ob oc e1 e2 k1 k2 hne hb hro).imp (fun a => a.move fun _ _ => rfl) (fun a => a.move fun _ _ => rfl)
  rng := fun b c t u e1 e2 ha hb => h.rng b c t u e1 e2 (ha.move fun _ _ => rfl) hb
  nb := h1
  bar := h2
  base := h.base
  glob := h.glob
  top := h.top
  prv := h.prv

/-! ### A record turns -/
/-- An object that is no row becomes another one that is no row. -/
theorem Step.upd (h : Rel E ι m w) {b : Nat} {t : Tgt} {o o' : AObj} (hb : ι b = some t) (hg : m.get b = some o) (hr : ∀ cs md es q, o ≠ .row cs md es q) (hr' : ∀ cs md es q, o' ≠ .row cs md es q)
    (hbar : m.bar ≤ b) (hw : ∀ c, c ≠ t.blk → w1.heap[c]? = w.heap[c]?) (hsz : w1.heap.size = w.heap.size) (h1 : w1.os = w.os) (h2 : w1.tape = w.tape) (h3 : w1.output = w.output)
    (ho : OR E.ng ι w1 t o') : Step E ι m w ι (m.upd b (some o')) w1 := by
  have hnb : m.nb ≤ b := Nat.le_trans h.nb hbar
  have hsame : (m.upd b (some o')).get b = some o' := Mem.get_upd_same hnb _
  have hget : ∀ c, c ≠ b → (m.upd b (some o')).get c = m.get c := fun c hc => Mem.get_upd_ne hnb hc _
  have hnr : ∀ x cs md es q, m.get x = some (.row cs md es q) → x ≠ b := fun x cs md es q e hx => by subst hx; rw [hg] at e; cases e; exact hr _ _ _ _ rfl
  have hnr' : ∀ x cs md es q, (m.upd b (some o')).get x = some (.row cs md es q) → x ≠ b := fun x cs md es q e hx => by subst hx; rw [hsame] at e; cases e; exact hr' _ _ _ _ rfl
  have up : ∀ x y, Anc m x y → Anc (m.upd b (some o')) x y := fun x y ha => ha.move fun z ⟨_, _, _, _, e⟩ => hget z (hnr _ _ _ _ _ e)
  have down : ∀ x y, Anc (m.upd b (some o')) x y → Anc m x y := fun x y ha => ha.move fun z ⟨_, _, _, _, e⟩ => (hget z (hnr' _ _ _ _ _ e)).symm
  -- no two live blocks of one real block, one of them no row
  have alone : ∀ c u oc, ι c = some u → m.get c = some oc → c ≠ b → u.blk ≠ t.blk := fun c u oc e k hne hblk => by
    rcases h.sep c b u t oc o e hb k hg hne hblk (by rw [AObj.notRow hr, Bool.and_false]) with ha | ha
    · obtain ⟨_, _, _, _, _, e'⟩ := ha.rows; exact hnr b _ _ _ _ e' rfl
    · obtain ⟨⟨_, _, _, e'⟩, _⟩ := ha.rows; exact hnr b _ _ _ _ e' rfl
  refine ⟨Sub.refl _, (fun c u e n => by rw [e] at n; cases n), ?_, ?_, ?_, by omega, Nat.le_refl _, h1, h2, h3⟩
  · constructor
    · intro c u e; have := h.dom _ _ e; exact ⟨this.1, by omega⟩
    · intro c u oc e k
      by_cases hc : c = b
      · subst hc; rw [hsame] at k; cases k; rw [hb] at e; cases e; exact ho
      · rw [hget c hc] at k
        exact (h.obj c u oc e k).move (Sub.refl _) (hw _ (alone c u oc e k hc))
    · intro x y u v ox oy e1 e2 k1 k2 hne hblk hro
      by_cases hx : x = b
      · subst hx
        rw [hget y (Ne.symm hne)] at k2
        rw [hb] at e1; cases e1
        exact absurd hblk.symm (alone y v oy e2 k2 (Ne.symm hne))
      · by_cases hy : y = b
        · subst hy
          rw [hget x hne] at k1
          rw [hb] at e2; cases e2
          exact absurd hblk (alone x u ox e1 k1 hne)
        · rw [hget x hx] at k1; rw [hget y hy] at k2
          exact (h.sep x y u v ox oy e1 e2 k1 k2 hne hblk hro).imp (up _ _) (up _ _)
    · intro x y u v e1 e2 ha hblk
      have ha' := down _ _ ha
      obtain ⟨⟨_, _, _, ex⟩, _, _, _, _, ey⟩ := ha'.rows
      rw [hget x (hnr _ _ _ _ _ ex), hget y (hnr _ _ _ _ _ ey)]
      exact h.rng x y u v e1 e2 ha' hblk
    · exact h.nb
    · exact h.bar
    · intro c oc hc k
      have hc' : c < m.nb := hc
      rw [hget c (by omega)] at k
      exact h.base c oc hc' k
    · exact h.glob
    · intro c hc
      have hc' : m.size ≤ c := hc
      have := (h.dom _ _ hb).1
      rw [hget c (by omega)]; exact h.top c hc'
    · intro c cs md es q k
      rw [hget c (hnr' _ _ _ _ _ k)] at k
      obtain ⟨hq, ha⟩ := h.prv _ _ _ _ _ k
      refine ⟨hq, fun oq e => ?_⟩
      by_cases hqb : q = b
      · subst hqb
        obtain ⟨_, _, _, e'⟩ := ha o hg
        exact absurd e' (hr _ _ _ _)
      · exact ha oq (by rw [← hget q hqb]; exact e)
  · rintro x hx ⟨a, u, oa, e, k, hro, hu⟩
    by_cases ha : a = b
    · subst ha
      rw [hb] at e; cases e
      exact ⟨a, t, o, hb, hg, by cases o <;> first | rfl | exact absurd rfl (hr _ _ _ _), hu⟩
    · rw [hget a ha] at k; exact ⟨a, u, oa, e, k, hro, hu⟩
  · intro x hx hn
    exact hw x (fun e => hn ⟨b, t, o, hb, hg, by cases o <;> first | rfl | exact absurd rfl (hr _ _ _ _), e.symm⟩)
end
end Go.Am
