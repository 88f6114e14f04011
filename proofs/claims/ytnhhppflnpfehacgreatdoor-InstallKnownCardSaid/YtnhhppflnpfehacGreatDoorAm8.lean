/- Rows that are written, and rows that grow. -/
import Derived.Test.YtnhhppflnpfehacGreatDoorAm7
namespace Go.Am
open Go.RowKit

section
variable {E : Env} {P : Program} {ι ι1 ι2 : Inj} {m m1 m2 : Mem} {w w1 w2 : World}

/-- Ancestors, where only the blocks between the two are asked. -/
theorem Anc.between {b c : Nat} (h : Anc m b c) (hg : ∀ z, (z = b ∨ Anc m b z) → (z = c ∨ Anc m z c) → m1.get z = m.get z) : Anc m1 b c := by
  induction h with
  | one h k =>
    exact .one (by rw [hg _ (.inr (.one h k)) (.inl rfl)]; exact h) (by rw [hg _ (.inl rfl) (.inr (.one h k))]; exact k)
  | @step x c _ _ _ _ _ _ h k r ih =>
    have hxc : Anc m x c := .one h k
    have tr : ∀ z, Anc m z x → Anc m z c := fun z hz => .step h k hz
    refine .step (x := x) (by rw [hg _ (.inr (tr _ r)) (.inl rfl)]; exact h) (by rw [hg x (.inr r) (.inr hxc)]; exact k) (ih fun z hz1 hz2 => hg z hz1 (.inr ?_))
    rcases hz2 with e | e
    · subst e; exact hxc
    · exact tr z e

theorem Anc.trans {a b c : Nat} (h : Anc m a b) (k : Anc m b c) : Anc m a c := by
  induction k with
  | one h1 k1 => exact .step h1 k1 h
  | step h1 k1 _ ih => exact .step h1 k1 ih

/-- x hangs on the chain that begins at p. -/
def OnChain (m : Mem) (p : Option Nat) (x : Nat) : Prop := ∃ q cs es r, p = some q ∧ m.get q = some (.row cs .cl es r) ∧ (x = q ∨ Anc m x q)

theorem anc_iff {b x : Nat} {cs : List Value} {md : Md} {es : Nat} {p : Option Nat} (hg : m.get b = some (.row cs md es p)) : Anc m x b ↔ OnChain m p x := by
  constructor
  · intro h
    cases h with
    | one h k => rw [hg] at h; injection h with h; injection h with _ _ _ h; exact ⟨_, _, _, _, h, k, .inl rfl⟩
    | step h k r => rw [hg] at h; injection h with h; injection h with _ _ _ h; exact ⟨_, _, _, _, h, k, .inr r⟩
  · rintro ⟨q, cs', es', r, rfl, k, e | e⟩
    · subst e; exact .one hg k
    · exact .step hg k e

structure Killed (m m1 : Mem) (p : Option Nat) : Prop where
  nb : m1.nb = m.nb
  size : m1.size = m.size
  bar : m1.bar = m.bar
  gone : ∀ x, OnChain m p x → m1.get x = none
  kept : ∀ x, ¬ OnChain m p x → m1.get x = m.get x
  high : ∀ x, OnChain m p x → m.bar ≤ x

theorem anc_lt (hp : ∀ b cs md es q, m.get b = some (.row cs md es (some q)) → q < b) {x y : Nat} (h : Anc m x y) : x < y := by
  induction h with
  | one h _ => exact hp _ _ _ _ _ h
  | step h _ _ ih => exact Nat.lt_trans ih (hp _ _ _ _ _ h)

theorem kill_spec : ∀ (k : Nat) (m m1 : Mem) (p : Option Nat), m.nb ≤ m.bar → (∀ b cs md es q, m.get b = some (.row cs md es (some q)) → q < b) → m.kill k p = some m1 → Killed m m1 p := by
  intro k
  induction k with
  | zero =>
    intro m m1 p _ _ h
    cases p with
    | none => simp [Mem.kill] at h; subst h; exact ⟨rfl, rfl, rfl, (fun x ⟨_, _, _, _, e, _⟩ => by cases e), fun _ _ => rfl, (fun x ⟨_, _, _, _, e, _⟩ => by cases e)⟩
    | some p => simp [Mem.kill] at h
  | succ k ih =>
    intro m m1 p hnb hp h
    cases p with
    | none => simp [Mem.kill] at h; subst h; exact ⟨rfl, rfl, rfl, (fun x ⟨_, _, _, _, e, _⟩ => by cases e), fun _ _ => rfl, (fun x ⟨_, _, _, _, e, _⟩ => by cases e)⟩
    | some p =>
      simp only [Mem.kill] at h
      cases hg : m.get p with
      | none =>
        rw [hg] at h; simp at h; subst h
        exact ⟨rfl, rfl, rfl, (fun x ⟨_, _, _, _, e, k, _⟩ => by cases e; rw [hg] at k; cases k), fun _ _ => rfl, (fun x ⟨_, _, _, _, e, k, _⟩ => by cases e; rw [hg] at k; cases k)⟩
      | some o =>
        cases o with
        | row cs md es q =>
          cases md with
          | ro => rw [hg] at h; simp at h
          | rw => rw [hg] at h; simp at h
          | cl =>
            rw [hg] at h
            simp only at h
            cases hb : Nat.ble m.bar p with
            | false => simp [hb] at h
            | true =>
              simp only [hb, cond_true] at h
              have hbar := Nat.le_of_ble_eq_true hb
              have hnp : m.nb ≤ p := Nat.le_trans hnb hbar
              have hget : ∀ x, x ≠ p → (m.upd p none).get x = m.get x := fun x hx => Mem.get_upd_ne hnp hx _
              have hsame : (m.upd p none).get p = none := Mem.get_upd_same hnp _
              have hp' : ∀ b cs md es q, (m.upd p none).get b = some (.row cs md es (some q)) → q < b := fun b cs md es q e => by
                by_cases hbp : b = p
                · subst hbp; rw [hsame] at e; cases e
                · rw [hget b hbp] at e; exact hp _ _ _ _ _ e
              have K := ih (m.upd p none) m1 q hnb hp' h
              -- the chain from p on is p and the chain behind it
              have up : ∀ x, OnChain m q x → OnChain (m.upd p none) q x := by
                rintro x ⟨y, cs', es', r, rfl, k, e⟩
                have hyp := hp _ _ _ _ _ hg
                refine ⟨y, cs', es', r, rfl, by rw [hget y (by omega)]; exact k, ?_⟩
                rcases e with e | e
                · exact .inl e
                · refine .inr (e.between fun z _ hz => hget z ?_)
                  rcases hz with hz | hz
                  · omega
                  · have := anc_lt hp hz; omega
              have down : ∀ x, OnChain (m.upd p none) q x → OnChain m q x := by
                rintro x ⟨y, cs', es', r, rfl, k, e⟩
                have hyp := hp _ _ _ _ _ hg
                rw [hget y (by omega)] at k
                refine ⟨y, cs', es', r, rfl, k, ?_⟩
                rcases e with e | e
                · exact .inl e
                · refine .inr (e.between fun z _ hz => (hget z ?_).symm)
                  rcases hz with hz | hz
                  · omega
                  · have := anc_lt hp' hz; omega
              have split : ∀ x, OnChain m (some p) x ↔ x = p ∨ OnChain m q x := by
                intro x
                constructor
                · rintro ⟨y, cs', es', r, e, k, e'⟩
                  cases e
                  rcases e' with e' | e'
                  · exact .inl e'
                  · exact .inr ((anc_iff hg).1 e')
                · rintro (e | e)
                  · exact ⟨p, _, _, _, rfl, hg, .inl e⟩
                  · exact ⟨p, _, _, _, rfl, hg, .inr ((anc_iff hg).2 e)⟩
              refine ⟨K.nb, K.size, K.bar, fun x hx => ?_, fun x hx => ?_, fun x hx => ?_⟩
              · rcases (split x).1 hx with e | e
                · subst e
                  by_cases hc : OnChain (m.upd x none) q x
                  · exact K.gone x hc
                  · rw [K.kept x hc]; exact hsame
                · exact K.gone x (up x e)
              · have h1 : x ≠ p := fun e => hx ((split x).2 (.inl e))
                rw [K.kept x (fun e => hx ((split x).2 (.inr (down x e)))), hget x h1]
              · rcases (split x).1 hx with e | e
                · omega
                · exact K.high x (up x e)
        | loop => rw [hg] at h; simp at h
        | mark => rw [hg] at h; simp at h
        | map => rw [hg] at h; simp at h
        | str => rw [hg] at h; simp at h

theorem overK_get : ∀ (vs cs : List Value), vs.length ≤ cs.length → ∀ j, (overK vs cs)[j]? = if j < vs.length then vs[j]? else cs[j]?
  | [], cs, _, j => by rw [overK_nil]; simp
  | v :: vs, [], h, j => by simp at h
  | v :: vs, c :: cs, h, j => by
    rw [overK_cons]
    cases j with
    | zero => simp
    | succ j =>
      have := overK_get vs cs (by simpa using h) j
      simpa using this
theorem overK_length : ∀ (vs cs : List Value), vs.length ≤ cs.length → (overK vs cs).length = cs.length
  | [], cs, _ => by rw [overK_nil]
  | v :: vs, [], h => by simp at h
  | v :: vs, c :: cs, h => by rw [overK_cons]; simp [overK_length vs cs (by simpa using h)]

theorem splice_get : ∀ (cs : List Value) (off : Nat) (vs : List Value), off + vs.length ≤ cs.length → ∀ j : Nat,
    (splice cs off vs)[j]? = if off ≤ j ∧ j < off + vs.length then vs[j - off]? else cs[j]?
  | cs, 0, vs, h, j => by rw [splice_zero, overK_get vs cs (by omega)]; simp
  | [], off + 1, vs, h, j => by simp at h
  | c :: cs, off + 1, vs, h, j => by
    rw [splice_succ]
    cases j with
    | zero => simp
    | succ j =>
      have := splice_get cs off vs (by simp at h; omega) j
      simp only [List.getElem?_cons_succ, this]
      have e1 : (off ≤ j ∧ j < off + vs.length) ↔ (off + 1 ≤ j + 1 ∧ j + 1 < off + 1 + vs.length) := by omega
      have e2 : j + 1 - (off + 1) = j - off := by omega
      rw [e2]
      by_cases hc : off ≤ j ∧ j < off + vs.length
      · rw [if_pos hc, if_pos (e1.1 hc)]
      · rw [if_neg hc, if_neg (fun x => hc (e1.2 x))]

theorem splice_length : ∀ (cs : List Value) (off : Nat) (vs : List Value), off + vs.length ≤ cs.length → (splice cs off vs).length = cs.length
  | cs, 0, vs, h => by rw [splice_zero, overK_length vs cs (by omega)]
  | [], off + 1, vs, h => by simp at h
  | c :: cs, off + 1, vs, h => by rw [splice_succ]; simp [splice_length cs off vs (by simp at h; omega)]

/-- Cells are written: the row is written, what may share its array is gone. -/
theorem store_cells_all (h : Rel E ι m w) {a a' : Addr} {vs vs' : List Value} (ha : VR ι (.pointer (some a)) (.pointer (some a'))) (hvs : VRs ι vs vs') (hm : m.storeCells a vs = some m1) :
    ∃ w1, (storeCells a' vs').run P w = .ok () w1 ∧ w1 = setAll w a'.block a'.off vs' ∧ Step E ι m w ι m1 w1 := by
  cases ha with
  | @ptr b t off hb =>
  unfold Mem.storeCells at hm
  split at hm
  case h_2 => cases hm
  rename_i cs es prev hg
  cases hcond : (Nat.ble m.bar b && Nat.ble (off + vs.length) cs.length && allOne vs) with
  | false => simp [hcond] at hm
  | true =>
  simp only [hcond, cond_true] at hm
  simp only [Bool.and_eq_true] at hcond
  obtain ⟨⟨hbar, hlen⟩, hone⟩ := hcond
  have hbar := Nat.le_of_ble_eq_true hbar
  have hlen := Nat.le_of_ble_eq_true hlen
  cases hk : m.kill m.size prev with
  | none => rw [hk] at hm; simp at hm
  | some m0 =>
  rw [hk] at hm
  simp only [Option.map_some, Option.some.injEq] at hm
  have hprv : ∀ b cs md es q, m.get b = some (.row cs md es (some q)) → q < b := fun b cs md es q e => (h.prv b cs md es q e).1
  have K := kill_spec m.size m m0 prev h.nb hprv hk
  have hg' : m.get b = some (.row cs .rw es prev) := hg
  have hbm0 : m0.nb ≤ b := by rw [K.nb]; exact Nat.le_trans h.nb hbar
  obtain ⟨hcell, hrw⟩ := h.obj b t _ hb hg'
  obtain ⟨hes, hcap, c, el, fz, hblk, hcs, hfz⟩ := hrw (by decide)
  have hl' := hvs.length
  have hbn : ¬ OnChain m prev b := fun hc => by have := anc_lt hprv ((anc_iff hg').2 hc); omega
  -- the model's run
  have hrun : (storeCells ⟨t.blk, t.dlt + off, none⟩ vs').run P w = .ok () (setAll w t.blk (t.dlt + off) vs') := by
    have := run_storeCells (P := P) t.blk (t.dlt + off) vs' 0 w (hvs.allOne hone)
      (fun j hj => by
        have hlt : off + j < cs.length := by omega
        obtain ⟨v', e, _⟩ := hcell (off + j) cs[off + j] (by simp [hlt])
        rw [show t.dlt + off + 0 + j = t.dlt + (off + j) by omega, e]; rfl)
      (fun j hj => hfz _ (fz_le (by omega)))
    simpa using this
  refine ⟨_, hrun, rfl, ?_⟩
  obtain ⟨c1, hb1, hs1, hc1⟩ := setAll_block t.blk vs' (t.dlt + off) w c el fz hblk (by omega)
  have hst := setAll_streams t.blk vs' (t.dlt + off) w
  have hoth : ∀ x, x ≠ t.blk → (setAll w t.blk (t.dlt + off) vs').heap[x]? = w.heap[x]? := fun x hx => setAll_other _ _ hx _ _ _
  have hsize : (setAll w t.blk (t.dlt + off) vs').heap.size = w.heap.size := setAll_size _ _ _ _
  generalize setAll w t.blk (t.dlt + off) vs' = w1 at *
  subst hm
  have hsame : (m0.upd b (some (.row (splice cs off vs) .rw es none))).get b = some (.row (splice cs off vs) .rw es none) := Mem.get_upd_same hbm0 _
  have hget : ∀ x, x ≠ b → (m0.upd b (some (.row (splice cs off vs) .rw es none))).get x = m0.get x := fun x hx => Mem.get_upd_ne hbm0 hx _
  have hgone : ∀ x, OnChain m prev x → (m0.upd b (some (.row (splice cs off vs) .rw es none))).get x = none := fun x hx => by
    rw [hget x (fun e => by subst e; exact hbn hx)]; exact K.gone x hx
  have hkept : ∀ x, x ≠ b → ¬ OnChain m prev x → (m0.upd b (some (.row (splice cs off vs) .rw es none))).get x = m.get x := fun x hx hc => by rw [hget x hx]; exact K.kept x hc
  -- what lives now, and is not b, lived
  have hlive : ∀ x o, (m0.upd b (some (.row (splice cs off vs) .rw es none))).get x = some o → x ≠ b → ¬ OnChain m prev x ∧ m.get x = some o := fun x o e hx => by
    by_cases hc : OnChain m prev x
    · rw [hgone x hc] at e; cases e
    · exact ⟨hc, by rw [← hkept x hx hc]; exact e⟩
  -- b is nobody's ancestor
  have hnoA : ∀ y, ¬ Anc m b y := fun y ha => by obtain ⟨⟨_, _, _, e⟩, _⟩ := ha.rows; rw [hg'] at e; cases e
  -- none that lives shares b's array
  have halone : ∀ x u o, ι x = some u → (m0.upd b (some (.row (splice cs off vs) .rw es none))).get x = some o → x ≠ b → u.blk ≠ t.blk := fun x u o e k hx hblk' => by
    obtain ⟨hc, k'⟩ := hlive x o k hx
    rcases h.sep x b u t o _ e hb k' hg' hx hblk' (Bool.and_false _) with ha | ha
    · exact hc ((anc_iff hg').1 ha)
    · exact hnoA _ ha
  have up : ∀ x y, Anc m x y → x ≠ b → y ≠ b → ¬ OnChain m prev x → Anc (m0.upd b (some (.row (splice cs off vs) .rw es none))) x y := by
    intro x y ha hx hy hc
    have notOn : ∀ z, (z = x ∨ Anc m x z) → ¬ OnChain m prev z := by
      rintro z (e | e) hz
      · subst e; exact hc hz
      · obtain ⟨q, cs', es', r, hq, k, e'⟩ := hz
        refine hc ⟨q, cs', es', r, hq, k, .inr ?_⟩
        rcases e' with e' | e'
        · subst e'; exact e
        · exact e.trans e'
    refine ha.between fun z hz1 hz2 => hkept z ?_ (notOn z hz1)
    rintro rfl
    rcases hz2 with e | e
    · exact hy e.symm
    · exact hnoA _ e
  have down : ∀ x y, Anc (m0.upd b (some (.row (splice cs off vs) .rw es none))) x y → Anc m x y := by
    intro x y ha
    refine ha.between fun z hz1 hz2 => ?_
    have hzb : z ≠ b := by
      rintro rfl
      rcases hz2 with e | e
      · subst e
        obtain ⟨_, _, _, _, _, e'⟩ := ha.rows
        rw [hsame] at e'; injection e' with e'; injection e' with _ _ _ e'; cases e'
      · obtain ⟨⟨_, _, _, e'⟩, _⟩ := e.rows
        rw [hsame] at e'; injection e' with e'; injection e' with _ e' _ _; cases e'
    have hl : ∃ o, (m0.upd b (some (.row (splice cs off vs) .rw es none))).get z = some o := by
      rcases hz1 with e | e
      · subst e; exact ha.live.1
      · exact e.live.2
    obtain ⟨o, hl⟩ := hl
    rw [(hlive z o hl hzb).2, hl]
  refine ⟨Sub.refl _, (fun x u e n => by rw [e] at n; cases n), ?_, ?_, ?_, by omega, by simp [Mem.upd_def, K.size], hst.1, hst.2.1, hst.2.2⟩
  · constructor
    · intro x u e; have := h.dom _ _ e; exact ⟨by simp [Mem.upd_def, K.size]; exact this.1, by omega⟩
    · intro x u o e k
      by_cases hx : x = b
      · subst hx
        rw [hsame] at k; cases k
        rw [hb] at e; cases e
        refine ⟨fun j v ev => ?_, fun _ => ⟨hes, by rw [splice_length _ _ _ hlen]; exact hcap, c1, el, fz, hb1, by omega, fun j hj => ?_⟩⟩
        · rw [splice_get _ _ _ hlen] at ev
          rw [cell?_block hb1, hc1]
          by_cases hin : off ≤ j ∧ j < off + vs.length
          · rw [if_pos hin] at ev
            rw [if_pos (by omega)]
            obtain ⟨v', e', hr⟩ := hvs.get ev
            exact ⟨v', by rw [show t.dlt + j - (t.dlt + off) = j - off by omega]; exact e', hr⟩
          · rw [if_neg hin] at ev
            rw [if_neg (by omega)]
            obtain ⟨v', e', hr⟩ := hcell j v ev
            rw [cell?_block hblk] at e'
            exact ⟨v', e', hr⟩
        · have hf := hfz j hj
          unfold World.frozen? at hf ⊢
          rw [hblk] at hf; rw [hb1]; exact hf
      · exact (h.obj x u o e (hlive x o k hx).2).move (Sub.refl _) (hoth _ (halone x u o e k hx))
    · intro x y u v ox oy e1 e2 k1 k2 hne hblk' hro
      by_cases hx : x = b
      · subst hx
        rw [hb] at e1; cases e1
        exact absurd hblk'.symm (halone y v oy e2 k2 (Ne.symm hne))
      · by_cases hy : y = b
        · subst hy
          rw [hb] at e2; cases e2
          exact absurd hblk' (halone x u ox e1 k1 hne)
        · obtain ⟨hcx, kx⟩ := hlive x ox k1 hx
          obtain ⟨hcy, ky⟩ := hlive y oy k2 hy
          exact (h.sep x y u v ox oy e1 e2 kx ky hne hblk' hro).imp (fun ha => up _ _ ha hx hy hcx) (fun ha => up _ _ ha hy hx hcy)
    · intro x y u v e1 e2 ha hblk'
      have ha' := down _ _ ha
      obtain ⟨⟨ox, lx⟩, oy, ly⟩ := ha.live
      have hx : x ≠ b := by rintro rfl; exact hnoA _ ha'
      have hy : y ≠ b := by
        rintro rfl
        obtain ⟨_, _, _, _, _, e'⟩ := ha.rows
        rw [hsame] at e'; injection e' with e'; injection e' with _ _ _ e'; cases e'
      have := h.rng x y u v e1 e2 ha' hblk'
      rw [lx, ly]
      rw [(hlive x ox lx hx).2, (hlive y oy ly hy).2] at this
      exact this
    · show m0.nb ≤ m0.bar; rw [K.nb, K.bar]; exact h.nb
    · show m0.bar ≤ m0.size; rw [K.bar, K.size]; exact h.bar
    · intro x o hx k
      have hx' : x < m.nb := by have : x < m0.nb := hx; rw [K.nb] at this; exact this
      have hxb : x ≠ b := by have := h.nb; omega
      exact h.base x o hx' (hlive x o k hxb).2
    · exact h.glob
    · intro x hx
      have hx' : m.size ≤ x := by have : m0.size ≤ x := hx; rw [K.size] at this; exact this
      have := (h.dom _ _ hb).1
      by_cases hc : OnChain m prev x
      · exact hgone x hc
      · rw [hkept x (by omega) hc]; exact h.top x hx'
    · intro x cs' md es' q k
      have hx : x ≠ b := by
        rintro rfl
        rw [hsame] at k; injection k with k; injection k with _ _ _ k; cases k
      obtain ⟨hq, hc⟩ := h.prv _ _ _ _ _ (hlive x _ k hx).2
      refine ⟨hq, fun o e => ?_⟩
      by_cases hqb : q = b
      · subst hqb
        obtain ⟨_, _, _, e'⟩ := hc _ hg'
        injection e' with _ e' _ _; cases e'
      · exact hc o (hlive q o e hqb).2
  · rintro x hx ⟨y, u, o, e, k, hro, hu⟩
    by_cases hy : y = b
    · subst hy
      rw [hb] at e; cases e
      exact ⟨y, t, _, hb, hg', rfl, hu⟩
    · exact ⟨y, u, o, e, (hlive y o k hy).2, hro, hu⟩
  · intro x hx hn
    exact hoth x (fun e => hn ⟨b, t, _, hb, hg', rfl, e.symm⟩)
theorem store_cells (h : Rel E ι m w) {a a' : Addr} {vs vs' : List Value} (ha : VR ι (.pointer (some a)) (.pointer (some a'))) (hvs : VRs ι vs vs') (hm : m.storeCells a vs = some m1) :
    ∃ w1, (storeCells a' vs').run P w = .ok () w1 ∧ Step E ι m w ι m1 w1 :=
  let ⟨w1, h1, _, h2⟩ := store_cells_all h ha hvs hm
  ⟨w1, h1, h2⟩
end
end Go.Am
