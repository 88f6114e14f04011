/- Rows that grow: the old row is claimed; the new one lies in the old array, or in a new one. -/
import Derived.Test.YtnhhppflnpfehacGreatDoorAm8
namespace Go.Am
open Go.RowKit

section
variable {E : Env} {P : Program} {ι ι1 ι2 : Inj} {m m1 m2 : Mem} {w w1 w2 : World}

theorem row_high (h : Rel E ι m w) {A : Nat} {cs : List Value} {md : Md} {es : Nat} {q : Option Nat} (hg : m.get A = some (.row cs md es q)) (hmd : md ≠ .ro) : m.nb ≤ A := by
  rcases Nat.lt_or_ge A m.nb with hx | hx
  · obtain ⟨_, _, e⟩ := h.base A _ hx hg
    injection e with _ e _ _; exact absurd e hmd
  · exact hx

theorem claim_step (h : Rel E ι m w) {A : Nat} {cs : List Value} {es : Nat} {prev : Option Nat} (hg : m.get A = some (.row cs .rw es prev)) :
    Step E ι m w ι (m.upd A (some (.row cs .cl es prev))) w ∧ ∀ c cs' md es', (m.upd A (some (.row cs .cl es prev))).get c ≠ some (.row cs' md es' (some A)) := by
  have hnb := row_high h hg (by decide)
  have hsame : (m.upd A (some (.row cs .cl es prev))).get A = some (.row cs .cl es prev) := Mem.get_upd_same hnb _
  have hget : ∀ c, c ≠ A → (m.upd A (some (.row cs .cl es prev))).get c = m.get c := fun c hc => Mem.get_upd_ne hnb hc _
  have hnoA : ∀ y, ¬ Anc m A y := fun y ha => by obtain ⟨⟨_, _, _, e⟩, _⟩ := ha.rows; rw [hg] at e; cases e
  have hno : ∀ c cs' md es', m.get c ≠ some (.row cs' md es' (some A)) := fun c cs' md es' e => by
    obtain ⟨_, _, _, e'⟩ := (h.prv _ _ _ _ _ e).2 _ hg
    injection e' with _ e' _ _; cases e'
  have hno' : ∀ c cs' md es', (m.upd A (some (.row cs .cl es prev))).get c ≠ some (.row cs' md es' (some A)) := fun c cs' md es' e => by
    by_cases hc : c = A
    · subst hc; rw [hsame] at e; injection e with e; injection e with _ _ _ e; subst e; exact hno _ _ _ _ hg
    · rw [hget c hc] at e; exact hno _ _ _ _ e
  -- a row reads alike but for the mark
  have hrow : ∀ x cs' md es' q, m.get x = some (.row cs' md es' q) → ∃ md', (m.upd A (some (.row cs .cl es prev))).get x = some (.row cs' md' es' q) ∧ (md = .cl → md' = .cl) := fun x cs' md es' q e => by
    by_cases hx : x = A
    · subst hx; rw [hg] at e; injection e with e; injection e with e1 e2 e3 e4; subst e1; subst e2; subst e3; subst e4; exact ⟨_, hsame, fun e => by cases e⟩
    · exact ⟨md, by rw [hget x hx]; exact e, id⟩
  have hrow' : ∀ x cs' md es' q, (m.upd A (some (.row cs .cl es prev))).get x = some (.row cs' md es' q) → x ≠ A → m.get x = some (.row cs' md es' q) := fun x cs' md es' q e hx => by rw [← hget x hx]; exact e
  have up : ∀ x y, Anc m x y → Anc (m.upd A (some (.row cs .cl es prev))) x y := by
    intro x y ha
    induction ha with
    | one h1 k1 =>
      obtain ⟨_, e1, _⟩ := hrow _ _ _ _ _ h1
      obtain ⟨_, e2, f2⟩ := hrow _ _ _ _ _ k1
      rw [f2 rfl] at e2; exact .one e1 e2
    | step h1 k1 _ ih =>
      obtain ⟨_, e1, _⟩ := hrow _ _ _ _ _ h1
      obtain ⟨_, e2, f2⟩ := hrow _ _ _ _ _ k1
      rw [f2 rfl] at e2; exact .step e1 e2 ih
  have down : ∀ x y, Anc (m.upd A (some (.row cs .cl es prev))) x y → Anc m x y := by
    intro x y ha
    have hx : ∀ c cs' md es' b, (m.upd A (some (.row cs .cl es prev))).get c = some (.row cs' md es' (some b)) → b ≠ A := fun c cs' md es' b e hb => by subst hb; exact hno' _ _ _ _ e
    have hc : ∀ c cs' md es' q, (m.upd A (some (.row cs .cl es prev))).get c = some (.row cs' md es' q) → ∃ md', m.get c = some (.row cs' md' es' q) := fun c cs' md es' q e => by
      by_cases hcA : c = A
      · subst hcA; rw [hsame] at e; injection e with e; injection e with e1 e2 e3 e4; subst e1; subst e3; subst e4; exact ⟨_, hg⟩
      · exact ⟨_, hrow' _ _ _ _ _ e hcA⟩
    induction ha with
    | one h1 k1 => obtain ⟨_, e1⟩ := hc _ _ _ _ _ h1; exact .one e1 (hrow' _ _ _ _ _ k1 (hx _ _ _ _ _ h1))
    | step h1 k1 _ ih => obtain ⟨_, e1⟩ := hc _ _ _ _ _ h1; exact .step e1 (hrow' _ _ _ _ _ k1 (hx _ _ _ _ _ h1)) ih
  have hlen : ∀ x, rowLen ((m.upd A (some (.row cs .cl es prev))).get x) = rowLen (m.get x) := fun x => by
    by_cases hx : x = A
    · subst hx; rw [hsame, hg]; rfl
    · rw [hget x hx]
  have hlive : ∀ x o, (m.upd A (some (.row cs .cl es prev))).get x = some o → ∃ o', m.get x = some o' ∧ o'.isRo = o.isRo := fun x o e => by
    by_cases hx : x = A
    · subst hx; rw [hsame] at e; cases e; exact ⟨_, hg, rfl⟩
    · exact ⟨o, by rw [← hget x hx]; exact e, rfl⟩
  refine ⟨⟨Sub.refl _, (fun x u e n => by rw [e] at n; cases n), ?_, ?_, fun _ _ _ => rfl, Nat.le_refl _, Nat.le_refl _, rfl, rfl, rfl⟩, hno'⟩
  · constructor
    · exact h.dom
    · intro x u o e k
      by_cases hx : x = A
      · subst hx; rw [hsame] at k; cases k
        have := h.obj x u _ e hg
        exact ⟨this.1, fun _ => this.2 (by decide)⟩
      · rw [hget x hx] at k; exact h.obj x u o e k
    · intro x y u v ox oy e1 e2 k1 k2 hne hb hro
      obtain ⟨ox', kx, rx⟩ := hlive x ox k1
      obtain ⟨oy', ky, ry⟩ := hlive y oy k2
      exact (h.sep x y u v ox' oy' e1 e2 kx ky hne hb (by rw [rx, ry]; exact hro)).imp (up _ _) (up _ _)
    · intro x y u v e1 e2 ha hb
      rw [hlen x, hlen y]; exact h.rng x y u v e1 e2 (down _ _ ha) hb
    · exact h.nb
    · exact h.bar
    · intro x o hx k
      have hx' : x < m.nb := hx
      rw [hget x (by omega)] at k; exact h.base x o hx' k
    · exact h.glob
    · intro x hx
      have hx' : m.size ≤ x := hx
      have hAm : A < m.size := by
        rcases Nat.lt_or_ge A m.size with hy | hy
        · exact hy
        · rw [h.top A hy] at hg; cases hg
      rw [hget x (by omega)]; exact h.top x hx'
    · intro x cs' md es' q k
      have hqA : q ≠ A := fun e => by subst e; exact hno' _ _ _ _ k
      by_cases hx : x = A
      · subst hx; rw [hsame] at k; injection k with k; injection k with e1 e2 e3 e4; subst e4
        obtain ⟨hq, hc⟩ := h.prv _ _ _ _ _ hg
        exact ⟨hq, fun o e => hc o (by rw [← hget q hqA]; exact e)⟩
      · rw [hget x hx] at k
        obtain ⟨hq, hc⟩ := h.prv _ _ _ _ _ k
        exact ⟨hq, fun o e => hc o (by rw [← hget q hqA]; exact e)⟩
  · rintro x hx ⟨y, u, o, e, k, hro, hu⟩
    obtain ⟨o', k', hr⟩ := hlive y o k
    exact ⟨y, u, o', e, k', by rw [hr]; exact hro, hu⟩

theorem anc_first {b c : Nat} (h : Anc m b c) : ∃ x cs md es, m.get x = some (.row cs md es (some b)) := by
  induction h with
  | one h _ => exact ⟨_, _, _, _, h⟩
  | step _ _ _ ih => exact ih

/-- The new row lies in the old array, behind what is known of it. -/
theorem grow_step (h : Rel E ι m w) {A off : Nat} {t : Tgt} {cs new new' : List Value} {es : Nat} {prev : Option Nat} (hA : ι A = some t) (hg : m.get A = some (.row cs .cl es prev))
    (hno : ∀ c cs' md es', m.get c ≠ some (.row cs' md es' (some A))) (hoff : off ≤ cs.length) (hnew : VRs ι new new') (hcap : t.dlt + cs.length + new.length ≤ t.cap) :
    Step E ι m w (ι.put m.size ⟨t.blk, t.dlt + off, t.cap, es⟩) (m.new (.row (cs.drop off ++ new) .rw es (some A))) (setAll w t.blk (t.dlt + cs.length) new') := by
  have hn := h.none_of_size
  have hs := Inj.put_sub (ι := ι) ⟨t.blk, t.dlt + off, t.cap, es⟩ hn
  have hnb : m.nb ≤ m.size := Nat.le_trans h.nb h.bar
  obtain ⟨hcell, hrw⟩ := h.obj A t _ hA hg
  obtain ⟨hes, hcapA, c, el, fz, hblk, hcs, hfz⟩ := hrw (by decide)
  have hl' := hnew.length
  have hAs := (h.dom _ _ hA).1
  have htb := (h.dom _ _ hA).2
  obtain ⟨c1, hb1, hs1, hc1⟩ := setAll_block t.blk new' (t.dlt + cs.length) w c el fz hblk (by omega)
  have hst := setAll_streams t.blk new' (t.dlt + cs.length) w
  have hoth : ∀ x, x ≠ t.blk → (setAll w t.blk (t.dlt + cs.length) new').heap[x]? = w.heap[x]? := fun x hx => setAll_other _ _ hx _ _ _
  have hsize : (setAll w t.blk (t.dlt + cs.length) new').heap.size = w.heap.size := setAll_size _ _ _ _
  have hfr : ∀ a, (setAll w t.blk (t.dlt + cs.length) new').frozen? a = w.frozen? a := fun a => setAll_frozen _ _ _ _ _
  generalize setAll w t.blk (t.dlt + cs.length) new' = w1 at *
  have hN : (m.new (.row (cs.drop off ++ new) .rw es (some A))).get m.size = some (.row (cs.drop off ++ new) .rw es (some A)) := Mem.get_new_same hnb _
  have hget : ∀ b, b ≠ m.size → (m.new (.row (cs.drop off ++ new) .rw es (some A))).get b = m.get b := fun b hb => Mem.get_new_ne hnb hb _
  have hput : ∀ b u, (ι.put m.size ⟨t.blk, t.dlt + off, t.cap, es⟩) b = some u → (b = m.size ∧ u = ⟨t.blk, t.dlt + off, t.cap, es⟩) ∨ (b ≠ m.size ∧ ι b = some u) := fun b u e => by
    unfold Inj.put at e; split at e
    · rename_i hb; cases e; exact .inl ⟨hb, rfl⟩
    · rename_i hb; exact .inr ⟨hb, e⟩
  have up : ∀ b c, Anc m b c → Anc (m.new (.row (cs.drop off ++ new) .rw es (some A))) b c := fun b c ha => ha.under h.top fun x hx => hget x (by omega)
  have hltm : ∀ x o, m.get x = some o → x < m.size := fun x o e => by
    rcases Nat.lt_or_ge x m.size with hx | hx
    · exact hx
    · rw [h.top _ hx] at e; cases e
  have hlt : ∀ b c, Anc (m.new (.row (cs.drop off ++ new) .rw es (some A))) b c → c ≠ m.size → b ≠ m.size := by
    intro b c ha hc hb
    induction ha with
    | @one c _ _ _ _ _ _ h' k' =>
      rw [hget _ hc] at h'
      have := (h.prv _ _ _ _ _ h').1
      have := hltm _ _ h'
      omega
    | @step x c _ _ _ _ _ _ h' k' r ih =>
      rw [hget _ hc] at h'
      have := (h.prv _ _ _ _ _ h').1
      have := hltm _ _ h'
      exact ih (by omega)
  have down : ∀ b c, Anc (m.new (.row (cs.drop off ++ new) .rw es (some A))) b c → c ≠ m.size → Anc m b c := by
    intro b c ha
    induction ha with
    | one h' k' => intro hc; exact .one (by rw [← hget _ hc]; exact h') (by rw [← hget _ (hlt _ _ (.one h' k') hc)]; exact k')
    | @step x c _ _ _ _ _ _ h' k' r ih =>
      intro hc
      have hx : x ≠ m.size := hlt x c (.one h' k') hc
      exact .step (by rw [← hget _ hc]; exact h') (by rw [← hget _ hx]; exact k') (ih hx)
  have hnoA : ∀ y, ¬ Anc m A y := fun y ha => by obtain ⟨x, _, _, _, e⟩ := anc_first ha; exact hno _ _ _ _ e
  -- who shares the array is A, or A's ancestor
  have hshare : ∀ x u o, ι x = some u → m.get x = some o → u.blk = t.blk → x = A ∨ Anc m x A := fun x u o e k hb => by
    by_cases hx : x = A
    · exact .inl hx
    · rcases h.sep x A u t o _ e hA k hg hx hb (Bool.and_false _) with ha | ha
      · exact .inr ha
      · exact absurd ha (hnoA _)
  -- the new row's ancestors are A and A's ancestors
  have hancN : ∀ x, Anc (m.new (.row (cs.drop off ++ new) .rw es (some A))) x m.size → x = A ∨ Anc m x A := fun x ha => by
    cases ha with
    | one h' k' => rw [hN] at h'; injection h' with h'; injection h' with _ _ _ h'; injection h' with h'; exact .inl h'.symm
    | step h' k' r => rw [hN] at h'; injection h' with h'; injection h' with _ _ _ h'; injection h' with h'; subst h'; exact .inr (down _ _ r (by omega))
  refine ⟨hs, ?_, ?_, ?_, ?_, by omega, by simp [Mem.new_def], hst.1, hst.2.1, hst.2.2⟩
  · intro b u e n
    rcases hput b u e with ⟨hb, _⟩ | ⟨_, e'⟩
    · omega
    · rw [n] at e'; cases e'
  · constructor
    · intro b u e
      rcases hput b u e with ⟨hb, hu⟩ | ⟨_, e'⟩
      · subst hb; subst hu; simp [Mem.new_def]; omega
      · have := h.dom _ _ e'; simp [Mem.new_def]; omega
    · intro b u o e k
      rcases hput b u e with ⟨hb, hu⟩ | ⟨hb, e'⟩
      · subst hb; subst hu
        rw [hN] at k; cases k
        refine ⟨fun j v ev => ?_, fun _ => ⟨rfl, by simp; omega, c1, el, fz, hb1, by simp; omega, fun j hj => by rw [hfr]; exact hfz j (by subst hes; exact hj)⟩⟩
        show ∃ v', w1.cell? ⟨t.blk, t.dlt + off + j, none⟩ = some v' ∧ _
        rw [cell?_block hb1, hc1]
        have hdl : (cs.drop off).length = cs.length - off := by simp
        by_cases hj : j < cs.length - off
        · rw [List.getElem?_append_left (by omega), List.getElem?_drop] at ev
          obtain ⟨v', e', hr⟩ := hcell (off + j) v ev
          rw [cell?_block hblk] at e'
          rw [if_neg (by omega)]
          exact ⟨v', by rw [Nat.add_assoc]; exact e', hr.mono hs⟩
        · rw [List.getElem?_append_right (by omega)] at ev
          have hlt2 : j - (cs.drop off).length < new.length := by
            rcases Nat.lt_or_ge (j - (cs.drop off).length) new.length with hx | hx
            · exact hx
            · rw [List.getElem?_eq_none hx] at ev; cases ev
          obtain ⟨v', e', hr⟩ := hnew.get ev
          rw [if_pos (by omega)]
          refine ⟨v', ?_, hr.mono hs⟩
          rw [← e']; congr 1; omega
      · rw [hget b hb] at k
        by_cases hbk : u.blk = t.blk
        · -- a row that shares the array: what is known of it lies ahead of what was written
          have hle : u.dlt + rowLen (m.get b) ≤ t.dlt + cs.length := by
            rcases hshare b u o e' k hbk with hx | hx
            · subst hx; rw [hA] at e'; cases e'; rw [hg]; exact Nat.le_refl _
            · have := h.rng b A u t e' hA hx hbk
              rw [hg] at this; exact this
          have hro : ∃ cs' md es' q, o = .row cs' md es' q := by
            rcases hshare b u o e' k hbk with hx | hx
            · subst hx; rw [hg] at k; cases k; exact ⟨_, _, _, _, rfl⟩
            · obtain ⟨⟨_, _, _, e2⟩, _⟩ := hx.rows; rw [k] at e2; cases e2; exact ⟨_, _, _, _, rfl⟩
          obtain ⟨cs', md, es', q, rfl⟩ := hro
          rw [k] at hle
          have hob := h.obj b u _ e' k
          refine ⟨fun j v ev => ?_, fun hmd => ?_⟩
          · obtain ⟨v', e2, hr⟩ := hob.1 j v ev
            have hj : j < cs'.length := by
              rcases Nat.lt_or_ge j cs'.length with hx | hx
              · exact hx
              · rw [List.getElem?_eq_none hx] at ev; cases ev
            simp only [rowLen] at hle
            rw [hbk] at e2 ⊢
            rw [cell?_block hblk] at e2
            rw [cell?_block hb1, hc1, if_neg (by omega)]
            exact ⟨v', e2, hr.mono hs⟩
          · obtain ⟨g1, g2, c2, el2, fz2, g3, g4, g5⟩ := hob.2 hmd
            rw [hbk] at g3
            rw [hblk] at g3; cases g3
            exact ⟨g1, g2, c1, el, fz, by rw [hbk]; exact hb1, by omega, fun j hj => by rw [hfr]; exact g5 j hj⟩
        · exact (h.obj b u o e' k).move hs (hoth _ hbk)
    · intro b c' u v ob oc e1 e2 k1 k2 hne hbk hro
      rcases hput b u e1 with ⟨hb, hu⟩ | ⟨hb, e1'⟩
      · rcases hput c' v e2 with ⟨hc, hv⟩ | ⟨hc, e2'⟩
        · exact absurd (hb.trans hc.symm) hne
        · subst hb; subst hu
          rw [hget c' hc] at k2
          rcases hshare c' v oc e2' k2 hbk.symm with hx | hx
          · subst hx; exact .inr (.one hN (by rw [hget c' hc]; exact hg))
          · exact .inr (.step hN (by rw [hget A (by omega)]; exact hg) (up _ _ hx))
      · rcases hput c' v e2 with ⟨hc, hv⟩ | ⟨hc, e2'⟩
        · subst hc; subst hv
          rw [hget b hb] at k1
          rcases hshare b u ob e1' k1 hbk with hx | hx
          · subst hx; exact .inl (.one hN (by rw [hget b hb]; exact hg))
          · exact .inl (.step hN (by rw [hget A (by omega)]; exact hg) (up _ _ hx))
        · rw [hget b hb] at k1; rw [hget c' hc] at k2
          exact (h.sep b c' u v ob oc e1' e2' k1 k2 hne hbk hro).imp (up _ _) (up _ _)
    · intro b c' u v e1 e2 ha hbk
      rcases hput c' v e2 with ⟨hc, hv⟩ | ⟨hc, e2'⟩
      · subst hc; subst hv
        rcases hput b u e1 with ⟨hb, hu⟩ | ⟨hb, e1'⟩
        · subst hb; subst hu; exact Nat.le_refl _
        · have hle : u.dlt + rowLen (m.get b) ≤ t.dlt + cs.length := by
            rcases hancN b ha with hx | hx
            · subst hx; rw [hA] at e1'; cases e1'; rw [hg]; exact Nat.le_refl _
            · have := h.rng b A u t e1' hA hx hbk
              rw [hg] at this; exact this
          rw [hN, hget b hb]
          simp [rowLen] at hle ⊢
          cases hgb : m.get b with
          | none => rw [hgb] at hle; simp at hle ⊢; omega
          | some ob => rw [hgb] at hle; cases ob <;> simp at hle ⊢ <;> omega
      · have hb := hlt b c' ha hc
        rcases hput b u e1 with ⟨hb', hu⟩ | ⟨_, e1'⟩
        · exact absurd hb' hb
        · rw [hget b hb, hget c' hc]
          exact h.rng b c' u v e1' e2' (down b c' ha hc) hbk
    · exact h.nb
    · have := h.bar; simp [Mem.new_def]; omega
    · intro b o' hb k
      have hb' : b < m.nb := hb
      rw [hget b (by omega)] at k
      exact h.base b o' hb' k
    · intro g hg'
      obtain ⟨u, e, hu⟩ := h.glob g hg'
      exact ⟨u, hs _ _ e, hu⟩
    · intro b hb
      have hb' : m.size + 1 ≤ b := hb
      rw [hget b (by omega)]
      exact h.top b (by omega)
    · intro b cs' md es' q k
      by_cases hb : b = m.size
      · subst hb
        rw [hN] at k; injection k with k; injection k with _ _ _ k; injection k with k; subst k
        exact ⟨hAs, fun o e => by rw [hget A (by omega), hg] at e; cases e; exact ⟨_, _, _, rfl⟩⟩
      · rw [hget b hb] at k
        obtain ⟨hq, hc⟩ := h.prv _ _ _ _ _ k
        have := hltm _ _ k
        exact ⟨hq, fun o e => hc o (by rw [← hget q (by omega)]; exact e)⟩
  · rintro b hb ⟨a, u, o', e, k, hr, hu⟩
    rcases hput a u e with ⟨ha, hu'⟩ | ⟨ha, e'⟩
    · subst hu'; exact ⟨A, t, _, hA, hg, rfl, hu⟩
    · rw [hget a ha] at k; exact ⟨a, u, o', e', k, hr, hu⟩
  · intro b hb hnn
    exact hoth b (fun e => hnn ⟨A, t, _, hA, hg, rfl, e.symm⟩)
end
end Go.Am
