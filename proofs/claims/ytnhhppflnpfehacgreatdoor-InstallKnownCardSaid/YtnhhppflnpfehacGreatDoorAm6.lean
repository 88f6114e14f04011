/- The relation between the abstract memory and the world, and what each touch of memory does to it. -/
import Derived.Test.YtnhhppflnpfehacGreatDoorAm5
namespace Go.Am
open Go.RowKit

/-! ### Code whose constants bear no address -/
def opndOk (ng : Nat) : Operand → Bool
  | .const v => closedV v
  | .global g => Nat.blt g ng
  | _ => true
def opndsOk (ng : Nat) : List Operand → Bool
  | [] => true
  | x :: r => opndOk ng x && opndsOk ng r
def optOk (ng : Nat) : Option Operand → Bool
  | none => true
  | some x => opndOk ng x
def opOk (ng : Nat) : Op → Bool
  | .move x | .assign x | .box _ x | .load _ x | .nilCheck x | .unOp _ _ x | .convert _ _ x | .makeInterface _ x | .fieldAddr _ x _ | .field _ x _ | .extract x _ | .range _ x | .next x _ => opndOk ng x
  | .pick c a b => opndOk ng c && (opndOk ng a && opndOk ng b)
  | .build _ ps | .buildSlice _ _ ps => opndsOk ng (ps.toList.map fun p => p.2)
  | .store _ a v | .binOp _ _ a v _ | .makeSlice _ a v | .indexAddr _ a v | .index _ a v => opndOk ng a && opndOk ng v
  | .makeFunc _ first captured => opndsOk ng first.toList && opndsOk ng captured.toList
  | .slice _ x l h m => opndOk ng x && (optOk ng l && (optOk ng h && optOk ng m))
  | .call c => opndsOk ng c.args.toList && (match c.callee with | .value f => opndOk ng f | _ => true)
  | .makeMap _ r => optOk ng r
  | .lookup _ a v _ => opndOk ng a && opndOk ng v
  | .mapUpdate _ a k v | .insert _ a k v => opndOk ng a && (opndOk ng k && opndOk ng v)
  | _ => true
def opsOk (ng : Nat) : List Oper → Bool
  | [] => true
  | o :: r => opOk ng o.op && opsOk ng r
def codeOk (ng : Nat) : Code → Bool
  | .region _ ops _ => opsOk ng ops.toList
  | .seq a b => codeOk ng a && codeOk ng b
  | .cond c a b => opndOk ng c && (codeOk ng a && codeOk ng b)
  | .block _ b => codeOk ng b
  | .loop b => codeOk ng b
  | .scope b => codeOk ng b
  | .rangeFunc f _ a b => opndOk ng f && (codeOk ng a && codeOk ng b)
  | _ => true

/-! ### Objects -/
def TR (ι : Inj) (tm : Tr Value) (nt : Nat) (tmps : Array Value) : Prop :=
  tmps.size = nt ∧ ∀ i : Nat, VR ι (ev tm (.tmp i)) (tmps.getD i undef)

def ER (ι : Inj) (e e' : MapEntry) : Prop := VR ι e.key e'.key ∧ VR ι e.val e'.val ∧ e.born = e'.born
inductive ERs (ι : Inj) : List MapEntry → List MapEntry → Prop where
  | nil : ERs ι [] []
  | cons {e e' : MapEntry} {l l' : List MapEntry} (h : ER ι e e') (hs : ERs ι l l') : ERs ι (e :: l) (e' :: l')

/-- How far a row's block is known not to be frozen: where it holds no bytes, one cell behind its end too. -/
def fzTo (t : Tgt) : Nat := if t.es = 1 then t.cap else t.cap + 1
theorem fz_le {t : Tgt} {j : Nat} (h : j < t.cap) : j < fzTo t := by unfold fzTo; split <;> omega
def OR (ng : Nat) (ι : Inj) (w : World) (t : Tgt) : AObj → Prop
  | .row cs md es _ =>
    (∀ (j : Nat) v, cs[j]? = some v → ∃ v', w.cell? ⟨t.blk, t.dlt + j, none⟩ = some v' ∧ VR ι v v') ∧
    (md ≠ .ro → es = t.es ∧ t.dlt + cs.length ≤ t.cap ∧ ∃ c el fz, w.heap[t.blk]? = some (.cells c el fz) ∧ c.size = t.cap ∧ ∀ j, j < fzTo t → w.frozen? ⟨t.blk, j, none⟩ = false)
  | .loop st pend tm nt ps asg body _ =>
    t.dlt = 0 ∧ codeOk ng asg = true ∧ codeOk ng body = true ∧
      ∃ fn tmps D', w.heap[t.blk]? = some (.loop { state := st, pending := pend, fn := fn, tmps := tmps, params := ps.toArray, assign := asg, body := body, defers := D' }) ∧ TR ι tm nt tmps
  | .mark => w.heap[t.blk]? = some (.deferred (some []))
  | .map es clock => ∃ es', w.heap[t.blk]? = some (.map es' clock) ∧ ERs ι es es'.toList
  | .str s pos => t.dlt = 0 ∧ w.heap[t.blk]? = some (.stringIter s pos)

def AObj.isRo : AObj → Bool
  | .row _ .ro _ _ => true
  | _ => false

theorem AObj.notRow {o : AObj} (hr : ∀ cs md es q, o ≠ .row cs md es q) : o.isRo = false := by
  cases o with
  | row cs md es q => exact absurd rfl (hr cs md es q)
  | _ => rfl

inductive Anc (m : Mem) : Nat → Nat → Prop where
  | one {b c : Nat} {cs cs' : List Value} {md : Md} {es es' : Nat} {q : Option Nat} (h : m.get c = some (.row cs' md es' (some b))) (k : m.get b = some (.row cs .cl es q)) : Anc m b c
  | step {b x c : Nat} {cs cs' : List Value} {md : Md} {es es' : Nat} {q : Option Nat} (h : m.get c = some (.row cs' md es' (some x))) (k : m.get x = some (.row cs .cl es q)) (r : Anc m b x) : Anc m b c

def rowLen : Option AObj → Nat
  | some (.row cs _ _ _) => cs.length
  | _ => 0

structure Rel (E : Env) (ι : Inj) (m : Mem) (w : World) : Prop where
  dom : ∀ b t, ι b = some t → b < m.size ∧ t.blk < w.heap.size
  obj : ∀ b t o, ι b = some t → m.get b = some o → OR E.ng ι w t o
  sep : ∀ b c t u ob oc, ι b = some t → ι c = some u → m.get b = some ob → m.get c = some oc → b ≠ c → t.blk = u.blk → (ob.isRo && oc.isRo) = false → Anc m b c ∨ Anc m c b
  rng : ∀ b c t u, ι b = some t → ι c = some u → Anc m b c → t.blk = u.blk → t.dlt + rowLen (m.get b) ≤ u.dlt + rowLen (m.get c)
  nb : m.nb ≤ m.bar
  bar : m.bar ≤ m.size
  base : ∀ b o, b < m.nb → m.get b = some o → ∃ cs es, o = .row cs .ro es none
  glob : ∀ g, g < E.ng → ∃ t, ι g = some t ∧ t.blk = g ∧ t.dlt = 0
  top : ∀ b, m.size ≤ b → m.get b = none
  prv : ∀ b cs md es q, m.get b = some (.row cs md es (some q)) → q < b ∧ ∀ o, m.get q = some o → ∃ cs es r, o = .row cs .cl es r

def Own (ι : Inj) (m : Mem) (b : Nat) : Prop := ∃ a t o, ι a = some t ∧ m.get a = some o ∧ o.isRo = false ∧ t.blk = b

structure Step (E : Env) (ι : Inj) (m : Mem) (w : World) (ι' : Inj) (m' : Mem) (w' : World) : Prop where
  sub : Sub ι ι'
  fresh : ∀ b t, ι' b = some t → ι b = none → m.size ≤ b
  rel : Rel E ι' m' w'
  own : ∀ b, b < w.heap.size → Own ι' m' b → Own ι m b
  keep : ∀ b, b < w.heap.size → ¬ Own ι m b → w'.heap[b]? = w.heap[b]?
  size : w.heap.size ≤ w'.heap.size
  msize : m.size ≤ m'.size
  os : w'.os = w.os
  tape : w'.tape = w.tape
  output : w'.output = w.output

section
variable {E : Env} {ι ι1 ι2 : Inj} {m m1 m2 : Mem} {w w1 w2 : World}

theorem Step.refl (h : Rel E ι m w) : Step E ι m w ι m w :=
  ⟨Sub.refl _, (fun b t h k => by rw [h] at k; cases k), h, fun _ _ h => h, fun _ _ _ => rfl, Nat.le_refl _, Nat.le_refl _, rfl, rfl, rfl⟩

theorem Step.trans (h : Step E ι m w ι1 m1 w1) (k : Step E ι1 m1 w1 ι2 m2 w2) : Step E ι m w ι2 m2 w2 where
  sub := h.sub.trans k.sub
  fresh := fun b t e n => by
    cases e1 : ι1 b with
    | none => exact Nat.le_trans h.msize (k.fresh b t e e1)
    | some t1 => exact h.fresh b t1 e1 n
  rel := k.rel
  own := fun b hb o => h.own b hb (k.own b (Nat.lt_of_lt_of_le hb h.size) o)
  keep := fun b hb n => (k.keep b (Nat.lt_of_lt_of_le hb h.size) (fun o => n (h.own b hb o))).trans (h.keep b hb n)
  size := Nat.le_trans h.size k.size
  msize := Nat.le_trans h.msize k.msize
  os := k.os.trans h.os
  tape := k.tape.trans h.tape
  output := k.output.trans h.output

theorem cell?_congr (h : w1.heap = w.heap) (a : Addr) : w1.cell? a = w.cell? a := by unfold World.cell?; rw [h]
theorem frozen?_congr (h : w1.heap = w.heap) (a : Addr) : w1.frozen? a = w.frozen? a := by unfold World.frozen?; rw [h]
theorem cell?_blk (a : Addr) (h : w1.heap[a.block]? = w.heap[a.block]?) : w1.cell? a = w.cell? a := by unfold World.cell?; rw [h]
theorem frozen?_blk (a : Addr) (h : w1.heap[a.block]? = w.heap[a.block]?) : w1.frozen? a = w.frozen? a := by unfold World.frozen?; rw [h]

theorem TR.mono {tm : Tr Value} {nt : Nat} {tmps : Array Value} (hs : Sub ι ι1) (h : TR ι tm nt tmps) : TR ι1 tm nt tmps := ⟨h.1, fun i => (h.2 i).mono hs⟩
theorem ERs.mono (hs : Sub ι ι1) {l l' : List MapEntry} (h : ERs ι l l') : ERs ι1 l l' := by
  induction h with
  | nil => exact .nil
  | cons h _ ih => exact .cons ⟨h.1.mono hs, h.2.1.mono hs, h.2.2⟩ ih

/-- An object's relation asks of the world its own block alone. -/
theorem OR.move {ng : Nat} {t : Tgt} {o : AObj} (hs : Sub ι ι1) (hb : w1.heap[t.blk]? = w.heap[t.blk]?) (h : OR ng ι w t o) : OR ng ι1 w1 t o := by
  cases o with
  | row cs md es prev =>
    refine ⟨fun j v e => ?_, fun hm => ?_⟩
    · obtain ⟨v', hc, hv⟩ := h.1 j v e
      exact ⟨v', by rw [cell?_blk _ hb]; exact hc, hv.mono hs⟩
    · obtain ⟨h1, h2, c, el, fz, hh, hsz, hf⟩ := h.2 hm
      exact ⟨h1, h2, c, el, fz, by rw [hb]; exact hh, hsz, fun j hj => by rw [frozen?_blk _ hb]; exact hf j hj⟩
  | loop st pend tm nt ps asg body D =>
    obtain ⟨h0, ha, hbd, fn, tmps, D', hh, ht⟩ := h
    exact ⟨h0, ha, hbd, fn, tmps, D', by rw [hb]; exact hh, ht.mono hs⟩
  | mark => show w1.heap[t.blk]? = _; rw [hb]; exact h
  | map es clock => obtain ⟨es', hh, he⟩ := h; exact ⟨es', by rw [hb]; exact hh, he.mono hs⟩
  | str s pos => exact ⟨h.1, by rw [hb]; exact h.2⟩

theorem Rel.congr (h : Rel E ι m w) (hh : w1.heap = w.heap) : Rel E ι m w1 where
  dom := fun b t e => by rw [hh]; exact h.dom b t e
  obj := fun b t o e k => (h.obj b t o e k).move (Sub.refl _) (by rw [hh])
  sep := h.sep
  rng := h.rng
  nb := h.nb
  bar := h.bar
  base := h.base
  glob := h.glob
  top := h.top
  prv := h.prv

theorem Step.congr (h : Rel E ι m w) (hh : w1.heap = w.heap) (h1 : w1.os = w.os) (h2 : w1.tape = w.tape) (h3 : w1.output = w.output) : Step E ι m w ι m w1 :=
  ⟨Sub.refl _, (fun b t h k => by rw [h] at k; cases k), h.congr hh, fun _ _ h => h, (fun _ _ _ => by rw [hh]), (by rw [hh]; exact Nat.le_refl _), Nat.le_refl _, h1, h2, h3⟩

theorem Step.drew (h : Rel E ι m w) : Step E ι m w ι m w.drew := Step.congr h rfl rfl rfl rfl

/-! ### The tree behind 'get' -/
theorem bltF {a b : Nat} (h : ¬ a < b) : Nat.blt a b = false := by
  cases e : Nat.blt a b with
  | false => rfl
  | true => exact absurd (by simpa using e) h
theorem bltT {a b : Nat} (h : a < b) : Nat.blt a b = true := by simpa using h
theorem of_bltF {a b : Nat} (h : Nat.blt a b = false) : ¬ a < b := fun k => by rw [bltT k] at h; cases h
theorem bleF {a b : Nat} (h : ¬ a ≤ b) : Nat.ble a b = false := by
  cases e : Nat.ble a b with
  | false => rfl
  | true => exact absurd (Nat.le_of_ble_eq_true e) h
theorem bleT {a b : Nat} (h : a ≤ b) : Nat.ble a b = true := Nat.ble_eq_true_of_le h

theorem Mem.get_new_same (h : m.nb ≤ m.size) (o : AObj) : (m.new o).get m.size = some o := by
  simp only [Mem.get_def, Mem.new_def, bltF (Nat.not_lt.2 h), cond_false, Tr.at_put_same]

theorem Mem.get_new_ne {b : Nat} (h : m.nb ≤ m.size) (hb : b ≠ m.size) (o : AObj) : (m.new o).get b = m.get b := by
  simp only [Mem.get_def, Mem.new_def]
  cases hlt : Nat.blt b m.nb with
  | true => rfl
  | false =>
    have := of_bltF hlt
    simp only [cond_false]
    rw [Tr.at_put_ne _ _ (by omega)]

theorem Mem.get_upd_same {b : Nat} (h : m.nb ≤ b) (o : Option AObj) : (m.upd b o).get b = o := by
  simp only [Mem.get_def, Mem.upd_def, bltF (Nat.not_lt.2 h), cond_false, Tr.at_put_same]

theorem Mem.get_upd_ne {b c : Nat} (h : m.nb ≤ b) (hc : c ≠ b) (o : Option AObj) : (m.upd b o).get c = m.get c := by
  simp only [Mem.get_def, Mem.upd_def]
  cases hlt : Nat.blt c m.nb with
  | true => rfl
  | false =>
    have := of_bltF hlt
    simp only [cond_false]
    rw [Tr.at_put_ne _ _ (by omega)]

/-! ### A new block -/
def Inj.put (ι : Inj) (b : Nat) (t : Tgt) : Inj := fun c => if c = b then some t else ι c

theorem Inj.put_sub {b : Nat} (t : Tgt) (h : ι b = none) : Sub ι (ι.put b t) := fun c u e => by
  unfold Inj.put; split
  · rename_i hc; subst hc; rw [h] at e; cases e
  · exact e

theorem Rel.none_of_size (h : Rel E ι m w) : ι m.size = none := by
  cases e : ι m.size with
  | none => rfl
  | some t => exact absurd (h.dom _ _ e).1 (Nat.lt_irrefl _)

theorem Anc.rows {b c : Nat} (h : Anc m b c) : (∃ cs es q, m.get b = some (.row cs .cl es q)) ∧ ∃ cs md es x, m.get c = some (.row cs md es (some x)) := by
  induction h with
  | one h k => exact ⟨⟨_, _, _, k⟩, _, _, _, _, h⟩
  | step h k r ih => exact ⟨ih.1, _, _, _, _, h⟩

/-- Ancestors read rows alone: where these read as they did, they are as they were. -/
theorem Anc.move {b c : Nat} (h : Anc m b c) (hg : ∀ x, (∃ cs md es q, m.get x = some (.row cs md es q)) → m1.get x = m.get x) : Anc m1 b c := by
  induction h with
  | one h k => exact .one (by rw [hg _ ⟨_, _, _, _, h⟩]; exact h) (by rw [hg _ ⟨_, _, _, _, k⟩]; exact k)
  | step h k r ih => exact .step (by rw [hg _ ⟨_, _, _, _, h⟩]; exact h) (by rw [hg _ ⟨_, _, _, _, k⟩]; exact k) ih

theorem Anc.live {b c : Nat} (h : Anc m b c) : (∃ o, m.get b = some o) ∧ ∃ o, m.get c = some o := by
  obtain ⟨⟨_, _, _, e⟩, _, _, _, _, k⟩ := h.rows
  exact ⟨⟨_, e⟩, _, k⟩

/-- Ancestors below a size: the objects that are read lie below it. -/
theorem Anc.under {b c : Nat} {n : Nat} (h : Anc m b c) (top : ∀ x, n ≤ x → m.get x = none) (hg : ∀ x, x < n → m1.get x = m.get x) : Anc m1 b c :=
  h.move fun x ⟨_, _, _, _, e⟩ => hg x (by
    rcases Nat.lt_or_ge x n with hx | hx
    · exact hx
    · rw [top x hx] at e; cases e)

/-- A new object, in a real block that is new. -/
theorem Step.newAt (h : Rel E ι m w) {o : AObj} {t : Tgt} (hsz : w.heap.size ≤ w1.heap.size) (hold : ∀ b, b < w.heap.size → w1.heap[b]? = w.heap[b]?) (h1 : w1.os = w.os) (h2 : w1.tape = w.tape) (h3 : w1.output = w.output)
    (ht : w.heap.size ≤ t.blk) (ht1 : t.blk < w1.heap.size) (ho : OR E.ng (ι.put m.size t) w1 t o)
    (hp : ∀ cs md es q, o = .row cs md es (some q) → q < m.size ∧ ∀ o', m.get q = some o' → ∃ cs es r, o' = .row cs .cl es r) : Step E ι m w (ι.put m.size t) (m.new o) w1 := by
  have hn := h.none_of_size
  have hs := Inj.put_sub (ι := ι) t hn
  have hnb : m.nb ≤ m.size := Nat.le_trans h.nb h.bar
  have hget : ∀ b, b ≠ m.size → (m.new o).get b = m.get b := fun b hb => Mem.get_new_ne hnb hb o
  have hput : ∀ b u, (ι.put m.size t) b = some u → (b = m.size ∧ u = t) ∨ (b ≠ m.size ∧ ι b = some u) := fun b u e => by
    unfold Inj.put at e; split at e
    · rename_i hb; cases e; exact .inl ⟨hb, rfl⟩
    · rename_i hb; exact .inr ⟨hb, e⟩
  have up : ∀ b c, Anc m b c → Anc (m.new o) b c := fun b c ha => ha.under h.top fun x hx => hget x (by omega)
  have hlt : ∀ b c, Anc (m.new o) b c → c ≠ m.size → b ≠ m.size := by
    intro b c ha hc hb
    induction ha with
    | @one c _ _ _ _ _ _ h' k' =>
      rw [hget _ hc] at h'
      have := (h.prv _ _ _ _ _ h').1
      rcases Nat.lt_or_ge c m.size with hx | hx
      · omega
      · rw [h.top _ hx] at h'; cases h'
    | @step x c _ _ _ _ _ _ h' k' r ih =>
      rw [hget _ hc] at h'
      have hx1 := (h.prv _ _ _ _ _ h').1
      have hc1 : c < m.size := by
        rcases Nat.lt_or_ge c m.size with hx | hx
        · exact hx
        · rw [h.top _ hx] at h'; cases h'
      exact ih (by omega)
  have down : ∀ b c, Anc (m.new o) b c → c ≠ m.size → Anc m b c := by
    intro b c ha
    induction ha with
    | one h' k' => intro hc; exact .one (by rw [← hget _ hc]; exact h') (by rw [← hget _ (hlt _ _ (.one h' k') hc)]; exact k')
    | @step x c _ _ _ _ _ _ h' k' r ih =>
      intro hc
      have hx : x ≠ m.size := hlt x c (.one h' k') hc
      exact .step (by rw [← hget _ hc]; exact h') (by rw [← hget _ hx]; exact k') (ih hx)
  refine ⟨hs, ?_, ?_, ?_, ?_, by omega, by simp [Mem.new_def], h1, h2, h3⟩
  · intro b u e n
    rcases hput b u e with ⟨hb, _⟩ | ⟨_, e'⟩
    · omega
    · rw [n] at e'; cases e'
  · constructor
    · intro b u e
      rcases hput b u e with ⟨hb, hu⟩ | ⟨_, e'⟩
      · subst hb; subst hu; simp [Mem.new_def]; omega
      · have := h.dom _ _ e'; simp [Mem.new_def]; omega
    · intro b u o' e k
      rcases hput b u e with ⟨hb, hu⟩ | ⟨hb, e'⟩
      · subst hb; subst hu
        rw [Mem.get_new_same hnb] at k
        cases k; exact ho
      · rw [hget b hb] at k
        exact (h.obj b u o' e' k).move hs (hold _ (h.dom _ _ e').2)
    · intro b c u v ob oc e1 e2 k1 k2 hne hblk hro
      rcases hput b u e1 with ⟨hb, hu⟩ | ⟨hb, e1'⟩
      · rcases hput c v e2 with ⟨hc, hv⟩ | ⟨hc, e2'⟩
        · exact absurd (hb.trans hc.symm) hne
        · subst hu; have := (h.dom _ _ e2').2; omega
      · rcases hput c v e2 with ⟨hc, hv⟩ | ⟨hc, e2'⟩
        · subst hv; have := (h.dom _ _ e1').2; omega
        · rw [hget b hb] at k1; rw [hget c hc] at k2
          exact (h.sep b c u v ob oc e1' e2' k1 k2 hne hblk hro).imp (up _ _) (up _ _)
    · intro b c u v e1 e2 ha hblk
      rcases hput c v e2 with ⟨hc, hv⟩ | ⟨hc, e2'⟩
      · rcases hput b u e1 with ⟨hb, hu⟩ | ⟨hb, e1'⟩
        · subst hb; subst hc; subst hu; subst hv; exact Nat.le_refl _
        · subst hv; have := (h.dom _ _ e1').2; omega
      · have hb := hlt b c ha hc
        rcases hput b u e1 with ⟨hb', hu⟩ | ⟨_, e1'⟩
        · exact absurd hb' hb
        · rw [hget b hb, hget c hc]
          exact h.rng b c u v e1' e2' (down b c ha hc) hblk
    · exact h.nb
    · have := h.bar; simp [Mem.new_def]; omega
    · intro b o' hb k
      have hb' : b < m.nb := hb
      rw [hget b (by omega)] at k
      exact h.base b o' hb' k
    · intro g hg
      obtain ⟨u, e, hu⟩ := h.glob g hg
      exact ⟨u, hs _ _ e, hu⟩
    · intro b hb
      have hb' : m.size + 1 ≤ b := hb
      rw [hget b (by omega)]
      exact h.top b (by omega)
    · intro b cs md es q k
      by_cases hb : b = m.size
      · subst hb
        rw [Mem.get_new_same hnb] at k
        injection k with k
        obtain ⟨hq, ha⟩ := hp _ _ _ _ k
        exact ⟨hq, fun o' e => ha o' (by rw [← hget q (by omega)]; exact e)⟩
      · rw [hget b hb] at k
        obtain ⟨hq, ha⟩ := h.prv _ _ _ _ _ k
        have hb1 : b < m.size := by
          rcases Nat.lt_or_ge b m.size with hx | hx
          · exact hx
          · rw [h.top _ hx] at k; cases k
        exact ⟨hq, fun o' e => ha o' (by rw [← hget q (by omega)]; exact e)⟩
  · rintro b hb ⟨a, u, o', e, k, hr, hu⟩
    rcases hput a u e with ⟨_, hu'⟩ | ⟨ha, e'⟩
    · subst hu'; omega
    · rw [hget a ha] at k; exact ⟨a, u, o', e', k, hr, hu⟩
  · intro b hb _; exact hold b hb

/-- A new object, in a real block of its own. -/
theorem Step.new (h : Rel E ι m w) {o : AObj} {O : Obj} {t : Tgt} (hw : w1.heap = w.heap.push O) (h1 : w1.os = w.os) (h2 : w1.tape = w.tape) (h3 : w1.output = w.output)
    (ht : t.blk = w.heap.size) (ho : OR E.ng (ι.put m.size t) w1 t o)
    (hp : ∀ cs md es q, o = .row cs md es (some q) → q < m.size ∧ ∀ o', m.get q = some o' → ∃ cs es r, o' = .row cs .cl es r) : Step E ι m w (ι.put m.size t) (m.new o) w1 :=
  Step.newAt h (by rw [hw]; simp) (fun b hb => by rw [hw, Array.getElem?_push, if_neg (by omega)]) h1 h2 h3 (by omega) (by rw [hw]; simp; omega) ho hp
end
end Go.Am
