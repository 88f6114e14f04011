/- Regions whose order of evaluation is open: one order serves for all. Part 4: the order, all operations. -/
import Derived.Test.YtnhhppflnpfehacGreatDoorAm19
namespace Go.Am
open Go.RowKit

section
variable {E : Env} {P : Program} {K : Task → Mem → Option (Value × Mem)} {ι ι1 ι2 ι0 : Inj} {m m1 m2 : Mem} {w w1 w2 w0 : World} {f : Nat → St} {d : Nat → Prop} {tm : Tr Value} {h : Nat}

/-! ### The order -/
structure PermS (ops : List Oper) (ord : List Nat) (l : List Oper) : Prop where
  fwd : ∀ {p}, p < ops.length → ord.getD p 0 < ops.length ∧ posOf (ord.getD p 0) ord = p
  bwd : ∀ {i}, i < ops.length → posOf i ord < ops.length ∧ ord.getD (posOf i ord) 0 = i
  guard : ∀ {o}, o ∈ ops → guardIn ops.length o.guard = true
  len : l.length = ops.length
  ordlen : ord.length = ops.length
  get : ∀ {p}, p < ops.length → l[p]? = (ops[ord.getD p 0]?).map (moved ord)

theorem permute_get {ops : List Oper} : ∀ {ord : List Nat}, (∀ p, p < ord.length → ord.getD p 0 < ops.length) → (permute ops ord).length = ord.length ∧ ∀ p, p < ord.length → (permute ops ord)[p]? = ops[ord.getD p 0]?
  | [], _ => ⟨rfl, fun p hp => by simp at hp⟩
  | i :: r, h => by
    have hi : i < ops.length := by have := h 0 (by simp); simpa using this
    obtain ⟨h1, h2⟩ := permute_get (ops := ops) (ord := r) (fun p hp => by have := h (p + 1) (by simp; omega); simpa using this)
    have hg : ops[i]? = some ops[i] := List.getElem?_eq_getElem hi
    have e : permute ops (i :: r) = ops[i] :: permute ops r := by
      conv => lhs; unfold permute
      rw [hg]
    rw [e]
    refine ⟨by simp [h1], fun p hp => ?_⟩
    cases p with
    | zero => simp [hg]
    | succ p => simp only [List.getElem?_cons_succ]; rw [h2 p (by simpa using hp)]; simp

theorem posOf_get {i : Nat} : ∀ {q : List Nat}, posOf i q < q.length → q.getD (posOf i q) 0 = i
  | [], h => by simp at h
  | z :: q, h => by
    simp only [posOf, Bool.cond_eq_ite] at h ⊢
    by_cases hz : Nat.beq i z = true
    · rw [if_pos hz]; simp [Nat.eq_of_beq_eq_true hz]
    · rw [if_neg hz] at h ⊢
      have := posOf_get (i := i) (q := q) (by simpa using h)
      simpa using this

theorem arranged_spec {ops l : List Oper} (h : arranged E ops = some l) : ∃ ord, PermS ops ord l := by
  unfold arranged at h
  simp only at h
  generalize sched E ops ops.length [] = ord at h
  split at h
  · rename_i hp
    cases h
    unfold permOk at hp
    simp only [Bool.and_eq_true, allBelow_iff, List.all_eq_true] at hp
    obtain ⟨⟨⟨h1, h2⟩, h3⟩, h4⟩ := hp
    have hlen := Nat.eq_of_beq_eq_true h1
    have hlt : ∀ p, p < ord.length → ord.getD p 0 < ops.length := fun p hp => by
      have := (h2 p (by omega)).1
      simpa using this
    obtain ⟨g1, g2⟩ := permute_get (ops := ops) hlt
    refine ⟨ord, fun {p} hp => ⟨hlt p (by omega), Nat.eq_of_beq_eq_true (h2 p hp).2⟩, fun {i} hi => ⟨by have := (h3 i hi).1; simpa using this, Nat.eq_of_beq_eq_true (h3 i hi).2⟩, fun {o} ho => h4 o ho, by simp [g1, hlen], hlen, fun {p} hp => ?_⟩
    rw [List.getElem?_map, g2 p (by omega)]
  · cases h

theorem execOp_moved (ρ : Operand → Value) (ord : List Nat) (o : Oper) : execOp ρ (moved ord o) = execOp ρ o := rfl

theorem wanted_moved {ops l : List Oper} {ord : List Nat} (hp : PermS ops ord l) {o : Oper} (ho : o ∈ ops) (tm : Tr Value) : wantedV l tm (moved ord o) = wantedV ops tm o := by
  have hg := hp.guard ho
  unfold wantedV
  cases hgd : o.guard with
  | none => simp [moved, hgd]
  | some q =>
    obtain ⟨g, want⟩ := q
    rw [hgd] at hg
    have hlt : g < ops.length := by simpa [guardIn] using hg
    have e1 : (moved ord o).guard = some (posOf g ord, want) := by simp [moved, hgd]
    rw [e1]
    simp only
    have e2 : told l tm (posOf g ord) = told ops tm g := by
      unfold told
      obtain ⟨hb1, hb2⟩ := hp.bwd hlt
      rw [hp.get hb1, hb2]
      cases ops[g]? with
      | none => rfl
      | some y => rfl
    rw [e2]

/-! ### All of them -/
def undone : Nat → Array Bool → Nat
  | 0, _ => 0
  | n + 1, l => undone n l + (if l.getD n false = true then 0 else 1)

theorem undone_zero : ∀ {n : Nat} {l : Array Bool}, undone n l = 0 → ∀ i, i < n → l.getD i false = true := by
  intro n
  induction n with
  | zero => intro l _ i hi; omega
  | succ n ih =>
    intro l h i hi
    simp only [undone] at h
    by_cases e : i = n
    · subst e
      by_cases hc : l.getD i false = true
      · exact hc
      · rw [if_neg hc] at h; omega
    · exact ih (by omega) i (by omega)

theorem getD_set {l : Array Bool} {i : Nat} (hi : i < l.size) (k : Nat) : (l.setIfInBounds i true).getD k false = if k = i then true else l.getD k false := by
  by_cases e : k = i
  · subst e; simp [Array.getD_eq_getD_getElem?, hi]
  · rw [if_neg e]; simp [Array.getD_eq_getD_getElem?, Array.getElem?_setIfInBounds_ne (Ne.symm e)]

theorem undone_set : ∀ {n : Nat} {l : Array Bool} {i : Nat}, i < n → i < l.size → l.getD i false = false → undone n l = undone n (l.setIfInBounds i true) + 1 := by
  intro n
  have low : ∀ (n : Nat) (l : Array Bool) (i : Nat), i < l.size → n ≤ i → undone n (l.setIfInBounds i true) = undone n l := by
    intro n
    induction n with
    | zero => intro l i _ _; rfl
    | succ n ih =>
      intro l i hs hi
      simp only [undone, ih l i hs (by omega), getD_set hs, if_neg (show n ≠ i by omega)]
  induction n with
  | zero => intro l i hi; omega
  | succ n ih =>
    intro l i hi hs hl
    simp only [undone]
    by_cases e : i = n
    · subst e
      rw [low _ _ _ hs (Nat.le_refl _), getD_set hs, if_pos rfl, hl]
      simp
    · rw [ih (by omega) hs hl, getD_set hs, if_neg (Ne.symm e)]
      omega


theorem all_any (hE : EnvOk E P) (hK : KOk E P K) {ops : Array Oper} {ord : List Nat} {l : List Oper} (hp : PermS ops.toList ord l) (t : Text E K l f) (hok : opsOk E.ng ops.toList = true) {r : Option Nat} {Q : Exit → Act → World → Prop}
    (hQ : ∀ ι1 a1 w1, Step E ι0 (f 0).m w0 ι1 (f ops.size).m w1 → TR ι1 (f ops.size).tm (f ops.size).nt a1.tmps → DR ι1 (f ops.size).df a1.defers → Q .normal a1 w1) :
    ∀ (fuel : Nat) (listed : Array Bool) (a : Act) (w : World) (ι : Inj) (tm : Tr Value) (h : Nat), listed.size = ops.size → undone ops.size listed = fuel →
      Mid E l f ι0 w0 (fun p => p < ops.size ∧ listed.getD (ord.getD p 0) false = true) tm h ι w → TR ι tm (f 0).nt a.tmps → DR ι (f 0).df a.defers → wpAnyIn (fen r) 0 P .any ops Q fuel listed a w := by
  have hlen0 : ops.toList.length = ops.size := by simp
  have hlen : l.length = ops.size := by rw [hp.len, hlen0]
  have fin : ∀ (listed : Array Bool) (a : Act) (w : World) (ι : Inj) (tm : Tr Value) (h : Nat), (∀ i, i < ops.size → listed.getD i false = true) →
      Mid E l f ι0 w0 (fun p => p < ops.size ∧ listed.getD (ord.getD p 0) false = true) tm h ι w → TR ι tm (f 0).nt a.tmps → DR ι (f 0).df a.defers → Q .normal a w := by
    intro listed a w ι tm h hall hm hT hD
    have hc := t.const (k := ops.size) (by omega)
    have hd : ∀ p, p < ops.size → p < ops.size ∧ listed.getD (ord.getD p 0) false = true := fun p hp' => ⟨hp', hall _ (by have := (hp.fwd (p := p) (by omega)).1; omega)⟩
    have hm' := hm.adv t (q := ops.size) (by rw [← hlen]; exact hm.lt) (by omega) fun k y hk1 hk2 hy => by
      cases hyc : (cls E y.op).isHard with
      | false => rfl
      | true =>
        have := (hm.hard k y hy hyc).1 (hd k hk2)
        omega
    refine hQ ι a w hm'.step ⟨by rw [hc.1]; exact hT.1, fun x => ?_⟩ (by rw [hc.2.1]; exact hD)
    have hx := hT.2 x
    have e : tm.at x = (f ops.size).tm.at x := by
      by_cases hw : ∃ (i : Nat) (y : Oper), l[i]? = some y ∧ y.dst = some x
      · obtain ⟨i, y, hy, hdst⟩ := hw
        have := hm.wrote i y x hy hdst (hd i (by rw [← hlen]; exact lt_of_get hy))
        rw [hlen] at this
        exact this
      · rw [hm.not x fun i o' ho' _ hx' => hw ⟨i, o', ho', hx'⟩, t.at_not (j := ops.size) (by omega) fun k o' _ ho' hx' => hw ⟨k, o', ho', hx'⟩]
    simp only [ev] at hx ⊢
    rw [← e]; exact hx
  have none_ready : ∀ (listed : Array Bool), listed.size = ops.size → Region.ready .any ops listed = [] → ∀ i, i < ops.size → listed.getD i false = true := by
    intro listed hs hr
    -- by the places in the machine's order
    have key : ∀ p, p < ops.size → listed.getD (ord.getD p 0) false = true := by
      intro p
      induction p using Nat.strongRecOn with
      | _ p ih =>
        intro hpn
        cases hl : listed.getD (ord.getD p 0) false with
        | true => rfl
        | false =>
          exfalso
          obtain ⟨f1, f2⟩ := hp.fwd (p := p) (by omega)
          have hi : ord.getD p 0 < ops.size := by omega
          have hmem : ord.getD p 0 ∈ Region.ready .any ops listed := by
            rw [mem_ready]
            refine ⟨?_, ops[ord.getD p 0], by simp only [Array.getElem?_eq_getElem hi], fun e he hb => ?_⟩
            · generalize ord.getD p 0 = x at hl hi
              have : x < listed.size := by omega
              simp [Array.getD_eq_getD_getElem?, this] at hl ⊢; exact hl
            · have hg : l[p]? = some (moved ord ops[ord.getD p 0]) := by
                rw [hp.get (by omega)]
                have : ops.toList[ord.getD p 0]? = some ops[ord.getD p 0] := by rw [Array.getElem?_toList]; exact Array.getElem?_eq_getElem hi
                rw [this]; rfl
              have hlt := t.ok.back hg { e with on := posOf e.on ord } (by simp only [moved, List.mem_map]; exact ⟨e, by simpa using he, rfl⟩) hb
              have hlt' : posOf e.on ord < p := hlt
              have hin : e.on < ops.size := by
                rcases Nat.lt_or_ge e.on ops.size with hx | hx
                · exact hx
                · -- a place beyond is not found
                  have hlo := hp.ordlen
                  have h1 := (hp.fwd (p := posOf e.on ord) (by omega)).1
                  rw [posOf_get (by omega)] at h1
                  omega
              have := ih _ hlt' (by omega)
              rw [(hp.bwd (i := e.on) (by omega)).2] at this
              exact this
          rw [hr] at hmem; cases hmem
    intro i hi
    have h1 := hp.bwd (i := i) (by omega)
    have := key (posOf i ord) (by omega)
    rw [h1.2] at this
    exact this
  intro fuel
  induction fuel with
  | zero =>
    intro listed a w ι tm h hs hu hm hT hD
    have hall := undone_zero hu
    refine ⟨?_, fin listed a w ι tm h hall hm hT hD⟩
    cases hr : Region.ready .any ops listed with
    | nil => rfl
    | cons j r =>
      have hmem : j ∈ Region.ready .any ops listed := by rw [hr]; exact List.mem_cons_self
      rw [mem_ready] at hmem
      obtain ⟨h1, o, h2, _⟩ := hmem
      have hj : j < ops.size := (Array.getElem?_eq_some_iff.1 h2).1
      have := hall j hj
      have hjl : j < listed.size := by omega
      simp [Array.getD_eq_getD_getElem?, hjl] at h1 this
      rw [h1] at this; cases this
  | succ fuel ih =>
    intro listed a w ι tm h hs hu hm hT hD
    refine ⟨fun hr => fin listed a w ι tm h (none_ready listed hs hr) hm hT hD, fun j hj => ?_⟩
    rw [mem_ready] at hj
    obtain ⟨h1, o, h2, h3⟩ := hj
    have hjs : j < ops.size := (Array.getElem?_eq_some_iff.1 h2).1
    have hjl : j < listed.size := by omega
    have hjf : listed.getD j false = false := by
      simp [Array.getD_eq_getD_getElem?, hjl] at h1 ⊢; exact h1
    obtain ⟨b1, b2⟩ := hp.bwd (i := j) (by omega)
    have h2' : ops.toList[j]? = some o := by simpa using h2
    have hget : l[posOf j ord]? = some (moved ord o) := by rw [hp.get b1, b2, h2']; rfl
    have hrdy : Rdy l (fun p => p < ops.size ∧ listed.getD (ord.getD p 0) false = true) (posOf j ord) (moved ord o) := by
      refine ⟨hget, ?_, fun e' he' hb => ?_⟩
      · rintro ⟨_, hx⟩
        rw [b2, hjf] at hx; cases hx
      · simp only [moved, List.mem_map] at he'
        obtain ⟨e, he, rfl⟩ := he'
        have hx := h3 e (by simpa using he) hb
        have hin : e.on < ops.size := by
          rcases Nat.lt_or_ge e.on ops.size with hy | hy
          · exact hy
          · have : listed.getD e.on false = false := by simp [Array.getD_eq_getD_getElem?, Array.getElem?_eq_none (show listed.size ≤ e.on by omega)]
            rw [this] at hx; cases hx
        obtain ⟨q1, q2⟩ := hp.bwd (i := e.on) (by omega)
        refine ⟨?_, ?_⟩
        · show posOf e.on ord < ops.size
          omega
        · show listed.getD (ord.getD (posOf e.on ord) 0) false = true
          rw [q2]; exact hx
    have hmemo : o ∈ ops.toList := List.mem_of_getElem? h2'
    have hop := Mid.op (nx := wpAnyIn (fen r) 0 P .any ops Q fuel (listed.setIfInBounds j true)) hE hK hm t hrdy (opsOk_mem hok o hmemo) hT hD fun ι1 tm1 hh1 a1 w1 hm1 hT1 hD1 => by
      refine ih _ a1 w1 ι1 tm1 hh1 (by simpa using hs) ?_ ?_ hT1 hD1
      · have := undone_set hjs hjl hjf
        omega
      · have e : (fun p => p < ops.size ∧ (listed.setIfInBounds j true).getD (ord.getD p 0) false = true) = fun p => (p < ops.size ∧ listed.getD (ord.getD p 0) false = true) ∨ p = posOf j ord := by
          funext p
          rw [getD_set hjl]
          by_cases hpn : p < ops.size
          · have hf := hp.fwd (p := p) (by omega)
            by_cases hk : ord.getD p 0 = j
            · have hpj : p = posOf j ord := by rw [← hk]; exact hf.2.symm
              rw [if_pos hk]
              exact propext ⟨fun _ => .inr hpj, fun _ => ⟨hpn, rfl⟩⟩
            · have hpj : p ≠ posOf j ord := fun e => hk (by rw [e]; exact b2)
              rw [if_neg hk]
              exact propext ⟨fun x => .inl x, fun x => x.resolve_right hpj⟩
          · have hpj : p ≠ posOf j ord := by omega
            exact propext ⟨fun x => absurd x.1 hpn, fun x => x.elim (fun y => absurd y.1 hpn) (fun y => absurd y hpj)⟩
        rw [e]; exact hm1
    rw [wanted_moved hp hmemo, wanted_eq hT] at hop
    unfold wpOpIn
    rw [h2]
    simp only
    rcases hop with ⟨hw, hnd, hup⟩ | ⟨hw, hnx⟩
    · rw [if_pos hw]
      refine ⟨fun _ _ => trivial, ?_⟩
      have hnd' : ∀ c, o.op ≠ .defer c := hnd
      rw [Oper.semAt_eq _ _ _ hnd']
      exact Upon.uponIn hup fun v w hx => hx
    · rw [if_neg (by rw [hw]; simp)]
      exact ⟨fun _ _ => trivial, hnx⟩

theorem drawn_ok (hE : EnvOk E P) (hK : KOk E P K) (hkeep : KKeep K) {ops : Array Oper} {id : Nat} {r : Option Nat} {Q : Exit → Act → World → Prop} {s s1 : St} {a : Act}
    (hok : opsOk E.ng ops.toList = true) (hr : drawn E K ops.toList s = some s1)
    (hR : Rel E ι s.m w) (hT : TR ι s.tm s.nt a.tmps) (hD : DR ι s.df a.defers)
    (hn : ∀ ι1 a1 w1, Step E ι s.m w ι1 s1.m w1 → TR ι1 s1.tm s1.nt a1.tmps → DR ι1 s1.df a1.defers → Q .normal a1 w1) : (Code.region id ops true).wpIn (fen r) 0 P Q a w := by
  unfold drawn at hr
  split at hr
  case h_2 => cases hr
  rename_i l hl
  split at hr
  case h_2 => cases hr
  rename_i hd
  obtain ⟨ord, hp⟩ := arranged_spec hl
  refine wpIn_region_any hE.mixed ?_
  obtain ⟨f, h1, h2, h3⟩ := runDraw_seq _ _ _ _ hr
  have hlen : l.length = ops.size := by rw [hp.len]; simp
  rw [Nat.zero_add, hlen] at h2
  have t : Text E K l f := ⟨drawOk_spec hd, fun k o hk => by have := h3 k o hk; simpa using this, hkeep, by rw [h1]; exact hR.wf⟩
  have hnone : ∀ k, (Array.replicate ops.size false).getD k false = false := fun k => by
    simp [Array.getD_eq_getD_getElem?, Array.getElem?_replicate]
    split <;> rfl
  refine all_any hE hK hp t hok (ι0 := ι) (w0 := w) (fun ι1 a1 w1 hs hT1 hD1 => ?_) ops.size _ a _ ι s.tm 0 (by simp) ?_ ?_ (by rw [h1]; exact hT) (by rw [h1]; exact hD)
  · rw [h1, h2] at hs
    rw [h2] at hT1 hD1
    exact hn ι1 a1 w1 hs hT1 hD1
  · have : ∀ n, undone n (Array.replicate ops.size false) = n := by
      intro n
      induction n with
      | zero => rfl
      | succ n ih => simp only [undone, ih, hnone]; simp
    exact this _
  · refine ⟨fun j o ho hd => ?_, Nat.zero_le _, fun k o ho hc => ?_, ?_, fun k hk b hb => ?_, fun i o ho hf hi => ?_, fun i o x ho hx hd => ?_, fun x _ => by rw [h1]⟩
    · simp only [hnone] at hd; cases hd.2
    · simp only [hnone]; simp
    · rw [h1]; exact Step.congr hR rfl rfl rfl rfl
    · have : k = 0 := by omega
      subst this
      rw [h1] at hb ⊢
      exact hR.top b hb
    · omega
    · simp only [hnone] at hd; cases hd.2
end
end Go.Am
