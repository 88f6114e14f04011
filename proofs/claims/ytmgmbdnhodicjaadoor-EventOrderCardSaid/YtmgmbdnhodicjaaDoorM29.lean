/- EventOrder: closed events are in order, and one made behind them is closed with them. Of any arguments. Part 29 of 38; no condition. -/
import Derived.Test.YtmgmbdnhodicjaaDoorM28
set_option linter.unusedVariables false
set_option linter.unusedSimpArgs false
section
namespace Go.Proofs.YtmgmbdnhodicjaaDoor
open Go Go.Am Go.Pm
set_option maxHeartbeats 1000000
set_option maxRecDepth 100000
abbrev nilP : PV := .v (.pointer none)
def lkCells (e : Ev) (s : Nat) (next : PV) : List PV := evCells e ++ [iv s, next]
inductive chain (M0 M : PMem) : PV → List (Nat × Nat) → List (Ev × Nat) → Prop where
  | nil : chain M0 M nilP [] []
  | cons {k i : Nat} {e : Ev} {s : Nat} {p : PV} {ks : List (Nat × Nat)} {l : List (Ev × Nat)} (h : M k i = some (.row .rw 0 (lkCells e s p))) (h0 : fresh M0 k) (hn : (k, i) ∉ ks) (r : chain M0 M p ks l) : chain M0 M (.ptr k i 0) ((k, i) :: ks) ((e, s) :: l)
def spCells (bytes entries : Int) (p : PV) (used many most : Int) : List PV := [bv true, iv bytes, iv entries, p, iv used, iv many, iv most]
def szs (l : List (Ev × Nat)) : Nat := (l.map (·.2)).sum
structure Spl (M0 M : PMem) (a : Nat) (bytes entries most : Int) (ks : List (Nat × Nat)) (l : List (Ev × Nat)) : Prop where
  sub : Pm.Sub M0 M
  new : fresh M0 a
  row : ∃ p, M a 0 = some (.row .rw 0 (spCells bytes entries p (szs l : Nat) (l.length : Nat) most)) ∧ chain M0 M p ks l
def slots : PV → List (Nat × Nat) → List (Ev × Nat) → List (PV × Option Ev)
  | slot, (k, i) :: ks, (e, _) :: l => (slot, some e) :: slots (.ptr k i 8) ks l
  | slot, _, _ => [(slot, none)]
def slotHas (M : PMem) (slot : PV) (o : Option Ev) : Prop := ∃ c j f es cells p, slot = .ptr c j f ∧ M c j = some (.row .rw es cells) ∧ cells[f]? = some p ∧
  match o with
  | none => p = nilP
  | some e => ∃ k i s q, p = .ptr k i 0 ∧ M k i = some (.row .rw 0 (lkCells e s q))
theorem chain.has {M0 M : PMem} {p : PV} {ks : List (Nat × Nat)} {l : List (Ev × Nat)} (h : chain M0 M p ks l) : ∀ {slot : PV} {c j f es : Nat} {cells : List PV}, slot = .ptr c j f → M c j = some (.row .rw es cells) → cells[f]? = some p → ∀ x ∈ slots slot ks l, slotHas M x.1 x.2 := by
  induction h with
  | nil =>
    intro slot c j f es cells h1 h2 h3 x hx
    simp only [slots, List.mem_singleton] at hx
    subst hx
    exact ⟨c, j, f, es, cells, nilP, h1, h2, h3, rfl⟩
  | cons h h0 hn r ih =>
    intro slot c j f es cells h1 h2 h3 x hx
    simp only [slots, List.mem_cons] at hx
    rcases hx with rfl | hx
    · exact ⟨c, j, f, es, cells, _, h1, h2, h3, _, _, _, _, rfl, h⟩
    · exact ih rfl h rfl x hx
theorem slotHas.sub {M M' : PMem} {slot : PV} {o : Option Ev} (h : slotHas M slot o) (hs : Pm.Sub M M') : slotHas M' slot o := by
  obtain ⟨c, j, f, es, cells, p, h1, h2, h3, h4⟩ := h
  refine ⟨c, j, f, es, cells, p, h1, hs _ _ _ h2, h3, ?_⟩
  cases o with
  | none => exact h4
  | some e =>
    obtain ⟨k, i, s, q, g1, g2⟩ := h4
    exact ⟨k, i, s, q, g1, hs _ _ _ g2⟩
def bxS (a : Nat) : List Pm.Obj := [.row .rw 0 [.ptr a 0 0]]
def mmS (M : PMem) (kb k a : Nat) (os : List Pm.Obj) : PMem := seg (seg M kb (bxS a)) k os
def rounds {σ : Type} (M : PMem) (kb k i a : Nat) (os : σ → List Pm.Obj) (nxt : σ → PV → Option Ev → Option σ) (I : Nat → σ → Prop) (G : Ev → Prop) (Z : σ → PV → List Pm.Obj → Prop) : Prop :=
  ∀ n st slot o, I (n + 1) st → (∀ e, o = some e → G e) → slotHas M slot o → PRd env Tryd.prog k i [slot] (mmS M kb k a (os st)) (fun x M1 => (∃ st', nxt st slot o = some st' ∧ x = bv true ∧ M1 = mmS M kb k a (os st')) ∨ (nxt st slot o = none ∧ x = bv false ∧ ∃ os', Z st slot os' ∧ M1 = mmS M kb k a os'))
def isDot (d1 d2 : Int) (e : Ev) : Bool := e.node == d1 && e.seq == d2
theorem chain.len {M0 M : PMem} {p : PV} {ks : List (Nat × Nat)} {l : List (Ev × Nat)} (h : chain M0 M p ks l) : ks.length = l.length := by
  induction h with
  | nil => rfl
  | cons _ _ _ _ ih => simp [ih]
end Go.Proofs.YtmgmbdnhodicjaaDoor
end
