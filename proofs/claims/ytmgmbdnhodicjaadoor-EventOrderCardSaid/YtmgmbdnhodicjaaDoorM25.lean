/- EventOrder: closed events are in order, and one made behind them is closed with them. Of any arguments. Part 25 of 38; no condition. -/
import Derived.Test.YtmgmbdnhodicjaaDoorM24
set_option linter.unusedVariables false
set_option linter.unusedSimpArgs false
section
namespace Go.Proofs.YtmgmbdnhodicjaaDoor
open Go Go.Am Go.Pm
set_option maxHeartbeats 1000000
set_option maxRecDepth 100000
def wrRow (t : Tok) (b : List UInt8) : Pm.Obj := .row .rw 0 [bv true, .lst t 1 b.length (b.map encB), iv 0]
inductive wTok (M0 M : PMem) : Tok → Nat → Prop where
  | nil : wTok M0 M .full 0
  | at_ {k i n : Nat} (h0 : fresh M0 k) (h : M k i = some (.grow n 1)) : wTok M0 M (.id k i) n
structure Wst (M0 M : PMem) (a : Nat) (b : List UInt8) : Prop where
  sub : Pm.Sub M0 M
  new : fresh M0 a
  row : ∃ t, M a 0 = some (wrRow t b) ∧ wTok M0 M t b.length
inductive wRun (M0 M : PMem) (k : Nat) : Tok → Nat → List Pm.Obj → Prop where
  | nil : wRun M0 M k .full 0 []
  | out {j i n : Nat} (hk : j ≠ k) (h0 : fresh M0 j) (h : M j i = some (.grow n 1)) : wRun M0 M k (.id j i) n []
  | own (n : Nat) : wRun M0 M k (.id k 0) n [.grow n 1]
structure Wrun (M0 M : PMem) (k a : Nat) (b : List UInt8) (os : List Pm.Obj) : Prop where
  sub : Pm.Sub M0 M
  new : fresh M0 a
  ne : a ≠ k
  fr : fresh M k
  row : ∃ t, M a 0 = some (wrRow t b) ∧ wRun M0 M k t b.length os
theorem wTok.run {M0 M : PMem} {k n : Nat} {t : Tok} (h : wTok M0 M t n) (hf : fresh M k) : wRun M0 M k t n [] := by
  cases h with
  | nil => exact .nil
  | at_ h0 h3 => exact .out (fun e => by subst e; rw [hf _] at h3; cases h3) h0 h3
theorem wRun.st {M0 M : PMem} {k n : Nat} {t : Tok} {os : List Pm.Obj} (h : wRun M0 M k t n os) (hs : Pm.Sub M0 M) (hf : fresh M k) : wTok M0 (seg M k os) t n := by
  cases h with
  | nil => exact .nil
  | out hk h0 h3 => exact .at_ h0 (by rw [seg_ne _ _ _ hk]; exact h3)
  | own n =>
    refine .at_ (fun i => ?_) (by rw [seg_same]; rfl)
    cases e : M0 k i with
    | none => rfl
    | some o =>
      have := hs _ _ _ e
      rw [hf i] at this; cases this
theorem Wst.run {M0 M : PMem} {a k : Nat} {b : List UInt8} (h : Wst M0 M a b) (hf : fresh M k) : Wrun M0 M k a b [] := by
  obtain ⟨t, h1, h2⟩ := h.row
  exact ⟨h.sub, h.new, (fun e => by subst e; rw [hf 0] at h1; cases h1), hf, t, h1, h2.run hf⟩
theorem Wrun.st {M0 M : PMem} {a k : Nat} {b : List UInt8} {os : List Pm.Obj} (h : Wrun M0 M k a b os) : Wst M0 (seg M k os) a b := by
  obtain ⟨t, h1, h2⟩ := h.row
  exact ⟨h.sub.sseg h.fr, h.new, t, by rw [seg_ne _ _ _ h.ne]; exact h1, h2.st h.sub h.fr⟩
theorem fresh_put {M : PMem} {k j i : Nat} {o : Pm.Obj} (h : fresh M k) (hj : j ≠ k) : fresh (putM M j i o) k := fun c => by
  unfold putM
  rw [if_neg (fun x => hj x.1.symm)]; exact h c
theorem put_ne {M : PMem} {j i a c : Nat} {o : Pm.Obj} (h : ¬ (a = j ∧ c = i)) : putM M j i o a c = M a c := by
  unfold putM; rw [if_neg h]
theorem fresh_of_sub {M0 M : PMem} {k : Nat} (h : Pm.Sub M0 M) (hf : fresh M k) : fresh M0 k := fun i => by
  cases e : M0 k i with
  | none => rfl
  | some o => have := h _ _ _ e; rw [hf i] at this; cases this
theorem fresh_seg {M : PMem} {j k : Nat} {os : List Pm.Obj} (h : fresh M j) (hj : j ≠ k) : fresh (seg M k os) j := fun i => by rw [seg_ne _ _ _ hj]; exact h i
theorem ne_of_fresh {M : PMem} {j k : Nat} {g : Pm.Obj} {os : List Pm.Obj} (h : fresh (seg M k (g :: os)) j) : j ≠ k := fun e => by
  subst e
  have := h 0
  rw [seg_same] at this; cases this
theorem fresh_unseg {M : PMem} {j k : Nat} {g : Pm.Obj} {os : List Pm.Obj} (h : fresh (seg M k (g :: os)) j) : fresh M j := fun i => by
  have := h i
  rwa [seg_ne _ _ _ (ne_of_fresh h)] at this
theorem sub_segs {M0 M : PMem} {k : Nat} {os : List Pm.Obj} (h : Pm.Sub M0 M) : Pm.Sub (seg M0 k os) (seg M k os) := fun a i o e => by
  by_cases ha : a = k
  · subst ha; rw [seg_same] at e ⊢; exact e
  · rw [seg_ne _ _ _ ha] at e ⊢; exact h _ _ _ e
theorem sub_re {M0 M1 : PMem} {k : Nat} {os : List Pm.Obj} (h : Pm.Sub (seg M0 k os) M1) : Pm.Sub (seg M0 k os) (seg M1 k os) := fun a i o e => by
  by_cases ha : a = k
  · subst ha; rw [seg_same] at e ⊢; exact e
  · rw [seg_ne _ _ _ ha]; exact h _ _ _ e
theorem mle_re {M0 M1 : PMem} {k : Nat} {os : List Pm.Obj} (h : Pm.Sub (seg M0 k os) M1) : MLe M1 (seg M1 k os) := fun a i o e => by
  by_cases ha : a = k
  · subst ha
    rw [seg_same] at e
    exact ⟨o, h _ _ _ (by rw [seg_same]; exact e), .refl _⟩
  · rw [seg_ne _ _ _ ha] at e
    exact ⟨o, e, .refl _⟩
theorem Wst.push {M0 M : PMem} {k a : Nat} {b : List UInt8} {os : List Pm.Obj} (h : Wst M0 M a b) (hf : fresh M k) : Wst (seg M0 k os) (seg M k os) a b := by
  obtain ⟨t, h1, h2⟩ := h.row
  have hak : a ≠ k := fun e => by subst e; rw [hf 0] at h1; cases h1
  refine ⟨sub_segs h.sub, fresh_seg h.new hak, t, by rw [seg_ne _ _ _ hak]; exact h1, ?_⟩
  generalize b.length = n at h2 ⊢
  cases h2 with
  | nil => exact .nil
  | at_ h0 h3 =>
    rename_i j i
    have hjk : j ≠ k := fun e => by subst e; rw [hf i] at h3; cases h3
    exact .at_ (fresh_seg h0 hjk) (by rw [seg_ne _ _ _ hjk]; exact h3)
theorem Wst.re {M0 M1 : PMem} {k a : Nat} {b : List UInt8} {g : Pm.Obj} {os : List Pm.Obj} (h : Wst (seg M0 k (g :: os)) M1 a b) : Wst (seg M0 k (g :: os)) (seg M1 k (g :: os)) a b := by
  obtain ⟨t, h1, h2⟩ := h.row
  have hak := ne_of_fresh h.new
  refine ⟨sub_re h.sub, h.new, t, by rw [seg_ne _ _ _ hak]; exact h1, ?_⟩
  generalize b.length = n at h2 ⊢
  cases h2 with
  | nil => exact .nil
  | at_ h0 h3 => exact .at_ h0 (by rw [seg_ne _ _ _ (ne_of_fresh h0)]; exact h3)
theorem Wst.pop {M0 M1 : PMem} {k a : Nat} {b : List UInt8} {g : Pm.Obj} {os : List Pm.Obj} (h : Wst (seg M0 k (g :: os)) M1 a b) (hf : fresh M0 k) : Wst M0 (seg M1 k []) a b := by
  obtain ⟨t, h1, h2⟩ := h.row
  have hak := ne_of_fresh h.new
  refine ⟨fun j i o e => ?_, fresh_unseg h.new, t, by rw [seg_ne _ _ _ hak]; exact h1, ?_⟩
  · have hjk : j ≠ k := fun e' => by subst e'; rw [hf i] at e; cases e
    rw [seg_ne _ _ _ hjk]
    exact h.sub _ _ _ (by rw [seg_ne _ _ _ hjk]; exact e)
  · generalize b.length = n at h2 ⊢
    cases h2 with
    | nil => exact .nil
    | at_ h0 h3 => exact .at_ (fresh_unseg h0) (by rw [seg_ne _ _ _ (ne_of_fresh h0)]; exact h3)
theorem seg_seg {M : PMem} {k : Nat} {os os' : List Pm.Obj} : seg (seg M k os) k os' = seg M k os' := by
  funext a i
  by_cases ha : a = k
  · subst ha; rw [seg_same, seg_same]
  · rw [seg_ne _ _ _ ha, seg_ne _ _ _ ha, seg_ne _ _ _ ha]
theorem Wst.out {M0 M1 : PMem} {k a : Nat} {b : List UInt8} {g : Pm.Obj} {os os' : List Pm.Obj} (h : Wst (seg M0 k (g :: os)) (seg M1 k os') a b) (hf : fresh M0 k) : Wst M0 (seg M1 k []) a b := by
  have := h.pop hf
  rwa [seg_seg] at this
def rawB (p : List UInt8) : List UInt8 := form p.length ++ p
end Go.Proofs.YtmgmbdnhodicjaaDoor
end
