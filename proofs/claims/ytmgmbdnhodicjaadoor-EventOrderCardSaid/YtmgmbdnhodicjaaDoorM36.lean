/- EventOrder: closed events are in order, and one made behind them is closed with them. Of any arguments. Part 36 of 38; no condition. -/
import Derived.Test.YtmgmbdnhodicjaaDoorM35
set_option linter.unusedVariables false
set_option linter.unusedSimpArgs false
section
namespace Go.Pm
open Go.RowKit Go.Am
section
variable {E : Env} {P : Program} {rd : Option (Nat × Nat)} {Q : AExit → PSt → Prop} {a : RC} {tm : List (Nat × PV)} {nt k : Nat} {os : List Obj} {M : PMem}
end
end Go.Pm
namespace Go.Proofs.YtmgmbdnhodicjaaDoor
open Go Go.Am Go.Pm
set_option maxHeartbeats 1000000
set_option maxRecDepth 100000
theorem chain.fr {M0 M : PMem} {p : PV} {ks : List (Nat × Nat)} {l : List (Ev × Nat)} (h : chain M0 M p ks l) : ∀ k i, (k, i) ∈ ks → fresh M0 k := by
  induction h with
  | nil => intro k i hx; cases hx
  | cons h h0 hn r ih =>
    intro k i hx
    rcases List.mem_cons.1 hx with x | x
    · cases x; exact h0
    · exact ih k i x
theorem chain.re0 {M0 M0' M M' : PMem} {p : PV} {ks : List (Nat × Nat)} {l : List (Ev × Nat)} (h : chain M0 M p ks l) (h1 : ∀ k i, (k, i) ∈ ks → fresh M0' k) (h2 : ∀ k i, (k, i) ∈ ks → M' k i = M k i) : chain M0' M' p ks l := by
  induction h with
  | nil => exact .nil
  | cons h h0 hn r ih => exact .cons (by rw [h2 _ _ List.mem_cons_self]; exact h) (h1 _ _ List.mem_cons_self) hn (ih (fun k i hx => h1 k i (List.mem_cons_of_mem _ hx)) (fun k i hx => h2 k i (List.mem_cons_of_mem _ hx)))
section
variable {M0 M M1 : PMem} {a k : Nat} {bytes entries most : Int} {ks : List (Nat × Nat)} {l : List (Ev × Nat)} {o : Pm.Obj} {os : List Pm.Obj}
theorem Spl.re (h : Spl (seg M0 k (o :: os)) M1 a bytes entries most ks l) : Spl (seg M0 k (o :: os)) (seg M1 k (o :: os)) a bytes entries most ks l := by
  obtain ⟨p, h1, h2⟩ := h.row
  have hak := ne_of_fresh h.new
  refine ⟨sub_re h.sub, h.new, p, by rw [seg_ne _ _ _ hak]; exact h1, h2.re0 h2.fr fun k1 i hx => ?_⟩
  rw [seg_ne _ _ _ (ne_of_fresh (h2.fr k1 i hx))]
theorem Spl.push (h : Spl M0 M a bytes entries most ks l) (hf : fresh M k) : Spl (seg M0 k os) (seg M k os) a bytes entries most ks l := by
  obtain ⟨p, h1, h2⟩ := h.row
  have hak : a ≠ k := fun e => by subst e; rw [hf 0] at h1; cases h1
  have hk : ∀ k1 i, (k1, i) ∈ ks → k1 ≠ k := fun k1 i hx e => by
    subst e
    obtain ⟨o, ho⟩ := h2.at _ _ hx
    rw [hf i] at ho; cases ho
  refine ⟨sub_segs h.sub, fresh_seg h.new hak, p, by rw [seg_ne _ _ _ hak]; exact h1, h2.re0 (fun k1 i hx => fresh_seg (h2.fr k1 i hx) (hk k1 i hx)) fun k1 i hx => ?_⟩
  rw [seg_ne _ _ _ (hk k1 i hx)]
theorem Spl.pop (h : Spl (seg M0 k (o :: os)) M1 a bytes entries most ks l) (hf : fresh M0 k) : Spl M0 (seg M1 k []) a bytes entries most ks l := by
  obtain ⟨p, h1, h2⟩ := h.row
  have hak := ne_of_fresh h.new
  refine ⟨fun j i o e => ?_, fresh_unseg h.new, p, by rw [seg_ne _ _ _ hak]; exact h1, h2.re0 (fun k1 i hx => fresh_unseg (h2.fr k1 i hx)) fun k1 i hx => ?_⟩
  · have hjk : j ≠ k := fun e' => by subst e'; rw [hf i] at e; cases e
    rw [seg_ne _ _ _ hjk]
    exact h.sub _ _ _ (by rw [seg_ne _ _ _ hjk]; exact e)
  · rw [seg_ne _ _ _ (ne_of_fresh (h2.fr k1 i hx))]
end
def pick (x n : Int) : Int := ((x.tmod n) + n).tmod n
theorem pick_in (x n : Int) (h : 0 < n) : 0 ≤ pick x n ∧ pick x n < n := by
  have h1 := Int.lt_tmod_of_pos x h
  have h2 := Int.tmod_lt_of_pos x h
  have h3 : 0 ≤ x.tmod n + n := by omega
  exact ⟨Int.tmod_nonneg _ h3, Int.tmod_lt_of_pos _ h⟩
theorem pick_at (x n : Int) (h : 0 < n) (hn : n ≤ 1000000) : PTp env Tryd.prog 15 [iv x, iv n] (iv (pick x n)) := fun M => by
  have h1 := Int.lt_tmod_of_pos x h
  have h2 := Int.tmod_lt_of_pos x h
  have h0 : ¬ (n < 1) := by omega
  have hne : n ≠ 0 := by omega
  have hr : ∀ {t : Nat} {c d : Bool} {y : Int}, pbin env .rem t c d (.v (.int .i64 y)) (.v (.int .i64 n)) = some (iv (y.tmod n)) := fun {t c d y} => by
    simp [pbin, binV, intBin, hne]
  have hw : IntKind.i64.wrap (x.tmod n + n) = x.tmod n + n := wrap64_id (by omega) (by omega)
  refine PT.enterR env_ok fn15 (by simp) comp15 fun k hk hf => RX.of env_ok ?_
  simp only [G0, Nat.reduceLT, Nat.reduceEqDiff, Nat.reduceAdd, Nat.reduceLeDiff, Nat.reduceMul, argsP, h0, decide_false, hr, hw]
  exact end1 hf rfl ⟨rfl, rfl⟩
structure Act where
  drop : Bool
  ev : Ev
end Go.Proofs.YtmgmbdnhodicjaaDoor
end
