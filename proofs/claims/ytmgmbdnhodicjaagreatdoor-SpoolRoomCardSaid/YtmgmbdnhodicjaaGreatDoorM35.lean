/- SpoolRoom: what waits never takes more than the quotas. Part 35 of 46; no condition. -/
import Derived.Test.YtmgmbdnhodicjaaGreatDoorM34
set_option linter.unusedVariables false
set_option linter.unusedSimpArgs false
section
namespace Go.Proofs.YtmgmbdnhodicjaaGreatDoor
open Go Go.Am Go.Pm
set_option maxHeartbeats 1000000
set_option maxRecDepth 100000
theorem chain.notSp {M0 M : PMem} {p : PV} {ks : List (Nat × Nat)} {l : List (Ev × Nat)} (h : chain M0 M p ks l) {a : Nat} {cs : List PV} (hM : M a 0 = some (.row .rw 0 cs)) (hl : cs.length = 7) : (a, 0) ∉ ks := by
  induction h with
  | nil => simp
  | cons h h0 hn r ih =>
    rename_i k i e s q ks l
    intro hx
    rcases List.mem_cons.1 hx with hx | hx
    · cases hx
      rw [hM] at h
      cases h
      simp [lkCells, evCells] at hl
    · exact ih hx
theorem chain.frame {M0 M M' : PMem} {p : PV} {ks : List (Nat × Nat)} {l : List (Ev × Nat)} (h : chain M0 M p ks l) (hf : ∀ k i, (k, i) ∈ ks → M' k i = M k i) : chain M0 M' p ks l := by
  induction h with
  | nil => exact .nil
  | cons h h0 hn r ih => exact .cons (by rw [hf _ _ List.mem_cons_self]; exact h) h0 hn (ih fun k i hx => hf k i (List.mem_cons_of_mem _ hx))
theorem cadd {tm : List (Nat × PV)} {nt k d a i o es : Nat} {cs : List PV} {n z : Int} {os : List Pm.Obj} {M : PMem} {κ : Kont} {R : PSt → Prop} (hM : M a i = some (.row .rw es cs)) (hc : cs[o]? = some (iv n)) (hak : a ≠ k) (hd : d < nt)
    (h : RK env Tryz.prog κ ⟨(d, iv (IntKind.i64.wrap (n + z))) :: tm, nt, k, os, putM M a i (.row .rw es (cs.set o (iv (IntKind.i64.wrap (n + z)))))⟩ R) : cK env Tryz.prog (some d) κ tm nt k os M R [.ptr a i o, iv z] (.fn 61 [] []) := by
  refine cm (first := []) (cap := []) ((add33 (show seg M k os a i = some (.row .rw es cs) by rw [seg_ne _ _ _ hak]; exact hM) hc).mono ?_)
  rintro x M1 ⟨rfl, rfl⟩
  exact ⟨os, _, rfl, MLe.of_eq (put_seg_out hak), hd, h⟩
theorem szs_cons {e : Ev} {s : Nat} {l : List (Ev × Nat)} : szs ((e, s) :: l) = s + szs l := by simp [szs]
end Go.Proofs.YtmgmbdnhodicjaaGreatDoor
end
