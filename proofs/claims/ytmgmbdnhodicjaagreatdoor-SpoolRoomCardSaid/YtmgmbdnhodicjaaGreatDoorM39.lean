/- SpoolRoom: what waits never takes more than the quotas. Part 39 of 46; no condition. -/
import Derived.Test.YtmgmbdnhodicjaaGreatDoorM38
set_option linter.unusedVariables false
set_option linter.unusedSimpArgs false
section
namespace Go.Proofs.YtmgmbdnhodicjaaGreatDoor
open Go Go.Am Go.Pm
set_option maxHeartbeats 2000000
set_option maxRecDepth 100000
theorem drop_at {M0 M : PMem} {a : Nat} {bytes entries most : Int} {ks : List (Nat × Nat)} {l : List (Ev × Nat)} (hS : Spl M0 M a bytes entries most ks l) (hb : szs l ≤ 100000000) (hl : l.length ≤ 1000000) (d1 d2 : Int) :
    PT env Tryz.prog 14 [.ptr a 0 0, .agg [iv d1, iv d2]] M (fun x M1 => (hasDot d1 d2 l = true ∧ x = iv 0 ∧ ∃ ks', Spl M0 M1 a bytes entries most ks' (delL d1 d2 l)) ∨ (hasDot d1 d2 l = false ∧ x = iv 6 ∧ M1 = M)) := by
  refine PT.enterR env_ok fn14 (by simp) comp14 fun k hk hf => RX.of env_ok ?_
  have hfind := find_at hS d1 d2
  obtain ⟨p, hM, hch⟩ := hS.row
  have hnot := hch.notSp hM rfl
  have hak : a ≠ k := fun e => by subst e; rw [hf 0] at hM; cases hM
  have hld : ∀ {ag : Bool} {n o : Nat} {os : List Pm.Obj} {M : PMem}, loadP k os M ag n (.ptr a 0 o) = rowTake ag n o (M a 0) := loadP_out hak
  simp only [G0, Nat.reduceLT, Nat.reduceEqDiff, Nat.reduceAdd, Nat.reduceLeDiff, Nat.reduceMul, argsP]
  refine cs0 (made_s hS) (Pm.Sub.seg hf) (by decide) ?_
  simp only [G0, Nat.reduceLT, Nat.reduceEqDiff, Nat.reduceAdd, Nat.reduceLeDiff, Nat.reduceMul]
  refine cs0 hfind (Pm.Sub.seg hf) (by decide) ?_
  cases hd : hasDot d1 d2 l with
  | false =>
    obtain ⟨c, j, f, cells, p', g1, g2, g3, g4, g5, g6, g7⟩ := tail_spool hS.new hM hch hd 0 0
    have hck : c ≠ k := fun e => by subst e; rw [hf j] at g2; cases g2
    have hldc : ∀ {ag : Bool} {n o : Nat} {os : List Pm.Obj}, loadP k os M ag n (.ptr c j o) = rowTake ag n o (M c j) := loadP_out hck
    rw [g1]
    simp only [G0, Nat.reduceLT, Nat.reduceEqDiff, Nat.reduceAdd, Nat.reduceLeDiff, Nat.reduceMul, hldc, g2, g4, nil_eql, pt53]
    exact end1 hf rfl (.inr ⟨by first | rfl | trivial, by first | rfl | trivial⟩)
  | true =>
    obtain ⟨k1, i1, e, s, q, h, h1in, hsum, hlen, hq, hcase⟩ := chain_del hch hd
    have hk1 : k1 ≠ k := fun e => by subst e; rw [hf i1] at h; cases h
    have hne : ¬ (k1 = a ∧ i1 = 0) := fun x => hnot (by rw [← x.1, ← x.2]; exact h1in)
    have hld1 : ∀ {ag : Bool} {n o : Nat} {os : List Pm.Obj} {M : PMem}, loadP k os M ag n (.ptr k1 i1 o) = rowTake ag n o (M k1 i1) := loadP_out hk1
    have hneg : pun .neg (iv (s : Int)) = some (iv (-(s : Int))) := by
      have : IntKind.i64.wrap (0 - (s : Int)) = -(s : Int) := by
        rw [wrap64_id (by omega) (by omega)]; omega
      show some (iv (IntKind.i64.wrap (0 - (s : Int)))) = _
      rw [this]
    have w1 : IntKind.i64.wrap ((szs l : Nat) + -(s : Int)) = (szs (delL d1 d2 l) : Nat) := by
      rw [wrap64_id (by omega) (by omega)]; omega
    have w2 : IntKind.i64.wrap (((l.length : Nat) : Int) + -1) = ((delL d1 d2 l).length : Nat) := by
      rw [wrap64_id (by omega) (by omega)]; omega
    have hrow2 : (((spCells bytes entries p (szs l : Nat) (l.length : Nat) most).set 4 (iv (IntKind.i64.wrap ((szs l : Nat) + -(s : Int))))).set 5 (iv (IntKind.i64.wrap (((l.length : Nat) : Int) + -1)))) = [bv true, iv bytes, iv entries, p, iv (szs (delL d1 d2 l) : Nat), iv ((delL d1 d2 l).length : Nat), iv most] := by
      rw [w1, w2]; rfl
    have hA : ∀ {X : Pm.Obj}, putM M a 0 X a 0 = some X := putM_same _ _ _ _
    have hB : ∀ {X : Pm.Obj}, putM M a 0 X k1 i1 = some (.row .rw 0 (lkCells e s q)) := fun {X} => by rw [put_ne hne, h]
    rcases hcase with ⟨ks', f1, f2, f3, f4⟩ | ⟨kc, ic, ec, sc, ks', f1, f2, f3, f4, f5, f6⟩
    · subst f2
      rw [f1]
      simp only [G0, Nat.reduceLT, Nat.reduceEqDiff, Nat.reduceAdd, Nat.reduceLeDiff, Nat.reduceMul, hld, hM, spCells, ptr_eql, pt53, hld1, h, lkCells, evCells, List.cons_append, List.nil_append, hneg]
      refine cadd hM rfl hak (by decide) ?_
      simp only [G0, Nat.reduceLT, Nat.reduceEqDiff, Nat.reduceAdd, Nat.reduceLeDiff, Nat.reduceMul]
      refine cadd (putM_same _ _ _ _) rfl hak (by decide) ?_
      rw [putM_put, hrow2]
      have hst : ∀ {tm : List (Nat × PV)} {os : List Pm.Obj}, storeP tm 38 k os (putM M a 0 (.row .rw 0 [bv true, iv bytes, iv entries, .ptr k1 i1 0, iv (szs (delL d1 d2 l) : Nat), iv ((delL d1 d2 l).length : Nat), iv most])) 1 q (.ptr a 0 3) = some (.junk, ⟨tm, 38, k, os, putM M a 0 (.row .rw 0 (spCells bytes entries q (szs (delL d1 d2 l) : Nat) ((delL d1 d2 l).length : Nat) most))⟩) := fun {tm os} => by
        rw [storeP_out hak, hA, storeO_some, hq.2]
        simp only [List.length_cons, List.length_nil, List.all_cons, List.all_nil, hq.1, Bool.and_true]
        rw [if_pos (by decide), stO_eq, putM_put]; rfl
      simp only [G0, Nat.reduceLT, Nat.reduceEqDiff, Nat.reduceAdd, Nat.reduceLeDiff, Nat.reduceMul, hld, hA, hld1, hB, lkCells, evCells, List.cons_append, List.nil_append, hst]
      refine end1 (fresh_put hf hak) rfl (.inl ⟨rfl, ks', sub_put hS.sub hS.new, hS.new, q, putM_same _ _ _ _, ?_⟩)
      exact f3.frame fun k2 i2 hx => put_ne fun x => hnot (by rw [← x.1, ← x.2]; exact f4 _ hx)
    · rw [f3]
      have hkc : kc ≠ k := fun e => by subst e; rw [hf ic] at f2; cases f2
      have hnec : ¬ (kc = a ∧ ic = 0) := fun x => hnot (by rw [← x.1, ← x.2]; exact f1)
      have hldc : ∀ {ag : Bool} {n o : Nat} {os : List Pm.Obj} {M : PMem}, loadP k os M ag n (.ptr kc ic o) = rowTake ag n o (M kc ic) := loadP_out hkc
      have hC : ∀ {X : Pm.Obj}, putM M a 0 X kc ic = some (.row .rw 0 (lkCells ec sc (.ptr k1 i1 0))) := fun {X} => by rw [put_ne hnec, f2]
      simp only [G0, Nat.reduceLT, Nat.reduceEqDiff, Nat.reduceAdd, Nat.reduceLeDiff, Nat.reduceMul, hldc, f2, hM, spCells, ptr_eql, pt53, hld1, h, lkCells, evCells, List.cons_append, List.nil_append, hneg]
      refine cadd hM rfl hak (by decide) ?_
      simp only [G0, Nat.reduceLT, Nat.reduceEqDiff, Nat.reduceAdd, Nat.reduceLeDiff, Nat.reduceMul]
      refine cadd (putM_same _ _ _ _) rfl hak (by decide) ?_
      rw [putM_put, hrow2]
      have hst : ∀ {tm : List (Nat × PV)} {os : List Pm.Obj} {X : Pm.Obj}, storeP tm 38 k os (putM M a 0 X) 1 q (.ptr kc ic 8) = some (.junk, ⟨tm, 38, k, os, putM (putM M a 0 X) kc ic (.row .rw 0 (lkCells ec sc q))⟩) := fun {tm os X} => by
        rw [storeP_out hkc, hC, storeO_some, hq.2]
        simp only [lkCells, evCells, List.cons_append, List.nil_append, List.length_cons, List.length_nil, List.all_cons, List.all_nil, hq.1, Bool.and_true]
        rw [if_pos (by decide), stO_eq]; rfl
      simp only [G0, Nat.reduceLT, Nat.reduceEqDiff, Nat.reduceAdd, Nat.reduceLeDiff, Nat.reduceMul, hldc, hC, hld1, hB, lkCells, evCells, List.cons_append, List.nil_append, hst]
      refine end1 (fresh_put (fresh_put hf hak) hkc) rfl (.inl ⟨rfl, ks', sub_put (sub_put hS.sub hS.new) (hch.fr _ _ f1), hS.new, p, ?_, ?_⟩)
      · rw [put_ne (fun x => hnec ⟨x.1.symm, x.2.symm⟩), putM_same]; rfl
      · refine f6 _ (fun k2 i2 hx hy => ?_) (putM_same _ _ _ _)
        rw [put_ne hy, put_ne (fun x => hnot (by rw [← x.1, ← x.2]; exact hx))]
end Go.Proofs.YtmgmbdnhodicjaaGreatDoor
end
