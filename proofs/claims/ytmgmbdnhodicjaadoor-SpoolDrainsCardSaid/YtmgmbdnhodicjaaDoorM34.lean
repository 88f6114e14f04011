/- SpoolDrains: the law returns true, of all arguments of its types, in whatever memory. Part 34 of 39; no condition. -/
import Derived.Test.YtmgmbdnhodicjaaDoorM33
section
/- The first one that waits, and how it is let go. Of any spool; no condition. -/
set_option linter.unusedVariables false
namespace Go.Proofs.YtmgmbdnhodicjaaDoor
open Go Go.Am Go.Pm
set_option linter.unusedSimpArgs false
set_option maxHeartbeats 1000000
set_option maxRecDepth 100000
theorem chain.notSp {M0 M : PMem} {p : PV} {ks : List (Nat × Nat)} {l : List (Ev × Nat)} (h : chain M0 M p ks l) {a : Nat} {cs : List PV} (hM : M a 0 = some (.row .rw 0 cs)) (hl : cs.length = 7) : (a, 0) ∉ ks := by
  induction h with
  | nil => simp
  | cons h h0 hn r ih =>
    rename_i k i e s q ks l
    intro hx
    rcases List.mem_cons.1 hx with hx | hx
    · cases hx
      rw [hM] at h
      cases h
      simp [lkCells, evCells] at hl
    · exact ih hx
theorem chain.frame {M0 M M' : PMem} {p : PV} {ks : List (Nat × Nat)} {l : List (Ev × Nat)} (h : chain M0 M p ks l) (hf : ∀ k i, (k, i) ∈ ks → M' k i = M k i) : chain M0 M' p ks l := by
  induction h with
  | nil => exact .nil
  | cons h h0 hn r ih => exact .cons (by rw [hf _ _ List.mem_cons_self]; exact h) h0 hn (ih fun k i hx => hf k i (List.mem_cons_of_mem _ hx))
theorem first_at {M0 M : PMem} {a : Nat} {bytes entries most : Int} {ks : List (Nat × Nat)} {e : Ev} {s : Nat} {l : List (Ev × Nat)} (hS : Spl M0 M a bytes entries most ks ((e, s) :: l)) (hG : evFit e) : PTs env Tryd.prog M 18 [.ptr a 0 0] (.tup [encEv e, bv true]) := by
  refine PTs.enter env_ok fn18 (by simp) comp18 fun M' k hs hk hf => ?_
  obtain ⟨p, hM, hch⟩ := hS.row
  cases hch with
  | cons h h0 hn r =>
  rename_i k1 i1 q ks'
  have hM' := hs _ _ _ hM
  have h' := hs _ _ _ h
  have hld : ∀ {ag : Bool} {n o : Nat} {os : List Pm.Obj}, loadP k os M' ag n (.ptr a 0 o) = rowTake ag n o (M' a 0) := loadP_out (fresh_ne hf hM')
  have hld1 : ∀ {ag : Bool} {n o : Nat} {os : List Pm.Obj}, loadP k os M' ag n (.ptr k1 i1 o) = rowTake ag n o (M' k1 i1) := loadP_out (fresh_ne hf h')
  simp only [WX, WV, WO, WC, FJ, e_L, e_A, e_Z, r_append, r_cap, cap_nil, FB, FL, FX, FS, FN, Option.map_some, Option.map_none, Nat.reduceLT, Nat.reduceEqDiff, Nat.reduceAdd, Nat.reduceLeDiff, Nat.reduceMul, true_and, and_self, argsP]
  refine cs0 (made_s hS) (hs.sseg hf) (by decide) ?_
  simp only [WX, WV, WO, WC, FJ, e_L, e_A, e_Z, r_append, r_cap, cap_nil, FB, FL, FX, FS, FN, Option.map_some, Option.map_none, Nat.reduceLT, Nat.reduceEqDiff, Nat.reduceAdd, Nat.reduceLeDiff, Nat.reduceMul, true_and, and_self, hld, hM', spCells, Bool.not_false, Bool.not_true, cnd_t, cnd_f, ptr_eql, pt53, hld1, h', lkCells, evCells, List.cons_append, List.nil_append]
  refine cp0 (spool_own e hG.1 hG.2) (by decide) ?_
  have hst : storeO 7 0 (.agg [iv e.node, iv e.seq, str e.path, iv e.kind, iv e.mode, encBytes e.bytes, encSpans e.past]) (some (.row .rw 0 [.v (.int .i64 0), .v (.int .i64 0), .v (.string ⟨#[]⟩), .v (.int .i64 0), .v (.int .i64 0), .lst .full 0 0 [], .lst .full 0 0 []])) = some (.row .rw 0 (evCells e)) := storeO_eq (n := 7) ⟨rfl, Nat.le_refl 7, rfl⟩
  simp only [WX, WV, WO, WC, FJ, e_L, e_A, e_Z, r_append, r_cap, cap_nil, FB, FL, FX, FS, FN, Option.map_some, Option.map_none, Nat.reduceLT, Nat.reduceEqDiff, Nat.reduceAdd, Nat.reduceLeDiff, Nat.reduceMul, true_and, and_self, encEv, evCells, hst]
  refine endc2 hf tp34 (loadP_own.trans ?_) rfl ⟨rfl, rfl⟩
  rfl
theorem first_no {M0 M : PMem} {a : Nat} {bytes entries most : Int} {ks : List (Nat × Nat)} (hS : Spl M0 M a bytes entries most ks []) : PTs env Tryd.prog M 18 [.ptr a 0 0] (.tup [zeroEv, bv false]) := by
  refine PTs.enter env_ok fn18 (by simp) comp18 fun M' k hs hk hf => ?_
  obtain ⟨p, hM, hch⟩ := hS.row
  cases hch
  have hM' := hs _ _ _ hM
  have hld : ∀ {ag : Bool} {n o : Nat} {os : List Pm.Obj}, loadP k os M' ag n (.ptr a 0 o) = rowTake ag n o (M' a 0) := loadP_out (fresh_ne hf hM')
  simp only [WX, WV, WO, WC, FJ, e_L, e_A, e_Z, r_append, r_cap, cap_nil, FB, FL, FX, FS, FN, Option.map_some, Option.map_none, Nat.reduceLT, Nat.reduceEqDiff, Nat.reduceAdd, Nat.reduceLeDiff, Nat.reduceMul, true_and, and_self, argsP]
  refine cs0 (made_s hS) (hs.sseg hf) (by decide) ?_
  simp only [WX, WV, WO, WC, FJ, e_L, e_A, e_Z, r_append, r_cap, cap_nil, FB, FL, FX, FS, FN, Option.map_some, Option.map_none, Nat.reduceLT, Nat.reduceEqDiff, Nat.reduceAdd, Nat.reduceLeDiff, Nat.reduceMul, true_and, and_self, hld, hM', spCells, Bool.not_false, Bool.not_true, cnd_t, cnd_f, nil_eql, pt53]
  exact endc2 hf tp34 (loadP_own.trans rfl) rfl ⟨rfl, rfl⟩
theorem find_first {e : Ev} {s : Nat} {l : List (Ev × Nat)} {k i : Nat} {ks : List (Nat × Nat)} {slot : PV} : findP e.node e.seq slot ((k, i) :: ks) ((e, s) :: l) = slot := by
  have : isDot e.node e.seq e = true := by simp [isDot]
  simp only [findP, if_pos this]
theorem cadd {tm : List (Nat × PV)} {nt k d a i o es : Nat} {cs : List PV} {n z : Int} {os : List Pm.Obj} {M : PMem} {κ : Kont} {R : PSt → Prop} (hM : M a i = some (.row .rw es cs)) (hc : cs[o]? = some (iv n)) (hak : a ≠ k) (hd : d < nt)
    (h : RK env Tryd.prog κ ⟨(d, iv (IntKind.i64.wrap (n + z))) :: tm, nt, k, os, putM M a i (.row .rw es (cs.set o (iv (IntKind.i64.wrap (n + z)))))⟩ R) : cK env Tryd.prog (some d) κ tm nt k os M R [.ptr a i o, iv z] (.fn 33 [] []) := by
  refine cm (first := []) (cap := []) ((add33 (show seg M k os a i = some (.row .rw es cs) by rw [seg_ne _ _ _ hak]; exact hM) hc).mono ?_)
  rintro x M1 ⟨rfl, rfl⟩
  exact ⟨os, _, rfl, MLe.of_eq (put_seg_out hak), hd, h⟩
theorem szs_cons {e : Ev} {s : Nat} {l : List (Ev × Nat)} : szs ((e, s) :: l) = s + szs l := by simp [szs]
theorem drop_first {M0 M : PMem} {a : Nat} {bytes entries most : Int} {ks : List (Nat × Nat)} {e : Ev} {s : Nat} {l : List (Ev × Nat)} (hS : Spl M0 M a bytes entries most ks ((e, s) :: l)) (hb : szs ((e, s) :: l) ≤ 100000000) (hl : ((e, s) :: l).length ≤ 1000000) :
    PT env Tryd.prog 10 [.ptr a 0 0, .agg [iv e.node, iv e.seq]] M (fun x M1 => x = iv 0 ∧ ∃ ks', Spl M0 M1 a bytes entries most ks' l) := by
  refine PT.enterR env_ok fn10 (by simp) comp10 fun k hk hf => RX.of env_ok ?_
  have hfind := find_at hS e.node e.seq
  obtain ⟨p, hM, hch⟩ := hS.row
  have hnot := hch.notSp hM rfl
  cases hch with
  | cons h h0 hn r =>
  rename_i k1 i1 q ks'
  rw [find_first] at hfind
  have hak : a ≠ k := fun e => by subst e; rw [hf 0] at hM; cases hM
  have hk1 : k1 ≠ k := fun e => by subst e; rw [hf i1] at h; cases h
  have hne : ¬ (k1 = a ∧ i1 = 0) := fun x => hnot (by rw [← x.1, ← x.2]; exact List.mem_cons_self)
  have hld : ∀ {ag : Bool} {n o : Nat} {os : List Pm.Obj} {M : PMem}, loadP k os M ag n (.ptr a 0 o) = rowTake ag n o (M a 0) := loadP_out hak
  have hld1 : ∀ {ag : Bool} {n o : Nat} {os : List Pm.Obj} {M : PMem}, loadP k os M ag n (.ptr k1 i1 o) = rowTake ag n o (M k1 i1) := loadP_out hk1
  simp only [WX, WV, WO, WC, FJ, e_L, e_A, e_Z, r_append, r_cap, cap_nil, FB, FL, FX, FS, FN, Option.map_some, Option.map_none, Nat.reduceLT, Nat.reduceEqDiff, Nat.reduceAdd, Nat.reduceLeDiff, Nat.reduceMul, true_and, and_self, argsP]
  refine cs0 (made_s hS) (Pm.Sub.seg hf) (by decide) ?_
  simp only [WX, WV, WO, WC, FJ, e_L, e_A, e_Z, r_append, r_cap, cap_nil, FB, FL, FX, FS, FN, Option.map_some, Option.map_none, Nat.reduceLT, Nat.reduceEqDiff, Nat.reduceAdd, Nat.reduceLeDiff, Nat.reduceMul, true_and, and_self]
  refine cs0 hfind (Pm.Sub.seg hf) (by decide) ?_
  have hneg : pun .neg (iv (s : Int)) = some (iv (-(s : Int))) := by
    have : IntKind.i64.wrap (0 - (s : Int)) = -(s : Int) := by
      rw [szs_cons] at hb
      rw [wrap64_id (by omega) (by omega)]; omega
    show some (iv (IntKind.i64.wrap (0 - (s : Int)))) = _
    rw [this]
  simp only [WX, WV, WO, WC, FJ, e_L, e_A, e_Z, r_append, r_cap, cap_nil, FB, FL, FX, FS, FN, Option.map_some, Option.map_none, Nat.reduceLT, Nat.reduceEqDiff, Nat.reduceAdd, Nat.reduceLeDiff, Nat.reduceMul, true_and, and_self, hld, hM, spCells, ptr_eql, pt53, hld1, h, lkCells, evCells, List.cons_append, List.nil_append, hneg]
  refine cadd hM rfl hak (by decide) ?_
  simp only [WX, WV, WO, WC, FJ, e_L, e_A, e_Z, r_append, r_cap, cap_nil, FB, FL, FX, FS, FN, Option.map_some, Option.map_none, Nat.reduceLT, Nat.reduceEqDiff, Nat.reduceAdd, Nat.reduceLeDiff, Nat.reduceMul, true_and, and_self]
  refine cadd (putM_same _ _ _ _) rfl hak (by decide) ?_
  rw [putM_put]
  have hlen : ((e, s) :: l).length = l.length + 1 := rfl
  have w1 : IntKind.i64.wrap ((szs ((e, s) :: l) : Nat) + -(s : Int)) = (szs l : Nat) := by
    rw [szs_cons] at hb ⊢
    rw [wrap64_id (by omega) (by omega)]; omega
  have w2 : IntKind.i64.wrap (((l.length + 1 : Nat) : Int) + -1) = (l.length : Nat) := by
    rw [wrap64_id (by omega) (by omega)]; omega
  have hrow2 : (((spCells bytes entries (.ptr k1 i1 0) (szs ((e, s) :: l) : Nat) (l.length + 1 : Nat) most).set 4 (iv (IntKind.i64.wrap ((szs ((e, s) :: l) : Nat) + -(s : Int))))).set 5 (iv (IntKind.i64.wrap (((l.length + 1 : Nat) : Int) + -1)))) = [bv true, iv bytes, iv entries, .ptr k1 i1 0, iv (szs l : Nat), iv (l.length : Nat), iv most] := by
    rw [w1, w2]; rfl
  rw [hrow2]
  have hA : ∀ {X : Pm.Obj}, putM M a 0 X a 0 = some X := putM_same _ _ _ _
  have hB : ∀ {X : Pm.Obj}, putM M a 0 X k1 i1 = some (.row .rw 0 (lkCells e s q)) := fun {X} => by rw [put_ne hne, h]
  have hst : ∀ {tm : List (Nat × PV)} {os : List Pm.Obj} {v : PV}, pone v = true → pcells v = [v] → storeP tm 38 k os (putM M a 0 (.row .rw 0 [bv true, iv bytes, iv entries, .ptr k1 i1 0, iv (szs l : Nat), iv (l.length : Nat), iv most])) 1 v (.ptr a 0 3) = some (.junk, ⟨tm, 38, k, os, putM M a 0 (.row .rw 0 (spCells bytes entries v (szs l : Nat) (l.length : Nat) most))⟩) := fun {tm os v} h1 h2 => by
    rw [storeP_out hak, hA, storeO_some, h2]
    simp only [List.length_cons, List.length_nil, List.all_cons, List.all_nil, h1, Bool.and_true]
    rw [if_pos (by decide), stO_eq, putM_put]; rfl
  have hq : pone q = true ∧ pcells q = [q] := by cases r <;> exact ⟨rfl, rfl⟩
  have hst' := fun {tm : List (Nat × PV)} {os : List Pm.Obj} => hst (tm := tm) (os := os) hq.1 hq.2
  simp only [WX, WV, WO, WC, FJ, e_L, e_A, e_Z, r_append, r_cap, cap_nil, FB, FL, FX, FS, FN, Option.map_some, Option.map_none, Nat.reduceLT, Nat.reduceEqDiff, Nat.reduceAdd, Nat.reduceLeDiff, Nat.reduceMul, true_and, and_self, hld, hA, hld1, hB, lkCells, evCells, List.cons_append, List.nil_append, hst']
  refine end1 (fresh_put hf hak) rfl ⟨rfl, ks', sub_put hS.sub hS.new, hS.new, q, putM_same _ _ _ _, ?_⟩
  refine r.frame fun k2 i2 hx => put_ne fun x => hnot ?_
  rw [← x.1, ← x.2]; exact List.mem_cons_of_mem _ hx
end Go.Proofs.YtmgmbdnhodicjaaDoor
end
