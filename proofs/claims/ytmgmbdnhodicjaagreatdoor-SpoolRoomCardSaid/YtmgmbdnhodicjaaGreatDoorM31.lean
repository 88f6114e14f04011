/- SpoolRoom: what waits never takes more than the quotas. Part 31 of 46; no condition. -/
import Derived.Test.YtmgmbdnhodicjaaGreatDoorM30
set_option linter.unusedVariables false
set_option linter.unusedSimpArgs false
section
namespace Go.Proofs.YtmgmbdnhodicjaaGreatDoor
open Go Go.Am Go.Pm
set_option maxHeartbeats 1000000
set_option maxRecDepth 100000
theorem mmS_ldk {M : PMem} {kb k k2 a j n o : Nat} {os os' : List Pm.Obj} {ag : Bool} (h2 : k2 ≠ k) : loadP k2 os' (mmS M kb k a os) ag n (.ptr k j o) = rowTake ag n o os[j]? := by
  rw [loadP_out (Ne.symm h2)]; unfold mmS; rw [seg_same]
def stS (tm : List (Nat × PV)) (nt k2 : Nat) (os' : List Pm.Obj) (M : PMem) (kb k a : Nat) (os : List Pm.Obj) (j : Nat) : Option Pm.Obj → Option (PV × PSt)
  | some ob => some (.junk, ⟨tm, nt, k2, os', mmS M kb k a (os.set j ob)⟩)
  | none => none
theorem stS_some {tm : List (Nat × PV)} {nt k2 : Nat} {os' : List Pm.Obj} {M : PMem} {kb k a : Nat} {os : List Pm.Obj} {j : Nat} {ob : Pm.Obj} : stS tm nt k2 os' M kb k a os j (some ob) = some (.junk, ⟨tm, nt, k2, os', mmS M kb k a (os.set j ob)⟩) := rfl
theorem mmS_stk {M : PMem} {kb k k2 a nt n o j : Nat} {os os' : List Pm.Obj} {tm : List (Nat × PV)} {v : PV} (h2 : k2 ≠ k) :
    storeP tm nt k2 os' (mmS M kb k a os) n v (.ptr k j o) = stS tm nt k2 os' M kb k a os j (storeO n o v os[j]?) := by
  have e1 : mmS M kb k a os k j = os[j]? := by unfold mmS; rw [seg_same]
  rw [storeP_out (Ne.symm h2), e1]
  cases e : storeO n o v os[j]? with
  | none => rfl
  | some ob =>
    have hj : j < os.length := by
      rcases Nat.lt_or_ge j os.length with h | h
      · exact h
      · rw [List.getElem?_eq_none h] at e; cases e
    rw [stO_eq, stS_some]
    unfold mmS
    rw [put_seg hj]
theorem mmS_put {M : PMem} {kb k a i : Nat} {os : List Pm.Obj} {o : Pm.Obj} (h : i < os.length) : putM (mmS M kb k a os) k i o = mmS M kb k a (os.set i o) := by
  unfold mmS; rw [put_seg h]
theorem codeA31 : codeOk env.ng (subc [1, 1, 0, 1, 0, 0] body60) = true := by kernel_rfl
theorem codeB31 : codeOk env.ng (subc [1, 1, 0, 1, 0, 1] body60) = true := by kernel_rfl
noncomputable def osF (d1 d2 : Int) (tm : List (Nat × PV)) (last : PV) : List Pm.Obj := [.row .rw 0 [iv d1, iv d2], .row .rw 0 [last], .loop true .ready none tm 27 [9] (subc [1, 1, 0, 1, 0, 0] body60) (subc [1, 1, 0, 1, 0, 1] body60)]
def zF (d1 d2 : Int) (tm : List (Nat × PV)) (st slot : PV) (os : List Pm.Obj) : Prop := os = [.row .rw 0 [iv d1, iv d2], .row .rw 0 [slot], .loop true .done (some (.exit 0)) tm 27 [9] (subc [1, 1, 0, 1, 0, 0] body60) (subc [1, 1, 0, 1, 0, 1] body60)]
theorem round31 {M : PMem} {kb k a : Nat} (hne : kb ≠ k) (hkb : fresh M kb) (hk : fresh M k) (d1 d2 : Int) (tm : List (Nat × PV)) (h3 : tget tm 3 = .ptr k 0 0) (h5 : tget tm 5 = .ptr k 1 0) :
    rounds M kb k 2 a (osF d1 d2 tm) (nxtF d1 d2) (fun _ _ => True) (fun _ => True) (zF d1 d2 tm) := by
  intro _ st slot o _ _ hsl
  obtain ⟨c, j, f, es, cells, p, rfl, hM, hc, ho⟩ := hsl
  refine PRd.runR env_ok codeA31 codeB31 piece60_1 piece60_2 (tm1 := (9, .ptr c j f) :: tm) (pend := none) (tm := tm) (nt := 27) (ps := [9]) (by unfold mmS; rw [seg_same]; rfl) (by simp [pparams]) fun k' hk' hkk hf => RX.of env_ok ?_
  have hk2 : k' ≠ k := hkk
  simp only [G0, Nat.reduceLT, Nat.reduceEqDiff, Nat.reduceAdd, Nat.reduceLeDiff, Nat.reduceMul]
  refine ⟨_, _, rfl, RX.of env_ok ?_⟩
  have hldk : ∀ {ag : Bool} {n o j : Nat} {os os' : List Pm.Obj}, loadP k' os' (mmS M kb k a os) ag n (.ptr k j o) = rowTake ag n o os[j]? := mmS_ldk hk2
  have hstk : ∀ {nt n o j : Nat} {os os' : List Pm.Obj} {tm : List (Nat × PV)} {v : PV}, storeP tm nt k' os' (mmS M kb k a os) n v (.ptr k j o) = stS tm nt k' os' M kb k a os j (storeO n o v os[j]?) := mmS_stk hk2
  have hfr := mmS_fresh (os := osF d1 d2 tm st) hne (show 0 < 3 by decide) hf
  have hck : c ≠ k' := fun e => by subst e; rw [hfr.2.2 j] at hM; cases hM
  have hsub : ∀ os', Pm.Sub M (mmS M kb k a os') := fun os' => mmS_sub hkb hk
  have hldc : ∀ {ag : Bool} {n o : Nat} {os os' : List Pm.Obj}, loadP k' os' (mmS M kb k a os) ag n (.ptr c j o) = rowTake ag n o (some (.row .rw es cells)) := fun {ag n o os os'} => by rw [loadP_out hck, hsub os _ _ _ hM]
  rw [mmS_put (by show 2 < 3; decide)]
  simp only [osF, List.set_cons_succ, List.set_cons_zero]
  cases o with
  | none =>
    subst ho
    simp only [G0, Nat.reduceLT, Nat.reduceEqDiff, Nat.reduceAdd, Nat.reduceLeDiff, Nat.reduceMul, h3, h5, hldk, hstk, stS_some, hldc, hc, nil_neq, pt53]
    refine roundGo (Ne.symm hkk) (by unfold mmS; rw [seg_same]; rfl) (fresh_mmS _ hfr) (.inl ⟨.ptr c j f, rfl, rfl, ?_⟩)
    rw [mmS_put (show 2 < 3 by decide)]; rfl
  | some e =>
    obtain ⟨k1, i1, s, q, rfl, h1⟩ := ho
    have hck1 : k1 ≠ k' := fun e => by subst e; rw [hfr.2.2 i1] at h1; cases h1
    have hld1 : ∀ {ag : Bool} {n o : Nat} {os os' : List Pm.Obj}, loadP k' os' (mmS M kb k a os) ag n (.ptr k1 i1 o) = rowTake ag n o (some (.row .rw 0 (lkCells e s q))) := fun {ag n o os os'} => by rw [loadP_out hck1, hsub os _ _ _ h1]
    simp only [G0, Nat.reduceLT, Nat.reduceEqDiff, Nat.reduceAdd, Nat.reduceLeDiff, Nat.reduceMul, h3, h5, hldk, hstk, stS_some, hldc, hc, ptr_neq, pt53, hld1, lkCells, evCells, eql28]
    refine cW_s (fun hb => ?_) (fun hb => ?_)
    · simp only [G0, Nat.reduceLT, Nat.reduceEqDiff, Nat.reduceAdd, Nat.reduceLeDiff, Nat.reduceMul]
      refine roundStop (c := .exit 0) rfl (Ne.symm hkk) (by unfold mmS; rw [seg_same]; rfl) (fresh_mmS _ hfr) (.inr ⟨?_, rfl, _, rfl, ?_⟩)
      · have hd : isDot d1 d2 e = true := hb
        simp only [nxtF, if_pos hd]
      · rw [mmS_put (show 2 < 3 by decide)]; rfl
    · simp only [G0, Nat.reduceLT, Nat.reduceEqDiff, Nat.reduceAdd, Nat.reduceLeDiff, Nat.reduceMul]
      refine roundGo (Ne.symm hkk) (by unfold mmS; rw [seg_same]; rfl) (fresh_mmS _ hfr) (.inl ⟨.ptr c j f, ?_, rfl, ?_⟩)
      · have hd : ¬ isDot d1 d2 e = true := by
          have : isDot d1 d2 e = false := hb
          rw [this]; decide
        simp only [nxtF, if_neg hd]
      · rw [mmS_put (show 2 < 3 by decide)]; rfl
theorem chain.sub {M0 M M' : PMem} {p : PV} {ks : List (Nat × Nat)} {l : List (Ev × Nat)} (h : chain M0 M p ks l) (hs : Pm.Sub M M') : chain M0 M' p ks l := by
  induction h with
  | nil => exact .nil
  | cons h h0 hn r ih => exact .cons (hs _ _ _ h) h0 hn ih
theorem Spl.mono {M0 M M' : PMem} {a : Nat} {bytes entries most : Int} {ks : List (Nat × Nat)} {l : List (Ev × Nat)} (h : Spl M0 M a bytes entries most ks l) (hs : Pm.Sub M M') : Spl M0 M' a bytes entries most ks l := by
  obtain ⟨p, h1, h2⟩ := h.row
  exact ⟨h.sub.trans hs, h.new, p, hs _ _ _ h1, h2.sub hs⟩
theorem find_at {M0 M : PMem} {a : Nat} {bytes entries most : Int} {ks : List (Nat × Nat)} {l : List (Ev × Nat)} (hS : Spl M0 M a bytes entries most ks l) (d1 d2 : Int) : PTs env Tryz.prog M 60 [.ptr a 0 0, .agg [iv d1, iv d2]] (findP d1 d2 (.ptr a 0 3) ks l) := by
  refine PTs.enter env_ok fn60 (by simp) comp60 fun M' k hs hk hf => ?_
  obtain ⟨p, hrow, hch⟩ := hS.row
  have hlen := hch.len
  have hak : a ≠ k := fun e => by subst e; have := hs _ _ _ hrow; rw [hf 0] at this; cases this
  simp only [G0, Nat.reduceLT, Nat.reduceEqDiff, Nat.reduceAdd, Nat.reduceLeDiff, Nat.reduceMul, argsP]
  refine cm (first := []) (cap := []) ((links36 _ a).mono ?_)
  rintro x M1 ⟨kb, h1, h2, rfl, rfl⟩
  have hne : kb ≠ k := fun e => by
    subst e
    have := h2 0
    rw [seg_same] at this; cases this
  have h2' : fresh M' kb := fun j => by
    have := h2 j
    rwa [seg_ne _ _ _ hne] at this
  refine ⟨[.row .rw 0 [iv d1, iv d2], .row .rw 0 [nilP]], seg M' kb (bxS a), rfl, MLe.of_eq (seg_comm (Ne.symm hne)), by decide, ?_⟩
  simp only [G0, Nat.reduceLT, Nat.reduceEqDiff, Nat.reduceAdd, Nat.reduceLeDiff, Nat.reduceMul]
  have hpop : ∀ (os : List Pm.Obj), MLe (mmS M' kb k a os) M' := fun os c j o e => by
    refine ⟨o, ?_, .refl o⟩
    exact mmS_sub h2' hf _ _ _ e
  refine RX.range env_ok (g := 128) (first := []) (captured := [.ptr kb 0 0]) rfl fn128 (fun _ _ e => by cases e) ?_
  refine (iter61 (M := M') (kb := kb) (k := k) (i := 2) (hS.mono hs) hne h2' hf (osF d1 d2 _) (fun _ => by show 0 < 3; decide) (nxtF d1 d2) (fun _ _ => True) (fun _ _ _ _ _ _ _ => trivial) (fun _ => True) (zF d1 d2 _) (round31 hne h2' hf d1 d2 _ rfl rfl) nilP trivial (fun _ _ => trivial)).mono ?_
  have hfind := goS_find d1 d2 ks l nilP (.ptr a 0 3) hlen
  rintro x M1 (⟨st', hg, rfl⟩ | ⟨st', slot', os', hg, rfl, rfl⟩)
  · have he : st' = findP d1 d2 (.ptr a 0 3) ks l := by
      rcases hfind with ⟨s1, g1, g2⟩ | ⟨s1, g1⟩
      · rw [hg] at g1; cases g1; exact g2
      · rw [hg] at g1; cases g1
    subst he
    refine ⟨osF d1 d2 _ _, seg M' kb (bxS a), _, _, _, _, _, _, _, rfl, .refl _, rfl, by simp, .normal, rfl, ?_⟩
    simp only [osF, List.set_cons_succ, List.set_cons_zero, List.length_cons, List.length_nil]
    simp only [G0, Nat.reduceLT, Nat.reduceEqDiff, Nat.reduceAdd, Nat.reduceLeDiff, Nat.reduceMul]
    exact end1m rfl (hpop _) ⟨rfl, rfl⟩
  · have he : slot' = findP d1 d2 (.ptr a 0 3) ks l := by
      rcases hfind with ⟨s1, g1, g2⟩ | ⟨s1, g1⟩
      · rw [hg] at g1; cases g1
      · rw [hg] at g1; cases g1; rfl
    subst he
    refine ⟨_, seg M' kb (bxS a), _, _, _, _, _, _, _, rfl, .refl _, rfl, by simp, .exit 0, rfl, ?_⟩
    simp only [List.set_cons_succ, List.set_cons_zero, List.length_cons, List.length_nil]
    simp only [G0, Nat.reduceLT, Nat.reduceEqDiff, Nat.reduceAdd, Nat.reduceLeDiff, Nat.reduceMul]
    exact end1m rfl (hpop _) ⟨rfl, rfl⟩
end Go.Proofs.YtmgmbdnhodicjaaGreatDoor
end
