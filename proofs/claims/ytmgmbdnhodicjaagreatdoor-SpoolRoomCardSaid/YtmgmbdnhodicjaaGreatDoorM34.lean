/- SpoolRoom: what waits never takes more than the quotas. Part 34 of 46; no condition. -/
import Derived.Test.YtmgmbdnhodicjaaGreatDoorM33
set_option linter.unusedVariables false
set_option linter.unusedSimpArgs false
section
namespace Go.Proofs.YtmgmbdnhodicjaaGreatDoor
open Go Go.Am Go.Pm
set_option maxHeartbeats 1000000
set_option maxRecDepth 100000
theorem codeA17 : codeOk env.ng (subc [1, 1, 1, 0, 1, 0, 0] body29) = true := by kernel_rfl
theorem codeB17 : codeOk env.ng (subc [1, 1, 1, 0, 1, 0, 1] body29) = true := by kernel_rfl
noncomputable def osA (k : Nat) (tm : List (Nat × PV)) (acc : List Ev) : List Pm.Obj := [.row .rw 0 [.lst (.id k 1) 7 acc.length (acc.flatMap evCells)], .grow acc.length 7, .loop true .ready none tm 25 [9] (subc [1, 1, 1, 0, 1, 0, 0] body29) (subc [1, 1, 1, 0, 1, 0, 1] body29)]
def nxtA (acc : List Ev) (_ : PV) : Option Ev → Option (List Ev)
  | some e => some (acc ++ [e])
  | none => some acc
theorem goS_all : ∀ (ks : List (Nat × Nat)) (l : List (Ev × Nat)) (acc : List Ev) (slot : PV), ks.length = l.length → goS nxtA acc (slots slot ks l) = (acc ++ l.map (·.1), none)
  | [], [], acc, slot, _ => by simp [slots, goS, nxtA]
  | (k, i) :: ks, (e, s) :: l, acc, slot, h => by
    have hl : ks.length = l.length := by simpa using h
    simp only [slots, goS, nxtA, goS_all ks l (acc ++ [e]) (.ptr k i 8) hl, List.map_cons, List.append_assoc, List.singleton_append]
def evFit (e : Ev) : Prop := e.bytes.length ≤ 1000000 ∧ e.past.length ≤ 1000000
theorem round17 {M : PMem} {kb k a : Nat} (hne : kb ≠ k) (hkb : fresh M kb) (hk : fresh M k) (tm : List (Nat × PV)) (h3 : tget tm 3 = .ptr k 0 0) (L : Nat) (hL : L ≤ 1000000) :
    rounds M kb k 2 a (osA k tm) nxtA (fun n acc => acc.length + n ≤ L) evFit (fun _ _ _ => False) := by
  intro n st slot o hn hG hsl
  obtain ⟨c, j, f, es, cells, p, rfl, hM, hc, ho⟩ := hsl
  refine PRd.runR env_ok codeA17 codeB17 piece29_1 piece29_2 (tm1 := (9, .ptr c j f) :: tm) (pend := none) (tm := tm) (nt := 25) (ps := [9]) (by unfold mmS; rw [seg_same]; rfl) (by simp [pparams]) fun k' hk' hkk hf => RX.of env_ok ?_
  have hk2 : k' ≠ k := hkk
  simp only [G0, Nat.reduceLT, Nat.reduceEqDiff, Nat.reduceAdd, Nat.reduceLeDiff, Nat.reduceMul]
  refine ⟨_, _, rfl, RX.of env_ok ?_⟩
  have hldk : ∀ {ag : Bool} {n o j : Nat} {os os' : List Pm.Obj}, loadP k' os' (mmS M kb k a os) ag n (.ptr k j o) = rowTake ag n o os[j]? := mmS_ldk hk2
  have hstk : ∀ {nt n o j : Nat} {os os' : List Pm.Obj} {tm : List (Nat × PV)} {v : PV}, storeP tm nt k' os' (mmS M kb k a os) n v (.ptr k j o) = stS tm nt k' os' M kb k a os j (storeO n o v os[j]?) := mmS_stk hk2
  have hfr := mmS_fresh (os := osA k tm st) hne (show 0 < 3 by decide) hf
  have hck : c ≠ k' := fun e => by subst e; rw [hfr.2.2 j] at hM; cases hM
  have hsub : ∀ os', Pm.Sub M (mmS M kb k a os') := fun os' => mmS_sub hkb hk
  have hldc : ∀ {ag : Bool} {n o : Nat} {os os' : List Pm.Obj}, loadP k' os' (mmS M kb k a os) ag n (.ptr c j o) = rowTake ag n o (some (.row .rw es cells)) := fun {ag n o os os'} => by rw [loadP_out hck, hsub os _ _ _ hM]
  rw [mmS_put (by show 2 < 3; decide)]
  simp only [osA, List.set_cons_succ, List.set_cons_zero]
  cases o with
  | none =>
    subst ho
    simp only [G0, Nat.reduceLT, Nat.reduceEqDiff, Nat.reduceAdd, Nat.reduceLeDiff, Nat.reduceMul, h3, hldk, hstk, stS_some, hldc, hc, nil_neq, pt53]
    refine roundGo (Ne.symm hkk) (by unfold mmS; rw [seg_same]; rfl) (fresh_mmS _ hfr) (.inl ⟨st, rfl, rfl, ?_⟩)
    rw [mmS_put (show 2 < 3 by decide)]; rfl
  | some e =>
    obtain ⟨k1, i1, s, q, rfl, h1⟩ := ho
    obtain ⟨hb, hp⟩ := hG e rfl
    have hck1 : k1 ≠ k' := fun e => by subst e; rw [hfr.2.2 i1] at h1; cases h1
    have hld1 : ∀ {ag : Bool} {n o : Nat} {os os' : List Pm.Obj}, loadP k' os' (mmS M kb k a os) ag n (.ptr k1 i1 o) = rowTake ag n o (some (.row .rw 0 (lkCells e s q))) := fun {ag n o os os'} => by rw [loadP_out hck1, hsub os _ _ _ h1]
    simp only [G0, Nat.reduceLT, Nat.reduceEqDiff, Nat.reduceAdd, Nat.reduceLeDiff, Nat.reduceMul, h3, hldk, hstk, stS_some, hldc, hc, ptr_neq, pt53, hld1, lkCells, evCells]
    refine cq0 (spool_own e hb hp) (by decide) ?_
    have hfill : fillA 7 [.v (.int .i64 0), .v (.int .i64 0), .v (.string ⟨#[]⟩), .v (.int .i64 0), .v (.int .i64 0), .lst .full 0 0 [], .lst .full 0 0 []] [(0, encEv e)] = some (evCells e) := rfl
    simp only [G0, Nat.reduceLT, Nat.reduceEqDiff, Nat.reduceAdd, Nat.reduceLeDiff, Nat.reduceMul, hfill]
    have hn1 : st.length ≤ 1000000 := by have : st.length + (n + 1) ≤ L := hn; omega
    have hcond : (st.length = 0 ∨ 7 = 7) ∧ (2 * (st.length + 1) + 2000) * 96 ≤ 281474976710656 ∧ st.length + 1 ≤ 4611686018427387904 ∧ 7 < 4096 ∧ 7 = 7 ∧ (evCells e).all pone = true := ⟨.inr rfl, by omega, by omega, by decide, rfl, rfl⟩
    rw [ap_out (n := st.length) (sz := 7) (by decide) (Ne.symm hkk) (by unfold mmS; rw [seg_same]; rfl) hcond rfl, mmS_put (show 1 < 3 by decide)]
    simp only [G0, Nat.reduceLT, Nat.reduceEqDiff, Nat.reduceAdd, Nat.reduceLeDiff, Nat.reduceMul, h3, hldk, hstk, stS_some, List.set_cons_succ, List.set_cons_zero]
    refine roundGo (Ne.symm hkk) (by unfold mmS; rw [seg_same]; rfl) (fresh_mmS _ hfr) (.inl ⟨st ++ [e], rfl, rfl, ?_⟩)
    rw [mmS_put (show 2 < 3 by decide)]
    have hl : (st ++ [e]).length = st.length + 1 := by simp
    have hfm : (st ++ [e]).flatMap evCells = st.flatMap evCells ++ evCells e := by simp
    rw [hl, hfm]; rfl
theorem all_at {M0 M : PMem} {a : Nat} {bytes entries most : Int} {ks : List (Nat × Nat)} {l : List (Ev × Nat)} (hS : Spl M0 M a bytes entries most ks l) (hl : l.length ≤ 900000) (hG : ∀ x ∈ l, evFit x.1) : PTs env Tryz.prog M 29 [.ptr a 0 0] (encEvs (l.map (·.1))) := by
  refine fun M' hs => (show PT env Tryz.prog 29 [.ptr a 0 0] M' _ from PT.conseq (R := fun x M1 => PLe x (encEvs (l.map (·.1))) ∧ M1 = M') ?_ fun x M1 ⟨h1, h2⟩ => ⟨_, M1, h1, MLe.refl _, rfl, h2⟩)
  refine PT.enterR env_ok fn29 (by simp) comp29 fun k hk hf => RX.of env_ok ?_
  obtain ⟨p, hrow, hch⟩ := hS.row
  have hlen := hch.len
  have hak : a ≠ k := fun e => by subst e; have := hs _ _ _ hrow; rw [hf 0] at this; cases this
  simp only [G0, Nat.reduceLT, Nat.reduceEqDiff, Nat.reduceAdd, Nat.reduceLeDiff, Nat.reduceMul, argsP]
  refine cs0 (made_s hS) (hs.sseg hf) (by decide) ?_
  simp only [G0, Nat.reduceLT, Nat.reduceEqDiff, Nat.reduceAdd, Nat.reduceLeDiff, Nat.reduceMul]
  refine cm (first := []) (cap := []) ((links36 _ a).mono ?_)
  rintro x M1 ⟨kb, h1, h2, rfl, rfl⟩
  have hne : kb ≠ k := fun e => by
    subst e
    have := h2 0
    rw [seg_same] at this; cases this
  have h2' : fresh M' kb := fun j => by
    have := h2 j
    rwa [seg_ne _ _ _ hne] at this
  refine ⟨[.row .rw 0 [.lst .full 0 0 []]], seg M' kb (bxS a), rfl, MLe.of_eq (seg_comm (Ne.symm hne)), by decide, ?_⟩
  simp only [G0, Nat.reduceLT, Nat.reduceEqDiff, Nat.reduceAdd, Nat.reduceLeDiff, Nat.reduceMul]
  have hpop : ∀ (os : List Pm.Obj), MLe (mmS M' kb k a os) M' := fun os c j o e => by
    refine ⟨o, ?_, .refl o⟩
    exact mmS_sub h2' hf _ _ _ e
  refine RX.lay (j := 0) (f := 0) (e0 := 0) (es := 7) (w := .rw) (es0 := 0) (cs := [.lst .full 0 0 []]) (by decide) rfl rfl ?_
  simp only [List.set_cons_zero, List.length_cons, List.length_nil, List.cons_append, List.nil_append]
  refine RX.range env_ok (g := 128) (first := []) (captured := [.ptr kb 0 0]) rfl fn128 (fun _ _ e => by cases e) ?_
  refine (iter61 (M := M') (kb := kb) (k := k) (i := 2) (hS.mono hs) hne h2' hf (osA k _) (fun _ => by show 0 < 3; decide) nxtA (fun n acc => acc.length + n ≤ 1000000) (fun n st s o st' hst hx => ?_) evFit (fun _ _ _ => False) (round17 hne h2' hf _ rfl 1000000 (by decide)) [] (by simp; omega) hG).mono ?_
  · cases o with
    | none => cases hx; show st.length + n ≤ 1000000; have : st.length + (n + 1) ≤ 1000000 := hst; omega
    | some e => cases hx; show (st ++ [e]).length + n ≤ 1000000; have : st.length + (n + 1) ≤ 1000000 := hst; simp; omega
  have hall := goS_all ks l [] (.ptr a 0 3) hlen
  rintro x M1 (⟨st', hg, rfl⟩ | ⟨st', slot', os', hg, hz, rfl⟩)
  · rw [hall] at hg
    cases hg
    refine ⟨osA k _ _, seg M' kb (bxS a), _, _, _, _, _, _, _, rfl, .refl _, rfl, by simp, .normal, rfl, ?_⟩
    simp only [osA, List.set_cons_succ, List.set_cons_zero, List.length_cons, List.length_nil, List.nil_append]
    simp only [G0, Nat.reduceLT, Nat.reduceEqDiff, Nat.reduceAdd, Nat.reduceLeDiff, Nat.reduceMul]
    exact end1m rfl (hpop _) ⟨PLe.no _ _ _ _, rfl⟩
  · exact hz.elim
end Go.Proofs.YtmgmbdnhodicjaaGreatDoor
end
