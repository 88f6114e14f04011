/- SpoolRoom: what waits never takes more than the quotas. Part 44 of 46; no condition. -/
import Derived.Test.YtmgmbdnhodicjaaGreatDoorM43
set_option linter.unusedVariables false
set_option linter.unusedSimpArgs false
section
namespace Go.Proofs.YtmgmbdnhodicjaaGreatDoor
open Go Go.Am Go.Pm
set_option maxHeartbeats 2000000
set_option maxRecDepth 100000
theorem putCode_cases (b n : Int) (hn : 0 ≤ n) (l : List (Ev × Nat)) (e : Ev) : putCode b n l e = 0 ∨ putCode b n l e = 2 ∨ putCode b n l e = 7 ∨ (putCode b n l e = 8 ∧ ((evSize e : Nat) : Int) ≤ b ∧ l ≠ []) ∨ (putCode b n l e = 3 ∧ (((evSize e : Nat) : Int) ≤ b → n = 0)) := by
  unfold putCode
  split
  · exact .inr (.inl rfl)
  · split
    · rename_i h
      refine .inr (.inr (.inr (.inr ⟨rfl, fun h1 => ?_⟩)))
      simp only [Bool.or_eq_true, decide_eq_true_eq, beq_iff_eq] at h
      omega
    · rename_i h
      simp only [Bool.or_eq_true, decide_eq_true_eq, beq_iff_eq, not_or] at h
      split
      · exact .inr (.inr (.inl rfl))
      · split
        · rename_i h2
          refine .inr (.inr (.inr (.inl ⟨rfl, by omega, fun e0 => ?_⟩)))
          subst e0
          simp only [Bool.or_eq_true, decide_eq_true_eq, szs, List.map_nil, List.sum_nil, List.length_nil] at h2
          omega
        · exact .inl rfl
theorem branch38 {M0 M : PMem} {a k k' : Nat} {b n most : Int} {ks : List (Nat × Nat)} {l : List (Ev × Nat)} {t : Pm.Tok} {w : PV} (hS : Spl (seg (tkB M0 t l.length) k [ghost]) M a b n most ks l) (hI : roomI b n most l) (hb : 0 ≤ b ∧ b ≤ 10000000) (hn : 0 ≤ n ∧ n ≤ 10000)
    (hW : Wnt M0 k (l.map (·.1)) t w) (hk : k' ≠ k) (hf : fresh M k') (xs : List Act) (i : Nat) (x : Act) (hx : xs[i]? = some x) (hp : x.ev.path.length ≤ 1000) {tm : List (Nat × PV)} (hK : Kp tm b n (encActs xs) a w (iv i)) (t12 : tget tm 12 = .ptr k' 0 0) :
    RX env Tryz.prog none c4_38 ⟨tm, 147, k', [.row .rw 0 (evCells x.ev)], M⟩ (fun e s1 => e = .normal ∧ ∃ tm' os' M1 t' w' most' ks' l', s1 = ⟨tm', 147, k', os', M1⟩ ∧ Kp tm' b n (encActs xs) a w' (iv i) ∧ Wnt M0 k (l'.map (·.1)) t' w' ∧ roomI b n most' l' ∧
      Spl (seg (tkB M0 t' l'.length) k [ghost]) (seg M1 k' os') a b n most' ks' l') := by
  have hsz := hI.ok.size
  have hln := hI.ok.len
  have hP := hS.push (k := k') (os := [.row .rw 0 (evCells x.ev)]) hf
  have hfb : fresh (seg (tkB M0 t l.length) k [ghost]) k' := fresh_of_sub hS.sub hf
  have hsub0 : Pm.Sub (seg M0 k [ghost]) (seg (seg (tkB M0 t l.length) k [ghost]) k' [.row .rw 0 (evCells x.ev)]) := (tkB_sub hW _ _).trans (Pm.Sub.seg hfb)
  have hi' : i < xs.length := by
    rcases Nat.lt_or_ge i xs.length with h | h
    · exact h
    · rw [List.getElem?_eq_none h] at hx; cases hx
  have hii : (i : Int) < xs.length := by omega
  have c0 : (xs.flatMap actCells)[i * 8]? = some (bv x.drop) := cell_at (f := actCells) (n := 8) (c := 0) (fun _ => rfl) hx rfl
  have h2 : ptake true 2 (evCells x.ev) 0 = some (.agg [iv x.ev.node, iv x.ev.seq]) := rfl
  have h7 : ptake true 7 (evCells x.ev) 0 = some (encEv x.ev) := rfl
  obtain ⟨t0, t1, t2, t7, t8, t10, t11⟩ := hK
  have n60 : ((6 : Int) == 0) = false := rfl
  refine RX.of env_ok ?_
  simp only [G0, Nat.reduceLT, Nat.reduceEqDiff, Nat.reduceAdd, Nat.reduceLeDiff, Nat.reduceMul, t0, t1, t2, t7, t8, t10, t11, t12, encActs, hii, decide_true, hi', c0]
  cases hxd : x.drop with
  | true =>
    simp only [G0, Nat.reduceLT, Nat.reduceEqDiff, Nat.reduceAdd, Nat.reduceLeDiff, Nat.reduceMul, t0, t1, t2, t7, t8, t10, t11, t12, h2]
    have hwd := wout_del (d1 := x.ev.node) (d2 := x.ev.seq) hI.nd
    refine cm (first := []) (cap := []) ((drop_at hP (by omega) (by omega) x.ev.node x.ev.seq).mono ?_)
    rintro y M1 (⟨hd, rfl, ks', hS1⟩ | ⟨hd, rfl, rfl⟩)
    · refine ⟨[.row .rw 0 (evCells x.ev)], M1, rfl, mle_re hS1.sub, by decide, ?_⟩
      simp only [G0, Nat.reduceLT, Nat.reduceEqDiff, Nat.reduceAdd, Nat.reduceLeDiff, Nat.reduceMul, t0, t1, t2, t7, t8, t10, t11, t12, h2, beq_self_eq_true]
      have hR := hS1.re
      have hwo := without_at (l.map (·.1)) (by rw [List.length_map]; omega) x.ev.node x.ev.seq (seg M1 k' [.row .rw 0 (evCells x.ev)])
      rw [hwd] at hwo
      refine cm (first := []) (cap := []) ((PT.args (.cons hW.le (.cons (PLe.refl _) .nil)) hwo).mono ?_)
      rintro y M2 ⟨kc, ⟨hw0, rfl, rfl⟩ | ⟨hw0, hfc, rfl, rfl⟩⟩
      · refine ⟨[.row .rw 0 (evCells x.ev)], M1, rfl, MLe.refl _, by decide, ?_⟩
        simp only [G0, Nat.reduceLT, Nat.reduceEqDiff, Nat.reduceAdd, Nat.reduceLeDiff, Nat.reduceMul, t0, t1, t2, t7, t8, t10, t11, t12]
        exact ⟨_, _, _, .full, _, most, ks', delL x.ev.node x.ev.seq l, rfl, ⟨t0, t1, t2, t7, t8, rfl, t11⟩, .nil 0 hw0, hI.del _ _, hR.base hsub0⟩
      · have hB := hR.base hsub0
        have hck' : kc ≠ k' := fun e => by subst e; have := hfc 0; rw [seg_same] at this; cases this
        have hck : kc ≠ k := fun e => by
          subst e
          have h1 := hB.sub kc 0 ghost (by rw [seg_same]; rfl)
          rw [hfc 0] at h1; cases h1
        refine ⟨[.row .rw 0 (evCells x.ev)], seg M1 kc _, rfl, MLe.of_eq (seg_comm (Ne.symm hck')), by decide, ?_⟩
        simp only [G0, Nat.reduceLT, Nat.reduceEqDiff, Nat.reduceAdd, Nat.reduceLeDiff, Nat.reduceMul, t0, t1, t2, t7, t8, t10, t11, t12]
        have hT := hB.tok (os := [.row .rw 0 [iv x.ev.node, iv x.ev.seq], .grow ((delL x.ev.node x.ev.seq l).map (·.1)).length 7]) hfc (i := 1) rfl
        rw [put_seg_ne hck, List.length_map, seg_comm (Ne.symm hck')] at hT
        refine ⟨_, _, _, .id kc 1, _, most, ks', delL x.ev.node x.ev.seq l, rfl, ⟨t0, t1, t2, t7, t8, rfl, t11⟩, .at_ hck (fresh_unseg (fresh_of_sub hB.sub hfc)), hI.del _ _, ?_⟩
        rw [List.length_map]
        exact hT
    · refine ⟨[.row .rw 0 (evCells x.ev)], M, rfl, MLe.refl _, by decide, ?_⟩
      simp only [G0, Nat.reduceLT, Nat.reduceEqDiff, Nat.reduceAdd, Nat.reduceLeDiff, Nat.reduceMul, t0, t1, t2, t7, t8, t10, t11, t12, n60]
      exact ⟨_, _, _, t, w, most, ks, l, rfl, ⟨t0, t1, t2, t7, t8, t10, t11⟩, hW, hI, hP.base (Pm.Sub.seg hfb)⟩
  | false =>
    simp only [G0, Nat.reduceLT, Nat.reduceEqDiff, Nat.reduceAdd, Nat.reduceLeDiff, Nat.reduceMul, t0, t1, t2, t7, t8, t10, t11, t12, h7]
    refine cm (first := []) (cap := []) ((put_spoolM hP hb hn (by omega) (by omega) x.ev hp).mono ?_)
    rintro y M1 ⟨rfl, most', ks', hm, hS1⟩
    refine ⟨[.row .rw 0 (evCells x.ev)], M1, rfl, mle_re hS1.sub, by decide, ?_⟩
    have hI' := hI.put x.ev hp hm
    have n08 : ((0 : Int) == 8) = false := rfl
    have n03 : ((0 : Int) == 3) = false := rfl
    have n20 : ((2 : Int) == 0) = false := rfl
    have n28 : ((2 : Int) == 8) = false := rfl
    have n23 : ((2 : Int) == 3) = false := rfl
    have n70 : ((7 : Int) == 0) = false := rfl
    have n78 : ((7 : Int) == 8) = false := rfl
    have n73 : ((7 : Int) == 3) = false := rfl
    have n80 : ((8 : Int) == 0) = false := rfl
    have n83 : ((8 : Int) == 3) = false := rfl
    have n30 : ((3 : Int) == 0) = false := rfl
    have n38 : ((3 : Int) == 8) = false := rfl
    rcases putCode_cases b n hn.1 l x.ev with hc | hc | hc | ⟨hc, hc1, hc2⟩ | ⟨hc, hc1⟩
    · rw [hc, if_pos rfl] at hS1 hI'
      have hfill : fillA 7 [.v (.int .i64 0), .v (.int .i64 0), .v (.string ⟨#[]⟩), .v (.int .i64 0), .v (.int .i64 0), .lst .full 0 0 [], .lst .full 0 0 []] [(0, encEv x.ev)] = some (evCells x.ev) := rfl
      have hL : ((l ++ [(x.ev, evSize x.ev)]).map (·.1)) = l.map (·.1) ++ [x.ev] := by simp
      cases hW with
      | nil e0 hl0 =>
        have hl : l = [] := List.map_eq_nil_iff.1 hl0
        subst hl
        simp only [G0, Nat.reduceLT, Nat.reduceEqDiff, Nat.reduceAdd, Nat.reduceLeDiff, Nat.reduceMul, t0, t1, t2, t7, t8, t10, t11, t12, h7, hc, beq_self_eq_true, hfill]
        refine aL ?_
        rw [ap_full (m := 1) (n := 0) (by decide) ⟨.inl rfl, by omega, by omega, by decide, rfl, rfl⟩]
        simp only [G0, Nat.reduceLT, Nat.reduceEqDiff, Nat.reduceAdd, Nat.reduceLeDiff, Nat.reduceMul, t0, t1, t2, t7, t8, t10, t11, t12, h7, hc, n08, n03, Bool.not_false, Bool.not_true, cnd_t, cnd_f]
        have hS2 : Spl (seg (seg M0 k [ghost]) k' [.row .rw 0 (evCells x.ev)]) M1 a b n most' ks' [(x.ev, evSize x.ev)] := hS1
        have hS3 := hS2.re.app [.grow 1 7]
        have hf0 : fresh M0 k' := fresh_unseg hfb
        have hV : (List.flatMap evCells [x.ev]) = evCells x.ev := by simp
        refine ⟨_, _, _, .id k' 1, _, most', ks', [(x.ev, evSize x.ev)], rfl, ⟨t0, t1, t2, t7, t8, rfl, t11⟩, ?_, hI', hS3.base fun y j o e => ?_⟩
        · have := Wnt.at_ (M0 := M0) (k := k) (L := [x.ev]) (i := 1) hk hf0
          rw [hV] at this
          exact this
        · by_cases hy : y = k
          · subst hy
            rw [seg_same] at e
            rw [seg_ne _ _ _ (Ne.symm hk), seg_same]; exact e
          · rw [seg_ne _ _ _ hy] at e
            by_cases hy2 : y = k' ∧ j = 1
            · obtain ⟨rfl, rfl⟩ := hy2
              have e' : putM M0 y 1 (.grow 1 7) y 1 = some o := e
              rw [putM_same] at e'
              rw [seg_same]; exact e'
            · have e' : putM M0 k' 1 (.grow 1 7) y j = some o := e
              rw [put_ne hy2] at e'
              have hyk : y ≠ k' := fun h => by subst h; rw [hf0 j] at e'; cases e'
              rw [seg_ne _ _ _ hyk, seg_ne _ _ _ hy]; exact e'
      | @at_ a1 i1 hka h0 =>
        have hal : a1 ≠ k' := fun e => by
          subst e
          have := hS.sub a1 i1 (.grow l.length 7) (by rw [seg_ne _ _ _ hka]; exact putM_same _ _ _ _)
          rw [hf i1] at this; cases this
        have hM1 : M1 a1 i1 = some (.grow (l.map (·.1)).length 7) := by
          rw [List.length_map]
          exact hS1.sub _ _ _ (by rw [seg_ne _ _ _ hal, seg_ne _ _ _ hka]; exact putM_same _ _ _ _)
        have hl6 : (l.map (·.1)).length ≤ 10000 := by rw [List.length_map]; omega
        simp only [G0, Nat.reduceLT, Nat.reduceEqDiff, Nat.reduceAdd, Nat.reduceLeDiff, Nat.reduceMul, t0, t1, t2, t7, t8, t10, t11, t12, h7, hc, beq_self_eq_true, hfill]
        refine aL ?_
        rw [ap_out (m := 1) (n := (l.map (·.1)).length) (by decide) hal hM1 ⟨.inr rfl, by omega, by omega, by decide, rfl, rfl⟩ rfl]
        simp only [G0, Nat.reduceLT, Nat.reduceEqDiff, Nat.reduceAdd, Nat.reduceLeDiff, Nat.reduceMul, t0, t1, t2, t7, t8, t10, t11, t12, h7, hc, n08, n03, Bool.not_false, Bool.not_true, cnd_t, cnd_f]
        have hlen : (l ++ [(x.ev, evSize x.ev)]).length = (l.map (·.1)).length + 1 := by simp
        have hS2 : Spl (seg (seg (putM M0 a1 i1 (.grow l.length 7)) k [ghost]) k' [.row .rw 0 (evCells x.ev)]) M1 a b n most' ks' (l ++ [(x.ev, evSize x.ev)]) := hS1
        rw [← put_seg_ne hka, ← put_seg_ne hal] at hS2
        have hS3 := hS2.retok (o' := .grow ((l.map (·.1)).length + 1) 7)
        rw [put_seg_ne hal, put_seg_ne hka] at hS3
        have hfb' : fresh (seg (putM M0 a1 i1 (.grow ((l.map (·.1)).length + 1) 7)) k [ghost]) k' := fun j => by
          have h1 := hfb j
          rw [seg_ne _ _ _ hk] at h1 ⊢
          have h1' : putM M0 a1 i1 (.grow l.length 7) k' j = none := h1
          rw [put_ne (fun y => hal y.1.symm)] at h1' ⊢
          exact h1'
        refine ⟨_, _, _, .id a1 i1, _, most', ks', _, rfl, ⟨t0, t1, t2, t7, t8, rfl, t11⟩, ?_, hI', ?_⟩
        · have := Wnt.at_ (M0 := M0) (k := k) (L := l.map (·.1) ++ [x.ev]) (i := i1) hka h0
          rw [hL]
          have hfm : (l.map (·.1) ++ [x.ev]).flatMap evCells = (l.map (·.1)).flatMap evCells ++ evCells x.ev := by simp
          have hle : (l.map (·.1) ++ [x.ev]).length = (l.map (·.1)).length + 1 := by simp
          rw [hfm, hle] at this
          exact this
        · rw [hlen]
          exact hS3.re.base (Pm.Sub.seg hfb')
    · rw [hc, if_neg (by decide)] at hS1 hI'
      simp only [G0, Nat.reduceLT, Nat.reduceEqDiff, Nat.reduceAdd, Nat.reduceLeDiff, Nat.reduceMul, t0, t1, t2, t7, t8, t10, t11, t12, h7, hc, n20, n28, n23, Bool.not_false, Bool.not_true, cnd_t, cnd_f]
      exact ⟨_, _, _, t, w, most', ks', l, rfl, ⟨t0, t1, t2, t7, t8, t10, t11⟩, hW, hI', hS1.re.base (Pm.Sub.seg hfb)⟩
    · rw [hc, if_neg (by decide)] at hS1 hI'
      simp only [G0, Nat.reduceLT, Nat.reduceEqDiff, Nat.reduceAdd, Nat.reduceLeDiff, Nat.reduceMul, t0, t1, t2, t7, t8, t10, t11, t12, h7, hc, n70, n78, n73, Bool.not_false, Bool.not_true, cnd_t, cnd_f]
      exact ⟨_, _, _, t, w, most', ks', l, rfl, ⟨t0, t1, t2, t7, t8, t10, t11⟩, hW, hI', hS1.re.base (Pm.Sub.seg hfb)⟩
    · rw [hc, if_neg (by decide)] at hS1 hI'
      obtain ⟨e0, hwe⟩ := hW.eq
      have hl0 : ¬ (((l.map (·.1)).length : Int) = 0) := by
        rw [List.length_map]
        intro h
        exact hc2 (List.length_eq_zero_iff.1 (by omega))
      have hgt : ¬ (((evSize x.ev : Nat) : Int) > b) := by omega
      have hl1 : ((((l.map (·.1)).length : Nat) : Int) == 0) = false := by simpa using hl0
      simp only [G0, Nat.reduceLT, Nat.reduceEqDiff, Nat.reduceAdd, Nat.reduceLeDiff, Nat.reduceMul, t0, t1, t2, t7, t8, t10, t11, t12, h7, hc, n80, n83, beq_self_eq_true, Bool.not_false, Bool.not_true, cnd_t, cnd_f]
      refine cp0 (event_size x.ev hp) (by decide) ?_
      simp only [G0, Nat.reduceLT, Nat.reduceEqDiff, Nat.reduceAdd, Nat.reduceLeDiff, Nat.reduceMul, t0, t1, t2, t7, t8, t10, t11, t12, h7, hc, n80, n83, beq_self_eq_true, hgt, decide_false, hwe, hl1, Bool.not_false, Bool.not_true, cnd_t, cnd_f]
      rw [← hwe]
      exact ⟨_, _, _, t, w, most', ks', l, rfl, ⟨t0, t1, t2, t7, t8, t10, t11⟩, hW, hI', hS1.re.base (Pm.Sub.seg hfb)⟩
    · rw [hc, if_neg (by decide)] at hS1 hI'
      simp only [G0, Nat.reduceLT, Nat.reduceEqDiff, Nat.reduceAdd, Nat.reduceLeDiff, Nat.reduceMul, t0, t1, t2, t7, t8, t10, t11, t12, h7, hc, n30, n38, beq_self_eq_true, Bool.not_false, Bool.not_true, cnd_t, cnd_f]
      refine cp0 (event_size x.ev hp) (by decide) ?_
      by_cases hle : ((evSize x.ev : Nat) : Int) ≤ b
      · have hn0 : ¬ (n > 0) := by have := hc1 hle; omega
        simp only [G0, Nat.reduceLT, Nat.reduceEqDiff, Nat.reduceAdd, Nat.reduceLeDiff, Nat.reduceMul, t0, t1, t2, t7, t8, t10, t11, t12, h7, hc, n30, n38, beq_self_eq_true, hle, decide_true, hn0, decide_false, Bool.not_false, Bool.not_true, cnd_t, cnd_f]
        exact ⟨_, _, _, t, w, most', ks', l, rfl, ⟨t0, t1, t2, t7, t8, t10, t11⟩, hW, hI', hS1.re.base (Pm.Sub.seg hfb)⟩
      · simp only [G0, Nat.reduceLT, Nat.reduceEqDiff, Nat.reduceAdd, Nat.reduceLeDiff, Nat.reduceMul, t0, t1, t2, t7, t8, t10, t11, t12, h7, hc, n30, n38, beq_self_eq_true, hle, decide_false, Bool.not_false, Bool.not_true, cnd_t, cnd_f]
        exact ⟨_, _, _, t, w, most', ks', l, rfl, ⟨t0, t1, t2, t7, t8, t10, t11⟩, hW, hI', hS1.re.base (Pm.Sub.seg hfb)⟩
end Go.Proofs.YtmgmbdnhodicjaaGreatDoor
end
