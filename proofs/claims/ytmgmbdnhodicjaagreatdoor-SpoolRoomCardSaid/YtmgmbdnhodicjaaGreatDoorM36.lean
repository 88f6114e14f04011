/- SpoolRoom: what waits never takes more than the quotas. Part 36 of 46; no condition. -/
import Derived.Test.YtmgmbdnhodicjaaGreatDoorM35
set_option linter.unusedVariables false
set_option linter.unusedSimpArgs false
section
namespace Go.Proofs.YtmgmbdnhodicjaaGreatDoor
open Go Go.Am Go.Pm
set_option maxHeartbeats 1000000
set_option maxRecDepth 100000
def hasDot (d1 d2 : Int) (l : List (Ev × Nat)) : Bool := l.any fun x => isDot d1 d2 x.1
theorem find_hit {M0 M : PMem} {d1 d2 : Int} {p : PV} {ks : List (Nat × Nat)} {l : List (Ev × Nat)} (h : chain M0 M p ks l) : hasDot d1 d2 l = true → ∀ {slot : PV} {c j f es : Nat} {cells : List PV}, slot = .ptr c j f → M c j = some (.row .rw es cells) → cells[f]? = some p →
    ∃ c' j' f' es' cells' k i, findP d1 d2 slot ks l = .ptr c' j' f' ∧ M c' j' = some (.row .rw es' cells') ∧ cells'[f']? = some (.ptr k i 0) := by
  induction h with
  | nil => intro h; simp [hasDot] at h
  | cons h h0 hn r ih =>
    rename_i k i e s q ks l
    intro hd slot c j f es cells h1 h2 h3
    by_cases hx : isDot d1 d2 e = true
    · refine ⟨c, j, f, es, cells, k, i, ?_, h2, h3⟩
      simp only [findP, if_pos hx, h1]
    · have hd' : hasDot d1 d2 l = true := by simpa [hasDot, hx] using hd
      obtain ⟨c', j', f', es', cells', k', i', g1, g2, g3⟩ := ih hd' (slot := .ptr k i 8) rfl h rfl
      refine ⟨c', j', f', es', cells', k', i', ?_, g2, g3⟩
      simp only [findP, if_neg hx]; exact g1
theorem chain_app {M0 M : PMem} {d1 d2 : Int} {p : PV} {ks : List (Nat × Nat)} {l : List (Ev × Nat)} (h : chain M0 M p ks l) : ks ≠ [] → hasDot d1 d2 l = false → ∃ kl il el sl, (kl, il) ∈ ks ∧ M kl il = some (.row .rw 0 (lkCells el sl nilP)) ∧ (∀ slot, findP d1 d2 slot ks l = .ptr kl il 8) ∧
    ∀ (M'' : PMem) (kn jn : Nat) (e' : Ev) (s' : Nat), (∀ k i, (k, i) ∈ ks → ¬ (k = kl ∧ i = il) → M'' k i = M k i) → M'' kl il = some (.row .rw 0 (lkCells el sl (.ptr kn jn 0))) → M'' kn jn = some (.row .rw 0 (lkCells e' s' nilP)) → fresh M0 kn → (kn, jn) ∉ ks → chain M0 M'' p (ks ++ [(kn, jn)]) (l ++ [(e', s')]) := by
  induction h with
  | nil => intro h; exact absurd rfl h
  | cons h h0 hn r ih =>
    rename_i k i e s q ks l
    intro _ hd
    have hx : ¬ isDot d1 d2 e = true := fun x => by
      have h9 : hasDot d1 d2 ((e, s) :: l) = (isDot d1 d2 e || hasDot d1 d2 l) := rfl
      rw [h9, x] at hd; cases hd
    have hd' : hasDot d1 d2 l = false := by
      have h9 : hasDot d1 d2 ((e, s) :: l) = (isDot d1 d2 e || hasDot d1 d2 l) := rfl
      rw [h9, Bool.or_eq_false_iff] at hd
      exact hd.2
    cases r with
    | nil =>
      refine ⟨k, i, e, s, List.mem_cons_self, h, fun slot => ?_, fun M'' kn jn e' s' h1 h2 h3 h4 h5 => ?_⟩
      · show (if isDot d1 d2 e then slot else _) = _
        rw [if_neg hx]; rfl
      · exact .cons h2 h0 (fun x => h5 (by have := List.mem_singleton.1 x; rw [← this]; exact List.mem_cons_self)) (.cons h3 h4 (by simp) .nil)
    | @cons k2 i2 e2 s2 q2 ks2 l2 g g0 gn r =>
      obtain ⟨kl, il, el, sl, m1, m2, m3, m4⟩ := ih (by simp) hd'
      have hne : ¬ (k = kl ∧ i = il) := fun x => hn (by rw [x.1, x.2]; exact m1)
      refine ⟨kl, il, el, sl, List.mem_cons_of_mem _ m1, m2, fun slot => ?_, fun M'' kn jn e' s' h1 h2 h3 h4 h5 => ?_⟩
      · have : findP d1 d2 slot ((k, i) :: (k2, i2) :: ks2) ((e, s) :: (e2, s2) :: l2) = findP d1 d2 (.ptr k i 8) ((k2, i2) :: ks2) ((e2, s2) :: l2) := by
          show (if isDot d1 d2 e then slot else _) = _
          rw [if_neg hx]
        rw [this]; exact m3 _
      · have hr := m4 M'' kn jn e' s' (fun k i hx => h1 k i (List.mem_cons_of_mem _ hx)) h2 h3 h4 (fun x => h5 (List.mem_cons_of_mem _ x))
        refine .cons (by rw [h1 k i List.mem_cons_self hne]; exact h) h0 (fun x => ?_) hr
        rcases List.mem_append.1 x with x | x
        · exact hn x
        · rw [List.mem_singleton] at x
          exact h5 (by rw [← x]; exact List.mem_cons_self)
theorem tail_spool {M0 M : PMem} {a : Nat} {d1 d2 b n u m mo : Int} {p : PV} {ks : List (Nat × Nat)} {l : List (Ev × Nat)} (ha : fresh M0 a) (hM : M a 0 = some (.row .rw 0 (spCells b n p u m mo))) (hch : chain M0 M p ks l) (hd : hasDot d1 d2 l = false) (kn jn : Nat) :
    ∃ c j f cells p', findP d1 d2 (.ptr a 0 3) ks l = .ptr c j f ∧ M c j = some (.row .rw 0 cells) ∧ f < cells.length ∧ cells[f]? = some nilP ∧ fresh M0 c ∧ putM M c j (.row .rw 0 (cells.set f (.ptr kn jn 0))) a 0 = some (.row .rw 0 (spCells b n p' u m mo)) ∧
      ∀ (M'' : PMem) (e' : Ev) (s' : Nat), (∀ k i, (k, i) ∈ ks → M'' k i = putM M c j (.row .rw 0 (cells.set f (.ptr kn jn 0))) k i) → M'' kn jn = some (.row .rw 0 (lkCells e' s' nilP)) → fresh M0 kn → (kn, jn) ∉ ks → chain M0 M'' p' (ks ++ [(kn, jn)]) (l ++ [(e', s')]) := by
  have hnot := hch.notSp hM rfl
  by_cases hks : ks = []
  · subst hks
    cases hch
    refine ⟨a, 0, 3, _, .ptr kn jn 0, rfl, hM, (by show 3 < 7; decide), rfl, ha, putM_same _ _ _ _, fun M'' e' s' h1 h2 h3 h4 => ?_⟩
    exact .cons h2 h3 (by simp) .nil
  · obtain ⟨kl, il, el, sl, m1, m2, m3, m4⟩ := chain_app hch hks hd
    have h0 : fresh M0 kl := by
      clear m2 m3 m4 hnot hM hd
      induction hch with
      | nil => cases m1
      | cons h h0 hn r ih =>
        rename_i k i e s q ks l
        rcases List.mem_cons.1 m1 with x | x
        · cases x; exact h0
        · exact ih (fun e => by subst e; cases x) x
    refine ⟨kl, il, 8, _, p, m3 _, m2, (by show 8 < 9; decide), rfl, h0, ?_, fun M'' e' s' h1 h2 h3 h4 => ?_⟩
    · rw [put_ne]
      · exact hM
      · rintro ⟨rfl, rfl⟩; exact hnot m1
    · refine m4 M'' kn jn e' s' (fun k i hx hne => ?_) ?_ h2 h3 h4
      · rw [h1 k i hx, put_ne hne]
      · rw [h1 kl il m1, putM_same]; rfl
theorem splice_one {cs : List PV} {f : Nat} {x : PV} (h : f < cs.length) : psplice cs f [x] = cs.set f x := by
  rw [List.set_eq_take_append_cons_drop, if_pos h]; rfl
theorem chain.at {M0 M : PMem} {p : PV} {ks : List (Nat × Nat)} {l : List (Ev × Nat)} (h : chain M0 M p ks l) : ∀ k i, (k, i) ∈ ks → ∃ o, M k i = some o := by
  induction h with
  | nil => intro k i hx; cases hx
  | cons h h0 hn r ih =>
    intro k i hx
    rcases List.mem_cons.1 hx with x | x
    · cases x; exact ⟨_, h⟩
    · exact ih k i x
def putCode (bytes entries : Int) (l : List (Ev × Nat)) (e : Ev) : Int :=
  if !evOk e then 2 else if decide ((evSize e : Int) > bytes) || entries == 0 then 3 else if hasDot e.node e.seq l then 7
  else if decide ((szs l : Int) + (evSize e : Int) > bytes) || decide ((l.length : Int) + 1 > entries) then 8 else 0
theorem ev_fit {e : Ev} (h : evOk e = true) : evFit e := by
  obtain ⟨_, g2, g3⟩ := ev_parts h
  obtain ⟨_, _, _, _, hb⟩ := eff_nn g2
  simp only [pastOk, Bool.and_eq_true, decide_eq_true_eq] at g3
  exact ⟨by omega, by omega⟩
theorem ev_size {e : Ev} (hl : e.path.length ≤ 1000) : evSize e ≤ 50000 := by
  unfold evSize
  split
  · rename_i h; exact evBytes_len h hl
  · omega
theorem put_spoolM {M0 M : PMem} {a : Nat} {bytes entries most : Int} {ks : List (Nat × Nat)} {l : List (Ev × Nat)} (hS : Spl M0 M a bytes entries most ks l) (hb : 0 ≤ bytes ∧ bytes ≤ 10000000) (hn : 0 ≤ entries ∧ entries ≤ 10000) (hs : (szs l : Int) ≤ bytes) (hl : (l.length : Int) ≤ entries) (e : Ev) (hp : e.path.length ≤ 1000) :
    PT env Tryz.prog 17 [.ptr a 0 0, encEv e] M (fun x M1 => x = iv (putCode bytes entries l e) ∧ ∃ most' ks', ((most' = most ∧ (putCode bytes entries l e = 0 → (szs (l ++ [(e, evSize e)]) : Nat) ≤ most)) ∨ (putCode bytes entries l e = 0 ∧ most < most' ∧ most' = (szs (l ++ [(e, evSize e)]) : Nat))) ∧ Spl M0 M1 a bytes entries most' ks' (if putCode bytes entries l e = 0 then l ++ [(e, evSize e)] else l)) := by
  refine PT.enterR env_ok fn17 (by simp) comp17 fun k hk hf => RX.of env_ok ?_
  have hfind := find_at hS e.node e.seq
  obtain ⟨p, hM, hch⟩ := hS.row
  have hnot := hch.notSp hM rfl
  have hsz := ev_size hp
  have hak : a ≠ k := fun e => by subst e; rw [hf 0] at hM; cases hM
  have hld : ∀ {ag : Bool} {n o : Nat} {os : List Pm.Obj} {M : PMem}, loadP k os M ag n (.ptr a 0 o) = rowTake ag n o (M a 0) := loadP_out hak
  simp only [G0, Nat.reduceLT, Nat.reduceEqDiff, Nat.reduceAdd, Nat.reduceLeDiff, Nat.reduceMul, argsP, encEv, evCells]
  refine cs0 (made_s hS) (Pm.Sub.seg hf) (by decide) ?_
  simp only [G0, Nat.reduceLT, Nat.reduceEqDiff, Nat.reduceAdd, Nat.reduceLeDiff, Nat.reduceMul]
  refine cp0 (event_size e hp) (by decide) ?_
  simp only [G0, Nat.reduceLT, Nat.reduceEqDiff, Nat.reduceAdd, Nat.reduceLeDiff, Nat.reduceMul]
  refine cs0 hfind (Pm.Sub.seg hf) (by decide) ?_
  simp only [G0, Nat.reduceLT, Nat.reduceEqDiff, Nat.reduceAdd, Nat.reduceLeDiff, Nat.reduceMul]
  refine cs0 (used_at hS) (Pm.Sub.seg hf) (by decide) ?_
  simp only [G0, Nat.reduceLT, Nat.reduceEqDiff, Nat.reduceAdd, Nat.reduceLeDiff, Nat.reduceMul]
  refine cp0 (event_check e (by omega)) (by decide) ?_
  have no : ∀ {c : Int} {tm : List (Nat × PV)} {os : List Pm.Obj}, putCode bytes entries l e = c → c ≠ 0 → tget tm 4 = iv c → ends env ⟨83, [.tmp 4], body17⟩ (fun x M1 => x = iv (putCode bytes entries l e) ∧ ∃ most' ks', ((most' = most ∧ (putCode bytes entries l e = 0 → (szs (l ++ [(e, evSize e)]) : Nat) ≤ most)) ∨ (putCode bytes entries l e = 0 ∧ most < most' ∧ most' = (szs (l ++ [(e, evSize e)]) : Nat))) ∧ Spl M0 M1 a bytes entries most' ks' (if putCode bytes entries l e = 0 then l ++ [(e, evSize e)] else l)) .ret ⟨tm, 83, k, os, M⟩ := fun hc h0 ht => by
    rw [hc]
    exact end1 hf ht ⟨rfl, most, ks, .inl ⟨rfl, fun h => absurd h h0⟩, by rw [if_neg h0]; exact hS⟩
  cases hok : evOk e with
  | false =>
    have hc : putCode bytes entries l e = 2 := by simp [putCode, hok]
    have he : errIf false = 2 := rfl
    have hne : ((2 : Int) != 0) = true := rfl
    simp only [G0, Nat.reduceLT, Nat.reduceEqDiff, Nat.reduceAdd, Nat.reduceLeDiff, Nat.reduceMul, he, hne]
    exact no hc (by decide) rfl
  | true =>
    have he : errIf true = 0 := rfl
    simp only [G0, Nat.reduceLT, Nat.reduceEqDiff, Nat.reduceAdd, Nat.reduceLeDiff, Nat.reduceMul, he, bne_self_eq_false, hld, hM, spCells]
    refine cW_s (fun h1 => ?_) (fun h1 => ?_)
    · simp only [G0, Nat.reduceLT, Nat.reduceEqDiff, Nat.reduceAdd, Nat.reduceLeDiff, Nat.reduceMul]
      exact no (by unfold putCode; rw [hok, h1]; rfl) (by decide) rfl
    · simp only [G0, Nat.reduceLT, Nat.reduceEqDiff, Nat.reduceAdd, Nat.reduceLeDiff, Nat.reduceMul]
      cases hd : hasDot e.node e.seq l with
      | true =>
        obtain ⟨c, j, f, es, cells, k1, i1, g1, g2, g3⟩ := find_hit hch hd (slot := .ptr a 0 3) rfl hM rfl
        have hck : c ≠ k := fun e => by subst e; rw [hf j] at g2; cases g2
        have hldc : ∀ {ag : Bool} {n o : Nat} {os : List Pm.Obj}, loadP k os M ag n (.ptr c j o) = rowTake ag n o (M c j) := loadP_out hck
        rw [g1]
        simp only [G0, Nat.reduceLT, Nat.reduceEqDiff, Nat.reduceAdd, Nat.reduceLeDiff, Nat.reduceMul, hldc, g2, g3, ptr_neq, pt53]
        exact no (by unfold putCode; rw [hok, h1, hd]; rfl) (by decide) rfl
      | false =>
        have hk0 : fresh M0 k := fresh_of_sub hS.sub hf
        obtain ⟨c, j, f, cells, p', g1, g2, g3, g4, g5, g6, g7⟩ := tail_spool hS.new hM hch hd k 1
        have hck : c ≠ k := fun e => by subst e; rw [hf j] at g2; cases g2
        have hldc : ∀ {ag : Bool} {n o : Nat} {os : List Pm.Obj}, loadP k os M ag n (.ptr c j o) = rowTake ag n o (M c j) := loadP_out hck
        rw [g1]
        have w1 : IntKind.i64.wrap ((szs l : Nat) + (evSize e : Nat)) = (szs l : Int) + (evSize e : Int) := wrap64_id (by omega) (by omega)
        have w2 : IntKind.i64.wrap ((l.length : Nat) + 1) = (l.length : Int) + 1 := wrap64_id (by omega) (by omega)
        simp only [G0, Nat.reduceLT, Nat.reduceEqDiff, Nat.reduceAdd, Nat.reduceLeDiff, Nat.reduceMul, hldc, g2, g4, nil_neq, pt53, hld, hM, spCells, w1, w2]
        refine cW_s (fun h2 => ?_) (fun h2 => ?_)
        · simp only [G0, Nat.reduceLT, Nat.reduceEqDiff, Nat.reduceAdd, Nat.reduceLeDiff, Nat.reduceMul]
          exact no (by unfold putCode; rw [hok, h1, hd, h2]; rfl) (by decide) rfl
        · have hc : putCode bytes entries l e = 0 := by unfold putCode; rw [hok, h1, hd, h2]; rfl
          have hft := ev_fit hok
          simp only [G0, Nat.reduceLT, Nat.reduceEqDiff, Nat.reduceAdd, Nat.reduceLeDiff, Nat.reduceMul]
          refine cp0 (spool_own e hft.1 hft.2) (by decide) ?_
          have hst : ∀ {tm : List (Nat × PV)} {os : List Pm.Obj}, storeP tm 83 k os M 1 (.ptr k 1 0) (.ptr c j f) = some (.junk, ⟨tm, 83, k, os, putM M c j (.row .rw 0 (cells.set f (.ptr k 1 0)))⟩) := fun {tm os} => by
            have hle : f + (pcells (.ptr k 1 0)).length ≤ cells.length := by show f + 1 ≤ cells.length; omega
            rw [storeP_out hck, g2, show storeO 1 f (.ptr k 1 0) (some (.row .rw 0 cells)) = some (.row .rw 0 (psplice cells f [.ptr k 1 0])) from storeO_eq (n := 1) ⟨rfl, hle, rfl⟩, stO_eq, splice_one g3]
          simp only [G0, Nat.reduceLT, Nat.reduceEqDiff, Nat.reduceAdd, Nat.reduceLeDiff, Nat.reduceMul, encEv, evCells, hst]
          generalize hM1 : putM M c j (.row .rw 0 (cells.set f (.ptr k 1 0))) = M1 at g6 g7
          refine cadd g6 rfl hak (by decide) ?_
          simp only [G0, Nat.reduceLT, Nat.reduceEqDiff, Nat.reduceAdd, Nat.reduceLeDiff, Nat.reduceMul]
          refine cadd (putM_same _ _ _ _) rfl hak (by decide) ?_
          rw [putM_put]
          have hsz2 : szs (l ++ [(e, evSize e)]) = szs l + evSize e := by simp [szs]
          have hln2 : (l ++ [(e, evSize e)]).length = l.length + 1 := by simp
          have w3 : IntKind.i64.wrap ((szs l : Nat) + (evSize e : Nat)) = (szs (l ++ [(e, evSize e)]) : Nat) := by rw [w1, hsz2]; rfl
          have w4 : IntKind.i64.wrap ((l.length : Nat) + 1) = ((l ++ [(e, evSize e)]).length : Nat) := by rw [w2, hln2]; rfl
          have hrow2 : (((spCells bytes entries p' (szs l : Nat) (l.length : Nat) most).set 5 (iv (IntKind.i64.wrap ((l.length : Nat) + 1)))).set 4 (iv (IntKind.i64.wrap ((szs l : Nat) + (evSize e : Nat))))) = spCells bytes entries p' (szs (l ++ [(e, evSize e)]) : Nat) ((l ++ [(e, evSize e)]).length : Nat) most := by
            rw [w3, w4]; rfl
          rw [hrow2]
          have hf1 : fresh M1 k := by rw [← hM1]; exact fresh_put hf hck
          have hnk : (k, 1) ∉ ks := fun x => by
            obtain ⟨o, ho⟩ := hch.at _ _ x
            rw [hf 1] at ho; cases ho
          have fin : ∀ (mo : Int) (o1 : Pm.Obj), Spl M0 (seg (putM M1 a 0 (.row .rw 0 (spCells bytes entries p' (szs (l ++ [(e, evSize e)]) : Nat) ((l ++ [(e, evSize e)]).length : Nat) mo))) k [o1, .row .rw 0 (lkCells e (evSize e) nilP)]) a bytes entries mo (ks ++ [(k, 1)]) (l ++ [(e, evSize e)]) := fun mo o1 => by
            refine ⟨?_, hS.new, p', by rw [seg_ne _ _ _ hak, putM_same], ?_⟩
            · refine (sub_put ?_ hS.new).sseg (fresh_put hf1 hak)
              rw [← hM1]; exact sub_put hS.sub g5
            · refine g7 _ e (evSize e) (fun k2 i2 hx => ?_) (by rw [seg_same]; rfl) hk0 hnk
              have h2k : k2 ≠ k := fun e' => by
                subst e'
                obtain ⟨o, ho⟩ := hch.at _ _ hx
                rw [hf i2] at ho; cases ho
              rw [seg_ne _ _ _ h2k, put_ne (fun x => hnot (by rw [← x.1, ← x.2]; exact hx))]
          simp only [G0, Nat.reduceLT, Nat.reduceEqDiff, Nat.reduceAdd, Nat.reduceLeDiff, Nat.reduceMul]
          refine cm (first := []) (cap := []) ((raise34 (show seg (putM M1 a 0 (.row .rw 0 (spCells bytes entries p' (szs (l ++ [(e, evSize e)]) : Nat) ((l ++ [(e, evSize e)]).length : Nat) most))) k _ a 0 = some (.row .rw 0 (spCells bytes entries p' (szs (l ++ [(e, evSize e)]) : Nat) ((l ++ [(e, evSize e)]).length : Nat) most)) by rw [seg_ne _ _ _ hak, putM_same]) rfl).mono ?_)
          rintro x M2 (⟨hle, rfl⟩ | ⟨hlt, rfl⟩)
          · refine ⟨_, _, rfl, MLe.refl _, by decide, ?_⟩
            simp only [G0, Nat.reduceLT, Nat.reduceEqDiff, Nat.reduceAdd, Nat.reduceLeDiff, Nat.reduceMul]
            refine endM rfl ⟨by rw [hc]; rfl, most, ks ++ [(k, 1)], .inl ⟨rfl, fun _ => by rw [w3] at hle; exact hle⟩, ?_⟩
            rw [hc, if_pos rfl]
            exact fin most _
          · refine ⟨_, _, rfl, MLe.of_eq (put_seg_out hak), by decide, ?_⟩
            rw [putM_put]
            simp only [G0, Nat.reduceLT, Nat.reduceEqDiff, Nat.reduceAdd, Nat.reduceLeDiff, Nat.reduceMul]
            refine endM rfl ⟨by rw [hc]; rfl, IntKind.i64.wrap ((szs l : Nat) + (evSize e : Nat)), ks ++ [(k, 1)], .inr ⟨hc, hlt, w3⟩, ?_⟩
            rw [hc, if_pos rfl]
            exact fin (IntKind.i64.wrap ((szs l : Nat) + (evSize e : Nat))) _
end Go.Proofs.YtmgmbdnhodicjaaGreatDoor
end
