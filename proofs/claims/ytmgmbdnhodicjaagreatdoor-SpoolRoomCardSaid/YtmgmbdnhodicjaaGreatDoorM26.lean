/- SpoolRoom: what waits never takes more than the quotas. Part 26 of 46; no condition. -/
import Derived.Test.YtmgmbdnhodicjaaGreatDoorM25
set_option linter.unusedVariables false
set_option linter.unusedSimpArgs false
section
namespace Go.Proofs.YtmgmbdnhodicjaaGreatDoor
open Go Go.Am Go.Pm
set_option maxHeartbeats 1000000
set_option maxRecDepth 100000
theorem pt110 : ∃ y e, env.ty 112 = some y ∧ y.desc = .pointer e := by
  have h : (match env.ty 112 with | some y => (match y.desc with | .pointer _ => true | _ => false) | none => false) = true := by kernel_rfl
  cases hy : env.ty 112 with
  | none => rw [hy] at h; cases h
  | some y =>
    rw [hy] at h
    dsimp only at h
    split at h
    · rename_i e he; exact ⟨y, e, rfl, he⟩
    · cases h
def encLists (ps : List (List UInt8)) : PV := .lst .no 1 ps.length (ps.map encBytes)
def wrRow (t : Tok) (b : List UInt8) : Pm.Obj := .row .rw 0 [bv true, .lst t 1 b.length (b.map encB), iv 0]
inductive wTok (M0 M : PMem) : Tok → Nat → Prop where
  | nil : wTok M0 M .full 0
  | at_ {k i n : Nat} (h0 : fresh M0 k) (h : M k i = some (.grow n 1)) : wTok M0 M (.id k i) n
structure Wst (M0 M : PMem) (a : Nat) (b : List UInt8) : Prop where
  sub : Pm.Sub M0 M
  new : fresh M0 a
  row : ∃ t, M a 0 = some (wrRow t b) ∧ wTok M0 M t b.length
inductive wRun (M0 M : PMem) (k : Nat) : Tok → Nat → List Pm.Obj → Prop where
  | nil : wRun M0 M k .full 0 []
  | out {j i n : Nat} (hk : j ≠ k) (h0 : fresh M0 j) (h : M j i = some (.grow n 1)) : wRun M0 M k (.id j i) n []
  | own (n : Nat) : wRun M0 M k (.id k 0) n [.grow n 1]
structure Wrun (M0 M : PMem) (k a : Nat) (b : List UInt8) (os : List Pm.Obj) : Prop where
  sub : Pm.Sub M0 M
  new : fresh M0 a
  ne : a ≠ k
  fr : fresh M k
  row : ∃ t, M a 0 = some (wrRow t b) ∧ wRun M0 M k t b.length os
theorem wTok.run {M0 M : PMem} {k n : Nat} {t : Tok} (h : wTok M0 M t n) (hf : fresh M k) : wRun M0 M k t n [] := by
  cases h with
  | nil => exact .nil
  | at_ h0 h3 => exact .out (fun e => by subst e; rw [hf _] at h3; cases h3) h0 h3
theorem wRun.st {M0 M : PMem} {k n : Nat} {t : Tok} {os : List Pm.Obj} (h : wRun M0 M k t n os) (hs : Pm.Sub M0 M) (hf : fresh M k) : wTok M0 (seg M k os) t n := by
  cases h with
  | nil => exact .nil
  | out hk h0 h3 => exact .at_ h0 (by rw [seg_ne _ _ _ hk]; exact h3)
  | own n =>
    refine .at_ (fun i => ?_) (by rw [seg_same]; rfl)
    cases e : M0 k i with
    | none => rfl
    | some o =>
      have := hs _ _ _ e
      rw [hf i] at this; cases this
theorem Wst.run {M0 M : PMem} {a k : Nat} {b : List UInt8} (h : Wst M0 M a b) (hf : fresh M k) : Wrun M0 M k a b [] := by
  obtain ⟨t, h1, h2⟩ := h.row
  exact ⟨h.sub, h.new, (fun e => by subst e; rw [hf 0] at h1; cases h1), hf, t, h1, h2.run hf⟩
theorem Wrun.st {M0 M : PMem} {a k : Nat} {b : List UInt8} {os : List Pm.Obj} (h : Wrun M0 M k a b os) : Wst M0 (seg M k os) a b := by
  obtain ⟨t, h1, h2⟩ := h.row
  exact ⟨h.sub.sseg h.fr, h.new, t, by rw [seg_ne _ _ _ h.ne]; exact h1, h2.st h.sub h.fr⟩
def sumL (ps : List (List UInt8)) : Nat := (ps.map List.length).sum
theorem lists_at {ps : List (List UInt8)} {i : Nat} {p : List UInt8} (h : ps[i]? = some p) : (ps.map encBytes)[i * 1]? = some (encBytes p) := by
  rw [Nat.mul_one, List.getElem?_map, h]; rfl
theorem sumL_drop {ps : List (List UInt8)} {i : Nat} {p : List UInt8} (h : ps.drop i = p :: ps.drop (i + 1)) : sumL (ps.drop i) = p.length + sumL (ps.drop (i + 1)) := by
  rw [h]; simp [sumL]
theorem loop86a (ps : List (List UInt8)) (hps : ps.length ≤ 1000000) (a : Nat) (n0 : Nat) (hn : n0 + sumL ps ≤ 1048576) (M : PMem) (k : Nat) (Q : AExit → PSt → Prop) (q : ∀ tm, tget tm 0 = .ptr a 0 0 → tget tm 1 = encLists ps → tget tm 4 = iv (n0 + sumL ps : Nat) → Q (.exit 0) ⟨tm, 62, k, [], M⟩) :
    ∀ d i, ps.length - i = d → i ≤ ps.length →
    RXL env Tryz.prog none c139_14 ⟨[(32, iv i), (31, iv ps.length), (30, encLists ps), (4, iv (n0 + (sumL ps - sumL (ps.drop i)) : Nat)), (1, encLists ps), (0, .ptr a 0 0)], 62, k, [], M⟩ Q := by
  intro d
  induction d with
  | zero =>
    intro i hd hi
    have : i = ps.length := by omega
    subst this
    refine RXL.round (RX.of env_ok ?_)
    simp only [G0, Nat.reduceLT, Nat.reduceEqDiff, Nat.reduceAdd, Nat.reduceLeDiff, Nat.reduceMul, Int.lt_irrefl, decide_false]
    refine q _ rfl rfl ?_
    show iv _ = iv _
    rw [List.drop_length]; rfl
  | succ d ih =>
    intro i hd hi
    have hi' : i < ps.length := by omega
    obtain ⟨p, hp, hdp⟩ := getE hi'
    have hii : (i : Int) < ps.length := by omega
    have hle : sumL (ps.drop i) = p.length + sumL (ps.drop (i + 1)) := sumL_drop hdp
    have hle2 : sumL (ps.drop i) ≤ sumL ps := by
      have := congrArg sumL (List.take_append_drop i ps)
      simp only [sumL, List.map_append, List.sum_append] at this ⊢
      omega
    have hw : IntKind.i64.wrap ((i : Int) + 1) = ((i + 1 : Nat) : Int) := by rw [wrap64_id (by omega) (by omega)]; rfl
    have hw2 : IntKind.i64.wrap (((n0 + (sumL ps - sumL (ps.drop i)) : Nat) : Int) + (p.length : Nat)) = ((n0 + (sumL ps - sumL (ps.drop (i + 1))) : Nat) : Int) := by
      rw [add_i (by omega)]; congr 1; omega
    have hl := lists_at hp
    refine RXL.round (RX.of env_ok ?_)
    simp only [G0, Nat.reduceLT, Nat.reduceEqDiff, Nat.reduceAdd, Nat.reduceLeDiff, Nat.reduceMul, encLists, hii, decide_true, hi', hl, encBytes, hw, hw2]
    refine RXL.weak (keepE ?_) (ih (i + 1) (by omega) (by omega))
    repeat (first | exact KP.nil | apply KP.cons rfl)
theorem sub_put {M0 M : PMem} {j i : Nat} {o : Pm.Obj} (h : Pm.Sub M0 M) (hf : fresh M0 j) : Pm.Sub M0 (putM M j i o) := fun a c x e => by
  unfold putM
  rw [if_neg]
  · exact h _ _ _ e
  · rintro ⟨rfl, rfl⟩; rw [hf c] at e; cases e
theorem fresh_put {M : PMem} {k j i : Nat} {o : Pm.Obj} (h : fresh M k) (hj : j ≠ k) : fresh (putM M j i o) k := fun c => by
  unfold putM
  rw [if_neg (fun x => hj x.1.symm)]; exact h c
theorem put_ne {M : PMem} {j i a c : Nat} {o : Pm.Obj} (h : ¬ (a = j ∧ c = i)) : putM M j i o a c = M a c := by
  unfold putM; rw [if_neg h]
theorem app_run {M0 M : PMem} {k a nt : Nat} {B p : List UInt8} {os : List Pm.Obj} {tm : List (Nat × PV)} {t : Tok} (hr : Wrun M0 M k a B os) (hrow : M a 0 = some (wrRow t B)) (htok : wRun M0 M k t B.length os) (hl : B.length + p.length ≤ 1048576) :
    ∃ t' os' M', appP ⟨tm, nt, k, os, M⟩ 1 1 1 (.lst t 1 B.length (B.map encB)) (.lst .no 1 p.length (p.map encB)) = some (.lst t' 1 (B ++ p).length ((B ++ p).map encB), ⟨tm, nt, k, os', M'⟩) ∧
      M' a 0 = some (wrRow t B) ∧ Wrun M0 (putM M' a 0 (wrRow t' (B ++ p))) k a (B ++ p) os' := by
  have fin : ∀ {t' : Tok} {os' : List Pm.Obj} {M' : PMem}, Pm.Sub M0 M' → fresh M' k → M' a 0 = some (wrRow t B) → wRun M0 M' k t' (B ++ p).length os' → Wrun M0 (putM M' a 0 (wrRow t' (B ++ p))) k a (B ++ p) os' := fun {t' os' M'} h1 h2 h3 h4 => by
    refine ⟨sub_put h1 hr.new, hr.new, hr.ne, fresh_put h2 hr.ne, t', putM_same _ _ _ _, ?_⟩
    generalize (B ++ p).length = n at h4 ⊢
    cases h4 with
    | nil => exact .nil
    | out hk h0 h => exact .out hk h0 (by
        rw [put_ne]
        · exact h
        · rintro ⟨rfl, rfl⟩; rw [h3] at h; cases h)
    | own n => exact .own n
  by_cases hp : p.length = 0
  · have : p = [] := List.length_eq_zero_iff.1 hp
    subst this
    refine ⟨t, os, M, ?_, hrow, ?_⟩
    · rw [List.append_nil]; exact ap_nil
    · exact fin hr.sub hr.fr hrow (by rw [List.append_nil]; exact htok)
  · have hcond : (B.length = 0 ∨ 1 = 1) ∧ (2 * (B.length + p.length) + 2000) * 1 ≤ 281474976710656 ∧ B.length + p.length ≤ 4611686018427387904 ∧ 1 < 4096 ∧ 1 = 1 ∧ (p.map encB).all pone = true := ⟨.inr rfl, by omega, by omega, by decide, rfl, all_encB p⟩
    have hm : (B ++ p).map encB = B.map encB ++ p.map encB := List.map_append
    have hln : (B ++ p).length = B.length + p.length := List.length_append
    rw [hm, hln] at *
    generalize hB : B.length = n at *
    cases htok with
    | nil =>
      exact ⟨.id k 0, [.grow (0 + p.length) 1], M, ap_full hp hcond, hrow, fin hr.sub hr.fr hrow (by rw [List.length_append, hB]; exact .own _)⟩
    | out hk h0 h =>
      rename_i j i
      refine ⟨.id j i, [], putM M j i (.grow (n + p.length) 1), ap_out hp hk h hcond rfl, ?_, ?_⟩
      · rw [put_ne]
        · exact hrow
        · rintro ⟨rfl, rfl⟩; rw [hrow] at h; cases h
      · refine fin (sub_put hr.sub h0) (fresh_put hr.fr hk) ?_ (by rw [List.length_append, hB]; exact .out hk h0 (putM_same _ _ _ _))
        rw [put_ne]
        · exact hrow
        · rintro ⟨rfl, rfl⟩; rw [hrow] at h; cases h
    | own n =>
      exact ⟨.id k 0, [.grow (n + p.length) 1], M, ap_id hp rfl hcond rfl, hrow, fin hr.sub hr.fr hrow (by rw [List.length_append, hB]; exact .own _)⟩
theorem loop86b (ps : List (List UInt8)) (hps : ps.length ≤ 1000000) (a : Nat) (b : List UInt8) (hn : b.length + sumL ps ≤ 1048576) (M0 : PMem) (k : Nat) (Q : AExit → PSt → Prop) (q : ∀ tm os M, Wrun M0 M k a (b ++ ps.flatten) os → Q (.exit 2) ⟨tm, 62, k, os, M⟩) :
    ∀ d i M os, ps.length - i = d → i ≤ ps.length → Wrun M0 M k a (b ++ (ps.take i).flatten) os →
    RXL env Tryz.prog none c139_33 ⟨[(48, iv i), (47, iv ps.length), (46, encLists ps), (0, .ptr a 0 0)], 62, k, os, M⟩ Q := by
  intro d
  induction d with
  | zero =>
    intro i M os hd hi hr
    have : i = ps.length := by omega
    subst this
    rw [List.take_length] at hr
    refine RXL.round (RX.of env_ok ?_)
    simp only [G0, Nat.reduceLT, Nat.reduceEqDiff, Nat.reduceAdd, Nat.reduceLeDiff, Nat.reduceMul, Int.lt_irrefl, decide_false]
    exact q _ _ _ hr
  | succ d ih =>
    intro i M os hd hi hr
    have hi' : i < ps.length := by omega
    obtain ⟨p, hp, hdp⟩ := getE hi'
    have hii : (i : Int) < ps.length := by omega
    have hw : IntKind.i64.wrap ((i : Int) + 1) = ((i + 1 : Nat) : Int) := by rw [wrap64_id (by omega) (by omega)]; rfl
    have hl := lists_at hp
    obtain ⟨t, hrow, htok⟩ := hr.row
    have hld : ∀ {ag : Bool} {n o : Nat} {os : List Pm.Obj}, loadP k os M ag n (.ptr a 0 o) = rowTake ag n o (M a 0) := loadP_out hr.ne
    have hrow' := hrow
    have hB : sumL (ps.take i) + p.length ≤ sumL ps := by
      have h1 := congrArg sumL (List.take_append_drop i ps)
      have h2 := sumL_drop hdp
      simp only [sumL, List.map_append, List.sum_append] at h1 h2 ⊢
      omega
    have hflat : ∀ l : List (List UInt8), l.flatten.length = sumL l := fun l => by simp [sumL, List.length_flatten]
    have hlB : (b ++ (ps.take i).flatten).length + p.length ≤ 1048576 := by rw [List.length_append, hflat]; omega
    have hnext : b ++ (ps.take (i + 1)).flatten = (b ++ (ps.take i).flatten) ++ p := by
      rw [List.take_add_one, hp]; simp
    simp only [wrRow] at hrow
    refine RXL.round (RX.of env_ok ?_)
    simp only [G0, Nat.reduceLT, Nat.reduceEqDiff, Nat.reduceAdd, Nat.reduceLeDiff, Nat.reduceMul, encLists, hii, decide_true, hi', hl, encBytes, hw, hld, hrow]
    refine aL ?_
    obtain ⟨t', os', M', happ, hM', hrun⟩ := app_run (tm := _) (nt := 62) hr hrow' htok hlB
    rw [happ]
    have hM2 := hM'
    simp only [wrRow] at hM2
    have hst : ∀ {tm : List (Nat × PV)}, storeP tm 62 k os' M' 1 (.lst t' 1 ((b ++ (ps.take i).flatten) ++ p).length (((b ++ (ps.take i).flatten) ++ p).map encB)) (.ptr a 0 1) = some (.junk, ⟨tm, 62, k, os', putM M' a 0 (wrRow t' ((b ++ (ps.take i).flatten) ++ p))⟩) := fun {tm} => by
      rw [storeP_out hr.ne, hM']; rfl
    simp only [G0, Nat.reduceLT, Nat.reduceEqDiff, Nat.reduceAdd, Nat.reduceLeDiff, Nat.reduceMul, hst, hw]
    refine RXL.weak (keepE ?_) (ih (i + 1) _ os' (by omega) (by omega) (by rw [hnext]; exact hrun))
    repeat (first | exact KP.nil | apply KP.cons rfl)
theorem put_at (ps : List (List UInt8)) (hps : ps.length ≤ 1000000) (a : Nat) (b : List UInt8) (hn : b.length + sumL ps ≤ 1048576) (M0 M : PMem) (h : Wst M0 M a b) : PT env Tryz.prog 139 [.ptr a 0 0, encLists ps] M (fun x M1 => Wst M0 M1 a (b ++ ps.flatten)) := by
  refine PT.enterR env_ok fn139 (by simp) comp139 fun k hk hf => RX.of env_ok ?_
  have hr := h.run hf
  obtain ⟨t, hrow, htok⟩ := hr.row
  have hld : ∀ {ag : Bool} {n o : Nat} {os : List Pm.Obj}, loadP k os M ag n (.ptr a 0 o) = rowTake ag n o (M a 0) := loadP_out hr.ne
  have hrow' := hrow
  simp only [wrRow] at hrow'
  simp only [G0, Nat.reduceLT, Nat.reduceEqDiff, Nat.reduceAdd, Nat.reduceLeDiff, Nat.reduceMul, argsP, encLists, ptr_eql, pt110, hld, hrow', Bool.not_true, Bool.not_false, cnd_f, cnd_t, Bool.or_false, bne_self_eq_false]
  have hz : sumL ps - sumL (ps.drop 0) = 0 := by rw [List.drop_zero]; omega
  refine RX.loop (RXL.weak (keepE (tm' := [(32, iv (0 : Nat)), (31, iv ps.length), (30, encLists ps), (4, iv (b.length + (sumL ps - sumL (ps.drop 0)) : Nat)), (1, encLists ps), (0, .ptr a 0 0)]) ?_) (loop86a ps hps a b.length hn M k _ (fun tm h0 h1 h4 => ?_) ps.length 0 (by omega) (Nat.zero_le _)))
  · rw [hz]
    repeat (first | exact KP.nil | apply KP.cons rfl)
  · have hgt : ¬ (((b.length + sumL ps : Nat) : Int) > 1048576) := by omega
    simp only [G0, Nat.reduceLT, Nat.reduceEqDiff, Nat.reduceAdd, Nat.reduceLeDiff, Nat.reduceMul, h0, h1, h4, hgt, decide_false, encLists]
    refine RX.loop (RXL.weak (keepE (tm' := [(48, iv (0 : Nat)), (47, iv ps.length), (46, encLists ps), (0, .ptr a 0 0)]) ?_) (loop86b ps hps a b hn M0 k _ (fun tm os M1 hr1 => ?_) ps.length 0 M [] (by omega) (Nat.zero_le _) (by simpa using hr)))
    · exact KP.cons rfl (KP.cons rfl (KP.cons rfl (KP.cons h0 KP.nil)))
    · simp only [G0, Nat.reduceLT, Nat.reduceEqDiff, Nat.reduceAdd, Nat.reduceLeDiff, Nat.reduceMul]
      exact ⟨.inl rfl, [], _, rfl, MLe.refl _, hr1.st⟩
theorem fresh_of_sub {M0 M : PMem} {k : Nat} (h : Pm.Sub M0 M) (hf : fresh M k) : fresh M0 k := fun i => by
  cases e : M0 k i with
  | none => rfl
  | some o => have := h _ _ _ e; rw [hf i] at this; cases this
theorem fresh_seg {M : PMem} {j k : Nat} {os : List Pm.Obj} (h : fresh M j) (hj : j ≠ k) : fresh (seg M k os) j := fun i => by rw [seg_ne _ _ _ hj]; exact h i
theorem ne_of_fresh {M : PMem} {j k : Nat} {g : Pm.Obj} {os : List Pm.Obj} (h : fresh (seg M k (g :: os)) j) : j ≠ k := fun e => by
  subst e
  have := h 0
  rw [seg_same] at this; cases this
theorem fresh_unseg {M : PMem} {j k : Nat} {g : Pm.Obj} {os : List Pm.Obj} (h : fresh (seg M k (g :: os)) j) : fresh M j := fun i => by
  have := h i
  rwa [seg_ne _ _ _ (ne_of_fresh h)] at this
theorem sub_segs {M0 M : PMem} {k : Nat} {os : List Pm.Obj} (h : Pm.Sub M0 M) : Pm.Sub (seg M0 k os) (seg M k os) := fun a i o e => by
  by_cases ha : a = k
  · subst ha; rw [seg_same] at e ⊢; exact e
  · rw [seg_ne _ _ _ ha] at e ⊢; exact h _ _ _ e
theorem sub_re {M0 M1 : PMem} {k : Nat} {os : List Pm.Obj} (h : Pm.Sub (seg M0 k os) M1) : Pm.Sub (seg M0 k os) (seg M1 k os) := fun a i o e => by
  by_cases ha : a = k
  · subst ha; rw [seg_same] at e ⊢; exact e
  · rw [seg_ne _ _ _ ha]; exact h _ _ _ e
theorem mle_re {M0 M1 : PMem} {k : Nat} {os : List Pm.Obj} (h : Pm.Sub (seg M0 k os) M1) : MLe M1 (seg M1 k os) := fun a i o e => by
  by_cases ha : a = k
  · subst ha
    rw [seg_same] at e
    exact ⟨o, h _ _ _ (by rw [seg_same]; exact e), .refl _⟩
  · rw [seg_ne _ _ _ ha] at e
    exact ⟨o, e, .refl _⟩
theorem Wst.push {M0 M : PMem} {k a : Nat} {b : List UInt8} {os : List Pm.Obj} (h : Wst M0 M a b) (hf : fresh M k) : Wst (seg M0 k os) (seg M k os) a b := by
  obtain ⟨t, h1, h2⟩ := h.row
  have hak : a ≠ k := fun e => by subst e; rw [hf 0] at h1; cases h1
  refine ⟨sub_segs h.sub, fresh_seg h.new hak, t, by rw [seg_ne _ _ _ hak]; exact h1, ?_⟩
  generalize b.length = n at h2 ⊢
  cases h2 with
  | nil => exact .nil
  | at_ h0 h3 =>
    rename_i j i
    have hjk : j ≠ k := fun e => by subst e; rw [hf i] at h3; cases h3
    exact .at_ (fresh_seg h0 hjk) (by rw [seg_ne _ _ _ hjk]; exact h3)
theorem Wst.re {M0 M1 : PMem} {k a : Nat} {b : List UInt8} {g : Pm.Obj} {os : List Pm.Obj} (h : Wst (seg M0 k (g :: os)) M1 a b) : Wst (seg M0 k (g :: os)) (seg M1 k (g :: os)) a b := by
  obtain ⟨t, h1, h2⟩ := h.row
  have hak := ne_of_fresh h.new
  refine ⟨sub_re h.sub, h.new, t, by rw [seg_ne _ _ _ hak]; exact h1, ?_⟩
  generalize b.length = n at h2 ⊢
  cases h2 with
  | nil => exact .nil
  | at_ h0 h3 => exact .at_ h0 (by rw [seg_ne _ _ _ (ne_of_fresh h0)]; exact h3)
theorem Wst.pop {M0 M1 : PMem} {k a : Nat} {b : List UInt8} {g : Pm.Obj} {os : List Pm.Obj} (h : Wst (seg M0 k (g :: os)) M1 a b) (hf : fresh M0 k) : Wst M0 (seg M1 k []) a b := by
  obtain ⟨t, h1, h2⟩ := h.row
  have hak := ne_of_fresh h.new
  refine ⟨fun j i o e => ?_, fresh_unseg h.new, t, by rw [seg_ne _ _ _ hak]; exact h1, ?_⟩
  · have hjk : j ≠ k := fun e' => by subst e'; rw [hf i] at e; cases e
    rw [seg_ne _ _ _ hjk]
    exact h.sub _ _ _ (by rw [seg_ne _ _ _ hjk]; exact e)
  · generalize b.length = n at h2 ⊢
    cases h2 with
    | nil => exact .nil
    | at_ h0 h3 => exact .at_ (fresh_unseg h0) (by rw [seg_ne _ _ _ (ne_of_fresh h0)]; exact h3)
theorem mle_nil {M : PMem} {k : Nat} {os : List Pm.Obj} : MLe (seg M k os) (seg M k []) := fun a i o e => by
  by_cases ha : a = k
  · subst ha; rw [seg_same] at e; cases e
  · rw [seg_ne _ _ _ ha] at e ⊢; exact ⟨o, e, .refl _⟩
theorem seg_seg {M : PMem} {k : Nat} {os os' : List Pm.Obj} : seg (seg M k os) k os' = seg M k os' := by
  funext a i
  by_cases ha : a = k
  · subst ha; rw [seg_same, seg_same]
  · rw [seg_ne _ _ _ ha, seg_ne _ _ _ ha, seg_ne _ _ _ ha]
theorem Wst.out {M0 M1 : PMem} {k a : Nat} {b : List UInt8} {g : Pm.Obj} {os os' : List Pm.Obj} (h : Wst (seg M0 k (g :: os)) (seg M1 k os') a b) (hf : fresh M0 k) : Wst M0 (seg M1 k []) a b := by
  have := h.pop hf
  rwa [seg_seg] at this
theorem endW {body : Code} {nt nt' k a : Nat} {b : List UInt8} {os : List Pm.Obj} {tm : List (Nat × PV)} {M0 M1 : PMem} {g : Pm.Obj} {os' : List Pm.Obj} (h : Wst (seg M0 k (g :: os)) (seg M1 k os') a b) (hf : fresh M0 k) : ends env ⟨nt, [], body⟩ (fun x M2 => Wst M0 M2 a b) .normal ⟨tm, nt', k, os', M1⟩ :=
  ⟨.inl rfl, [], _, rfl, mle_nil, h.out hf⟩
theorem cw {tm : List (Nat × PV)} {nt k d g a : Nat} {b' : List UInt8} {o : Pm.Obj} {os : List Pm.Obj} {M0 M : PMem} {vs first cap : List PV} {κ : Kont} {R : PSt → Prop}
    (hp : PT env Tryz.prog g (first ++ (vs ++ cap)) (seg M k (o :: os)) (fun x M1 => Wst (seg M0 k (o :: os)) M1 a b')) (hd : d < nt)
    (h : ∀ x M1, Wst (seg M0 k (o :: os)) (seg M1 k (o :: os)) a b' → RK env Tryz.prog κ ⟨(d, x) :: tm, nt, k, o :: os, M1⟩ R) : cK env Tryz.prog (some d) κ tm nt k (o :: os) M R vs (.fn g first cap) :=
  cm (hp.mono fun x M1 hq => ⟨o :: os, M1, rfl, mle_re hq.sub, hd, h x M1 hq.re⟩)
theorem num_at (n : Nat) (hn : n < 4294967296) (a : Nat) (b : List UInt8) (hb : b.length ≤ 1000000) (M0 M : PMem) (h : Wst M0 M a b) : PT env Tryz.prog 82 [.ptr a 0 0, iv n] M (fun x M1 => Wst M0 M1 a (b ++ form n)) := by
  refine PT.enterG env_ok fn82 (by simp) comp82 fun k hk hf => ?_
  have hr := h.run hf
  obtain ⟨t, hrow, htok⟩ := hr.row
  have hld : ∀ {ag : Bool} {n o : Nat} {os : List Pm.Obj}, loadP k os M ag n (.ptr a 0 o) = rowTake ag n o (M a 0) := loadP_out hr.ne
  simp only [wrRow] at hrow
  have h1 : ¬ ((n : Int) < 0) := by omega
  have h2 : ¬ ((n : Int) > 4611686018427387903) := by omega
  simp only [G0, Nat.reduceLT, Nat.reduceEqDiff, Nat.reduceAdd, Nat.reduceLeDiff, Nat.reduceMul, argsP, ptr_eql, pt110, hld, hrow, Bool.not_true, Bool.not_false, cnd_f, cnd_t, Bool.or_false, bne_self_eq_false, h1, h2, decide_false]
  refine cp0 (form_at n hn) (by decide) ?_
  have hfill : fillA 1 [.lst .full 0 0 []] [(0, encBytes (form n))] = some [encBytes (form n)] := rfl
  have hl := form_len n
  simp only [G0, Nat.reduceLT, Nat.reduceEqDiff, Nat.reduceAdd, Nat.reduceLeDiff, Nat.reduceMul, hfill]
  refine cw (b' := b ++ form n) (M0 := M0) (first := []) (cap := []) (PT.args (args' := [.ptr a 0 0, encLists [form n]]) (.cons (PLe.refl _) (.cons (PLe.no _ _ _ _) .nil)) ((put_at [form n] (by simp) a b (by simp [sumL]; omega) _ _ (h.push hf)).mono fun x M1 hq => by simpa using hq)) (by decide) fun x M1 hw => ?_
  simp only [G0, Nat.reduceLT, Nat.reduceEqDiff, Nat.reduceAdd, Nat.reduceLeDiff, Nat.reduceMul]
  exact endW hw (fresh_of_sub h.sub hf)
def rawB (p : List UInt8) : List UInt8 := form p.length ++ p
theorem raw_at (p : List UInt8) (a : Nat) (b : List UInt8) (hb : b.length + p.length ≤ 1000000) (M0 M : PMem) (h : Wst M0 M a b) : PT env Tryz.prog 84 [.ptr a 0 0, encBytes p] M (fun x M1 => Wst M0 M1 a (b ++ rawB p)) := by
  refine PT.enterG env_ok fn84 (by simp) comp84 fun k hk hf => ?_
  have hr := h.run hf
  have hl := form_len p.length
  simp only [G0, Nat.reduceLT, Nat.reduceEqDiff, Nat.reduceAdd, Nat.reduceLeDiff, Nat.reduceMul, argsP, encBytes]
  refine cp0 (form_at p.length (by omega)) (by decide) ?_
  have hfill : fillA 1 [.lst .full 0 0 [], .lst .full 0 0 []] [(0, encBytes (form p.length)), (1, .lst .no 1 p.length (p.map encB))] = some [encBytes (form p.length), encBytes p] := rfl
  simp only [G0, Nat.reduceLT, Nat.reduceEqDiff, Nat.reduceAdd, Nat.reduceLeDiff, Nat.reduceMul, hfill]
  refine cw (b' := b ++ rawB p) (M0 := M0) (first := [.ptr a 0 0]) (cap := []) (PT.args (args' := [.ptr a 0 0, encLists [form p.length, p]]) (.cons (PLe.refl _) (.cons (PLe.no _ _ _ _) .nil)) ((put_at [form p.length, p] (by simp) a b (by simp [sumL]; omega) _ _ (h.push hf)).mono fun x M1 hq => by simpa [rawB] using hq)) (by decide) fun x M1 hw => ?_
  simp only [G0, Nat.reduceLT, Nat.reduceEqDiff, Nat.reduceAdd, Nat.reduceLeDiff, Nat.reduceMul]
  exact endW hw (fresh_of_sub h.sub hf)
theorem text_at (p : List UInt8) (a : Nat) (b : List UInt8) (hb : b.length + p.length ≤ 1000000) (M0 M : PMem) (h : Wst M0 M a b) : PT env Tryz.prog 83 [.ptr a 0 0, str p] M (fun x M1 => Wst M0 M1 a (b ++ rawB p)) := by
  refine PT.enterG env_ok fn83 (by simp) comp83 fun k hk hf => ?_
  simp only [G0, Nat.reduceLT, Nat.reduceEqDiff, Nat.reduceAdd, Nat.reduceLeDiff, Nat.reduceMul, argsP]
  have he : PV.lst Tok.no 1 p.length (p.map fun b => PV.v (.int .u8 b.toNat)) = encBytes p := rfl
  rw [he]
  refine cw (b' := b ++ rawB p) (M0 := M0) (first := []) (cap := []) (raw_at p a b hb _ _ (h.push hf)) (by decide) fun x M1 hw => ?_
  simp only [G0, Nat.reduceLT, Nat.reduceEqDiff, Nat.reduceAdd, Nat.reduceLeDiff, Nat.reduceMul]
  exact endW hw (fresh_of_sub h.sub hf)
theorem new_at (M : PMem) : PT env Tryz.prog 81 [] M (fun x M1 => ∃ a, x = .ptr a 0 0 ∧ Wst M M1 a []) := by
  refine PT.enterR env_ok fn81 (by simp) comp81 fun k hk hf => RX.of env_ok ?_
  simp only [G0, Nat.reduceLT, Nat.reduceEqDiff, Nat.reduceAdd, Nat.reduceLeDiff, Nat.reduceMul, argsP]
  refine ⟨.inr rfl, [_], seg M k [wrRow .full []], rfl, fun a i o e => ?_, k, rfl, Pm.Sub.seg hf, hf, .full, by rw [seg_same]; rfl, .nil⟩
  by_cases ha : a = k
  · subst ha
    rw [seg_same] at e
    cases i with
    | zero =>
      cases e
      exact ⟨_, by rw [show PSt.mem _ = seg M a _ from rfl, seg_same]; rfl, .row _ _ (.cons (PLe.refl _) (.cons (PLe.nil 0 1) (.cons (PLe.refl _) .nil)))⟩
    | succ i => simp at e
  · rw [seg_ne _ _ _ ha] at e
    exact ⟨o, by rw [show PSt.mem _ = seg M k _ from rfl, seg_ne _ _ _ ha]; exact e, .refl _⟩
theorem clone88 (l : List UInt8) (hl : l.length ≤ 1000000) : PTp env Tryz.prog 141 [encBytes l] (encBytes l) := PTp.of fun M => by
  refine PT.enterR env_ok fn141 (by simp) comp141 fun k hk hf => RX.of env_ok ?_
  simp only [G0, Nat.reduceLT, Nat.reduceEqDiff, Nat.reduceAdd, Nat.reduceLeDiff, Nat.reduceMul, argsP, encBytes]
  refine nL_lst fun b hb => ?_
  simp only [G0, Nat.reduceLT, Nat.reduceEqDiff, Nat.reduceAdd, Nat.reduceLeDiff, Nat.reduceMul]
  cases b with
  | true =>
    have hz : l = [] := by
      cases l with
      | nil => rfl
      | cons x l => exact absurd (hb (by simp)) (by simp)
    subst hz
    simp only [G0, Nat.reduceLT, Nat.reduceEqDiff, Nat.reduceAdd, Nat.reduceLeDiff, Nat.reduceMul, Bool.xor_false]
    exact end1 hf rfl ⟨PLe.trans (PLe.nil 0 1) (PLe.no _ _ _ _), rfl⟩
  | false =>
    have hfill : fillA 1 [] [] = some [] := rfl
    simp only [G0, Nat.reduceLT, Nat.reduceEqDiff, Nat.reduceAdd, Nat.reduceLeDiff, Nat.reduceMul, Bool.xor_false, hfill]
    refine aL ?_
    by_cases hz : l.length = 0
    · have : l = [] := List.length_eq_zero_iff.1 hz
      subst this
      simp only [G0, Nat.reduceLT, Nat.reduceEqDiff, Nat.reduceAdd, Nat.reduceLeDiff, Nat.reduceMul, List.map_nil, ap_nil]
      exact end1 hf rfl ⟨PLe.no _ _ _ _, rfl⟩
    · have hc : (0 = 0 ∨ 1 = 1) ∧ (2 * (0 + l.length) + 2000) * 1 ≤ 281474976710656 ∧ 0 + l.length ≤ 4611686018427387904 ∧ 1 < 4096 ∧ 1 = 1 ∧ (l.map encB).all pone = true := ⟨.inl rfl, by omega, by omega, by decide, rfl, all_encB l⟩
      rw [ap_full hz hc]
      simp only [G0, Nat.reduceLT, Nat.reduceEqDiff, Nat.reduceAdd, Nat.reduceLeDiff, Nat.reduceMul]
      exact end1 hf rfl ⟨PLe.no _ _ _ _, rfl⟩
theorem out_at (a : Nat) (b : List UInt8) (hb : b.length ≤ 1000000) (M0 M : PMem) (h : Wst M0 M a b) : PTs env Tryz.prog M 85 [.ptr a 0 0] (.tup [encBytes b, iv 0]) := by
  obtain ⟨t, hrow, htok⟩ := h.row
  simp only [wrRow] at hrow
  refine PTs.enter env_ok fn85 (by simp) comp85 fun M' k hs hk hf => ?_
  have hrow' := hs _ _ _ hrow
  have hld : ∀ {ag : Bool} {n o : Nat} {os : List Pm.Obj}, loadP k os M' ag n (.ptr a 0 o) = rowTake ag n o (M' a 0) := loadP_out (fresh_ne hf hrow')
  simp only [G0, Nat.reduceLT, Nat.reduceEqDiff, Nat.reduceAdd, Nat.reduceLeDiff, Nat.reduceMul, argsP, ptr_eql, pt110, hld, hrow', Bool.not_true, Bool.not_false, cnd_f, cnd_t, Bool.or_false, bne_self_eq_false]
  refine cp0 (PTp.args (args' := [encBytes b]) (.cons (PLe.no _ _ _ _) .nil) (clone88 b hb)) (by decide) ?_
  simp only [G0, Nat.reduceLT, Nat.reduceEqDiff, Nat.reduceAdd, Nat.reduceLeDiff, Nat.reduceMul]
  exact end2 hf rfl rfl ⟨rfl, rfl⟩
end Go.Proofs.YtmgmbdnhodicjaaGreatDoor
end
