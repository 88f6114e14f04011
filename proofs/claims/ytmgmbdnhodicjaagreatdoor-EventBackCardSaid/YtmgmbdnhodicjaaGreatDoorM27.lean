/- EventBack. Part 27 of 30; no condition. -/
import Derived.Test.YtmgmbdnhodicjaaGreatDoorM26
set_option linter.unusedVariables false
set_option linter.unusedSimpArgs false
section
namespace Go.Proofs.YtmgmbdnhodicjaaGreatDoor
open Go Go.Am Go.Pm
set_option maxHeartbeats 1000000
set_option maxRecDepth 100000
theorem pt110 : ∃ y e, env.ty 112 = some y ∧ y.desc = .pointer e := by
  have h : (match env.ty 112 with | some y => (match y.desc with | .pointer _ => true | _ => false) | none => false) = true := by kernel_rfl
  cases hy : env.ty 112 with
  | none => rw [hy] at h; cases h
  | some y =>
    rw [hy] at h
    dsimp only at h
    split at h
    · rename_i e he; exact ⟨y, e, rfl, he⟩
    · cases h
def encLists (ps : List (List UInt8)) : PV := .lst .no 1 ps.length (ps.map encBytes)
def wrRow (t : Tok) (b : List UInt8) : Pm.Obj := .row .rw 0 [bv true, .lst t 1 b.length (b.map encB), iv 0]
inductive wTok (M0 M : PMem) : Tok → Nat → Prop where
  | nil : wTok M0 M .full 0
  | at_ {k i n : Nat} (h0 : fresh M0 k) (h : M k i = some (.grow n 1)) : wTok M0 M (.id k i) n
structure Wst (M0 M : PMem) (a : Nat) (b : List UInt8) : Prop where
  sub : Pm.Sub M0 M
  new : fresh M0 a
  row : ∃ t, M a 0 = some (wrRow t b) ∧ wTok M0 M t b.length
inductive wRun (M0 M : PMem) (k : Nat) : Tok → Nat → List Pm.Obj → Prop where
  | nil : wRun M0 M k .full 0 []
  | out {j i n : Nat} (hk : j ≠ k) (h0 : fresh M0 j) (h : M j i = some (.grow n 1)) : wRun M0 M k (.id j i) n []
  | own (n : Nat) : wRun M0 M k (.id k 0) n [.grow n 1]
structure Wrun (M0 M : PMem) (k a : Nat) (b : List UInt8) (os : List Pm.Obj) : Prop where
  sub : Pm.Sub M0 M
  new : fresh M0 a
  ne : a ≠ k
  fr : fresh M k
  row : ∃ t, M a 0 = some (wrRow t b) ∧ wRun M0 M k t b.length os
theorem wTok.run {M0 M : PMem} {k n : Nat} {t : Tok} (h : wTok M0 M t n) (hf : fresh M k) : wRun M0 M k t n [] := by
  cases h with
  | nil => exact .nil
  | at_ h0 h3 => exact .out (fun e => by subst e; rw [hf _] at h3; cases h3) h0 h3
theorem wRun.st {M0 M : PMem} {k n : Nat} {t : Tok} {os : List Pm.Obj} (h : wRun M0 M k t n os) (hs : Pm.Sub M0 M) (hf : fresh M k) : wTok M0 (seg M k os) t n := by
  cases h with
  | nil => exact .nil
  | out hk h0 h3 => exact .at_ h0 (by rw [seg_ne _ _ _ hk]; exact h3)
  | own n =>
    refine .at_ (fun i => ?_) (by rw [seg_same]; rfl)
    cases e : M0 k i with
    | none => rfl
    | some o =>
      have := hs _ _ _ e
      rw [hf i] at this; cases this
theorem Wst.run {M0 M : PMem} {a k : Nat} {b : List UInt8} (h : Wst M0 M a b) (hf : fresh M k) : Wrun M0 M k a b [] := by
  obtain ⟨t, h1, h2⟩ := h.row
  exact ⟨h.sub, h.new, (fun e => by subst e; rw [hf 0] at h1; cases h1), hf, t, h1, h2.run hf⟩
theorem Wrun.st {M0 M : PMem} {a k : Nat} {b : List UInt8} {os : List Pm.Obj} (h : Wrun M0 M k a b os) : Wst M0 (seg M k os) a b := by
  obtain ⟨t, h1, h2⟩ := h.row
  exact ⟨h.sub.sseg h.fr, h.new, t, by rw [seg_ne _ _ _ h.ne]; exact h1, h2.st h.sub h.fr⟩
def sumL (ps : List (List UInt8)) : Nat := (ps.map List.length).sum
theorem lists_at {ps : List (List UInt8)} {i : Nat} {p : List UInt8} (h : ps[i]? = some p) : (ps.map encBytes)[i * 1]? = some (encBytes p) := by
  rw [Nat.mul_one, List.getElem?_map, h]; rfl
theorem sumL_drop {ps : List (List UInt8)} {i : Nat} {p : List UInt8} (h : ps.drop i = p :: ps.drop (i + 1)) : sumL (ps.drop i) = p.length + sumL (ps.drop (i + 1)) := by
  rw [h]; simp [sumL]
theorem loop86a (ps : List (List UInt8)) (hps : ps.length ≤ 1000000) (a : Nat) (n0 : Nat) (hn : n0 + sumL ps ≤ 1048576) (M : PMem) (k : Nat) (Q : AExit → PSt → Prop) (q : ∀ tm, tget tm 0 = .ptr a 0 0 → tget tm 1 = encLists ps → tget tm 4 = iv (n0 + sumL ps : Nat) → Q (.exit 0) ⟨tm, 62, k, [], M⟩) :
    ∀ d i, ps.length - i = d → i ≤ ps.length →
    RXL env Tryz.prog none c139_14 ⟨[(32, iv i), (31, iv ps.length), (30, encLists ps), (4, iv (n0 + (sumL ps - sumL (ps.drop i)) : Nat)), (1, encLists ps), (0, .ptr a 0 0)], 62, k, [], M⟩ Q := by
  intro d
  induction d with
  | zero =>
    intro i hd hi
    have : i = ps.length := by omega
    subst this
    refine RXL.round (RX.of env_ok ?_)
    simp only [G0, Nat.reduceLT, Nat.reduceEqDiff, Nat.reduceAdd, Nat.reduceLeDiff, Nat.reduceMul, Int.lt_irrefl, decide_false]
    refine q _ rfl rfl ?_
    show iv _ = iv _
    rw [List.drop_length]; rfl
  | succ d ih =>
    intro i hd hi
    have hi' : i < ps.length := by omega
    obtain ⟨p, hp, hdp⟩ := getE hi'
    have hii : (i : Int) < ps.length := by omega
    have hle : sumL (ps.drop i) = p.length + sumL (ps.drop (i + 1)) := sumL_drop hdp
    have hle2 : sumL (ps.drop i) ≤ sumL ps := by
      have := congrArg sumL (List.take_append_drop i ps)
      simp only [sumL, List.map_append, List.sum_append] at this ⊢
      omega
    have hw : IntKind.i64.wrap ((i : Int) + 1) = ((i + 1 : Nat) : Int) := by rw [wrap64_id (by omega) (by omega)]; rfl
    have hw2 : IntKind.i64.wrap (((n0 + (sumL ps - sumL (ps.drop i)) : Nat) : Int) + (p.length : Nat)) = ((n0 + (sumL ps - sumL (ps.drop (i + 1))) : Nat) : Int) := by
      rw [add_i (by omega)]; congr 1; omega
    have hl := lists_at hp
    refine RXL.round (RX.of env_ok ?_)
    simp only [G0, Nat.reduceLT, Nat.reduceEqDiff, Nat.reduceAdd, Nat.reduceLeDiff, Nat.reduceMul, encLists, hii, decide_true, hi', hl, encBytes, hw, hw2]
    refine RXL.weak (keepE ?_) (ih (i + 1) (by omega) (by omega))
    repeat (first | exact KP.nil | apply KP.cons rfl)
theorem sub_put {M0 M : PMem} {j i : Nat} {o : Pm.Obj} (h : Pm.Sub M0 M) (hf : fresh M0 j) : Pm.Sub M0 (putM M j i o) := fun a c x e => by
  unfold putM
  rw [if_neg]
  · exact h _ _ _ e
  · rintro ⟨rfl, rfl⟩; rw [hf c] at e; cases e
theorem fresh_put {M : PMem} {k j i : Nat} {o : Pm.Obj} (h : fresh M k) (hj : j ≠ k) : fresh (putM M j i o) k := fun c => by
  unfold putM
  rw [if_neg (fun x => hj x.1.symm)]; exact h c
theorem put_ne {M : PMem} {j i a c : Nat} {o : Pm.Obj} (h : ¬ (a = j ∧ c = i)) : putM M j i o a c = M a c := by
  unfold putM; rw [if_neg h]
theorem app_run {M0 M : PMem} {k a nt : Nat} {B p : List UInt8} {os : List Pm.Obj} {tm : List (Nat × PV)} {t : Tok} (hr : Wrun M0 M k a B os) (hrow : M a 0 = some (wrRow t B)) (htok : wRun M0 M k t B.length os) (hl : B.length + p.length ≤ 1048576) :
    ∃ t' os' M', appP ⟨tm, nt, k, os, M⟩ 1 1 1 (.lst t 1 B.length (B.map encB)) (.lst .no 1 p.length (p.map encB)) = some (.lst t' 1 (B ++ p).length ((B ++ p).map encB), ⟨tm, nt, k, os', M'⟩) ∧
      M' a 0 = some (wrRow t B) ∧ Wrun M0 (putM M' a 0 (wrRow t' (B ++ p))) k a (B ++ p) os' := by
  have fin : ∀ {t' : Tok} {os' : List Pm.Obj} {M' : PMem}, Pm.Sub M0 M' → fresh M' k → M' a 0 = some (wrRow t B) → wRun M0 M' k t' (B ++ p).length os' → Wrun M0 (putM M' a 0 (wrRow t' (B ++ p))) k a (B ++ p) os' := fun {t' os' M'} h1 h2 h3 h4 => by
    refine ⟨sub_put h1 hr.new, hr.new, hr.ne, fresh_put h2 hr.ne, t', putM_same _ _ _ _, ?_⟩
    generalize (B ++ p).length = n at h4 ⊢
    cases h4 with
    | nil => exact .nil
    | out hk h0 h => exact .out hk h0 (by
        rw [put_ne]
        · exact h
        · rintro ⟨rfl, rfl⟩; rw [h3] at h; cases h)
    | own n => exact .own n
  by_cases hp : p.length = 0
  · have : p = [] := List.length_eq_zero_iff.1 hp
    subst this
    refine ⟨t, os, M, ?_, hrow, ?_⟩
    · rw [List.append_nil]; exact ap_nil
    · exact fin hr.sub hr.fr hrow (by rw [List.append_nil]; exact htok)
  · have hcond : (B.length = 0 ∨ 1 = 1) ∧ (2 * (B.length + p.length) + 2000) * 1 ≤ 281474976710656 ∧ B.length + p.length ≤ 4611686018427387904 ∧ 1 < 4096 ∧ 1 = 1 ∧ (p.map encB).all pone = true := ⟨.inr rfl, by omega, by omega, by decide, rfl, all_encB p⟩
    have hm : (B ++ p).map encB = B.map encB ++ p.map encB := List.map_append
    have hln : (B ++ p).length = B.length + p.length := List.length_append
    rw [hm, hln] at *
    generalize hB : B.length = n at *
    cases htok with
    | nil =>
      exact ⟨.id k 0, [.grow (0 + p.length) 1], M, ap_full hp hcond, hrow, fin hr.sub hr.fr hrow (by rw [List.length_append, hB]; exact .own _)⟩
    | out hk h0 h =>
      rename_i j i
      refine ⟨.id j i, [], putM M j i (.grow (n + p.length) 1), ap_out hp hk h hcond rfl, ?_, ?_⟩
      · rw [put_ne]
        · exact hrow
        · rintro ⟨rfl, rfl⟩; rw [hrow] at h; cases h
      · refine fin (sub_put hr.sub h0) (fresh_put hr.fr hk) ?_ (by rw [List.length_append, hB]; exact .out hk h0 (putM_same _ _ _ _))
        rw [put_ne]
        · exact hrow
        · rintro ⟨rfl, rfl⟩; rw [hrow] at h; cases h
    | own n =>
      exact ⟨.id k 0, [.grow (n + p.length) 1], M, ap_id hp rfl hcond rfl, hrow, fin hr.sub hr.fr hrow (by rw [List.length_append, hB]; exact .own _)⟩
theorem loop86b (ps : List (List UInt8)) (hps : ps.length ≤ 1000000) (a : Nat) (b : List UInt8) (hn : b.length + sumL ps ≤ 1048576) (M0 : PMem) (k : Nat) (Q : AExit → PSt → Prop) (q : ∀ tm os M, Wrun M0 M k a (b ++ ps.flatten) os → Q (.exit 2) ⟨tm, 62, k, os, M⟩) :
    ∀ d i M os, ps.length - i = d → i ≤ ps.length → Wrun M0 M k a (b ++ (ps.take i).flatten) os →
    RXL env Tryz.prog none c139_33 ⟨[(48, iv i), (47, iv ps.length), (46, encLists ps), (0, .ptr a 0 0)], 62, k, os, M⟩ Q := by
  intro d
  induction d with
  | zero =>
    intro i M os hd hi hr
    have : i = ps.length := by omega
    subst this
    rw [List.take_length] at hr
    refine RXL.round (RX.of env_ok ?_)
    simp only [G0, Nat.reduceLT, Nat.reduceEqDiff, Nat.reduceAdd, Nat.reduceLeDiff, Nat.reduceMul, Int.lt_irrefl, decide_false]
    exact q _ _ _ hr
  | succ d ih =>
    intro i M os hd hi hr
    have hi' : i < ps.length := by omega
    obtain ⟨p, hp, hdp⟩ := getE hi'
    have hii : (i : Int) < ps.length := by omega
    have hw : IntKind.i64.wrap ((i : Int) + 1) = ((i + 1 : Nat) : Int) := by rw [wrap64_id (by omega) (by omega)]; rfl
    have hl := lists_at hp
    obtain ⟨t, hrow, htok⟩ := hr.row
    have hld : ∀ {ag : Bool} {n o : Nat} {os : List Pm.Obj}, loadP k os M ag n (.ptr a 0 o) = rowTake ag n o (M a 0) := loadP_out hr.ne
    have hrow' := hrow
    have hB : sumL (ps.take i) + p.length ≤ sumL ps := by
      have h1 := congrArg sumL (List.take_append_drop i ps)
      have h2 := sumL_drop hdp
      simp only [sumL, List.map_append, List.sum_append] at h1 h2 ⊢
      omega
    have hflat : ∀ l : List (List UInt8), l.flatten.length = sumL l := fun l => by simp [sumL, List.length_flatten]
    have hlB : (b ++ (ps.take i).flatten).length + p.length ≤ 1048576 := by rw [List.length_append, hflat]; omega
    have hnext : b ++ (ps.take (i + 1)).flatten = (b ++ (ps.take i).flatten) ++ p := by
      rw [List.take_add_one, hp]; simp
    simp only [wrRow] at hrow
    refine RXL.round (RX.of env_ok ?_)
    simp only [G0, Nat.reduceLT, Nat.reduceEqDiff, Nat.reduceAdd, Nat.reduceLeDiff, Nat.reduceMul, encLists, hii, decide_true, hi', hl, encBytes, hw, hld, hrow]
    refine aL ?_
    obtain ⟨t', os', M', happ, hM', hrun⟩ := app_run (tm := _) (nt := 62) hr hrow' htok hlB
    rw [happ]
    have hM2 := hM'
    simp only [wrRow] at hM2
    have hst : ∀ {tm : List (Nat × PV)}, storeP tm 62 k os' M' 1 (.lst t' 1 ((b ++ (ps.take i).flatten) ++ p).length (((b ++ (ps.take i).flatten) ++ p).map encB)) (.ptr a 0 1) = some (.junk, ⟨tm, 62, k, os', putM M' a 0 (wrRow t' ((b ++ (ps.take i).flatten) ++ p))⟩) := fun {tm} => by
      rw [storeP_out hr.ne, hM']; rfl
    simp only [G0, Nat.reduceLT, Nat.reduceEqDiff, Nat.reduceAdd, Nat.reduceLeDiff, Nat.reduceMul, hst, hw]
    refine RXL.weak (keepE ?_) (ih (i + 1) _ os' (by omega) (by omega) (by rw [hnext]; exact hrun))
    repeat (first | exact KP.nil | apply KP.cons rfl)
theorem put_at (ps : List (List UInt8)) (hps : ps.length ≤ 1000000) (a : Nat) (b : List UInt8) (hn : b.length + sumL ps ≤ 1048576) (M0 M : PMem) (h : Wst M0 M a b) : PT env Tryz.prog 139 [.ptr a 0 0, encLists ps] M (fun x M1 => Wst M0 M1 a (b ++ ps.flatten)) := by
  refine PT.enterR env_ok fn139 (by simp) comp139 fun k hk hf => RX.of env_ok ?_
  have hr := h.run hf
  obtain ⟨t, hrow, htok⟩ := hr.row
  have hld : ∀ {ag : Bool} {n o : Nat} {os : List Pm.Obj}, loadP k os M ag n (.ptr a 0 o) = rowTake ag n o (M a 0) := loadP_out hr.ne
  have hrow' := hrow
  simp only [wrRow] at hrow'
  simp only [G0, Nat.reduceLT, Nat.reduceEqDiff, Nat.reduceAdd, Nat.reduceLeDiff, Nat.reduceMul, argsP, encLists, ptr_eql, pt110, hld, hrow', Bool.not_true, Bool.not_false, cnd_f, cnd_t, Bool.or_false, bne_self_eq_false]
  have hz : sumL ps - sumL (ps.drop 0) = 0 := by rw [List.drop_zero]; omega
  refine RX.loop (RXL.weak (keepE (tm' := [(32, iv (0 : Nat)), (31, iv ps.length), (30, encLists ps), (4, iv (b.length + (sumL ps - sumL (ps.drop 0)) : Nat)), (1, encLists ps), (0, .ptr a 0 0)]) ?_) (loop86a ps hps a b.length hn M k _ (fun tm h0 h1 h4 => ?_) ps.length 0 (by omega) (Nat.zero_le _)))
  · rw [hz]
    repeat (first | exact KP.nil | apply KP.cons rfl)
  · have hgt : ¬ (((b.length + sumL ps : Nat) : Int) > 1048576) := by omega
    simp only [G0, Nat.reduceLT, Nat.reduceEqDiff, Nat.reduceAdd, Nat.reduceLeDiff, Nat.reduceMul, h0, h1, h4, hgt, decide_false, encLists]
    refine RX.loop (RXL.weak (keepE (tm' := [(48, iv (0 : Nat)), (47, iv ps.length), (46, encLists ps), (0, .ptr a 0 0)]) ?_) (loop86b ps hps a b hn M0 k _ (fun tm os M1 hr1 => ?_) ps.length 0 M [] (by omega) (Nat.zero_le _) (by simpa using hr)))
    · exact KP.cons rfl (KP.cons rfl (KP.cons rfl (KP.cons h0 KP.nil)))
    · simp only [G0, Nat.reduceLT, Nat.reduceEqDiff, Nat.reduceAdd, Nat.reduceLeDiff, Nat.reduceMul]
      exact ⟨.inl rfl, [], _, rfl, MLe.refl _, hr1.st⟩
theorem fresh_of_sub {M0 M : PMem} {k : Nat} (h : Pm.Sub M0 M) (hf : fresh M k) : fresh M0 k := fun i => by
  cases e : M0 k i with
  | none => rfl
  | some o => have := h _ _ _ e; rw [hf i] at this; cases this
theorem fresh_seg {M : PMem} {j k : Nat} {os : List Pm.Obj} (h : fresh M j) (hj : j ≠ k) : fresh (seg M k os) j := fun i => by rw [seg_ne _ _ _ hj]; exact h i
theorem ne_of_fresh {M : PMem} {j k : Nat} {g : Pm.Obj} {os : List Pm.Obj} (h : fresh (seg M k (g :: os)) j) : j ≠ k := fun e => by
  subst e
  have := h 0
  rw [seg_same] at this; cases this
theorem fresh_unseg {M : PMem} {j k : Nat} {g : Pm.Obj} {os : List Pm.Obj} (h : fresh (seg M k (g :: os)) j) : fresh M j := fun i => by
  have := h i
  rwa [seg_ne _ _ _ (ne_of_fresh h)] at this
theorem sub_segs {M0 M : PMem} {k : Nat} {os : List Pm.Obj} (h : Pm.Sub M0 M) : Pm.Sub (seg M0 k os) (seg M k os) := fun a i o e => by
  by_cases ha : a = k
  · subst ha; rw [seg_same] at e ⊢; exact e
  · rw [seg_ne _ _ _ ha] at e ⊢; exact h _ _ _ e
theorem sub_re {M0 M1 : PMem} {k : Nat} {os : List Pm.Obj} (h : Pm.Sub (seg M0 k os) M1) : Pm.Sub (seg M0 k os) (seg M1 k os) := fun a i o e => by
  by_cases ha : a = k
  · subst ha; rw [seg_same] at e ⊢; exact e
  · rw [seg_ne _ _ _ ha]; exact h _ _ _ e
theorem mle_re {M0 M1 : PMem} {k : Nat} {os : List Pm.Obj} (h : Pm.Sub (seg M0 k os) M1) : MLe M1 (seg M1 k os) := fun a i o e => by
  by_cases ha : a = k
  · subst ha
    rw [seg_same] at e
    exact ⟨o, h _ _ _ (by rw [seg_same]; exact e), .refl _⟩
  · rw [seg_ne _ _ _ ha] at e
    exact ⟨o, e, .refl _⟩
theorem Wst.push {M0 M : PMem} {k a : Nat} {b : List UInt8} {os : List Pm.Obj} (h : Wst M0 M a b) (hf : fresh M k) : Wst (seg M0 k os) (seg M k os) a b := by
  obtain ⟨t, h1, h2⟩ := h.row
  have hak : a ≠ k := fun e => by subst e; rw [hf 0] at h1; cases h1
  refine ⟨sub_segs h.sub, fresh_seg h.new hak, t, by rw [seg_ne _ _ _ hak]; exact h1, ?_⟩
  generalize b.length = n at h2 ⊢
  cases h2 with
  | nil => exact .nil
  | at_ h0 h3 =>
    rename_i j i
    have hjk : j ≠ k := fun e => by subst e; rw [hf i] at h3; cases h3
    exact .at_ (fresh_seg h0 hjk) (by rw [seg_ne _ _ _ hjk]; exact h3)
theorem Wst.re {M0 M1 : PMem} {k a : Nat} {b : List UInt8} {g : Pm.Obj} {os : List Pm.Obj} (h : Wst (seg M0 k (g :: os)) M1 a b) : Wst (seg M0 k (g :: os)) (seg M1 k (g :: os)) a b := by
  obtain ⟨t, h1, h2⟩ := h.row
  have hak := ne_of_fresh h.new
  refine ⟨sub_re h.sub, h.new, t, by rw [seg_ne _ _ _ hak]; exact h1, ?_⟩
  generalize b.length = n at h2 ⊢
  cases h2 with
  | nil => exact .nil
  | at_ h0 h3 => exact .at_ h0 (by rw [seg_ne _ _ _ (ne_of_fresh h0)]; exact h3)
theorem Wst.pop {M0 M1 : PMem} {k a : Nat} {b : List UInt8} {g : Pm.Obj} {os : List Pm.Obj} (h : Wst (seg M0 k (g :: os)) M1 a b) (hf : fresh M0 k) : Wst M0 (seg M1 k []) a b := by
  obtain ⟨t, h1, h2⟩ := h.row
  have hak := ne_of_fresh h.new
  refine ⟨fun j i o e => ?_, fresh_unseg h.new, t, by rw [seg_ne _ _ _ hak]; exact h1, ?_⟩
  · have hjk : j ≠ k := fun e' => by subst e'; rw [hf i] at e; cases e
    rw [seg_ne _ _ _ hjk]
    exact h.sub _ _ _ (by rw [seg_ne _ _ _ hjk]; exact e)
  · generalize b.length = n at h2 ⊢
    cases h2 with
    | nil => exact .nil
    | at_ h0 h3 => exact .at_ (fresh_unseg h0) (by rw [seg_ne _ _ _ (ne_of_fresh h0)]; exact h3)
theorem mle_nil {M : PMem} {k : Nat} {os : List Pm.Obj} : MLe (seg M k os) (seg M k []) := fun a i o e => by
  by_cases ha : a = k
  · subst ha; rw [seg_same] at e; cases e
  · rw [seg_ne _ _ _ ha] at e ⊢; exact ⟨o, e, .refl _⟩
theorem seg_seg {M : PMem} {k : Nat} {os os' : List Pm.Obj} : seg (seg M k os) k os' = seg M k os' := by
  funext a i
  by_cases ha : a = k
  · subst ha; rw [seg_same, seg_same]
  · rw [seg_ne _ _ _ ha, seg_ne _ _ _ ha, seg_ne _ _ _ ha]
theorem Wst.out {M0 M1 : PMem} {k a : Nat} {b : List UInt8} {g : Pm.Obj} {os os' : List Pm.Obj} (h : Wst (seg M0 k (g :: os)) (seg M1 k os') a b) (hf : fresh M0 k) : Wst M0 (seg M1 k []) a b := by
  have := h.pop hf
  rwa [seg_seg] at this
theorem endW {body : Code} {nt nt' k a : Nat} {b : List UInt8} {os : List Pm.Obj} {tm : List (Nat × PV)} {M0 M1 : PMem} {g : Pm.Obj} {os' : List Pm.Obj} (h : Wst (seg M0 k (g :: os)) (seg M1 k os') a b) (hf : fresh M0 k) : ends env ⟨nt, [], body⟩ (fun x M2 => Wst M0 M2 a b) .normal ⟨tm, nt', k, os', M1⟩ :=
  ⟨.inl rfl, [], _, rfl, mle_nil, h.out hf⟩
theorem cw {tm : List (Nat × PV)} {nt k d g a : Nat} {b' : List UInt8} {o : Pm.Obj} {os : List Pm.Obj} {M0 M : PMem} {vs first cap : List PV} {κ : Kont} {R : PSt → Prop}
    (hp : PT env Tryz.prog g (first ++ (vs ++ cap)) (seg M k (o :: os)) (fun x M1 => Wst (seg M0 k (o :: os)) M1 a b')) (hd : d < nt)
    (h : ∀ x M1, Wst (seg M0 k (o :: os)) (seg M1 k (o :: os)) a b' → RK env Tryz.prog κ ⟨(d, x) :: tm, nt, k, o :: os, M1⟩ R) : cK env Tryz.prog (some d) κ tm nt k (o :: os) M R vs (.fn g first cap) :=
  cm (hp.mono fun x M1 hq => ⟨o :: os, M1, rfl, mle_re hq.sub, hd, h x M1 hq.re⟩)
theorem num_at (n : Nat) (hn : n < 4294967296) (a : Nat) (b : List UInt8) (hb : b.length ≤ 1000000) (M0 M : PMem) (h : Wst M0 M a b) : PT env Tryz.prog 82 [.ptr a 0 0, iv n] M (fun x M1 => Wst M0 M1 a (b ++ form n)) := by
  refine PT.enterG env_ok fn82 (by simp) comp82 fun k hk hf => ?_
  have hr := h.run hf
  obtain ⟨t, hrow, htok⟩ := hr.row
  have hld : ∀ {ag : Bool} {n o : Nat} {os : List Pm.Obj}, loadP k os M ag n (.ptr a 0 o) = rowTake ag n o (M a 0) := loadP_out hr.ne
  simp only [wrRow] at hrow
  have h1 : ¬ ((n : Int) < 0) := by omega
  have h2 : ¬ ((n : Int) > 4611686018427387903) := by omega
  simp only [G0, Nat.reduceLT, Nat.reduceEqDiff, Nat.reduceAdd, Nat.reduceLeDiff, Nat.reduceMul, argsP, ptr_eql, pt110, hld, hrow, Bool.not_true, Bool.not_false, cnd_f, cnd_t, Bool.or_false, bne_self_eq_false, h1, h2, decide_false]
  refine cp0 (form_at n hn) (by decide) ?_
  have hfill : fillA 1 [.lst .full 0 0 []] [(0, encBytes (form n))] = some [encBytes (form n)] := rfl
  have hl := form_len n
  simp only [G0, Nat.reduceLT, Nat.reduceEqDiff, Nat.reduceAdd, Nat.reduceLeDiff, Nat.reduceMul, hfill]
  refine cw (b' := b ++ form n) (M0 := M0) (first := []) (cap := []) (PT.args (args' := [.ptr a 0 0, encLists [form n]]) (.cons (PLe.refl _) (.cons (PLe.no _ _ _ _) .nil)) ((put_at [form n] (by simp) a b (by simp [sumL]; omega) _ _ (h.push hf)).mono fun x M1 hq => by simpa using hq)) (by decide) fun x M1 hw => ?_
  simp only [G0, Nat.reduceLT, Nat.reduceEqDiff, Nat.reduceAdd, Nat.reduceLeDiff, Nat.reduceMul]
  exact endW hw (fresh_of_sub h.sub hf)
def rawB (p : List UInt8) : List UInt8 := form p.length ++ p
theorem raw_at (p : List UInt8) (a : Nat) (b : List UInt8) (hb : b.length + p.length ≤ 1000000) (M0 M : PMem) (h : Wst M0 M a b) : PT env Tryz.prog 84 [.ptr a 0 0, encBytes p] M (fun x M1 => Wst M0 M1 a (b ++ rawB p)) := by
  refine PT.enterG env_ok fn84 (by simp) comp84 fun k hk hf => ?_
  have hr := h.run hf
  have hl := form_len p.length
  simp only [G0, Nat.reduceLT, Nat.reduceEqDiff, Nat.reduceAdd, Nat.reduceLeDiff, Nat.reduceMul, argsP, encBytes]
  refine cp0 (form_at p.length (by omega)) (by decide) ?_
  have hfill : fillA 1 [.lst .full 0 0 [], .lst .full 0 0 []] [(0, encBytes (form p.length)), (1, .lst .no 1 p.length (p.map encB))] = some [encBytes (form p.length), encBytes p] := rfl
  simp only [G0, Nat.reduceLT, Nat.reduceEqDiff, Nat.reduceAdd, Nat.reduceLeDiff, Nat.reduceMul, hfill]
  refine cw (b' := b ++ rawB p) (M0 := M0) (first := [.ptr a 0 0]) (cap := []) (PT.args (args' := [.ptr a 0 0, encLists [form p.length, p]]) (.cons (PLe.refl _) (.cons (PLe.no _ _ _ _) .nil)) ((put_at [form p.length, p] (by simp) a b (by simp [sumL]; omega) _ _ (h.push hf)).mono fun x M1 hq => by simpa [rawB] using hq)) (by decide) fun x M1 hw => ?_
  simp only [G0, Nat.reduceLT, Nat.reduceEqDiff, Nat.reduceAdd, Nat.reduceLeDiff, Nat.reduceMul]
  exact endW hw (fresh_of_sub h.sub hf)
theorem text_at (p : List UInt8) (a : Nat) (b : List UInt8) (hb : b.length + p.length ≤ 1000000) (M0 M : PMem) (h : Wst M0 M a b) : PT env Tryz.prog 83 [.ptr a 0 0, str p] M (fun x M1 => Wst M0 M1 a (b ++ rawB p)) := by
  refine PT.enterG env_ok fn83 (by simp) comp83 fun k hk hf => ?_
  simp only [G0, Nat.reduceLT, Nat.reduceEqDiff, Nat.reduceAdd, Nat.reduceLeDiff, Nat.reduceMul, argsP]
  have he : PV.lst Tok.no 1 p.length (p.map fun b => PV.v (.int .u8 b.toNat)) = encBytes p := rfl
  rw [he]
  refine cw (b' := b ++ rawB p) (M0 := M0) (first := []) (cap := []) (raw_at p a b hb _ _ (h.push hf)) (by decide) fun x M1 hw => ?_
  simp only [G0, Nat.reduceLT, Nat.reduceEqDiff, Nat.reduceAdd, Nat.reduceLeDiff, Nat.reduceMul]
  exact endW hw (fresh_of_sub h.sub hf)
theorem new_at (M : PMem) : PT env Tryz.prog 81 [] M (fun x M1 => ∃ a, x = .ptr a 0 0 ∧ Wst M M1 a []) := by
  refine PT.enterR env_ok fn81 (by simp) comp81 fun k hk hf => RX.of env_ok ?_
  simp only [G0, Nat.reduceLT, Nat.reduceEqDiff, Nat.reduceAdd, Nat.reduceLeDiff, Nat.reduceMul, argsP]
  refine ⟨.inr rfl, [_], seg M k [wrRow .full []], rfl, fun a i o e => ?_, k, rfl, Pm.Sub.seg hf, hf, .full, by rw [seg_same]; rfl, .nil⟩
  by_cases ha : a = k
  · subst ha
    rw [seg_same] at e
    cases i with
    | zero =>
      cases e
      exact ⟨_, by rw [show PSt.mem _ = seg M a _ from rfl, seg_same]; rfl, .row _ _ (.cons (PLe.refl _) (.cons (PLe.nil 0 1) (.cons (PLe.refl _) .nil)))⟩
    | succ i => simp at e
  · rw [seg_ne _ _ _ ha] at e
    exact ⟨o, by rw [show PSt.mem _ = seg M k _ from rfl, seg_ne _ _ _ ha]; exact e, .refl _⟩
theorem clone88 (l : List UInt8) (hl : l.length ≤ 1000000) : PTp env Tryz.prog 141 [encBytes l] (encBytes l) := PTp.of fun M => by
  refine PT.enterR env_ok fn141 (by simp) comp141 fun k hk hf => RX.of env_ok ?_
  simp only [G0, Nat.reduceLT, Nat.reduceEqDiff, Nat.reduceAdd, Nat.reduceLeDiff, Nat.reduceMul, argsP, encBytes]
  refine nL_lst fun b hb => ?_
  simp only [G0, Nat.reduceLT, Nat.reduceEqDiff, Nat.reduceAdd, Nat.reduceLeDiff, Nat.reduceMul]
  cases b with
  | true =>
    have hz : l = [] := by
      cases l with
      | nil => rfl
      | cons x l => exact absurd (hb (by simp)) (by simp)
    subst hz
    simp only [G0, Nat.reduceLT, Nat.reduceEqDiff, Nat.reduceAdd, Nat.reduceLeDiff, Nat.reduceMul, Bool.xor_false]
    exact end1 hf rfl ⟨PLe.trans (PLe.nil 0 1) (PLe.no _ _ _ _), rfl⟩
  | false =>
    have hfill : fillA 1 [] [] = some [] := rfl
    simp only [G0, Nat.reduceLT, Nat.reduceEqDiff, Nat.reduceAdd, Nat.reduceLeDiff, Nat.reduceMul, Bool.xor_false, hfill]
    refine aL ?_
    by_cases hz : l.length = 0
    · have : l = [] := List.length_eq_zero_iff.1 hz
      subst this
      simp only [G0, Nat.reduceLT, Nat.reduceEqDiff, Nat.reduceAdd, Nat.reduceLeDiff, Nat.reduceMul, List.map_nil, ap_nil]
      exact end1 hf rfl ⟨PLe.no _ _ _ _, rfl⟩
    · have hc : (0 = 0 ∨ 1 = 1) ∧ (2 * (0 + l.length) + 2000) * 1 ≤ 281474976710656 ∧ 0 + l.length ≤ 4611686018427387904 ∧ 1 < 4096 ∧ 1 = 1 ∧ (l.map encB).all pone = true := ⟨.inl rfl, by omega, by omega, by decide, rfl, all_encB l⟩
      rw [ap_full hz hc]
      simp only [G0, Nat.reduceLT, Nat.reduceEqDiff, Nat.reduceAdd, Nat.reduceLeDiff, Nat.reduceMul]
      exact end1 hf rfl ⟨PLe.no _ _ _ _, rfl⟩
theorem out_at (a : Nat) (b : List UInt8) (hb : b.length ≤ 1000000) (M0 M : PMem) (h : Wst M0 M a b) : PTs env Tryz.prog M 85 [.ptr a 0 0] (.tup [encBytes b, iv 0]) := by
  obtain ⟨t, hrow, htok⟩ := h.row
  simp only [wrRow] at hrow
  refine PTs.enter env_ok fn85 (by simp) comp85 fun M' k hs hk hf => ?_
  have hrow' := hs _ _ _ hrow
  have hld : ∀ {ag : Bool} {n o : Nat} {os : List Pm.Obj}, loadP k os M' ag n (.ptr a 0 o) = rowTake ag n o (M' a 0) := loadP_out (fresh_ne hf hrow')
  simp only [G0, Nat.reduceLT, Nat.reduceEqDiff, Nat.reduceAdd, Nat.reduceLeDiff, Nat.reduceMul, argsP, ptr_eql, pt110, hld, hrow', Bool.not_true, Bool.not_false, cnd_f, cnd_t, Bool.or_false, bne_self_eq_false]
  refine cp0 (PTp.args (args' := [encBytes b]) (.cons (PLe.no _ _ _ _) .nil) (clone88 b hb)) (by decide) ?_
  simp only [G0, Nat.reduceLT, Nat.reduceEqDiff, Nat.reduceAdd, Nat.reduceLeDiff, Nat.reduceMul]
  exact end2 hf rfl rfl ⟨rfl, rfl⟩
end Go.Proofs.YtmgmbdnhodicjaaGreatDoor
end

section
namespace Go.Proofs.YtmgmbdnhodicjaaGreatDoor
open Go Go.Am Go.Pm
set_option maxHeartbeats 4000000
set_option maxRecDepth 100000
theorem rest110 : (match findLabel (subc [1, 0] body110) 0 with | some r => comp env r | none => .refuse) = c110_51 := by kernel_rfl
theorem has110 : (findLabel (subc [1, 0] body110) 0).isSome = true := by kernel_rfl
def numF (b : List UInt8) (p : Nat) (lo hi : Int) : Except (Int × Nat) (Nat × Nat) :=
  match b[p]? with
  | none => .error (4, b.length)
  | some m =>
    if m.toNat > 8 then .error (2, p) else
    if p + 1 + m.toNat > b.length then .error (4, b.length) else
    if (decide (m.toNat > 0) && b[p + 1]? == some 0) = true then .error (2, p) else
    let n := beN ((b.drop (p + 1)).take m.toNat) 0
    if (decide (n > 4611686018427387903) || (decide ((n : Int) < lo) || decide ((n : Int) > hi))) = true then .error (5, p) else .ok (n, p + 1 + m.toNat)
def numP (b : List UInt8) (p : Nat) (M : PMem) (a : Nat) : Except (Int × Nat) (Nat × Nat) → PV → PMem → Prop
  | .error (e, f), x, M1 => x = iv 0 ∧ M1 = putM M a 0 (rdRow b p e (f : Nat))
  | .ok (n, p'), x, M1 => x = iv (n : Nat) ∧ M1 = putM M a 0 (rdRow b p' 0 0)
theorem fault110 {M : PMem} {a k : Nat} {b : List UInt8} {p : Nat} (hM : M a 0 = some (rdRow b p 0 0)) (hf : fresh M k) (lo hi : Int) {tm : List (Nat × PV)} {e : Int} {f : Nat} (hr : numF b p lo hi = .error (e, f)) (t0 : tget tm 0 = .ptr a 0 0) (t9 : tget tm 9 = iv e) (t10 : tget tm 10 = iv (f : Nat)) :
    RX env Tryz.prog none c110_51 ⟨tm, 151, k, [], M⟩ (fun e s2 => (∀ l, e ≠ .goto l) ∧ ends env ⟨151, [.tmp 6], body110⟩ (numP b p M a (numF b p lo hi)) e s2) := by
  have hak : a ≠ k := fun e => by subst e; rw [hf 0] at hM; cases hM
  have hst : ∀ {tm : List (Nat × PV)} {os : List Pm.Obj}, storeP tm 151 k os M 2 (.agg [iv e, iv (f : Nat)]) (.ptr a 0 3) = some (.junk, ⟨tm, 151, k, os, putM M a 0 (rdRow b p e (f : Nat))⟩) := fun {tm os} => by
    rw [storeP_out hak, hM]
    have : storeO 2 3 (.agg [iv e, iv (f : Nat)]) (some (rdRow b p 0 0)) = some (rdRow b p e (f : Nat)) := storeO_eq (n := 2) (cs := rdC b p 0 0) (x := .agg [iv e, iv (f : Nat)]) ⟨rfl, by show 3 + 2 ≤ 5; decide, rfl⟩
    rw [this, stO_eq]
  refine RX.of env_ok ?_
  simp only [G0, Nat.reduceLT, Nat.reduceEqDiff, Nat.reduceAdd, Nat.reduceLeDiff, Nat.reduceMul, t0, t9, t10, hst]
  refine ⟨fun l h => (by cases h), ?_⟩
  refine end1 (fresh_put hf hak) rfl ?_
  rw [hr]
  exact ⟨rfl, rfl⟩
theorem tail110 {M : PMem} {a k : Nat} {b : List UInt8} {p many : Nat} (hb : b.length ≤ 1000000) (hM : M a 0 = some (rdRow b p 0 0)) (hf : fresh M k) (hp : p + 1 + many ≤ b.length) (lo hi : Int) {n : Nat} (hn : n < 18446744073709551616)
    (hr : numF b p lo hi = if (decide (n > 4611686018427387903) || (decide ((n : Int) < lo) || decide ((n : Int) > hi))) = true then .error (5, p) else .ok (n, p + 1 + many)) {ln : Nat} {tm : List (Nat × PV)} (hK : Kn tm a lo hi many ln) (t7 : tget tm 7 = uv n) :
    wX env Tryz.prog none c110_54 ⟨tm, 151, k, [], M⟩ (fun e s1 => (match e with | .goto l => l = 0 ∧ RX env Tryz.prog none c110_51 s1 (fun e s2 => (∀ l, e ≠ .goto l) ∧ ends env ⟨151, [.tmp 6], body110⟩ (numP b p M a (numF b p lo hi)) e s2) | _ => ends env ⟨151, [.tmp 6], body110⟩ (numP b p M a (numF b p lo hi)) e s1)) := by
  have hak : a ≠ k := fun e => by subst e; rw [hf 0] at hM; cases hM
  have hM' : M a 0 = some (.row .rw 0 (rdC b p 0 0)) := hM
  have hld : ∀ {ag : Bool} {n o : Nat} {os : List Pm.Obj} {M : PMem}, loadP k os M ag n (.ptr a 0 o) = rowTake ag n o (M a 0) := loadP_out hak
  obtain ⟨t0, t1, t2, t8, t9, t10⟩ := hK
  by_cases g : n > 4611686018427387903
  · have g' : ((n : Nat) : Int) > 4611686018427387903 := by omega
    rw [decide_eq_true g, Bool.true_or, if_pos rfl] at hr
    simp only [G0, Nat.reduceLT, Nat.reduceEqDiff, Nat.reduceAdd, Nat.reduceLeDiff, Nat.reduceMul, t0, t1, t2, t7, t8, g', decide_true, Bool.not_true, Bool.not_false, cnd_t, cnd_f, e_OH, gH_tt, gH_tf, gH_ff, gH_ft, hld, hM', rdC]
    exact fault110 hM hf lo hi hr t0 rfl rfl
  · have g' : ¬ (((n : Nat) : Int) > 4611686018427387903) := by omega
    have hcv : convI .i64 (uv n) = some (iv n) := conv_i64 (by omega)
    rw [decide_eq_false g, Bool.false_or] at hr
    by_cases g1 : (n : Int) < lo
    · rw [decide_eq_true g1, Bool.true_or, if_pos rfl] at hr
      simp only [G0, Nat.reduceLT, Nat.reduceEqDiff, Nat.reduceAdd, Nat.reduceLeDiff, Nat.reduceMul, t0, t1, t2, t7, t8, g', g1, decide_true, decide_false, hcv, Bool.not_true, Bool.not_false, Bool.false_or, cnd_t, cnd_f, e_OH, gH_tt, gH_tf, gH_ff, gH_ft, hld, hM', rdC]
      exact fault110 hM hf lo hi hr t0 rfl rfl
    · rw [decide_eq_false g1, Bool.false_or] at hr
      by_cases g2 : (n : Int) > hi
      · rw [decide_eq_true g2, if_pos rfl] at hr
        simp only [G0, Nat.reduceLT, Nat.reduceEqDiff, Nat.reduceAdd, Nat.reduceLeDiff, Nat.reduceMul, t0, t1, t2, t7, t8, g', g1, g2, decide_true, decide_false, hcv, Bool.not_true, Bool.not_false, Bool.false_or, cnd_t, cnd_f, e_OH, gH_tt, gH_tf, gH_ff, gH_ft, hld, hM', rdC]
        exact fault110 hM hf lo hi hr t0 rfl rfl
      · rw [decide_eq_false g2, if_neg (by decide)] at hr
        have hw1 : IntKind.i64.wrap (1 + (many : Nat) : Int) = ((1 + many : Nat) : Int) := by rw [wrap64_id (by omega) (by omega)]; rfl
        have hw2 : IntKind.i64.wrap ((p : Nat) + ((1 + many : Nat) : Int)) = ((p + 1 + many : Nat) : Int) := by rw [wrap64_id (by omega) (by omega)]; omega
        have hst : ∀ {tm : List (Nat × PV)} {os : List Pm.Obj}, storeP tm 151 k os M 1 (iv ((p + 1 + many : Nat) : Int)) (.ptr a 0 2) = some (.junk, ⟨tm, 151, k, os, putM M a 0 (rdRow b (p + 1 + many) 0 0)⟩) := fun {tm os} => by
          rw [storeP_out hak, hM]
          have : storeO 1 2 (iv ((p + 1 + many : Nat) : Int)) (some (rdRow b p 0 0)) = some (rdRow b (p + 1 + many) 0 0) := storeO_eq (n := 1) (cs := rdC b p 0 0) (x := iv ((p + 1 + many : Nat) : Int)) ⟨rfl, by show 2 + 1 ≤ 5; decide, rfl⟩
          rw [this, stO_eq]
        simp only [G0, Nat.reduceLT, Nat.reduceEqDiff, Nat.reduceAdd, Nat.reduceLeDiff, Nat.reduceMul, t0, t1, t2, t7, t8, g', g1, g2, decide_true, decide_false, hcv, Bool.not_true, Bool.not_false, Bool.false_or, cnd_t, cnd_f, e_OH, gH_tt, gH_tf, gH_ff, gH_ft, hld, hM', rdC, hw1, hw2, hst]
        refine end1 (fresh_put hf hak) rfl ?_
        rw [hr]
        exact ⟨rfl, rfl⟩
theorem rnum_at {M : PMem} {a : Nat} {b : List UInt8} {p : Nat} (hb : b.length ≤ 1000000) (hM : M a 0 = some (rdRow b p 0 0)) (hp : p ≤ b.length) (lo hi : Int) : PT env Tryz.prog 110 [.ptr a 0 0, iv lo, iv hi] M (numP b p M a (numF b p lo hi)) := by
  refine PT.enterR env_ok fn110 (by simp) comp110 fun k hk hf => ?_
  have hak : a ≠ k := fun e => by subst e; rw [hf 0] at hM; cases hM
  have hM' : M a 0 = some (.row .rw 0 (rdC b p 0 0)) := hM
  have hld : ∀ {ag : Bool} {n o : Nat} {os : List Pm.Obj} {M : PMem}, loadP k os M ag n (.ptr a 0 o) = rowTake ag n o (M a 0) := loadP_out hak
  refine RX.cut (fun s => ∃ tm, s = ⟨tm, 151, k, [], M⟩ ∧ tget tm 0 = .ptr a 0 0 ∧ tget tm 1 = iv lo ∧ tget tm 2 = iv hi) (RX.of env_ok ?_) ?_
  · simp only [G0, Nat.reduceLT, Nat.reduceEqDiff, Nat.reduceAdd, Nat.reduceLeDiff, Nat.reduceMul, argsP]
    exact ⟨_, rfl, rfl, rfl, rfl⟩
  rintro s ⟨tm, rfl, t0, t1, t2⟩
  refine RX.scopeL 0 piece110_1 rest110 has110 (RX.of env_ok ?_)
  have e0 : ((0 : Int) != 0) = false := by decide
  simp only [G0, Nat.reduceLT, Nat.reduceEqDiff, Nat.reduceAdd, Nat.reduceLeDiff, Nat.reduceMul, t0, t1, t2]
  refine cs0 (none151 hM') (Pm.Sub.seg hf) (by decide) ?_
  simp only [G0, Nat.reduceLT, Nat.reduceEqDiff, Nat.reduceAdd, Nat.reduceLeDiff, Nat.reduceMul, t0, t1, t2, hld, hM', rdC, encBytes, e0, Bool.not_true, Bool.not_false, cnd_t, cnd_f, Bool.or_false, Bool.false_or]
  have flt : ∀ {tm : List (Nat × PV)} {e : Int} {f : Nat}, numF b p lo hi = .error (e, f) → tget tm 0 = .ptr a 0 0 → tget tm 9 = iv e → tget tm 10 = iv (f : Nat) → _ := fun {tm e f} h1 h2 h3 h4 => fault110 (tm := tm) hM hf lo hi h1 h2 h3 h4
  by_cases hge : b.length ≤ p
  · have hgi : (p : Int) ≥ (b.length : Nat) := by omega
    have hr : numF b p lo hi = .error (4, b.length) := by
      unfold numF; rw [List.getElem?_eq_none hge]
    simp only [G0, Nat.reduceLT, Nat.reduceEqDiff, Nat.reduceAdd, Nat.reduceLeDiff, Nat.reduceMul, hgi, decide_true]
    exact flt hr t0 rfl rfl
  · have hgi : ¬ ((p : Int) ≥ (b.length : Nat)) := by omega
    have hpl : p < b.length := by omega
    obtain ⟨m, hm, hdm⟩ := getE hpl
    have hmb : (b.map encB)[p * 1]? = some (encB m) := by rw [Nat.mul_one]; exact byte_at hm
    have hm256 := u8_lt m
    have hcv : convI .i64 (encB m) = some (iv m.toNat) := conv_i64 (by omega)
    simp only [G0, Nat.reduceLT, Nat.reduceEqDiff, Nat.reduceAdd, Nat.reduceLeDiff, Nat.reduceMul, hgi, decide_false, t0, hld, hM', rdC, encBytes, hpl, hmb, hcv]
    by_cases h8 : m.toNat > 8
    · have h8' : ((m.toNat : Nat) : Int) > 8 := by omega
      have hr : numF b p lo hi = .error (2, p) := by
        unfold numF; rw [hm]; dsimp only; rw [if_pos h8]
      simp only [G0, Nat.reduceLT, Nat.reduceEqDiff, Nat.reduceAdd, Nat.reduceLeDiff, Nat.reduceMul, h8', decide_true, t0, hld, hM', rdC]
      exact flt hr t0 rfl rfl
    · have h8' : ¬ (((m.toNat : Nat) : Int) > 8) := by omega
      have hw1 : IntKind.i64.wrap ((b.length : Nat) - (p : Nat) : Int) = ((b.length - p : Nat) : Int) := by rw [wrap64_id (by omega) (by omega)]; omega
      have hw2 : IntKind.i64.wrap (((b.length - p : Nat) : Int) - 1) = ((b.length - p - 1 : Nat) : Int) := by rw [wrap64_id (by omega) (by omega)]; omega
      simp only [G0, Nat.reduceLT, Nat.reduceEqDiff, Nat.reduceAdd, Nat.reduceLeDiff, Nat.reduceMul, h8', decide_false, t0, hld, hM', rdC, encBytes, hw1, hw2]
      by_cases hfit : p + 1 + m.toNat > b.length
      · have hfi : ((m.toNat : Nat) : Int) > ((b.length - p - 1 : Nat) : Int) := by omega
        have hr : numF b p lo hi = .error (4, b.length) := by
          unfold numF; rw [hm]; dsimp only; rw [if_neg h8, if_pos hfit]
        simp only [G0, Nat.reduceLT, Nat.reduceEqDiff, Nat.reduceAdd, Nat.reduceLeDiff, Nat.reduceMul, hfi, decide_true]
        exact flt hr t0 rfl rfl
      · have hfi : ¬ (((m.toNat : Nat) : Int) > ((b.length - p - 1 : Nat) : Int)) := by omega
        have hw3 : IntKind.i64.wrap ((p : Nat) + 1 : Int) = ((p + 1 : Nat) : Int) := by rw [wrap64_id (by omega) (by omega)]; rfl
        have hw4 : IntKind.i64.wrap (((p + 1 : Nat) : Int) + ((m.toNat : Nat) : Int)) = ((p + 1 + m.toNat : Nat) : Int) := by rw [wrap64_id (by omega) (by omega)]; rfl
        have hsl := slice_lst (b := b) (l := p + 1) (h := p + 1 + m.toNat) (by omega) (by omega)
        have hsub : p + 1 + m.toNat - (p + 1) = m.toNat := by omega
        rw [hsub] at hsl
        have hll : ((b.drop (p + 1)).take m.toNat).length = m.toNat := by rw [List.length_take, List.length_drop]; omega
        generalize hL : (b.drop (p + 1)).take m.toNat = l at hsl hll
        simp only [G0, Nat.reduceLT, Nat.reduceEqDiff, Nat.reduceAdd, Nat.reduceLeDiff, Nat.reduceMul, hfi, decide_false, t0, hld, hM', rdC, encBytes, hw3, hw4, hsl]
        refine RX.loop (loop110 l (by omega) M k _ (a := a) (lo := lo) (hi := hi) (many := m.toNat) (ln := b.length) (fun tm2 hK s7 => ?_) l.length 0 _ rfl (Nat.zero_le _) (by exact ⟨t0, t1, t2, rfl, rfl, rfl⟩) (by rfl) (by rfl) (by rfl) (by rfl))
        obtain ⟨s0, s1, s2, s8, s9, s10⟩ := hK
        have hnlt : beN l 0 < 18446744073709551616 := by
          have := beN_lt l 0 0 (by decide)
          have h3 : 256 ^ (0 + l.length) ≤ 256 ^ 8 := Nat.pow_le_pow_right (by decide) (by omega)
          have h4 : (256 : Nat) ^ 8 = 18446744073709551616 := by decide
          omega
        have hz8 : ∀ {c : UInt8}, ((c.toNat : Int) == 0) = (some c == some (0 : UInt8)) := fun {c} => by
          have h1 : (some c == some (0 : UInt8)) = (c == 0) := rfl
          rw [h1]
          by_cases hc : c = 0
          · subst hc; rfl
          · have h2 : (c == 0) = false := by simp [hc]
            have h3 : c.toNat ≠ 0 := fun h => hc (UInt8.toNat_inj.1 h)
            rw [h2]; simp; omega
        have hr0 : numF b p lo hi = if (decide (m.toNat > 0) && b[p + 1]? == some 0) = true then .error (2, p) else
            if (decide (beN l 0 > 4611686018427387903) || (decide ((beN l 0 : Int) < lo) || decide ((beN l 0 : Int) > hi))) = true then .error (5, p) else .ok (beN l 0, p + 1 + m.toNat) := by
          unfold numF; rw [hm]; dsimp only; rw [if_neg h8, if_neg hfit, hL]
        have e55 : c110_55 = .seq c110_38 c110_54 := rfl
        have tl := fun (tm : List (Nat × PV)) (hr : numF b p lo hi = _) hK t7 => tail110 (many := m.toNat) (ln := b.length) (tm := tm) hb hM hf (by omega) lo hi hnlt hr hK t7
        generalize hX : c110_54 = X at e55 tl
        rw [e55]
        by_cases h0 : m.toNat > 0
        · have h0' : ((m.toNat : Nat) : Int) > 0 := by omega
          obtain ⟨c, hc, _⟩ := getE (show p + 1 < b.length by omega)
          have hcb : (b.map encB)[(p + 1) * 1]? = some (encB c) := by rw [Nat.mul_one]; exact byte_at hc
          have hpl1 : p + 1 < b.length := by omega
          have hz := hz8 (c := c)
          rw [decide_eq_true h0, Bool.true_and, hc] at hr0
          cases hcz : (some c == some (0 : UInt8)) with
          | true =>
            rw [hcz, if_pos rfl] at hr0
            rw [hcz] at hz
            simp only [G0, Nat.reduceLT, Nat.reduceEqDiff, Nat.reduceAdd, Nat.reduceLeDiff, Nat.reduceMul, s0, s8, h0', decide_true, hld, hM', rdC, encBytes, hw3, hpl1, hcb, encB, hz, cnd_t]
            exact flt hr0 s0 rfl rfl
          | false =>
            rw [hcz, if_neg (by decide)] at hr0
            rw [hcz] at hz
            simp only [G0, Nat.reduceLT, Nat.reduceEqDiff, Nat.reduceAdd, Nat.reduceLeDiff, Nat.reduceMul, s0, s8, h0', decide_true, hld, hM', rdC, encBytes, hw3, hpl1, hcb, encB, hz, cnd_t]
            exact tl _ hr0 (by exact ⟨s0, s1, s2, s8, s9, s10⟩) s7
        · have h0' : ¬ (((m.toNat : Nat) : Int) > 0) := by omega
          rw [decide_eq_false h0, Bool.false_and, if_neg (by decide)] at hr0
          simp only [G0, Nat.reduceLT, Nat.reduceEqDiff, Nat.reduceAdd, Nat.reduceLeDiff, Nat.reduceMul, s0, s8, h0', decide_false, Bool.not_true, Bool.not_false, cnd_f]
          exact tl _ hr0 (by exact ⟨s0, s1, s2, s8, s9, s10⟩) s7
end Go.Proofs.YtmgmbdnhodicjaaGreatDoor
end

section
namespace Go.Proofs.YtmgmbdnhodicjaaGreatDoor
open Go Go.Am Go.Pm
set_option maxHeartbeats 1000000
set_option maxRecDepth 100000
theorem l8_big {n : Nat} (h0 : 0 < n) (h : n < 256) : 1 ≤ l8 n ∧ l8 n ≤ 8 := by
  have : (List.range 256).all (fun n => decide (0 < n → 1 ≤ l8 n ∧ l8 n ≤ 8)) = true := by kernel_rfl
  exact of_decide_eq_true (List.all_eq_true.1 this n (List.mem_range.2 h)) h0
theorem l8_zero : l8 0 = 0 := by kernel_rfl
theorem many_eq {n : Nat} (h : n < 4294967296) : many n = if n = 0 then 0 else if n < 256 then 1 else if n < 65536 then 2 else if n < 16777216 then 3 else 4 := by
  unfold many l32 l16
  by_cases h1 : n < 256
  · have a1 : ¬ 65536 ≤ n := by omega
    have a2 : ¬ 256 ≤ n := by omega
    rw [if_neg a1, if_neg a2]
    by_cases h0 : n = 0
    · subst h0; rw [l8_zero]; rfl
    · have := l8_big (show 0 < n by omega) h1
      rw [if_neg h0, if_pos h1]; omega
  · rw [if_neg (show ¬ n = 0 by omega), if_neg h1]
    by_cases h2 : n < 65536
    · have a1 : ¬ 65536 ≤ n := by omega
      have := l8_big (show 0 < n / 256 by omega) (by omega)
      rw [if_neg a1, if_pos (show 256 ≤ n by omega), if_pos h2]; omega
    · rw [if_pos (show 65536 ≤ n by omega), if_neg h2]
      by_cases h3 : n < 16777216
      · have a2 : ¬ 256 ≤ n / 65536 := by omega
        have := l8_big (show 0 < n / 65536 by omega) (by omega)
        rw [if_neg a2, if_pos h3]; omega
      · have := l8_big (show 0 < n / 65536 / 256 by omega) (by omega)
        rw [if_pos (show 256 ≤ n / 65536 by omega), if_neg h3]; omega
theorem beN_acc : ∀ (l : List UInt8) (n : Nat), beN l n = n * 256 ^ l.length + beN l 0
  | [], n => by simp [beN]
  | c :: l, n => by
    have e1 : beN (c :: l) n = beN l (n * 256 + c.toNat) := rfl
    have e2 : beN (c :: l) 0 = beN l (0 * 256 + c.toNat) := rfl
    rw [e1, e2, beN_acc l (n * 256 + c.toNat), beN_acc l (0 * 256 + c.toNat), List.length_cons, Nat.pow_succ]
    have : (n * 256 + c.toNat) * 256 ^ l.length = n * (256 ^ l.length * 256) + c.toNat * 256 ^ l.length := by
      rw [Nat.add_mul, Nat.mul_assoc, Nat.mul_comm 256]
    rw [this, Nat.zero_mul, Nat.zero_add, Nat.add_assoc]
theorem byte_nat {n : Nat} (h : n < 256) : (UInt8.ofNat n).toNat = n := by rw [UInt8.toNat_ofNat']; omega
theorem formB_be (n : Nat) : ∀ i, i ≤ 8 → beN (formB n i) 0 = n % 256 ^ i
  | 0, _ => by simp [formB, beN, Nat.mod_one]
  | i + 1, hi => by
    have hm : min (8 * i) 64 = 8 * i := by omega
    have hp : 2 ^ (8 * i) = 256 ^ i := by rw [Nat.pow_mul]
    have e1 : beN (formB n (i + 1)) 0 = beN (formB n i) (0 * 256 + (UInt8.ofNat (n / 2 ^ min (8 * i) 64 % 256)).toNat) := rfl
    rw [e1, beN_acc, formB_be n i (by omega), formB_len, Nat.zero_mul, Nat.zero_add, byte_nat (Nat.mod_lt _ (by decide)), hm, hp]
    rw [Nat.pow_succ, Nat.mod_mul, Nat.mul_comm, Nat.add_comm]
theorem formB_of : ∀ (l : List UInt8), l.length ≤ 8 → formB (beN l 0) l.length = l
  | [], _ => rfl
  | c :: l, hl => by
    have hl' : l.length ≤ 8 := by simp only [List.length_cons] at hl; omega
    have hm : min (8 * l.length) 64 = 8 * l.length := by simp only [List.length_cons] at hl; omega
    have hp : 2 ^ (8 * l.length) = 256 ^ l.length := by rw [Nat.pow_mul]
    have e2 : beN (c :: l) 0 = c.toNat * 256 ^ l.length + beN l 0 := by
      have : beN (c :: l) 0 = beN l (0 * 256 + c.toNat) := rfl
      rw [this, beN_acc, Nat.zero_mul, Nat.zero_add]
    have hlt : beN l 0 < 256 ^ l.length := by have := beN_lt l 0 0 (by decide); rwa [Nat.zero_add] at this
    have hpos : 0 < 256 ^ l.length := Nat.pow_pos (by decide)
    have hdiv : (c.toNat * 256 ^ l.length + beN l 0) / 256 ^ l.length = c.toNat := by
      rw [Nat.mul_comm, Nat.mul_add_div hpos, Nat.div_eq_of_lt hlt, Nat.add_zero]
    have hc := u8_lt c
    show UInt8.ofNat (beN (c :: l) 0 / 2 ^ min (8 * l.length) 64 % 256) :: formB (beN (c :: l) 0) l.length = c :: l
    rw [hm, hp, e2, hdiv, Nat.mod_eq_of_lt hc]
    have hcc : UInt8.ofNat c.toNat = c := UInt8.ofNat_toNat
    rw [hcc]
    congr 1
    have key : ∀ (k : Nat), k ≤ l.length → ∀ q, formB (q * 256 ^ l.length + beN l 0) k = formB (beN l 0) k := by
      intro k
      induction k with
      | zero => intro _ q; rfl
      | succ k ih =>
        intro hk q
        have hm2 : min (8 * k) 64 = 8 * k := by omega
        have hp2 : 2 ^ (8 * k) = 256 ^ k := by rw [Nat.pow_mul]
        show UInt8.ofNat ((q * 256 ^ l.length + beN l 0) / 2 ^ min (8 * k) 64 % 256) :: formB _ k = UInt8.ofNat (beN l 0 / 2 ^ min (8 * k) 64 % 256) :: formB _ k
        rw [ih (by omega) q, hm2, hp2]
        congr 2
        have hsplit : 256 ^ l.length = 256 ^ k * (256 * 256 ^ (l.length - k - 1)) := by
          rw [← Nat.pow_succ', ← Nat.pow_add]
          congr 1; omega
        have hpk : 0 < 256 ^ k := Nat.pow_pos (by decide)
        rw [hsplit]
        have e3 : q * (256 ^ k * (256 * 256 ^ (l.length - k - 1))) = 256 ^ k * (256 * (q * 256 ^ (l.length - k - 1))) := by
          simp only [Nat.mul_comm, Nat.mul_left_comm, Nat.mul_assoc]
        rw [e3, Nat.mul_add_div hpk, Nat.mul_add_mod]
    rw [key l.length (Nat.le_refl _) c.toNat]
    exact formB_of l hl'
end Go.Proofs.YtmgmbdnhodicjaaGreatDoor
end

section
namespace Go.Proofs.YtmgmbdnhodicjaaGreatDoor
open Go Go.Am Go.Pm
set_option maxHeartbeats 2000000
set_option maxRecDepth 100000
theorem shl_i64 {n t : Nat} {c d : Bool} (h : n < 281474976710656) : pbin env .shl t c d (iv (n : Nat)) (.v (.int .u64 8)) = some (iv ((n * 256 : Nat) : Int)) := by
  have h0 : ¬ ((8 : Int) < 0) := by decide
  have h1 : ((8 : Int).toNat) = 8 := rfl
  have h2 : min 8 IntKind.i64.bits = 8 := by decide
  have h3 : (n : Int) * 2 ^ 8 = ((n * 256 : Nat) : Int) := by rw [Int.natCast_mul]; rfl
  simp only [pbin, binV, shiftV, if_neg h0, h1, h2, Option.map_some]
  rw [h3, wrap64_id (by omega) (by omega)]
theorem or_i64 {n m t : Nat} {c d : Bool} (h : n < 281474976710656) (hm : m < 256) : pbin env .or t c d (iv ((n * 256 : Nat) : Int)) (iv (m : Nat)) = some (iv ((n * 256 + m : Nat) : Int)) := by
  have hb : IntKind.i64.bits = 64 := rfl
  have e1 : (BitVec.ofInt IntKind.i64.bits ((n * 256 : Nat) : Int) ||| BitVec.ofInt IntKind.i64.bits ((m : Nat) : Int)).toNat = n * 256 + m := by
    rw [BitVec.toNat_or, BitVec.ofInt_natCast, BitVec.ofInt_natCast, BitVec.toNat_ofNat, BitVec.toNat_ofNat, hb]
    rw [Nat.mod_eq_of_lt (show n * 256 < 2 ^ 64 by omega), Nat.mod_eq_of_lt (show m < 2 ^ 64 by omega)]
    have := Nat.two_pow_add_eq_or_of_lt (i := 8) (b := m) (by omega) n
    have e : 2 ^ 8 * n = n * 256 := by omega
    rw [e] at this
    exact this.symm
  simp only [pbin, binV, intBin, if_true, Option.map_some]
  rw [e1, wrap64_id (by omega) (by omega)]
theorem loop153 (l : List UInt8) (hl : l.length ≤ 6) (M : PMem) (k : Nat) (Q : AExit → PSt → Prop) (q : ∀ tm, tget tm 3 = iv (beN l 0 : Nat) → Q (.exit 0) ⟨tm, 19, k, [], M⟩) :
    ∀ d i tm, l.length - i = d → i ≤ l.length → tget tm 3 = iv (beN (l.take i) 0 : Nat) → tget tm 6 = encBytes l → tget tm 7 = iv l.length → tget tm 8 = iv i → RXL env Tryz.prog none c153_12 ⟨tm, 19, k, [], M⟩ Q := by
  intro d
  induction d with
  | zero =>
    intro i tm hd hi' t3 t6 t7 t8
    have : i = l.length := by omega
    subst this
    rw [List.take_length] at t3
    refine RXL.round (RX.of env_ok ?_)
    simp only [G0, Nat.reduceLT, Nat.reduceEqDiff, Nat.reduceAdd, Nat.reduceLeDiff, Nat.reduceMul, t7, t8, Int.lt_irrefl, decide_false]
    exact q _ t3
  | succ d ih =>
    intro i tm hd hi' t3 t6 t7 t8
    have hi2 : i < l.length := by omega
    have hii : (i : Int) < l.length := by omega
    obtain ⟨c, hc, hdx⟩ := getE hi2
    have hb : (l.map encB)[i * 1]? = some (encB c) := by rw [Nat.mul_one]; exact byte_at hc
    have hw : IntKind.i64.wrap ((i : Int) + 1) = ((i + 1 : Nat) : Int) := by rw [wrap64_id (by omega) (by omega)]; rfl
    have hlt : beN (l.take i) 0 < 281474976710656 := by
      have := beN_lt (l.take i) 0 0 (by decide)
      have h2 : (l.take i).length ≤ 5 := by rw [List.length_take]; omega
      have h3 : 256 ^ (0 + (l.take i).length) ≤ 256 ^ 5 := Nat.pow_le_pow_right (by decide) (by omega)
      have h4 : (256 : Nat) ^ 5 = 1099511627776 := by decide
      omega
    have hcv : ∀ {c : UInt8}, convI .i64 (encB c) = some (iv c.toNat) := fun {c} => by
      have := u8_lt c
      exact conv_i64 (by omega)
    have hnx : beN (l.take (i + 1)) 0 = beN (l.take i) 0 * 256 + c.toNat := by
      rw [List.take_add_one, hc]
      unfold beN
      rw [List.foldl_append]
      rfl
    have hs : ∀ {t : Nat} {c d : Bool}, pbin env .shl t c d (iv (beN (l.take i) 0 : Nat)) (.v (.int .u64 8)) = some (iv ((beN (l.take i) 0 * 256 : Nat) : Int)) := shl_i64 hlt
    have ho : ∀ {t : Nat} {c1 d : Bool}, pbin env .or t c1 d (iv ((beN (l.take i) 0 * 256 : Nat) : Int)) (iv c.toNat) = some (iv ((beN (l.take i) 0 * 256 + c.toNat : Nat) : Int)) := or_i64 hlt (u8_lt c)
    refine RXL.round (RX.of env_ok ?_)
    simp only [G0, Nat.reduceLT, Nat.reduceEqDiff, Nat.reduceAdd, Nat.reduceLeDiff, Nat.reduceMul, t3, t6, t7, t8, encBytes, hii, decide_true, hi2, hb, hs, hcv, ho, hw]
    exact ih (i + 1) _ (by omega) (by omega) (by rw [hnx]; rfl) (by exact t6) (by exact t7) (by rfl)
theorem number_at (l : List UInt8) (hl : l.length ≤ 6) : PTp env Tryz.prog 153 [encBytes l] (iv (beN l 0 : Nat)) := fun M => by
  refine PT.enterR env_ok fn153 (by simp) comp153 fun k hk hf => RX.of env_ok ?_
  simp only [G0, Nat.reduceLT, Nat.reduceEqDiff, Nat.reduceAdd, Nat.reduceLeDiff, Nat.reduceMul, argsP, encBytes]
  refine RX.loop (loop153 l hl M k _ (fun tm t3 => ?_) l.length 0 _ rfl (Nat.zero_le _) (by rfl) (by rfl) (by rfl) (by rfl))
  simp only [G0, Nat.reduceLT, Nat.reduceEqDiff, Nat.reduceAdd, Nat.reduceLeDiff, Nat.reduceMul, t3]
  exact end1 hf rfl ⟨rfl, rfl⟩
end Go.Proofs.YtmgmbdnhodicjaaGreatDoor
end

section
namespace Go.Proofs.YtmgmbdnhodicjaaGreatDoor
open Go Go.Am Go.Pm
set_option maxHeartbeats 4000000
set_option maxRecDepth 100000
structure RS where
  p : Nat
  e : Int
  f : Nat
def rsRow (b : List UInt8) (s : RS) : Pm.Obj := rdRow b s.p s.e s.f
def numS (b : List UInt8) (s : RS) (lo hi : Int) : Int × RS :=
  if s.e = 0 then (match numF b s.p lo hi with
    | .error (e, f) => (0, ⟨s.p, e, f⟩)
    | .ok (n, p) => (n, ⟨p, 0, 0⟩)) else (0, s)
def rawF (b : List UInt8) (p : Nat) (most : Int) : Except (Int × Nat) (List UInt8 × Nat) :=
  match numF b p 0 4611686018427387903 with
  | .error x => .error x
  | .ok (n, p') => if (n : Int) > most then .error (3, p) else if (n : Int) > ((b.length - p' : Nat) : Int) then .error (4, b.length) else .ok ((b.drop p').take n, p' + n)
def rawS (b : List UInt8) (s : RS) (most : Int) : List UInt8 × RS :=
  if s.e = 0 then (match rawF b s.p most with
    | .error (e, f) => ([], ⟨s.p, e, f⟩)
    | .ok (l, p) => (l, ⟨p, 0, 0⟩)) else ([], s)
def rsOk (b : List UInt8) (s : RS) : Prop := s.p ≤ b.length ∧ (s.e = 0 → s.f = 0)
theorem numF_ok {b : List UInt8} {p n p' : Nat} {lo hi : Int} (h : numF b p lo hi = .ok (n, p')) : p < p' ∧ p' ≤ b.length ∧ lo ≤ n ∧ (n : Int) ≤ hi ∧ n ≤ 4611686018427387903 := by
  unfold numF at h
  split at h
  · cases h
  · rename_i m hm
    have hpl : p < b.length := (List.getElem?_eq_some_iff.1 hm).1
    split at h
    · cases h
    · split at h
      · cases h
      · split at h
        · cases h
        · dsimp only at h
          split at h
          · cases h
          · rename_i h1
            simp only [Bool.or_eq_true, decide_eq_true_eq] at h1
            cases h
            omega
theorem numF_err {b : List UInt8} {p : Nat} {lo hi : Int} {e : Int} {f : Nat} (h : numF b p lo hi = .error (e, f)) : e ≠ 0 := by
  unfold numF at h
  split at h
  · cases h; decide
  · split at h
    · cases h; decide
    · split at h
      · cases h; decide
      · split at h
        · cases h; decide
        · dsimp only at h
          split at h
          · cases h; decide
          · cases h
theorem numS_ok {b : List UInt8} {s : RS} (h : rsOk b s) (lo hi : Int) : rsOk b (numS b s lo hi).2 := by
  unfold numS
  split
  · split
    · rename_i e f hq
      exact ⟨h.1, fun h2 => absurd h2 (numF_err hq)⟩
    · rename_i n p hq
      exact ⟨(numF_ok hq).2.1, fun _ => rfl⟩
  · exact h
theorem putM_id {M : PMem} {k i : Nat} {o : Pm.Obj} (h : M k i = some o) : putM M k i o = M := by
  funext a j
  unfold putM
  by_cases hk : a = k ∧ j = i
  · rw [if_pos hk, hk.1, hk.2, h]
  · rw [if_neg hk]
theorem numS_at {M : PMem} {a : Nat} {b : List UInt8} {s : RS} (hb : b.length ≤ 1000000) (hM : M a 0 = some (rsRow b s)) (hs : rsOk b s) (lo hi : Int) : PT env Tryz.prog 110 [.ptr a 0 0, iv lo, iv hi] M (fun x M1 => x = iv (numS b s lo hi).1 ∧ M1 = putM M a 0 (rsRow b (numS b s lo hi).2)) := by
  obtain ⟨p, e, f⟩ := s
  by_cases he : e = 0
  · subst he
    have hf0 : f = 0 := hs.2 rfl
    subst hf0
    refine (rnum_at hb hM hs.1 lo hi).mono fun x M1 h => ?_
    unfold numS
    rw [if_pos rfl]
    dsimp only
    cases hq : numF b p lo hi with
    | error y => obtain ⟨e, f⟩ := y; rw [hq] at h; exact h
    | ok y => obtain ⟨n, p'⟩ := y; rw [hq] at h; exact h
  · have hM' : M a 0 = some (.row .rw 0 (rdC b p e f)) := hM
    unfold numS
    rw [if_neg he]
    dsimp only
    rw [putM_id hM]
    refine PT.enterR env_ok fn110 (by simp) comp110 fun k hk hf => ?_
    have hak : a ≠ k := fun e => by subst e; rw [hf 0] at hM; cases hM
    have hld : ∀ {ag : Bool} {n o : Nat} {os : List Pm.Obj} {M : PMem}, loadP k os M ag n (.ptr a 0 o) = rowTake ag n o (M a 0) := loadP_out hak
    have e1 : (e != 0) = true := by simp [he]
    refine RX.cut (fun s => ∃ tm, s = ⟨tm, 151, k, [], M⟩ ∧ tget tm 0 = .ptr a 0 0) (RX.of env_ok ?_) ?_
    · simp only [G0, Nat.reduceLT, Nat.reduceEqDiff, Nat.reduceAdd, Nat.reduceLeDiff, Nat.reduceMul, argsP]
      exact ⟨_, rfl, rfl⟩
    rintro s ⟨tm, rfl, t0⟩
    refine RX.scopeL 0 piece110_1 rest110 has110 (RX.of env_ok ?_)
    simp only [G0, Nat.reduceLT, Nat.reduceEqDiff, Nat.reduceAdd, Nat.reduceLeDiff, Nat.reduceMul, t0]
    refine cs0 (none151 hM') (Pm.Sub.seg hf) (by decide) ?_
    simp only [G0, Nat.reduceLT, Nat.reduceEqDiff, Nat.reduceAdd, Nat.reduceLeDiff, Nat.reduceMul, t0, hld, hM', rdC, encBytes, e1, Bool.not_true, Bool.not_false, cnd_t, cnd_f, Bool.or_false, Bool.false_or]
    exact end1 hf rfl ⟨rfl, rfl⟩
end Go.Proofs.YtmgmbdnhodicjaaGreatDoor
end

section
namespace Go.Proofs.YtmgmbdnhodicjaaGreatDoor
open Go Go.Am Go.Pm
set_option maxHeartbeats 4000000
set_option maxRecDepth 100000
theorem pt_le {f : Nat} {args : List PV} {M M2 : PMem} {v : PV} (h : PT env Tryz.prog f args M (fun x M1 => PLe x v ∧ M1 = M2)) : PT env Tryz.prog f args M (fun x M1 => x = v ∧ M1 = M2) :=
  PT.conseq h fun x M1 ⟨e1, e2⟩ => ⟨_, M1, e1, .refl _, rfl, e2⟩
theorem nilB : PLe (.lst .full 0 0 []) (encBytes []) := PLe.nil_no .full 0 1 rfl
theorem rawF_ok {b : List UInt8} {p : Nat} {most : Int} {l : List UInt8} {p' : Nat} (h : rawF b p most = .ok (l, p')) : p < p' ∧ p' ≤ b.length ∧ (l.length : Int) ≤ most := by
  unfold rawF at h
  split at h
  · cases h
  · rename_i n q hq
    have := numF_ok hq
    split at h
    · cases h
    · rename_i h1
      split at h
      · cases h
      · rename_i h2
        cases h
        rw [List.length_take, List.length_drop]
        omega
theorem rawF_err {b : List UInt8} {p : Nat} {most : Int} {e : Int} {f : Nat} (h : rawF b p most = .error (e, f)) : e ≠ 0 := by
  unfold rawF at h
  split at h
  · rename_i x hq
    cases h
    exact numF_err hq
  · split at h
    · cases h; decide
    · split at h
      · cases h; decide
      · cases h
theorem rawS_ok {b : List UInt8} {s : RS} (h : rsOk b s) (most : Int) : rsOk b (rawS b s most).2 := by
  unfold rawS
  split
  · split
    · rename_i e f hq
      exact ⟨h.1, fun h2 => absurd h2 (rawF_err hq)⟩
    · rename_i l p hq
      exact ⟨(rawF_ok hq).2.1, fun _ => rfl⟩
  · exact h
theorem rawS_err {b : List UInt8} {p : Nat} {most e : Int} {f : Nat} (h : rawF b p most = .error (e, f)) : rawS b ⟨p, 0, 0⟩ most = ([], ⟨p, e, f⟩) := by
  unfold rawS; rw [if_pos rfl]; dsimp only; rw [h]
theorem rawS_val {b l : List UInt8} {p q : Nat} {most : Int} (h : rawF b p most = .ok (l, q)) : rawS b ⟨p, 0, 0⟩ most = (l, ⟨q, 0, 0⟩) := by
  unfold rawS; rw [if_pos rfl]; dsimp only; rw [h]
theorem rawS_at {M : PMem} {a : Nat} {b : List UInt8} {s : RS} (hb : b.length ≤ 1000000) (hM : M a 0 = some (rsRow b s)) (hs : rsOk b s) (most : Int) : PT env Tryz.prog 112 [.ptr a 0 0, iv most] M (fun x M1 => x = encBytes (rawS b s most).1 ∧ M1 = putM M a 0 (rsRow b (rawS b s most).2)) := by
  obtain ⟨p, e, f⟩ := s
  refine pt_le ?_
  refine PT.enterR env_ok fn112 (by simp) comp112 fun k hk hf => ?_
  have hM' : M a 0 = some (.row .rw 0 (rdC b p e f)) := hM
  have hak : a ≠ k := fun e => by subst e; rw [hf 0] at hM; cases hM
  have hld : ∀ {ag : Bool} {n o : Nat} {os : List Pm.Obj} {M : PMem}, loadP k os M ag n (.ptr a 0 o) = rowTake ag n o (M a 0) := loadP_out hak
  by_cases he : e = 0
  · subst he
    have hf0 : f = 0 := hs.2 rfl
    subst hf0
    have hpl : p ≤ b.length := hs.1
    have e0 : ((0 : Int) != 0) = false := by decide
    have hnum := rnum_at hb hM hpl 0 4611686018427387903
    have sto2 : ∀ {M : PMem} {b : List UInt8} {p p1 : Nat} {e f : Int} {tm : List (Nat × PV)} {os : List Pm.Obj}, M a 0 = some (rdRow b p e f) → storeP tm 95 k os M 1 (iv (p1 : Nat)) (.ptr a 0 2) = some (.junk, ⟨tm, 95, k, os, putM M a 0 (rdRow b p1 e f)⟩) := fun {M b p p1 e f tm os} h => by
      rw [storeP_out hak, h]
      have : storeO 1 2 (iv (p1 : Nat)) (some (rdRow b p e f)) = some (rdRow b p1 e f) := storeO_eq (n := 1) (cs := rdC b p e f) (x := iv (p1 : Nat)) ⟨rfl, by show 2 + 1 ≤ 5; decide, rfl⟩
      rw [this, stO_eq]
    have sto3 : ∀ {M : PMem} {b : List UInt8} {p : Nat} {e f e1 f1 : Int} {tm : List (Nat × PV)} {os : List Pm.Obj}, M a 0 = some (rdRow b p e f) → storeP tm 95 k os M 2 (.agg [iv e1, iv f1]) (.ptr a 0 3) = some (.junk, ⟨tm, 95, k, os, putM M a 0 (rdRow b p e1 f1)⟩) := fun {M b p e f e1 f1 tm os} h => by
      rw [storeP_out hak, h]
      have : storeO 2 3 (.agg [iv e1, iv f1]) (some (rdRow b p e f)) = some (rdRow b p e1 f1) := storeO_eq (n := 2) (cs := rdC b p e f) (x := .agg [iv e1, iv f1]) ⟨rfl, by show 3 + 2 ≤ 5; decide, rfl⟩
      rw [this, stO_eq]
    have put2 : ∀ {o1 o2 : Pm.Obj} {M : PMem}, putM (putM M a 0 o1) a 0 o2 = putM M a 0 o2 := putM_put
    have put3 : ∀ {o : Pm.Obj} {M : PMem}, putM M a 0 o a 0 = some o := putM_same _ _ _ _
    refine RX.of env_ok ?_
    simp only [G0, Nat.reduceLT, Nat.reduceEqDiff, Nat.reduceAdd, Nat.reduceLeDiff, Nat.reduceMul, argsP]
    refine cs0 (none151 hM') (Pm.Sub.seg hf) (by decide) ?_
    simp only [G0, Nat.reduceLT, Nat.reduceEqDiff, Nat.reduceAdd, Nat.reduceLeDiff, Nat.reduceMul, hld, hM', rdC, encBytes, e0, Bool.not_true, Bool.not_false, cnd_t, cnd_f, Bool.or_false, Bool.false_or]
    refine cm (first := []) (cap := []) ?_
    rw [segNil hf]
    refine hnum.mono fun x M1 hP => ⟨[], M1, rfl, MLe.seg_nil' _ _, by decide, ?_⟩
    cases hq : numF b p 0 4611686018427387903 with
    | error y =>
      obtain ⟨e, f⟩ := y
      rw [hq] at hP
      obtain ⟨rfl, rfl⟩ := hP
      have hr : rawF b p most = .error (e, f) := by unfold rawF; rw [hq]
      rw [rawS_err hr]
      have he1 : (e != 0) = true := by simp [numF_err hq]
      have hrow : putM M a 0 (rdRow b p e (f : Nat)) a 0 = some (.row .rw 0 (rdC b p e (f : Nat))) := putM_same _ _ _ _
      have hs2 := fun (tm : List (Nat × PV)) => sto2 (M := putM M a 0 (rdRow b p e (f : Nat))) (b := b) (p := p) (p1 := p) (e := e) (f := (f : Nat)) (tm := tm) (os := []) put3
      simp only [G0, Nat.reduceLT, Nat.reduceEqDiff, Nat.reduceAdd, Nat.reduceLeDiff, Nat.reduceMul, hld, hrow, rdC, encBytes, he1, hs2, put2, cnd_t, cnd_f]
      exact end1 (fresh_put hf hak) rfl ⟨nilB, rfl⟩
    | ok y =>
      obtain ⟨n, q⟩ := y
      rw [hq] at hP
      obtain ⟨rfl, rfl⟩ := hP
      have hn := numF_ok hq
      have hrow : putM M a 0 (rdRow b q 0 0) a 0 = some (.row .rw 0 (rdC b q 0 0)) := putM_same _ _ _ _
      by_cases h1 : (n : Int) > most
      · have hr : rawF b p most = .error (3, p) := by unfold rawF; rw [hq]; dsimp only; rw [if_pos h1]
        rw [rawS_err hr]
        have hs3 := fun (tm : List (Nat × PV)) => sto3 (M := putM M a 0 (rdRow b q 0 0)) (b := b) (p := q) (e := 0) (f := 0) (e1 := 3) (f1 := (p : Nat)) (tm := tm) (os := []) put3
        have hrow2 : putM M a 0 (rdRow b q 3 (p : Nat)) a 0 = some (.row .rw 0 (rdC b q 3 (p : Nat))) := putM_same _ _ _ _
        have hs2 := fun (tm : List (Nat × PV)) => sto2 (M := putM M a 0 (rdRow b q 3 (p : Nat))) (b := b) (p := q) (p1 := p) (e := 3) (f := (p : Nat)) (tm := tm) (os := []) put3
        have e3 : ((3 : Int) != 0) = true := by decide
        simp only [G0, Nat.reduceLT, Nat.reduceEqDiff, Nat.reduceAdd, Nat.reduceLeDiff, Nat.reduceMul, hld, hrow, rdC, encBytes, e0, h1, decide_true, hs3, put2, hrow2, e3, hs2, cnd_t, cnd_f]
        exact end1 (fresh_put hf hak) rfl ⟨nilB, rfl⟩
      · have hw1 : IntKind.i64.wrap ((b.length : Nat) - (q : Nat) : Int) = ((b.length - q : Nat) : Int) := by rw [wrap64_id (by omega) (by omega)]; omega
        by_cases h2 : (n : Int) > ((b.length - q : Nat) : Int)
        · have hr : rawF b p most = .error (4, b.length) := by unfold rawF; rw [hq]; dsimp only; rw [if_neg h1, if_pos h2]
          rw [rawS_err hr]
          have hs3 := fun (tm : List (Nat × PV)) => sto3 (M := putM M a 0 (rdRow b q 0 0)) (b := b) (p := q) (e := 0) (f := 0) (e1 := 4) (f1 := (b.length : Nat)) (tm := tm) (os := []) put3
          have hrow2 : putM M a 0 (rdRow b q 4 (b.length : Nat)) a 0 = some (.row .rw 0 (rdC b q 4 (b.length : Nat))) := putM_same _ _ _ _
          have hs2 := fun (tm : List (Nat × PV)) => sto2 (M := putM M a 0 (rdRow b q 4 (b.length : Nat))) (b := b) (p := q) (p1 := p) (e := 4) (f := (b.length : Nat)) (tm := tm) (os := []) put3
          have e4 : ((4 : Int) != 0) = true := by decide
          simp only [G0, Nat.reduceLT, Nat.reduceEqDiff, Nat.reduceAdd, Nat.reduceLeDiff, Nat.reduceMul, hld, hrow, rdC, encBytes, e0, h1, hw1, h2, decide_true, decide_false, hs3, put2, hrow2, e4, hs2, cnd_t, cnd_f]
          exact end1 (fresh_put hf hak) rfl ⟨nilB, rfl⟩
        · have hr : rawF b p most = .ok ((b.drop q).take n, q + n) := by unfold rawF; rw [hq]; dsimp only; rw [if_neg h1, if_neg h2]
          rw [rawS_val hr]
          have hw2 : IntKind.i64.wrap ((q : Nat) + (n : Nat) : Int) = ((q + n : Nat) : Int) := by rw [wrap64_id (by omega) (by omega)]; rfl
          have hw3 : IntKind.i64.wrap (((q + n : Nat) : Int) - (n : Nat)) = ((q : Nat) : Int) := by rw [wrap64_id (by omega) (by omega)]; omega
          have hs2 := fun (tm : List (Nat × PV)) => sto2 (M := putM M a 0 (rdRow b q 0 0)) (b := b) (p := q) (p1 := q + n) (e := 0) (f := 0) (tm := tm) (os := []) put3
          have hrow2 : putM M a 0 (rdRow b (q + n) 0 0) a 0 = some (.row .rw 0 (rdC b (q + n) 0 0)) := putM_same _ _ _ _
          have hsl := slice_lst (b := b) (l := q) (h := q + n) (by omega) (by omega)
          have hsub : q + n - q = n := by omega
          rw [hsub] at hsl
          simp only [G0, Nat.reduceLT, Nat.reduceEqDiff, Nat.reduceAdd, Nat.reduceLeDiff, Nat.reduceMul, hld, hrow, rdC, encBytes, e0, h1, hw1, h2, decide_true, decide_false, hw2, hs2, put2, hrow2, hw3, hsl, cnd_t, cnd_f]
          refine cp0 (clone88 ((b.drop q).take n) (by rw [List.length_take, List.length_drop]; omega)) (by decide) ?_
          simp only [G0, Nat.reduceLT, Nat.reduceEqDiff, Nat.reduceAdd, Nat.reduceLeDiff, Nat.reduceMul]
          exact end1 (fresh_put hf hak) rfl ⟨.refl _, rfl⟩
  · have e1 : (e != 0) = true := by simp [he]
    have hraw : rawS b ⟨p, e, f⟩ most = ([], ⟨p, e, f⟩) := by unfold rawS; rw [if_neg he]
    rw [hraw]
    dsimp only
    rw [putM_id hM]
    refine RX.of env_ok ?_
    simp only [G0, Nat.reduceLT, Nat.reduceEqDiff, Nat.reduceAdd, Nat.reduceLeDiff, Nat.reduceMul, argsP]
    refine cs0 (none151 hM') (Pm.Sub.seg hf) (by decide) ?_
    simp only [G0, Nat.reduceLT, Nat.reduceEqDiff, Nat.reduceAdd, Nat.reduceLeDiff, Nat.reduceMul, hld, hM', rdC, encBytes, e1, Bool.not_true, Bool.not_false, cnd_t, cnd_f, Bool.or_false, Bool.false_or]
    exact end1 hf rfl ⟨nilB, rfl⟩
end Go.Proofs.YtmgmbdnhodicjaaGreatDoor
end

section
namespace Go.Proofs.YtmgmbdnhodicjaaGreatDoor
open Go Go.Am Go.Pm
set_option maxHeartbeats 4000000
set_option maxRecDepth 100000
theorem rtext_at {M : PMem} {a : Nat} {b : List UInt8} {s : RS} (hb : b.length ≤ 1000000) (hM : M a 0 = some (rsRow b s)) (hs : rsOk b s) (most : Int) : PT env Tryz.prog 111 [.ptr a 0 0, iv most] M (fun x M1 => x = str (rawS b s most).1 ∧ M1 = putM M a 0 (rsRow b (rawS b s most).2)) := by
  refine PT.enterR env_ok fn111 (by simp) comp111 fun k hk hf => RX.of env_ok ?_
  have hak : a ≠ k := fun e => by subst e; rw [hf 0] at hM; cases hM
  simp only [G0, Nat.reduceLT, Nat.reduceEqDiff, Nat.reduceAdd, Nat.reduceLeDiff, Nat.reduceMul, argsP]
  refine cm (first := []) (cap := []) ?_
  rw [segNil hf]
  refine (rawS_at hb hM hs most).mono fun x M1 ⟨h1, h2⟩ => ⟨[], M1, rfl, MLe.seg_nil' _ _, by decide, ?_⟩
  subst h1 h2
  simp only [G0, Nat.reduceLT, Nat.reduceEqDiff, Nat.reduceAdd, Nat.reduceLeDiff, Nat.reduceMul, encBytes, convB_enc]
  exact end1 (fresh_put hf hak) rfl ⟨rfl, rfl⟩
theorem open_at (b : List UInt8) (hb : b.length ≤ 1000000) (M : PMem) : PTk env Tryz.prog 109 [encBytes b] M (fun nk x M1 => ∃ k, nk ≤ k ∧ fresh M k ∧ x = .ptr k 0 0 ∧ M1 = seg M k [rsRow b ⟨0, 0, 0⟩]) := by
  refine PTk.enterR env_ok fn109 (by simp) comp109 fun k hk hf => RX.of env_ok ?_
  simp only [G0, Nat.reduceLT, Nat.reduceEqDiff, Nat.reduceAdd, Nat.reduceLeDiff, Nat.reduceMul, argsP]
  refine cp0 (clone88 b hb) (by decide) ?_
  have hfill : fillN [(0, 1), (1, 1), (2, 1), (3, 2)] [.v (.bool true), .lst .full 0 0 [], .v (.int .i64 0), .v (.int .i64 0), .v (.int .i64 0)] (encBytes b) [] (some (1, 1)) = some (rdC b 0 0 0) := rfl
  simp only [G0, Nat.reduceLT, Nat.reduceEqDiff, Nat.reduceAdd, Nat.reduceLeDiff, Nat.reduceMul, hfill]
  exact endM rfl ⟨k, Nat.le_refl _, hf, rfl, rfl⟩
theorem fault_at {M0 : PMem} {a : Nat} {b : List UInt8} {s : RS} (hM : M0 a 0 = some (rsRow b s)) : PTs env Tryz.prog M0 152 [.ptr a 0 0] (.agg [iv s.e, iv (s.f : Nat)]) := by
  obtain ⟨p, e, f⟩ := s
  refine PTs.enter env_ok fn152 (by simp) comp152 fun M k hs hk hf => ?_
  have hM' : M a 0 = some (.row .rw 0 (rdC b p e f)) := hs _ _ _ hM
  have hld : ∀ {ag : Bool} {n o : Nat} {os : List Pm.Obj} {M : PMem}, loadP k os M ag n (.ptr a 0 o) = rowTake ag n o (M a 0) := loadP_out (fresh_ne hf hM')
  have hst : storeO 2 0 (.agg [iv e, iv (f : Nat)]) (some (.row .rw 0 [iv 0, iv 0])) = some (.row .rw 0 [iv e, iv (f : Nat)]) := storeO_eq (n := 2) ⟨rfl, Nat.le_refl 2, rfl⟩
  simp only [G0, Nat.reduceLT, Nat.reduceEqDiff, Nat.reduceAdd, Nat.reduceLeDiff, Nat.reduceMul, argsP]
  refine cs0 (none151 hM') (Pm.Sub.seg hf) (by decide) ?_
  simp only [G0, Nat.reduceLT, Nat.reduceEqDiff, Nat.reduceAdd, Nat.reduceLeDiff, Nat.reduceMul, hld, hM', rdC, hst]
  refine endc (ag := true) (n := 2) hf (by kernel_rfl) ?_ ⟨rfl, rfl⟩
  simp only [G0, Nat.reduceLT, Nat.reduceEqDiff, Nat.reduceAdd, Nat.reduceLeDiff, Nat.reduceMul]
def endF (b : List UInt8) (s : RS) : Int × Nat := if s.e = 0 ∧ s.p < b.length then (4, s.p) else (s.e, s.f)
theorem end_at {M0 : PMem} {a : Nat} {b : List UInt8} {s : RS} (hM : M0 a 0 = some (rsRow b s)) : PTs env Tryz.prog M0 113 [.ptr a 0 0] (.agg [iv (endF b s).1, iv ((endF b s).2 : Nat)]) := by
  have hfa := fault_at hM
  obtain ⟨p, e, f⟩ := s
  refine PTs.enter env_ok fn113 (by simp) comp113 fun M k hs hk hf => ?_
  have hM' : M a 0 = some (.row .rw 0 (rdC b p e f)) := hs _ _ _ hM
  have hld : ∀ {ag : Bool} {n o : Nat} {os : List Pm.Obj} {M : PMem}, loadP k os M ag n (.ptr a 0 o) = rowTake ag n o (M a 0) := loadP_out (fresh_ne hf hM')
  have hst : ∀ {x y : Int}, storeO 2 0 (.agg [iv x, iv y]) (some (.row .rw 0 [iv 0, iv 0])) = some (.row .rw 0 [iv x, iv y]) := fun {x y} => storeO_eq (n := 2) ⟨rfl, Nat.le_refl 2, rfl⟩
  simp only [G0, Nat.reduceLT, Nat.reduceEqDiff, Nat.reduceAdd, Nat.reduceLeDiff, Nat.reduceMul, argsP]
  refine cs0 hfa (hs.sseg hf) (by decide) ?_
  by_cases he : e = 0
  · subst he
    have e0 : ((0 : Int) == 0) = true := by decide
    by_cases hp : p < b.length
    · have hp' : ((p : Nat) : Int) < (b.length : Nat) := by omega
      have hr : endF b ⟨p, 0, f⟩ = (4, p) := if_pos ⟨rfl, hp⟩
      rw [hr]
      simp only [G0, Nat.reduceLT, Nat.reduceEqDiff, Nat.reduceAdd, Nat.reduceLeDiff, Nat.reduceMul, hld, hM', rdC, encBytes, hst, e0, hp', decide_true, cnd_t, cnd_f]
      refine endc (ag := true) (n := 2) hf (by kernel_rfl) ?_ ⟨rfl, rfl⟩
      simp only [G0, Nat.reduceLT, Nat.reduceEqDiff, Nat.reduceAdd, Nat.reduceLeDiff, Nat.reduceMul]
    · have hp' : ¬ (((p : Nat) : Int) < (b.length : Nat)) := by omega
      have hr : endF b ⟨p, 0, f⟩ = (0, f) := if_neg fun h => hp h.2
      rw [hr]
      simp only [G0, Nat.reduceLT, Nat.reduceEqDiff, Nat.reduceAdd, Nat.reduceLeDiff, Nat.reduceMul, hld, hM', rdC, encBytes, hst, e0, hp', decide_false, cnd_t, cnd_f]
      refine endc (ag := true) (n := 2) hf (by kernel_rfl) ?_ ⟨rfl, rfl⟩
      simp only [G0, Nat.reduceLT, Nat.reduceEqDiff, Nat.reduceAdd, Nat.reduceLeDiff, Nat.reduceMul]
  · have e1 : (e == 0) = false := by simp [he]
    have hr : endF b ⟨p, e, f⟩ = (e, f) := if_neg fun h => he h.1
    rw [hr]
    simp only [G0, Nat.reduceLT, Nat.reduceEqDiff, Nat.reduceAdd, Nat.reduceLeDiff, Nat.reduceMul, hld, hM', rdC, encBytes, hst, e1, Bool.not_true, Bool.not_false, cnd_t, cnd_f]
    refine endc (ag := true) (n := 2) hf (by kernel_rfl) ?_ ⟨rfl, rfl⟩
    simp only [G0, Nat.reduceLT, Nat.reduceEqDiff, Nat.reduceAdd, Nat.reduceLeDiff, Nat.reduceMul]
end Go.Proofs.YtmgmbdnhodicjaaGreatDoor
end
