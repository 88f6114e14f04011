/- SpoolRoom: what waits never takes more than the quotas. Part 43 of 46; no condition. -/
import Derived.Test.YtmgmbdnhodicjaaGreatDoorM42
set_option linter.unusedVariables false
set_option linter.unusedSimpArgs false
section
namespace Go.Proofs.YtmgmbdnhodicjaaGreatDoor
open Go Go.Am Go.Pm
set_option maxHeartbeats 2000000
set_option maxRecDepth 100000
structure Kp (tm : List (Nat × PV)) (b n : Int) (v2 : PV) (a : Nat) (w v11 : PV) : Prop where
  t0 : tget tm 0 = iv b
  t1 : tget tm 1 = iv n
  t2 : tget tm 2 = v2
  t7 : tget tm 7 = bv true
  t8 : tget tm 8 = .ptr a 0 0
  t10 : tget tm 10 = w
  t11 : tget tm 11 = v11
theorem sum48 (L : List Ev) (hL : L.length ≤ 1000000) (hp : ∀ x ∈ L, x.path.length ≤ 1000) (hsum : evSum L ≤ 100000000) (t : Pm.Tok) (e : Nat) (b n : Int) (v2 v11 : PV) (a k : Nat) (os : List Pm.Obj) (M : PMem) (Q : AExit → PSt → Prop)
    (q : ∀ tm, Kp tm b n v2 a (.lst t e L.length (L.flatMap evCells)) v11 → tget tm 14 = iv (evSum L : Nat) → Q (.exit 2) ⟨tm, 147, k, os, M⟩) :
    ∀ d i, L.length - i = d → i ≤ L.length →
    RXL env Tryz.prog none c4_48 ⟨[(15, iv i), (14, iv (evSum L - evSum (L.drop i) : Nat)), (11, v11), (10, .lst t e L.length (L.flatMap evCells)), (8, .ptr a 0 0), (7, bv true), (2, v2), (1, iv n), (0, iv b)], 147, k, os, M⟩ Q := by
  intro d
  induction d with
  | zero =>
    intro i hd hi
    have : i = L.length := by omega
    subst this
    refine RXL.round (RX.of env_ok ?_)
    simp only [G0, Nat.reduceLT, Nat.reduceEqDiff, Nat.reduceAdd, Nat.reduceLeDiff, Nat.reduceMul, Int.lt_irrefl, decide_false]
    refine q _ ⟨rfl, rfl, rfl, rfl, rfl, rfl, rfl⟩ ?_
    show iv _ = iv _
    rw [List.drop_length]; rfl
  | succ d ih =>
    intro i hd hi
    have hi' : i < L.length := by omega
    obtain ⟨x, hx, hdx⟩ := getE hi'
    have hii : (i : Int) < L.length := by omega
    have hlx := ev_load7 hx
    have hpx := hp x (List.mem_of_getElem? hx)
    have hsz := ev_size hpx
    have hw : IntKind.i64.wrap ((i : Int) + 1) = ((i + 1 : Nat) : Int) := by rw [wrap64_id (by omega) (by omega)]; rfl
    have hle : evSum (L.drop i) = evSize x + evSum (L.drop (i + 1)) := by rw [hdx]; simp [evSum]
    have hle2 : evSum (L.drop i) ≤ evSum L := by
      have := congrArg evSum (List.take_append_drop i L)
      simp only [evSum, List.map_append, List.sum_append] at this ⊢
      omega
    have hw2 : IntKind.i64.wrap (((evSum L - evSum (L.drop i) : Nat) : Int) + (evSize x : Nat)) = ((evSum L - evSum (L.drop (i + 1)) : Nat) : Int) := by
      rw [wrap64_id (by omega) (by omega)]; omega
    refine RXL.round (RX.of env_ok ?_)
    simp only [G0, Nat.reduceLT, Nat.reduceEqDiff, Nat.reduceAdd, Nat.reduceLeDiff, Nat.reduceMul, hii, decide_true, hi', hlx]
    refine cp0 (event_size x hpx) (by decide) ?_
    simp only [G0, Nat.reduceLT, Nat.reduceEqDiff, Nat.reduceAdd, Nat.reduceLeDiff, Nat.reduceMul, hw, hw2]
    refine RXL.weak (keepE ?_) (ih (i + 1) (by omega) (by omega))
    repeat (first | exact KP.nil | apply KP.cons rfl)
theorem checks58 {M0 M : PMem} {a k : Nat} {os : List Pm.Obj} {b n most : Int} {ks : List (Nat × Nat)} {l : List (Ev × Nat)} (hS : Spl M0 (seg M k os) a b n most ks l) (hI : roomI b n most l) (hb : 0 ≤ b ∧ b ≤ 10000000) (hn : 0 ≤ n ∧ n ≤ 10000) {t : Pm.Tok} {e : Nat} (v2 v11 : PV)
    (hw : PLe (.lst t e (l.map (·.1)).length ((l.map (·.1)).flatMap evCells)) (encEvs (l.map (·.1)))) {tm : List (Nat × PV)} (hK : Kp tm b n v2 a (.lst t e (l.map (·.1)).length ((l.map (·.1)).flatMap evCells)) v11) :
    RX env Tryz.prog none c4_58 ⟨tm, 147, k, os, M⟩ (fun e' s1 => e' = .normal ∧ ∃ tm', s1 = ⟨tm', 147, k, os, M⟩ ∧ Kp tm' b n v2 a (.lst t e (l.map (·.1)).length ((l.map (·.1)).flatMap evCells)) v11) := by
  have hsz := hI.ok.size
  have hln := hI.ok.len
  have hlo := hI.lo
  have hhi := hI.hi
  have hes := evSum_szs hI.sz
  obtain ⟨t0, t1, t2, t7, t8, t10, t11⟩ := hK
  refine RX.of env_ok ?_
  simp only [G0, Nat.reduceLT, Nat.reduceEqDiff, Nat.reduceAdd, Nat.reduceLeDiff, Nat.reduceMul, t0, t1, t2, t7, t8, t10, t11]
  refine RX.loop (RXL.weak (keepE (tm' := [(15, iv (0 : Nat)), (14, iv (evSum (l.map (·.1)) - evSum ((l.map (·.1)).drop 0) : Nat)), (11, v11), (10, .lst t e (l.map (·.1)).length ((l.map (·.1)).flatMap evCells)), (8, .ptr a 0 0), (7, bv true), (2, v2), (1, iv n), (0, iv b)]) ?_)
    (sum48 (l.map (·.1)) (by rw [List.length_map]; omega) (fun x hx => ?_) (by rw [hes]; omega) t e b n v2 v11 a k os M _ (fun tm' hK' t14 => ?_) (l.map (·.1)).length 0 rfl (Nat.zero_le _)))
  · rw [List.drop_zero, Nat.sub_self]
    exact .cons rfl (.cons rfl (.cons t11 (.cons t10 (.cons t8 (.cons t7 (.cons t2 (.cons t1 (.cons t0 .nil))))))))
  · obtain ⟨z, hz, rfl⟩ := List.mem_map.1 hx
    exact (hI.ok.fit z hz).2
  · obtain ⟨u0, u1, u2, u7, u8, u10, u11⟩ := hK'
    rw [hes] at t14
    simp only [G0, Nat.reduceLT, Nat.reduceEqDiff, Nat.reduceAdd, Nat.reduceLeDiff, Nat.reduceMul, u0, u1, u2, u7, u8, u10, u11, t14]
    refine cs0 (used12 hS _ _) (Pm.Sub.refl _) (by decide) ?_
    have h1 : ¬ (((szs l : Nat) : Int) > b) := by omega
    have h2 : ¬ ((((l.map (·.1)).length : Nat) : Int) > n) := by rw [List.length_map]; omega
    have h3 : ¬ (most < ((szs l : Nat) : Int)) := by omega
    have h4 : ¬ (most > b) := by omega
    have h5 : ((((szs l : Nat) : Int) == ((szs l : Nat) : Int)) && ((((l.length : Nat) : Int)) == (((l.map (·.1)).length : Nat) : Int))) = true := by rw [List.length_map]; simp
    rw [h5]
    simp only [G0, Nat.reduceLT, Nat.reduceEqDiff, Nat.reduceAdd, Nat.reduceLeDiff, Nat.reduceMul, u0, u1, u2, u7, u8, u10, u11, t14, h1, h2, decide_false, Bool.not_true, Bool.not_false]
    refine cs0 (most_at hS) (Pm.Sub.refl _) (by decide) ?_
    simp only [G0, Nat.reduceLT, Nat.reduceEqDiff, Nat.reduceAdd, Nat.reduceLeDiff, Nat.reduceMul, u0, u1, u2, u7, u8, u10, u11, t14, h3, decide_false, Bool.not_true, Bool.not_false]
    refine cs0 (most_at hS) (Pm.Sub.refl _) (by decide) ?_
    simp only [G0, Nat.reduceLT, Nat.reduceEqDiff, Nat.reduceAdd, Nat.reduceLeDiff, Nat.reduceMul, u0, u1, u2, u7, u8, u10, u11, t14, h4, decide_false, Bool.not_true, Bool.not_false]
    refine cs0 (all_at hS (by omega) (fun z hz => (hI.ok.fit z hz).1)) (Pm.Sub.refl _) (by decide) ?_
    simp only [G0, Nat.reduceLT, Nat.reduceEqDiff, Nat.reduceAdd, Nat.reduceLeDiff, Nat.reduceMul, u0, u1, u2, u7, u8, u10, u11, t14, Bool.not_true, Bool.not_false]
    refine cp0 (PTp.args (args' := [encEvs (l.map (·.1)), encEvs (l.map (·.1))]) (.cons (PLe.refl _) (.cons hw .nil)) (same_events (l.map (·.1)) (by rw [List.length_map]; omega) (fun x hx => ?_))) (by decide) ?_
    · obtain ⟨z, hz, rfl⟩ := List.mem_map.1 hx
      have h3 : z.1.past.length ≤ 1000000 := (hI.ok.fit z hz).1.2
      omega
    · simp only [G0, Nat.reduceLT, Nat.reduceEqDiff, Nat.reduceAdd, Nat.reduceLeDiff, Nat.reduceMul, u0, u1, u2, u7, u8, u10, u11, t14, Bool.not_true, Bool.not_false]
      exact ⟨_, rfl, ⟨u0, u1, u2, u7, u8, u10, u11⟩⟩
end Go.Proofs.YtmgmbdnhodicjaaGreatDoor
end
