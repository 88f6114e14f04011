/- SpoolRoom: what waits never takes more than the quotas. Part 45 of 46; no condition. -/
import Derived.Test.YtmgmbdnhodicjaaGreatDoorM44
set_option linter.unusedVariables false
set_option linter.unusedSimpArgs false
section
namespace Go.Proofs.YtmgmbdnhodicjaaGreatDoor
open Go Go.Am Go.Pm
set_option maxHeartbeats 2000000
set_option maxRecDepth 100000
theorem acts64 (xs : List Act) (hsm : xs.length ≤ 9223372036854775807) (hx : ∀ x ∈ xs, x.ev.path.length ≤ 1000) (b n : Int) (hb : 0 ≤ b ∧ b ≤ 10000000) (hn : 0 ≤ n ∧ n ≤ 10000) (a k : Nat) (M0 : PMem) (Q : AExit → PSt → Prop)
    (q : ∀ tm M, Pm.Sub (seg M0 k [ghost]) (seg M k [ghost]) → tget tm 7 = bv true → Q (.exit 0) ⟨tm, 147, k, [ghost], M⟩) :
    ∀ d i M t w most ks l, xs.length - i = d → i ≤ xs.length → Spl (seg (tkB M0 t l.length) k [ghost]) (seg M k [ghost]) a b n most ks l → Wnt M0 k (l.map (·.1)) t w → roomI b n most l →
    RXL env Tryz.prog none c4_64 ⟨[(11, iv i), (10, w), (8, .ptr a 0 0), (7, bv true), (2, encActs xs), (1, iv n), (0, iv b)], 147, k, [ghost], M⟩ Q := by
  intro d
  induction d with
  | zero =>
    intro i M t w most ks l hd hi hS hW hI
    have : i = xs.length := by omega
    subst this
    refine RXL.round (RX.of env_ok ?_)
    simp only [G0, Nat.reduceLT, Nat.reduceEqDiff, Nat.reduceAdd, Nat.reduceLeDiff, Nat.reduceMul, encActs, Int.lt_irrefl, decide_false]
    exact q _ _ ((tkB_sub hW _ _).trans hS.sub) rfl
  | succ d ih =>
    intro i M t w most ks l hd hi hS hW hI
    have hi' : i < xs.length := by omega
    obtain ⟨x, hxi, hdx⟩ := getE hi'
    have hii : (i : Int) < xs.length := by omega
    have c1 : ptake true 7 (xs.flatMap actCells) (i * 8 + 1) = some (.agg (evCells x.ev)) := sub_at (f := actCells) (fun _ => rfl) hxi (by decide) rfl
    have hw : IntKind.i64.wrap ((i : Int) + 1) = ((i + 1 : Nat) : Int) := by rw [wrap64_id (by omega) (by omega)]; rfl
    have hp := hx x (List.mem_of_getElem? hxi)
    refine RXL.innM fun k' hk1 hk2 hk3 => ?_
    refine RX.cut (fun s1 => ∃ tm', s1 = ⟨tm', 147, k', [], seg M k [ghost]⟩ ∧ Kp tm' b n (encActs xs) a w (iv i)) (RX.of env_ok ?_) ?_
    · simp only [G0, Nat.reduceLT, Nat.reduceEqDiff, Nat.reduceAdd, Nat.reduceLeDiff, Nat.reduceMul, encActs, hii, decide_true]
      exact ⟨_, rfl, ⟨rfl, rfl, rfl, rfl, rfl, rfl, rfl⟩⟩
    · rintro s1 ⟨tm1, rfl, hK⟩
      refine RX.cut (fun s => ∃ tm' os' M1 t' w' most' ks' l', s = ⟨tm', 147, k', os', M1⟩ ∧ Kp tm' b n (encActs xs) a w' (iv i) ∧ Wnt M0 k (l'.map (·.1)) t' w' ∧ roomI b n most' l' ∧ Spl (seg (tkB M0 t' l'.length) k [ghost]) (seg M1 k' os') a b n most' ks' l')
        (RX.blk (RX.cut (fun s => ∃ tm', s = ⟨tm', 147, k', [.row .rw 0 (evCells x.ev)], seg M k [ghost]⟩ ∧ Kp tm' b n (encActs xs) a w (iv i) ∧ tget tm' 12 = .ptr k' 0 0) (RX.of env_ok ?_) ?_)) ?_
      · obtain ⟨t0, t1, t2, t7, t8, t10, t11⟩ := hK
        have hst : storeO 7 0 (.agg (evCells x.ev)) (some (.row .rw 0 [.v (.int .i64 0), .v (.int .i64 0), .v (.string ⟨#[]⟩), .v (.int .i64 0), .v (.int .i64 0), .lst .full 0 0 [], .lst .full 0 0 []])) = some (.row .rw 0 (evCells x.ev)) := storeO_eq (n := 7) ⟨rfl, Nat.le_refl 7, rfl⟩
        simp only [G0, Nat.reduceLT, Nat.reduceEqDiff, Nat.reduceAdd, Nat.reduceLeDiff, Nat.reduceMul, t0, t1, t2, t7, t8, t10, t11, encActs, hii, decide_true, hi', c1, hst]
        exact ⟨_, rfl, ⟨t0, t1, t2, t7, t8, t10, t11⟩, rfl⟩
      · rintro s2 ⟨tm2, rfl, hK2, t12⟩
        refine RX.cut (fun s => ∃ tm' os' M1 t' w' most' ks' l', s = ⟨tm', 147, k', os', M1⟩ ∧ Kp tm' b n (encActs xs) a w' (iv i) ∧ Wnt M0 k (l'.map (·.1)) t' w' ∧ roomI b n most' l' ∧ Spl (seg (tkB M0 t' l'.length) k [ghost]) (seg M1 k' os') a b n most' ks' l')
          (branch38 hS hI hb hn hW hk1 hk3 xs i x hxi hp hK2 t12) ?_
        rintro s3 ⟨tm3, os3, M3, t3, w3, most3, ks3, l3, rfl, hK3, hW3, hI3, hS3⟩
        obtain ⟨e3, rfl⟩ := hW3.eq
        refine (checks58 hS3 hI3 hb hn (encActs xs) (iv i) hW3.le hK3).mono ?_
        rintro e4 s4 ⟨rfl, tm4, rfl, hK4⟩
        exact ⟨rfl, tm4, os3, M3, t3, _, most3, ks3, l3, rfl, hK4, hW3, hI3, hS3⟩
      · rintro s5 ⟨tm5, os5, M5, t5, w5, most5, ks5, l5, rfl, hK5, hW5, hI5, hS5⟩
        obtain ⟨u0, u1, u2, u7, u8, u10, u11⟩ := hK5
        refine RX.of env_ok ?_
        simp only [G0, Nat.reduceLT, Nat.reduceEqDiff, Nat.reduceAdd, Nat.reduceLeDiff, Nat.reduceMul, u0, u1, u2, u7, u8, u10, u11, hw]
        refine ⟨seg M5 k' os5, mle_re hS5.sub, ?_⟩
        refine RXL.weak (keepE ?_) (ih (i + 1) (seg M5 k' os5) t5 w5 most5 ks5 l5 (by omega) (by omega) hS5.re hW5 hI5)
        exact .cons rfl (.cons u10 (.cons u8 (.cons u7 (.cons u2 (.cons u1 (.cons u0 .nil))))))
theorem room (x y : Int) (xs : List Act) (hsm : xs.length ≤ 9223372036854775807) : PTp env Tryz.prog 4 [iv x, iv y, encActs xs] (bv true) := fun M => by
  obtain ⟨p1, p2⟩ := pick_in x 3001 (by decide)
  obtain ⟨p3, p4⟩ := pick_in y 13 (by decide)
  refine PT.enterG env_ok fn4 (by simp) comp4 fun k hk hf => ?_
  simp only [G0, Nat.reduceLT, Nat.reduceEqDiff, Nat.reduceAdd, Nat.reduceLeDiff, Nat.reduceMul, argsP]
  refine cp0 known22 (by decide) ?_
  simp only [G0, Nat.reduceLT, Nat.reduceEqDiff, Nat.reduceAdd, Nat.reduceLeDiff, Nat.reduceMul]
  refine cp0 (pick_at x 3001 (by decide) (by decide)) (by decide) ?_
  simp only [G0, Nat.reduceLT, Nat.reduceEqDiff, Nat.reduceAdd, Nat.reduceLeDiff, Nat.reduceMul]
  refine cp0 (pick_at y 13 (by decide) (by decide)) (by decide) ?_
  simp only [G0, Nat.reduceLT, Nat.reduceEqDiff, Nat.reduceAdd, Nat.reduceLeDiff, Nat.reduceMul]
  refine cm (first := []) (cap := []) ((spool_new (pick x 3001) (pick y 13) ⟨by omega, by omega⟩ ⟨by omega, by omega⟩ _).mono ?_)
  rintro v M1 ⟨a, rfl, hS⟩
  refine ⟨_, M1, rfl, mle_re hS.sub, by decide, ?_⟩
  simp only [G0, Nat.reduceLT, Nat.reduceEqDiff, Nat.reduceAdd, Nat.reduceLeDiff, Nat.reduceMul, bne_self_eq_false, ptr_eql, pt22, Bool.or_false, cnd_t, Bool.not_false]
  refine cp0 (long_at xs hsm) (by decide) ?_
  have hS0 := hS.re
  cases hL : (longA xs || decide ((xs.length : Int) > 40)) with
  | true =>
    simp only [G0, Nat.reduceLT, Nat.reduceEqDiff, Nat.reduceAdd, Nat.reduceLeDiff, Nat.reduceMul]
    exact endS rfl hS0.sub hf
  | false =>
    rw [Bool.or_eq_false_iff] at hL
    obtain ⟨hL1, hL2⟩ := hL
    have hx : ∀ z ∈ xs, z.ev.path.length ≤ 1000 := fun z hz => by
      refine long_path ?_
      cases hq : longEvs 1 [z.ev] with
      | false => rfl
      | true =>
        have : longA xs = true := List.any_eq_true.2 ⟨z, hz, hq⟩
        rw [this] at hL1; cases hL1
    simp only [G0, Nat.reduceLT, Nat.reduceEqDiff, Nat.reduceAdd, Nat.reduceLeDiff, Nat.reduceMul]
    refine RX.loop (RXL.weak (keepE (tm' := [(11, iv (0 : Nat)), (10, .lst .full 0 0 []), (8, .ptr a 0 0), (7, bv true), (2, encActs xs), (1, iv (pick y 13)), (0, iv (pick x 3001))]) ?_)
      (acts64 xs hsm hx (pick x 3001) (pick y 13) ⟨by omega, by omega⟩ ⟨by omega, by omega⟩ a k M _ (fun tm M2 hsub t7 => ?_) xs.length 0 M1 .full (.lst .full 0 0 []) 0 [] [] rfl (Nat.zero_le _) hS0 (.nil 0 rfl)
        ⟨⟨(fun z hz => by cases hz), (by show (0 : Int) ≤ pick x 3001; exact p1), (by show (0 : Int) ≤ pick y 13; exact p3)⟩, Int.le_refl _, p1, (fun z hz => by cases hz), .nil⟩))
    · repeat (first | exact KP.nil | apply KP.cons rfl)
    · simp only [G0, Nat.reduceLT, Nat.reduceEqDiff, Nat.reduceAdd, Nat.reduceLeDiff, Nat.reduceMul, t7]
      exact endS rfl hsub hf
abbrev shAct : List Sh := [.bool, i64, i64, .str, i64, i64, .sl shB, .sl shSpan]
theorem act_dec {ds : List DV} (h : ShPs shAct ds) : ∃ x : Act, pvs shAct ds = actCells x ∧ True := by
  cases h with | cons h1 h =>
  obtain ⟨b, hb⟩ := bool_dec h1
  obtain ⟨e, he, _⟩ := ev_dec h
  exact ⟨⟨b, e⟩, by simp only [pvs, hb]; exact congrArg _ he, trivial⟩
theorem acts_dec {d : DV} (h : ShP (.sl shAct) d) : ∃ xs : List Act, pvD (.sl shAct) d = encActs xs ∧ xs.length ≤ maxLen := by
  obtain ⟨xs, h1, h2, _⟩ := sl_dec (l := shAct) (enc := actCells) (B := fun _ => True) (by decide) (fun ds h => act_dec h) h
  exact ⟨xs, h1, h2⟩
theorem room_pt (ds : List DV) (h : ShAs [.one i64, .one i64, .one (.sl shAct)] ds) : PTp env Tryz.prog 4 (pvAs [.one i64, .one i64, .one (.sl shAct)] ds) (bv true) := by
  cases h with | cons h1 h =>
  cases h with | cons h2 h =>
  cases h with | cons h3 h =>
  cases h
  cases h1 with | one h1 =>
  cases h2 with | one h2 =>
  cases h3 with | one h3 =>
  obtain ⟨x, hx, _⟩ := i_dec h1
  obtain ⟨y, hy, _⟩ := i_dec h2
  obtain ⟨xs, hxs, hl⟩ := acts_dec h3
  simp only [pvAs, pvA, hx, hy, hxs]
  exact room x y xs (by have : maxLen = 9223372036854775807 := by decide
                        omega)
end Go.Proofs.YtmgmbdnhodicjaaGreatDoor
end
