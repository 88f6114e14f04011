/- EventOrder: closed events are in order, and one made behind them is closed with them. Of any arguments. Part 38 of 38; no condition. -/
import Derived.Test.YtmgmbdnhodicjaaDoorM37
import Derived.Test.YtmgmbdnhodicjaaDoorRows
import Derived.Test.YtmgmbdnhodicjaaDoorCards
import Derived.Test.YtmgmbdnhodicjaaDoorTie
import Derived.ChangeSame
import Derived.ChangeVars
import Derived.JoinedOf
import Derived.RowKit
import Derived.RowKitTokens
import Derived.LaidLaws
import Derived.HandedShaped
import Derived.SevenTiedAt
set_option linter.unusedVariables false
set_option linter.unusedSimpArgs false
section
namespace Go.Proofs.YtmgmbdnhodicjaaDoor
open Go Go.Am Go.Pm
set_option maxHeartbeats 2000000
set_option maxRecDepth 100000
end Go.Proofs.YtmgmbdnhodicjaaDoor
end

section
namespace Go.Proofs.YtmgmbdnhodicjaaDoor
open Go Go.Am Go.Pm
set_option maxHeartbeats 2000000
set_option maxRecDepth 100000
structure Kp6 (tm : List (Nat × PV)) (l : List Ev) (z : Int) : Prop where
  t0 : tget tm 0 = encEvs l
  t1 : tget tm 1 = iv z
  t5 : tget tm 5 = bv true
section
variable {l : List Ev} (hc : ClosedL l) (hl : l.length ≤ 20) (hp : ∀ e ∈ l, e.path.length ≤ 1000000)
include hc hl hp
theorem loop6j {M : PMem} {k : Nat} {z : Int} {Q : AExit → PSt → Prop} {i kk : Nat} {a b : Ev} (ha : l[i]? = some a) (hb : l[kk]? = some b) (hab : aheadB a b = true)
    (q : ∀ tm, Kp6 tm l z → tget tm 6 = iv i → tget tm 7 = iv kk → Q (.exit 4) ⟨tm, 156, k, [], M⟩) :
    ∀ d j tm, l.length - j = d → j ≤ l.length → Kp6 tm l z → tget tm 6 = iv i → tget tm 7 = iv kk → tget tm 8 = bv true → tget tm 9 = iv j → RXL env Tryd.prog none c6_33 ⟨tm, 156, k, [], M⟩ Q := by
  intro d
  have hpa := hp a (List.mem_of_getElem? ha)
  have hpb := hp b (List.mem_of_getElem? hb)
  have hi' : i < l.length := (List.getElem?_eq_some_iff.1 ha).1
  have hk' : kk < l.length := (List.getElem?_eq_some_iff.1 hb).1
  have hla := ev_load7 ha
  have hlb := ev_load7 hb
  induction d with
  | zero =>
    intro j tm hd hj hK t6 t7 t8 t9
    have : j = l.length := by omega
    subst this
    obtain ⟨t0, t1, t5⟩ := hK
    refine RXL.round (RX.of env_ok ?_)
    simp only [G0, Nat.reduceLT, Nat.reduceEqDiff, Nat.reduceAdd, Nat.reduceLeDiff, Nat.reduceMul, t0, t6, t7, t8, t9, encEvs, Int.lt_irrefl, decide_false, Bool.and_false, Bool.true_and, cnd_t, cnd_f]
    exact q _ ⟨t0, t1, t5⟩ t6 t7
  | succ d ih =>
    intro j tm hd hj hK t6 t7 t8 t9
    have hj' : j < l.length := by omega
    have hjj : (j : Int) < l.length := by omega
    obtain ⟨c, hcj, hdx⟩ := getE hj'
    have hlc := ev_load7 hcj
    have hpc := hp c (List.mem_of_getElem? hcj)
    have hw : IntKind.i64.wrap ((j : Int) + 1) = ((j + 1 : Nat) : Int) := by rw [wrap64_id (by omega) (by omega)]; rfl
    obtain ⟨t0, t1, t5⟩ := hK
    refine RXL.round (RX.of env_ok ?_)
    simp only [G0, Nat.reduceLT, Nat.reduceEqDiff, Nat.reduceAdd, Nat.reduceLeDiff, Nat.reduceMul, t0, t6, t7, t8, t9, encEvs, hjj, decide_true, Bool.and_true, Bool.true_and, cnd_t, cnd_f, hj', hk', hi', hla, hlb, hlc, e_CGD]
    refine cp0 (ahead_at b c hpb hpc) (by decide) ?_
    cases h1 : aheadB b c with
    | false =>
      simp only [G0, Nat.reduceLT, Nat.reduceEqDiff, Nat.reduceAdd, Nat.reduceLeDiff, Nat.reduceMul, t9, hw, Bool.not_true, Bool.not_false, cnd_t, cnd_f, e_CGD]
      exact ih (j + 1) _ (by omega) (by omega) ⟨t0, t1, t5⟩ t6 t7 t8 rfl
    | true =>
      have h2 := closed_trans hc ha hb hcj hab h1
      simp only [G0, Nat.reduceLT, Nat.reduceEqDiff, Nat.reduceAdd, Nat.reduceLeDiff, Nat.reduceMul, t0, t6, t7, t8, t9, encEvs, hi', hj', hla, hlc, Bool.not_true, Bool.not_false, cnd_t, cnd_f, e_CGD]
      refine cp0 (ahead_at a c hpa hpc) (by decide) ?_
      rw [h2]
      simp only [G0, Nat.reduceLT, Nat.reduceEqDiff, Nat.reduceAdd, Nat.reduceLeDiff, Nat.reduceMul, t9, hw, Bool.not_true, Bool.not_false, cnd_t, cnd_f, e_CGD]
      exact ih (j + 1) _ (by omega) (by omega) ⟨t0, t1, t5⟩ t6 t7 t8 rfl
end
end Go.Proofs.YtmgmbdnhodicjaaDoor
end

section
namespace Go.Proofs.YtmgmbdnhodicjaaDoor
open Go Go.Am Go.Pm
set_option maxHeartbeats 2000000
set_option maxRecDepth 100000
section
variable {l : List Ev} (hc : ClosedL l) (hl : l.length ≤ 20) (hp : ∀ e ∈ l, e.path.length ≤ 1000000)
include hc hl hp
theorem loop6k {M : PMem} {k : Nat} {z : Int} {Q : AExit → PSt → Prop} {i : Nat} {a : Ev} (ha : l[i]? = some a)
    (q : ∀ tm, Kp6 tm l z → tget tm 6 = iv i → Q (.exit 2) ⟨tm, 156, k, [], M⟩) :
    ∀ d j tm, l.length - j = d → j ≤ l.length → Kp6 tm l z → tget tm 6 = iv i → tget tm 7 = iv j → RXL env Tryd.prog none c6_42 ⟨tm, 156, k, [], M⟩ Q := by
  intro d
  have hpa := hp a (List.mem_of_getElem? ha)
  have hi' : i < l.length := (List.getElem?_eq_some_iff.1 ha).1
  have hla := ev_load7 ha
  induction d with
  | zero =>
    intro j tm hd hj hK t6 t7
    have : j = l.length := by omega
    subst this
    obtain ⟨t0, t1, t5⟩ := hK
    refine RXL.round (RX.of env_ok ?_)
    simp only [G0, Nat.reduceLT, Nat.reduceEqDiff, Nat.reduceAdd, Nat.reduceLeDiff, Nat.reduceMul, t0, t6, t7, encEvs, Int.lt_irrefl, decide_false]
    exact q _ ⟨t0, t1, t5⟩ t6
  | succ d ih =>
    intro j tm hd hj hK t6 t7
    have hj' : j < l.length := by omega
    have hjj : (j : Int) < l.length := by omega
    obtain ⟨b, hb, hdx⟩ := getE hj'
    have hlb := ev_load7 hb
    have hpb := hp b (List.mem_of_getElem? hb)
    have hw : IntKind.i64.wrap ((j : Int) + 1) = ((j + 1 : Nat) : Int) := by rw [wrap64_id (by omega) (by omega)]; rfl
    obtain ⟨t0, t1, t5⟩ := hK
    refine RXL.round (RX.of env_ok ?_)
    simp only [G0, Nat.reduceLT, Nat.reduceEqDiff, Nat.reduceAdd, Nat.reduceLeDiff, Nat.reduceMul, t0, t6, t7, encEvs, hjj, decide_true, hj', hi', hla, hlb, e_CGD]
    refine cp0 (ahead_at a b hpa hpb) (by decide) ?_
    cases h1 : aheadB a b with
    | false =>
      simp only [G0, Nat.reduceLT, Nat.reduceEqDiff, Nat.reduceAdd, Nat.reduceLeDiff, Nat.reduceMul, t0, t6, t7, Bool.not_true, Bool.not_false, cnd_t, cnd_f, e_CGD]
      refine RX.loop (RXL.round (RX.of env_ok ?_))
      simp only [G0, Nat.reduceLT, Nat.reduceEqDiff, Nat.reduceAdd, Nat.reduceLeDiff, Nat.reduceMul, t7, hw, Bool.not_true, Bool.not_false, cnd_t, cnd_f]
      exact ih (j + 1) _ (by omega) (by omega) (by exact ⟨t0, t1, t5⟩) t6 rfl
    | true =>
      obtain ⟨h2, h3⟩ := closed_asym hc ha hb h1
      simp only [G0, Nat.reduceLT, Nat.reduceEqDiff, Nat.reduceAdd, Nat.reduceLeDiff, Nat.reduceMul, t0, t6, t7, encEvs, h2, hi', hj', hla, hlb, Bool.not_true, Bool.not_false, cnd_t, cnd_f, e_CGD]
      refine cp0 (ahead_at b a hpb hpa) (by decide) ?_
      rw [h3]
      simp only [G0, Nat.reduceLT, Nat.reduceEqDiff, Nat.reduceAdd, Nat.reduceLeDiff, Nat.reduceMul, t0, t6, t7, Bool.not_true, Bool.not_false, Bool.or_false, cnd_t, cnd_f, e_CGD]
      refine RX.loop (loop6j hc hl hp (z := z) ha hb h1 (fun tm' hK' s6 s7 => ?_) l.length 0 _ rfl (Nat.zero_le _) (by exact ⟨t0, t1, t5⟩) t6 t7 rfl rfl)
      obtain ⟨s0, s1, s5⟩ := hK'
      simp only [G0, Nat.reduceLT, Nat.reduceEqDiff, Nat.reduceAdd, Nat.reduceLeDiff, Nat.reduceMul, s7, hw]
      exact ih (j + 1) _ (by omega) (by omega) (by exact ⟨s0, s1, s5⟩) s6 rfl
theorem loop6i {M : PMem} {k : Nat} {z : Int} {Q : AExit → PSt → Prop} (q : ∀ tm, Kp6 tm l z → Q (.exit 0) ⟨tm, 156, k, [], M⟩) :
    ∀ d i tm, l.length - i = d → i ≤ l.length → Kp6 tm l z → tget tm 6 = iv i → RXL env Tryd.prog none c6_49 ⟨tm, 156, k, [], M⟩ Q := by
  intro d
  induction d with
  | zero =>
    intro i tm hd hi hK t6
    have : i = l.length := by omega
    subst this
    obtain ⟨t0, t1, t5⟩ := hK
    refine RXL.round (RX.of env_ok ?_)
    simp only [G0, Nat.reduceLT, Nat.reduceEqDiff, Nat.reduceAdd, Nat.reduceLeDiff, Nat.reduceMul, t0, t6, encEvs, Int.lt_irrefl, decide_false]
    exact q _ ⟨t0, t1, t5⟩
  | succ d ih =>
    intro i tm hd hi hK t6
    have hi' : i < l.length := by omega
    have hii : (i : Int) < l.length := by omega
    obtain ⟨a, ha, hdx⟩ := getE hi'
    have hw : IntKind.i64.wrap ((i : Int) + 1) = ((i + 1 : Nat) : Int) := by rw [wrap64_id (by omega) (by omega)]; rfl
    obtain ⟨t0, t1, t5⟩ := hK
    refine RXL.round (RX.of env_ok ?_)
    simp only [G0, Nat.reduceLT, Nat.reduceEqDiff, Nat.reduceAdd, Nat.reduceLeDiff, Nat.reduceMul, t0, t6, encEvs, hii, decide_true]
    refine RX.loop (loop6k hc hl hp (z := z) ha (fun tm' hK' s6 => ?_) l.length 0 _ rfl (Nat.zero_le _) (by exact ⟨t0, t1, t5⟩) t6 rfl)
    obtain ⟨s0, s1, s5⟩ := hK'
    simp only [G0, Nat.reduceLT, Nat.reduceEqDiff, Nat.reduceAdd, Nat.reduceLeDiff, Nat.reduceMul, s6, hw]
    exact ih (i + 1) _ (by omega) (by omega) (by exact ⟨s0, s1, s5⟩) rfl
end
section
variable {l : List Ev} (hc : ClosedL l) (hl : l.length ≤ 20) (hp : ∀ e ∈ l, e.path.length ≤ 1000000) {P : List Span} (hP : pastOk P = true) (hm : ∀ n s, memP P n s = l.any fun e => memP e.past n s || inSp ⟨e.node, e.seq, e.seq⟩ n s) {node : Int} (hn : 1 ≤ node ∧ node ≤ 200) (hlast : lastOf P node < 2147483647)
include hc hl hp hP hm hn hlast
theorem loop6n {M : PMem} {k : Nat} {Q : AExit → PSt → Prop} (q : ∀ tm, tget tm 0 = encEvs l → tget tm 5 = bv true → tget tm 13 = .ptr k 0 0 → Q (.exit 6) ⟨tm, 156, k, [.row .rw 0 (evCells (nextE node P))], M⟩) :
    ∀ d i tm, l.length - i = d → i ≤ l.length → tget tm 0 = encEvs l → tget tm 5 = bv true → tget tm 13 = .ptr k 0 0 → tget tm 14 = iv i → RXL env Tryd.prog none c6_74 ⟨tm, 156, k, [.row .rw 0 (evCells (nextE node P))], M⟩ Q := by
  intro d
  induction d with
  | zero =>
    intro i tm hd hi t0 t5 t13 t14
    have : i = l.length := by omega
    subst this
    refine RXL.round (RX.of env_ok ?_)
    simp only [G0, Nat.reduceLT, Nat.reduceEqDiff, Nat.reduceAdd, Nat.reduceLeDiff, Nat.reduceMul, t0, t14, encEvs, Int.lt_irrefl, decide_false]
    exact q _ t0 t5 t13
  | succ d ih =>
    intro i tm hd hi t0 t5 t13 t14
    have hi' : i < l.length := by omega
    have hii : (i : Int) < l.length := by omega
    obtain ⟨a, ha, hdx⟩ := getE hi'
    have hla := ev_load7 ha
    have hpa := hp a (List.mem_of_getElem? ha)
    have hw : IntKind.i64.wrap ((i : Int) + 1) = ((i + 1 : Nat) : Int) := by rw [wrap64_id (by omega) (by omega)]; rfl
    have hpn : (nextE node P).path.length ≤ 1000000 := by show 3 ≤ 1000000; decide
    obtain ⟨a1, a2⟩ := next_ahead hc hP hm hn hlast ha
    have h7 : ptake true 7 (evCells (nextE node P)) 0 = some (encEv (nextE node P)) := rfl
    refine RXL.round (RX.of env_ok ?_)
    simp only [G0, Nat.reduceLT, Nat.reduceEqDiff, Nat.reduceAdd, Nat.reduceLeDiff, Nat.reduceMul, t0, t13, t14, encEvs, hii, decide_true, hi', hla, h7, e_CGD]
    refine cp0 (ahead_at a (nextE node P) hpa hpn) (by decide) ?_
    rw [a1]
    simp only [G0, Nat.reduceLT, Nat.reduceEqDiff, Nat.reduceAdd, Nat.reduceLeDiff, Nat.reduceMul, t0, t13, t14, encEvs, hi', hla, h7, Bool.not_true, Bool.not_false, cnd_t, cnd_f, e_CGD]
    refine cp0 (ahead_at (nextE node P) a hpn hpa) (by decide) ?_
    rw [a2]
    simp only [G0, Nat.reduceLT, Nat.reduceEqDiff, Nat.reduceAdd, Nat.reduceLeDiff, Nat.reduceMul, t14, hw, Bool.not_true, Bool.not_false, Bool.or_false, cnd_t, cnd_f, e_CGD]
    exact ih (i + 1) _ (by omega) (by omega) t0 t5 t13 rfl
end
end Go.Proofs.YtmgmbdnhodicjaaDoor
end

section
namespace Go.Proofs.YtmgmbdnhodicjaaDoor
open Go Go.Am Go.Pm
set_option maxHeartbeats 2000000
set_option maxRecDepth 100000
structure Kq25 (tm : List (Nat × PV)) (V : PV) (n : Nat) (i : Nat) : Prop where
  t0 : tget tm 0 = V
  t7 : tget tm 7 = V
  t8 : tget tm 8 = iv n
  t9 : tget tm 9 = iv i
section
variable {r0 i0 c0 : Nat} {w0 : Wm}
theorem inner25s (l : List Ev) (hl : l.length ≤ 1000000) (hp : ∀ e ∈ l, e.path.length ≤ 1000000) (M : PMem) (k i : Nat) (a : Ev) (ha : a.path.length ≤ 1000000) (Q : AExit → PSt → Prop) (hrk : r0 ≠ k) (hrow : M r0 i0 = some (.row w0 7 (l.flatMap evCells)))
    (q1 : ∀ tm, (∀ j b, l[j]? = some b → badPair i a j b = false) → Kq25 tm (.sl r0 i0 0 l.length c0) l.length i → Q (.exit 2) ⟨tm, 49, k, [.row .rw 0 (evCells a)], M⟩)
    (q2 : ∀ tm, (∃ j b, l[j]? = some b ∧ badPair i a j b = true) → tget tm 2 = bv false → Q .ret ⟨tm, 49, k, [.row .rw 0 (evCells a)], M⟩) :
    ∀ d j tm, l.length - j = d → j ≤ l.length → (∀ j' b, j' < j → l[j']? = some b → badPair i a j' b = false) → Kq25 tm (.sl r0 i0 0 l.length c0) l.length i → tget tm 3 = iv i → tget tm 4 = .ptr k 0 0 → tget tm 17 = .sl r0 i0 0 l.length c0 → tget tm 18 = iv l.length → tget tm 19 = iv j →
    RXL env Tryd.prog none c25_24 ⟨tm, 49, k, [.row .rw 0 (evCells a)], M⟩ Q := by
  intro d
  induction d with
  | zero =>
    intro j tm hd hj hg hK t3 t4 t17 t18 t19
    have : j = l.length := by omega
    subst this
    obtain ⟨t0, t7, t8, t9⟩ := hK
    refine RXL.round (RX.of env_ok ?_)
    simp only [G0, Nat.reduceLT, Nat.reduceEqDiff, Nat.reduceAdd, Nat.reduceLeDiff, Nat.reduceMul, t18, t19, Int.lt_irrefl, decide_false]
    refine q1 _ (fun j' b h => hg j' b ?_ h) ⟨t0, t7, t8, t9⟩
    exact (List.getElem?_eq_some_iff.1 h).1
  | succ d ih =>
    intro j tm hd hj hg hK t3 t4 t17 t18 t19
    have hj' : j < l.length := by omega
    have hjj : (j : Int) < l.length := by omega
    obtain ⟨b, hb, hdx⟩ := getE hj'
    have hlx := ev_load7 hb
    have hpb := hp b (List.mem_of_getElem? hb)
    have hw : IntKind.i64.wrap ((j : Int) + 1) = ((j + 1 : Nat) : Int) := by rw [wrap64_id (by omega) (by omega)]; rfl
    obtain ⟨t0, t7, t8, t9⟩ := hK
    refine RXL.inn fun k' hk1 hk2 hk3 => RX.of env_ok ?_
    have hld : ∀ {ag : Bool} {n o : Nat} {os : List Pm.Obj}, loadP k' os (seg M k [.row .rw 0 [iv a.node, iv a.seq, str a.path, iv a.kind, iv a.mode, encBytes a.bytes, encSpans a.past]]) ag n (.ptr k 0 o) = rowTake ag n o (some (.row .rw 0 [iv a.node, iv a.seq, str a.path, iv a.kind, iv a.mode, encBytes a.bytes, encSpans a.past])) := fun {ag n o os} => by
      rw [loadP_out (Ne.symm hk1), seg_same]; rfl
    have hia := iaddr_sl (k := r0) (i := i0) (o := 0) (n := l.length) (c := c0) (sz := 7) (m := j) (kk := .i64) hj'
    rw [Nat.zero_add] at hia
    have hlr : ∀ {ag : Bool} {n o : Nat} {os : List Pm.Obj}, r0 ≠ k' → loadP k' os (seg M k [.row .rw 0 [iv a.node, iv a.seq, str a.path, iv a.kind, iv a.mode, encBytes a.bytes, encSpans a.past]]) ag n (.ptr r0 i0 o) = rowTake ag n o (some (.row w0 7 (l.flatMap evCells))) := fun {ag n o os} h => by
      rw [loadP_out h, seg_ne _ _ _ hrk, hrow]
    have hrk' : r0 ≠ k' := fun e => by subst e; have := hk3 i0; rw [seg_ne _ _ _ hrk, hrow] at this; cases this
    have hlr := fun {ag : Bool} {n o : Nat} {os : List Pm.Obj} => hlr (ag := ag) (n := n) (o := o) (os := os) hrk'
    have hst : storeO 7 0 (encEv b) (some (.row .rw 0 [.v (.int .i64 0), .v (.int .i64 0), .v (.string ⟨#[]⟩), .v (.int .i64 0), .v (.int .i64 0), .lst .full 0 0 [], .lst .full 0 0 []])) = some (.row .rw 0 (evCells b)) := storeO_eq (n := 7) (x := encEv b) ⟨rfl, Nat.le_refl 7, rfl⟩
    have good : badPair i a j b = false → ∀ j' b', j' < j + 1 → l[j']? = some b' → badPair i a j' b' = false := fun h j' b' hlt hb' => by
      rcases Nat.lt_succ_iff_lt_or_eq.1 hlt with h1 | h1
      · exact hg j' b' h1 hb'
      · subst h1; rw [hb] at hb'; cases hb'; exact h
    cases hji : ((j : Int) != (i : Int)) with
    | false =>
      simp only [G0, Nat.reduceLT, Nat.reduceEqDiff, Nat.reduceAdd, Nat.reduceLeDiff, Nat.reduceMul, t3, t4, t17, t18, t19, hjj, decide_true, hj', hia, hlr, hlx, hld, hst, evCells, pone_eb, pone_es, hji, hw]
      exact ih (j + 1) _ (by omega) (by omega) (good (by unfold badPair; rw [hji]; rfl)) ⟨t0, t7, t8, t9⟩ t3 t4 t17 t18 rfl
    | true =>
      cases hde : (a.node == b.node && a.seq == b.seq) with
      | true =>
        simp only [G0, Nat.reduceLT, Nat.reduceEqDiff, Nat.reduceAdd, Nat.reduceLeDiff, Nat.reduceMul, t3, t4, t17, t18, t19, hjj, decide_true, hj', hia, hlr, hlx, hld, hst, evCells, pone_eb, pone_es, hji, eql28, hde, Bool.not_true, Bool.not_false, cnd_t, cnd_f]
        exact q2 _ ⟨j, b, hb, by unfold badPair; rw [hji, hde]; rfl⟩ rfl
      | false =>
        simp only [G0, Nat.reduceLT, Nat.reduceEqDiff, Nat.reduceAdd, Nat.reduceLeDiff, Nat.reduceMul, t3, t4, t17, t18, t19, hjj, decide_true, hj', hia, hlr, hlx, hld, hst, evCells, pone_eb, pone_es, hji, eql28, hde, Bool.not_true, Bool.not_false, cnd_t, cnd_f]
        refine cp0 (ahead_at a b ha hpb) (by decide) ?_
        cases hah : aheadB a b with
        | false =>
          simp only [G0, Nat.reduceLT, Nat.reduceEqDiff, Nat.reduceAdd, Nat.reduceLeDiff, Nat.reduceMul, t19, hw, Bool.not_true, Bool.not_false, cnd_t, cnd_f]
          exact ih (j + 1) _ (by omega) (by omega) (good (by unfold badPair; rw [hji, hde, hah]; rfl)) ⟨t0, t7, t8, t9⟩ t3 t4 t17 t18 rfl
        | true =>
          simp only [G0, Nat.reduceLT, Nat.reduceEqDiff, Nat.reduceAdd, Nat.reduceLeDiff, Nat.reduceMul, t3, t4, t17, t18, t19, hld, Bool.not_true, Bool.not_false, cnd_t, cnd_f]
          refine cp0 (within_at a.past b.past) (by decide) ?_
          cases hwi : withinB a.past b.past with
          | true =>
            simp only [G0, Nat.reduceLT, Nat.reduceEqDiff, Nat.reduceAdd, Nat.reduceLeDiff, Nat.reduceMul, t19, hw, Bool.not_true, Bool.not_false, cnd_t, cnd_f]
            exact ih (j + 1) _ (by omega) (by omega) (good (by unfold badPair; rw [hji, hde, hah, hwi]; rfl)) ⟨t0, t7, t8, t9⟩ t3 t4 t17 t18 rfl
          | false =>
            simp only [G0, Nat.reduceLT, Nat.reduceEqDiff, Nat.reduceAdd, Nat.reduceLeDiff, Nat.reduceMul, Bool.not_true, Bool.not_false, cnd_t, cnd_f]
            exact q2 _ ⟨j, b, hb, by unfold badPair; rw [hji, hde, hah, hwi]; rfl⟩ rfl
theorem loop25s (l : List Ev) (hl : l.length ≤ 1000000) (hp : ∀ e ∈ l, e.path.length ≤ 1000000) (M : PMem) (k : Nat) (Q : AExit → PSt → Prop) (hrk : r0 ≠ k) (hrow : M r0 i0 = some (.row w0 7 (l.flatMap evCells)))
    (q1 : ∀ tm, ClosedL l → Q (.exit 0) ⟨tm, 49, k, [], M⟩) (q2 : ∀ tm, ¬ ClosedL l → tget tm 2 = bv false → Q .ret ⟨tm, 49, k, [], M⟩) :
    ∀ d i tm, l.length - i = d → i ≤ l.length → (∀ i' a, i' < i → l[i']? = some a → ClosedAt l i' a) → Kq25 tm (.sl r0 i0 0 l.length c0) l.length i → RXL env Tryd.prog none c25_34 ⟨tm, 49, k, [], M⟩ Q := by
  intro d
  induction d with
  | zero =>
    intro i tm hd hi hg hK
    have : i = l.length := by omega
    subst this
    obtain ⟨t0, t7, t8, t9⟩ := hK
    refine RXL.round (RX.of env_ok ?_)
    simp only [G0, Nat.reduceLT, Nat.reduceEqDiff, Nat.reduceAdd, Nat.reduceLeDiff, Nat.reduceMul, t8, t9, Int.lt_irrefl, decide_false]
    exact q1 _ fun i' a h => hg i' a (List.getElem?_eq_some_iff.1 h).1 h
  | succ d ih =>
    intro i tm hd hi hg hK
    have hi' : i < l.length := by omega
    have hii : (i : Int) < l.length := by omega
    obtain ⟨a, ha, hdx⟩ := getE hi'
    have hlx := ev_load7 ha
    have hpa := hp a (List.mem_of_getElem? ha)
    have hw : IntKind.i64.wrap ((i : Int) + 1) = ((i + 1 : Nat) : Int) := by rw [wrap64_id (by omega) (by omega)]; rfl
    obtain ⟨t0, t7, t8, t9⟩ := hK
    refine RXL.inn fun k' hk1 hk2 hk3 => RX.of env_ok ?_
    have hia := iaddr_sl (k := r0) (i := i0) (o := 0) (n := l.length) (c := c0) (sz := 7) (m := i) (kk := .i64) hi'
    rw [Nat.zero_add] at hia
    have hrk' : r0 ≠ k' := fun e => by subst e; have := hk3 i0; rw [seg_ne _ _ _ hrk, hrow] at this; cases this
    have hlr : ∀ {ag : Bool} {n o : Nat} {os : List Pm.Obj}, loadP k' os (seg M k []) ag n (.ptr r0 i0 o) = rowTake ag n o (some (.row w0 7 (l.flatMap evCells))) := fun {ag n o os} => by
      rw [loadP_out hrk', seg_ne _ _ _ hrk, hrow]
    have hst : storeO 7 0 (encEv a) (some (.row .rw 0 [.v (.int .i64 0), .v (.int .i64 0), .v (.string ⟨#[]⟩), .v (.int .i64 0), .v (.int .i64 0), .lst .full 0 0 [], .lst .full 0 0 []])) = some (.row .rw 0 (evCells a)) := storeO_eq (n := 7) (x := encEv a) ⟨rfl, Nat.le_refl 7, rfl⟩
    simp only [G0, Nat.reduceLT, Nat.reduceEqDiff, Nat.reduceAdd, Nat.reduceLeDiff, Nat.reduceMul, t0, t7, t8, t9, hii, decide_true, hi', hia, hlr, hlx, hst, evCells, pone_eb, pone_es]
    refine cp0 (event_check a hpa) (by decide) ?_
    cases hok : evOk a with
    | false =>
      simp only [G0, Nat.reduceLT, Nat.reduceEqDiff, Nat.reduceAdd, Nat.reduceLeDiff, Nat.reduceMul, err_neq]
      exact q2 _ (fun h => by have := (h i a ha).1; rw [hok] at this; cases this) rfl
    | true =>
      simp only [G0, Nat.reduceLT, Nat.reduceEqDiff, Nat.reduceAdd, Nat.reduceLeDiff, Nat.reduceMul, err_neq, t0, len_sl]
      refine RX.loop (inner25s l hl hp (seg M k []) k' i a hpa _ hrk' (by rw [seg_ne _ _ _ hrk]; exact hrow) (fun tm' hgd hK' => ?_) (fun tm' hbd t2 => ?_) l.length 0 _ rfl (Nat.zero_le _) (fun j' b h => by omega) (by exact ⟨t0, t7, t8, t9⟩) (by rfl) (by rfl) (by rfl) (by rfl) (by rfl))
      · obtain ⟨s0, s7, s8, s9⟩ := hK'
        simp only [G0, Nat.reduceLT, Nat.reduceEqDiff, Nat.reduceAdd, Nat.reduceLeDiff, Nat.reduceMul, s9, hw]
        refine ih (i + 1) _ (by omega) (by omega) (fun i' a' hlt h => ?_) ⟨s0, s7, s8, rfl⟩
        rcases Nat.lt_succ_iff_lt_or_eq.1 hlt with h1 | h1
        · exact hg i' a' h1 h
        · subst h1; rw [ha] at h; cases h; exact ⟨hok, hgd⟩
      · simp only [G0, Nat.reduceLT, Nat.reduceEqDiff, Nat.reduceAdd, Nat.reduceLeDiff, Nat.reduceMul, t2]
        obtain ⟨j, b, h1, h2⟩ := hbd
        exact q2 _ (fun h => by have := (h i a ha).2 j b h1; rw [h2] at this; cases this) t2
theorem closed_sl (l : List Ev) (hl : l.length ≤ 1000000) (hp : ∀ e ∈ l, e.path.length ≤ 1000000) {M0 : PMem} (hrow : M0 r0 i0 = some (.row w0 7 (l.flatMap evCells))) : PTs env Tryd.prog M0 25 [.sl r0 i0 0 l.length c0] (bv (closedB l)) := by
  refine PTs.enter env_ok fn25 (by simp) comp25 fun M k hs hk hf => ?_
  have hrow' := hs _ _ _ hrow
  have hrk := fresh_ne hf hrow'
  simp only [G0, Nat.reduceLT, Nat.reduceEqDiff, Nat.reduceAdd, Nat.reduceLeDiff, Nat.reduceMul, argsP, len_sl]
  refine RX.loop (loop25s l hl hp M k _ hrk hrow' (fun tm h => ?_) (fun tm h t2 => ?_) l.length 0 _ rfl (Nat.zero_le _) (fun i a h => by omega) (by exact ⟨rfl, rfl, rfl, rfl⟩))
  · simp only [G0, Nat.reduceLT, Nat.reduceEqDiff, Nat.reduceAdd, Nat.reduceLeDiff, Nat.reduceMul]
    refine end1 hf rfl ⟨?_, rfl⟩
    rw [closedB_t h]; rfl
  · simp only [G0, Nat.reduceLT, Nat.reduceEqDiff, Nat.reduceAdd, Nat.reduceLeDiff, Nat.reduceMul, t2]
    refine end1 hf t2 ⟨?_, rfl⟩
    rw [closedB_f h]
end
end Go.Proofs.YtmgmbdnhodicjaaDoor
end

section
namespace Go.Pm
open Go.RowKit Go.Am
def overM (M N : PMem) : PMem := fun k i => match M k i with
  | some o => some o
  | none => N k i
section
variable {E : Env} {P : Program} {cx cx' : Cx} {M N : PMem} {m m1 : Mem}
theorem overM_cases {k i : Nat} {o : Obj} (e : overM M N k i = some o) : M k i = some o ∨ (M k i = none ∧ N k i = some o) := by
  unfold overM at e
  cases h : M k i with
  | some o' => rw [h] at e; exact .inl e
  | none => rw [h] at e; exact .inr ⟨rfl, e⟩
theorem overM_l {k i : Nat} {o : Obj} (e : M k i = some o) : overM M N k i = some o := by unfold overM; rw [e]
theorem overM_r {k i : Nat} (e : M k i = none) : overM M N k i = N k i := by unfold overM; rw [e]
theorem Shade.lower {b' b : Nat} {q : Option Nat} (hb' : b' ≤ m.bar) (h : Shade cx m b q) : Shade cx (barM m b') b q := by
  induction h with
  | none => exact .none
  | gone hp hd hb hg => exact .gone hp hd (Nat.le_trans hb' hb) (by rw [barM_get]; exact hg)
  | more hp hd hb hg r ih => exact .more hp hd (Nat.le_trans hb' hb) (by rw [barM_get]; exact hg) ih
theorem OG.lower {k i b' : Nat} {o : Obj} (hb' : b' ≤ m.bar) (h : OG cx m k i o) : OG cx (barM m b') k i o := by
  cases o with
  | gone => exact h
  | row w es cs =>
    obtain ⟨r, vs, md, q, e1, e2, e3, e4, e5⟩ := h
    refine ⟨r, vs, md, q, e1, by rw [barM_get]; exact e2, e3, fun hw => ⟨(e4 hw).1, ?_⟩, fun hw => Nat.le_trans hb' (e5 hw)⟩
    have := (e4 hw).2
    cases w with
    | own => exact ⟨Nat.le_trans hb' this.1, this.2.lower hb'⟩
    | _ => exact this
  | str w s pos =>
    obtain ⟨r, e1, e2, e3⟩ := h
    exact ⟨r, e1, by rw [barM_get]; exact e2, fun hw => Nat.le_trans hb' (e3 hw)⟩
  | loop w st pend tm nt ps asg body =>
    obtain ⟨r, tmA, D, e1, e2, e3, e4⟩ := h
    exact ⟨r, tmA, D, e1, by rw [barM_get]; exact e2, e3, fun hw => Nat.le_trans hb' (e4 hw)⟩
  | grow n es =>
    obtain ⟨ro, e1, e2, e3⟩ := h
    refine ⟨ro, e1, e2, ?_⟩
    cases ro with
    | none => exact e3
    | some r => obtain ⟨vs, q, h1, h2⟩ := e3; exact ⟨vs, q, by rw [barM_get]; exact h1, h2⟩
theorem hold_none {k i : Nat} : holdM M k i = none ↔ M k i = none := by simp [holdM]
theorem PG.unholdN (h0 : PG E cx M m) (hle : CxLe cx cx') (hnb : m1.nb = m.nb) (hbar : m.bar ≤ m1.bar) (hsz : m.size ≤ m1.size) (hsame : ∀ b, b < m.size → Same (m.get b) (m1.get b)) (h : PG E cx' (overM (holdM M) N) m1) : PG E cx' (overM M N) (barM m1 m.bar) := by
  have hold : PG E cx' (holdM M) m1 := h.weak fun k i o e => ⟨o, overM_l e, .refl _⟩
  have hu := h0.unhold hle hnb hsz hsame hold
  have new : ∀ {k i : Nat} {o : Obj}, M k i = none → N k i = some o → overM (holdM M) N k i = some o := fun {k i o} e1 e2 => by rw [overM_r (hold_none.2 e1)]; exact e2
  refine ⟨fun k i o e => ?_, hu.at_, fun k i o r e e' => ?_, hu.im, hu.mks, hu.dd, hu.keys, fun k1 i1 k2 i2 r n es n' es' e1 e2 e3 e4 => ?_, hu.glob, hu.wf, hu.pos⟩
  · rcases overM_cases e with e | ⟨e1, e2⟩
    · exact hu.obj k i o e
    · exact (h.obj k i o (new e1 e2)).lower hbar
  · rcases overM_cases e with e | ⟨e1, e2⟩
    · exact hu.nd k i o r e e'
    · exact h.nd k i o r (new e1 e2) e'
  · have key : ∀ {k i n es}, overM M N k i = some (.grow n es) → overM (holdM M) N k i = some (.grow n es) := fun {k i n es} e => by
      rcases overM_cases e with e | ⟨e1, e2⟩
      · exact overM_l (by simp only [holdM, e, Option.map_some, holdO])
      · exact new e1 e2
    exact h.tkin k1 i1 k2 i2 r n es n' es' (key e1) (key e2) e3 e4
theorem seg_over {k : Nat} {os : List Obj} (hN : ∀ i, N k i = none) : seg (overM M N) k os = overM (seg M k os) N := by
  funext a i
  by_cases ha : a = k
  · subst ha
    show (if a = a then os[i]? else _) = _
    rw [if_pos rfl]
    unfold overM seg
    rw [if_pos rfl]
    cases os[i]? with
    | some o => rfl
    | none => exact (hN i).symm
  · unfold overM seg
    rw [if_neg ha, if_neg ha]
theorem PD.quietN {ops l : List Oper} {bs : List Nat} {i : Nat} {o : Oper} {s : PSt} {R : PSt → Prop} {cl : Call} {f : Operand} {g : Nat} {first captured : List PV} (hfr : (!(cls E o.op).isHard || alone E bs ops i) = false) (hw : pwanted ops s.tm o = some true) (hop : o.op = .call cl) (hcl : cl.callee = .value f) (hf : pev s.tm f = .fn g first captured)
    (h : PTk E P g (first ++ (cl.args.toList.map (pev s.tm) ++ captured)) (holdM s.mem) (fun nk x M1 => s.k < nk → ∃ N : PMem, (∀ i, N s.k i = none) ∧ MLe M1 (overM (holdM s.mem) N) ∧ ∃ s2, pput { s with M := overM s.M N } o.dst x = some s2 ∧ PD E P ops bs (i + 1) l s2 R)) : PD E P ops bs i (o :: l) s R := fun hc cx sA hs => by
  simp only [opsOk, Bool.and_eq_true] at hc
  have ho := hc.1
  rw [hop] at ho
  simp only [opOk, hcl, Bool.and_eq_true] at ho
  have hfv := hs.ev ho.2
  rw [hf] at hfv
  have hargs := PRs.operands hs ho.1
  generalize hvf : Am.ev sA.tm f = vf at hfv
  cases hfv with
  | @fn _ _ _ fa ca h1 h2 =>
    have hh := hs.pg.hold
    obtain ⟨v, m1, cx1, x, M1, k1, k2, k3, k4, k50⟩ := h cx _ _ hh (h1.append (hargs.append h2))
    obtain ⟨N, hN, k5, s2, k6, k7⟩ := k50 hs.low
    have kp := k1.pad
    have k2' := k2.weak k5
    obtain ⟨c1, c2⟩ := k2'.padded
    have kk := kp.keep hh.wf
    have hle := k3.le.trans c1
    have hun := hs.pg.unholdN (N := N) hle kk.nb (by have := kk.bar; rw [this]; exact hs.pg.wf.bar) (by have := kk.size; exact this) (fun b hb => by have := kk.same b hb; rw [barM_get] at this; exact this) c2
    have hps : PS E (cx1.clear m1.size) { s with M := overM s.M N } { sA with m := barM (m1.new (.row [] .rw 0 none)) sA.m.bar } := by
      refine ⟨fun i => (hs.tm i).mono hle, hs.nt, ?_, fun i hi => ?_, Nat.lt_of_lt_of_le hs.low hle.nk, hs.pos, ⟨hs.df.1, fun r hr => ⟨hle.mks _ (hs.df.2 r hr).1, (hs.df.2 r hr).2⟩⟩⟩
      · show PG E _ (seg (overM s.M N) s.k s.os) _
        rw [seg_over hN]
        exact hun
      · have hcu := hs.cur i hi
        have hn := (k3.trans (Ext.clear k2')).names s.k i hs.low (by simp)
        exact ⟨hn.1 hcu.1, hn.2 hcu.2⟩
    obtain ⟨tm1, q1, q2, q3, q4⟩ := pput_sim hps (k4.mono c1) k6
    obtain ⟨es, sA2, cx2, s3, z0, zi, z1, z2, z3, z4, z5, z6⟩ := k7 hc.2 _ _ q2
    have hks := k1.keep hh.wf
    refine ⟨⟨.call g (fa.toList ++ (cl.args.toList.map (ev sA.tm) ++ ca.toList)), barM sA.m sA.m.size, v, m1.new (.row [] .rw 0 none)⟩ :: es, sA2, cx2, s3, fun y hy => ?_, ⟨Nat.le_refl _, zi.mono ?_⟩, fun K hK => ?_, z2, (k3.trans (Ext.clear k2')).weak.trans (by have q3' : s2.k = s.k := q3; rw [← q3']; exact z3), z4.trans q3, z5.trans q4, z6⟩
    · rcases List.mem_cons.1 hy with rfl | hy
      · exact kp
      · exact z0 y hy
    · show sA.m.size + 1 ≤ (m1.new (.row [] .rw 0 none)).size
      rw [new_size]
      have : sA.m.size ≤ m1.size := hks.size
      omega
    · unfold runDraw stepDrawI
      rw [hfr]
      have hKe := hK _ List.mem_cons_self
      have hd : doOp E K o sA.tm (barM sA.m sA.m.size) = some (v, m1.new (.row [] .rw 0 none)) := by
        unfold doOp
        rw [aop_def, hop]
        simp only [hcl, hvf]
        exact hKe
      have hst : stepOp E K ops o { sA with m := barM sA.m sA.m.size } = some { sA with tm := tm1, m := m1.new (.row [] .rw 0 none) } := by
        rw [stepOp_def]
        have hw' := pwanted_sim hs hw
        simp only [hw', hd]
        have q1' : putT sA.tm sA.nt o.dst v = some tm1 := q1
        simp only [q1']
      have hsd : stepDraw E K ops false o sA = some { sA with tm := tm1, m := barM (m1.new (.row [] .rw 0 none)) sA.m.bar } := by
        show (match stepOp E K ops o { sA with m := barM sA.m sA.m.size } with
          | some s1 => some { s1 with m := barM s1.m sA.m.bar }
          | none => none) = _
        rw [hst]
      simp only [hsd]
      exact z1 K fun y hy => hK y (List.mem_cons_of_mem _ hy)
def RPN (E : Env) (P : Program) : List RD → PSt → (PSt → Prop) → Prop
  | [], s, R => R s
  | .st free f :: l, s, R => free = true ∧ ∃ s1, f s = some s1 ∧ RPN E P l s1 R
  | .alt free f g :: l, s, R => free = true ∧ ((∃ s1, f s = some s1 ∧ RPN E P l s1 R) ∨ (∃ s1, g s = some s1 ∧ RPN E P l s1 R))
  | .call free dst w fn args :: l, s, R => (w s = some true ∧ ∃ g first captured, fn s = .fn g first captured ∧
        (match free with
        | true => PTl E P (s.k + 1) g (first ++ (args s ++ captured)) s.mem (fun x M1 => took s dst x M1 fun s2 => RPN E P l s2 R)
        | false => PTk E P g (first ++ (args s ++ captured)) (holdM s.mem) (fun nk x M1 => s.k < nk → ∃ N : PMem, (∀ i, N s.k i = none) ∧ MLe M1 (overM (holdM s.mem) N) ∧ ∃ s2, pput { s with M := overM s.M N } dst x = some s2 ∧ RPN E P l s2 R))) ∨
      (free = true ∧ w s = some false ∧ ∃ s1, pput s dst (.tup []) = some s1 ∧ RPN E P l s1 R) ∨ (free = false ∧ w s = some false ∧ ∃ s1, pput s dst (.tup []) = some s1 ∧ RPN E P l s1 R)
theorem RPN.sound (hE : EnvOk E P) {ops : List Oper} {bs : List Nat} : ∀ {l : List Oper} {i : Nat} {s : PSt} {R : PSt → Prop}, RPN E P (compD E ops bs i l) s R → PD E P ops bs i l s R
  | [], i, s, R, h => PD.nil h
  | o :: l, i, s, R, h => by
    simp only [compD] at h
    have st : ((!(cls E o.op).isHard || alone E bs ops i) = true ∧ ∃ s1, pstep E ops o s = some s1 ∧ RPN E P (compD E ops bs (i + 1) l) s1 R) → PD E P ops bs i (o :: l) s R := fun ⟨hf, s1, h1, h2⟩ => PD.step hE hf h1 (RPN.sound hE h2)
    split at h
    · rename_i x f hx
      rw [compOp_st hx] at h; exact st h
    · rename_i x f g hx
      obtain ⟨rfl, rfl⟩ := compOp_alt hx
      obtain ⟨hf, h | ⟨s1, h1, h2⟩⟩ := h
      · exact st ⟨hf, h⟩
      · exact PD.stepR hE hf h1 (RPN.sound hE h2)
    · exact st h
    · rename_i x d w f a hx
      obtain ⟨c, fo, hc, hf, rfl, rfl, rfl, rfl⟩ := compOp_call hx
      have hcls : cls E o.op = .hard := by rw [hc]; simp only [cls, hf]
      rcases h with ⟨hw, g, first, captured, h1, h2⟩ | ⟨hf1, hw, s1, h1, h2⟩ | ⟨hf1, hw, s1, h1, h2⟩
      · cases hfree : (!(cls E o.op).isHard || alone E bs ops i) with
        | true =>
          rw [hfree] at h2
          simp only at h2
          have hal : alone E bs ops i = true := by
            rw [hcls] at hfree
            simpa [Cls.isHard] using hfree
          exact PD.call hal hw hc hf h1 (h2.mono fun x M1 ⟨os1, M2, s2, a1, a2, a3, a4⟩ => ⟨os1, M2, s2, a1, a2, a3, RPN.sound hE a4⟩)
        | false =>
          rw [hfree] at h2
          simp only at h2
          exact PD.quietN hfree hw hc hf h1 (h2.mono fun nk x M1 h3 hlt => by
            obtain ⟨N, a0, a1, s2, a3, a4⟩ := h3 hlt
            exact ⟨N, a0, a1, s2, a3, RPN.sound hE a4⟩)
      · exact PD.step hE hf1 (pstep_skip hw h1) (RPN.sound hE h2)
      · exact PD.skip hE hw h1 (RPN.sound hE h2)
theorem RX.drawnN (hE : EnvOk E P) {rd : Option (Nat × Nat)} {s : PSt} {Q : AExit → PSt → Prop} {l : List RD} (h : RPN E P l s (Q .normal)) : RX E P rd (.drawn true l) s Q := fun code e => by
  cases code with
  | region id ops d =>
    cases d with
    | false => simp only [comp] at e; cases e
    | true =>
      simp only [comp] at e
      split at e
      · rename_i l' ha
        simp only [RC.drawn.injEq, Bool.and_eq_true] at e
        obtain ⟨⟨e1, e2⟩, rfl⟩ := e
        exact PX.drawn hE ha e1 e2 (RPN.sound hE h)
      · cases e
  | _ => cases e
theorem over_none {A : PMem} : overM A (fun _ _ => none) = A := by
  funext k i
  unfold overM
  cases A k i <;> rfl
theorem RPN.of : ∀ {l1 l2 : List RD} {s : PSt} {R : PSt → Prop}, RPD E P l1 s (fun s1 => RPN E P l2 s1 R) → RPN E P (l1 ++ l2) s R
  | [], l2, s, R, h => h
  | .st free f :: l, l2, s, R, ⟨h1, s1, h2, h3⟩ => ⟨h1, s1, h2, RPN.of h3⟩
  | .alt free f g :: l, l2, s, R, ⟨h1, h⟩ => ⟨h1, by
      rcases h with ⟨s1, h2, h3⟩ | ⟨s1, h2, h3⟩
      · exact .inl ⟨s1, h2, RPN.of h3⟩
      · exact .inr ⟨s1, h2, RPN.of h3⟩⟩
  | .call free dst w fn args :: l, l2, s, R, h => by
      rcases h with ⟨hw, g, first, captured, h1, h2⟩ | ⟨hf1, hw, s1, h1, h2⟩ | ⟨hf1, hw, s1, h1, h2⟩
      · refine .inl ⟨hw, g, first, captured, h1, ?_⟩
        cases free with
        | true => exact PTl.mono h2 fun x M1 ⟨os1, M2, s2, a1, a2, a3, a4⟩ => ⟨os1, M2, s2, a1, a2, a3, RPN.of a4⟩
        | false =>
          have h2' : PTk E P g (first ++ (args s ++ captured)) (holdM s.mem) (fun _ x M1 => MLe M1 (holdM s.mem) ∧ ∃ s2, pput s dst x = some s2 ∧ RPD E P l s2 (fun s1 => RPN E P l2 s1 R)) := h2
          refine h2'.mono fun nk x M1 ⟨a1, s2, a3, a4⟩ hlt => ⟨fun _ _ => none, fun _ => rfl, by rw [over_none]; exact a1, s2, by rw [over_none]; exact a3, RPN.of a4⟩
      · exact .inr (.inl ⟨hf1, hw, s1, h1, RPN.of h2⟩)
      · exact .inr (.inr ⟨hf1, hw, s1, h1, RPN.of h2⟩)
end
end Go.Pm
end

section
namespace Go.Proofs.YtmgmbdnhodicjaaDoor
open Go Go.Am Go.Pm
set_option maxHeartbeats 2000000
set_option maxRecDepth 100000
noncomputable abbrev c6_78a : List RD := [dV 142 (rmv (T 5)),
  dV 143 (rmv (T 142)),
  dG 144 143 true (rload true 7 (T 13)),
  dCG true 145 143 true (.func 20) [(T 144)],
  dG 146 143 true (rbin env .eql 23 false true (T 145) (K 0)),
  dV 147 (rpick (T 143) (T 146) (.const (.bool false))),
  dV 148 (rmv (T 147)),
  dG 149 148 true (rmv (T 0)),
  dG 151 148 true (rload true 7 (T 13)),
  dH 152 148 true (rbuildL 7 1 [.v (.int .i64 0), .v (.int .i64 0), .v (.string ⟨#[]⟩), .v (.int .i64 0), .v (.int .i64 0), .lst .full 0 0 [], .lst .full 0 0 []] [(0, (T 151))])]
noncomputable abbrev c6_78b : List RD := [.alt true (rI (some 153) (some (148, true)) (rappend 7 96 7 (T 150) (T 152))) (rI (some 153) (some (148, true)) (rappendR 7 96 7 (T 150) (T 152))),
  dCG true 154 148 true (.func 25) [(T 153)],
  dV 155 (rpick (T 148) (T 154) (.const (.bool false))),
  dV 4 (rmv (T 155))]
noncomputable abbrev c6_78c : List RD := [dCG true 154 148 true (.func 25) [(T 153)],
  dV 155 (rpick (T 148) (T 154) (.const (.bool false))),
  dV 4 (rmv (T 155))]
theorem split78 : c6_78 = .drawn true (c6_78a ++ (dCG false 150 148 true (.func 29) [(T 149)] :: (c6_78b ++ []))) := rfl
theorem tail78 {l : List Ev} (hl : l.length ≤ 1000) (hp : ∀ e ∈ l, e.path.length ≤ 1000000) (e : Ev) (he : e.path.length ≤ 1000000) {M0 : PMem} {tm : List (Nat × PV)} {k : Nat} {os : List Pm.Obj} {M : PMem} {x : PV} (hf : fresh M0 k)
    (h148 : tget tm 148 = bv true) (h152 : tget tm 152 = .lst .full 7 1 (evCells e)) (k1 : Nat) (hk1 : k1 ≠ k) (os1 : List Pm.Obj) (hf1 : fresh M0 k1) (hO : OutE k1 os1 x l) (hM : ∀ j o, os1[j]? = some o → M k1 j = some o) (hsub : Pm.Sub M0 M) {R : PSt → Prop}
    (q : ∀ tm' os' M', tget tm' 4 = bv (closedB (l ++ [e])) → MLe (seg M' k os') M0 → R ⟨tm', 156, k, os', M'⟩) :
    RPD env Tryd.prog c6_78b ⟨(150, x) :: tm, 156, k, os, M⟩ R := by
  have hfm : (l ++ [e]).flatMap evCells = l.flatMap evCells ++ evCells e := by rw [List.flatMap_append]; simp
  have hpe : ∀ y ∈ l ++ [e], y.path.length ≤ 1000000 := fun y hy => by
    rcases List.mem_append.1 hy with h | h
    · exact hp y h
    · rw [List.mem_singleton.1 h]; exact he
  have hle : (l ++ [e]).length = l.length + 1 := by simp
  have step : ∀ (os' : List Pm.Obj) (M' : PMem) (j : Nat) (w : Wm), appRP ⟨(150, x) :: tm, 156, k, os, M⟩ 7 96 7 x (.lst .full 7 1 (evCells e)) = some (.sl k j 0 (l.length + 1) (loCap (l.length + 1) 7), ⟨(150, x) :: tm, 156, k, os', M'⟩) → os'[j]? = some (.row w 7 (l.flatMap evCells ++ evCells e)) → MLe (seg M' k os') M0 → RPD env Tryd.prog c6_78b ⟨(150, x) :: tm, 156, k, os, M⟩ R := fun os' M' j w happ hj hm => by
    have h150 : tget ((150, x) :: tm) 150 = x := rfl
    have h152' : tget ((150, x) :: tm) 152 = .lst .full 7 1 (evCells e) := h152
    have h148' : tget ((150, x) :: tm) 148 = bv true := h148
    have hri : rI (some 153) (some (148, true)) (rappendR 7 96 7 (T 150) (T 152)) ⟨(150, x) :: tm, 156, k, os, M⟩ = some ⟨(153, .sl k j 0 (l.length + 1) (loCap (l.length + 1) 7)) :: (150, x) :: tm, 156, k, os', M'⟩ := by
      have hg : rg (some (148, true)) ⟨(150, x) :: tm, 156, k, os, M⟩ = some true := by
        rw [rg_V]; dsimp only; rw [h148']; rfl
      have ha : rappendR 7 96 7 (T 150) (T 152) ⟨(150, x) :: tm, 156, k, os, M⟩ = some (.sl k j 0 (l.length + 1) (loCap (l.length + 1) 7), ⟨(150, x) :: tm, 156, k, os', M'⟩) := by
        rw [r_appendR]
        show appRP _ 7 96 7 (tget ((150, x) :: tm) 150) (tget ((150, x) :: tm) 152) = _
        rw [h150, h152']
        exact happ
      unfold rI
      rw [hg, ha]
      rfl
    have hrow : seg M' k os' k j = some (.row w 7 ((l ++ [e]).flatMap evCells)) := by rw [seg_same, hfm]; exact hj
    have hcl := closed_sl (r0 := k) (i0 := j) (c0 := loCap (l.length + 1) 7) (l ++ [e]) (by omega) hpe hrow
    rw [hle] at hcl
    show RPD env Tryd.prog (.alt true _ _ :: c6_78c) _ R
    refine ⟨rfl, .inr ⟨_, hri, ?_⟩⟩
    show RPD env Tryd.prog [dCG true 154 148 true (.func 25) [(T 153)], dV 155 (rpick (T 148) (T 154) (.const (.bool false))), dV 4 (rmv (T 155))] _ R
    simp only [G0, Nat.reduceLT, Nat.reduceEqDiff, Nat.reduceAdd, Nat.reduceLeDiff, Nat.reduceMul, h148, cnd_t, e_CGD]
    refine cs0 hcl (Pm.Sub.refl _) (by decide) ?_
    simp only [G0, Nat.reduceLT, Nat.reduceEqDiff, Nat.reduceAdd, Nat.reduceLeDiff, Nat.reduceMul, h148, Bool.true_and, cnd_t]
    exact q _ _ _ rfl hm
  have keep : ∀ {M' : PMem} {os' : List Pm.Obj}, (∀ a i, M0 a i ≠ none → M' a i = M a i) → MLe (seg M' k os') M0 := fun {M' os'} h a i o ho => by
    have hak : a ≠ k := fun e' => by subst e'; rw [hf i] at ho; cases ho
    exact ⟨o, by rw [seg_ne _ _ _ hak, h a i (by rw [ho]; exact fun h => by cases h)]; exact hsub _ _ _ ho, .refl _⟩
  cases hO with
  | nil e0 =>
    refine step _ _ os.length .rw (apr_full (m := 1) (n := 0) (by decide) ⟨.inl rfl, by decide, by decide, by decide, rfl, pone_ev e⟩) ?_ (keep fun a i _ => rfl)
    rw [List.getElem?_append_right (Nat.le_refl _), Nat.sub_self]; rfl
  | @row j w l' h hw hne =>
    refine step _ _ os.length .own (apr_grow (m := 1) (n := l.length) (by decide) (fun e => hne (List.length_eq_zero_iff.1 e)) hk1 (cap_lo (by decide)) hw (hM j _ h) (ev_len l).symm ⟨by omega, by omega, by decide, rfl, pone_ev e⟩) ?_ (keep fun a i ha => put_ne fun y => ha (by rw [y.1]; exact hf1 i))
    rw [List.getElem?_append_right (Nat.le_refl _), Nat.sub_self]; rfl
theorem copy78 {l : List Ev} (hl : l.length ≤ 20) (hb : ∀ e ∈ l, e.path.length ≤ 100 ∧ e.bytes.length ≤ 1200 ∧ e.past.length ≤ 100) (e : Ev) (he : e.path.length ≤ 1000000) {tm : List (Nat × PV)} {k : Nat} {os : List Pm.Obj} {M : PMem} (hf : fresh M k)
    (h148 : tget tm 148 = bv true) (h149 : tget tm 149 = encEvs l) (h152 : tget tm 152 = .lst .full 7 1 (evCells e)) {R : PSt → Prop} (q : ∀ tm' os' M', tget tm' 4 = bv (closedB (l ++ [e])) → MLe (seg M' k os') M → R ⟨tm', 156, k, os', M'⟩) :
    RPN env Tryd.prog (dCG false 150 148 true (.func 29) [(T 149)] :: (c6_78b ++ [])) ⟨tm, 156, k, os, M⟩ R := by
  have hp : ∀ e ∈ l, e.path.length ≤ 1000000 := fun e he => by have := hb e he; omega
  have hg : rg (some (148, true)) ⟨tm, 156, k, os, M⟩ = some true := by
    rw [rg_V]; dsimp only; rw [h148]; rfl
  refine .inl ⟨hg, 29, [], [], rfl, ?_⟩
  show PTk env Tryd.prog 29 ([] ++ ([tget tm 149] ++ [])) (holdM (seg M k os)) _
  rw [h149]
  refine (copy_events l (by omega) (fun e he => by have := hb e he; omega) (fun e he => by have := hb e he; omega) (holdM (seg M k os))).mono ?_
  rintro nk x M1 ⟨k1, os1, hk1, hf1, rfl, hO⟩ hlt
  have hlt' : k < nk := hlt
  have hk1' : k1 ≠ k := by omega
  refine ⟨fun a i => if a = k1 then os1[i]? else none, fun i => if_neg (Ne.symm hk1'), ?_, ⟨(150, x) :: tm, 156, k, os, overM M fun a i => if a = k1 then os1[i]? else none⟩, rfl, ?_⟩
  · show MLe _ (overM (holdM (seg M k os)) _)
    intro a i o ho
    rcases overM_cases ho with ho1 | ⟨e1, e2⟩
    · have hak : a ≠ k1 := fun e' => by subst e'; rw [hf1 i] at ho1; cases ho1
      exact ⟨o, by rw [seg_ne _ _ _ hak]; exact ho1, .refl _⟩
    · by_cases hak : a = k1
      · subst hak
        rw [if_pos rfl] at e2
        exact ⟨o, by rw [seg_same]; exact e2, .refl _⟩
      · rw [if_neg hak] at e2; cases e2
  · have hfM : fresh M k1 := fun i => by
      have := hold_none.1 (hf1 i)
      rw [seg_ne _ _ _ hk1'] at this
      exact this
    refine RPN.of (tail78 (M0 := M) (by omega) hp e he hf h148 h152 k1 hk1' os1 hfM hO (fun j o e => ?_) (fun a i o e => overM_l e) q)
    rw [overM_r (hfM j), if_pos rfl]; exact e
theorem last79 {l : List Ev} (hc : ClosedL l) (hl : l.length ≤ 20) (hb : ∀ e ∈ l, e.path.length ≤ 100 ∧ e.bytes.length ≤ 1200 ∧ e.past.length ≤ 100) {P : List Span} (hP : pastOk P = true) (hm : ∀ n s, memP P n s = l.any fun e => memP e.past n s || inSp ⟨e.node, e.seq, e.seq⟩ n s) {node : Int} (hn : 1 ≤ node ∧ node ≤ 200) (hlast : lastOf P node < 2147483647)
    {M : PMem} {k : Nat} (hf : fresh M k) {tm : List (Nat × PV)} (t0 : tget tm 0 = encEvs l) (t5 : tget tm 5 = bv true) (t13 : tget tm 13 = .ptr k 0 0) :
    RX env Tryd.prog none c6_79 ⟨tm, 156, k, [.row .rw 0 (evCells (nextE node P))], M⟩ (ends env ⟨156, [.tmp 4], body6⟩ (fun x M1 => x = bv true ∧ M1 = M)) := by
  have hpn : (nextE node P).path.length ≤ 1000000 := by show 3 ≤ 1000000; decide
  have h7 : ptake true 7 (evCells (nextE node P)) 0 = some (encEv (nextE node P)) := rfl
  have hfill : fillA 7 [.v (.int .i64 0), .v (.int .i64 0), .v (.string ⟨#[]⟩), .v (.int .i64 0), .v (.int .i64 0), .lst .full 0 0 [], .lst .full 0 0 []] [(0, encEv (nextE node P))] = some (evCells (nextE node P)) := rfl
  refine RX.seq ?_
  rw [split78]
  refine RX.drawnN env_ok (RPN.of ?_)
  simp only [G0, Nat.reduceLT, Nat.reduceEqDiff, Nat.reduceAdd, Nat.reduceLeDiff, Nat.reduceMul, t0, t5, t13, h7, cnd_t, e_CGD]
  refine cp0 (event_check (nextE node P) hpn) (by decide) ?_
  rw [next_ok hP hn hlast]
  simp only [G0, Nat.reduceLT, Nat.reduceEqDiff, Nat.reduceAdd, Nat.reduceLeDiff, Nat.reduceMul, err_neq, t0, t5, t13, h7, hfill, Bool.true_and, cnd_t, e_CGD]
  refine ⟨rfl, ⟨(152, .lst .full 7 1 (evCells (nextE node P))) :: _, 156, k, _, M⟩, rfl, ?_⟩
  show RPN env Tryd.prog (dCG false 150 148 true (.func 29) [(T 149)] :: (c6_78b ++ [])) _ _
  refine copy78 hl hb (nextE node P) hpn hf rfl rfl rfl fun tm' os' M' h4 hM' => ?_
  refine RX.of env_ok ?_
  simp only [G0, Nat.reduceLT, Nat.reduceEqDiff, Nat.reduceAdd, Nat.reduceLeDiff, Nat.reduceMul]
  refine ⟨.inr rfl, [_], M, rfl, hM', ?_, rfl⟩
  show ppack [tget tm' 4] = _
  rw [h4, closedB_t (next_closed hc hP hm hn hlast)]
  rfl
end Go.Proofs.YtmgmbdnhodicjaaDoor
end

section
namespace Go.Proofs.YtmgmbdnhodicjaaDoor
open Go Go.Am Go.Pm
set_option maxHeartbeats 4000000
set_option maxRecDepth 100000
theorem order_let (l : List Ev) (z : Int) (h : longEvs 20 l = true ∨ (longEvs 20 l = false ∧ ¬ ClosedL l)) : PTp env Tryd.prog 6 [encEvs l, iv z] (bv true) := fun M => by
  refine PT.enterR env_ok fn6 (by simp) comp6 fun k hk hf => RX.of env_ok ?_
  simp only [G0, Nat.reduceLT, Nat.reduceEqDiff, Nat.reduceAdd, Nat.reduceLeDiff, Nat.reduceMul, argsP]
  refine cp0 awake24 (by decide) ?_
  simp only [G0, Nat.reduceLT, Nat.reduceEqDiff, Nat.reduceAdd, Nat.reduceLeDiff, Nat.reduceMul]
  refine cp0 (long_events l 20 (by decide)) (by decide) ?_
  rcases h with h | ⟨h, hn⟩
  · rw [h]
    simp only [G0, Nat.reduceLT, Nat.reduceEqDiff, Nat.reduceAdd, Nat.reduceLeDiff, Nat.reduceMul, Bool.not_true, Bool.not_false, cnd_t, cnd_f]
    exact end1 hf rfl ⟨rfl, rfl⟩
  · obtain ⟨hl, hb⟩ := not_long h
    rw [h]
    simp only [G0, Nat.reduceLT, Nat.reduceEqDiff, Nat.reduceAdd, Nat.reduceLeDiff, Nat.reduceMul, Bool.not_true, Bool.not_false, cnd_t, cnd_f]
    refine cp0 (closed_at l (by omega) (fun e he => by have := hb e he; omega)) (by decide) ?_
    rw [closedB_f hn]
    simp only [G0, Nat.reduceLT, Nat.reduceEqDiff, Nat.reduceAdd, Nat.reduceLeDiff, Nat.reduceMul, Bool.not_true, Bool.not_false, Bool.false_or, cnd_t, cnd_f]
    exact end1 hf rfl ⟨rfl, rfl⟩
def rawNext (node : Int) (P : List Span) : List PV := [iv node, iv (lastOf P node + 1), str [97, 47, 98], iv 2, iv 0, .lst .full 0 0 [], encSpans P]
theorem raw_le {node : Int} {P : List Span} {M : PMem} {k : Nat} : MLe (seg M k [.row .rw 0 (rawNext node P)]) (seg M k [.row .rw 0 (evCells (nextE node P))]) := fun a i o e => by
  by_cases ha : a = k
  · subst ha
    rw [seg_same] at e
    cases i with
    | zero =>
      have e' : some (Pm.Obj.row .rw 0 (evCells (nextE node P))) = some o := e
      cases e'
      exact ⟨_, by rw [seg_same]; rfl, .row _ _ (.cons (.refl _) (.cons (.refl _) (.cons (.refl _) (.cons (.refl _) (.cons (.refl _) (.cons (PLe.nil_no .full 0 1 rfl) (.cons (.refl _) .nil)))))))⟩
    | succ i => simp at e
  · rw [seg_ne _ _ _ ha] at e
    exact ⟨o, by rw [seg_ne _ _ _ ha]; exact e, .refl _⟩
theorem order_do (l : List Ev) (z : Int) (h : longEvs 20 l = false) (hc : ClosedL l) : PTp env Tryd.prog 6 [encEvs l, iv z] (bv true) := fun M => by
  obtain ⟨hl, hb⟩ := not_long h
  have hp : ∀ e ∈ l, e.path.length ≤ 1000000 := fun e he => by have := hb e he; omega
  obtain ⟨P, hpt, hP, hm⟩ := past_ok hc hl fun e he => (hb e he).2.2
  have hpk := pick_in z 200 (by decide)
  have hnode : 1 ≤ 1 + pick z 200 ∧ 1 + pick z 200 ≤ 200 := by omega
  refine PT.enterR env_ok fn6 (by simp) comp6 fun k hk hf => ?_
  refine RX.cut (fun s => ∃ tm, s = ⟨tm, 156, k, [], M⟩ ∧ tget tm 0 = encEvs l ∧ tget tm 1 = iv z) (RX.of env_ok ?_) ?_
  · simp only [G0, Nat.reduceLT, Nat.reduceEqDiff, Nat.reduceAdd, Nat.reduceLeDiff, Nat.reduceMul, argsP]
    exact ⟨_, rfl, rfl, rfl⟩
  rintro s ⟨tm, rfl, t0, t1⟩
  refine RX.cut (fun s => ∃ tm, s = ⟨tm, 156, k, [], M⟩ ∧ Kp6 tm l z) (RX.of env_ok ?_) ?_
  · simp only [G0, Nat.reduceLT, Nat.reduceEqDiff, Nat.reduceAdd, Nat.reduceLeDiff, Nat.reduceMul, t0, t1]
    refine cp0 awake24 (by decide) ?_
    simp only [G0, Nat.reduceLT, Nat.reduceEqDiff, Nat.reduceAdd, Nat.reduceLeDiff, Nat.reduceMul]
    exact ⟨_, rfl, t0, t1, rfl⟩
  rintro s ⟨tm, rfl, t0, t1, t5⟩
  refine RX.cut (fun s => ∃ tm, s = ⟨tm, 156, k, [], M⟩ ∧ Kp6 tm l z) (RX.of env_ok ?_) ?_
  · simp only [G0, Nat.reduceLT, Nat.reduceEqDiff, Nat.reduceAdd, Nat.reduceLeDiff, Nat.reduceMul, t0, t1, t5]
    refine cp0 (long_events l 20 (by decide)) (by decide) ?_
    rw [h]
    simp only [G0, Nat.reduceLT, Nat.reduceEqDiff, Nat.reduceAdd, Nat.reduceLeDiff, Nat.reduceMul, t0, Bool.not_true, Bool.not_false, cnd_t, cnd_f]
    refine cp0 (closed_at l (by omega) hp) (by decide) ?_
    rw [closedB_t hc]
    simp only [G0, Nat.reduceLT, Nat.reduceEqDiff, Nat.reduceAdd, Nat.reduceLeDiff, Nat.reduceMul, Bool.not_true, Bool.not_false, Bool.false_or, cnd_t, cnd_f]
    exact ⟨_, rfl, t0, t1, t5⟩
  rintro s ⟨tm, rfl, t0, t1, t5⟩
  refine RX.cut (fun s => ∃ tm, s = ⟨tm, 156, k, [], M⟩ ∧ Kp6 tm l z) (RX.of env_ok ?_) ?_
  · simp only [G0, Nat.reduceLT, Nat.reduceEqDiff, Nat.reduceAdd, Nat.reduceLeDiff, Nat.reduceMul, t0, t1, t5]
    refine RX.loop (loop6i hc hl hp (z := z) (fun tm' hK => ?_) l.length 0 _ rfl (Nat.zero_le _) (by exact ⟨t0, t1, t5⟩) (by rfl))
    simp only [G0, Nat.reduceLT, Nat.reduceEqDiff, Nat.reduceAdd, Nat.reduceLeDiff, Nat.reduceMul]
    exact ⟨_, rfl, hK⟩
  rintro s ⟨tm, rfl, t0, t1, t5⟩
  refine RX.cut (fun s => ∃ tm, s = ⟨tm, 156, k, [], M⟩ ∧ Kp6 tm l z ∧ tget tm 10 = encSpans P ∧ tget tm 11 = iv 0) (RX.of env_ok ?_) ?_
  · simp only [G0, Nat.reduceLT, Nat.reduceEqDiff, Nat.reduceAdd, Nat.reduceLeDiff, Nat.reduceMul, t0, t1, t5]
    refine cp0 (past_of l (by omega) hp) (by decide) ?_
    rw [hpt]
    simp only [G0, Nat.reduceLT, Nat.reduceEqDiff, Nat.reduceAdd, Nat.reduceLeDiff, Nat.reduceMul]
    exact ⟨_, rfl, ⟨t0, t1, t5⟩, rfl, rfl⟩
  rintro s ⟨tm, rfl, ⟨t0, t1, t5⟩, t10, t11⟩
  refine RX.cut (fun s => ∃ tm, s = ⟨tm, 156, k, [], M⟩ ∧ Kp6 tm l (1 + pick z 200) ∧ tget tm 10 = encSpans P ∧ tget tm 11 = iv 0) (RX.of env_ok ?_) ?_
  · have hw : IntKind.i64.wrap (1 + pick z 200) = 1 + pick z 200 := wrap64_id (by omega) (by omega)
    simp only [G0, Nat.reduceLT, Nat.reduceEqDiff, Nat.reduceAdd, Nat.reduceLeDiff, Nat.reduceMul, t0, t1, t5]
    refine cp0 (pick_at z 200 (by decide) (by decide)) (by decide) ?_
    simp only [G0, Nat.reduceLT, Nat.reduceEqDiff, Nat.reduceAdd, Nat.reduceLeDiff, Nat.reduceMul, hw]
    exact ⟨_, rfl, ⟨t0, rfl, t5⟩, t10, t11⟩
  rintro s ⟨tm, rfl, ⟨t0, t1, t5⟩, t10, t11⟩
  generalize hN : 1 + pick z 200 = node at *
  refine RX.cut (fun s => ∃ tm, s = ⟨tm, 156, k, [], M⟩ ∧ Kp6 tm l node ∧ tget tm 10 = encSpans P ∧ tget tm 11 = iv 0 ∧ tget tm 12 = iv (lastOf P node)) (RX.of env_ok ?_) ?_
  · simp only [G0, Nat.reduceLT, Nat.reduceEqDiff, Nat.reduceAdd, Nat.reduceLeDiff, Nat.reduceMul, t1, t10]
    refine cp0 (past_last P node) (by decide) ?_
    simp only [G0, Nat.reduceLT, Nat.reduceEqDiff, Nat.reduceAdd, Nat.reduceLeDiff, Nat.reduceMul]
    exact ⟨_, rfl, ⟨t0, t1, t5⟩, t10, t11, rfl⟩
  rintro s ⟨tm, rfl, ⟨t0, t1, t5⟩, t10, t11, t12⟩
  have e0 : ((0 : Int) != 0) = false := by decide
  have e0' : ((0 : Int) == 0) = true := by decide
  by_cases hlast : lastOf P node < 2147483647
  · have hge : ¬ (lastOf P node ≥ 2147483647) := by omega
    have hw : IntKind.i64.wrap (lastOf P node + 1) = lastOf P node + 1 := by
      have := last_pos P node
      exact wrap64_id (by omega) (by omega)
    refine RX.cut (fun s => ∃ tm, s = ⟨tm, 156, k, [], M⟩ ∧ Kp6 tm l node ∧ tget tm 10 = encSpans P ∧ tget tm 12 = iv (lastOf P node)) (RX.of env_ok ?_) ?_
    · simp only [G0, Nat.reduceLT, Nat.reduceEqDiff, Nat.reduceAdd, Nat.reduceLeDiff, Nat.reduceMul, t11, t12, e0, hge, decide_false, Bool.not_true, Bool.not_false, Bool.false_or, cnd_t, cnd_f]
      exact ⟨_, rfl, ⟨t0, t1, t5⟩, t10, t12⟩
    rintro s ⟨tm, rfl, ⟨t0, t1, t5⟩, t10, t12⟩
    refine RX.cut (fun s => ∃ tm, s = ⟨tm, 156, k, [.row .rw 0 (rawNext node P)], M⟩ ∧ tget tm 0 = encEvs l ∧ tget tm 5 = bv true ∧ tget tm 13 = .ptr k 0 0) (RX.of env_ok ?_) ?_
    · have hst : storeO 7 0 (.agg (rawNext node P)) (some (.row .rw 0 [.v (.int .i64 0), .v (.int .i64 0), .v (.string ⟨#[]⟩), .v (.int .i64 0), .v (.int .i64 0), .lst .full 0 0 [], .lst .full 0 0 []])) = some (.row .rw 0 (rawNext node P)) := storeO_eq (n := 7) (x := .agg (rawNext node P)) ⟨rfl, Nat.le_refl 7, rfl⟩
      have hfill : fillN [(0, 2), (2, 1), (3, 3), (6, 1)] [.v (.int .i64 node), .v (.int .i64 (lastOf P node + 1)), .v (.string ⟨#[97, 47, 98]⟩), .v (.int .i64 2), .v (.int .i64 0), .lst .full 0 0 [], .lst .full 0 0 []] (encSpans P) [] (some (6, 1)) = some (rawNext node P) := rfl
      simp only [G0, Nat.reduceLT, Nat.reduceEqDiff, Nat.reduceAdd, Nat.reduceLeDiff, Nat.reduceMul, t1, t10, t12, hw, hfill, hst]
      exact ⟨_, rfl, t0, t5, rfl⟩
    rintro s ⟨tm, rfl, t0, t5, t13⟩
    refine RX.weak (s' := ⟨tm, 156, k, [.row .rw 0 (evCells (nextE node P))], M⟩) ⟨fun i => .refl _, rfl, rfl, rfl, raw_le⟩ ?_
    refine RX.cut (fun s => ∃ tm, s = ⟨tm, 156, k, [.row .rw 0 (evCells (nextE node P))], M⟩ ∧ tget tm 0 = encEvs l ∧ tget tm 5 = bv true ∧ tget tm 13 = .ptr k 0 0) (RX.of env_ok ?_) ?_
    · simp only [G0, Nat.reduceLT, Nat.reduceEqDiff, Nat.reduceAdd, Nat.reduceLeDiff, Nat.reduceMul, t0, t5, t13]
      refine RX.loop (loop6n hc hl hp hP hm hnode hlast (fun tm' s0 s5 s13 => ?_) l.length 0 _ rfl (Nat.zero_le _) t0 t5 t13 (by rfl))
      simp only [G0, Nat.reduceLT, Nat.reduceEqDiff, Nat.reduceAdd, Nat.reduceLeDiff, Nat.reduceMul]
      exact ⟨_, rfl, s0, s5, s13⟩
    rintro s ⟨tm, rfl, t0, t5, t13⟩
    exact last79 hc hl hb hP hm hnode hlast hf t0 t5 t13
  · have hge : lastOf P node ≥ 2147483647 := by omega
    refine RX.of env_ok ?_
    simp only [G0, Nat.reduceLT, Nat.reduceEqDiff, Nat.reduceAdd, Nat.reduceLeDiff, Nat.reduceMul, t5, t11, t12, e0, e0', hge, decide_true, Bool.not_true, Bool.not_false, Bool.false_or, cnd_t, cnd_f]
    exact end1 hf rfl ⟨rfl, rfl⟩
theorem order6 (l : List Ev) (z : Int) : PTp env Tryd.prog 6 [encEvs l, iv z] (bv true) := by
  cases h : longEvs 20 l with
  | true => exact order_let l z (.inl h)
  | false =>
    by_cases hc : ClosedL l
    · exact order_do l z h hc
    · exact order_let l z (.inr ⟨h, hc⟩)
end Go.Proofs.YtmgmbdnhodicjaaDoor
end

section
namespace Go.Proofs.YtmgmbdnhodicjaaDoor
open Go Go.Am Go.Pm
theorem evs_dec {d : DV} (h : ShP (.sl shEv) d) : ∃ xs : List Ev, pvD (.sl shEv) d = encEvs xs := by
  obtain ⟨xs, h1, h2, _⟩ := sl_dec (l := shEv) (enc := evCells) (B := evB) (by decide) (fun ds h => ev_dec h) h
  exact ⟨xs, h1⟩
theorem order_pt (ds : List DV) (h : ShAs [.one (.sl shEv), .one i64] ds) : PTp env Tryd.prog 6 (pvAs [.one (.sl shEv), .one i64] ds) (bv true) := by
  cases h with | cons h1 h =>
  cases h with | cons h2 h =>
  cases h
  cases h1 with | one h1 =>
  cases h2 with | one h2 =>
  obtain ⟨xs, hxs⟩ := evs_dec h1
  obtain ⟨x, hx, _⟩ := i_dec h2
  simp only [pvAs, pvA, hx, hxs]
  exact order6 xs x
end Go.Proofs.YtmgmbdnhodicjaaDoor
end

section
namespace Go.Proofs.YtmgmbdnhodicjaaDoor
namespace EventOrder
open Go Go.ChangeShapes Go.WideShapes Go.RowKit Go.Am Go.Pm
theorem ownKnobOk : ownKnob Tryd.prog.godebug = none := by kernel_rfl
def cellsOf : Nat → List (DataW Unit) → List Value
  | 0, _ => []
  | _ + 1, [] => []
  | k + 1, .lit (.int i n) :: r => .int i n :: cellsOf k r
  | k + 1, .agg l :: r => cellsOf k l ++ cellsOf k r
  | k + 1, _ :: r => cellsOf k r
noncomputable def laidWorld (os : Os) : World :=
  let w0 := World.holding Tryd.prog os ⟨#[], #[], []⟩
  let w1 : World := { w0 with heap := w0.heap.modify 1 fun
      | .cells _ t frozen => .cells (cellsOf 400 [(Rows.laid_unicode_utf8_acceptRanges : DataW Unit)]).toArray t frozen
      | o => o }
  let w2 : World := { w1 with heap := w1.heap.modify 0 fun
      | .cells _ t frozen => .cells (cellsOf 400 [(Rows.laid_unicode_utf8_first : DataW Unit)]).toArray t frozen
      | o => o }
  w2
theorem laidWorld_met (os : Os) (args : Array Value) : laidMetH Tryd.prog [("unicode/utf8.acceptRanges", Rows.laid_unicode_utf8_acceptRanges), ("unicode/utf8.first", Rows.laid_unicode_utf8_first)] ((laidWorld os).forCall (fun _ _ => 0) ⟨#[], args, []⟩).memory :=
  laidMetH_of_parts (laidMet_of_run' 8 (by kernel_rfl) (by kernel_rfl)) (by kernel_rfl)
theorem globals (W : World) (h : W.ShapedOpen Tryd.prog) : 3 ≤ W.heap.size :=
  ShapedOpen.size (g := 2) h (of_decide_eq_true (by kernel_rfl)) (t := 3) (zero := #[.int .i64 0]) (by kernel_rfl)
theorem boolT : Tryd.prog.underlying 4 = some .bool := by kernel_rfl
theorem shapes : argShs Tryd.prog Tryd.f6.params.toList = some [.one (.sl [.int .i64, .int .i64, .str, .int .i64, .int .i64, .sl [.int .u8], .sl [.int .i64, .int .i64, .int .i64]]), .one (.int .i64)] := by kernel_rfl
theorem readable : Tryd.f6.params.toList.all (fun t => Tryd.prog.readableRec t && decide (t < Tryd.prog.types.size)) = true := by kernel_rfl
theorem params : Tryd.f6.params = #[45, 3] := by kernel_rfl
def zeros : Array Value := #[.slice none 0 0, .int .i64 0]
set_option maxRecDepth 100000 in
theorem law_lifted (os : Os) (started : os.Started) (H : Type) (enc : TypeId × Value → H) :
    ReturnsInHanded {} Tryd.checked os 6 .any (fun w args => (Rows.eventOrderSpec.pre enc Tryd.prog Tryd.f6 [] false w args ∧ laidMetH Tryd.prog [("unicode/utf8.acceptRanges", Rows.laid_unicode_utf8_acceptRanges), ("unicode/utf8.first", Rows.laid_unicode_utf8_first)] w) ∧ sizedMet enc Tryd.prog Tryd.f6 (OpenSpec.ofChange Rows.eventOrderSpec) false w args)
      (Rows.eventOrderSpec.post enc Tryd.prog Tryd.f6 false true false false) := by
  refine returnsInHanded_of_change_both (C := Tryd.checked) (X := fun w _ => laidMetH Tryd.prog [("unicode/utf8.acceptRanges", Rows.laid_unicode_utf8_acceptRanges), ("unicode/utf8.first", Rows.laid_unicode_utf8_first)] w) (fun _ _ _ hh h => h.of_heap hh) ownKnobOk started (by kernel_rfl) Tryd.func6
    (ChangeSpec.witness_at (enc := enc) (C := Tryd.checked) (os := os) (X := fun w _ => laidMetH Tryd.prog [("unicode/utf8.acceptRanges", Rows.laid_unicode_utf8_acceptRanges), ("unicode/utf8.first", Rows.laid_unicode_utf8_first)] w) false (laidWorld os) zeros 8 rfl (by kernel_rfl) (by kernel_rfl) (by kernel_rfl) (by kernel_rfl) (by kernel_rfl) (laidWorld_met os _)) ?_
  intro W base args ds gs before hval hW _ _ _ hsh
  obtain ⟨p, q, hA0, _⟩ := id hW
  have hlen : ds.length = 2 := by
    have := trodAll_len hA0
    rw [this, params]; rfl
  refine (law_args env_ok fn6 (by rw [env_ng]; exact globals W hsh) shapes (fun j t v ht hv => hval j t v (by simpa using ht) (by simpa using hv)) hA0 order_pt).mono fun e W' ⟨he, hb, hsz, hos, htp, hout⟩ => ⟨.bool true, he, ?_⟩
  have hs : Rows.eventOrderSpec.fn H ds = { results := [.lit (.bool true)], args := ds } := by
    match ds, hlen with
    | [_, _], _ => rfl
  exact post_args (t := 4) (by kernel_rfl) readable (by kernel_rfl) boolT rfl hs rfl hW hos htp hout hsz hb
theorem f_holds : Rows.EventOrderSaid :=
  OpenClaim.holds_of_wide 6 Tryd.f6 rfl rfl rfl rfl rfl rfl rfl ⟨rfl, rfl, rfl, rfl, rfl⟩ rfl rfl rfl rfl rfl (by kernel_rfl) Tryd.func6 (by kernel_rfl)
    (of_decide_eq_true (by kernel_rfl)) (by unfold Func.isWrapper; rw [if_neg (of_decide_eq_false (by kernel_rfl))]; exact ⟨rfl, rfl⟩)
    (fun os started H enc _ => law_lifted os started H enc)
end EventOrder
theorem eventOrder_holds : Rows.EventOrderCardSaid :=
  Claim7.holds_tied_plain_at .later [] [.data, .pinned] true (true, "b49ce140f1a49cd33fc9e5f85a0270c4a77f4ae4f4033b4ccdb8f36fa5085252") false
    EventOrder.f_holds (fun _ h => by cases h) (by kernel_rfl) (fun _ h => by cases h) eventOrder_row_tie rfl ⟨rfl, rfl⟩ (by kernel_rfl) rfl
    (fun f fn hf hfn => by
      obtain rfl : f = 6 := Option.some.inj ((show Tryd.prog.funcNamed "tributary/tributarylaw08.EventOrder" = some 6 by kernel_rfl).symm.trans hf) |>.symm
      obtain rfl : fn = Tryd.f6 := (Option.some.inj (Tryd.func6.symm.trans hfn)).symm
      exact ⟨by kernel_rfl, fun j t ht => by
        have hall : Tryd.f6.params.toList.all (fun t => !Tryd.prog.wantsStandIn t) = true := by kernel_rfl
        have := List.all_eq_true.1 hall t (List.mem_of_getElem? (by rw [Array.getElem?_toList]; exact ht))
        have h2 : Tryd.prog.wantsStandIn t = false := by simpa using this
        exact h2⟩)
    (by kernel_rfl)
#print axioms eventOrder_holds
end Go.Proofs.YtmgmbdnhodicjaaDoor
end
