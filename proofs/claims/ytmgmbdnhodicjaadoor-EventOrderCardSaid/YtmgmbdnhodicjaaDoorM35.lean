/- EventOrder: closed events are in order, and one made behind them is closed with them. Of any arguments. Part 35 of 38; no condition. -/
import Derived.Test.YtmgmbdnhodicjaaDoorM34
set_option linter.unusedVariables false
set_option linter.unusedSimpArgs false
section
namespace Go.Proofs.YtmgmbdnhodicjaaDoor
open Go Go.Am Go.Pm
set_option maxHeartbeats 1000000
set_option maxRecDepth 100000
def hasDot (d1 d2 : Int) (l : List (Ev × Nat)) : Bool := l.any fun x => isDot d1 d2 x.1
theorem chain.at {M0 M : PMem} {p : PV} {ks : List (Nat × Nat)} {l : List (Ev × Nat)} (h : chain M0 M p ks l) : ∀ k i, (k, i) ∈ ks → ∃ o, M k i = some o := by
  induction h with
  | nil => intro k i hx; cases hx
  | cons h h0 hn r ih =>
    intro k i hx
    rcases List.mem_cons.1 hx with x | x
    · cases x; exact ⟨_, h⟩
    · exact ih k i x
def putCode (bytes entries : Int) (l : List (Ev × Nat)) (e : Ev) : Int :=
  if !evOk e then 2 else if decide ((evSize e : Int) > bytes) || entries == 0 then 3 else if hasDot e.node e.seq l then 7
  else if decide ((szs l : Int) + (evSize e : Int) > bytes) || decide ((l.length : Int) + 1 > entries) then 8 else 0
theorem ev_fit {e : Ev} (h : evOk e = true) : evFit e := by
  obtain ⟨_, g2, g3⟩ := ev_parts h
  obtain ⟨_, _, _, _, hb⟩ := eff_nn g2
  simp only [pastOk, Bool.and_eq_true, decide_eq_true_eq] at g3
  exact ⟨by omega, by omega⟩
end Go.Proofs.YtmgmbdnhodicjaaDoor
end

section
namespace Go.Proofs.YtmgmbdnhodicjaaDoor
open Go Go.Am Go.Pm
set_option maxHeartbeats 1000000
set_option maxRecDepth 100000
theorem slice_one {k i o n c sz : Nat} {kk : IntKind} (h1 : 1 ≤ n) (hc : n ≤ capOf c ∧ c % 2 = 1 ∧ esOf c = sz) (hs : sz < 4096) : sliceL sz (.sl k i o n c) (some (.v (.int kk 1))) none none = some (.sl k i (o + sz) (n - 1) (loCap (capOf c - 1) sz)) := by
  have hp : pnat? (.v (.int kk 1)) = some 1 := pnat_int (n := 1)
  unfold sliceL
  simp only [hp]
  rw [if_pos ⟨h1, hc.1, .inr ⟨hc.2.1, hc.2.2, hs⟩⟩, if_neg (by omega), Nat.one_mul]
theorem sp_len (l : List Span) : (l.flatMap encSpan).length = l.length * 3 := flatMap_len (f := encSpan) (n := 3) (fun _ => rfl) l
theorem sp_frm (pre r : List Span) (z : Span) (f : Int) : psplice ((pre ++ z :: r).flatMap encSpan) (pre.length * 3 + 1) [iv f] = (pre ++ ⟨z.node, f, z.to⟩ :: r).flatMap encSpan := by
  unfold psplice
  have hl := sp_len pre
  rw [List.flatMap_append, List.flatMap_append, List.flatMap_cons, List.flatMap_cons]
  have e1 : (pre.flatMap encSpan ++ (encSpan z ++ r.flatMap encSpan)).take (pre.length * 3 + 1) = pre.flatMap encSpan ++ [iv z.node] := by
    rw [List.take_append, hl, List.take_of_length_le (by omega)]
    have : pre.length * 3 + 1 - pre.length * 3 = 1 := by omega
    rw [this]; rfl
  have e2 : (pre.flatMap encSpan ++ (encSpan z ++ r.flatMap encSpan)).drop (pre.length * 3 + 1 + [iv f].length) = iv z.to :: r.flatMap encSpan := by
    rw [List.drop_append, hl, List.drop_of_length_le (by rw [hl]; simp only [List.length_cons, List.length_nil]; omega)]
    have : pre.length * 3 + 1 + [iv f].length - pre.length * 3 = 2 := by simp; omega
    rw [this]; rfl
  rw [e1, e2, List.append_assoc]; rfl
theorem sp_to (pre r : List Span) (z : Span) (t : Int) : psplice ((pre ++ z :: r).flatMap encSpan) (pre.length * 3 + 2) [iv t] = (pre ++ ⟨z.node, z.frm, t⟩ :: r).flatMap encSpan := by
  unfold psplice
  have hl := sp_len pre
  rw [List.flatMap_append, List.flatMap_append, List.flatMap_cons, List.flatMap_cons]
  have e1 : (pre.flatMap encSpan ++ (encSpan z ++ r.flatMap encSpan)).take (pre.length * 3 + 2) = pre.flatMap encSpan ++ [iv z.node, iv z.frm] := by
    rw [List.take_append, hl, List.take_of_length_le (by omega)]
    have : pre.length * 3 + 2 - pre.length * 3 = 2 := by omega
    rw [this]; rfl
  have e2 : (pre.flatMap encSpan ++ (encSpan z ++ r.flatMap encSpan)).drop (pre.length * 3 + 2 + [iv t].length) = r.flatMap encSpan := by
    rw [List.drop_append, hl, List.drop_of_length_le (by rw [hl]; simp only [List.length_cons, List.length_nil]; omega)]
    have : pre.length * 3 + 2 + [iv t].length - pre.length * 3 = 3 := by simp; omega
    rw [this]; rfl
  rw [e1, e2, List.append_assoc]; rfl
theorem behind_at {M : PMem} {v : PV} {z : Span} {r : List Span} (h : LsV M v (z :: r)) (t : Int) (ht : 0 ≤ t ∧ t ≤ 4000000000) : PT env Tryd.prog 102 [v, iv t] M (fun x M1 => LsV M1 x (behindS (z :: r) t) ∧ keyV x = keyV v ∧ ∀ k i, keyV v ≠ some k → M1 k i = M k i) := by
  refine PT.enterR env_ok fn102 (by simp) comp102 fun k hk hf => RX.of env_ok ?_
  cases h with
  | @row k1 i1 j c pre _ hM hj hc =>
    subst hj
    have hk1 : k1 ≠ k := fun e => by subst e; rw [hf i1] at hM; cases hM
    have hld : ∀ {ag : Bool} {n o : Nat} {os : List Pm.Obj}, loadP k os M ag n (.ptr k1 i1 o) = rowTake ag n o (M k1 i1) := loadP_out hk1
    have hlt : 0 < r.length + 1 := Nat.succ_pos _
    have c2 := sp_cell (pre := pre) (l := z :: r) rfl (c := 2) (v := iv z.to) rfl
    have hc' : r.length + 1 ≤ capOf c ∧ c % 2 = 1 ∧ esOf c = 3 := hc
    have hsl := slice_one (k := k1) (i := i1) (o := pre.length * 3) (kk := .i64) (n := r.length + 1) (c := c) (sz := 3) (by omega) hc' (by decide)
    rw [Nat.add_sub_cancel] at hsl
    by_cases hz : z.to = t
    · have hzb : (z.to == t) = true := by simp [hz]
      simp only [G0, Nat.reduceLT, Nat.reduceEqDiff, Nat.reduceAdd, Nat.reduceLeDiff, Nat.reduceMul, argsP, len_sl, iaddr_sl0, hlt, hld, hM, c2, hzb, hsl]
      refine end1 hf rfl ⟨?_, rfl, fun _ _ _ => rfl⟩
      have hb : behindS (z :: r) t = r := by
        show (if z.to = t then r else _) = _
        rw [if_pos hz]
      rw [hb]
      have hcap := cap_lo (n := capOf c - 1) (es := 3) (by decide)
      have := LsV.row (M := M) (k := k1) (i := i1) (j := pre.length + 1) (c := loCap (capOf c - 1) 3) (pre := pre ++ [z]) (l := r) (by rw [List.append_assoc]; exact hM) (by simp) ⟨by rw [hcap.1]; omega, hcap.2⟩
      rw [Nat.add_mul, Nat.one_mul] at this
      exact this
    · have hzb : (z.to == t) = false := by simp [hz]
      have hw : IntKind.i64.wrap (t + 1) = t + 1 := wrap64_id (by omega) (by omega)
      have hst : storeO 1 (pre.length * 3 + 1) (iv (t + 1)) (some (.row .rw 3 ((pre ++ z :: r).flatMap encSpan))) = some (.row .rw 3 ((pre ++ ⟨z.node, t + 1, z.to⟩ :: r).flatMap encSpan)) := by
        rw [← sp_frm pre r z (t + 1)]
        have hlen : pre.length * 3 + 1 + 1 ≤ ((pre ++ z :: r).flatMap encSpan).length := by rw [sp_len]; simp; omega
        exact storeO_eq (n := 1) (x := iv (t + 1)) ⟨rfl, hlen, rfl⟩
      have hstP : ∀ {tm : List (Nat × PV)} {os : List Pm.Obj}, storeP tm 19 k os M 1 (iv (t + 1)) (.ptr k1 i1 (pre.length * 3 + 1)) = some (.junk, ⟨tm, 19, k, os, putM M k1 i1 (.row .rw 3 ((pre ++ ⟨z.node, t + 1, z.to⟩ :: r).flatMap encSpan))⟩) := fun {tm os} => by
        rw [storeP_out hk1, hM, hst, stO_eq]
      simp only [G0, Nat.reduceLT, Nat.reduceEqDiff, Nat.reduceAdd, Nat.reduceLeDiff, Nat.reduceMul, argsP, len_sl, iaddr_sl0, hlt, hld, hM, c2, hzb, hw, hstP]
      refine end1 (fresh_put hf hk1) rfl ⟨?_, rfl, fun k' i' hk' => put_ne fun x => hk' (by rw [x.1]; rfl)⟩
      have hb : behindS (z :: r) t = ⟨z.node, t + 1, z.to⟩ :: r := by
        show (if z.to = t then r else _) = _
        rw [if_neg hz]
      rw [hb]
      exact .row (putM_same _ _ _ _) rfl hc'
inductive OutV (M : PMem) : PV → List Span → Prop where
  | nil (e : Nat) : OutV M (.lst .full e 0 []) []
  | row {k i : Nat} {w : Wm} {p : Span} {ro : List Span} (hM : M k i = some (.row w 3 ((p :: ro).reverse.flatMap encSpan))) (hw : w = .rw ∨ w = .own) : OutV M (.sl k i 0 (ro.length + 1) (loCap (ro.length + 1) 3)) (p :: ro)
theorem OutV.frame {M M' : PMem} {v : PV} {l : List Span} (h : OutV M v l) (hf : ∀ k i, keyV v = some k → M k i ≠ none → M' k i = M k i) : OutV M' v l := by
  cases h with
  | nil e => exact .nil e
  | row hM hw => exact .row (by rw [hf _ _ rfl (by rw [hM]; exact fun h => by cases h)]; exact hM) hw
theorem OutV.key {M : PMem} {v : PV} {l : List Span} (h : OutV M v l) {k : Nat} (hf : fresh M k) : keyV v ≠ some k := by
  cases h with
  | nil e => intro h; cases h
  | row hM hw => intro h; cases h; rw [hf _] at hM; cases hM
theorem endN {Q : PV → PMem → Prop} {body : Code} {nt nt' k : Nat} {tm : List (Nat × PV)} {os : List Pm.Obj} {M : PMem} (h : Q (.tup []) (seg M k os)) : ends env ⟨nt, [], body⟩ Q .normal ⟨tm, nt', k, os, M⟩ := ⟨.inl rfl, [], seg M k os, rfl, .refl _, h⟩
theorem endR {Q : PV → PMem → Prop} {body : Code} {nt nt' k : Nat} {tm : List (Nat × PV)} {os : List Pm.Obj} {M : PMem} (h : Q (.tup []) (seg M k os)) : ends env ⟨nt, [], body⟩ Q .ret ⟨tm, nt', k, os, M⟩ := ⟨.inr rfl, [], seg M k os, rfl, .refl _, h⟩
theorem add_at {M : PMem} {a g : Nat} {va vb vo : PV} {ro : List Span} (hM : M a 0 = some (.row .rw 0 [va, vb, .fn g [] [], vo])) (h : OutV M vo ro) (hne : keyV vo ≠ some a) (hl : ro.length ≤ 1000000) (hp : ∀ p r, ro = p :: r → 0 ≤ p.to ∧ p.to ≤ 4000000000) (x : Span) :
    PTk env Tryd.prog 101 [.ptr a 0 0, spV x] M (fun nk y M1 => ∃ vo', M1 a 0 = some (.row .rw 0 [va, vb, .fn g [] [], vo']) ∧ OutV M1 vo' (addR ro x) ∧ (keyV vo' = keyV vo ∨ ∃ k, nk ≤ k ∧ fresh M k ∧ keyV vo' = some k) ∧ ∀ k i, k ≠ a → keyV vo ≠ some k → M k i ≠ none → M1 k i = M k i) := by
  refine PTk.enterR env_ok fn101 (by simp) comp101 fun k hk hf => RX.of env_ok ?_
  have hak : a ≠ k := fun e => by subst e; rw [hf 0] at hM; cases hM
  have hlda : ∀ {ag : Bool} {n o : Nat} {os : List Pm.Obj} {M : PMem}, loadP k os M ag n (.ptr a 0 o) = rowTake ag n o (M a 0) := loadP_out hak
  have hfill : fillA 3 [iv 0, iv 0, iv 0] [(0, .agg [iv x.node, iv x.frm, iv x.to])] = some [iv x.node, iv x.frm, iv x.to] := rfl
  have hst : ∀ {tm : List (Nat × PV)} {os : List Pm.Obj} {M : PMem} {k2 i2 o2 n2 c2 : Nat}, M a 0 = some (.row .rw 0 [va, vb, .fn g [] [], vo]) → storeP tm 52 k os M 1 (.sl k2 i2 o2 n2 c2) (.ptr a 0 3) = some (.junk, ⟨tm, 52, k, os, putM M a 0 (.row .rw 0 [va, vb, .fn g [] [], .sl k2 i2 o2 n2 c2])⟩) := fun {tm os M k2 i2 o2 n2 c2} h => by
    rw [storeP_out hak, h, storeO_eq (n := 1) (o := 3) (cs := [va, vb, .fn g [] [], vo]) (x := .sl k2 i2 o2 n2 c2) ⟨rfl, Nat.le_refl 4, rfl⟩, stO_eq]; rfl
  have old : ∀ {M' : PMem} {os : List Pm.Obj} {k' i : Nat}, M k' i ≠ none → seg M' k os k' i = M' k' i := fun {M' os k' i} h => seg_ne _ _ _ fun e => by subst e; exact h (hf i)
  cases h with
  | nil e =>
    have hgt : ¬ (((0 : Nat) : Int) > 0) := by decide
    simp only [G0, Nat.reduceLT, Nat.reduceEqDiff, Nat.reduceAdd, Nat.reduceLeDiff, Nat.reduceMul, argsP, spV, encSpan, hlda, hM, hgt, decide_false]
    refine aR ?_
    rw [apr_full (m := 1) (n := 0) (by decide) ⟨.inl rfl, by decide, by decide, by decide, rfl, rfl⟩]
    simp only [G0, Nat.reduceLT, Nat.reduceEqDiff, Nat.reduceAdd, Nat.reduceLeDiff, Nat.reduceMul, hst, hM]
    refine endN ⟨_, by rw [seg_ne _ _ _ hak]; exact putM_same _ _ _ _, ?_, .inr ⟨k, Nat.le_refl _, hf, rfl⟩, fun k' i h1 h2 h3 => by rw [old h3, put_ne (fun y => h1 y.1)]⟩
    exact OutV.row (k := k) (i := 1) (p := x) (ro := []) (w := .rw) (by rw [seg_same]; rfl) (.inl rfl)
  | @row k1 i1 w p r hM1 hw =>
    have hka : k1 ≠ a := fun e => hne (by subst e; rfl)
    have hk1 : k1 ≠ k := fun e => by subst e; rw [hf i1] at hM1; cases hM1
    have hld1 : ∀ {ag : Bool} {n o : Nat} {os : List Pm.Obj}, loadP k os M ag n (.ptr k1 i1 o) = rowTake ag n o (M k1 i1) := loadP_out hk1
    have hl' : r.length + 1 ≤ 1000000 := hl
    obtain ⟨hp1, hp2⟩ := hp p r rfl
    have hgt : ((r.length + 1 : Nat) : Int) > 0 := by omega
    have hw1 : IntKind.i64.wrap (((r.length + 1 : Nat) : Int) - 1) = (r.length : Int) := by rw [wrap64_id (by omega) (by omega)]; omega
    have hw2 : IntKind.i64.wrap (p.to + 1) = p.to + 1 := wrap64_id (by omega) (by omega)
    have hi := iaddr_sl (k := k1) (i := i1) (o := 0) (n := r.length + 1) (c := loCap (r.length + 1) 3) (sz := 3) (m := r.length) (kk := .i64) (Nat.lt_succ_self _)
    rw [Nat.zero_add] at hi
    have hrev : (p :: r).reverse = r.reverse ++ [p] := List.reverse_cons
    have hrl : r.reverse.length = r.length := List.length_reverse
    have cN := sp_cell (pre := r.reverse) (l := [p]) rfl (c := 0) (v := iv p.node) rfl
    have cT := sp_cell (pre := r.reverse) (l := [p]) rfl (c := 2) (v := iv p.to) rfl
    rw [← hrev, hrl] at cN cT
    rw [Nat.add_zero] at cN
    by_cases hn : p.node = x.node
    · have bn : (p.node == x.node) = true := by simp [hn]
      by_cases hc : p.to + 1 = x.frm
      · have bc : (p.to + 1 == x.frm) = true := by simp [hc]
        have hcells : ((p :: r).reverse.flatMap encSpan) = ((r.reverse ++ [p]).flatMap encSpan) := by rw [hrev]
        have hstO : storeO 1 (r.length * 3 + 2) (iv x.to) (some (.row w 3 ((p :: r).reverse.flatMap encSpan))) = some (.row .rw 3 ((⟨p.node, p.frm, x.to⟩ :: r).reverse.flatMap encSpan)) := by
          have hs := sp_to r.reverse [] p x.to
          rw [hrl] at hs
          have hr2 : (⟨p.node, p.frm, x.to⟩ :: r : List Span).reverse = r.reverse ++ [⟨p.node, p.frm, x.to⟩] := List.reverse_cons
          rw [hr2, ← hs, hcells]
          have hlen : r.length * 3 + 2 + 1 ≤ ((r.reverse ++ [p]).flatMap encSpan).length := by rw [sp_len]; simp; omega
          rcases hw with rfl | rfl
          · exact storeO_eq (n := 1) (x := iv x.to) ⟨rfl, hlen, rfl⟩
          · exact storeO_own (n := 1) (x := iv x.to) ⟨rfl, hlen, rfl⟩
        have hstP : ∀ {tm : List (Nat × PV)} {os : List Pm.Obj}, storeP tm 52 k os M 1 (iv x.to) (.ptr k1 i1 (r.length * 3 + 2)) = some (.junk, ⟨tm, 52, k, os, putM M k1 i1 (.row .rw 3 ((⟨p.node, p.frm, x.to⟩ :: r).reverse.flatMap encSpan))⟩) := fun {tm os} => by
          rw [storeP_out hk1, hM1, hstO, stO_eq]
        simp only [G0, Nat.reduceLT, Nat.reduceEqDiff, Nat.reduceAdd, Nat.reduceLeDiff, Nat.reduceMul, argsP, spV, encSpan, hlda, hM, len_sl, hgt, decide_true, hw1, hi, hld1, hM1, cN, cT, bn, bc, hw2, hstP, Bool.not_true, Bool.not_false, cnd_t, cnd_f]
        have ha : addR (p :: r) x = ⟨p.node, p.frm, x.to⟩ :: r := by
          show (if p.node = x.node ∧ p.to + 1 = x.frm then _ else _) = _
          rw [if_pos ⟨hn, hc⟩]
        refine endR ⟨_, by rw [seg_ne _ _ _ hak, put_ne (fun y => hka y.1.symm)]; exact hM, ?_, .inl rfl, fun k' i h1 h2 h3 => by rw [old h3, put_ne (fun y => h2 (by rw [y.1]; rfl))]⟩
        rw [ha]
        exact OutV.row (w := .rw) (by rw [seg_ne _ _ _ hk1]; exact putM_same _ _ _ _) (.inl rfl)
      · have bc : (p.to + 1 == x.frm) = false := by simp [hc]
        simp only [G0, Nat.reduceLT, Nat.reduceEqDiff, Nat.reduceAdd, Nat.reduceLeDiff, Nat.reduceMul, argsP, spV, encSpan, hlda, hM, len_sl, hgt, decide_true, hw1, hi, hld1, hM1, cN, cT, bn, bc, hw2, Bool.not_true, Bool.not_false, cnd_t, cnd_f]
        refine aR ?_
        rw [apr_grow (m := 1) (n := r.length + 1) (by decide) (Nat.succ_ne_zero _) hk1 (cap_lo (by decide)) hw hM1 (by rw [sp_len]; simp) ⟨by omega, by omega, by decide, rfl, rfl⟩]
        have hMa : putM M k1 i1 .gone a 0 = some (.row .rw 0 [va, vb, .fn g [] [], .sl k1 i1 0 (r.length + 1) (loCap (r.length + 1) 3)]) := by rw [put_ne (fun y => hka y.1.symm)]; exact hM
        simp only [G0, Nat.reduceLT, Nat.reduceEqDiff, Nat.reduceAdd, Nat.reduceLeDiff, Nat.reduceMul, hst, hMa]
        have ha : addR (p :: r) x = x :: p :: r := by
          show (if p.node = x.node ∧ p.to + 1 = x.frm then _ else _) = _
          rw [if_neg (fun y => hc y.2)]
        refine endN ⟨_, by rw [seg_ne _ _ _ hak]; exact putM_same _ _ _ _, ?_, .inr ⟨k, Nat.le_refl _, hf, rfl⟩, fun k' i h1 h2 h3 => by rw [old h3, put_ne (fun y => h1 y.1), put_ne (fun y => h2 (by rw [y.1]; rfl))]⟩
        rw [ha]
        exact OutV.row (k := k) (i := 1) (p := x) (ro := p :: r) (w := .own) (by rw [seg_same, List.reverse_cons, List.flatMap_append]; simp [encSpan]) (.inr rfl)
    · have bn : (p.node == x.node) = false := by simp [hn]
      simp only [G0, Nat.reduceLT, Nat.reduceEqDiff, Nat.reduceAdd, Nat.reduceLeDiff, Nat.reduceMul, argsP, spV, encSpan, hlda, hM, len_sl, hgt, decide_true, hw1, hi, hld1, hM1, cN, cT, bn, hw2, Bool.not_true, Bool.not_false, cnd_t, cnd_f]
      refine aR ?_
      rw [apr_grow (m := 1) (n := r.length + 1) (by decide) (Nat.succ_ne_zero _) hk1 (cap_lo (by decide)) hw hM1 (by rw [sp_len]; simp) ⟨by omega, by omega, by decide, rfl, rfl⟩]
      have hMa : putM M k1 i1 .gone a 0 = some (.row .rw 0 [va, vb, .fn g [] [], .sl k1 i1 0 (r.length + 1) (loCap (r.length + 1) 3)]) := by rw [put_ne (fun y => hka y.1.symm)]; exact hM
      simp only [G0, Nat.reduceLT, Nat.reduceEqDiff, Nat.reduceAdd, Nat.reduceLeDiff, Nat.reduceMul, hst, hMa]
      have ha : addR (p :: r) x = x :: p :: r := by
        show (if p.node = x.node ∧ p.to + 1 = x.frm then _ else _) = _
        rw [if_neg (fun y => hn y.1)]
      refine endN ⟨_, by rw [seg_ne _ _ _ hak]; exact putM_same _ _ _ _, ?_, .inr ⟨k, Nat.le_refl _, hf, rfl⟩, fun k' i h1 h2 h3 => by rw [old h3, put_ne (fun y => h1 y.1), put_ne (fun y => h2 (by rw [y.1]; rfl))]⟩
      rw [ha]
      exact OutV.row (k := k) (i := 1) (p := x) (ro := p :: r) (w := .own) (by rw [seg_same, List.reverse_cons, List.flatMap_append]; simp [encSpan]) (.inr rfl)
end Go.Proofs.YtmgmbdnhodicjaaDoor
end

section
namespace Go.Proofs.YtmgmbdnhodicjaaDoor
open Go Go.Am Go.Pm
set_option maxHeartbeats 2000000
set_option maxRecDepth 100000
structure Swp (n0 : Nat) (M0 M : PMem) (a g : Nat) (A B ro : List Span) : Prop where
  sub : Pm.Sub M0 M
  new : fresh M0 a
  vals : ∃ va vb vo, M a 0 = some (.row .rw 0 [va, vb, .fn g [] [], vo]) ∧ LsV M va A ∧ LsV M vb B ∧ OutV M vo ro ∧ (keyV va ≠ some a ∧ keyV vb ≠ some a ∧ keyV vo ≠ some a) ∧
    ((∀ k, keyV va = some k → fresh M0 k) ∧ (∀ k, keyV vb = some k → fresh M0 k) ∧ (∀ k, keyV vo = some k → fresh M0 k)) ∧ ((∀ k, keyV va = some k → keyV vb ≠ some k) ∧ (∀ k, keyV va = some k → keyV vo ≠ some k) ∧ (∀ k, keyV vb = some k → keyV vo ≠ some k)) ∧ (∀ k, keyV vo = some k → n0 ≤ k)
theorem mm_min {a b : Int} : pmm minV [iv a, iv b] = some (iv (min a b)) := by
  have h : pmm minV [iv a, iv b] = some (iv (if b < a then b else a)) := by
    unfold pmm
    simp [minV, pflats?]
  have h2 : (if b < a then b else a) = min a b := by
    by_cases hb : b < a
    · rw [if_pos hb]; omega
    · rw [if_neg hb]; omega
  rw [h, h2]
theorem LsV.len {M : PMem} {v : PV} {l : List Span} (h : LsV M v l) : lenL v = some (iv (l.length : Nat)) := by
  cases h with
  | nil e => rfl
  | row hM hj hc => rfl
theorem node10 {M : PMem} {a g k : Nat} {A B : List Span} {va vb vo : PV} (hM : M a 0 = some (.row .rw 0 [va, vb, .fn g [] [], vo])) (hA : LsV M va A) (hB : LsV M vb B) (hne : A ≠ [] ∨ B ≠ []) (hf : fresh M k) (tm : List (Nat × PV)) (t0 : tget tm 0 = .ptr a 0 0) :
    RX env Tryd.prog none c91_10 ⟨tm, 177, k, [], M⟩ (fun e s => e = .normal ∧ ∃ tm', s = ⟨tm', 177, k, [], M⟩ ∧ tget tm' 0 = .ptr a 0 0 ∧ tget tm' 2 = iv (nodeS A B)) := by
  have hak : a ≠ k := fun e => by subst e; rw [hf 0] at hM; cases hM
  have hlda : ∀ {ag : Bool} {n o : Nat} {os : List Pm.Obj}, loadP k os M ag n (.ptr a 0 o) = rowTake ag n o (M a 0) := loadP_out hak
  have hlA := hA.len
  have hlB := hB.len
  have ld : ∀ {v : PV} {z : Span} {r : List Span}, LsV M v (z :: r) → ∃ k1 i1 n1 o1 c1, v = .sl k1 i1 o1 (n1 + 1) c1 ∧ (∀ {os : List Pm.Obj}, loadP k os M false 1 (.ptr k1 i1 o1) = some (iv z.node)) := fun {v z r} h => by
    cases h with
    | @row k1 i1 j c pre _ hM1 hj hc =>
      subst hj
      have hk1 : k1 ≠ k := fun e => by subst e; rw [hf i1] at hM1; cases hM1
      refine ⟨k1, i1, r.length, _, c, rfl, fun {os} => ?_⟩
      rw [loadP_out hk1, hM1]
      have c0 := sp_cell (pre := pre) (l := z :: r) rfl (c := 0) (v := iv z.node) rfl
      rw [Nat.add_zero] at c0
      exact c0
  cases A with
  | nil =>
    cases B with
    | nil => simp at hne
    | cons y s =>
      obtain ⟨k1, i1, n1, o1, c1, rfl, hl1⟩ := ld hB
      have hz : (((0 : Nat) : Int) == 0) = true := rfl
      have hlA' : lenL va = some (iv ((0 : Nat) : Int)) := hlA
      refine RX.of env_ok ?_
      simp only [G0, Nat.reduceLT, Nat.reduceEqDiff, Nat.reduceAdd, Nat.reduceLeDiff, Nat.reduceMul, t0, hlda, hM, hlA', hz, iaddr_sl0, Nat.succ_pos, hl1]
      exact ⟨_, rfl, t0, rfl⟩
  | cons x r =>
    obtain ⟨k2, i2, n2, o2, c2, rfl, hl2⟩ := ld hA
    have hz2 : (((n2 + 1 : Nat) : Int) == 0) = false := by simp; omega
    cases B with
    | nil =>
      have hz : (((0 : Nat) : Int) == 0) = true := rfl
      have hlB' : lenL vb = some (iv ((0 : Nat) : Int)) := hlB
      refine RX.of env_ok ?_
      simp only [G0, Nat.reduceLT, Nat.reduceEqDiff, Nat.reduceAdd, Nat.reduceLeDiff, Nat.reduceMul, t0, hlda, hM, len_sl, hlB', hz, hz2, iaddr_sl0, Nat.succ_pos, hl2]
      exact ⟨_, rfl, t0, rfl⟩
    | cons y s =>
      obtain ⟨k1, i1, n1, o1, c1, rfl, hl1⟩ := ld hB
      have hz1 : (((n1 + 1 : Nat) : Int) == 0) = false := by simp; omega
      refine RX.of env_ok ?_
      simp only [G0, Nat.reduceLT, Nat.reduceEqDiff, Nat.reduceAdd, Nat.reduceLeDiff, Nat.reduceMul, t0, hlda, hM, len_sl, hz1, hz2, iaddr_sl0, Nat.succ_pos, hl1, hl2, mm_min]
      exact ⟨_, rfl, t0, rfl⟩
end Go.Proofs.YtmgmbdnhodicjaaDoor
end

section
namespace Go.Proofs.YtmgmbdnhodicjaaDoor
open Go Go.Am Go.Pm
set_option maxHeartbeats 2000000
set_option maxRecDepth 100000
def rwS (x : Span) : Pm.Obj := .row .rw 0 (encSpan x)
structure KpS (tm : List (Nat × PV)) (a k : Nat) (n : Int) (x y : Bool) : Prop where
  t0 : tget tm 0 = .ptr a 0 0
  t2 : tget tm 2 = iv n
  t3 : tget tm 3 = .ptr k 0 0
  t4 : tget tm 4 = bv x
  t5 : tget tm 5 = .ptr k 1 0
  t6 : tget tm 6 = bv y
  t7 : tget tm 7 = .ptr k 2 0
theorem heads {M : PMem} {a g k : Nat} {A B : List Span} {va vb vo : PV} (hM : M a 0 = some (.row .rw 0 [va, vb, .fn g [] [], vo])) (hA : LsV M va A) (hB : LsV M vb B) (hf : fresh M k) (n : Int) (tm : List (Nat × PV)) (t0 : tget tm 0 = .ptr a 0 0) (t2 : tget tm 2 = iv n) {Q : AExit → PSt → Prop}
    (q : ∀ tm', KpS tm' a k n (hdS A n).2 (hdS B n).2 → RX env Tryd.prog none c91_58 ⟨tm', 177, k, [rwS (hdS A n).1, rwS (hdS B n).1, rwS ⟨n, frmS (hdS A n) (hdS B n), 0⟩], M⟩ Q) :
    RX env Tryd.prog none c91_62 ⟨tm, 177, k, [], M⟩ Q := by
  have hak : a ≠ k := fun e => by subst e; rw [hf 0] at hM; cases hM
  have hlda : ∀ {ag : Bool} {n o : Nat} {os : List Pm.Obj}, loadP k os M ag n (.ptr a 0 o) = rowTake ag n o (M a 0) := loadP_out hak
  have h1 := head_at hA n
  have h2 := head_at hB n
  generalize hdS A n = X at h1 q ⊢
  generalize hdS B n = Y at h2 q ⊢
  obtain ⟨x, bx⟩ := X
  obtain ⟨y, bY⟩ := Y
  have hs1 : ∀ {tm : List (Nat × PV)}, Pm.Sub M (seg M k []) := Pm.Sub.seg hf
  refine RX.cut (fun s => ∃ tm', s = ⟨tm', 177, k, [rwS x], M⟩ ∧ tget tm' 0 = .ptr a 0 0 ∧ tget tm' 2 = iv n ∧ tget tm' 3 = .ptr k 0 0 ∧ tget tm' 4 = bv bx) (RX.of env_ok ?_) ?_
  · simp only [G0, Nat.reduceLT, Nat.reduceEqDiff, Nat.reduceAdd, Nat.reduceLeDiff, Nat.reduceMul, t0, t2, hlda, hM]
    refine cs0 h1 (Pm.Sub.seg hf) (by decide) ?_
    simp only [G0, Nat.reduceLT, Nat.reduceEqDiff, Nat.reduceAdd, Nat.reduceLeDiff, Nat.reduceMul, t0, t2, spV, encSpan, hst0]
    exact ⟨_, rfl, t0, t2, rfl, rfl⟩
  · rintro s ⟨tm1, rfl, t0, t2, t3, t4⟩
    refine RX.cut (fun s => ∃ tm', s = ⟨tm', 177, k, [rwS x, rwS y], M⟩ ∧ tget tm' 0 = .ptr a 0 0 ∧ tget tm' 2 = iv n ∧ tget tm' 3 = .ptr k 0 0 ∧ tget tm' 4 = bv bx ∧ tget tm' 5 = .ptr k 1 0 ∧ tget tm' 6 = bv bY) (RX.of env_ok ?_) ?_
    · simp only [G0, Nat.reduceLT, Nat.reduceEqDiff, Nat.reduceAdd, Nat.reduceLeDiff, Nat.reduceMul, t0, t2, hlda, hM]
      refine cs0 h2 (Pm.Sub.seg hf) (by decide) ?_
      simp only [G0, Nat.reduceLT, Nat.reduceEqDiff, Nat.reduceAdd, Nat.reduceLeDiff, Nat.reduceMul, t0, t2, spV, encSpan, hst0]
      exact ⟨_, rfl, t0, t2, t3, t4, rfl, rfl⟩
    · rintro s ⟨tm2, rfl, t0, t2, t3, t4, t5, t6⟩
      refine RX.cut (fun s => ∃ tm', s = ⟨tm', 177, k, [rwS x, rwS y, rwS ⟨n, min x.frm y.frm, 0⟩], M⟩ ∧ KpS tm' a k n bx bY) (RX.of env_ok ?_) ?_
      · simp only [G0, Nat.reduceLT, Nat.reduceEqDiff, Nat.reduceAdd, Nat.reduceLeDiff, Nat.reduceMul, t0, t2, t3, t4, t5, t6, rwS, encSpan, mm_min, hst0]
        exact ⟨_, rfl, ⟨t0, t2, t3, t4, t5, t6, rfl⟩⟩
      · rintro s ⟨tm3, rfl, u0, u2, u3, u4, u5, u6, u7⟩
        refine RX.cut (fun s => ∃ tm', s = ⟨tm', 177, k, [rwS x, rwS y, rwS ⟨n, frmS (x, bx) (y, bY), 0⟩], M⟩ ∧ KpS tm' a k n bx bY) (RX.of env_ok ?_) ?_
        · have hst1 : ∀ {f : Int}, storeO 1 1 (iv f) (some (.row .rw 0 [iv n, iv (min x.frm y.frm), iv 0])) = some (.row .rw 0 [iv n, iv f, iv 0]) := fun {f} => storeO_eq (n := 1) (cs := [iv n, iv (min x.frm y.frm), iv 0]) (x := iv f) ⟨rfl, by show 1 + 1 ≤ 3; decide, rfl⟩
          cases bx with
          | false =>
            simp only [G0, Nat.reduceLT, Nat.reduceEqDiff, Nat.reduceAdd, Nat.reduceLeDiff, Nat.reduceMul, u0, u2, u3, u4, u5, u6, u7, rwS, encSpan, mm_max, hst1, Bool.not_true, Bool.not_false, cnd_t, cnd_f]
            exact ⟨_, rfl, ⟨u0, u2, u3, u4, u5, u6, u7⟩⟩
          | true =>
            cases bY with
            | false =>
              simp only [G0, Nat.reduceLT, Nat.reduceEqDiff, Nat.reduceAdd, Nat.reduceLeDiff, Nat.reduceMul, u0, u2, u3, u4, u5, u6, u7, rwS, encSpan, mm_max, hst1, Bool.not_true, Bool.not_false, cnd_t, cnd_f]
              exact ⟨_, rfl, ⟨u0, u2, u3, u4, u5, u6, u7⟩⟩
            | true =>
              simp only [G0, Nat.reduceLT, Nat.reduceEqDiff, Nat.reduceAdd, Nat.reduceLeDiff, Nat.reduceMul, u0, u2, u3, u4, u5, u6, u7, rwS, encSpan, mm_max, hst1, Bool.not_true, Bool.not_false, cnd_t, cnd_f]
              exact ⟨_, rfl, ⟨u0, u2, u3, u4, u5, u6, u7⟩⟩
        · rintro s ⟨tm4, rfl, h4⟩
          exact q tm4 h4
structure KpT (tm : List (Nat × PV)) (a k : Nat) (n : Int) (x y ia ib : Bool) : Prop extends KpS tm a k n x y where
  t8 : tget tm 8 = bv ia
  t9 : tget tm 9 = bv ib
theorem sides {M : PMem} {a k : Nat} {n : Int} (X Y : Span × Bool) (f : Int) (tm : List (Nat × PV)) (hK : KpS tm a k n X.2 Y.2) {Q : AExit → PSt → Prop}
    (q : ∀ tm', KpT tm' a k n X.2 Y.2 (inS X f) (inS Y f) → RX env Tryd.prog none c91_56 ⟨tm', 177, k, [rwS X.1, rwS Y.1, rwS ⟨n, f, 2147483647⟩], M⟩ Q) :
    RX env Tryd.prog none c91_58 ⟨tm, 177, k, [rwS X.1, rwS Y.1, rwS ⟨n, f, 0⟩], M⟩ Q := by
  obtain ⟨x, bx⟩ := X
  obtain ⟨y, bY⟩ := Y
  obtain ⟨u0, u2, u3, u4, u5, u6, u7⟩ := hK
  refine RX.cut (fun s => ∃ tm', s = ⟨tm', 177, k, [rwS x, rwS y, rwS ⟨n, f, 0⟩], M⟩ ∧ KpT tm' a k n bx bY (inS (x, bx) f) (inS (y, bY) f)) (RX.of env_ok ?_) ?_
  · cases bx with
    | false =>
      cases bY with
      | false =>
        simp only [G0, Nat.reduceLT, Nat.reduceEqDiff, Nat.reduceAdd, Nat.reduceLeDiff, Nat.reduceMul, u0, u2, u3, u4, u5, u6, u7, rwS, encSpan, Bool.not_true, Bool.not_false, cnd_t, cnd_f]
        exact ⟨_, rfl, ⟨⟨u0, u2, u3, u4, u5, u6, u7⟩, rfl, rfl⟩⟩
      | true =>
        simp only [G0, Nat.reduceLT, Nat.reduceEqDiff, Nat.reduceAdd, Nat.reduceLeDiff, Nat.reduceMul, u0, u2, u3, u4, u5, u6, u7, rwS, encSpan, Bool.not_true, Bool.not_false, cnd_t, cnd_f]
        exact ⟨_, rfl, ⟨⟨u0, u2, u3, u4, u5, u6, u7⟩, rfl, rfl⟩⟩
    | true =>
      cases bY with
      | false =>
        simp only [G0, Nat.reduceLT, Nat.reduceEqDiff, Nat.reduceAdd, Nat.reduceLeDiff, Nat.reduceMul, u0, u2, u3, u4, u5, u6, u7, rwS, encSpan, Bool.not_true, Bool.not_false, cnd_t, cnd_f]
        exact ⟨_, rfl, ⟨⟨u0, u2, u3, u4, u5, u6, u7⟩, rfl, rfl⟩⟩
      | true =>
        simp only [G0, Nat.reduceLT, Nat.reduceEqDiff, Nat.reduceAdd, Nat.reduceLeDiff, Nat.reduceMul, u0, u2, u3, u4, u5, u6, u7, rwS, encSpan, Bool.not_true, Bool.not_false, cnd_t, cnd_f]
        exact ⟨_, rfl, ⟨⟨u0, u2, u3, u4, u5, u6, u7⟩, rfl, rfl⟩⟩
  · rintro s ⟨tm1, rfl, ⟨u0, u2, u3, u4, u5, u6, u7⟩, u8, u9⟩
    refine RX.cut (fun s => ∃ tm', s = ⟨tm', 177, k, [rwS x, rwS y, rwS ⟨n, f, 2147483647⟩], M⟩ ∧ KpT tm' a k n bx bY (inS (x, bx) f) (inS (y, bY) f)) (RX.of env_ok ?_) ?_
    · have hst2 : storeO 1 2 (iv 2147483647) (some (.row .rw 0 [iv n, iv f, iv 0])) = some (.row .rw 0 [iv n, iv f, iv 2147483647]) := storeO_eq (n := 1) (cs := [iv n, iv f, iv 0]) (x := iv 2147483647) ⟨rfl, by show 2 + 1 ≤ 3; decide, rfl⟩
      simp only [G0, Nat.reduceLT, Nat.reduceEqDiff, Nat.reduceAdd, Nat.reduceLeDiff, Nat.reduceMul, u0, u2, u3, u4, u5, u6, u7, u8, u9, rwS, encSpan, hst2]
      exact ⟨_, rfl, ⟨⟨u0, u2, u3, u4, u5, u6, u7⟩, u8, u9⟩⟩
    · rintro s ⟨tm2, rfl, h⟩
      exact q tm2 h
def zCells (X Y : Span × Bool) (ia ib : Bool) : List PV := [iv X.1.node, iv X.1.frm, iv X.1.to, bv X.2, bv ia, iv Y.1.node, iv Y.1.frm, iv Y.1.to, bv Y.2, bv ib]
theorem round38 {M : PMem} {a k : Nat} {n f t : Int} {X Y : Span × Bool} {ia ib : Bool} (x y : Span) (os : List Pm.Obj) (hos : os = [] ∨ ∃ o1, os = [o1]) (j : Nat) (hj : j < 2) (Z : Span × Bool) (iz : Bool) (hz : (j = 0 ∧ Z = X ∧ iz = ia) ∨ (j = 1 ∧ Z = Y ∧ iz = ib)) (hb : 0 ≤ Z.1.frm ∧ Z.1.frm ≤ 4000000000) (hi : iz = true → Z.2 = true) (tm : List (Nat × PV)) (hK : KpT tm a k n X.2 Y.2 ia ib)
    (t117 : tget tm 117 = .lst .full 5 2 (zCells X Y ia ib)) (t118 : tget tm 118 = iv ((2 : Nat) : Int)) (t119 : tget tm 119 = iv (j : Nat)) {Q : AExit → PSt → Prop}
    (q : ∀ tm' o, KpT tm' a k n X.2 Y.2 ia ib → tget tm' 117 = .lst .full 5 2 (zCells X Y ia ib) → tget tm' 118 = iv ((2 : Nat) : Int) → tget tm' 119 = iv ((j + 1 : Nat) : Int) → RXL env Tryd.prog none c91_38 ⟨tm', 177, k, rwS x :: rwS y :: rwS ⟨n, f, toS t Z iz⟩ :: (os ++ [o]), M⟩ Q) :
    RXL env Tryd.prog none c91_38 ⟨tm, 177, k, rwS x :: rwS y :: rwS ⟨n, f, t⟩ :: os, M⟩ Q := by
  obtain ⟨⟨u0, u2, u3, u4, u5, u6, u7⟩, u8, u9⟩ := hK
  have hlt : ((j : Nat) : Int) < ((2 : Nat) : Int) := by omega
  have hw : IntKind.i64.wrap (((j : Nat) : Int) + 1) = ((j + 1 : Nat) : Int) := by rw [wrap64_id (by omega) (by omega)]; rfl
  have hw2 : IntKind.i64.wrap (Z.1.frm - 1) = Z.1.frm - 1 := wrap64_id (by omega) (by omega)
  have hl5 : ptake true 5 (zCells X Y ia ib) (j * 5) = some (.agg [iv Z.1.node, iv Z.1.frm, iv Z.1.to, bv Z.2, bv iz]) := by
    rcases hz with ⟨rfl, rfl, rfl⟩ | ⟨rfl, rfl, rfl⟩ <;> rfl
  have hst5 : storeO 5 0 (.agg [iv Z.1.node, iv Z.1.frm, iv Z.1.to, bv Z.2, bv iz]) (some (.row .rw 0 [iv 0, iv 0, iv 0, bv false, bv false])) = some (.row .rw 0 [iv Z.1.node, iv Z.1.frm, iv Z.1.to, bv Z.2, bv iz]) := storeO_eq (n := 5) ⟨rfl, Nat.le_refl 5, rfl⟩
  have hst2 : ∀ {t' : Int}, storeO 1 2 (iv t') (some (.row .rw 0 [iv n, iv f, iv t])) = some (.row .rw 0 [iv n, iv f, iv t']) := fun {t'} => storeO_eq (n := 1) (cs := [iv n, iv f, iv t]) (x := iv t') ⟨rfl, by show 2 + 1 ≤ 3; decide, rfl⟩
  rcases hos with rfl | ⟨o1, rfl⟩
  · refine RXL.round (RX.of env_ok ?_)
    cases iz with
    | true =>
      have hz2 := hi rfl
      simp only [G0, Nat.reduceLT, Nat.reduceEqDiff, Nat.reduceAdd, Nat.reduceLeDiff, Nat.reduceMul, u0, u2, u3, u4, u5, u6, u7, u8, u9, t117, t118, t119, hlt, decide_true, hl5, hj, rwS, encSpan, hst5, mm_min, hst2, hw]
      exact q _ _ ⟨⟨u0, u2, u3, u4, u5, u6, u7⟩, u8, u9⟩ t117 t118 rfl
    | false =>
      cases hZ : Z.2 with
      | true =>
        rw [hZ] at hl5 hst5
        have hq : toS t Z false = min t (Z.1.frm - 1) := by unfold toS; rw [hZ]; rfl
        rw [hq] at q
        simp only [G0, Nat.reduceLT, Nat.reduceEqDiff, Nat.reduceAdd, Nat.reduceLeDiff, Nat.reduceMul, u0, u2, u3, u4, u5, u6, u7, u8, u9, t117, t118, t119, hlt, decide_true, hl5, hj, rwS, encSpan, hst5, mm_min, hst2, hw, hw2]
        exact q _ _ ⟨⟨u0, u2, u3, u4, u5, u6, u7⟩, u8, u9⟩ t117 t118 rfl
      | false =>
        rw [hZ] at hl5 hst5
        have hq : toS t Z false = t := by unfold toS; rw [hZ]; rfl
        rw [hq] at q
        simp only [G0, Nat.reduceLT, Nat.reduceEqDiff, Nat.reduceAdd, Nat.reduceLeDiff, Nat.reduceMul, u0, u2, u3, u4, u5, u6, u7, u8, u9, t117, t118, t119, hlt, decide_true, hl5, hj, rwS, encSpan, hst5, mm_min, hst2, hw]
        exact q _ _ ⟨⟨u0, u2, u3, u4, u5, u6, u7⟩, u8, u9⟩ t117 t118 rfl
  · refine RXL.round (RX.of env_ok ?_)
    cases iz with
    | true =>
      have hz2 := hi rfl
      simp only [G0, Nat.reduceLT, Nat.reduceEqDiff, Nat.reduceAdd, Nat.reduceLeDiff, Nat.reduceMul, u0, u2, u3, u4, u5, u6, u7, u8, u9, t117, t118, t119, hlt, decide_true, hl5, hj, rwS, encSpan, hst5, mm_min, hst2, hw]
      exact q _ _ ⟨⟨u0, u2, u3, u4, u5, u6, u7⟩, u8, u9⟩ t117 t118 rfl
    | false =>
      cases hZ : Z.2 with
      | true =>
        rw [hZ] at hl5 hst5
        have hq : toS t Z false = min t (Z.1.frm - 1) := by unfold toS; rw [hZ]; rfl
        rw [hq] at q
        simp only [G0, Nat.reduceLT, Nat.reduceEqDiff, Nat.reduceAdd, Nat.reduceLeDiff, Nat.reduceMul, u0, u2, u3, u4, u5, u6, u7, u8, u9, t117, t118, t119, hlt, decide_true, hl5, hj, rwS, encSpan, hst5, mm_min, hst2, hw, hw2]
        exact q _ _ ⟨⟨u0, u2, u3, u4, u5, u6, u7⟩, u8, u9⟩ t117 t118 rfl
      | false =>
        rw [hZ] at hl5 hst5
        have hq : toS t Z false = t := by unfold toS; rw [hZ]; rfl
        rw [hq] at q
        simp only [G0, Nat.reduceLT, Nat.reduceEqDiff, Nat.reduceAdd, Nat.reduceLeDiff, Nat.reduceMul, u0, u2, u3, u4, u5, u6, u7, u8, u9, t117, t118, t119, hlt, decide_true, hl5, hj, rwS, encSpan, hst5, mm_min, hst2, hw]
        exact q _ _ ⟨⟨u0, u2, u3, u4, u5, u6, u7⟩, u8, u9⟩ t117 t118 rfl
end Go.Proofs.YtmgmbdnhodicjaaDoor
end

section
namespace Go.Proofs.YtmgmbdnhodicjaaDoor
open Go Go.Am Go.Pm
set_option maxHeartbeats 2000000
set_option maxRecDepth 100000
theorem ztimes {M : PMem} {a k : Nat} {n f : Int} (X Y : Span × Bool) (ia ib : Bool) (hX : 0 ≤ X.1.frm ∧ X.1.frm ≤ 4000000000) (hY : 0 ≤ Y.1.frm ∧ Y.1.frm ≤ 4000000000) (hia : ia = true → X.2 = true) (hib : ib = true → Y.2 = true) (tm : List (Nat × PV)) (hK : KpT tm a k n X.2 Y.2 ia ib) {Q : AExit → PSt → Prop}
    (q : ∀ tm' o1 o2, KpT tm' a k n X.2 Y.2 ia ib → RX env Tryd.prog none c91_55 ⟨tm', 177, k, [rwS X.1, rwS Y.1, rwS ⟨n, f, toS (toS 2147483647 X ia) Y ib⟩, o1, o2], M⟩ Q) :
    RX env Tryd.prog none c91_56 ⟨tm, 177, k, [rwS X.1, rwS Y.1, rwS ⟨n, f, 2147483647⟩], M⟩ Q := by
  obtain ⟨⟨u0, u2, u3, u4, u5, u6, u7⟩, u8, u9⟩ := hK
  refine RX.cut (fun s => ∃ tm' o1 o2, s = ⟨tm', 177, k, [rwS X.1, rwS Y.1, rwS ⟨n, f, toS (toS 2147483647 X ia) Y ib⟩, o1, o2], M⟩ ∧ KpT tm' a k n X.2 Y.2 ia ib) (RX.of env_ok ?_) ?_
  · simp only [G0, Nat.reduceLT, Nat.reduceEqDiff, Nat.reduceAdd, Nat.reduceLeDiff, Nat.reduceMul, u0, u2, u3, u4, u5, u6, u7, u8, u9, rwS, encSpan]
    refine RX.loop ?_
    refine round38 (a := a) (X := X) (Y := Y) (ia := ia) (ib := ib) X.1 Y.1 [] (.inl rfl) 0 (by decide) X ia (.inl ⟨rfl, rfl, rfl⟩) hX hia _ ?_ ?_ ?_ ?_ fun tm1 o1 hK1 h117 h118 h119 => ?_
    · exact ⟨⟨u0, u2, u3, u4, u5, u6, u7⟩, u8, u9⟩
    · rfl
    · rfl
    · rfl
    refine round38 X.1 Y.1 [o1] (.inr ⟨o1, rfl⟩) 1 (by decide) Y ib (.inr ⟨rfl, rfl, rfl⟩) hY hib tm1 hK1 h117 h118 h119 fun tm2 o2 hK2 g117 g118 g119 => ?_
    refine RXL.round (RX.of env_ok ?_)
    simp only [G0, Nat.reduceLT, Nat.reduceEqDiff, Nat.reduceAdd, Nat.reduceLeDiff, Nat.reduceMul, g118, g119, Int.lt_irrefl, decide_false]
    obtain ⟨⟨v0, v2, v3, v4, v5, v6, v7⟩, v8, v9⟩ := hK2
    exact ⟨_, o1, o2, rfl, ⟨⟨v0, v2, v3, v4, v5, v6, v7⟩, v8, v9⟩⟩
  · rintro s ⟨tm', o1, o2, rfl, h⟩
    exact q tm' o1 o2 h
section
variable {M0 M M1 B' : PMem} {n0 a g k : Nat} {A B ro : List Span}
theorem Swp.base (h : Swp n0 B' M a g A B ro) (hs : Pm.Sub M0 B') : Swp n0 M0 M a g A B ro := by
  obtain ⟨va, vb, vo, h1, h2, h3, h4, h5, ⟨f1, f2, f3⟩, h7⟩ := h.vals
  exact ⟨hs.trans h.sub, fresh_of_sub hs h.new, va, vb, vo, h1, h2, h3, h4, h5, ⟨fun k e => fresh_of_sub hs (f1 k e), fun k e => fresh_of_sub hs (f2 k e), fun k e => fresh_of_sub hs (f3 k e)⟩, h7⟩
theorem Swp.push {os : List Pm.Obj} (h : Swp n0 M0 M a g A B ro) (hf : fresh M k) : Swp n0 (seg M0 k os) (seg M k os) a g A B ro := by
  obtain ⟨va, vb, vo, h1, h2, h3, h4, h5, ⟨f1, f2, f3⟩, h7⟩ := h.vals
  have hak : a ≠ k := fun e => by subst e; rw [hf 0] at h1; cases h1
  have ka := h2.key hf
  have kb := h3.key hf
  have ko := h4.key hf
  have key : ∀ {v : PV}, keyV v ≠ some k → ∀ k' i, keyV v = some k' → M k' i ≠ none → seg M k os k' i = M k' i := fun {v} hv k' i e _ => seg_ne _ _ _ fun e' => hv (by rw [e, e'])
  exact ⟨sub_segs h.sub, fresh_seg h.new hak, va, vb, vo, by rw [seg_ne _ _ _ hak]; exact h1, h2.frame (key ka), h3.frame (key kb), h4.frame (key ko), h5, ⟨fun k' e => fresh_seg (f1 k' e) fun e' => ka (by rw [e, e']), fun k' e => fresh_seg (f2 k' e) fun e' => kb (by rw [e, e']), fun k' e => fresh_seg (f3 k' e) fun e' => ko (by rw [e, e'])⟩, h7⟩
theorem Swp.re {o : Pm.Obj} {os os' : List Pm.Obj} (h : Swp n0 (seg M0 k (o :: os)) M1 a g A B ro) : Swp n0 M0 (seg M1 k os') a g A B ro ∧ True ∨ ¬ fresh M0 k := by
  by_cases hf : fresh M0 k
  · refine .inl ⟨?_, trivial⟩
    obtain ⟨va, vb, vo, h1, h2, h3, h4, h5, ⟨f1, f2, f3⟩, h7⟩ := h.vals
    have hak := ne_of_fresh h.new
    have key : ∀ {v : PV}, (∀ k', keyV v = some k' → fresh (seg M0 k (o :: os)) k') → ∀ k' i, keyV v = some k' → M1 k' i ≠ none → seg M1 k os' k' i = M1 k' i := fun {v} hv k' i e _ => seg_ne _ _ _ (ne_of_fresh (hv k' e))
    refine ⟨fun j i x e => ?_, fresh_unseg h.new, va, vb, vo, by rw [seg_ne _ _ _ hak]; exact h1, h2.frame (key f1), h3.frame (key f2), h4.frame (key f3), h5, ⟨fun k' e => fresh_unseg (f1 k' e), fun k' e => fresh_unseg (f2 k' e), fun k' e => fresh_unseg (f3 k' e)⟩, h7⟩
    have hj : j ≠ k := fun e' => by subst e'; rw [hf i] at e; cases e
    rw [seg_ne _ _ _ hj]
    exact h.sub _ _ _ (by rw [seg_ne _ _ _ hj]; exact e)
  · exact .inr hf
theorem Swp.re' {o : Pm.Obj} {os : List Pm.Obj} (h : Swp n0 (seg M0 k (o :: os)) M1 a g A B ro) : Swp n0 (seg M0 k (o :: os)) (seg M1 k (o :: os)) a g A B ro := by
  obtain ⟨va, vb, vo, h1, h2, h3, h4, h5, ⟨f1, f2, f3⟩, h7⟩ := h.vals
  have hak := ne_of_fresh h.new
  have key : ∀ {v : PV}, (∀ k', keyV v = some k' → fresh (seg M0 k (o :: os)) k') → ∀ k' i, keyV v = some k' → M1 k' i ≠ none → seg M1 k (o :: os) k' i = M1 k' i := fun {v} hv k' i e _ => seg_ne _ _ _ (ne_of_fresh (hv k' e))
  exact ⟨sub_re h.sub, h.new, va, vb, vo, by rw [seg_ne _ _ _ hak]; exact h1, h2.frame (key f1), h3.frame (key f2), h4.frame (key f3), h5, ⟨f1, f2, f3⟩, h7⟩
end
theorem Swp.add {n0 : Nat} {M0 M : PMem} {a g : Nat} {A B ro : List Span} (h : Swp n0 M0 M a g A B ro) (hl : ro.length ≤ 1000000) (hp : ∀ p r, ro = p :: r → 0 ≤ p.to ∧ p.to ≤ 4000000000) (x : Span) : PTk env Tryd.prog 101 [.ptr a 0 0, spV x] M (fun nk _ M1 => n0 ≤ nk → Swp n0 M0 M1 a g A B (addR ro x)) := by
  obtain ⟨va, vb, vo, h1, h2, h3, h4, ⟨n1, n2, n3⟩, ⟨f1, f2, f3⟩, ⟨d1, d2, d3⟩, h8⟩ := h.vals
  refine (add_at h1 h4 n3 hl hp x).mono ?_
  rintro nk y M1 ⟨vo', q1, q2, q3, q4⟩ hn0
  have fr0 : ∀ k, fresh M k → fresh M0 k := fun k hk => fresh_of_sub h.sub hk
  have nk : ∀ {v : PV} {l : List Span}, LsV M v l → ∀ k, fresh M k → keyV v ≠ some k := fun hv k hk => hv.key hk
  refine ⟨fun j i o e => ?_, h.new, va, vb, vo', q1, h2.frame fun k' i e ne => q4 k' i (fun e' => n1 (by rw [e, e'])) (fun e' => d2 k' e e') ne, h3.frame fun k' i e ne => q4 k' i (fun e' => n2 (by rw [e, e'])) (fun e' => d3 k' e e') ne, q2, ⟨n1, n2, ?_⟩, ⟨f1, f2, fun k' e => ?_⟩, ⟨d1, fun k' e e' => ?_, fun k' e e' => ?_⟩, fun k' e => ?_⟩
  · have hj : j ≠ a := fun e' => by subst e'; rw [h.new i] at e; cases e
    have ho := h.sub _ _ _ e
    rw [q4 j i hj (fun e' => by rw [f3 j e' i] at e; cases e) (by rw [ho]; exact fun h => by cases h)]
    exact ho
  · rcases q3 with q3 | ⟨k, hnk, hk, q3⟩
    · rw [q3]; exact n3
    · rw [q3]; intro e'; cases e'; rw [hk 0] at h1; cases h1
  · rcases q3 with q3 | ⟨k, hnk, hk, q3⟩
    · exact f3 k' (by rw [← q3]; exact e)
    · rw [q3] at e; cases e; exact fr0 _ hk
  · rcases q3 with q3 | ⟨k, hnk, hk, q3⟩
    · exact d2 k' e (by rw [← q3]; exact e')
    · rw [q3] at e'; cases e'; exact nk h2 _ hk e
  · rcases q3 with q3 | ⟨k, hnk, hk, q3⟩
    · exact d3 k' e (by rw [← q3]; exact e')
    · rw [q3] at e'; cases e'; exact nk h3 _ hk e
  · rcases q3 with q3 | ⟨k, hnk, hk, q3⟩
    · exact h8 k' (by rw [← q3]; exact e)
    · rw [q3] at e; cases e; omega
end Go.Proofs.YtmgmbdnhodicjaaDoor
end

section
namespace Go.Proofs.YtmgmbdnhodicjaaDoor
open Go Go.Am Go.Pm
set_option maxHeartbeats 2000000
set_option maxRecDepth 100000
section
variable {M0 M M1 : PMem} {n0 a g k : Nat} {A B ro : List Span}
theorem LsV.one {v : PV} {l : List Span} (h : LsV M v l) : pcells v = [v] ∧ pone v = true := by
  cases h with
  | nil e => exact ⟨rfl, rfl⟩
  | row hM hj hc => exact ⟨rfl, rfl⟩
theorem Swp.sideA (h : Swp n0 M0 M a g A B ro) : ∃ va vb vo, M a 0 = some (.row .rw 0 [va, vb, .fn g [] [], vo]) ∧ LsV M va A ∧ ∀ x M1 A', LsV M1 x A' → keyV x = keyV va → (∀ k i, keyV va ≠ some k → M1 k i = M k i) →
    Pm.Sub M0 M1 ∧ M1 a 0 = some (.row .rw 0 [va, vb, .fn g [] [], vo]) ∧ storeO 1 0 x (some (.row .rw 0 [va, vb, .fn g [] [], vo])) = some (.row .rw 0 [x, vb, .fn g [] [], vo]) ∧ Swp n0 M0 (putM M1 a 0 (.row .rw 0 [x, vb, .fn g [] [], vo])) a g A' B ro := by
  obtain ⟨va, vb, vo, h1, h2, h3, h4, ⟨n1, n2, n3⟩, ⟨f1, f2, f3⟩, ⟨d1, d2, d3⟩, h8⟩ := h.vals
  refine ⟨va, vb, vo, h1, h2, fun x M1 A' hx hk hf => ?_⟩
  have hs : Pm.Sub M0 M1 := fun j i o e => by
    rw [hf j i (fun e' => by rw [f1 j e' i] at e; cases e)]; exact h.sub _ _ _ e
  have nx : keyV x ≠ some a := by rw [hk]; exact n1
  obtain ⟨c1, c2⟩ := hx.one
  refine ⟨hs, by rw [hf a 0 n1]; exact h1, ?_, ?_⟩
  · rw [storeO_eq (n := 1) ⟨by rw [c1]; rfl, by rw [c1]; show 0 + 1 ≤ 4; decide, by rw [c1]; simp [c2]⟩, c1]; rfl
  · refine ⟨fun j i o e => ?_, h.new, x, vb, vo, putM_same _ _ _ _, ?_, ?_, ?_, ⟨nx, n2, n3⟩, ⟨fun k' e => f1 k' (by rw [← hk]; exact e), f2, f3⟩, ⟨fun k' e => d1 k' (by rw [← hk]; exact e), fun k' e => d2 k' (by rw [← hk]; exact e), d3⟩, h8⟩
    · have hj : j ≠ a := fun e' => by subst e'; rw [h.new i] at e; cases e
      rw [put_ne (fun y => hj y.1)]; exact hs _ _ _ e
    · exact hx.frame fun k' i e _ => put_ne fun y => nx (by rw [e, y.1])
    · exact h3.frame fun k' i e _ => by rw [put_ne (fun y => n2 (by rw [e, y.1])), hf k' i (fun e' => d1 k' e' e)]
    · exact h4.frame fun k' i e _ => by rw [put_ne (fun y => n3 (by rw [e, y.1])), hf k' i (fun e' => d2 k' e' e)]
theorem Swp.sideB (h : Swp n0 M0 M a g A B ro) : ∃ va vb vo, M a 0 = some (.row .rw 0 [va, vb, .fn g [] [], vo]) ∧ LsV M vb B ∧ ∀ x M1 B', LsV M1 x B' → keyV x = keyV vb → (∀ k i, keyV vb ≠ some k → M1 k i = M k i) →
    Pm.Sub M0 M1 ∧ M1 a 0 = some (.row .rw 0 [va, vb, .fn g [] [], vo]) ∧ storeO 1 1 x (some (.row .rw 0 [va, vb, .fn g [] [], vo])) = some (.row .rw 0 [va, x, .fn g [] [], vo]) ∧ Swp n0 M0 (putM M1 a 0 (.row .rw 0 [va, x, .fn g [] [], vo])) a g A B' ro := by
  obtain ⟨va, vb, vo, h1, h2, h3, h4, ⟨n1, n2, n3⟩, ⟨f1, f2, f3⟩, ⟨d1, d2, d3⟩, h8⟩ := h.vals
  refine ⟨va, vb, vo, h1, h3, fun x M1 B' hx hk hf => ?_⟩
  have hs : Pm.Sub M0 M1 := fun j i o e => by
    rw [hf j i (fun e' => by rw [f2 j e' i] at e; cases e)]; exact h.sub _ _ _ e
  have nx : keyV x ≠ some a := by rw [hk]; exact n2
  obtain ⟨c1, c2⟩ := hx.one
  refine ⟨hs, by rw [hf a 0 n2]; exact h1, ?_, ?_⟩
  · rw [storeO_eq (n := 1) ⟨by rw [c1]; rfl, by rw [c1]; show 1 + 1 ≤ 4; decide, by rw [c1]; simp [c2]⟩, c1]; rfl
  · refine ⟨fun j i o e => ?_, h.new, va, x, vo, putM_same _ _ _ _, ?_, ?_, ?_, ⟨n1, nx, n3⟩, ⟨f1, fun k' e => f2 k' (by rw [← hk]; exact e), f3⟩, ⟨fun k' e e' => d1 k' e (by rw [← hk]; exact e'), d2, fun k' e => d3 k' (by rw [← hk]; exact e)⟩, h8⟩
    · have hj : j ≠ a := fun e' => by subst e'; rw [h.new i] at e; cases e
      rw [put_ne (fun y => hj y.1)]; exact hs _ _ _ e
    · exact h2.frame fun k' i e _ => by rw [put_ne (fun y => n1 (by rw [e, y.1])), hf k' i (fun e' => d1 k' e e')]
    · exact hx.frame fun k' i e _ => put_ne fun y => nx (by rw [e, y.1])
    · exact h4.frame fun k' i e _ => by rw [put_ne (fun y => n3 (by rw [e, y.1])), hf k' i (fun e' => d3 k' e' e)]
theorem Swp.leave {o : Pm.Obj} {os os' os2 : List Pm.Obj} (h : Swp n0 (seg M0 k (o :: os)) (seg M k os') a g A B ro) (hf : fresh M0 k) : Swp n0 M0 (seg M k os2) a g A B ro := by
  rcases h.re (os' := os2) with h | h
  · rw [seg_seg] at h; exact h.1
  · exact absurd hf h
end
theorem keep45 {M0 M : PMem} {n0 a g k : Nat} (hn0 : n0 ≤ k) {A B ro : List Span} {os : List Pm.Obj} (keep : Bool → Bool → Bool) (hg : ∀ x y, PTp env Tryd.prog g [bv x, bv y] (bv (keep x y))) {n : Int} {x y ia ib : Bool} (X Y N : Span) (o1 o2 : Pm.Obj) (tm : List (Nat × PV)) (hK : KpT tm a k n x y ia ib) (hos : os = [rwS X, rwS Y, rwS N, o1, o2])
    (h : Swp n0 (seg M0 k os) (seg M k os) a g A B ro) (hl : ro.length ≤ 1000000) (hp : ∀ p r, ro = p :: r → 0 ≤ p.to ∧ p.to ≤ 4000000000) {Q : AExit → PSt → Prop}
    (q : ∀ tm' M1, KpT tm' a k n x y ia ib → Swp n0 (seg M0 k os) (seg M1 k os) a g A B (if keep ia ib then addR ro N else ro) → RX env Tryd.prog none c91_54 ⟨tm', 177, k, os, M1⟩ Q) :
    RX env Tryd.prog none c91_55 ⟨tm, 177, k, os, M⟩ Q := by
  subst hos
  obtain ⟨⟨u0, u2, u3, u4, u5, u6, u7⟩, u8, u9⟩ := hK
  have hak := ne_of_fresh h.new
  obtain ⟨va, vb, vo, h1, -⟩ := h.vals
  rw [seg_ne _ _ _ hak] at h1
  have hlda : ∀ {ag : Bool} {n o : Nat} {os : List Pm.Obj}, loadP k os M ag n (.ptr a 0 o) = rowTake ag n o (M a 0) := loadP_out hak
  refine RX.cut (fun s => ∃ tm' M1, s = ⟨tm', 177, k, [rwS X, rwS Y, rwS N, o1, o2], M1⟩ ∧ KpT tm' a k n x y ia ib ∧ Swp n0 (seg M0 k [rwS X, rwS Y, rwS N, o1, o2]) (seg M1 k [rwS X, rwS Y, rwS N, o1, o2]) a g A B (if keep ia ib then addR ro N else ro)) (RX.of env_ok ?_) ?_
  · simp only [G0, Nat.reduceLT, Nat.reduceEqDiff, Nat.reduceAdd, Nat.reduceLeDiff, Nat.reduceMul, u0, u8, u9, hlda, h1]
    refine cp0 (hg ia ib) (by decide) ?_
    simp only [G0, Nat.reduceLT, Nat.reduceEqDiff, Nat.reduceAdd, Nat.reduceLeDiff, Nat.reduceMul]
    cases hkp : keep ia ib with
    | false =>
      simp only [G0, Nat.reduceLT, Nat.reduceEqDiff, Nat.reduceAdd, Nat.reduceLeDiff, Nat.reduceMul]
      exact ⟨_, _, rfl, ⟨⟨u0, u2, u3, u4, u5, u6, u7⟩, u8, u9⟩, h⟩
    | true =>
      simp only [G0, Nat.reduceLT, Nat.reduceEqDiff, Nat.reduceAdd, Nat.reduceLeDiff, Nat.reduceMul, u0, u7, rwS, encSpan]
      refine cmk (first := []) (cap := []) ((h.add hl hp N).mono ?_)
      intro nk z M1 h' hlt
      have h' := h' (by omega)
      refine ⟨[rwS X, rwS Y, rwS N, o1, o2], M1, rfl, mle_re h'.sub, by decide, ?_⟩
      simp only [G0, Nat.reduceLT, Nat.reduceEqDiff, Nat.reduceAdd, Nat.reduceLeDiff, Nat.reduceMul]
      exact ⟨_, _, rfl, ⟨⟨u0, u2, u3, u4, u5, u6, u7⟩, u8, u9⟩, h'.re'⟩
  · rintro s ⟨tm', M1, rfl, hK', h'⟩
    exact q tm' M1 hK' h'
end Go.Proofs.YtmgmbdnhodicjaaDoor
end

section
namespace Go.Proofs.YtmgmbdnhodicjaaDoor
open Go Go.Am Go.Pm
set_option maxHeartbeats 2000000
set_option maxRecDepth 100000
theorem left49 {M0 M : PMem} {n0 a g k : Nat} {A B ro : List Span} {os : List Pm.Obj} {n : Int} {x y ia ib : Bool} (X Y N : Span) (o1 o2 : Pm.Obj) (tm : List (Nat × PV)) (hK : KpT tm a k n x y ia ib) (hos : os = [rwS X, rwS Y, rwS N, o1, o2])
    (h : Swp n0 (seg M0 k os) (seg M k os) a g A B ro) (hA : ia = true → A ≠ []) (ht : 0 ≤ N.to ∧ N.to ≤ 4000000000) {Q : AExit → PSt → Prop}
    (q : ∀ tm' M1, KpT tm' a k n x y ia ib → Swp n0 (seg M0 k os) (seg M1 k os) a g (restS A ia N.to) B ro → RX env Tryd.prog none c91_53 ⟨tm', 177, k, os, M1⟩ Q) :
    RX env Tryd.prog none c91_54 ⟨tm, 177, k, os, M⟩ Q := by
  subst hos
  obtain ⟨⟨u0, u2, u3, u4, u5, u6, u7⟩, u8, u9⟩ := hK
  have hak := ne_of_fresh h.new
  obtain ⟨va, vb, vo, h1, h2, h3⟩ := h.sideA
  rw [seg_ne _ _ _ hak] at h1
  have hlda : ∀ {ag : Bool} {n o : Nat} {os : List Pm.Obj}, loadP k os M ag n (.ptr a 0 o) = rowTake ag n o (M a 0) := loadP_out hak
  refine RX.cut (fun s => ∃ tm' M1, s = ⟨tm', 177, k, [rwS X, rwS Y, rwS N, o1, o2], M1⟩ ∧ KpT tm' a k n x y ia ib ∧ Swp n0 (seg M0 k [rwS X, rwS Y, rwS N, o1, o2]) (seg M1 k [rwS X, rwS Y, rwS N, o1, o2]) a g (restS A ia N.to) B ro) (RX.of env_ok ?_) ?_
  · cases ia with
    | false =>
      simp only [G0, Nat.reduceLT, Nat.reduceEqDiff, Nat.reduceAdd, Nat.reduceLeDiff, Nat.reduceMul, u8]
      exact ⟨_, _, rfl, ⟨⟨u0, u2, u3, u4, u5, u6, u7⟩, u8, u9⟩, h⟩
    | true =>
      cases A with
      | nil => exact absurd rfl (hA rfl)
      | cons z r =>
        simp only [G0, Nat.reduceLT, Nat.reduceEqDiff, Nat.reduceAdd, Nat.reduceLeDiff, Nat.reduceMul, u0, u7, u8, hlda, h1, rwS, encSpan]
        refine cm (first := []) (cap := []) ((behind_at h2 N.to ht).mono ?_)
        rintro v M1 ⟨q1, q2, q3⟩
        obtain ⟨s1, s2, s3, s4⟩ := h3 v M1 _ q1 q2 q3
        refine ⟨[rwS X, rwS Y, rwS N, o1, o2], M1, rfl, mle_re s1, by decide, ?_⟩
        have hst : ∀ {tm : List (Nat × PV)} {os : List Pm.Obj}, storeP tm 177 k os M1 1 v (.ptr a 0 0) = some (.junk, ⟨tm, 177, k, os, putM M1 a 0 (.row .rw 0 [v, vb, .fn g [] [], vo])⟩) := fun {tm os} => by
          rw [storeP_out hak, s2, s3, stO_eq]
        simp only [G0, Nat.reduceLT, Nat.reduceEqDiff, Nat.reduceAdd, Nat.reduceLeDiff, Nat.reduceMul, u0, hst]
        exact ⟨_, _, rfl, ⟨⟨u0, u2, u3, u4, u5, u6, u7⟩, u8, u9⟩, s4.re'⟩
  · rintro s ⟨tm', M1, rfl, hK', h'⟩
    exact q tm' M1 hK' h'
theorem left53 {M0 M : PMem} {n0 a g k : Nat} {A B ro : List Span} {os : List Pm.Obj} {n : Int} {x y ia ib : Bool} (X Y N : Span) (o1 o2 : Pm.Obj) (tm : List (Nat × PV)) (hK : KpT tm a k n x y ia ib) (hos : os = [rwS X, rwS Y, rwS N, o1, o2])
    (h : Swp n0 (seg M0 k os) (seg M k os) a g A B ro) (hB : ib = true → B ≠ []) (ht : 0 ≤ N.to ∧ N.to ≤ 4000000000) :
    RX env Tryd.prog none c91_53 ⟨tm, 177, k, os, M⟩ (fun e s => e = .normal ∧ ∃ tm' M1, s = ⟨tm', 177, k, os, M1⟩ ∧ Swp n0 (seg M0 k os) (seg M1 k os) a g A (restS B ib N.to) ro) := by
  subst hos
  obtain ⟨⟨u0, u2, u3, u4, u5, u6, u7⟩, u8, u9⟩ := hK
  have hak := ne_of_fresh h.new
  obtain ⟨va, vb, vo, h1, h2, h3⟩ := h.sideB
  rw [seg_ne _ _ _ hak] at h1
  have hlda : ∀ {ag : Bool} {n o : Nat} {os : List Pm.Obj}, loadP k os M ag n (.ptr a 0 o) = rowTake ag n o (M a 0) := loadP_out hak
  refine RX.of env_ok ?_
  cases ib with
  | false =>
    simp only [G0, Nat.reduceLT, Nat.reduceEqDiff, Nat.reduceAdd, Nat.reduceLeDiff, Nat.reduceMul, u9]
    exact ⟨_, _, rfl, h⟩
  | true =>
    cases B with
    | nil => exact absurd rfl (hB rfl)
    | cons z r =>
      simp only [G0, Nat.reduceLT, Nat.reduceEqDiff, Nat.reduceAdd, Nat.reduceLeDiff, Nat.reduceMul, u0, u7, u9, hlda, h1, rwS, encSpan]
      refine cm (first := []) (cap := []) ((behind_at h2 N.to ht).mono ?_)
      rintro v M1 ⟨q1, q2, q3⟩
      obtain ⟨s1, s2, s3, s4⟩ := h3 v M1 _ q1 q2 q3
      refine ⟨[rwS X, rwS Y, rwS N, o1, o2], M1, rfl, mle_re s1, by decide, ?_⟩
      have hst : ∀ {tm : List (Nat × PV)} {os : List Pm.Obj}, storeP tm 177 k os M1 1 v (.ptr a 0 1) = some (.junk, ⟨tm, 177, k, os, putM M1 a 0 (.row .rw 0 [va, v, .fn g [] [], vo])⟩) := fun {tm os} => by
        rw [storeP_out hak, s2, s3, stO_eq]
      simp only [G0, Nat.reduceLT, Nat.reduceEqDiff, Nat.reduceAdd, Nat.reduceLeDiff, Nat.reduceMul, u0, hst]
      exact ⟨_, _, rfl, s4.re'⟩
theorem hdS_in {l : List Span} {n f : Int} (h : inS (hdS l n) f = true) : l ≠ [] := by
  rintro rfl
  simp [inS, hdS] at h
theorem hdS_ok {l : List Span} (h : OkL l) (n : Int) : 0 ≤ (hdS l n).1.frm ∧ (hdS l n).1.frm ≤ 4000000000 := by
  cases l with
  | nil => exact ⟨Int.le_refl 0, by show (0 : Int) ≤ 4000000000; decide⟩
  | cons x r =>
    have hx := h.1
    unfold SpOk at hx
    unfold hdS
    dsimp only
    by_cases e : x.node = n
    · rw [if_pos e]; dsimp only; omega
    · rw [if_neg e]; exact ⟨by decide, by decide⟩
theorem Swp.weak {n0 n1 : Nat} {M0 M : PMem} {a g : Nat} {A B ro : List Span} (h : Swp n0 M0 M a g A B ro) (hn : n1 ≤ n0) : Swp n1 M0 M a g A B ro := by
  obtain ⟨va, vb, vo, h1, h2, h3, h4, h5, h6, h7, h8⟩ := h.vals
  exact ⟨h.sub, h.new, va, vb, vo, h1, h2, h3, h4, h5, h6, h7, fun k e => Nat.le_trans hn (h8 k e)⟩
theorem step_at {n0 : Nat} {M0 M : PMem} {a g : Nat} {A B ro : List Span} (keep : Bool → Bool → Bool) (hg : ∀ x y, PTp env Tryd.prog g [bv x, bv y] (bv (keep x y))) (h : Swp n0 M0 M a g A B ro) (hA : OkL A) (hB : OkL B) (hne : A ≠ [] ∨ B ≠ []) (hl : ro.length ≤ 1000000) (hp : ∀ p r, ro = p :: r → 0 ≤ p.to ∧ p.to ≤ 4000000000) :
    PTk env Tryd.prog 91 [.ptr a 0 0] M (fun nk _ M1 => n0 ≤ nk → Swp n0 M0 M1 a g (restS A (stepS A B).ia (stepS A B).x.to) (restS B (stepS A B).ib (stepS A B).x.to) (if keep (stepS A B).ia (stepS A B).ib then addR ro (stepS A B).x else ro)) := by
  obtain ⟨hx, -⟩ := stepS_ok hA hB hne
  have hx' : 0 ≤ (stepS A B).x.to ∧ (stepS A B).x.to ≤ 4000000000 := by unfold SpOk at hx; omega
  refine PTk.enterR env_ok fn91 (by simp) comp91 fun k hk hf => ?_
  obtain ⟨va, vb, vo, h1, h2, h3, -⟩ := h.vals
  have hf0 : fresh M0 k := fresh_of_sub h.sub hf
  refine RX.cut (fun s => ∃ tm', s = ⟨tm', 177, k, [], M⟩ ∧ tget tm' 0 = .ptr a 0 0) (RX.of env_ok ?_) ?_
  · simp only [G0, Nat.reduceLT, Nat.reduceEqDiff, Nat.reduceAdd, Nat.reduceLeDiff, Nat.reduceMul, argsP]
    exact ⟨_, rfl, rfl⟩
  rintro s ⟨tm0, rfl, t0⟩
  refine RX.cut (fun s => ∃ tm', s = ⟨tm', 177, k, [], M⟩ ∧ tget tm' 0 = .ptr a 0 0 ∧ tget tm' 2 = iv (nodeS A B)) ((node10 h1 h2 h3 hne hf tm0 t0).mono ?_) ?_
  · rintro e s ⟨rfl, w⟩; exact ⟨rfl, w⟩
  rintro s ⟨tm1, rfl, t0, t2⟩
  refine heads h1 h2 h3 hf (nodeS A B) tm1 t0 t2 fun tm2 hK => ?_
  refine sides (hdS A (nodeS A B)) (hdS B (nodeS A B)) (frmS (hdS A (nodeS A B)) (hdS B (nodeS A B))) tm2 hK fun tm3 hK => ?_
  refine ztimes (hdS A (nodeS A B)) (hdS B (nodeS A B)) _ _ (hdS_ok hA _) (hdS_ok hB _) (fun e => by simp only [inS, Bool.and_eq_true] at e; exact e.1) (fun e => by simp only [inS, Bool.and_eq_true] at e; exact e.1) tm3 hK fun tm4 o1 o2 hK => ?_
  refine keep45 (Nat.min_le_right n0 k) keep hg (hdS A (nodeS A B)).1 (hdS B (nodeS A B)).1 (stepS A B).x o1 o2 tm4 hK rfl ((h.weak (Nat.min_le_left n0 k)).push hf) hl hp fun tm5 M1 hK h5 => ?_
  refine left49 (hdS A (nodeS A B)).1 (hdS B (nodeS A B)).1 (stepS A B).x o1 o2 tm5 hK rfl h5 hdS_in hx' fun tm6 M2 hK h6 => ?_
  refine (left53 (hdS A (nodeS A B)).1 (hdS B (nodeS A B)).1 (stepS A B).x o1 o2 tm6 hK rfl h6 hdS_in hx').mono ?_
  rintro e s ⟨rfl, tm7, M3, rfl, h7⟩
  refine endN fun hn => ?_
  have := Swp.leave (os2 := [rwS (hdS A (nodeS A B)).1, rwS (hdS B (nodeS A B)).1, rwS (stepS A B).x, o1, o2]) h7 hf0
  rw [Nat.min_eq_left hn] at this
  exact this
end Go.Proofs.YtmgmbdnhodicjaaDoor
end

section
namespace Go.Proofs.YtmgmbdnhodicjaaDoor
open Go Go.Am Go.Pm
set_option maxHeartbeats 2000000
set_option maxRecDepth 100000
def ownRow (va vb : PV) (g : Nat) (vo : PV) : Pm.Obj := .row .rw 0 [va, vb, .fn g [] [], vo]
theorem OutV.len {M : PMem} {v : PV} {l : List Span} (h : OutV M v l) : lenL v = some (iv (l.length : Nat)) := by
  cases h with
  | nil e => rfl
  | row hM hw => rfl
structure SwO (M0 M : PMem) (k g : Nat) (va vb vo : PV) (A B ro : List Span) : Prop where
  swp : Swp k M0 (seg M k [ownRow va vb g vo]) k g A B ro
  la : LsV M va A
  lb : LsV M vb B
  lo : OutV M vo ro
  ka : keyV va ≠ some k
  kb : keyV vb ≠ some k
  ko : keyV vo ≠ some k
  kn : ∀ j, keyV vo = some j → k ≤ j ∧ fresh M0 j
  sub : Pm.Sub M0 M
theorem Swp.own {M0 M : PMem} {k g : Nat} {A B ro : List Span} (h : Swp k M0 M k g A B ro) : ∃ va vb vo, MLe M (seg M k [ownRow va vb g vo]) ∧ SwO M0 M k g va vb vo A B ro := by
  obtain ⟨va, vb, vo, h1, h2, h3, h4, ⟨n1, n2, n3⟩, h6, h7, h8⟩ := h.vals
  have key : ∀ {v : PV}, keyV v ≠ some k → ∀ k' i, keyV v = some k' → M k' i ≠ none → seg M k [ownRow va vb g vo] k' i = M k' i := fun {v} hv k' i e _ => seg_ne _ _ _ fun e' => hv (by rw [e, e'])
  refine ⟨va, vb, vo, fun j i o e => ?_, ⟨⟨fun j i o e => ?_, h.new, va, vb, vo, by rw [seg_same]; rfl, h2.frame (key n1), h3.frame (key n2), h4.frame (key n3), ⟨n1, n2, n3⟩, h6, h7, h8⟩, h2, h3, h4, n1, n2, n3, fun j e => ⟨h8 j e, h6.2.2 j e⟩, h.sub⟩⟩
  · by_cases hj : j = k
    · subst hj
      rw [seg_same] at e
      cases i with
      | zero =>
        have e' : some (ownRow va vb g vo) = some o := e
        exact ⟨_, h1, by cases e'; exact .refl _⟩
      | succ i => cases e
    · rw [seg_ne _ _ _ hj] at e
      exact ⟨o, e, .refl _⟩
  · by_cases hj : j = k
    · subst hj; rw [h.new i] at e; cases e
    · rw [seg_ne _ _ _ hj]; exact h.sub _ _ _ e
theorem step_inv (keep : Bool → Bool → Bool) {a b ro : List Span} (hro : OkR ro) (hba : befL ro a) (hbb : befL ro b) (ha : OkL a) (hb : OkL b) (hne : a ≠ [] ∨ b ≠ []) :
    let a' := restS a (stepS a b).ia (stepS a b).x.to
    let b' := restS b (stepS a b).ib (stepS a b).x.to
    let ro' := if keep (stepS a b).ia (stepS a b).ib then addR ro (stepS a b).x else ro
    OkR ro' ∧ befL ro' a' ∧ befL ro' b' ∧ OkL a' ∧ OkL b' ∧ tot a' + tot b' < tot a + tot b ∧ a'.length ≤ a.length ∧ b'.length ≤ b.length := by
  obtain ⟨hx, hor, sa, sb, _⟩ := stepS_ok ha hb hne
  intro a' b' ro'
  have hx' := hx
  unfold SpOk at hx'
  obtain ⟨ka1, ka2, ka3, ka4⟩ := sa.ok (by omega) ha
  obtain ⟨kb1, kb2, kb3, kb4⟩ := sb.ok (by omega) hb
  have hbx : befR ro (stepS a b).x := by
    cases hia : (stepS a b).ia with
    | true => rw [hia] at sa; exact befL_in hba sa
    | false => cases hib : (stepS a b).ib with
      | true => rw [hib] at sb; exact befL_in hbb sb
      | false => rw [hia, hib] at hor; cases hor
  obtain ⟨q1, q2, p, r, q3, q4, q5⟩ := addR_ok hro hx hbx
  have hro' : OkR ro' ∧ befL ro' a' ∧ befL ro' b' := by
    show OkR (if keep (stepS a b).ia (stepS a b).ib then addR ro (stepS a b).x else ro) ∧ befL (if keep (stepS a b).ia (stepS a b).ib then addR ro (stepS a b).x else ro) a' ∧ befL (if keep (stepS a b).ia (stepS a b).ib then addR ro (stepS a b).x else ro) b'
    cases hkk : keep (stepS a b).ia (stepS a b).ib with
    | true => rw [if_pos rfl]; exact ⟨q1, befL_add q3 q4 q5 ka2, befL_add q3 q4 q5 kb2⟩
    | false => rw [if_neg (by decide)]; exact ⟨hro, befL_step hba (by omega) sa, befL_step hbb (by omega) sb⟩
  refine ⟨hro'.1, hro'.2.1, hro'.2.2, ka1, kb1, ?_, side_len sa, side_len sb⟩
  cases hia : (stepS a b).ia <;> cases hib : (stepS a b).ib <;> simp [hia, hib] at hor ka3 kb3 <;> simp [a', b', hia, hib] <;> omega
theorem sweepR_mono (keep : Bool → Bool → Bool) : ∀ (k : Nat) (a b ro : List Span), ro.length ≤ (sweepR keep k a b ro).length
  | 0, _, _, _ => Nat.le_refl _
  | k + 1, a, b, ro => by
    unfold sweepR
    by_cases h0 : a.length + b.length = 0
    · rw [if_pos h0]; exact Nat.le_refl _
    · rw [if_neg h0]
      dsimp only
      refine Nat.le_trans ?_ (sweepR_mono keep k _ _ _)
      split
      · have l3 := addR_len ro (stepS a b).x
        have : conx ro (stepS a b).x ≤ 1 := by unfold conx; split <;> (try split) <;> omega
        omega
      · exact Nat.le_refl _
theorem loop76 (keep : Bool → Bool → Bool) {g : Nat} (hg : ∀ x y, PTp env Tryd.prog g [bv x, bv y] (bv (keep x y))) {M0 : PMem} {k : Nat} {Q : AExit → PSt → Prop} (R : List Span)
    (q : ∀ tm M va vb vo, tget tm 8 = .ptr k 0 0 → SwO M0 M k g va vb vo [] [] R → Q (.exit 0) ⟨tm, 48, k, [ownRow va vb g vo], M⟩) (hR : R.length ≤ 1000000) :
    ∀ d A B ro M va vb vo tm, tget tm 8 = .ptr k 0 0 → SwO M0 M k g va vb vo A B ro → sweepR keep d A B ro = R → tot A + tot B < d → OkR ro → befL ro A → befL ro B → OkL A → OkL B → A.length ≤ 4000 → B.length ≤ 4000 →
    RXL env Tryd.prog none c76_12 ⟨tm, 48, k, [ownRow va vb g vo], M⟩ Q := by
  intro d
  induction d with
  | zero => intro A B ro M va vb vo tm _ _ _ h; omega
  | succ d ih =>
    intro A B ro M va vb vo tm t8 hS hd hlt hro hba hbb hA hB hla hlb
    have lA := hS.la.len
    have lB := hS.lb.len
    have hw : IntKind.i64.wrap ((A.length : Nat) + (B.length : Nat) : Int) = ((A.length + B.length : Nat) : Int) := by rw [wrap64_id (by omega) (by omega)]; omega
    unfold sweepR at hd
    by_cases h0 : A.length + B.length = 0
    · rw [if_pos h0] at hd
      subst hd
      have e1 : A = [] := List.length_eq_zero_iff.1 (by omega)
      have e2 : B = [] := List.length_eq_zero_iff.1 (by omega)
      have hgt : ¬ (((A.length + B.length : Nat) : Int) > 0) := by omega
      refine RXL.round (RX.of env_ok ?_)
      simp only [G0, Nat.reduceLT, Nat.reduceEqDiff, Nat.reduceAdd, Nat.reduceLeDiff, Nat.reduceMul, t8, lA, lB, hw, hgt, decide_false, ownRow]
      subst e1 e2
      exact q _ _ _ _ _ t8 hS
    · rw [if_neg h0] at hd
      have hgt : ((A.length + B.length : Nat) : Int) > 0 := by omega
      have hne : A ≠ [] ∨ B ≠ [] := by
        cases A with
        | nil => cases B with
          | nil => simp at h0
          | cons y s => exact .inr (by simp)
        | cons x r => exact .inl (by simp)
      have hl1 : ro.length ≤ 1000000 := by
        refine Nat.le_trans ?_ hR
        rw [← hd]
        refine Nat.le_trans ?_ (sweepR_mono keep d _ _ _)
        split
        · have l3 := addR_len ro (stepS A B).x
          have : conx ro (stepS A B).x ≤ 1 := by unfold conx; split <;> (try split) <;> omega
          omega
        · exact Nat.le_refl _
      have hp1 : ∀ p r, ro = p :: r → 0 ≤ p.to ∧ p.to ≤ 4000000000 := fun p r e => by
        subst e
        have := hro.1
        unfold SpOk at this
        omega
      obtain ⟨i1, i2, i3, i4, i5, i6, i7, i8⟩ := step_inv keep hro hba hbb hA hB hne
      have hst := step_at keep hg hS.swp hA hB hne hl1 hp1
      refine RXL.round (RX.of env_ok ?_)
      simp only [G0, Nat.reduceLT, Nat.reduceEqDiff, Nat.reduceAdd, Nat.reduceLeDiff, Nat.reduceMul, t8, lA, lB, hw, hgt, decide_true, ownRow]
      refine cmk (first := []) (cap := []) (hst.mono ?_)
      intro nk x M1 hn hlt'
      obtain ⟨va', vb', vo', hle, hS'⟩ := (hn (by omega)).own
      refine ⟨[ownRow va' vb' g vo'], M1, rfl, hle, by decide, ?_⟩
      simp only [G0, Nat.reduceLT, Nat.reduceEqDiff, Nat.reduceAdd, Nat.reduceLeDiff, Nat.reduceMul]
      exact ih _ _ _ M1 va' vb' vo' _ t8 hS' hd (by omega) i1 i2 i3 i4 i5 (by omega) (by omega)
end Go.Proofs.YtmgmbdnhodicjaaDoor
end

section
namespace Go.Proofs.YtmgmbdnhodicjaaDoor
open Go Go.Am Go.Pm
set_option maxHeartbeats 2000000
set_option maxRecDepth 100000
theorem nk_ls {M : PMem} {v : PV} {l : List Span} {k : Nat} (h : LsV M v l) (hk : keyV v ≠ some k) : NK k v := by
  cases h with
  | nil e => exact .lst (fun _ e => by cases e) .nil
  | row hM hj hc => exact .sl fun e => hk (by subst e; rfl)
theorem nk_out {M : PMem} {v : PV} {l : List Span} {k : Nat} (h : OutV M v l) (hk : keyV v ≠ some k) : NK k v := by
  cases h with
  | nil e => exact .lst (fun _ e => by cases e) .nil
  | row hM hw => exact .sl fun e => hk (by subst e; rfl)
theorem nks_spans (k : Nat) (l : List Span) : NKs k (l.flatMap encSpan) := by
  induction l with
  | nil => exact .nil
  | cons x l ih => exact .cons (.v _) (.cons (.v _) (.cons (.v _) ih))
theorem swept_end {M0 M : PMem} {k g : Nat} {va vb vo : PV} {ro : List Span} (hf : fresh M0 k) (h : SwO M0 M k g va vb vo [] [] ro) (r : PV) (z : PV) (hz : NKs k [z] ∧ ∀ j, NK j z) (hr : r = vo) :
    ∃ k' j es w cells y, k ≤ k' ∧ MLe (seg M k [ownRow va vb g vo]) (putM M0 k' j (.row w es cells)) ∧ NKs k' cells ∧ FZ k' j es cells (.tup [r, z]) y ∧ PLe y (.tup [encSpans ro.reverse, z]) ∧ M0 = M0 := by
  subst hr
  have hrow : MLe (seg M k [ownRow va vb g r]) (putM M0 k 0 (ownRow va vb g r)) := fun a j o e => by
    by_cases hk' : a = k ∧ j = 0
    · obtain ⟨rfl, rfl⟩ := hk'
      rw [putM_same] at e
      cases e
      exact ⟨_, by rw [seg_same]; rfl, .refl _⟩
    · rw [put_ne hk'] at e
      have hak : a ≠ k := fun e' => by subst e'; rw [hf j] at e; cases e
      exact ⟨o, by rw [seg_ne _ _ _ hak]; exact h.sub _ _ _ e, .refl _⟩
  have hnk := h.lo
  cases hnk with
  | nil e => 
    refine ⟨k, 0, 0, .rw, [va, vb, .fn g [] [], .lst .full e 0 []], .tup [.lst .full e 0 [], z], Nat.le_refl _, hrow, ?_, ?_, ?_, rfl⟩
    · exact .cons (nk_ls h.la h.ka) (.cons (nk_ls h.lb h.kb) (.cons (.fn .nil .nil) (.cons (.lst (fun _ e => by cases e) .nil) .nil)))
    · exact .keep (.tup (.cons (.lst (fun _ e => by cases e) .nil) hz.1))
    · exact PLe.tup (.cons (PLe.nil_no .full e 3 rfl) (.cons (.refl _) .nil))
  | @row k1 i1 w p ro hM hw =>
    have hk1 := h.kn k1 rfl
    have hne : k1 ≠ k := fun e => h.ko (by subst e; rfl)
    refine ⟨k1, i1, 3, w, (p :: ro).reverse.flatMap encSpan, .tup [.lst .no 3 (ro.length + 1) (((p :: ro).reverse.flatMap encSpan).take ((ro.length + 1) * 3)), z], hk1.1, fun a j o e => ?_, nks_spans _ _, ?_, ?_, rfl⟩
    · by_cases hk' : a = k1 ∧ j = i1
      · obtain ⟨rfl, rfl⟩ := hk'
        rw [putM_same] at e
        cases e
        exact ⟨_, by rw [seg_ne _ _ _ hne]; exact hM, .refl _⟩
      · rw [put_ne hk'] at e
        have hak : a ≠ k := fun e' => by subst e'; rw [hf j] at e; cases e
        exact ⟨o, by rw [seg_ne _ _ _ hak]; exact h.sub _ _ _ e, .refl _⟩
    · have hcap := cap_lo (n := ro.length + 1) (es := 3) (by decide)
      refine .tup (.cons (.here ?_ (by rw [hcap.1]; exact Nat.le_refl _) (.inr hcap.2.2)) (.cons (.keep (hz.2 _)) .nil))
      rw [sp_len, List.length_reverse, List.length_cons]
      exact Nat.le_refl _
    · rw [List.take_of_length_le (by rw [sp_len, List.length_reverse, List.length_cons]; exact Nat.le_refl _)]
      have : encSpans (p :: ro).reverse = .lst .no 3 (ro.length + 1) ((p :: ro).reverse.flatMap encSpan) := by
        unfold encSpans; rw [List.length_reverse, List.length_cons]
      rw [this]
      exact .refl _
theorem swept_full {M0 M : PMem} {k g : Nat} {va vb vo : PV} {ro : List Span} (hf : fresh M0 k) (h : SwO M0 M k g va vb vo [] [] ro) (z : PV) (hz : NKs k [z]) :
    ∃ k' j es w cells y, k ≤ k' ∧ MLe (seg M k [ownRow va vb g vo]) (putM M0 k' j (.row w es cells)) ∧ NKs k' cells ∧ FZ k' j es cells (.tup [.lst .full 0 0 [], z]) y ∧ PLe y (.tup [encSpans [], z]) ∧ M0 = M0 := by
  refine ⟨k, 0, 0, .rw, [va, vb, .fn g [] [], vo], .tup [.lst .full 0 0 [], z], Nat.le_refl _, fun a j o e => ?_, ?_, ?_, ?_, rfl⟩
  · by_cases hk' : a = k ∧ j = 0
    · obtain ⟨rfl, rfl⟩ := hk'
      rw [putM_same] at e
      cases e
      exact ⟨_, by rw [seg_same]; rfl, .refl _⟩
    · rw [put_ne hk'] at e
      have hak : a ≠ k := fun e' => by subst e'; rw [hf j] at e; cases e
      exact ⟨o, by rw [seg_ne _ _ _ hak]; exact h.sub _ _ _ e, .refl _⟩
  · exact .cons (nk_ls h.la h.ka) (.cons (nk_ls h.lb h.kb) (.cons (.fn .nil .nil) (.cons (nk_out h.lo h.ko) .nil)))
  · exact .keep (.tup (.cons (.lst (fun _ e => by cases e) .nil) hz))
  · exact PLe.tup (.cons (PLe.nil_no .full 0 3 rfl) (.cons (.refl _) .nil))
def sweptV (keep : Bool → Bool → Bool) (a b : List Span) : PV :=
  if pastOk a && pastOk b then (if (sweptF keep a b).length ≤ 4000 then .tup [encSpans (sweptF keep a b), iv 0] else .tup [encSpans [], iv 8]) else .tup [encSpans [], iv 2]
theorem past_yes {l : List Span} (h : pastOk l = true) : PTp env Tryd.prog 65 [encSpans l] (iv 0) := by
  have := past_check l
  rw [h] at this
  exact this
theorem past_no {l : List Span} (h : pastOk l = false) : PTp env Tryd.prog 65 [encSpans l] (iv 2) := by
  have := past_check l
  rw [h] at this
  exact this
theorem swept_bad (g : Nat) {a b : List Span} (h : (pastOk a && pastOk b) = false) : PTp env Tryd.prog 76 [encSpans a, encSpans b, .fn g [] []] (.tup [encSpans [], iv 2]) := by
  refine PTp.weak (v := .tup [.lst .full 0 0 [], iv 2]) (fun M => ?_) (PLe.tup (.cons (PLe.nil_no .full 0 3 rfl) (.cons (.refl _) .nil)))
  refine PT.enterR env_ok fn76 (by simp) comp76 fun k hk hf => RX.of env_ok ?_
  have e0 : ((0 : Int) != 0) = false := by decide
  have e2 : ((2 : Int) != 0) = true := by decide
  simp only [G0, Nat.reduceLT, Nat.reduceEqDiff, Nat.reduceAdd, Nat.reduceLeDiff, Nat.reduceMul, argsP]
  cases ha : pastOk a with
  | false =>
    refine cp0 (past_no ha) (by decide) ?_
    simp only [G0, Nat.reduceLT, Nat.reduceEqDiff, Nat.reduceAdd, Nat.reduceLeDiff, Nat.reduceMul, e2, Bool.not_true]
    exact end2 hf rfl rfl ⟨rfl, rfl⟩
  | true =>
    have hb : pastOk b = false := by rw [ha] at h; exact h
    refine cp0 (past_yes ha) (by decide) ?_
    simp only [G0, Nat.reduceLT, Nat.reduceEqDiff, Nat.reduceAdd, Nat.reduceLeDiff, Nat.reduceMul, e0, Bool.not_false, cnd_t]
    refine cp0 (past_no hb) (by decide) ?_
    simp only [G0, Nat.reduceLT, Nat.reduceEqDiff, Nat.reduceAdd, Nat.reduceLeDiff, Nat.reduceMul, e2, Bool.not_false, cnd_t]
    exact end2 hf rfl rfl ⟨rfl, rfl⟩
theorem swept_ok (keep : Bool → Bool → Bool) {g : Nat} (hg : ∀ x y, PTp env Tryd.prog g [bv x, bv y] (bv (keep x y))) {a b : List Span} (ha : pastOk a = true) (hb : pastOk b = true) (hlen : (sweptF keep a b).length ≤ 1000000) :
    PTp env Tryd.prog 76 [encSpans a, encSpans b, .fn g [] []] (if (sweptF keep a b).length ≤ 4000 then .tup [encSpans (sweptF keep a b), iv 0] else .tup [encSpans [], iv 8]) := fun M => by
  obtain ⟨la, oa⟩ := pastOk_iff.1 ha
  obtain ⟨lb, ob⟩ := pastOk_iff.1 hb
  refine PT.conseq (R := fun y M1 => PLe y (if (sweptF keep a b).length ≤ 4000 then .tup [encSpans (sweptF keep a b), iv 0] else .tup [encSpans [], iv 8]) ∧ M1 = M) (PT.freeze ?_) fun x M1 ⟨e1, e2⟩ => ⟨_, M1, e1, .refl _, rfl, e2⟩
  refine PTk.enterR env_ok fn76 (by simp) comp76 fun k hk hf => RX.of env_ok ?_
  have e0 : ((0 : Int) != 0) = false := by decide
  simp only [G0, Nat.reduceLT, Nat.reduceEqDiff, Nat.reduceAdd, Nat.reduceLeDiff, Nat.reduceMul, argsP]
  refine cp0 (past_yes ha) (by decide) ?_
  simp only [G0, Nat.reduceLT, Nat.reduceEqDiff, Nat.reduceAdd, Nat.reduceLeDiff, Nat.reduceMul, e0, Bool.not_false, cnd_t]
  refine cp0 (past_yes hb) (by decide) ?_
  simp only [G0, Nat.reduceLT, Nat.reduceEqDiff, Nat.reduceAdd, Nat.reduceLeDiff, Nat.reduceMul, e0, Bool.not_false, cnd_t]
  refine cmk (first := []) (cap := []) ?_
  rw [segNil hf]
  refine (clone_own a (by omega) M).mono ?_
  rintro nk va M1 ⟨hva, hm1⟩ hlt
  have hf1 : fresh M1 k := by
    rcases hm1 with ⟨rfl, -⟩ | ⟨k1, os1, h1, h2, h3, rfl⟩
    · exact hf
    · exact fresh_seg hf (by omega)
  have hs1 : Pm.Sub M M1 := by
    rcases hm1 with ⟨rfl, -⟩ | ⟨k1, os1, h1, h2, h3, rfl⟩
    · exact Pm.Sub.refl _
    · exact Pm.Sub.seg h2
  have hk1 : ∀ j, keyV va = some j → fresh M j := by
    rcases hm1 with ⟨rfl, h⟩ | ⟨k1, os1, h1, h2, h3, rfl⟩
    · intro j e; rw [h] at e; cases e
    · intro j e; rw [h3] at e; cases e; exact h2
  refine ⟨[], M1, rfl, MLe.seg_nil' _ _, by decide, ?_⟩
  simp only [G0, Nat.reduceLT, Nat.reduceEqDiff, Nat.reduceAdd, Nat.reduceLeDiff, Nat.reduceMul]
  refine cmk (first := []) (cap := []) ?_
  rw [segNil hf1]
  refine (clone_own b (by omega) M1).mono ?_
  rintro nk2 vb M2 ⟨hvb, hm2⟩ hlt2
  have hf2 : fresh M2 k := by
    rcases hm2 with ⟨rfl, -⟩ | ⟨k1, os1, h1, h2, h3, rfl⟩
    · exact hf1
    · exact fresh_seg hf1 (by omega)
  have hs2 : Pm.Sub M1 M2 := by
    rcases hm2 with ⟨rfl, -⟩ | ⟨k1, os1, h1, h2, h3, rfl⟩
    · exact Pm.Sub.refl _
    · exact Pm.Sub.seg h2
  have hk2 : ∀ j, keyV vb = some j → fresh M1 j := by
    rcases hm2 with ⟨rfl, h⟩ | ⟨k1, os1, h1, h2, h3, rfl⟩
    · intro j e; rw [h] at e; cases e
    · intro j e; rw [h3] at e; cases e; exact h2
  refine ⟨[], M2, rfl, MLe.seg_nil' _ _, by decide, ?_⟩
  have hva2 : LsV M2 va a := hva.sub hs2
  have hfill : fillN [(0, 1), (1, 1), (2, 1), (3, 1)] [.lst .full 0 0 [], .lst .full 0 0 [], .v .nilFunc, .lst .full 0 0 []] va [(1, vb), (2, .fn g [] [])] (some (0, 1)) = some [va, vb, .fn g [] [], .lst .full 0 0 []] := by
    cases hva2 <;> cases hvb <;> rfl
  have hnil : ∀ j, keyV (.lst .full 0 0 []) ≠ some j := fun j e => by cases e
  have hS0 : Swp k M (seg M2 k [ownRow va vb g (.lst .full 0 0 [])]) k g a b [] := by
    have na : keyV va ≠ some k := hva.key hf1
    have nb : keyV vb ≠ some k := hvb.key hf2
    refine ⟨fun j i o e => ?_, hf, va, vb, .lst .full 0 0 [], by rw [seg_same]; rfl, ?_, ?_, .nil 0, ⟨na, nb, hnil _⟩, ⟨hk1, fun j e => fresh_of_sub hs1 (hk2 j e), fun j e => absurd e (hnil j)⟩, ⟨fun j e e' => ?_, fun j _ => hnil j, fun j _ => hnil j⟩, fun j e => absurd e (hnil j)⟩
    · have hj : j ≠ k := fun e' => by subst e'; rw [hf i] at e; cases e
      rw [seg_ne _ _ _ hj]; exact hs2 _ _ _ (hs1 _ _ _ e)
    · exact hva2.frame fun k' i e _ => seg_ne _ _ _ fun e' => na (by rw [e, e'])
    · exact hvb.frame fun k' i e _ => seg_ne _ _ _ fun e' => nb (by rw [e, e'])
    · exact hva.key (hk2 j e') e
  have hO : SwO M M2 k g va vb (.lst .full 0 0 []) a b [] := ⟨hS0, hva2, hvb, .nil 0, hva.key hf1, hvb.key hf2, hnil k, fun j e => absurd e (hnil j), hs1.trans hs2⟩
  simp only [G0, Nat.reduceLT, Nat.reduceEqDiff, Nat.reduceAdd, Nat.reduceLeDiff, Nat.reduceMul, hfill]
  refine RX.loop (loop76 keep hg (sweepR keep (tot a + tot b + 1) a b []) (fun tm M3 va' vb' vo' t8 hS => ?_) (by unfold sweptF at hlen; rw [List.length_reverse] at hlen; exact hlen) (tot a + tot b + 1) a b [] M2 va vb (.lst .full 0 0 []) _ rfl hO rfl (Nat.lt_succ_self _) trivial trivial trivial oa ob la lb)
  have lo := hS.lo.len
  have hz : ∀ (n : Int), NKs k [iv n] ∧ ∀ j, NK j (iv n) := fun n => ⟨.cons (.v _) .nil, fun j => .v _⟩
  have hrl : (sweptF keep a b).length = (sweepR keep (tot a + tot b + 1) a b []).length := by unfold sweptF; rw [List.length_reverse]
  by_cases hgt : (sweptF keep a b).length ≤ 4000
  · have hb2 : ¬ (((sweepR keep (tot a + tot b + 1) a b []).length : Int) > 4000) := by omega
    rw [if_pos hgt]
    simp only [G0, Nat.reduceLT, Nat.reduceEqDiff, Nat.reduceAdd, Nat.reduceLeDiff, Nat.reduceMul, t8, lo, hb2, decide_false, ownRow]
    obtain ⟨k', j, es, w, cells, y, q1, q2, q3, q4, q5, q6⟩ := swept_end hf hS vo' (iv 0) (hz 0) rfl
    exact ⟨.inr rfl, [_, _], _, rfl, MLe.refl _, k', j, es, w, cells, y, q1, q2, q3, q4, q5, trivial⟩
  · have hb2 : ((sweepR keep (tot a + tot b + 1) a b []).length : Int) > 4000 := by omega
    rw [if_neg hgt]
    simp only [G0, Nat.reduceLT, Nat.reduceEqDiff, Nat.reduceAdd, Nat.reduceLeDiff, Nat.reduceMul, t8, lo, hb2, decide_true, ownRow]
    obtain ⟨k', j, es, w, cells, y, q1, q2, q3, q4, q5, q6⟩ := swept_full hf hS (iv 8) (hz 8).1
    exact ⟨.inr rfl, [_, _], _, rfl, MLe.refl _, k', j, es, w, cells, y, q1, q2, q3, q4, q5, trivial⟩
theorem swept_fn (keep : Bool → Bool → Bool) {g : Nat} (hg : ∀ x y, PTp env Tryd.prog g [bv x, bv y] (bv (keep x y))) {a b : List Span} (hlen : pastOk a = true → pastOk b = true → (sweptF keep a b).length ≤ 1000000) :
    PTp env Tryd.prog 76 [encSpans a, encSpans b, .fn g [] []] (sweptV keep a b) := by
  unfold sweptV
  cases ha : pastOk a with
  | false => exact swept_bad g (by rw [ha]; rfl)
  | true =>
    cases hb : pastOk b with
    | false => exact swept_bad g (by rw [ha, hb]; rfl)
    | true => exact swept_ok keep hg ha hb (hlen ha hb)
end Go.Proofs.YtmgmbdnhodicjaaDoor
end

section
namespace Go.Proofs.YtmgmbdnhodicjaaDoor
open Go Go.Am Go.Pm
set_option maxHeartbeats 2000000
set_option maxRecDepth 100000
def orB (x y : Bool) : Bool := x || y
def andNot (x y : Bool) : Bool := x && !y
theorem keep77 (x y : Bool) : PTp env Tryd.prog 77 [bv x, bv y] (bv (orB x y)) := fun M => by
  refine PT.enterR env_ok fn77 (by simp) comp77 fun k hk hf => RX.of env_ok ?_
  cases x with
  | true =>
    simp only [G0, Nat.reduceLT, Nat.reduceEqDiff, Nat.reduceAdd, Nat.reduceLeDiff, Nat.reduceMul, argsP, Bool.not_true, Bool.not_false, cnd_t, cnd_f]
    exact end1 hf rfl ⟨rfl, rfl⟩
  | false =>
    simp only [G0, Nat.reduceLT, Nat.reduceEqDiff, Nat.reduceAdd, Nat.reduceLeDiff, Nat.reduceMul, argsP, Bool.not_true, Bool.not_false, cnd_t, cnd_f]
    exact end1 hf rfl ⟨rfl, rfl⟩
theorem keep89 (x y : Bool) : PTp env Tryd.prog 89 [bv x, bv y] (bv (andNot x y)) := fun M => by
  refine PT.enterR env_ok fn89 (by simp) comp89 fun k hk hf => RX.of env_ok ?_
  cases x with
  | true =>
    simp only [G0, Nat.reduceLT, Nat.reduceEqDiff, Nat.reduceAdd, Nat.reduceLeDiff, Nat.reduceMul, argsP, Bool.not_true, Bool.not_false, cnd_t, cnd_f]
    exact end1 hf rfl ⟨rfl, rfl⟩
  | false =>
    simp only [G0, Nat.reduceLT, Nat.reduceEqDiff, Nat.reduceAdd, Nat.reduceLeDiff, Nat.reduceMul, argsP, Bool.not_true, Bool.not_false, cnd_t, cnd_f]
    exact end1 hf rfl ⟨rfl, rfl⟩
def tells (keep : Bool → Bool → Bool) (a b : List Span) : List Span × Int :=
  if pastOk a && pastOk b then (if (sweptF keep a b).length ≤ 4000 then (sweptF keep a b, 0) else ([], 8)) else ([], 2)
theorem sweptV_eq (keep : Bool → Bool → Bool) (a b : List Span) : sweptV keep a b = .tup [encSpans (tells keep a b).1, iv (tells keep a b).2] := by
  unfold sweptV tells
  split
  · split <;> rfl
  · rfl
theorem join_at (a b : List Span) : PTp env Tryd.prog 51 [encSpans a, encSpans b] (.tup [encSpans (tells orB a b).1, iv (tells orB a b).2]) := fun M => by
  refine PT.enterR env_ok fn51 (by simp) comp51 fun k hk hf => RX.of env_ok ?_
  simp only [G0, Nat.reduceLT, Nat.reduceEqDiff, Nat.reduceAdd, Nat.reduceLeDiff, Nat.reduceMul, argsP]
  refine cp0 (swept_fn orB keep77 fun ha hb => ?_) (by decide) ?_
  · have := joinF_len (pastOk_iff.1 ha).2 (pastOk_iff.1 hb).2
    have h1 := (pastOk_iff.1 ha).1
    have h2 := (pastOk_iff.1 hb).1
    have e : sweptF orB a b = sweptF (fun x y => x || y) a b := rfl
    rw [e]; omega
  rw [sweptV_eq]
  simp only [G0, Nat.reduceLT, Nat.reduceEqDiff, Nat.reduceAdd, Nat.reduceLeDiff, Nat.reduceMul]
  exact end2 hf rfl rfl ⟨rfl, rfl⟩
theorem minus_at (a b : List Span) : PTp env Tryd.prog 73 [encSpans a, encSpans b] (.tup [encSpans (tells andNot a b).1, iv (tells andNot a b).2]) := fun M => by
  refine PT.enterR env_ok fn73 (by simp) comp73 fun k hk hf => RX.of env_ok ?_
  simp only [G0, Nat.reduceLT, Nat.reduceEqDiff, Nat.reduceAdd, Nat.reduceLeDiff, Nat.reduceMul, argsP]
  refine cp0 (swept_fn andNot keep89 fun ha hb => ?_) (by decide) ?_
  · have := minusF_len (pastOk_iff.1 ha).2 (pastOk_iff.1 hb).2
    have h1 := (pastOk_iff.1 ha).1
    have h2 := (pastOk_iff.1 hb).1
    have e : sweptF andNot a b = sweptF (fun x y => x && !y) a b := rfl
    rw [e]; omega
  rw [sweptV_eq]
  simp only [G0, Nat.reduceLT, Nat.reduceEqDiff, Nat.reduceAdd, Nat.reduceLeDiff, Nat.reduceMul]
  exact end2 hf rfl rfl ⟨rfl, rfl⟩
def withinB (a b : List Span) : Bool := (tells andNot a b).2 == 0 && ((tells andNot a b).1.length : Int) == 0
theorem within_at (a b : List Span) : PTp env Tryd.prog 49 [encSpans a, encSpans b] (bv (withinB a b)) := fun M => by
  refine PT.enterR env_ok fn49 (by simp) comp49 fun k hk hf => RX.of env_ok ?_
  simp only [G0, Nat.reduceLT, Nat.reduceEqDiff, Nat.reduceAdd, Nat.reduceLeDiff, Nat.reduceMul, argsP]
  refine cp0 (minus_at a b) (by decide) ?_
  unfold withinB
  generalize tells andNot a b = q
  simp only [G0, Nat.reduceLT, Nat.reduceEqDiff, Nat.reduceAdd, Nat.reduceLeDiff, Nat.reduceMul, encSpans]
  exact end1 hf rfl ⟨rfl, rfl⟩
end Go.Proofs.YtmgmbdnhodicjaaDoor
end

section
namespace Go.Proofs.YtmgmbdnhodicjaaDoor
open Go Go.Am Go.Pm
set_option maxHeartbeats 2000000
set_option maxRecDepth 100000
def idxF (p : Span → Bool) : Nat → List Span → Int
  | _, [] => -1
  | i, x :: r => if p x then i else idxF p (i + 1) r
theorem idxF_any (p : Span → Bool) : ∀ (l : List Span) (i : Nat), decide (idxF p i l ≥ 0) = l.any p
  | [], i => rfl
  | x :: r, i => by
    unfold idxF
    cases h : p x with
    | true => rw [if_pos rfl, List.any_cons, h]; simp
    | false => rw [if_neg (by decide), List.any_cons, h, Bool.false_or]; exact idxF_any p r (i + 1)
theorem loop90 (l : List Span) (hl : l.length ≤ 4000) (M0 M : PMem) (k : Nat) (Q : AExit → PSt → Prop) (g : Nat) (first cap : List PV) (p : Span → Bool) (hM : Sub M0 (seg M k []))
    (hp : ∀ x, PTs env Tryd.prog M0 g (first ++ ([.agg [iv x.node, iv x.frm, iv x.to]] ++ cap)) (bv (p x)))
    (q1 : ∀ tm, idxF p 0 l = -1 → Q (.exit 0) ⟨tm, 19, k, [], M⟩) (q2 : ∀ tm, tget tm 4 = iv (idxF p 0 l) → Q .ret ⟨tm, 19, k, [], M⟩) :
    ∀ d i tm, l.length - i = d → i ≤ l.length → idxF p 0 l = idxF p i (l.drop i) → tget tm 0 = encSpans l → tget tm 1 = .fn g first cap → tget tm 6 = encSpans l → tget tm 7 = iv l.length → tget tm 8 = iv i →
    RXL env Tryd.prog none c90_15 ⟨tm, 19, k, [], M⟩ Q := by
  intro d
  induction d with
  | zero =>
    intro i tm hd hi hp t0 t1 t6 t7 t8
    have : i = l.length := by omega
    subst this
    refine RXL.round (RX.of env_ok ?_)
    simp only [G0, Nat.reduceLT, Nat.reduceEqDiff, Nat.reduceAdd, Nat.reduceLeDiff, Nat.reduceMul, t7, t8, Int.lt_irrefl, decide_false]
    exact q1 _ (by rw [hp, List.drop_of_length_le (Nat.le_refl _)]; rfl)
  | succ d ih =>
    intro i tm hd hi hpi t0 t1 t6 t7 t8
    have hi' : i < l.length := by omega
    have hii : (i : Int) < l.length := by omega
    obtain ⟨x, hx, hdx⟩ := getE hi'
    have hlx := span_load hx
    have hw : IntKind.i64.wrap ((i : Int) + 1) = ((i + 1 : Nat) : Int) := by rw [wrap64_id (by omega) (by omega)]; rfl
    rw [hdx] at hpi
    have hun : idxF p i (x :: l.drop (i + 1)) = if p x then (i : Int) else idxF p (i + 1) (l.drop (i + 1)) := rfl
    rw [hun] at hpi
    refine RXL.round (RX.of env_ok ?_)
    simp only [G0, Nat.reduceLT, Nat.reduceEqDiff, Nat.reduceAdd, Nat.reduceLeDiff, Nat.reduceMul, t0, t1, t6, t7, t8, encSpans, hii, decide_true, hi', hlx]
    refine cs (hp x) hM (by decide) ?_
    cases h : p x with
    | true =>
      rw [h, if_pos rfl] at hpi
      simp only [G0, Nat.reduceLT, Nat.reduceEqDiff, Nat.reduceAdd, Nat.reduceLeDiff, Nat.reduceMul]
      exact q2 _ (by rw [hpi]; rfl)
    | false =>
      rw [h, if_neg (by decide)] at hpi
      simp only [G0, Nat.reduceLT, Nat.reduceEqDiff, Nat.reduceAdd, Nat.reduceLeDiff, Nat.reduceMul, t8, hw]
      exact ih (i + 1) _ (by omega) (by omega) hpi t0 t1 t6 t7 rfl
theorem index_fn (l : List Span) (hl : l.length ≤ 4000) (M0 : PMem) (g : Nat) (first cap : List PV) (p : Span → Bool) (hp : ∀ x, PTs env Tryd.prog M0 g (first ++ ([.agg [iv x.node, iv x.frm, iv x.to]] ++ cap)) (bv (p x))) :
    PTs env Tryd.prog M0 90 [encSpans l, .fn g first cap] (iv (idxF p 0 l)) := by
  refine PTs.enter env_ok fn90 (by simp) comp90 fun M k hs hk hf => ?_
  simp only [G0, Nat.reduceLT, Nat.reduceEqDiff, Nat.reduceAdd, Nat.reduceLeDiff, Nat.reduceMul, argsP, encSpans]
  refine RX.loop (loop90 l hl M0 M k _ g first cap p (hs.sseg hf) hp ?_ ?_ l.length 0 _ rfl (Nat.zero_le _) rfl rfl rfl rfl rfl rfl)
  · intro tm h
    simp only [G0, Nat.reduceLT, Nat.reduceEqDiff, Nat.reduceAdd, Nat.reduceLeDiff, Nat.reduceMul]
    exact end1 hf rfl ⟨by rw [h]; rfl, rfl⟩
  · intro tm h
    simp only [G0, Nat.reduceLT, Nat.reduceEqDiff, Nat.reduceAdd, Nat.reduceLeDiff, Nat.reduceMul]
    exact end1 hf h ⟨rfl, rfl⟩
theorem contains_fn (l : List Span) (hl : l.length ≤ 4000) (M0 : PMem) (g : Nat) (first cap : List PV) (p : Span → Bool) (hp : ∀ x, PTs env Tryd.prog M0 g (first ++ ([.agg [iv x.node, iv x.frm, iv x.to]] ++ cap)) (bv (p x))) :
    PTs env Tryd.prog M0 74 [encSpans l, .fn g first cap] (bv (l.any p)) := by
  refine PTs.enter env_ok fn74 (by simp) comp74 fun M k hs hk hf => ?_
  simp only [G0, Nat.reduceLT, Nat.reduceEqDiff, Nat.reduceAdd, Nat.reduceLeDiff, Nat.reduceMul, argsP]
  refine cs0 (index_fn l hl M0 g first cap p hp) (hs.sseg hf) (by decide) ?_
  simp only [G0, Nat.reduceLT, Nat.reduceEqDiff, Nat.reduceAdd, Nat.reduceLeDiff, Nat.reduceMul]
  refine end1 hf rfl ⟨?_, rfl⟩
  rw [← idxF_any p l 0]; rfl
theorem has75 (n s : Int) {M0 : PMem} {a i : Nat} {w : Wm} (hM : M0 a i = some (.row w 0 [iv n, iv s])) (x : Span) : PTs env Tryd.prog M0 75 [.agg [iv x.node, iv x.frm, iv x.to], .ptr a i 0] (bv (inSp x n s)) := by
  refine PTs.enter env_ok fn75 (by simp) comp75 fun M k hs hk hf => ?_
  have hM' := hs _ _ _ hM
  have hld : ∀ {ag : Bool} {n o : Nat} {os : List Pm.Obj}, loadP k os M ag n (.ptr a i o) = rowTake ag n o (M a i) := loadP_out (fresh_ne hf hM')
  simp only [G0, Nat.reduceLT, Nat.reduceEqDiff, Nat.reduceAdd, Nat.reduceLeDiff, Nat.reduceMul, argsP, hld, hM']
  refine end1 hf rfl ⟨?_, rfl⟩
  show bv _ = bv (inSp x n s)
  unfold inSp
  rw [Bool.and_assoc]
def hasB (l : List Span) (n s : Int) : Bool := pastOk l && memP l n s
theorem has_at (l : List Span) (n s : Int) : PTp env Tryd.prog 50 [encSpans l, .agg [iv n, iv s]] (bv (hasB l n s)) := fun M => by
  refine PT.enterR env_ok fn50 (by simp) comp50 fun k hk hf => RX.of env_ok ?_
  simp only [G0, Nat.reduceLT, Nat.reduceEqDiff, Nat.reduceAdd, Nat.reduceLeDiff, Nat.reduceMul, argsP]
  refine cp0 (past_check l) (by decide) ?_
  unfold hasB
  cases h : pastOk l with
  | false =>
    simp only [G0, Nat.reduceLT, Nat.reduceEqDiff, Nat.reduceAdd, Nat.reduceLeDiff, Nat.reduceMul, err_neq]
    exact end1 hf rfl ⟨rfl, rfl⟩
  | true =>
    simp only [G0, Nat.reduceLT, Nat.reduceEqDiff, Nat.reduceAdd, Nat.reduceLeDiff, Nat.reduceMul, err_neq, Bool.not_false, cnd_t]
    refine cs0 (contains_fn l (pastOk_iff.1 h).1 (seg M k [.row .rw 0 [iv n, iv s]]) 75 [] [.ptr k 0 0] (fun x => inSp x n s) (fun x => has75 n s (w := .rw) (by rw [seg_same]; rfl) x)) (Pm.Sub.refl _) (by decide) ?_
    simp only [G0, Nat.reduceLT, Nat.reduceEqDiff, Nat.reduceAdd, Nat.reduceLeDiff, Nat.reduceMul]
    exact end1 hf rfl ⟨rfl, rfl⟩
end Go.Proofs.YtmgmbdnhodicjaaDoor
end

section
namespace Go.Proofs.YtmgmbdnhodicjaaDoor
open Go Go.Am Go.Pm
set_option maxHeartbeats 2000000
set_option maxRecDepth 100000
def aheadB (a b : Ev) : Bool := (evOk a && evOk b) && hasB b.past a.node a.seq
theorem ahead_at (a b : Ev) (ha : a.path.length ≤ 1000000) (hb : b.path.length ≤ 1000000) : PTp env Tryd.prog 26 [encEv a, encEv b] (bv (aheadB a b)) := fun M => by
  refine PT.enterR env_ok fn26 (by simp) comp26 fun k hk hf => RX.of env_ok ?_
  simp only [G0, Nat.reduceLT, Nat.reduceEqDiff, Nat.reduceAdd, Nat.reduceLeDiff, Nat.reduceMul, argsP, encEv, evCells, pone_eb, pone_es]
  refine cp0 (event_check a ha) (by decide) ?_
  unfold aheadB
  cases h1 : evOk a with
  | false =>
    simp only [G0, Nat.reduceLT, Nat.reduceEqDiff, Nat.reduceAdd, Nat.reduceLeDiff, Nat.reduceMul, err_neq]
    exact end1 hf rfl ⟨rfl, rfl⟩
  | true =>
    simp only [G0, Nat.reduceLT, Nat.reduceEqDiff, Nat.reduceAdd, Nat.reduceLeDiff, Nat.reduceMul, err_neq]
    refine cp0 (event_check b hb) (by decide) ?_
    cases h2 : evOk b with
    | false =>
      simp only [G0, Nat.reduceLT, Nat.reduceEqDiff, Nat.reduceAdd, Nat.reduceLeDiff, Nat.reduceMul, err_neq]
      exact end1 hf rfl ⟨rfl, rfl⟩
    | true =>
      simp only [G0, Nat.reduceLT, Nat.reduceEqDiff, Nat.reduceAdd, Nat.reduceLeDiff, Nat.reduceMul, err_neq]
      refine cp0 (has_at b.past a.node a.seq) (by decide) ?_
      simp only [G0, Nat.reduceLT, Nat.reduceEqDiff, Nat.reduceAdd, Nat.reduceLeDiff, Nat.reduceMul]
      exact end1 hf rfl ⟨rfl, rfl⟩
def badPair (i : Nat) (a : Ev) (j : Nat) (b : Ev) : Bool := ((j : Int) != (i : Int)) && ((a.node == b.node && a.seq == b.seq) || (aheadB a b && !withinB a.past b.past))
structure Kp25 (tm : List (Nat × PV)) (l : List Ev) (i : Nat) : Prop where
  t0 : tget tm 0 = encEvs l
  t7 : tget tm 7 = encEvs l
  t8 : tget tm 8 = iv l.length
  t9 : tget tm 9 = iv i
theorem inner25 (l : List Ev) (hl : l.length ≤ 1000000) (hp : ∀ e ∈ l, e.path.length ≤ 1000000) (M : PMem) (k i : Nat) (a : Ev) (ha : a.path.length ≤ 1000000) (Q : AExit → PSt → Prop)
    (q1 : ∀ tm, (∀ j b, l[j]? = some b → badPair i a j b = false) → Kp25 tm l i → Q (.exit 2) ⟨tm, 49, k, [.row .rw 0 (evCells a)], M⟩)
    (q2 : ∀ tm, (∃ j b, l[j]? = some b ∧ badPair i a j b = true) → tget tm 2 = bv false → Q .ret ⟨tm, 49, k, [.row .rw 0 (evCells a)], M⟩) :
    ∀ d j tm, l.length - j = d → j ≤ l.length → (∀ j' b, j' < j → l[j']? = some b → badPair i a j' b = false) → Kp25 tm l i → tget tm 3 = iv i → tget tm 4 = .ptr k 0 0 → tget tm 17 = encEvs l → tget tm 18 = iv l.length → tget tm 19 = iv j →
    RXL env Tryd.prog none c25_24 ⟨tm, 49, k, [.row .rw 0 (evCells a)], M⟩ Q := by
  intro d
  induction d with
  | zero =>
    intro j tm hd hj hg hK t3 t4 t17 t18 t19
    have : j = l.length := by omega
    subst this
    obtain ⟨t0, t7, t8, t9⟩ := hK
    refine RXL.round (RX.of env_ok ?_)
    simp only [G0, Nat.reduceLT, Nat.reduceEqDiff, Nat.reduceAdd, Nat.reduceLeDiff, Nat.reduceMul, t18, t19, Int.lt_irrefl, decide_false]
    refine q1 _ (fun j' b h => hg j' b ?_ h) ⟨t0, t7, t8, t9⟩
    exact (List.getElem?_eq_some_iff.1 h).1
  | succ d ih =>
    intro j tm hd hj hg hK t3 t4 t17 t18 t19
    have hj' : j < l.length := by omega
    have hjj : (j : Int) < l.length := by omega
    obtain ⟨b, hb, hdx⟩ := getE hj'
    have hlx := ev_load7 hb
    have hpb := hp b (List.mem_of_getElem? hb)
    have hw : IntKind.i64.wrap ((j : Int) + 1) = ((j + 1 : Nat) : Int) := by rw [wrap64_id (by omega) (by omega)]; rfl
    obtain ⟨t0, t7, t8, t9⟩ := hK
    refine RXL.inn fun k' hk1 hk2 hk3 => RX.of env_ok ?_
    have hld : ∀ {ag : Bool} {n o : Nat} {os : List Pm.Obj}, loadP k' os (seg M k [.row .rw 0 [iv a.node, iv a.seq, str a.path, iv a.kind, iv a.mode, encBytes a.bytes, encSpans a.past]]) ag n (.ptr k 0 o) = rowTake ag n o (some (.row .rw 0 [iv a.node, iv a.seq, str a.path, iv a.kind, iv a.mode, encBytes a.bytes, encSpans a.past])) := fun {ag n o os} => by
      rw [loadP_out (Ne.symm hk1), seg_same]; rfl
    have hst : storeO 7 0 (encEv b) (some (.row .rw 0 [.v (.int .i64 0), .v (.int .i64 0), .v (.string ⟨#[]⟩), .v (.int .i64 0), .v (.int .i64 0), .lst .full 0 0 [], .lst .full 0 0 []])) = some (.row .rw 0 (evCells b)) := storeO_eq (n := 7) (x := encEv b) ⟨rfl, Nat.le_refl 7, rfl⟩
    have good : badPair i a j b = false → ∀ j' b', j' < j + 1 → l[j']? = some b' → badPair i a j' b' = false := fun h j' b' hlt hb' => by
      rcases Nat.lt_succ_iff_lt_or_eq.1 hlt with h1 | h1
      · exact hg j' b' h1 hb'
      · subst h1; rw [hb] at hb'; cases hb'; exact h
    cases hji : ((j : Int) != (i : Int)) with
    | false =>
      simp only [G0, Nat.reduceLT, Nat.reduceEqDiff, Nat.reduceAdd, Nat.reduceLeDiff, Nat.reduceMul, t3, t4, t17, t18, t19, encEvs, hjj, decide_true, hj', hlx, hld, hst, evCells, pone_eb, pone_es, hji, hw]
      exact ih (j + 1) _ (by omega) (by omega) (good (by unfold badPair; rw [hji]; rfl)) ⟨t0, t7, t8, t9⟩ t3 t4 t17 t18 rfl
    | true =>
      cases hde : (a.node == b.node && a.seq == b.seq) with
      | true =>
        simp only [G0, Nat.reduceLT, Nat.reduceEqDiff, Nat.reduceAdd, Nat.reduceLeDiff, Nat.reduceMul, t3, t4, t17, t18, t19, encEvs, hjj, decide_true, hj', hlx, hld, hst, evCells, pone_eb, pone_es, hji, eql28, hde, Bool.not_true, Bool.not_false, cnd_t, cnd_f]
        exact q2 _ ⟨j, b, hb, by unfold badPair; rw [hji, hde]; rfl⟩ rfl
      | false =>
        simp only [G0, Nat.reduceLT, Nat.reduceEqDiff, Nat.reduceAdd, Nat.reduceLeDiff, Nat.reduceMul, t3, t4, t17, t18, t19, encEvs, hjj, decide_true, hj', hlx, hld, hst, evCells, pone_eb, pone_es, hji, eql28, hde, Bool.not_true, Bool.not_false, cnd_t, cnd_f]
        refine cp0 (ahead_at a b ha hpb) (by decide) ?_
        cases hah : aheadB a b with
        | false =>
          simp only [G0, Nat.reduceLT, Nat.reduceEqDiff, Nat.reduceAdd, Nat.reduceLeDiff, Nat.reduceMul, t19, hw, Bool.not_true, Bool.not_false, cnd_t, cnd_f]
          exact ih (j + 1) _ (by omega) (by omega) (good (by unfold badPair; rw [hji, hde, hah]; rfl)) ⟨t0, t7, t8, t9⟩ t3 t4 t17 t18 rfl
        | true =>
          simp only [G0, Nat.reduceLT, Nat.reduceEqDiff, Nat.reduceAdd, Nat.reduceLeDiff, Nat.reduceMul, t3, t4, t17, t18, t19, hld, Bool.not_true, Bool.not_false, cnd_t, cnd_f]
          refine cp0 (within_at a.past b.past) (by decide) ?_
          cases hwi : withinB a.past b.past with
          | true =>
            simp only [G0, Nat.reduceLT, Nat.reduceEqDiff, Nat.reduceAdd, Nat.reduceLeDiff, Nat.reduceMul, t19, hw, Bool.not_true, Bool.not_false, cnd_t, cnd_f]
            exact ih (j + 1) _ (by omega) (by omega) (good (by unfold badPair; rw [hji, hde, hah, hwi]; rfl)) ⟨t0, t7, t8, t9⟩ t3 t4 t17 t18 rfl
          | false =>
            simp only [G0, Nat.reduceLT, Nat.reduceEqDiff, Nat.reduceAdd, Nat.reduceLeDiff, Nat.reduceMul, Bool.not_true, Bool.not_false, cnd_t, cnd_f]
            exact q2 _ ⟨j, b, hb, by unfold badPair; rw [hji, hde, hah, hwi]; rfl⟩ rfl
end Go.Proofs.YtmgmbdnhodicjaaDoor
end

section
namespace Go.Proofs.YtmgmbdnhodicjaaDoor
open Go Go.Am Go.Pm
set_option maxHeartbeats 2000000
set_option maxRecDepth 100000
def ClosedAt (l : List Ev) (i : Nat) (a : Ev) : Prop := evOk a = true ∧ ∀ j b, l[j]? = some b → badPair i a j b = false
def ClosedL (l : List Ev) : Prop := ∀ i a, l[i]? = some a → ClosedAt l i a
theorem loop25 (l : List Ev) (hl : l.length ≤ 1000000) (hp : ∀ e ∈ l, e.path.length ≤ 1000000) (M : PMem) (k : Nat) (Q : AExit → PSt → Prop)
    (q1 : ∀ tm, ClosedL l → Q (.exit 0) ⟨tm, 49, k, [], M⟩) (q2 : ∀ tm, ¬ ClosedL l → tget tm 2 = bv false → Q .ret ⟨tm, 49, k, [], M⟩) :
    ∀ d i tm, l.length - i = d → i ≤ l.length → (∀ i' a, i' < i → l[i']? = some a → ClosedAt l i' a) → Kp25 tm l i → RXL env Tryd.prog none c25_34 ⟨tm, 49, k, [], M⟩ Q := by
  intro d
  induction d with
  | zero =>
    intro i tm hd hi hg hK
    have : i = l.length := by omega
    subst this
    obtain ⟨t0, t7, t8, t9⟩ := hK
    refine RXL.round (RX.of env_ok ?_)
    simp only [G0, Nat.reduceLT, Nat.reduceEqDiff, Nat.reduceAdd, Nat.reduceLeDiff, Nat.reduceMul, t8, t9, Int.lt_irrefl, decide_false]
    exact q1 _ fun i' a h => hg i' a (List.getElem?_eq_some_iff.1 h).1 h
  | succ d ih =>
    intro i tm hd hi hg hK
    have hi' : i < l.length := by omega
    have hii : (i : Int) < l.length := by omega
    obtain ⟨a, ha, hdx⟩ := getE hi'
    have hlx := ev_load7 ha
    have hpa := hp a (List.mem_of_getElem? ha)
    have hw : IntKind.i64.wrap ((i : Int) + 1) = ((i + 1 : Nat) : Int) := by rw [wrap64_id (by omega) (by omega)]; rfl
    obtain ⟨t0, t7, t8, t9⟩ := hK
    refine RXL.inn fun k' hk1 hk2 hk3 => RX.of env_ok ?_
    have hst : storeO 7 0 (encEv a) (some (.row .rw 0 [.v (.int .i64 0), .v (.int .i64 0), .v (.string ⟨#[]⟩), .v (.int .i64 0), .v (.int .i64 0), .lst .full 0 0 [], .lst .full 0 0 []])) = some (.row .rw 0 (evCells a)) := storeO_eq (n := 7) (x := encEv a) ⟨rfl, Nat.le_refl 7, rfl⟩
    simp only [G0, Nat.reduceLT, Nat.reduceEqDiff, Nat.reduceAdd, Nat.reduceLeDiff, Nat.reduceMul, t0, t7, t8, t9, encEvs, hii, decide_true, hi', hlx, hst, evCells, pone_eb, pone_es]
    refine cp0 (event_check a hpa) (by decide) ?_
    cases hok : evOk a with
    | false =>
      simp only [G0, Nat.reduceLT, Nat.reduceEqDiff, Nat.reduceAdd, Nat.reduceLeDiff, Nat.reduceMul, err_neq]
      exact q2 _ (fun h => by have := (h i a ha).1; rw [hok] at this; cases this) rfl
    | true =>
      simp only [G0, Nat.reduceLT, Nat.reduceEqDiff, Nat.reduceAdd, Nat.reduceLeDiff, Nat.reduceMul, err_neq, t0, encEvs]
      refine RX.loop (inner25 l hl hp (seg M k []) k' i a hpa _ (fun tm' hgd hK' => ?_) (fun tm' hbd t2 => ?_) l.length 0 _ rfl (Nat.zero_le _) (fun j' b h => by omega) (by exact ⟨t0, t7, t8, t9⟩) (by rfl) (by rfl) (by rfl) (by rfl) (by rfl))
      · obtain ⟨s0, s7, s8, s9⟩ := hK'
        simp only [G0, Nat.reduceLT, Nat.reduceEqDiff, Nat.reduceAdd, Nat.reduceLeDiff, Nat.reduceMul, s9, hw]
        refine ih (i + 1) _ (by omega) (by omega) (fun i' a' hlt h => ?_) ⟨s0, s7, s8, rfl⟩
        rcases Nat.lt_succ_iff_lt_or_eq.1 hlt with h1 | h1
        · exact hg i' a' h1 h
        · subst h1; rw [ha] at h; cases h; exact ⟨hok, hgd⟩
      · simp only [G0, Nat.reduceLT, Nat.reduceEqDiff, Nat.reduceAdd, Nat.reduceLeDiff, Nat.reduceMul, t2]
        obtain ⟨j, b, h1, h2⟩ := hbd
        exact q2 _ (fun h => by have := (h i a ha).2 j b h1; rw [h2] at this; cases this) t2
noncomputable def closedB (l : List Ev) : Bool := @decide (ClosedL l) (Classical.propDecidable _)
theorem closedB_t {l : List Ev} (h : ClosedL l) : closedB l = true := by
  unfold closedB; exact @decide_eq_true _ (Classical.propDecidable _) h
theorem closedB_f {l : List Ev} (h : ¬ ClosedL l) : closedB l = false := by
  unfold closedB; exact @decide_eq_false _ (Classical.propDecidable _) h
theorem closed_at (l : List Ev) (hl : l.length ≤ 1000000) (hp : ∀ e ∈ l, e.path.length ≤ 1000000) : PTp env Tryd.prog 25 [encEvs l] (bv (closedB l)) := fun M => by
  refine PT.enterR env_ok fn25 (by simp) comp25 fun k hk hf => RX.of env_ok ?_
  simp only [G0, Nat.reduceLT, Nat.reduceEqDiff, Nat.reduceAdd, Nat.reduceLeDiff, Nat.reduceMul, argsP, encEvs]
  refine RX.loop (loop25 l hl hp M k _ (fun tm h => ?_) (fun tm h t2 => ?_) l.length 0 _ rfl (Nat.zero_le _) (fun i a h => by omega) (by exact ⟨rfl, rfl, rfl, rfl⟩))
  · simp only [G0, Nat.reduceLT, Nat.reduceEqDiff, Nat.reduceAdd, Nat.reduceLeDiff, Nat.reduceMul]
    refine end1 hf rfl ⟨?_, rfl⟩
    rw [closedB_t h]; rfl
  · simp only [G0, Nat.reduceLT, Nat.reduceEqDiff, Nat.reduceAdd, Nat.reduceLeDiff, Nat.reduceMul, t2]
    refine end1 hf t2 ⟨?_, rfl⟩
    rw [closedB_f h]
end Go.Proofs.YtmgmbdnhodicjaaDoor
end

section
namespace Go.Proofs.YtmgmbdnhodicjaaDoor
open Go Go.Am Go.Pm
set_option maxHeartbeats 2000000
set_option maxRecDepth 100000
def addT (l : List Span) (n s : Int) : List Span × Int := if pastOk l && dotOk n s then tells orB l [⟨n, s, s⟩] else ([], 2)
theorem nil2 (n : Int) : PLe (.tup [.lst .full 0 0 [], iv n]) (.tup [encSpans [], iv n]) := PLe.tup (.cons (PLe.nil_no .full 0 3 rfl) (.cons (.refl _) .nil))
theorem add_past (l : List Span) (n s : Int) : PTp env Tryd.prog 52 [encSpans l, .agg [iv n, iv s]] (.tup [encSpans (addT l n s).1, iv (addT l n s).2]) := by
  unfold addT
  cases h1 : pastOk l with
  | false =>
    refine PTp.weak (v := .tup [.lst .full 0 0 [], iv 2]) (fun M => ?_) (nil2 2)
    refine PT.enterR env_ok fn52 (by simp) comp52 fun k hk hf => RX.of env_ok ?_
    have e2 : ((2 : Int) != 0) = true := by decide
    simp only [G0, Nat.reduceLT, Nat.reduceEqDiff, Nat.reduceAdd, Nat.reduceLeDiff, Nat.reduceMul, argsP]
    refine cp0 (past_no h1) (by decide) ?_
    simp only [G0, Nat.reduceLT, Nat.reduceEqDiff, Nat.reduceAdd, Nat.reduceLeDiff, Nat.reduceMul, e2, Bool.not_true, Bool.not_false, cnd_t, cnd_f]
    exact end2 hf rfl rfl ⟨rfl, rfl⟩
  | true =>
    cases h2 : dotOk n s with
    | false =>
      refine PTp.weak (v := .tup [.lst .full 0 0 [], iv 2]) (fun M => ?_) (nil2 2)
      refine PT.enterR env_ok fn52 (by simp) comp52 fun k hk hf => RX.of env_ok ?_
      have e0 : ((0 : Int) != 0) = false := by decide
      simp only [G0, Nat.reduceLT, Nat.reduceEqDiff, Nat.reduceAdd, Nat.reduceLeDiff, Nat.reduceMul, argsP]
      refine cp0 (past_yes h1) (by decide) ?_
      simp only [G0, Nat.reduceLT, Nat.reduceEqDiff, Nat.reduceAdd, Nat.reduceLeDiff, Nat.reduceMul, e0, Bool.not_true, Bool.not_false, cnd_t, cnd_f]
      refine cp0 (dot_check n s) (by decide) ?_
      rw [h2]
      simp only [G0, Nat.reduceLT, Nat.reduceEqDiff, Nat.reduceAdd, Nat.reduceLeDiff, Nat.reduceMul, err_neq, Bool.false_or, Bool.not_false, cnd_t]
      exact end2 hf rfl rfl ⟨rfl, rfl⟩
    | true =>
      rw [if_pos (by decide : (true && true) = true)]
      intro M
      refine PT.enterR env_ok fn52 (by simp) comp52 fun k hk hf => RX.of env_ok ?_
      have e0 : ((0 : Int) != 0) = false := by decide
      simp only [G0, Nat.reduceLT, Nat.reduceEqDiff, Nat.reduceAdd, Nat.reduceLeDiff, Nat.reduceMul, argsP]
      refine cp0 (past_yes h1) (by decide) ?_
      simp only [G0, Nat.reduceLT, Nat.reduceEqDiff, Nat.reduceAdd, Nat.reduceLeDiff, Nat.reduceMul, e0, Bool.not_true, Bool.not_false, cnd_t, cnd_f]
      refine cp0 (dot_check n s) (by decide) ?_
      rw [h2]
      simp only [G0, Nat.reduceLT, Nat.reduceEqDiff, Nat.reduceAdd, Nat.reduceLeDiff, Nat.reduceMul, err_neq, Bool.false_or, Bool.not_false, cnd_t]
      refine cp0 (PTp.args (args' := [encSpans l, encSpans [⟨n, s, s⟩]]) (.cons (.refl _) (.cons (PLe.no _ _ _ _) .nil)) (join_at l [⟨n, s, s⟩])) (by decide) ?_
      simp only [G0, Nat.reduceLT, Nat.reduceEqDiff, Nat.reduceAdd, Nat.reduceLeDiff, Nat.reduceMul]
      exact end2 hf rfl rfl ⟨rfl, rfl⟩
end Go.Proofs.YtmgmbdnhodicjaaDoor
end

section
namespace Go.Proofs.YtmgmbdnhodicjaaDoor
open Go Go.Am Go.Pm
set_option maxHeartbeats 2000000
set_option maxRecDepth 100000
theorem ptp_le {f : Nat} {args : List PV} {v : PV} (h : ∀ M, PT env Tryd.prog f args M (fun x M1 => PLe x v ∧ M1 = M)) : PTp env Tryd.prog f args v := fun M =>
  PT.conseq (h M) fun x M1 ⟨e1, e2⟩ => ⟨_, M1, e1, .refl _, rfl, e2⟩
def moreT (out : List Span) (x : Ev) : List Span × Int :=
  let j := tells orB out x.past
  if j.2 = 0 then addT j.1 x.node x.seq else j
def pastsF : List Span → List Ev → List Span × Int
  | out, [] => (out, 0)
  | out, x :: r => if (moreT out x).2 = 0 then pastsF (moreT out x).1 r else ([], (moreT out x).2)
def pastT (l : List Ev) : List Span × Int := if l.all evOk then pastsF [] l else ([], 2)
theorem loop27a (l : List Ev) (hl : l.length ≤ 1000000) (hp : ∀ e ∈ l, e.path.length ≤ 1000000) (M : PMem) (k : Nat) (Q : AExit → PSt → Prop)
    (q1 : ∀ tm, l.all evOk = true → tget tm 0 = encEvs l → Q (.exit 0) ⟨tm, 52, k, [], M⟩) (q2 : ∀ tm, l.all evOk = false → tget tm 2 = .lst .full 0 0 [] → tget tm 3 = iv 2 → Q .ret ⟨tm, 52, k, [], M⟩) :
    ∀ d i tm, l.length - i = d → i ≤ l.length → l.all evOk = (l.drop i).all evOk → tget tm 0 = encEvs l → tget tm 12 = encEvs l → tget tm 13 = iv l.length → tget tm 14 = iv i → RXL env Tryd.prog none c27_17 ⟨tm, 52, k, [], M⟩ Q := by
  intro d
  induction d with
  | zero =>
    intro i tm hd hi hg t0 t12 t13 t14
    have : i = l.length := by omega
    subst this
    refine RXL.round (RX.of env_ok ?_)
    simp only [G0, Nat.reduceLT, Nat.reduceEqDiff, Nat.reduceAdd, Nat.reduceLeDiff, Nat.reduceMul, t13, t14, Int.lt_irrefl, decide_false]
    exact q1 _ (by rw [hg, List.drop_of_length_le (Nat.le_refl _)]; rfl) t0
  | succ d ih =>
    intro i tm hd hi hg t0 t12 t13 t14
    have hi' : i < l.length := by omega
    have hii : (i : Int) < l.length := by omega
    obtain ⟨a, ha, hdx⟩ := getE hi'
    have hlx := ev_load7 ha
    have hpa := hp a (List.mem_of_getElem? ha)
    have hw : IntKind.i64.wrap ((i : Int) + 1) = ((i + 1 : Nat) : Int) := by rw [wrap64_id (by omega) (by omega)]; rfl
    rw [hdx, List.all_cons] at hg
    refine RXL.inn fun k' hk1 hk2 hk3 => RX.of env_ok ?_
    have hst : storeO 7 0 (encEv a) (some (.row .rw 0 [.v (.int .i64 0), .v (.int .i64 0), .v (.string ⟨#[]⟩), .v (.int .i64 0), .v (.int .i64 0), .lst .full 0 0 [], .lst .full 0 0 []])) = some (.row .rw 0 (evCells a)) := storeO_eq (n := 7) (x := encEv a) ⟨rfl, Nat.le_refl 7, rfl⟩
    simp only [G0, Nat.reduceLT, Nat.reduceEqDiff, Nat.reduceAdd, Nat.reduceLeDiff, Nat.reduceMul, t0, t12, t13, t14, encEvs, hii, decide_true, hi', hlx, hst, evCells, pone_eb, pone_es]
    refine cp0 (event_check a hpa) (by decide) ?_
    cases hok : evOk a with
    | false =>
      simp only [G0, Nat.reduceLT, Nat.reduceEqDiff, Nat.reduceAdd, Nat.reduceLeDiff, Nat.reduceMul, err_neq]
      exact q2 _ (by rw [hg, hok]; rfl) rfl rfl
    | true =>
      simp only [G0, Nat.reduceLT, Nat.reduceEqDiff, Nat.reduceAdd, Nat.reduceLeDiff, Nat.reduceMul, err_neq, t14, hw]
      exact ih (i + 1) _ (by omega) (by omega) (by rw [hg, hok]; rfl) t0 t12 t13 rfl
theorem loop27b (l : List Ev) (hl : l.length ≤ 1000000) (M : PMem) (k : Nat) (Q : AExit → PSt → Prop)
    (q1 : ∀ tm out, pastsF [] l = (out, 0) → tget tm 7 = encSpans out → Q (.exit 2) ⟨tm, 52, k, [], M⟩) (q2 : ∀ tm z, pastsF [] l = ([], z) → tget tm 2 = .lst .full 0 0 [] → tget tm 3 = iv z → Q .ret ⟨tm, 52, k, [], M⟩) :
    ∀ d i out tm, l.length - i = d → i ≤ l.length → pastsF [] l = pastsF out (l.drop i) → tget tm 7 = encSpans out → tget tm 24 = encEvs l → tget tm 25 = iv l.length → tget tm 26 = iv i → RXL env Tryd.prog none c27_45 ⟨tm, 52, k, [], M⟩ Q := by
  intro d
  induction d with
  | zero =>
    intro i out tm hd hi hg t7 t24 t25 t26
    have : i = l.length := by omega
    subst this
    refine RXL.round (RX.of env_ok ?_)
    simp only [G0, Nat.reduceLT, Nat.reduceEqDiff, Nat.reduceAdd, Nat.reduceLeDiff, Nat.reduceMul, t25, t26, Int.lt_irrefl, decide_false]
    exact q1 _ out (by rw [hg, List.drop_of_length_le (Nat.le_refl _)]; rfl) t7
  | succ d ih =>
    intro i out tm hd hi hg t7 t24 t25 t26
    have hi' : i < l.length := by omega
    have hii : (i : Int) < l.length := by omega
    obtain ⟨a, ha, hdx⟩ := getE hi'
    have hlx := ev_load7 ha
    have hw : IntKind.i64.wrap ((i : Int) + 1) = ((i + 1 : Nat) : Int) := by rw [wrap64_id (by omega) (by omega)]; rfl
    rw [hdx, pastsF] at hg
    refine RXL.inn fun k' hk1 hk2 hk3 => RX.of env_ok ?_
    have hst : storeO 7 0 (encEv a) (some (.row .rw 0 [.v (.int .i64 0), .v (.int .i64 0), .v (.string ⟨#[]⟩), .v (.int .i64 0), .v (.int .i64 0), .lst .full 0 0 [], .lst .full 0 0 []])) = some (.row .rw 0 (evCells a)) := storeO_eq (n := 7) (x := encEv a) ⟨rfl, Nat.le_refl 7, rfl⟩
    simp only [G0, Nat.reduceLT, Nat.reduceEqDiff, Nat.reduceAdd, Nat.reduceLeDiff, Nat.reduceMul, t7, t24, t25, t26, encEvs, hii, decide_true, hi', hlx, hst, evCells, pone_eb, pone_es]
    refine cp0 (join_at out a.past) (by decide) ?_
    by_cases hj : (tells orB out a.past).2 = 0
    · have hjb : ((tells orB out a.past).2 == 0) = true := by simp [hj]
      have hm : moreT out a = addT (tells orB out a.past).1 a.node a.seq := by unfold moreT; rw [if_pos hj]
      simp only [G0, Nat.reduceLT, Nat.reduceEqDiff, Nat.reduceAdd, Nat.reduceLeDiff, Nat.reduceMul, hjb]
      refine cp0 (add_past (tells orB out a.past).1 a.node a.seq) (by decide) ?_
      rw [← hm]
      by_cases hz : (moreT out a).2 = 0
      · have hzb : ((moreT out a).2 != 0) = false := by simp [hz]
        rw [if_pos hz] at hg
        simp only [G0, Nat.reduceLT, Nat.reduceEqDiff, Nat.reduceAdd, Nat.reduceLeDiff, Nat.reduceMul, hzb, t26, hw]
        exact ih (i + 1) _ _ (by omega) (by omega) hg rfl t24 t25 rfl
      · have hzb : ((moreT out a).2 != 0) = true := by simp [hz]
        rw [if_neg hz] at hg
        simp only [G0, Nat.reduceLT, Nat.reduceEqDiff, Nat.reduceAdd, Nat.reduceLeDiff, Nat.reduceMul, hzb]
        exact q2 _ _ hg rfl rfl
    · have hjb : ((tells orB out a.past).2 == 0) = false := by simp [hj]
      have hjn : ((tells orB out a.past).2 != 0) = true := by simp [hj]
      have hm : moreT out a = tells orB out a.past := by unfold moreT; rw [if_neg hj]
      rw [hm, if_neg hj] at hg
      simp only [G0, Nat.reduceLT, Nat.reduceEqDiff, Nat.reduceAdd, Nat.reduceLeDiff, Nat.reduceMul, hjb, hjn]
      exact q2 _ _ hg rfl rfl
theorem past_of (l : List Ev) (hl : l.length ≤ 1000000) (hp : ∀ e ∈ l, e.path.length ≤ 1000000) : PTp env Tryd.prog 27 [encEvs l] (.tup [encSpans (pastT l).1, iv (pastT l).2]) := ptp_le fun M => by
  refine PT.enterR env_ok fn27 (by simp) comp27 fun k hk hf => RX.of env_ok ?_
  unfold pastT
  simp only [G0, Nat.reduceLT, Nat.reduceEqDiff, Nat.reduceAdd, Nat.reduceLeDiff, Nat.reduceMul, argsP, encEvs]
  refine RX.loop (loop27a l hl hp M k _ (fun tm h t0 => ?_) (fun tm h t2 t3 => ?_) l.length 0 _ rfl (Nat.zero_le _) rfl (by rfl) (by rfl) (by rfl) (by rfl))
  · rw [if_pos h]
    simp only [G0, Nat.reduceLT, Nat.reduceEqDiff, Nat.reduceAdd, Nat.reduceLeDiff, Nat.reduceMul, t0, encEvs]
    refine RX.loop (RXL.weak (keepE (tm' := [(7, encSpans []), (24, encEvs l), (25, iv l.length), (26, iv (0 : Nat))]) ?_) (loop27b l hl M k _ (fun tm out h1 t7 => ?_) (fun tm z h1 t2 t3 => ?_) l.length 0 [] _ rfl (Nat.zero_le _) rfl (by rfl) (by rfl) (by rfl) (by rfl)))
    · exact KP.weak rfl (PLe.nil_no .full 0 3 rfl) (KP.cons rfl (KP.cons rfl (KP.cons rfl KP.nil)))
    · rw [h1]
      simp only [G0, Nat.reduceLT, Nat.reduceEqDiff, Nat.reduceAdd, Nat.reduceLeDiff, Nat.reduceMul, t7]
      exact end2 hf rfl rfl ⟨.refl _, rfl⟩
    · rw [h1]
      simp only [G0, Nat.reduceLT, Nat.reduceEqDiff, Nat.reduceAdd, Nat.reduceLeDiff, Nat.reduceMul, t2, t3]
      exact end2 hf t2 t3 ⟨nil2 z, rfl⟩
  · rw [if_neg (by rw [h]; decide)]
    simp only [G0, Nat.reduceLT, Nat.reduceEqDiff, Nat.reduceAdd, Nat.reduceLeDiff, Nat.reduceMul, t2, t3]
    exact end2 hf t2 t3 ⟨nil2 2, rfl⟩
end Go.Proofs.YtmgmbdnhodicjaaDoor
end

section
namespace Go.Proofs.YtmgmbdnhodicjaaDoor
open Go Go.Am Go.Pm
set_option maxHeartbeats 1000000
set_option maxRecDepth 100000
theorem anyL_no : ∀ {n : Nat} {l : List Ev}, anyL n l = false → l.length ≤ n → ∀ e ∈ l, evLong e = false
  | 0, l, _, hl, e, he => by
    have : l = [] := List.length_eq_zero_iff.1 (by omega)
    subst this; cases he
  | n + 1, [], _, _, e, he => by cases he
  | n + 1, x :: r, h, hl, e, he => by
    simp only [anyL, Bool.or_eq_false_iff] at h
    rcases List.mem_cons.1 he with rfl | he
    · exact h.1
    · exact anyL_no h.2 (by simp only [List.length_cons] at hl; omega) e he
theorem not_long {m : Nat} {l : List Ev} (h : longEvs m l = false) : l.length ≤ m ∧ ∀ e ∈ l, e.path.length ≤ 100 ∧ e.bytes.length ≤ 1200 ∧ e.past.length ≤ 100 := by
  simp only [longEvs, Bool.or_eq_false_iff, decide_eq_false_iff_not] at h
  have hl : l.length ≤ m := by omega
  refine ⟨hl, fun e he => ?_⟩
  have := anyL_no h.1 (by omega) e he
  simp only [evLong, Bool.or_eq_false_iff, decide_eq_false_iff_not] at this
  omega
theorem foldl_last (n : Int) : ∀ (l : List Span) (a : Int), a ≤ l.foldl (lastF n) a ∧ (∀ x ∈ l, x.node = n → x.to ≤ l.foldl (lastF n) a) ∧ (l.foldl (lastF n) a = a ∨ ∃ x ∈ l, x.node = n ∧ x.to = l.foldl (lastF n) a)
  | [], a => ⟨Int.le_refl _, fun x hx => (by cases hx), .inl rfl⟩
  | x :: l, a => by
    obtain ⟨h1, h2, h3⟩ := foldl_last n l (lastF n a x)
    have hx : a ≤ lastF n a x ∧ (x.node = n → x.to ≤ lastF n a x) ∧ (lastF n a x = a ∨ (x.node = n ∧ x.to = lastF n a x)) := by
      unfold lastF
      by_cases hn : x.node = n
      · have : (x.node != n) = false := by simp [hn]
        rw [this, if_neg (by decide)]
        refine ⟨by omega, fun _ => by omega, ?_⟩
        rcases Int.le_total a x.to with h | h
        · exact .inr ⟨hn, by omega⟩
        · exact .inl (by omega)
      · have : (x.node != n) = true := by simp [hn]
        rw [this, if_pos rfl]
        exact ⟨Int.le_refl _, fun e => absurd e hn, .inl rfl⟩
    rw [List.foldl_cons]
    refine ⟨by omega, fun y hy e => ?_, ?_⟩
    · rcases List.mem_cons.1 hy with rfl | hy
      · have := hx.2.1 e; omega
      · exact h2 y hy e
    · rcases h3 with h3 | ⟨y, hy, e1, e2⟩
      · rcases hx.2.2 with h | ⟨h, h'⟩
        · exact .inl (by rw [h3, h])
        · exact .inr ⟨x, List.mem_cons_self, h, by rw [h3]; exact h'⟩
      · exact .inr ⟨y, List.mem_cons_of_mem _ hy, e1, e2⟩
theorem last_ge {l : List Span} (h : pastOk l = true) {n s : Int} (hm : memP l n s = true) : s ≤ lastOf l n := by
  obtain ⟨x, hx, h1, h2, h3⟩ := memP_iff.1 hm
  unfold lastOf
  rw [if_pos h]
  have := (foldl_last n l 0).2.1 x hx h1
  omega
theorem last_pos (l : List Span) (n : Int) : 0 ≤ lastOf l n := by
  unfold lastOf
  split
  · exact (foldl_last n l 0).1
  · exact Int.le_refl 0
theorem dotOk_iff {n s : Int} : dotOk n s = true ↔ 1 ≤ n ∧ n ≤ 200 ∧ 1 ≤ s ∧ s ≤ 2147483647 := by
  simp only [dotOk, Bool.not_eq_true', Bool.or_eq_false_iff, decide_eq_false_iff_not]
  omega
theorem evOk_iff {e : Ev} : evOk e = true ↔ dotOk e.node e.seq = true ∧ pathOk e.path = true ∧ effOk e.kind e.mode e.bytes = true ∧ pastOk e.past = true ∧ lastOf e.past e.node < e.seq := by
  simp only [evOk, Bool.and_eq_true, decide_eq_true_eq]
theorem ahead_iff {a b : Ev} : aheadB a b = true ↔ evOk a = true ∧ evOk b = true ∧ memP b.past a.node a.seq = true := by
  simp only [aheadB, hasB, Bool.and_eq_true]
  constructor
  · rintro ⟨⟨h1, h2⟩, h3, h4⟩; exact ⟨h1, h2, h4⟩
  · rintro ⟨h1, h2, h4⟩; exact ⟨⟨h1, h2⟩, (evOk_iff.1 h2).2.2.2.1, h4⟩
theorem within_iff {a b : List Span} (ha : pastOk a = true) (hb : pastOk b = true) : withinB a b = true ↔ ∀ n s, memP a n s = true → memP b n s = true := by
  rw [← minus_nil (pastOk_iff.1 ha).2 (pastOk_iff.1 hb).2]
  have e : sweptF (fun x y => x && !y) a b = sweptF andNot a b := rfl
  rw [e]
  unfold withinB tells
  rw [ha, hb]
  simp only [Bool.and_self, if_true]
  by_cases h : (sweptF andNot a b).length ≤ 4000
  · rw [if_pos h]
    simp only [beq_self_eq_true, Bool.true_and, beq_iff_eq]
    constructor
    · intro h; exact List.length_eq_zero_iff.1 (by omega)
    · intro h; rw [h]; rfl
  · rw [if_neg h]
    constructor
    · intro h; cases h
    · intro h'; rw [h'] at h; exact absurd (Nat.zero_le _) h
theorem not_self {a : Ev} : aheadB a a = false := by
  cases h : aheadB a a with
  | false => rfl
  | true =>
    obtain ⟨h1, _, h2⟩ := ahead_iff.1 h
    obtain ⟨_, _, _, h3, h4⟩ := evOk_iff.1 h1
    have := last_ge h3 h2
    omega
section
variable {l : List Ev} (hc : ClosedL l)
include hc
theorem closed_in {i j : Nat} {a b : Ev} (ha : l[i]? = some a) (hb : l[j]? = some b) (h : aheadB a b = true) : ∀ n s, memP a.past n s = true → memP b.past n s = true := by
  obtain ⟨h1, h2, _⟩ := ahead_iff.1 h
  have hij : j ≠ i := fun e => by
    subst e; rw [ha] at hb; cases hb
    rw [not_self] at h; cases h
  have := (hc i a ha).2 j b hb
  unfold badPair at this
  have hne : ((j : Int) != (i : Int)) = true := by simp; omega
  rw [hne, h, Bool.true_and, Bool.true_and, Bool.or_eq_false_iff, Bool.not_eq_false'] at this
  exact (within_iff (evOk_iff.1 h1).2.2.2.1 (evOk_iff.1 h2).2.2.2.1).1 this.2
theorem closed_asym {i j : Nat} {a b : Ev} (ha : l[i]? = some a) (hb : l[j]? = some b) (h : aheadB a b = true) : ((i : Int) == (j : Int)) = false ∧ aheadB b a = false := by
  constructor
  · cases hq : ((i : Int) == (j : Int)) with
    | false => rfl
    | true =>
      have : i = j := by simp at hq; omega
      subst this; rw [ha] at hb; cases hb
      rw [not_self] at h; cases h
  · cases hq : aheadB b a with
    | false => rfl
    | true =>
      obtain ⟨h1, h2, h3⟩ := ahead_iff.1 hq
      have := closed_in hc ha hb h _ _ h3
      have h4 : aheadB b b = true := ahead_iff.2 ⟨h1, h1, this⟩
      rw [not_self] at h4; cases h4
theorem closed_trans {i j k : Nat} {a b c : Ev} (ha : l[i]? = some a) (hb : l[k]? = some b) (hj : l[j]? = some c) (h1 : aheadB a b = true) (h2 : aheadB b c = true) : aheadB a c = true := by
  obtain ⟨q1, q2, q3⟩ := ahead_iff.1 h1
  obtain ⟨r1, r2, r3⟩ := ahead_iff.1 h2
  exact ahead_iff.2 ⟨q1, r2, closed_in hc hb hj h2 _ _ q3⟩
end
theorem tells_or {a b : List Span} (ha : OkL a) (hb : OkL b) (hl : a.length + b.length ≤ 4000) : (tells orB a b).2 = 0 ∧ OkL (tells orB a b).1 ∧ (tells orB a b).1.length ≤ a.length + b.length ∧ ∀ n s, memP (tells orB a b).1 n s = (memP a n s || memP b n s) := by
  have h1 : pastOk a = true := pastOk_iff.2 ⟨by omega, ha⟩
  have h2 : pastOk b = true := pastOk_iff.2 ⟨by omega, hb⟩
  have h3 := joinF_len ha hb
  have e : sweptF (fun x y => x || y) a b = sweptF orB a b := rfl
  rw [e] at h3
  obtain ⟨h4, h5⟩ := swept_sem orB rfl ha hb
  have ht : tells orB a b = (sweptF orB a b, 0) := by
    unfold tells
    rw [h1, h2, if_pos (by decide), if_pos (by omega)]
  rw [ht]
  exact ⟨rfl, h4, h3, h5⟩
theorem more_ok {out : List Span} {x : Ev} (ho : OkL out) (hx : evOk x = true) (hl : out.length + (x.past.length + 1) ≤ 4000) : (moreT out x).2 = 0 ∧ OkL (moreT out x).1 ∧ (moreT out x).1.length ≤ out.length + (x.past.length + 1) ∧ ∀ n s, memP (moreT out x).1 n s = (memP out n s || (memP x.past n s || inSp ⟨x.node, x.seq, x.seq⟩ n s)) := by
  obtain ⟨hd, _, _, hp, _⟩ := evOk_iff.1 hx
  obtain ⟨j1, j2, j3, j4⟩ := tells_or ho (pastOk_iff.1 hp).2 (by omega)
  have h1 : OkL [⟨x.node, x.seq, x.seq⟩] := by
    have := dotOk_iff.1 hd
    refine ⟨?_, trivial, trivial⟩
    unfold SpOk; dsimp only; omega
  obtain ⟨k1, k2, k3, k4⟩ := tells_or j2 h1 (by simp only [List.length_cons, List.length_nil]; omega)
  have hm : moreT out x = tells orB (tells orB out x.past).1 [⟨x.node, x.seq, x.seq⟩] := by
    unfold moreT
    rw [if_pos j1]
    unfold addT
    rw [pastOk_iff.2 ⟨by omega, j2⟩, hd, if_pos (by decide)]
  rw [hm]
  refine ⟨k1, k2, by simp only [List.length_cons, List.length_nil] at k3; omega, fun n s => ?_⟩
  rw [k4, j4, memP_cons, memP_nil, Bool.or_false, Bool.or_assoc]
theorem pasts_ok : ∀ (l : List Ev) (out : List Span), OkL out → (∀ e ∈ l, evOk e = true ∧ e.past.length ≤ 100) → out.length + l.length * 101 ≤ 4000 →
    ∃ P, pastsF out l = (P, 0) ∧ OkL P ∧ P.length ≤ out.length + l.length * 101 ∧ ∀ n s, memP P n s = (memP out n s || l.any fun e => memP e.past n s || inSp ⟨e.node, e.seq, e.seq⟩ n s)
  | [], out, ho, _, _ => ⟨out, rfl, ho, by simp, fun n s => by simp⟩
  | x :: r, out, ho, he, hl => by
    simp only [List.length_cons] at hl
    obtain ⟨hx, hxl⟩ := he x List.mem_cons_self
    obtain ⟨m1, m2, m3, m4⟩ := more_ok ho hx (by omega)
    obtain ⟨P, p1, p2, p3, p4⟩ := pasts_ok r _ m2 (fun e h => he e (List.mem_cons_of_mem _ h)) (by omega)
    refine ⟨P, ?_, p2, by simp only [List.length_cons]; omega, fun n s => ?_⟩
    · unfold pastsF; rw [if_pos m1]; exact p1
    · rw [p4, m4, List.any_cons, Bool.or_assoc]
theorem past_ok {l : List Ev} (hc : ClosedL l) (hl : l.length ≤ 20) (hp : ∀ e ∈ l, e.past.length ≤ 100) : ∃ P, pastT l = (P, 0) ∧ pastOk P = true ∧ ∀ n s, memP P n s = l.any fun e => memP e.past n s || inSp ⟨e.node, e.seq, e.seq⟩ n s := by
  have hok : ∀ e ∈ l, evOk e = true := fun e he => by
    obtain ⟨i, hi⟩ := List.getElem?_of_mem he
    exact (hc i e hi).1
  obtain ⟨P, p1, p2, p3, p4⟩ := pasts_ok l [] trivial (fun e he => ⟨hok e he, hp e he⟩) (by simp; omega)
  refine ⟨P, ?_, pastOk_iff.2 ⟨by simp at p3; omega, p2⟩, fun n s => ?_⟩
  · unfold pastT; rw [if_pos (List.all_eq_true.2 hok)]; exact p1
  · rw [p4, memP_nil, Bool.false_or]
def nextE (node : Int) (P : List Span) : Ev := ⟨node, lastOf P node + 1, [97, 47, 98], 2, 0, [], P⟩
theorem eff_dir : effOk 2 0 [] = true := by decide
theorem path_ab : pathOk [97, 47, 98] = true := by decide
theorem mem_dot {l : List Ev} {P : List Span} (hm : ∀ n s, memP P n s = l.any fun e => memP e.past n s || inSp ⟨e.node, e.seq, e.seq⟩ n s) {i : Nat} {a : Ev} (ha : l[i]? = some a) : memP P a.node a.seq = true := by
  rw [hm, List.any_eq_true]
  exact ⟨a, List.mem_of_getElem? ha, by rw [Bool.or_eq_true]; exact .inr (inSp_iff.2 ⟨rfl, Int.le_refl _, Int.le_refl _⟩)⟩
section
variable {l : List Ev} (hc : ClosedL l) {P : List Span} (hP : pastOk P = true) (hm : ∀ n s, memP P n s = l.any fun e => memP e.past n s || inSp ⟨e.node, e.seq, e.seq⟩ n s) {node : Int} (hn : 1 ≤ node ∧ node ≤ 200) (hlast : lastOf P node < 2147483647)
include hP hn hlast
theorem next_ok : evOk (nextE node P) = true := by
  refine evOk_iff.2 ⟨dotOk_iff.2 ⟨hn.1, hn.2, ?_, ?_⟩, path_ab, eff_dir, hP, ?_⟩
  · show 1 ≤ lastOf P node + 1
    have := last_pos P node; omega
  · show lastOf P node + 1 ≤ 2147483647
    omega
  · show lastOf P node < lastOf P node + 1
    omega
include hc hm
theorem next_ahead {i : Nat} {a : Ev} (ha : l[i]? = some a) : aheadB a (nextE node P) = true ∧ aheadB (nextE node P) a = false := by
  refine ⟨ahead_iff.2 ⟨(hc i a ha).1, next_ok hP hn hlast, mem_dot hm ha⟩, ?_⟩
  cases hq : aheadB (nextE node P) a with
  | false => rfl
  | true =>
    obtain ⟨_, _, h3⟩ := ahead_iff.1 hq
    have h4 : memP P node (lastOf P node + 1) = true := by
      rw [hm, List.any_eq_true]
      exact ⟨a, List.mem_of_getElem? ha, by rw [Bool.or_eq_true]; exact .inl h3⟩
    have := last_ge hP h4
    omega
theorem next_closed : ClosedL (l ++ [nextE node P]) := by
  have key : ∀ i a, l[i]? = some a → i < l.length := fun i a h => (List.getElem?_eq_some_iff.1 h).1
  have split : ∀ {i : Nat} {a : Ev}, (l ++ [nextE node P])[i]? = some a → l[i]? = some a ∨ (i = l.length ∧ a = nextE node P) := fun {i a} h => by
    rcases Nat.lt_or_ge i l.length with hi | hi
    · exact .inl (by rw [List.getElem?_append_left hi] at h; exact h)
    · rw [List.getElem?_append_right hi] at h
      rcases Nat.eq_zero_or_pos (i - l.length) with h0 | h0
      · rw [h0] at h
        exact .inr ⟨by omega, by cases h; rfl⟩
      · rw [List.getElem?_eq_none (by simp; omega)] at h; cases h
  have dots : ∀ {i : Nat} {a : Ev}, l[i]? = some a → (a.node == (nextE node P).node && a.seq == (nextE node P).seq) = false ∧ ((nextE node P).node == a.node && (nextE node P).seq == a.seq) = false := fun {i a} h => by
    have h1 := mem_dot hm h
    have h2 := last_ge hP h1
    have hnot : ¬ (a.node = node ∧ a.seq = lastOf P node + 1) := fun ⟨e1, e2⟩ => by rw [e1] at h2; omega
    constructor
    · rw [Bool.and_eq_false_iff, beq_eq_false_iff_ne, beq_eq_false_iff_ne]
      show a.node ≠ node ∨ a.seq ≠ lastOf P node + 1
      omega
    · rw [Bool.and_eq_false_iff, beq_eq_false_iff_ne, beq_eq_false_iff_ne]
      show node ≠ a.node ∨ lastOf P node + 1 ≠ a.seq
      omega
  intro i a ha
  rcases split ha with ha | ⟨rfl, rfl⟩
  · refine ⟨(hc i a ha).1, fun j b hb => ?_⟩
    rcases split hb with hb | ⟨rfl, rfl⟩
    · exact (hc i a ha).2 j b hb
    · obtain ⟨a1, a2⟩ := next_ahead hc hP hm hn hlast ha
      have hw : withinB a.past (nextE node P).past = true := (within_iff (evOk_iff.1 (hc i a ha).1).2.2.2.1 hP).2 fun n s h => by
        show memP P n s = true
        rw [hm, List.any_eq_true]
        exact ⟨a, List.mem_of_getElem? ha, by rw [h]; rfl⟩
      unfold badPair
      rw [(dots ha).1, a1, hw]; simp
  · refine ⟨next_ok hP hn hlast, fun j b hb => ?_⟩
    rcases split hb with hb | ⟨rfl, rfl⟩
    · obtain ⟨a1, a2⟩ := next_ahead hc hP hm hn hlast hb
      unfold badPair
      rw [(dots hb).2, a2]; simp
    · unfold badPair
      simp
end
end Go.Proofs.YtmgmbdnhodicjaaDoor
end

section
namespace Go.Proofs.YtmgmbdnhodicjaaDoor
open Go Go.Am Go.Pm
set_option maxHeartbeats 2000000
set_option maxRecDepth 100000
theorem copy_bytes (l : List UInt8) (hl : l.length ≤ 1000000) : PTp env Tryd.prog 92 [encBytes l] (encBytes l) := PTp.of fun M => by
  refine PT.enterR env_ok fn92 (by simp) comp92 fun k hk hf => RX.of env_ok ?_
  have hfill : fillA 1 [] [] = some [] := rfl
  simp only [G0, Nat.reduceLT, Nat.reduceEqDiff, Nat.reduceAdd, Nat.reduceLeDiff, Nat.reduceMul, argsP, encBytes, hfill]
  refine aL ?_
  by_cases hz : l.length = 0
  · have : l = [] := List.length_eq_zero_iff.1 hz
    subst this
    simp only [G0, Nat.reduceLT, Nat.reduceEqDiff, Nat.reduceAdd, Nat.reduceLeDiff, Nat.reduceMul, List.map_nil, ap_nil]
    exact end1 hf rfl ⟨PLe.no _ _ _ _, rfl⟩
  · have hc : (0 = 0 ∨ 1 = 1) ∧ (2 * (0 + l.length) + 2000) * 1 ≤ 281474976710656 ∧ 0 + l.length ≤ 4611686018427387904 ∧ 1 < 4096 ∧ 1 = 1 ∧ (l.map encB).all pone = true := ⟨.inl rfl, by omega, by omega, by decide, rfl, all_encB l⟩
    rw [ap_full hz hc]
    simp only [G0, Nat.reduceLT, Nat.reduceEqDiff, Nat.reduceAdd, Nat.reduceLeDiff, Nat.reduceMul]
    exact end1 hf rfl ⟨PLe.no _ _ _ _, rfl⟩
theorem copy_spans (l : List Span) (hl : l.length ≤ 1000000) : PTp env Tryd.prog 79 [encSpans l] (encSpans l) := PTp.of fun M => by
  refine PT.enterR env_ok fn79 (by simp) comp79 fun k hk hf => RX.of env_ok ?_
  have hfill : fillA 3 [] [] = some [] := rfl
  simp only [G0, Nat.reduceLT, Nat.reduceEqDiff, Nat.reduceAdd, Nat.reduceLeDiff, Nat.reduceMul, argsP, encSpans, hfill]
  refine aL ?_
  by_cases hz : l.length = 0
  · have : l = [] := List.length_eq_zero_iff.1 hz
    subst this
    simp only [G0, Nat.reduceLT, Nat.reduceEqDiff, Nat.reduceAdd, Nat.reduceLeDiff, Nat.reduceMul, List.flatMap_nil, ap_nil]
    exact end1 hf rfl ⟨PLe.no _ _ _ _, rfl⟩
  · have hc : (0 = 0 ∨ 3 = 3) ∧ (2 * (0 + l.length) + 2000) * 24 ≤ 281474976710656 ∧ 0 + l.length ≤ 4611686018427387904 ∧ 3 < 4096 ∧ 3 = 3 ∧ (l.flatMap encSpan).all pone = true := ⟨.inl rfl, by omega, by omega, by decide, rfl, all_spans l⟩
    rw [ap_full hz hc]
    simp only [G0, Nat.reduceLT, Nat.reduceEqDiff, Nat.reduceAdd, Nat.reduceLeDiff, Nat.reduceMul]
    exact end1 hf rfl ⟨PLe.no _ _ _ _, rfl⟩
theorem copy_effect (x m : Int) (b : List UInt8) (hb : b.length ≤ 1000000) : PTp env Tryd.prog 78 [.agg [iv x, iv m, encBytes b]] (.agg [iv x, iv m, encBytes b]) := fun M => by
  refine PT.enterR env_ok fn78 (by simp) comp78 fun k hk hf => RX.of env_ok ?_
  simp only [G0, Nat.reduceLT, Nat.reduceEqDiff, Nat.reduceAdd, Nat.reduceLeDiff, Nat.reduceMul, argsP]
  refine cp0 (copy_bytes _ hb) (by decide) ?_
  simp only [G0, Nat.reduceLT, Nat.reduceEqDiff, Nat.reduceAdd, Nat.reduceLeDiff, Nat.reduceMul, enc_cells]
  refine endc (ag := true) (n := 3) hf (by kernel_rfl) ?_ ⟨rfl, rfl⟩
  simp only [G0, Nat.reduceLT, Nat.reduceEqDiff, Nat.reduceAdd, Nat.reduceLeDiff, Nat.reduceMul]
theorem copy_event (e : Ev) (h1 : e.bytes.length ≤ 1000000) (h2 : e.past.length ≤ 1000000) : PTp env Tryd.prog 55 [encEv e] (encEv e) := fun M => by
  refine PT.enterR env_ok fn55 (by simp) comp55 fun k hk hf => RX.of env_ok ?_
  simp only [G0, Nat.reduceLT, Nat.reduceEqDiff, Nat.reduceAdd, Nat.reduceLeDiff, Nat.reduceMul, argsP, encEv, evCells]
  refine cp0 (copy_effect e.kind e.mode e.bytes h1) (by decide) ?_
  simp only [G0, Nat.reduceLT, Nat.reduceEqDiff, Nat.reduceAdd, Nat.reduceLeDiff, Nat.reduceMul, enc_cells]
  refine cp0 (copy_spans _ h2) (by decide) ?_
  simp only [G0, Nat.reduceLT, Nat.reduceEqDiff, Nat.reduceAdd, Nat.reduceLeDiff, Nat.reduceMul, enc_cells]
  refine endc (ag := true) (n := 7) hf (by kernel_rfl) ?_ ⟨rfl, rfl⟩
  simp only [G0, Nat.reduceLT, Nat.reduceEqDiff, Nat.reduceAdd, Nat.reduceLeDiff, Nat.reduceMul]
end Go.Proofs.YtmgmbdnhodicjaaDoor
end

section
namespace Go.Proofs.YtmgmbdnhodicjaaDoor
open Go Go.Am Go.Pm
set_option maxHeartbeats 2000000
set_option maxRecDepth 100000
inductive OutE (k : Nat) (os : List Pm.Obj) : PV → List Ev → Prop where
  | nil (e : Nat) : OutE k os (.lst .full e 0 []) []
  | row {j : Nat} {w : Wm} {l : List Ev} (h : os[j]? = some (.row w 7 (l.flatMap evCells))) (hw : w = .rw ∨ w = .own) (hl : l ≠ []) : OutE k os (.sl k j 0 l.length (loCap l.length 7)) l
theorem pone_ev (e : Ev) : (evCells e).all pone = true := rfl
theorem ev_len (l : List Ev) : (l.flatMap evCells).length = l.length * 7 := flatMap_len (f := evCells) (n := 7) (fun _ => rfl) l
theorem loop29 (l : List Ev) (hl : l.length ≤ 1000000) (h1 : ∀ e ∈ l, e.bytes.length ≤ 1000000) (h2 : ∀ e ∈ l, e.past.length ≤ 1000000) (M : PMem) (k : Nat) (Q : AExit → PSt → Prop)
    (q : ∀ tm os v, tget tm 3 = v → OutE k os v l → Q (.exit 0) ⟨tm, 20, k, os, M⟩) :
    ∀ d i os v tm, l.length - i = d → i ≤ l.length → OutE k os v (l.take i) → tget tm 0 = encEvs l → tget tm 3 = v → tget tm 4 = iv i → RXL env Tryd.prog none c29_10 ⟨tm, 20, k, os, M⟩ Q := by
  intro d
  induction d with
  | zero =>
    intro i os v tm hd hi hO t0 t3 t4
    have : i = l.length := by omega
    subst this
    rw [List.take_length] at hO
    refine RXL.round (RX.of env_ok ?_)
    simp only [G0, Nat.reduceLT, Nat.reduceEqDiff, Nat.reduceAdd, Nat.reduceLeDiff, Nat.reduceMul, t0, t4, encEvs, Int.lt_irrefl, decide_false]
    exact q _ os v t3 hO
  | succ d ih =>
    intro i os v tm hd hi hO t0 t3 t4
    have hi' : i < l.length := by omega
    have hii : (i : Int) < l.length := by omega
    obtain ⟨a, ha, hdx⟩ := getE hi'
    have hlx := ev_load7 ha
    have hm := List.mem_of_getElem? ha
    have hw : IntKind.i64.wrap ((i : Int) + 1) = ((i + 1 : Nat) : Int) := by rw [wrap64_id (by omega) (by omega)]; rfl
    have hfill : fillA 7 [.v (.int .i64 0), .v (.int .i64 0), .v (.string ⟨#[]⟩), .v (.int .i64 0), .v (.int .i64 0), .lst .full 0 0 [], .lst .full 0 0 []] [(0, encEv a)] = some (evCells a) := rfl
    have htk : l.take (i + 1) = l.take i ++ [a] := by rw [List.take_add_one, ha]; rfl
    have hfm : (l.take (i + 1)).flatMap evCells = (l.take i).flatMap evCells ++ evCells a := by rw [htk, List.flatMap_append]; simp
    have hlen : (l.take (i + 1)).length = (l.take i).length + 1 := by rw [htk]; simp
    have hne : l.take (i + 1) ≠ [] := by rw [htk]; simp
    have hti : (l.take i).length ≤ 1000000 := by rw [List.length_take]; omega
    refine RXL.round (RX.of env_ok ?_)
    simp only [G0, Nat.reduceLT, Nat.reduceEqDiff, Nat.reduceAdd, Nat.reduceLeDiff, Nat.reduceMul, t0, t3, t4, encEvs, hii, decide_true, hi', hlx]
    refine cp0 (copy_event a (h1 a hm) (h2 a hm)) (by decide) ?_
    simp only [G0, Nat.reduceLT, Nat.reduceEqDiff, Nat.reduceAdd, Nat.reduceLeDiff, Nat.reduceMul, hfill]
    refine aR ?_
    generalize hL : l.take i = L at hO hfm hlen hti
    cases hO with
    | nil e =>
      rw [apr_full (m := 1) (n := 0) (by decide) ⟨.inl rfl, by decide, by decide, by decide, rfl, pone_ev a⟩]
      simp only [G0, Nat.reduceLT, Nat.reduceEqDiff, Nat.reduceAdd, Nat.reduceLeDiff, Nat.reduceMul, t4, hw]
      refine ih (i + 1) _ _ _ (by omega) (by omega) ?_ t0 rfl rfl
      have := OutE.row (k := k) (os := os ++ [.row .rw 7 (evCells a)]) (j := os.length) (w := .rw) (l := l.take (i + 1)) (by rw [List.getElem?_append_right (Nat.le_refl _), Nat.sub_self, hfm]; rfl) (.inl rfl) hne
      rw [hlen] at this
      exact this
    | @row j w L' h hw' hl' =>
      rw [apr_grow' (m := 1) (n := L.length) (by decide) (fun e => hl' (List.length_eq_zero_iff.1 e)) (cap_lo (by decide)) hw' h (ev_len L).symm ⟨by omega, by omega, by decide, rfl, pone_ev a⟩]
      simp only [G0, Nat.reduceLT, Nat.reduceEqDiff, Nat.reduceAdd, Nat.reduceLeDiff, Nat.reduceMul, t4, hw]
      refine ih (i + 1) _ _ _ (by omega) (by omega) ?_ t0 rfl rfl
      have := OutE.row (k := k) (os := os.set j .gone ++ [.row .own 7 (L.flatMap evCells ++ evCells a)]) (j := os.length) (w := .own) (l := l.take (i + 1)) (by rw [List.getElem?_append_right (by simp), List.length_set, Nat.sub_self, hfm]; rfl) (.inr rfl) hne
      rw [hlen] at this
      exact this
theorem copy_events (l : List Ev) (hl : l.length ≤ 1000000) (h1 : ∀ e ∈ l, e.bytes.length ≤ 1000000) (h2 : ∀ e ∈ l, e.past.length ≤ 1000000) (M : PMem) :
    PTk env Tryd.prog 29 [encEvs l] M (fun nk x M1 => ∃ k os, nk ≤ k ∧ fresh M k ∧ M1 = seg M k os ∧ OutE k os x l) := by
  refine PTk.enterR env_ok fn29 (by simp) comp29 fun k hk hf => RX.of env_ok ?_
  simp only [G0, Nat.reduceLT, Nat.reduceEqDiff, Nat.reduceAdd, Nat.reduceLeDiff, Nat.reduceMul, argsP]
  refine RX.loop (loop29 l hl h1 h2 M k _ (fun tm os v t3 hO => ?_) l.length 0 [] (.lst .full 0 0 []) _ rfl (Nat.zero_le _) (.nil 0) (by rfl) (by rfl) (by rfl))
  simp only [G0, Nat.reduceLT, Nat.reduceEqDiff, Nat.reduceAdd, Nat.reduceLeDiff, Nat.reduceMul, t3]
  exact endM rfl ⟨k, os, Nat.le_refl _, hf, rfl, hO⟩
end Go.Proofs.YtmgmbdnhodicjaaDoor
end

section
namespace Go.Proofs.YtmgmbdnhodicjaaDoor
open Go Go.Am Go.Pm
set_option maxHeartbeats 1000000
theorem sure0 : Sure env Tryd.prog := Sure.of env_ok env_ext
set_option maxRecDepth 1000000
end Go.Proofs.YtmgmbdnhodicjaaDoor
end

section
namespace Go.Proofs.YtmgmbdnhodicjaaDoor
open Go Go.Am Go.Pm
set_option maxHeartbeats 4000000
set_option maxRecDepth 1000000
theorem awake_run24 : isLeaf (.bool true) (runD env 100000 1000 24 []) = true := by kernel_rfl
theorem awake_pure24 : PureE Tryd.prog env.ng 24 [] (.bool true) := sure0.pure 100000 1000 awake_run24
theorem awake24 : PTp env Tryd.prog 24 [] (bv true) := PTp.of_pure env_ok fn24 awake_pure24 rfl
end Go.Proofs.YtmgmbdnhodicjaaDoor
end
