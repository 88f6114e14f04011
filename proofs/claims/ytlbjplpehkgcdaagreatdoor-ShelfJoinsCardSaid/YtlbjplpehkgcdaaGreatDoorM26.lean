/- ShelfJoins holds. Part 26 of 32; no condition. -/
import Derived.Test.YtlbjplpehkgcdaaGreatDoorM25
import Derived.IntWalk
set_option linter.unusedVariables false
set_option linter.unusedSimpArgs false
set_option maxHeartbeats 4000000
set_option maxRecDepth 100000
open Nat renaming reduceLT → Z1, reduceEqDiff → Z2, reduceAdd → Z3, reduceLeDiff → Z4, reduceMul → Z5
namespace Go.Pm
open Go.RowKit Go.Am
theorem RX.cut {E : Env} {P : Program} {rd : Option (Nat × Nat)} {a b : RC} {s : PSt} {Q : AExit -> PSt -> Prop} (R : PSt -> Prop) (h : RX E P rd a s (fun e s1 => e = .normal /\ R s1)) (k : ∀ s1, R s1 -> RX E P rd b s1 Q) : RX E P rd (.seq a b) s Q :=
 RX.seq (h.mono fun e s1 hr => by
  obtain ⟨he, hr⟩ := hr
  subst he
  exact k s1 hr)
end Go.Pm
namespace Go.Proofs.YtlbjplpehkgcdaaGreatDoor
open Go Go.Am Go.Pm
structure Swp (n0 : Nat) (M0 M : PMem) (a g : Nat) (A B ro : List Span) : Prop where
 sub : Pm.Sub M0 M
 new : fresh M0 a
 vals : ∃ va vb vo, M a 0 = some (.row .rw 0 [va, vb, .fn g [] [], vo]) /\ LsV M va A /\ LsV M vb B /\ OutV M vo ro /\ (keyV va ≠ some a /\ keyV vb ≠ some a /\ keyV vo ≠ some a) ∧
  ((∀ k, keyV va = some k -> fresh M0 k) /\ (∀ k, keyV vb = some k -> fresh M0 k) /\ (∀ k, keyV vo = some k -> fresh M0 k)) /\ ((∀ k, keyV va = some k -> keyV vb ≠ some k) /\ (∀ k, keyV va = some k -> keyV vo ≠ some k) /\ (∀ k, keyV vb = some k -> keyV vo ≠ some k)) /\ (∀ k, keyV vo = some k -> n0 <= k)
theorem mm_min {a b : Int} : pmm minV [iv a, iv b] = some (iv (min a b)) := by
 have h : pmm minV [iv a, iv b] = some (iv (if b < a then b else a)) := by
  unfold pmm
  simp [minV, pflats?]
 have h2 : (if b < a then b else a) = min a b := by
  by_cases hb : b < a
  ·rw [if_pos hb]; omega
  ·rw [if_neg hb]; omega
 rw [h, h2]
theorem LsV.len {M : PMem} {v : PV} {l : List Span} (h : LsV M v l) : lenL v = some (iv (l.length : Nat)) := by
 cases h with
 | nil e => rfl
 | row hM hj hc => rfl
theorem node10 {M : PMem} {a g k : Nat} {A B : List Span} {va vb vo : PV} (hM : M a 0 = some (.row .rw 0 [va, vb, .fn g [] [], vo])) (hA : LsV M va A) (hB : LsV M vb B) (hne : A ≠ [] \/ B ≠ []) (hf : fresh M k) (tm : List (Nat × PV)) (t0 : tget tm 0 = .ptr a 0 0) :
  RX env Tryz.prog none c118_10 ⟨tm, 177, k, [], M⟩ (fun e s => e = .normal /\ ∃ tm', s = ⟨tm', 177, k, [], M⟩ /\ tget tm' 0 = .ptr a 0 0 /\ tget tm' 2 = iv (nodeS A B)) := by
 have hak : a ≠ k := fun e => by subst e; rw [hf 0] at hM; cases hM
 have hlda : ∀ {ag : Bool} {n o : Nat} {os : List Pm.Obj}, loadP k os M ag n (.ptr a 0 o) = rowTake ag n o (M a 0) := loadP_out hak
 have hlA := hA.len
 have hlB := hB.len
 have ld : ∀ {v : PV} {z : Span} {r : List Span}, LsV M v (z :: r) -> ∃ k1 i1 n1 o1 c1, v = .sl k1 i1 o1 (n1 + 1) c1 /\ (∀ {os : List Pm.Obj}, loadP k os M false 1 (.ptr k1 i1 o1) = some (iv z.node)) := fun {v z r} h => by
  cases h with
  | @row k1 i1 j c pre _ hM1 hj hc =>
   subst hj
   have hk1 : k1 ≠ k := fun e => by subst e; rw [hf i1] at hM1; cases hM1
   refine ⟨k1, i1, r.length, _, c, rfl, fun {os} => ?_⟩
   rw [loadP_out hk1, hM1]
   have c0 := sp_cell (pre := pre) (l := z :: r) rfl (c := 0) (v := iv z.node) rfl
   rw [Nat.add_zero] at c0
   exact c0
 cases A with
 | nil =>
  cases B with
  | nil => simp at hne
  | cons y s =>
   obtain ⟨k1, i1, n1, o1, c1, rfl, hl1⟩ := ld hB
   have hz : (((0 : Nat) : Int) == 0) = true := rfl
   have hlA' : lenL va = some (iv ((0 : Nat) : Int)) := hlA
   refine RX.of env_ok ?_
   simp only [G0, Z1, Z2, Z3, Z4, Z5, t0, hlda, hM, hlA', hz, iaddr_sl0, Nat.succ_pos, hl1]
   exact ⟨_, rfl, t0, rfl⟩
 | cons x r =>
  obtain ⟨k2, i2, n2, o2, c2, rfl, hl2⟩ := ld hA
  have hz2 : (((n2 + 1 : Nat) : Int) == 0) = false := by simp; omega
  cases B with
  | nil =>
   have hz : (((0 : Nat) : Int) == 0) = true := rfl
   have hlB' : lenL vb = some (iv ((0 : Nat) : Int)) := hlB
   refine RX.of env_ok ?_
   simp only [G0, Z1, Z2, Z3, Z4, Z5, t0, hlda, hM, len_sl, hlB', hz, hz2, iaddr_sl0, Nat.succ_pos, hl2]
   exact ⟨_, rfl, t0, rfl⟩
  | cons y s =>
   obtain ⟨k1, i1, n1, o1, c1, rfl, hl1⟩ := ld hB
   have hz1 : (((n1 + 1 : Nat) : Int) == 0) = false := by simp; omega
   refine RX.of env_ok ?_
   simp only [G0, Z1, Z2, Z3, Z4, Z5, t0, hlda, hM, len_sl, hz1, hz2, iaddr_sl0, Nat.succ_pos, hl1, hl2, mm_min]
   exact ⟨_, rfl, t0, rfl⟩
end Go.Proofs.YtlbjplpehkgcdaaGreatDoor
namespace Go.Proofs.YtlbjplpehkgcdaaGreatDoor
open Go Go.Am Go.Pm
def rwS (x : Span) : Pm.Obj := .row .rw 0 (encSpan x)
structure KpS (tm : List (Nat × PV)) (a k : Nat) (n : Int) (x y : Bool) : Prop where
 t0 : tget tm 0 = .ptr a 0 0
 t2 : tget tm 2 = iv n
 t3 : tget tm 3 = .ptr k 0 0
 t4 : tget tm 4 = bv x
 t5 : tget tm 5 = .ptr k 1 0
 t6 : tget tm 6 = bv y
 t7 : tget tm 7 = .ptr k 2 0
theorem heads {M : PMem} {a g k : Nat} {A B : List Span} {va vb vo : PV} (hM : M a 0 = some (.row .rw 0 [va, vb, .fn g [] [], vo])) (hA : LsV M va A) (hB : LsV M vb B) (hf : fresh M k) (n : Int) (tm : List (Nat × PV)) (t0 : tget tm 0 = .ptr a 0 0) (t2 : tget tm 2 = iv n) {Q : AExit -> PSt -> Prop}
  (q : ∀ tm', KpS tm' a k n (hdS A n).2 (hdS B n).2 -> RX env Tryz.prog none c118_58 ⟨tm', 177, k, [rwS (hdS A n).1, rwS (hdS B n).1, rwS ⟨n, frmS (hdS A n) (hdS B n), 0⟩], M⟩ Q) :
  RX env Tryz.prog none c118_62 ⟨tm, 177, k, [], M⟩ Q := by
 have hak : a ≠ k := fun e => by subst e; rw [hf 0] at hM; cases hM
 have hlda : ∀ {ag : Bool} {n o : Nat} {os : List Pm.Obj}, loadP k os M ag n (.ptr a 0 o) = rowTake ag n o (M a 0) := loadP_out hak
 have h1 := head_at hA n
 have h2 := head_at hB n
 generalize hdS A n = X at h1 q ⊢
 generalize hdS B n = Y at h2 q ⊢
 obtain ⟨x, bx⟩ := X
 obtain ⟨y, bY⟩ := Y
 have hs1 : ∀ {tm : List (Nat × PV)}, Pm.Sub M (seg M k []) := Pm.Sub.seg hf
 refine RX.cut (fun s => ∃ tm', s = ⟨tm', 177, k, [rwS x], M⟩ /\ tget tm' 0 = .ptr a 0 0 /\ tget tm' 2 = iv n /\ tget tm' 3 = .ptr k 0 0 /\ tget tm' 4 = bv bx) (RX.of env_ok ?_) ?_
 ·simp only [G0, Z1, Z2, Z3, Z4, Z5, t0, t2, hlda, hM]
  refine cs0 h1 (Pm.Sub.seg hf) (by decide) ?_
  simp only [G0, Z1, Z2, Z3, Z4, Z5, t0, t2, spV, encSpan, hst0]
  exact ⟨_, rfl, t0, t2, rfl, rfl⟩
 ·rintro s ⟨tm1, rfl, t0, t2, t3, t4⟩
  refine RX.cut (fun s => ∃ tm', s = ⟨tm', 177, k, [rwS x, rwS y], M⟩ /\ tget tm' 0 = .ptr a 0 0 /\ tget tm' 2 = iv n /\ tget tm' 3 = .ptr k 0 0 /\ tget tm' 4 = bv bx /\ tget tm' 5 = .ptr k 1 0 /\ tget tm' 6 = bv bY) (RX.of env_ok ?_) ?_
  ·simp only [G0, Z1, Z2, Z3, Z4, Z5, t0, t2, hlda, hM]
   refine cs0 h2 (Pm.Sub.seg hf) (by decide) ?_
   simp only [G0, Z1, Z2, Z3, Z4, Z5, t0, t2, spV, encSpan, hst0]
   exact ⟨_, rfl, t0, t2, t3, t4, rfl, rfl⟩
  ·rintro s ⟨tm2, rfl, t0, t2, t3, t4, t5, t6⟩
   refine RX.cut (fun s => ∃ tm', s = ⟨tm', 177, k, [rwS x, rwS y, rwS ⟨n, min x.frm y.frm, 0⟩], M⟩ /\ KpS tm' a k n bx bY) (RX.of env_ok ?_) ?_
   ·simp only [G0, Z1, Z2, Z3, Z4, Z5, t0, t2, t3, t4, t5, t6, rwS, encSpan, mm_min, hst0]
    exact ⟨_, rfl, ⟨t0, t2, t3, t4, t5, t6, rfl⟩⟩
   ·rintro s ⟨tm3, rfl, u0, u2, u3, u4, u5, u6, u7⟩
    refine RX.cut (fun s => ∃ tm', s = ⟨tm', 177, k, [rwS x, rwS y, rwS ⟨n, frmS (x, bx) (y, bY), 0⟩], M⟩ /\ KpS tm' a k n bx bY) (RX.of env_ok ?_) ?_
    ·have hst1 : ∀ {f : Int}, storeO 1 1 (iv f) (some (.row .rw 0 [iv n, iv (min x.frm y.frm), iv 0])) = some (.row .rw 0 [iv n, iv f, iv 0]) := fun {f} => storeO_eq (n := 1) (cs := [iv n, iv (min x.frm y.frm), iv 0]) (x := iv f) ⟨rfl, by show 1 + 1 <= 3; decide, rfl⟩
     cases bx with
     | false =>
      simp only [G0, Z1, Z2, Z3, Z4, Z5, u0, u2, u3, u4, u5, u6, u7, rwS, encSpan, mm_max, hst1, Bool.not_true, Bool.not_false, cnd_t, cnd_f]
      exact ⟨_, rfl, ⟨u0, u2, u3, u4, u5, u6, u7⟩⟩
     | true =>
      cases bY with
      | false =>
       simp only [G0, Z1, Z2, Z3, Z4, Z5, u0, u2, u3, u4, u5, u6, u7, rwS, encSpan, mm_max, hst1, Bool.not_true, Bool.not_false, cnd_t, cnd_f]
       exact ⟨_, rfl, ⟨u0, u2, u3, u4, u5, u6, u7⟩⟩
      | true =>
       simp only [G0, Z1, Z2, Z3, Z4, Z5, u0, u2, u3, u4, u5, u6, u7, rwS, encSpan, mm_max, hst1, Bool.not_true, Bool.not_false, cnd_t, cnd_f]
       exact ⟨_, rfl, ⟨u0, u2, u3, u4, u5, u6, u7⟩⟩
    ·rintro s ⟨tm4, rfl, h4⟩
     exact q tm4 h4
structure KpT (tm : List (Nat × PV)) (a k : Nat) (n : Int) (x y ia ib : Bool) : Prop extends KpS tm a k n x y where
 t8 : tget tm 8 = bv ia
 t9 : tget tm 9 = bv ib
theorem sides {M : PMem} {a k : Nat} {n : Int} (X Y : Span × Bool) (f : Int) (tm : List (Nat × PV)) (hK : KpS tm a k n X.2 Y.2) {Q : AExit -> PSt -> Prop}
  (q : ∀ tm', KpT tm' a k n X.2 Y.2 (inS X f) (inS Y f) -> RX env Tryz.prog none c118_56 ⟨tm', 177, k, [rwS X.1, rwS Y.1, rwS ⟨n, f, 2147483647⟩], M⟩ Q) :
  RX env Tryz.prog none c118_58 ⟨tm, 177, k, [rwS X.1, rwS Y.1, rwS ⟨n, f, 0⟩], M⟩ Q := by
 obtain ⟨x, bx⟩ := X
 obtain ⟨y, bY⟩ := Y
 obtain ⟨u0, u2, u3, u4, u5, u6, u7⟩ := hK
 refine RX.cut (fun s => ∃ tm', s = ⟨tm', 177, k, [rwS x, rwS y, rwS ⟨n, f, 0⟩], M⟩ /\ KpT tm' a k n bx bY (inS (x, bx) f) (inS (y, bY) f)) (RX.of env_ok ?_) ?_
 ·cases bx with
  | false =>
   cases bY with
   | false =>
    simp only [G0, Z1, Z2, Z3, Z4, Z5, u0, u2, u3, u4, u5, u6, u7, rwS, encSpan, Bool.not_true, Bool.not_false, cnd_t, cnd_f]
    exact ⟨_, rfl, ⟨⟨u0, u2, u3, u4, u5, u6, u7⟩, rfl, rfl⟩⟩
   | true =>
    simp only [G0, Z1, Z2, Z3, Z4, Z5, u0, u2, u3, u4, u5, u6, u7, rwS, encSpan, Bool.not_true, Bool.not_false, cnd_t, cnd_f]
    exact ⟨_, rfl, ⟨⟨u0, u2, u3, u4, u5, u6, u7⟩, rfl, rfl⟩⟩
  | true =>
   cases bY with
   | false =>
    simp only [G0, Z1, Z2, Z3, Z4, Z5, u0, u2, u3, u4, u5, u6, u7, rwS, encSpan, Bool.not_true, Bool.not_false, cnd_t, cnd_f]
    exact ⟨_, rfl, ⟨⟨u0, u2, u3, u4, u5, u6, u7⟩, rfl, rfl⟩⟩
   | true =>
    simp only [G0, Z1, Z2, Z3, Z4, Z5, u0, u2, u3, u4, u5, u6, u7, rwS, encSpan, Bool.not_true, Bool.not_false, cnd_t, cnd_f]
    exact ⟨_, rfl, ⟨⟨u0, u2, u3, u4, u5, u6, u7⟩, rfl, rfl⟩⟩
 ·rintro s ⟨tm1, rfl, ⟨u0, u2, u3, u4, u5, u6, u7⟩, u8, u9⟩
  refine RX.cut (fun s => ∃ tm', s = ⟨tm', 177, k, [rwS x, rwS y, rwS ⟨n, f, 2147483647⟩], M⟩ /\ KpT tm' a k n bx bY (inS (x, bx) f) (inS (y, bY) f)) (RX.of env_ok ?_) ?_
  ·have hst2 : storeO 1 2 (iv 2147483647) (some (.row .rw 0 [iv n, iv f, iv 0])) = some (.row .rw 0 [iv n, iv f, iv 2147483647]) := storeO_eq (n := 1) (cs := [iv n, iv f, iv 0]) (x := iv 2147483647) ⟨rfl, by show 2 + 1 <= 3; decide, rfl⟩
   simp only [G0, Z1, Z2, Z3, Z4, Z5, u0, u2, u3, u4, u5, u6, u7, u8, u9, rwS, encSpan, hst2]
   exact ⟨_, rfl, ⟨⟨u0, u2, u3, u4, u5, u6, u7⟩, u8, u9⟩⟩
  ·rintro s ⟨tm2, rfl, h⟩
   exact q tm2 h
def zCells (X Y : Span × Bool) (ia ib : Bool) : List PV := [iv X.1.node, iv X.1.frm, iv X.1.to, bv X.2, bv ia, iv Y.1.node, iv Y.1.frm, iv Y.1.to, bv Y.2, bv ib]
theorem round38 {M : PMem} {a k : Nat} {n f t : Int} {X Y : Span × Bool} {ia ib : Bool} (x y : Span) (os : List Pm.Obj) (hos : os = [] \/ ∃ o1, os = [o1]) (j : Nat) (hj : j < 2) (Z : Span × Bool) (iz : Bool) (hz : (j = 0 /\ Z = X /\ iz = ia) \/ (j = 1 /\ Z = Y /\ iz = ib)) (hb : 0 <= Z.1.frm /\ Z.1.frm <= 4000000000) (hi : iz = true -> Z.2 = true) (tm : List (Nat × PV)) (hK : KpT tm a k n X.2 Y.2 ia ib)
  (t117 : tget tm 117 = .lst .full 5 2 (zCells X Y ia ib)) (t118 : tget tm 118 = iv ((2 : Nat) : Int)) (t119 : tget tm 119 = iv (j : Nat)) {Q : AExit -> PSt -> Prop}
  (q : ∀ tm' o, KpT tm' a k n X.2 Y.2 ia ib -> tget tm' 117 = .lst .full 5 2 (zCells X Y ia ib) -> tget tm' 118 = iv ((2 : Nat) : Int) -> tget tm' 119 = iv ((j + 1 : Nat) : Int) -> RXL env Tryz.prog none c118_38 ⟨tm', 177, k, rwS x :: rwS y :: rwS ⟨n, f, toS t Z iz⟩ :: (os ++ [o]), M⟩ Q) :
  RXL env Tryz.prog none c118_38 ⟨tm, 177, k, rwS x :: rwS y :: rwS ⟨n, f, t⟩ :: os, M⟩ Q := by
 obtain ⟨⟨u0, u2, u3, u4, u5, u6, u7⟩, u8, u9⟩ := hK
 have hlt : ((j : Nat) : Int) < ((2 : Nat) : Int) := by omega
 have hw : IntKind.i64.wrap (((j : Nat) : Int) + 1) = ((j + 1 : Nat) : Int) := by rw [wrap64_id (by omega) (by omega)]; rfl
 have hw2 : IntKind.i64.wrap (Z.1.frm - 1) = Z.1.frm - 1 := wrap64_id (by omega) (by omega)
 have hl5 : ptake true 5 (zCells X Y ia ib) (j * 5) = some (.agg [iv Z.1.node, iv Z.1.frm, iv Z.1.to, bv Z.2, bv iz]) := by
  rcases hz with ⟨rfl, rfl, rfl⟩ | ⟨rfl, rfl, rfl⟩ <;> rfl
 have hst5 : storeO 5 0 (.agg [iv Z.1.node, iv Z.1.frm, iv Z.1.to, bv Z.2, bv iz]) (some (.row .rw 0 [iv 0, iv 0, iv 0, bv false, bv false])) = some (.row .rw 0 [iv Z.1.node, iv Z.1.frm, iv Z.1.to, bv Z.2, bv iz]) := storeO_eq (n := 5) ⟨rfl, Nat.le_refl 5, rfl⟩
 have hst2 : ∀ {t' : Int}, storeO 1 2 (iv t') (some (.row .rw 0 [iv n, iv f, iv t])) = some (.row .rw 0 [iv n, iv f, iv t']) := fun {t'} => storeO_eq (n := 1) (cs := [iv n, iv f, iv t]) (x := iv t') ⟨rfl, by show 2 + 1 <= 3; decide, rfl⟩
 rcases hos with rfl | ⟨o1, rfl⟩
 ·refine RXL.round (RX.of env_ok ?_)
  cases iz with
  | true =>
   have hz2 := hi rfl
   simp only [G0, Z1, Z2, Z3, Z4, Z5, u0, u2, u3, u4, u5, u6, u7, u8, u9, t117, t118, t119, hlt, decide_true, hl5, hj, rwS, encSpan, hst5, mm_min, hst2, hw]
   exact q _ _ ⟨⟨u0, u2, u3, u4, u5, u6, u7⟩, u8, u9⟩ t117 t118 rfl
  | false =>
   cases hZ : Z.2 with
   | true =>
    rw [hZ] at hl5 hst5
    have hq : toS t Z false = min t (Z.1.frm - 1) := by unfold toS; rw [hZ]; rfl
    rw [hq] at q
    simp only [G0, Z1, Z2, Z3, Z4, Z5, u0, u2, u3, u4, u5, u6, u7, u8, u9, t117, t118, t119, hlt, decide_true, hl5, hj, rwS, encSpan, hst5, mm_min, hst2, hw, hw2]
    exact q _ _ ⟨⟨u0, u2, u3, u4, u5, u6, u7⟩, u8, u9⟩ t117 t118 rfl
   | false =>
    rw [hZ] at hl5 hst5
    have hq : toS t Z false = t := by unfold toS; rw [hZ]; rfl
    rw [hq] at q
    simp only [G0, Z1, Z2, Z3, Z4, Z5, u0, u2, u3, u4, u5, u6, u7, u8, u9, t117, t118, t119, hlt, decide_true, hl5, hj, rwS, encSpan, hst5, mm_min, hst2, hw]
    exact q _ _ ⟨⟨u0, u2, u3, u4, u5, u6, u7⟩, u8, u9⟩ t117 t118 rfl
 ·refine RXL.round (RX.of env_ok ?_)
  cases iz with
  | true =>
   have hz2 := hi rfl
   simp only [G0, Z1, Z2, Z3, Z4, Z5, u0, u2, u3, u4, u5, u6, u7, u8, u9, t117, t118, t119, hlt, decide_true, hl5, hj, rwS, encSpan, hst5, mm_min, hst2, hw]
   exact q _ _ ⟨⟨u0, u2, u3, u4, u5, u6, u7⟩, u8, u9⟩ t117 t118 rfl
  | false =>
   cases hZ : Z.2 with
   | true =>
    rw [hZ] at hl5 hst5
    have hq : toS t Z false = min t (Z.1.frm - 1) := by unfold toS; rw [hZ]; rfl
    rw [hq] at q
    simp only [G0, Z1, Z2, Z3, Z4, Z5, u0, u2, u3, u4, u5, u6, u7, u8, u9, t117, t118, t119, hlt, decide_true, hl5, hj, rwS, encSpan, hst5, mm_min, hst2, hw, hw2]
    exact q _ _ ⟨⟨u0, u2, u3, u4, u5, u6, u7⟩, u8, u9⟩ t117 t118 rfl
   | false =>
    rw [hZ] at hl5 hst5
    have hq : toS t Z false = t := by unfold toS; rw [hZ]; rfl
    rw [hq] at q
    simp only [G0, Z1, Z2, Z3, Z4, Z5, u0, u2, u3, u4, u5, u6, u7, u8, u9, t117, t118, t119, hlt, decide_true, hl5, hj, rwS, encSpan, hst5, mm_min, hst2, hw]
    exact q _ _ ⟨⟨u0, u2, u3, u4, u5, u6, u7⟩, u8, u9⟩ t117 t118 rfl
end Go.Proofs.YtlbjplpehkgcdaaGreatDoor
namespace Go.Proofs.YtlbjplpehkgcdaaGreatDoor
open Go Go.Am Go.Pm
theorem ztimes {M : PMem} {a k : Nat} {n f : Int} (X Y : Span × Bool) (ia ib : Bool) (hX : 0 <= X.1.frm /\ X.1.frm <= 4000000000) (hY : 0 <= Y.1.frm /\ Y.1.frm <= 4000000000) (hia : ia = true -> X.2 = true) (hib : ib = true -> Y.2 = true) (tm : List (Nat × PV)) (hK : KpT tm a k n X.2 Y.2 ia ib) {Q : AExit -> PSt -> Prop}
  (q : ∀ tm' o1 o2, KpT tm' a k n X.2 Y.2 ia ib -> RX env Tryz.prog none c118_55 ⟨tm', 177, k, [rwS X.1, rwS Y.1, rwS ⟨n, f, toS (toS 2147483647 X ia) Y ib⟩, o1, o2], M⟩ Q) :
  RX env Tryz.prog none c118_56 ⟨tm, 177, k, [rwS X.1, rwS Y.1, rwS ⟨n, f, 2147483647⟩], M⟩ Q := by
 obtain ⟨⟨u0, u2, u3, u4, u5, u6, u7⟩, u8, u9⟩ := hK
 refine RX.cut (fun s => ∃ tm' o1 o2, s = ⟨tm', 177, k, [rwS X.1, rwS Y.1, rwS ⟨n, f, toS (toS 2147483647 X ia) Y ib⟩, o1, o2], M⟩ /\ KpT tm' a k n X.2 Y.2 ia ib) (RX.of env_ok ?_) ?_
 ·simp only [G0, Z1, Z2, Z3, Z4, Z5, u0, u2, u3, u4, u5, u6, u7, u8, u9, rwS, encSpan]
  refine RX.loop ?_
  refine round38 (a := a) (X := X) (Y := Y) (ia := ia) (ib := ib) X.1 Y.1 [] (.inl rfl) 0 (by decide) X ia (.inl ⟨rfl, rfl, rfl⟩) hX hia _ ?_ ?_ ?_ ?_ fun tm1 o1 hK1 h117 h118 h119 => ?_
  ·exact ⟨⟨u0, u2, u3, u4, u5, u6, u7⟩, u8, u9⟩
  ·rfl
  ·rfl
  ·rfl
  refine round38 X.1 Y.1 [o1] (.inr ⟨o1, rfl⟩) 1 (by decide) Y ib (.inr ⟨rfl, rfl, rfl⟩) hY hib tm1 hK1 h117 h118 h119 fun tm2 o2 hK2 g117 g118 g119 => ?_
  refine RXL.round (RX.of env_ok ?_)
  simp only [G0, Z1, Z2, Z3, Z4, Z5, g118, g119, Int.lt_irrefl, decide_false]
  obtain ⟨⟨v0, v2, v3, v4, v5, v6, v7⟩, v8, v9⟩ := hK2
  exact ⟨_, o1, o2, rfl, ⟨⟨v0, v2, v3, v4, v5, v6, v7⟩, v8, v9⟩⟩
 ·rintro s ⟨tm', o1, o2, rfl, h⟩
  exact q tm' o1 o2 h
section
variable {M0 M M1 B' : PMem} {n0 a g k : Nat} {A B ro : List Span}
theorem Swp.base (h : Swp n0 B' M a g A B ro) (hs : Pm.Sub M0 B') : Swp n0 M0 M a g A B ro := by
 obtain ⟨va, vb, vo, h1, h2, h3, h4, h5, ⟨f1, f2, f3⟩, h7⟩ := h.vals
 exact ⟨hs.trans h.sub, fresh_of_sub hs h.new, va, vb, vo, h1, h2, h3, h4, h5, ⟨fun k e => fresh_of_sub hs (f1 k e), fun k e => fresh_of_sub hs (f2 k e), fun k e => fresh_of_sub hs (f3 k e)⟩, h7⟩
theorem Swp.push {os : List Pm.Obj} (h : Swp n0 M0 M a g A B ro) (hf : fresh M k) : Swp n0 (seg M0 k os) (seg M k os) a g A B ro := by
 obtain ⟨va, vb, vo, h1, h2, h3, h4, h5, ⟨f1, f2, f3⟩, h7⟩ := h.vals
 have hak : a ≠ k := fun e => by subst e; rw [hf 0] at h1; cases h1
 have ka := h2.key hf
 have kb := h3.key hf
 have ko := h4.key hf
 have key : ∀ {v : PV}, keyV v ≠ some k -> ∀ k' i, keyV v = some k' -> M k' i ≠ none -> seg M k os k' i = M k' i := fun {v} hv k' i e _ => seg_ne _ _ _ fun e' => hv (by rw [e, e'])
 exact ⟨sub_segs h.sub, fresh_seg h.new hak, va, vb, vo, by rw [seg_ne _ _ _ hak]; exact h1, h2.frame (key ka), h3.frame (key kb), h4.frame (key ko), h5, ⟨fun k' e => fresh_seg (f1 k' e) fun e' => ka (by rw [e, e']), fun k' e => fresh_seg (f2 k' e) fun e' => kb (by rw [e, e']), fun k' e => fresh_seg (f3 k' e) fun e' => ko (by rw [e, e'])⟩, h7⟩
theorem Swp.re {o : Pm.Obj} {os os' : List Pm.Obj} (h : Swp n0 (seg M0 k (o :: os)) M1 a g A B ro) : Swp n0 M0 (seg M1 k os') a g A B ro /\ True \/ ¬ fresh M0 k := by
 by_cases hf : fresh M0 k
 ·refine .inl ⟨?_, trivial⟩
  obtain ⟨va, vb, vo, h1, h2, h3, h4, h5, ⟨f1, f2, f3⟩, h7⟩ := h.vals
  have hak := ne_of_fresh h.new
  have key : ∀ {v : PV}, (∀ k', keyV v = some k' -> fresh (seg M0 k (o :: os)) k') -> ∀ k' i, keyV v = some k' -> M1 k' i ≠ none -> seg M1 k os' k' i = M1 k' i := fun {v} hv k' i e _ => seg_ne _ _ _ (ne_of_fresh (hv k' e))
  refine ⟨fun j i x e => ?_, fresh_unseg h.new, va, vb, vo, by rw [seg_ne _ _ _ hak]; exact h1, h2.frame (key f1), h3.frame (key f2), h4.frame (key f3), h5, ⟨fun k' e => fresh_unseg (f1 k' e), fun k' e => fresh_unseg (f2 k' e), fun k' e => fresh_unseg (f3 k' e)⟩, h7⟩
  have hj : j ≠ k := fun e' => by subst e'; rw [hf i] at e; cases e
  rw [seg_ne _ _ _ hj]
  exact h.sub _ _ _ (by rw [seg_ne _ _ _ hj]; exact e)
 ·exact .inr hf
theorem Swp.re' {o : Pm.Obj} {os : List Pm.Obj} (h : Swp n0 (seg M0 k (o :: os)) M1 a g A B ro) : Swp n0 (seg M0 k (o :: os)) (seg M1 k (o :: os)) a g A B ro := by
 obtain ⟨va, vb, vo, h1, h2, h3, h4, h5, ⟨f1, f2, f3⟩, h7⟩ := h.vals
 have hak := ne_of_fresh h.new
 have key : ∀ {v : PV}, (∀ k', keyV v = some k' -> fresh (seg M0 k (o :: os)) k') -> ∀ k' i, keyV v = some k' -> M1 k' i ≠ none -> seg M1 k (o :: os) k' i = M1 k' i := fun {v} hv k' i e _ => seg_ne _ _ _ (ne_of_fresh (hv k' e))
 exact ⟨sub_re h.sub, h.new, va, vb, vo, by rw [seg_ne _ _ _ hak]; exact h1, h2.frame (key f1), h3.frame (key f2), h4.frame (key f3), h5, ⟨f1, f2, f3⟩, h7⟩
end
theorem Swp.add {n0 : Nat} {M0 M : PMem} {a g : Nat} {A B ro : List Span} (h : Swp n0 M0 M a g A B ro) (hl : ro.length <= 1000000) (hp : ∀ p r, ro = p :: r -> 0 <= p.to /\ p.to <= 4000000000) (x : Span) : PTk env Tryz.prog 138 [.ptr a 0 0, spV x] M (fun nk _ M1 => n0 <= nk -> Swp n0 M0 M1 a g A B (addR ro x)) := by
 obtain ⟨va, vb, vo, h1, h2, h3, h4, ⟨n1, n2, n3⟩, ⟨f1, f2, f3⟩, ⟨d1, d2, d3⟩, h8⟩ := h.vals
 refine (add_at h1 h4 n3 hl hp x).mono ?_
 rintro nk y M1 ⟨vo', q1, q2, q3, q4⟩ hn0
 have fr0 : ∀ k, fresh M k -> fresh M0 k := fun k hk => fresh_of_sub h.sub hk
 have nk : ∀ {v : PV} {l : List Span}, LsV M v l -> ∀ k, fresh M k -> keyV v ≠ some k := fun hv k hk => hv.key hk
 refine ⟨fun j i o e => ?_, h.new, va, vb, vo', q1, h2.frame fun k' i e ne => q4 k' i (fun e' => n1 (by rw [e, e'])) (fun e' => d2 k' e e') ne, h3.frame fun k' i e ne => q4 k' i (fun e' => n2 (by rw [e, e'])) (fun e' => d3 k' e e') ne, q2, ⟨n1, n2, ?_⟩, ⟨f1, f2, fun k' e => ?_⟩, ⟨d1, fun k' e e' => ?_, fun k' e e' => ?_⟩, fun k' e => ?_⟩
 ·have hj : j ≠ a := fun e' => by subst e'; rw [h.new i] at e; cases e
  have ho := h.sub _ _ _ e
  rw [q4 j i hj (fun e' => by rw [f3 j e' i] at e; cases e) (by rw [ho]; exact fun h => by cases h)]
  exact ho
 ·rcases q3 with q3 | ⟨k, hnk, hk, q3⟩
  ·rw [q3]; exact n3
  ·rw [q3]; intro e'; cases e'; rw [hk 0] at h1; cases h1
 ·rcases q3 with q3 | ⟨k, hnk, hk, q3⟩
  ·exact f3 k' (by rw [<- q3]; exact e)
  ·rw [q3] at e; cases e; exact fr0 _ hk
 ·rcases q3 with q3 | ⟨k, hnk, hk, q3⟩
  ·exact d2 k' e (by rw [<- q3]; exact e')
  ·rw [q3] at e'; cases e'; exact nk h2 _ hk e
 ·rcases q3 with q3 | ⟨k, hnk, hk, q3⟩
  ·exact d3 k' e (by rw [<- q3]; exact e')
  ·rw [q3] at e'; cases e'; exact nk h3 _ hk e
 ·rcases q3 with q3 | ⟨k, hnk, hk, q3⟩
  ·exact h8 k' (by rw [<- q3]; exact e)
  ·rw [q3] at e; cases e; omega
end Go.Proofs.YtlbjplpehkgcdaaGreatDoor
namespace Go.Proofs.YtlbjplpehkgcdaaGreatDoor
open Go Go.Am Go.Pm
section
variable {M0 M M1 : PMem} {n0 a g k : Nat} {A B ro : List Span}
theorem LsV.one {v : PV} {l : List Span} (h : LsV M v l) : pcells v = [v] /\ pone v = true := by
 cases h with
 | nil e => exact ⟨rfl, rfl⟩
 | row hM hj hc => exact ⟨rfl, rfl⟩
theorem Swp.sideA (h : Swp n0 M0 M a g A B ro) : ∃ va vb vo, M a 0 = some (.row .rw 0 [va, vb, .fn g [] [], vo]) /\ LsV M va A /\ ∀ x M1 A', LsV M1 x A' -> keyV x = keyV va -> (∀ k i, keyV va ≠ some k -> M1 k i = M k i) →
  Pm.Sub M0 M1 /\ M1 a 0 = some (.row .rw 0 [va, vb, .fn g [] [], vo]) /\ storeO 1 0 x (some (.row .rw 0 [va, vb, .fn g [] [], vo])) = some (.row .rw 0 [x, vb, .fn g [] [], vo]) /\ Swp n0 M0 (putM M1 a 0 (.row .rw 0 [x, vb, .fn g [] [], vo])) a g A' B ro := by
 obtain ⟨va, vb, vo, h1, h2, h3, h4, ⟨n1, n2, n3⟩, ⟨f1, f2, f3⟩, ⟨d1, d2, d3⟩, h8⟩ := h.vals
 refine ⟨va, vb, vo, h1, h2, fun x M1 A' hx hk hf => ?_⟩
 have hs : Pm.Sub M0 M1 := fun j i o e => by
  rw [hf j i (fun e' => by rw [f1 j e' i] at e; cases e)]; exact h.sub _ _ _ e
 have nx : keyV x ≠ some a := by rw [hk]; exact n1
 obtain ⟨c1, c2⟩ := hx.one
 refine ⟨hs, by rw [hf a 0 n1]; exact h1, ?_, ?_⟩
 ·rw [storeO_eq (n := 1) ⟨by rw [c1]; rfl, by rw [c1]; show 0 + 1 <= 4; decide, by rw [c1]; simp [c2]⟩, c1]; rfl
 ·refine ⟨fun j i o e => ?_, h.new, x, vb, vo, putM_same _ _ _ _, ?_, ?_, ?_, ⟨nx, n2, n3⟩, ⟨fun k' e => f1 k' (by rw [<- hk]; exact e), f2, f3⟩, ⟨fun k' e => d1 k' (by rw [<- hk]; exact e), fun k' e => d2 k' (by rw [<- hk]; exact e), d3⟩, h8⟩
  ·have hj : j ≠ a := fun e' => by subst e'; rw [h.new i] at e; cases e
   rw [put_ne (fun y => hj y.1)]; exact hs _ _ _ e
  ·exact hx.frame fun k' i e _ => put_ne fun y => nx (by rw [e, y.1])
  ·exact h3.frame fun k' i e _ => by rw [put_ne (fun y => n2 (by rw [e, y.1])), hf k' i (fun e' => d1 k' e' e)]
  ·exact h4.frame fun k' i e _ => by rw [put_ne (fun y => n3 (by rw [e, y.1])), hf k' i (fun e' => d2 k' e' e)]
theorem Swp.sideB (h : Swp n0 M0 M a g A B ro) : ∃ va vb vo, M a 0 = some (.row .rw 0 [va, vb, .fn g [] [], vo]) /\ LsV M vb B /\ ∀ x M1 B', LsV M1 x B' -> keyV x = keyV vb -> (∀ k i, keyV vb ≠ some k -> M1 k i = M k i) →
  Pm.Sub M0 M1 /\ M1 a 0 = some (.row .rw 0 [va, vb, .fn g [] [], vo]) /\ storeO 1 1 x (some (.row .rw 0 [va, vb, .fn g [] [], vo])) = some (.row .rw 0 [va, x, .fn g [] [], vo]) /\ Swp n0 M0 (putM M1 a 0 (.row .rw 0 [va, x, .fn g [] [], vo])) a g A B' ro := by
 obtain ⟨va, vb, vo, h1, h2, h3, h4, ⟨n1, n2, n3⟩, ⟨f1, f2, f3⟩, ⟨d1, d2, d3⟩, h8⟩ := h.vals
 refine ⟨va, vb, vo, h1, h3, fun x M1 B' hx hk hf => ?_⟩
 have hs : Pm.Sub M0 M1 := fun j i o e => by
  rw [hf j i (fun e' => by rw [f2 j e' i] at e; cases e)]; exact h.sub _ _ _ e
 have nx : keyV x ≠ some a := by rw [hk]; exact n2
 obtain ⟨c1, c2⟩ := hx.one
 refine ⟨hs, by rw [hf a 0 n2]; exact h1, ?_, ?_⟩
 ·rw [storeO_eq (n := 1) ⟨by rw [c1]; rfl, by rw [c1]; show 1 + 1 <= 4; decide, by rw [c1]; simp [c2]⟩, c1]; rfl
 ·refine ⟨fun j i o e => ?_, h.new, va, x, vo, putM_same _ _ _ _, ?_, ?_, ?_, ⟨n1, nx, n3⟩, ⟨f1, fun k' e => f2 k' (by rw [<- hk]; exact e), f3⟩, ⟨fun k' e e' => d1 k' e (by rw [<- hk]; exact e'), d2, fun k' e => d3 k' (by rw [<- hk]; exact e)⟩, h8⟩
  ·have hj : j ≠ a := fun e' => by subst e'; rw [h.new i] at e; cases e
   rw [put_ne (fun y => hj y.1)]; exact hs _ _ _ e
  ·exact h2.frame fun k' i e _ => by rw [put_ne (fun y => n1 (by rw [e, y.1])), hf k' i (fun e' => d1 k' e e')]
  ·exact hx.frame fun k' i e _ => put_ne fun y => nx (by rw [e, y.1])
  ·exact h4.frame fun k' i e _ => by rw [put_ne (fun y => n3 (by rw [e, y.1])), hf k' i (fun e' => d3 k' e' e)]
theorem Swp.leave {o : Pm.Obj} {os os' os2 : List Pm.Obj} (h : Swp n0 (seg M0 k (o :: os)) (seg M k os') a g A B ro) (hf : fresh M0 k) : Swp n0 M0 (seg M k os2) a g A B ro := by
 rcases h.re (os' := os2) with h | h
 ·rw [seg_seg] at h; exact h.1
 ·exact absurd hf h
end
theorem keep45 {M0 M : PMem} {n0 a g k : Nat} (hn0 : n0 <= k) {A B ro : List Span} {os : List Pm.Obj} (keep : Bool -> Bool -> Bool) (hg : ∀ x y, PTp env Tryz.prog g [bv x, bv y] (bv (keep x y))) {n : Int} {x y ia ib : Bool} (X Y N : Span) (o1 o2 : Pm.Obj) (tm : List (Nat × PV)) (hK : KpT tm a k n x y ia ib) (hos : os = [rwS X, rwS Y, rwS N, o1, o2])
  (h : Swp n0 (seg M0 k os) (seg M k os) a g A B ro) (hl : ro.length <= 1000000) (hp : ∀ p r, ro = p :: r -> 0 <= p.to /\ p.to <= 4000000000) {Q : AExit -> PSt -> Prop}
  (q : ∀ tm' M1, KpT tm' a k n x y ia ib -> Swp n0 (seg M0 k os) (seg M1 k os) a g A B (if keep ia ib then addR ro N else ro) -> RX env Tryz.prog none c118_54 ⟨tm', 177, k, os, M1⟩ Q) :
  RX env Tryz.prog none c118_55 ⟨tm, 177, k, os, M⟩ Q := by
 subst hos
 obtain ⟨⟨u0, u2, u3, u4, u5, u6, u7⟩, u8, u9⟩ := hK
 have hak := ne_of_fresh h.new
 obtain ⟨va, vb, vo, h1, -⟩ := h.vals
 rw [seg_ne _ _ _ hak] at h1
 have hlda : ∀ {ag : Bool} {n o : Nat} {os : List Pm.Obj}, loadP k os M ag n (.ptr a 0 o) = rowTake ag n o (M a 0) := loadP_out hak
 refine RX.cut (fun s => ∃ tm' M1, s = ⟨tm', 177, k, [rwS X, rwS Y, rwS N, o1, o2], M1⟩ /\ KpT tm' a k n x y ia ib /\ Swp n0 (seg M0 k [rwS X, rwS Y, rwS N, o1, o2]) (seg M1 k [rwS X, rwS Y, rwS N, o1, o2]) a g A B (if keep ia ib then addR ro N else ro)) (RX.of env_ok ?_) ?_
 ·simp only [G0, Z1, Z2, Z3, Z4, Z5, u0, u8, u9, hlda, h1]
  refine cp0 (hg ia ib) (by decide) ?_
  simp only [G0, Z1, Z2, Z3, Z4, Z5]
  cases hkp : keep ia ib with
  | false =>
   simp only [G0, Z1, Z2, Z3, Z4, Z5]
   exact ⟨_, _, rfl, ⟨⟨u0, u2, u3, u4, u5, u6, u7⟩, u8, u9⟩, h⟩
  | true =>
   simp only [G0, Z1, Z2, Z3, Z4, Z5, u0, u7, rwS, encSpan]
   refine cmk (first := []) (cap := []) ((h.add hl hp N).mono ?_)
   intro nk z M1 h' hlt
   have h' := h' (by omega)
   refine ⟨[rwS X, rwS Y, rwS N, o1, o2], M1, rfl, mle_re h'.sub, by decide, ?_⟩
   simp only [G0, Z1, Z2, Z3, Z4, Z5]
   exact ⟨_, _, rfl, ⟨⟨u0, u2, u3, u4, u5, u6, u7⟩, u8, u9⟩, h'.re'⟩
 ·rintro s ⟨tm', M1, rfl, hK', h'⟩
  exact q tm' M1 hK' h'
end Go.Proofs.YtlbjplpehkgcdaaGreatDoor
namespace Go.Proofs.YtlbjplpehkgcdaaGreatDoor
open Go Go.Am Go.Pm
theorem left49 {M0 M : PMem} {n0 a g k : Nat} {A B ro : List Span} {os : List Pm.Obj} {n : Int} {x y ia ib : Bool} (X Y N : Span) (o1 o2 : Pm.Obj) (tm : List (Nat × PV)) (hK : KpT tm a k n x y ia ib) (hos : os = [rwS X, rwS Y, rwS N, o1, o2])
  (h : Swp n0 (seg M0 k os) (seg M k os) a g A B ro) (hA : ia = true -> A ≠ []) (ht : 0 <= N.to /\ N.to <= 4000000000) {Q : AExit -> PSt -> Prop}
  (q : ∀ tm' M1, KpT tm' a k n x y ia ib -> Swp n0 (seg M0 k os) (seg M1 k os) a g (restS A ia N.to) B ro -> RX env Tryz.prog none c118_53 ⟨tm', 177, k, os, M1⟩ Q) :
  RX env Tryz.prog none c118_54 ⟨tm, 177, k, os, M⟩ Q := by
 subst hos
 obtain ⟨⟨u0, u2, u3, u4, u5, u6, u7⟩, u8, u9⟩ := hK
 have hak := ne_of_fresh h.new
 obtain ⟨va, vb, vo, h1, h2, h3⟩ := h.sideA
 rw [seg_ne _ _ _ hak] at h1
 have hlda : ∀ {ag : Bool} {n o : Nat} {os : List Pm.Obj}, loadP k os M ag n (.ptr a 0 o) = rowTake ag n o (M a 0) := loadP_out hak
 refine RX.cut (fun s => ∃ tm' M1, s = ⟨tm', 177, k, [rwS X, rwS Y, rwS N, o1, o2], M1⟩ /\ KpT tm' a k n x y ia ib /\ Swp n0 (seg M0 k [rwS X, rwS Y, rwS N, o1, o2]) (seg M1 k [rwS X, rwS Y, rwS N, o1, o2]) a g (restS A ia N.to) B ro) (RX.of env_ok ?_) ?_
 ·cases ia with
  | false =>
   simp only [G0, Z1, Z2, Z3, Z4, Z5, u8]
   exact ⟨_, _, rfl, ⟨⟨u0, u2, u3, u4, u5, u6, u7⟩, u8, u9⟩, h⟩
  | true =>
   cases A with
   | nil => exact absurd rfl (hA rfl)
   | cons z r =>
    simp only [G0, Z1, Z2, Z3, Z4, Z5, u0, u7, u8, hlda, h1, rwS, encSpan]
    refine cm (first := []) (cap := []) ((behind_at h2 N.to ht).mono ?_)
    rintro v M1 ⟨q1, q2, q3⟩
    obtain ⟨s1, s2, s3, s4⟩ := h3 v M1 _ q1 q2 q3
    refine ⟨[rwS X, rwS Y, rwS N, o1, o2], M1, rfl, mle_re s1, by decide, ?_⟩
    have hst : ∀ {tm : List (Nat × PV)} {os : List Pm.Obj}, storeP tm 177 k os M1 1 v (.ptr a 0 0) = some (.junk, ⟨tm, 177, k, os, putM M1 a 0 (.row .rw 0 [v, vb, .fn g [] [], vo])⟩) := fun {tm os} => by
     rw [storeP_out hak, s2, s3, stO_eq]
    simp only [G0, Z1, Z2, Z3, Z4, Z5, u0, hst]
    exact ⟨_, _, rfl, ⟨⟨u0, u2, u3, u4, u5, u6, u7⟩, u8, u9⟩, s4.re'⟩
 ·rintro s ⟨tm', M1, rfl, hK', h'⟩
  exact q tm' M1 hK' h'
theorem left53 {M0 M : PMem} {n0 a g k : Nat} {A B ro : List Span} {os : List Pm.Obj} {n : Int} {x y ia ib : Bool} (X Y N : Span) (o1 o2 : Pm.Obj) (tm : List (Nat × PV)) (hK : KpT tm a k n x y ia ib) (hos : os = [rwS X, rwS Y, rwS N, o1, o2])
  (h : Swp n0 (seg M0 k os) (seg M k os) a g A B ro) (hB : ib = true -> B ≠ []) (ht : 0 <= N.to /\ N.to <= 4000000000) :
  RX env Tryz.prog none c118_53 ⟨tm, 177, k, os, M⟩ (fun e s => e = .normal /\ ∃ tm' M1, s = ⟨tm', 177, k, os, M1⟩ /\ Swp n0 (seg M0 k os) (seg M1 k os) a g A (restS B ib N.to) ro) := by
 subst hos
 obtain ⟨⟨u0, u2, u3, u4, u5, u6, u7⟩, u8, u9⟩ := hK
 have hak := ne_of_fresh h.new
 obtain ⟨va, vb, vo, h1, h2, h3⟩ := h.sideB
 rw [seg_ne _ _ _ hak] at h1
 have hlda : ∀ {ag : Bool} {n o : Nat} {os : List Pm.Obj}, loadP k os M ag n (.ptr a 0 o) = rowTake ag n o (M a 0) := loadP_out hak
 refine RX.of env_ok ?_
 cases ib with
 | false =>
  simp only [G0, Z1, Z2, Z3, Z4, Z5, u9]
  exact ⟨_, _, rfl, h⟩
 | true =>
  cases B with
  | nil => exact absurd rfl (hB rfl)
  | cons z r =>
   simp only [G0, Z1, Z2, Z3, Z4, Z5, u0, u7, u9, hlda, h1, rwS, encSpan]
   refine cm (first := []) (cap := []) ((behind_at h2 N.to ht).mono ?_)
   rintro v M1 ⟨q1, q2, q3⟩
   obtain ⟨s1, s2, s3, s4⟩ := h3 v M1 _ q1 q2 q3
   refine ⟨[rwS X, rwS Y, rwS N, o1, o2], M1, rfl, mle_re s1, by decide, ?_⟩
   have hst : ∀ {tm : List (Nat × PV)} {os : List Pm.Obj}, storeP tm 177 k os M1 1 v (.ptr a 0 1) = some (.junk, ⟨tm, 177, k, os, putM M1 a 0 (.row .rw 0 [va, v, .fn g [] [], vo])⟩) := fun {tm os} => by
    rw [storeP_out hak, s2, s3, stO_eq]
   simp only [G0, Z1, Z2, Z3, Z4, Z5, u0, hst]
   exact ⟨_, _, rfl, s4.re'⟩
theorem hdS_in {l : List Span} {n f : Int} (h : inS (hdS l n) f = true) : l ≠ [] := by
 rintro rfl
 simp [inS, hdS] at h
theorem hdS_ok {l : List Span} (h : OkL l) (n : Int) : 0 <= (hdS l n).1.frm /\ (hdS l n).1.frm <= 4000000000 := by
 cases l with
 | nil => exact ⟨Int.le_refl 0, by show (0 : Int) <= 4000000000; decide⟩
 | cons x r =>
  have hx := h.1
  unfold SpOk at hx
  unfold hdS
  dsimp only
  by_cases e : x.node = n
  ·rw [if_pos e]; dsimp only; omega
  ·rw [if_neg e]; exact ⟨by decide, by decide⟩
theorem Swp.weak {n0 n1 : Nat} {M0 M : PMem} {a g : Nat} {A B ro : List Span} (h : Swp n0 M0 M a g A B ro) (hn : n1 <= n0) : Swp n1 M0 M a g A B ro := by
 obtain ⟨va, vb, vo, h1, h2, h3, h4, h5, h6, h7, h8⟩ := h.vals
 exact ⟨h.sub, h.new, va, vb, vo, h1, h2, h3, h4, h5, h6, h7, fun k e => Nat.le_trans hn (h8 k e)⟩
theorem step_at {n0 : Nat} {M0 M : PMem} {a g : Nat} {A B ro : List Span} (keep : Bool -> Bool -> Bool) (hg : ∀ x y, PTp env Tryz.prog g [bv x, bv y] (bv (keep x y))) (h : Swp n0 M0 M a g A B ro) (hA : OkL A) (hB : OkL B) (hne : A ≠ [] \/ B ≠ []) (hl : ro.length <= 1000000) (hp : ∀ p r, ro = p :: r -> 0 <= p.to /\ p.to <= 4000000000) :
  PTk env Tryz.prog 118 [.ptr a 0 0] M (fun nk _ M1 => n0 <= nk -> Swp n0 M0 M1 a g (restS A (stepS A B).ia (stepS A B).x.to) (restS B (stepS A B).ib (stepS A B).x.to) (if keep (stepS A B).ia (stepS A B).ib then addR ro (stepS A B).x else ro)) := by
 obtain ⟨hx, -⟩ := stepS_ok hA hB hne
 have hx' : 0 <= (stepS A B).x.to /\ (stepS A B).x.to <= 4000000000 := by unfold SpOk at hx; omega
 refine PTk.enterR env_ok fn118 (by simp) comp118 fun k hk hf => ?_
 obtain ⟨va, vb, vo, h1, h2, h3, -⟩ := h.vals
 have hf0 : fresh M0 k := fresh_of_sub h.sub hf
 refine RX.cut (fun s => ∃ tm', s = ⟨tm', 177, k, [], M⟩ /\ tget tm' 0 = .ptr a 0 0) (RX.of env_ok ?_) ?_
 ·simp only [G0, Z1, Z2, Z3, Z4, Z5, argsP]
  exact ⟨_, rfl, rfl⟩
 rintro s ⟨tm0, rfl, t0⟩
 refine RX.cut (fun s => ∃ tm', s = ⟨tm', 177, k, [], M⟩ /\ tget tm' 0 = .ptr a 0 0 /\ tget tm' 2 = iv (nodeS A B)) ((node10 h1 h2 h3 hne hf tm0 t0).mono ?_) ?_
 ·rintro e s ⟨rfl, w⟩; exact ⟨rfl, w⟩
 rintro s ⟨tm1, rfl, t0, t2⟩
 refine heads h1 h2 h3 hf (nodeS A B) tm1 t0 t2 fun tm2 hK => ?_
 refine sides (hdS A (nodeS A B)) (hdS B (nodeS A B)) (frmS (hdS A (nodeS A B)) (hdS B (nodeS A B))) tm2 hK fun tm3 hK => ?_
 refine ztimes (hdS A (nodeS A B)) (hdS B (nodeS A B)) _ _ (hdS_ok hA _) (hdS_ok hB _) (fun e => by simp only [inS, Bool.and_eq_true] at e; exact e.1) (fun e => by simp only [inS, Bool.and_eq_true] at e; exact e.1) tm3 hK fun tm4 o1 o2 hK => ?_
 refine keep45 (Nat.min_le_right n0 k) keep hg (hdS A (nodeS A B)).1 (hdS B (nodeS A B)).1 (stepS A B).x o1 o2 tm4 hK rfl ((h.weak (Nat.min_le_left n0 k)).push hf) hl hp fun tm5 M1 hK h5 => ?_
 refine left49 (hdS A (nodeS A B)).1 (hdS B (nodeS A B)).1 (stepS A B).x o1 o2 tm5 hK rfl h5 hdS_in hx' fun tm6 M2 hK h6 => ?_
 refine (left53 (hdS A (nodeS A B)).1 (hdS B (nodeS A B)).1 (stepS A B).x o1 o2 tm6 hK rfl h6 hdS_in hx').mono ?_
 rintro e s ⟨rfl, tm7, M3, rfl, h7⟩
 refine endN fun hn => ?_
 have := Swp.leave (os2 := [rwS (hdS A (nodeS A B)).1, rwS (hdS B (nodeS A B)).1, rwS (stepS A B).x, o1, o2]) h7 hf0
 rw [Nat.min_eq_left hn] at this
 exact this
end Go.Proofs.YtlbjplpehkgcdaaGreatDoor
namespace Go.Proofs.YtlbjplpehkgcdaaGreatDoor
open Go Go.Am Go.Pm
def ownRow (va vb : PV) (g : Nat) (vo : PV) : Pm.Obj := .row .rw 0 [va, vb, .fn g [] [], vo]
theorem OutV.len {M : PMem} {v : PV} {l : List Span} (h : OutV M v l) : lenL v = some (iv (l.length : Nat)) := by
 cases h with
 | nil e => rfl
 | row hM hw => rfl
structure SwO (M0 M : PMem) (k g : Nat) (va vb vo : PV) (A B ro : List Span) : Prop where
 swp : Swp k M0 (seg M k [ownRow va vb g vo]) k g A B ro
 la : LsV M va A
 lb : LsV M vb B
 lo : OutV M vo ro
 ka : keyV va ≠ some k
 kb : keyV vb ≠ some k
 ko : keyV vo ≠ some k
 kn : ∀ j, keyV vo = some j -> k <= j /\ fresh M0 j
 sub : Pm.Sub M0 M
theorem Swp.own {M0 M : PMem} {k g : Nat} {A B ro : List Span} (h : Swp k M0 M k g A B ro) : ∃ va vb vo, MLe M (seg M k [ownRow va vb g vo]) /\ SwO M0 M k g va vb vo A B ro := by
 obtain ⟨va, vb, vo, h1, h2, h3, h4, ⟨n1, n2, n3⟩, h6, h7, h8⟩ := h.vals
 have key : ∀ {v : PV}, keyV v ≠ some k -> ∀ k' i, keyV v = some k' -> M k' i ≠ none -> seg M k [ownRow va vb g vo] k' i = M k' i := fun {v} hv k' i e _ => seg_ne _ _ _ fun e' => hv (by rw [e, e'])
 refine ⟨va, vb, vo, fun j i o e => ?_, ⟨⟨fun j i o e => ?_, h.new, va, vb, vo, by rw [seg_same]; rfl, h2.frame (key n1), h3.frame (key n2), h4.frame (key n3), ⟨n1, n2, n3⟩, h6, h7, h8⟩, h2, h3, h4, n1, n2, n3, fun j e => ⟨h8 j e, h6.2.2 j e⟩, h.sub⟩⟩
 ·by_cases hj : j = k
  ·subst hj
   rw [seg_same] at e
   cases i with
   | zero =>
    have e' : some (ownRow va vb g vo) = some o := e
    exact ⟨_, h1, by cases e'; exact .refl _⟩
   | succ i => cases e
  ·rw [seg_ne _ _ _ hj] at e
   exact ⟨o, e, .refl _⟩
 ·by_cases hj : j = k
  ·subst hj; rw [h.new i] at e; cases e
  ·rw [seg_ne _ _ _ hj]; exact h.sub _ _ _ e
theorem step_inv (keep : Bool -> Bool -> Bool) {a b ro : List Span} (hro : OkR ro) (hba : befL ro a) (hbb : befL ro b) (ha : OkL a) (hb : OkL b) (hne : a ≠ [] \/ b ≠ []) :
  let a' := restS a (stepS a b).ia (stepS a b).x.to
  let b' := restS b (stepS a b).ib (stepS a b).x.to
  let ro' := if keep (stepS a b).ia (stepS a b).ib then addR ro (stepS a b).x else ro
  OkR ro' /\ befL ro' a' /\ befL ro' b' /\ OkL a' /\ OkL b' /\ tot a' + tot b' < tot a + tot b /\ a'.length <= a.length /\ b'.length <= b.length := by
 obtain ⟨hx, hor, sa, sb, _⟩ := stepS_ok ha hb hne
 intro a' b' ro'
 have hx' := hx
 unfold SpOk at hx'
 obtain ⟨ka1, ka2, ka3, ka4⟩ := sa.ok (by omega) ha
 obtain ⟨kb1, kb2, kb3, kb4⟩ := sb.ok (by omega) hb
 have hbx : befR ro (stepS a b).x := by
  cases hia : (stepS a b).ia with
  | true => rw [hia] at sa; exact befL_in hba sa
  | false => cases hib : (stepS a b).ib with
   | true => rw [hib] at sb; exact befL_in hbb sb
   | false => rw [hia, hib] at hor; cases hor
 obtain ⟨q1, q2, p, r, q3, q4, q5⟩ := addR_ok hro hx hbx
 have hro' : OkR ro' /\ befL ro' a' /\ befL ro' b' := by
  show OkR (if keep (stepS a b).ia (stepS a b).ib then addR ro (stepS a b).x else ro) /\ befL (if keep (stepS a b).ia (stepS a b).ib then addR ro (stepS a b).x else ro) a' /\ befL (if keep (stepS a b).ia (stepS a b).ib then addR ro (stepS a b).x else ro) b'
  cases hkk : keep (stepS a b).ia (stepS a b).ib with
  | true => rw [if_pos rfl]; exact ⟨q1, befL_add q3 q4 q5 ka2, befL_add q3 q4 q5 kb2⟩
  | false => rw [if_neg (by decide)]; exact ⟨hro, befL_step hba (by omega) sa, befL_step hbb (by omega) sb⟩
 refine ⟨hro'.1, hro'.2.1, hro'.2.2, ka1, kb1, ?_, side_len sa, side_len sb⟩
 cases hia : (stepS a b).ia <;> cases hib : (stepS a b).ib <;> simp [hia, hib] at hor ka3 kb3 <;> simp [a', b', hia, hib] <;> omega
theorem sweepR_mono (keep : Bool -> Bool -> Bool) : ∀ (k : Nat) (a b ro : List Span), ro.length <= (sweepR keep k a b ro).length
 | 0, _, _, _ => Nat.le_refl _
 | k + 1, a, b, ro => by
  unfold sweepR
  by_cases h0 : a.length + b.length = 0
  ·rw [if_pos h0]; exact Nat.le_refl _
  ·rw [if_neg h0]
   dsimp only
   refine Nat.le_trans ?_ (sweepR_mono keep k _ _ _)
   split
   ·have l3 := addR_len ro (stepS a b).x
    have : conx ro (stepS a b).x <= 1 := by unfold conx; split <;> (try split) <;> omega
    omega
   ·exact Nat.le_refl _
theorem loop76 (keep : Bool -> Bool -> Bool) {g : Nat} (hg : ∀ x y, PTp env Tryz.prog g [bv x, bv y] (bv (keep x y))) {M0 : PMem} {k : Nat} {Q : AExit -> PSt -> Prop} (R : List Span)
  (q : ∀ tm M va vb vo, tget tm 8 = .ptr k 0 0 -> SwO M0 M k g va vb vo [] [] R -> Q (.exit 0) ⟨tm, 48, k, [ownRow va vb g vo], M⟩) (hR : R.length <= 1000000) :
  ∀ d A B ro M va vb vo tm, tget tm 8 = .ptr k 0 0 -> SwO M0 M k g va vb vo A B ro -> sweepR keep d A B ro = R -> tot A + tot B < d -> OkR ro -> befL ro A -> befL ro B -> OkL A -> OkL B -> A.length <= 4000 -> B.length <= 4000 →
  RXL env Tryz.prog none c103_12 ⟨tm, 48, k, [ownRow va vb g vo], M⟩ Q := by
 intro d
 induction d with
 | zero => intro A B ro M va vb vo tm _ _ _ h; omega
 | succ d ih =>
  intro A B ro M va vb vo tm t8 hS hd hlt hro hba hbb hA hB hla hlb
  have lA := hS.la.len
  have lB := hS.lb.len
  have hw : IntKind.i64.wrap ((A.length : Nat) + (B.length : Nat) : Int) = ((A.length + B.length : Nat) : Int) := by rw [wrap64_id (by omega) (by omega)]; omega
  unfold sweepR at hd
  by_cases h0 : A.length + B.length = 0
  ·rw [if_pos h0] at hd
   subst hd
   have e1 : A = [] := List.length_eq_zero_iff.1 (by omega)
   have e2 : B = [] := List.length_eq_zero_iff.1 (by omega)
   have hgt : ¬ (((A.length + B.length : Nat) : Int) > 0) := by omega
   refine RXL.round (RX.of env_ok ?_)
   simp only [G0, Z1, Z2, Z3, Z4, Z5, t8, lA, lB, hw, hgt, decide_false, ownRow]
   subst e1 e2
   exact q _ _ _ _ _ t8 hS
  ·rw [if_neg h0] at hd
   have hgt : ((A.length + B.length : Nat) : Int) > 0 := by omega
   have hne : A ≠ [] \/ B ≠ [] := by
    cases A with
    | nil => cases B with
     | nil => simp at h0
     | cons y s => exact .inr (by simp)
    | cons x r => exact .inl (by simp)
   have hl1 : ro.length <= 1000000 := by
    refine Nat.le_trans ?_ hR
    rw [<- hd]
    refine Nat.le_trans ?_ (sweepR_mono keep d _ _ _)
    split
    ·have l3 := addR_len ro (stepS A B).x
     have : conx ro (stepS A B).x <= 1 := by unfold conx; split <;> (try split) <;> omega
     omega
    ·exact Nat.le_refl _
   have hp1 : ∀ p r, ro = p :: r -> 0 <= p.to /\ p.to <= 4000000000 := fun p r e => by
    subst e
    have := hro.1
    unfold SpOk at this
    omega
   obtain ⟨i1, i2, i3, i4, i5, i6, i7, i8⟩ := step_inv keep hro hba hbb hA hB hne
   have hst := step_at keep hg hS.swp hA hB hne hl1 hp1
   refine RXL.round (RX.of env_ok ?_)
   simp only [G0, Z1, Z2, Z3, Z4, Z5, t8, lA, lB, hw, hgt, decide_true, ownRow]
   refine cmk (first := []) (cap := []) (hst.mono ?_)
   intro nk x M1 hn hlt'
   obtain ⟨va', vb', vo', hle, hS'⟩ := (hn (by omega)).own
   refine ⟨[ownRow va' vb' g vo'], M1, rfl, hle, by decide, ?_⟩
   simp only [G0, Z1, Z2, Z3, Z4, Z5]
   exact ih _ _ _ M1 va' vb' vo' _ t8 hS' hd (by omega) i1 i2 i3 i4 i5 (by omega) (by omega)
end Go.Proofs.YtlbjplpehkgcdaaGreatDoor
namespace Go.Proofs.YtlbjplpehkgcdaaGreatDoor
open Go Go.Am Go.Pm
theorem nk_ls {M : PMem} {v : PV} {l : List Span} {k : Nat} (h : LsV M v l) (hk : keyV v ≠ some k) : NK k v := by
 cases h with
 | nil e => exact .lst (fun _ e => by cases e) .nil
 | row hM hj hc => exact .sl fun e => hk (by subst e; rfl)
theorem nk_out {M : PMem} {v : PV} {l : List Span} {k : Nat} (h : OutV M v l) (hk : keyV v ≠ some k) : NK k v := by
 cases h with
 | nil e => exact .lst (fun _ e => by cases e) .nil
 | row hM hw => exact .sl fun e => hk (by subst e; rfl)
theorem nks_spans (k : Nat) (l : List Span) : NKs k (l.flatMap encSpan) := by
 induction l with
 | nil => exact .nil
 | cons x l ih => exact .cons (.v _) (.cons (.v _) (.cons (.v _) ih))
theorem swept_end {M0 M : PMem} {k g : Nat} {va vb vo : PV} {ro : List Span} (hf : fresh M0 k) (h : SwO M0 M k g va vb vo [] [] ro) (r : PV) (z : PV) (hz : NKs k [z] /\ ∀ j, NK j z) (hr : r = vo) :
  ∃ k' j es w cells y, k <= k' /\ MLe (seg M k [ownRow va vb g vo]) (putM M0 k' j (.row w es cells)) /\ NKs k' cells /\ FZ k' j es cells (.tup [r, z]) y /\ PLe y (.tup [encSpans ro.reverse, z]) /\ M0 = M0 := by
 subst hr
 have hrow : MLe (seg M k [ownRow va vb g r]) (putM M0 k 0 (ownRow va vb g r)) := fun a j o e => by
  by_cases hk' : a = k /\ j = 0
  ·obtain ⟨rfl, rfl⟩ := hk'
   rw [putM_same] at e
   cases e
   exact ⟨_, by rw [seg_same]; rfl, .refl _⟩
  ·rw [put_ne hk'] at e
   have hak : a ≠ k := fun e' => by subst e'; rw [hf j] at e; cases e
   exact ⟨o, by rw [seg_ne _ _ _ hak]; exact h.sub _ _ _ e, .refl _⟩
 have hnk := h.lo
 cases hnk with
 | nil e =>
  refine ⟨k, 0, 0, .rw, [va, vb, .fn g [] [], .lst .full e 0 []], .tup [.lst .full e 0 [], z], Nat.le_refl _, hrow, ?_, ?_, ?_, rfl⟩
  ·exact .cons (nk_ls h.la h.ka) (.cons (nk_ls h.lb h.kb) (.cons (.fn .nil .nil) (.cons (.lst (fun _ e => by cases e) .nil) .nil)))
  ·exact .keep (.tup (.cons (.lst (fun _ e => by cases e) .nil) hz.1))
  ·exact PLe.tup (.cons (PLe.nil_no .full e 3 rfl) (.cons (.refl _) .nil))
 | @row k1 i1 w p ro hM hw =>
  have hk1 := h.kn k1 rfl
  have hne : k1 ≠ k := fun e => h.ko (by subst e; rfl)
  refine ⟨k1, i1, 3, w, (p :: ro).reverse.flatMap encSpan, .tup [.lst .no 3 (ro.length + 1) (((p :: ro).reverse.flatMap encSpan).take ((ro.length + 1) * 3)), z], hk1.1, fun a j o e => ?_, nks_spans _ _, ?_, ?_, rfl⟩
  ·by_cases hk' : a = k1 /\ j = i1
   ·obtain ⟨rfl, rfl⟩ := hk'
    rw [putM_same] at e
    cases e
    exact ⟨_, by rw [seg_ne _ _ _ hne]; exact hM, .refl _⟩
   ·rw [put_ne hk'] at e
    have hak : a ≠ k := fun e' => by subst e'; rw [hf j] at e; cases e
    exact ⟨o, by rw [seg_ne _ _ _ hak]; exact h.sub _ _ _ e, .refl _⟩
  ·have hcap := cap_lo (n := ro.length + 1) (es := 3) (by decide)
   refine .tup (.cons (.here ?_ (by rw [hcap.1]; exact Nat.le_refl _) (.inr hcap.2.2)) (.cons (.keep (hz.2 _)) .nil))
   rw [sp_len, List.length_reverse, List.length_cons]
   exact Nat.le_refl _
  ·rw [List.take_of_length_le (by rw [sp_len, List.length_reverse, List.length_cons]; exact Nat.le_refl _)]
   have : encSpans (p :: ro).reverse = .lst .no 3 (ro.length + 1) ((p :: ro).reverse.flatMap encSpan) := by
    unfold encSpans; rw [List.length_reverse, List.length_cons]
   rw [this]
   exact .refl _
theorem swept_full {M0 M : PMem} {k g : Nat} {va vb vo : PV} {ro : List Span} (hf : fresh M0 k) (h : SwO M0 M k g va vb vo [] [] ro) (z : PV) (hz : NKs k [z]) :
  ∃ k' j es w cells y, k <= k' /\ MLe (seg M k [ownRow va vb g vo]) (putM M0 k' j (.row w es cells)) /\ NKs k' cells /\ FZ k' j es cells (.tup [.lst .full 0 0 [], z]) y /\ PLe y (.tup [encSpans [], z]) /\ M0 = M0 := by
 refine ⟨k, 0, 0, .rw, [va, vb, .fn g [] [], vo], .tup [.lst .full 0 0 [], z], Nat.le_refl _, fun a j o e => ?_, ?_, ?_, ?_, rfl⟩
 ·by_cases hk' : a = k /\ j = 0
  ·obtain ⟨rfl, rfl⟩ := hk'
   rw [putM_same] at e
   cases e
   exact ⟨_, by rw [seg_same]; rfl, .refl _⟩
  ·rw [put_ne hk'] at e
   have hak : a ≠ k := fun e' => by subst e'; rw [hf j] at e; cases e
   exact ⟨o, by rw [seg_ne _ _ _ hak]; exact h.sub _ _ _ e, .refl _⟩
 ·exact .cons (nk_ls h.la h.ka) (.cons (nk_ls h.lb h.kb) (.cons (.fn .nil .nil) (.cons (nk_out h.lo h.ko) .nil)))
 ·exact .keep (.tup (.cons (.lst (fun _ e => by cases e) .nil) hz))
 ·exact PLe.tup (.cons (PLe.nil_no .full 0 3 rfl) (.cons (.refl _) .nil))
def sweptV (keep : Bool -> Bool -> Bool) (a b : List Span) : PV :=
 if pastOk a && pastOk b then (if (sweptF keep a b).length <= 4000 then .tup [encSpans (sweptF keep a b), iv 0] else .tup [encSpans [], iv 8]) else .tup [encSpans [], iv 2]
theorem past_yes {l : List Span} (h : pastOk l = true) : PTp env Tryz.prog 88 [encSpans l] (iv 0) := by
 have := past_check l
 rw [h] at this
 exact this
theorem past_no {l : List Span} (h : pastOk l = false) : PTp env Tryz.prog 88 [encSpans l] (iv 2) := by
 have := past_check l
 rw [h] at this
 exact this
theorem swept_bad (g : Nat) {a b : List Span} (h : (pastOk a && pastOk b) = false) : PTp env Tryz.prog 103 [encSpans a, encSpans b, .fn g [] []] (.tup [encSpans [], iv 2]) := by
 refine PTp.weak (v := .tup [.lst .full 0 0 [], iv 2]) (fun M => ?_) (PLe.tup (.cons (PLe.nil_no .full 0 3 rfl) (.cons (.refl _) .nil)))
 refine PT.enterR env_ok fn103 (by simp) comp103 fun k hk hf => RX.of env_ok ?_
 have e0 : ((0 : Int) != 0) = false := by decide
 have e2 : ((2 : Int) != 0) = true := by decide
 simp only [G0, Z1, Z2, Z3, Z4, Z5, argsP]
 cases ha : pastOk a with
 | false =>
  refine cp0 (past_no ha) (by decide) ?_
  simp only [G0, Z1, Z2, Z3, Z4, Z5, e2, Bool.not_true]
  exact end2 hf rfl rfl ⟨rfl, rfl⟩
 | true =>
  have hb : pastOk b = false := by rw [ha] at h; exact h
  refine cp0 (past_yes ha) (by decide) ?_
  simp only [G0, Z1, Z2, Z3, Z4, Z5, e0, Bool.not_false, cnd_t]
  refine cp0 (past_no hb) (by decide) ?_
  simp only [G0, Z1, Z2, Z3, Z4, Z5, e2, Bool.not_false, cnd_t]
  exact end2 hf rfl rfl ⟨rfl, rfl⟩
theorem swept_ok (keep : Bool -> Bool -> Bool) {g : Nat} (hg : ∀ x y, PTp env Tryz.prog g [bv x, bv y] (bv (keep x y))) {a b : List Span} (ha : pastOk a = true) (hb : pastOk b = true) (hlen : (sweptF keep a b).length <= 1000000) :
  PTp env Tryz.prog 103 [encSpans a, encSpans b, .fn g [] []] (if (sweptF keep a b).length <= 4000 then .tup [encSpans (sweptF keep a b), iv 0] else .tup [encSpans [], iv 8]) := fun M => by
 obtain ⟨la, oa⟩ := pastOk_iff.1 ha
 obtain ⟨lb, ob⟩ := pastOk_iff.1 hb
 refine PT.conseq (R := fun y M1 => PLe y (if (sweptF keep a b).length <= 4000 then .tup [encSpans (sweptF keep a b), iv 0] else .tup [encSpans [], iv 8]) /\ M1 = M) (PT.freeze ?_) fun x M1 ⟨e1, e2⟩ => ⟨_, M1, e1, .refl _, rfl, e2⟩
 refine PTk.enterR env_ok fn103 (by simp) comp103 fun k hk hf => RX.of env_ok ?_
 have e0 : ((0 : Int) != 0) = false := by decide
 simp only [G0, Z1, Z2, Z3, Z4, Z5, argsP]
 refine cp0 (past_yes ha) (by decide) ?_
 simp only [G0, Z1, Z2, Z3, Z4, Z5, e0, Bool.not_false, cnd_t]
 refine cp0 (past_yes hb) (by decide) ?_
 simp only [G0, Z1, Z2, Z3, Z4, Z5, e0, Bool.not_false, cnd_t]
 refine cmk (first := []) (cap := []) ?_
 rw [segNil hf]
 refine (clone_own a (by omega) M).mono ?_
 rintro nk va M1 ⟨hva, hm1⟩ hlt
 have hf1 : fresh M1 k := by
  rcases hm1 with ⟨rfl, -⟩ | ⟨k1, os1, h1, h2, h3, rfl⟩
  ·exact hf
  ·exact fresh_seg hf (by omega)
 have hs1 : Pm.Sub M M1 := by
  rcases hm1 with ⟨rfl, -⟩ | ⟨k1, os1, h1, h2, h3, rfl⟩
  ·exact Pm.Sub.refl _
  ·exact Pm.Sub.seg h2
 have hk1 : ∀ j, keyV va = some j -> fresh M j := by
  rcases hm1 with ⟨rfl, h⟩ | ⟨k1, os1, h1, h2, h3, rfl⟩
  ·intro j e; rw [h] at e; cases e
  ·intro j e; rw [h3] at e; cases e; exact h2
 refine ⟨[], M1, rfl, MLe.seg_nil' _ _, by decide, ?_⟩
 simp only [G0, Z1, Z2, Z3, Z4, Z5]
 refine cmk (first := []) (cap := []) ?_
 rw [segNil hf1]
 refine (clone_own b (by omega) M1).mono ?_
 rintro nk2 vb M2 ⟨hvb, hm2⟩ hlt2
 have hf2 : fresh M2 k := by
  rcases hm2 with ⟨rfl, -⟩ | ⟨k1, os1, h1, h2, h3, rfl⟩
  ·exact hf1
  ·exact fresh_seg hf1 (by omega)
 have hs2 : Pm.Sub M1 M2 := by
  rcases hm2 with ⟨rfl, -⟩ | ⟨k1, os1, h1, h2, h3, rfl⟩
  ·exact Pm.Sub.refl _
  ·exact Pm.Sub.seg h2
 have hk2 : ∀ j, keyV vb = some j -> fresh M1 j := by
  rcases hm2 with ⟨rfl, h⟩ | ⟨k1, os1, h1, h2, h3, rfl⟩
  ·intro j e; rw [h] at e; cases e
  ·intro j e; rw [h3] at e; cases e; exact h2
 refine ⟨[], M2, rfl, MLe.seg_nil' _ _, by decide, ?_⟩
 have hva2 : LsV M2 va a := hva.sub hs2
 have hfill : fillN [(0, 1), (1, 1), (2, 1), (3, 1)] [.lst .full 0 0 [], .lst .full 0 0 [], .v .nilFunc, .lst .full 0 0 []] va [(1, vb), (2, .fn g [] [])] (some (0, 1)) = some [va, vb, .fn g [] [], .lst .full 0 0 []] := by
  cases hva2 <;> cases hvb <;> rfl
 have hnil : ∀ j, keyV (.lst .full 0 0 []) ≠ some j := fun j e => by cases e
 have hS0 : Swp k M (seg M2 k [ownRow va vb g (.lst .full 0 0 [])]) k g a b [] := by
  have na : keyV va ≠ some k := hva.key hf1
  have nb : keyV vb ≠ some k := hvb.key hf2
  refine ⟨fun j i o e => ?_, hf, va, vb, .lst .full 0 0 [], by rw [seg_same]; rfl, ?_, ?_, .nil 0, ⟨na, nb, hnil _⟩, ⟨hk1, fun j e => fresh_of_sub hs1 (hk2 j e), fun j e => absurd e (hnil j)⟩, ⟨fun j e e' => ?_, fun j _ => hnil j, fun j _ => hnil j⟩, fun j e => absurd e (hnil j)⟩
  ·have hj : j ≠ k := fun e' => by subst e'; rw [hf i] at e; cases e
   rw [seg_ne _ _ _ hj]; exact hs2 _ _ _ (hs1 _ _ _ e)
  ·exact hva2.frame fun k' i e _ => seg_ne _ _ _ fun e' => na (by rw [e, e'])
  ·exact hvb.frame fun k' i e _ => seg_ne _ _ _ fun e' => nb (by rw [e, e'])
  ·exact hva.key (hk2 j e') e
 have hO : SwO M M2 k g va vb (.lst .full 0 0 []) a b [] := ⟨hS0, hva2, hvb, .nil 0, hva.key hf1, hvb.key hf2, hnil k, fun j e => absurd e (hnil j), hs1.trans hs2⟩
 simp only [G0, Z1, Z2, Z3, Z4, Z5, hfill]
 refine RX.loop (loop76 keep hg (sweepR keep (tot a + tot b + 1) a b []) (fun tm M3 va' vb' vo' t8 hS => ?_) (by unfold sweptF at hlen; rw [List.length_reverse] at hlen; exact hlen) (tot a + tot b + 1) a b [] M2 va vb (.lst .full 0 0 []) _ rfl hO rfl (Nat.lt_succ_self _) trivial trivial trivial oa ob la lb)
 have lo := hS.lo.len
 have hz : ∀ (n : Int), NKs k [iv n] /\ ∀ j, NK j (iv n) := fun n => ⟨.cons (.v _) .nil, fun j => .v _⟩
 have hrl : (sweptF keep a b).length = (sweepR keep (tot a + tot b + 1) a b []).length := by unfold sweptF; rw [List.length_reverse]
 by_cases hgt : (sweptF keep a b).length <= 4000
 ·have hb2 : ¬ (((sweepR keep (tot a + tot b + 1) a b []).length : Int) > 4000) := by omega
  rw [if_pos hgt]
  simp only [G0, Z1, Z2, Z3, Z4, Z5, t8, lo, hb2, decide_false, ownRow]
  obtain ⟨k', j, es, w, cells, y, q1, q2, q3, q4, q5, q6⟩ := swept_end hf hS vo' (iv 0) (hz 0) rfl
  exact ⟨.inr rfl, [_, _], _, rfl, MLe.refl _, k', j, es, w, cells, y, q1, q2, q3, q4, q5, trivial⟩
 ·have hb2 : ((sweepR keep (tot a + tot b + 1) a b []).length : Int) > 4000 := by omega
  rw [if_neg hgt]
  simp only [G0, Z1, Z2, Z3, Z4, Z5, t8, lo, hb2, decide_true, ownRow]
  obtain ⟨k', j, es, w, cells, y, q1, q2, q3, q4, q5, q6⟩ := swept_full hf hS (iv 8) (hz 8).1
  exact ⟨.inr rfl, [_, _], _, rfl, MLe.refl _, k', j, es, w, cells, y, q1, q2, q3, q4, q5, trivial⟩
theorem swept_fn (keep : Bool -> Bool -> Bool) {g : Nat} (hg : ∀ x y, PTp env Tryz.prog g [bv x, bv y] (bv (keep x y))) {a b : List Span} (hlen : pastOk a = true -> pastOk b = true -> (sweptF keep a b).length <= 1000000) :
  PTp env Tryz.prog 103 [encSpans a, encSpans b, .fn g [] []] (sweptV keep a b) := by
 unfold sweptV
 cases ha : pastOk a with
 | false => exact swept_bad g (by rw [ha]; rfl)
 | true =>
  cases hb : pastOk b with
  | false => exact swept_bad g (by rw [ha, hb]; rfl)
  | true => exact swept_ok keep hg ha hb (hlen ha hb)
end Go.Proofs.YtlbjplpehkgcdaaGreatDoor
namespace Go.Proofs.YtlbjplpehkgcdaaGreatDoor
open Go Go.Am Go.Pm
def andNot (x y : Bool) : Bool := x && !y
theorem keep89 (x y : Bool) : PTp env Tryz.prog 104 [bv x, bv y] (bv (andNot x y)) := fun M => by
 refine PT.enterR env_ok fn104 (by simp) comp104 fun k hk hf => RX.of env_ok ?_
 cases x with
 | true =>
  simp only [G0, Z1, Z2, Z3, Z4, Z5, argsP, Bool.not_true, Bool.not_false, cnd_t, cnd_f]
  exact end1 hf rfl ⟨rfl, rfl⟩
 | false =>
  simp only [G0, Z1, Z2, Z3, Z4, Z5, argsP, Bool.not_true, Bool.not_false, cnd_t, cnd_f]
  exact end1 hf rfl ⟨rfl, rfl⟩
def tells (keep : Bool -> Bool -> Bool) (a b : List Span) : List Span × Int :=
 if pastOk a && pastOk b then (if (sweptF keep a b).length <= 4000 then (sweptF keep a b, 0) else ([], 8)) else ([], 2)
theorem sweptV_eq (keep : Bool -> Bool -> Bool) (a b : List Span) : sweptV keep a b = .tup [encSpans (tells keep a b).1, iv (tells keep a b).2] := by
 unfold sweptV tells
 split
 ·split <;> rfl
 ·rfl
theorem minus_at (a b : List Span) : PTp env Tryz.prog 81 [encSpans a, encSpans b] (.tup [encSpans (tells andNot a b).1, iv (tells andNot a b).2]) := fun M => by
 refine PT.enterR env_ok fn81 (by simp) comp81 fun k hk hf => RX.of env_ok ?_
 simp only [G0, Z1, Z2, Z3, Z4, Z5, argsP]
 refine cp0 (swept_fn andNot keep89 fun ha hb => ?_) (by decide) ?_
 ·have := minusF_len (pastOk_iff.1 ha).2 (pastOk_iff.1 hb).2
  have h1 := (pastOk_iff.1 ha).1
  have h2 := (pastOk_iff.1 hb).1
  have e : sweptF andNot a b = sweptF (fun x y => x && !y) a b := rfl
  rw [e]; omega
 rw [sweptV_eq]
 simp only [G0, Z1, Z2, Z3, Z4, Z5]
 exact end2 hf rfl rfl ⟨rfl, rfl⟩
def withinB (a b : List Span) : Bool := (tells andNot a b).2 == 0 && ((tells andNot a b).1.length : Int) == 0
theorem within_at (a b : List Span) : PTp env Tryz.prog 52 [encSpans a, encSpans b] (bv (withinB a b)) := fun M => by
 refine PT.enterR env_ok fn52 (by simp) comp52 fun k hk hf => RX.of env_ok ?_
 simp only [G0, Z1, Z2, Z3, Z4, Z5, argsP]
 refine cp0 (minus_at a b) (by decide) ?_
 unfold withinB
 generalize tells andNot a b = q
 simp only [G0, Z1, Z2, Z3, Z4, Z5, encSpans]
 exact end1 hf rfl ⟨rfl, rfl⟩
end Go.Proofs.YtlbjplpehkgcdaaGreatDoor
namespace Go.Proofs.YtlbjplpehkgcdaaGreatDoor
open Go Go.Am Go.Pm
def idxF (p : Span -> Bool) : Nat -> List Span -> Int
 | _, [] => -1
 | i, x :: r => if p x then i else idxF p (i + 1) r
theorem idxF_any (p : Span -> Bool) : ∀ (l : List Span) (i : Nat), decide (idxF p i l >= 0) = l.any p
 | [], i => rfl
 | x :: r, i => by
  unfold idxF
  cases h : p x with
  | true => rw [if_pos rfl, List.any_cons, h]; simp
  | false => rw [if_neg (by decide), List.any_cons, h, Bool.false_or]; exact idxF_any p r (i + 1)
theorem loop90 (l : List Span) (hl : l.length <= 4000) (M0 M : PMem) (k : Nat) (Q : AExit -> PSt -> Prop) (g : Nat) (first cap : List PV) (p : Span -> Bool) (hM : Sub M0 (seg M k []))
  (hp : ∀ x, PTs env Tryz.prog M0 g (first ++ ([.agg [iv x.node, iv x.frm, iv x.to]] ++ cap)) (bv (p x)))
  (q1 : ∀ tm, idxF p 0 l = -1 -> Q (.exit 0) ⟨tm, 19, k, [], M⟩) (q2 : ∀ tm, tget tm 4 = iv (idxF p 0 l) -> Q .ret ⟨tm, 19, k, [], M⟩) :
  ∀ d i tm, l.length - i = d -> i <= l.length -> idxF p 0 l = idxF p i (l.drop i) -> tget tm 0 = encSpans l -> tget tm 1 = .fn g first cap -> tget tm 6 = encSpans l -> tget tm 7 = iv l.length -> tget tm 8 = iv i →
  RXL env Tryz.prog none c110_15 ⟨tm, 19, k, [], M⟩ Q := by
 intro d
 induction d with
 | zero =>
  intro i tm hd hi hp t0 t1 t6 t7 t8
  have : i = l.length := by omega
  subst this
  refine RXL.round (RX.of env_ok ?_)
  simp only [G0, Z1, Z2, Z3, Z4, Z5, t7, t8, Int.lt_irrefl, decide_false]
  exact q1 _ (by rw [hp, List.drop_of_length_le (Nat.le_refl _)]; rfl)
 | succ d ih =>
  intro i tm hd hi hpi t0 t1 t6 t7 t8
  have hi' : i < l.length := by omega
  have hii : (i : Int) < l.length := by omega
  obtain ⟨x, hx, hdx⟩ := getE hi'
  have hlx := span_load hx
  have hw : IntKind.i64.wrap ((i : Int) + 1) = ((i + 1 : Nat) : Int) := by rw [wrap64_id (by omega) (by omega)]; rfl
  rw [hdx] at hpi
  have hun : idxF p i (x :: l.drop (i + 1)) = if p x then (i : Int) else idxF p (i + 1) (l.drop (i + 1)) := rfl
  rw [hun] at hpi
  refine RXL.round (RX.of env_ok ?_)
  simp only [G0, Z1, Z2, Z3, Z4, Z5, t0, t1, t6, t7, t8, encSpans, hii, decide_true, hi', hlx]
  refine cs (hp x) hM (by decide) ?_
  cases h : p x with
  | true =>
   rw [h, if_pos rfl] at hpi
   simp only [G0, Z1, Z2, Z3, Z4, Z5]
   exact q2 _ (by rw [hpi]; rfl)
  | false =>
   rw [h, if_neg (by decide)] at hpi
   simp only [G0, Z1, Z2, Z3, Z4, Z5, t8, hw]
   exact ih (i + 1) _ (by omega) (by omega) hpi t0 t1 t6 t7 rfl
theorem index_fn (l : List Span) (hl : l.length <= 4000) (M0 : PMem) (g : Nat) (first cap : List PV) (p : Span -> Bool) (hp : ∀ x, PTs env Tryz.prog M0 g (first ++ ([.agg [iv x.node, iv x.frm, iv x.to]] ++ cap)) (bv (p x))) :
  PTs env Tryz.prog M0 110 [encSpans l, .fn g first cap] (iv (idxF p 0 l)) := by
 refine PTs.enter env_ok fn110 (by simp) comp110 fun M k hs hk hf => ?_
 simp only [G0, Z1, Z2, Z3, Z4, Z5, argsP, encSpans]
 refine RX.loop (loop90 l hl M0 M k _ g first cap p (hs.sseg hf) hp ?_ ?_ l.length 0 _ rfl (Nat.zero_le _) rfl rfl rfl rfl rfl rfl)
 ·intro tm h
  simp only [G0, Z1, Z2, Z3, Z4, Z5]
  exact end1 hf rfl ⟨by rw [h]; rfl, rfl⟩
 ·intro tm h
  simp only [G0, Z1, Z2, Z3, Z4, Z5]
  exact end1 hf h ⟨rfl, rfl⟩
theorem contains_fn (l : List Span) (hl : l.length <= 4000) (M0 : PMem) (g : Nat) (first cap : List PV) (p : Span -> Bool) (hp : ∀ x, PTs env Tryz.prog M0 g (first ++ ([.agg [iv x.node, iv x.frm, iv x.to]] ++ cap)) (bv (p x))) :
  PTs env Tryz.prog M0 89 [encSpans l, .fn g first cap] (bv (l.any p)) := by
 refine PTs.enter env_ok fn89 (by simp) comp89 fun M k hs hk hf => ?_
 simp only [G0, Z1, Z2, Z3, Z4, Z5, argsP]
 refine cs0 (index_fn l hl M0 g first cap p hp) (hs.sseg hf) (by decide) ?_
 simp only [G0, Z1, Z2, Z3, Z4, Z5]
 refine end1 hf rfl ⟨?_, rfl⟩
 rw [<- idxF_any p l 0]; rfl
theorem has75 (n s : Int) {M0 : PMem} {a i : Nat} {w : Wm} (hM : M0 a i = some (.row w 0 [iv n, iv s])) (x : Span) : PTs env Tryz.prog M0 90 [.agg [iv x.node, iv x.frm, iv x.to], .ptr a i 0] (bv (inSp x n s)) := by
 refine PTs.enter env_ok fn90 (by simp) comp90 fun M k hs hk hf => ?_
 have hM' := hs _ _ _ hM
 have hld : ∀ {ag : Bool} {n o : Nat} {os : List Pm.Obj}, loadP k os M ag n (.ptr a i o) = rowTake ag n o (M a i) := loadP_out (fresh_ne hf hM')
 simp only [G0, Z1, Z2, Z3, Z4, Z5, argsP, hld, hM']
 refine end1 hf rfl ⟨?_, rfl⟩
 show bv _ = bv (inSp x n s)
 unfold inSp
 rw [Bool.and_assoc]
def hasB (l : List Span) (n s : Int) : Bool := pastOk l && memP l n s
theorem has_at (l : List Span) (n s : Int) : PTp env Tryz.prog 55 [encSpans l, .agg [iv n, iv s]] (bv (hasB l n s)) := fun M => by
 refine PT.enterR env_ok fn55 (by simp) comp55 fun k hk hf => RX.of env_ok ?_
 simp only [G0, Z1, Z2, Z3, Z4, Z5, argsP]
 refine cp0 (past_check l) (by decide) ?_
 unfold hasB
 cases h : pastOk l with
 | false =>
  simp only [G0, Z1, Z2, Z3, Z4, Z5, err_neq]
  exact end1 hf rfl ⟨rfl, rfl⟩
 | true =>
  simp only [G0, Z1, Z2, Z3, Z4, Z5, err_neq, Bool.not_false, cnd_t]
  refine cs0 (contains_fn l (pastOk_iff.1 h).1 (seg M k [.row .rw 0 [iv n, iv s]]) 90 [] [.ptr k 0 0] (fun x => inSp x n s) (fun x => has75 n s (w := .rw) (by rw [seg_same]; rfl) x)) (Pm.Sub.refl _) (by decide) ?_
  simp only [G0, Z1, Z2, Z3, Z4, Z5]
  exact end1 hf rfl ⟨rfl, rfl⟩
end Go.Proofs.YtlbjplpehkgcdaaGreatDoor
namespace Go.Proofs.YtlbjplpehkgcdaaGreatDoor
open Go Go.Am Go.Pm
def aheadB (a b : Ev) : Bool := (evOk a && evOk b) && hasB b.past a.node a.seq
theorem ahead_at (a b : Ev) (ha : a.path.length <= 1000000) (hb : b.path.length <= 1000000) : PTp env Tryz.prog 24 [encEv a, encEv b] (bv (aheadB a b)) := fun M => by
 refine PT.enterR env_ok fn24 (by simp) comp24 fun k hk hf => RX.of env_ok ?_
 simp only [G0, Z1, Z2, Z3, Z4, Z5, argsP, encEv, evCells, pone_eb, pone_es]
 refine cp0 (event_check a ha) (by decide) ?_
 unfold aheadB
 cases h1 : evOk a with
 | false =>
  simp only [G0, Z1, Z2, Z3, Z4, Z5, err_neq]
  exact end1 hf rfl ⟨rfl, rfl⟩
 | true =>
  simp only [G0, Z1, Z2, Z3, Z4, Z5, err_neq]
  refine cp0 (event_check b hb) (by decide) ?_
  cases h2 : evOk b with
  | false =>
   simp only [G0, Z1, Z2, Z3, Z4, Z5, err_neq]
   exact end1 hf rfl ⟨rfl, rfl⟩
  | true =>
   simp only [G0, Z1, Z2, Z3, Z4, Z5, err_neq]
   refine cp0 (has_at b.past a.node a.seq) (by decide) ?_
   simp only [G0, Z1, Z2, Z3, Z4, Z5]
   exact end1 hf rfl ⟨rfl, rfl⟩
def badPair (i : Nat) (a : Ev) (j : Nat) (b : Ev) : Bool := ((j : Int) != (i : Int)) && ((a.node == b.node && a.seq == b.seq) || (aheadB a b && !withinB a.past b.past))
structure Kp25 (tm : List (Nat × PV)) (l : List Ev) (i : Nat) : Prop where
 t0 : tget tm 0 = encEvs l
 t7 : tget tm 7 = encEvs l
 t8 : tget tm 8 = iv l.length
 t9 : tget tm 9 = iv i
theorem inner25 (l : List Ev) (hl : l.length <= 1000000) (hp : ∀ e ∈ l, e.path.length <= 1000000) (M : PMem) (k i : Nat) (a : Ev) (ha : a.path.length <= 1000000) (Q : AExit -> PSt -> Prop)
  (q1 : ∀ tm, (∀ j b, l[j]? = some b -> badPair i a j b = false) -> Kp25 tm l i -> Q (.exit 2) ⟨tm, 49, k, [.row .rw 0 (evCells a)], M⟩)
  (q2 : ∀ tm, (∃ j b, l[j]? = some b /\ badPair i a j b = true) -> tget tm 2 = bv false -> Q .ret ⟨tm, 49, k, [.row .rw 0 (evCells a)], M⟩) :
  ∀ d j tm, l.length - j = d -> j <= l.length -> (∀ j' b, j' < j -> l[j']? = some b -> badPair i a j' b = false) -> Kp25 tm l i -> tget tm 3 = iv i -> tget tm 4 = .ptr k 0 0 -> tget tm 17 = encEvs l -> tget tm 18 = iv l.length -> tget tm 19 = iv j →
  RXL env Tryz.prog none c19_24 ⟨tm, 49, k, [.row .rw 0 (evCells a)], M⟩ Q := by
 intro d
 induction d with
 | zero =>
  intro j tm hd hj hg hK t3 t4 t17 t18 t19
  have : j = l.length := by omega
  subst this
  obtain ⟨t0, t7, t8, t9⟩ := hK
  refine RXL.round (RX.of env_ok ?_)
  simp only [G0, Z1, Z2, Z3, Z4, Z5, t18, t19, Int.lt_irrefl, decide_false]
  refine q1 _ (fun j' b h => hg j' b ?_ h) ⟨t0, t7, t8, t9⟩
  exact (List.getElem?_eq_some_iff.1 h).1
 | succ d ih =>
  intro j tm hd hj hg hK t3 t4 t17 t18 t19
  have hj' : j < l.length := by omega
  have hjj : (j : Int) < l.length := by omega
  obtain ⟨b, hb, hdx⟩ := getE hj'
  have hlx := ev_load7 hb
  have hpb := hp b (List.mem_of_getElem? hb)
  have hw : IntKind.i64.wrap ((j : Int) + 1) = ((j + 1 : Nat) : Int) := by rw [wrap64_id (by omega) (by omega)]; rfl
  obtain ⟨t0, t7, t8, t9⟩ := hK
  refine RXL.inn fun k' hk1 hk2 hk3 => RX.of env_ok ?_
  have hld : ∀ {ag : Bool} {n o : Nat} {os : List Pm.Obj}, loadP k' os (seg M k [.row .rw 0 [iv a.node, iv a.seq, str a.path, iv a.kind, iv a.mode, encBytes a.bytes, encSpans a.past]]) ag n (.ptr k 0 o) = rowTake ag n o (some (.row .rw 0 [iv a.node, iv a.seq, str a.path, iv a.kind, iv a.mode, encBytes a.bytes, encSpans a.past])) := fun {ag n o os} => by
   rw [loadP_out (Ne.symm hk1), seg_same]; rfl
  have hst : storeO 7 0 (encEv b) (some (.row .rw 0 [.v (.int .i64 0), .v (.int .i64 0), .v (.string ⟨#[]⟩), .v (.int .i64 0), .v (.int .i64 0), .lst .full 0 0 [], .lst .full 0 0 []])) = some (.row .rw 0 (evCells b)) := storeO_eq (n := 7) (x := encEv b) ⟨rfl, Nat.le_refl 7, rfl⟩
  have good : badPair i a j b = false -> ∀ j' b', j' < j + 1 -> l[j']? = some b' -> badPair i a j' b' = false := fun h j' b' hlt hb' => by
   rcases Nat.lt_succ_iff_lt_or_eq.1 hlt with h1 | h1
   ·exact hg j' b' h1 hb'
   ·subst h1; rw [hb] at hb'; cases hb'; exact h
  cases hji : ((j : Int) != (i : Int)) with
  | false =>
   simp only [G0, Z1, Z2, Z3, Z4, Z5, t3, t4, t17, t18, t19, encEvs, hjj, decide_true, hj', hlx, hld, hst, evCells, pone_eb, pone_es, hji, hw]
   exact ih (j + 1) _ (by omega) (by omega) (good (by unfold badPair; rw [hji]; rfl)) ⟨t0, t7, t8, t9⟩ t3 t4 t17 t18 rfl
  | true =>
   cases hde : (a.node == b.node && a.seq == b.seq) with
   | true =>
    simp only [G0, Z1, Z2, Z3, Z4, Z5, t3, t4, t17, t18, t19, encEvs, hjj, decide_true, hj', hlx, hld, hst, evCells, pone_eb, pone_es, hji, eql28, hde, Bool.not_true, Bool.not_false, cnd_t, cnd_f]
    exact q2 _ ⟨j, b, hb, by unfold badPair; rw [hji, hde]; rfl⟩ rfl
   | false =>
    simp only [G0, Z1, Z2, Z3, Z4, Z5, t3, t4, t17, t18, t19, encEvs, hjj, decide_true, hj', hlx, hld, hst, evCells, pone_eb, pone_es, hji, eql28, hde, Bool.not_true, Bool.not_false, cnd_t, cnd_f]
    refine cp0 (ahead_at a b ha hpb) (by decide) ?_
    cases hah : aheadB a b with
    | false =>
     simp only [G0, Z1, Z2, Z3, Z4, Z5, t19, hw, Bool.not_true, Bool.not_false, cnd_t, cnd_f]
     exact ih (j + 1) _ (by omega) (by omega) (good (by unfold badPair; rw [hji, hde, hah]; rfl)) ⟨t0, t7, t8, t9⟩ t3 t4 t17 t18 rfl
    | true =>
     simp only [G0, Z1, Z2, Z3, Z4, Z5, t3, t4, t17, t18, t19, hld, Bool.not_true, Bool.not_false, cnd_t, cnd_f]
     refine cp0 (within_at a.past b.past) (by decide) ?_
     cases hwi : withinB a.past b.past with
     | true =>
      simp only [G0, Z1, Z2, Z3, Z4, Z5, t19, hw, Bool.not_true, Bool.not_false, cnd_t, cnd_f]
      exact ih (j + 1) _ (by omega) (by omega) (good (by unfold badPair; rw [hji, hde, hah, hwi]; rfl)) ⟨t0, t7, t8, t9⟩ t3 t4 t17 t18 rfl
     | false =>
      simp only [G0, Z1, Z2, Z3, Z4, Z5, Bool.not_true, Bool.not_false, cnd_t, cnd_f]
      exact q2 _ ⟨j, b, hb, by unfold badPair; rw [hji, hde, hah, hwi]; rfl⟩ rfl
end Go.Proofs.YtlbjplpehkgcdaaGreatDoor
noncomputable section
namespace Go.Proofs.YtlbjplpehkgcdaaGreatDoor
open Go Go.Am Go.Pm
def ClosedAt (l : List Ev) (i : Nat) (a : Ev) : Prop := evOk a = true /\ ∀ j b, l[j]? = some b -> badPair i a j b = false
def ClosedL (l : List Ev) : Prop := ∀ i a, l[i]? = some a -> ClosedAt l i a
theorem loop25 (l : List Ev) (hl : l.length <= 1000000) (hp : ∀ e ∈ l, e.path.length <= 1000000) (M : PMem) (k : Nat) (Q : AExit -> PSt -> Prop)
  (q1 : ∀ tm, ClosedL l -> Q (.exit 0) ⟨tm, 49, k, [], M⟩) (q2 : ∀ tm, ¬ ClosedL l -> tget tm 2 = bv false -> Q .ret ⟨tm, 49, k, [], M⟩) :
  ∀ d i tm, l.length - i = d -> i <= l.length -> (∀ i' a, i' < i -> l[i']? = some a -> ClosedAt l i' a) -> Kp25 tm l i -> RXL env Tryz.prog none c19_34 ⟨tm, 49, k, [], M⟩ Q := by
 intro d
 induction d with
 | zero =>
  intro i tm hd hi hg hK
  have : i = l.length := by omega
  subst this
  obtain ⟨t0, t7, t8, t9⟩ := hK
  refine RXL.round (RX.of env_ok ?_)
  simp only [G0, Z1, Z2, Z3, Z4, Z5, t8, t9, Int.lt_irrefl, decide_false]
  exact q1 _ fun i' a h => hg i' a (List.getElem?_eq_some_iff.1 h).1 h
 | succ d ih =>
  intro i tm hd hi hg hK
  have hi' : i < l.length := by omega
  have hii : (i : Int) < l.length := by omega
  obtain ⟨a, ha, hdx⟩ := getE hi'
  have hlx := ev_load7 ha
  have hpa := hp a (List.mem_of_getElem? ha)
  have hw : IntKind.i64.wrap ((i : Int) + 1) = ((i + 1 : Nat) : Int) := by rw [wrap64_id (by omega) (by omega)]; rfl
  obtain ⟨t0, t7, t8, t9⟩ := hK
  refine RXL.inn fun k' hk1 hk2 hk3 => RX.of env_ok ?_
  have hst : storeO 7 0 (encEv a) (some (.row .rw 0 [.v (.int .i64 0), .v (.int .i64 0), .v (.string ⟨#[]⟩), .v (.int .i64 0), .v (.int .i64 0), .lst .full 0 0 [], .lst .full 0 0 []])) = some (.row .rw 0 (evCells a)) := storeO_eq (n := 7) (x := encEv a) ⟨rfl, Nat.le_refl 7, rfl⟩
  simp only [G0, Z1, Z2, Z3, Z4, Z5, t0, t7, t8, t9, encEvs, hii, decide_true, hi', hlx, hst, evCells, pone_eb, pone_es]
  refine cp0 (event_check a hpa) (by decide) ?_
  cases hok : evOk a with
  | false =>
   simp only [G0, Z1, Z2, Z3, Z4, Z5, err_neq]
   exact q2 _ (fun h => by have := (h i a ha).1; rw [hok] at this; cases this) rfl
  | true =>
   simp only [G0, Z1, Z2, Z3, Z4, Z5, err_neq, t0, encEvs]
   refine RX.loop (inner25 l hl hp (seg M k []) k' i a hpa _ (fun tm' hgd hK' => ?_) (fun tm' hbd t2 => ?_) l.length 0 _ rfl (Nat.zero_le _) (fun j' b h => by omega) (by exact ⟨t0, t7, t8, t9⟩) (by rfl) (by rfl) (by rfl) (by rfl) (by rfl))
   ·obtain ⟨s0, s7, s8, s9⟩ := hK'
    simp only [G0, Z1, Z2, Z3, Z4, Z5, s9, hw]
    refine ih (i + 1) _ (by omega) (by omega) (fun i' a' hlt h => ?_) ⟨s0, s7, s8, rfl⟩
    rcases Nat.lt_succ_iff_lt_or_eq.1 hlt with h1 | h1
    ·exact hg i' a' h1 h
    ·subst h1; rw [ha] at h; cases h; exact ⟨hok, hgd⟩
   ·simp only [G0, Z1, Z2, Z3, Z4, Z5, t2]
    obtain ⟨j, b, h1, h2⟩ := hbd
    exact q2 _ (fun h => by have := (h i a ha).2 j b h1; rw [h2] at this; cases this) t2
def closedB (l : List Ev) : Bool := @decide (ClosedL l) (Classical.propDecidable _)
theorem closedB_t {l : List Ev} (h : ClosedL l) : closedB l = true := by
 unfold closedB; exact @decide_eq_true _ (Classical.propDecidable _) h
theorem closedB_f {l : List Ev} (h : ¬ ClosedL l) : closedB l = false := by
 unfold closedB; exact @decide_eq_false _ (Classical.propDecidable _) h
theorem closed_at (l : List Ev) (hl : l.length <= 1000000) (hp : ∀ e ∈ l, e.path.length <= 1000000) : PTp env Tryz.prog 19 [encEvs l] (bv (closedB l)) := fun M => by
 refine PT.enterR env_ok fn19 (by simp) comp19 fun k hk hf => RX.of env_ok ?_
 simp only [G0, Z1, Z2, Z3, Z4, Z5, argsP, encEvs]
 refine RX.loop (loop25 l hl hp M k _ (fun tm h => ?_) (fun tm h t2 => ?_) l.length 0 _ rfl (Nat.zero_le _) (fun i a h => by omega) (by exact ⟨rfl, rfl, rfl, rfl⟩))
 ·simp only [G0, Z1, Z2, Z3, Z4, Z5]
  refine end1 hf rfl ⟨?_, rfl⟩
  rw [closedB_t h]; rfl
 ·simp only [G0, Z1, Z2, Z3, Z4, Z5, t2]
  refine end1 hf t2 ⟨?_, rfl⟩
  rw [closedB_f h]
end Go.Proofs.YtlbjplpehkgcdaaGreatDoor
end
namespace Go.Proofs.YtlbjplpehkgcdaaGreatDoor
open Go Go.Am Go.Pm
def cmpI (a b : Int) : Int := if a < b then -1 else if a > b then 1 else 0
theorem nan111 (a : Int) : PTp env Tryz.prog 111 [iv a] (bv false) := fun M => by
 refine PT.enterR env_ok fn111 (by simp) comp111 fun k hk hf => RX.of env_ok ?_
 simp only [G0, Z1, Z2, Z3, Z4, Z5, argsP, bne_self_eq_false]
 exact end1 hf rfl ⟨rfl, rfl⟩
theorem cmp94 (a b : Int) : PTp env Tryz.prog 94 [iv a, iv b] (iv (cmpI a b)) := fun M => by
 refine PT.enterR env_ok fn94 (by simp) comp94 fun k hk hf => RX.of env_ok ?_
 simp only [G0, Z1, Z2, Z3, Z4, Z5, argsP]
 refine cp0 (nan111 a) (by decide) ?_
 simp only [G0, Z1, Z2, Z3, Z4, Z5]
 refine cp0 (nan111 b) (by decide) ?_
 simp only [G0, Z1, Z2, Z3, Z4, Z5]
 refine cW_s (fun hb => ?_) (fun hb => ?_)
 ·simp only [G0, Z1, Z2, Z3, Z4, Z5]
  refine end1 hf rfl ⟨?_, rfl⟩
  unfold cmpI; rw [if_pos (by simpa using hb)]; rfl
 ·have hb' : ¬ a < b := by simpa using hb
  simp only [G0, Z1, Z2, Z3, Z4, Z5]
  refine cW_s (fun hc => ?_) (fun hc => ?_)
  ·simp only [G0, Z1, Z2, Z3, Z4, Z5]
   refine end1 hf rfl ⟨?_, rfl⟩
   unfold cmpI; rw [if_neg hb', if_pos (by simpa using hc)]; rfl
  ·simp only [G0, Z1, Z2, Z3, Z4, Z5]
   refine end1 hf rfl ⟨?_, rfl⟩
   unfold cmpI; rw [if_neg hb', if_neg (by simpa using hc)]; rfl
def orI : List Int -> Int
 | [] => 0
 | x :: r => if x = 0 then orI r else x
theorem or_load {t : Tok} {l : List Int} {i : Nat} {x : Int} (h : l[i]? = some x) : ptake false 1 (l.map iv) (i * 1) = some (iv x) := by
 unfold ptake
 simp [h]
theorem loop93 (t : Tok) (l : List Int) (hl : l.length <= 1000000) (M : PMem) (k : Nat) (Q : AExit -> PSt -> Prop) (q1 : ∀ tm, orI l = 0 -> tget tm 3 = iv 0 -> Q (.exit 0) ⟨tm, 18, k, [], M⟩) (q2 : ∀ tm, tget tm 2 = iv (orI l) -> Q .ret ⟨tm, 18, k, [], M⟩) :
    ∀ d i tm, l.length - i = d -> i <= l.length -> orI l = orI (l.drop i) -> tget tm 3 = iv 0 -> tget tm 6 = .lst t 1 l.length (l.map iv) -> tget tm 7 = iv l.length -> tget tm 8 = iv i -> RXL env Tryz.prog none c93_16 ⟨tm, 18, k, [], M⟩ Q := by
  intro d
  induction d with
  | zero =>
    intro i tm hd hi ho t3 t6 t7 t8
    have : i = l.length := by omega
    subst this
    refine RXL.round (RX.of env_ok ?_)
    simp only [G0, Z1, Z2, Z3, Z4, Z5, t7, t8, Int.lt_irrefl, decide_false]
    exact q1 _ (by rw [ho, List.drop_of_length_le (Nat.le_refl _)]; rfl) t3
  | succ d ih =>
    intro i tm hd hi ho t3 t6 t7 t8
    have hi' : i < l.length := by omega
    have hii : (i : Int) < l.length := by omega
    obtain ⟨x, hx, hdx⟩ := getE hi'
    have hlx := or_load (t := t) hx
    have hw : IntKind.i64.wrap ((i : Int) + 1) = ((i + 1 : Nat) : Int) := by rw [wrap64_id (by omega) (by omega)]; rfl
    rw [hdx] at ho
    refine RXL.round (RX.of env_ok ?_)
    simp only [G0, Z1, Z2, Z3, Z4, Z5, t3, t6, t7, t8, hii, decide_true, hi', hlx]
    refine cW_s (fun hb => ?_) (fun hb => ?_)
    · simp only [G0, Z1, Z2, Z3, Z4, Z5]
      refine q2 _ ?_
      rw [ho]; unfold orI; rw [if_neg (by simpa using hb)]; rfl
    · simp only [G0, Z1, Z2, Z3, Z4, Z5, t8, hw]
      refine ih (i + 1) _ (by omega) (by omega) ?_ t3 t6 t7 rfl
      rw [ho]
      show orI (x :: _) = _
      rw [orI, if_pos (by simpa using hb)]
theorem or93 (t : Tok) (l : List Int) (hl : l.length <= 1000000) : PTp env Tryz.prog 93 [.lst t 1 l.length (l.map iv)] (iv (orI l)) := fun M => by
  refine PT.enterR env_ok fn93 (by simp) comp93 fun k hk hf => RX.of env_ok ?_
  simp only [G0, Z1, Z2, Z3, Z4, Z5, argsP]
  refine RX.loop (loop93 t l hl M k _ ?_ ?_ l.length 0 _ rfl (Nat.zero_le _) rfl rfl rfl rfl rfl)
  · intro tm h t3
    simp only [G0, Z1, Z2, Z3, Z4, Z5, t3]
    exact end1 hf rfl ⟨by rw [h]; rfl, rfl⟩
  · intro tm h
    simp only [G0, Z1, Z2, Z3, Z4, Z5]
    exact end1 hf h ⟨rfl, rfl⟩
def lexI (a b c d : Int) : Int := orI [cmpI a c, cmpI b d]
theorem two_fill (a b : Int) : fillA 1 [.v (.int .i64 0), .v (.int .i64 0)] [(0, iv a), (1, iv b)] = some [iv a, iv b] := rfl
theorem order72 (a b c d : Int) : PTp env Tryz.prog 72 [.agg [iv a, iv b], .agg [iv c, iv d]] (iv (lexI a b c d)) := fun M => by
  refine PT.enterR env_ok fn72 (by simp) comp72 fun k hk hf => RX.of env_ok ?_
  simp only [G0, Z1, Z2, Z3, Z4, Z5, argsP]
  refine cq0 (cmp94 a c) (by decide) ?_
  simp only [G0, Z1, Z2, Z3, Z4, Z5]
  refine cp0 (cmp94 b d) (by decide) ?_
  simp only [G0, Z1, Z2, Z3, Z4, Z5, two_fill]
  refine cp0 (or93 .full [cmpI a c, cmpI b d] (by simp)) (by decide) ?_
  simp only [G0, Z1, Z2, Z3, Z4, Z5]
  exact end1 hf rfl ⟨rfl, rfl⟩
theorem order63 (x y : Ev) : PTp env Tryz.prog 63 [encEv x, encEv y] (iv (lexI x.node x.seq y.node y.seq)) := fun M => by
  refine PT.enterR env_ok fn63 (by simp) comp63 fun k hk hf => RX.of env_ok ?_
  simp only [G0, Z1, Z2, Z3, Z4, Z5, argsP, encEv, evCells]
  refine cq0 (cmp94 _ _) (by decide) ?_
  simp only [G0, Z1, Z2, Z3, Z4, Z5]
  refine cp0 (cmp94 _ _) (by decide) ?_
  simp only [G0, Z1, Z2, Z3, Z4, Z5, two_fill]
  refine cp0 (or93 .full [_, _] (by simp)) (by decide) ?_
  simp only [G0, Z1, Z2, Z3, Z4, Z5]
  exact end1 hf rfl ⟨rfl, rfl⟩
def ltB (a b c d : Int) : Bool := decide (a < c) || (a == c && decide (b < d))
theorem lexI_lt (a b c d : Int) : decide (lexI a b c d < 0) = ltB a b c d := by
 unfold lexI ltB
 simp only [orI, cmpI]
 by_cases h1 : a < c
 ·simp [h1]
 ·by_cases h2 : a > c
  ·have : ¬ a = c := by omega
   simp [h1, h2, this]
  ·have : a = c := by omega
   subst this
   by_cases h3 : b < d
   ·simp [h3]
   ·by_cases h4 : b > d
    ·simp [h3, h4]
    ·simp [h3, h4]
theorem less42 (a b c d : Int) : PTp env Tryz.prog 42 [.agg [iv a, iv b], .agg [iv c, iv d]] (bv (ltB a b c d)) := fun M => by
 refine PT.enterR env_ok fn42 (by simp) comp42 fun k hk hf => RX.of env_ok ?_
 simp only [G0, Z1, Z2, Z3, Z4, Z5, argsP]
 refine cp0 (order72 a b c d) (by decide) ?_
 simp only [G0, Z1, Z2, Z3, Z4, Z5]
 exact end1 hf rfl ⟨by rw [lexI_lt]; rfl, rfl⟩
end Go.Proofs.YtlbjplpehkgcdaaGreatDoor
namespace Go.Proofs.YtlbjplpehkgcdaaGreatDoor
open Go Go.Am Go.Pm
theorem ev_len7 (l : List Ev) : (l.flatMap evCells).length = l.length * 7 := flatMap_len (f := evCells) (n := 7) (fun _ => rfl) l
inductive EsV (M : PMem) : PV -> List Ev -> Prop where
  | lst (t : Tok) (l : List Ev) : EsV M (.lst t 7 l.length (l.flatMap evCells)) l
  | nil (t : Tok) (e : Nat) : EsV M (.lst t e 0 []) []
  | row {k i c : Nat} {w : Wm} {l : List Ev} {rest : List PV} (hM : M k i = some (.row w 7 (l.flatMap evCells ++ rest))) : EsV M (.sl k i 0 l.length c) l
theorem EsV.enc (M : PMem) (l : List Ev) : EsV M (encEvs l) l := .lst .no l
theorem EsV.sub {M M' : PMem} {v : PV} {l : List Ev} (h : EsV M v l) (hs : Pm.Sub M M') : EsV M' v l := by
 cases h with
 | lst t l => exact .lst t l
 | nil t e => exact .nil t e
 | row hM => exact .row (hs _ _ _ hM)
theorem EsV.len {M : PMem} {v : PV} {l : List Ev} (h : EsV M v l) : lenL v = some (iv (l.length : Nat)) := by
 cases h <;> rfl
theorem ev_pre {l : List Ev} {rest : List PV} {i : Nat} {x : Ev} (h : l[i]? = some x) : ptake true 7 (l.flatMap evCells ++ rest) (i * 7) = some (encEv x) := by
 have h1 := ev_load7 h
 have hi : i < l.length := by
  rcases Nat.lt_or_ge i l.length with h2 | h2
  ·exact h2
  ·rw [List.getElem?_eq_none h2] at h; cases h
 have hl := ev_len7 l
 have h1' : (if i * 7 + 7 <= (l.flatMap evCells).length then some (PV.agg (List.take 7 (List.drop (i * 7) (l.flatMap evCells)))) else none) = some (encEv x) := h1
 rw [if_pos (by omega)] at h1'
 show (if i * 7 + 7 <= (l.flatMap evCells ++ rest).length then some (PV.agg (List.take 7 (List.drop (i * 7) (l.flatMap evCells ++ rest)))) else none) = some (encEv x)
 rw [if_pos (by rw [List.length_append]; omega), <- h1', List.drop_append_of_le_length (by omega), List.take_append_of_le_length (by rw [List.length_drop]; omega)]
theorem EsV.at {M : PMem} {v : PV} {l : List Ev} (h : EsV M v l) {i : Nat} {x : Ev} (hx : l[i]? = some x) {k : Nat} (hf : fresh M k) :
  ∃ p, (∀ kk : IntKind, iaddrS 7 v (.v (.int kk (i : Int))) = some p) /\ ∀ os, loadP k os M true 7 p = some (encEv x) := by
 have hi : i < l.length := by
  rcases Nat.lt_or_ge i l.length with h2 | h2
  ·exact h2
  ·rw [List.getElem?_eq_none h2] at hx; cases hx
 cases h with
 | lst t l => exact ⟨.dp (l.flatMap evCells) (i * 7), fun kk => iaddrS_lst hi, fun os => by rw [loadP_dp]; exact ev_load7 hx⟩
 | nil t e => simp at hi
 | @row a b c w l rest hM =>
  refine ⟨.ptr a b (0 + i * 7), fun kk => iaddr_sl hi, fun os => ?_⟩
  rw [loadP_out (fresh_ne hf hM), hM, Nat.zero_add]
  exact ev_pre hx
def idxG {α : Type} (p : α -> Bool) : Nat -> List α -> Int
 | _, [] => -1
 | i, x :: r => if p x then i else idxG p (i + 1) r
theorem idxG_any {α : Type} (p : α -> Bool) : ∀ (l : List α) (i : Nat), decide (idxG p i l >= 0) = l.any p
 | [], i => rfl
 | x :: r, i => by
  unfold idxG
  cases h : p x with
  | true => rw [if_pos rfl, List.any_cons, h]; simp
  | false => rw [if_neg (by decide), List.any_cons, h, Bool.false_or]; exact idxG_any p r (i + 1)
section
variable {M0 : PMem} {v : PV} {l : List Ev}
theorem loop73 (hv : EsV M0 v l) (hl : l.length <= 1000000) (M : PMem) (k : Nat) (Q : AExit -> PSt -> Prop) (g : Nat) (first cap : List PV) (p : Ev -> Bool) (hs : Pm.Sub M0 M) (hf : fresh M k)
  (hp : ∀ x ∈ l, PTs env Tryz.prog M0 g (first ++ ([encEv x] ++ cap)) (bv (p x)))
  (q1 : ∀ tm, idxG p 0 l = -1 -> Q (.exit 0) ⟨tm, 19, k, [], M⟩) (q2 : ∀ tm, tget tm 4 = iv (idxG p 0 l) -> Q .ret ⟨tm, 19, k, [], M⟩) :
  ∀ d i tm, l.length - i = d -> i <= l.length -> idxG p 0 l = idxG p i (l.drop i) -> tget tm 0 = v -> tget tm 1 = .fn g first cap -> tget tm 7 = iv l.length -> tget tm 8 = iv i →
  RXL env Tryz.prog none c73_15 ⟨tm, 19, k, [], M⟩ Q := by
 intro d
 induction d with
 | zero =>
  intro i tm hd hi hp t0 t1 t7 t8
  have : i = l.length := by omega
  subst this
  refine RXL.round (RX.of env_ok ?_)
  simp only [G0, Z1, Z2, Z3, Z4, Z5, t7, t8, Int.lt_irrefl, decide_false]
  exact q1 _ (by rw [hp, List.drop_of_length_le (Nat.le_refl _)]; rfl)
 | succ d ih =>
  intro i tm hd hi hpi t0 t1 t7 t8
  have hi' : i < l.length := by omega
  have hii : (i : Int) < l.length := by omega
  obtain ⟨x, hx, hdx⟩ := getE hi'
  obtain ⟨a, ha, hla⟩ := (hv.sub hs).at hx hf
  have hw : IntKind.i64.wrap ((i : Int) + 1) = ((i + 1 : Nat) : Int) := by rw [wrap64_id (by omega) (by omega)]; rfl
  rw [hdx] at hpi
  have hun : idxG p i (x :: l.drop (i + 1)) = if p x then (i : Int) else idxG p (i + 1) (l.drop (i + 1)) := rfl
  rw [hun] at hpi
  refine RXL.round (RX.of env_ok ?_)
  simp only [G0, Z1, Z2, Z3, Z4, Z5, t0, t1, t7, t8, hii, decide_true, ha, hla]
  refine cs (hp x (List.mem_of_getElem? hx)) (hs.sseg hf) (by decide) ?_
  cases h : p x with
  | true =>
   rw [h, if_pos rfl] at hpi
   simp only [G0, Z1, Z2, Z3, Z4, Z5]
   exact q2 _ (by rw [hpi]; rfl)
  | false =>
   rw [h, if_neg (by decide)] at hpi
   simp only [G0, Z1, Z2, Z3, Z4, Z5, t8, hw]
   exact ih (i + 1) _ (by omega) (by omega) hpi t0 t1 t7 rfl
theorem index73 (hv : EsV M0 v l) (hl : l.length <= 1000000) (g : Nat) (first cap : List PV) (p : Ev -> Bool) (hp : ∀ x ∈ l, PTs env Tryz.prog M0 g (first ++ ([encEv x] ++ cap)) (bv (p x))) :
  PTs env Tryz.prog M0 73 [v, .fn g first cap] (iv (idxG p 0 l)) := by
 refine PTs.enter env_ok fn73 (by simp) comp73 fun M k hs hk hf => ?_
 simp only [G0, Z1, Z2, Z3, Z4, Z5, argsP, hv.len]
 refine RX.loop (loop73 hv hl M k _ g first cap p hs hf hp ?_ ?_ l.length 0 _ rfl (Nat.zero_le _) rfl rfl rfl rfl rfl)
 ·intro tm h
  simp only [G0, Z1, Z2, Z3, Z4, Z5]
  exact end1 hf rfl ⟨by rw [h]; rfl, rfl⟩
 ·intro tm h
  simp only [G0, Z1, Z2, Z3, Z4, Z5]
  exact end1 hf h ⟨rfl, rfl⟩
theorem contains43 (hv : EsV M0 v l) (hl : l.length <= 1000000) (g : Nat) (first cap : List PV) (p : Ev -> Bool) (hp : ∀ x ∈ l, PTs env Tryz.prog M0 g (first ++ ([encEv x] ++ cap)) (bv (p x))) :
  PTs env Tryz.prog M0 43 [v, .fn g first cap] (bv (l.any p)) := by
 refine PTs.enter env_ok fn43 (by simp) comp43 fun M k hs hk hf => ?_
 simp only [G0, Z1, Z2, Z3, Z4, Z5, argsP]
 refine cs0 (index73 hv hl g first cap p hp) (hs.sseg hf) (by decide) ?_
 simp only [G0, Z1, Z2, Z3, Z4, Z5]
 refine end1 hf rfl ⟨?_, rfl⟩
 rw [<- idxG_any p l 0]; rfl
end
theorem call44 (x y : Ev) (hx : x.path.length <= 1000000) (hy : y.path.length <= 1000000) {M0 : PMem} {a i : Nat} {w : Wm} (hM : M0 a i = some (.row w 0 (evCells x))) : PTs env Tryz.prog M0 44 [encEv y, .ptr a i 0] (bv (aheadB x y)) := by
 refine PTs.enter env_ok fn44 (by simp) comp44 fun M k hs hk hf => ?_
 have hM' := hs _ _ _ hM
 have hld : ∀ {ag : Bool} {n o : Nat} {os : List Pm.Obj}, loadP k os M ag n (.ptr a i o) = rowTake ag n o (M a i) := loadP_out (fresh_ne hf hM')
 simp only [G0, Z1, Z2, Z3, Z4, Z5, argsP, encEv, hld, hM', evCells]
 refine cp0 (ahead_at x y hx hy) (by decide) ?_
 simp only [G0, Z1, Z2, Z3, Z4, Z5]
 exact end1 hf rfl ⟨rfl, rfl⟩
end Go.Proofs.YtlbjplpehkgcdaaGreatDoor
noncomputable section
namespace Go.Proofs.YtlbjplpehkgcdaaGreatDoor
open Go Go.Am Go.Pm
def RowTo (l : List Ev) (n : Nat) : Prop := ∀ j x, j < n -> l[j]? = some x -> evOk x = true /\ (∀ h, l[0]? = some h -> x.path = h.path) /\ (∀ i y, j = i + 1 -> l[i]? = some y -> ltB y.node y.seq x.node x.seq = true)
def NoneTo (l : List Ev) (n : Nat) : Prop := ∀ j x, j < n -> l[j]? = some x -> ∀ y ∈ l, aheadB x y = false
def ShelfL (l : List Ev) : Prop := RowTo l l.length /\ NoneTo l l.length
structure Ks (tm : List (Nat × PV)) (l : List Ev) (i : Nat) : Prop where
 t0 : tget tm 0 = encEvs l
 t7 : tget tm 7 = encEvs l
 t8 : tget tm 8 = iv l.length
 t9 : tget tm 9 = iv i
theorem hstE (a : Ev) : storeO 7 0 (encEv a) (some (.row .rw 0 [.v (.int .i64 0), .v (.int .i64 0), .v (.string ⟨#[]⟩), .v (.int .i64 0), .v (.int .i64 0), .lst .full 0 0 [], .lst .full 0 0 []])) = some (.row .rw 0 (evCells a)) := storeO_eq (n := 7) (x := encEv a) ⟨rfl, Nat.le_refl 7, rfl⟩
theorem path_cell {l : List Ev} {i : Nat} {x : Ev} (h : l[i]? = some x) : (l.flatMap evCells)[i * 7 + 2]? = some (str x.path) := cell_at (f := evCells) (n := 7) (c := 2) (fun _ => rfl) h rfl
theorem path_cell0 {l : List Ev} {x : Ev} (h : l[0]? = some x) : (l.flatMap evCells)[0 + 2]? = some (str x.path) := by have := path_cell h; simpa using this
theorem iaddr_l0 {t : Tok} {es n sz : Nat} {cs : List PV} {kk : IntKind} (h : 0 < n) : iaddrS sz (.lst t es n cs) (.v (.int kk 0)) = some (.dp cs 0) := by
  have := iaddrS_lst (t := t) (es := es) (n := n) (sz := sz) (cs := cs) (kk := kk) (m := 0) h
  rw [Nat.zero_mul] at this
  exact this
theorem dot_sub {l : List Ev} {i : Nat} {x : Ev} (h : l[i]? = some x) : ptake true 2 (l.flatMap evCells) (i * 7) = some (.agg [iv x.node, iv x.seq]) := sub_at (f := evCells) (n := 7) (c := 0) (w := 2) (fun _ => rfl) h (by decide) rfl
section
variable (l : List Ev)
theorem loop15a (hl : l.length <= 1000000) (hp : ∀ e ∈ l, e.path.length <= 1000000) (M : PMem) (k : Nat) (Q : AExit -> PSt -> Prop)
    (q1 : ∀ tm, RowTo l l.length -> tget tm 0 = encEvs l -> Q (.exit 0) ⟨tm, 53, k, [], M⟩) (q2 : ∀ tm, ¬ RowTo l l.length -> tget tm 2 = iv 2 -> Q .ret ⟨tm, 53, k, [], M⟩) :
    ∀ d i tm, l.length - i = d -> i <= l.length -> RowTo l i -> Ks tm l i -> RXL env Tryz.prog none c15_15 ⟨tm, 53, k, [], M⟩ Q := by
  intro d
  induction d with
  | zero =>
    intro i tm hd hi hg hK
    have : i = l.length := by omega
    subst this
    obtain ⟨t0, t7, t8, t9⟩ := hK
    refine RXL.round (RX.of env_ok ?_)
    simp only [G0, Z1, Z2, Z3, Z4, Z5, t8, t9, Int.lt_irrefl, decide_false]
    exact q1 _ hg t0
  | succ d ih =>
    intro i tm hd hi hg hK
    have hi' : i < l.length := by omega
    have hii : (i : Int) < l.length := by omega
    have h0l : 0 < l.length := by omega
    obtain ⟨a, ha, hdx⟩ := getE hi'
    obtain ⟨h, hh, -⟩ := getE h0l
    have hlx := ev_load7 ha
    have hpa := hp a (List.mem_of_getElem? ha)
    have hw : IntKind.i64.wrap ((i : Int) + 1) = ((i + 1 : Nat) : Int) := by rw [wrap64_id (by omega) (by omega)]; rfl
    obtain ⟨t0, t7, t8, t9⟩ := hK
    refine RXL.inn fun k' hk1 hk2 hk3 => RX.of env_ok ?_
    simp only [G0, Z1, Z2, Z3, Z4, Z5, t0, t7, t8, t9, encEvs, hii, decide_true, hi', hlx, hstE, evCells, pone_eb, pone_es]
    refine cp0 (event_check a hpa) (by decide) ?_
    have hb1 := path_cell0 hh
    rcases Nat.eq_zero_or_pos i with hi0 | hip
    · subst hi0
      have hah : a = h := by rw [ha] at hh; exact Option.some.inj hh
      subst hah
      cases hok : evOk a with
      | false =>
        simp only [G0, Z1, Z2, Z3, Z4, Z5, err_neq, t0, encEvs, iaddr_l0, h0l, hb1, Int.natCast_zero, gt_iff_lt, Int.lt_irrefl, decide_false, Bool.not_true, Bool.not_false, cnd_t, cnd_f, e_CGD]
        exact q2 _ (fun hr => by have := (hr 0 a hi' ha).1; rw [hok] at this; cases this) rfl
      | true =>
        simp only [G0, Z1, Z2, Z3, Z4, Z5, err_neq, t0, encEvs, iaddr_l0, h0l, hb1, Int.natCast_zero, gt_iff_lt, Int.lt_irrefl, decide_false, Bool.not_true, Bool.not_false, cnd_t, cnd_f, e_CGD, str_neq, beq_self_eq_true, t9, hw]
        refine ih 1 _ (by omega) (by omega) ?_ ⟨t0, t7, t8, rfl⟩
        intro j x hj hx
        have : j = 0 := by omega
        subst this
        rw [ha] at hx; cases hx
        exact ⟨hok, fun h' e => by rw [ha] at e; cases e; rfl, fun i y e => by omega⟩
    · obtain ⟨j, rfl⟩ : ∃ j, i = j + 1 := ⟨i - 1, by omega⟩
      obtain ⟨y, hy, -⟩ := getE (show j < l.length by omega)
      have e1 : IntKind.i64.wrap (((j + 1 : Nat) : Int) - 1) = (j : Int) := by rw [wrap64_id (by omega) (by omega)]; omega
      have e3 : (0 : Int) < ((j + 1 : Nat) : Int) := by omega
      have hj : j < l.length := by omega
      have hds := dot_sub hy
      cases hok : evOk a with
      | false =>
        simp only [G0, Z1, Z2, Z3, Z4, Z5, err_neq, t0, encEvs, iaddr_l0, h0l, hb1, gt_iff_lt, e1, e3, hj, hds, decide_true, Bool.not_true, Bool.not_false, cnd_t, cnd_f, e_CGD]
        exact q2 _ (fun hr => by have := (hr _ a hi' ha).1; rw [hok] at this; cases this) rfl
      | true =>
        cases hpe : (a.path == h.path) with
        | false =>
          simp only [G0, Z1, Z2, Z3, Z4, Z5, err_neq, t0, encEvs, iaddr_l0, h0l, hb1, gt_iff_lt, e1, e3, hj, hds, decide_true, Bool.not_true, Bool.not_false, cnd_t, cnd_f, e_CGD, str_neq, hpe]
          exact q2 _ (fun hr => by have := (hr _ a hi' ha).2.1 h hh; rw [this] at hpe; simp at hpe) rfl
        | true =>
          simp only [G0, Z1, Z2, Z3, Z4, Z5, err_neq, t0, encEvs, iaddr_l0, h0l, hb1, gt_iff_lt, e1, e3, hj, hds, decide_true, Bool.not_true, Bool.not_false, cnd_t, cnd_f, e_CGD, str_neq, hpe]
          refine cp0 (less42 y.node y.seq a.node a.seq) (by decide) ?_
          cases hlt : ltB y.node y.seq a.node a.seq with
          | false =>
            simp only [G0, Z1, Z2, Z3, Z4, Z5, cnd_t, Bool.not_false, Bool.not_true]
            exact q2 _ (fun hr => by have := (hr _ a hi' ha).2.2 j y rfl hy; rw [hlt] at this; cases this) rfl
          | true =>
            simp only [G0, Z1, Z2, Z3, Z4, Z5, cnd_t, Bool.not_false, Bool.not_true, t9, hw]
            refine ih (j + 1 + 1) _ (by omega) (by omega) ?_ ⟨t0, t7, t8, rfl⟩
            intro j' x hj' hx
            rcases Nat.lt_succ_iff_lt_or_eq.1 hj' with h1 | h1
            · exact hg j' x h1 hx
            · subst h1
              rw [ha] at hx; cases hx
              exact ⟨hok, fun h' e => by rw [hh] at e; cases e; simpa using hpe, fun i z e e' => by
                obtain rfl : i = j := by omega
                rw [hy] at e'; cases e'; exact hlt⟩
structure Kt (tm : List (Nat × PV)) (l : List Ev) (i : Nat) : Prop where
 t0 : tget tm 0 = encEvs l
 t43 : tget tm 43 = encEvs l
 t44 : tget tm 44 = iv l.length
 t45 : tget tm 45 = iv i
theorem loop15b (hl : l.length <= 1000000) (hp : ∀ e ∈ l, e.path.length <= 1000000) (M : PMem) (k : Nat) (Q : AExit -> PSt -> Prop)
  (q1 : ∀ tm, NoneTo l l.length -> Q (.exit 2) ⟨tm, 53, k, [], M⟩) (q2 : ∀ tm, ¬ NoneTo l l.length -> tget tm 2 = iv 2 -> Q .ret ⟨tm, 53, k, [], M⟩) :
  ∀ d i tm, l.length - i = d -> i <= l.length -> NoneTo l i -> Kt tm l i -> RXL env Tryz.prog none c15_33 ⟨tm, 53, k, [], M⟩ Q := by
 intro d
 induction d with
 | zero =>
  intro i tm hd hi hg hK
  have : i = l.length := by omega
  subst this
  obtain ⟨t0, t7, t8, t9⟩ := hK
  refine RXL.round (RX.of env_ok ?_)
  simp only [G0, Z1, Z2, Z3, Z4, Z5, t8, t9, Int.lt_irrefl, decide_false]
  exact q1 _ hg
 | succ d ih =>
  intro i tm hd hi hg hK
  have hi' : i < l.length := by omega
  have hii : (i : Int) < l.length := by omega
  obtain ⟨a, ha, hdx⟩ := getE hi'
  have hlx := ev_load7 ha
  have hpa := hp a (List.mem_of_getElem? ha)
  have hw : IntKind.i64.wrap ((i : Int) + 1) = ((i + 1 : Nat) : Int) := by rw [wrap64_id (by omega) (by omega)]; rfl
  obtain ⟨t0, t7, t8, t9⟩ := hK
  refine RXL.inn fun k' hk1 hk2 hk3 => RX.of env_ok ?_
  simp only [G0, Z1, Z2, Z3, Z4, Z5, t0, t7, t8, t9, encEvs, hii, decide_true, hi', hlx, hstE]
  refine cs0 (contains43 (EsV.enc (seg (seg M k []) k' [.row .rw 0 (evCells a)]) l) hl 44 [] [.ptr k' 0 0] (aheadB a) (fun y hy => call44 a y hpa (hp y hy) (w := .rw) (by rw [seg_same]; rfl))) (Pm.Sub.refl _) (by decide) ?_
  cases hany : l.any (aheadB a) with
  | true =>
   simp only [G0, Z1, Z2, Z3, Z4, Z5]
   refine q2 _ (fun hn => ?_) rfl
   rw [List.any_eq_true] at hany
   obtain ⟨y, h1, h2⟩ := hany
   rw [hn i a hi' ha y h1] at h2; cases h2
  | false =>
   simp only [G0, Z1, Z2, Z3, Z4, Z5, t9, hw]
   refine ih (i + 1) _ (by omega) (by omega) ?_ ⟨t0, t7, t8, rfl⟩
   intro j x hj hx y hy
   rcases Nat.lt_succ_iff_lt_or_eq.1 hj with h1 | h1
   ·exact hg j x h1 hx y hy
   ·subst h1
    rw [ha] at hx; cases hx
    rw [List.any_eq_false] at hany
    simpa using hany y hy
def shelfB (l : List Ev) : Bool := @decide (ShelfL l) (Classical.propDecidable _)
theorem shelfB_t {l : List Ev} (h : ShelfL l) : shelfB l = true := by
 unfold shelfB; exact @decide_eq_true _ (Classical.propDecidable _) h
theorem shelfB_f {l : List Ev} (h : ¬ ShelfL l) : shelfB l = false := by
 unfold shelfB; exact @decide_eq_false _ (Classical.propDecidable _) h
theorem shelf_check (hl : l.length <= 1000000) (hp : ∀ e ∈ l, e.path.length <= 1000000) : PTp env Tryz.prog 15 [encEvs l] (iv (errIf (shelfB l))) := fun M => by
 refine PT.enterR env_ok fn15 (by simp) comp15 fun k hk hf => RX.of env_ok ?_
 simp only [G0, Z1, Z2, Z3, Z4, Z5, argsP, encEvs]
 refine RX.loop (loop15a l hl hp M k _ (fun tm h1 t0 => ?_) (fun tm h1 t2 => ?_) l.length 0 _ rfl (Nat.zero_le _) (fun j x h => by omega) (by exact ⟨rfl, rfl, rfl, rfl⟩))
 ·simp only [G0, Z1, Z2, Z3, Z4, Z5, t0, encEvs]
  refine RX.loop (loop15b l hl hp M k _ (fun tm' h2 => ?_) (fun tm' h2 t2 => ?_) l.length 0 _ rfl (Nat.zero_le _) (fun j x h => by omega) (by exact ⟨t0, rfl, rfl, rfl⟩))
  ·simp only [G0, Z1, Z2, Z3, Z4, Z5]
   refine end1 hf rfl ⟨?_, rfl⟩
   rw [shelfB_t ⟨h1, h2⟩]; rfl
  ·simp only [G0, Z1, Z2, Z3, Z4, Z5, t2]
   refine end1 hf t2 ⟨?_, rfl⟩
   rw [shelfB_f fun h => h2 h.2]; rfl
 ·simp only [G0, Z1, Z2, Z3, Z4, Z5, t2]
  refine end1 hf t2 ⟨?_, rfl⟩
  rw [shelfB_f fun h => h1 h.1]; rfl
end
end Go.Proofs.YtlbjplpehkgcdaaGreatDoor
end
namespace Go.Pm
open Go.RowKit Go.Am
section
variable {E : Env} {P : Program} {tm : List (Nat × PV)} {nt k n m i es sz by_ zl d a c o len r : Nat} {os : List Obj} {M : PMem} {A B : Operand} {cs ds z cells : List PV} {t : Tok} {v x : PV} {κ : Kont} {R : PSt -> Prop} {l : List RI} {ps : List (Nat × Operand)}
theorem r_clear : rclear sz z A ⟨tm, nt, k, os, M⟩ = clearS ⟨tm, nt, k, os, M⟩ sz z (pev tm A) := rfl
theorem clear_out (hn : n ≠ 0) (ha : a ≠ k) (hg : M a i = some (.row .rw es cells)) (hl : o + n * sz <= cells.length /\ z.length = sz /\ z.all pone = true) :
  clearS ⟨tm, nt, k, os, M⟩ sz z (.sl a i o n c) = some (.junk, ⟨tm, nt, k, os, putM M a i (.row .rw es (psplice cells o (List.replicate n z).flatten))⟩) := by
 unfold clearS
 simp only [if_neg hn, PSt.look, if_neg ha, hg, if_pos hl, PSt.putO]
def rowO (tm : List (Nat × PV)) (nt k : Nat) (os : List Obj) (M : PMem) (sz len : Nat) : Option (List PV) -> Option (PV × PSt)
 | some cs => some (.sl k os.length 0 len (2 * len), ⟨tm, nt, k, os ++ [.row .rw sz cs], M⟩)
 | none => none
theorem ro_some : rowO tm nt k os M sz len (some cs) = some (.sl k os.length 0 len (2 * len), ⟨tm, nt, k, os ++ [.row .rw sz cs], M⟩) := rfl
theorem r_buildR : rbuildR sz len z ps ⟨tm, nt, k, os, M⟩ = rowO tm nt k os M sz len (fillA sz z (partsV tm ps)) := by
 unfold rbuildR fillA buildR
 dsimp only
 rw [partsV_eq]
 generalize pfill _ _ _ = q
 cases q <;> rfl
theorem e_B : RPO E P (oB d sz len z ps :: l) ⟨tm, nt, k, os, M⟩ R = aA E P d (.o l) R (rbuildL sz len z ps ⟨tm, nt, k, os, M⟩) (rbuildR sz len z ps ⟨tm, nt, k, os, M⟩) := by
 have h1 : RPO E P (oU d (rbuildL sz len z ps) :: l) ⟨tm, nt, k, os, M⟩ R = nU E P d (.o l) R (rbuildL sz len z ps ⟨tm, nt, k, os, M⟩) := e_U
 have h2 : RPO E P (oU d (rbuildR sz len z ps) :: l) ⟨tm, nt, k, os, M⟩ R = nU E P d (.o l) R (rbuildR sz len z ps ⟨tm, nt, k, os, M⟩) := e_U
 show (RPO E P (oU d (rbuildL sz len z ps) :: l) ⟨tm, nt, k, os, M⟩ R \/ RPO E P (oU d (rbuildR sz len z ps) :: l) ⟨tm, nt, k, os, M⟩ R) = _
 rw [h1, h2]; rfl
end
section
variable {E : Env} {P : Program} {cx : Cx} {s s' : PSt} {sA : St} {m : Mem} {M : PMem}
theorem after_drop (h : PS E cx s sA) {k i r es : Nat} {cs : List PV} {w : Wm} (hM : s.look k i = some (.row w es cs)) (ha : cx.at_ k i = some r) (hbar : sA.m.bar <= r) :
  PS E cx (s.putO k i .gone) { sA with m := sA.m.upd r none } := by
 have hak : k < cx.nk := by
  rcases Nat.lt_or_ge k cx.nk with h1 | h1
  ·exact h1
  ·rw [(h.pg.keys k i h1).1] at ha; cases ha
 have hpg := h.pg.updObj ha hbar hM ⟨nofun, nofun⟩ (o := .gone) nofun (ao := none) hak
 obtain ⟨e1, e2, e3, e5⟩ := PSt.putO_tm (s := s) (k := k) (i := i) (o := .gone)
 exact ⟨fun j => by rw [e1]; exact h.tm j, by rw [e2]; exact h.nt, by rw [PSt.putO_mem hM]; exact hpg, fun j hj => by rw [e3]; exact h.cur j (by rw [e5] at hj; exact hj), by rw [e3]; exact h.low, by rw [e3]; exact h.pos, ⟨h.df.1, fun r hr => ⟨(h.df.2 r hr).1, by rw [Mem.upd_def]; exact (h.df.2 r hr).2⟩⟩⟩
theorem PG.start (h : PG E cx M m) : PS E cx.key ⟨[], 0, cx.nk, [], M⟩ ⟨.nil, 0, [], m⟩ := by
 have hfr := h.bare (Nat.le_refl cx.nk)
 refine ⟨fun i => .junk _, rfl, ?_, fun i _ => h.keys cx.nk i (Nat.le_refl _), Nat.lt_succ_self _, h.pos, List.nodup_nil, fun r hr => by simp at hr⟩
 show PG E cx.key (seg M cx.nk []) m
 rw [seg_nil _ _ hfr]
 exact h.key
end
end Go.Pm
namespace Go.Pm
open Go.RowKit Go.Am
section
variable {E : Env} {P : Program} {cx : Cx} {s : PSt} {sA : St} {M : PMem}
theorem PTk.lift {F : Nat} {args : List PV} {Q : Nat -> PV -> PMem -> Prop}
  (h : ∀ cx k0 sA vargs, fresh M k0 -> PS E cx ⟨[], 0, k0, [], M⟩ sA -> PRs cx args vargs -> ∃ v m' cx' x s', CanT E P (.call F vargs) sA.m v m' /\ PR cx' x v /\ Ext (some k0) cx cx' /\ PS E cx' s' { sA with m := m' } /\ Q k0 x s'.mem) :
  PTk E P F args M Q := fun cx m vargs hg ha => by
 obtain ⟨v, m', cx', x, s', h1, h2, h3, h4, h5⟩ := h cx.key cx.nk ⟨.nil, 0, [], m⟩ vargs (hg.bare (Nat.le_refl _)) hg.start (ha.mono (CxLe.key cx))
 refine ⟨v, m', cx', x, s'.mem, h1, h4.pg, ⟨(CxLe.key cx).trans h3.le, fun k i hk _ => ?_⟩, h2, h5⟩
 have hn := h3.names k i (by show k < cx.nk + 1; omega) (by simp; omega)
 exact hn
theorem after_store (h : PS E cx s sA) {k i r es o : Nat} {cells ws : List PV} {wv : List Value} (hM : s.look k i = some (.row .rw es cells)) (ha : cx.at_ k i = some r) (hw : PRs cx ws wv) (ho : ws.all pone = true) (hl : o + ws.length <= cells.length) :
  ∃ vs, sA.m.get r = some (.row vs .rw es none) /\ PRs cx cells vs /\ sA.m.bar <= r /\ sA.m.storeCells ⟨r, o, none⟩ wv = some (sA.m.upd r (some (.row (splice vs o wv) .rw es none))) ∧
   PS E cx (s.putO k i (.row .rw es (psplice cells o ws))) { sA with m := sA.m.upd r (some (.row (splice vs o wv) .rw es none)) } := by
 obtain ⟨r', vs, md, q, e1, e2, e3, e4, e5⟩ := h.pg.obj k i _ hM
 obtain ⟨rfl, rfl⟩ := e4 (by simp)
 have hbar := e5 rfl
 rw [ha] at e1; cases e1
 have hl1 := hw.length
 have hl2 := e3.length
 have hnb : sA.m.nb <= r := Nat.le_trans h.pg.wf.nb hbar
 have hone := allOne_sim hw ho
 obtain ⟨⟨cx', p1, p2, p3⟩, q1, q2, q3⟩ := after_upd h ha hbar hM ⟨nofun, nofun⟩ (o := .row .rw es (psplice cells o ws)) nofun (ao := .row (splice vs o wv) .rw es none) ⟨r, _, .rw, none, ha, Mem.get_upd_same hnb _, by
  rw [splice_eq _ _ _ (by omega)]
  exact psplice_sim e3 hw o, fun _ => ⟨rfl, rfl⟩, fun _ => by rw [Mem.upd_def]; exact hbar⟩ (x := .junk) (v := undefV) (.junk _)
 have hpg := h.pg.updObj (cx := cx) ha hbar hM ⟨nofun, nofun⟩ (o := .row .rw es (psplice cells o ws)) nofun (ao := some (.row (splice vs o wv) .rw es none)) ⟨r, _, .rw, none, ha, Mem.get_upd_same hnb _, by
  rw [splice_eq _ _ _ (by omega)]
  exact psplice_sim e3 hw o, fun _ => ⟨rfl, rfl⟩, fun _ => by rw [Mem.upd_def]; exact hbar⟩
 obtain ⟨e1, e2', e3', e5'⟩ := PSt.putO_tm (s := s) (k := k) (i := i) (o := .row .rw es (psplice cells o ws))
 refine ⟨vs, e2, e3, hbar, ?_, ?_⟩
 ·simp only [Mem.storeCells, e2, bleT hbar, bleT (show o + wv.length <= vs.length by omega), hone, Bool.and_self, cond_true, Mem.kill, Option.map_some]
 ·exact ⟨fun j => by rw [e1]; exact h.tm j, by rw [e2']; exact h.nt, by rw [PSt.putO_mem hM]; exact hpg, fun j hj => by rw [e3']; exact h.cur j (by rw [e5'] at hj; exact hj), by rw [e3']; exact h.low, by rw [e3']; exact h.pos, ⟨h.df.1, fun r hr => ⟨(h.df.2 r hr).1, by rw [Mem.upd_def]; exact (h.df.2 r hr).2⟩⟩⟩
theorem PRs.sizes {a : List PV} {b : List Value} (h : PRs cx a b) {n : Nat} (hn : a.length = n) : b.length = n := by rw [<- h.length]; exact hn
end
theorem mem_splice {cs vs : List PV} {o : Nat} {y : PV} (h : y ∈ psplice cs o vs) : y ∈ cs \/ y ∈ vs := by
 unfold psplice at h
 rcases List.mem_append.1 h with h | h
 ·exact .inl (List.mem_of_mem_take h)
 ·rcases List.mem_append.1 h with h | h
  ·exact .inr h
  ·exact .inl (List.mem_of_mem_drop h)
theorem NKs.of {k : Nat} : ∀ {l : List PV}, (∀ x ∈ l, NK k x) -> NKs k l
 | [], _ => .nil
 | x :: l, h => .cons (h x List.mem_cons_self) (NKs.of fun y hy => h y (List.mem_cons_of_mem _ hy))
theorem NKs.mem {k : Nat} : ∀ {l : List PV}, NKs k l -> ∀ x ∈ l, NK k x
 | _, .cons h hs, x, hx => by
  rcases List.mem_cons.1 hx with rfl | hx
  ·exact h
  ·exact NKs.mem hs x hx
theorem set_in {cells v : List PV} {a b e : Nat} (hv : v.length = e) (hab : a <= b) (hb : b + e <= cells.length) :
  (psplice (psplice cells (a + e) ((cells.take b).drop a)) a v).take (b + e) = (cells.take b).take a ++ (v ++ (cells.take b).drop a) := by
 have hm : ((cells.take b).drop a).length = b - a := by rw [List.length_drop, List.length_take, Nat.min_eq_left (by omega)]
 have hA : (cells.take (a + e)).length = a + e := by rw [List.length_take, Nat.min_eq_left (by omega)]
 generalize hmid : (cells.take b).drop a = mid at hm ⊢
 unfold psplice
 rw [hm, hv]
 have h1 : (cells.take (a + e) ++ (mid ++ cells.drop (a + e + (b - a)))).take a = cells.take a := by
  rw [List.take_append_of_le_length (by rw [hA]; omega), List.take_take, Nat.min_eq_left (show a <= a + e by omega)]
 have h2 : (cells.take (a + e) ++ (mid ++ cells.drop (a + e + (b - a)))).drop (a + e) = mid ++ cells.drop (a + e + (b - a)) := by
  rw [List.drop_append_of_le_length (by rw [hA]; exact Nat.le_refl _), List.drop_of_length_le (by rw [hA]; exact Nat.le_refl _), List.nil_append]
 rw [h1, h2]
 rw [show (cells.take b).take a = cells.take a by rw [List.take_take, Nat.min_eq_left hab]]
 have e1 : cells.take a ++ (v ++ (mid ++ cells.drop (a + e + (b - a)))) = (cells.take a ++ (v ++ mid)) ++ cells.drop (a + e + (b - a)) := by simp
 rw [e1]
 exact List.take_left' (by rw [List.length_append, List.length_append, List.length_take, Nat.min_eq_left (by omega), hv, hm]; omega)
structure Ins (M : PMem) (k i n es : Nat) (out old : List PV) (nk : Nat) (x : PV) (M1 : PMem) : Prop where
 ex : ∃ a b w c cells, x = .sl a b 0 n c /\ (n <= capOf c /\ c % 2 = 1 /\ esOf c = es) /\ n * es <= cells.length /\ cells.take (n * es) = out /\ (∀ y ∈ cells, y ∈ old) ∧
  ((a = k /\ b = i /\ M1 = putM M k i (.row w es cells)) \/ (a = nk /\ b = 0 /\ fresh M nk /\ M1 = seg (putM M k i .gone) nk [.row w es cells]))
section
variable {E : Env} {P : Program} {M : PMem}
theorem PT.insert (hE : EnvOk E P) {F ts te es by_ : Nat} (I : InsFn P F ts te es by_) {x : Fun} (hf : E.fn F = some x) {yt ye : Ty} {z : List PV} (ht : E.ty ts = some yt) (hd : yt.desc = .slice te) (hye : E.ty te = some ye) (hz : pzero E te = some z) (hzd : zerosD yt.desc = some false)
  (he : ye.size = es /\ ye.bytes = by_ /\ z.length = es) {k i n L idx kv iv cv : Nat} {cells vcells : List PV} (hM : M k i = some (.row .rw es cells)) (hV : M kv iv = some (.row .rw es vcells)) (hne : ¬ (kv = k /\ iv = i))
  (hL : cells.length = L * es) (hn : n <= L) (hn0 : 0 < L) (hi : idx <= n) (hv : vcells.length = es) (ho : cells.all pone = true) (hov : vcells.all pone = true) (hes : 0 < es /\ es < 4096 /\ es ≠ 1) (hby : (2 * (n + 1) + 2000) * by_ <= 140737488355328 /\ n + 1 <= 4611686018427387904) :
  PTk E P F [.sl k i 0 n (loCap L es), .v (.int .i64 (idx : Int)), .sl kv iv 0 1 cv] M (Ins M k i (n + 1) es ((cells.take (n * es)).take (idx * es) ++ (vcells ++ (cells.take (n * es)).drop (idx * es))) (cells ++ vcells)) := by
 obtain ⟨he1, he2, he3⟩ := he
 obtain ⟨hes1, hes2, hes3⟩ := hes
 have hcap : capOf (loCap L es) = L /\ loCap L es % 2 = 1 /\ esOf (loCap L es) = es := cap_lo hes2
 have hcl : n * es <= cells.length := by rw [hL]; exact Nat.mul_le_mul_right _ hn
 have hnes : (n + 1) * es = n * es + es := by rw [Nat.add_mul, Nat.one_mul]
 refine PTk.lift fun cx k0 sA vargs hfr hs ha => ?_
 have hlk : ∀ {a b o}, M a b = some o -> (⟨[], 0, k0, [], M⟩ : PSt).look a b = some o /\ a ≠ k0 := fun {a b o} e => by
  have : a ≠ k0 := fun q => by rw [q, hfr b] at e; cases e
  exact ⟨by unfold PSt.look; rw [if_neg this]; exact e, this⟩
 obtain ⟨hlk1, hk0⟩ := hlk hM
 obtain ⟨hlk2, hkv0⟩ := hlk hV
 cases ha with
 | cons h1 ha =>
 cases ha with
 | cons h2 ha =>
 cases ha with
 | cons h3 ha =>
 cases ha
 obtain ⟨rfl, _⟩ := h2.flat_eq
 have h1' := h1
 have h3' := h3
 cases h1 with
 | sl a1 =>
 rename_i r
 cases h3 with
 | sl a3 =>
 rename_i rv
 obtain ⟨r', vs, md, q, e1, e2, e3, e4, e5⟩ := hs.pg.obj k i _ hlk1
 obtain ⟨rfl, rfl⟩ := e4 (by simp)
 have hbar := e5 rfl
 rw [a1] at e1; cases e1
 obtain ⟨r', ws, md, q, f1, f2, f3, f4, f5⟩ := hs.pg.obj kv iv _ hlk2
 obtain ⟨rfl, rfl⟩ := f4 (by simp)
 rw [a3] at f1; cases f1
 have hrr : r ≠ rv := fun e => by
  subst e
  exact hne (ob_inj (hs.pg.role hlk2 nofun nofun a3) (hs.pg.role hlk1 nofun nofun a1))
 have hlv := e3.length
 have hlw := f3.length
 have hcan : ∀ {v m'}, xInsert E ts es by_ [.slice (some ⟨r, 0, none⟩) n (loCap L es), .int .i64 (idx : Int), .slice (some ⟨rv, 0, none⟩) 1 cv] sA.m = some (v, m') →
   CanT E P (.call F [.slice (some ⟨r, 0, none⟩) n (loCap L es), .int .i64 (idx : Int), .slice (some ⟨rv, 0, none⟩) 1 cv]) sA.m v m' := fun {v m'} hx =>
  ⟨fun ι w args' hR hA => insert_ok hE I hf hx hR hA, fun hw => Keep.insert hw hx⟩
 have hps : ∀ {o : Obj}, ((⟨[], 0, k0, [], M⟩ : PSt).putO k i o) = ⟨[], 0, k0, [], putM M k i o⟩ := fun {o} => by unfold PSt.putO; rw [if_neg hk0]
 have hnil : ∀ {o : Obj}, (⟨[], 0, k0, [], putM M k i o⟩ : PSt).mem = putM M k i o := fun {o} => segNil fun j => by
  show (if k0 = k /\ j = i then some o else M k0 j) = none
  rw [if_neg (fun e => hk0 e.1.symm)]; exact hfr j
 by_cases hidx : idx = n
 ·subst hidx
  have hx0 : ∀ {r1}, appendV E sA.m ts (some ts) (.slice (some ⟨r, 0, none⟩) idx (loCap L es)) (.slice (some ⟨rv, 0, none⟩) 1 cv) = some r1 →
    xInsert E ts es by_ [.slice (some ⟨r, 0, none⟩) idx (loCap L es), .int .i64 (idx : Int), .slice (some ⟨rv, 0, none⟩) 1 cv] sA.m = some r1 := fun {r1} e => by
   unfold xInsert
   simp only [if_true]
   unfold xIns0
   simp only [if_neg (show ¬ (1 = 0) by omega), if_true]
   rw [if_pos ⟨by rw [hcap.1]; exact hn, by rfl⟩]
   exact e
  have hsrc : psourceZ E (⟨[], 0, k0, [], M⟩ : PSt) te z es (some ts) (.sl kv iv 0 1 cv) = some (vcells, 1) := by
   unfold psourceZ psource
   simp only [ht, hzd, if_neg (show ¬ (1 = 0) by omega), hlk2]
   rw [if_pos (by omega), List.drop_zero, List.take_of_length_le (by omega)]
  rw [List.drop_of_length_le (by rw [List.length_take]; omega), List.append_nil, List.take_of_length_le (l := cells.take (idx * es)) (by rw [List.length_take]; omega)]
  rcases Nat.lt_or_ge idx L with hlt | hge
  ·have hroom : (idx + 1) * es <= cells.length := by rw [hL]; exact Nat.mul_le_mul_right _ hlt
   have hp : pappendR E (⟨[], 0, k0, [], M⟩ : PSt) ts (some ts) (.sl k i 0 idx (loCap L es)) (.sl kv iv 0 1 cv) = some (.sl k i 0 (idx + 1) (loCap L es), ⟨[], 0, k0, [], putM M k i (.row .rw es (psplice cells (0 + idx * es) vcells))⟩) := by
    unfold pappendR
    simp only [ht, hd, hye, hz, he1, hsrc]
    rw [if_neg (by omega), if_pos (by rw [hcap.1]; omega)]
    simp only [hlk1]
    rw [if_pos ⟨by omega, hov⟩, hps]
   obtain ⟨v, m', g1, ⟨cx', g2, g3, g4⟩, _, _, _⟩ := pappendR_sim hE hs h1' h3' hp
   refine ⟨v, m', cx', _, _, hcan (hx0 g1), g2, g3, g4, ⟨k, i, .rw, _, _, rfl, ⟨by rw [hcap.1]; omega, hcap.2⟩, ?_, ?_, ?_, .inl ⟨rfl, rfl, hnil⟩⟩⟩
   ·rw [psplice_length (by omega)]; exact hroom
   ·rw [Nat.zero_add]
    unfold psplice
    rw [hnes, <- List.append_assoc, List.take_append_of_le_length (by simp; omega), List.take_of_length_le (by simp; omega)]
   ·intro y hy
    rcases mem_splice hy with h | h
    ·exact List.mem_append_left _ h
    ·exact List.mem_append_right _ h
  ·have hLn : L = idx := by omega
   subst hLn
   have hp : pappendR E (⟨[], 0, k0, [], M⟩ : PSt) ts (some ts) (.sl k i 0 L (loCap L es)) (.sl kv iv 0 1 cv) = some (.sl k0 0 0 (L + 1) (loCap (L + 1) es), ⟨[], 0, k0, [.row .own es (cells ++ vcells)], putM M k i .gone⟩) := by
    unfold pappendR
    simp only [ht, hd, hye, hz, he1, he2, hsrc]
    rw [if_neg (by omega), if_neg (by rw [hcap.1]; omega)]
    unfold pgrow
    rw [if_pos ⟨hcap.2.1, hcap.2.2, rfl, by omega, by omega, hby.2, hes2, he3, hov⟩]
    simp only [hlk1]
    rw [if_pos ⟨trivial, by omega, by omega⟩, hps]
    rfl
   obtain ⟨v, m', g1, ⟨cx', g2, g3, g4⟩, _, _, _⟩ := pappendR_sim hE hs h1' h3' hp
   have hc2 := cap_lo (n := L + 1) hes2
   refine ⟨v, m', cx', _, _, hcan (hx0 g1), g2, g3, g4, ⟨k0, 0, .own, _, _, rfl, ⟨by rw [hc2.1]; omega, hc2.2⟩, ?_, ?_, ?_, .inr ⟨rfl, rfl, hfr, rfl⟩⟩⟩
   ·rw [List.length_append]; omega
   ·rw [List.take_of_length_le (by rw [List.length_append]; omega), List.take_of_length_le (by omega)]
   ·exact fun y hy => hy
 ·have hlt : idx < n := by omega
  obtain ⟨vs0, s1, s2, s3, s4, s5⟩ := after_store hs hlk1 a1 (ws := []) (wv := []) (o := 0) .nil rfl (by simp)
  rw [e2] at s1; cases s1
  rw [show splice vs 0 [] = vs from overK_nil vs] at s4 s5
  rw [hps, show psplice cells 0 [] = cells by unfold psplice; simp] at s5
  have hMM : putM M k i (.row .rw es cells) = M := by
   funext a b
   unfold putM
   split
   ·rename_i hc; rw [hc.1, hc.2, hM]
   ·rfl
  rw [hMM] at s5
  have hnb : sA.m.nb <= r := Nat.le_trans hs.pg.wf.nb hbar
  have hgr2 : (sA.m.upd r (some (.row vs .rw es none))).get r = some (.row vs .rw es none) := Mem.get_upd_same hnb _
  have hgv2 : (sA.m.upd r (some (.row vs .rw es none))).get rv = some (.row ws .rw es none) := by rw [Mem.get_upd_ne hnb (Ne.symm hrr)]; exact f2
  have hbar2 : (sA.m.upd r (some (.row vs .rw es none))).bar = sA.m.bar := by rw [Mem.upd_def]
  have hall1 := allOne_sim e3 ho
  have hall2 := allOne_sim f3 hov
  have hx1 : ∀ {y}, xRoom es [.slice (some ⟨r, 0, none⟩) n (loCap L es), .int .i64 (idx : Int), .slice (some ⟨rv, 0, none⟩) 1 cv] (sA.m.upd r (some (.row vs .rw es none))) = some y →
    xInsert E ts es by_ [.slice (some ⟨r, 0, none⟩) n (loCap L es), .int .i64 (idx : Int), .slice (some ⟨rv, 0, none⟩) 1 cv] sA.m = some y := fun {y} e => by
   unfold xInsert
   simp only [if_neg (show ¬ ((idx : Int) = (n : Int)) by omega), if_neg (show ¬ (n = 0) by omega), s4, e]
  have hx1' : ∀ {y}, xRoom es [.slice (some ⟨r, 0, none⟩) n (loCap L es), .int .i64 (idx : Int), .slice (some ⟨rv, 0, none⟩) 1 cv] (sA.m.upd r (some (.row vs .rw es none))) = none →
    xIns0 E ts es by_ [.slice (some ⟨r, 0, none⟩) n (loCap L es), .int .i64 (idx : Int), .slice (some ⟨rv, 0, none⟩) 1 cv] (sA.m.upd r (some (.row vs .rw es none))) = some y →
    xInsert E ts es by_ [.slice (some ⟨r, 0, none⟩) n (loCap L es), .int .i64 (idx : Int), .slice (some ⟨rv, 0, none⟩) 1 cv] sA.m = some y := fun {y} e e2 => by
   unfold xInsert
   simp only [if_neg (show ¬ ((idx : Int) = (n : Int)) by omega), if_neg (show ¬ (n = 0) by omega), s4, e, e2]
  have htn : ((idx : Int)).toNat = idx := by omega
  have hbn : idx * es <= n * es := Nat.mul_le_mul_right _ hi
  have hinc : (idx + 1) * es = idx * es + es := by rw [Nat.add_mul, Nat.one_mul]
  have htl : ((cells.take (n * es)).drop (idx * es)).length = n * es - idx * es := by simp; omega
  rcases Nat.lt_or_ge n L with hroom | hfull
  ·have hrm : (n + 1) * es <= cells.length := by rw [hL]; exact Nat.mul_le_mul_right _ hroom
   have hlk1' : (⟨[], 0, k0, [], M⟩ : PSt).look k i = some (.row .rw es cells) := hlk1
   have hws1 : PRs cx ((cells.take (n * es)).drop (idx * es)) (((vs.drop 0).take (n * es)).drop (idx * es)) := by rw [List.drop_zero]; exact (e3.take _).drop _
   have hall3 : ((cells.take (n * es)).drop (idx * es)).all pone = true := by
    rw [List.all_eq_true] at ho ⊢
    exact fun x hx => ho x (List.mem_of_mem_take (List.mem_of_mem_drop hx))
   obtain ⟨vs1, u1, u2, u3, u4, u5⟩ := after_store s5 hlk1' a1 (o := 0 + (idx + 1) * es) hws1 hall3 (by omega)
   rw [hgr2] at u1
   simp only [Option.some.injEq, AObj.row.injEq] at u1
   obtain ⟨rfl, -⟩ := u1
   rw [hps] at u5
   have hlk3 : (⟨[], 0, k0, [], putM M k i (.row .rw es (psplice cells (0 + (idx + 1) * es) ((cells.take (n * es)).drop (idx * es))))⟩ : PSt).look k i = some (.row .rw es (psplice cells (0 + (idx + 1) * es) ((cells.take (n * es)).drop (idx * es)))) := by
    unfold PSt.look; rw [if_neg hk0]; exact putM_same _ _ _ _
   obtain ⟨vs2, y1, y2, y3, y4, y5⟩ := after_store u5 hlk3 a1 (o := 0 + idx * es) f3 hov (by rw [psplice_length (by omega)]; omega)
   have hps2 : ∀ {o1 o : Obj}, ((⟨[], 0, k0, [], putM M k i o1⟩ : PSt).putO k i o) = ⟨[], 0, k0, [], putM M k i o⟩ := fun {o1 o} => by unfold PSt.putO; rw [if_neg hk0]; simp only [putM_put]
   rw [hps2] at y5
   have hrm2 : xRoom es [.slice (some ⟨r, 0, none⟩) n (loCap L es), .int .i64 (idx : Int), .slice (some ⟨rv, 0, none⟩) 1 cv] (sA.m.upd r (some (.row vs .rw es none))) =
     some (.slice (some ⟨r, 0, none⟩) (n + 1) (loCap L es), ((sA.m.upd r (some (.row vs .rw es none))).upd r (some (.row (splice vs (0 + (idx + 1) * es) (((vs.drop 0).take (n * es)).drop (idx * es))) .rw es none))).upd r (some (.row (splice vs2 (0 + idx * es) ws) .rw es none))) := by
    unfold xRoom
    simp only [hgr2, hgv2, htn]
    rw [if_pos ⟨⟨trivial, by omega, hlt, by omega⟩, ⟨by omega, hrr, by rw [hcap.1]; omega, hby.2⟩, ⟨trivial, hes3, hes1, by omega⟩, hall1, hall2⟩]
    simp only [u4, y4, Option.map_some]
   have hroomX := hx1 hrm2
   refine ⟨_, _, cx, _, _, hcan hroomX, .sl a1, Ext.refl _ _, y5, ⟨k, i, .rw, _, _, rfl, ⟨by rw [hcap.1]; omega, hcap.2⟩, ?_, ?_, ?_, .inl ⟨rfl, rfl, hnil⟩⟩⟩
   ·rw [psplice_length (by rw [psplice_length (by omega)]; omega), psplice_length (by omega)]; exact hrm
   ·rw [Nat.zero_add, Nat.zero_add, hinc, hnes]
    exact set_in hv hbn (by omega)
   ·intro y hy
    rcases mem_splice hy with h | h
    ·rcases mem_splice h with h | h
     ·exact List.mem_append_left _ h
     ·exact List.mem_append_left _ (List.mem_of_mem_take (List.mem_of_mem_drop h))
    ·exact List.mem_append_right _ h
  ·have hLn : L = n := by omega
   subst hLn
   have hrm0 : xRoom es [.slice (some ⟨r, 0, none⟩) L (loCap L es), .int .i64 (idx : Int), .slice (some ⟨rv, 0, none⟩) 1 cv] (sA.m.upd r (some (.row vs .rw es none))) = none := by
    unfold xRoom
    simp only [hgr2, hgv2]
    rw [if_neg (by rintro ⟨_, ⟨_, _, h, _⟩, _⟩; rw [hcap.1] at h; omega)]
   have hszm : (sA.m.upd r (some (.row vs .rw es none))).size = ((sA.m.upd r (some (.row vs .rw es none))).upd r none).size := by simp only [Mem.upd_def]
   have hct : cells.take (L * es) = cells := List.take_of_length_le (by omega)
   have hx3 : xIns0 E ts es by_ [.slice (some ⟨r, 0, none⟩) L (loCap L es), .int .i64 (idx : Int), .slice (some ⟨rv, 0, none⟩) 1 cv] (sA.m.upd r (some (.row vs .rw es none))) =
     some (.slice (some (addr (sA.m.upd r (some (.row vs .rw es none))).size 0)) (L + 1) (loCap (L + 1) es), ((sA.m.upd r (some (.row vs .rw es none))).upd r none).new (.row (vs.take (idx * es) ++ (ws ++ vs.drop (idx * es))) .rw es none)) := by
    unfold xIns0
    simp only [if_neg (show ¬ (1 = 0) by omega), if_neg (show ¬ ((idx : Int) = (L : Int)) by omega), hgr2, hgv2, htn]
    rw [if_pos ⟨⟨trivial, trivial, by omega, hlt⟩, ⟨by omega, by omega, hrr, by rw [hbar2]; exact hbar⟩, ⟨trivial, trivial, trivial, by have := hby.1; exact Nat.le_trans (Nat.mul_le_mul_right by_ (by omega)) this, hby.2⟩, ⟨hes2, hes3, hes1⟩, hall1, hall2⟩]
   rw [hszm] at hx3
   have hx2 := hx1' hrm0 hx3
   have hd1 := after_drop s5 hlk1 a1 (by show (sA.m.upd r _).bar <= r; rw [hbar2]; exact hbar)
   rw [hps] at hd1
   have hrw : PRs cx (cells.take (idx * es) ++ (vcells ++ cells.drop (idx * es))) (vs.take (idx * es) ++ (ws ++ vs.drop (idx * es))) := (e3.take _).append (f3.append (e3.drop _))
   have hcur := (hd1.cur 0 (Nat.le_refl _)).1
   obtain ⟨⟨cx', g2, g3, g4⟩, _, _, _⟩ := after_new hd1 (o := .row .rw es (cells.take (idx * es) ++ (vcells ++ cells.drop (idx * es)))) nofun nofun (new_row_OG (es := es) hd1.pg hcur hrw) (x := .sl k0 0 0 (L + 1) (loCap (L + 1) es)) (v := .slice (some ⟨((sA.m.upd r (some (.row vs .rw es none))).upd r none).size, 0, none⟩) (L + 1) (loCap (L + 1) es)) (.sl (by simp [Cx.bind]))
   have hc2 := cap_lo (n := L + 1) hes2
   refine ⟨_, _, cx', _, _, hcan hx2, g2, g3, g4, ⟨k0, 0, .rw, _, _, rfl, ⟨by rw [hc2.1]; omega, hc2.2⟩, ?_, ?_, ?_, .inr ⟨rfl, rfl, hfr, rfl⟩⟩⟩
   ·simp only [List.length_append, List.length_take, List.length_drop]; omega
   ·rw [hct, List.take_of_length_le (by simp only [List.length_append, List.length_take, List.length_drop]; omega)]
   ·intro y hy
    rcases List.mem_append.1 hy with h | h
    ·exact List.mem_append_left _ (List.mem_of_mem_take h)
    ·rcases List.mem_append.1 h with h | h
     ·exact List.mem_append_right _ h
     ·exact List.mem_append_left _ (List.mem_of_mem_drop h)
theorem PT.insert0 (hE : EnvOk E P) {F ts te es by_ : Nat} (I : InsFn P F ts te es by_) {x : Fun} (hf : E.fn F = some x) {yt ye : Ty} {z : List PV} (ht : E.ty ts = some yt) (hd : yt.desc = .slice te) (hye : E.ty te = some ye) (hz : pzero E te = some z) (hzd : zerosD yt.desc = some false)
  (he : ye.size = es /\ ye.bytes = by_ /\ z.length = es) {e0 : Nat} {vcells : List PV} (hv : vcells.length = es) (hov : vcells.all pone = true) (hes : 0 < es /\ es < 4096) (hby : 2002 * by_ <= 281474976710656) :
  PTk E P F [.lst .full e0 0 [], .v (.int .i64 ((0 : Nat) : Int)), .lst .full es 1 vcells] M (fun nk x M1 => x = .sl nk 0 0 1 (loCap 1 es) /\ fresh M nk /\ M1 = seg M nk [.row .rw es vcells]) := by
 obtain ⟨he1, he2, he3⟩ := he
 refine PTk.lift fun cx k0 sA vargs hfr hs ha => ?_
 cases ha with
 | cons h1 ha =>
 cases ha with
 | cons h2 ha =>
 cases ha with
 | cons h3 ha =>
 cases ha
 obtain ⟨rfl, _⟩ := h2.flat_eq
 have h1' := h1
 have h3' := h3
 obtain ⟨a, c, rfl, hcap, hodd, hn, hvv, hfull⟩ := h1.lst_view
 have hc0 := hfull rfl
 generalize hcv : (2 * 1 : Nat) = cv
 cases h3 with
 | lfull hr hl hs' hn' =>
 rename_i r off cells
 rw [hcv] at h3'
 rw [hcv]
 have hsrc : psourceZ E (⟨[], 0, k0, [], M⟩ : PSt) te z es (some ts) (.lst .full es 1 vcells) = some (vcells, 1) := by
  unfold psourceZ psource
  simp only [ht, hzd, if_neg (show ¬ (1 = 0) by omega), if_true]
 have hp : pappendR E (⟨[], 0, k0, [], M⟩ : PSt) ts (some ts) (.lst .full e0 0 []) (.lst .full es 1 vcells) = some (.sl k0 0 0 1 (loCap 1 es), ⟨[], 0, k0, [.row .rw es vcells], M⟩) := by
  unfold pappendR
  simp only [ht, hd, hye, hz, he1, he2, hsrc]
  rw [if_pos ⟨by omega, .inl (by trivial), by omega, by omega, hes.2, he3, hov⟩]
  rfl
 obtain ⟨v, m', g1, ⟨cx', g2, g3, g4⟩, _, _, _⟩ := pappendR_sim hE hs h1' h3' hp
 have hx0 : xIns0 E ts es by_ [.slice a 0 c, .int .i64 ((0 : Nat) : Int), .slice (some ⟨r, off, none⟩) 1 cv] sA.m = some (v, m') := by
  unfold xIns0
  simp only [if_neg (show ¬ (1 = 0) by omega), if_true]
  rw [if_pos ⟨Nat.zero_le _, by simp⟩]
  exact g1
 have hx1 : xInsert E ts es by_ [.slice a 0 c, .int .i64 ((0 : Nat) : Int), .slice (some ⟨r, off, none⟩) 1 cv] sA.m = some (v, m') := by
  unfold xInsert
  split
  ·rename_i heq
   simp only [List.cons.injEq, Value.slice.injEq, Value.int.injEq] at heq
   obtain ⟨⟨rfl, rfl, rfl⟩, ⟨_, hi⟩, hx, _⟩ := heq
   subst hi hx
   rw [if_pos rfl]
   exact hx0
  ·exact hx0
 exact ⟨v, m', cx', _, _, ⟨fun ι w args' hR hA => insert_ok hE I hf hx1 hR hA, fun hw => Keep.insert hw hx1⟩, g2, g3, g4, rfl, hfr, rfl⟩
end
end Go.Pm
namespace Go.Proofs.YtlbjplpehkgcdaaGreatDoor
open Go Go.Am Go.Pm
def sameD (x y : Ev) : Bool := x.node == y.node && x.seq == y.seq
theorem call58 (e x : Ev) (he : e.path.length <= 1000000) (hx : x.path.length <= 1000000) {M0 : PMem} {a i : Nat} {w : Wm} (hM : M0 a i = some (.row w 0 (evCells e))) : PTs env Tryz.prog M0 58 [encEv x, .ptr a i 0] (bv (sameD x e || aheadB e x)) := by
 refine PTs.enter env_ok fn58 (by simp) comp58 fun M k hs hk hf => ?_
 have hM' := hs _ _ _ hM
 have hld : ∀ {ag : Bool} {n o : Nat} {os : List Pm.Obj}, loadP k os M ag n (.ptr a i o) = rowTake ag n o (M a i) := loadP_out (fresh_ne hf hM')
 simp only [G0, Z1, Z2, Z3, Z4, Z5, argsP, encEv, hld, hM', evCells, eql28]
 cases hd : sameD x e with
 | true =>
  unfold sameD at hd
  rw [hd]
  simp only [G0, Z1, Z2, Z3, Z4, Z5, cnd_t, cnd_f, Bool.not_true, Bool.not_false, Bool.true_or]
  exact end1 hf rfl ⟨rfl, rfl⟩
 | false =>
  unfold sameD at hd
  rw [hd]
  simp only [G0, Z1, Z2, Z3, Z4, Z5, cnd_t, cnd_f, Bool.not_true, Bool.not_false, Bool.false_or]
  refine cp0 (ahead_at e x he hx) (by decide) ?_
  simp only [G0, Z1, Z2, Z3, Z4, Z5]
  exact end1 hf rfl ⟨rfl, rfl⟩
theorem call61 (e x : Ev) (he : e.path.length <= 1000000) (hx : x.path.length <= 1000000) {M0 : PMem} {a i : Nat} {w : Wm} (hM : M0 a i = some (.row w 0 (evCells e))) : PTs env Tryz.prog M0 61 [encEv x, .ptr a i 0] (bv (aheadB x e)) := by
 refine PTs.enter env_ok fn61 (by simp) comp61 fun M k hs hk hf => ?_
 have hM' := hs _ _ _ hM
 have hld : ∀ {ag : Bool} {n o : Nat} {os : List Pm.Obj}, loadP k os M ag n (.ptr a i o) = rowTake ag n o (M a i) := loadP_out (fresh_ne hf hM')
 simp only [G0, Z1, Z2, Z3, Z4, Z5, argsP, encEv, hld, hM', evCells]
 refine cp0 (ahead_at x e hx he) (by decide) ?_
 simp only [G0, Z1, Z2, Z3, Z4, Z5]
 exact end1 hf rfl ⟨rfl, rfl⟩
theorem all_ev (l : List Ev) : (l.flatMap evCells).all pone = true := by
 induction l with
 | nil => rfl
 | cons x l ih => rw [List.flatMap_cons, List.all_append, ih]; rfl
inductive ClE (M M1 : PMem) (nk : Nat) (l : List Ev) : PV -> Prop where
 | nil (e : Nat) (hl : l = []) (hM : M1 = M) : ClE M M1 nk l (.lst .full e 0 [])
 | row {k : Nat} (hk : nk <= k) (hf : fresh M k) (hl : l ≠ []) (hM : M1 = seg M k [.row .rw 7 (l.flatMap evCells)]) : ClE M M1 nk l (.sl k 0 0 l.length (loCap l.length 7))
theorem clone60 (l : List Ev) (hl : l.length <= 1000000) (M : PMem) : PTk env Tryz.prog 60 [encEvs l] M (fun nk x M1 => ClE M M1 nk l x) := by
 refine PTk.enterR env_ok fn60 (by simp) comp60 fun k hk hf => RX.of env_ok ?_
 simp only [G0, Z1, Z2, Z3, Z4, Z5, argsP, encEvs]
 refine nL_lst fun b hb => ?_
 simp only [G0, Z1, Z2, Z3, Z4, Z5]
 cases b with
 | true =>
  have hz : l = [] := by
   cases l with
   | nil => rfl
   | cons x l => exact absurd (hb (by simp)) (by simp)
  subst hz
  simp only [G0, Z1, Z2, Z3, Z4, Z5, Bool.xor_false]
  exact end1 hf rfl (.nil 0 rfl rfl)
 | false =>
  simp only [G0, Z1, Z2, Z3, Z4, Z5, Bool.xor_false]
  by_cases hz : l.length = 0
  ·have : l = [] := List.length_eq_zero_iff.1 hz
   subst this
   refine aL ?_
   simp only [G0, Z1, Z2, Z3, Z4, Z5, List.flatMap_nil, ap_nil]
   exact end1 hf rfl (.nil 7 rfl rfl)
  ·have hc : (0 = 0 \/ 7 = 7) /\ (2 * (0 + l.length) + 2000) * 96 <= 281474976710656 /\ 0 + l.length <= 4611686018427387904 /\ 7 < 4096 /\ 7 = 7 /\ (l.flatMap evCells).all pone = true := ⟨.inl rfl, by omega, by omega, by decide, rfl, all_ev l⟩
   refine aR ?_
   rw [apr_full hz hc]
   simp only [G0, Z1, Z2, Z3, Z4, Z5]
   refine endM (v := .sl k 0 0 l.length (loCap l.length 7)) (by first | rfl | simp [tget]) ?_
   exact .row (Nat.le_refl _) hf (fun e => hz (by rw [e]; rfl)) (by simp)
end Go.Proofs.YtlbjplpehkgcdaaGreatDoor
namespace Go.Pm
open Go.RowKit Go.Am
def innM (nt k : Nat) (os : List Obj) (Q : AExit -> PSt -> Prop) : AExit -> PSt -> Prop := fun e s1 => ∃ M1, MLe s1.mem (seg M1 k os) /\ Q e ⟨s1.tm, nt, k, os, M1⟩
section
variable {E : Env} {P : Program} {rd : Option (Nat × Nat)} {Q : AExit -> PSt -> Prop} {a : RC} {tm : List (Nat × PV)} {nt k : Nat} {os : List Obj} {M : PMem}
theorem RX.innM (h : ∀ k', k' ≠ k -> 0 < k' -> fresh (seg M k os) k' -> RX E P rd a ⟨tm, nt, k', [], seg M k os⟩ (Pm.innM nt k os Q)) : RX E P rd a ⟨tm, nt, k, os, M⟩ Q :=
 RX.push fun k' h1 h2 h3 => by
  have hfr : fresh (seg M k os) k' := fresh_mem (s := ⟨tm, nt, k, os, M⟩) h3 h1
  refine (h k' h1 h2 hfr).conseq fun e s1 hk hn hq => ?_
  obtain ⟨M1, e1, e2⟩ := hq
  have hn' : s1.nt = nt := hn
  exact ⟨s1, SLe.refl _, os, M1, rfl, e1, by rw [hn']; exact e2⟩
theorem RXL.innM (h : ∀ k', k' ≠ k -> 0 < k' -> fresh (seg M k os) k' -> RX E P rd a ⟨tm, nt, k', [], seg M k os⟩ (Pm.innM nt k os (thenRL E P rd a Q))) : RXL E P rd a ⟨tm, nt, k, os, M⟩ Q :=
 RXL.round (RX.innM h)
end
end Go.Pm
namespace Go.Proofs.YtlbjplpehkgcdaaGreatDoor
open Go Go.Am Go.Pm
def rowE (R : List Ev) : Pm.Obj := .row .rw 7 (R.flatMap evCells)
theorem set_cells : ∀ (R : List Ev) (i : Nat) (v : Ev), i < R.length -> psplice (R.flatMap evCells) (i * 7) (evCells v) = (R.set i v).flatMap evCells
 | [], i, v, h => by simp at h
 | x :: R, 0, v, _ => by
  unfold psplice
  simp [evCells]
 | x :: R, i + 1, v, h => by
  have ih := set_cells R i v (by simpa using h)
  unfold psplice at ih ⊢
  have e : (i + 1) * 7 = 7 + i * 7 := by omega
  have h7 : (evCells x).length = 7 := rfl
  rw [List.set_cons_succ, List.flatMap_cons, List.flatMap_cons, <- ih, e]
  have e1 : (evCells x ++ R.flatMap evCells).take (7 + i * 7) = evCells x ++ (R.flatMap evCells).take (i * 7) := by
   rw [List.take_append, h7, List.take_of_length_le (by rw [h7]; omega)]; congr 2; omega
  have e2 : (evCells x ++ R.flatMap evCells).drop (7 + i * 7 + (evCells v).length) = (R.flatMap evCells).drop (i * 7 + (evCells v).length) := by
   rw [List.drop_append, h7, List.drop_of_length_le (by rw [h7]; omega), List.nil_append]; congr 1; omega
  rw [e1, e2, List.append_assoc]
theorem rt_rowE {ag : Bool} {n o : Nat} {R : List Ev} : rowTake ag n o (some (rowE R)) = ptake ag n (R.flatMap evCells) o := rfl
theorem ev_all {x : Ev} : ptake true 7 (evCells x) 0 = some (encEv x) := rfl
def keepF (p : Ev -> Bool) (l : List Ev) : List Ev := l.filter fun x => !p x
structure Dl (p : Ev -> Bool) (l R : List Ev) (i j : Nat) : Prop where
 len : R.length = l.length
 lt : i < j
 le : j <= l.length
 keep : R.take i = keepF p (l.take j)
 rest : R.drop j = l.drop j
section
variable {p : Ev -> Bool} {l R : List Ev} {i j : Nat}
theorem Dl.get (h : Dl p l R i j) {v : Ev} (hv : l[j]? = some v) : R[j]? = some v := by
 have h1 : (R.drop j)[0]? = (l.drop j)[0]? := by rw [h.rest]
 rw [List.getElem?_drop, List.getElem?_drop, Nat.add_zero] at h1
 rw [h1]; exact hv
theorem take_snoc {α : Type} {l : List α} {j : Nat} {v : α} (hv : l[j]? = some v) : l.take (j + 1) = l.take j ++ [v] := by rw [List.take_add_one, hv]; rfl
theorem lt_get {α : Type} {l : List α} {j : Nat} {v : α} (hv : l[j]? = some v) : j < l.length := (List.getElem?_eq_some_iff.1 hv).1
theorem Dl.out (h : Dl p l R i j) {v : Ev} (hv : l[j]? = some v) (hp : p v = true) : Dl p l R i (j + 1) := by
 have hj := lt_get hv
 have hl := h.lt
 refine ⟨h.len, by omega, by omega, ?_, ?_⟩
 ·rw [h.keep, take_snoc hv]; unfold keepF; rw [List.filter_append]; simp [hp]
 ·have : R.drop (j + 1) = (R.drop j).drop 1 := by rw [List.drop_drop]
  rw [this, h.rest, List.drop_drop]
theorem Dl.in (h : Dl p l R i j) {v : Ev} (hv : l[j]? = some v) (hp : p v = false) : Dl p l (R.set i v) (i + 1) (j + 1) := by
 have hj := lt_get hv
 have hl := h.lt
 have hlen := h.len
 refine ⟨by rw [List.length_set]; exact h.len, by omega, by omega, ?_, ?_⟩
 ·rw [take_snoc (l := R.set i v) (v := v) (by rw [List.getElem?_set_self (by omega)]), List.take_set_of_le (Nat.le_refl _), h.keep, take_snoc hv]
  unfold keepF; rw [List.filter_append]; simp [hp]
 ·rw [List.drop_set_of_lt (by omega)]
  have : R.drop (j + 1) = (R.drop j).drop 1 := by rw [List.drop_drop]
  rw [this, h.rest, List.drop_drop]
theorem idxG_first {α : Type} (p : α -> Bool) : ∀ (l : List α) (i : Nat), (idxG p i l = -1 /\ l.any p = false) \/ ∃ n x, idxG p i l = ((i + n : Nat) : Int) /\ l[n]? = some x /\ p x = true /\ ∀ y ∈ l.take n, p y = false
 | [], i => .inl ⟨rfl, rfl⟩
 | x :: r, i => by
  unfold idxG
  cases h : p x with
  | true => exact .inr ⟨0, x, by simp, rfl, h, fun y hy => by simp at hy⟩
  | false =>
   rw [if_neg (by decide)]
   rcases idxG_first p r (i + 1) with ⟨h1, h2⟩ | ⟨n, z, h1, h2, h3, h4⟩
   ·exact .inl ⟨h1, by rw [List.any_cons, h, h2]; rfl⟩
   ·refine .inr ⟨n + 1, z, by rw [h1]; congr 1; omega, by simpa using h2, h3, fun y hy => ?_⟩
    rw [List.take_succ_cons] at hy
    rcases List.mem_cons.1 hy with rfl | hy
    ·exact h
    ·exact h4 y hy
theorem Dl.start {n : Nat} {x : Ev} (hx : l[n]? = some x) (hp : p x = true) (hn : ∀ y ∈ l.take n, p y = false) : Dl p l l n (n + 1) := by
 have hj := lt_get hx
 refine ⟨rfl, by omega, by omega, ?_, rfl⟩
 rw [take_snoc hx]; unfold keepF
 rw [List.filter_append, List.filter_eq_self.2 (fun y hy => by rw [hn y hy]; rfl)]
 simp [hp]
end
theorem fresh_re {M : PMem} {a i k : Nat} {o o' : Pm.Obj} (h : fresh (putM M a i o) k) : fresh (putM M a i o') k := fun y => by
 have hk : ¬ (k = a /\ i = i) := fun e => by
  have := h i
  unfold putM at this
  rw [if_pos e] at this; cases this
 have h1 := h y
 unfold putM at h1 ⊢
 rw [if_neg (fun e => hk ⟨e.1, rfl⟩)] at h1 ⊢
 exact h1
structure Kd (tm : List (Nat × PV)) (a n c : Nat) (f : PV) (i j : Nat) : Prop where
 t0 : tget tm 0 = .sl a 0 0 n c
 t1 : tget tm 1 = f
 t5 : tget tm 5 = iv i
 t6 : tget tm 6 = iv j
section
variable {M0 M : PMem} {a k c g : Nat} {l : List Ev} {first cap : List PV} {p : Ev -> Bool}
theorem loop59 (hl : l.length <= 1000000) (hs : ∀ o, Pm.Sub M0 (putM M a 0 o)) (hf : fresh M k) (hak : a ≠ k) (Q : AExit -> PSt -> Prop)
  (hp : ∀ x ∈ l, PTs env Tryz.prog M0 g (first ++ ([encEv x] ++ cap)) (bv (p x)))
  (q1 : ∀ tm R i, Dl p l R i l.length -> Kd tm a l.length c (.fn g first cap) i l.length -> Q (.exit 0) ⟨tm, 42, k, [], putM M a 0 (rowE R)⟩) :
  ∀ d j i R N tm, N = putM M a 0 (rowE R) -> l.length - j = d -> Dl p l R i j -> Kd tm a l.length c (.fn g first cap) i j -> RXL env Tryz.prog none c59_22 ⟨tm, 42, k, [], N⟩ Q := by
 intro d
 induction d with
 | zero =>
  intro j i R N tm hN hd hD hK
  subst hN
  have : j = l.length := by have := hD.le; omega
  subst this
  have hK0 := hK
  obtain ⟨t0, t1, t5, t6⟩ := hK
  refine RXL.round (RX.of env_ok ?_)
  simp only [G0, Z1, Z2, Z3, Z4, Z5, t0, t6, len_sl, Int.lt_irrefl, decide_false]
  exact q1 _ R i hD ⟨t0, t1, t5, t6⟩
 | succ d ih =>
  intro j i R N tm hN hd hD hK
  subst hN
  have hj' : j < l.length := by omega
  have hjj : (j : Int) < l.length := by omega
  obtain ⟨x, hx, hdx⟩ := getE hj'
  have hRl := hD.len
  have hxR := hD.get hx
  have hilt := hD.lt
  have hlx := ev_load7 hxR
  have hmem := List.mem_of_getElem? hx
  have hw : IntKind.i64.wrap ((j : Int) + 1) = ((j + 1 : Nat) : Int) := by rw [wrap64_id (by omega) (by omega)]; rfl
  have hw2 : IntKind.i64.wrap ((i : Int) + 1) = ((i + 1 : Nat) : Int) := by rw [wrap64_id (by omega) (by omega)]; rfl
  obtain ⟨t0, t1, t5, t6⟩ := hK
  refine RXL.innM fun k' hk1 hk2 hk3 => RX.of env_ok ?_
  have hfk : fresh (putM M a 0 (rowE R)) k := fresh_put hf hak
  rw [segNil hfk] at hk3 ⊢
  have hak' : a ≠ k' := fun e => by subst e; have := hk3 0; unfold putM at this; rw [if_pos ⟨rfl, rfl⟩] at this; cases this
  have hld : ∀ {ag : Bool} {n o : Nat} {os : List Pm.Obj}, loadP k' os (putM M a 0 (rowE R)) ag n (.ptr a 0 o) = rowTake ag n o (some (rowE R)) := fun {ag n o os} => by rw [loadP_out hak', putM_same]
  have hia := fun (kk : IntKind) => iaddr_sl (k := a) (i := 0) (o := 0) (n := l.length) (c := c) (sz := 7) (kk := kk) hj'
  simp only [G0, Z1, Z2, Z3, Z4, Z5, t0, t1, t5, t6, len_sl, hjj, decide_true, hia, Nat.zero_add, hld, rt_rowE, hlx, hstE, ev_all]
  refine cs (hp x hmem) ((hs _).sseg hk3) (by decide) ?_
  cases hpx : p x with
  | true =>
   simp only [G0, Z1, Z2, Z3, Z4, Z5, t6, hw, Bool.not_true]
   refine ⟨putM M a 0 (rowE R), ?_, ?_⟩
   ·rw [segNil hfk]; exact MLe.pop hk3
   ·exact ih (j + 1) i R _ _ rfl (by omega) (hD.out hx hpx) ⟨t0, t1, t5, rfl⟩
  | false =>
   have hii := fun (kk : IntKind) => iaddr_sl (k := a) (i := 0) (o := 0) (n := l.length) (c := c) (sz := 7) (kk := kk) (show i < l.length by omega)
   have hiR : i < R.length := by omega
   have hso : storeO 7 (i * 7) (encEv x) (some (rowE R)) = some (rowE (R.set i x)) := by
    have hlen := ev_len7 R
    unfold rowE
    rw [storeO_eq (n := 7) (x := encEv x) ⟨rfl, by show i * 7 + 7 <= _; omega, rfl⟩, show pcells (encEv x) = evCells x from rfl, set_cells R i x hiR]
   have hst : ∀ {tm : List (Nat × PV)} {nt : Nat} {os : List Pm.Obj}, storeP tm nt k' os (putM M a 0 (rowE R)) 7 (encEv x) (.ptr a 0 (i * 7)) = some (.junk, ⟨tm, nt, k', os, putM M a 0 (rowE (R.set i x))⟩) := fun {tm nt os} => by
    rw [storeP_out hak', putM_same, hso, stO_eq, putM_put]
   simp only [G0, Z1, Z2, Z3, Z4, Z5, t0, t5, t6, Bool.not_false, hii, Nat.zero_add, ev_all, hst, hw, hw2]
   refine ⟨putM M a 0 (rowE (R.set i x)), ?_, ?_⟩
   ·rw [segNil (fresh_put hf hak)]
    exact MLe.pop (fresh_re hk3)
   ·exact ih (j + 1) (i + 1) _ _ _ rfl (by omega) (hD.in hx hpx) ⟨t0, t1, rfl, rfl⟩
theorem slice_from {k i n c sz m : Nat} {kk : IntKind} (h1 : m <= n) (hc : n <= capOf c /\ c % 2 = 1 /\ esOf c = sz) (hs : sz < 4096) : sliceL sz (.sl k i 0 n c) (some (.v (.int kk (m : Int)))) none none = some (.sl k i (m * sz) (n - m) (loCap (capOf c - m) sz)) := by
 have hp : pnat? (.v (.int kk (m : Int))) = some m := pnat_int (n := m)
 unfold sliceL
 simp only [hp]
 rw [if_pos ⟨h1, hc.1, .inr ⟨hc.2.1, hc.2.2, hs⟩⟩, Nat.zero_add, if_neg (by omega)]
theorem lo_of {c sz : Nat} (h : c % 2 = 1 /\ esOf c = sz) : loCap (capOf c) sz = c := by
 obtain ⟨h1, rfl⟩ := h
 have h2 : Nat.beq (c % 2) 0 = false := by rw [h1]; rfl
 unfold loCap capOf esOf
 rw [h2, cond_false]
 omega
theorem slice_to {k i n c sz m : Nat} {kk : IntKind} (h1 : m <= capOf c) (hc : (c % 2 = 1 /\ esOf c = sz) /\ sz < 4096) : sliceL sz (.sl k i 0 n c) none (some (.v (.int kk (m : Int)))) none = some (.sl k i 0 m c) := by
 have hp : pnat? (.v (.int kk (m : Int))) = some m := pnat_int (n := m)
 unfold sliceL
 simp only [hp]
 rw [if_pos ⟨Nat.zero_le _, h1, .inr ⟨hc.1.1, hc.1.2, hc.2⟩⟩, if_neg (by omega), Nat.zero_mul, Nat.sub_zero, Nat.sub_zero, lo_of hc.1]
def zeroE : List PV := [.v (.int .i64 0), .v (.int .i64 0), .v (.string ⟨#[]⟩), .v (.int .i64 0), .v (.int .i64 0), .lst .full 0 0 [], .lst .full 0 0 []]
theorem nk_zero {n : Nat} (j : Nat) (y : PV) (h : y ∈ (List.replicate n zeroE).flatten) : NK j y := by
 obtain ⟨l, h1, h2⟩ := List.mem_flatten.1 h
 rw [List.eq_of_mem_replicate h1] at h2
 unfold zeroE at h2
 simp only [List.mem_cons, List.not_mem_nil, or_false] at h2
 rcases h2 with rfl | rfl | rfl | rfl | rfl | rfl | rfl
 ·exact .v _
 ·exact .v _
 ·exact .v _
 ·exact .v _
 ·exact .v _
 ·exact .lst (fun _ e => by cases e) .nil
 ·exact .lst (fun _ e => by cases e) .nil
structure Cut (M M1 : PMem) (a n c : Nat) (out : List Ev) (x : PV) : Prop where
 val : x = .sl a 0 0 out.length c
 mem : ∃ rest, M1 = putM M a 0 (.row .rw 7 (out.flatMap evCells ++ rest)) /\ (out.flatMap evCells ++ rest).length = n * 7 /\ (out.flatMap evCells ++ rest).all pone = true /\ ∀ j, ∀ y ∈ rest, NK j y
theorem delete59 (hl : l.length <= 1000000) (hs : ∀ o, Pm.Sub M0 (putM M a 0 o)) (hM : M a 0 = some (rowE l)) (hcap : l.length <= capOf c /\ c % 2 = 1 /\ esOf c = 7)
  (hp : ∀ x ∈ l, PTs env Tryz.prog M0 g (first ++ ([encEv x] ++ cap)) (bv (p x))) :
  PT env Tryz.prog 59 [.sl a 0 0 l.length c, .fn g first cap] M (fun x M1 => Cut M M1 a l.length c (keepF p l) x) := by
 have hMM : putM M a 0 (rowE l) = M := by
  funext x y
  unfold putM
  split
  ·rename_i h; rw [h.1, h.2, hM]
  ·rfl
 have hs0 : Pm.Sub M0 M := by have := hs (rowE l); rwa [hMM] at this
 refine PT.enterR env_ok fn59 (by simp) comp59 fun k hk hf => RX.of env_ok ?_
 have hak : a ≠ k := fun e => by subst e; rw [hf 0] at hM; cases hM
 have hV : EsV M (.sl a 0 0 l.length c) l := by
  have h1 : M a 0 = some (.row .rw 7 (l.flatMap evCells ++ [])) := by rw [List.append_nil]; exact hM
  exact .row h1
 simp only [G0, Z1, Z2, Z3, Z4, Z5, argsP]
 refine cs0 ((index73 hV hl g first cap p fun x hx => (hp x hx).sub hs0)) (by rw [segNil hf]; exact Pm.Sub.refl _) (by decide) ?_
 rcases idxG_first p l 0 with ⟨h1, h2⟩ | ⟨n, x, h1, h2, h3, h4⟩
 ·rw [h1]
  simp only [G0, Z1, Z2, Z3, Z4, Z5, beq_self_eq_true]
  have hkp : keepF p l = l := by
   unfold keepF
   rw [List.filter_eq_self]
   intro y hy
   rw [List.any_eq_false] at h2
   have := h2 y hy
   simpa using this
  refine end1 hf rfl ⟨?_, [], ?_, ?_, ?_, fun j y hy => by simp at hy⟩
  ·rw [hkp]; rfl
  ·rw [hkp, List.append_nil]; exact hMM.symm
  ·rw [hkp, List.append_nil]; exact ev_len7 l
  ·rw [hkp, List.append_nil]; exact all_ev l
 ·rw [h1, Nat.zero_add]
  have hD := Dl.start h2 h3 h4
  have hn := lt_get h2
  have hne : ((n : Int) == -1) = false := by simp
  have hw : IntKind.i64.wrap ((n : Int) + 1) = ((n + 1 : Nat) : Int) := by rw [wrap64_id (by omega) (by omega)]; rfl
  simp only [G0, Z1, Z2, Z3, Z4, Z5, hne, hw]
  refine RX.loop (loop59 (c := c) hl hs hf hak _ hp (fun tm R i hD' hK => ?_) (l.length - (n + 1)) (n + 1) n l M _ hMM.symm rfl hD (by exact ⟨rfl, rfl, rfl, rfl⟩))
  obtain ⟨t0, t1, t5, t6⟩ := hK
  have hi := hD'.lt
  have hRl := hD'.len
  have hkR : R.take i = keepF p l := by rw [hD'.keep, List.take_length]
  have hki : (keepF p l).length = i := by rw [<- hkR, List.length_take]; omega
  have hfrom := slice_from (k := a) (i := 0) (n := l.length) (c := c) (sz := 7) (m := i) (kk := .i64) (by omega) ⟨hcap.1, hcap.2⟩ (by decide)
  have hto := slice_to (k := a) (i := 0) (n := l.length) (c := c) (sz := 7) (m := i) (kk := .i64) (by omega) ⟨hcap.2, by decide⟩
  have hne2 : l.length - i ≠ 0 := by omega
  have hlr := ev_len7 R
  have hcl : ∀ {tm : List (Nat × PV)} {c' : Nat}, clearS ⟨tm, 42, k, [], putM M a 0 (rowE R)⟩ 7 [.v (.int .i64 0), .v (.int .i64 0), .v (.string ⟨#[]⟩), .v (.int .i64 0), .v (.int .i64 0), .lst .full 0 0 [], .lst .full 0 0 []] (.sl a 0 (i * 7) (l.length - i) c') =
    some (.junk, ⟨tm, 42, k, [], putM M a 0 (.row .rw 7 (psplice (R.flatMap evCells) (i * 7) (List.replicate (l.length - i) zeroE).flatten))⟩) := fun {tm c'} => by
   have h9 := clear_out (tm := tm) (nt := 42) (k := k) (os := []) (M := putM M a 0 (rowE R)) (c := c') (sz := 7) (o := i * 7) (z := zeroE) hne2 hak (putM_same M a 0 (rowE R)) ⟨by omega, rfl, rfl⟩
   rw [putM_put] at h9
   exact h9
  simp only [G0, Z1, Z2, Z3, Z4, Z5, t0, t5, hfrom, r_clear, hcl, hto]
  have hsp : psplice (R.flatMap evCells) (i * 7) (List.replicate (l.length - i) zeroE).flatten = (keepF p l).flatMap evCells ++ (List.replicate (l.length - i) zeroE).flatten := by
   unfold psplice
   have hz : ((List.replicate (l.length - i) zeroE).flatten).length = (l.length - i) * 7 := flat_len zeroE _
   rw [hz, List.drop_of_length_le (by rw [hlr]; omega), List.append_nil]
   congr 1
   rw [<- hkR, <- List.take_append_drop i R, List.flatMap_append, List.take_left' (by rw [ev_len7, List.length_take]; omega), List.take_left' (by rw [List.length_take]; omega)]
  refine endM (v := .sl a 0 0 i c) rfl ⟨by rw [hki], (List.replicate (l.length - i) zeroE).flatten, ?_, ?_, ?_, fun j y hy => nk_zero j y hy⟩
  ·rw [segNil (fresh_put hf hak), hsp]
  ·rw [List.length_append, ev_len7, hki, flat_len]
   show i * 7 + (l.length - i) * 7 = _
   omega
  ·rw [List.all_append, all_ev, all_flat rfl]; rfl
end
end Go.Proofs.YtlbjplpehkgcdaaGreatDoor
namespace Go.Pm
open Go.RowKit Go.Am
section
variable {E : Env} {P : Program} {d g n : Nat} {w : Bool} {ar : List Operand} {A : Operand} {ld : List RD} {tm : List (Nat × PV)} {nt k : Nat} {os : List Obj} {M : PMem} {R : PSt -> Prop} {first cap : List PV}
theorem d_CGt (hg : tget tm g = .v (.bool w)) (hA : pev tm A = .fn n first cap) (h : cK E P (some d) (.d ld) tm nt k os M R (ar.map (pev tm)) (.fn n first cap)) : RPD E P (dCG true d g w A ar :: ld) ⟨tm, nt, k, os, M⟩ R := by
 have hg' : rg (some (g, w)) ⟨tm, nt, k, os, M⟩ = some true := by rw [rg_V, hg]; cases w <;> rfl
 rcases h with ⟨g', f', c', e, h⟩ | ⟨a, i, e, _⟩
 ·cases e; exact .inl ⟨hg', _, _, _, hA, h⟩
 ·cases e
theorem d_CGf (hg : tget tm g = .v (.bool (!w))) (h : nV E P d (.d ld) tm nt k os M R (some (.tup []))) : RPD E P (dCG true d g w A ar :: ld) ⟨tm, nt, k, os, M⟩ R := by
 have hg' : rg (some (g, w)) ⟨tm, nt, k, os, M⟩ = some false := by rw [rg_V, hg]; cases w <;> rfl
 rw [<- nV_put] at h
 exact .inr (.inl ⟨rfl, hg', h⟩)
end
end Go.Pm
namespace Go.Proofs.YtlbjplpehkgcdaaGreatDoor
open Go Go.Am Go.Pm
def ltE (x y : Ev) : Bool := ltB x.node x.seq y.node y.seq
def SortL (l : List Ev) : Prop := ∀ (i j : Nat) (x y : Ev), i < j -> l[i]? = some x -> l[j]? = some y -> ltE x y = true
theorem ltE_trans {x y z : Ev} (h1 : ltE x y = true) (h2 : ltE y z = true) : ltE x z = true := by
 unfold ltE ltB at *
 simp only [Bool.or_eq_true, Bool.and_eq_true, beq_iff_eq, decide_eq_true_eq] at *
 omega
def before (l : List Ev) (e : Ev) : Nat := (l.takeWhile fun x => ltE x e).length
theorem before_eq {e : Ev} : ∀ {l : List Ev} {i : Nat}, i <= l.length -> (∀ m x, m < i -> l[m]? = some x -> ltE x e = true) -> (∀ x, l[i]? = some x -> ltE x e = false) -> before l e = i
 | [], i, h, _, _ => by simp at h; subst h; rfl
 | x :: l, 0, _, _, h => by
  unfold before
  rw [List.takeWhile_cons, h x rfl]; rfl
 | x :: l, i + 1, h, h1, h2 => by
  unfold before
  rw [List.takeWhile_cons, h1 0 x (by omega) rfl, if_pos rfl, List.length_cons]
  have := before_eq (l := l) (i := i) (e := e) (by simpa using h) (fun m y hm hy => h1 (m + 1) y (by omega) (by simpa using hy)) (fun y hy => h2 y (by simpa using hy))
  unfold before at this
  rw [this]
def foundB (l : List Ev) (e : Ev) (i : Nat) : Bool := match l[i]? with
 | some x => lexI x.node x.seq e.node e.seq == 0
 | none => false
theorem half_n {n : Nat} {t : Nat} {c d : Bool} : pbin env .shr t c d (.v (.int .u64 (n : Int))) (.v (.int .u64 1)) = some (.v (.int .u64 ((n / 2 : Nat) : Int))) := by
 have h : ¬ ((1 : Int) < 0) := by decide
 have e : (n : Int).fdiv (2 ^ min (1 : Int).toNat IntKind.u64.bits) = ((n / 2 : Nat) : Int) := by
  show (n : Int).fdiv 2 = _
  rw [Int.fdiv_eq_ediv_of_nonneg _ (by decide)]
  simp
 simp only [pbin, binV, shiftV, if_neg h, e, Option.map_some]
theorem toU {n : Nat} {k : IntKind} (h : n < 9223372036854775808) : convI .u64 (.v (.int k (n : Int))) = some (.v (.int .u64 (n : Int))) := by
 simp only [convI, IntWalk.u64_in (n : Int) (by omega)]
theorem toI {n : Nat} {k : IntKind} (h : n < 9223372036854775808) : convI .i64 (.v (.int k (n : Int))) = some (iv (n : Int)) := by
 simp only [convI, wrap64_id (show -9223372036854775808 <= (n : Int) by omega) (show (n : Int) <= 9223372036854775807 by omega)]
structure Kb (tm : List (Nat × PV)) (v : PV) (n k i j : Nat) : Prop where
 t0 : tget tm 0 = v
 t2 : tget tm 2 = .fn 63 [] []
 t4 : tget tm 4 = .ptr k 0 0
 t8 : tget tm 8 = iv n
 t9 : tget tm 9 = iv i
 t10 : tget tm 10 = iv j
section
variable {M0 : PMem} {v : PV} {l : List Ev} {e : Ev}
theorem loop62 (hv : EsV M0 v l) (hl : l.length <= 1000000) (hso : SortL l) (M : PMem) (k : Nat) (Q : AExit -> PSt -> Prop) (hs : Pm.Sub M0 M) (hf : fresh M k)
  (q1 : ∀ tm i, before l e = i -> Kb tm v l.length k i i -> Q (.exit 0) ⟨tm, 49, k, [.row .rw 0 (evCells e)], M⟩) :
  ∀ d i j tm, j - i = d -> i <= j -> j <= l.length -> (∀ m x, m < i -> l[m]? = some x -> ltE x e = true) -> (∀ m x, j <= m -> l[m]? = some x -> ltE x e = false) -> Kb tm v l.length k i j →
  RXL env Tryz.prog none c62_14 ⟨tm, 49, k, [.row .rw 0 (evCells e)], M⟩ Q := by
 intro d
 induction d using Nat.strongRecOn with
 | ind d ih =>
  intro i j tm hd hij hj h1 h2 hK
  obtain ⟨t0, t2, t4, t8, t9, t10⟩ := hK
  refine RXL.round (RX.of env_ok ?_)
  by_cases hlt : i < j
  ·have hii : (i : Int) < (j : Int) := by omega
   have hs1 : IntKind.i64.wrap ((i : Int) + (j : Int)) = ((i + j : Nat) : Int) := by rw [wrap64_id (by omega) (by omega)]; omega
   have hu : ∀ {k : IntKind}, convI .u64 (.v (.int k ((i + j : Nat) : Int))) = some (.v (.int .u64 ((i + j : Nat) : Int))) := fun {k} => toU (by omega)
   have hi : ∀ {k : IntKind}, convI .i64 (.v (.int k (((i + j) / 2 : Nat) : Int))) = some (iv (((i + j) / 2 : Nat) : Int)) := fun {k} => toI (by omega)
   generalize hh : (i + j) / 2 = h at *
   have hhj : h < j := by omega
   have hih : i <= h := by omega
   obtain ⟨x, hx, -⟩ := getE (show h < l.length by omega)
   obtain ⟨p, hp, hlp⟩ := (hv.sub hs).at hx hf
   have hw : IntKind.i64.wrap ((h : Int) + 1) = ((h + 1 : Nat) : Int) := by rw [wrap64_id (by omega) (by omega)]; rfl
   simp only [G0, Z1, Z2, Z3, Z4, Z5, t0, t2, t4, t9, t10, hii, decide_true, hs1, hu, half_n, hh, hi, hp, hlp, ev_all]
   refine d_C (n := 63) (first := []) (cap := []) ?_ rfl
   simp only [G0, Z1, Z2, Z3, Z4, Z5]
   refine cp0 (order63 x e) (by decide) ?_
   have hlx := lexI_lt x.node x.seq e.node e.seq
   cases hc : ltE x e with
   | true =>
    unfold ltE at hc
    rw [hc] at hlx
    simp only [G0, Z1, Z2, Z3, Z4, Z5, hlx, hw]
    refine ih (j - (h + 1)) (by omega) (h + 1) j _ rfl (by omega) hj (fun m y hm hy => ?_) h2 ⟨t0, t2, t4, t8, rfl, t10⟩
    rcases Nat.lt_or_ge m h with h3 | h3
    ·exact ltE_trans (hso m h y x h3 hy hx) hc
    ·have : m = h := by omega
     subst this
     rw [hx] at hy; cases hy; exact hc
   | false =>
    have hc' := hc
    unfold ltE at hc
    rw [hc] at hlx
    simp only [G0, Z1, Z2, Z3, Z4, Z5, hlx, hw]
    refine ih (h - i) (by omega) i h _ rfl hih (by omega) h1 (fun m y hm hy => ?_) ⟨t0, t2, t4, t8, t9, rfl⟩
    rcases Nat.lt_or_ge h m with h3 | h3
    ·cases hq : ltE y e with
     | false => rfl
     | true =>
      have := ltE_trans (hso h m x y h3 hx hy) hq
      rw [hc'] at this; cases this
    ·have : m = h := by omega
     subst this
     rw [hx] at hy; cases hy; exact hc'
  ·have hij' : i = j := by omega
   subst hij'
   simp only [G0, Z1, Z2, Z3, Z4, Z5, t9, t10, Int.lt_irrefl, decide_false]
   exact q1 _ i (before_eq hj h1 fun x hx => h2 i x (Nat.le_refl _) hx) ⟨t0, t2, t4, t8, t9, t10⟩
theorem search62 (hv : EsV M0 v l) (hl : l.length <= 1000000) (hso : SortL l) (e : Ev) : PTs env Tryz.prog M0 62 [v, encEv e, .fn 63 [] []] (.tup [iv (before l e : Nat), bv (foundB l e (before l e))]) := by
 refine PTs.enter env_ok fn62 (by simp) comp62 fun M k hs hk hf => ?_
 simp only [G0, Z1, Z2, Z3, Z4, Z5, argsP, hv.len, encEv]
 refine RX.loop (loop62 hv hl hso M k _ hs hf (fun tm i hb hK => ?_) l.length 0 l.length _ rfl (Nat.zero_le _) (Nat.le_refl _) (fun m x h => by omega) (fun m x h hx => by rw [List.getElem?_eq_none h] at hx; cases hx) (by exact ⟨rfl, rfl, rfl, rfl, rfl, rfl⟩))
 obtain ⟨t0, t2, t4, t8, t9, t10⟩ := hK
 rcases Nat.lt_or_ge i l.length with hi | hi
 ·have hii : (i : Int) < l.length := by omega
  obtain ⟨x, hx, -⟩ := getE hi
  obtain ⟨p, hp, hlp⟩ := (hv.sub hs).at hx hf
  simp only [G0, Z1, Z2, Z3, Z4, Z5, t0, t2, t4, t8, t9, hii, decide_true, hp, hlp, ev_all]
  refine d_CGt (n := 63) (first := []) (cap := []) rfl rfl ?_
  simp only [G0, Z1, Z2, Z3, Z4, Z5]
  refine cp0 (order63 x e) (by decide) ?_
  simp only [G0, Z1, Z2, Z3, Z4, Z5]
  refine end2 (v1 := iv (i : Nat)) (v2 := bv (foundB l e i)) hf rfl ?_ ⟨by rw [hb], rfl⟩
  unfold foundB
  rw [hx]; rfl
 ·have hii : ¬ (i : Int) < l.length := by omega
  simp only [G0, Z1, Z2, Z3, Z4, Z5, t0, t2, t4, t8, t9, hii, decide_false]
  refine d_CGf rfl ?_
  simp only [G0, Z1, Z2, Z3, Z4, Z5]
  refine end2 (v1 := iv (i : Nat)) (v2 := bv (foundB l e i)) hf rfl ?_ ⟨by rw [hb], rfl⟩
  unfold foundB
  rw [List.getElem?_eq_none hi]; rfl
end
end Go.Proofs.YtlbjplpehkgcdaaGreatDoor
namespace Go.Proofs.YtlbjplpehkgcdaaGreatDoor
open Go Go.Am Go.Pm
theorem insTy : ∃ yt ye z, env.ty 22 = some yt /\ yt.desc = .slice 30 /\ env.ty 30 = some ye /\ pzero env 30 = some z /\ ye.size = 7 /\ ye.bytes = 96 /\ z.length = 7 := by
 have h : (match env.ty 22 with
  | some y => (match y.desc with
   | .slice e => (match env.ty 30 with
    | some ye => (match pzero env 30 with
     | some z => Nat.beq e 30 && (Nat.beq ye.size 7 && (Nat.beq ye.bytes 96 && Nat.beq z.length 7))
     | none => false)
    | none => false)
   | _ => false)
  | none => false) = true := by kernel_rfl
 cases hy : env.ty 22 with
 | none => rw [hy] at h; cases h
 | some y =>
  rw [hy] at h
  dsimp only at h
  split at h
  ·rename_i e he
   cases hye : env.ty 30 with
   | none => rw [hye] at h; cases h
   | some ye =>
    rw [hye] at h
    dsimp only at h
    cases hz : pzero env 30 with
    | none => rw [hz] at h; cases h
    | some z =>
     rw [hz] at h
     simp only [Bool.and_eq_true] at h
     obtain ⟨h1, h2, h3, h4⟩ := h
     have := Nat.eq_of_beq_eq_true h1
     subst this
     exact ⟨y, ye, z, rfl, he, rfl, rfl, Nat.eq_of_beq_eq_true h2, Nat.eq_of_beq_eq_true h3, Nat.eq_of_beq_eq_true h4⟩
  ·cases h
theorem nk_bytes (k : Nat) (l : List UInt8) : NK k (encBytes l) := .lst (fun _ e => by cases e) (NKs.of fun x hx => by
 obtain ⟨b, _, rfl⟩ := List.mem_map.1 hx
 exact .v _)
theorem nk_spans (k : Nat) (l : List Span) : NK k (encSpans l) := .lst (fun _ e => by cases e) (NKs.of fun x hx => by
 obtain ⟨s, _, hs⟩ := List.mem_flatMap.1 hx
 unfold encSpan at hs
 simp only [List.mem_cons, List.not_mem_nil, or_false] at hs
 rcases hs with rfl | rfl | rfl <;> exact .v _)
theorem nk_ev (k : Nat) (e : Ev) : ∀ x ∈ evCells e, NK k x := fun x hx => by
 unfold evCells at hx
 simp only [List.mem_cons, List.not_mem_nil, or_false] at hx
 rcases hx with rfl | rfl | rfl | rfl | rfl | rfl | rfl
 ·exact .v _
 ·exact .v _
 ·exact .v _
 ·exact .v _
 ·exact .v _
 ·exact nk_bytes _ _
 ·exact nk_spans _ _
theorem nk_evs (k : Nat) (l : List Ev) : ∀ x ∈ l.flatMap evCells, NK k x := fun x hx => by
 obtain ⟨e, _, he⟩ := List.mem_flatMap.1 hx
 exact nk_ev k e x he
def insF (o : List Ev) (e : Ev) : List Ev := o.take (before o e) ++ (e :: o.drop (before o e))
def putF (l : List Ev) (e : Ev) : List Ev := if l.any (fun x => sameD x e || aheadB e x) then l else insF (keepF (fun x => aheadB x e) l) e
theorem before_le (l : List Ev) (e : Ev) : before l e <= l.length := by unfold before; exact (List.takeWhile_sublist _).length_le
theorem SortL.keep {l : List Ev} (h : SortL l) (p : Ev -> Bool) : SortL (keepF p l) := by
 have h1 : l.Pairwise (fun x y => ltE x y = true) := by
  rw [List.pairwise_iff_getElem]
  intro i j hi hj hij
  exact h i j _ _ hij (List.getElem?_eq_getElem hi) (List.getElem?_eq_getElem hj)
 have h2 : (keepF p l).Pairwise (fun x y => ltE x y = true) := h1.sublist List.filter_sublist
 intro i j x y hij hx hy
 obtain ⟨hi, rfl⟩ := List.getElem?_eq_some_iff.1 hx
 obtain ⟨hj, rfl⟩ := List.getElem?_eq_some_iff.1 hy
 exact (List.pairwise_iff_getElem.1 h2) i j hi hj hij
def oneM (k i : Nat) (o : Pm.Obj) : PMem := putM (fun _ _ => none) k i o
theorem oneM_sub {M : PMem} {k i : Nat} {o : Pm.Obj} (h : M k i = some o) : Pm.Sub (oneM k i o) M := fun a b o' e => by
 unfold oneM putM at e
 split at e
 ·rename_i hc; obtain ⟨rfl, rfl⟩ := hc; cases e; exact h
 ·cases e
theorem fresh_unseg' {M : PMem} {j k : Nat} {os : List Pm.Obj} (h : fresh (seg M k os) j) (hj : j ≠ k) : fresh M j := fun i => by
 have := h i
 rwa [seg_ne _ _ _ hj] at this
theorem mle_new {M : PMem} {k j : Nat} {os : List Pm.Obj} {o : Pm.Obj} (hf : fresh M k) (hj : fresh M j) (hjk : j ≠ k) : MLe (seg (seg M j [o]) k os) (putM M j 0 o) := fun a i o' e => by
 unfold putM at e
 split at e
 ·rename_i hc
  obtain ⟨rfl, rfl⟩ := hc
  cases e
  exact ⟨o, by rw [seg_ne _ _ _ hjk, seg_same]; rfl, .refl _⟩
 ·refine ⟨o', ?_, .refl _⟩
  have h1 : a ≠ k := fun q => by subst q; rw [hf i] at e; cases e
  have h2 : a ≠ j := fun q => by subst q; rw [hj i] at e; cases e
  rw [seg_ne _ _ _ h1, seg_ne _ _ _ h2]; exact e
theorem oneM_at {k i : Nat} {o : Pm.Obj} : oneM k i o k i = some o := putM_same _ _ _ _
theorem delete59n (e0 g : Nat) (first cap : List PV) : PTp env Tryz.prog 59 [.lst .full e0 0 [], .fn g first cap] (.lst .full e0 0 []) := fun M => by
  refine PT.enterR env_ok fn59 (by simp) comp59 fun k hk hf => RX.of env_ok ?_
  simp only [G0, Z1, Z2, Z3, Z4, Z5, argsP]
  refine cs0 (index73 (M0 := fun _ _ => none) (EsV.nil .full e0) (by simp) g first cap (fun _ => false) (fun x hx => by simp at hx)) (fun _ _ _ e => by cases e) (by decide) ?_
  simp only [G0, Z1, Z2, Z3, Z4, Z5, idxG, beq_self_eq_true]
  exact end1 hf rfl ⟨rfl, rfl⟩
theorem put_seg1 {M : PMem} {k : Nat} {o o' : Pm.Obj} : putM (seg M k [o]) k 0 o' = seg M k [o'] := by
 funext a i
 unfold putM
 by_cases h : a = k /\ i = 0
 ·obtain ⟨rfl, rfl⟩ := h; rw [if_pos ⟨rfl, rfl⟩, seg_same]; rfl
 ·rw [if_neg h]
  by_cases ha : a = k
  ·subst ha
   rw [seg_same, seg_same]
   cases i with
   | zero => exact absurd ⟨rfl, rfl⟩ h
   | succ i => rfl
  ·rw [seg_ne _ _ _ ha, seg_ne _ _ _ ha]
theorem mle_new2 {M : PMem} {k j j2 : Nat} {os : List Pm.Obj} {o g : Pm.Obj} (hf : fresh M k) (hj : fresh M j) (hj2 : fresh M j2) (h1 : j2 ≠ k) : MLe (seg (seg (seg M j [g]) j2 [o]) k os) (putM M j2 0 o) := fun a i o' e => by
 unfold putM at e
 split at e
 ·rename_i hc
  obtain ⟨rfl, rfl⟩ := hc
  cases e
  exact ⟨o, by rw [seg_ne _ _ _ h1, seg_same]; rfl, .refl _⟩
 ·refine ⟨o', ?_, .refl _⟩
  have q1 : a ≠ k := fun q => by subst q; rw [hf i] at e; cases e
  have q2 : a ≠ j := fun q => by subst q; rw [hj i] at e; cases e
  have q3 : a ≠ j2 := fun q => by subst q; rw [hj2 i] at e; cases e
  rw [seg_ne _ _ _ q1, seg_ne _ _ _ q3, seg_ne _ _ _ q2]; exact e
theorem ev_take (O : List Ev) (b : Nat) (h : b <= O.length) : (O.flatMap evCells).take (b * 7) = (O.take b).flatMap evCells := by
 conv => lhs; rw [<- List.take_append_drop b O, List.flatMap_append]
 exact List.take_left' (by rw [ev_len7, List.length_take]; omega)
theorem ev_drop (O : List Ev) (b : Nat) (h : b <= O.length) : (O.flatMap evCells).drop (b * 7) = (O.drop b).flatMap evCells := by
 conv => lhs; rw [<- List.take_append_drop b O, List.flatMap_append]
 exact List.drop_left' (by rw [ev_len7, List.length_take]; omega)
section
variable {l : List Ev} {e : Ev}
theorem put_no (hl : l.length <= 100000) (hp : ∀ x ∈ l, x.path.length <= 1000000) (he : e.path.length <= 1000000) (h : l.any (fun x => sameD x e || aheadB e x) = true) : PTp env Tryz.prog 37 [encEvs l, encEv e] (encEvs l) := fun M => by
 refine PT.enterR env_ok fn37 (by simp) comp37 fun k hk hf => RX.of env_ok ?_
 simp only [G0, Z1, Z2, Z3, Z4, Z5, argsP, encEv]
 refine cs0 (contains43 (M0 := oneM k 0 (.row .rw 0 (evCells e))) (EsV.enc _ l) (by omega) 58 [] [.ptr k 0 0] (fun x => sameD x e || aheadB e x) (fun x hx => call58 e x he (hp x hx) (w := .rw) oneM_at)) (oneM_sub (by rw [seg_same]; rfl)) (by decide) ?_
 rw [h]
 simp only [G0, Z1, Z2, Z3, Z4, Z5]
 exact end1 hf rfl ⟨rfl, rfl⟩
theorem put_yes (hl : l.length <= 100000) (hp : ∀ x ∈ l, x.path.length <= 1000000) (he : e.path.length <= 1000000) (hso : SortL l) (h : l.any (fun x => sameD x e || aheadB e x) = false) : PTp env Tryz.prog 37 [encEvs l, encEv e] (encEvs (insF (keepF (fun x => aheadB x e) l) e)) := fun M => by
  obtain ⟨yt, ye, z, hty, htd, hte, htz, hz1, hz2, hz3⟩ := insTy
  have hzd : zerosD yt.desc = some false := by rw [htd]; rfl
  refine PT.freeze (PTk.enterR env_ok fn37 (by simp) comp37 fun k hk hf => RX.of env_ok ?_)
  simp only [G0, Z1, Z2, Z3, Z4, Z5, argsP, encEv]
  refine cs0 (contains43 (M0 := oneM k 0 (.row .rw 0 (evCells e))) (EsV.enc _ l) (by omega) 58 [] [.ptr k 0 0] (fun x => sameD x e || aheadB e x) (fun x hx => call58 e x he (hp x hx) (w := .rw) oneM_at)) (oneM_sub (by rw [seg_same]; rfl)) (by decide) ?_
  rw [h]
  simp only [G0, Z1, Z2, Z3, Z4, Z5]
  refine cmk ((clone60 l (by omega) _).mono fun nk x M1 hcl hnk => ?_)
  cases hcl with
  | nil e0 hl0 hM1 =>
    subst hl0 hM1
    refine ⟨_, M, rfl, .refl _, by decide, ?_⟩
    simp only [G0, Z1, Z2, Z3, Z4, Z5]
    refine cp0 (delete59n e0 61 [] [.ptr k 0 0]) (by decide) ?_
    simp only [G0, Z1, Z2, Z3, Z4, Z5, ev_all]
    refine cs0 (search62 (M0 := fun _ _ => none) (EsV.nil .full e0) (by simp) (fun i j x y _ hx => by simp at hx) e) (fun _ _ _ e => by cases e) (by decide) ?_
    have hb0 : before [] e = 0 := rfl
    have hfill : fillA 7 [.v (.int .i64 0), .v (.int .i64 0), .v (.string ⟨#[]⟩), .v (.int .i64 0), .v (.int .i64 0), .lst .full 0 0 [], .lst .full 0 0 []] [(0, encEv e)] = some (evCells e) := rfl
    rw [hb0]
    simp only [G0, Z1, Z2, Z3, Z4, Z5, ev_all, e_B]
    refine aL ?_
    simp only [G0, Z1, Z2, Z3, Z4, Z5, hfill]
    refine cmk ((PT.insert0 env_ok Ins64.insFn fn64 hty htd hte htz hzd ⟨hz1, hz2, hz3⟩ (vcells := evCells e) rfl rfl ⟨by decide, by decide⟩ (by decide)).mono fun nk2 x M1 hq hnk2 => ?_)
    obtain ⟨rfl, hfr, rfl⟩ := hq
    have hne : nk2 ≠ k := Nat.ne_of_gt hnk2
    refine ⟨_, seg M nk2 [.row .rw 7 (evCells e)], rfl, MLe.of_eq (seg_comm (Ne.symm hne)), by decide, ?_⟩
    simp only [G0, Z1, Z2, Z3, Z4, Z5]
    refine endM (v := .sl nk2 0 0 1 (loCap 1 7)) rfl ⟨nk2, 0, 7, .rw, evCells e, _, Nat.le_of_lt hnk2, ?_, NKs.of (nk_ev _ e), .here (by show 1 * 7 <= 7; decide) (by decide) (.inr (by decide)), rfl, trivial⟩
    exact mle_new hf (fresh_unseg' hfr hne) hne
  | @row k1 hk1 hf1 hl1 hM1 =>
    subst hM1
    have hne1 : k1 ≠ k := by omega
    have hfk1 : fresh M k1 := fresh_unseg' hf1 hne1
    have hcap := cap_lo (n := l.length) (es := 7) (by decide)
    have hl0 : 0 < l.length := List.length_pos_iff.2 hl1
    generalize hO : keepF (fun x => aheadB x e) l = O
    have hOl : O.length <= l.length := by rw [<- hO]; exact List.length_filter_le _ _
    have hOs : SortL O := by rw [<- hO]; exact hso.keep _
    refine ⟨_, seg M k1 [rowE l], rfl, MLe.of_eq (seg_comm (Ne.symm hne1)), by decide, ?_⟩
    simp only [G0, Z1, Z2, Z3, Z4, Z5]
    refine cm ((delete59 (M0 := oneM k 0 (.row .rw 0 (evCells e))) (a := k1) (c := loCap l.length 7) (l := l) (g := 61) (first := []) (cap := [.ptr k 0 0]) (p := fun x => aheadB x e) (by omega) (fun o => oneM_sub ?_) ?_ ⟨by rw [hcap.1]; exact Nat.le_refl _, hcap.2⟩
      (fun x hx => call61 e x he (hp x hx) (w := .rw) oneM_at)).mono fun x M1 hcut => ?_)
    · rw [put_ne (fun h => hne1 h.1.symm), seg_same]; rfl
    · rw [seg_ne _ _ _ hne1, seg_same]; rfl
    rw [hO] at hcut
    obtain ⟨rfl, rest, rfl, hrl, hro, hrk⟩ := hcut
    refine ⟨[.row .rw 0 (evCells e)], seg M k1 [.row .rw 7 (O.flatMap evCells ++ rest)], rfl, MLe.of_eq ?_, by decide, ?_⟩
    · rw [put_seg_ne hne1, put_seg1]
    simp only [G0, Z1, Z2, Z3, Z4, Z5, ev_all]
    refine cs0 (search62 (M0 := oneM k1 0 (.row .rw 7 (O.flatMap evCells ++ rest))) (EsV.row oneM_at) (by omega) hOs e) (oneM_sub ?_) (by decide) ?_
    · rw [seg_ne _ _ _ hne1, seg_same]; rfl
    have hfill : fillA 7 [.v (.int .i64 0), .v (.int .i64 0), .v (.string ⟨#[]⟩), .v (.int .i64 0), .v (.int .i64 0), .lst .full 0 0 [], .lst .full 0 0 []] [(0, encEv e)] = some (evCells e) := rfl
    have hb := before_le O e
    have hcl : (O.flatMap evCells ++ rest).take (O.length * 7) = O.flatMap evCells := List.take_left' (ev_len7 O)
    simp only [G0, Z1, Z2, Z3, Z4, Z5, ev_all, e_B]
    refine aR ?_
    simp only [G0, Z1, Z2, Z3, Z4, Z5, r_buildR, hfill, ro_some]
    refine cmk ((PT.insert env_ok Ins64.insFn fn64 hty htd hte htz hzd ⟨hz1, hz2, hz3⟩ (k := k1) (i := 0) (n := O.length) (L := l.length) (idx := before O e) (kv := k) (iv := 1) (cells := O.flatMap evCells ++ rest) (vcells := evCells e)
      ?_ ?_ (fun h => hne1 h.1.symm) hrl hOl hl0 hb rfl hro rfl ⟨by decide, by decide, by decide⟩ ⟨by omega, by omega⟩).mono fun nk2 x M1 hq hnk2 => ?_)
    · rw [seg_ne _ _ _ hne1, seg_same]; rfl
    · rw [seg_same]; rfl
    obtain ⟨a, b, w, c, cells, rfl, hc, hcn, hct, hold, hM⟩ := hq
    have hnk : ∀ j, NKs j cells := fun j => NKs.of fun y hy => by
      rcases List.mem_append.1 (hold y hy) with h | h
      · rcases List.mem_append.1 h with h | h
        · exact nk_evs j O y h
        · exact hrk j y h
      · exact nk_ev j e y h
    have hy : (PV.lst .no 7 (O.length + 1) (cells.take ((O.length + 1) * 7))) = encEvs (insF O e) := by
      rw [hct, hcl, ev_take O _ hb, ev_drop O _ hb]
      unfold encEvs insF
      have e1 : (O.take (before O e) ++ e :: O.drop (before O e)).length = O.length + 1 := by
        rw [List.length_append, List.length_cons, List.length_take, List.length_drop]; omega
      rw [e1, List.flatMap_append, List.flatMap_cons]
    rcases hM with ⟨rfl, rfl, rfl⟩ | ⟨rfl, rfl, hfr, rfl⟩
    · refine ⟨_, seg M a [.row w 7 cells], rfl, MLe.of_eq (by rw [put_seg_ne hne1, put_seg1]), by decide, ?_⟩
      simp only [G0, Z1, Z2, Z3, Z4, Z5]
      refine endM rfl ⟨a, 0, 7, w, cells, _, by omega, mle_new hf hfk1 hne1, hnk _, .here hcn hc.1 (.inr hc.2.2), hy, trivial⟩
    · have hne2 : a ≠ k := Nat.ne_of_gt hnk2
      have hfa : fresh (seg M k1 [.row .rw 7 (O.flatMap evCells ++ rest)]) a := fresh_unseg' hfr hne2
      have hne3 : a ≠ k1 := ne_of_fresh hfa
      have hfa0 : fresh M a := fresh_unseg' hfa hne3
      refine ⟨_, seg (seg M k1 [.gone]) a [.row w 7 cells], rfl, MLe.of_eq (by rw [put_seg_ne hne1, put_seg1, seg_comm (Ne.symm hne2)]), by decide, ?_⟩
      simp only [G0, Z1, Z2, Z3, Z4, Z5]
      refine endM rfl ⟨a, 0, 7, w, cells, _, Nat.le_of_lt hnk2, mle_new2 hf hfk1 hfa0 hne2, hnk _, .here hcn hc.1 (.inr hc.2.2), hy, trivial⟩
end
end Go.Proofs.YtlbjplpehkgcdaaGreatDoor
namespace Go.Proofs.YtlbjplpehkgcdaaGreatDoor
open Go Go.Am Go.Pm
theorem ltE_irr (x : Ev) : ltE x x = false := by
 unfold ltE ltB
 simp
theorem ltE_tri {x y : Ev} (h1 : ltE x y = false) (h2 : sameD x y = false) : ltE y x = true := by
 unfold ltE ltB sameD at *
 simp only [Bool.or_eq_false_iff, Bool.and_eq_false_iff, beq_eq_false_iff_ne, decide_eq_false_iff_not, Bool.or_eq_true, Bool.and_eq_true, beq_iff_eq, decide_eq_true_eq, ne_eq] at *
 omega
def PwL (l : List Ev) : Prop := l.Pairwise fun x y => ltE x y = true
theorem SortL.iff {l : List Ev} : SortL l ↔ PwL l := by
 unfold PwL
 rw [List.pairwise_iff_getElem]
 constructor
 ·intro h i j hi hj hij
  exact h i j _ _ hij (List.getElem?_eq_getElem hi) (List.getElem?_eq_getElem hj)
 ·intro h i j x y hij hx hy
  obtain ⟨hi, rfl⟩ := List.getElem?_eq_some_iff.1 hx
  obtain ⟨hj, rfl⟩ := List.getElem?_eq_some_iff.1 hy
  exact h i j hi hj hij
theorem PwL.ins {o : List Ev} {e : Ev} (h : PwL o) (hn : ∀ x ∈ o, sameD x e = false) : PwL (insF o e) := by
 induction o with
 | nil => exact List.pairwise_singleton _ _
 | cons x o ih =>
  unfold PwL at h
  rw [List.pairwise_cons] at h
  obtain ⟨h1, h2⟩ := h
  unfold insF before
  rw [List.takeWhile_cons]
  cases hx : ltE x e with
  | false =>
   simp only [Bool.false_eq_true, if_false, List.length_nil, List.take_zero, List.nil_append, List.drop_zero]
   have hex := ltE_tri hx (hn x List.mem_cons_self)
   unfold PwL
   rw [List.pairwise_cons]
   refine ⟨fun y hy => ?_, List.pairwise_cons.2 ⟨h1, h2⟩⟩
   rcases List.mem_cons.1 hy with rfl | hy
   ·exact hex
   ·exact ltE_trans hex (h1 y hy)
  | true =>
   simp only [if_true, List.length_cons, List.take_succ_cons, List.drop_succ_cons, List.cons_append]
   have := ih h2 (fun y hy => hn y (List.mem_cons_of_mem _ hy))
   unfold PwL insF before at this
   unfold PwL
   rw [List.pairwise_cons]
   refine ⟨fun y hy => ?_, this⟩
   rcases List.mem_append.1 hy with hy | hy
   ·exact h1 y (List.mem_of_mem_take hy)
   ·rcases List.mem_cons.1 hy with rfl | hy
    ·exact hx
    ·exact h1 y (List.mem_of_mem_drop hy)
theorem mem_ins {o : List Ev} {e x : Ev} : x ∈ insF o e ↔ x = e \/ x ∈ o := by
 unfold insF
 rw [List.mem_append, List.mem_cons]
 constructor
 ·rintro (h | h | h)
  ·exact .inr (List.mem_of_mem_take h)
  ·exact .inl h
  ·exact .inr (List.mem_of_mem_drop h)
 ·rintro (h | h)
  ·exact .inr (.inl h)
  ·rw [<- List.take_append_drop (before o e) o] at h
   rcases List.mem_append.1 h with h | h
   ·exact .inl h
   ·exact .inr (.inr h)
theorem ins_len (o : List Ev) (e : Ev) : (insF o e).length = o.length + 1 := by
 have := before_le o e
 unfold insF
 rw [List.length_append, List.length_cons, List.length_take, List.length_drop]; omega
theorem put_len (l : List Ev) (e : Ev) : (putF l e).length <= l.length + 1 := by
 unfold putF
 split
 ·omega
 ·rw [ins_len]
  have : (keepF (fun x => aheadB x e) l).length <= l.length := List.length_filter_le _ _
  omega
theorem mem_put {l : List Ev} {e x : Ev} (h : x ∈ putF l e) : x = e \/ x ∈ l := by
 unfold putF at h
 split at h
 ·exact .inr h
 ·rcases mem_ins.1 h with h | h
  ·exact .inl h
  ·exact .inr ((List.mem_filter.1 h).1)
theorem SortL.put {l : List Ev} {e : Ev} (h : SortL l) : SortL (putF l e) := by
 unfold putF
 split
 ·exact h
 ·rename_i hn
  refine SortL.iff.2 ((SortL.iff.1 (h.keep _)).ins fun x hx => ?_)
  have hx' := (List.mem_filter.1 hx).1
  have hn' : ∀ x ∈ l, sameD x e = false /\ aheadB e x = false := by simpa using hn
  exact (hn' x hx').1
theorem PwL.uniq : ∀ {l l' : List Ev}, PwL l -> PwL l' -> (∀ x, x ∈ l ↔ x ∈ l') -> l = l'
 | [], [], _, _, _ => rfl
 | [], y :: l', _, _, h => by have := (h y).2 List.mem_cons_self; cases this
 | x :: l, [], _, _, h => by have := (h x).1 List.mem_cons_self; cases this
 | x :: l, y :: l', h1, h2, h => by
  unfold PwL at h1 h2
  rw [List.pairwise_cons] at h1 h2
  have no : ∀ {a b : Ev}, ltE a b = true -> ltE b a = true -> False := fun {a b} p q => by
   have := ltE_trans p q
   rw [ltE_irr] at this; cases this
  have hxy : x = y := by
   rcases List.mem_cons.1 ((h x).1 List.mem_cons_self) with h3 | h3
   ·exact h3
   ·rcases List.mem_cons.1 ((h y).2 List.mem_cons_self) with h4 | h4
    ·exact h4.symm
    ·exact (no (h2.1 x h3) (h1.1 y h4)).elim
  subst hxy
  have : l = l' := PwL.uniq h1.2 h2.2 fun z => by
   constructor
   ·intro hz
    rcases List.mem_cons.1 ((h z).1 (List.mem_cons_of_mem _ hz)) with h3 | h3
    ·subst h3
     have := h1.1 z hz
     rw [ltE_irr] at this; cases this
    ·exact h3
   ·intro hz
    rcases List.mem_cons.1 ((h z).2 (List.mem_cons_of_mem _ hz)) with h3 | h3
    ·subst h3
     have := h2.1 z hz
     rw [ltE_irr] at this; cases this
    ·exact h3
  rw [this]
structure Clo (U : Ev -> Prop) : Prop where
 ok : ∀ x, U x -> evOk x = true
 dot : ∀ x y, U x -> U y -> sameD x y = true -> x = y
 irr : ∀ x, U x -> aheadB x x = false
 tr : ∀ x y z, U x -> U y -> U z -> aheadB x y = true -> aheadB y z = true -> aheadB x z = true
structure Mx (X : Ev -> Prop) (S : List Ev) : Prop where
 sort : SortL S
 sub : ∀ x ∈ S, X x
 top : ∀ x ∈ S, ∀ y, X y -> aheadB x y = false
 cov : ∀ y, X y -> ∃ m ∈ S, y = m \/ aheadB y m = true
theorem Mx.nil : Mx (fun _ => False) [] := ⟨fun i j x y _ hx => by simp at hx, fun x hx => by simp at hx, fun x hx => by simp at hx, fun y hy => hy.elim⟩
theorem Mx.congr {X Y : Ev -> Prop} {S : List Ev} (h : Mx X S) (he : ∀ x, X x ↔ Y x) : Mx Y S :=
 ⟨h.sort, fun x hx => (he x).1 (h.sub x hx), fun x hx y hy => h.top x hx y ((he y).2 hy), fun y hy => h.cov y ((he y).2 hy)⟩
section
variable {U X Y : Ev -> Prop} {S T : List Ev} {e : Ev}
theorem Mx.put (hU : Clo U) (hX : ∀ x, X x -> U x) (he : U e) (h : Mx X S) : Mx (fun x => X x \/ x = e) (putF S e) := by
 have hS : ∀ x ∈ S, U x := fun x hx => hX x (h.sub x hx)
 unfold putF
 cases hany : S.any (fun x => sameD x e || aheadB e x) with
 | true =>
  rw [if_pos rfl]
  obtain ⟨x, hx, hxe⟩ := List.any_eq_true.1 hany
  rw [Bool.or_eq_true] at hxe
  have hcase : x = e \/ aheadB e x = true := hxe.imp (hU.dot x e (hS x hx) he) id
  refine ⟨h.sort, fun y hy => .inl (h.sub y hy), fun s hs y hy => ?_, fun y hy => ?_⟩
  ·rcases hy with hy | rfl
   ·exact h.top s hs y hy
   ·rcases hcase with rfl | hc
    ·exact h.top s hs x (h.sub x hx)
    ·cases hq : aheadB s y with
     | false => rfl
     | true =>
      have := hU.tr s y x (hS s hs) he (hS x hx) hq hc
      rw [h.top s hs x (h.sub x hx)] at this; cases this
  ·rcases hy with hy | rfl
   ·exact h.cov y hy
   ·rcases hcase with rfl | hc
    ·exact ⟨x, hx, .inl rfl⟩
    ·exact ⟨x, hx, .inr hc⟩
 | false =>
  rw [if_neg (by decide)]
  rw [List.any_eq_false] at hany
  have hno : ∀ x ∈ S, sameD x e = false /\ aheadB e x = false := fun x hx => by
   have := hany x hx
   simpa using this
  have hkeep : ∀ x, x ∈ keepF (fun x => aheadB x e) S ↔ x ∈ S /\ aheadB x e = false := fun x => by
   unfold keepF
   rw [List.mem_filter]; simp
  have hetop : ∀ y, X y -> aheadB e y = false := fun y hy => by
   obtain ⟨m, hm, hc⟩ := h.cov y hy
   cases hq : aheadB e y with
   | false => rfl
   | true =>
    rcases hc with rfl | hc
    ·rw [(hno y hm).2] at hq; cases hq
    ·have := hU.tr e y m he (hX y hy) (hS m hm) hq hc
     rw [(hno m hm).2] at this; cases this
  refine ⟨SortL.iff.2 ((SortL.iff.1 (h.sort.keep _)).ins fun x hx => (hno x ((hkeep x).1 hx).1).1), fun x hx => ?_, fun x hx y hy => ?_, fun y hy => ?_⟩
  ·rcases mem_ins.1 hx with rfl | hx
   ·exact .inr rfl
   ·exact .inl (h.sub x ((hkeep x).1 hx).1)
  ·rcases mem_ins.1 hx with rfl | hx
   ·rcases hy with hy | rfl
    ·exact hetop y hy
    ·exact hU.irr _ he
   ·obtain ⟨h1, h2⟩ := (hkeep x).1 hx
    rcases hy with hy | rfl
    ·exact h.top x h1 y hy
    ·exact h2
  ·rcases hy with hy | rfl
   ·obtain ⟨m, hm, hc⟩ := h.cov y hy
    cases hq : aheadB m e with
    | false => exact ⟨m, mem_ins.2 (.inr ((hkeep m).2 ⟨hm, hq⟩)), hc⟩
    | true =>
     refine ⟨e, mem_ins.2 (.inl rfl), .inr ?_⟩
     rcases hc with rfl | hc
     ·exact hq
     ·exact hU.tr y m e (hX y hy) (hS m hm) he hc hq
   ·exact ⟨y, mem_ins.2 (.inl rfl), .inl rfl⟩
theorem Mx.puts (hU : Clo U) : ∀ {l : List Ev} {X : Ev -> Prop} {S : List Ev}, (∀ x, X x -> U x) -> (∀ x ∈ l, U x) -> Mx X S -> Mx (fun x => X x \/ x ∈ l) (l.foldl putF S)
 | [], X, S, _, _, h => h.congr fun x => by simp
 | e :: l, X, S, hX, hl, h => by
  have h1 := h.put hU hX (hl e List.mem_cons_self)
  have h2 := Mx.puts hU (l := l) (fun x hx => by
   rcases hx with hx | rfl
   ·exact hX x hx
   ·exact hl _ List.mem_cons_self) (fun x hx => hl x (List.mem_cons_of_mem _ hx)) h1
  exact h2.congr fun x => by rw [List.mem_cons, or_assoc]
theorem Mx.uniq (h : Mx X S) (k : Mx Y T) (he : ∀ x, X x ↔ Y x) : S = T := by
 have key : ∀ {X Y : Ev -> Prop} {S T : List Ev}, Mx X S -> Mx Y T -> (∀ x, X x ↔ Y x) -> ∀ x, x ∈ S -> x ∈ T := fun {X Y S T} h k he x hx => by
  obtain ⟨m, hm, hc⟩ := k.cov x ((he x).1 (h.sub x hx))
  rcases hc with rfl | hc
  ·exact hm
  ·rw [h.top x hx m ((he m).2 (k.sub m hm))] at hc; cases hc
 exact PwL.uniq (SortL.iff.1 h.sort) (SortL.iff.1 k.sort) fun x => ⟨key h k he x, key k h (fun x => (he x).symm) x⟩
theorem Mx.join (hU : Clo U) (hX : ∀ x, X x -> U x) (hY : ∀ x, Y x -> U x) (h : Mx X S) (k : Mx Y T) : Mx (fun x => X x \/ Y x) (T.foldl putF S) := by
 have r := h.puts hU (l := T) hX (fun x hx => hY x (k.sub x hx))
 refine ⟨r.sort, fun x hx => (r.sub x hx).imp id (k.sub x), fun x hx y hy => ?_, fun y hy => ?_⟩
 ·have hxU : U x := (r.sub x hx).elim (hX x) fun h => hY x (k.sub x h)
  rcases hy with hy | hy
  ·exact r.top x hx y (.inl hy)
  ·obtain ⟨m, hm, hc⟩ := k.cov y hy
   rcases hc with rfl | hc
   ·exact r.top x hx y (.inr hm)
   ·cases hq : aheadB x y with
    | false => rfl
    | true =>
     have := hU.tr x y m hxU (hY y hy) (hY m (k.sub m hm)) hq hc
     rw [r.top x hx m (.inr hm)] at this; cases this
 ·rcases hy with hy | hy
  ·exact r.cov y (.inl hy)
  ·obtain ⟨m, hm, hc⟩ := k.cov y hy
   obtain ⟨m', hm', hc'⟩ := r.cov m (.inr hm)
   have hm'U : U m' := (r.sub m' hm').elim (hX m') fun h => hY m' (k.sub m' h)
   rcases hc with rfl | hc
   ·exact ⟨m', hm', hc'⟩
   ·rcases hc' with rfl | hc'
    ·exact ⟨m, hm', .inr hc⟩
    ·exact ⟨m', hm', .inr (hU.tr y m m' (hY y hy) (hY m (k.sub m hm)) hm'U hc hc')⟩
end
end Go.Proofs.YtlbjplpehkgcdaaGreatDoor
namespace Go.Proofs.YtlbjplpehkgcdaaGreatDoor
open Go Go.Am Go.Pm
theorem put37 {l : List Ev} {e : Ev} (hl : l.length <= 100000) (hp : ∀ x ∈ l, x.path.length <= 1000000) (he : e.path.length <= 1000000) (hso : SortL l) : PTp env Tryz.prog 37 [encEvs l, encEv e] (encEvs (putF l e)) := by
 unfold putF
 cases h : l.any (fun x => sameD x e || aheadB e x) with
 | true => rw [if_pos rfl]; exact put_no hl hp he h
 | false => rw [if_neg (by decide)]; exact put_yes hl hp he hso h
theorem call36 {l A : List Ev} {x : Ev} (hl : l.length <= 100000) (hA : A.length <= 100000) (hp : ∀ y ∈ l, y.path.length <= 1000000) (hx : x.path.length <= 1000000) (hso : SortL l) (hpa : ∀ h, A[0]? = some h -> x.path = h.path) {M0 : PMem} {a i : Nat} {w : Wm} (hM : M0 a i = some (.row w 0 [encEvs A])) :
    PTs env Tryz.prog M0 36 [encEvs l, encEv x, .ptr a i 0] (.tup [encEvs (putF l x), iv 0]) := by
  refine PTs.enter env_ok fn36 (by simp) comp36 fun M k hs hk hf => ?_
  have hM' := hs _ _ _ hM
  have hld : ∀ {ag : Bool} {n o : Nat} {os : List Pm.Obj}, loadP k os M ag n (.ptr a i o) = rowTake ag n o (M a i) := loadP_out (fresh_ne hf hM')
  rcases Nat.eq_zero_or_pos A.length with h0 | h0
  · have : A = [] := List.length_eq_zero_iff.1 h0
    subst this
    simp only [G0, Z1, Z2, Z3, Z4, Z5, argsP, encEv, hld, hM', encEvs, List.length_nil, gt_iff_lt, Int.natCast_zero, Int.lt_irrefl, decide_false, cnd_f, cnd_t, ev_all]
    refine cp0 (put37 hl hp hx hso) (by decide) ?_
    simp only [G0, Z1, Z2, Z3, Z4, Z5]
    exact end2 hf rfl rfl ⟨rfl, rfl⟩
  · obtain ⟨h, hh, -⟩ := getE h0
    have hb1 := path_cell0 hh
    have hgt : (0 : Int) < (A.length : Int) := by omega
    have hpe : (x.path == h.path) = true := by rw [hpa h hh]; exact beq_self_eq_true _
    simp only [G0, Z1, Z2, Z3, Z4, Z5, argsP, encEv, hld, hM', encEvs, gt_iff_lt, hgt, decide_true, cnd_f, cnd_t, iaddr_l0, h0, hb1, str_neq, hpe, evCells, pone_eb, pone_es, Bool.not_true]
    refine cp0 (put37 hl hp hx hso) (by decide) ?_
    simp only [G0, Z1, Z2, Z3, Z4, Z5]
    exact end2 hf rfl rfl ⟨rfl, rfl⟩
theorem fold_len (l : List Ev) : ∀ more : List Ev, (more.foldl putF l).length <= l.length + more.length := by
 intro more
 induction more generalizing l with
 | nil => simp
 | cons x r ih =>
  have := ih (putF l x)
  have := put_len l x
  simp only [List.foldl_cons, List.length_cons]
  omega
theorem fold_sort (l : List Ev) (h : SortL l) : ∀ more : List Ev, SortL (more.foldl putF l) := by
 intro more
 induction more generalizing l with
 | nil => exact h
 | cons x r ih => exact ih _ h.put
theorem fold_mem (l : List Ev) (P : Ev -> Prop) (h : ∀ x ∈ l, P x) : ∀ more : List Ev, (∀ x ∈ more, P x) -> ∀ x ∈ more.foldl putF l, P x := by
 intro more
 induction more generalizing l with
 | nil => intro _; exact h
 | cons y r ih =>
  intro hm
  refine ih _ (fun x hx => ?_) fun x hx => hm x (List.mem_cons_of_mem _ hx)
  rcases mem_put hx with rfl | hx
  ·exact hm _ List.mem_cons_self
  ·exact h x hx
structure Kf (tm : List (Nat × PV)) (acc more : List Ev) (f : PV) (i : Nat) : Prop where
 t0 : tget tm 0 = encEvs acc
 t2 : tget tm 2 = f
 t12 : tget tm 12 = encEvs more
 t13 : tget tm 13 = iv more.length
 t14 : tget tm 14 = iv i
section
variable {a0 more : List Ev} {M0 : PMem} {a i : Nat} {w : Wm}
theorem loop35 (hl : a0.length + more.length <= 100000) (hso : SortL a0) (hp : ∀ x ∈ a0, x.path.length <= 1000000) (hm : ∀ x ∈ more, x.path.length <= 1000000) (hpa : ∀ x ∈ more, ∀ h, a0[0]? = some h -> x.path = h.path) (hM : M0 a i = some (.row w 0 [encEvs a0]))
  (M : PMem) (k : Nat) (Q : AExit -> PSt -> Prop) (hs : Pm.Sub M0 M) (hf : fresh M k) (q : ∀ tm, tget tm 0 = encEvs (more.foldl putF a0) -> Q (.exit 0) ⟨tm, 31, k, [], M⟩) :
  ∀ d j tm, more.length - j = d -> j <= more.length -> Kf tm ((more.take j).foldl putF a0) more (.fn 36 [] [.ptr a i 0]) j -> RXL env Tryz.prog none c35_19 ⟨tm, 31, k, [], M⟩ Q := by
 intro d
 induction d with
 | zero =>
  intro j tm hd hj hK
  have : j = more.length := by omega
  subst this
  rw [List.take_length] at hK
  obtain ⟨t0, t2, t12, t13, t14⟩ := hK
  refine RXL.round (RX.of env_ok ?_)
  simp only [G0, Z1, Z2, Z3, Z4, Z5, t13, t14, Int.lt_irrefl, decide_false]
  exact q _ t0
 | succ d ih =>
  intro j tm hd hj hK
  have hj' : j < more.length := by omega
  have hjj : (j : Int) < more.length := by omega
  obtain ⟨x, hx, -⟩ := getE hj'
  have hlx := ev_load7 hx
  have hmem := List.mem_of_getElem? hx
  have hw : IntKind.i64.wrap ((j : Int) + 1) = ((j + 1 : Nat) : Int) := by rw [wrap64_id (by omega) (by omega)]; rfl
  have htk : (more.take (j + 1)).foldl putF a0 = putF ((more.take j).foldl putF a0) x := by rw [take_snoc hx, List.foldl_append]; rfl
  have hlen := fold_len a0 (more.take j)
  have hlen2 : (more.take j).length = j := by rw [List.length_take]; omega
  have hsub : ∀ y ∈ more.take j, y ∈ more := fun y hy => List.mem_of_mem_take hy
  obtain ⟨t0, t2, t12, t13, t14⟩ := hK
  refine RXL.inn fun k' hk1 hk2 hk3 => RX.of env_ok ?_
  have hmt : tget tm 12 = .lst .no 7 more.length (more.flatMap evCells) := t12
  simp only [G0, Z1, Z2, Z3, Z4, Z5, t0, t2, hmt, t13, t14, hjj, decide_true, hj', hlx, hstE, ev_all]
  refine cs (first := []) (cap := [.ptr a i 0]) (call36 (by omega) (by omega) (fold_mem a0 _ hp _ fun y hy => hm y (hsub y hy)) (hm x hmem) (fold_sort a0 hso _) (hpa x hmem) hM) ?_ (by decide) ?_
  ·rw [segNil hf] at hk3 ⊢
   exact hs.sseg hk3
  simp only [G0, Z1, Z2, Z3, Z4, Z5, t14, hw, bne_self_eq_false]
  refine ih (j + 1) _ (by omega) (by omega) ⟨?_, t2, t12, t13, rfl⟩
  rw [htk]; rfl
theorem fold35 (hl : a0.length + more.length <= 100000) (hso : SortL a0) (hp : ∀ x ∈ a0, x.path.length <= 1000000) (hm : ∀ x ∈ more, x.path.length <= 1000000) (hpa : ∀ x ∈ more, ∀ h, a0[0]? = some h -> x.path = h.path) (hM : M0 a i = some (.row w 0 [encEvs a0])) :
  PTs env Tryz.prog M0 35 [encEvs a0, encEvs more, .fn 36 [] [.ptr a i 0]] (.tup [encEvs (more.foldl putF a0), iv 0]) := by
 refine PTs.enter env_ok fn35 (by simp) comp35 fun M k hs hk hf => ?_
 have hmt : lenL (encEvs more) = some (iv (more.length : Nat)) := rfl
 simp only [G0, Z1, Z2, Z3, Z4, Z5, argsP, hmt]
 refine RX.loop (loop35 hl hso hp hm hpa hM M k _ hs hf (fun tm t0 => ?_) more.length 0 _ rfl (Nat.zero_le _) (by exact ⟨rfl, rfl, rfl, rfl, rfl⟩))
 simp only [G0, Z1, Z2, Z3, Z4, Z5, t0]
 exact end2 hf rfl rfl ⟨rfl, rfl⟩
end
inductive OutT (k : Nat) (os : List Pm.Obj) : Option Nat -> PV -> List Ev -> Prop where
 | nil (e : Nat) : OutT k os none (.lst .full e 0 []) []
 | tok {j : Nat} {L : List Ev} (h : os[j]? = some (.grow L.length 7)) : OutT k os (some j) (.lst (.id k j) 7 L.length (L.flatMap evCells)) L
theorem OutT.more {k : Nat} {os : List Pm.Obj} {j : Option Nat} {v : PV} {L : List Ev} (h : OutT k os j v L) (o : Pm.Obj) : OutT k (os ++ [o]) j v L := by
 cases h with
 | nil e => exact .nil e
 | @tok j L h =>
  have := (List.getElem?_eq_some_iff.1 h).1
  exact .tok (by rw [List.getElem?_append_left this]; exact h)
theorem OutT.le {k : Nat} {os : List Pm.Obj} {j : Option Nat} {v : PV} {L : List Ev} (h : OutT k os j v L) : PLe v (encEvs L) := by
 cases h with
 | nil e => exact PLe.nil_no _ _ _ rfl
 | tok h => exact PLe.no _ _ _ _
theorem OutT.push {k : Nat} {os : List Pm.Obj} {j : Option Nat} {v : PV} {L : List Ev} (h : OutT k os j v L) (hl : L.length <= 1000000) (e : Ev) (t : Tok) :
    ∃ v' os' j', (∀ {tm : List (Nat × PV)} {nt : Nat} {M : PMem}, appP ⟨tm, nt, k, os, M⟩ 7 96 7 v (.lst t 7 1 (evCells e)) = some (v', ⟨tm, nt, k, os', M⟩)) /\ OutT k os' j' v' (L ++ [e]) ∧
      (∀ {j2 : Option Nat} {v2 : PV} {L2 : List Ev}, OutT k os j2 v2 L2 -> (∀ q, j2 = some q -> j ≠ some q) -> OutT k os' j2 v2 L2 /\ ∀ q, j2 = some q -> j' ≠ some q) /\ (∀ q, j' = some q -> j = some q \/ q = os.length) := by
  have hfm : (L ++ [e]).flatMap evCells = L.flatMap evCells ++ evCells e := by rw [List.flatMap_append]; simp
  have hlen : (L ++ [e]).length = L.length + 1 := by simp
  cases h with
  | nil e0 =>
    have hc : (0 = 0 \/ e0 = 7) /\ (2 * (0 + 1) + 2000) * 96 <= 281474976710656 /\ 0 + 1 <= 4611686018427387904 /\ 7 < 4096 /\ 7 = 7 /\ (evCells e).all pone = true := ⟨.inl rfl, by decide, by decide, by decide, rfl, rfl⟩
    refine ⟨_, os ++ [.grow (0 + 1) 7], some os.length, fun {tm nt M} => ap_full (by decide) hc, ?_, fun {j2 v2 L2} h2 hn => ⟨h2.more _, fun q hq hc => ?_⟩, fun q hq => .inr (Option.some.inj hq).symm⟩
    · exact OutT.tok (L := [e]) (by rw [List.getElem?_append_right (Nat.le_refl _), Nat.sub_self]; rfl)
    · cases h2 with
      | nil _ => cases hq
      | tok h2 =>
        cases hq
        have := (List.getElem?_eq_some_iff.1 h2).1
        cases hc
        omega
  | @tok j L h =>
    have hj := (List.getElem?_eq_some_iff.1 h).1
    have hc : (L.length = 0 \/ 7 = 7) /\ (2 * (L.length + 1) + 2000) * 96 <= 281474976710656 /\ L.length + 1 <= 4611686018427387904 /\ 7 < 4096 /\ 7 = 7 /\ (evCells e).all pone = true := ⟨.inr rfl, by omega, by omega, by decide, rfl, rfl⟩
    refine ⟨_, os.set j (.grow (L.length + 1) 7), some j, fun {tm nt M} => ap_id (by decide) h hc rfl, ?_, fun {j2 v2 L2} h2 hn => ⟨?_, hn⟩, fun q hq => .inl hq⟩
    · rw [<- hfm, <- hlen]
      exact .tok (by rw [List.getElem?_set_self hj])
    · cases h2 with
      | nil e => exact .nil e
      | @tok q L2 h2 =>
        have hne : j ≠ q := fun e => hn q rfl (by rw [e])
        exact .tok (by rw [List.getElem?_set_ne hne]; exact h2)
theorem own38 (e : Ev) (h1 : e.bytes.length <= 1000000) (h2 : e.past.length <= 1000000) : PTp env Tryz.prog 38 [encEv e] (encEv e) := fun M => by
 refine PT.enterR env_ok fn38 (by simp) comp38 fun k hk hf => RX.of env_ok ?_
 simp only [G0, Z1, Z2, Z3, Z4, Z5, argsP, encEv, evCells]
 refine cp0 (clone_bytes _ h1) ?_ ?_
 ·decide
 simp only [G0, Z1, Z2, Z3, Z4, Z5, enc_cells]
 refine cp0 (clone_spans _ h2) ?_ ?_
 ·decide
 simp only [G0, Z1, Z2, Z3, Z4, Z5, enc_cells]
 refine endc (ag := true) (n := 7) hf (by kernel_rfl) ?_ ⟨rfl, rfl⟩
 simp only [G0, Z1, Z2, Z3, Z4, Z5]
end Go.Proofs.YtlbjplpehkgcdaaGreatDoor
namespace Go.Proofs.YtlbjplpehkgcdaaGreatDoor
open Go Go.Am Go.Pm
theorem get_last {os : List Pm.Obj} {o : Pm.Obj} : (os ++ [o])[os.length]? = some o := by simp
theorem set_last {os : List Pm.Obj} {o o' : Pm.Obj} : (os ++ [o]).set os.length o' = os ++ [o'] := by simp
theorem fillE (a : Ev) : fillA 7 [.v (.int .i64 0), .v (.int .i64 0), .v (.string ⟨#[]⟩), .v (.int .i64 0), .v (.int .i64 0), .lst .full 0 0 [], .lst .full 0 0 []] [(0, encEv a)] = some (evCells a) := rfl
theorem box_evs {tm : List (Nat × PV)} {nt k : Nat} {os : List Pm.Obj} {M : PMem} {l : List Ev} : boxS tm nt k os M (encEvs l) = some (.ptr k os.length 0, ⟨tm, nt, k, os ++ [.row .rw 0 [encEvs l]], M⟩) := rfl
theorem box_ev {tm : List (Nat × PV)} {nt k : Nat} {os : List Pm.Obj} {M : PMem} {e : Ev} : boxS tm nt k os M (encEv e) = some (.ptr k os.length 0, ⟨tm, nt, k, os ++ [.row .rw 0 (evCells e)], M⟩) := rfl
structure Sm (e : Ev) : Prop where
 path : e.path.length <= 1000000
 bytes : e.bytes.length <= 1000000
 past : e.past.length <= 1000000
theorem loop12 (l : List Ev) (hl : l.length <= 1000000) (hg : ∀ x ∈ l, Sm x) (M : PMem) (k : Nat) (Q : AExit -> PSt -> Prop) (q : ∀ tm os j v, OutT k os j v l -> tget tm 8 = v -> tget tm 7 = iv 0 -> Q (.exit 0) ⟨tm, 40, k, os, M⟩) :
    ∀ d i os j v tm, l.length - i = d -> i <= l.length -> OutT k os j v (l.take i) -> tget tm 8 = v -> tget tm 7 = iv 0 -> tget tm 26 = encEvs l -> tget tm 27 = iv l.length -> tget tm 28 = iv i -> RXL env Tryz.prog none c12_18 ⟨tm, 40, k, os, M⟩ Q := by
  intro d
  induction d with
  | zero =>
    intro i os j v tm hd hi hO t8 t7 t26 t27 t28
    have : i = l.length := by omega
    subst this
    rw [List.take_length] at hO
    refine RXL.round (RX.of env_ok ?_)
    simp only [G0, Z1, Z2, Z3, Z4, Z5, t27, t28, Int.lt_irrefl, decide_false]
    exact q _ os j v hO t8 t7
  | succ d ih =>
    intro i os j v tm hd hi hO t8 t7 t26 t27 t28
    have hi' : i < l.length := by omega
    have hii : (i : Int) < l.length := by omega
    obtain ⟨x, hx, -⟩ := getE hi'
    have hlx := ev_load7 hx
    have hmem := hg x (List.mem_of_getElem? hx)
    have hw : IntKind.i64.wrap ((i : Int) + 1) = ((i + 1 : Nat) : Int) := by rw [wrap64_id (by omega) (by omega)]; rfl
    have ht26 : tget tm 26 = .lst .no 7 l.length (l.flatMap evCells) := t26
    refine RXL.round (RX.of env_ok ?_)
    simp only [G0, Z1, Z2, Z3, Z4, Z5, t8, ht26, t27, t28, hii, decide_true, hi', hlx, hstE, ev_all, get_last, set_last]
    refine cp0 (own38 x hmem.bytes hmem.past) (by decide) ?_
    have hF := fillE x
    simp only [G0, Z1, Z2, Z3, Z4, Z5, hF]
    obtain ⟨v', os', j', h1, h2, -, -⟩ := (hO.more (.row .rw 0 (evCells x))).push (by rw [List.length_take]; omega) x .full
    refine aL ?_
    rw [h1]
    simp only [G0, Z1, Z2, Z3, Z4, Z5, t28, hw]
    refine ih (i + 1) os' j' v' _ (by omega) (by omega) ?_ rfl t7 t26 t27 rfl
    rw [take_snoc hx]; exact h2
theorem join12 {a b : List Ev} (hl : a.length + b.length <= 50000) (ha : ShelfL a) (hb : ShelfL b) (hga : ∀ x ∈ a, Sm x) (hgb : ∀ x ∈ b, Sm x) (hpa : ∀ x ∈ b, ∀ h, a[0]? = some h -> x.path = h.path) (hso : SortL a) :
  PTp env Tryz.prog 12 [encEvs a, encEvs b] (.tup [encEvs (b.foldl putF a), iv 0]) := PTp.of fun M => by
 refine PT.enterR env_ok fn12 (by simp) comp12 fun k hk hf => RX.of env_ok ?_
 simp only [G0, Z1, Z2, Z3, Z4, Z5, argsP, box_evs]
 refine cp0 (shelf_check a (by omega) fun x hx => (hga x hx).path) (by decide) ?_
 rw [shelfB_t ha]
 simp only [G0, Z1, Z2, Z3, Z4, Z5, err_neq, Bool.not_true, cnd_f, cnd_t, Bool.not_false]
 refine cp0 (shelf_check b (by omega) fun x hx => (hgb x hx).path) (by decide) ?_
 rw [shelfB_t hb]
 simp only [G0, Z1, Z2, Z3, Z4, Z5, err_neq, Bool.not_true, cnd_f, cnd_t, Bool.not_false]
 refine cs0 (fold35 (M0 := oneM k 0 (.row .rw 0 [encEvs a])) (w := .rw) (by omega) hso (fun x hx => (hga x hx).path) (fun x hx => (hgb x hx).path) hpa oneM_at) (oneM_sub (by rw [seg_same]; rfl)) (by decide) ?_
 have hr := fold_len a b
 have hlr : lenL (encEvs (b.foldl putF a)) = some (iv ((b.foldl putF a).length : Nat)) := rfl
 simp only [G0, Z1, Z2, Z3, Z4, Z5, hlr]
 refine RX.loop (loop12 (b.foldl putF a) (by omega) (fold_mem a Sm hga b hgb) M k _ (fun tm os j v hO t8 t7 => ?_) (b.foldl putF a).length 0 _ none _ _ rfl (Nat.zero_le _) (.nil 0) (by rfl) (by rfl) (by rfl) (by rfl) (by rfl))
 simp only [G0, Z1, Z2, Z3, Z4, Z5, t8, t7]
 exact end2 hf rfl rfl ⟨PLe.tup (.cons hO.le (.cons (PLe.refl _) .nil)), rfl⟩
theorem put10 {l : List Ev} {e : Ev} (hl : l.length <= 40000) (ha : ShelfL l) (hb : ShelfL [e]) (hga : ∀ x ∈ l, Sm x) (he : Sm e) (hpa : ∀ h, l[0]? = some h -> e.path = h.path) (hso : SortL l) :
  PTp env Tryz.prog 10 [encEvs l, encEv e] (.tup [encEvs (putF l e), iv 0]) := fun M => by
 refine PT.enterR env_ok fn10 (by simp) comp10 fun k hk hf => RX.of env_ok ?_
 have hF := fillE e
 simp only [G0, Z1, Z2, Z3, Z4, Z5, argsP, box_ev, ev_all, hF]
 have hj := join12 (a := l) (b := [e]) (by simp; omega) ha hb hga (fun x hx => by rw [List.mem_singleton] at hx; subst hx; exact he) (fun x hx h hh => by rw [List.mem_singleton] at hx; subst hx; exact hpa h hh) hso
 have hj' : PTp env Tryz.prog 12 [encEvs l, .lst .full 7 1 (evCells e)] (.tup [encEvs (putF l e), iv 0]) := fun M => (hj M).args (.cons (PLe.refl _) (.cons (PLe.no _ _ _ _) .nil))
 refine cp0 hj' (by decide) ?_
 simp only [G0, Z1, Z2, Z3, Z4, Z5]
 exact end2 hf rfl rfl ⟨rfl, rfl⟩
end Go.Proofs.YtlbjplpehkgcdaaGreatDoor
namespace Go.Proofs.YtlbjplpehkgcdaaGreatDoor
open Go Go.Am Go.Pm
def atF (l : List Ev) : List Ev := match l with
 | [] => []
 | h :: r => (h :: r).filter fun x => x.path == h.path
theorem atF_eq {l : List Ev} {h : Ev} (hh : l[0]? = some h) : atF l = l.filter fun x => x.path == h.path := by
 cases l with
 | nil => cases hh
 | cons x r => simp at hh; subst hh; rfl
theorem filter_snoc {α : Type} (p : α -> Bool) {l : List α} {i : Nat} {x : α} (hx : l[i]? = some x) : (l.take (i + 1)).filter p = (l.take i).filter p ++ (if p x then [x] else []) := by
 rw [take_snoc hx, List.filter_append]
 cases h : p x <;> simp [h]
theorem loop20 (l : List Ev) (hl : l.length <= 1000000) (h : Ev) (hh : l[0]? = some h) (M : PMem) (k : Nat) (Q : AExit -> PSt -> Prop) (q : ∀ tm os j v, OutT k os j v (atF l) -> tget tm 3 = v -> Q (.exit 0) ⟨tm, 29, k, os, M⟩) :
    ∀ d i os j v tm, l.length - i = d -> i <= l.length -> OutT k os j v ((l.take i).filter fun x => x.path == h.path) -> tget tm 3 = v -> tget tm 0 = encEvs l -> tget tm 4 = iv i -> RXL env Tryz.prog none c20_13 ⟨tm, 29, k, os, M⟩ Q := by
  intro d
  induction d with
  | zero =>
    intro i os j v tm hd hi hO t3 t0 t4
    have : i = l.length := by omega
    subst this
    rw [List.take_length, <- atF_eq hh] at hO
    have ht0 : tget tm 0 = .lst .no 7 l.length (l.flatMap evCells) := t0
    refine RXL.round (RX.of env_ok ?_)
    simp only [G0, Z1, Z2, Z3, Z4, Z5, ht0, t4, Int.lt_irrefl, decide_false]
    exact q _ os j v hO t3
  | succ d ih =>
    intro i os j v tm hd hi hO t3 t0 t4
    have hi' : i < l.length := by omega
    have h0l : 0 < l.length := by omega
    have hii : (i : Int) < l.length := by omega
    obtain ⟨x, hx, -⟩ := getE hi'
    have hlx := ev_load7 hx
    have hb1 := path_cell0 hh
    have hb2 := path_cell hx
    have hw : IntKind.i64.wrap ((i : Int) + 1) = ((i + 1 : Nat) : Int) := by rw [wrap64_id (by omega) (by omega)]; rfl
    have ht0 : tget tm 0 = .lst .no 7 l.length (l.flatMap evCells) := t0
    have hsn := filter_snoc (fun x : Ev => x.path == h.path) hx
    refine RXL.round (RX.of env_ok ?_)
    cases hp : (x.path == h.path) with
    | false =>
      simp only [G0, Z1, Z2, Z3, Z4, Z5, t3, ht0, t4, hii, decide_true, hi', hlx, hb1, hb2, iaddr_l0, h0l, str_eql, hp, hw]
      refine ih (i + 1) os j v _ (by omega) (by omega) ?_ t3 t0 rfl
      rw [hsn]; simp only [hp]; simpa using hO
    | true =>
      have hF := fillE x
      simp only [G0, Z1, Z2, Z3, Z4, Z5, t3, ht0, t4, hii, decide_true, hi', hlx, hb1, hb2, iaddr_l0, h0l, str_eql, hp, hF]
      obtain ⟨v', os', j', h1, h2, -, -⟩ := hO.push (by have := List.length_filter_le (fun x : Ev => x.path == h.path) (l.take i); rw [List.length_take] at this; omega) x .full
      refine aL ?_
      rw [h1]
      simp only [G0, Z1, Z2, Z3, Z4, Z5, t4, hw]
      refine ih (i + 1) os' j' v' _ (by omega) (by omega) ?_ rfl t0 rfl
      rw [hsn]; simp only [hp]; simpa using h2
theorem at20 (l : List Ev) (hl : l.length <= 1000000) : PTp env Tryz.prog 20 [encEvs l] (encEvs (atF l)) := PTp.of fun M => by
 refine PT.enterR env_ok fn20 (by simp) comp20 fun k hk hf => RX.of env_ok ?_
 simp only [G0, Z1, Z2, Z3, Z4, Z5, argsP]
 rcases Nat.eq_zero_or_pos l.length with h0 | h0
 ·have : l = [] := List.length_eq_zero_iff.1 h0
  subst this
  refine RX.loop (RXL.round (RX.of env_ok ?_))
  simp only [G0, Z1, Z2, Z3, Z4, Z5, encEvs, List.length_nil, Int.natCast_zero, Int.lt_irrefl, decide_false]
  exact end1 hf rfl ⟨PLe.nil_no _ _ _ rfl, rfl⟩
 ·obtain ⟨h, hh, -⟩ := getE h0
  refine RX.loop (loop20 l hl h hh M k _ (fun tm os j v hO t3 => ?_) l.length 0 _ none _ _ rfl (Nat.zero_le _) (.nil 0) (by rfl) (by rfl) (by rfl))
  simp only [G0, Z1, Z2, Z3, Z4, Z5, t3]
  exact end1 hf rfl ⟨hO.le, rfl⟩
structure Puts (l : List Ev) : Prop where
 sh : ∀ i, i <= l.length -> ShelfL ((l.take i).foldl putF [])
 one : ∀ x ∈ l, ShelfL [x]
 sm : ∀ x ∈ l, Sm x
 path : ∀ x ∈ l, ∀ y ∈ l, x.path = y.path
theorem sort_nil : SortL [] := fun i j x y _ hx => by simp at hx
structure Ka (tm : List (Nat × PV)) (l : List Ev) (v : PV) (i : Nat) : Prop where
 t0 : tget tm 0 = encEvs l
 t4 : tget tm 4 = v
 t5 : tget tm 5 = iv i
theorem loop21 (l : List Ev) (hl : l.length <= 10000) (hP : Puts l) (M : PMem) (k : Nat) (Q : AExit -> PSt -> Prop) (q : ∀ tm v, PLe v (encEvs (l.foldl putF [])) -> tget tm 4 = v -> Q (.exit 0) ⟨tm, 32, k, [], M⟩) :
  ∀ d i v tm, l.length - i = d -> i <= l.length -> PLe v (encEvs ((l.take i).foldl putF [])) -> Ka tm l v i -> RXL env Tryz.prog none c21_18 ⟨tm, 32, k, [], M⟩ Q := by
 intro d
 induction d with
 | zero =>
  intro i v tm hd hi hv hK
  have : i = l.length := by omega
  subst this
  rw [List.take_length] at hv
  obtain ⟨t0, t4, t5⟩ := hK
  have ht0 : tget tm 0 = .lst .no 7 l.length (l.flatMap evCells) := t0
  refine RXL.round (RX.of env_ok ?_)
  simp only [G0, Z1, Z2, Z3, Z4, Z5, ht0, t5, Int.lt_irrefl, decide_false]
  exact q _ v hv t4
 | succ d ih =>
  intro i v tm hd hi hv hK
  have hi' : i < l.length := by omega
  have hii : (i : Int) < l.length := by omega
  obtain ⟨x, hx, -⟩ := getE hi'
  have hlx := ev_load7 hx
  have hmem := List.mem_of_getElem? hx
  have hw : IntKind.i64.wrap ((i : Int) + 1) = ((i + 1 : Nat) : Int) := by rw [wrap64_id (by omega) (by omega)]; rfl
  have htk : (l.take (i + 1)).foldl putF [] = putF ((l.take i).foldl putF []) x := by rw [take_snoc hx, List.foldl_append]; rfl
  obtain ⟨t0, t4, t5⟩ := hK
  have ht0 : tget tm 0 = .lst .no 7 l.length (l.flatMap evCells) := t0
  have hlen := fold_len [] (l.take i)
  have hlen2 : (l.take i).length = i := by rw [List.length_take]; omega
  have hin : ∀ y ∈ (l.take i).foldl putF [], y ∈ l := fold_mem [] (· ∈ l) (fun y hy => by simp at hy) _ fun y hy => List.mem_of_mem_take hy
  have hput := put10 (l := (l.take i).foldl putF []) (e := x) (by simp only [List.length_nil] at hlen; omega) (hP.sh i hi) (hP.one x hmem) (fun y hy => hP.sm y (hin y hy)) (hP.sm x hmem)
   (fun h hh => hP.path x hmem h (hin h (List.mem_of_getElem? hh))) (fold_sort [] sort_nil _)
  have hput' : PTp env Tryz.prog 10 [v, encEv x] (.tup [encEvs (putF ((l.take i).foldl putF []) x), iv 0]) := fun M => (hput M).args (.cons hv (.cons (PLe.refl _) .nil))
  refine RXL.round (RX.of env_ok ?_)
  simp only [G0, Z1, Z2, Z3, Z4, Z5, ht0, t4, t5, hii, decide_true, hi', hlx]
  refine cp0 hput' (by decide) ?_
  simp only [G0, Z1, Z2, Z3, Z4, Z5, bne_self_eq_false, cnd_t, cnd_f, Bool.not_false, Bool.not_true]
  have hch := shelf_check (putF ((l.take i).foldl putF []) x) (by have := put_len ((l.take i).foldl putF []) x; simp only [List.length_nil] at hlen; omega) (fun y hy => by
   rcases mem_put hy with rfl | hy
   ·exact (hP.sm _ hmem).path
   ·exact (hP.sm y (hin y hy)).path)
  have hs1 := hP.sh (i + 1) (by omega)
  rw [htk] at hs1
  rw [shelfB_t hs1] at hch
  refine cp0 hch (by decide) ?_
  simp only [G0, Z1, Z2, Z3, Z4, Z5, err_neq, t5, hw, Bool.not_true, Bool.or_false]
  refine ih (i + 1) _ _ (by omega) (by omega) (PLe.refl _) ⟨t0, ?_, rfl⟩
  rw [htk]; rfl
theorem all21 (l : List Ev) (hl : l.length <= 10000) (hP : Puts l) : PTp env Tryz.prog 21 [encEvs l] (.tup [encEvs (l.foldl putF []), bv true]) := PTp.of fun M => by
 refine PT.enterR env_ok fn21 (by simp) comp21 fun k hk hf => RX.of env_ok ?_
 simp only [G0, Z1, Z2, Z3, Z4, Z5, argsP]
 refine RX.loop (loop21 l hl hP M k _ (fun tm v hv t4 => ?_) l.length 0 (.lst .full 0 0 []) _ rfl (Nat.zero_le _) (PLe.nil_no _ _ _ rfl) (by exact ⟨rfl, rfl, rfl⟩))
 simp only [G0, Z1, Z2, Z3, Z4, Z5, t4]
 exact end2 hf rfl rfl ⟨PLe.tup (.cons hv (.cons (PLe.refl _) .nil)), rfl⟩
theorem evEq_refl (e : Ev) : evEq e e = true := by
 have hs : ∀ l : List Span, spansEq l l = true := by
  intro l
  induction l with
  | nil => rfl
  | cons x l ih => simp [spansEq, spanEq, ih]
 simp [evEq, hs]
theorem loop14 (l : List Ev) (hl : l.length <= 1000000) (hp : ∀ x ∈ l, x.past.length <= 9223372036854775806) (M : PMem) (k : Nat) (Q : AExit -> PSt -> Prop) (q : ∀ tm, Q (.exit 0) ⟨tm, 27, k, [], M⟩) :
  ∀ d i tm, l.length - i = d -> i <= l.length -> tget tm 0 = encEvs l -> tget tm 1 = encEvs l -> tget tm 5 = iv i -> RXL env Tryz.prog none c14_18 ⟨tm, 27, k, [], M⟩ Q := by
 intro d
 induction d with
 | zero =>
  intro i tm hd hi t0 t1 t5
  have : i = l.length := by omega
  subst this
  refine RXL.round (RX.of env_ok ?_)
  simp only [G0, Z1, Z2, Z3, Z4, Z5, t0, t5, encEvs, Int.lt_irrefl, decide_false]
  exact q _
 | succ d ih =>
  intro i tm hd hi t0 t1 t5
  have hi' : i < l.length := by omega
  obtain ⟨x, hx, hdx⟩ := getE hi'
  have hii : (i : Int) < l.length := by omega
  have hlx := ev_load7 hx
  have hw : IntKind.i64.wrap ((i : Int) + 1) = ((i + 1 : Nat) : Int) := by rw [wrap64_id (by omega) (by omega)]; rfl
  refine RXL.round (RX.of env_ok ?_)
  simp only [G0, Z1, Z2, Z3, Z4, Z5, t0, t1, t5, encEvs, hii, decide_true, hi', hlx]
  refine cp0 (same_event x x (hp x (List.mem_of_getElem? hx))) (by decide) ?_
  rw [evEq_refl]
  simp only [G0, Z1, Z2, Z3, Z4, Z5, t5, hw, Bool.not_true]
  exact ih (i + 1) _ (by omega) (by omega) t0 t1 rfl
theorem same14 (l : List Ev) (hl : l.length <= 1000000) (hp : ∀ x ∈ l, x.past.length <= 9223372036854775806) : PTp env Tryz.prog 14 [encEvs l, encEvs l] (bv true) := fun M => by
 refine PT.enterR env_ok fn14 (by simp) comp14 fun k hk hf => RX.of env_ok ?_
 simp only [G0, Z1, Z2, Z3, Z4, Z5, argsP, encEvs, bne_self_eq_false]
 refine RX.loop (loop14 l hl hp M k _ (fun tm => ?_) l.length 0 _ rfl (Nat.zero_le _) (by rfl) (by rfl) (by rfl))
 simp only [G0, Z1, Z2, Z3, Z4, Z5]
 exact end1 hf rfl ⟨rfl, rfl⟩
end Go.Proofs.YtlbjplpehkgcdaaGreatDoor