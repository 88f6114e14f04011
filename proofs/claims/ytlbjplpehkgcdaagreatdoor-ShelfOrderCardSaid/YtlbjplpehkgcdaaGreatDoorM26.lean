/- ShelfOrder holds. Part 26 of 32; no condition. -/
import Derived.Test.YtlbjplpehkgcdaaGreatDoorM25
import Derived.IntWalk
set_option linter.unusedVariables false
set_option linter.unusedSimpArgs false
set_option maxHeartbeats 4000000
set_option maxRecDepth 100000
open Nat renaming reduceLT → Z1, reduceEqDiff → Z2, reduceAdd → Z3, reduceLeDiff → Z4, reduceMul → Z5
namespace Go.Pm
open Go.RowKit Go.Am
theorem RX.cut {E : i9} {P : Program} {rd : Option (Nat × Nat)} {a b : RC} {s : d9} {Q : f7 -> d9 -> Prop} (R : d9 -> Prop) (h : RX E P rd a s (fun e s1 => e = .normal /\ R s1)) (k : ∀ s1, R s1 -> RX E P rd b s1 Q) : RX E P rd (.seq a b) s Q :=
 RX.seq (h.mono fun e s1 hr => by
  obtain ⟨he, hr⟩ := hr
  subst he
  exact k s1 hr)
end Go.Pm
namespace Go.Proofs.YtlbjplpehkgcdaaGreatDoor
open Go Go.Am Go.Pm
structure aO (n0 : Nat) (M0 M : c7) (a g : Nat) (A B ro : List d6) : Prop where
 sub : Pm.Sub M0 M
 new : fresh M0 a
 vals : ∃ va vb vo, M a 0 = some (.row .rw 0 [va, vb, .fn g [] [], vo]) /\ dJ M va A /\ dJ M vb B /\ dF M vo ro /\ (A1 va ≠ some a /\ A1 vb ≠ some a /\ A1 vo ≠ some a) ∧
  ((∀ k, A1 va = some k -> fresh M0 k) /\ (∀ k, A1 vb = some k -> fresh M0 k) /\ (∀ k, A1 vo = some k -> fresh M0 k)) /\ ((∀ k, A1 va = some k -> A1 vb ≠ some k) /\ (∀ k, A1 va = some k -> A1 vo ≠ some k) /\ (∀ k, A1 vb = some k -> A1 vo ≠ some k)) /\ (∀ k, A1 vo = some k -> n0 <= k)
theorem eR {a b : Int} : pmm gI [iv a, iv b] = some (iv (min a b)) := by
 have h : pmm gI [iv a, iv b] = some (iv (if b < a then b else a)) := by
  unfold pmm
  simp [gI, P4]
 have h2 : (if b < a then b else a) = min a b := by
  by_cases hb : b < a
  ·rw [if_pos hb]; omega
  ·rw [if_neg hb]; omega
 rw [h, h2]
theorem dJ.len {M : c7} {v : PV} {l : List d6} (h : dJ M v l) : gB v = some (iv (l.length : Nat)) := by
 cases h with
 | nil e => rfl
 | row hM hj hc => rfl
theorem aXW {M : c7} {a g k : Nat} {A B : List d6} {va vb vo : PV} (hM : M a 0 = some (.row .rw 0 [va, vb, .fn g [] [], vo])) (hA : dJ M va A) (hB : dJ M vb B) (hne : A ≠ [] \/ B ≠ []) (hf : fresh M k) (tm : List (Nat × PV)) (t0 : c8 tm 0 = .ptr a 0 0) :
  RX env Tryz.prog none aEY ⟨tm, 177, k, [], M⟩ (fun e s => e = .normal /\ ∃ tm', s = ⟨tm', 177, k, [], M⟩ /\ c8 tm' 0 = .ptr a 0 0 /\ c8 tm' 2 = iv (J0 A B)) := by
 have hak : a ≠ k := fun e => by subst e; rw [hf 0] at hM; cases hM
 have hlda : ∀ {ag : Bool} {n o : Nat} {os : List Pm.Obj}, y6 k os M ag n (.ptr a 0 o) = p9 ag n o (M a 0) := o9 hak
 have hlA := hA.len
 have hlB := hB.len
 have ld : ∀ {v : PV} {z : d6} {r : List d6}, dJ M v (z :: r) -> ∃ k1 i1 n1 o1 c1, v = .sl k1 i1 o1 (n1 + 1) c1 /\ (∀ {os : List Pm.Obj}, y6 k os M false 1 (.ptr k1 i1 o1) = some (iv z.node)) := fun {v z r} h => by
  cases h with
  | @row k1 i1 j c pre _ hM1 hj hc =>
   subst hj
   have hk1 : k1 ≠ k := fun e => by subst e; rw [hf i1] at hM1; cases hM1
   refine ⟨k1, i1, r.length, _, c, rfl, fun {os} => ?_⟩
   rw [o9 hk1, hM1]
   have c0 := jD (pre := pre) (l := z :: r) rfl (c := 0) (v := iv z.node) rfl
   rw [Nat.add_zero] at c0
   exact c0
 cases A with
 | nil =>
  cases B with
  | nil => simp at hne
  | cons y s =>
   obtain ⟨k1, i1, n1, o1, c1, rfl, hl1⟩ := ld hB
   have hz : (((0 : Nat) : Int) == 0) = true := rfl
   have hlA' : gB va = some (iv ((0 : Nat) : Int)) := hlA
   refine RX.of a6 ?_
   simp only [G0, Z1, Z2, Z3, Z4, Z5, t0, hlda, hM, hlA', hz, Q3, Nat.succ_pos, hl1]
   exact ⟨_, rfl, t0, rfl⟩
 | cons x r =>
  obtain ⟨k2, i2, n2, o2, c2, rfl, hl2⟩ := ld hA
  have hz2 : (((n2 + 1 : Nat) : Int) == 0) = false := by simp; omega
  cases B with
  | nil =>
   have hz : (((0 : Nat) : Int) == 0) = true := rfl
   have hlB' : gB vb = some (iv ((0 : Nat) : Int)) := hlB
   refine RX.of a6 ?_
   simp only [G0, Z1, Z2, Z3, Z4, Z5, t0, hlda, hM, R4, hlB', hz, hz2, Q3, Nat.succ_pos, hl2]
   exact ⟨_, rfl, t0, rfl⟩
  | cons y s =>
   obtain ⟨k1, i1, n1, o1, c1, rfl, hl1⟩ := ld hB
   have hz1 : (((n1 + 1 : Nat) : Int) == 0) = false := by simp; omega
   refine RX.of a6 ?_
   simp only [G0, Z1, Z2, Z3, Z4, Z5, t0, hlda, hM, R4, hz1, hz2, Q3, Nat.succ_pos, hl1, hl2, eR]
   exact ⟨_, rfl, t0, rfl⟩
end Go.Proofs.YtlbjplpehkgcdaaGreatDoor
namespace Go.Proofs.YtlbjplpehkgcdaaGreatDoor
open Go Go.Am Go.Pm
def C8 (x : d6) : Pm.Obj := .row .rw 0 (c9 x)
structure KpS (tm : List (Nat × PV)) (a k : Nat) (n : Int) (x y : Bool) : Prop where
 t0 : c8 tm 0 = .ptr a 0 0
 t2 : c8 tm 2 = iv n
 t3 : c8 tm 3 = .ptr k 0 0
 t4 : c8 tm 4 = bv x
 t5 : c8 tm 5 = .ptr k 1 0
 t6 : c8 tm 6 = bv y
 t7 : c8 tm 7 = .ptr k 2 0
theorem bCG {M : c7} {a g k : Nat} {A B : List d6} {va vb vo : PV} (hM : M a 0 = some (.row .rw 0 [va, vb, .fn g [] [], vo])) (hA : dJ M va A) (hB : dJ M vb B) (hf : fresh M k) (n : Int) (tm : List (Nat × PV)) (t0 : c8 tm 0 = .ptr a 0 0) (t2 : c8 tm 2 = iv n) {Q : f7 -> d9 -> Prop}
  (q : ∀ tm', KpS tm' a k n (dH A n).2 (dH B n).2 -> RX env Tryz.prog none xS ⟨tm', 177, k, [C8 (dH A n).1, C8 (dH B n).1, C8 ⟨n, xK (dH A n) (dH B n), 0⟩], M⟩ Q) :
  RX env Tryz.prog none aD9 ⟨tm, 177, k, [], M⟩ Q := by
 have hak : a ≠ k := fun e => by subst e; rw [hf 0] at hM; cases hM
 have hlda : ∀ {ag : Bool} {n o : Nat} {os : List Pm.Obj}, y6 k os M ag n (.ptr a 0 o) = p9 ag n o (M a 0) := o9 hak
 have h1 := aDV hA n
 have h2 := aDV hB n
 generalize dH A n = X at h1 q ⊢
 generalize dH B n = Y at h2 q ⊢
 obtain ⟨x, bx⟩ := X
 obtain ⟨y, bY⟩ := Y
 have hs1 : ∀ {tm : List (Nat × PV)}, Pm.Sub M (seg M k []) := Pm.Sub.seg hf
 refine RX.cut (fun s => ∃ tm', s = ⟨tm', 177, k, [C8 x], M⟩ /\ c8 tm' 0 = .ptr a 0 0 /\ c8 tm' 2 = iv n /\ c8 tm' 3 = .ptr k 0 0 /\ c8 tm' 4 = bv bx) (RX.of a6 ?_) ?_
 ·simp only [G0, Z1, Z2, Z3, Z4, Z5, t0, t2, hlda, hM]
  refine sL h1 (Pm.Sub.seg hf) (by decide) ?_
  simp only [G0, Z1, Z2, Z3, Z4, Z5, t0, t2, spV, c9, sZ]
  exact ⟨_, rfl, t0, t2, rfl, rfl⟩
 ·rintro s ⟨tm1, rfl, t0, t2, t3, t4⟩
  refine RX.cut (fun s => ∃ tm', s = ⟨tm', 177, k, [C8 x, C8 y], M⟩ /\ c8 tm' 0 = .ptr a 0 0 /\ c8 tm' 2 = iv n /\ c8 tm' 3 = .ptr k 0 0 /\ c8 tm' 4 = bv bx /\ c8 tm' 5 = .ptr k 1 0 /\ c8 tm' 6 = bv bY) (RX.of a6 ?_) ?_
  ·simp only [G0, Z1, Z2, Z3, Z4, Z5, t0, t2, hlda, hM]
   refine sL h2 (Pm.Sub.seg hf) (by decide) ?_
   simp only [G0, Z1, Z2, Z3, Z4, Z5, t0, t2, spV, c9, sZ]
   exact ⟨_, rfl, t0, t2, t3, t4, rfl, rfl⟩
  ·rintro s ⟨tm2, rfl, t0, t2, t3, t4, t5, t6⟩
   refine RX.cut (fun s => ∃ tm', s = ⟨tm', 177, k, [C8 x, C8 y, C8 ⟨n, min x.frm y.frm, 0⟩], M⟩ /\ KpS tm' a k n bx bY) (RX.of a6 ?_) ?_
   ·simp only [G0, Z1, Z2, Z3, Z4, Z5, t0, t2, t3, t4, t5, t6, C8, c9, eR, sZ]
    exact ⟨_, rfl, ⟨t0, t2, t3, t4, t5, t6, rfl⟩⟩
   ·rintro s ⟨tm3, rfl, u0, u2, u3, u4, u5, u6, u7⟩
    refine RX.cut (fun s => ∃ tm', s = ⟨tm', 177, k, [C8 x, C8 y, C8 ⟨n, xK (x, bx) (y, bY), 0⟩], M⟩ /\ KpS tm' a k n bx bY) (RX.of a6 ?_) ?_
    ·have hst1 : ∀ {f : Int}, w5 1 1 (iv f) (some (.row .rw 0 [iv n, iv (min x.frm y.frm), iv 0])) = some (.row .rw 0 [iv n, iv f, iv 0]) := fun {f} => p6 (n := 1) (cs := [iv n, iv (min x.frm y.frm), iv 0]) (x := iv f) ⟨rfl, by show 1 + 1 <= 3; decide, rfl⟩
     cases bx with
     | false =>
      simp only [G0, Z1, Z2, Z3, Z4, Z5, u0, u2, u3, u4, u5, u6, u7, C8, c9, vW, hst1, Bool.not_true, Bool.not_false, m9, o8]
      exact ⟨_, rfl, ⟨u0, u2, u3, u4, u5, u6, u7⟩⟩
     | true =>
      cases bY with
      | false =>
       simp only [G0, Z1, Z2, Z3, Z4, Z5, u0, u2, u3, u4, u5, u6, u7, C8, c9, vW, hst1, Bool.not_true, Bool.not_false, m9, o8]
       exact ⟨_, rfl, ⟨u0, u2, u3, u4, u5, u6, u7⟩⟩
      | true =>
       simp only [G0, Z1, Z2, Z3, Z4, Z5, u0, u2, u3, u4, u5, u6, u7, C8, c9, vW, hst1, Bool.not_true, Bool.not_false, m9, o8]
       exact ⟨_, rfl, ⟨u0, u2, u3, u4, u5, u6, u7⟩⟩
    ·rintro s ⟨tm4, rfl, h4⟩
     exact q tm4 h4
structure KpT (tm : List (Nat × PV)) (a k : Nat) (n : Int) (x y ia ib : Bool) : Prop extends KpS tm a k n x y where
 t8 : c8 tm 8 = bv ia
 t9 : c8 tm 9 = bv ib
theorem aZN {M : c7} {a k : Nat} {n : Int} (X Y : d6 × Bool) (f : Int) (tm : List (Nat × PV)) (hK : KpS tm a k n X.2 Y.2) {Q : f7 -> d9 -> Prop}
  (q : ∀ tm', KpT tm' a k n X.2 Y.2 (xR X f) (xR Y f) -> RX env Tryz.prog none yJ ⟨tm', 177, k, [C8 X.1, C8 Y.1, C8 ⟨n, f, 2147483647⟩], M⟩ Q) :
  RX env Tryz.prog none xS ⟨tm, 177, k, [C8 X.1, C8 Y.1, C8 ⟨n, f, 0⟩], M⟩ Q := by
 obtain ⟨x, bx⟩ := X
 obtain ⟨y, bY⟩ := Y
 obtain ⟨u0, u2, u3, u4, u5, u6, u7⟩ := hK
 refine RX.cut (fun s => ∃ tm', s = ⟨tm', 177, k, [C8 x, C8 y, C8 ⟨n, f, 0⟩], M⟩ /\ KpT tm' a k n bx bY (xR (x, bx) f) (xR (y, bY) f)) (RX.of a6 ?_) ?_
 ·cases bx with
  | false =>
   cases bY with
   | false =>
    simp only [G0, Z1, Z2, Z3, Z4, Z5, u0, u2, u3, u4, u5, u6, u7, C8, c9, Bool.not_true, Bool.not_false, m9, o8]
    exact ⟨_, rfl, ⟨⟨u0, u2, u3, u4, u5, u6, u7⟩, rfl, rfl⟩⟩
   | true =>
    simp only [G0, Z1, Z2, Z3, Z4, Z5, u0, u2, u3, u4, u5, u6, u7, C8, c9, Bool.not_true, Bool.not_false, m9, o8]
    exact ⟨_, rfl, ⟨⟨u0, u2, u3, u4, u5, u6, u7⟩, rfl, rfl⟩⟩
  | true =>
   cases bY with
   | false =>
    simp only [G0, Z1, Z2, Z3, Z4, Z5, u0, u2, u3, u4, u5, u6, u7, C8, c9, Bool.not_true, Bool.not_false, m9, o8]
    exact ⟨_, rfl, ⟨⟨u0, u2, u3, u4, u5, u6, u7⟩, rfl, rfl⟩⟩
   | true =>
    simp only [G0, Z1, Z2, Z3, Z4, Z5, u0, u2, u3, u4, u5, u6, u7, C8, c9, Bool.not_true, Bool.not_false, m9, o8]
    exact ⟨_, rfl, ⟨⟨u0, u2, u3, u4, u5, u6, u7⟩, rfl, rfl⟩⟩
 ·rintro s ⟨tm1, rfl, ⟨u0, u2, u3, u4, u5, u6, u7⟩, u8, u9⟩
  refine RX.cut (fun s => ∃ tm', s = ⟨tm', 177, k, [C8 x, C8 y, C8 ⟨n, f, 2147483647⟩], M⟩ /\ KpT tm' a k n bx bY (xR (x, bx) f) (xR (y, bY) f)) (RX.of a6 ?_) ?_
  ·have hst2 : w5 1 2 (iv 2147483647) (some (.row .rw 0 [iv n, iv f, iv 0])) = some (.row .rw 0 [iv n, iv f, iv 2147483647]) := p6 (n := 1) (cs := [iv n, iv f, iv 0]) (x := iv 2147483647) ⟨rfl, by show 2 + 1 <= 3; decide, rfl⟩
   simp only [G0, Z1, Z2, Z3, Z4, Z5, u0, u2, u3, u4, u5, u6, u7, u8, u9, C8, c9, hst2]
   exact ⟨_, rfl, ⟨⟨u0, u2, u3, u4, u5, u6, u7⟩, u8, u9⟩⟩
  ·rintro s ⟨tm2, rfl, h⟩
   exact q tm2 h
def aCQ (X Y : d6 × Bool) (ia ib : Bool) : List PV := [iv X.1.node, iv X.1.frm, iv X.1.to, bv X.2, bv ia, iv Y.1.node, iv Y.1.frm, iv Y.1.to, bv Y.2, bv ib]
theorem aE0 {M : c7} {a k : Nat} {n f t : Int} {X Y : d6 × Bool} {ia ib : Bool} (x y : d6) (os : List Pm.Obj) (hos : os = [] \/ ∃ o1, os = [o1]) (j : Nat) (hj : j < 2) (Z : d6 × Bool) (iz : Bool) (hz : (j = 0 /\ Z = X /\ iz = ia) \/ (j = 1 /\ Z = Y /\ iz = ib)) (hb : 0 <= Z.1.frm /\ Z.1.frm <= 4000000000) (hi : iz = true -> Z.2 = true) (tm : List (Nat × PV)) (hK : KpT tm a k n X.2 Y.2 ia ib)
  (t117 : c8 tm 117 = .lst .full 5 2 (aCQ X Y ia ib)) (t118 : c8 tm 118 = iv ((2 : Nat) : Int)) (t119 : c8 tm 119 = iv (j : Nat)) {Q : f7 -> d9 -> Prop}
  (q : ∀ tm' o, KpT tm' a k n X.2 Y.2 ia ib -> c8 tm' 117 = .lst .full 5 2 (aCQ X Y ia ib) -> c8 tm' 118 = iv ((2 : Nat) : Int) -> c8 tm' 119 = iv ((j + 1 : Nat) : Int) -> w7 env Tryz.prog none vV ⟨tm', 177, k, C8 x :: C8 y :: C8 ⟨n, f, jA t Z iz⟩ :: (os ++ [o]), M⟩ Q) :
  w7 env Tryz.prog none vV ⟨tm, 177, k, C8 x :: C8 y :: C8 ⟨n, f, t⟩ :: os, M⟩ Q := by
 obtain ⟨⟨u0, u2, u3, u4, u5, u6, u7⟩, u8, u9⟩ := hK
 have hlt : ((j : Nat) : Int) < ((2 : Nat) : Int) := by omega
 have hw : IntKind.i64.wrap (((j : Nat) : Int) + 1) = ((j + 1 : Nat) : Int) := by rw [f9 (by omega) (by omega)]; rfl
 have hw2 : IntKind.i64.wrap (Z.1.frm - 1) = Z.1.frm - 1 := f9 (by omega) (by omega)
 have hl5 : A3 true 5 (aCQ X Y ia ib) (j * 5) = some (.agg [iv Z.1.node, iv Z.1.frm, iv Z.1.to, bv Z.2, bv iz]) := by
  rcases hz with ⟨rfl, rfl, rfl⟩ | ⟨rfl, rfl, rfl⟩ <;> rfl
 have hst5 : w5 5 0 (.agg [iv Z.1.node, iv Z.1.frm, iv Z.1.to, bv Z.2, bv iz]) (some (.row .rw 0 [iv 0, iv 0, iv 0, bv false, bv false])) = some (.row .rw 0 [iv Z.1.node, iv Z.1.frm, iv Z.1.to, bv Z.2, bv iz]) := p6 (n := 5) ⟨rfl, Nat.le_refl 5, rfl⟩
 have hst2 : ∀ {t' : Int}, w5 1 2 (iv t') (some (.row .rw 0 [iv n, iv f, iv t])) = some (.row .rw 0 [iv n, iv f, iv t']) := fun {t'} => p6 (n := 1) (cs := [iv n, iv f, iv t]) (x := iv t') ⟨rfl, by show 2 + 1 <= 3; decide, rfl⟩
 rcases hos with rfl | ⟨o1, rfl⟩
 ·refine w7.round (RX.of a6 ?_)
  cases iz with
  | true =>
   have hz2 := hi rfl
   simp only [G0, Z1, Z2, Z3, Z4, Z5, u0, u2, u3, u4, u5, u6, u7, u8, u9, t117, t118, t119, hlt, decide_true, hl5, hj, C8, c9, hst5, eR, hst2, hw]
   exact q _ _ ⟨⟨u0, u2, u3, u4, u5, u6, u7⟩, u8, u9⟩ t117 t118 rfl
  | false =>
   cases hZ : Z.2 with
   | true =>
    rw [hZ] at hl5 hst5
    have hq : jA t Z false = min t (Z.1.frm - 1) := by unfold jA; rw [hZ]; rfl
    rw [hq] at q
    simp only [G0, Z1, Z2, Z3, Z4, Z5, u0, u2, u3, u4, u5, u6, u7, u8, u9, t117, t118, t119, hlt, decide_true, hl5, hj, C8, c9, hst5, eR, hst2, hw, hw2]
    exact q _ _ ⟨⟨u0, u2, u3, u4, u5, u6, u7⟩, u8, u9⟩ t117 t118 rfl
   | false =>
    rw [hZ] at hl5 hst5
    have hq : jA t Z false = t := by unfold jA; rw [hZ]; rfl
    rw [hq] at q
    simp only [G0, Z1, Z2, Z3, Z4, Z5, u0, u2, u3, u4, u5, u6, u7, u8, u9, t117, t118, t119, hlt, decide_true, hl5, hj, C8, c9, hst5, eR, hst2, hw]
    exact q _ _ ⟨⟨u0, u2, u3, u4, u5, u6, u7⟩, u8, u9⟩ t117 t118 rfl
 ·refine w7.round (RX.of a6 ?_)
  cases iz with
  | true =>
   have hz2 := hi rfl
   simp only [G0, Z1, Z2, Z3, Z4, Z5, u0, u2, u3, u4, u5, u6, u7, u8, u9, t117, t118, t119, hlt, decide_true, hl5, hj, C8, c9, hst5, eR, hst2, hw]
   exact q _ _ ⟨⟨u0, u2, u3, u4, u5, u6, u7⟩, u8, u9⟩ t117 t118 rfl
  | false =>
   cases hZ : Z.2 with
   | true =>
    rw [hZ] at hl5 hst5
    have hq : jA t Z false = min t (Z.1.frm - 1) := by unfold jA; rw [hZ]; rfl
    rw [hq] at q
    simp only [G0, Z1, Z2, Z3, Z4, Z5, u0, u2, u3, u4, u5, u6, u7, u8, u9, t117, t118, t119, hlt, decide_true, hl5, hj, C8, c9, hst5, eR, hst2, hw, hw2]
    exact q _ _ ⟨⟨u0, u2, u3, u4, u5, u6, u7⟩, u8, u9⟩ t117 t118 rfl
   | false =>
    rw [hZ] at hl5 hst5
    have hq : jA t Z false = t := by unfold jA; rw [hZ]; rfl
    rw [hq] at q
    simp only [G0, Z1, Z2, Z3, Z4, Z5, u0, u2, u3, u4, u5, u6, u7, u8, u9, t117, t118, t119, hlt, decide_true, hl5, hj, C8, c9, hst5, eR, hst2, hw]
    exact q _ _ ⟨⟨u0, u2, u3, u4, u5, u6, u7⟩, u8, u9⟩ t117 t118 rfl
end Go.Proofs.YtlbjplpehkgcdaaGreatDoor
namespace Go.Proofs.YtlbjplpehkgcdaaGreatDoor
open Go Go.Am Go.Pm
theorem aX5 {M : c7} {a k : Nat} {n f : Int} (X Y : d6 × Bool) (ia ib : Bool) (hX : 0 <= X.1.frm /\ X.1.frm <= 4000000000) (hY : 0 <= Y.1.frm /\ Y.1.frm <= 4000000000) (hia : ia = true -> X.2 = true) (hib : ib = true -> Y.2 = true) (tm : List (Nat × PV)) (hK : KpT tm a k n X.2 Y.2 ia ib) {Q : f7 -> d9 -> Prop}
  (q : ∀ tm' o1 o2, KpT tm' a k n X.2 Y.2 ia ib -> RX env Tryz.prog none xE ⟨tm', 177, k, [C8 X.1, C8 Y.1, C8 ⟨n, f, jA (jA 2147483647 X ia) Y ib⟩, o1, o2], M⟩ Q) :
  RX env Tryz.prog none yJ ⟨tm, 177, k, [C8 X.1, C8 Y.1, C8 ⟨n, f, 2147483647⟩], M⟩ Q := by
 obtain ⟨⟨u0, u2, u3, u4, u5, u6, u7⟩, u8, u9⟩ := hK
 refine RX.cut (fun s => ∃ tm' o1 o2, s = ⟨tm', 177, k, [C8 X.1, C8 Y.1, C8 ⟨n, f, jA (jA 2147483647 X ia) Y ib⟩, o1, o2], M⟩ /\ KpT tm' a k n X.2 Y.2 ia ib) (RX.of a6 ?_) ?_
 ·simp only [G0, Z1, Z2, Z3, Z4, Z5, u0, u2, u3, u4, u5, u6, u7, u8, u9, C8, c9]
  refine RX.loop ?_
  refine aE0 (a := a) (X := X) (Y := Y) (ia := ia) (ib := ib) X.1 Y.1 [] (.inl rfl) 0 (by decide) X ia (.inl ⟨rfl, rfl, rfl⟩) hX hia _ ?_ ?_ ?_ ?_ fun tm1 o1 hK1 h117 h118 h119 => ?_
  ·exact ⟨⟨u0, u2, u3, u4, u5, u6, u7⟩, u8, u9⟩
  ·rfl
  ·rfl
  ·rfl
  refine aE0 X.1 Y.1 [o1] (.inr ⟨o1, rfl⟩) 1 (by decide) Y ib (.inr ⟨rfl, rfl, rfl⟩) hY hib tm1 hK1 h117 h118 h119 fun tm2 o2 hK2 g117 g118 g119 => ?_
  refine w7.round (RX.of a6 ?_)
  simp only [G0, Z1, Z2, Z3, Z4, Z5, g118, g119, Int.lt_irrefl, decide_false]
  obtain ⟨⟨v0, v2, v3, v4, v5, v6, v7⟩, v8, v9⟩ := hK2
  exact ⟨_, o1, o2, rfl, ⟨⟨v0, v2, v3, v4, v5, v6, v7⟩, v8, v9⟩⟩
 ·rintro s ⟨tm', o1, o2, rfl, h⟩
  exact q tm' o1 o2 h
section
variable {M0 M M1 B' : c7} {n0 a g k : Nat} {A B ro : List d6}
theorem aO.base (h : aO n0 B' M a g A B ro) (hs : Pm.Sub M0 B') : aO n0 M0 M a g A B ro := by
 obtain ⟨va, vb, vo, h1, h2, h3, h4, h5, ⟨f1, f2, f3⟩, h7⟩ := h.vals
 exact ⟨hs.trans h.sub, G7 hs h.new, va, vb, vo, h1, h2, h3, h4, h5, ⟨fun k e => G7 hs (f1 k e), fun k e => G7 hs (f2 k e), fun k e => G7 hs (f3 k e)⟩, h7⟩
theorem aO.push {os : List Pm.Obj} (h : aO n0 M0 M a g A B ro) (hf : fresh M k) : aO n0 (seg M0 k os) (seg M k os) a g A B ro := by
 obtain ⟨va, vb, vo, h1, h2, h3, h4, h5, ⟨f1, f2, f3⟩, h7⟩ := h.vals
 have hak : a ≠ k := fun e => by subst e; rw [hf 0] at h1; cases h1
 have ka := h2.key hf
 have kb := h3.key hf
 have ko := h4.key hf
 have key : ∀ {v : PV}, A1 v ≠ some k -> ∀ k' i, A1 v = some k' -> M k' i ≠ none -> seg M k os k' i = M k' i := fun {v} hv k' i e _ => g6 _ _ _ fun e' => hv (by rw [e, e'])
 exact ⟨aI8 h.sub, N9 h.new hak, va, vb, vo, by rw [g6 _ _ _ hak]; exact h1, h2.frame (key ka), h3.frame (key kb), h4.frame (key ko), h5, ⟨fun k' e => N9 (f1 k' e) fun e' => ka (by rw [e, e']), fun k' e => N9 (f2 k' e) fun e' => kb (by rw [e, e']), fun k' e => N9 (f3 k' e) fun e' => ko (by rw [e, e'])⟩, h7⟩
theorem aO.re {o : Pm.Obj} {os os' : List Pm.Obj} (h : aO n0 (seg M0 k (o :: os)) M1 a g A B ro) : aO n0 M0 (seg M1 k os') a g A B ro /\ True \/ ¬ fresh M0 k := by
 by_cases hf : fresh M0 k
 ·refine .inl ⟨?_, trivial⟩
  obtain ⟨va, vb, vo, h1, h2, h3, h4, h5, ⟨f1, f2, f3⟩, h7⟩ := h.vals
  have hak := E7 h.new
  have key : ∀ {v : PV}, (∀ k', A1 v = some k' -> fresh (seg M0 k (o :: os)) k') -> ∀ k' i, A1 v = some k' -> M1 k' i ≠ none -> seg M1 k os' k' i = M1 k' i := fun {v} hv k' i e _ => g6 _ _ _ (E7 (hv k' e))
  refine ⟨fun j i x e => ?_, aE h.new, va, vb, vo, by rw [g6 _ _ _ hak]; exact h1, h2.frame (key f1), h3.frame (key f2), h4.frame (key f3), h5, ⟨fun k' e => aE (f1 k' e), fun k' e => aE (f2 k' e), fun k' e => aE (f3 k' e)⟩, h7⟩
  have hj : j ≠ k := fun e' => by subst e'; rw [hf i] at e; cases e
  rw [g6 _ _ _ hj]
  exact h.sub _ _ _ (by rw [g6 _ _ _ hj]; exact e)
 ·exact .inr hf
theorem aO.re' {o : Pm.Obj} {os : List Pm.Obj} (h : aO n0 (seg M0 k (o :: os)) M1 a g A B ro) : aO n0 (seg M0 k (o :: os)) (seg M1 k (o :: os)) a g A B ro := by
 obtain ⟨va, vb, vo, h1, h2, h3, h4, h5, ⟨f1, f2, f3⟩, h7⟩ := h.vals
 have hak := E7 h.new
 have key : ∀ {v : PV}, (∀ k', A1 v = some k' -> fresh (seg M0 k (o :: os)) k') -> ∀ k' i, A1 v = some k' -> M1 k' i ≠ none -> seg M1 k (o :: os) k' i = M1 k' i := fun {v} hv k' i e _ => g6 _ _ _ (E7 (hv k' e))
 exact ⟨aWO h.sub, h.new, va, vb, vo, by rw [g6 _ _ _ hak]; exact h1, h2.frame (key f1), h3.frame (key f2), h4.frame (key f3), h5, ⟨f1, f2, f3⟩, h7⟩
end
theorem aO.add {n0 : Nat} {M0 M : c7} {a g : Nat} {A B ro : List d6} (h : aO n0 M0 M a g A B ro) (hl : ro.length <= 1000000) (hp : ∀ p r, ro = p :: r -> 0 <= p.to /\ p.to <= 4000000000) (x : d6) : kW env Tryz.prog 138 [.ptr a 0 0, spV x] M (fun nk _ M1 => n0 <= nk -> aO n0 M0 M1 a g A B (M6 ro x)) := by
 obtain ⟨va, vb, vo, h1, h2, h3, h4, ⟨n1, n2, n3⟩, ⟨f1, f2, f3⟩, ⟨d1, d2, d3⟩, h8⟩ := h.vals
 refine (aV4 h1 h4 n3 hl hp x).mono ?_
 rintro nk y M1 ⟨vo', q1, q2, q3, q4⟩ hn0
 have fr0 : ∀ k, fresh M k -> fresh M0 k := fun k hk => G7 h.sub hk
 have nk : ∀ {v : PV} {l : List d6}, dJ M v l -> ∀ k, fresh M k -> A1 v ≠ some k := fun hv k hk => hv.key hk
 refine ⟨fun j i o e => ?_, h.new, va, vb, vo', q1, h2.frame fun k' i e ne => q4 k' i (fun e' => n1 (by rw [e, e'])) (fun e' => d2 k' e e') ne, h3.frame fun k' i e ne => q4 k' i (fun e' => n2 (by rw [e, e'])) (fun e' => d3 k' e e') ne, q2, ⟨n1, n2, ?_⟩, ⟨f1, f2, fun k' e => ?_⟩, ⟨d1, fun k' e e' => ?_, fun k' e e' => ?_⟩, fun k' e => ?_⟩
 ·have hj : j ≠ a := fun e' => by subst e'; rw [h.new i] at e; cases e
  have ho := h.sub _ _ _ e
  rw [q4 j i hj (fun e' => by rw [f3 j e' i] at e; cases e) (by rw [ho]; exact fun h => by cases h)]
  exact ho
 ·rcases q3 with q3 | ⟨k, hnk, hk, q3⟩
  ·rw [q3]; exact n3
  ·rw [q3]; intro e'; cases e'; rw [hk 0] at h1; cases h1
 ·rcases q3 with q3 | ⟨k, hnk, hk, q3⟩
  ·exact f3 k' (by rw [<- q3]; exact e)
  ·rw [q3] at e; cases e; exact fr0 _ hk
 ·rcases q3 with q3 | ⟨k, hnk, hk, q3⟩
  ·exact d2 k' e (by rw [<- q3]; exact e')
  ·rw [q3] at e'; cases e'; exact nk h2 _ hk e
 ·rcases q3 with q3 | ⟨k, hnk, hk, q3⟩
  ·exact d3 k' e (by rw [<- q3]; exact e')
  ·rw [q3] at e'; cases e'; exact nk h3 _ hk e
 ·rcases q3 with q3 | ⟨k, hnk, hk, q3⟩
  ·exact h8 k' (by rw [<- q3]; exact e)
  ·rw [q3] at e; cases e; omega
end Go.Proofs.YtlbjplpehkgcdaaGreatDoor
namespace Go.Proofs.YtlbjplpehkgcdaaGreatDoor
open Go Go.Am Go.Pm
section
variable {M0 M M1 : c7} {n0 a g k : Nat} {A B ro : List d6}
theorem dJ.one {v : PV} {l : List d6} (h : dJ M v l) : k9 v = [v] /\ w9 v = true := by
 cases h with
 | nil e => exact ⟨rfl, rfl⟩
 | row hM hj hc => exact ⟨rfl, rfl⟩
theorem aO.sideA (h : aO n0 M0 M a g A B ro) : ∃ va vb vo, M a 0 = some (.row .rw 0 [va, vb, .fn g [] [], vo]) /\ dJ M va A /\ ∀ x M1 A', dJ M1 x A' -> A1 x = A1 va -> (∀ k i, A1 va ≠ some k -> M1 k i = M k i) →
  Pm.Sub M0 M1 /\ M1 a 0 = some (.row .rw 0 [va, vb, .fn g [] [], vo]) /\ w5 1 0 x (some (.row .rw 0 [va, vb, .fn g [] [], vo])) = some (.row .rw 0 [x, vb, .fn g [] [], vo]) /\ aO n0 M0 (l7 M1 a 0 (.row .rw 0 [x, vb, .fn g [] [], vo])) a g A' B ro := by
 obtain ⟨va, vb, vo, h1, h2, h3, h4, ⟨n1, n2, n3⟩, ⟨f1, f2, f3⟩, ⟨d1, d2, d3⟩, h8⟩ := h.vals
 refine ⟨va, vb, vo, h1, h2, fun x M1 A' hx hk hf => ?_⟩
 have hs : Pm.Sub M0 M1 := fun j i o e => by
  rw [hf j i (fun e' => by rw [f1 j e' i] at e; cases e)]; exact h.sub _ _ _ e
 have nx : A1 x ≠ some a := by rw [hk]; exact n1
 obtain ⟨c1, c2⟩ := hx.one
 refine ⟨hs, by rw [hf a 0 n1]; exact h1, ?_, ?_⟩
 ·rw [p6 (n := 1) ⟨by rw [c1]; rfl, by rw [c1]; show 0 + 1 <= 4; decide, by rw [c1]; simp [c2]⟩, c1]; rfl
 ·refine ⟨fun j i o e => ?_, h.new, x, vb, vo, y8 _ _ _ _, ?_, ?_, ?_, ⟨nx, n2, n3⟩, ⟨fun k' e => f1 k' (by rw [<- hk]; exact e), f2, f3⟩, ⟨fun k' e => d1 k' (by rw [<- hk]; exact e), fun k' e => d2 k' (by rw [<- hk]; exact e), d3⟩, h8⟩
  ·have hj : j ≠ a := fun e' => by subst e'; rw [h.new i] at e; cases e
   rw [D8 (fun y => hj y.1)]; exact hs _ _ _ e
  ·exact hx.frame fun k' i e _ => D8 fun y => nx (by rw [e, y.1])
  ·exact h3.frame fun k' i e _ => by rw [D8 (fun y => n2 (by rw [e, y.1])), hf k' i (fun e' => d1 k' e' e)]
  ·exact h4.frame fun k' i e _ => by rw [D8 (fun y => n3 (by rw [e, y.1])), hf k' i (fun e' => d2 k' e' e)]
theorem aO.sideB (h : aO n0 M0 M a g A B ro) : ∃ va vb vo, M a 0 = some (.row .rw 0 [va, vb, .fn g [] [], vo]) /\ dJ M vb B /\ ∀ x M1 B', dJ M1 x B' -> A1 x = A1 vb -> (∀ k i, A1 vb ≠ some k -> M1 k i = M k i) →
  Pm.Sub M0 M1 /\ M1 a 0 = some (.row .rw 0 [va, vb, .fn g [] [], vo]) /\ w5 1 1 x (some (.row .rw 0 [va, vb, .fn g [] [], vo])) = some (.row .rw 0 [va, x, .fn g [] [], vo]) /\ aO n0 M0 (l7 M1 a 0 (.row .rw 0 [va, x, .fn g [] [], vo])) a g A B' ro := by
 obtain ⟨va, vb, vo, h1, h2, h3, h4, ⟨n1, n2, n3⟩, ⟨f1, f2, f3⟩, ⟨d1, d2, d3⟩, h8⟩ := h.vals
 refine ⟨va, vb, vo, h1, h3, fun x M1 B' hx hk hf => ?_⟩
 have hs : Pm.Sub M0 M1 := fun j i o e => by
  rw [hf j i (fun e' => by rw [f2 j e' i] at e; cases e)]; exact h.sub _ _ _ e
 have nx : A1 x ≠ some a := by rw [hk]; exact n2
 obtain ⟨c1, c2⟩ := hx.one
 refine ⟨hs, by rw [hf a 0 n2]; exact h1, ?_, ?_⟩
 ·rw [p6 (n := 1) ⟨by rw [c1]; rfl, by rw [c1]; show 1 + 1 <= 4; decide, by rw [c1]; simp [c2]⟩, c1]; rfl
 ·refine ⟨fun j i o e => ?_, h.new, va, x, vo, y8 _ _ _ _, ?_, ?_, ?_, ⟨n1, nx, n3⟩, ⟨f1, fun k' e => f2 k' (by rw [<- hk]; exact e), f3⟩, ⟨fun k' e e' => d1 k' e (by rw [<- hk]; exact e'), d2, fun k' e => d3 k' (by rw [<- hk]; exact e)⟩, h8⟩
  ·have hj : j ≠ a := fun e' => by subst e'; rw [h.new i] at e; cases e
   rw [D8 (fun y => hj y.1)]; exact hs _ _ _ e
  ·exact h2.frame fun k' i e _ => by rw [D8 (fun y => n1 (by rw [e, y.1])), hf k' i (fun e' => d1 k' e e')]
  ·exact hx.frame fun k' i e _ => D8 fun y => nx (by rw [e, y.1])
  ·exact h4.frame fun k' i e _ => by rw [D8 (fun y => n3 (by rw [e, y.1])), hf k' i (fun e' => d3 k' e' e)]
theorem aO.leave {o : Pm.Obj} {os os' os2 : List Pm.Obj} (h : aO n0 (seg M0 k (o :: os)) (seg M k os') a g A B ro) (hf : fresh M0 k) : aO n0 M0 (seg M k os2) a g A B ro := by
 rcases h.re (os' := os2) with h | h
 ·rw [aRR] at h; exact h.1
 ·exact absurd hf h
end
theorem aXT {M0 M : c7} {n0 a g k : Nat} (hn0 : n0 <= k) {A B ro : List d6} {os : List Pm.Obj} (keep : Bool -> Bool -> Bool) (hg : ∀ x y, A0 env Tryz.prog g [bv x, bv y] (bv (keep x y))) {n : Int} {x y ia ib : Bool} (X Y N : d6) (o1 o2 : Pm.Obj) (tm : List (Nat × PV)) (hK : KpT tm a k n x y ia ib) (hos : os = [C8 X, C8 Y, C8 N, o1, o2])
  (h : aO n0 (seg M0 k os) (seg M k os) a g A B ro) (hl : ro.length <= 1000000) (hp : ∀ p r, ro = p :: r -> 0 <= p.to /\ p.to <= 4000000000) {Q : f7 -> d9 -> Prop}
  (q : ∀ tm' M1, KpT tm' a k n x y ia ib -> aO n0 (seg M0 k os) (seg M1 k os) a g A B (if keep ia ib then M6 ro N else ro) -> RX env Tryz.prog none xG ⟨tm', 177, k, os, M1⟩ Q) :
  RX env Tryz.prog none xE ⟨tm, 177, k, os, M⟩ Q := by
 subst hos
 obtain ⟨⟨u0, u2, u3, u4, u5, u6, u7⟩, u8, u9⟩ := hK
 have hak := E7 h.new
 obtain ⟨va, vb, vo, h1, -⟩ := h.vals
 rw [g6 _ _ _ hak] at h1
 have hlda : ∀ {ag : Bool} {n o : Nat} {os : List Pm.Obj}, y6 k os M ag n (.ptr a 0 o) = p9 ag n o (M a 0) := o9 hak
 refine RX.cut (fun s => ∃ tm' M1, s = ⟨tm', 177, k, [C8 X, C8 Y, C8 N, o1, o2], M1⟩ /\ KpT tm' a k n x y ia ib /\ aO n0 (seg M0 k [C8 X, C8 Y, C8 N, o1, o2]) (seg M1 k [C8 X, C8 Y, C8 N, o1, o2]) a g A B (if keep ia ib then M6 ro N else ro)) (RX.of a6 ?_) ?_
 ·simp only [G0, Z1, Z2, Z3, Z4, Z5, u0, u8, u9, hlda, h1]
  refine H7 (hg ia ib) (by decide) ?_
  simp only [G0, Z1, Z2, Z3, Z4, Z5]
  cases hkp : keep ia ib with
  | false =>
   simp only [G0, Z1, Z2, Z3, Z4, Z5]
   exact ⟨_, _, rfl, ⟨⟨u0, u2, u3, u4, u5, u6, u7⟩, u8, u9⟩, h⟩
  | true =>
   simp only [G0, Z1, Z2, Z3, Z4, Z5, u0, u7, C8, c9]
   refine cmk (first := []) (cap := []) ((h.add hl hp N).mono ?_)
   intro nk z M1 h' hlt
   have h' := h' (by omega)
   refine ⟨[C8 X, C8 Y, C8 N, o1, o2], M1, rfl, aCS h'.sub, by decide, ?_⟩
   simp only [G0, Z1, Z2, Z3, Z4, Z5]
   exact ⟨_, _, rfl, ⟨⟨u0, u2, u3, u4, u5, u6, u7⟩, u8, u9⟩, h'.re'⟩
 ·rintro s ⟨tm', M1, rfl, hK', h'⟩
  exact q tm' M1 hK' h'
end Go.Proofs.YtlbjplpehkgcdaaGreatDoor
namespace Go.Proofs.YtlbjplpehkgcdaaGreatDoor
open Go Go.Am Go.Pm
theorem aV8 {M0 M : c7} {n0 a g k : Nat} {A B ro : List d6} {os : List Pm.Obj} {n : Int} {x y ia ib : Bool} (X Y N : d6) (o1 o2 : Pm.Obj) (tm : List (Nat × PV)) (hK : KpT tm a k n x y ia ib) (hos : os = [C8 X, C8 Y, C8 N, o1, o2])
  (h : aO n0 (seg M0 k os) (seg M k os) a g A B ro) (hA : ia = true -> A ≠ []) (ht : 0 <= N.to /\ N.to <= 4000000000) {Q : f7 -> d9 -> Prop}
  (q : ∀ tm' M1, KpT tm' a k n x y ia ib -> aO n0 (seg M0 k os) (seg M1 k os) a g (I8 A ia N.to) B ro -> RX env Tryz.prog none xN ⟨tm', 177, k, os, M1⟩ Q) :
  RX env Tryz.prog none xG ⟨tm, 177, k, os, M⟩ Q := by
 subst hos
 obtain ⟨⟨u0, u2, u3, u4, u5, u6, u7⟩, u8, u9⟩ := hK
 have hak := E7 h.new
 obtain ⟨va, vb, vo, h1, h2, h3⟩ := h.sideA
 rw [g6 _ _ _ hak] at h1
 have hlda : ∀ {ag : Bool} {n o : Nat} {os : List Pm.Obj}, y6 k os M ag n (.ptr a 0 o) = p9 ag n o (M a 0) := o9 hak
 refine RX.cut (fun s => ∃ tm' M1, s = ⟨tm', 177, k, [C8 X, C8 Y, C8 N, o1, o2], M1⟩ /\ KpT tm' a k n x y ia ib /\ aO n0 (seg M0 k [C8 X, C8 Y, C8 N, o1, o2]) (seg M1 k [C8 X, C8 Y, C8 N, o1, o2]) a g (I8 A ia N.to) B ro) (RX.of a6 ?_) ?_
 ·cases ia with
  | false =>
   simp only [G0, Z1, Z2, Z3, Z4, Z5, u8]
   exact ⟨_, _, rfl, ⟨⟨u0, u2, u3, u4, u5, u6, u7⟩, u8, u9⟩, h⟩
  | true =>
   cases A with
   | nil => exact absurd rfl (hA rfl)
   | cons z r =>
    simp only [G0, Z1, Z2, Z3, Z4, Z5, u0, u7, u8, hlda, h1, C8, c9]
    refine cm (first := []) (cap := []) ((uE h2 N.to ht).mono ?_)
    rintro v M1 ⟨q1, q2, q3⟩
    obtain ⟨s1, s2, s3, s4⟩ := h3 v M1 _ q1 q2 q3
    refine ⟨[C8 X, C8 Y, C8 N, o1, o2], M1, rfl, aCS s1, by decide, ?_⟩
    have hst : ∀ {tm : List (Nat × PV)} {os : List Pm.Obj}, L0 tm 177 k os M1 1 v (.ptr a 0 0) = some (.junk, ⟨tm, 177, k, os, l7 M1 a 0 (.row .rw 0 [v, vb, .fn g [] [], vo])⟩) := fun {tm os} => by
     rw [F1 hak, s2, s3, aH]
    simp only [G0, Z1, Z2, Z3, Z4, Z5, u0, hst]
    exact ⟨_, _, rfl, ⟨⟨u0, u2, u3, u4, u5, u6, u7⟩, u8, u9⟩, s4.re'⟩
 ·rintro s ⟨tm', M1, rfl, hK', h'⟩
  exact q tm' M1 hK' h'
theorem aVY {M0 M : c7} {n0 a g k : Nat} {A B ro : List d6} {os : List Pm.Obj} {n : Int} {x y ia ib : Bool} (X Y N : d6) (o1 o2 : Pm.Obj) (tm : List (Nat × PV)) (hK : KpT tm a k n x y ia ib) (hos : os = [C8 X, C8 Y, C8 N, o1, o2])
  (h : aO n0 (seg M0 k os) (seg M k os) a g A B ro) (hB : ib = true -> B ≠ []) (ht : 0 <= N.to /\ N.to <= 4000000000) :
  RX env Tryz.prog none xN ⟨tm, 177, k, os, M⟩ (fun e s => e = .normal /\ ∃ tm' M1, s = ⟨tm', 177, k, os, M1⟩ /\ aO n0 (seg M0 k os) (seg M1 k os) a g A (I8 B ib N.to) ro) := by
 subst hos
 obtain ⟨⟨u0, u2, u3, u4, u5, u6, u7⟩, u8, u9⟩ := hK
 have hak := E7 h.new
 obtain ⟨va, vb, vo, h1, h2, h3⟩ := h.sideB
 rw [g6 _ _ _ hak] at h1
 have hlda : ∀ {ag : Bool} {n o : Nat} {os : List Pm.Obj}, y6 k os M ag n (.ptr a 0 o) = p9 ag n o (M a 0) := o9 hak
 refine RX.of a6 ?_
 cases ib with
 | false =>
  simp only [G0, Z1, Z2, Z3, Z4, Z5, u9]
  exact ⟨_, _, rfl, h⟩
 | true =>
  cases B with
  | nil => exact absurd rfl (hB rfl)
  | cons z r =>
   simp only [G0, Z1, Z2, Z3, Z4, Z5, u0, u7, u9, hlda, h1, C8, c9]
   refine cm (first := []) (cap := []) ((uE h2 N.to ht).mono ?_)
   rintro v M1 ⟨q1, q2, q3⟩
   obtain ⟨s1, s2, s3, s4⟩ := h3 v M1 _ q1 q2 q3
   refine ⟨[C8 X, C8 Y, C8 N, o1, o2], M1, rfl, aCS s1, by decide, ?_⟩
   have hst : ∀ {tm : List (Nat × PV)} {os : List Pm.Obj}, L0 tm 177 k os M1 1 v (.ptr a 0 1) = some (.junk, ⟨tm, 177, k, os, l7 M1 a 0 (.row .rw 0 [va, v, .fn g [] [], vo])⟩) := fun {tm os} => by
    rw [F1 hak, s2, s3, aH]
   simp only [G0, Z1, Z2, Z3, Z4, Z5, u0, hst]
   exact ⟨_, _, rfl, s4.re'⟩
theorem aOM {l : List d6} {n f : Int} (h : xR (dH l n) f = true) : l ≠ [] := by
 rintro rfl
 simp [xR, dH] at h
theorem aMK {l : List d6} (h : Y3 l) (n : Int) : 0 <= (dH l n).1.frm /\ (dH l n).1.frm <= 4000000000 := by
 cases l with
 | nil => exact ⟨Int.le_refl 0, by show (0 : Int) <= 4000000000; decide⟩
 | cons x r =>
  have hx := h.1
  unfold M8 at hx
  unfold dH
  dsimp only
  by_cases e : x.node = n
  ·rw [if_pos e]; dsimp only; omega
  ·rw [if_neg e]; exact ⟨by decide, by decide⟩
theorem aO.weak {n0 n1 : Nat} {M0 M : c7} {a g : Nat} {A B ro : List d6} (h : aO n0 M0 M a g A B ro) (hn : n1 <= n0) : aO n1 M0 M a g A B ro := by
 obtain ⟨va, vb, vo, h1, h2, h3, h4, h5, h6, h7, h8⟩ := h.vals
 exact ⟨h.sub, h.new, va, vb, vo, h1, h2, h3, h4, h5, h6, h7, fun k e => Nat.le_trans hn (h8 k e)⟩
theorem aQ6 {n0 : Nat} {M0 M : c7} {a g : Nat} {A B ro : List d6} (keep : Bool -> Bool -> Bool) (hg : ∀ x y, A0 env Tryz.prog g [bv x, bv y] (bv (keep x y))) (h : aO n0 M0 M a g A B ro) (hA : Y3 A) (hB : Y3 B) (hne : A ≠ [] \/ B ≠ []) (hl : ro.length <= 1000000) (hp : ∀ p r, ro = p :: r -> 0 <= p.to /\ p.to <= 4000000000) :
  kW env Tryz.prog 118 [.ptr a 0 0] M (fun nk _ M1 => n0 <= nk -> aO n0 M0 M1 a g (I8 A (m8 A B).ia (m8 A B).x.to) (I8 B (m8 A B).ib (m8 A B).x.to) (if keep (m8 A B).ia (m8 A B).ib then M6 ro (m8 A B).x else ro)) := by
 obtain ⟨hx, -⟩ := jZ hA hB hne
 have hx' : 0 <= (m8 A B).x.to /\ (m8 A B).x.to <= 4000000000 := by unfold M8 at hx; omega
 refine kW.enterR a6 aZO (by simp) aRY fun k hk hf => ?_
 obtain ⟨va, vb, vo, h1, h2, h3, -⟩ := h.vals
 have hf0 : fresh M0 k := G7 h.sub hf
 refine RX.cut (fun s => ∃ tm', s = ⟨tm', 177, k, [], M⟩ /\ c8 tm' 0 = .ptr a 0 0) (RX.of a6 ?_) ?_
 ·simp only [G0, Z1, Z2, Z3, Z4, Z5, f8]
  exact ⟨_, rfl, rfl⟩
 rintro s ⟨tm0, rfl, t0⟩
 refine RX.cut (fun s => ∃ tm', s = ⟨tm', 177, k, [], M⟩ /\ c8 tm' 0 = .ptr a 0 0 /\ c8 tm' 2 = iv (J0 A B)) ((aXW h1 h2 h3 hne hf tm0 t0).mono ?_) ?_
 ·rintro e s ⟨rfl, w⟩; exact ⟨rfl, w⟩
 rintro s ⟨tm1, rfl, t0, t2⟩
 refine bCG h1 h2 h3 hf (J0 A B) tm1 t0 t2 fun tm2 hK => ?_
 refine aZN (dH A (J0 A B)) (dH B (J0 A B)) (xK (dH A (J0 A B)) (dH B (J0 A B))) tm2 hK fun tm3 hK => ?_
 refine aX5 (dH A (J0 A B)) (dH B (J0 A B)) _ _ (aMK hA _) (aMK hB _) (fun e => by simp only [xR, Bool.and_eq_true] at e; exact e.1) (fun e => by simp only [xR, Bool.and_eq_true] at e; exact e.1) tm3 hK fun tm4 o1 o2 hK => ?_
 refine aXT (Nat.min_le_right n0 k) keep hg (dH A (J0 A B)).1 (dH B (J0 A B)).1 (m8 A B).x o1 o2 tm4 hK rfl ((h.weak (Nat.min_le_left n0 k)).push hf) hl hp fun tm5 M1 hK h5 => ?_
 refine aV8 (dH A (J0 A B)).1 (dH B (J0 A B)).1 (m8 A B).x o1 o2 tm5 hK rfl h5 aOM hx' fun tm6 M2 hK h6 => ?_
 refine (aVY (dH A (J0 A B)).1 (dH B (J0 A B)).1 (m8 A B).x o1 o2 tm6 hK rfl h6 aOM hx').mono ?_
 rintro e s ⟨rfl, tm7, M3, rfl, h7⟩
 refine aPQ fun hn => ?_
 have := aO.leave (os2 := [C8 (dH A (J0 A B)).1, C8 (dH B (J0 A B)).1, C8 (m8 A B).x, o1, o2]) h7 hf0
 rw [Nat.min_eq_left hn] at this
 exact this
end Go.Proofs.YtlbjplpehkgcdaaGreatDoor
namespace Go.Proofs.YtlbjplpehkgcdaaGreatDoor
open Go Go.Am Go.Pm
def K9 (va vb : PV) (g : Nat) (vo : PV) : Pm.Obj := .row .rw 0 [va, vb, .fn g [] [], vo]
theorem dF.len {M : c7} {v : PV} {l : List d6} (h : dF M v l) : gB v = some (iv (l.length : Nat)) := by
 cases h with
 | nil e => rfl
 | row hM hw => rfl
structure SwO (M0 M : c7) (k g : Nat) (va vb vo : PV) (A B ro : List d6) : Prop where
 swp : aO k M0 (seg M k [K9 va vb g vo]) k g A B ro
 la : dJ M va A
 lb : dJ M vb B
 lo : dF M vo ro
 ka : A1 va ≠ some k
 kb : A1 vb ≠ some k
 ko : A1 vo ≠ some k
 kn : ∀ j, A1 vo = some j -> k <= j /\ fresh M0 j
 sub : Pm.Sub M0 M
theorem aO.own {M0 M : c7} {k g : Nat} {A B ro : List d6} (h : aO k M0 M k g A B ro) : ∃ va vb vo, O6 M (seg M k [K9 va vb g vo]) /\ SwO M0 M k g va vb vo A B ro := by
 obtain ⟨va, vb, vo, h1, h2, h3, h4, ⟨n1, n2, n3⟩, h6, h7, h8⟩ := h.vals
 have key : ∀ {v : PV}, A1 v ≠ some k -> ∀ k' i, A1 v = some k' -> M k' i ≠ none -> seg M k [K9 va vb g vo] k' i = M k' i := fun {v} hv k' i e _ => g6 _ _ _ fun e' => hv (by rw [e, e'])
 refine ⟨va, vb, vo, fun j i o e => ?_, ⟨⟨fun j i o e => ?_, h.new, va, vb, vo, by rw [e8]; rfl, h2.frame (key n1), h3.frame (key n2), h4.frame (key n3), ⟨n1, n2, n3⟩, h6, h7, h8⟩, h2, h3, h4, n1, n2, n3, fun j e => ⟨h8 j e, h6.2.2 j e⟩, h.sub⟩⟩
 ·by_cases hj : j = k
  ·subst hj
   rw [e8] at e
   cases i with
   | zero =>
    have e' : some (K9 va vb g vo) = some o := e
    exact ⟨_, h1, by cases e'; exact .refl _⟩
   | succ i => cases e
  ·rw [g6 _ _ _ hj] at e
   exact ⟨o, e, .refl _⟩
 ·by_cases hj : j = k
  ·subst hj; rw [h.new i] at e; cases e
  ·rw [g6 _ _ _ hj]; exact h.sub _ _ _ e
theorem aKB (keep : Bool -> Bool -> Bool) {a b ro : List d6} (hro : OkR ro) (hba : aZ ro a) (hbb : aZ ro b) (ha : Y3 a) (hb : Y3 b) (hne : a ≠ [] \/ b ≠ []) :
  let a' := I8 a (m8 a b).ia (m8 a b).x.to
  let b' := I8 b (m8 a b).ib (m8 a b).x.to
  let ro' := if keep (m8 a b).ia (m8 a b).ib then M6 ro (m8 a b).x else ro
  OkR ro' /\ aZ ro' a' /\ aZ ro' b' /\ Y3 a' /\ Y3 b' /\ jB a' + jB b' < jB a + jB b /\ a'.length <= a.length /\ b'.length <= b.length := by
 obtain ⟨hx, hor, sa, sb, _⟩ := jZ ha hb hne
 intro a' b' ro'
 have hx' := hx
 unfold M8 at hx'
 obtain ⟨ka1, ka2, ka3, ka4⟩ := sa.ok (by omega) ha
 obtain ⟨kb1, kb2, kb3, kb4⟩ := sb.ok (by omega) hb
 have hbx : aHI ro (m8 a b).x := by
  cases hia : (m8 a b).ia with
  | true => rw [hia] at sa; exact jP hba sa
  | false => cases hib : (m8 a b).ib with
   | true => rw [hib] at sb; exact jP hbb sb
   | false => rw [hia, hib] at hor; cases hor
 obtain ⟨q1, q2, p, r, q3, q4, q5⟩ := wD hro hx hbx
 have hro' : OkR ro' /\ aZ ro' a' /\ aZ ro' b' := by
  show OkR (if keep (m8 a b).ia (m8 a b).ib then M6 ro (m8 a b).x else ro) /\ aZ (if keep (m8 a b).ia (m8 a b).ib then M6 ro (m8 a b).x else ro) a' /\ aZ (if keep (m8 a b).ia (m8 a b).ib then M6 ro (m8 a b).x else ro) b'
  cases hkk : keep (m8 a b).ia (m8 a b).ib with
  | true => rw [if_pos rfl]; exact ⟨q1, aV q3 q4 q5 ka2, aV q3 q4 q5 kb2⟩
  | false => rw [if_neg (by decide)]; exact ⟨hro, Q8 hba (by omega) sa, Q8 hbb (by omega) sb⟩
 refine ⟨hro'.1, hro'.2.1, hro'.2.2, ka1, kb1, ?_, kO sa, kO sb⟩
 cases hia : (m8 a b).ia <;> cases hib : (m8 a b).ib <;> simp [hia, hib] at hor ka3 kb3 <;> simp [a', b', hia, hib] <;> omega
theorem mI (keep : Bool -> Bool -> Bool) : ∀ (k : Nat) (a b ro : List d6), ro.length <= (L1 keep k a b ro).length
 | 0, _, _, _ => Nat.le_refl _
 | k + 1, a, b, ro => by
  unfold L1
  by_cases h0 : a.length + b.length = 0
  ·rw [if_pos h0]; exact Nat.le_refl _
  ·rw [if_neg h0]
   dsimp only
   refine Nat.le_trans ?_ (mI keep k _ _ _)
   split
   ·have l3 := sJ ro (m8 a b).x
    have : eW ro (m8 a b).x <= 1 := by unfold eW; split <;> (try split) <;> omega
    omega
   ·exact Nat.le_refl _
theorem aU2 (keep : Bool -> Bool -> Bool) {g : Nat} (hg : ∀ x y, A0 env Tryz.prog g [bv x, bv y] (bv (keep x y))) {M0 : c7} {k : Nat} {Q : f7 -> d9 -> Prop} (R : List d6)
  (q : ∀ tm M va vb vo, c8 tm 8 = .ptr k 0 0 -> SwO M0 M k g va vb vo [] [] R -> Q (.exit 0) ⟨tm, 48, k, [K9 va vb g vo], M⟩) (hR : R.length <= 1000000) :
  ∀ d A B ro M va vb vo tm, c8 tm 8 = .ptr k 0 0 -> SwO M0 M k g va vb vo A B ro -> L1 keep d A B ro = R -> jB A + jB B < d -> OkR ro -> aZ ro A -> aZ ro B -> Y3 A -> Y3 B -> A.length <= 4000 -> B.length <= 4000 →
  w7 env Tryz.prog none aED ⟨tm, 48, k, [K9 va vb g vo], M⟩ Q := by
 intro d
 induction d with
 | zero => intro A B ro M va vb vo tm _ _ _ h; omega
 | succ d ih =>
  intro A B ro M va vb vo tm t8 hS hd hlt hro hba hbb hA hB hla hlb
  have lA := hS.la.len
  have lB := hS.lb.len
  have hw : IntKind.i64.wrap ((A.length : Nat) + (B.length : Nat) : Int) = ((A.length + B.length : Nat) : Int) := by rw [f9 (by omega) (by omega)]; omega
  unfold L1 at hd
  by_cases h0 : A.length + B.length = 0
  ·rw [if_pos h0] at hd
   subst hd
   have e1 : A = [] := List.length_eq_zero_iff.1 (by omega)
   have e2 : B = [] := List.length_eq_zero_iff.1 (by omega)
   have hgt : ¬ (((A.length + B.length : Nat) : Int) > 0) := by omega
   refine w7.round (RX.of a6 ?_)
   simp only [G0, Z1, Z2, Z3, Z4, Z5, t8, lA, lB, hw, hgt, decide_false, K9]
   subst e1 e2
   exact q _ _ _ _ _ t8 hS
  ·rw [if_neg h0] at hd
   have hgt : ((A.length + B.length : Nat) : Int) > 0 := by omega
   have hne : A ≠ [] \/ B ≠ [] := by
    cases A with
    | nil => cases B with
     | nil => simp at h0
     | cons y s => exact .inr (by simp)
    | cons x r => exact .inl (by simp)
   have hl1 : ro.length <= 1000000 := by
    refine Nat.le_trans ?_ hR
    rw [<- hd]
    refine Nat.le_trans ?_ (mI keep d _ _ _)
    split
    ·have l3 := sJ ro (m8 A B).x
     have : eW ro (m8 A B).x <= 1 := by unfold eW; split <;> (try split) <;> omega
     omega
    ·exact Nat.le_refl _
   have hp1 : ∀ p r, ro = p :: r -> 0 <= p.to /\ p.to <= 4000000000 := fun p r e => by
    subst e
    have := hro.1
    unfold M8 at this
    omega
   obtain ⟨i1, i2, i3, i4, i5, i6, i7, i8⟩ := aKB keep hro hba hbb hA hB hne
   have hst := aQ6 keep hg hS.swp hA hB hne hl1 hp1
   refine w7.round (RX.of a6 ?_)
   simp only [G0, Z1, Z2, Z3, Z4, Z5, t8, lA, lB, hw, hgt, decide_true, K9]
   refine cmk (first := []) (cap := []) (hst.mono ?_)
   intro nk x M1 hn hlt'
   obtain ⟨va', vb', vo', hle, hS'⟩ := (hn (by omega)).own
   refine ⟨[K9 va' vb' g vo'], M1, rfl, hle, by decide, ?_⟩
   simp only [G0, Z1, Z2, Z3, Z4, Z5]
   exact ih _ _ _ M1 va' vb' vo' _ t8 hS' hd (by omega) i1 i2 i3 i4 i5 (by omega) (by omega)
end Go.Proofs.YtlbjplpehkgcdaaGreatDoor
namespace Go.Proofs.YtlbjplpehkgcdaaGreatDoor
open Go Go.Am Go.Pm
theorem aG1 {M : c7} {v : PV} {l : List d6} {k : Nat} (h : dJ M v l) (hk : A1 v ≠ some k) : NK k v := by
 cases h with
 | nil e => exact .lst (fun _ e => by cases e) .nil
 | row hM hj hc => exact .sl fun e => hk (by subst e; rfl)
theorem aXA {M : c7} {v : PV} {l : List d6} {k : Nat} (h : dF M v l) (hk : A1 v ≠ some k) : NK k v := by
 cases h with
 | nil e => exact .lst (fun _ e => by cases e) .nil
 | row hM hw => exact .sl fun e => hk (by subst e; rfl)
theorem aHD (k : Nat) (l : List d6) : jM k (l.flatMap c9) := by
 induction l with
 | nil => exact .nil
 | cons x l ih => exact .cons (.v _) (.cons (.v _) (.cons (.v _) ih))
theorem aG5 {M0 M : c7} {k g : Nat} {va vb vo : PV} {ro : List d6} (hf : fresh M0 k) (h : SwO M0 M k g va vb vo [] [] ro) (r : PV) (z : PV) (hz : jM k [z] /\ ∀ j, NK j z) (hr : r = vo) :
  ∃ k' j es w cells y, k <= k' /\ O6 (seg M k [K9 va vb g vo]) (l7 M0 k' j (.row w es cells)) /\ jM k' cells /\ FZ k' j es cells (.tup [r, z]) y /\ J6 y (.tup [d8 ro.reverse, z]) /\ M0 = M0 := by
 subst hr
 have hrow : O6 (seg M k [K9 va vb g r]) (l7 M0 k 0 (K9 va vb g r)) := fun a j o e => by
  by_cases hk' : a = k /\ j = 0
  ·obtain ⟨rfl, rfl⟩ := hk'
   rw [y8] at e
   cases e
   exact ⟨_, by rw [e8]; rfl, .refl _⟩
  ·rw [D8 hk'] at e
   have hak : a ≠ k := fun e' => by subst e'; rw [hf j] at e; cases e
   exact ⟨o, by rw [g6 _ _ _ hak]; exact h.sub _ _ _ e, .refl _⟩
 have hnk := h.lo
 cases hnk with
 | nil e =>
  refine ⟨k, 0, 0, .rw, [va, vb, .fn g [] [], .lst .full e 0 []], .tup [.lst .full e 0 [], z], Nat.le_refl _, hrow, ?_, ?_, ?_, rfl⟩
  ·exact .cons (aG1 h.la h.ka) (.cons (aG1 h.lb h.kb) (.cons (.fn .nil .nil) (.cons (.lst (fun _ e => by cases e) .nil) .nil)))
  ·exact .keep (.tup (.cons (.lst (fun _ e => by cases e) .nil) hz.1))
  ·exact J6.tup (.cons (J6.nil_no .full e 3 rfl) (.cons (.refl _) .nil))
 | @row k1 i1 w p ro hM hw =>
  have hk1 := h.kn k1 rfl
  have hne : k1 ≠ k := fun e => h.ko (by subst e; rfl)
  refine ⟨k1, i1, 3, w, (p :: ro).reverse.flatMap c9, .tup [.lst .no 3 (ro.length + 1) (((p :: ro).reverse.flatMap c9).take ((ro.length + 1) * 3)), z], hk1.1, fun a j o e => ?_, aHD _ _, ?_, ?_, rfl⟩
  ·by_cases hk' : a = k1 /\ j = i1
   ·obtain ⟨rfl, rfl⟩ := hk'
    rw [y8] at e
    cases e
    exact ⟨_, by rw [g6 _ _ _ hne]; exact hM, .refl _⟩
   ·rw [D8 hk'] at e
    have hak : a ≠ k := fun e' => by subst e'; rw [hf j] at e; cases e
    exact ⟨o, by rw [g6 _ _ _ hak]; exact h.sub _ _ _ e, .refl _⟩
  ·have hcap := bT (n := ro.length + 1) (es := 3) (by decide)
   refine .tup (.cons (.here ?_ (by rw [hcap.1]; exact Nat.le_refl _) (.inr hcap.2.2)) (.cons (.keep (hz.2 _)) .nil))
   rw [eQ, List.length_reverse, List.length_cons]
   exact Nat.le_refl _
  ·rw [List.take_of_length_le (by rw [eQ, List.length_reverse, List.length_cons]; exact Nat.le_refl _)]
   have : d8 (p :: ro).reverse = .lst .no 3 (ro.length + 1) ((p :: ro).reverse.flatMap c9) := by
    unfold d8; rw [List.length_reverse, List.length_cons]
   rw [this]
   exact .refl _
theorem aCW {M0 M : c7} {k g : Nat} {va vb vo : PV} {ro : List d6} (hf : fresh M0 k) (h : SwO M0 M k g va vb vo [] [] ro) (z : PV) (hz : jM k [z]) :
  ∃ k' j es w cells y, k <= k' /\ O6 (seg M k [K9 va vb g vo]) (l7 M0 k' j (.row w es cells)) /\ jM k' cells /\ FZ k' j es cells (.tup [.lst .full 0 0 [], z]) y /\ J6 y (.tup [d8 [], z]) /\ M0 = M0 := by
 refine ⟨k, 0, 0, .rw, [va, vb, .fn g [] [], vo], .tup [.lst .full 0 0 [], z], Nat.le_refl _, fun a j o e => ?_, ?_, ?_, ?_, rfl⟩
 ·by_cases hk' : a = k /\ j = 0
  ·obtain ⟨rfl, rfl⟩ := hk'
   rw [y8] at e
   cases e
   exact ⟨_, by rw [e8]; rfl, .refl _⟩
  ·rw [D8 hk'] at e
   have hak : a ≠ k := fun e' => by subst e'; rw [hf j] at e; cases e
   exact ⟨o, by rw [g6 _ _ _ hak]; exact h.sub _ _ _ e, .refl _⟩
 ·exact .cons (aG1 h.la h.ka) (.cons (aG1 h.lb h.kb) (.cons (.fn .nil .nil) (.cons (aXA h.lo h.ko) .nil)))
 ·exact .keep (.tup (.cons (.lst (fun _ e => by cases e) .nil) hz))
 ·exact J6.tup (.cons (J6.nil_no .full 0 3 rfl) (.cons (.refl _) .nil))
def xL (keep : Bool -> Bool -> Bool) (a b : List d6) : PV :=
 if q9 a && q9 b then (if (B5 keep a b).length <= 4000 then .tup [d8 (B5 keep a b), iv 0] else .tup [d8 [], iv 8]) else .tup [d8 [], iv 2]
theorem rT {l : List d6} (h : q9 l = true) : A0 env Tryz.prog 88 [d8 l] (iv 0) := by
 have := W4 l
 rw [h] at this
 exact this
theorem aER {l : List d6} (h : q9 l = false) : A0 env Tryz.prog 88 [d8 l] (iv 2) := by
 have := W4 l
 rw [h] at this
 exact this
theorem uA (g : Nat) {a b : List d6} (h : (q9 a && q9 b) = false) : A0 env Tryz.prog 103 [d8 a, d8 b, .fn g [] []] (.tup [d8 [], iv 2]) := by
 refine A0.weak (v := .tup [.lst .full 0 0 [], iv 2]) (fun M => ?_) (J6.tup (.cons (J6.nil_no .full 0 3 rfl) (.cons (.refl _) .nil)))
 refine PT.enterR a6 aSZ (by simp) aFI fun k hk hf => RX.of a6 ?_
 have e0 : ((0 : Int) != 0) = false := by decide
 have e2 : ((2 : Int) != 0) = true := by decide
 simp only [G0, Z1, Z2, Z3, Z4, Z5, f8]
 cases ha : q9 a with
 | false =>
  refine H7 (aER ha) (by decide) ?_
  simp only [G0, Z1, Z2, Z3, Z4, Z5, e2, Bool.not_true]
  exact qH hf rfl rfl ⟨rfl, rfl⟩
 | true =>
  have hb : q9 b = false := by rw [ha] at h; exact h
  refine H7 (rT ha) (by decide) ?_
  simp only [G0, Z1, Z2, Z3, Z4, Z5, e0, Bool.not_false, m9]
  refine H7 (aER hb) (by decide) ?_
  simp only [G0, Z1, Z2, Z3, Z4, Z5, e2, Bool.not_false, m9]
  exact qH hf rfl rfl ⟨rfl, rfl⟩
theorem aMA (keep : Bool -> Bool -> Bool) {g : Nat} (hg : ∀ x y, A0 env Tryz.prog g [bv x, bv y] (bv (keep x y))) {a b : List d6} (ha : q9 a = true) (hb : q9 b = true) (hlen : (B5 keep a b).length <= 1000000) :
  A0 env Tryz.prog 103 [d8 a, d8 b, .fn g [] []] (if (B5 keep a b).length <= 4000 then .tup [d8 (B5 keep a b), iv 0] else .tup [d8 [], iv 8]) := fun M => by
 obtain ⟨la, oa⟩ := H2.1 ha
 obtain ⟨lb, ob⟩ := H2.1 hb
 refine PT.conseq (R := fun y M1 => J6 y (if (B5 keep a b).length <= 4000 then .tup [d8 (B5 keep a b), iv 0] else .tup [d8 [], iv 8]) /\ M1 = M) (PT.freeze ?_) fun x M1 ⟨e1, e2⟩ => ⟨_, M1, e1, .refl _, rfl, e2⟩
 refine kW.enterR a6 aSZ (by simp) aFI fun k hk hf => RX.of a6 ?_
 have e0 : ((0 : Int) != 0) = false := by decide
 simp only [G0, Z1, Z2, Z3, Z4, Z5, f8]
 refine H7 (rT ha) (by decide) ?_
 simp only [G0, Z1, Z2, Z3, Z4, Z5, e0, Bool.not_false, m9]
 refine H7 (rT hb) (by decide) ?_
 simp only [G0, Z1, Z2, Z3, Z4, Z5, e0, Bool.not_false, m9]
 refine cmk (first := []) (cap := []) ?_
 rw [aN hf]
 refine (uW a (by omega) M).mono ?_
 rintro nk va M1 ⟨hva, hm1⟩ hlt
 have hf1 : fresh M1 k := by
  rcases hm1 with ⟨rfl, -⟩ | ⟨k1, os1, h1, h2, h3, rfl⟩
  ·exact hf
  ·exact N9 hf (by omega)
 have hs1 : Pm.Sub M M1 := by
  rcases hm1 with ⟨rfl, -⟩ | ⟨k1, os1, h1, h2, h3, rfl⟩
  ·exact Pm.Sub.refl _
  ·exact Pm.Sub.seg h2
 have hk1 : ∀ j, A1 va = some j -> fresh M j := by
  rcases hm1 with ⟨rfl, h⟩ | ⟨k1, os1, h1, h2, h3, rfl⟩
  ·intro j e; rw [h] at e; cases e
  ·intro j e; rw [h3] at e; cases e; exact h2
 refine ⟨[], M1, rfl, O6.seg_nil' _ _, by decide, ?_⟩
 simp only [G0, Z1, Z2, Z3, Z4, Z5]
 refine cmk (first := []) (cap := []) ?_
 rw [aN hf1]
 refine (uW b (by omega) M1).mono ?_
 rintro nk2 vb M2 ⟨hvb, hm2⟩ hlt2
 have hf2 : fresh M2 k := by
  rcases hm2 with ⟨rfl, -⟩ | ⟨k1, os1, h1, h2, h3, rfl⟩
  ·exact hf1
  ·exact N9 hf1 (by omega)
 have hs2 : Pm.Sub M1 M2 := by
  rcases hm2 with ⟨rfl, -⟩ | ⟨k1, os1, h1, h2, h3, rfl⟩
  ·exact Pm.Sub.refl _
  ·exact Pm.Sub.seg h2
 have hk2 : ∀ j, A1 vb = some j -> fresh M1 j := by
  rcases hm2 with ⟨rfl, h⟩ | ⟨k1, os1, h1, h2, h3, rfl⟩
  ·intro j e; rw [h] at e; cases e
  ·intro j e; rw [h3] at e; cases e; exact h2
 refine ⟨[], M2, rfl, O6.seg_nil' _ _, by decide, ?_⟩
 have hva2 : dJ M2 va a := hva.sub hs2
 have hfill : zI [(0, 1), (1, 1), (2, 1), (3, 1)] [.lst .full 0 0 [], .lst .full 0 0 [], .v .nilFunc, .lst .full 0 0 []] va [(1, vb), (2, .fn g [] [])] (some (0, 1)) = some [va, vb, .fn g [] [], .lst .full 0 0 []] := by
  cases hva2 <;> cases hvb <;> rfl
 have hnil : ∀ j, A1 (.lst .full 0 0 []) ≠ some j := fun j e => by cases e
 have hS0 : aO k M (seg M2 k [K9 va vb g (.lst .full 0 0 [])]) k g a b [] := by
  have na : A1 va ≠ some k := hva.key hf1
  have nb : A1 vb ≠ some k := hvb.key hf2
  refine ⟨fun j i o e => ?_, hf, va, vb, .lst .full 0 0 [], by rw [e8]; rfl, ?_, ?_, .nil 0, ⟨na, nb, hnil _⟩, ⟨hk1, fun j e => G7 hs1 (hk2 j e), fun j e => absurd e (hnil j)⟩, ⟨fun j e e' => ?_, fun j _ => hnil j, fun j _ => hnil j⟩, fun j e => absurd e (hnil j)⟩
  ·have hj : j ≠ k := fun e' => by subst e'; rw [hf i] at e; cases e
   rw [g6 _ _ _ hj]; exact hs2 _ _ _ (hs1 _ _ _ e)
  ·exact hva2.frame fun k' i e _ => g6 _ _ _ fun e' => na (by rw [e, e'])
  ·exact hvb.frame fun k' i e _ => g6 _ _ _ fun e' => nb (by rw [e, e'])
  ·exact hva.key (hk2 j e') e
 have hO : SwO M M2 k g va vb (.lst .full 0 0 []) a b [] := ⟨hS0, hva2, hvb, .nil 0, hva.key hf1, hvb.key hf2, hnil k, fun j e => absurd e (hnil j), hs1.trans hs2⟩
 simp only [G0, Z1, Z2, Z3, Z4, Z5, hfill]
 refine RX.loop (aU2 keep hg (L1 keep (jB a + jB b + 1) a b []) (fun tm M3 va' vb' vo' t8 hS => ?_) (by unfold B5 at hlen; rw [List.length_reverse] at hlen; exact hlen) (jB a + jB b + 1) a b [] M2 va vb (.lst .full 0 0 []) _ rfl hO rfl (Nat.lt_succ_self _) trivial trivial trivial oa ob la lb)
 have lo := hS.lo.len
 have hz : ∀ (n : Int), jM k [iv n] /\ ∀ j, NK j (iv n) := fun n => ⟨.cons (.v _) .nil, fun j => .v _⟩
 have hrl : (B5 keep a b).length = (L1 keep (jB a + jB b + 1) a b []).length := by unfold B5; rw [List.length_reverse]
 by_cases hgt : (B5 keep a b).length <= 4000
 ·have hb2 : ¬ (((L1 keep (jB a + jB b + 1) a b []).length : Int) > 4000) := by omega
  rw [if_pos hgt]
  simp only [G0, Z1, Z2, Z3, Z4, Z5, t8, lo, hb2, decide_false, K9]
  obtain ⟨k', j, es, w, cells, y, q1, q2, q3, q4, q5, q6⟩ := aG5 hf hS vo' (iv 0) (hz 0) rfl
  exact ⟨.inr rfl, [_, _], _, rfl, O6.refl _, k', j, es, w, cells, y, q1, q2, q3, q4, q5, trivial⟩
 ·have hb2 : ((L1 keep (jB a + jB b + 1) a b []).length : Int) > 4000 := by omega
  rw [if_neg hgt]
  simp only [G0, Z1, Z2, Z3, Z4, Z5, t8, lo, hb2, decide_true, K9]
  obtain ⟨k', j, es, w, cells, y, q1, q2, q3, q4, q5, q6⟩ := aCW hf hS (iv 8) (hz 8).1
  exact ⟨.inr rfl, [_, _], _, rfl, O6.refl _, k', j, es, w, cells, y, q1, q2, q3, q4, q5, trivial⟩
theorem aJI (keep : Bool -> Bool -> Bool) {g : Nat} (hg : ∀ x y, A0 env Tryz.prog g [bv x, bv y] (bv (keep x y))) {a b : List d6} (hlen : q9 a = true -> q9 b = true -> (B5 keep a b).length <= 1000000) :
  A0 env Tryz.prog 103 [d8 a, d8 b, .fn g [] []] (xL keep a b) := by
 unfold xL
 cases ha : q9 a with
 | false => exact uA g (by rw [ha]; rfl)
 | true =>
  cases hb : q9 b with
  | false => exact uA g (by rw [ha, hb]; rfl)
  | true => exact aMA keep hg ha hb (hlen ha hb)
end Go.Proofs.YtlbjplpehkgcdaaGreatDoor
namespace Go.Proofs.YtlbjplpehkgcdaaGreatDoor
open Go Go.Am Go.Pm
def andNot (x y : Bool) : Bool := x && !y
theorem aT8 (x y : Bool) : A0 env Tryz.prog 104 [bv x, bv y] (bv (andNot x y)) := fun M => by
 refine PT.enterR a6 aY3 (by simp) aPU fun k hk hf => RX.of a6 ?_
 cases x with
 | true =>
  simp only [G0, Z1, Z2, Z3, Z4, Z5, f8, Bool.not_true, Bool.not_false, m9, o8]
  exact m6 hf rfl ⟨rfl, rfl⟩
 | false =>
  simp only [G0, Z1, Z2, Z3, Z4, Z5, f8, Bool.not_true, Bool.not_false, m9, o8]
  exact m6 hf rfl ⟨rfl, rfl⟩
def kP (keep : Bool -> Bool -> Bool) (a b : List d6) : List d6 × Int :=
 if q9 a && q9 b then (if (B5 keep a b).length <= 4000 then (B5 keep a b, 0) else ([], 8)) else ([], 2)
theorem aID (keep : Bool -> Bool -> Bool) (a b : List d6) : xL keep a b = .tup [d8 (kP keep a b).1, iv (kP keep a b).2] := by
 unfold xL kP
 split
 ·split <;> rfl
 ·rfl
theorem aJE (a b : List d6) : A0 env Tryz.prog 81 [d8 a, d8 b] (.tup [d8 (kP andNot a b).1, iv (kP andNot a b).2]) := fun M => by
 refine PT.enterR a6 bEV (by simp) aW2 fun k hk hf => RX.of a6 ?_
 simp only [G0, Z1, Z2, Z3, Z4, Z5, f8]
 refine H7 (aJI andNot aT8 fun ha hb => ?_) (by decide) ?_
 ·have := aDF (H2.1 ha).2 (H2.1 hb).2
  have h1 := (H2.1 ha).1
  have h2 := (H2.1 hb).1
  have e : B5 andNot a b = B5 (fun x y => x && !y) a b := rfl
  rw [e]; omega
 rw [aID]
 simp only [G0, Z1, Z2, Z3, Z4, Z5]
 exact qH hf rfl rfl ⟨rfl, rfl⟩
def fH (a b : List d6) : Bool := (kP andNot a b).2 == 0 && ((kP andNot a b).1.length : Int) == 0
theorem aH1 (a b : List d6) : A0 env Tryz.prog 52 [d8 a, d8 b] (bv (fH a b)) := fun M => by
 refine PT.enterR a6 bEP (by simp) aVB fun k hk hf => RX.of a6 ?_
 simp only [G0, Z1, Z2, Z3, Z4, Z5, f8]
 refine H7 (aJE a b) (by decide) ?_
 unfold fH
 generalize kP andNot a b = q
 simp only [G0, Z1, Z2, Z3, Z4, Z5, d8]
 exact m6 hf rfl ⟨rfl, rfl⟩
end Go.Proofs.YtlbjplpehkgcdaaGreatDoor
namespace Go.Proofs.YtlbjplpehkgcdaaGreatDoor
open Go Go.Am Go.Pm
def tK (p : d6 -> Bool) : Nat -> List d6 -> Int
 | _, [] => -1
 | i, x :: r => if p x then i else tK p (i + 1) r
theorem yT (p : d6 -> Bool) : ∀ (l : List d6) (i : Nat), decide (tK p i l >= 0) = l.any p
 | [], i => rfl
 | x :: r, i => by
  unfold tK
  cases h : p x with
  | true => rw [if_pos rfl, List.any_cons, h]; simp
  | false => rw [if_neg (by decide), List.any_cons, h, Bool.false_or]; exact yT p r (i + 1)
theorem aU1 (l : List d6) (hl : l.length <= 4000) (M0 M : c7) (k : Nat) (Q : f7 -> d9 -> Prop) (g : Nat) (first cap : List PV) (p : d6 -> Bool) (hM : Sub M0 (seg M k []))
  (hp : ∀ x, T1 env Tryz.prog M0 g (first ++ ([.agg [iv x.node, iv x.frm, iv x.to]] ++ cap)) (bv (p x)))
  (q1 : ∀ tm, tK p 0 l = -1 -> Q (.exit 0) ⟨tm, 19, k, [], M⟩) (q2 : ∀ tm, c8 tm 4 = iv (tK p 0 l) -> Q .ret ⟨tm, 19, k, [], M⟩) :
  ∀ d i tm, l.length - i = d -> i <= l.length -> tK p 0 l = tK p i (l.drop i) -> c8 tm 0 = d8 l -> c8 tm 1 = .fn g first cap -> c8 tm 6 = d8 l -> c8 tm 7 = iv l.length -> c8 tm 8 = iv i →
  w7 env Tryz.prog none aGV ⟨tm, 19, k, [], M⟩ Q := by
 intro d
 induction d with
 | zero =>
  intro i tm hd hi hp t0 t1 t6 t7 t8
  have : i = l.length := by omega
  subst this
  refine w7.round (RX.of a6 ?_)
  simp only [G0, Z1, Z2, Z3, Z4, Z5, t7, t8, Int.lt_irrefl, decide_false]
  exact q1 _ (by rw [hp, List.drop_of_length_le (Nat.le_refl _)]; rfl)
 | succ d ih =>
  intro i tm hd hi hpi t0 t1 t6 t7 t8
  have hi' : i < l.length := by omega
  have hii : (i : Int) < l.length := by omega
  obtain ⟨x, hx, hdx⟩ := K2 hi'
  have hlx := lY hx
  have hw : IntKind.i64.wrap ((i : Int) + 1) = ((i + 1 : Nat) : Int) := by rw [f9 (by omega) (by omega)]; rfl
  rw [hdx] at hpi
  have hun : tK p i (x :: l.drop (i + 1)) = if p x then (i : Int) else tK p (i + 1) (l.drop (i + 1)) := rfl
  rw [hun] at hpi
  refine w7.round (RX.of a6 ?_)
  simp only [G0, Z1, Z2, Z3, Z4, Z5, t0, t1, t6, t7, t8, d8, hii, decide_true, hi', hlx]
  refine cs (hp x) hM (by decide) ?_
  cases h : p x with
  | true =>
   rw [h, if_pos rfl] at hpi
   simp only [G0, Z1, Z2, Z3, Z4, Z5]
   exact q2 _ (by rw [hpi]; rfl)
  | false =>
   rw [h, if_neg (by decide)] at hpi
   simp only [G0, Z1, Z2, Z3, Z4, Z5, t8, hw]
   exact ih (i + 1) _ (by omega) (by omega) hpi t0 t1 t6 t7 rfl
theorem aNA (l : List d6) (hl : l.length <= 4000) (M0 : c7) (g : Nat) (first cap : List PV) (p : d6 -> Bool) (hp : ∀ x, T1 env Tryz.prog M0 g (first ++ ([.agg [iv x.node, iv x.frm, iv x.to]] ++ cap)) (bv (p x))) :
  T1 env Tryz.prog M0 110 [d8 l, .fn g first cap] (iv (tK p 0 l)) := by
 refine T1.enter a6 aZC (by simp) aRU fun M k hs hk hf => ?_
 simp only [G0, Z1, Z2, Z3, Z4, Z5, f8, d8]
 refine RX.loop (aU1 l hl M0 M k _ g first cap p (hs.sseg hf) hp ?_ ?_ l.length 0 _ rfl (Nat.zero_le _) rfl rfl rfl rfl rfl rfl)
 ·intro tm h
  simp only [G0, Z1, Z2, Z3, Z4, Z5]
  exact m6 hf rfl ⟨by rw [h]; rfl, rfl⟩
 ·intro tm h
  simp only [G0, Z1, Z2, Z3, Z4, Z5]
  exact m6 hf h ⟨rfl, rfl⟩
theorem yP (l : List d6) (hl : l.length <= 4000) (M0 : c7) (g : Nat) (first cap : List PV) (p : d6 -> Bool) (hp : ∀ x, T1 env Tryz.prog M0 g (first ++ ([.agg [iv x.node, iv x.frm, iv x.to]] ++ cap)) (bv (p x))) :
  T1 env Tryz.prog M0 89 [d8 l, .fn g first cap] (bv (l.any p)) := by
 refine T1.enter a6 bEF (by simp) aYZ fun M k hs hk hf => ?_
 simp only [G0, Z1, Z2, Z3, Z4, Z5, f8]
 refine sL (aNA l hl M0 g first cap p hp) (hs.sseg hf) (by decide) ?_
 simp only [G0, Z1, Z2, Z3, Z4, Z5]
 refine m6 hf rfl ⟨?_, rfl⟩
 rw [<- yT p l 0]; rfl
theorem bBI (n s : Int) {M0 : c7} {a i : Nat} {w : Wm} (hM : M0 a i = some (.row w 0 [iv n, iv s])) (x : d6) : T1 env Tryz.prog M0 90 [.agg [iv x.node, iv x.frm, iv x.to], .ptr a i 0] (bv (gJ x n s)) := by
 refine T1.enter a6 bDC (by simp) aXR fun M k hs hk hf => ?_
 have hM' := hs _ _ _ hM
 have hld : ∀ {ag : Bool} {n o : Nat} {os : List Pm.Obj}, y6 k os M ag n (.ptr a i o) = p9 ag n o (M a i) := o9 (I6 hf hM')
 simp only [G0, Z1, Z2, Z3, Z4, Z5, f8, hld, hM']
 refine m6 hf rfl ⟨?_, rfl⟩
 show bv _ = bv (gJ x n s)
 unfold gJ
 rw [Bool.and_assoc]
def aR8 (l : List d6) (n s : Int) : Bool := q9 l && F7 l n s
theorem aVU (l : List d6) (n s : Int) : A0 env Tryz.prog 55 [d8 l, .agg [iv n, iv s]] (bv (aR8 l n s)) := fun M => by
 refine PT.enterR a6 bE4 (by simp) aT5 fun k hk hf => RX.of a6 ?_
 simp only [G0, Z1, Z2, Z3, Z4, Z5, f8]
 refine H7 (W4 l) (by decide) ?_
 unfold aR8
 cases h : q9 l with
 | false =>
  simp only [G0, Z1, Z2, Z3, Z4, Z5, D7]
  exact m6 hf rfl ⟨rfl, rfl⟩
 | true =>
  simp only [G0, Z1, Z2, Z3, Z4, Z5, D7, Bool.not_false, m9]
  refine sL (yP l (H2.1 h).1 (seg M k [.row .rw 0 [iv n, iv s]]) 90 [] [.ptr k 0 0] (fun x => gJ x n s) (fun x => bBI n s (w := .rw) (by rw [e8]; rfl) x)) (Pm.Sub.refl _) (by decide) ?_
  simp only [G0, Z1, Z2, Z3, Z4, Z5]
  exact m6 hf rfl ⟨rfl, rfl⟩
end Go.Proofs.YtlbjplpehkgcdaaGreatDoor
namespace Go.Proofs.YtlbjplpehkgcdaaGreatDoor
open Go Go.Am Go.Pm
def n9 (a b : Ev) : Bool := (X3 a && X3 b) && aR8 b.past a.node a.seq
theorem eI (a b : Ev) (ha : a.path.length <= 1000000) (hb : b.path.length <= 1000000) : A0 env Tryz.prog 24 [l8 a, l8 b] (bv (n9 a b)) := fun M => by
 refine PT.enterR a6 bEM (by simp) aWK fun k hk hf => RX.of a6 ?_
 simp only [G0, Z1, Z2, Z3, Z4, Z5, f8, l8, b6, M5, S2]
 refine H7 (Z0 a ha) (by decide) ?_
 unfold n9
 cases h1 : X3 a with
 | false =>
  simp only [G0, Z1, Z2, Z3, Z4, Z5, D7]
  exact m6 hf rfl ⟨rfl, rfl⟩
 | true =>
  simp only [G0, Z1, Z2, Z3, Z4, Z5, D7]
  refine H7 (Z0 b hb) (by decide) ?_
  cases h2 : X3 b with
  | false =>
   simp only [G0, Z1, Z2, Z3, Z4, Z5, D7]
   exact m6 hf rfl ⟨rfl, rfl⟩
  | true =>
   simp only [G0, Z1, Z2, Z3, Z4, Z5, D7]
   refine H7 (aVU b.past a.node a.seq) (by decide) ?_
   simp only [G0, Z1, Z2, Z3, Z4, Z5]
   exact m6 hf rfl ⟨rfl, rfl⟩
def J9 (i : Nat) (a : Ev) (j : Nat) (b : Ev) : Bool := ((j : Int) != (i : Int)) && ((a.node == b.node && a.seq == b.seq) || (n9 a b && !fH a.past b.past))
structure aVO (tm : List (Nat × PV)) (l : List Ev) (i : Nat) : Prop where
 t0 : c8 tm 0 = d4 l
 t7 : c8 tm 7 = d4 l
 t8 : c8 tm 8 = iv l.length
 t9 : c8 tm 9 = iv i
theorem aO8 (l : List Ev) (hl : l.length <= 1000000) (hp : ∀ e ∈ l, e.path.length <= 1000000) (M : c7) (k i : Nat) (a : Ev) (ha : a.path.length <= 1000000) (Q : f7 -> d9 -> Prop)
  (q1 : ∀ tm, (∀ j b, l[j]? = some b -> J9 i a j b = false) -> aVO tm l i -> Q (.exit 2) ⟨tm, 49, k, [.row .rw 0 (b6 a)], M⟩)
  (q2 : ∀ tm, (∃ j b, l[j]? = some b /\ J9 i a j b = true) -> c8 tm 2 = bv false -> Q .ret ⟨tm, 49, k, [.row .rw 0 (b6 a)], M⟩) :
  ∀ d j tm, l.length - j = d -> j <= l.length -> (∀ j' b, j' < j -> l[j']? = some b -> J9 i a j' b = false) -> aVO tm l i -> c8 tm 3 = iv i -> c8 tm 4 = .ptr k 0 0 -> c8 tm 17 = d4 l -> c8 tm 18 = iv l.length -> c8 tm 19 = iv j →
  w7 env Tryz.prog none aL2 ⟨tm, 49, k, [.row .rw 0 (b6 a)], M⟩ Q := by
 intro d
 induction d with
 | zero =>
  intro j tm hd hj hg hK t3 t4 t17 t18 t19
  have : j = l.length := by omega
  subst this
  obtain ⟨t0, t7, t8, t9⟩ := hK
  refine w7.round (RX.of a6 ?_)
  simp only [G0, Z1, Z2, Z3, Z4, Z5, t18, t19, Int.lt_irrefl, decide_false]
  refine q1 _ (fun j' b h => hg j' b ?_ h) ⟨t0, t7, t8, t9⟩
  exact (List.getElem?_eq_some_iff.1 h).1
 | succ d ih =>
  intro j tm hd hj hg hK t3 t4 t17 t18 t19
  have hj' : j < l.length := by omega
  have hjj : (j : Int) < l.length := by omega
  obtain ⟨b, hb, hdx⟩ := K2 hj'
  have hlx := x7 hb
  have hpb := hp b (List.mem_of_getElem? hb)
  have hw : IntKind.i64.wrap ((j : Int) + 1) = ((j + 1 : Nat) : Int) := by rw [f9 (by omega) (by omega)]; rfl
  obtain ⟨t0, t7, t8, t9⟩ := hK
  refine w7.inn fun k' hk1 hk2 hk3 => RX.of a6 ?_
  have hld : ∀ {ag : Bool} {n o : Nat} {os : List Pm.Obj}, y6 k' os (seg M k [.row .rw 0 [iv a.node, iv a.seq, str a.path, iv a.kind, iv a.mode, n7 a.bytes, d8 a.past]]) ag n (.ptr k 0 o) = p9 ag n o (some (.row .rw 0 [iv a.node, iv a.seq, str a.path, iv a.kind, iv a.mode, n7 a.bytes, d8 a.past])) := fun {ag n o os} => by
   rw [o9 (Ne.symm hk1), e8]; rfl
  have hst : w5 7 0 (l8 b) (some (.row .rw 0 [.v (.int .i64 0), .v (.int .i64 0), .v (.string ⟨#[]⟩), .v (.int .i64 0), .v (.int .i64 0), .lst .full 0 0 [], .lst .full 0 0 []])) = some (.row .rw 0 (b6 b)) := p6 (n := 7) (x := l8 b) ⟨rfl, Nat.le_refl 7, rfl⟩
  have good : J9 i a j b = false -> ∀ j' b', j' < j + 1 -> l[j']? = some b' -> J9 i a j' b' = false := fun h j' b' hlt hb' => by
   rcases Nat.lt_succ_iff_lt_or_eq.1 hlt with h1 | h1
   ·exact hg j' b' h1 hb'
   ·subst h1; rw [hb] at hb'; cases hb'; exact h
  cases hji : ((j : Int) != (i : Int)) with
  | false =>
   simp only [G0, Z1, Z2, Z3, Z4, Z5, t3, t4, t17, t18, t19, d4, hjj, decide_true, hj', hlx, hld, hst, b6, M5, S2, hji, hw]
   exact ih (j + 1) _ (by omega) (by omega) (good (by unfold J9; rw [hji]; rfl)) ⟨t0, t7, t8, t9⟩ t3 t4 t17 t18 rfl
  | true =>
   cases hde : (a.node == b.node && a.seq == b.seq) with
   | true =>
    simp only [G0, Z1, Z2, Z3, Z4, Z5, t3, t4, t17, t18, t19, d4, hjj, decide_true, hj', hlx, hld, hst, b6, M5, S2, hji, vI, hde, Bool.not_true, Bool.not_false, m9, o8]
    exact q2 _ ⟨j, b, hb, by unfold J9; rw [hji, hde]; rfl⟩ rfl
   | false =>
    simp only [G0, Z1, Z2, Z3, Z4, Z5, t3, t4, t17, t18, t19, d4, hjj, decide_true, hj', hlx, hld, hst, b6, M5, S2, hji, vI, hde, Bool.not_true, Bool.not_false, m9, o8]
    refine H7 (eI a b ha hpb) (by decide) ?_
    cases hah : n9 a b with
    | false =>
     simp only [G0, Z1, Z2, Z3, Z4, Z5, t19, hw, Bool.not_true, Bool.not_false, m9, o8]
     exact ih (j + 1) _ (by omega) (by omega) (good (by unfold J9; rw [hji, hde, hah]; rfl)) ⟨t0, t7, t8, t9⟩ t3 t4 t17 t18 rfl
    | true =>
     simp only [G0, Z1, Z2, Z3, Z4, Z5, t3, t4, t17, t18, t19, hld, Bool.not_true, Bool.not_false, m9, o8]
     refine H7 (aH1 a.past b.past) (by decide) ?_
     cases hwi : fH a.past b.past with
     | true =>
      simp only [G0, Z1, Z2, Z3, Z4, Z5, t19, hw, Bool.not_true, Bool.not_false, m9, o8]
      exact ih (j + 1) _ (by omega) (by omega) (good (by unfold J9; rw [hji, hde, hah, hwi]; rfl)) ⟨t0, t7, t8, t9⟩ t3 t4 t17 t18 rfl
     | false =>
      simp only [G0, Z1, Z2, Z3, Z4, Z5, Bool.not_true, Bool.not_false, m9, o8]
      exact q2 _ ⟨j, b, hb, by unfold J9; rw [hji, hde, hah, hwi]; rfl⟩ rfl
end Go.Proofs.YtlbjplpehkgcdaaGreatDoor
noncomputable section
namespace Go.Proofs.YtlbjplpehkgcdaaGreatDoor
open Go Go.Am Go.Pm
def yQ (l : List Ev) (i : Nat) (a : Ev) : Prop := X3 a = true /\ ∀ j b, l[j]? = some b -> J9 i a j b = false
def P7 (l : List Ev) : Prop := ∀ i a, l[i]? = some a -> yQ l i a
theorem aUU (l : List Ev) (hl : l.length <= 1000000) (hp : ∀ e ∈ l, e.path.length <= 1000000) (M : c7) (k : Nat) (Q : f7 -> d9 -> Prop)
  (q1 : ∀ tm, P7 l -> Q (.exit 0) ⟨tm, 49, k, [], M⟩) (q2 : ∀ tm, ¬ P7 l -> c8 tm 2 = bv false -> Q .ret ⟨tm, 49, k, [], M⟩) :
  ∀ d i tm, l.length - i = d -> i <= l.length -> (∀ i' a, i' < i -> l[i']? = some a -> yQ l i' a) -> aVO tm l i -> w7 env Tryz.prog none aNY ⟨tm, 49, k, [], M⟩ Q := by
 intro d
 induction d with
 | zero =>
  intro i tm hd hi hg hK
  have : i = l.length := by omega
  subst this
  obtain ⟨t0, t7, t8, t9⟩ := hK
  refine w7.round (RX.of a6 ?_)
  simp only [G0, Z1, Z2, Z3, Z4, Z5, t8, t9, Int.lt_irrefl, decide_false]
  exact q1 _ fun i' a h => hg i' a (List.getElem?_eq_some_iff.1 h).1 h
 | succ d ih =>
  intro i tm hd hi hg hK
  have hi' : i < l.length := by omega
  have hii : (i : Int) < l.length := by omega
  obtain ⟨a, ha, hdx⟩ := K2 hi'
  have hlx := x7 ha
  have hpa := hp a (List.mem_of_getElem? ha)
  have hw : IntKind.i64.wrap ((i : Int) + 1) = ((i + 1 : Nat) : Int) := by rw [f9 (by omega) (by omega)]; rfl
  obtain ⟨t0, t7, t8, t9⟩ := hK
  refine w7.inn fun k' hk1 hk2 hk3 => RX.of a6 ?_
  have hst : w5 7 0 (l8 a) (some (.row .rw 0 [.v (.int .i64 0), .v (.int .i64 0), .v (.string ⟨#[]⟩), .v (.int .i64 0), .v (.int .i64 0), .lst .full 0 0 [], .lst .full 0 0 []])) = some (.row .rw 0 (b6 a)) := p6 (n := 7) (x := l8 a) ⟨rfl, Nat.le_refl 7, rfl⟩
  simp only [G0, Z1, Z2, Z3, Z4, Z5, t0, t7, t8, t9, d4, hii, decide_true, hi', hlx, hst, b6, M5, S2]
  refine H7 (Z0 a hpa) (by decide) ?_
  cases hok : X3 a with
  | false =>
   simp only [G0, Z1, Z2, Z3, Z4, Z5, D7]
   exact q2 _ (fun h => by have := (h i a ha).1; rw [hok] at this; cases this) rfl
  | true =>
   simp only [G0, Z1, Z2, Z3, Z4, Z5, D7, t0, d4]
   refine RX.loop (aO8 l hl hp (seg M k []) k' i a hpa _ (fun tm' hgd hK' => ?_) (fun tm' hbd t2 => ?_) l.length 0 _ rfl (Nat.zero_le _) (fun j' b h => by omega) (by exact ⟨t0, t7, t8, t9⟩) (by rfl) (by rfl) (by rfl) (by rfl) (by rfl))
   ·obtain ⟨s0, s7, s8, s9⟩ := hK'
    simp only [G0, Z1, Z2, Z3, Z4, Z5, s9, hw]
    refine ih (i + 1) _ (by omega) (by omega) (fun i' a' hlt h => ?_) ⟨s0, s7, s8, rfl⟩
    rcases Nat.lt_succ_iff_lt_or_eq.1 hlt with h1 | h1
    ·exact hg i' a' h1 h
    ·subst h1; rw [ha] at h; cases h; exact ⟨hok, hgd⟩
   ·simp only [G0, Z1, Z2, Z3, Z4, Z5, t2]
    obtain ⟨j, b, h1, h2⟩ := hbd
    exact q2 _ (fun h => by have := (h i a ha).2 j b h1; rw [h2] at this; cases this) t2
def jS (l : List Ev) : Bool := @decide (P7 l) (Classical.propDecidable _)
theorem tW {l : List Ev} (h : P7 l) : jS l = true := by
 unfold jS; exact @decide_eq_true _ (Classical.propDecidable _) h
theorem vA {l : List Ev} (h : ¬ P7 l) : jS l = false := by
 unfold jS; exact @decide_eq_false _ (Classical.propDecidable _) h
theorem tR (l : List Ev) (hl : l.length <= 1000000) (hp : ∀ e ∈ l, e.path.length <= 1000000) : A0 env Tryz.prog 19 [d4 l] (bv (jS l)) := fun M => by
 refine PT.enterR a6 bEI (by simp) aVS fun k hk hf => RX.of a6 ?_
 simp only [G0, Z1, Z2, Z3, Z4, Z5, f8, d4]
 refine RX.loop (aUU l hl hp M k _ (fun tm h => ?_) (fun tm h t2 => ?_) l.length 0 _ rfl (Nat.zero_le _) (fun i a h => by omega) (by exact ⟨rfl, rfl, rfl, rfl⟩))
 ·simp only [G0, Z1, Z2, Z3, Z4, Z5]
  refine m6 hf rfl ⟨?_, rfl⟩
  rw [tW h]; rfl
 ·simp only [G0, Z1, Z2, Z3, Z4, Z5, t2]
  refine m6 hf t2 ⟨?_, rfl⟩
  rw [vA h]
end Go.Proofs.YtlbjplpehkgcdaaGreatDoor
end
namespace Go.Proofs.YtlbjplpehkgcdaaGreatDoor
open Go Go.Am Go.Pm
def aI (a b : Int) : Int := if a < b then -1 else if a > b then 1 else 0
theorem aKH (a : Int) : A0 env Tryz.prog 111 [iv a] (bv false) := fun M => by
 refine PT.enterR a6 aZT (by simp) aOV fun k hk hf => RX.of a6 ?_
 simp only [G0, Z1, Z2, Z3, Z4, Z5, f8, bne_self_eq_false]
 exact m6 hf rfl ⟨rfl, rfl⟩
theorem uB (a b : Int) : A0 env Tryz.prog 94 [iv a, iv b] (iv (aI a b)) := fun M => by
 refine PT.enterR a6 bDW (by simp) aUI fun k hk hf => RX.of a6 ?_
 simp only [G0, Z1, Z2, Z3, Z4, Z5, f8]
 refine H7 (aKH a) (by decide) ?_
 simp only [G0, Z1, Z2, Z3, Z4, Z5]
 refine H7 (aKH b) (by decide) ?_
 simp only [G0, Z1, Z2, Z3, Z4, Z5]
 refine eY (fun hb => ?_) (fun hb => ?_)
 ·simp only [G0, Z1, Z2, Z3, Z4, Z5]
  refine m6 hf rfl ⟨?_, rfl⟩
  unfold aI; rw [if_pos (by simpa using hb)]; rfl
 ·have hb' : ¬ a < b := by simpa using hb
  simp only [G0, Z1, Z2, Z3, Z4, Z5]
  refine eY (fun hc => ?_) (fun hc => ?_)
  ·simp only [G0, Z1, Z2, Z3, Z4, Z5]
   refine m6 hf rfl ⟨?_, rfl⟩
   unfold aI; rw [if_neg hb', if_pos (by simpa using hc)]; rfl
  ·simp only [G0, Z1, Z2, Z3, Z4, Z5]
   refine m6 hf rfl ⟨?_, rfl⟩
   unfold aI; rw [if_neg hb', if_neg (by simpa using hc)]; rfl
def uG : List Int -> Int
 | [] => 0
 | x :: r => if x = 0 then uG r else x
theorem aGQ {t : kV} {l : List Int} {i : Nat} {x : Int} (h : l[i]? = some x) : A3 false 1 (l.map iv) (i * 1) = some (iv x) := by
 unfold A3
 simp [h]
theorem aW5 (t : kV) (l : List Int) (hl : l.length <= 1000000) (M : c7) (k : Nat) (Q : f7 -> d9 -> Prop) (q1 : ∀ tm, uG l = 0 -> c8 tm 3 = iv 0 -> Q (.exit 0) ⟨tm, 18, k, [], M⟩) (q2 : ∀ tm, c8 tm 2 = iv (uG l) -> Q .ret ⟨tm, 18, k, [], M⟩) :
    ∀ d i tm, l.length - i = d -> i <= l.length -> uG l = uG (l.drop i) -> c8 tm 3 = iv 0 -> c8 tm 6 = .lst t 1 l.length (l.map iv) -> c8 tm 7 = iv l.length -> c8 tm 8 = iv i -> w7 env Tryz.prog none aDJ ⟨tm, 18, k, [], M⟩ Q := by
  intro d
  induction d with
  | zero =>
    intro i tm hd hi ho t3 t6 t7 t8
    have : i = l.length := by omega
    subst this
    refine w7.round (RX.of a6 ?_)
    simp only [G0, Z1, Z2, Z3, Z4, Z5, t7, t8, Int.lt_irrefl, decide_false]
    exact q1 _ (by rw [ho, List.drop_of_length_le (Nat.le_refl _)]; rfl) t3
  | succ d ih =>
    intro i tm hd hi ho t3 t6 t7 t8
    have hi' : i < l.length := by omega
    have hii : (i : Int) < l.length := by omega
    obtain ⟨x, hx, hdx⟩ := K2 hi'
    have hlx := aGQ (t := t) hx
    have hw : IntKind.i64.wrap ((i : Int) + 1) = ((i + 1 : Nat) : Int) := by rw [f9 (by omega) (by omega)]; rfl
    rw [hdx] at ho
    refine w7.round (RX.of a6 ?_)
    simp only [G0, Z1, Z2, Z3, Z4, Z5, t3, t6, t7, t8, hii, decide_true, hi', hlx]
    refine eY (fun hb => ?_) (fun hb => ?_)
    · simp only [G0, Z1, Z2, Z3, Z4, Z5]
      refine q2 _ ?_
      rw [ho]; unfold uG; rw [if_neg (by simpa using hb)]; rfl
    · simp only [G0, Z1, Z2, Z3, Z4, Z5, t8, hw]
      refine ih (i + 1) _ (by omega) (by omega) ?_ t3 t6 t7 rfl
      rw [ho]
      show uG (x :: _) = _
      rw [uG, if_pos (by simpa using hb)]
theorem bAU (t : kV) (l : List Int) (hl : l.length <= 1000000) : A0 env Tryz.prog 93 [.lst t 1 l.length (l.map iv)] (iv (uG l)) := fun M => by
  refine PT.enterR a6 aZJ (by simp) aJO fun k hk hf => RX.of a6 ?_
  simp only [G0, Z1, Z2, Z3, Z4, Z5, f8]
  refine RX.loop (aW5 t l hl M k _ ?_ ?_ l.length 0 _ rfl (Nat.zero_le _) rfl rfl rfl rfl rfl)
  · intro tm h t3
    simp only [G0, Z1, Z2, Z3, Z4, Z5, t3]
    exact m6 hf rfl ⟨by rw [h]; rfl, rfl⟩
  · intro tm h
    simp only [G0, Z1, Z2, Z3, Z4, Z5]
    exact m6 hf h ⟨rfl, rfl⟩
def aJA (a b c d : Int) : Int := uG [aI a c, aI b d]
theorem zU (a b : Int) : U6 1 [.v (.int .i64 0), .v (.int .i64 0)] [(0, iv a), (1, iv b)] = some [iv a, iv b] := rfl
theorem aPJ (a b c d : Int) : A0 env Tryz.prog 72 [.agg [iv a, iv b], .agg [iv c, iv d]] (iv (aJA a b c d)) := fun M => by
  refine PT.enterR a6 bDM (by simp) aVD fun k hk hf => RX.of a6 ?_
  simp only [G0, Z1, Z2, Z3, Z4, Z5, f8]
  refine cq0 (uB a c) (by decide) ?_
  simp only [G0, Z1, Z2, Z3, Z4, Z5]
  refine H7 (uB b d) (by decide) ?_
  simp only [G0, Z1, Z2, Z3, Z4, Z5, zU]
  refine H7 (bAU .full [aI a c, aI b d] (by simp)) (by decide) ?_
  simp only [G0, Z1, Z2, Z3, Z4, Z5]
  exact m6 hf rfl ⟨rfl, rfl⟩
theorem aGC (x y : Ev) : A0 env Tryz.prog 63 [l8 x, l8 y] (iv (aJA x.node x.seq y.node y.seq)) := fun M => by
  refine PT.enterR a6 bD7 (by simp) aVT fun k hk hf => RX.of a6 ?_
  simp only [G0, Z1, Z2, Z3, Z4, Z5, f8, l8, b6]
  refine cq0 (uB _ _) (by decide) ?_
  simp only [G0, Z1, Z2, Z3, Z4, Z5]
  refine H7 (uB _ _) (by decide) ?_
  simp only [G0, Z1, Z2, Z3, Z4, Z5, zU]
  refine H7 (bAU .full [_, _] (by simp)) (by decide) ?_
  simp only [G0, Z1, Z2, Z3, Z4, Z5]
  exact m6 hf rfl ⟨rfl, rfl⟩
def ltB (a b c d : Int) : Bool := decide (a < c) || (a == c && decide (b < d))
theorem aGY (a b c d : Int) : decide (aJA a b c d < 0) = ltB a b c d := by
 unfold aJA ltB
 simp only [uG, aI]
 by_cases h1 : a < c
 ·simp [h1]
 ·by_cases h2 : a > c
  ·have : ¬ a = c := by omega
   simp [h1, h2, this]
  ·have : a = c := by omega
   subst this
   by_cases h3 : b < d
   ·simp [h3]
   ·by_cases h4 : b > d
    ·simp [h3, h4]
    ·simp [h3, h4]
theorem aWM (a b c d : Int) : A0 env Tryz.prog 42 [.agg [iv a, iv b], .agg [iv c, iv d]] (bv (ltB a b c d)) := fun M => by
 refine PT.enterR a6 bD2 (by simp) aW1 fun k hk hf => RX.of a6 ?_
 simp only [G0, Z1, Z2, Z3, Z4, Z5, f8]
 refine H7 (aPJ a b c d) (by decide) ?_
 simp only [G0, Z1, Z2, Z3, Z4, Z5]
 exact m6 hf rfl ⟨by rw [aGY]; rfl, rfl⟩
end Go.Proofs.YtlbjplpehkgcdaaGreatDoor
namespace Go.Proofs.YtlbjplpehkgcdaaGreatDoor
open Go Go.Am Go.Pm
theorem V6 (l : List Ev) : (l.flatMap b6).length = l.length * 7 := aD (f := b6) (n := 7) (fun _ => rfl) l
inductive oM (M : c7) : PV -> List Ev -> Prop where
  | lst (t : kV) (l : List Ev) : oM M (.lst t 7 l.length (l.flatMap b6)) l
  | nil (t : kV) (e : Nat) : oM M (.lst t e 0 []) []
  | row {k i c : Nat} {w : Wm} {l : List Ev} {rest : List PV} (hM : M k i = some (.row w 7 (l.flatMap b6 ++ rest))) : oM M (.sl k i 0 l.length c) l
theorem oM.enc (M : c7) (l : List Ev) : oM M (d4 l) l := .lst .no l
theorem oM.sub {M M' : c7} {v : PV} {l : List Ev} (h : oM M v l) (hs : Pm.Sub M M') : oM M' v l := by
 cases h with
 | lst t l => exact .lst t l
 | nil t e => exact .nil t e
 | row hM => exact .row (hs _ _ _ hM)
theorem oM.len {M : c7} {v : PV} {l : List Ev} (h : oM M v l) : gB v = some (iv (l.length : Nat)) := by
 cases h <;> rfl
theorem aUD {l : List Ev} {rest : List PV} {i : Nat} {x : Ev} (h : l[i]? = some x) : A3 true 7 (l.flatMap b6 ++ rest) (i * 7) = some (l8 x) := by
 have h1 := x7 h
 have hi : i < l.length := by
  rcases Nat.lt_or_ge i l.length with h2 | h2
  ·exact h2
  ·rw [List.getElem?_eq_none h2] at h; cases h
 have hl := V6 l
 have h1' : (if i * 7 + 7 <= (l.flatMap b6).length then some (PV.agg (List.take 7 (List.drop (i * 7) (l.flatMap b6)))) else none) = some (l8 x) := h1
 rw [if_pos (by omega)] at h1'
 show (if i * 7 + 7 <= (l.flatMap b6 ++ rest).length then some (PV.agg (List.take 7 (List.drop (i * 7) (l.flatMap b6 ++ rest)))) else none) = some (l8 x)
 rw [if_pos (by rw [List.length_append]; omega), <- h1', List.drop_append_of_le_length (by omega), List.take_append_of_le_length (by rw [List.length_drop]; omega)]
theorem oM.at {M : c7} {v : PV} {l : List Ev} (h : oM M v l) {i : Nat} {x : Ev} (hx : l[i]? = some x) {k : Nat} (hf : fresh M k) :
  ∃ p, (∀ kk : IntKind, I5 7 v (.v (.int kk (i : Int))) = some p) /\ ∀ os, y6 k os M true 7 p = some (l8 x) := by
 have hi : i < l.length := by
  rcases Nat.lt_or_ge i l.length with h2 | h2
  ·exact h2
  ·rw [List.getElem?_eq_none h2] at hx; cases hx
 cases h with
 | lst t l => exact ⟨.dp (l.flatMap b6) (i * 7), fun kk => cC hi, fun os => by rw [rR]; exact x7 hx⟩
 | nil t e => simp at hi
 | @row a b c w l rest hM =>
  refine ⟨.ptr a b (0 + i * 7), fun kk => bG hi, fun os => ?_⟩
  rw [o9 (I6 hf hM), hM, Nat.zero_add]
  exact aUD hx
def kJ {α : Type} (p : α -> Bool) : Nat -> List α -> Int
 | _, [] => -1
 | i, x :: r => if p x then i else kJ p (i + 1) r
theorem aAO {α : Type} (p : α -> Bool) : ∀ (l : List α) (i : Nat), decide (kJ p i l >= 0) = l.any p
 | [], i => rfl
 | x :: r, i => by
  unfold kJ
  cases h : p x with
  | true => rw [if_pos rfl, List.any_cons, h]; simp
  | false => rw [if_neg (by decide), List.any_cons, h, Bool.false_or]; exact aAO p r (i + 1)
section
variable {M0 : c7} {v : PV} {l : List Ev}
theorem aWC (hv : oM M0 v l) (hl : l.length <= 1000000) (M : c7) (k : Nat) (Q : f7 -> d9 -> Prop) (g : Nat) (first cap : List PV) (p : Ev -> Bool) (hs : Pm.Sub M0 M) (hf : fresh M k)
  (hp : ∀ x ∈ l, T1 env Tryz.prog M0 g (first ++ ([l8 x] ++ cap)) (bv (p x)))
  (q1 : ∀ tm, kJ p 0 l = -1 -> Q (.exit 0) ⟨tm, 19, k, [], M⟩) (q2 : ∀ tm, c8 tm 4 = iv (kJ p 0 l) -> Q .ret ⟨tm, 19, k, [], M⟩) :
  ∀ d i tm, l.length - i = d -> i <= l.length -> kJ p 0 l = kJ p i (l.drop i) -> c8 tm 0 = v -> c8 tm 1 = .fn g first cap -> c8 tm 7 = iv l.length -> c8 tm 8 = iv i →
  w7 env Tryz.prog none aOC ⟨tm, 19, k, [], M⟩ Q := by
 intro d
 induction d with
 | zero =>
  intro i tm hd hi hp t0 t1 t7 t8
  have : i = l.length := by omega
  subst this
  refine w7.round (RX.of a6 ?_)
  simp only [G0, Z1, Z2, Z3, Z4, Z5, t7, t8, Int.lt_irrefl, decide_false]
  exact q1 _ (by rw [hp, List.drop_of_length_le (Nat.le_refl _)]; rfl)
 | succ d ih =>
  intro i tm hd hi hpi t0 t1 t7 t8
  have hi' : i < l.length := by omega
  have hii : (i : Int) < l.length := by omega
  obtain ⟨x, hx, hdx⟩ := K2 hi'
  obtain ⟨a, ha, hla⟩ := (hv.sub hs).at hx hf
  have hw : IntKind.i64.wrap ((i : Int) + 1) = ((i + 1 : Nat) : Int) := by rw [f9 (by omega) (by omega)]; rfl
  rw [hdx] at hpi
  have hun : kJ p i (x :: l.drop (i + 1)) = if p x then (i : Int) else kJ p (i + 1) (l.drop (i + 1)) := rfl
  rw [hun] at hpi
  refine w7.round (RX.of a6 ?_)
  simp only [G0, Z1, Z2, Z3, Z4, Z5, t0, t1, t7, t8, hii, decide_true, ha, hla]
  refine cs (hp x (List.mem_of_getElem? hx)) (hs.sseg hf) (by decide) ?_
  cases h : p x with
  | true =>
   rw [h, if_pos rfl] at hpi
   simp only [G0, Z1, Z2, Z3, Z4, Z5]
   exact q2 _ (by rw [hpi]; rfl)
  | false =>
   rw [h, if_neg (by decide)] at hpi
   simp only [G0, Z1, Z2, Z3, Z4, Z5, t8, hw]
   exact ih (i + 1) _ (by omega) (by omega) hpi t0 t1 t7 rfl
theorem xC (hv : oM M0 v l) (hl : l.length <= 1000000) (g : Nat) (first cap : List PV) (p : Ev -> Bool) (hp : ∀ x ∈ l, T1 env Tryz.prog M0 g (first ++ ([l8 x] ++ cap)) (bv (p x))) :
  T1 env Tryz.prog M0 73 [v, .fn g first cap] (iv (kJ p 0 l)) := by
 refine T1.enter a6 bDL (by simp) aWL fun M k hs hk hf => ?_
 simp only [G0, Z1, Z2, Z3, Z4, Z5, f8, hv.len]
 refine RX.loop (aWC hv hl M k _ g first cap p hs hf hp ?_ ?_ l.length 0 _ rfl (Nat.zero_le _) rfl rfl rfl rfl rfl)
 ·intro tm h
  simp only [G0, Z1, Z2, Z3, Z4, Z5]
  exact m6 hf rfl ⟨by rw [h]; rfl, rfl⟩
 ·intro tm h
  simp only [G0, Z1, Z2, Z3, Z4, Z5]
  exact m6 hf h ⟨rfl, rfl⟩
theorem iM (hv : oM M0 v l) (hl : l.length <= 1000000) (g : Nat) (first cap : List PV) (p : Ev -> Bool) (hp : ∀ x ∈ l, T1 env Tryz.prog M0 g (first ++ ([l8 x] ++ cap)) (bv (p x))) :
  T1 env Tryz.prog M0 43 [v, .fn g first cap] (bv (l.any p)) := by
 refine T1.enter a6 bDS (by simp) aWH fun M k hs hk hf => ?_
 simp only [G0, Z1, Z2, Z3, Z4, Z5, f8]
 refine sL (xC hv hl g first cap p hp) (hs.sseg hf) (by decide) ?_
 simp only [G0, Z1, Z2, Z3, Z4, Z5]
 refine m6 hf rfl ⟨?_, rfl⟩
 rw [<- aAO p l 0]; rfl
end
theorem aW8 (x y : Ev) (hx : x.path.length <= 1000000) (hy : y.path.length <= 1000000) {M0 : c7} {a i : Nat} {w : Wm} (hM : M0 a i = some (.row w 0 (b6 x))) : T1 env Tryz.prog M0 44 [l8 y, .ptr a i 0] (bv (n9 x y)) := by
 refine T1.enter a6 bDG (by simp) aYC fun M k hs hk hf => ?_
 have hM' := hs _ _ _ hM
 have hld : ∀ {ag : Bool} {n o : Nat} {os : List Pm.Obj}, y6 k os M ag n (.ptr a i o) = p9 ag n o (M a i) := o9 (I6 hf hM')
 simp only [G0, Z1, Z2, Z3, Z4, Z5, f8, l8, hld, hM', b6]
 refine H7 (eI x y hx hy) (by decide) ?_
 simp only [G0, Z1, Z2, Z3, Z4, Z5]
 exact m6 hf rfl ⟨rfl, rfl⟩
end Go.Proofs.YtlbjplpehkgcdaaGreatDoor
noncomputable section
namespace Go.Proofs.YtlbjplpehkgcdaaGreatDoor
open Go Go.Am Go.Pm
def aF0 (l : List Ev) (n : Nat) : Prop := ∀ j x, j < n -> l[j]? = some x -> X3 x = true /\ (∀ h, l[0]? = some h -> x.path = h.path) /\ (∀ i y, j = i + 1 -> l[i]? = some y -> ltB y.node y.seq x.node x.seq = true)
def wG (l : List Ev) (n : Nat) : Prop := ∀ j x, j < n -> l[j]? = some x -> ∀ y ∈ l, n9 x y = false
def aK (l : List Ev) : Prop := aF0 l l.length /\ wG l l.length
structure Ks (tm : List (Nat × PV)) (l : List Ev) (i : Nat) : Prop where
 t0 : c8 tm 0 = d4 l
 t7 : c8 tm 7 = d4 l
 t8 : c8 tm 8 = iv l.length
 t9 : c8 tm 9 = iv i
theorem aMY (a : Ev) : w5 7 0 (l8 a) (some (.row .rw 0 [.v (.int .i64 0), .v (.int .i64 0), .v (.string ⟨#[]⟩), .v (.int .i64 0), .v (.int .i64 0), .lst .full 0 0 [], .lst .full 0 0 []])) = some (.row .rw 0 (b6 a)) := p6 (n := 7) (x := l8 a) ⟨rfl, Nat.le_refl 7, rfl⟩
theorem tQ {l : List Ev} {i : Nat} {x : Ev} (h : l[i]? = some x) : (l.flatMap b6)[i * 7 + 2]? = some (str x.path) := fM (f := b6) (n := 7) (c := 2) (fun _ => rfl) h rfl
theorem iF {l : List Ev} {x : Ev} (h : l[0]? = some x) : (l.flatMap b6)[0 + 2]? = some (str x.path) := by have := tQ h; simpa using this
theorem T7 {t : kV} {es n sz : Nat} {cs : List PV} {kk : IntKind} (h : 0 < n) : I5 sz (.lst t es n cs) (.v (.int kk 0)) = some (.dp cs 0) := by
  have := cC (t := t) (es := es) (n := n) (sz := sz) (cs := cs) (kk := kk) (m := 0) h
  rw [Nat.zero_mul] at this
  exact this
theorem aO1 {l : List Ev} {i : Nat} {x : Ev} (h : l[i]? = some x) : A3 true 2 (l.flatMap b6) (i * 7) = some (.agg [iv x.node, iv x.seq]) := aKT (f := b6) (n := 7) (c := 0) (w := 2) (fun _ => rfl) h (by decide) rfl
section
variable (l : List Ev)
theorem aRW (hl : l.length <= 1000000) (hp : ∀ e ∈ l, e.path.length <= 1000000) (M : c7) (k : Nat) (Q : f7 -> d9 -> Prop)
    (q1 : ∀ tm, aF0 l l.length -> c8 tm 0 = d4 l -> Q (.exit 0) ⟨tm, 53, k, [], M⟩) (q2 : ∀ tm, ¬ aF0 l l.length -> c8 tm 2 = iv 2 -> Q .ret ⟨tm, 53, k, [], M⟩) :
    ∀ d i tm, l.length - i = d -> i <= l.length -> aF0 l i -> Ks tm l i -> w7 env Tryz.prog none aNZ ⟨tm, 53, k, [], M⟩ Q := by
  intro d
  induction d with
  | zero =>
    intro i tm hd hi hg hK
    have : i = l.length := by omega
    subst this
    obtain ⟨t0, t7, t8, t9⟩ := hK
    refine w7.round (RX.of a6 ?_)
    simp only [G0, Z1, Z2, Z3, Z4, Z5, t8, t9, Int.lt_irrefl, decide_false]
    exact q1 _ hg t0
  | succ d ih =>
    intro i tm hd hi hg hK
    have hi' : i < l.length := by omega
    have hii : (i : Int) < l.length := by omega
    have h0l : 0 < l.length := by omega
    obtain ⟨a, ha, hdx⟩ := K2 hi'
    obtain ⟨h, hh, -⟩ := K2 h0l
    have hlx := x7 ha
    have hpa := hp a (List.mem_of_getElem? ha)
    have hw : IntKind.i64.wrap ((i : Int) + 1) = ((i + 1 : Nat) : Int) := by rw [f9 (by omega) (by omega)]; rfl
    obtain ⟨t0, t7, t8, t9⟩ := hK
    refine w7.inn fun k' hk1 hk2 hk3 => RX.of a6 ?_
    simp only [G0, Z1, Z2, Z3, Z4, Z5, t0, t7, t8, t9, d4, hii, decide_true, hi', hlx, aMY, b6, M5, S2]
    refine H7 (Z0 a hpa) (by decide) ?_
    have hb1 := iF hh
    rcases Nat.eq_zero_or_pos i with hi0 | hip
    · subst hi0
      have hah : a = h := by rw [ha] at hh; exact Option.some.inj hh
      subst hah
      cases hok : X3 a with
      | false =>
        simp only [G0, Z1, Z2, Z3, Z4, Z5, D7, t0, d4, T7, h0l, hb1, Int.natCast_zero, gt_iff_lt, Int.lt_irrefl, decide_false, Bool.not_true, Bool.not_false, m9, o8, qC]
        exact q2 _ (fun hr => by have := (hr 0 a hi' ha).1; rw [hok] at this; cases this) rfl
      | true =>
        simp only [G0, Z1, Z2, Z3, Z4, Z5, D7, t0, d4, T7, h0l, hb1, Int.natCast_zero, gt_iff_lt, Int.lt_irrefl, decide_false, Bool.not_true, Bool.not_false, m9, o8, qC, jQ, beq_self_eq_true, t9, hw]
        refine ih 1 _ (by omega) (by omega) ?_ ⟨t0, t7, t8, rfl⟩
        intro j x hj hx
        have : j = 0 := by omega
        subst this
        rw [ha] at hx; cases hx
        exact ⟨hok, fun h' e => by rw [ha] at e; cases e; rfl, fun i y e => by omega⟩
    · obtain ⟨j, rfl⟩ : ∃ j, i = j + 1 := ⟨i - 1, by omega⟩
      obtain ⟨y, hy, -⟩ := K2 (show j < l.length by omega)
      have e1 : IntKind.i64.wrap (((j + 1 : Nat) : Int) - 1) = (j : Int) := by rw [f9 (by omega) (by omega)]; omega
      have e3 : (0 : Int) < ((j + 1 : Nat) : Int) := by omega
      have hj : j < l.length := by omega
      have hds := aO1 hy
      cases hok : X3 a with
      | false =>
        simp only [G0, Z1, Z2, Z3, Z4, Z5, D7, t0, d4, T7, h0l, hb1, gt_iff_lt, e1, e3, hj, hds, decide_true, Bool.not_true, Bool.not_false, m9, o8, qC]
        exact q2 _ (fun hr => by have := (hr _ a hi' ha).1; rw [hok] at this; cases this) rfl
      | true =>
        cases hpe : (a.path == h.path) with
        | false =>
          simp only [G0, Z1, Z2, Z3, Z4, Z5, D7, t0, d4, T7, h0l, hb1, gt_iff_lt, e1, e3, hj, hds, decide_true, Bool.not_true, Bool.not_false, m9, o8, qC, jQ, hpe]
          exact q2 _ (fun hr => by have := (hr _ a hi' ha).2.1 h hh; rw [this] at hpe; simp at hpe) rfl
        | true =>
          simp only [G0, Z1, Z2, Z3, Z4, Z5, D7, t0, d4, T7, h0l, hb1, gt_iff_lt, e1, e3, hj, hds, decide_true, Bool.not_true, Bool.not_false, m9, o8, qC, jQ, hpe]
          refine H7 (aWM y.node y.seq a.node a.seq) (by decide) ?_
          cases hlt : ltB y.node y.seq a.node a.seq with
          | false =>
            simp only [G0, Z1, Z2, Z3, Z4, Z5, m9, Bool.not_false, Bool.not_true]
            exact q2 _ (fun hr => by have := (hr _ a hi' ha).2.2 j y rfl hy; rw [hlt] at this; cases this) rfl
          | true =>
            simp only [G0, Z1, Z2, Z3, Z4, Z5, m9, Bool.not_false, Bool.not_true, t9, hw]
            refine ih (j + 1 + 1) _ (by omega) (by omega) ?_ ⟨t0, t7, t8, rfl⟩
            intro j' x hj' hx
            rcases Nat.lt_succ_iff_lt_or_eq.1 hj' with h1 | h1
            · exact hg j' x h1 hx
            · subst h1
              rw [ha] at hx; cases hx
              exact ⟨hok, fun h' e => by rw [hh] at e; cases e; simpa using hpe, fun i z e e' => by
                obtain rfl : i = j := by omega
                rw [hy] at e'; cases e'; exact hlt⟩
structure Kt (tm : List (Nat × PV)) (l : List Ev) (i : Nat) : Prop where
 t0 : c8 tm 0 = d4 l
 t43 : c8 tm 43 = d4 l
 t44 : c8 tm 44 = iv l.length
 t45 : c8 tm 45 = iv i
theorem aP1 (hl : l.length <= 1000000) (hp : ∀ e ∈ l, e.path.length <= 1000000) (M : c7) (k : Nat) (Q : f7 -> d9 -> Prop)
  (q1 : ∀ tm, wG l l.length -> Q (.exit 2) ⟨tm, 53, k, [], M⟩) (q2 : ∀ tm, ¬ wG l l.length -> c8 tm 2 = iv 2 -> Q .ret ⟨tm, 53, k, [], M⟩) :
  ∀ d i tm, l.length - i = d -> i <= l.length -> wG l i -> Kt tm l i -> w7 env Tryz.prog none aM3 ⟨tm, 53, k, [], M⟩ Q := by
 intro d
 induction d with
 | zero =>
  intro i tm hd hi hg hK
  have : i = l.length := by omega
  subst this
  obtain ⟨t0, t7, t8, t9⟩ := hK
  refine w7.round (RX.of a6 ?_)
  simp only [G0, Z1, Z2, Z3, Z4, Z5, t8, t9, Int.lt_irrefl, decide_false]
  exact q1 _ hg
 | succ d ih =>
  intro i tm hd hi hg hK
  have hi' : i < l.length := by omega
  have hii : (i : Int) < l.length := by omega
  obtain ⟨a, ha, hdx⟩ := K2 hi'
  have hlx := x7 ha
  have hpa := hp a (List.mem_of_getElem? ha)
  have hw : IntKind.i64.wrap ((i : Int) + 1) = ((i + 1 : Nat) : Int) := by rw [f9 (by omega) (by omega)]; rfl
  obtain ⟨t0, t7, t8, t9⟩ := hK
  refine w7.inn fun k' hk1 hk2 hk3 => RX.of a6 ?_
  simp only [G0, Z1, Z2, Z3, Z4, Z5, t0, t7, t8, t9, d4, hii, decide_true, hi', hlx, aMY]
  refine sL (iM (oM.enc (seg (seg M k []) k' [.row .rw 0 (b6 a)]) l) hl 44 [] [.ptr k' 0 0] (n9 a) (fun y hy => aW8 a y hpa (hp y hy) (w := .rw) (by rw [e8]; rfl))) (Pm.Sub.refl _) (by decide) ?_
  cases hany : l.any (n9 a) with
  | true =>
   simp only [G0, Z1, Z2, Z3, Z4, Z5]
   refine q2 _ (fun hn => ?_) rfl
   rw [List.any_eq_true] at hany
   obtain ⟨y, h1, h2⟩ := hany
   rw [hn i a hi' ha y h1] at h2; cases h2
  | false =>
   simp only [G0, Z1, Z2, Z3, Z4, Z5, t9, hw]
   refine ih (i + 1) _ (by omega) (by omega) ?_ ⟨t0, t7, t8, rfl⟩
   intro j x hj hx y hy
   rcases Nat.lt_succ_iff_lt_or_eq.1 hj with h1 | h1
   ·exact hg j x h1 hx y hy
   ·subst h1
    rw [ha] at hx; cases hx
    rw [List.any_eq_false] at hany
    simpa using hany y hy
def qE (l : List Ev) : Bool := @decide (aK l) (Classical.propDecidable _)
theorem kD {l : List Ev} (h : aK l) : qE l = true := by
 unfold qE; exact @decide_eq_true _ (Classical.propDecidable _) h
theorem zW {l : List Ev} (h : ¬ aK l) : qE l = false := by
 unfold qE; exact @decide_eq_false _ (Classical.propDecidable _) h
theorem eO (hl : l.length <= 1000000) (hp : ∀ e ∈ l, e.path.length <= 1000000) : A0 env Tryz.prog 15 [d4 l] (iv (aB (qE l))) := fun M => by
 refine PT.enterR a6 bE0 (by simp) aYQ fun k hk hf => RX.of a6 ?_
 simp only [G0, Z1, Z2, Z3, Z4, Z5, f8, d4]
 refine RX.loop (aRW l hl hp M k _ (fun tm h1 t0 => ?_) (fun tm h1 t2 => ?_) l.length 0 _ rfl (Nat.zero_le _) (fun j x h => by omega) (by exact ⟨rfl, rfl, rfl, rfl⟩))
 ·simp only [G0, Z1, Z2, Z3, Z4, Z5, t0, d4]
  refine RX.loop (aP1 l hl hp M k _ (fun tm' h2 => ?_) (fun tm' h2 t2 => ?_) l.length 0 _ rfl (Nat.zero_le _) (fun j x h => by omega) (by exact ⟨t0, rfl, rfl, rfl⟩))
  ·simp only [G0, Z1, Z2, Z3, Z4, Z5]
   refine m6 hf rfl ⟨?_, rfl⟩
   rw [kD ⟨h1, h2⟩]; rfl
  ·simp only [G0, Z1, Z2, Z3, Z4, Z5, t2]
   refine m6 hf t2 ⟨?_, rfl⟩
   rw [zW fun h => h2 h.2]; rfl
 ·simp only [G0, Z1, Z2, Z3, Z4, Z5, t2]
  refine m6 hf t2 ⟨?_, rfl⟩
  rw [zW fun h => h1 h.1]; rfl
end
end Go.Proofs.YtlbjplpehkgcdaaGreatDoor
end
namespace Go.Pm
open Go.RowKit Go.Am
section
variable {E : i9} {P : Program} {tm : List (Nat × PV)} {nt k n m i es sz by_ zl d a c o len r : Nat} {os : List Obj} {M : c7} {A B : Operand} {cs ds z cells : List PV} {t : kV} {v x : PV} {κ : V2} {R : d9 -> Prop} {l : List RI} {ps : List (Nat × Operand)}
theorem aR5 : aJH sz z A ⟨tm, nt, k, os, M⟩ = iL ⟨tm, nt, k, os, M⟩ sz z (l4 tm A) := rfl
theorem aLL : aFV n A ⟨tm, nt, k, os, M⟩ = rW n (l4 tm A) := rfl
theorem aBY : rW n (.ptr a i o) = some (.sl a i o n (2 * n)) := rfl
theorem aHS (hn : n ≠ 0) (ha : a ≠ k) (hg : M a i = some (.row .rw es cells)) (hl : o + n * sz <= cells.length /\ z.length = sz /\ z.all w9 = true) :
  iL ⟨tm, nt, k, os, M⟩ sz z (.sl a i o n c) = some (.junk, ⟨tm, nt, k, os, l7 M a i (.row .rw es (g8 cells o (List.replicate n z).flatten))⟩) := by
 unfold iL
 simp only [if_neg hn, d9.look, if_neg ha, hg, if_pos hl, d9.putO]
def aZH (tm : List (Nat × PV)) (nt k : Nat) (os : List Obj) (M : c7) (sz len : Nat) : Option (List PV) -> Option (PV × d9)
 | some cs => some (.sl k os.length 0 len (2 * len), ⟨tm, nt, k, os ++ [.row .rw sz cs], M⟩)
 | none => none
theorem aQM : aZH tm nt k os M sz len (some cs) = some (.sl k os.length 0 len (2 * len), ⟨tm, nt, k, os ++ [.row .rw sz cs], M⟩) := rfl
theorem aLB : cE sz len z ps ⟨tm, nt, k, os, M⟩ = aZH tm nt k os M sz len (U6 sz z (aJ tm ps)) := by
 unfold cE U6 yA
 dsimp only
 rw [aT]
 generalize N7 _ _ _ = q
 cases q <;> rfl
theorem e_B : T8 E P (oB d sz len z ps :: l) ⟨tm, nt, k, os, M⟩ R = aA E P d (.o l) R (A4 sz len z ps ⟨tm, nt, k, os, M⟩) (cE sz len z ps ⟨tm, nt, k, os, M⟩) := by
 have h1 : T8 E P (oU d (A4 sz len z ps) :: l) ⟨tm, nt, k, os, M⟩ R = nU E P d (.o l) R (A4 sz len z ps ⟨tm, nt, k, os, M⟩) := e_U
 have h2 : T8 E P (oU d (cE sz len z ps) :: l) ⟨tm, nt, k, os, M⟩ R = nU E P d (.o l) R (cE sz len z ps ⟨tm, nt, k, os, M⟩) := e_U
 show (T8 E P (oU d (A4 sz len z ps) :: l) ⟨tm, nt, k, os, M⟩ R \/ T8 E P (oU d (cE sz len z ps) :: l) ⟨tm, nt, k, os, M⟩ R) = _
 rw [h1, h2]; rfl
theorem bE5 {ld : List RD} {e : Nat} (h : l4 tm A = .lst .full e 0 []) : V0 E P (dQ d sz by_ zl A B :: ld) ⟨tm, nt, k, os, M⟩ R = nU E P d (.d ld) R (gH ⟨tm, nt, k, os, M⟩ sz by_ zl (.lst .full e 0 []) (l4 tm B)) := by
 have h1 : V0 E P (dU d (L9 sz by_ zl A B) :: ld) ⟨tm, nt, k, os, M⟩ R = nU E P d (.d ld) R (L9 sz by_ zl A B ⟨tm, nt, k, os, M⟩) := aKR
 rw [eF, h] at h1
 rw [<- h1]
 apply propext
 constructor
 ·rintro ⟨_, h2⟩; exact ⟨rfl, h2⟩
 ·rintro ⟨_, h2⟩; exact ⟨⟨e, h⟩, h2⟩
end
section
variable {E : i9} {P : Program} {cx : Cx} {s s' : d9} {sA : St} {m : d5} {M : c7}
theorem aCJ (h : PS E cx s sA) {k i r es : Nat} {cs : List PV} {w : Wm} (hM : s.look k i = some (.row w es cs)) (ha : cx.at_ k i = some r) (hbar : sA.m.bar <= r) :
  PS E cx (s.putO k i .gone) { sA with m := sA.m.upd r none } := by
 have hak : k < cx.nk := by
  rcases Nat.lt_or_ge k cx.nk with h1 | h1
  ·exact h1
  ·rw [(h.pg.keys k i h1).1] at ha; cases ha
 have hpg := h.pg.updObj ha hbar hM ⟨nofun, nofun⟩ (o := .gone) nofun (ao := none) hak
 obtain ⟨e1, e2, e3, e5⟩ := d9.putO_tm (s := s) (k := k) (i := i) (o := .gone)
 exact ⟨fun j => by rw [e1]; exact h.tm j, by rw [e2]; exact h.nt, by rw [d9.putO_mem hM]; exact hpg, fun j hj => by rw [e3]; exact h.cur j (by rw [e5] at hj; exact hj), by rw [e3]; exact h.low, by rw [e3]; exact h.pos, ⟨h.df.1, fun r hr => ⟨(h.df.2 r hr).1, by rw [d5.upd_def]; exact (h.df.2 r hr).2⟩⟩⟩
theorem PG.start (h : PG E cx M m) : PS E cx.key ⟨[], 0, cx.nk, [], M⟩ ⟨.nil, 0, [], m⟩ := by
 have hfr := h.bare (Nat.le_refl cx.nk)
 refine ⟨fun i => .junk _, rfl, ?_, fun i _ => h.keys cx.nk i (Nat.le_refl _), Nat.lt_succ_self _, h.pos, List.nodup_nil, fun r hr => by simp at hr⟩
 show PG E cx.key (seg M cx.nk []) m
 rw [oK _ _ hfr]
 exact h.key
end
end Go.Pm
namespace Go.Pm
open Go.RowKit Go.Am
section
variable {E : i9} {P : Program} {cx : Cx} {s : d9} {sA : St} {M : c7}
theorem kW.lift {F : Nat} {args : List PV} {Q : Nat -> PV -> c7 -> Prop}
  (h : ∀ cx k0 sA vargs, fresh M k0 -> PS E cx ⟨[], 0, k0, [], M⟩ sA -> p7 cx args vargs -> ∃ v m' cx' x s', CanT E P (.call F vargs) sA.m v m' /\ PR cx' x v /\ P9 (some k0) cx cx' /\ PS E cx' s' { sA with m := m' } /\ Q k0 x s'.mem) :
  kW E P F args M Q := fun cx m vargs hg ha => by
 obtain ⟨v, m', cx', x, s', h1, h2, h3, h4, h5⟩ := h cx.key cx.nk ⟨.nil, 0, [], m⟩ vargs (hg.bare (Nat.le_refl _)) hg.start (ha.mono (q8.key cx))
 refine ⟨v, m', cx', x, s'.mem, h1, h4.pg, ⟨(q8.key cx).trans h3.le, fun k i hk _ => ?_⟩, h2, h5⟩
 have hn := h3.names k i (by show k < cx.nk + 1; omega) (by simp; omega)
 exact hn
theorem eL (h : PS E cx s sA) {k i r es o : Nat} {cells ws : List PV} {wv : List Value} (hM : s.look k i = some (.row .rw es cells)) (ha : cx.at_ k i = some r) (hw : p7 cx ws wv) (ho : ws.all w9 = true) (hl : o + ws.length <= cells.length) :
  ∃ vs, sA.m.get r = some (.row vs .rw es none) /\ p7 cx cells vs /\ sA.m.bar <= r /\ sA.m.storeCells ⟨r, o, none⟩ wv = some (sA.m.upd r (some (.row (B6 vs o wv) .rw es none))) ∧
   PS E cx (s.putO k i (.row .rw es (g8 cells o ws))) { sA with m := sA.m.upd r (some (.row (B6 vs o wv) .rw es none)) } := by
 obtain ⟨r', vs, md, q, e1, e2, e3, e4, e5⟩ := h.pg.obj k i _ hM
 obtain ⟨rfl, rfl⟩ := e4 (by simp)
 have hbar := e5 rfl
 rw [ha] at e1; cases e1
 have hl1 := hw.length
 have hl2 := e3.length
 have hnb : sA.m.nb <= r := Nat.le_trans h.pg.wf.nb hbar
 have hone := D4 hw ho
 obtain ⟨⟨cx', p1, p2, p3⟩, q1, q2, q3⟩ := O3 h ha hbar hM ⟨nofun, nofun⟩ (o := .row .rw es (g8 cells o ws)) nofun (ao := .row (B6 vs o wv) .rw es none) ⟨r, _, .rw, none, ha, d5.get_upd_same hnb _, by
  rw [V9 _ _ _ (by omega)]
  exact I9 e3 hw o, fun _ => ⟨rfl, rfl⟩, fun _ => by rw [d5.upd_def]; exact hbar⟩ (x := .junk) (v := A6) (.junk _)
 have hpg := h.pg.updObj (cx := cx) ha hbar hM ⟨nofun, nofun⟩ (o := .row .rw es (g8 cells o ws)) nofun (ao := some (.row (B6 vs o wv) .rw es none)) ⟨r, _, .rw, none, ha, d5.get_upd_same hnb _, by
  rw [V9 _ _ _ (by omega)]
  exact I9 e3 hw o, fun _ => ⟨rfl, rfl⟩, fun _ => by rw [d5.upd_def]; exact hbar⟩
 obtain ⟨e1, e2', e3', e5'⟩ := d9.putO_tm (s := s) (k := k) (i := i) (o := .row .rw es (g8 cells o ws))
 refine ⟨vs, e2, e3, hbar, ?_, ?_⟩
 ·simp only [d5.storeCells, e2, z7 hbar, z7 (show o + wv.length <= vs.length by omega), hone, Bool.and_self, cond_true, d5.kill, Option.map_some]
 ·exact ⟨fun j => by rw [e1]; exact h.tm j, by rw [e2']; exact h.nt, by rw [d9.putO_mem hM]; exact hpg, fun j hj => by rw [e3']; exact h.cur j (by rw [e5'] at hj; exact hj), by rw [e3']; exact h.low, by rw [e3']; exact h.pos, ⟨h.df.1, fun r hr => ⟨(h.df.2 r hr).1, by rw [d5.upd_def]; exact (h.df.2 r hr).2⟩⟩⟩
theorem p7.sizes {a : List PV} {b : List Value} (h : p7 cx a b) {n : Nat} (hn : a.length = n) : b.length = n := by rw [<- h.length]; exact hn
end
theorem iZ {cs vs : List PV} {o : Nat} {y : PV} (h : y ∈ g8 cs o vs) : y ∈ cs \/ y ∈ vs := by
 unfold g8 at h
 rcases List.mem_append.1 h with h | h
 ·exact .inl (List.mem_of_mem_take h)
 ·rcases List.mem_append.1 h with h | h
  ·exact .inr h
  ·exact .inl (List.mem_of_mem_drop h)
theorem jM.of {k : Nat} : ∀ {l : List PV}, (∀ x ∈ l, NK k x) -> jM k l
 | [], _ => .nil
 | x :: l, h => .cons (h x List.mem_cons_self) (jM.of fun y hy => h y (List.mem_cons_of_mem _ hy))
theorem jM.mem {k : Nat} : ∀ {l : List PV}, jM k l -> ∀ x ∈ l, NK k x
 | _, .cons h hs, x, hx => by
  rcases List.mem_cons.1 hx with rfl | hx
  ·exact h
  ·exact jM.mem hs x hx
theorem aU7 {cells v : List PV} {a b e : Nat} (hv : v.length = e) (hab : a <= b) (hb : b + e <= cells.length) :
  (g8 (g8 cells (a + e) ((cells.take b).drop a)) a v).take (b + e) = (cells.take b).take a ++ (v ++ (cells.take b).drop a) := by
 have hm : ((cells.take b).drop a).length = b - a := by rw [List.length_drop, List.length_take, Nat.min_eq_left (by omega)]
 have hA : (cells.take (a + e)).length = a + e := by rw [List.length_take, Nat.min_eq_left (by omega)]
 generalize hmid : (cells.take b).drop a = mid at hm ⊢
 unfold g8
 rw [hm, hv]
 have h1 : (cells.take (a + e) ++ (mid ++ cells.drop (a + e + (b - a)))).take a = cells.take a := by
  rw [List.take_append_of_le_length (by rw [hA]; omega), List.take_take, Nat.min_eq_left (show a <= a + e by omega)]
 have h2 : (cells.take (a + e) ++ (mid ++ cells.drop (a + e + (b - a)))).drop (a + e) = mid ++ cells.drop (a + e + (b - a)) := by
  rw [List.drop_append_of_le_length (by rw [hA]; exact Nat.le_refl _), List.drop_of_length_le (by rw [hA]; exact Nat.le_refl _), List.nil_append]
 rw [h1, h2]
 rw [show (cells.take b).take a = cells.take a by rw [List.take_take, Nat.min_eq_left hab]]
 have e1 : cells.take a ++ (v ++ (mid ++ cells.drop (a + e + (b - a)))) = (cells.take a ++ (v ++ mid)) ++ cells.drop (a + e + (b - a)) := by simp
 rw [e1]
 exact List.take_left' (by rw [List.length_append, List.length_append, List.length_take, Nat.min_eq_left (by omega), hv, hm]; omega)
structure Ins (M : c7) (k i n es : Nat) (out old : List PV) (nk : Nat) (x : PV) (M1 : c7) : Prop where
 ex : ∃ a b w c cells, x = .sl a b 0 n c /\ (n <= l6 c /\ c % 2 = 1 /\ N2 c = es) /\ n * es <= cells.length /\ cells.take (n * es) = out /\ (∀ y ∈ cells, y ∈ old) ∧
  ((a = k /\ b = i /\ M1 = l7 M k i (.row w es cells)) \/ (a = nk /\ b = 0 /\ fresh M nk /\ M1 = seg (l7 M k i .gone) nk [.row w es cells]))
section
variable {E : i9} {P : Program} {M : c7}
theorem PT.insert (hE : e7 E P) {F ts te es by_ : Nat} (I : InsFn P F ts te es by_) {x : nA} (hf : E.fn F = some x) {yt ye : Ty} {z : List PV} (ht : E.ty ts = some yt) (hd : yt.desc = .slice te) (hye : E.ty te = some ye) (hz : W5 E te = some z) (hzd : U2 yt.desc = some false)
  (he : ye.size = es /\ ye.bytes = by_ /\ z.length = es) {k i n L idx kv iv cv : Nat} {cells vcells : List PV} (hM : M k i = some (.row .rw es cells)) (hV : M kv iv = some (.row .rw es vcells)) (hne : ¬ (kv = k /\ iv = i))
  (hL : cells.length = L * es) (hn : n <= L) (hn0 : 0 < L) (hi : idx <= n) (hv : vcells.length = es) (ho : cells.all w9 = true) (hov : vcells.all w9 = true) (hes : 0 < es /\ es < 4096 /\ es ≠ 1) (hby : (2 * (n + 1) + 2000) * by_ <= 140737488355328 /\ n + 1 <= 4611686018427387904) :
  kW E P F [.sl k i 0 n (j0 L es), .v (.int .i64 (idx : Int)), .sl kv iv 0 1 cv] M (Ins M k i (n + 1) es ((cells.take (n * es)).take (idx * es) ++ (vcells ++ (cells.take (n * es)).drop (idx * es))) (cells ++ vcells)) := by
 obtain ⟨he1, he2, he3⟩ := he
 obtain ⟨hes1, hes2, hes3⟩ := hes
 have hcap : l6 (j0 L es) = L /\ j0 L es % 2 = 1 /\ N2 (j0 L es) = es := bT hes2
 have hcl : n * es <= cells.length := by rw [hL]; exact Nat.mul_le_mul_right _ hn
 have hnes : (n + 1) * es = n * es + es := by rw [Nat.add_mul, Nat.one_mul]
 refine kW.lift fun cx k0 sA vargs hfr hs ha => ?_
 have hlk : ∀ {a b o}, M a b = some o -> (⟨[], 0, k0, [], M⟩ : d9).look a b = some o /\ a ≠ k0 := fun {a b o} e => by
  have : a ≠ k0 := fun q => by rw [q, hfr b] at e; cases e
  exact ⟨by unfold d9.look; rw [if_neg this]; exact e, this⟩
 obtain ⟨hlk1, hk0⟩ := hlk hM
 obtain ⟨hlk2, hkv0⟩ := hlk hV
 cases ha with
 | cons h1 ha =>
 cases ha with
 | cons h2 ha =>
 cases ha with
 | cons h3 ha =>
 cases ha
 obtain ⟨rfl, _⟩ := h2.flat_eq
 have h1' := h1
 have h3' := h3
 cases h1 with
 | sl a1 =>
 rename_i r
 cases h3 with
 | sl a3 =>
 rename_i rv
 obtain ⟨r', vs, md, q, e1, e2, e3, e4, e5⟩ := hs.pg.obj k i _ hlk1
 obtain ⟨rfl, rfl⟩ := e4 (by simp)
 have hbar := e5 rfl
 rw [a1] at e1; cases e1
 obtain ⟨r', ws, md, q, f1, f2, f3, f4, f5⟩ := hs.pg.obj kv iv _ hlk2
 obtain ⟨rfl, rfl⟩ := f4 (by simp)
 rw [a3] at f1; cases f1
 have hrr : r ≠ rv := fun e => by
  subst e
  exact hne (aDN (hs.pg.role hlk2 nofun nofun a3) (hs.pg.role hlk1 nofun nofun a1))
 have hlv := e3.length
 have hlw := f3.length
 have hcan : ∀ {v m'}, F9 E ts es by_ [.slice (some ⟨r, 0, none⟩) n (j0 L es), .int .i64 (idx : Int), .slice (some ⟨rv, 0, none⟩) 1 cv] sA.m = some (v, m') →
   CanT E P (.call F [.slice (some ⟨r, 0, none⟩) n (j0 L es), .int .i64 (idx : Int), .slice (some ⟨rv, 0, none⟩) 1 cv]) sA.m v m' := fun {v m'} hx =>
  ⟨fun ι w args' hR hA => lU hE I hf hx hR hA, fun hw => g7.insert hw hx⟩
 have hps : ∀ {o : Obj}, ((⟨[], 0, k0, [], M⟩ : d9).putO k i o) = ⟨[], 0, k0, [], l7 M k i o⟩ := fun {o} => by unfold d9.putO; rw [if_neg hk0]
 have hnil : ∀ {o : Obj}, (⟨[], 0, k0, [], l7 M k i o⟩ : d9).mem = l7 M k i o := fun {o} => aN fun j => by
  show (if k0 = k /\ j = i then some o else M k0 j) = none
  rw [if_neg (fun e => hk0 e.1.symm)]; exact hfr j
 by_cases hidx : idx = n
 ·subst hidx
  have hx0 : ∀ {r1}, E9 E sA.m ts (some ts) (.slice (some ⟨r, 0, none⟩) idx (j0 L es)) (.slice (some ⟨rv, 0, none⟩) 1 cv) = some r1 →
    F9 E ts es by_ [.slice (some ⟨r, 0, none⟩) idx (j0 L es), .int .i64 (idx : Int), .slice (some ⟨rv, 0, none⟩) 1 cv] sA.m = some r1 := fun {r1} e => by
   unfold F9
   simp only [if_true]
   unfold bC
   simp only [if_neg (show ¬ (1 = 0) by omega), if_true]
   rw [if_pos ⟨by rw [hcap.1]; exact hn, by rfl⟩]
   exact e
  have hsrc : X6 E (⟨[], 0, k0, [], M⟩ : d9) te z es (some ts) (.sl kv iv 0 1 cv) = some (vcells, 1) := by
   unfold X6 H0
   simp only [ht, hzd, if_neg (show ¬ (1 = 0) by omega), hlk2]
   rw [if_pos (by omega), List.drop_zero, List.take_of_length_le (by omega)]
  rw [List.drop_of_length_le (by rw [List.length_take]; omega), List.append_nil, List.take_of_length_le (l := cells.take (idx * es)) (by rw [List.length_take]; omega)]
  rcases Nat.lt_or_ge idx L with hlt | hge
  ·have hroom : (idx + 1) * es <= cells.length := by rw [hL]; exact Nat.mul_le_mul_right _ hlt
   have hp : O8 E (⟨[], 0, k0, [], M⟩ : d9) ts (some ts) (.sl k i 0 idx (j0 L es)) (.sl kv iv 0 1 cv) = some (.sl k i 0 (idx + 1) (j0 L es), ⟨[], 0, k0, [], l7 M k i (.row .rw es (g8 cells (0 + idx * es) vcells))⟩) := by
    unfold O8
    simp only [ht, hd, hye, hz, he1, hsrc]
    rw [if_neg (by omega), if_pos (by rw [hcap.1]; omega)]
    simp only [hlk1]
    rw [if_pos ⟨by omega, hov⟩, hps]
   obtain ⟨v, m', g1, ⟨cx', g2, g3, g4⟩, _, _, _⟩ := V8 hE hs h1' h3' hp
   refine ⟨v, m', cx', _, _, hcan (hx0 g1), g2, g3, g4, ⟨k, i, .rw, _, _, rfl, ⟨by rw [hcap.1]; omega, hcap.2⟩, ?_, ?_, ?_, .inl ⟨rfl, rfl, hnil⟩⟩⟩
   ·rw [G3 (by omega)]; exact hroom
   ·rw [Nat.zero_add]
    unfold g8
    rw [hnes, <- List.append_assoc, List.take_append_of_le_length (by simp; omega), List.take_of_length_le (by simp; omega)]
   ·intro y hy
    rcases iZ hy with h | h
    ·exact List.mem_append_left _ h
    ·exact List.mem_append_right _ h
  ·have hLn : L = idx := by omega
   subst hLn
   have hp : O8 E (⟨[], 0, k0, [], M⟩ : d9) ts (some ts) (.sl k i 0 L (j0 L es)) (.sl kv iv 0 1 cv) = some (.sl k0 0 0 (L + 1) (j0 (L + 1) es), ⟨[], 0, k0, [.row .own es (cells ++ vcells)], l7 M k i .gone⟩) := by
    unfold O8
    simp only [ht, hd, hye, hz, he1, he2, hsrc]
    rw [if_neg (by omega), if_neg (by rw [hcap.1]; omega)]
    unfold mN
    rw [if_pos ⟨hcap.2.1, hcap.2.2, rfl, by omega, by omega, hby.2, hes2, he3, hov⟩]
    simp only [hlk1]
    rw [if_pos ⟨trivial, by omega, by omega⟩, hps]
    rfl
   obtain ⟨v, m', g1, ⟨cx', g2, g3, g4⟩, _, _, _⟩ := V8 hE hs h1' h3' hp
   have hc2 := bT (n := L + 1) hes2
   refine ⟨v, m', cx', _, _, hcan (hx0 g1), g2, g3, g4, ⟨k0, 0, .own, _, _, rfl, ⟨by rw [hc2.1]; omega, hc2.2⟩, ?_, ?_, ?_, .inr ⟨rfl, rfl, hfr, rfl⟩⟩⟩
   ·rw [List.length_append]; omega
   ·rw [List.take_of_length_le (by rw [List.length_append]; omega), List.take_of_length_le (by omega)]
   ·exact fun y hy => hy
 ·have hlt : idx < n := by omega
  obtain ⟨vs0, s1, s2, s3, s4, s5⟩ := eL hs hlk1 a1 (ws := []) (wv := []) (o := 0) .nil rfl (by simp)
  rw [e2] at s1; cases s1
  rw [show B6 vs 0 [] = vs from lG vs] at s4 s5
  rw [hps, show g8 cells 0 [] = cells by unfold g8; simp] at s5
  have hMM : l7 M k i (.row .rw es cells) = M := by
   funext a b
   unfold l7
   split
   ·rename_i hc; rw [hc.1, hc.2, hM]
   ·rfl
  rw [hMM] at s5
  have hnb : sA.m.nb <= r := Nat.le_trans hs.pg.wf.nb hbar
  have hgr2 : (sA.m.upd r (some (.row vs .rw es none))).get r = some (.row vs .rw es none) := d5.get_upd_same hnb _
  have hgv2 : (sA.m.upd r (some (.row vs .rw es none))).get rv = some (.row ws .rw es none) := by rw [d5.get_upd_ne hnb (Ne.symm hrr)]; exact f2
  have hbar2 : (sA.m.upd r (some (.row vs .rw es none))).bar = sA.m.bar := by rw [d5.upd_def]
  have hall1 := D4 e3 ho
  have hall2 := D4 f3 hov
  have hx1 : ∀ {y}, eZ es [.slice (some ⟨r, 0, none⟩) n (j0 L es), .int .i64 (idx : Int), .slice (some ⟨rv, 0, none⟩) 1 cv] (sA.m.upd r (some (.row vs .rw es none))) = some y →
    F9 E ts es by_ [.slice (some ⟨r, 0, none⟩) n (j0 L es), .int .i64 (idx : Int), .slice (some ⟨rv, 0, none⟩) 1 cv] sA.m = some y := fun {y} e => by
   unfold F9
   simp only [if_neg (show ¬ ((idx : Int) = (n : Int)) by omega), if_neg (show ¬ (n = 0) by omega), s4, e]
  have hx1' : ∀ {y}, eZ es [.slice (some ⟨r, 0, none⟩) n (j0 L es), .int .i64 (idx : Int), .slice (some ⟨rv, 0, none⟩) 1 cv] (sA.m.upd r (some (.row vs .rw es none))) = none →
    bC E ts es by_ [.slice (some ⟨r, 0, none⟩) n (j0 L es), .int .i64 (idx : Int), .slice (some ⟨rv, 0, none⟩) 1 cv] (sA.m.upd r (some (.row vs .rw es none))) = some y →
    F9 E ts es by_ [.slice (some ⟨r, 0, none⟩) n (j0 L es), .int .i64 (idx : Int), .slice (some ⟨rv, 0, none⟩) 1 cv] sA.m = some y := fun {y} e e2 => by
   unfold F9
   simp only [if_neg (show ¬ ((idx : Int) = (n : Int)) by omega), if_neg (show ¬ (n = 0) by omega), s4, e, e2]
  have htn : ((idx : Int)).toNat = idx := by omega
  have hbn : idx * es <= n * es := Nat.mul_le_mul_right _ hi
  have hinc : (idx + 1) * es = idx * es + es := by rw [Nat.add_mul, Nat.one_mul]
  have htl : ((cells.take (n * es)).drop (idx * es)).length = n * es - idx * es := by simp; omega
  rcases Nat.lt_or_ge n L with hroom | hfull
  ·have hrm : (n + 1) * es <= cells.length := by rw [hL]; exact Nat.mul_le_mul_right _ hroom
   have hlk1' : (⟨[], 0, k0, [], M⟩ : d9).look k i = some (.row .rw es cells) := hlk1
   have hws1 : p7 cx ((cells.take (n * es)).drop (idx * es)) (((vs.drop 0).take (n * es)).drop (idx * es)) := by rw [List.drop_zero]; exact (e3.take _).drop _
   have hall3 : ((cells.take (n * es)).drop (idx * es)).all w9 = true := by
    rw [List.all_eq_true] at ho ⊢
    exact fun x hx => ho x (List.mem_of_mem_take (List.mem_of_mem_drop hx))
   obtain ⟨vs1, u1, u2, u3, u4, u5⟩ := eL s5 hlk1' a1 (o := 0 + (idx + 1) * es) hws1 hall3 (by omega)
   rw [hgr2] at u1
   simp only [Option.some.injEq, A8.row.injEq] at u1
   obtain ⟨rfl, -⟩ := u1
   rw [hps] at u5
   have hlk3 : (⟨[], 0, k0, [], l7 M k i (.row .rw es (g8 cells (0 + (idx + 1) * es) ((cells.take (n * es)).drop (idx * es))))⟩ : d9).look k i = some (.row .rw es (g8 cells (0 + (idx + 1) * es) ((cells.take (n * es)).drop (idx * es)))) := by
    unfold d9.look; rw [if_neg hk0]; exact y8 _ _ _ _
   obtain ⟨vs2, y1, y2, y3, y4, y5⟩ := eL u5 hlk3 a1 (o := 0 + idx * es) f3 hov (by rw [G3 (by omega)]; omega)
   have hps2 : ∀ {o1 o : Obj}, ((⟨[], 0, k0, [], l7 M k i o1⟩ : d9).putO k i o) = ⟨[], 0, k0, [], l7 M k i o⟩ := fun {o1 o} => by unfold d9.putO; rw [if_neg hk0]; simp only [qT]
   rw [hps2] at y5
   have hrm2 : eZ es [.slice (some ⟨r, 0, none⟩) n (j0 L es), .int .i64 (idx : Int), .slice (some ⟨rv, 0, none⟩) 1 cv] (sA.m.upd r (some (.row vs .rw es none))) =
     some (.slice (some ⟨r, 0, none⟩) (n + 1) (j0 L es), ((sA.m.upd r (some (.row vs .rw es none))).upd r (some (.row (B6 vs (0 + (idx + 1) * es) (((vs.drop 0).take (n * es)).drop (idx * es))) .rw es none))).upd r (some (.row (B6 vs2 (0 + idx * es) ws) .rw es none))) := by
    unfold eZ
    simp only [hgr2, hgv2, htn]
    rw [if_pos ⟨⟨trivial, by omega, hlt, by omega⟩, ⟨by omega, hrr, by rw [hcap.1]; omega, hby.2⟩, ⟨trivial, hes3, hes1, by omega⟩, hall1, hall2⟩]
    simp only [u4, y4, Option.map_some]
   have hroomX := hx1 hrm2
   refine ⟨_, _, cx, _, _, hcan hroomX, .sl a1, P9.refl _ _, y5, ⟨k, i, .rw, _, _, rfl, ⟨by rw [hcap.1]; omega, hcap.2⟩, ?_, ?_, ?_, .inl ⟨rfl, rfl, hnil⟩⟩⟩
   ·rw [G3 (by rw [G3 (by omega)]; omega), G3 (by omega)]; exact hrm
   ·rw [Nat.zero_add, Nat.zero_add, hinc, hnes]
    exact aU7 hv hbn (by omega)
   ·intro y hy
    rcases iZ hy with h | h
    ·rcases iZ h with h | h
     ·exact List.mem_append_left _ h
     ·exact List.mem_append_left _ (List.mem_of_mem_take (List.mem_of_mem_drop h))
    ·exact List.mem_append_right _ h
  ·have hLn : L = n := by omega
   subst hLn
   have hrm0 : eZ es [.slice (some ⟨r, 0, none⟩) L (j0 L es), .int .i64 (idx : Int), .slice (some ⟨rv, 0, none⟩) 1 cv] (sA.m.upd r (some (.row vs .rw es none))) = none := by
    unfold eZ
    simp only [hgr2, hgv2]
    rw [if_neg (by rintro ⟨_, ⟨_, _, h, _⟩, _⟩; rw [hcap.1] at h; omega)]
   have hszm : (sA.m.upd r (some (.row vs .rw es none))).size = ((sA.m.upd r (some (.row vs .rw es none))).upd r none).size := by simp only [d5.upd_def]
   have hct : cells.take (L * es) = cells := List.take_of_length_le (by omega)
   have hx3 : bC E ts es by_ [.slice (some ⟨r, 0, none⟩) L (j0 L es), .int .i64 (idx : Int), .slice (some ⟨rv, 0, none⟩) 1 cv] (sA.m.upd r (some (.row vs .rw es none))) =
     some (.slice (some (O5 (sA.m.upd r (some (.row vs .rw es none))).size 0)) (L + 1) (j0 (L + 1) es), ((sA.m.upd r (some (.row vs .rw es none))).upd r none).new (.row (vs.take (idx * es) ++ (ws ++ vs.drop (idx * es))) .rw es none)) := by
    unfold bC
    simp only [if_neg (show ¬ (1 = 0) by omega), if_neg (show ¬ ((idx : Int) = (L : Int)) by omega), hgr2, hgv2, htn]
    rw [if_pos ⟨⟨trivial, trivial, by omega, hlt⟩, ⟨by omega, by omega, hrr, by rw [hbar2]; exact hbar⟩, ⟨trivial, trivial, trivial, by have := hby.1; exact Nat.le_trans (Nat.mul_le_mul_right by_ (by omega)) this, hby.2⟩, ⟨hes2, hes3, hes1⟩, hall1, hall2⟩]
   rw [hszm] at hx3
   have hx2 := hx1' hrm0 hx3
   have hd1 := aCJ s5 hlk1 a1 (by show (sA.m.upd r _).bar <= r; rw [hbar2]; exact hbar)
   rw [hps] at hd1
   have hrw : p7 cx (cells.take (idx * es) ++ (vcells ++ cells.drop (idx * es))) (vs.take (idx * es) ++ (ws ++ vs.drop (idx * es))) := (e3.take _).append (f3.append (e3.drop _))
   have hcur := (hd1.cur 0 (Nat.le_refl _)).1
   obtain ⟨⟨cx', g2, g3, g4⟩, _, _, _⟩ := N5 hd1 (o := .row .rw es (cells.take (idx * es) ++ (vcells ++ cells.drop (idx * es)))) nofun nofun (Q2 (es := es) hd1.pg hcur hrw) (x := .sl k0 0 0 (L + 1) (j0 (L + 1) es)) (v := .slice (some ⟨((sA.m.upd r (some (.row vs .rw es none))).upd r none).size, 0, none⟩) (L + 1) (j0 (L + 1) es)) (.sl (by simp [Cx.bind]))
   have hc2 := bT (n := L + 1) hes2
   refine ⟨_, _, cx', _, _, hcan hx2, g2, g3, g4, ⟨k0, 0, .rw, _, _, rfl, ⟨by rw [hc2.1]; omega, hc2.2⟩, ?_, ?_, ?_, .inr ⟨rfl, rfl, hfr, rfl⟩⟩⟩
   ·simp only [List.length_append, List.length_take, List.length_drop]; omega
   ·rw [hct, List.take_of_length_le (by simp only [List.length_append, List.length_take, List.length_drop]; omega)]
   ·intro y hy
    rcases List.mem_append.1 hy with h | h
    ·exact List.mem_append_left _ (List.mem_of_mem_take h)
    ·rcases List.mem_append.1 h with h | h
     ·exact List.mem_append_right _ h
     ·exact List.mem_append_left _ (List.mem_of_mem_drop h)
theorem PT.insert0 (hE : e7 E P) {F ts te es by_ : Nat} (I : InsFn P F ts te es by_) {x : nA} (hf : E.fn F = some x) {yt ye : Ty} {z : List PV} (ht : E.ty ts = some yt) (hd : yt.desc = .slice te) (hye : E.ty te = some ye) (hz : W5 E te = some z) (hzd : U2 yt.desc = some false)
  (he : ye.size = es /\ ye.bytes = by_ /\ z.length = es) {e0 : Nat} {vcells : List PV} (hv : vcells.length = es) (hov : vcells.all w9 = true) (hes : 0 < es /\ es < 4096) (hby : 2002 * by_ <= 281474976710656) :
  kW E P F [.lst .full e0 0 [], .v (.int .i64 ((0 : Nat) : Int)), .lst .full es 1 vcells] M (fun nk x M1 => x = .sl nk 0 0 1 (j0 1 es) /\ fresh M nk /\ M1 = seg M nk [.row .rw es vcells]) := by
 obtain ⟨he1, he2, he3⟩ := he
 refine kW.lift fun cx k0 sA vargs hfr hs ha => ?_
 cases ha with
 | cons h1 ha =>
 cases ha with
 | cons h2 ha =>
 cases ha with
 | cons h3 ha =>
 cases ha
 obtain ⟨rfl, _⟩ := h2.flat_eq
 have h1' := h1
 have h3' := h3
 obtain ⟨a, c, rfl, hcap, hodd, hn, hvv, hfull⟩ := h1.lst_view
 have hc0 := hfull rfl
 generalize hcv : (2 * 1 : Nat) = cv
 cases h3 with
 | lfull hr hl hs' hn' =>
 rename_i r off cells
 rw [hcv] at h3'
 rw [hcv]
 have hsrc : X6 E (⟨[], 0, k0, [], M⟩ : d9) te z es (some ts) (.lst .full es 1 vcells) = some (vcells, 1) := by
  unfold X6 H0
  simp only [ht, hzd, if_neg (show ¬ (1 = 0) by omega), if_true]
 have hp : O8 E (⟨[], 0, k0, [], M⟩ : d9) ts (some ts) (.lst .full e0 0 []) (.lst .full es 1 vcells) = some (.sl k0 0 0 1 (j0 1 es), ⟨[], 0, k0, [.row .rw es vcells], M⟩) := by
  unfold O8
  simp only [ht, hd, hye, hz, he1, he2, hsrc]
  rw [if_pos ⟨by omega, .inl (by trivial), by omega, by omega, hes.2, he3, hov⟩]
  rfl
 obtain ⟨v, m', g1, ⟨cx', g2, g3, g4⟩, _, _, _⟩ := V8 hE hs h1' h3' hp
 have hx0 : bC E ts es by_ [.slice a 0 c, .int .i64 ((0 : Nat) : Int), .slice (some ⟨r, off, none⟩) 1 cv] sA.m = some (v, m') := by
  unfold bC
  simp only [if_neg (show ¬ (1 = 0) by omega), if_true]
  rw [if_pos ⟨Nat.zero_le _, by simp⟩]
  exact g1
 have hx1 : F9 E ts es by_ [.slice a 0 c, .int .i64 ((0 : Nat) : Int), .slice (some ⟨r, off, none⟩) 1 cv] sA.m = some (v, m') := by
  unfold F9
  split
  ·rename_i heq
   simp only [List.cons.injEq, Value.slice.injEq, Value.int.injEq] at heq
   obtain ⟨⟨rfl, rfl, rfl⟩, ⟨_, hi⟩, hx, _⟩ := heq
   subst hi hx
   rw [if_pos rfl]
   exact hx0
  ·exact hx0
 exact ⟨v, m', cx', _, _, ⟨fun ι w args' hR hA => lU hE I hf hx1 hR hA, fun hw => g7.insert hw hx1⟩, g2, g3, g4, rfl, hfr, rfl⟩
end
end Go.Pm
namespace Go.Proofs.YtlbjplpehkgcdaaGreatDoor
open Go Go.Am Go.Pm
def B7 (x y : Ev) : Bool := x.node == y.node && x.seq == y.seq
theorem aOH (e x : Ev) (he : e.path.length <= 1000000) (hx : x.path.length <= 1000000) {M0 : c7} {a i : Nat} {w : Wm} (hM : M0 a i = some (.row w 0 (b6 e))) : T1 env Tryz.prog M0 58 [l8 x, .ptr a i 0] (bv (B7 x e || n9 e x)) := by
 refine T1.enter a6 bER (by simp) aUQ fun M k hs hk hf => ?_
 have hM' := hs _ _ _ hM
 have hld : ∀ {ag : Bool} {n o : Nat} {os : List Pm.Obj}, y6 k os M ag n (.ptr a i o) = p9 ag n o (M a i) := o9 (I6 hf hM')
 simp only [G0, Z1, Z2, Z3, Z4, Z5, f8, l8, hld, hM', b6, vI]
 cases hd : B7 x e with
 | true =>
  unfold B7 at hd
  rw [hd]
  simp only [G0, Z1, Z2, Z3, Z4, Z5, m9, o8, Bool.not_true, Bool.not_false, Bool.true_or]
  exact m6 hf rfl ⟨rfl, rfl⟩
 | false =>
  unfold B7 at hd
  rw [hd]
  simp only [G0, Z1, Z2, Z3, Z4, Z5, m9, o8, Bool.not_true, Bool.not_false, Bool.false_or]
  refine H7 (eI e x he hx) (by decide) ?_
  simp only [G0, Z1, Z2, Z3, Z4, Z5]
  exact m6 hf rfl ⟨rfl, rfl⟩
theorem aWD (e x : Ev) (he : e.path.length <= 1000000) (hx : x.path.length <= 1000000) {M0 : c7} {a i : Nat} {w : Wm} (hM : M0 a i = some (.row w 0 (b6 e))) : T1 env Tryz.prog M0 61 [l8 x, .ptr a i 0] (bv (n9 x e)) := by
 refine T1.enter a6 bE3 (by simp) aYX fun M k hs hk hf => ?_
 have hM' := hs _ _ _ hM
 have hld : ∀ {ag : Bool} {n o : Nat} {os : List Pm.Obj}, y6 k os M ag n (.ptr a i o) = p9 ag n o (M a i) := o9 (I6 hf hM')
 simp only [G0, Z1, Z2, Z3, Z4, Z5, f8, l8, hld, hM', b6]
 refine H7 (eI x e hx he) (by decide) ?_
 simp only [G0, Z1, Z2, Z3, Z4, Z5]
 exact m6 hf rfl ⟨rfl, rfl⟩
theorem qN (l : List Ev) : (l.flatMap b6).all w9 = true := by
 induction l with
 | nil => rfl
 | cons x l ih => rw [List.flatMap_cons, List.all_append, ih]; rfl
inductive ClE (M M1 : c7) (nk : Nat) (l : List Ev) : PV -> Prop where
 | nil (e : Nat) (hl : l = []) (hM : M1 = M) : ClE M M1 nk l (.lst .full e 0 [])
 | row {k : Nat} (hk : nk <= k) (hf : fresh M k) (hl : l ≠ []) (hM : M1 = seg M k [.row .rw 7 (l.flatMap b6)]) : ClE M M1 nk l (.sl k 0 0 l.length (j0 l.length 7))
theorem aQV (l : List Ev) (hl : l.length <= 1000000) (M : c7) : kW env Tryz.prog 60 [d4 l] M (fun nk x M1 => ClE M M1 nk l x) := by
 refine kW.enterR a6 bES (by simp) aWF fun k hk hf => RX.of a6 ?_
 simp only [G0, Z1, Z2, Z3, Z4, Z5, f8, d4]
 refine yC fun b hb => ?_
 simp only [G0, Z1, Z2, Z3, Z4, Z5]
 cases b with
 | true =>
  have hz : l = [] := by
   cases l with
   | nil => rfl
   | cons x l => exact absurd (hb (by simp)) (by simp)
  subst hz
  simp only [G0, Z1, Z2, Z3, Z4, Z5, Bool.xor_false]
  exact m6 hf rfl (.nil 0 rfl rfl)
 | false =>
  simp only [G0, Z1, Z2, Z3, Z4, Z5, Bool.xor_false]
  by_cases hz : l.length = 0
  ·have : l = [] := List.length_eq_zero_iff.1 hz
   subst this
   refine aL ?_
   simp only [G0, Z1, Z2, Z3, Z4, Z5, List.flatMap_nil, lR]
   exact m6 hf rfl (.nil 7 rfl rfl)
  ·have hc : (0 = 0 \/ 7 = 7) /\ (2 * (0 + l.length) + 2000) * 96 <= 281474976710656 /\ 0 + l.length <= 4611686018427387904 /\ 7 < 4096 /\ 7 = 7 /\ (l.flatMap b6).all w9 = true := ⟨.inl rfl, by omega, by omega, by decide, rfl, qN l⟩
   refine aR ?_
   rw [qV hz hc]
   simp only [G0, Z1, Z2, Z3, Z4, Z5]
   refine aB1 (v := .sl k 0 0 l.length (j0 l.length 7)) (by first | rfl | simp [c8]) ?_
   exact .row (Nat.le_refl _) hf (fun e => hz (by rw [e]; rfl)) (by simp)
end Go.Proofs.YtlbjplpehkgcdaaGreatDoor
namespace Go.Pm
open Go.RowKit Go.Am
def innM (nt k : Nat) (os : List Obj) (Q : f7 -> d9 -> Prop) : f7 -> d9 -> Prop := fun e s1 => ∃ M1, O6 s1.mem (seg M1 k os) /\ Q e ⟨s1.tm, nt, k, os, M1⟩
section
variable {E : i9} {P : Program} {rd : Option (Nat × Nat)} {Q : f7 -> d9 -> Prop} {a : RC} {tm : List (Nat × PV)} {nt k : Nat} {os : List Obj} {M : c7}
theorem RX.innM (h : ∀ k', k' ≠ k -> 0 < k' -> fresh (seg M k os) k' -> RX E P rd a ⟨tm, nt, k', [], seg M k os⟩ (Pm.innM nt k os Q)) : RX E P rd a ⟨tm, nt, k, os, M⟩ Q :=
 RX.push fun k' h1 h2 h3 => by
  have hfr : fresh (seg M k os) k' := tN (s := ⟨tm, nt, k, os, M⟩) h3 h1
  refine (h k' h1 h2 hfr).conseq fun e s1 hk hn hq => ?_
  obtain ⟨M1, e1, e2⟩ := hq
  have hn' : s1.nt = nt := hn
  exact ⟨s1, wB.refl _, os, M1, rfl, e1, by rw [hn']; exact e2⟩
theorem w7.innM (h : ∀ k', k' ≠ k -> 0 < k' -> fresh (seg M k os) k' -> RX E P rd a ⟨tm, nt, k', [], seg M k os⟩ (Pm.innM nt k os (lQ E P rd a Q))) : w7 E P rd a ⟨tm, nt, k, os, M⟩ Q :=
 w7.round (RX.innM h)
end
end Go.Pm
namespace Go.Proofs.YtlbjplpehkgcdaaGreatDoor
open Go Go.Am Go.Pm
def bM (R : List Ev) : Pm.Obj := .row .rw 7 (R.flatMap b6)
theorem vD : ∀ (R : List Ev) (i : Nat) (v : Ev), i < R.length -> g8 (R.flatMap b6) (i * 7) (b6 v) = (R.set i v).flatMap b6
 | [], i, v, h => by simp at h
 | x :: R, 0, v, _ => by
  unfold g8
  simp [b6]
 | x :: R, i + 1, v, h => by
  have ih := vD R i v (by simpa using h)
  unfold g8 at ih ⊢
  have e : (i + 1) * 7 = 7 + i * 7 := by omega
  have h7 : (b6 x).length = 7 := rfl
  rw [List.set_cons_succ, List.flatMap_cons, List.flatMap_cons, <- ih, e]
  have e1 : (b6 x ++ R.flatMap b6).take (7 + i * 7) = b6 x ++ (R.flatMap b6).take (i * 7) := by
   rw [List.take_append, h7, List.take_of_length_le (by rw [h7]; omega)]; congr 2; omega
  have e2 : (b6 x ++ R.flatMap b6).drop (7 + i * 7 + (b6 v).length) = (R.flatMap b6).drop (i * 7 + (b6 v).length) := by
   rw [List.drop_append, h7, List.drop_of_length_le (by rw [h7]; omega), List.nil_append]; congr 1; omega
  rw [e1, e2, List.append_assoc]
theorem aQA {ag : Bool} {n o : Nat} {R : List Ev} : p9 ag n o (some (bM R)) = A3 ag n (R.flatMap b6) o := rfl
theorem R5 {x : Ev} : A3 true 7 (b6 x) 0 = some (l8 x) := rfl
def Q1 (p : Ev -> Bool) (l : List Ev) : List Ev := l.filter fun x => !p x
structure Dl (p : Ev -> Bool) (l R : List Ev) (i j : Nat) : Prop where
 len : R.length = l.length
 lt : i < j
 le : j <= l.length
 keep : R.take i = Q1 p (l.take j)
 rest : R.drop j = l.drop j
section
variable {p : Ev -> Bool} {l R : List Ev} {i j : Nat}
theorem Dl.get (h : Dl p l R i j) {v : Ev} (hv : l[j]? = some v) : R[j]? = some v := by
 have h1 : (R.drop j)[0]? = (l.drop j)[0]? := by rw [h.rest]
 rw [List.getElem?_drop, List.getElem?_drop, Nat.add_zero] at h1
 rw [h1]; exact hv
theorem K3 {α : Type} {l : List α} {j : Nat} {v : α} (hv : l[j]? = some v) : l.take (j + 1) = l.take j ++ [v] := by rw [List.take_add_one, hv]; rfl
theorem iA {α : Type} {l : List α} {j : Nat} {v : α} (hv : l[j]? = some v) : j < l.length := (List.getElem?_eq_some_iff.1 hv).1
theorem Dl.out (h : Dl p l R i j) {v : Ev} (hv : l[j]? = some v) (hp : p v = true) : Dl p l R i (j + 1) := by
 have hj := iA hv
 have hl := h.lt
 refine ⟨h.len, by omega, by omega, ?_, ?_⟩
 ·rw [h.keep, K3 hv]; unfold Q1; rw [List.filter_append]; simp [hp]
 ·have : R.drop (j + 1) = (R.drop j).drop 1 := by rw [List.drop_drop]
  rw [this, h.rest, List.drop_drop]
theorem Dl.in (h : Dl p l R i j) {v : Ev} (hv : l[j]? = some v) (hp : p v = false) : Dl p l (R.set i v) (i + 1) (j + 1) := by
 have hj := iA hv
 have hl := h.lt
 have hlen := h.len
 refine ⟨by rw [List.length_set]; exact h.len, by omega, by omega, ?_, ?_⟩
 ·rw [K3 (l := R.set i v) (v := v) (by rw [List.getElem?_set_self (by omega)]), List.take_set_of_le (Nat.le_refl _), h.keep, K3 hv]
  unfold Q1; rw [List.filter_append]; simp [hp]
 ·rw [List.drop_set_of_lt (by omega)]
  have : R.drop (j + 1) = (R.drop j).drop 1 := by rw [List.drop_drop]
  rw [this, h.rest, List.drop_drop]
theorem sH {α : Type} (p : α -> Bool) : ∀ (l : List α) (i : Nat), (kJ p i l = -1 /\ l.any p = false) \/ ∃ n x, kJ p i l = ((i + n : Nat) : Int) /\ l[n]? = some x /\ p x = true /\ ∀ y ∈ l.take n, p y = false
 | [], i => .inl ⟨rfl, rfl⟩
 | x :: r, i => by
  unfold kJ
  cases h : p x with
  | true => exact .inr ⟨0, x, by simp, rfl, h, fun y hy => by simp at hy⟩
  | false =>
   rw [if_neg (by decide)]
   rcases sH p r (i + 1) with ⟨h1, h2⟩ | ⟨n, z, h1, h2, h3, h4⟩
   ·exact .inl ⟨h1, by rw [List.any_cons, h, h2]; rfl⟩
   ·refine .inr ⟨n + 1, z, by rw [h1]; congr 1; omega, by simpa using h2, h3, fun y hy => ?_⟩
    rw [List.take_succ_cons] at hy
    rcases List.mem_cons.1 hy with rfl | hy
    ·exact h
    ·exact h4 y hy
theorem Dl.start {n : Nat} {x : Ev} (hx : l[n]? = some x) (hp : p x = true) (hn : ∀ y ∈ l.take n, p y = false) : Dl p l l n (n + 1) := by
 have hj := iA hx
 refine ⟨rfl, by omega, by omega, ?_, rfl⟩
 rw [K3 hx]; unfold Q1
 rw [List.filter_append, List.filter_eq_self.2 (fun y hy => by rw [hn y hy]; rfl)]
 simp [hp]
end
theorem aJM {M : c7} {a i k : Nat} {o o' : Pm.Obj} (h : fresh (l7 M a i o) k) : fresh (l7 M a i o') k := fun y => by
 have hk : ¬ (k = a /\ i = i) := fun e => by
  have := h i
  unfold l7 at this
  rw [if_pos e] at this; cases this
 have h1 := h y
 unfold l7 at h1 ⊢
 rw [if_neg (fun e => hk ⟨e.1, rfl⟩)] at h1 ⊢
 exact h1
structure Kd (tm : List (Nat × PV)) (a n c : Nat) (f : PV) (i j : Nat) : Prop where
 t0 : c8 tm 0 = .sl a 0 0 n c
 t1 : c8 tm 1 = f
 t5 : c8 tm 5 = iv i
 t6 : c8 tm 6 = iv j
section
variable {M0 M : c7} {a k c g : Nat} {l : List Ev} {first cap : List PV} {p : Ev -> Bool}
theorem aVE (hl : l.length <= 1000000) (hs : ∀ o, Pm.Sub M0 (l7 M a 0 o)) (hf : fresh M k) (hak : a ≠ k) (Q : f7 -> d9 -> Prop)
  (hp : ∀ x ∈ l, T1 env Tryz.prog M0 g (first ++ ([l8 x] ++ cap)) (bv (p x)))
  (q1 : ∀ tm R i, Dl p l R i l.length -> Kd tm a l.length c (.fn g first cap) i l.length -> Q (.exit 0) ⟨tm, 42, k, [], l7 M a 0 (bM R)⟩) :
  ∀ d j i R N tm, N = l7 M a 0 (bM R) -> l.length - j = d -> Dl p l R i j -> Kd tm a l.length c (.fn g first cap) i j -> w7 env Tryz.prog none aJW ⟨tm, 42, k, [], N⟩ Q := by
 intro d
 induction d with
 | zero =>
  intro j i R N tm hN hd hD hK
  subst hN
  have : j = l.length := by have := hD.le; omega
  subst this
  have hK0 := hK
  obtain ⟨t0, t1, t5, t6⟩ := hK
  refine w7.round (RX.of a6 ?_)
  simp only [G0, Z1, Z2, Z3, Z4, Z5, t0, t6, R4, Int.lt_irrefl, decide_false]
  exact q1 _ R i hD ⟨t0, t1, t5, t6⟩
 | succ d ih =>
  intro j i R N tm hN hd hD hK
  subst hN
  have hj' : j < l.length := by omega
  have hjj : (j : Int) < l.length := by omega
  obtain ⟨x, hx, hdx⟩ := K2 hj'
  have hRl := hD.len
  have hxR := hD.get hx
  have hilt := hD.lt
  have hlx := x7 hxR
  have hmem := List.mem_of_getElem? hx
  have hw : IntKind.i64.wrap ((j : Int) + 1) = ((j + 1 : Nat) : Int) := by rw [f9 (by omega) (by omega)]; rfl
  have hw2 : IntKind.i64.wrap ((i : Int) + 1) = ((i + 1 : Nat) : Int) := by rw [f9 (by omega) (by omega)]; rfl
  obtain ⟨t0, t1, t5, t6⟩ := hK
  refine w7.innM fun k' hk1 hk2 hk3 => RX.of a6 ?_
  have hfk : fresh (l7 M a 0 (bM R)) k := fP hf hak
  rw [aN hfk] at hk3 ⊢
  have hak' : a ≠ k' := fun e => by subst e; have := hk3 0; unfold l7 at this; rw [if_pos ⟨rfl, rfl⟩] at this; cases this
  have hld : ∀ {ag : Bool} {n o : Nat} {os : List Pm.Obj}, y6 k' os (l7 M a 0 (bM R)) ag n (.ptr a 0 o) = p9 ag n o (some (bM R)) := fun {ag n o os} => by rw [o9 hak', y8]
  have hia := fun (kk : IntKind) => bG (k := a) (i := 0) (o := 0) (n := l.length) (c := c) (sz := 7) (kk := kk) hj'
  simp only [G0, Z1, Z2, Z3, Z4, Z5, t0, t1, t5, t6, R4, hjj, decide_true, hia, Nat.zero_add, hld, aQA, hlx, aMY, R5]
  refine cs (hp x hmem) ((hs _).sseg hk3) (by decide) ?_
  cases hpx : p x with
  | true =>
   simp only [G0, Z1, Z2, Z3, Z4, Z5, t6, hw, Bool.not_true]
   refine ⟨l7 M a 0 (bM R), ?_, ?_⟩
   ·rw [aN hfk]; exact O6.pop hk3
   ·exact ih (j + 1) i R _ _ rfl (by omega) (hD.out hx hpx) ⟨t0, t1, t5, rfl⟩
  | false =>
   have hii := fun (kk : IntKind) => bG (k := a) (i := 0) (o := 0) (n := l.length) (c := c) (sz := 7) (kk := kk) (show i < l.length by omega)
   have hiR : i < R.length := by omega
   have hso : w5 7 (i * 7) (l8 x) (some (bM R)) = some (bM (R.set i x)) := by
    have hlen := V6 R
    unfold bM
    rw [p6 (n := 7) (x := l8 x) ⟨rfl, by show i * 7 + 7 <= _; omega, rfl⟩, show k9 (l8 x) = b6 x from rfl, vD R i x hiR]
   have hst : ∀ {tm : List (Nat × PV)} {nt : Nat} {os : List Pm.Obj}, L0 tm nt k' os (l7 M a 0 (bM R)) 7 (l8 x) (.ptr a 0 (i * 7)) = some (.junk, ⟨tm, nt, k', os, l7 M a 0 (bM (R.set i x))⟩) := fun {tm nt os} => by
    rw [F1 hak', y8, hso, aH, qT]
   simp only [G0, Z1, Z2, Z3, Z4, Z5, t0, t5, t6, Bool.not_false, hii, Nat.zero_add, R5, hst, hw, hw2]
   refine ⟨l7 M a 0 (bM (R.set i x)), ?_, ?_⟩
   ·rw [aN (fP hf hak)]
    exact O6.pop (aJM hk3)
   ·exact ih (j + 1) (i + 1) _ _ _ rfl (by omega) (hD.in hx hpx) ⟨t0, t1, rfl, rfl⟩
theorem aCO {k i n c sz m : Nat} {kk : IntKind} (h1 : m <= n) (hc : n <= l6 c /\ c % 2 = 1 /\ N2 c = sz) (hs : sz < 4096) : P0 sz (.sl k i 0 n c) (some (.v (.int kk (m : Int)))) none none = some (.sl k i (m * sz) (n - m) (j0 (l6 c - m) sz)) := by
 have hp : B9 (.v (.int kk (m : Int))) = some m := H6 (n := m)
 unfold P0
 simp only [hp]
 rw [if_pos ⟨h1, hc.1, .inr ⟨hc.2.1, hc.2.2, hs⟩⟩, Nat.zero_add, if_neg (by omega)]
theorem aY4 {c sz : Nat} (h : c % 2 = 1 /\ N2 c = sz) : j0 (l6 c) sz = c := by
 obtain ⟨h1, rfl⟩ := h
 have h2 : Nat.beq (c % 2) 0 = false := by rw [h1]; rfl
 unfold j0 l6 N2
 rw [h2, cond_false]
 omega
theorem aKE {k i n c sz m : Nat} {kk : IntKind} (h1 : m <= l6 c) (hc : (c % 2 = 1 /\ N2 c = sz) /\ sz < 4096) : P0 sz (.sl k i 0 n c) none (some (.v (.int kk (m : Int)))) none = some (.sl k i 0 m c) := by
 have hp : B9 (.v (.int kk (m : Int))) = some m := H6 (n := m)
 unfold P0
 simp only [hp]
 rw [if_pos ⟨Nat.zero_le _, h1, .inr ⟨hc.1.1, hc.1.2, hc.2⟩⟩, if_neg (by omega), Nat.zero_mul, Nat.sub_zero, Nat.sub_zero, aY4 hc.1]
def jL : List PV := [.v (.int .i64 0), .v (.int .i64 0), .v (.string ⟨#[]⟩), .v (.int .i64 0), .v (.int .i64 0), .lst .full 0 0 [], .lst .full 0 0 []]
theorem aQ2 {n : Nat} (j : Nat) (y : PV) (h : y ∈ (List.replicate n jL).flatten) : NK j y := by
 obtain ⟨l, h1, h2⟩ := List.mem_flatten.1 h
 rw [List.eq_of_mem_replicate h1] at h2
 unfold jL at h2
 simp only [List.mem_cons, List.not_mem_nil, or_false] at h2
 rcases h2 with rfl | rfl | rfl | rfl | rfl | rfl | rfl
 ·exact .v _
 ·exact .v _
 ·exact .v _
 ·exact .v _
 ·exact .v _
 ·exact .lst (fun _ e => by cases e) .nil
 ·exact .lst (fun _ e => by cases e) .nil
structure Cut (M M1 : c7) (a n c : Nat) (out : List Ev) (x : PV) : Prop where
 val : x = .sl a 0 0 out.length c
 mem : ∃ rest, M1 = l7 M a 0 (.row .rw 7 (out.flatMap b6 ++ rest)) /\ (out.flatMap b6 ++ rest).length = n * 7 /\ (out.flatMap b6 ++ rest).all w9 = true /\ ∀ j, ∀ y ∈ rest, NK j y
theorem aN1 (hl : l.length <= 1000000) (hs : ∀ o, Pm.Sub M0 (l7 M a 0 o)) (hM : M a 0 = some (bM l)) (hcap : l.length <= l6 c /\ c % 2 = 1 /\ N2 c = 7)
  (hp : ∀ x ∈ l, T1 env Tryz.prog M0 g (first ++ ([l8 x] ++ cap)) (bv (p x))) :
  PT env Tryz.prog 59 [.sl a 0 0 l.length c, .fn g first cap] M (fun x M1 => Cut M M1 a l.length c (Q1 p l) x) := by
 have hMM : l7 M a 0 (bM l) = M := by
  funext x y
  unfold l7
  split
  ·rename_i h; rw [h.1, h.2, hM]
  ·rfl
 have hs0 : Pm.Sub M0 M := by have := hs (bM l); rwa [hMM] at this
 refine PT.enterR a6 bAJ (by simp) aN5 fun k hk hf => RX.of a6 ?_
 have hak : a ≠ k := fun e => by subst e; rw [hf 0] at hM; cases hM
 have hV : oM M (.sl a 0 0 l.length c) l := by
  have h1 : M a 0 = some (.row .rw 7 (l.flatMap b6 ++ [])) := by rw [List.append_nil]; exact hM
  exact .row h1
 simp only [G0, Z1, Z2, Z3, Z4, Z5, f8]
 refine sL ((xC hV hl g first cap p fun x hx => (hp x hx).sub hs0)) (by rw [aN hf]; exact Pm.Sub.refl _) (by decide) ?_
 rcases sH p l 0 with ⟨h1, h2⟩ | ⟨n, x, h1, h2, h3, h4⟩
 ·rw [h1]
  simp only [G0, Z1, Z2, Z3, Z4, Z5, beq_self_eq_true]
  have hkp : Q1 p l = l := by
   unfold Q1
   rw [List.filter_eq_self]
   intro y hy
   rw [List.any_eq_false] at h2
   have := h2 y hy
   simpa using this
  refine m6 hf rfl ⟨?_, [], ?_, ?_, ?_, fun j y hy => by simp at hy⟩
  ·rw [hkp]; rfl
  ·rw [hkp, List.append_nil]; exact hMM.symm
  ·rw [hkp, List.append_nil]; exact V6 l
  ·rw [hkp, List.append_nil]; exact qN l
 ·rw [h1, Nat.zero_add]
  have hD := Dl.start h2 h3 h4
  have hn := iA h2
  have hne : ((n : Int) == -1) = false := by simp
  have hw : IntKind.i64.wrap ((n : Int) + 1) = ((n + 1 : Nat) : Int) := by rw [f9 (by omega) (by omega)]; rfl
  simp only [G0, Z1, Z2, Z3, Z4, Z5, hne, hw]
  refine RX.loop (aVE (c := c) hl hs hf hak _ hp (fun tm R i hD' hK => ?_) (l.length - (n + 1)) (n + 1) n l M _ hMM.symm rfl hD (by exact ⟨rfl, rfl, rfl, rfl⟩))
  obtain ⟨t0, t1, t5, t6⟩ := hK
  have hi := hD'.lt
  have hRl := hD'.len
  have hkR : R.take i = Q1 p l := by rw [hD'.keep, List.take_length]
  have hki : (Q1 p l).length = i := by rw [<- hkR, List.length_take]; omega
  have hfrom := aCO (k := a) (i := 0) (n := l.length) (c := c) (sz := 7) (m := i) (kk := .i64) (by omega) ⟨hcap.1, hcap.2⟩ (by decide)
  have hto := aKE (k := a) (i := 0) (n := l.length) (c := c) (sz := 7) (m := i) (kk := .i64) (by omega) ⟨hcap.2, by decide⟩
  have hne2 : l.length - i ≠ 0 := by omega
  have hlr := V6 R
  have hcl : ∀ {tm : List (Nat × PV)} {c' : Nat}, iL ⟨tm, 42, k, [], l7 M a 0 (bM R)⟩ 7 [.v (.int .i64 0), .v (.int .i64 0), .v (.string ⟨#[]⟩), .v (.int .i64 0), .v (.int .i64 0), .lst .full 0 0 [], .lst .full 0 0 []] (.sl a 0 (i * 7) (l.length - i) c') =
    some (.junk, ⟨tm, 42, k, [], l7 M a 0 (.row .rw 7 (g8 (R.flatMap b6) (i * 7) (List.replicate (l.length - i) jL).flatten))⟩) := fun {tm c'} => by
   have h9 := aHS (tm := tm) (nt := 42) (k := k) (os := []) (M := l7 M a 0 (bM R)) (c := c') (sz := 7) (o := i * 7) (z := jL) hne2 hak (y8 M a 0 (bM R)) ⟨by omega, rfl, rfl⟩
   rw [qT] at h9
   exact h9
  simp only [G0, Z1, Z2, Z3, Z4, Z5, t0, t5, hfrom, aR5, hcl, hto]
  have hsp : g8 (R.flatMap b6) (i * 7) (List.replicate (l.length - i) jL).flatten = (Q1 p l).flatMap b6 ++ (List.replicate (l.length - i) jL).flatten := by
   unfold g8
   have hz : ((List.replicate (l.length - i) jL).flatten).length = (l.length - i) * 7 := dY jL _
   rw [hz, List.drop_of_length_le (by rw [hlr]; omega), List.append_nil]
   congr 1
   rw [<- hkR, <- List.take_append_drop i R, List.flatMap_append, List.take_left' (by rw [V6, List.length_take]; omega), List.take_left' (by rw [List.length_take]; omega)]
  refine aB1 (v := .sl a 0 0 i c) rfl ⟨by rw [hki], (List.replicate (l.length - i) jL).flatten, ?_, ?_, ?_, fun j y hy => aQ2 j y hy⟩
  ·rw [aN (fP hf hak), hsp]
  ·rw [List.length_append, V6, hki, dY]
   show i * 7 + (l.length - i) * 7 = _
   omega
  ·rw [List.all_append, qN, qS rfl]; rfl
end
end Go.Proofs.YtlbjplpehkgcdaaGreatDoor
namespace Go.Pm
open Go.RowKit Go.Am
section
variable {E : i9} {P : Program} {d g n : Nat} {w : Bool} {ar : List Operand} {A : Operand} {ld : List RD} {tm : List (Nat × PV)} {nt k : Nat} {os : List Obj} {M : c7} {R : d9 -> Prop} {first cap : List PV}
theorem bCR (hg : c8 tm g = .v (.bool w)) (hA : l4 tm A = .fn n first cap) (h : cK E P (some d) (.d ld) tm nt k os M R (ar.map (l4 tm)) (.fn n first cap)) : V0 E P (dCG true d g w A ar :: ld) ⟨tm, nt, k, os, M⟩ R := by
 have hg' : rg (some (g, w)) ⟨tm, nt, k, os, M⟩ = some true := by rw [aCB, hg]; cases w <;> rfl
 rcases h with ⟨g', f', c', e, h⟩ | ⟨a, i, e, _⟩
 ·cases e; exact .inl ⟨hg', _, _, _, hA, h⟩
 ·cases e
theorem bCX (hg : c8 tm g = .v (.bool (!w))) (h : nV E P d (.d ld) tm nt k os M R (some (.tup []))) : V0 E P (dCG true d g w A ar :: ld) ⟨tm, nt, k, os, M⟩ R := by
 have hg' : rg (some (g, w)) ⟨tm, nt, k, os, M⟩ = some false := by rw [aCB, hg]; cases w <;> rfl
 rw [<- bW] at h
 exact .inr (.inl ⟨rfl, hg', h⟩)
end
end Go.Pm
namespace Go.Proofs.YtlbjplpehkgcdaaGreatDoor
open Go Go.Am Go.Pm
def nO (x y : Ev) : Bool := ltB x.node x.seq y.node y.seq
def F5 (l : List Ev) : Prop := ∀ (i j : Nat) (x y : Ev), i < j -> l[i]? = some x -> l[j]? = some y -> nO x y = true
theorem fT {x y z : Ev} (h1 : nO x y = true) (h2 : nO y z = true) : nO x z = true := by
 unfold nO ltB at *
 simp only [Bool.or_eq_true, Bool.and_eq_true, beq_iff_eq, decide_eq_true_eq] at *
 omega
def B3 (l : List Ev) (e : Ev) : Nat := (l.takeWhile fun x => nO x e).length
theorem uX {e : Ev} : ∀ {l : List Ev} {i : Nat}, i <= l.length -> (∀ m x, m < i -> l[m]? = some x -> nO x e = true) -> (∀ x, l[i]? = some x -> nO x e = false) -> B3 l e = i
 | [], i, h, _, _ => by simp at h; subst h; rfl
 | x :: l, 0, _, _, h => by
  unfold B3
  rw [List.takeWhile_cons, h x rfl]; rfl
 | x :: l, i + 1, h, h1, h2 => by
  unfold B3
  rw [List.takeWhile_cons, h1 0 x (by omega) rfl, if_pos rfl, List.length_cons]
  have := uX (l := l) (i := i) (e := e) (by simpa using h) (fun m y hm hy => h1 (m + 1) y (by omega) (by simpa using hy)) (fun y hy => h2 y (by simpa using hy))
  unfold B3 at this
  rw [this]
def pW (l : List Ev) (e : Ev) (i : Nat) : Bool := match l[i]? with
 | some x => aJA x.node x.seq e.node e.seq == 0
 | none => false
theorem aXV {n : Nat} {t : Nat} {c d : Bool} : C0 env .shr t c d (.v (.int .u64 (n : Int))) (.v (.int .u64 1)) = some (.v (.int .u64 ((n / 2 : Nat) : Int))) := by
 have h : ¬ ((1 : Int) < 0) := by decide
 have e : (n : Int).fdiv (2 ^ min (1 : Int).toNat IntKind.u64.bits) = ((n / 2 : Nat) : Int) := by
  show (n : Int).fdiv 2 = _
  rw [Int.fdiv_eq_ediv_of_nonneg _ (by decide)]
  simp
 simp only [C0, E0, iV, if_neg h, e, Option.map_some]
theorem toU {n : Nat} {k : IntKind} (h : n < 9223372036854775808) : dB .u64 (.v (.int k (n : Int))) = some (.v (.int .u64 (n : Int))) := by
 simp only [dB, IntWalk.u64_in (n : Int) (by omega)]
theorem toI {n : Nat} {k : IntKind} (h : n < 9223372036854775808) : dB .i64 (.v (.int k (n : Int))) = some (iv (n : Int)) := by
 simp only [dB, f9 (show -9223372036854775808 <= (n : Int) by omega) (show (n : Int) <= 9223372036854775807 by omega)]
structure Kb (tm : List (Nat × PV)) (v : PV) (n k i j : Nat) : Prop where
 t0 : c8 tm 0 = v
 t2 : c8 tm 2 = .fn 63 [] []
 t4 : c8 tm 4 = .ptr k 0 0
 t8 : c8 tm 8 = iv n
 t9 : c8 tm 9 = iv i
 t10 : c8 tm 10 = iv j
section
variable {M0 : c7} {v : PV} {l : List Ev} {e : Ev}
theorem aUS (hv : oM M0 v l) (hl : l.length <= 1000000) (hso : F5 l) (M : c7) (k : Nat) (Q : f7 -> d9 -> Prop) (hs : Pm.Sub M0 M) (hf : fresh M k)
  (q1 : ∀ tm i, B3 l e = i -> Kb tm v l.length k i i -> Q (.exit 0) ⟨tm, 49, k, [.row .rw 0 (b6 e)], M⟩) :
  ∀ d i j tm, j - i = d -> i <= j -> j <= l.length -> (∀ m x, m < i -> l[m]? = some x -> nO x e = true) -> (∀ m x, j <= m -> l[m]? = some x -> nO x e = false) -> Kb tm v l.length k i j →
  w7 env Tryz.prog none aMN ⟨tm, 49, k, [.row .rw 0 (b6 e)], M⟩ Q := by
 intro d
 induction d using Nat.strongRecOn with
 | ind d ih =>
  intro i j tm hd hij hj h1 h2 hK
  obtain ⟨t0, t2, t4, t8, t9, t10⟩ := hK
  refine w7.round (RX.of a6 ?_)
  by_cases hlt : i < j
  ·have hii : (i : Int) < (j : Int) := by omega
   have hs1 : IntKind.i64.wrap ((i : Int) + (j : Int)) = ((i + j : Nat) : Int) := by rw [f9 (by omega) (by omega)]; omega
   have hu : ∀ {k : IntKind}, dB .u64 (.v (.int k ((i + j : Nat) : Int))) = some (.v (.int .u64 ((i + j : Nat) : Int))) := fun {k} => toU (by omega)
   have hi : ∀ {k : IntKind}, dB .i64 (.v (.int k (((i + j) / 2 : Nat) : Int))) = some (iv (((i + j) / 2 : Nat) : Int)) := fun {k} => toI (by omega)
   generalize hh : (i + j) / 2 = h at *
   have hhj : h < j := by omega
   have hih : i <= h := by omega
   obtain ⟨x, hx, -⟩ := K2 (show h < l.length by omega)
   obtain ⟨p, hp, hlp⟩ := (hv.sub hs).at hx hf
   have hw : IntKind.i64.wrap ((h : Int) + 1) = ((h + 1 : Nat) : Int) := by rw [f9 (by omega) (by omega)]; rfl
   simp only [G0, Z1, Z2, Z3, Z4, Z5, t0, t2, t4, t9, t10, hii, decide_true, hs1, hu, aXV, hh, hi, hp, hlp, R5]
   refine d_C (n := 63) (first := []) (cap := []) ?_ rfl
   simp only [G0, Z1, Z2, Z3, Z4, Z5]
   refine H7 (aGC x e) (by decide) ?_
   have hlx := aGY x.node x.seq e.node e.seq
   cases hc : nO x e with
   | true =>
    unfold nO at hc
    rw [hc] at hlx
    simp only [G0, Z1, Z2, Z3, Z4, Z5, hlx, hw]
    refine ih (j - (h + 1)) (by omega) (h + 1) j _ rfl (by omega) hj (fun m y hm hy => ?_) h2 ⟨t0, t2, t4, t8, rfl, t10⟩
    rcases Nat.lt_or_ge m h with h3 | h3
    ·exact fT (hso m h y x h3 hy hx) hc
    ·have : m = h := by omega
     subst this
     rw [hx] at hy; cases hy; exact hc
   | false =>
    have hc' := hc
    unfold nO at hc
    rw [hc] at hlx
    simp only [G0, Z1, Z2, Z3, Z4, Z5, hlx, hw]
    refine ih (h - i) (by omega) i h _ rfl hih (by omega) h1 (fun m y hm hy => ?_) ⟨t0, t2, t4, t8, t9, rfl⟩
    rcases Nat.lt_or_ge h m with h3 | h3
    ·cases hq : nO y e with
     | false => rfl
     | true =>
      have := fT (hso h m x y h3 hx hy) hq
      rw [hc'] at this; cases this
    ·have : m = h := by omega
     subst this
     rw [hx] at hy; cases hy; exact hc'
  ·have hij' : i = j := by omega
   subst hij'
   simp only [G0, Z1, Z2, Z3, Z4, Z5, t9, t10, Int.lt_irrefl, decide_false]
   exact q1 _ i (uX hj h1 fun x hx => h2 i x (Nat.le_refl _) hx) ⟨t0, t2, t4, t8, t9, t10⟩
theorem aA0 (hv : oM M0 v l) (hl : l.length <= 1000000) (hso : F5 l) (e : Ev) : T1 env Tryz.prog M0 62 [v, l8 e, .fn 63 [] []] (.tup [iv (B3 l e : Nat), bv (pW l e (B3 l e))]) := by
 refine T1.enter a6 bEY (by simp) aUF fun M k hs hk hf => ?_
 simp only [G0, Z1, Z2, Z3, Z4, Z5, f8, hv.len, l8]
 refine RX.loop (aUS hv hl hso M k _ hs hf (fun tm i hb hK => ?_) l.length 0 l.length _ rfl (Nat.zero_le _) (Nat.le_refl _) (fun m x h => by omega) (fun m x h hx => by rw [List.getElem?_eq_none h] at hx; cases hx) (by exact ⟨rfl, rfl, rfl, rfl, rfl, rfl⟩))
 obtain ⟨t0, t2, t4, t8, t9, t10⟩ := hK
 rcases Nat.lt_or_ge i l.length with hi | hi
 ·have hii : (i : Int) < l.length := by omega
  obtain ⟨x, hx, -⟩ := K2 hi
  obtain ⟨p, hp, hlp⟩ := (hv.sub hs).at hx hf
  simp only [G0, Z1, Z2, Z3, Z4, Z5, t0, t2, t4, t8, t9, hii, decide_true, hp, hlp, R5]
  refine bCR (n := 63) (first := []) (cap := []) rfl rfl ?_
  simp only [G0, Z1, Z2, Z3, Z4, Z5]
  refine H7 (aGC x e) (by decide) ?_
  simp only [G0, Z1, Z2, Z3, Z4, Z5]
  refine qH (v1 := iv (i : Nat)) (v2 := bv (pW l e i)) hf rfl ?_ ⟨by rw [hb], rfl⟩
  unfold pW
  rw [hx]; rfl
 ·have hii : ¬ (i : Int) < l.length := by omega
  simp only [G0, Z1, Z2, Z3, Z4, Z5, t0, t2, t4, t8, t9, hii, decide_false]
  refine bCX rfl ?_
  simp only [G0, Z1, Z2, Z3, Z4, Z5]
  refine qH (v1 := iv (i : Nat)) (v2 := bv (pW l e i)) hf rfl ?_ ⟨by rw [hb], rfl⟩
  unfold pW
  rw [List.getElem?_eq_none hi]; rfl
end
end Go.Proofs.YtlbjplpehkgcdaaGreatDoor
namespace Go.Proofs.YtlbjplpehkgcdaaGreatDoor
open Go Go.Am Go.Pm
theorem aZ2 : ∃ yt ye z, env.ty 22 = some yt /\ yt.desc = .slice 30 /\ env.ty 30 = some ye /\ W5 env 30 = some z /\ ye.size = 7 /\ ye.bytes = 96 /\ z.length = 7 := by
 have h : (match env.ty 22 with
  | some y => (match y.desc with
   | .slice e => (match env.ty 30 with
    | some ye => (match W5 env 30 with
     | some z => Nat.beq e 30 && (Nat.beq ye.size 7 && (Nat.beq ye.bytes 96 && Nat.beq z.length 7))
     | none => false)
    | none => false)
   | _ => false)
  | none => false) = true := by kernel_rfl
 cases hy : env.ty 22 with
 | none => rw [hy] at h; cases h
 | some y =>
  rw [hy] at h
  dsimp only at h
  split at h
  ·rename_i e he
   cases hye : env.ty 30 with
   | none => rw [hye] at h; cases h
   | some ye =>
    rw [hye] at h
    dsimp only at h
    cases hz : W5 env 30 with
    | none => rw [hz] at h; cases h
    | some z =>
     rw [hz] at h
     simp only [Bool.and_eq_true] at h
     obtain ⟨h1, h2, h3, h4⟩ := h
     have := Nat.eq_of_beq_eq_true h1
     subst this
     exact ⟨y, ye, z, rfl, he, rfl, rfl, Nat.eq_of_beq_eq_true h2, Nat.eq_of_beq_eq_true h3, Nat.eq_of_beq_eq_true h4⟩
  ·cases h
theorem aM6 (k : Nat) (l : List UInt8) : NK k (n7 l) := .lst (fun _ e => by cases e) (jM.of fun x hx => by
 obtain ⟨b, _, rfl⟩ := List.mem_map.1 hx
 exact .v _)
theorem aL9 (k : Nat) (l : List d6) : NK k (d8 l) := .lst (fun _ e => by cases e) (jM.of fun x hx => by
 obtain ⟨s, _, hs⟩ := List.mem_flatMap.1 hx
 unfold c9 at hs
 simp only [List.mem_cons, List.not_mem_nil, or_false] at hs
 rcases hs with rfl | rfl | rfl <;> exact .v _)
theorem aOQ (k : Nat) (e : Ev) : ∀ x ∈ b6 e, NK k x := fun x hx => by
 unfold b6 at hx
 simp only [List.mem_cons, List.not_mem_nil, or_false] at hx
 rcases hx with rfl | rfl | rfl | rfl | rfl | rfl | rfl
 ·exact .v _
 ·exact .v _
 ·exact .v _
 ·exact .v _
 ·exact .v _
 ·exact aM6 _ _
 ·exact aL9 _ _
theorem aWJ (k : Nat) (l : List Ev) : ∀ x ∈ l.flatMap b6, NK k x := fun x hx => by
 obtain ⟨e, _, he⟩ := List.mem_flatMap.1 hx
 exact aOQ k e x he
def qU (o : List Ev) (e : Ev) : List Ev := o.take (B3 o e) ++ (e :: o.drop (B3 o e))
def D0 (l : List Ev) (e : Ev) : List Ev := if l.any (fun x => B7 x e || n9 e x) then l else qU (Q1 (fun x => n9 x e) l) e
theorem vR (l : List Ev) (e : Ev) : B3 l e <= l.length := by unfold B3; exact (List.takeWhile_sublist _).length_le
theorem F5.keep {l : List Ev} (h : F5 l) (p : Ev -> Bool) : F5 (Q1 p l) := by
 have h1 : l.Pairwise (fun x y => nO x y = true) := by
  rw [List.pairwise_iff_getElem]
  intro i j hi hj hij
  exact h i j _ _ hij (List.getElem?_eq_getElem hi) (List.getElem?_eq_getElem hj)
 have h2 : (Q1 p l).Pairwise (fun x y => nO x y = true) := h1.sublist List.filter_sublist
 intro i j x y hij hx hy
 obtain ⟨hi, rfl⟩ := List.getElem?_eq_some_iff.1 hx
 obtain ⟨hj, rfl⟩ := List.getElem?_eq_some_iff.1 hy
 exact (List.pairwise_iff_getElem.1 h2) i j hi hj hij
def wF (k i : Nat) (o : Pm.Obj) : c7 := l7 (fun _ _ => none) k i o
theorem bJ {M : c7} {k i : Nat} {o : Pm.Obj} (h : M k i = some o) : Pm.Sub (wF k i o) M := fun a b o' e => by
 unfold wF l7 at e
 split at e
 ·rename_i hc; obtain ⟨rfl, rfl⟩ := hc; cases e; exact h
 ·cases e
theorem V3 {M : c7} {j k : Nat} {os : List Pm.Obj} (h : fresh (seg M k os) j) (hj : j ≠ k) : fresh M j := fun i => by
 have := h i
 rwa [g6 _ _ _ hj] at this
theorem aFB {M : c7} {k j : Nat} {os : List Pm.Obj} {o : Pm.Obj} (hf : fresh M k) (hj : fresh M j) (hjk : j ≠ k) : O6 (seg (seg M j [o]) k os) (l7 M j 0 o) := fun a i o' e => by
 unfold l7 at e
 split at e
 ·rename_i hc
  obtain ⟨rfl, rfl⟩ := hc
  cases e
  exact ⟨o, by rw [g6 _ _ _ hjk, e8]; rfl, .refl _⟩
 ·refine ⟨o', ?_, .refl _⟩
  have h1 : a ≠ k := fun q => by subst q; rw [hf i] at e; cases e
  have h2 : a ≠ j := fun q => by subst q; rw [hj i] at e; cases e
  rw [g6 _ _ _ h1, g6 _ _ _ h2]; exact e
theorem fG {k i : Nat} {o : Pm.Obj} : wF k i o k i = some o := y8 _ _ _ _
theorem aHY (e0 g : Nat) (first cap : List PV) : A0 env Tryz.prog 59 [.lst .full e0 0 [], .fn g first cap] (.lst .full e0 0 []) := fun M => by
  refine PT.enterR a6 bAJ (by simp) aN5 fun k hk hf => RX.of a6 ?_
  simp only [G0, Z1, Z2, Z3, Z4, Z5, f8]
  refine sL (xC (M0 := fun _ _ => none) (oM.nil .full e0) (by simp) g first cap (fun _ => false) (fun x hx => by simp at hx)) (fun _ _ _ e => by cases e) (by decide) ?_
  simp only [G0, Z1, Z2, Z3, Z4, Z5, kJ, beq_self_eq_true]
  exact m6 hf rfl ⟨rfl, rfl⟩
theorem qM {M : c7} {k : Nat} {o o' : Pm.Obj} : l7 (seg M k [o]) k 0 o' = seg M k [o'] := by
 funext a i
 unfold l7
 by_cases h : a = k /\ i = 0
 ·obtain ⟨rfl, rfl⟩ := h; rw [if_pos ⟨rfl, rfl⟩, e8]; rfl
 ·rw [if_neg h]
  by_cases ha : a = k
  ·subst ha
   rw [e8, e8]
   cases i with
   | zero => exact absurd ⟨rfl, rfl⟩ h
   | succ i => rfl
  ·rw [g6 _ _ _ ha, g6 _ _ _ ha]
theorem aMQ {M : c7} {k j j2 : Nat} {os : List Pm.Obj} {o g : Pm.Obj} (hf : fresh M k) (hj : fresh M j) (hj2 : fresh M j2) (h1 : j2 ≠ k) : O6 (seg (seg (seg M j [g]) j2 [o]) k os) (l7 M j2 0 o) := fun a i o' e => by
 unfold l7 at e
 split at e
 ·rename_i hc
  obtain ⟨rfl, rfl⟩ := hc
  cases e
  exact ⟨o, by rw [g6 _ _ _ h1, e8]; rfl, .refl _⟩
 ·refine ⟨o', ?_, .refl _⟩
  have q1 : a ≠ k := fun q => by subst q; rw [hf i] at e; cases e
  have q2 : a ≠ j := fun q => by subst q; rw [hj i] at e; cases e
  have q3 : a ≠ j2 := fun q => by subst q; rw [hj2 i] at e; cases e
  rw [g6 _ _ _ q1, g6 _ _ _ q3, g6 _ _ _ q2]; exact e
theorem aO3 (O : List Ev) (b : Nat) (h : b <= O.length) : (O.flatMap b6).take (b * 7) = (O.take b).flatMap b6 := by
 conv => lhs; rw [<- List.take_append_drop b O, List.flatMap_append]
 exact List.take_left' (by rw [V6, List.length_take]; omega)
theorem aPV (O : List Ev) (b : Nat) (h : b <= O.length) : (O.flatMap b6).drop (b * 7) = (O.drop b).flatMap b6 := by
 conv => lhs; rw [<- List.take_append_drop b O, List.flatMap_append]
 exact List.drop_left' (by rw [V6, List.length_take]; omega)
section
variable {l : List Ev} {e : Ev}
theorem aUW (hl : l.length <= 100000) (hp : ∀ x ∈ l, x.path.length <= 1000000) (he : e.path.length <= 1000000) (h : l.any (fun x => B7 x e || n9 e x) = true) : A0 env Tryz.prog 37 [d4 l, l8 e] (d4 l) := fun M => by
 refine PT.enterR a6 bAA (by simp) aKD fun k hk hf => RX.of a6 ?_
 simp only [G0, Z1, Z2, Z3, Z4, Z5, f8, l8]
 refine sL (iM (M0 := wF k 0 (.row .rw 0 (b6 e))) (oM.enc _ l) (by omega) 58 [] [.ptr k 0 0] (fun x => B7 x e || n9 e x) (fun x hx => aOH e x he (hp x hx) (w := .rw) fG)) (bJ (by rw [e8]; rfl)) (by decide) ?_
 rw [h]
 simp only [G0, Z1, Z2, Z3, Z4, Z5]
 exact m6 hf rfl ⟨rfl, rfl⟩
theorem aPW (hl : l.length <= 100000) (hp : ∀ x ∈ l, x.path.length <= 1000000) (he : e.path.length <= 1000000) (hso : F5 l) (h : l.any (fun x => B7 x e || n9 e x) = false) : A0 env Tryz.prog 37 [d4 l, l8 e] (d4 (qU (Q1 (fun x => n9 x e) l) e)) := fun M => by
  obtain ⟨yt, ye, z, hty, htd, hte, htz, hz1, hz2, hz3⟩ := aZ2
  have hzd : U2 yt.desc = some false := by rw [htd]; rfl
  refine PT.freeze (kW.enterR a6 bAA (by simp) aKD fun k hk hf => RX.of a6 ?_)
  simp only [G0, Z1, Z2, Z3, Z4, Z5, f8, l8]
  refine sL (iM (M0 := wF k 0 (.row .rw 0 (b6 e))) (oM.enc _ l) (by omega) 58 [] [.ptr k 0 0] (fun x => B7 x e || n9 e x) (fun x hx => aOH e x he (hp x hx) (w := .rw) fG)) (bJ (by rw [e8]; rfl)) (by decide) ?_
  rw [h]
  simp only [G0, Z1, Z2, Z3, Z4, Z5]
  refine cmk ((aQV l (by omega) _).mono fun nk x M1 hcl hnk => ?_)
  cases hcl with
  | nil e0 hl0 hM1 =>
    subst hl0 hM1
    refine ⟨_, M, rfl, .refl _, by decide, ?_⟩
    simp only [G0, Z1, Z2, Z3, Z4, Z5]
    refine H7 (aHY e0 61 [] [.ptr k 0 0]) (by decide) ?_
    simp only [G0, Z1, Z2, Z3, Z4, Z5, R5]
    refine sL (aA0 (M0 := fun _ _ => none) (oM.nil .full e0) (by simp) (fun i j x y _ hx => by simp at hx) e) (fun _ _ _ e => by cases e) (by decide) ?_
    have hb0 : B3 [] e = 0 := rfl
    have hfill : U6 7 [.v (.int .i64 0), .v (.int .i64 0), .v (.string ⟨#[]⟩), .v (.int .i64 0), .v (.int .i64 0), .lst .full 0 0 [], .lst .full 0 0 []] [(0, l8 e)] = some (b6 e) := rfl
    rw [hb0]
    simp only [G0, Z1, Z2, Z3, Z4, Z5, R5, e_B]
    refine aL ?_
    simp only [G0, Z1, Z2, Z3, Z4, Z5, hfill]
    refine cmk ((PT.insert0 a6 Ins64.insFn aZQ hty htd hte htz hzd ⟨hz1, hz2, hz3⟩ (vcells := b6 e) rfl rfl ⟨by decide, by decide⟩ (by decide)).mono fun nk2 x M1 hq hnk2 => ?_)
    obtain ⟨rfl, hfr, rfl⟩ := hq
    have hne : nk2 ≠ k := Nat.ne_of_gt hnk2
    refine ⟨_, seg M nk2 [.row .rw 7 (b6 e)], rfl, O6.of_eq (dO (Ne.symm hne)), by decide, ?_⟩
    simp only [G0, Z1, Z2, Z3, Z4, Z5]
    refine aB1 (v := .sl nk2 0 0 1 (j0 1 7)) rfl ⟨nk2, 0, 7, .rw, b6 e, _, Nat.le_of_lt hnk2, ?_, jM.of (aOQ _ e), .here (by show 1 * 7 <= 7; decide) (by decide) (.inr (by decide)), rfl, trivial⟩
    exact aFB hf (V3 hfr hne) hne
  | @row k1 hk1 hf1 hl1 hM1 =>
    subst hM1
    have hne1 : k1 ≠ k := by omega
    have hfk1 : fresh M k1 := V3 hf1 hne1
    have hcap := bT (n := l.length) (es := 7) (by decide)
    have hl0 : 0 < l.length := List.length_pos_iff.2 hl1
    generalize hO : Q1 (fun x => n9 x e) l = O
    have hOl : O.length <= l.length := by rw [<- hO]; exact List.length_filter_le _ _
    have hOs : F5 O := by rw [<- hO]; exact hso.keep _
    refine ⟨_, seg M k1 [bM l], rfl, O6.of_eq (dO (Ne.symm hne1)), by decide, ?_⟩
    simp only [G0, Z1, Z2, Z3, Z4, Z5]
    refine cm ((aN1 (M0 := wF k 0 (.row .rw 0 (b6 e))) (a := k1) (c := j0 l.length 7) (l := l) (g := 61) (first := []) (cap := [.ptr k 0 0]) (p := fun x => n9 x e) (by omega) (fun o => bJ ?_) ?_ ⟨by rw [hcap.1]; exact Nat.le_refl _, hcap.2⟩
      (fun x hx => aWD e x he (hp x hx) (w := .rw) fG)).mono fun x M1 hcut => ?_)
    · rw [D8 (fun h => hne1 h.1.symm), e8]; rfl
    · rw [g6 _ _ _ hne1, e8]; rfl
    rw [hO] at hcut
    obtain ⟨rfl, rest, rfl, hrl, hro, hrk⟩ := hcut
    refine ⟨[.row .rw 0 (b6 e)], seg M k1 [.row .rw 7 (O.flatMap b6 ++ rest)], rfl, O6.of_eq ?_, by decide, ?_⟩
    · rw [cU hne1, qM]
    simp only [G0, Z1, Z2, Z3, Z4, Z5, R5]
    refine sL (aA0 (M0 := wF k1 0 (.row .rw 7 (O.flatMap b6 ++ rest))) (oM.row fG) (by omega) hOs e) (bJ ?_) (by decide) ?_
    · rw [g6 _ _ _ hne1, e8]; rfl
    have hfill : U6 7 [.v (.int .i64 0), .v (.int .i64 0), .v (.string ⟨#[]⟩), .v (.int .i64 0), .v (.int .i64 0), .lst .full 0 0 [], .lst .full 0 0 []] [(0, l8 e)] = some (b6 e) := rfl
    have hb := vR O e
    have hcl : (O.flatMap b6 ++ rest).take (O.length * 7) = O.flatMap b6 := List.take_left' (V6 O)
    simp only [G0, Z1, Z2, Z3, Z4, Z5, R5, e_B]
    refine aR ?_
    simp only [G0, Z1, Z2, Z3, Z4, Z5, aLB, hfill, aQM]
    refine cmk ((PT.insert a6 Ins64.insFn aZQ hty htd hte htz hzd ⟨hz1, hz2, hz3⟩ (k := k1) (i := 0) (n := O.length) (L := l.length) (idx := B3 O e) (kv := k) (iv := 1) (cells := O.flatMap b6 ++ rest) (vcells := b6 e)
      ?_ ?_ (fun h => hne1 h.1.symm) hrl hOl hl0 hb rfl hro rfl ⟨by decide, by decide, by decide⟩ ⟨by omega, by omega⟩).mono fun nk2 x M1 hq hnk2 => ?_)
    · rw [g6 _ _ _ hne1, e8]; rfl
    · rw [e8]; rfl
    obtain ⟨a, b, w, c, cells, rfl, hc, hcn, hct, hold, hM⟩ := hq
    have hnk : ∀ j, jM j cells := fun j => jM.of fun y hy => by
      rcases List.mem_append.1 (hold y hy) with h | h
      · rcases List.mem_append.1 h with h | h
        · exact aWJ j O y h
        · exact hrk j y h
      · exact aOQ j e y h
    have hy : (PV.lst .no 7 (O.length + 1) (cells.take ((O.length + 1) * 7))) = d4 (qU O e) := by
      rw [hct, hcl, aO3 O _ hb, aPV O _ hb]
      unfold d4 qU
      have e1 : (O.take (B3 O e) ++ e :: O.drop (B3 O e)).length = O.length + 1 := by
        rw [List.length_append, List.length_cons, List.length_take, List.length_drop]; omega
      rw [e1, List.flatMap_append, List.flatMap_cons]
    rcases hM with ⟨rfl, rfl, rfl⟩ | ⟨rfl, rfl, hfr, rfl⟩
    · refine ⟨_, seg M a [.row w 7 cells], rfl, O6.of_eq (by rw [cU hne1, qM]), by decide, ?_⟩
      simp only [G0, Z1, Z2, Z3, Z4, Z5]
      refine aB1 rfl ⟨a, 0, 7, w, cells, _, by omega, aFB hf hfk1 hne1, hnk _, .here hcn hc.1 (.inr hc.2.2), hy, trivial⟩
    · have hne2 : a ≠ k := Nat.ne_of_gt hnk2
      have hfa : fresh (seg M k1 [.row .rw 7 (O.flatMap b6 ++ rest)]) a := V3 hfr hne2
      have hne3 : a ≠ k1 := E7 hfa
      have hfa0 : fresh M a := V3 hfa hne3
      refine ⟨_, seg (seg M k1 [.gone]) a [.row w 7 cells], rfl, O6.of_eq (by rw [cU hne1, qM, dO (Ne.symm hne2)]), by decide, ?_⟩
      simp only [G0, Z1, Z2, Z3, Z4, Z5]
      refine aB1 rfl ⟨a, 0, 7, w, cells, _, Nat.le_of_lt hnk2, aMQ hf hfk1 hfa0 hne2, hnk _, .here hcn hc.1 (.inr hc.2.2), hy, trivial⟩
end
end Go.Proofs.YtlbjplpehkgcdaaGreatDoor
namespace Go.Proofs.YtlbjplpehkgcdaaGreatDoor
open Go Go.Am Go.Pm
theorem wE (x : Ev) : nO x x = false := by
 unfold nO ltB
 simp
theorem aQR {x y : Ev} (h1 : nO x y = false) (h2 : B7 x y = false) : nO y x = true := by
 unfold nO ltB B7 at *
 simp only [Bool.or_eq_false_iff, Bool.and_eq_false_iff, beq_eq_false_iff_ne, decide_eq_false_iff_not, Bool.or_eq_true, Bool.and_eq_true, beq_iff_eq, decide_eq_true_eq, ne_eq] at *
 omega
def PwL (l : List Ev) : Prop := l.Pairwise fun x y => nO x y = true
theorem F5.iff {l : List Ev} : F5 l ↔ PwL l := by
 unfold PwL
 rw [List.pairwise_iff_getElem]
 constructor
 ·intro h i j hi hj hij
  exact h i j _ _ hij (List.getElem?_eq_getElem hi) (List.getElem?_eq_getElem hj)
 ·intro h i j x y hij hx hy
  obtain ⟨hi, rfl⟩ := List.getElem?_eq_some_iff.1 hx
  obtain ⟨hj, rfl⟩ := List.getElem?_eq_some_iff.1 hy
  exact h i j hi hj hij
theorem PwL.ins {o : List Ev} {e : Ev} (h : PwL o) (hn : ∀ x ∈ o, B7 x e = false) : PwL (qU o e) := by
 induction o with
 | nil => exact List.pairwise_singleton _ _
 | cons x o ih =>
  unfold PwL at h
  rw [List.pairwise_cons] at h
  obtain ⟨h1, h2⟩ := h
  unfold qU B3
  rw [List.takeWhile_cons]
  cases hx : nO x e with
  | false =>
   simp only [Bool.false_eq_true, if_false, List.length_nil, List.take_zero, List.nil_append, List.drop_zero]
   have hex := aQR hx (hn x List.mem_cons_self)
   unfold PwL
   rw [List.pairwise_cons]
   refine ⟨fun y hy => ?_, List.pairwise_cons.2 ⟨h1, h2⟩⟩
   rcases List.mem_cons.1 hy with rfl | hy
   ·exact hex
   ·exact fT hex (h1 y hy)
  | true =>
   simp only [if_true, List.length_cons, List.take_succ_cons, List.drop_succ_cons, List.cons_append]
   have := ih h2 (fun y hy => hn y (List.mem_cons_of_mem _ hy))
   unfold PwL qU B3 at this
   unfold PwL
   rw [List.pairwise_cons]
   refine ⟨fun y hy => ?_, this⟩
   rcases List.mem_append.1 hy with hy | hy
   ·exact h1 y (List.mem_of_mem_take hy)
   ·rcases List.mem_cons.1 hy with rfl | hy
    ·exact hx
    ·exact h1 y (List.mem_of_mem_drop hy)
theorem fD {o : List Ev} {e x : Ev} : x ∈ qU o e ↔ x = e \/ x ∈ o := by
 unfold qU
 rw [List.mem_append, List.mem_cons]
 constructor
 ·rintro (h | h | h)
  ·exact .inr (List.mem_of_mem_take h)
  ·exact .inl h
  ·exact .inr (List.mem_of_mem_drop h)
 ·rintro (h | h)
  ·exact .inr (.inl h)
  ·rw [<- List.take_append_drop (B3 o e) o] at h
   rcases List.mem_append.1 h with h | h
   ·exact .inl h
   ·exact .inr (.inr h)
theorem aO5 (o : List Ev) (e : Ev) : (qU o e).length = o.length + 1 := by
 have := vR o e
 unfold qU
 rw [List.length_append, List.length_cons, List.length_take, List.length_drop]; omega
theorem aFW (l : List Ev) (e : Ev) : (D0 l e).length <= l.length + 1 := by
 unfold D0
 split
 ·omega
 ·rw [aO5]
  have : (Q1 (fun x => n9 x e) l).length <= l.length := List.length_filter_le _ _
  omega
theorem aGK {l : List Ev} {e x : Ev} (h : x ∈ D0 l e) : x = e \/ x ∈ l := by
 unfold D0 at h
 split at h
 ·exact .inr h
 ·rcases fD.1 h with h | h
  ·exact .inl h
  ·exact .inr ((List.mem_filter.1 h).1)
theorem F5.put {l : List Ev} {e : Ev} (h : F5 l) : F5 (D0 l e) := by
 unfold D0
 split
 ·exact h
 ·rename_i hn
  refine F5.iff.2 ((F5.iff.1 (h.keep _)).ins fun x hx => ?_)
  have hx' := (List.mem_filter.1 hx).1
  have hn' : ∀ x ∈ l, B7 x e = false /\ n9 e x = false := by simpa using hn
  exact (hn' x hx').1
theorem PwL.uniq : ∀ {l l' : List Ev}, PwL l -> PwL l' -> (∀ x, x ∈ l ↔ x ∈ l') -> l = l'
 | [], [], _, _, _ => rfl
 | [], y :: l', _, _, h => by have := (h y).2 List.mem_cons_self; cases this
 | x :: l, [], _, _, h => by have := (h x).1 List.mem_cons_self; cases this
 | x :: l, y :: l', h1, h2, h => by
  unfold PwL at h1 h2
  rw [List.pairwise_cons] at h1 h2
  have no : ∀ {a b : Ev}, nO a b = true -> nO b a = true -> False := fun {a b} p q => by
   have := fT p q
   rw [wE] at this; cases this
  have hxy : x = y := by
   rcases List.mem_cons.1 ((h x).1 List.mem_cons_self) with h3 | h3
   ·exact h3
   ·rcases List.mem_cons.1 ((h y).2 List.mem_cons_self) with h4 | h4
    ·exact h4.symm
    ·exact (no (h2.1 x h3) (h1.1 y h4)).elim
  subst hxy
  have : l = l' := PwL.uniq h1.2 h2.2 fun z => by
   constructor
   ·intro hz
    rcases List.mem_cons.1 ((h z).1 (List.mem_cons_of_mem _ hz)) with h3 | h3
    ·subst h3
     have := h1.1 z hz
     rw [wE] at this; cases this
    ·exact h3
   ·intro hz
    rcases List.mem_cons.1 ((h z).2 (List.mem_cons_of_mem _ hz)) with h3 | h3
    ·subst h3
     have := h2.1 z hz
     rw [wE] at this; cases this
    ·exact h3
  rw [this]
structure Clo (U : Ev -> Prop) : Prop where
 ok : ∀ x, U x -> X3 x = true
 dot : ∀ x y, U x -> U y -> B7 x y = true -> x = y
 irr : ∀ x, U x -> n9 x x = false
 tr : ∀ x y z, U x -> U y -> U z -> n9 x y = true -> n9 y z = true -> n9 x z = true
structure Mx (X : Ev -> Prop) (S : List Ev) : Prop where
 sort : F5 S
 sub : ∀ x ∈ S, X x
 top : ∀ x ∈ S, ∀ y, X y -> n9 x y = false
 cov : ∀ y, X y -> ∃ m ∈ S, y = m \/ n9 y m = true
theorem Mx.nil : Mx (fun _ => False) [] := ⟨fun i j x y _ hx => by simp at hx, fun x hx => by simp at hx, fun x hx => by simp at hx, fun y hy => hy.elim⟩
theorem Mx.congr {X Y : Ev -> Prop} {S : List Ev} (h : Mx X S) (he : ∀ x, X x ↔ Y x) : Mx Y S :=
 ⟨h.sort, fun x hx => (he x).1 (h.sub x hx), fun x hx y hy => h.top x hx y ((he y).2 hy), fun y hy => h.cov y ((he y).2 hy)⟩
section
variable {U X Y : Ev -> Prop} {S T : List Ev} {e : Ev}
theorem Mx.put (hU : Clo U) (hX : ∀ x, X x -> U x) (he : U e) (h : Mx X S) : Mx (fun x => X x \/ x = e) (D0 S e) := by
 have hS : ∀ x ∈ S, U x := fun x hx => hX x (h.sub x hx)
 unfold D0
 cases hany : S.any (fun x => B7 x e || n9 e x) with
 | true =>
  rw [if_pos rfl]
  obtain ⟨x, hx, hxe⟩ := List.any_eq_true.1 hany
  rw [Bool.or_eq_true] at hxe
  have hcase : x = e \/ n9 e x = true := hxe.imp (hU.dot x e (hS x hx) he) id
  refine ⟨h.sort, fun y hy => .inl (h.sub y hy), fun s hs y hy => ?_, fun y hy => ?_⟩
  ·rcases hy with hy | rfl
   ·exact h.top s hs y hy
   ·rcases hcase with rfl | hc
    ·exact h.top s hs x (h.sub x hx)
    ·cases hq : n9 s y with
     | false => rfl
     | true =>
      have := hU.tr s y x (hS s hs) he (hS x hx) hq hc
      rw [h.top s hs x (h.sub x hx)] at this; cases this
  ·rcases hy with hy | rfl
   ·exact h.cov y hy
   ·rcases hcase with rfl | hc
    ·exact ⟨x, hx, .inl rfl⟩
    ·exact ⟨x, hx, .inr hc⟩
 | false =>
  rw [if_neg (by decide)]
  rw [List.any_eq_false] at hany
  have hno : ∀ x ∈ S, B7 x e = false /\ n9 e x = false := fun x hx => by
   have := hany x hx
   simpa using this
  have hkeep : ∀ x, x ∈ Q1 (fun x => n9 x e) S ↔ x ∈ S /\ n9 x e = false := fun x => by
   unfold Q1
   rw [List.mem_filter]; simp
  have hetop : ∀ y, X y -> n9 e y = false := fun y hy => by
   obtain ⟨m, hm, hc⟩ := h.cov y hy
   cases hq : n9 e y with
   | false => rfl
   | true =>
    rcases hc with rfl | hc
    ·rw [(hno y hm).2] at hq; cases hq
    ·have := hU.tr e y m he (hX y hy) (hS m hm) hq hc
     rw [(hno m hm).2] at this; cases this
  refine ⟨F5.iff.2 ((F5.iff.1 (h.sort.keep _)).ins fun x hx => (hno x ((hkeep x).1 hx).1).1), fun x hx => ?_, fun x hx y hy => ?_, fun y hy => ?_⟩
  ·rcases fD.1 hx with rfl | hx
   ·exact .inr rfl
   ·exact .inl (h.sub x ((hkeep x).1 hx).1)
  ·rcases fD.1 hx with rfl | hx
   ·rcases hy with hy | rfl
    ·exact hetop y hy
    ·exact hU.irr _ he
   ·obtain ⟨h1, h2⟩ := (hkeep x).1 hx
    rcases hy with hy | rfl
    ·exact h.top x h1 y hy
    ·exact h2
  ·rcases hy with hy | rfl
   ·obtain ⟨m, hm, hc⟩ := h.cov y hy
    cases hq : n9 m e with
    | false => exact ⟨m, fD.2 (.inr ((hkeep m).2 ⟨hm, hq⟩)), hc⟩
    | true =>
     refine ⟨e, fD.2 (.inl rfl), .inr ?_⟩
     rcases hc with rfl | hc
     ·exact hq
     ·exact hU.tr y m e (hX y hy) (hS m hm) he hc hq
   ·exact ⟨y, fD.2 (.inl rfl), .inl rfl⟩
theorem Mx.puts (hU : Clo U) : ∀ {l : List Ev} {X : Ev -> Prop} {S : List Ev}, (∀ x, X x -> U x) -> (∀ x ∈ l, U x) -> Mx X S -> Mx (fun x => X x \/ x ∈ l) (l.foldl D0 S)
 | [], X, S, _, _, h => h.congr fun x => by simp
 | e :: l, X, S, hX, hl, h => by
  have h1 := h.put hU hX (hl e List.mem_cons_self)
  have h2 := Mx.puts hU (l := l) (fun x hx => by
   rcases hx with hx | rfl
   ·exact hX x hx
   ·exact hl _ List.mem_cons_self) (fun x hx => hl x (List.mem_cons_of_mem _ hx)) h1
  exact h2.congr fun x => by rw [List.mem_cons, or_assoc]
theorem Mx.uniq (h : Mx X S) (k : Mx Y T) (he : ∀ x, X x ↔ Y x) : S = T := by
 have key : ∀ {X Y : Ev -> Prop} {S T : List Ev}, Mx X S -> Mx Y T -> (∀ x, X x ↔ Y x) -> ∀ x, x ∈ S -> x ∈ T := fun {X Y S T} h k he x hx => by
  obtain ⟨m, hm, hc⟩ := k.cov x ((he x).1 (h.sub x hx))
  rcases hc with rfl | hc
  ·exact hm
  ·rw [h.top x hx m ((he m).2 (k.sub m hm))] at hc; cases hc
 exact PwL.uniq (F5.iff.1 h.sort) (F5.iff.1 k.sort) fun x => ⟨key h k he x, key k h (fun x => (he x).symm) x⟩
end
end Go.Proofs.YtlbjplpehkgcdaaGreatDoor
namespace Go.Pm
open Go.RowKit Go.Am
section
variable {E : i9} {P : Program} {M : c7}
theorem jU {cx : Cx} {m : d5} (hg : PG E cx M m) {t : kV} {l : List PV} {bs : List UInt8} {v : Value} (hb : V5 l = some bs) (h : PR cx (.lst t 1 l.length l) v) : W6 m v = some bs := by
 obtain ⟨a, c, rfl, _, _, hn, hv, _⟩ := h.lst_view
 by_cases h0 : l.length = 0
 ·have : l = [] := List.length_eq_zero_iff.1 h0
  subst this
  cases hb
  cases a with
  | none => rfl
  | some a => simp [W6]
 ·rcases hv with hv | ⟨r, off, cells, rfl, hr, hle, hs⟩
  ·exact absurd hv h0
  ·obtain ⟨_, md, es, q, hget⟩ := hg.im _ _ hr
   unfold W6
   simp only [bA h0, cond_false, T5 hget hle]
   exact iC hs hb
theorem PT.compare (hX : yI E P) {f : Nat} (hf : E.ext f = some X8) {t1 t2 : kV} {a b : List PV} {x y : List UInt8} (ha : V5 a = some x) (hb : V5 b = some y) :
  PT E P f [.lst t1 1 a.length a, .lst t2 1 b.length b] M (fun z M1 => z = .v (.int .i64 (cA x y)) /\ M1 = M) := fun cx m vargs hg h => by
 cases h with
 | cons h1 h =>
 cases h with
 | cons h2 h =>
 cases h
 refine ⟨_, m, cx, _, M, CanT.ext hX hf (v := .int .i64 (cA x y)) ?_, hg, P9.refl _ _, .v rfl, rfl, rfl⟩
 simp only [X8, jU hg ha h1, jU hg hb h2]
theorem uJ : ∀ l : List UInt8, cA l l = 0
 | [] => rfl
 | x :: l => by
  have : Nat.blt x.toNat x.toNat = false := aAZ (Nat.lt_irrefl _)
  rw [cA, this, cond_false, cond_false]
  exact uJ l
end
end Go.Pm
noncomputable section
namespace Go.Proofs.YtlbjplpehkgcdaaGreatDoor
open Go Go.Am Go.Pm
theorem aP2 {M0 : c7} {a b c : Nat} {w : Wm} {es : Nat} (l : List Int) (hl : l.length <= 1000000) (hM : M0 a b = some (.row w es (l.map iv))) (M : c7) (k : Nat) (Q : f7 -> d9 -> Prop) (hs : Pm.Sub M0 M) (hf : fresh M k)
  (q1 : ∀ tm, uG l = 0 -> c8 tm 3 = iv 0 -> Q (.exit 0) ⟨tm, 18, k, [], M⟩) (q2 : ∀ tm, c8 tm 2 = iv (uG l) -> Q .ret ⟨tm, 18, k, [], M⟩) :
  ∀ d i tm, l.length - i = d -> i <= l.length -> uG l = uG (l.drop i) -> c8 tm 3 = iv 0 -> c8 tm 6 = .sl a b 0 l.length c -> c8 tm 7 = iv l.length -> c8 tm 8 = iv i -> w7 env Tryz.prog none aDJ ⟨tm, 18, k, [], M⟩ Q := by
 intro d
 induction d with
 | zero =>
  intro i tm hd hi ho t3 t6 t7 t8
  have : i = l.length := by omega
  subst this
  refine w7.round (RX.of a6 ?_)
  simp only [G0, Z1, Z2, Z3, Z4, Z5, t7, t8, Int.lt_irrefl, decide_false]
  exact q1 _ (by rw [ho, List.drop_of_length_le (Nat.le_refl _)]; rfl) t3
 | succ d ih =>
  intro i tm hd hi ho t3 t6 t7 t8
  have hi' : i < l.length := by omega
  have hii : (i : Int) < l.length := by omega
  obtain ⟨x, hx, hdx⟩ := K2 hi'
  have hlx := aGQ (t := .no) hx
  have hM' := hs _ _ _ hM
  have hld : ∀ {ag : Bool} {n o : Nat} {os : List Pm.Obj}, y6 k os M ag n (.ptr a b o) = p9 ag n o (M a b) := o9 (I6 hf hM')
  have hia := fun (kk : IntKind) => bG (k := a) (i := b) (o := 0) (n := l.length) (c := c) (sz := 1) (kk := kk) hi'
  have hw : IntKind.i64.wrap ((i : Int) + 1) = ((i + 1 : Nat) : Int) := by rw [f9 (by omega) (by omega)]; rfl
  rw [hdx] at ho
  refine w7.round (RX.of a6 ?_)
  simp only [G0, Z1, Z2, Z3, Z4, Z5, t3, t6, t7, t8, hii, decide_true, hia, Nat.zero_add, hld, hM', hlx]
  refine eY (fun hb => ?_) (fun hb => ?_)
  ·simp only [G0, Z1, Z2, Z3, Z4, Z5]
   refine q2 _ ?_
   rw [ho]; unfold uG; rw [if_neg (by simpa using hb)]; rfl
  ·simp only [G0, Z1, Z2, Z3, Z4, Z5, t8, hw]
   refine ih (i + 1) _ (by omega) (by omega) ?_ t3 t6 t7 rfl
   rw [ho]
   show uG (x :: _) = _
   rw [uG, if_pos (by simpa using hb)]
theorem aY1 {M0 : c7} {a b c : Nat} {w : Wm} {es : Nat} (l : List Int) (hl : l.length <= 1000000) (hM : M0 a b = some (.row w es (l.map iv))) : T1 env Tryz.prog M0 93 [.sl a b 0 l.length c] (iv (uG l)) := by
 refine T1.enter a6 aZJ (by simp) aJO fun M k hs hk hf => ?_
 simp only [G0, Z1, Z2, Z3, Z4, Z5, f8, R4]
 refine RX.loop (aP2 l hl hM M k _ hs hf ?_ ?_ l.length 0 _ rfl (Nat.zero_le _) rfl rfl rfl rfl rfl)
 ·intro tm h t3
  simp only [G0, Z1, Z2, Z3, Z4, Z5, t3]
  exact m6 hf rfl ⟨by rw [h]; rfl, rfl⟩
 ·intro tm h
  simp only [G0, Z1, Z2, Z3, Z4, Z5]
  exact m6 hf h ⟨rfl, rfl⟩
theorem bDU : env.ext 145 = some X8 := by kernel_rfl
theorem aXK (a b : List UInt8) : A0 env Tryz.prog 145 [n7 a, n7 b] (iv (cA a b)) := fun M => by
 have h := PT.compare (M := M) wJ bDU (t1 := .no) (t2 := .no) (cD a) (cD b)
 have e1 : ∀ l : List UInt8, (PV.lst .no 1 (l.map Q0).length (l.map Q0)) = n7 l := fun l => by unfold n7; rw [List.length_map]
 rw [e1, e1] at h
 exact h
theorem aXI (a b : List UInt8) : A0 env Tryz.prog 129 [n7 a, n7 b] (iv (cA a b)) := fun M => by
 refine PT.enterR a6 bBW (by simp) aQO fun k hk hf => RX.of a6 ?_
 simp only [G0, Z1, Z2, Z3, Z4, Z5, f8]
 refine H7 (aXK a b) (by decide) ?_
 simp only [G0, Z1, Z2, Z3, Z4, Z5]
 exact m6 hf rfl ⟨rfl, rfl⟩
def aU4 (x m : Int) (a : List UInt8) (y p : Int) (b : List UInt8) : Int := uG [aI x y, aI m p, cA a b]
theorem aZ4 (a b c : Int) : U6 1 [.v (.int .i64 0), .v (.int .i64 0), .v (.int .i64 0)] [(0, iv a), (1, iv b), (2, iv c)] = some [iv a, iv b, iv c] := rfl
theorem aLH (x m y p : Int) (a b : List UInt8) : A0 env Tryz.prog 107 [.agg [iv x, iv m, n7 a], .agg [iv y, iv p, n7 b]] (iv (aU4 x m a y p b)) := fun M => by
 refine PT.enterR a6 bBT (by simp) aRX fun k hk hf => RX.of a6 ?_
 have hst : w5 3 0 (.agg [iv (aI x y), iv (aI m p), iv (cA a b)]) (some (.row .rw 0 [iv 0, iv 0, iv 0])) = some (.row .rw 0 [iv (aI x y), iv (aI m p), iv (cA a b)]) := p6 (n := 3) ⟨rfl, Nat.le_refl 3, rfl⟩
 simp only [G0, Z1, Z2, Z3, Z4, Z5, f8, M5]
 refine cq0 (uB _ _) (by decide) ?_
 simp only [G0, Z1, Z2, Z3, Z4, Z5]
 refine cq0 (uB _ _) (by decide) ?_
 simp only [G0, Z1, Z2, Z3, Z4, Z5]
 refine cq0 (aXI _ _) (by decide) ?_
 simp only [G0, Z1, Z2, Z3, Z4, Z5, aZ4, hst, aLL, aBY]
 refine sL (aY1 (M0 := wF k 2 (.row .rw 0 [iv (aI x y), iv (aI m p), iv (cA a b)])) (w := .rw) (es := 0) [aI x y, aI m p, cA a b] (by simp) fG) (bJ (by rw [e8]; rfl)) (by decide) ?_
 simp only [G0, Z1, Z2, Z3, Z4, Z5]
 exact m6 hf rfl ⟨rfl, rfl⟩
theorem aH3 (x m : Int) (a : List UInt8) : aU4 x m a x m a = 0 := by
 have h : ∀ z : Int, aI z z = 0 := fun z => by unfold aI; rw [if_neg (Int.lt_irrefl _), if_neg (Int.lt_irrefl _)]
 unfold aU4
 rw [h, h, uJ]; rfl
theorem aVN (x m : Int) (a : List UInt8) : A0 env Tryz.prog 86 [.agg [iv x, iv m, n7 a], .agg [iv x, iv m, n7 a]] (bv true) := fun M => by
 refine PT.enterR a6 bDX (by simp) aU8 fun k hk hf => RX.of a6 ?_
 simp only [G0, Z1, Z2, Z3, Z4, Z5, f8, M5]
 refine H7 (aLH x m x m a a) (by decide) ?_
 rw [aH3]
 simp only [G0, Z1, Z2, Z3, Z4, Z5, beq_self_eq_true]
 exact m6 hf rfl ⟨rfl, rfl⟩
theorem aBV (s : d6) : A0 env Tryz.prog 91 [.agg [iv s.node, iv s.frm, iv s.to], .agg [iv s.node, iv s.frm, iv s.to]] (bv true) := fun M => by
 refine PT.enterR a6 bDI (by simp) aXC fun k hk hf => RX.of a6 ?_
 simp only [G0, Z1, Z2, Z3, Z4, Z5, f8, aY5, beq_self_eq_true, Bool.and_self]
 exact m6 hf rfl ⟨rfl, rfl⟩
theorem bEH (x : d6) : w5 3 0 (.agg (c9 x)) (some (.row .rw 0 [.v (.int .i64 0), .v (.int .i64 0), .v (.int .i64 0)])) = some (.row .rw 0 (c9 x)) := p6 (n := 3) ⟨rfl, Nat.le_refl 3, rfl⟩
theorem aJ8 {x : d6} : A3 true 3 (c9 x) 0 = some (.agg (c9 x)) := rfl
theorem aXP (l : List d6) (hl : l.length <= 1000000) (M : c7) (k : Nat) (Q : f7 -> d9 -> Prop) (q : ∀ tm, Q (.exit 0) ⟨tm, 32, k, [], M⟩) :
  ∀ d i tm, l.length - i = d -> i <= l.length -> c8 tm 1 = d8 l -> c8 tm 2 = .fn 91 [] [] -> c8 tm 15 = d8 l -> c8 tm 16 = iv l.length -> c8 tm 17 = iv i -> w7 env Tryz.prog none aJU ⟨tm, 32, k, [], M⟩ Q := by
 intro d
 induction d with
 | zero =>
  intro i tm hd hi t1 t2 t15 t16 t17
  have : i = l.length := by omega
  subst this
  refine w7.round (RX.of a6 ?_)
  simp only [G0, Z1, Z2, Z3, Z4, Z5, t16, t17, Int.lt_irrefl, decide_false]
  exact q _
 | succ d ih =>
  intro i tm hd hi t1 t2 t15 t16 t17
  have hi' : i < l.length := by omega
  have hii : (i : Int) < l.length := by omega
  obtain ⟨x, hx, hdx⟩ := K2 hi'
  have hlx := fW (f := c9) (n := 3) (fun _ => rfl) hx
  have h1 : c8 tm 1 = .lst .no 3 l.length (l.flatMap c9) := t1
  have h15 : c8 tm 15 = .lst .no 3 l.length (l.flatMap c9) := t15
  have hw : IntKind.i64.wrap ((i : Int) + 1) = ((i + 1 : Nat) : Int) := by rw [f9 (by omega) (by omega)]; rfl
  have hs := bEH x
  refine w7.inn fun k' hk1 hk2 hk3 => RX.of a6 ?_
  simp only [G0, Z1, Z2, Z3, Z4, Z5, h1, t2, h15, t16, t17, hii, decide_true, hi', hlx, hs, aJ8]
  refine H7 (aBV x) (by decide) ?_
  simp only [G0, Z1, Z2, Z3, Z4, Z5, t17, hw, Bool.not_true]
  exact ih (i + 1) _ (by omega) (by omega) t1 t2 t15 t16 rfl
theorem aRE (l : List d6) (hl : l.length <= 1000000) : A0 env Tryz.prog 92 [d8 l, d8 l, .fn 91 [] []] (bv true) := fun M => by
 refine PT.enterR a6 bDY (by simp) aYS fun k hk hf => RX.of a6 ?_
 have hlen : gB (d8 l) = some (iv (l.length : Nat)) := rfl
 simp only [G0, Z1, Z2, Z3, Z4, Z5, f8, hlen, bne_self_eq_false]
 refine RX.loop (aXP l hl M k _ (fun tm => ?_) l.length 0 _ rfl (Nat.zero_le _) (by rfl) (by rfl) (by rfl) (by rfl) (by rfl))
 simp only [G0, Z1, Z2, Z3, Z4, Z5]
 exact m6 hf rfl ⟨rfl, rfl⟩
theorem aP5 (x y : Ev) (h : B7 x y = false) : A0 env Tryz.prog 56 [l8 x, l8 y] (bv false) := fun M => by
 refine PT.enterR a6 bCK (by simp) aMB fun k hk hf => RX.of a6 ?_
 have h' : (x.node == y.node && x.seq == y.seq) = false := h
 simp only [G0, Z1, Z2, Z3, Z4, Z5, f8, l8, b6, M5, S2, vI, h', m9, o8, Bool.not_true, Bool.not_false]
 exact m6 hf rfl ⟨rfl, rfl⟩
theorem aP9 (x : Ev) (hp : x.past.length <= 1000000) : A0 env Tryz.prog 56 [l8 x, l8 x] (bv true) := fun M => by
 refine PT.enterR a6 bCK (by simp) aMB fun k hk hf => RX.of a6 ?_
 simp only [G0, Z1, Z2, Z3, Z4, Z5, f8, l8, b6, M5, S2, vI, S0, beq_self_eq_true, Bool.and_self, m9, o8, Bool.not_true, Bool.not_false]
 refine H7 (aVN x.kind x.mode x.bytes) (by decide) ?_
 simp only [G0, Z1, Z2, Z3, Z4, Z5, m9, o8, Bool.not_true, Bool.not_false]
 refine H7 (aRE x.past hp) (by decide) ?_
 simp only [G0, Z1, Z2, Z3, Z4, Z5, m9, o8]
 exact m6 hf rfl ⟨rfl, rfl⟩
end Go.Proofs.YtlbjplpehkgcdaaGreatDoor
end
namespace Go.Proofs.YtlbjplpehkgcdaaGreatDoor
open Go Go.Am Go.Pm
theorem aR9 {l : List Ev} {e : Ev} (hl : l.length <= 100000) (hp : ∀ x ∈ l, x.path.length <= 1000000) (he : e.path.length <= 1000000) (hso : F5 l) : A0 env Tryz.prog 37 [d4 l, l8 e] (d4 (D0 l e)) := by
 unfold D0
 cases h : l.any (fun x => B7 x e || n9 e x) with
 | true => rw [if_pos rfl]; exact aUW hl hp he h
 | false => rw [if_neg (by decide)]; exact aPW hl hp he hso h
theorem aXX {l A : List Ev} {x : Ev} (hl : l.length <= 100000) (hA : A.length <= 100000) (hp : ∀ y ∈ l, y.path.length <= 1000000) (hx : x.path.length <= 1000000) (hso : F5 l) (hpa : ∀ h, A[0]? = some h -> x.path = h.path) {M0 : c7} {a i : Nat} {w : Wm} (hM : M0 a i = some (.row w 0 [d4 A])) :
    T1 env Tryz.prog M0 36 [d4 l, l8 x, .ptr a i 0] (.tup [d4 (D0 l x), iv 0]) := by
  refine T1.enter a6 bEX (by simp) aWB fun M k hs hk hf => ?_
  have hM' := hs _ _ _ hM
  have hld : ∀ {ag : Bool} {n o : Nat} {os : List Pm.Obj}, y6 k os M ag n (.ptr a i o) = p9 ag n o (M a i) := o9 (I6 hf hM')
  rcases Nat.eq_zero_or_pos A.length with h0 | h0
  · have : A = [] := List.length_eq_zero_iff.1 h0
    subst this
    simp only [G0, Z1, Z2, Z3, Z4, Z5, f8, l8, hld, hM', d4, List.length_nil, gt_iff_lt, Int.natCast_zero, Int.lt_irrefl, decide_false, o8, m9, R5]
    refine H7 (aR9 hl hp hx hso) (by decide) ?_
    simp only [G0, Z1, Z2, Z3, Z4, Z5]
    exact qH hf rfl rfl ⟨rfl, rfl⟩
  · obtain ⟨h, hh, -⟩ := K2 h0
    have hb1 := iF hh
    have hgt : (0 : Int) < (A.length : Int) := by omega
    have hpe : (x.path == h.path) = true := by rw [hpa h hh]; exact beq_self_eq_true _
    simp only [G0, Z1, Z2, Z3, Z4, Z5, f8, l8, hld, hM', d4, gt_iff_lt, hgt, decide_true, o8, m9, T7, h0, hb1, jQ, hpe, b6, M5, S2, Bool.not_true]
    refine H7 (aR9 hl hp hx hso) (by decide) ?_
    simp only [G0, Z1, Z2, Z3, Z4, Z5]
    exact qH hf rfl rfl ⟨rfl, rfl⟩
theorem kN (l : List Ev) : ∀ more : List Ev, (more.foldl D0 l).length <= l.length + more.length := by
 intro more
 induction more generalizing l with
 | nil => simp
 | cons x r ih =>
  have := ih (D0 l x)
  have := aFW l x
  simp only [List.foldl_cons, List.length_cons]
  omega
theorem tY (l : List Ev) (h : F5 l) : ∀ more : List Ev, F5 (more.foldl D0 l) := by
 intro more
 induction more generalizing l with
 | nil => exact h
 | cons x r ih => exact ih _ h.put
theorem rZ (l : List Ev) (P : Ev -> Prop) (h : ∀ x ∈ l, P x) : ∀ more : List Ev, (∀ x ∈ more, P x) -> ∀ x ∈ more.foldl D0 l, P x := by
 intro more
 induction more generalizing l with
 | nil => intro _; exact h
 | cons y r ih =>
  intro hm
  refine ih _ (fun x hx => ?_) fun x hx => hm x (List.mem_cons_of_mem _ hx)
  rcases aGK hx with rfl | hx
  ·exact hm _ List.mem_cons_self
  ·exact h x hx
structure Kf (tm : List (Nat × PV)) (acc more : List Ev) (f : PV) (i : Nat) : Prop where
 t0 : c8 tm 0 = d4 acc
 t2 : c8 tm 2 = f
 t12 : c8 tm 12 = d4 more
 t13 : c8 tm 13 = iv more.length
 t14 : c8 tm 14 = iv i
section
variable {a0 more : List Ev} {M0 : c7} {a i : Nat} {w : Wm}
theorem aT4 (hl : a0.length + more.length <= 100000) (hso : F5 a0) (hp : ∀ x ∈ a0, x.path.length <= 1000000) (hm : ∀ x ∈ more, x.path.length <= 1000000) (hpa : ∀ x ∈ more, ∀ h, a0[0]? = some h -> x.path = h.path) (hM : M0 a i = some (.row w 0 [d4 a0]))
  (M : c7) (k : Nat) (Q : f7 -> d9 -> Prop) (hs : Pm.Sub M0 M) (hf : fresh M k) (q : ∀ tm, c8 tm 0 = d4 (more.foldl D0 a0) -> Q (.exit 0) ⟨tm, 31, k, [], M⟩) :
  ∀ d j tm, more.length - j = d -> j <= more.length -> Kf tm ((more.take j).foldl D0 a0) more (.fn 36 [] [.ptr a i 0]) j -> w7 env Tryz.prog none aM1 ⟨tm, 31, k, [], M⟩ Q := by
 intro d
 induction d with
 | zero =>
  intro j tm hd hj hK
  have : j = more.length := by omega
  subst this
  rw [List.take_length] at hK
  obtain ⟨t0, t2, t12, t13, t14⟩ := hK
  refine w7.round (RX.of a6 ?_)
  simp only [G0, Z1, Z2, Z3, Z4, Z5, t13, t14, Int.lt_irrefl, decide_false]
  exact q _ t0
 | succ d ih =>
  intro j tm hd hj hK
  have hj' : j < more.length := by omega
  have hjj : (j : Int) < more.length := by omega
  obtain ⟨x, hx, -⟩ := K2 hj'
  have hlx := x7 hx
  have hmem := List.mem_of_getElem? hx
  have hw : IntKind.i64.wrap ((j : Int) + 1) = ((j + 1 : Nat) : Int) := by rw [f9 (by omega) (by omega)]; rfl
  have htk : (more.take (j + 1)).foldl D0 a0 = D0 ((more.take j).foldl D0 a0) x := by rw [K3 hx, List.foldl_append]; rfl
  have hlen := kN a0 (more.take j)
  have hlen2 : (more.take j).length = j := by rw [List.length_take]; omega
  have hsub : ∀ y ∈ more.take j, y ∈ more := fun y hy => List.mem_of_mem_take hy
  obtain ⟨t0, t2, t12, t13, t14⟩ := hK
  refine w7.inn fun k' hk1 hk2 hk3 => RX.of a6 ?_
  have hmt : c8 tm 12 = .lst .no 7 more.length (more.flatMap b6) := t12
  simp only [G0, Z1, Z2, Z3, Z4, Z5, t0, t2, hmt, t13, t14, hjj, decide_true, hj', hlx, aMY, R5]
  refine cs (first := []) (cap := [.ptr a i 0]) (aXX (by omega) (by omega) (rZ a0 _ hp _ fun y hy => hm y (hsub y hy)) (hm x hmem) (tY a0 hso _) (hpa x hmem) hM) ?_ (by decide) ?_
  ·rw [aN hf] at hk3 ⊢
   exact hs.sseg hk3
  simp only [G0, Z1, Z2, Z3, Z4, Z5, t14, hw, bne_self_eq_false]
  refine ih (j + 1) _ (by omega) (by omega) ⟨?_, t2, t12, t13, rfl⟩
  rw [htk]; rfl
theorem aT3 (hl : a0.length + more.length <= 100000) (hso : F5 a0) (hp : ∀ x ∈ a0, x.path.length <= 1000000) (hm : ∀ x ∈ more, x.path.length <= 1000000) (hpa : ∀ x ∈ more, ∀ h, a0[0]? = some h -> x.path = h.path) (hM : M0 a i = some (.row w 0 [d4 a0])) :
  T1 env Tryz.prog M0 35 [d4 a0, d4 more, .fn 36 [] [.ptr a i 0]] (.tup [d4 (more.foldl D0 a0), iv 0]) := by
 refine T1.enter a6 bDP (by simp) aXE fun M k hs hk hf => ?_
 have hmt : gB (d4 more) = some (iv (more.length : Nat)) := rfl
 simp only [G0, Z1, Z2, Z3, Z4, Z5, f8, hmt]
 refine RX.loop (aT4 hl hso hp hm hpa hM M k _ hs hf (fun tm t0 => ?_) more.length 0 _ rfl (Nat.zero_le _) (by exact ⟨rfl, rfl, rfl, rfl, rfl⟩))
 simp only [G0, Z1, Z2, Z3, Z4, Z5, t0]
 exact qH hf rfl rfl ⟨rfl, rfl⟩
end
inductive T9 (k : Nat) (os : List Pm.Obj) : Option Nat -> PV -> List Ev -> Prop where
 | nil (e : Nat) : T9 k os none (.lst .full e 0 []) []
 | tok {j : Nat} {L : List Ev} (h : os[j]? = some (.grow L.length 7)) : T9 k os (some j) (.lst (.id k j) 7 L.length (L.flatMap b6)) L
theorem T9.more {k : Nat} {os : List Pm.Obj} {j : Option Nat} {v : PV} {L : List Ev} (h : T9 k os j v L) (o : Pm.Obj) : T9 k (os ++ [o]) j v L := by
 cases h with
 | nil e => exact .nil e
 | @tok j L h =>
  have := (List.getElem?_eq_some_iff.1 h).1
  exact .tok (by rw [List.getElem?_append_left this]; exact h)
theorem T9.le {k : Nat} {os : List Pm.Obj} {j : Option Nat} {v : PV} {L : List Ev} (h : T9 k os j v L) : J6 v (d4 L) := by
 cases h with
 | nil e => exact J6.nil_no _ _ _ rfl
 | tok h => exact J6.no _ _ _ _
theorem T9.push {k : Nat} {os : List Pm.Obj} {j : Option Nat} {v : PV} {L : List Ev} (h : T9 k os j v L) (hl : L.length <= 1000000) (e : Ev) (t : kV) :
    ∃ v' os' j', (∀ {tm : List (Nat × PV)} {nt : Nat} {M : c7}, gH ⟨tm, nt, k, os, M⟩ 7 96 7 v (.lst t 7 1 (b6 e)) = some (v', ⟨tm, nt, k, os', M⟩)) /\ T9 k os' j' v' (L ++ [e]) ∧
      (∀ {j2 : Option Nat} {v2 : PV} {L2 : List Ev}, T9 k os j2 v2 L2 -> (∀ q, j2 = some q -> j ≠ some q) -> T9 k os' j2 v2 L2 /\ ∀ q, j2 = some q -> j' ≠ some q) /\ (∀ q, j' = some q -> j = some q \/ q = os.length) := by
  have hfm : (L ++ [e]).flatMap b6 = L.flatMap b6 ++ b6 e := by rw [List.flatMap_append]; simp
  have hlen : (L ++ [e]).length = L.length + 1 := by simp
  cases h with
  | nil e0 =>
    have hc : (0 = 0 \/ e0 = 7) /\ (2 * (0 + 1) + 2000) * 96 <= 281474976710656 /\ 0 + 1 <= 4611686018427387904 /\ 7 < 4096 /\ 7 = 7 /\ (b6 e).all w9 = true := ⟨.inl rfl, by decide, by decide, by decide, rfl, rfl⟩
    refine ⟨_, os ++ [.grow (0 + 1) 7], some os.length, fun {tm nt M} => oJ (by decide) hc, ?_, fun {j2 v2 L2} h2 hn => ⟨h2.more _, fun q hq hc => ?_⟩, fun q hq => .inr (Option.some.inj hq).symm⟩
    · exact T9.tok (L := [e]) (by rw [List.getElem?_append_right (Nat.le_refl _), Nat.sub_self]; rfl)
    · cases h2 with
      | nil _ => cases hq
      | tok h2 =>
        cases hq
        have := (List.getElem?_eq_some_iff.1 h2).1
        cases hc
        omega
  | @tok j L h =>
    have hj := (List.getElem?_eq_some_iff.1 h).1
    have hc : (L.length = 0 \/ 7 = 7) /\ (2 * (L.length + 1) + 2000) * 96 <= 281474976710656 /\ L.length + 1 <= 4611686018427387904 /\ 7 < 4096 /\ 7 = 7 /\ (b6 e).all w9 = true := ⟨.inr rfl, by omega, by omega, by decide, rfl, rfl⟩
    refine ⟨_, os.set j (.grow (L.length + 1) 7), some j, fun {tm nt M} => aS4 (by decide) h hc rfl, ?_, fun {j2 v2 L2} h2 hn => ⟨?_, hn⟩, fun q hq => .inl hq⟩
    · rw [<- hfm, <- hlen]
      exact .tok (by rw [List.getElem?_set_self hj])
    · cases h2 with
      | nil e => exact .nil e
      | @tok q L2 h2 =>
        have hne : j ≠ q := fun e => hn q rfl (by rw [e])
        exact .tok (by rw [List.getElem?_set_ne hne]; exact h2)
theorem bA8 (e : Ev) (h1 : e.bytes.length <= 1000000) (h2 : e.past.length <= 1000000) : A0 env Tryz.prog 38 [l8 e] (l8 e) := fun M => by
 refine PT.enterR a6 bD6 (by simp) aXB fun k hk hf => RX.of a6 ?_
 simp only [G0, Z1, Z2, Z3, Z4, Z5, f8, l8, b6]
 refine H7 (zF _ h1) ?_ ?_
 ·decide
 simp only [G0, Z1, Z2, Z3, Z4, Z5, vK]
 refine H7 (aBF _ h2) ?_ ?_
 ·decide
 simp only [G0, Z1, Z2, Z3, Z4, Z5, vK]
 refine aZP (ag := true) (n := 7) hf (by kernel_rfl) ?_ ⟨rfl, rfl⟩
 simp only [G0, Z1, Z2, Z3, Z4, Z5]
end Go.Proofs.YtlbjplpehkgcdaaGreatDoor
namespace Go.Proofs.YtlbjplpehkgcdaaGreatDoor
open Go Go.Am Go.Pm
theorem aLI {os : List Pm.Obj} {o : Pm.Obj} : (os ++ [o])[os.length]? = some o := by simp
theorem aOO {os : List Pm.Obj} {o o' : Pm.Obj} : (os ++ [o]).set os.length o' = os ++ [o'] := by simp
theorem aBT (a : Ev) : U6 7 [.v (.int .i64 0), .v (.int .i64 0), .v (.string ⟨#[]⟩), .v (.int .i64 0), .v (.int .i64 0), .lst .full 0 0 [], .lst .full 0 0 []] [(0, l8 a)] = some (b6 a) := rfl
theorem aO7 {tm : List (Nat × PV)} {nt k : Nat} {os : List Pm.Obj} {M : c7} {l : List Ev} : aJY tm nt k os M (d4 l) = some (.ptr k os.length 0, ⟨tm, nt, k, os ++ [.row .rw 0 [d4 l]], M⟩) := rfl
theorem aLR {tm : List (Nat × PV)} {nt k : Nat} {os : List Pm.Obj} {M : c7} {e : Ev} : aJY tm nt k os M (l8 e) = some (.ptr k os.length 0, ⟨tm, nt, k, os ++ [.row .rw 0 (b6 e)], M⟩) := rfl
structure Sm (e : Ev) : Prop where
 path : e.path.length <= 1000000
 bytes : e.bytes.length <= 1000000
 past : e.past.length <= 1000000
theorem aWR (l : List Ev) (hl : l.length <= 1000000) (hg : ∀ x ∈ l, Sm x) (M : c7) (k : Nat) (Q : f7 -> d9 -> Prop) (q : ∀ tm os j v, T9 k os j v l -> c8 tm 8 = v -> c8 tm 7 = iv 0 -> Q (.exit 0) ⟨tm, 40, k, os, M⟩) :
    ∀ d i os j v tm, l.length - i = d -> i <= l.length -> T9 k os j v (l.take i) -> c8 tm 8 = v -> c8 tm 7 = iv 0 -> c8 tm 26 = d4 l -> c8 tm 27 = iv l.length -> c8 tm 28 = iv i -> w7 env Tryz.prog none aM8 ⟨tm, 40, k, os, M⟩ Q := by
  intro d
  induction d with
  | zero =>
    intro i os j v tm hd hi hO t8 t7 t26 t27 t28
    have : i = l.length := by omega
    subst this
    rw [List.take_length] at hO
    refine w7.round (RX.of a6 ?_)
    simp only [G0, Z1, Z2, Z3, Z4, Z5, t27, t28, Int.lt_irrefl, decide_false]
    exact q _ os j v hO t8 t7
  | succ d ih =>
    intro i os j v tm hd hi hO t8 t7 t26 t27 t28
    have hi' : i < l.length := by omega
    have hii : (i : Int) < l.length := by omega
    obtain ⟨x, hx, -⟩ := K2 hi'
    have hlx := x7 hx
    have hmem := hg x (List.mem_of_getElem? hx)
    have hw : IntKind.i64.wrap ((i : Int) + 1) = ((i + 1 : Nat) : Int) := by rw [f9 (by omega) (by omega)]; rfl
    have ht26 : c8 tm 26 = .lst .no 7 l.length (l.flatMap b6) := t26
    refine w7.round (RX.of a6 ?_)
    simp only [G0, Z1, Z2, Z3, Z4, Z5, t8, ht26, t27, t28, hii, decide_true, hi', hlx, aMY, R5, aLI, aOO]
    refine H7 (bA8 x hmem.bytes hmem.past) (by decide) ?_
    have hF := aBT x
    simp only [G0, Z1, Z2, Z3, Z4, Z5, hF]
    obtain ⟨v', os', j', h1, h2, -, -⟩ := (hO.more (.row .rw 0 (b6 x))).push (by rw [List.length_take]; omega) x .full
    refine aL ?_
    rw [h1]
    simp only [G0, Z1, Z2, Z3, Z4, Z5, t28, hw]
    refine ih (i + 1) os' j' v' _ (by omega) (by omega) ?_ rfl t7 t26 t27 rfl
    rw [K3 hx]; exact h2
theorem aT2 {a b : List Ev} (hl : a.length + b.length <= 50000) (ha : aK a) (hb : aK b) (hga : ∀ x ∈ a, Sm x) (hgb : ∀ x ∈ b, Sm x) (hpa : ∀ x ∈ b, ∀ h, a[0]? = some h -> x.path = h.path) (hso : F5 a) :
  A0 env Tryz.prog 12 [d4 a, d4 b] (.tup [d4 (b.foldl D0 a), iv 0]) := A0.of fun M => by
 refine PT.enterR a6 bED (by simp) aWN fun k hk hf => RX.of a6 ?_
 simp only [G0, Z1, Z2, Z3, Z4, Z5, f8, aO7]
 refine H7 (eO a (by omega) fun x hx => (hga x hx).path) (by decide) ?_
 rw [kD ha]
 simp only [G0, Z1, Z2, Z3, Z4, Z5, D7, Bool.not_true, o8, m9, Bool.not_false]
 refine H7 (eO b (by omega) fun x hx => (hgb x hx).path) (by decide) ?_
 rw [kD hb]
 simp only [G0, Z1, Z2, Z3, Z4, Z5, D7, Bool.not_true, o8, m9, Bool.not_false]
 refine sL (aT3 (M0 := wF k 0 (.row .rw 0 [d4 a])) (w := .rw) (by omega) hso (fun x hx => (hga x hx).path) (fun x hx => (hgb x hx).path) hpa fG) (bJ (by rw [e8]; rfl)) (by decide) ?_
 have hr := kN a b
 have hlr : gB (d4 (b.foldl D0 a)) = some (iv ((b.foldl D0 a).length : Nat)) := rfl
 simp only [G0, Z1, Z2, Z3, Z4, Z5, hlr]
 refine RX.loop (aWR (b.foldl D0 a) (by omega) (rZ a Sm hga b hgb) M k _ (fun tm os j v hO t8 t7 => ?_) (b.foldl D0 a).length 0 _ none _ _ rfl (Nat.zero_le _) (.nil 0) (by rfl) (by rfl) (by rfl) (by rfl) (by rfl))
 simp only [G0, Z1, Z2, Z3, Z4, Z5, t8, t7]
 exact qH hf rfl rfl ⟨J6.tup (.cons hO.le (.cons (J6.refl _) .nil)), rfl⟩
theorem aZ3 {l : List Ev} {e : Ev} (hl : l.length <= 40000) (ha : aK l) (hb : aK [e]) (hga : ∀ x ∈ l, Sm x) (he : Sm e) (hpa : ∀ h, l[0]? = some h -> e.path = h.path) (hso : F5 l) :
  A0 env Tryz.prog 10 [d4 l, l8 e] (.tup [d4 (D0 l e), iv 0]) := fun M => by
 refine PT.enterR a6 bEO (by simp) aU6 fun k hk hf => RX.of a6 ?_
 have hF := aBT e
 simp only [G0, Z1, Z2, Z3, Z4, Z5, f8, aLR, R5, hF]
 have hj := aT2 (a := l) (b := [e]) (by simp; omega) ha hb hga (fun x hx => by rw [List.mem_singleton] at hx; subst hx; exact he) (fun x hx h hh => by rw [List.mem_singleton] at hx; subst hx; exact hpa h hh) hso
 have hj' : A0 env Tryz.prog 12 [d4 l, .lst .full 7 1 (b6 e)] (.tup [d4 (D0 l e), iv 0]) := fun M => (hj M).args (.cons (J6.refl _) (.cons (J6.no _ _ _ _) .nil))
 refine H7 hj' (by decide) ?_
 simp only [G0, Z1, Z2, Z3, Z4, Z5]
 exact qH hf rfl rfl ⟨rfl, rfl⟩
end Go.Proofs.YtlbjplpehkgcdaaGreatDoor
namespace Go.Proofs.YtlbjplpehkgcdaaGreatDoor
open Go Go.Am Go.Pm
def atF (l : List Ev) : List Ev := match l with
 | [] => []
 | h :: r => (h :: r).filter fun x => x.path == h.path
theorem aYG {l : List Ev} {h : Ev} (hh : l[0]? = some h) : atF l = l.filter fun x => x.path == h.path := by
 cases l with
 | nil => cases hh
 | cons x r => simp at hh; subst hh; rfl
theorem aBD {α : Type} (p : α -> Bool) {l : List α} {i : Nat} {x : α} (hx : l[i]? = some x) : (l.take (i + 1)).filter p = (l.take i).filter p ++ (if p x then [x] else []) := by
 rw [K3 hx, List.filter_append]
 cases h : p x <;> simp [h]
theorem aWS (l : List Ev) (hl : l.length <= 1000000) (h : Ev) (hh : l[0]? = some h) (M : c7) (k : Nat) (Q : f7 -> d9 -> Prop) (q : ∀ tm os j v, T9 k os j v (atF l) -> c8 tm 3 = v -> Q (.exit 0) ⟨tm, 29, k, os, M⟩) :
    ∀ d i os j v tm, l.length - i = d -> i <= l.length -> T9 k os j v ((l.take i).filter fun x => x.path == h.path) -> c8 tm 3 = v -> c8 tm 0 = d4 l -> c8 tm 4 = iv i -> w7 env Tryz.prog none aL0 ⟨tm, 29, k, os, M⟩ Q := by
  intro d
  induction d with
  | zero =>
    intro i os j v tm hd hi hO t3 t0 t4
    have : i = l.length := by omega
    subst this
    rw [List.take_length, <- aYG hh] at hO
    have ht0 : c8 tm 0 = .lst .no 7 l.length (l.flatMap b6) := t0
    refine w7.round (RX.of a6 ?_)
    simp only [G0, Z1, Z2, Z3, Z4, Z5, ht0, t4, Int.lt_irrefl, decide_false]
    exact q _ os j v hO t3
  | succ d ih =>
    intro i os j v tm hd hi hO t3 t0 t4
    have hi' : i < l.length := by omega
    have h0l : 0 < l.length := by omega
    have hii : (i : Int) < l.length := by omega
    obtain ⟨x, hx, -⟩ := K2 hi'
    have hlx := x7 hx
    have hb1 := iF hh
    have hb2 := tQ hx
    have hw : IntKind.i64.wrap ((i : Int) + 1) = ((i + 1 : Nat) : Int) := by rw [f9 (by omega) (by omega)]; rfl
    have ht0 : c8 tm 0 = .lst .no 7 l.length (l.flatMap b6) := t0
    have hsn := aBD (fun x : Ev => x.path == h.path) hx
    refine w7.round (RX.of a6 ?_)
    cases hp : (x.path == h.path) with
    | false =>
      simp only [G0, Z1, Z2, Z3, Z4, Z5, t3, ht0, t4, hii, decide_true, hi', hlx, hb1, hb2, T7, h0l, S0, hp, hw]
      refine ih (i + 1) os j v _ (by omega) (by omega) ?_ t3 t0 rfl
      rw [hsn]; simp only [hp]; simpa using hO
    | true =>
      have hF := aBT x
      simp only [G0, Z1, Z2, Z3, Z4, Z5, t3, ht0, t4, hii, decide_true, hi', hlx, hb1, hb2, T7, h0l, S0, hp, hF]
      obtain ⟨v', os', j', h1, h2, -, -⟩ := hO.push (by have := List.length_filter_le (fun x : Ev => x.path == h.path) (l.take i); rw [List.length_take] at this; omega) x .full
      refine aL ?_
      rw [h1]
      simp only [G0, Z1, Z2, Z3, Z4, Z5, t4, hw]
      refine ih (i + 1) os' j' v' _ (by omega) (by omega) ?_ rfl t0 rfl
      rw [hsn]; simp only [hp]; simpa using h2
theorem bD5 (l : List Ev) (hl : l.length <= 1000000) : A0 env Tryz.prog 20 [d4 l] (d4 (atF l)) := A0.of fun M => by
 refine PT.enterR a6 bEU (by simp) aT9 fun k hk hf => RX.of a6 ?_
 simp only [G0, Z1, Z2, Z3, Z4, Z5, f8]
 rcases Nat.eq_zero_or_pos l.length with h0 | h0
 ·have : l = [] := List.length_eq_zero_iff.1 h0
  subst this
  refine RX.loop (w7.round (RX.of a6 ?_))
  simp only [G0, Z1, Z2, Z3, Z4, Z5, d4, List.length_nil, Int.natCast_zero, Int.lt_irrefl, decide_false]
  exact m6 hf rfl ⟨J6.nil_no _ _ _ rfl, rfl⟩
 ·obtain ⟨h, hh, -⟩ := K2 h0
  refine RX.loop (aWS l hl h hh M k _ (fun tm os j v hO t3 => ?_) l.length 0 _ none _ _ rfl (Nat.zero_le _) (.nil 0) (by rfl) (by rfl) (by rfl))
  simp only [G0, Z1, Z2, Z3, Z4, Z5, t3]
  exact m6 hf rfl ⟨hO.le, rfl⟩
structure aNI (l : List Ev) : Prop where
 sh : ∀ i, i <= l.length -> aK ((l.take i).foldl D0 [])
 one : ∀ x ∈ l, aK [x]
 sm : ∀ x ∈ l, Sm x
 path : ∀ x ∈ l, ∀ y ∈ l, x.path = y.path
theorem aML : F5 [] := fun i j x y _ hx => by simp at hx
structure Ka (tm : List (Nat × PV)) (l : List Ev) (v : PV) (i : Nat) : Prop where
 t0 : c8 tm 0 = d4 l
 t4 : c8 tm 4 = v
 t5 : c8 tm 5 = iv i
theorem aXJ (l : List Ev) (hl : l.length <= 10000) (hP : aNI l) (M : c7) (k : Nat) (Q : f7 -> d9 -> Prop) (q : ∀ tm v, J6 v (d4 (l.foldl D0 [])) -> c8 tm 4 = v -> Q (.exit 0) ⟨tm, 32, k, [], M⟩) :
  ∀ d i v tm, l.length - i = d -> i <= l.length -> J6 v (d4 ((l.take i).foldl D0 [])) -> Ka tm l v i -> w7 env Tryz.prog none aJL ⟨tm, 32, k, [], M⟩ Q := by
 intro d
 induction d with
 | zero =>
  intro i v tm hd hi hv hK
  have : i = l.length := by omega
  subst this
  rw [List.take_length] at hv
  obtain ⟨t0, t4, t5⟩ := hK
  have ht0 : c8 tm 0 = .lst .no 7 l.length (l.flatMap b6) := t0
  refine w7.round (RX.of a6 ?_)
  simp only [G0, Z1, Z2, Z3, Z4, Z5, ht0, t5, Int.lt_irrefl, decide_false]
  exact q _ v hv t4
 | succ d ih =>
  intro i v tm hd hi hv hK
  have hi' : i < l.length := by omega
  have hii : (i : Int) < l.length := by omega
  obtain ⟨x, hx, -⟩ := K2 hi'
  have hlx := x7 hx
  have hmem := List.mem_of_getElem? hx
  have hw : IntKind.i64.wrap ((i : Int) + 1) = ((i + 1 : Nat) : Int) := by rw [f9 (by omega) (by omega)]; rfl
  have htk : (l.take (i + 1)).foldl D0 [] = D0 ((l.take i).foldl D0 []) x := by rw [K3 hx, List.foldl_append]; rfl
  obtain ⟨t0, t4, t5⟩ := hK
  have ht0 : c8 tm 0 = .lst .no 7 l.length (l.flatMap b6) := t0
  have hlen := kN [] (l.take i)
  have hlen2 : (l.take i).length = i := by rw [List.length_take]; omega
  have hin : ∀ y ∈ (l.take i).foldl D0 [], y ∈ l := rZ [] (· ∈ l) (fun y hy => by simp at hy) _ fun y hy => List.mem_of_mem_take hy
  have hput := aZ3 (l := (l.take i).foldl D0 []) (e := x) (by simp only [List.length_nil] at hlen; omega) (hP.sh i hi) (hP.one x hmem) (fun y hy => hP.sm y (hin y hy)) (hP.sm x hmem)
   (fun h hh => hP.path x hmem h (hin h (List.mem_of_getElem? hh))) (tY [] aML _)
  have hput' : A0 env Tryz.prog 10 [v, l8 x] (.tup [d4 (D0 ((l.take i).foldl D0 []) x), iv 0]) := fun M => (hput M).args (.cons hv (.cons (J6.refl _) .nil))
  refine w7.round (RX.of a6 ?_)
  simp only [G0, Z1, Z2, Z3, Z4, Z5, ht0, t4, t5, hii, decide_true, hi', hlx]
  refine H7 hput' (by decide) ?_
  simp only [G0, Z1, Z2, Z3, Z4, Z5, bne_self_eq_false, m9, o8, Bool.not_false, Bool.not_true]
  have hch := eO (D0 ((l.take i).foldl D0 []) x) (by have := aFW ((l.take i).foldl D0 []) x; simp only [List.length_nil] at hlen; omega) (fun y hy => by
   rcases aGK hy with rfl | hy
   ·exact (hP.sm _ hmem).path
   ·exact (hP.sm y (hin y hy)).path)
  have hs1 := hP.sh (i + 1) (by omega)
  rw [htk] at hs1
  rw [kD hs1] at hch
  refine H7 hch (by decide) ?_
  simp only [G0, Z1, Z2, Z3, Z4, Z5, D7, t5, hw, Bool.not_true, Bool.or_false]
  refine ih (i + 1) _ _ (by omega) (by omega) (J6.refl _) ⟨t0, ?_, rfl⟩
  rw [htk]; rfl
theorem aS0 (l : List Ev) (hl : l.length <= 10000) (hP : aNI l) : A0 env Tryz.prog 21 [d4 l] (.tup [d4 (l.foldl D0 []), bv true]) := A0.of fun M => by
 refine PT.enterR a6 bDQ (by simp) aWQ fun k hk hf => RX.of a6 ?_
 simp only [G0, Z1, Z2, Z3, Z4, Z5, f8]
 refine RX.loop (aXJ l hl hP M k _ (fun tm v hv t4 => ?_) l.length 0 (.lst .full 0 0 []) _ rfl (Nat.zero_le _) (J6.nil_no _ _ _ rfl) (by exact ⟨rfl, rfl, rfl⟩))
 simp only [G0, Z1, Z2, Z3, Z4, Z5, t4]
 exact qH hf rfl rfl ⟨J6.tup (.cons hv (.cons (J6.refl _) .nil)), rfl⟩
theorem aG7 (e : Ev) : aX3 e e = true := by
 have hs : ∀ l : List d6, I2 l l = true := by
  intro l
  induction l with
  | nil => rfl
  | cons x l ih => simp [I2, lO, ih]
 simp [aX3, hs]
theorem aX2 (l : List Ev) (hl : l.length <= 1000000) (hp : ∀ x ∈ l, x.past.length <= 9223372036854775806) (M : c7) (k : Nat) (Q : f7 -> d9 -> Prop) (q : ∀ tm, Q (.exit 0) ⟨tm, 27, k, [], M⟩) :
  ∀ d i tm, l.length - i = d -> i <= l.length -> c8 tm 0 = d4 l -> c8 tm 1 = d4 l -> c8 tm 5 = iv i -> w7 env Tryz.prog none aLF ⟨tm, 27, k, [], M⟩ Q := by
 intro d
 induction d with
 | zero =>
  intro i tm hd hi t0 t1 t5
  have : i = l.length := by omega
  subst this
  refine w7.round (RX.of a6 ?_)
  simp only [G0, Z1, Z2, Z3, Z4, Z5, t0, t5, d4, Int.lt_irrefl, decide_false]
  exact q _
 | succ d ih =>
  intro i tm hd hi t0 t1 t5
  have hi' : i < l.length := by omega
  obtain ⟨x, hx, hdx⟩ := K2 hi'
  have hii : (i : Int) < l.length := by omega
  have hlx := x7 hx
  have hw : IntKind.i64.wrap ((i : Int) + 1) = ((i + 1 : Nat) : Int) := by rw [f9 (by omega) (by omega)]; rfl
  refine w7.round (RX.of a6 ?_)
  simp only [G0, Z1, Z2, Z3, Z4, Z5, t0, t1, t5, d4, hii, decide_true, hi', hlx]
  refine H7 (aCK x x (hp x (List.mem_of_getElem? hx))) (by decide) ?_
  rw [aG7]
  simp only [G0, Z1, Z2, Z3, Z4, Z5, t5, hw, Bool.not_true]
  exact ih (i + 1) _ (by omega) (by omega) t0 t1 rfl
theorem aVH (l : List Ev) (hl : l.length <= 1000000) (hp : ∀ x ∈ l, x.past.length <= 9223372036854775806) : A0 env Tryz.prog 14 [d4 l, d4 l] (bv true) := fun M => by
 refine PT.enterR a6 bEQ (by simp) aYL fun k hk hf => RX.of a6 ?_
 simp only [G0, Z1, Z2, Z3, Z4, Z5, f8, d4, bne_self_eq_false]
 refine RX.loop (aX2 l hl hp M k _ (fun tm => ?_) l.length 0 _ rfl (Nat.zero_le _) (by rfl) (by rfl) (by rfl))
 simp only [G0, Z1, Z2, Z3, Z4, Z5]
 exact m6 hf rfl ⟨rfl, rfl⟩
end Go.Proofs.YtlbjplpehkgcdaaGreatDoor