/- ShelfOrder holds. Part 30 of 32; no condition. -/
import Derived.Test.YtlbjplpehkgcdaaGreatDoorM29
set_option linter.unusedVariables false
set_option linter.unusedSimpArgs false
set_option maxHeartbeats 4000000
set_option maxRecDepth 100000
open Nat renaming reduceLT → Z1, reduceEqDiff → Z2, reduceAdd → Z3, reduceLeDiff → Z4, reduceMul → Z5
namespace Go.Proofs.YtlbjplpehkgcdaaGreatDoor
open Go Go.Am Go.Pm
def P1 (bs : List Bool) : PV := .lst .no 1 bs.length (bs.map bv)
def fl (bs : List Bool) (i : Nat) : Bool := (bs[i]?).getD false
theorem aH4 {t : kV} {l : List Bool} {i : Nat} {x : Bool} (h : l[i]? = some x) : A3 false 1 (l.map bv) (i * 1) = some (bv x) := by
 unfold A3
 simp [h]
end Go.Proofs.YtlbjplpehkgcdaaGreatDoor
namespace Go.Proofs.YtlbjplpehkgcdaaGreatDoor
open Go Go.Am Go.Pm
def pick (x n : Int) : Int := ((x.tmod n) + n).tmod n
theorem aGS (x n : Int) (h : 0 < n) : 0 <= pick x n /\ pick x n < n := by
 have h1 := Int.lt_tmod_of_pos x h
 have h2 := Int.tmod_lt_of_pos x h
 have h3 : 0 <= x.tmod n + n := by omega
 exact ⟨Int.tmod_nonneg _ h3, Int.tmod_lt_of_pos _ h⟩
theorem aQX (x n : Int) (h : 0 < n) (hn : n <= 1000000) : A0 env Tryz.prog 23 [iv x, iv n] (iv (pick x n)) := fun M => by
 have h1 := Int.lt_tmod_of_pos x h
 have h2 := Int.tmod_lt_of_pos x h
 have h0 : ¬ (n < 1) := by omega
 have hne : n ≠ 0 := by omega
 have hr : ∀ {t : Nat} {c d : Bool} {y : Int}, C0 env .rem t c d (.v (.int .i64 y)) (.v (.int .i64 n)) = some (iv (y.tmod n)) := fun {t c d y} => by
  simp [C0, E0, J1, hne]
 have hw : IntKind.i64.wrap (x.tmod n + n) = x.tmod n + n := f9 (by omega) (by omega)
 refine PT.enterR a6 bDN (by simp) aX9 fun k hk hf => RX.of a6 ?_
 simp only [G0, Z1, Z2, Z3, Z4, Z5, f8, h0, decide_false, hr, hw]
 exact m6 hf rfl ⟨rfl, rfl⟩
end Go.Proofs.YtlbjplpehkgcdaaGreatDoor
namespace Go.Pm
open Go.RowKit Go.Am
theorem aEE {tm : List (Nat × PV)} {nt k i : Nat} {os : List Obj} {M : c7} {w : PV} (h : J6 (c8 tm i) w) : wB ⟨tm, nt, k, os, M⟩ ⟨(i, w) :: tm, nt, k, os, M⟩ :=
 wB.tms fun j => by
  rw [Q6]
  by_cases hj : j = i
  ·rw [if_pos hj]; subst hj; exact h
  ·rw [if_neg hj]; exact J6.refl _
end Go.Pm
namespace Go.Proofs.YtlbjplpehkgcdaaGreatDoor
open Go Go.Am Go.Pm
theorem aRA (l : List Ev) (e : Ev) (hl : l.length <= 1000000) (hd : ∀ x ∈ l, B7 x e = true -> x = e) (hp : e.past.length <= 1000000) (M : c7) (k : Nat) (Q : f7 -> d9 -> Prop)
  (q1 : (l.any fun x => B7 x e) = false -> ∀ tm, Q (.exit 0) ⟨tm, 18, k, [.row .rw 0 (b6 e)], M⟩) (q2 : (l.any fun x => B7 x e) = true -> ∀ tm, c8 tm 4 = bv true -> Q .ret ⟨tm, 18, k, [.row .rw 0 (b6 e)], M⟩) :
  ∀ d i tm, l.length - i = d -> i <= l.length -> (l.any fun x => B7 x e) = ((l.drop i).any fun x => B7 x e) -> c8 tm 0 = d4 l -> c8 tm 3 = .ptr k 0 0 -> c8 tm 5 = iv i →
  w7 env Tryz.prog none aMD ⟨tm, 18, k, [.row .rw 0 (b6 e)], M⟩ Q := by
 intro d
 induction d with
 | zero =>
  intro i tm hdd hi ha t0 t3 t5
  have : i = l.length := by omega
  subst this
  have h0 : c8 tm 0 = .lst .no 7 l.length (l.flatMap b6) := t0
  refine w7.round (RX.of a6 ?_)
  simp only [G0, Z1, Z2, Z3, Z4, Z5, h0, t5, Int.lt_irrefl, decide_false]
  exact q1 (by rw [ha, List.drop_of_length_le (Nat.le_refl _)]; rfl) _
 | succ d ih =>
  intro i tm hdd hi ha t0 t3 t5
  have hi' : i < l.length := by omega
  have hii : (i : Int) < l.length := by omega
  obtain ⟨x, hx, hdx⟩ := K2 hi'
  have hlx := x7 hx
  have h0 : c8 tm 0 = .lst .no 7 l.length (l.flatMap b6) := t0
  have hw : IntKind.i64.wrap ((i : Int) + 1) = ((i + 1 : Nat) : Int) := by rw [f9 (by omega) (by omega)]; rfl
  rw [hdx, List.any_cons] at ha
  refine w7.round (RX.of a6 ?_)
  simp only [G0, Z1, Z2, Z3, Z4, Z5, h0, t3, t5, hii, decide_true, hi', hlx, R5]
  cases hs : B7 x e with
  | true =>
   have := hd x (List.mem_of_getElem? hx) hs
   subst this
   refine H7 (aP9 x hp) (by decide) ?_
   simp only [G0, Z1, Z2, Z3, Z4, Z5]
   exact q2 (by rw [ha, hs]; rfl) _ rfl
  | false =>
   refine H7 (aP5 x e hs) (by decide) ?_
   simp only [G0, Z1, Z2, Z3, Z4, Z5, t5, hw]
   exact ih (i + 1) _ (by omega) (by omega) (by rw [ha, hs, Bool.false_or]) t0 t3 rfl
theorem bDB (l : List Ev) (e : Ev) (hl : l.length <= 1000000) (hd : ∀ x ∈ l, B7 x e = true -> x = e) (hp : e.past.length <= 1000000) : A0 env Tryz.prog 25 [d4 l, l8 e] (bv (l.any fun x => B7 x e)) := fun M => by
 refine PT.enterR a6 bEK (by simp) aV5 fun k hk hf => RX.of a6 ?_
 simp only [G0, Z1, Z2, Z3, Z4, Z5, f8, aLR]
 refine RX.loop (aRA l e hl hd hp M k _ (fun ha tm => ?_) (fun ha tm t4 => ?_) l.length 0 _ rfl (Nat.zero_le _) rfl (by rfl) (by rfl) (by rfl))
 ·simp only [G0, Z1, Z2, Z3, Z4, Z5]
  exact m6 hf rfl ⟨by rw [ha]; rfl, rfl⟩
 ·simp only [G0, Z1, Z2, Z3, Z4, Z5]
  exact m6 hf t4 ⟨by rw [ha], rfl⟩
theorem T9.pushL {k : Nat} {os : List Pm.Obj} {j : Option Nat} {v : PV} {L : List Ev} (h : T9 k os j v L) (L2 : List Ev) (hl : L.length + L2.length <= 1000000) (t : kV) :
  ∃ v' os' j', (∀ {tm : List (Nat × PV)} {nt : Nat} {M : c7}, gH ⟨tm, nt, k, os, M⟩ 7 96 7 v (.lst t 7 L2.length (L2.flatMap b6)) = some (v', ⟨tm, nt, k, os', M⟩)) /\ T9 k os' j' v' (L ++ L2) := by
 have hfm : (L ++ L2).flatMap b6 = L.flatMap b6 ++ L2.flatMap b6 := List.flatMap_append
 have hlen : (L ++ L2).length = L.length + L2.length := List.length_append
 by_cases h0 : L2.length = 0
 ·have : L2 = [] := List.length_eq_zero_iff.1 h0
  subst this
  rw [List.append_nil]
  refine ⟨v, os, j, fun {tm nt M} => ?_, h⟩
  cases h with
  | nil e => exact lR
  | tok h => exact lR
 ·cases h with
  | nil e0 =>
   have hc : (0 = 0 \/ e0 = 7) /\ (2 * (0 + L2.length) + 2000) * 96 <= 281474976710656 /\ 0 + L2.length <= 4611686018427387904 /\ 7 < 4096 /\ 7 = 7 /\ (L2.flatMap b6).all w9 = true := ⟨.inl rfl, by omega, by omega, by decide, rfl, qN L2⟩
   refine ⟨_, os ++ [.grow (0 + L2.length) 7], some os.length, fun {tm nt M} => oJ h0 hc, ?_⟩
   have := T9.tok (k := k) (os := os ++ [.grow (0 + L2.length) 7]) (j := os.length) (L := L2) (by rw [List.getElem?_append_right (Nat.le_refl _), Nat.sub_self, Nat.zero_add]; rfl)
   rw [Nat.zero_add] at this ⊢
   exact this
  | @tok j L h =>
   have hj := (List.getElem?_eq_some_iff.1 h).1
   have hc : (L.length = 0 \/ 7 = 7) /\ (2 * (L.length + L2.length) + 2000) * 96 <= 281474976710656 /\ L.length + L2.length <= 4611686018427387904 /\ 7 < 4096 /\ 7 = 7 /\ (L2.flatMap b6).all w9 = true := ⟨.inr rfl, by omega, by omega, by decide, rfl, qN L2⟩
   refine ⟨_, os.set j (.grow (L.length + L2.length) 7), some j, fun {tm nt M} => aS4 h0 h hc rfl, ?_⟩
   rw [<- hfm, <- hlen]
   exact .tok (by rw [List.getElem?_set_self hj])
def V7 (l : List Int) : PV := .lst .no 1 l.length (l.map iv)
def plc (order : List Int) (i n : Nat) : Nat := match order[i]? with
 | some x => (pick x ((n : Int) + 1)).toNat
 | none => 0
theorem aMZ (order : List Int) (i n : Nat) : plc order i n <= n := by
 unfold plc
 split
 ·rename_i x _
  have := aGS x ((n : Int) + 1) (by omega)
  omega
 ·exact Nat.zero_le _
def sP (order : List Int) (again : List Bool) (i : Nat) (T : List Ev) (x : Ev) : List Ev :=
 (T.take (plc order i T.length) ++ [x] ++ T.drop (plc order i T.length)) ++ (if fl again i then [x] else [])
theorem aKO {order : List Int} {again : List Bool} {i : Nat} {T : List Ev} {x y : Ev} : y ∈ sP order again i T x ↔ y ∈ T \/ y = x := by
 unfold sP
 have h : y ∈ T ↔ y ∈ T.take (plc order i T.length) \/ y ∈ T.drop (plc order i T.length) := by
  rw [<- List.mem_append, List.take_append_drop]
 have h2 : y ∈ (if fl again i then [x] else []) -> y = x := fun hy => by
  split at hy
  ·simpa using hy
  ·simp at hy
 simp only [List.mem_append, List.mem_singleton]
 constructor
 ·rintro (((h1 | h1) | h1) | h1)
  ·exact .inl (h.2 (.inl h1))
  ·exact .inr h1
  ·exact .inl (h.2 (.inr h1))
  ·exact .inr (h2 h1)
 ·rintro (h1 | h1)
  ·rcases h.1 h1 with h1 | h1
   ·exact .inl (.inl (.inl h1))
   ·exact .inl (.inr h1)
  ·exact .inl (.inl (.inr h1))
theorem aBP (order : List Int) (again : List Bool) (i : Nat) (T : List Ev) (x : Ev) : (sP order again i T x).length <= T.length + 2 := by
 have := aMZ order i T.length
 unfold sP
 simp only [List.length_append, List.length_take, List.length_drop, List.length_singleton]
 split <;> simp <;> omega
end Go.Proofs.YtlbjplpehkgcdaaGreatDoor
namespace Go.Proofs.YtlbjplpehkgcdaaGreatDoor
open Go Go.Am Go.Pm
theorem aOS {l : List Ev} {n : Nat} : (l.flatMap b6).take (n * 7) = (l.take n).flatMap b6 := by
 induction l generalizing n with
 | nil => simp
 | cons x l ih =>
  cases n with
  | zero => simp
  | succ n =>
   rw [List.flatMap_cons, List.take_succ_cons, List.flatMap_cons, <- ih, show (n + 1) * 7 = (b6 x).length + n * 7 by show _ = 7 + _; omega, List.take_append]
   simp [List.take_of_length_le]
theorem zL {l : List Ev} {n : Nat} : (l.flatMap b6).drop (n * 7) = (l.drop n).flatMap b6 := by
 induction l generalizing n with
 | nil => simp
 | cons x l ih =>
  cases n with
  | zero => simp
  | succ n =>
   rw [List.flatMap_cons, List.drop_succ_cons, <- ih, show (n + 1) * 7 = (b6 x).length + n * 7 by show _ = 7 + _; omega, List.drop_append]
   simp [List.drop_of_length_le]
theorem aYN {l : List Ev} {n : Nat} (h : n <= l.length) : P0 7 (d4 l) none (some (iv n)) none = some (d4 (l.take n)) := by
 unfold d4 P0
 simp only [if_true, H6, Nat.zero_le, true_and, if_pos h, Nat.zero_mul, List.drop_zero, Nat.sub_zero]
 rw [aOS, List.length_take, Nat.min_eq_left h]
theorem aL7 {l : List Ev} {n : Nat} (h : n <= l.length) : P0 7 (d4 l) (some (iv n)) none none = some (d4 (l.drop n)) := by
 unfold d4 P0
 simp only [if_true, H6, if_pos (show n <= l.length /\ l.length <= l.length from ⟨h, Nat.le_refl _⟩)]
 rw [zL, List.length_drop, List.take_of_length_le]
 rw [<- zL, List.length_drop]
 have : (l.flatMap b6).length = l.length * 7 := by
  clear h
  induction l with
  | nil => rfl
  | cons x l ih => rw [List.flatMap_cons, List.length_append, ih, List.length_cons]; show 7 + _ = _; omega
 rw [this, Nat.sub_mul]
 exact Nat.le_refl _
theorem aOP {t : kV} {l : List Int} {i : Nat} {x : Int} (h : l[i]? = some x) : A3 false 1 (l.map iv) (i * 1) = some (iv x) := by
 unfold A3
 simp [h]
theorem bC0 {E : i9} {P : Program} {d sz by_ zl : Nat} {A B : Operand} {ld : List RD} {tm : List (Nat × PV)} {nt k : Nat} {os : List Pm.Obj} {M : c7} {R : d9 -> Prop} (h : l4 tm A = .lst .full 7 0 []) :
  V0 E P (dQ d sz by_ zl A B :: ld) ⟨tm, nt, k, os, M⟩ R = nU E P d (.d ld) R (gH ⟨tm, nt, k, os, M⟩ sz by_ zl (.lst .full 7 0 []) (l4 tm B)) := bE5 h
structure K5 (tm : List (Nat × PV)) (l : List Ev) (order : List Int) (again : List Bool) (A T : List Ev) (i : Nat) : Prop where
 t0 : c8 tm 0 = d4 l
 t1 : c8 tm 1 = V7 order
 t2 : c8 tm 2 = P1 again
 t7 : c8 tm 7 = bv true
 t8 : c8 tm 8 = d4 A
 t9 : c8 tm 9 = bv true
 t10 : c8 tm 10 = d4 T
 t11 : c8 tm 11 = iv i
section
variable {l A T : List Ev} {order : List Int} {again : List Bool} {i : Nat} {M : c7} {k : Nat} {os : List Pm.Obj} {Q : f7 -> d9 -> Prop}
theorem aX8 {tm : List (Nat × PV)} (hK : K5 tm l order again A T i) (h12 : c8 tm 12 = iv 0) (hT : T.length <= 10000) (q : ∀ tm', K5 tm' l order again A T i -> c8 tm' 12 = iv (plc order i T.length) -> Q .normal ⟨tm', 134, k, os, M⟩) :
  RX env Tryz.prog none aTJ ⟨tm, 134, k, os, M⟩ Q := by
 obtain ⟨t0, t1, t2, t7, t8, t9, t10, t11⟩ := hK
 have h1 : c8 tm 1 = .lst .no 1 order.length (order.map iv) := t1
 have h10 : c8 tm 10 = .lst .no 7 T.length (T.flatMap b6) := t10
 refine RX.of a6 ?_
 rcases Nat.lt_or_ge i order.length with hi | hi
 ·have hii : (i : Int) < order.length := by omega
  obtain ⟨x, hx, -⟩ := K2 hi
  have hlx := aOP (t := .no) hx
  have hp := aGS x ((T.length : Int) + 1) (by omega)
  have hf : plc order i T.length = (pick x ((T.length : Int) + 1)).toNat := by unfold plc; rw [hx]
  have hf' : pick x ((T.length : Int) + 1) = ((plc order i T.length : Nat) : Int) := by rw [hf]; omega
  have hw : IntKind.i64.wrap ((T.length : Int) + 1) = (T.length : Int) + 1 := f9 (by omega) (by omega)
  simp only [G0, Z1, Z2, Z3, Z4, Z5, h1, h10, t11, hii, hi, hlx, hw, decide_true]
  refine H7 (aQX x ((T.length : Int) + 1) (by omega) (by omega)) (by decide) ?_
  rw [hf']
  simp only [G0, Z1, Z2, Z3, Z4, Z5]
  exact q _ ⟨t0, t1, t2, t7, t8, t9, t10, t11⟩ rfl
 ·have hii : ¬ (i : Int) < order.length := by omega
  have hf : plc order i T.length = 0 := by unfold plc; rw [List.getElem?_eq_none hi]
  simp only [G0, Z1, Z2, Z3, Z4, Z5, h1, t11, hii, decide_false]
  exact q _ ⟨t0, t1, t2, t7, t8, t9, t10, t11⟩ (by rw [hf]; exact h12)
theorem bEW {tm : List (Nat × PV)} {p : Nat} {x : Ev} (hK : K5 tm l order again A T i) (h12 : c8 tm 12 = iv p) (hT : T.length <= 10000) (hp : p <= T.length) (hx : l[i]? = some x)
  (q : ∀ tm' os' j v, c8 tm' 0 = d4 l -> c8 tm' 1 = V7 order -> c8 tm' 2 = P1 again -> c8 tm' 7 = bv true -> c8 tm' 8 = d4 A -> c8 tm' 9 = bv true -> c8 tm' 11 = iv i →
   c8 tm' 10 = v -> T9 k os' j v (T.take p ++ [x] ++ T.drop p) -> Q .normal ⟨tm', 134, k, os', M⟩) :
  RX env Tryz.prog none aSC ⟨tm, 134, k, [], M⟩ Q := by
 obtain ⟨t0, t1, t2, t7, t8, t9, t10, t11⟩ := hK
 have hi := iA hx
 have hlx := x7 hx
 have ht0 : c8 tm 0 = .lst .no 7 l.length (l.flatMap b6) := t0
 have hF := aBT x
 have hto := aYN hp
 have hfr := aL7 hp
 have hlt : (T.take p).length = p := by rw [List.length_take, Nat.min_eq_left hp]
 refine RX.of a6 ?_
 simp only [G0, Z1, Z2, Z3, Z4, Z5, t10, h12, hto, hfr, ht0, t11, hi, hlx, hF, bC0]
 obtain ⟨v1, os1, j1, e1, o1⟩ := (T9.nil (k := k) (os := []) 7).pushL (T.take p) (by simp only [List.length_nil]; omega) .no
 have e1' : ∀ {tm : List (Nat × PV)} {nt : Nat} {M : c7}, gH ⟨tm, nt, k, [], M⟩ 7 96 7 (.lst .full 7 0 []) (d4 (T.take p)) = some (v1, ⟨tm, nt, k, os1, M⟩) := e1
 rw [e1']
 rw [List.nil_append] at o1
 obtain ⟨v2, os2, j2, e2, o2, -, -⟩ := o1.push (by omega) x .full
 simp only [G0, Z1, Z2, Z3, Z4, Z5]
 refine aL ?_
 rw [e2]
 obtain ⟨v3, os3, j3, e3, o3⟩ := o2.pushL (T.drop p) (by simp only [List.length_append, List.length_singleton, List.length_drop]; omega) .no
 have e3' : ∀ {tm : List (Nat × PV)} {nt : Nat} {M : c7}, gH ⟨tm, nt, k, os2, M⟩ 7 96 7 v2 (d4 (T.drop p)) = some (v3, ⟨tm, nt, k, os3, M⟩) := e3
 simp only [G0, Z1, Z2, Z3, Z4, Z5]
 refine aL ?_
 rw [e3']
 simp only [G0, Z1, Z2, Z3, Z4, Z5]
 exact q _ os3 j3 v3 t0 t1 t2 t7 t8 t9 t11 rfl o3
theorem aY2 {tm : List (Nat × PV)} {x : Ev} {j : Option Nat} {v : PV} {L : List Ev} (h0 : c8 tm 0 = d4 l) (h1 : c8 tm 1 = V7 order) (h2 : c8 tm 2 = P1 again) (h7 : c8 tm 7 = bv true) (h8 : c8 tm 8 = d4 A) (h9 : c8 tm 9 = bv true) (h11 : c8 tm 11 = iv i) (h10 : c8 tm 10 = v) (hO : T9 k os j v L) (hL : L.length <= 1000000) (hx : l[i]? = some x)
  (q : ∀ tm' os' j' v', c8 tm' 0 = d4 l -> c8 tm' 1 = V7 order -> c8 tm' 2 = P1 again -> c8 tm' 7 = bv true -> c8 tm' 8 = d4 A -> c8 tm' 9 = bv true -> c8 tm' 11 = iv i →
   c8 tm' 10 = v' -> T9 k os' j' v' (L ++ (if fl again i then [x] else [])) -> Q .normal ⟨tm', 134, k, os', M⟩) :
  RX env Tryz.prog none aS5 ⟨tm, 134, k, os, M⟩ Q := by
 have hi := iA hx
 have hlx := x7 hx
 have ht0 : c8 tm 0 = .lst .no 7 l.length (l.flatMap b6) := h0
 have g2 : c8 tm 2 = .lst .no 1 again.length (again.map bv) := h2
 have hF := aBT x
 refine RX.of a6 ?_
 rcases Nat.lt_or_ge i again.length with hj | hj
 ·have hjj : (i : Int) < again.length := by omega
  obtain ⟨y, hy, -⟩ := K2 hj
  have hly := aH4 (t := .no) hy
  have hg : fl again i = y := by unfold fl; rw [hy]; rfl
  cases y with
  | true =>
   obtain ⟨w, os', j', e1, e2, e3, e4⟩ := hO.push hL x .full
   simp only [G0, Z1, Z2, Z3, Z4, Z5, g2, h11, hjj, hj, hly, decide_true, m9, Bool.and_true, Bool.true_and, h10, ht0, hi, hlx, hF]
   refine aL ?_
   rw [e1]
   simp only [G0, Z1, Z2, Z3, Z4, Z5]
   exact q _ os' j' w h0 h1 h2 h7 h8 h9 h11 rfl (by rw [hg, if_pos rfl]; exact e2)
  | false =>
   simp only [G0, Z1, Z2, Z3, Z4, Z5, g2, h11, hjj, hj, hly, decide_true, m9, o8, Bool.and_true, Bool.true_and]
   exact q _ os j v h0 h1 h2 h7 h8 h9 h11 h10 (by rw [hg, if_neg (by simp), List.append_nil]; exact hO)
 ·have hjj : ¬ (i : Int) < again.length := by omega
  have hg : fl again i = false := by unfold fl; rw [List.getElem?_eq_none hj]; rfl
  simp only [G0, Z1, Z2, Z3, Z4, Z5, g2, h11, hjj, decide_false, o8, Bool.and_true, Bool.true_and]
  exact q _ os j v h0 h1 h2 h7 h8 h9 h11 h10 (by rw [hg, if_neg (by simp), List.append_nil]; exact hO)
end
def trn (order : List Int) (again : List Bool) : Nat -> List Ev -> List Ev -> List Ev
 | _, T, [] => T
 | i, T, x :: r => trn order again (i + 1) (sP order again i T x) r
theorem aEO (order : List Int) (again : List Bool) (y : Ev) : ∀ (r : List Ev) (i : Nat) (T : List Ev), y ∈ trn order again i T r ↔ y ∈ T \/ y ∈ r
 | [], i, T => by simp [trn]
 | x :: r, i, T => by
  show y ∈ trn order again (i + 1) (sP order again i T x) r ↔ _
  rw [aEO order again y r, aKO, List.mem_cons, or_assoc]
theorem aEH (order : List Int) (again : List Bool) : ∀ (r : List Ev) (i : Nat) (T : List Ev), (trn order again i T r).length <= T.length + 2 * r.length
 | [], i, T => by simp [trn]
 | x :: r, i, T => by
  have h1 := aEH order again r (i + 1) (sP order again i T x)
  have h2 := aBP order again i T x
  show (trn order again (i + 1) (sP order again i T x) r).length <= _
  rw [List.length_cons]; omega
theorem bBF (l A : List Ev) (order : List Int) (again : List Bool) (hl : l.length <= 1000) (F : List Ev) (M : c7) (k : Nat) (Q : f7 -> d9 -> Prop) (q : ∀ tm, K5 tm l order again A F l.length -> Q (.exit 0) ⟨tm, 134, k, [], M⟩) :
  ∀ d i T tm, l.length - i = d -> i <= l.length -> T.length <= 2 * i -> trn order again i T (l.drop i) = F -> K5 tm l order again A T i -> w7 env Tryz.prog none aSR ⟨tm, 134, k, [], M⟩ Q := by
 intro d
 induction d with
 | zero =>
  intro i T tm hd hi hT hF hK
  have : i = l.length := by omega
  subst this
  rw [List.drop_of_length_le (Nat.le_refl _)] at hF
  obtain rfl : T = F := hF
  obtain ⟨t0, t1, t2, t7, t8, t9, t10, t11⟩ := hK
  have ht0 : c8 tm 0 = .lst .no 7 l.length (l.flatMap b6) := t0
  refine w7.round (RX.of a6 ?_)
  simp only [G0, Z1, Z2, Z3, Z4, Z5, ht0, t11, Int.lt_irrefl, decide_false]
  exact q _ ⟨t0, t1, t2, t7, t8, t9, t10, t11⟩
 | succ d ih =>
  intro i T tm hd hi hT hF hK
  have hi' : i < l.length := by omega
  have hii : (i : Int) < l.length := by omega
  obtain ⟨x, hx, hdx⟩ := K2 hi'
  have hw : IntKind.i64.wrap ((i : Int) + 1) = ((i + 1 : Nat) : Int) := by rw [f9 (by omega) (by omega)]; rfl
  have hlen : (T.take (plc order i T.length) ++ [x] ++ T.drop (plc order i T.length)).length <= 1000000 := by
   simp only [List.length_append, List.length_take, List.length_drop, List.length_singleton]; omega
  rw [hdx] at hF
  obtain ⟨t0, t1, t2, t7, t8, t9, t10, t11⟩ := hK
  have ht0 : c8 tm 0 = .lst .no 7 l.length (l.flatMap b6) := t0
  refine w7.inn fun k' hk1 hk2 hk3 => RX.seq (RX.of a6 ?_)
  simp only [G0, Z1, Z2, Z3, Z4, Z5, ht0, t11, hii, decide_true]
  refine RX.seq (RX.blk (RX.seq (RX.of a6 ?_)))
  simp only [G0, Z1, Z2, Z3, Z4, Z5]
  refine RX.seq (aX8 (l := l) (order := order) (again := again) (A := A) (T := T) (i := i) (by exact ⟨t0, t1, t2, t7, t8, t9, t10, t11⟩) rfl (by omega) fun tm1 hK1 h12 => ?_)
  refine RX.seq (bEW hK1 h12 (by omega) (aMZ _ _ _) hx fun tm2 os2 j2 v2 a0 a1 a2 a7 a8 a9 a11 a10 hO2 => ?_)
  refine aY2 a0 a1 a2 a7 a8 a9 a11 a10 hO2 hlen hx fun tm3 os3 j3 v3 b0 b1 b2 b7 b8 b9 b11 b10 hO3 => ?_
  refine RX.of a6 ?_
  simp only [G0, Z1, Z2, Z3, Z4, Z5, b11, hw]
  refine w7.weak (aEE (i := 10) (w := d4 (sP order again i T x)) (by exact (show J6 (c8 tm3 10) _ from b10 ▸ hO3.le))) ?_
  exact ih (i + 1) (sP order again i T x) _ (by omega) (by omega) (by have := aBP order again i T x; omega) hF ⟨b0, b1, b2, b7, b8, b9, rfl, rfl⟩
end Go.Proofs.YtlbjplpehkgcdaaGreatDoor