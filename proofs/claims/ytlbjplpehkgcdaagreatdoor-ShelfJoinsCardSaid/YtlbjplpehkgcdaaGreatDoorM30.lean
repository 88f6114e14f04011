/- ShelfJoins holds. Part 30 of 32; no condition. -/
import Derived.Test.YtlbjplpehkgcdaaGreatDoorM29
set_option linter.unusedVariables false
set_option linter.unusedSimpArgs false
set_option maxHeartbeats 4000000
set_option maxRecDepth 100000
open Nat renaming reduceLT → Z1, reduceEqDiff → Z2, reduceAdd → Z3, reduceLeDiff → Z4, reduceMul → Z5
namespace Go.Proofs.YtlbjplpehkgcdaaGreatDoor
open Go Go.Am Go.Pm
def encBools (bs : List Bool) : PV := .lst .no 1 bs.length (bs.map bv)
def fl (bs : List Bool) (i : Nat) : Bool := (bs[i]?).getD false
def sel (f : Nat -> Bool) : Nat -> List Ev -> List Ev
 | _, [] => []
 | i, x :: r => if f i then x :: sel f (i + 1) r else sel f (i + 1) r
theorem sel_app (f : Nat -> Bool) (x : Ev) : ∀ (l : List Ev) (j : Nat), sel f j (l ++ [x]) = sel f j l ++ (if f (j + l.length) then [x] else [])
 | [], j => by simp [sel]
 | y :: l, j => by
  have ih := sel_app f x l (j + 1)
  have e : j + 1 + l.length = j + (y :: l).length := by simp; omega
  rw [e] at ih
  show (if f j then y :: sel f (j + 1) (l ++ [x]) else sel f (j + 1) (l ++ [x])) = (if f j then y :: sel f (j + 1) l else sel f (j + 1) l) ++ _
  rw [ih]
  split <;> simp
theorem sel_snoc (f : Nat -> Bool) {l : List Ev} {i : Nat} {x : Ev} (hx : l[i]? = some x) : sel f 0 (l.take (i + 1)) = sel f 0 (l.take i) ++ (if f i then [x] else []) := by
 have hi := lt_get hx
 rw [take_snoc hx, sel_app, List.length_take, Nat.min_eq_left (Nat.le_of_lt hi), Nat.zero_add]
theorem mem_sel (f : Nat -> Bool) (x : Ev) : ∀ (l : List Ev) (j : Nat), x ∈ sel f j l ↔ ∃ i, l[i]? = some x /\ f (j + i) = true
 | [], j => by simp [sel]
 | y :: l, j => by
  have ih := mem_sel f x l (j + 1)
  have h1 : x ∈ sel f j (y :: l) ↔ (f j = true /\ x = y) \/ x ∈ sel f (j + 1) l := by
   show x ∈ (if f j then y :: sel f (j + 1) l else sel f (j + 1) l) ↔ _
   cases f j <;> simp
  rw [h1, ih]
  constructor
  ·rintro (⟨h, rfl⟩ | ⟨i, h2, h3⟩)
   ·exact ⟨0, rfl, h⟩
   ·exact ⟨i + 1, by simpa using h2, by rw [<- h3]; congr 1; omega⟩
  ·rintro ⟨i, h2, h3⟩
   cases i with
   | zero => simp at h2; exact .inl ⟨h3, h2.symm⟩
   | succ i => exact .inr ⟨i, by simpa using h2, by rw [<- h3]; congr 1; omega⟩
theorem sel_len (f : Nat -> Bool) : ∀ (l : List Ev) (j : Nat), (sel f j l).length <= l.length
 | [], j => Nat.le_refl _
 | y :: l, j => by
  have ih := sel_len f l (j + 1)
  show (if f j then y :: sel f (j + 1) l else sel f (j + 1) l).length <= _
  split <;> simp <;> omega
theorem bool_load {t : Tok} {l : List Bool} {i : Nat} {x : Bool} (h : l[i]? = some x) : ptake false 1 (l.map bv) (i * 1) = some (bv x) := by
 unfold ptake
 simp [h]
structure K4 (tm : List (Nat × PV)) (l : List Ev) (one other : List Bool) (v1 v2 v3 : PV) (i : Nat) : Prop where
 t0 : tget tm 0 = encEvs l
 t1 : tget tm 1 = encBools one
 t2 : tget tm 2 = encBools other
 t7 : tget tm 7 = bv true
 t8 : tget tm 8 = v1
 t9 : tget tm 9 = v2
 t10 : tget tm 10 = v3
 t11 : tget tm 11 = iv i
section
variable {l : List Ev} {one other : List Bool} {v1 v2 v3 : PV} {i : Nat} {M : PMem} {k : Nat} {os : List Pm.Obj} {Q : AExit -> PSt -> Prop}
theorem flags4 {tm : List (Nat × PV)} (hK : K4 tm l one other v1 v2 v3 i) (q : ∀ tm', K4 tm' l one other v1 v2 v3 i -> tget tm' 12 = bv (fl one i) -> tget tm' 13 = bv (fl other i) -> Q .normal ⟨tm', 161, k, os, M⟩) :
    RX env Tryz.prog none c4_13 ⟨tm, 161, k, os, M⟩ Q := by
  obtain ⟨t0, t1, t2, t7, t8, t9, t10, t11⟩ := hK
  have h1 : tget tm 1 = .lst .no 1 one.length (one.map bv) := t1
  have h2 : tget tm 2 = .lst .no 1 other.length (other.map bv) := t2
  refine RX.of env_ok ?_
  rcases Nat.lt_or_ge i one.length with hi | hi
  · have hii : (i : Int) < one.length := by omega
    obtain ⟨x, hx, -⟩ := getE hi
    have hlx := bool_load (t := .no) hx
    have hf : fl one i = x := by unfold fl; rw [hx]; rfl
    rcases Nat.lt_or_ge i other.length with hj | hj
    · have hjj : (i : Int) < other.length := by omega
      obtain ⟨y, hy, -⟩ := getE hj
      have hly := bool_load (t := .no) hy
      have hg : fl other i = y := by unfold fl; rw [hy]; rfl
      simp only [G0, Z1, Z2, Z3, Z4, Z5, h1, h2, t11, hii, hjj, hi, hj, hlx, hly, decide_true, cnd_t, Bool.and_true, Bool.true_and]
      exact q _ ⟨t0, t1, t2, t7, t8, t9, t10, t11⟩ (by rw [hf]; rfl) (by rw [hg]; rfl)
    · have hjj : ¬ (i : Int) < other.length := by omega
      have hg : fl other i = false := by unfold fl; rw [List.getElem?_eq_none hj]; rfl
      simp only [G0, Z1, Z2, Z3, Z4, Z5, h1, h2, t11, hii, hjj, hi, hlx, decide_true, decide_false, cnd_t, cnd_f, Bool.and_true, Bool.true_and]
      exact q _ ⟨t0, t1, t2, t7, t8, t9, t10, t11⟩ (by rw [hf]; rfl) (by rw [hg]; rfl)
  · have hii : ¬ (i : Int) < one.length := by omega
    have hf : fl one i = false := by unfold fl; rw [List.getElem?_eq_none hi]; rfl
    rcases Nat.lt_or_ge i other.length with hj | hj
    · have hjj : (i : Int) < other.length := by omega
      obtain ⟨y, hy, -⟩ := getE hj
      have hly := bool_load (t := .no) hy
      have hg : fl other i = y := by unfold fl; rw [hy]; rfl
      simp only [G0, Z1, Z2, Z3, Z4, Z5, h1, h2, t11, hii, hjj, hj, hly, decide_true, decide_false, cnd_t, cnd_f, Bool.and_true, Bool.true_and]
      exact q _ ⟨t0, t1, t2, t7, t8, t9, t10, t11⟩ (by rw [hf]; rfl) (by rw [hg]; rfl)
    · have hjj : ¬ (i : Int) < other.length := by omega
      have hg : fl other i = false := by unfold fl; rw [List.getElem?_eq_none hj]; rfl
      simp only [G0, Z1, Z2, Z3, Z4, Z5, h1, h2, t11, hii, hjj, decide_false, cnd_f, Bool.and_true, Bool.true_and]
      exact q _ ⟨t0, t1, t2, t7, t8, t9, t10, t11⟩ (by rw [hf]; rfl) (by rw [hg]; rfl)
structure Out3 (k : Nat) (os : List Pm.Obj) (v1 v2 v3 : PV) (L1 L2 L3 : List Ev) : Prop where
 ex : ∃ j1 j2 j3, OutT k os j1 v1 L1 /\ OutT k os j2 v2 L2 /\ OutT k os j3 v3 L3 /\ (∀ q, j1 = some q -> j2 ≠ some q) /\ (∀ q, j1 = some q -> j3 ≠ some q) /\ (∀ q, j2 = some q -> j3 ≠ some q)
theorem push1 {tm : List (Nat × PV)} {L1 L2 L3 : List Ev} {x : Ev} {p r : Bool} (hK : K4 tm l one other v1 v2 v3 i) (h12 : tget tm 12 = bv p) (h13 : tget tm 13 = bv r) (hO : Out3 k os v1 v2 v3 L1 L2 L3) (hl : L1.length <= 1000000) (hx : l[i]? = some x)
    (q : ∀ tm' os' v', K4 tm' l one other v' v2 v3 i -> tget tm' 12 = bv p -> tget tm' 13 = bv r -> Out3 k os' v' v2 v3 (L1 ++ (if p then [x] else [])) L2 L3 -> Q .normal ⟨tm', 161, k, os', M⟩) :
    RX env Tryz.prog none c4_17 ⟨tm, 161, k, os, M⟩ Q := by
  obtain ⟨t0, t1, t2, t7, t8, t9, t10, t11⟩ := hK
  have hi := lt_get hx
  have hlx := ev_load7 hx
  have ht0 : tget tm 0 = .lst .no 7 l.length (l.flatMap evCells) := t0
  have hF := fillE x
  refine RX.of env_ok ?_
  cases hp : p with
  | false =>
    simp only [G0, Z1, Z2, Z3, Z4, Z5, h12, h13, hp, cnd_t, cnd_f, Bool.or_false, Bool.false_or, Bool.or_self, Bool.not_true, Bool.not_false, Bool.or_true, Bool.true_or]
    exact q _ os v1 ⟨t0, t1, t2, t7, t8, t9, t10, t11⟩ h12 h13 (by rw [if_neg (by simp [hp]), List.append_nil]; exact hO)
  | true =>
    obtain ⟨j1, j2, j3, o1, o2, o3, n12, n13, n23⟩ := hO.ex
    obtain ⟨w, os', j', e1, e2, e3, e4⟩ := o1.push hl x .full
    simp only [G0, Z1, Z2, Z3, Z4, Z5, h12, h13, hp, t8, t9, t10, ht0, t11, hi, hlx, hF, cnd_t, cnd_f, Bool.or_false, Bool.false_or, Bool.or_self, Bool.not_true, Bool.not_false, Bool.or_true, Bool.true_or]
    refine aL ?_
    rw [e1]
    simp only [G0, Z1, Z2, Z3, Z4, Z5]
    have a2 := e3 o2 fun q hq hc => n12 q hc hq
    have a3 := e3 o3 fun q hq hc => n13 q hc hq
    exact q _ os' w ⟨t0, t1, t2, t7, rfl, t9, t10, t11⟩ h12 h13 ⟨j', j2, j3, by rw [if_pos hp]; exact e2, a2.1, a3.1, fun q hq hc => a2.2 q hc hq, fun q hq hc => a3.2 q hc hq, n23⟩
theorem push2 {tm : List (Nat × PV)} {L1 L2 L3 : List Ev} {x : Ev} {p r : Bool} (hK : K4 tm l one other v1 v2 v3 i) (h12 : tget tm 12 = bv p) (h13 : tget tm 13 = bv r) (hO : Out3 k os v1 v2 v3 L1 L2 L3) (hl : L2.length <= 1000000) (hx : l[i]? = some x)
    (q : ∀ tm' os' v', K4 tm' l one other v1 v' v3 i -> tget tm' 12 = bv p -> tget tm' 13 = bv r -> Out3 k os' v1 v' v3 L1 (L2 ++ (if r then [x] else [])) L3 -> Q .normal ⟨tm', 161, k, os', M⟩) :
    RX env Tryz.prog none c4_21 ⟨tm, 161, k, os, M⟩ Q := by
  obtain ⟨t0, t1, t2, t7, t8, t9, t10, t11⟩ := hK
  have hi := lt_get hx
  have hlx := ev_load7 hx
  have ht0 : tget tm 0 = .lst .no 7 l.length (l.flatMap evCells) := t0
  have hF := fillE x
  refine RX.of env_ok ?_
  cases hp : r with
  | false =>
    simp only [G0, Z1, Z2, Z3, Z4, Z5, h12, h13, hp, cnd_t, cnd_f, Bool.or_false, Bool.false_or, Bool.or_self, Bool.not_true, Bool.not_false, Bool.or_true, Bool.true_or]
    exact q _ os v2 ⟨t0, t1, t2, t7, t8, t9, t10, t11⟩ h12 h13 (by rw [if_neg (by simp [hp]), List.append_nil]; exact hO)
  | true =>
    obtain ⟨j1, j2, j3, o1, o2, o3, n12, n13, n23⟩ := hO.ex
    obtain ⟨w, os', j', e1, e2, e3, e4⟩ := o2.push hl x .full
    simp only [G0, Z1, Z2, Z3, Z4, Z5, h12, h13, hp, t8, t9, t10, ht0, t11, hi, hlx, hF, cnd_t, cnd_f, Bool.or_false, Bool.false_or, Bool.or_self, Bool.not_true, Bool.not_false, Bool.or_true, Bool.true_or]
    refine aL ?_
    rw [e1]
    simp only [G0, Z1, Z2, Z3, Z4, Z5]
    have a1 := e3 o1 fun q hq hc => n12 q hq hc
    have a3 := e3 o3 fun q hq hc => n23 q hc hq
    exact q _ os' w ⟨t0, t1, t2, t7, t8, rfl, t10, t11⟩ h12 h13 ⟨j1, j', j3, a1.1, by rw [if_pos hp]; exact e2, a3.1, fun q hq hc => a1.2 q hq hc, n13, fun q hq hc => a3.2 q hc hq⟩
theorem push3 {tm : List (Nat × PV)} {L1 L2 L3 : List Ev} {x : Ev} {p r : Bool} (hK : K4 tm l one other v1 v2 v3 i) (h12 : tget tm 12 = bv p) (h13 : tget tm 13 = bv r) (hO : Out3 k os v1 v2 v3 L1 L2 L3) (hl : L3.length <= 1000000) (hx : l[i]? = some x)
    (q : ∀ tm' os' v', K4 tm' l one other v1 v2 v' i -> tget tm' 12 = bv p -> tget tm' 13 = bv r -> Out3 k os' v1 v2 v' L1 L2 (L3 ++ (if (p || r) then [x] else [])) -> Q .normal ⟨tm', 161, k, os', M⟩) :
    RX env Tryz.prog none c4_25 ⟨tm, 161, k, os, M⟩ Q := by
  obtain ⟨t0, t1, t2, t7, t8, t9, t10, t11⟩ := hK
  have hi := lt_get hx
  have hlx := ev_load7 hx
  have ht0 : tget tm 0 = .lst .no 7 l.length (l.flatMap evCells) := t0
  have hF := fillE x
  refine RX.of env_ok ?_
  cases hp : (p || r) with
  | false =>
    simp only [G0, Z1, Z2, Z3, Z4, Z5, h12, h13, hp, cnd_t, cnd_f, Bool.or_false, Bool.false_or, Bool.or_self, Bool.not_true, Bool.not_false, Bool.or_true, Bool.true_or]
    exact q _ os v3 ⟨t0, t1, t2, t7, t8, t9, t10, t11⟩ h12 h13 (by rw [if_neg (by simp [hp]), List.append_nil]; exact hO)
  | true =>
    obtain ⟨j1, j2, j3, o1, o2, o3, n12, n13, n23⟩ := hO.ex
    obtain ⟨w, os', j', e1, e2, e3, e4⟩ := o3.push hl x .full
    simp only [G0, Z1, Z2, Z3, Z4, Z5, h12, h13, hp, t8, t9, t10, ht0, t11, hi, hlx, hF, cnd_t, cnd_f, Bool.or_false, Bool.false_or, Bool.or_self, Bool.not_true, Bool.not_false, Bool.or_true, Bool.true_or]
    refine aL ?_
    rw [e1]
    simp only [G0, Z1, Z2, Z3, Z4, Z5]
    have a1 := e3 o1 fun q hq hc => n13 q hq hc
    have a2 := e3 o2 fun q hq hc => n23 q hq hc
    exact q _ os' w ⟨t0, t1, t2, t7, t8, t9, rfl, t11⟩ h12 h13 ⟨j1, j2, j', a1.1, a2.1, by rw [if_pos hp]; exact e2, n12, fun q hq hc => a1.2 q hq hc, fun q hq hc => a2.2 q hq hc⟩
theorem loop4 (l : List Ev) (hl : l.length <= 1000000) (one other : List Bool) (M : PMem) (k : Nat) (Q : AExit -> PSt -> Prop)
  (q : ∀ tm os v1 v2 v3, K4 tm l one other v1 v2 v3 l.length -> Out3 k os v1 v2 v3 (sel (fl one) 0 l) (sel (fl other) 0 l) (sel (fun i => fl one i || fl other i) 0 l) -> Q (.exit 0) ⟨tm, 161, k, os, M⟩) :
  ∀ d i os v1 v2 v3 tm, l.length - i = d -> i <= l.length -> K4 tm l one other v1 v2 v3 i -> Out3 k os v1 v2 v3 (sel (fl one) 0 (l.take i)) (sel (fl other) 0 (l.take i)) (sel (fun i => fl one i || fl other i) 0 (l.take i)) →
  RXL env Tryz.prog none c4_32 ⟨tm, 161, k, os, M⟩ Q := by
 intro d
 induction d with
 | zero =>
  intro i os v1 v2 v3 tm hd hi hK hO
  have : i = l.length := by omega
  subst this
  rw [List.take_length] at hO
  have hK0 := hK
  obtain ⟨t0, t1, t2, t7, t8, t9, t10, t11⟩ := hK
  have ht0 : tget tm 0 = .lst .no 7 l.length (l.flatMap evCells) := t0
  refine RXL.round (RX.of env_ok ?_)
  simp only [G0, Z1, Z2, Z3, Z4, Z5, ht0, t11, Int.lt_irrefl, decide_false]
  exact q _ os v1 v2 v3 ⟨t0, t1, t2, t7, t8, t9, t10, t11⟩ hO
 | succ d ih =>
  intro i os v1 v2 v3 tm hd hi hK hO
  have hi' : i < l.length := by omega
  have hii : (i : Int) < l.length := by omega
  obtain ⟨x, hx, -⟩ := getE hi'
  have hw : IntKind.i64.wrap ((i : Int) + 1) = ((i + 1 : Nat) : Int) := by rw [wrap64_id (by omega) (by omega)]; rfl
  obtain ⟨t0, t1, t2, t7, t8, t9, t10, t11⟩ := hK
  have ht0 : tget tm 0 = .lst .no 7 l.length (l.flatMap evCells) := t0
  have hs : ∀ f : Nat -> Bool, (sel f 0 (l.take i)).length <= 1000000 := fun f => by
   have := sel_len f (l.take i) 0
   rw [List.length_take] at this; omega
  refine RXL.round (RX.seq (RX.of env_ok ?_))
  simp only [G0, Z1, Z2, Z3, Z4, Z5, ht0, t11, hii, decide_true]
  refine RX.seq (RX.blk (RX.seq (flags4 (l := l) (one := one) (other := other) (v1 := v1) (v2 := v2) (v3 := v3) (i := i) (by exact ⟨t0, t1, t2, t7, t8, t9, t10, t11⟩) fun tm1 hK1 h12 h13 => ?_)))
  refine RX.seq (push1 hK1 h12 h13 hO (hs _) hx fun tm2 os2 w1 hK2 g12 g13 hO2 => ?_)
  refine RX.seq (push2 hK2 g12 g13 hO2 (hs _) hx fun tm3 os3 w2 hK3 k12 k13 hO3 => ?_)
  refine push3 hK3 k12 k13 hO3 (hs _) hx fun tm4 os4 w3 hK4 m12 m13 hO4 => ?_
  refine RX.of env_ok ?_
  obtain ⟨t0, t1, t2, t7, t8, t9, t10, t11⟩ := hK4
  simp only [G0, Z1, Z2, Z3, Z4, Z5, t11, hw]
  refine ih (i + 1) os4 w1 w2 w3 _ (by omega) (by omega) ⟨t0, t1, t2, t7, t8, t9, t10, rfl⟩ ?_
  rw [sel_snoc _ hx, sel_snoc _ hx, sel_snoc _ hx]
  exact hO4
end
end Go.Proofs.YtlbjplpehkgcdaaGreatDoor