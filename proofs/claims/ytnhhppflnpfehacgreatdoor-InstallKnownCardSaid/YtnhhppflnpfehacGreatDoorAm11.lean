/- What each operation comes to on the model's side: numbers, texts, slices, indexes. -/
import Derived.Test.YtnhhppflnpfehacGreatDoorAm10
import Derived.Laws.Slices
namespace Go.Am
open Go.RowKit

section
variable {E : Env} {P : Program} {ι ι1 ι2 : Inj} {m m1 m2 : Mem} {w w1 w2 : World}

/-! ### Binary operations -/
theorem sim_intBin {op : BinOp} {k : IntKind} {a b : Int} {v : Value} (t : TypeId) (hs : op ≠ .shl) (hs' : op ≠ .shr) (h : intBin op k a b = some v) (ι : Inj) :
    (∀ w, (binOp op t (.int k a) (.int k b)).run P w = .ok v w) ∧ VR ι v v := by
  cases op <;> simp only [intBin] at h
  all_goals first
    | (cases h; done)
    | (exact absurd rfl hs)
    | (exact absurd rfl hs')
    | (cases h; refine ⟨fun w => by simp [binOp, Op.intArith, Op.intBits, Op.intCmp], by constructor⟩)
    | (split at h
       · cases h
       · rename_i hb; cases h; exact ⟨fun w => by simp [binOp, Op.intDiv, hb], by constructor⟩)

theorem bytesLt_eq : ∀ a b : List UInt8, bytesLt a b = Op.bytesLess a b
  | [], [] => rfl
  | [], _ :: _ => rfl
  | _ :: _, [] => rfl
  | a :: x, b :: y => by
    simp only [bytesLt, Op.bytesLess, bytesLt_eq x y]
    have e1 : Nat.blt a.toNat b.toNat = decide (a < b) := by
      by_cases h : a < b
      · rw [decide_eq_true h, bltT (UInt8.lt_iff_toNat_lt.1 h)]
      · rw [decide_eq_false h, bltF (fun k => h (UInt8.lt_iff_toNat_lt.2 k))]
    have e2 : Nat.beq a.toNat b.toNat = (a == b) := by
      by_cases h : a = b
      · subst h; simp
      · rw [natBeqF (fun e => h (UInt8.toNat_inj.1 e)), beq_eq_false_iff_ne.2 h]
    rw [e1, e2]

theorem ba_append (a b : ByteArray) : a ++ b = ⟨(a.data.toList ++ b.data.toList).toArray⟩ := by
  apply ByteArray.ext
  rw [ByteArray.data_append]
  apply Array.ext'
  rw [Array.toList_append]

theorem ba_extract (s : ByteArray) (l h : Nat) : s.extract l h = ⟨((s.data.toList.drop l).take (h - l)).toArray⟩ := by
  apply ByteArray.ext
  rw [ByteArray.data_extract]
  apply Array.ext'
  rw [Array.toList_extract, List.extract_eq_take_drop]

theorem sim_strBin {op : BinOp} {a b : ByteArray} {v : Value} (t : TypeId) (h : strBin op a b = some v) (ι : Inj) :
    (∀ w, (binOp op t (.string a) (.string b)).run P w = .ok v w) ∧ VR ι v v := by
  cases op <;> simp only [strBin] at h
  all_goals first
    | (cases h; done)
    | (cases h
       refine ⟨fun w => ?_, by constructor⟩
       simp only [binOp, Op.stringOp, bytesEq_eq, bytesLt_eq, ByteArray.toList_eq, Sem.run_pure])
    | skip
  split at h
  · cases h
  · rename_i hb
    cases h
    refine ⟨fun w => ?_, by constructor⟩
    have e1 : a.data.toList.length = a.size := Array.length_toList
    have e2 : b.data.toList.length = b.size := Array.length_toList
    rw [e1, e2] at hb
    simp only [binOp, Op.stringOp, Sem.run_ite]
    rw [if_neg hb]
    simp only [Sem.run_pure]
    rw [ba_append]

theorem sim_shift {op : BinOp} {k k2 : IntKind} {a b : Int} {v : Value} (t : TypeId) (hop : op = .shl ∨ op = .shr) (h : shiftV op k a b = some v) (ι : Inj) :
    (∀ w, (binOp op t (.int k a) (.int k2 b)).run P w = .ok v w) ∧ VR ι v v := by
  unfold shiftV at h
  split at h
  · cases h
  rename_i hb
  rcases hop with rfl | rfl
  · cases h; exact ⟨fun w => by simp [binOp, Op.shift, hb], by constructor⟩
  · cases h; exact ⟨fun w => by simp [binOp, Op.shift, hb], by constructor⟩

theorem binOp_eql_eq (t : TypeId) {x y : Value} (h1 : ∀ k a k' b, x = .int k a → y = .int k' b → False) (h2 : ∀ k a k' b, x = .float k a → y = .float k' b → False)
    (h3 : ∀ k a c k' b d, x = .complex k a c → y = .complex k' b d → False) (h4 : ∀ a b, x = .string a → y = .string b → False) :
    binOp .eql t x y = (do pure (.bool (← Op.equal t x y)) : Sem Value) := by
  unfold binOp
  split <;> first | rfl | (rename_i h; cases h; done) | (exact (h1 _ _ _ _ rfl rfl).elim) | (exact (h2 _ _ _ _ rfl rfl).elim) | (exact (h3 _ _ _ _ _ _ rfl rfl).elim) | (exact (h4 _ _ rfl rfl).elim) | (simp_all; done)

theorem binOp_neq_eq (t : TypeId) {x y : Value} (h1 : ∀ k a k' b, x = .int k a → y = .int k' b → False) (h2 : ∀ k a k' b, x = .float k a → y = .float k' b → False)
    (h3 : ∀ k a c k' b d, x = .complex k a c → y = .complex k' b d → False) (h4 : ∀ a b, x = .string a → y = .string b → False) :
    binOp .neq t x y = (do pure (.bool (!(← Op.equal t x y))) : Sem Value) := by
  unfold binOp
  split <;> first | rfl | (rename_i h; cases h; done) | (exact (h1 _ _ _ _ rfl rfl).elim) | (exact (h2 _ _ _ _ rfl rfl).elim) | (exact (h3 _ _ _ _ _ _ rfl rfl).elim) | (exact (h4 _ _ rfl rfl).elim) | (simp_all; done)

theorem aEq_float {d t : Nat} {k k' : FloatKind} {a b : Nat} : aEq E d t (.float k a) (.float k' b) = none := by
  cases d with
  | zero => rfl
  | succ d => simp only [aEq]; split <;> first | rfl | (split <;> first | rfl | (rename_i h _; cases h))
theorem aEq_complex {d t : Nat} {k k' : FloatKind} {a b a' b' : Nat} : aEq E d t (.complex k a a') (.complex k' b b') = none := by
  cases d with
  | zero => rfl
  | succ d => simp only [aEq]; split <;> first | rfl | (split <;> first | rfl | (rename_i h _; cases h))

theorem VR.int_eq {x : Value} {k : IntKind} {n : Int} (h : VR ι x (.int k n)) : x = .int k n := by cases h; rfl
theorem VR.str_eq {x : Value} {s : ByteArray} (h : VR ι x (.string s)) : x = .string s := by cases h; rfl
theorem VR.float_eq {x : Value} {k : FloatKind} {n : Nat} (h : VR ι x (.float k n)) : x = .float k n := by cases h; rfl
theorem VR.complex_eq {x : Value} {k : FloatKind} {n n' : Nat} (h : VR ι x (.complex k n n')) : x = .complex k n n' := by cases h; rfl

theorem sim_bin (hE : EnvOk E P) {op : BinOp} {t : Nat} {x y x' y' v : Value} (h : binV E op t x y = some v) (hx : VR ι x x') (hy : VR ι y y') :
    (∀ w, (binOp op t x' y').run P w = .ok v w) ∧ VR ι v v := by
  unfold binV at h
  split at h
  · cases hx; cases hy; exact sim_shift t (.inl rfl) h ι
  · cases hx; cases hy; exact sim_shift t (.inr rfl) h ι
  · rename_i h1 h2
    cases hx; cases hy
    split at h
    · rename_i hk; subst hk
      exact sim_intBin t (fun e => h1 e) (fun e => h2 e) h ι
    · cases h
  · cases hx; cases hy; exact sim_strBin t h ι
  · rename_i h1 h2
    cases hq : aEq E 100 t x y with
    | none => rw [hq] at h; cases h
    | some r =>
      rw [hq] at h; cases h
      refine ⟨fun w => ?_, .bool _⟩
      rw [binOp_eql_eq t (fun k a k' b e1 e2 => by subst e1; subst e2; have ex := hx.int_eq; have ey := hy.int_eq; subst ex; subst ey; exact (h1 _ _ _ _ rfl rfl).elim)
        (fun k a k' b e1 e2 => by subst e1; subst e2; rw [hx.float_eq, hy.float_eq, aEq_float] at hq; cases hq)
        (fun k a c k' b d e1 e2 => by subst e1; subst e2; rw [hx.complex_eq, hy.complex_eq, aEq_complex] at hq; cases hq)
        (fun a b e1 e2 => by subst e1; subst e2; exact h2 _ _ hx.str_eq hy.str_eq)]
      simp [Op.equal, Op.maxDepth, sim_eq hE 100 (D := 10000) (by omega) hq hx hy]
  · rename_i h1 h2
    cases hq : aEq E 100 t x y with
    | none => rw [hq] at h; cases h
    | some r =>
      rw [hq] at h; cases h
      refine ⟨fun w => ?_, .bool _⟩
      rw [binOp_neq_eq t (fun k a k' b e1 e2 => by subst e1; subst e2; exact h1 _ _ _ _ hx.int_eq hy.int_eq)
        (fun k a k' b e1 e2 => by subst e1; subst e2; rw [hx.float_eq, hy.float_eq, aEq_float] at hq; cases hq)
        (fun k a c k' b d e1 e2 => by subst e1; subst e2; rw [hx.complex_eq, hy.complex_eq, aEq_complex] at hq; cases hq)
        (fun a b e1 e2 => by subst e1; subst e2; exact h2 _ _ hx.str_eq hy.str_eq)]
      simp [Op.equal, Op.maxDepth, sim_eq hE 100 (D := 10000) (by omega) hq hx hy]
  · cases h

theorem sim_guard (hE : EnvOk E P) {op : BinOp} {t : Nat} {cx cy : Operand} {x y x' y' : Value} (h : (op = .eql ∨ op = .neq) → eqFine E t (isConst cx) (isConst cy) x y = true) (hx : VR ι x x') (hy : VR ι y y') :
    (eqGuard op t cx cy x' y').run P w = .ok () w := by
  by_cases hop : op = .eql ∨ op = .neq
  · have h := h hop
    unfold eqGuard
    rw [if_neg (by rcases hop with rfl | rfl <;> simp)]
    cases hx <;> cases hy <;> simp only [eqFine] at h <;> first | rfl | skip
    · cases cx <;> cases cy <;> first | rfl | cases h
    · obtain ⟨h1, _⟩ := hE.plain t h
      simp [h1]
  · unfold eqGuard
    cases op <;> first | rfl | (exact absurd (.inl rfl) hop) | (exact absurd (.inr rfl) hop)

/-! ### Unary operations -/
theorem sim_un {op : UnOp} {x x' v : Value} (h : unV op x = some v) (hx : VR ι x x') : (∀ w, (Op.unary op x').run P w = .ok v w) ∧ VR ι v v := by
  unfold unV at h
  split at h
  · cases hx; cases h; exact ⟨fun w => by simp [Op.unary, Op.intArith], .int _ _⟩
  · cases hx
    simp only [intBin, Option.some.injEq] at h; subst h
    exact ⟨fun w => by simp [Op.unary, Op.intBits], .int _ _⟩
  · cases hx; cases h; exact ⟨fun w => by simp [Op.unary], .bool _⟩
  · cases h

/-! ### Places -/
theorem asNat_spec {v v' : Value} {n : Nat} (h : asNat? v = some n) (hv : VR ι v v') : ∃ k i, v' = .int k i ∧ 0 ≤ i ∧ i.toNat = n := by
  unfold asNat? at h
  split at h
  · cases hv
    split at h
    · rename_i hi; cases h; exact ⟨_, _, rfl, hi, rfl⟩
    · cases h
  · cases h

theorem addOff_eq (b o n : Nat) : addOff ⟨b, o, none⟩ n = ⟨b, o + n, none⟩ := rfl

theorem sim_fieldAddr (hE : EnvOk E P) {s f : Nat} {x x' v : Value} (h : fieldAddrV E s x f = some v) (hx : VR ι x x') : ∃ v', (∀ w, (Instr.fieldAt s x' f).run P w = .ok v' w) ∧ VR ι v v' := by
  unfold fieldAddrV at h
  split at h
  case h_2 => cases h
  rename_i y a hy
  split at h
  case h_2 => cases h
  rename_i fields hd
  split at h
  case h_2 => cases h
  rename_i fd hfd
  split at h
  case h_2 => cases h
  rename_i yf hyf
  cases hx with
  | @ptr b t o hb =>
  cases hz : Nat.beq yf.size 0 with
  | true => rw [hz] at h; cases h
  | false =>
    rw [hz] at h; simp only [cond_false, Option.some.injEq] at h; subst h
    have h0 : yf.size ≠ 0 := fun e => by rw [e] at hz; simp at hz
    have hfd' : fields[f]? = some fd := by simpa using hfd
    refine ⟨.pointer (some ⟨t.blk, t.dlt + (o + fd.offset), none⟩), fun w => ?_, .ptr _ hb⟩
    simp [Instr.fieldAt, hE.und hy, hd, hfd', Instr.sureAddr, fieldPlace, hE.size hyf, h0, add_eq, Nat.add_assoc]

theorem sim_field (hE : EnvOk E P) {s f : Nat} {x x' v : Value} (h : fieldV E s x f = some v) (hx : VR ι x x') : ∃ v', (∀ w, (Instr.field s x' f).run P w = .ok v' w) ∧ VR ι v v' := by
  unfold fieldV at h
  split at h
  case h_2 => cases h
  rename_i y cs hy
  split at h
  case h_2 => cases h
  rename_i fields hd
  split at h
  case h_2 => cases h
  rename_i fd hfd
  cases hx with
  | agg hcs =>
  have hfd' : fields[f]? = some fd := by simpa using hfd
  obtain ⟨v', hp, hr⟩ := sim_part hE h hcs
  exact ⟨v', fun w => by simp [Instr.field, hE.und hy, hd, hfd', asAgg, hp], hr⟩

theorem sim_indexAddr (hE : EnvOk E P) {t : Nat} {x i x' i' v : Value} (h : indexAddrV E t x i = some v) (hx : VR ι x x') (hi : VR ι i i') :
    ∃ v', (∀ w, (Instr.indexAt t x' i').run P w = .ok v' w) ∧ VR ι v v' := by
  unfold indexAddrV at h
  split at h
  case h_2 => cases h
  rename_i y n hy hn
  obtain ⟨k, q, rfl, hq0, hqn⟩ := asNat_spec hn hi
  split at h
  · rename_i e a len c hd
    split at h
    case h_2 => cases h
    rename_i ye hye
    cases hb : Nat.blt n len with
    | false => rw [hb] at h; cases h
    | true =>
      rw [hb] at h; simp only [cond_true, Option.some.injEq] at h; subst h
      have hlt : n < len := by simpa using hb
      have hin : 0 ≤ q ∧ q < (len : Int) := ⟨hq0, by omega⟩
      cases hx with
      | @sex b tg o _ _ hbl => exact ⟨.pointer (some ⟨tg.blk, tg.dlt + (o + n * ye.size), none⟩), fun w => by simp [Instr.indexAt, asIntOf, hE.und hy, hd, hin, hE.size hye, add_eq, hqn, Nat.add_assoc], .ptr _ hbl⟩
      | @slo b tg o _ _ _ hbl _ _ => exact ⟨.pointer (some ⟨tg.blk, tg.dlt + (o + n * ye.size), none⟩), fun w => by simp [Instr.indexAt, asIntOf, hE.und hy, hd, hin, hE.size hye, add_eq, hqn, Nat.add_assoc], .ptr _ hbl⟩
      | semp => omega
      | sem0 => omega
  · rename_i len e a hd
    split at h
    case h_2 => cases h
    rename_i ye hye
    cases hb : Nat.blt n len with
    | false => rw [hb] at h; cases h
    | true =>
      rw [hb] at h; simp only [cond_true, Option.some.injEq] at h; subst h
      have hlt : n < len := by simpa using hb
      have hin : 0 ≤ q ∧ q < (len : Int) := ⟨hq0, by omega⟩
      cases hx with
      | @ptr b tg o hbl => exact ⟨.pointer (some ⟨tg.blk, tg.dlt + (o + n * ye.size), none⟩), fun w => by simp [Instr.indexAt, Instr.sureAddr, asIntOf, hE.und hy, hd, hin, hE.size hye, add_eq, hqn, Nat.add_assoc], .ptr _ hbl⟩
  · cases h

theorem sim_index (hE : EnvOk E P) {t : Nat} {x i x' i' v : Value} (h : indexV E t x i = some v) (hx : VR ι x x') (hi : VR ι i i') :
    ∃ v', (∀ w, (Instr.index t x' i').run P w = .ok v' w) ∧ VR ι v v' := by
  unfold indexV at h
  split at h
  case h_2 => cases h
  rename_i y n hy hn
  obtain ⟨k, q, rfl, hq0, hqn⟩ := asNat_spec hn hi
  split at h
  · rename_i len e cs hd
    split at h
    case h_2 => cases h
    rename_i ye hye
    cases hb : Nat.blt n len with
    | false => rw [hb] at h; cases h
    | true =>
      rw [hb] at h; simp only [cond_true] at h
      have hlt : n < len := by simpa using hb
      have hin : 0 ≤ q ∧ q < (len : Int) := ⟨hq0, by omega⟩
      cases hx with
      | agg hcs =>
        obtain ⟨v', hp, hr⟩ := sim_part hE h hcs
        exact ⟨v', fun w => by simp [Instr.index, asIntOf, hE.und hy, hd, hin, hE.size hye, hqn, hp], hr⟩
  · rename_i s hd
    cases hx
    split at h
    · rename_i b hb
      cases h
      refine ⟨.int .u8 b.toNat, fun w => ?_, .int _ _⟩
      have hlt : n < s.data.toList.length := by
        rcases Nat.lt_or_ge n s.data.toList.length with hx | hx
        · exact hx
        · rw [List.getElem?_eq_none hx] at hb; cases hb
      have hs : s[n]? = some b := by
        have e1 : s.data.toList.length = s.size := Array.length_toList
        rw [getElem?_pos s n (by omega)]
        rw [List.getElem?_eq_getElem hlt] at hb
        injection hb with hb
        rw [← hb]; rfl
      simp [Instr.index, asIntOf, hE.und hy, hd, hq0, hqn, hs]
    · cases h
  · cases h

/-! ### Slices -/
theorem run_bound {v v' : Value} {n y : Nat} {code : BoundsCode} (h : asNat? v = some n) (hv : VR ι v v') (hy : n ≤ y) (w : World) : (Instr.sliceBound v' y code).run P w = .ok n w := by
  obtain ⟨k, i, rfl, h0, h1⟩ := asNat_spec h hv
  rw [run_sliceBound w k i y code h0 (by omega), h1]

inductive OptR (ι : Inj) : Option Value → Option Value → Prop where
  | none : OptR ι none none
  | some {v v' : Value} (h : VR ι v v') : OptR ι (some v) (some v')

/-- The places of a slice expression: 'cap' is what is known of the real one. -/
theorem sim_bounds {isSlice : Bool} {len cap cap' l h x : Nat} {lo hi mx lo' hi' mx' : Option Value} (hb : boundsV len cap lo hi mx = some (l, h, x)) (h1 : OptR ι lo lo') (h2 : OptR ι hi hi') (h3 : OptR ι mx mx')
    (hc : cap ≤ cap') (hex : mx ≠ none → True) (w : World) : l ≤ h ∧ h ≤ x ∧ x ≤ cap ∧ (mx = none → x = cap) ∧
      (Instr.sliceBounds isSlice len cap' lo' hi' mx').run P w = .ok (l, h, if mx = none then cap' else x) w := by
  unfold boundsV at hb
  cases h3 with
  | some h3 =>
    simp only at hb
    split at hb
    case h_2 => cases hb
    rename_i mxn hv hmx
    cases h2 with
    | some h2 =>
    split at hb
    case h_2 => cases hb
    rename_i hn hhn
    cases h1 with
    | none =>
      simp only at hb
      cases hcond : (Nat.ble mxn cap && Nat.ble hn mxn) with
      | false => rw [hcond] at hb; cases hb
      | true =>
        rw [hcond] at hb; simp only [cond_true, Option.some.injEq, Prod.mk.injEq] at hb
        obtain ⟨rfl, rfl, rfl⟩ := hb
        rw [Bool.and_eq_true] at hcond
        have c1 := Nat.le_of_ble_eq_true hcond.1
        have c2 := Nat.le_of_ble_eq_true hcond.2
        refine ⟨by omega, c2, c1, fun e => (by cases e), ?_⟩
        simp [Instr.sliceBounds, run_bound hmx h3 (show mxn ≤ cap' by omega), run_bound hhn h2 c2]
    | some h1 =>
      simp only at hb
      split at hb
      case h_2 => cases hb
      rename_i ln hln
      cases hcond : (Nat.ble mxn cap && Nat.ble hn mxn && Nat.ble ln hn) with
      | false => rw [hcond] at hb; cases hb
      | true =>
        rw [hcond] at hb; simp only [cond_true, Option.some.injEq, Prod.mk.injEq] at hb
        obtain ⟨rfl, rfl, rfl⟩ := hb
        rw [Bool.and_eq_true, Bool.and_eq_true] at hcond
        have c1 := Nat.le_of_ble_eq_true hcond.1.1
        have c2 := Nat.le_of_ble_eq_true hcond.1.2
        have c3 := Nat.le_of_ble_eq_true hcond.2
        refine ⟨c3, c2, c1, fun e => (by cases e), ?_⟩
        simp [Instr.sliceBounds, run_bound hmx h3 (show mxn ≤ cap' by omega), run_bound hhn h2 c2, run_bound hln h1 c3]
  | none =>
    simp only at hb
    split at hb
    case h_2 => cases hb
    rename_i hn hhn
    cases h1 with
    | none =>
      simp only at hb
      cases hcond : Nat.ble hn cap with
      | false => rw [hcond] at hb; cases hb
      | true =>
        rw [hcond] at hb; simp only [cond_true, Option.some.injEq, Prod.mk.injEq] at hb
        obtain ⟨rfl, rfl, rfl⟩ := hb
        have c1 := Nat.le_of_ble_eq_true hcond
        refine ⟨by omega, c1, Nat.le_refl _, fun _ => rfl, ?_⟩
        cases h2 with
        | none => simp only [Option.some.injEq] at hhn; subst hhn; simp [Instr.sliceBounds]
        | some h2 => simp [Instr.sliceBounds, run_bound hhn h2 (show hn ≤ cap' by omega)]
    | some h1 =>
      simp only at hb
      split at hb
      case h_2 => cases hb
      rename_i ln hln
      cases hcond : (Nat.ble hn cap && Nat.ble ln hn) with
      | false => rw [hcond] at hb; cases hb
      | true =>
        rw [hcond] at hb; simp only [cond_true, Option.some.injEq, Prod.mk.injEq] at hb
        obtain ⟨rfl, rfl, rfl⟩ := hb
        rw [Bool.and_eq_true] at hcond
        have c1 := Nat.le_of_ble_eq_true hcond.1
        have c3 := Nat.le_of_ble_eq_true hcond.2
        refine ⟨c3, c1, Nat.le_refl _, fun _ => rfl, ?_⟩
        cases h2 with
        | none => simp only [Option.some.injEq] at hhn; subst hhn; simp [Instr.sliceBounds, run_bound hln h1 c3]
        | some h2 => simp [Instr.sliceBounds, run_bound hhn h2 (show hn ≤ cap' by omega), run_bound hln h1 c3]

theorem capOf_even (c : Nat) : capOf (2 * c) = c := by unfold capOf; rw [show 2 * c % 2 = 0 by omega]; simp
theorem capOf_lo (c es : Nat) (h : es < 4096) : capOf (loCap c es) = c := by
  unfold capOf loCap
  rw [natBeqF (show (2 * (c * 4096 + es) + 1) % 2 ≠ 0 by omega)]
  simp only [cond_false]; omega
theorem esOf_lo (c es : Nat) (h : es < 4096) : esOf (loCap c es) = es := by unfold esOf loCap; omega
theorem odd_lo (c es : Nat) : Nat.beq (loCap c es % 2) 0 = false := natBeqF (by unfold loCap; omega)
theorem even_ex (c : Nat) : Nat.beq (2 * c % 2) 0 = true := by rw [show 2 * c % 2 = 0 by omega]; rfl

theorem sim_slice (hE : EnvOk E P) {t : Nat} {x x' v : Value} {lo hi mx lo' hi' mx' : Option Value} (h : sliceV E t x lo hi mx = some v) (hx : VR ι x x') (h1 : OptR ι lo lo') (h2 : OptR ι hi hi') (h3 : OptR ι mx mx') :
    ∃ v', (∀ w, (Instr.sliceAt t x' lo' hi' mx').run P w = .ok v' w) ∧ VR ι v v' := by
  unfold sliceV at h
  split at h
  · cases h
  rename_i y hy
  split at h
  · -- a text
    rename_i s hd
    cases hx
    cases h3 with
    | some h3 => simp at h
    | none =>
      simp only at h
      cases hb : boundsV s.data.toList.length s.data.toList.length lo hi none with
      | none => rw [hb] at h; cases h
      | some r =>
        obtain ⟨l, hh, mm⟩ := r
        rw [hb] at h; cases h
        refine ⟨_, fun w => ?_, .str _⟩
        obtain ⟨hl, hm, hc, _, hr⟩ := sim_bounds (P := P) (isSlice := false) (cap' := s.size) hb h1 h2 OptR.none (Nat.le_of_eq Array.length_toList) (fun _ => trivial) w
        have hsz : s.data.toList.length = s.size := Array.length_toList
        rw [hsz] at hr
        simp only [Instr.sliceAt, Sem.run_bind, hE.und hy, hd, Result.andThen_ok, Instr.slice, Option.isSome_none, Bool.false_eq_true, if_false, hr, Sem.run_pure]
        rw [ba_extract]
  · rename_i e a len k hd
    split at h
    case h_2 => cases h
    rename_i ye hye
    split at h
    case h_2 => cases h
    rename_i l hh mm hb
    cases hx with
    | snil _ c =>
      rw [capOf_even] at hb
      simp only [Option.some.injEq] at h; subst h
      refine ⟨.slice none (hh - l) ((if mx = none then c else mm) - l), fun w => ?_, ?_⟩
      · obtain ⟨hl, hm, hc, hmx, hr⟩ := sim_bounds (P := P) (isSlice := true) (cap' := c) hb h1 h2 h3 (Nat.le_refl _) (fun _ => trivial) w
        simp [Instr.sliceAt, hE.und hy, hd, Instr.slice, hr, hE.size hye]
      · obtain ⟨hl, hm, hc, hmx, hr⟩ := sim_bounds (P := P) (isSlice := true) (cap' := c) hb h1 h2 h3 (Nat.le_refl _) (fun _ => trivial) default
        by_cases hn : mx = none
        · rw [if_pos hn, hmx hn]; exact .snil _ _
        · rw [if_neg hn]; exact .snil _ _
    | @sex b tg o _ c hbl =>
      rw [capOf_even] at hb
      simp only [even_ex] at h
      have h' : some (Value.slice (some (bif Nat.beq mm l then ⟨b, o, none⟩ else addOff ⟨b, o, none⟩ (l * ye.size))) (hh - l) (2 * (mm - l))) = some v := by
        cases mx <;> exact h
      cases h'
      refine ⟨.slice (some (if (if mx = none then c else mm) = l then ⟨tg.blk, tg.dlt + o, none⟩ else (⟨tg.blk, tg.dlt + o, none⟩ : Addr).add (l * ye.size))) (hh - l) ((if mx = none then c else mm) - l), fun w => ?_, ?_⟩
      · obtain ⟨hl, hm, hc, hmx, hr⟩ := sim_bounds (P := P) (isSlice := true) (cap' := c) hb h1 h2 h3 (Nat.le_refl _) (fun _ => trivial) w
        simp only [Instr.sliceAt, Sem.run_bind, hE.und hy, hd, Result.andThen_ok, Instr.slice, hr, hE.size hye, Sem.run_pure]
        congr 2
        exact (apply_ite some _ _ _).symm
      · obtain ⟨hl, hm, hc, hmx, hr⟩ := sim_bounds (P := P) (isSlice := true) (cap' := c) hb h1 h2 h3 (Nat.le_refl _) (fun _ => trivial) default
        have hmm : (if mx = none then c else mm) = mm := by split <;> simp_all
        rw [hmm]
        by_cases hml : mm = l
        · rw [if_pos hml]; subst hml; simp only [Nat.beq_refl, cond_true]; exact .sex _ _ _ hbl
        · rw [if_neg hml, natBeqF hml, add_eq]; simp only [cond_false, addOff_eq, Nat.add_assoc]; exact .sex _ _ _ hbl
    | @slo b tg o _ c c' hbl hcc hrr hes =>
      rw [capOf_lo _ _ hes] at hb
      simp only [odd_lo, esOf_lo _ _ hes] at h
      obtain ⟨hl0, hm0, hc0, hmx0, _⟩ := sim_bounds (P := P) (isSlice := true) (cap' := c') hb h1 h2 h3 hcc (fun _ => trivial) default
      refine ⟨.slice (some (if (if mx = none then c' else mm) = l then ⟨tg.blk, tg.dlt + o, none⟩ else (⟨tg.blk, tg.dlt + o, none⟩ : Addr).add (l * ye.size))) (hh - l) ((if mx = none then c' else mm) - l), fun w => ?_, ?_⟩
      · obtain ⟨hl, hm, hc, hmx, hr⟩ := sim_bounds (P := P) (isSlice := true) (cap' := c') hb h1 h2 h3 hcc (fun _ => trivial) w
        simp only [Instr.sliceAt, Sem.run_bind, hE.und hy, hd, Result.andThen_ok, Instr.slice, hr, hE.size hye, Sem.run_pure]
        congr 2
        exact (apply_ite some _ _ _).symm
      · cases h3 with
        | some h3 =>
          simp only [Option.some.injEq] at h; subst h
          simp only [reduceCtorEq, if_false]
          by_cases hml : mm = l
          · rw [if_pos hml]; subst hml; simp only [Nat.beq_refl, cond_true]; exact .sex _ _ _ hbl
          · rw [if_neg hml, natBeqF hml, add_eq]; simp only [cond_false, addOff_eq, Nat.add_assoc]; exact .sex _ _ _ hbl
        | none =>
          cases hse : Nat.beq tg.es ye.size with
          | false => simp only [hse, cond_false] at h; cases h
          | true =>
          simp only [hse, cond_true, Option.some.injEq] at h; subst h
          have hse := Nat.eq_of_beq_eq_true hse
          have := hmx0 rfl; subst this
          simp only [if_true]
          by_cases hml : c' = l
          · have hml2 : mm = l := by omega
            rw [if_pos hml, hml, hml2]
            have e1 : hh - l = 0 := by omega
            rw [e1, Nat.sub_self]; exact .semp _ _ _ (by omega)
          · rw [if_neg hml, add_eq, addOff_eq, Nat.add_assoc, ← hse]
            refine .slo _ _ _ _ hbl (by omega) ?_ hes
            have : l * tg.es + (c' - l) * tg.es = c' * tg.es := by rw [← Nat.add_mul]; congr 1; omega
            omega
    | semp a a' es hes =>
      rw [capOf_lo _ _ hes] at hb
      simp only [odd_lo, esOf_lo _ _ hes] at h
      obtain ⟨hl0, hm0, hc0, hmx0, _⟩ := sim_bounds (P := P) (isSlice := true) (cap' := 0) hb h1 h2 h3 (Nat.le_refl _) (fun _ => trivial) default
      have e1 : mm = 0 := by omega
      have e2 : hh = 0 := by omega
      have e3 : l = 0 := by omega
      subst e1; subst e2; subst e3
      refine ⟨.slice (some a') 0 0, fun w => ?_, ?_⟩
      · obtain ⟨hl, hm, hc, hmx, hr⟩ := sim_bounds (P := P) (isSlice := true) (cap' := 0) hb h1 h2 h3 (Nat.le_refl _) (fun _ => trivial) w
        simp [Instr.sliceAt, hE.und hy, hd, Instr.slice, hr, hE.size hye]
      · cases h3 with
        | some h3 => simp only [Nat.beq_refl, cond_true, Option.some.injEq] at h; subst h; exact .sem0 _ _
        | none =>
          cases hse : Nat.beq es ye.size with
          | false => simp only [hse, cond_false] at h; cases h
          | true =>
            have hse' := Nat.eq_of_beq_eq_true hse
            simp only [hse, cond_true, Option.some.injEq] at h; subst h; exact .semp _ _ _ (by omega)
    | sem0 a a' =>
      have hc0' : capOf 0 = 0 := rfl
      rw [hc0'] at hb
      have hev : Nat.beq (0 % 2) 0 = true := rfl
      simp only [hev] at h
      obtain ⟨hl0, hm0, hc0, hmx0, _⟩ := sim_bounds (P := P) (isSlice := true) (cap' := 0) hb h1 h2 h3 (Nat.le_refl _) (fun _ => trivial) default
      have e1 : mm = 0 := by omega
      have e2 : hh = 0 := by omega
      have e3 : l = 0 := by omega
      subst e1; subst e2; subst e3
      have h' : some (Value.slice (some a) 0 0) = some v := by cases mx <;> exact h
      cases h'
      refine ⟨.slice (some a') 0 0, fun w => ?_, .sem0 _ _⟩
      obtain ⟨hl, hm, hc, hmx, hr⟩ := sim_bounds (P := P) (isSlice := true) (cap' := 0) hb h1 h2 h3 (Nat.le_refl _) (fun _ => trivial) w
      simp [Instr.sliceAt, hE.und hy, hd, Instr.slice, hr, hE.size hye]
  · rename_i n e a hd
    split at h
    case h_2 => cases h
    rename_i ye hye
    split at h
    case h_2 => cases h
    rename_i l hh mm hb
    cases hx with
    | @ptr b tg o hbl =>
      simp only [Option.some.injEq] at h; subst h
      refine ⟨.slice (some (if (if mx = none then n else mm) = l then ⟨tg.blk, tg.dlt + o, none⟩ else (⟨tg.blk, tg.dlt + o, none⟩ : Addr).add (l * ye.size))) (hh - l) ((if mx = none then n else mm) - l), fun w => ?_, ?_⟩
      · obtain ⟨hl, hm, hc, hmx, hr⟩ := sim_bounds (P := P) (isSlice := false) (cap' := n) hb h1 h2 h3 (Nat.le_refl _) (fun _ => trivial) w
        simp only [Instr.sliceAt, Sem.run_bind, hE.und hy, hd, Result.andThen_ok, Instr.sureAddr, hr, hE.size hye, Sem.run_pure]
      · obtain ⟨hl, hm, hc, hmx, hr⟩ := sim_bounds (P := P) (isSlice := false) (cap' := n) hb h1 h2 h3 (Nat.le_refl _) (fun _ => trivial) default
        have hmm : (if mx = none then n else mm) = mm := by split <;> simp_all
        rw [hmm]
        by_cases hml : mm = l
        · rw [if_pos hml]; subst hml; simp only [Nat.beq_refl, cond_true]; exact .sex _ _ _ hbl
        · rw [if_neg hml, natBeqF hml, add_eq]; simp only [cond_false, addOff_eq, Nat.add_assoc]; exact .sex _ _ _ hbl
  · cases h
end
end Go.Am
