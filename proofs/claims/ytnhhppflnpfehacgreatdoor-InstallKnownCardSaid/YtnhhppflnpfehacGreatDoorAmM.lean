/- Maps: what is asked of them and laid into them. Plain lemmas; no condition. -/
import Derived.Test.YtnhhppflnpfehacGreatDoorAm13
set_option linter.unusedVariables false
namespace Go.Am
open Go.RowKit

section
variable {E : Env} {P : Program} {ι : Inj} {m m1 : Mem} {w : World}

theorem ERs.get {l l' : List MapEntry} (h : ERs ι l l') : ∀ {i : Nat} {e : MapEntry}, l[i]? = some e → ∃ e', l'[i]? = some e' ∧ ER ι e e' := by
  induction h with
  | nil => intro i e h; simp at h
  | cons h _ ih =>
    intro i e hi
    cases i with
    | zero => simp at hi; subst hi; exact ⟨_, rfl, h⟩
    | succ i => simpa using ih (by simpa using hi)
theorem ERs.snoc {l l' : List MapEntry} (h : ERs ι l l') {e e' : MapEntry} (he : ER ι e e') : ERs ι (l ++ [e]) (l' ++ [e']) := by
  induction h with
  | nil => exact .cons he .nil
  | cons h _ ih => exact .cons h ih

theorem keyLeaf_bits {x y x' y' : Value} (h : keyLeaf x y = true) (hx : VR ι x x') (hy : VR ι y y') (n : Nat) : Instr.sameBits n x' y' = true := by
  unfold keyLeaf at h
  split at h
  · split at h
    · cases hx; cases hy; unfold Instr.sameBits; exact h
    · cases h
  · split at h
    · split at h
      · rename_i hk
        cases hx; cases hy
        have hk' := of_decide_eq_true hk
        subst hk'
        unfold Instr.sameBits
        simp only [BEq.rfl, Bool.true_and]
        exact h
      · cases h
    · cases h
  · split at h
    · cases hx; cases hy
      rw [bytesEq_eq] at h
      unfold Instr.sameBits
      rw [beq_toListBytes, ByteArray.toList_eq, ByteArray.toList_eq]
      exact h
    · cases h
  · cases h
theorem leavesEq_bits : ∀ {l r l' r' : List Value}, leavesEq l r = true → VRs ι l l' → VRs ι r r' → ∀ n, l'.length = r'.length ∧ (l'.zip r').all (fun (x, y) => Instr.sameBits n x y) = true
  | [], r, l', r', h, hl, hr, n => by
    unfold leavesEq at h
    split at h
    · cases hl; cases hr; exact ⟨rfl, rfl⟩
    · cases h
  | x :: l, r, l', r', h, hl, hr, n => by
    unfold leavesEq at h
    split at h
    · rw [Bool.and_eq_true] at h
      cases hl with
      | cons h1 h2 =>
        cases hr with
        | cons h3 h4 =>
          obtain ⟨k1, k2⟩ := leavesEq_bits h.2 h2 h4 n
          refine ⟨by simp [k1], ?_⟩
          simp only [List.zip_cons_cons, List.all_cons, Bool.and_eq_true]
          exact ⟨keyLeaf_bits h.1 h1 h3 n, k2⟩
    · cases h
theorem keySame_bits {x y x' y' : Value} (h : keySame x y = true) (hx : VR ι x x') (hy : VR ι y y') : Instr.sameBits 10000 x' y' = true := by
  unfold keySame at h
  split at h
  · split at h
    · cases hx with
      | agg hx =>
        cases hy with
        | agg hy =>
          obtain ⟨h1, h2⟩ := leavesEq_bits h hx hy 9999
          show Instr.sameBits (9999 + 1) _ _ = true
          unfold Instr.sameBits
          rw [Bool.and_eq_true]
          exact ⟨by simpa using h1, h2⟩
    · cases h
  · exact keyLeaf_bits h hx hy 10000

theorem checkKey_leaf (hE : EnvOk E P) {t : Nat} {v : Value} (h : leafKind E t = true) (b : Bool) (n : Nat) (w : World) : (Instr.checkKey b (n + 1) t v).run P w = .ok () w := by
  unfold leafKind at h
  split at h
  · rename_i y hy
    have hu := hE.und hy w
    unfold Instr.checkKey
    simp only [Sem.run_bind, hu, Result.andThen_ok]
    split at h
    · rename_i hd; rw [hd]; rfl
    · rename_i hd; rw [hd]; rfl
    · rename_i hd; rw [hd]; rfl
    · cases h
  · cases h

theorem checkKey_struct (hE : EnvOk E P) {t : Nat} {k k' : Value} {fine : Nat → Value → Bool} {b : Bool} {n : Nat} (hfine : ∀ t p p', fine t p = true → VR ι p p' → ∀ w, (Instr.checkKey b n t p').run P w = .ok () w)
    (h : keyStruct E fine t k = true) (hk : VR ι k k') (w : World) : (Instr.checkKey b (n + 1) t k').run P w = .ok () w := by
  unfold keyStruct at h
  split at h
  · rename_i y hy
    have hu := hE.und hy w
    split at h
    · rename_i fs arr hd
      cases hk with
      | agg hk =>
        rename_i arr'
        show (Instr.checkKey b (n + 1) t (.agg arr')).run P w = _
        unfold Instr.checkKey
        rw [hd] at hu
        simp only [Sem.run_bind, hu, Result.andThen_ok]
        have one : ∀ f : Field, (match partV E f.type arr.toList f.offset with | some p => fine f.type p | none => false) = true → ∀ w, ((if f.name ≠ "_" then do
              let x ← part f.type arr' f.offset
              Instr.checkKey b n f.type x
              pure (ForInStep.yield PUnit.unit)
            else pure (ForInStep.yield PUnit.unit) : Sem (ForInStep PUnit))).run P w = .ok (.yield PUnit.unit) w := fun f h1 w => by
          split at h1
          · rename_i p h2
            obtain ⟨p', hp', hpp⟩ := sim_part hE h2 hk
            by_cases hn : f.name = "_"
            · simp [hn]
            · simp only [ne_eq, hn, not_false_eq_true, if_true, Sem.run_bind, hp', Result.andThen_ok, hfine _ _ _ h1 hpp w, Sem.run_pure]
          · cases h1
        have key : ∀ l : List Field, keyParts E fine arr.toList l = true → ∀ w, (forIn l PUnit.unit (fun f _ => (if f.name ≠ "_" then do
              let x ← part f.type arr' f.offset
              Instr.checkKey b n f.type x
              pure (ForInStep.yield PUnit.unit)
            else pure (ForInStep.yield PUnit.unit) : Sem (ForInStep PUnit)))).run P w = .ok PUnit.unit w := by
          intro l
          induction l with
          | nil => intro _ w; rfl
          | cons f l ih =>
            intro hl w
            simp only [keyParts, Bool.and_eq_true] at hl
            obtain ⟨h1, h3⟩ := hl
            rw [List.forIn_cons, Sem.run_bind, one f h1 w, Result.andThen_ok]
            exact ih h3 w
        rw [← Array.forIn_toList, key fs.toList h w]
        rfl
    · cases h
  · cases h
theorem checkKey_fine1 (hE : EnvOk E P) {t : Nat} {k k' : Value} (h : keyFine1 E t k = true) (hk : VR ι k k') (b : Bool) (n : Nat) (w : World) : (Instr.checkKey b (n + 2) t k').run P w = .ok () w := by
  unfold keyFine1 at h
  split at h
  · rename_i hl; exact checkKey_leaf hE hl b (n + 1) w
  · exact checkKey_struct (n := n + 1) hE (fun t p p' h _ w => checkKey_leaf hE h b n w) h hk w
theorem checkKey_ok (hE : EnvOk E P) {t : Nat} {k k' : Value} (h : keyFine E t k = true) (hk : VR ι k k') (b : Bool) (w : World) : (Instr.checkKey b 10000 t k').run P w = .ok () w := by
  unfold keyFine at h
  split at h
  · rename_i hl; exact checkKey_leaf hE hl b 9999 w
  · exact checkKey_struct (n := 9999) hE (fun t p p' h hp w => checkKey_fine1 hE h hp b 9997 w) h hk w

/-- What is found stands to what is found. -/
def FR (ι : Inj) : Option (Nat × Value) → Option (Nat × Value) → Prop
  | none, none => True
  | some (i, v), some (j, v') => i = j ∧ VR ι v v'
  | _, _ => False

theorem findNow_ok {kt : Nat} {k k' : Value} {y : Ty} (hy : E.ty kt = some y) (hl : leafKind E kt = true) (hk : VR ι k k') : ∀ {es es' : List MapEntry} {i : Nat} {r : Option (Nat × Value)}, findM E kt k es i = some r → ERs ι es es' →
    ∃ r', Instr.findNow y.desc k' es' i = some r' ∧ FR ι r r'
  | [], _, i, r, h, .nil => by
    unfold findM at h; cases h; exact ⟨none, rfl, trivial⟩
  | e :: es, _, i, r, h, .cons (e' := e') he hs => by
    unfold findM at h
    have hq : ∀ b, aEq E 100 kt k e.key = some b → Instr.sameNow y.desc k' e'.key = some b := fun b hb => by
      unfold leafKind at hl
      rw [hy] at hl
      unfold aEq at hb
      rw [hy] at hb
      have hek := he.1
      generalize e.key = q at hb hek
      generalize e'.key = q' at hek
      obtain ⟨d, _, _, _, _⟩ := y
      dsimp only at hl hb ⊢
      cases d <;> simp at hl
      · cases k <;> cases q <;> simp at hb
        cases hk; cases hek; subst hb; rfl
      · cases k <;> cases q <;> simp at hb
        cases hk; cases hek
        obtain ⟨rfl, rfl⟩ := hb
        simp [Instr.sameNow]
      · cases k <;> cases q <;> simp at hb
        cases hk; cases hek; subst hb
        simp only [Instr.sameNow, bytesEq_eq]
        congr 1
        rw [beq_toListBytes, ByteArray.toList_eq, ByteArray.toList_eq]
    unfold Instr.findNow
    split at h
    · rename_i hb
      cases h
      rw [hq _ hb]
      exact ⟨_, rfl, rfl, he.2.1⟩
    · rename_i hb
      rw [hq _ hb]
      exact findNow_ok hy hl hk h hs
    · cases h

theorem findAsking_ok (hE : EnvOk E P) {kt : Nat} {k k' : Value} (hk : VR ι k k') : ∀ {es es' : List MapEntry} {i : Nat} {r : Option (Nat × Value)}, findM E kt k es i = some r → ERs ι es es' →
    ∃ r', (∀ w, (Instr.findAsking kt k' es' i).run P w = .ok r' w) ∧ FR ι r r'
  | [], _, i, r, h, .nil => by
    unfold findM at h; cases h; exact ⟨none, fun w => rfl, trivial⟩
  | e :: es, _, i, r, h, .cons (e' := e') he hs => by
    unfold findM at h
    split at h
    · rename_i hb
      cases h
      refine ⟨some (i, e'.val), fun w => ?_, rfl, he.2.1⟩
      unfold Instr.findAsking
      have := sim_eq (P := P) hE 100 (D := 10000) (by omega) hb hk he.1 w
      have h2 : (Op.equal kt k' e'.key).run P w = .ok true w := this
      simp [Sem.run_bind, h2]
    · rename_i hb
      obtain ⟨r', h1, h2⟩ := findAsking_ok hE hk h hs
      refine ⟨r', fun w => ?_, h2⟩
      unfold Instr.findAsking
      have := sim_eq (P := P) hE 100 (D := 10000) (by omega) hb hk he.1 w
      have h3 : (Op.equal kt k' e'.key).run P w = .ok false w := this
      simp [Sem.run_bind, h3, h1]
    · cases h

theorem find_ok (hE : EnvOk E P) {kt : Nat} {k k' : Value} (hf : keyFine E kt k = true) (hk : VR ι k k') {es es' : List MapEntry} {r : Option (Nat × Value)} (h : findM E kt k es 0 = some r) (hs : ERs ι es es') :
    ∃ r', (∀ w, (Instr.findKey kt k' es').run P w = .ok r' w) ∧ FR ι r r' := by
  unfold keyFine at hf
  split at hf
  · rename_i hl
    have : ∃ y, E.ty kt = some y := by
      unfold leafKind at hl
      split at hl
      · exact ⟨_, by assumption⟩
      · cases hl
    obtain ⟨y, hy⟩ := this
    obtain ⟨r', h1, h2⟩ := findNow_ok hy hl hk h hs
    refine ⟨r', fun w => ?_, h2⟩
    unfold Instr.findKey
    simp only [Sem.run_bind, hE.und hy w, Result.andThen_ok, h1]
    rfl
  · unfold keyStruct at hf
    split at hf
    · rename_i y hy
      split at hf
      · rename_i fs arr hd
        obtain ⟨r', h1, h2⟩ := findAsking_ok hE hk h hs
        cases hs with
        | nil =>
          unfold findM at h; cases h
          refine ⟨none, fun w => ?_, trivial⟩
          unfold Instr.findKey
          simp only [Sem.run_bind, hE.und hy w, Result.andThen_ok, Instr.findNow]
          rfl
        | cons he hs =>
          refine ⟨r', fun w => ?_, h2⟩
          unfold Instr.findKey
          have hu := hE.und hy w
          rw [hd] at hu
          simp only [Sem.run_bind, hu, Result.andThen_ok, Instr.findNow, Instr.sameNow]
          exact h1 w
      · cases hf
    · cases hf

theorem map_run {x x' : Value} (h : Rel E ι m w) (hx : VR ι x x') {es : List MapEntry} (hm : mapOf m x = some es) :
    (x' = .map none ∧ es = []) ∨ ∃ r es' clock, x' = .map (some r) ∧ (getObj r).run P w = .ok (.map es' clock) w ∧ ERs ι es es'.toList := by
  unfold mapOf at hm
  split at hm
  · cases hm; cases hx
    exact .inl ⟨rfl, rfl⟩
  · rename_i b
    split at hm
    · rename_i es0 clock hg
      cases hm
      cases hx with
      | mp hb =>
        obtain ⟨es', h1, h2⟩ := h.obj _ _ _ hb hg
        exact .inr ⟨_, es', clock, rfl, by simp [getObj, Sem.run, h1], h2⟩
    · cases hm
  · cases hm

theorem zeroVal_ok (hE : EnvOk E P) {t : Nat} {z : Value} (h : zeroVal E t = some z) (w : World) : (zeroValue t).run P w = .ok z w ∧ closedV z = true := by
  unfold zeroVal at h
  split at h
  · rename_i y hy
    obtain ⟨i, hi, _, _, hz, _⟩ := hE.ty t y hy
    obtain ⟨h1, h2⟩ := hz z h
    exact ⟨by simp [zeroValue, typeInfo, hi, h1], h2⟩
  · cases h

theorem okPair_rel {v v' : Value} (h : VR ι v v') (ok b : Bool) : VR ι (okPair ok v b) (if ok then .tuple #[v', .bool b] else v') := by
  cases ok with
  | true => exact .tuple (.cons h (.cons (.bool _) .nil))
  | false => exact h

theorem sim_lookup (hE : EnvOk E P) (h : Rel E ι m w) {t : Nat} {x x' k k' v : Value} {ok : Bool} (hl : lookupV E m t x k ok = some v) (hx : VR ι x x') (hk : VR ι k k') :
    ∃ v', (Instr.lookup t x' k' ok).run P w = .ok v' w ∧ VR ι v v' := by
  unfold lookupV at hl
  split at hl
  case h_2 => cases hl
  rename_i y hy
  have hu := hE.und hy w
  split at hl
  case h_2 => cases hl
  rename_i kt et hd
  rw [hd] at hu
  split at hl
  case h_2 => cases hl
  rename_i es hf hm
  have fin : ∀ (es' : Array MapEntry), ERs ι es es'.toList → ∃ v', (do
      Instr.checkKey es'.isEmpty 10000 kt k'
      let (v, o) ← match ← Instr.findKey kt k' es'.toList with
        | some (_, v) => pure (v, true)
        | none => pure (← zeroValue et, false)
      pure (if ok then .tuple #[v, .bool o] else v) : Sem Value).run P w = .ok v' w ∧ VR ι v v' := fun es' hes => by
    have hck := checkKey_ok hE hf hk es'.isEmpty w
    split at hl
    · rename_i i u hfind
      cases hl
      obtain ⟨r', h1, h2⟩ := find_ok hE hf hk hfind hes
      cases r' with
      | none => exact h2.elim
      | some q =>
        obtain ⟨j, u'⟩ := q
        refine ⟨_, ?_, okPair_rel h2.2 ok true⟩
        simp only [Sem.run_bind, hck, Result.andThen_ok, h1 w, Sem.run_pure]
    · rename_i hfind
      simp only [Option.map_eq_some_iff] at hl
      obtain ⟨z, hz, rfl⟩ := hl
      obtain ⟨hz1, hz2⟩ := zeroVal_ok hE hz w
      obtain ⟨r', h1, h2⟩ := find_ok hE hf hk hfind hes
      cases r' with
      | some q => exact h2.elim
      | none =>
        refine ⟨_, ?_, okPair_rel (VR.closed hz2) ok false⟩
        simp only [Sem.run_bind, hck, Result.andThen_ok, h1 w, hz1, Sem.run_pure]
    · cases hl
  unfold Instr.lookup
  rcases map_run (P := P) h hx hm with ⟨rfl, rfl⟩ | ⟨r, es', clock, rfl, hgo, hes⟩
  · obtain ⟨v', h1, h2⟩ := fin #[] .nil
    refine ⟨v', ?_, h2⟩
    simp only [Sem.run_bind, hu, Result.andThen_ok, Sem.run_pure] at h1 ⊢
    exact h1
  · obtain ⟨v', h1, h2⟩ := fin es' hes
    refine ⟨v', ?_, h2⟩
    simp only [Sem.run_bind, hu, hgo, Result.andThen_ok, Sem.run_pure] at h1 ⊢
    exact h1

theorem sim_makeMap (hE : EnvOk E P) (h : Rel E ι m w) {t : Nat} {r' : Option Value} (ht : isMapT E t = true) (hr : r' = none ∨ ∃ k n, r' = some (.int k n)) :
    ∃ ι1 w1 v', (Instr.makeMap t r').run P w = .ok v' w1 ∧ VR ι1 (.map (some m.size)) v' ∧ Step E ι m w ι1 (m.new (.map [] 0)) w1 := by
  have hb : (w.alloc (.map #[] 0)).heap[w.heap.size]? = some (.map #[] 0) := by show (w.heap.push _)[w.heap.size]? = _; simp
  have hst : Step E ι m w (ι.put m.size ⟨w.heap.size, 0, 0, 0⟩) (m.new (.map [] 0)) (w.alloc (.map #[] 0)) :=
    Step.new h rfl rfl rfl rfl rfl ⟨#[], hb, .nil⟩ (fun _ _ _ _ e => by cases e)
  have hput : (ι.put m.size ⟨w.heap.size, 0, 0, 0⟩) m.size = some ⟨w.heap.size, 0, 0, 0⟩ := by unfold Inj.put; rw [if_pos rfl]
  refine ⟨_, _, .map (some w.heap.size), ?_, VR.mp hput, hst⟩
  unfold Instr.makeMap
  rcases hr with rfl | ⟨k, n, rfl⟩
  · simp
  · unfold isMapT at ht
    split at ht
    · rename_i y hy
      have hu := hE.und hy w
      split at ht
      · rename_i hd
        rw [hd] at hu
        simp [hu, asInt, asIntOf]
      · cases ht
    · cases ht

theorem setEntry_ok {k k' v v' : Value} (hk : VR ι k k') (hv : VR ι v v') : ∀ {es es' : List MapEntry} {i : Nat} {es1 : List MapEntry}, setEntry k v i es = some es1 → ERs ι es es' →
    ERs ι es1 (es'.modify i fun e => { e with key := k', val := v' }) ∧ ∃ e', es'[i]? = some e' ∧ Instr.sameBits 10000 e'.key k' = true
  | [], _, i, es1, h, _ => by unfold setEntry at h; cases h
  | e :: r, _, 0, es1, h, .cons (e' := e') he hs => by
    unfold setEntry at h
    split at h
    · rename_i hq
      cases h
      exact ⟨.cons ⟨hk, hv, he.2.2⟩ hs, e', rfl, keySame_bits hq he.1 hk⟩
    · cases h
  | e :: r, _, i + 1, es1, h, .cons (e' := e') he hs => by
    unfold setEntry at h
    simp only [Option.map_eq_some_iff] at h
    obtain ⟨r1, h1, rfl⟩ := h
    obtain ⟨k1, k2⟩ := setEntry_ok hk hv h1 hs
    exact ⟨.cons he k1, by simpa using k2⟩

theorem sim_mapPut (hE : EnvOk E P) (h : Rel E ι m w) {t : Nat} {x x' k k' v v' : Value} (hl : mapPutV E m t x k v = some m1) (hx : VR ι x x') (hk : VR ι k k') (hv : VR ι v v') :
    ∃ w1, (Instr.mapUpdate t x' k' v').run P w = .ok () w1 ∧ Step E ι m w ι m1 w1 := by
  unfold mapPutV at hl
  split at hl
  case h_2 => cases hl
  rename_i y b hy
  have hu := hE.und hy w
  split at hl
  case h_2 => cases hl
  rename_i kt et es clock hd hg
  rw [hd] at hu
  split at hl
  case h_2 => cases hl
  rename_i hc
  rw [Bool.and_eq_true] at hc
  obtain ⟨hf, hbar⟩ := hc
  cases hx with
  | @mp _ tg hb =>
    obtain ⟨es', h1, hes⟩ := h.obj _ _ _ hb hg
    have hgo : (getObj tg.blk).run P w = .ok (.map es' clock) w := by simp [getObj, Sem.run, h1]
    have htb := (h.dom _ _ hb).2
    have hck := checkKey_ok hE hf hk false w
    have hset : ∀ O : Obj, (setObj tg.blk O).run P w = .ok () (w.putObj tg.blk O) := fun O => by simp [setObj, Sem.run, h1, World.putObj]
    have hup : ∀ (es1 : List MapEntry) (es1' : Array MapEntry) (c1 : Nat), ERs ι es1 es1'.toList → Step E ι m w ι (m.upd b (some (.map es1 c1))) (w.putObj tg.blk (.map es1' c1)) := fun es1 es1' c1 he =>
      Step.upd h hb hg (fun _ _ _ _ e => by cases e) (fun _ _ _ _ e => by cases e) (Nat.le_of_ble_eq_true hbar) (fun c hc => World.putObj_heap_other hc) World.putObj_size rfl rfl rfl
        ⟨es1', World.putObj_heap_same htb, he⟩
    split at hl
    · rename_i i u hfind
      simp only [Option.map_eq_some_iff] at hl
      obtain ⟨es1, hs1, rfl⟩ := hl
      obtain ⟨r', g1, g2⟩ := find_ok hE hf hk hfind hes
      cases r' with
      | none => exact g2.elim
      | some q =>
        obtain ⟨j, u'⟩ := q
        have hj : i = j := g2.1
        subst hj
        obtain ⟨q1, e', q2, q3⟩ := setEntry_ok hk hv hs1 hes
        refine ⟨_, ?_, hup es1 (es'.modify i fun e => { e with key := k', val := v' }) clock (by rw [Array.toList_modify]; exact q1)⟩
        have hge : es'[i]? = some e' := by simpa using q2
        unfold Instr.mapUpdate
        simp only [Sem.run_bind, hu, hgo, Result.andThen_ok, hck, g1 w, hge, Option.map_some, Option.getD_some, Instr.keyThatStays, q3, if_true, Sem.run_pure]
        exact hset _
    · rename_i hfind
      cases hl
      obtain ⟨r', g1, g2⟩ := find_ok hE hf hk hfind hes
      cases r' with
      | some q => exact g2.elim
      | none =>
        refine ⟨_, ?_, hup _ (es'.push { key := k', val := v', born := clock }) (clock + 1) (by rw [Array.toList_push]; exact hes.snoc ⟨hk, hv, rfl⟩)⟩
        unfold Instr.mapUpdate
        simp only [Sem.run_bind, hu, hgo, Result.andThen_ok, hck, g1 w]
        exact hset _
    · cases hl
end
end Go.Am
