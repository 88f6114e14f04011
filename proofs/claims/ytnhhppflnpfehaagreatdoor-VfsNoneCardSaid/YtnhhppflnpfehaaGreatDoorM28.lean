/- VfsNone: the law returns true, of all arguments of its types, in whatever memory. Part 28 of 29; no condition. -/
import Derived.Test.YtnhhppflnpfehaaGreatDoorM27
import Derived.ChangeSame
import Derived.ChangeVars
import Derived.JoinedOf
import Derived.RowKit
import Derived.RowKitTokens
import Derived.LaidLaws
import Derived.HandedShaped
import Derived.SevenTiedAt
import Derived.Carry
import Derived.ChangeOld
section
/- The chapter's examples, run by the kernel. Of closed terms; no condition. -/
set_option linter.unusedVariables false
namespace Go.Proofs.YtnhhppflnpfehaaGreatDoor
open Go Go.Am Go.Pm
set_option maxRecDepth 1000000
theorem awake_pure : PureE Tryz.prog env.ng 5 [] (.bool true) := by
  rw [env_ng]
  exact awake.p5_0
theorem awake5 : PTp env Tryz.prog 5 [] (bv true) := PTp.of_pure env_ok fn5 awake_pure rfl
end Go.Proofs.YtnhhppflnpfehaaGreatDoor
end

section
/- From a contract to a row: whatever the world, if no block that was there is changed and the call returns true, the law's post holds. Plain lemmas; no condition. -/
namespace Go.Am
open Go Go.ChangeShapes Go.WideShapes Go.RowKit
variable {H : Type} {enc : TypeId × Value → H}

theorem keptBut_of_blocks {W W' : World} {may : MemPlace → Prop} (hos : W'.os = W.os) (hout : W'.output = W.output) (hb : ∀ b, b < W.heap.size → W'.heap[b]? = W.heap[b]?) : W.keptBut W' may := by
  refine ⟨hos, hout, fun i hi => ?_⟩
  rw [hb i hi]
  exact (World.keptBut_refl W may).2.2 i hi

theorem ShapedOpen.size {P : Program} {W : World} (h : W.ShapedOpen P) {g : Nat} {zero : Array Value} {t : TypeId} (hg : g < P.globals.size)
    (h0 : (((begin P (fun _ _ => 0) default).world).heap[g]?).bind Obj.row? = some (zero, t)) : g + 1 ≤ W.heap.size := by
  obtain ⟨cs, e, _⟩ := h.1 g zero t hg h0
  rcases Nat.lt_or_ge g W.heap.size with hx | hx
  · exact hx
  · rw [Array.getElem?_eq_none hx] at e; cases e

theorem returnsInHanded_of_change_both {a : Assume} {C : Checked} {os : Os} {f : FuncId} {fn : Func} {s : ChangeSpec} {conds : List PathCond} {apart fresh handsOn again : Bool} {X : World → Array Value → Prop}
    (hX : ∀ (w w' : World) (args : Array Value), w.heap = w'.heap → X w args → X w' args)
    (own : ownKnob C.prog.godebug = none) (started : os.Started) (noInit : C.prog.inits.idxOf? f = none) (hfn : C.prog.funcs[f]? = some fn)
    (witness : ∃ (w : World) (tape : Tape) (i : Input), w.os = os ∧ (w.forCall tape i).Shaped C.prog ∧ i.vars = [] ∧ Input.okWide C.prog (w.forCall tape i) .any w.heap.size f i ∧
      ((s.pre enc C.prog fn conds apart (w.forCall tape i).memory i.args ∧ X (w.forCall tape i).memory i.args) ∧ sizedMet enc C.prog fn (OpenSpec.ofChange s) apart (w.forCall tape i).memory i.args) ∧ a.holds C.prog (lone (Frame.enter C.prog f i.args .normal) [] (w.forCall tape i)))
    (contract : ∀ (W : World) (base : Nat) (args : Array Value) (ds gs : List (DataW H)) (before : List MemPlace),
      (∀ (j : Nat) t v, fn.params[j]? = some t → args[j]? = some v → Value.okWide C.prog W .any base t v) →
      DataW.Whole enc C.prog fn.params.toList s.vars apart W args.toList ds gs before →
      conds.all (PathCond.test C.prog ⟨fn.params.toList, ds, s.plain.varTypes C.prog, gs⟩) = true →
      (DataW.weightsEach C.prog (fn.params.toList ++ s.plain.varTypes C.prog) (ds ++ gs)).all (· ≤ reachBytes) = true → X W args →
      W.ShapedOpen C.prog →
      Calls C.prog f args W fun e W' => ∃ v, e = .returned v ∧ s.post enc C.prog fn apart fresh handsOn again W args v W') :
    ReturnsInHanded a C os f .any (fun w args => (s.pre enc C.prog fn conds apart w args ∧ X w args) ∧ sizedMet enc C.prog fn (OpenSpec.ofChange s) apart w args) (s.post enc C.prog fn apart fresh handsOn again) := by
  refine returnsInHanded_of_calls own started noInit witness ?_
  intro w tape i _ hsh _ hok hpre hholds
  obtain ⟨_, _, _, fn', hfn', _, _, _, _, hval⟩ := hok
  have e : fn' = fn := Option.some.inj (hfn'.symm.trans hfn)
  subst e
  obtain ⟨⟨⟨ds, gs, before, hw, hc⟩, hx⟩, hz⟩ := hpre
  have hw' := DataW.Whole.of_heap (w' := w.forCall tape i) (by rfl) hw
  refine (contract (w.forCall tape i) w.heap.size i.args ds gs before hval hw' hc (hz.weights hw) (hX _ _ _ (by rfl) hx) hsh).mono fun e W' ⟨v, he, hp⟩ => ?_
  subst he
  exact ChangeSpec.post_blind hp

/-- A law without arguments. -/
theorem post_closed {P : Program} {f : Func} {s : ChangeSpec} {apart fresh handsOn again : Bool} {W W' : World} {ds gs : List (DataW H)} {before : List MemPlace} {t : TypeId}
    (hp : f.params = #[]) (hr : f.resultTypes = #[t]) (ht : P.underlying t = some .bool) (hv : s.vars = []) (hs : s.fn H [] = { results := [.lit (.bool true)], args := [] })
    (hag : again = false)
    (hW : DataW.Whole enc P f.params.toList s.vars apart W #[].toList ds gs before)
    (hos : W'.os = W.os) (hout : W'.output = W.output) (hb : ∀ b, b < W.heap.size → W'.heap[b]? = W.heap[b]?) :
    s.post enc P f apart fresh handsOn again W #[] (.bool true) W' := by
  have hW0 := hW
  obtain ⟨p, q, hA0, hV0, rfl, hfz, hnd⟩ := hW0
  rw [hp] at hA0
  obtain ⟨_, rfl, rfl⟩ := trodAll_nil hA0
  rw [hv] at hV0
  obtain ⟨rfl, rfl⟩ : gs = [] ∧ q = [] := by
    cases gs with
    | nil => exact ⟨rfl, hV0⟩
    | cons g r => exact absurd hV0 (by intro h; cases h)
  have e1 : s.fn H ([] ++ []) = { results := [.lit (.bool true)], args := [] } := hs
  refine ⟨[], [], _, [], [], [], hW, ?_, ?_, ?_, keptBut_of_blocks hos hout hb, fun h => by rw [hag] at h; cases h⟩
  · rw [e1, hr]; exact trodAll_mk1 (shut_bool ht true)
  · rw [e1, hp]; exact trodAll_mk0
  · rw [e1, hv]; rfl
end Go.Am
end

section
/- From a contract to a row, of a law with arguments: whatever the world, if no block that was there is changed and the call returns true, the law's post holds. Plain lemmas; no condition. -/
namespace Go.Am
open Go Go.ChangeShapes Go.WideShapes Go.RowKit
variable {H : Type} {enc : TypeId × Value → H}

theorem trodAll_kept {P : Program} {W W' : World} (hl : laidOutB P = true) (hb : Below W.heap.size W W') : ∀ {ts : List TypeId} {vs : List Value} {ds : List (DataW H)} {ps : List MemPlace},
    (∀ t ∈ ts, P.readableRec t = true ∧ t < P.types.size) → DataW.TrodAll enc P W 0 (fun _ => true) true ts vs ds ps → (∀ x ∈ ps, x.block < W.heap.size) →
    DataW.TrodAll enc P W' 0 (fun b => decide (b < W.heap.size)) true ts vs ds ps
  | [], vs, ds, ps, _, h, _ => by
    obtain ⟨rfl, rfl, rfl⟩ := trodAll_nil h
    exact trodAll_mk0
  | t :: ts, vs, ds, ps, hr, h, hlt => by
    obtain ⟨v, vs', d, ds', p, q, rfl, rfl, rfl, hd, hs⟩ := trodAll_cons h
    obtain ⟨hr1, hr2⟩ := hr t List.mem_cons_self
    exact ⟨p, q, Below.trod hl hr1 hr2 hd hb (fun x hx => hlt x (List.mem_append_left _ hx)),
      trodAll_kept hl hb (fun t ht => hr t (List.mem_cons_of_mem _ ht)) hs (fun x hx => hlt x (List.mem_append_right _ hx)), rfl⟩

theorem trodAll_len {P : Program} {w : World} {base : Nat} {spare : Nat → Bool} {held : Bool} : ∀ {ts : List TypeId} {vs : List Value} {ds : List (DataW H)} {ps : List MemPlace}, DataW.TrodAll enc P w base spare held ts vs ds ps → ds.length = ts.length
  | [], vs, ds, ps, h => by
    obtain ⟨_, rfl, _⟩ := trodAll_nil h
    rfl
  | t :: ts, vs, ds, ps, h => by
    obtain ⟨v, vs', d, ds', p, q, rfl, rfl, rfl, _, h2⟩ := trodAll_cons h
    rw [List.length_cons, List.length_cons, trodAll_len h2]

/-- A law with arguments. -/
theorem post_args {P : Program} {f : Func} {s : ChangeSpec} {apart fresh handsOn again : Bool} {W W' : World} {args : Array Value} {ds gs : List (DataW H)} {before : List MemPlace} {t : TypeId}
    (hl : laidOutB P = true) (hp : f.params.toList.all (fun t => P.readableRec t && decide (t < P.types.size)) = true)
    (hr : f.resultTypes = #[t]) (ht : P.underlying t = some .bool) (hv : s.vars = []) (hs : s.fn H ds = { results := [.lit (.bool true)], args := ds })
    (hag : again = false)
    (hW : DataW.Whole enc P f.params.toList s.vars apart W args.toList ds gs before)
    (hos : W'.os = W.os) (htp : W'.tape = W.tape) (hout : W'.output = W.output) (hsz : W.heap.size ≤ W'.heap.size) (hb : ∀ b, b < W.heap.size → W'.heap[b]? = W.heap[b]?) :
    s.post enc P f apart fresh handsOn again W args (.bool true) W' := by
  have hW0 := hW
  obtain ⟨p, q, hA0, hV0, rfl, hfz, hnd⟩ := hW0
  rw [hv] at hV0
  obtain ⟨rfl, rfl⟩ : gs = [] ∧ q = [] := by
    cases gs with
    | nil => exact ⟨rfl, hV0⟩
    | cons g r => exact absurd hV0 (by intro h; cases h)
  have e1 : s.fn H (ds ++ []) = { results := [.lit (.bool true)], args := ds } := by rw [List.append_nil]; exact hs
  refine ⟨ds, [], _, [], p, [], hW, ?_, ?_, ?_, keptBut_of_blocks hos hout hb, fun h => by rw [hag] at h; cases h⟩
  · rw [e1, hr]; exact trodAll_mk1 (shut_bool ht true)
  · rw [e1]
    refine trodAll_kept hl ⟨hos, htp, hout, hsz, hb⟩ (fun t ht => ?_) hA0 (fun x hx => ?_)
    · have := List.all_eq_true.1 hp t ht
      simp only [Bool.and_eq_true, decide_eq_true_eq] at this
      exact this
    · exact hW.lt x (List.mem_append_left _ hx)
  · rw [e1, hv]; rfl
end Go.Am
end

section
/- A law's arguments, by the shapes of its parameters' types, found by evaluation. Definitions and plain lemmas; no condition. -/
set_option linter.unusedVariables false
namespace Go.Pm
open Go Go.RowKit Go.Am Go.ChangeShapes

def shapeFs (P : Program) (sh : TypeId → Option (List Sh)) : List Field → Nat → Option (List Sh)
  | [], _ => some []
  | f :: fs, n => match sh f.type with
    | some l => if f.offset = n ∧ P.cellsOf f.type = l.length then
        match shapeFs P sh fs (n + l.length) with
        | some l' => some (l ++ l')
        | none => none
      else none
    | none => none
def shapeOf (P : Program) : Nat → TypeId → Option (List Sh)
  | 0, _ => none
  | k + 1, t => match P.underlying t with
    | some .bool => some [.bool]
    | some (.int k) => some [.int k]
    | some .string => some [.str]
    | some (.slice e) => match shapeOf P k e with
      | some l => if P.cellsOf e = l.length ∧ l.length ≠ 0 ∧ l.length < 4096 then some [.sl l] else none
      | none => none
    | some (.struct fs) => match shapeFs P (shapeOf P k) fs.toList 0 with
      | some l => if P.cellsOf t = l.length then some l else none
      | none => none
    | _ => none
theorem shapeFs_ok {P : Program} {sh : TypeId → Option (List Sh)} (h : ∀ t l, sh t = some l → Typ P t l) : ∀ {fs : List Field} {n : Nat} {l : List Sh}, shapeFs P sh fs n = some l → TypFs P fs n l
  | [], n, l, e => by cases e; exact .nil
  | f :: fs, n, l, e => by
    unfold shapeFs at e
    split at e
    · rename_i l1 h1
      split at e
      · rename_i hc
        split at e
        · rename_i l2 h2
          cases e
          exact .cons hc.1 (h _ _ h1) hc.2 (shapeFs_ok h h2)
        · cases e
      · cases e
    · cases e
theorem shapeOf_ok {P : Program} : ∀ (k : Nat) (t : TypeId) (l : List Sh), shapeOf P k t = some l → Typ P t l
  | 0, t, l, e => by cases e
  | k + 1, t, l, e => by
    unfold shapeOf at e
    split at e
    · rename_i hu; cases e; exact .bool hu
    · rename_i hu; cases e; exact .int hu
    · rename_i hu; cases e; exact .str hu
    · rename_i hu
      split at e
      · rename_i l1 h1
        split at e
        · rename_i hc
          cases e
          exact .sl hu (shapeOf_ok k _ _ h1) hc.1 hc.2.1 hc.2.2
        · cases e
      · cases e
    · rename_i hu
      split at e
      · rename_i l1 h1
        split at e
        · rename_i hc
          cases e
          exact .struct hu (shapeFs_ok (shapeOf_ok k) h1) hc
        · cases e
      · cases e
    · cases e

/-! ### Arguments -/
inductive ArgSh where
  | one (s : Sh)
  | agg (l : List Sh)
inductive ShA : ArgSh → DV → Prop where
  | one {s : Sh} {d : DV} (h : ShP s d) : ShA (.one s) d
  | agg {l : List Sh} {ds : List DV} (h : ShPs l ds) : ShA (.agg l) (.agg ds)
inductive ShAs : List ArgSh → List DV → Prop where
  | nil : ShAs [] []
  | cons {s : ArgSh} {d : DV} {l : List ArgSh} {l' : List DV} (h : ShA s d) (hs : ShAs l l') : ShAs (s :: l) (d :: l')
def pvA : ArgSh → DV → PV
  | .one s, d => pvD s d
  | .agg l, .agg ds => .agg (pvs l ds)
  | .agg _, _ => .junk
def pvAs : List ArgSh → List DV → List PV
  | s :: l, d :: l' => pvA s d :: pvAs l l'
  | _, _ => []
def argSh (P : Program) (t : TypeId) : Option ArgSh := match P.underlying t with
  | some (.struct _) => match shapeOf P 20 t with
    | some l => some (.agg l)
    | none => none
  | u => match oneT u, shapeOf P 20 t with
    | true, some [s] => some (.one s)
    | _, _ => none
def argShs (P : Program) : List TypeId → Option (List ArgSh)
  | [] => some []
  | t :: ts => match argSh P t, argShs P ts with
    | some s, some l => some (s :: l)
    | _, _ => none
theorem lay_pra {cx : Cx} (ng : Nat) {s : ArgSh} {d : DV} (h : ShA s d) (R : List (List Value × Nat)) (hH : Holds cx ng (lay ng d R).2) : PR cx (pvA s d) (lay ng d R).1 := by
  cases h with
  | one h => exact lay_pr ng h R hH
  | agg h => exact pvD_agg h hH
theorem lay_pras {cx : Cx} (ng : Nat) : ∀ {l : List ArgSh} {ds : List DV}, ShAs l ds → ∀ R, Holds cx ng (lays ng ds R).2 → PRs cx (pvAs l ds) (lays ng ds R).1
  | _, _, .nil, R, _ => by simp only [lays, pvAs]; exact .nil
  | _, _, .cons (d := d) (l' := ds) h hs, R, hH => by
    simp only [lays] at hH ⊢
    obtain ⟨Y, hY⟩ := lays_grow ng ds (lay ng d R).2
    refine .cons (lay_pra ng h R ?_) (lay_pras ng hs _ hH)
    rw [hY] at hH
    exact hH.left

section
variable {H : Type} {enc : TypeId × Value → H} {P : Program} {W : World}
theorem open_arg {b0 : Nat} {t : TypeId} {s : ArgSh} {v : Value} {d : DataW H} {p : List MemPlace} (hs : argSh P t = some s) (hv : Value.okWide P W .any b0 t v) (h : DataW.Trod enc P W 0 (fun _ => true) true t v d p) : ∃ d, DW W d v ∧ ShA s d := by
  unfold argSh at hs
  split at hs
  · rename_i fs hu
    split at hs
    · rename_i l hl
      cases hs
      obtain ⟨ds, k1, k2⟩ := open_agg (shapeOf_ok _ _ _ hl) hu hv h
      exact ⟨_, k1, .agg k2⟩
    · cases hs
  · split at hs
    · rename_i ho hl
      cases hs
      obtain ⟨d, k1, k2⟩ := open_one (shapeOf_ok _ _ _ hl) ho hv h
      exact ⟨_, k1, .one k2⟩
    · cases hs
theorem open_args {b0 : Nat} : ∀ {ts : List TypeId} {ss : List ArgSh} {vs : List Value} {ds : List (DataW H)} {ps : List MemPlace}, argShs P ts = some ss →
    (∀ (j : Nat) t v, ts[j]? = some t → vs[j]? = some v → Value.okWide P W .any b0 t v) → DataW.TrodAll enc P W 0 (fun _ => true) true ts vs ds ps → ∃ dvs, DWs W dvs vs ∧ ShAs ss dvs
  | [], ss, vs, ds, ps, hs, _, h => by
    cases hs
    obtain ⟨rfl, _, _⟩ := trodAll_nil h
    exact ⟨[], .nil, .nil⟩
  | t :: ts, ss, vs, ds, ps, hs, hv, h => by
    obtain ⟨v, vs', d, ds', p, q, rfl, rfl, rfl, h1, h2⟩ := trodAll_cons h
    unfold argShs at hs
    split at hs
    · rename_i s l e1 e2
      cases hs
      obtain ⟨x, k1, k2⟩ := open_arg e1 (hv 0 t v rfl rfl) h1
      obtain ⟨xs, g1, g2⟩ := open_args e2 (fun j t v a b => hv (j + 1) t v a b) h2
      exact ⟨x :: xs, .cons k1 g1, .cons k2 g2⟩
    · cases hs
end

/-- A law whose walk yields true for all arguments of its parameters' shapes. -/
theorem law_args {H : Type} {enc : TypeId × Value → H} {E : Env} {P : Program} {f : Nat} {x : Fun} {W : World} {ts : List TypeId} {ss : List ArgSh} {args : Array Value} {ds : List (DataW H)} {ps : List MemPlace} {b0 : Nat} (hE : EnvOk E P) (hf : E.fn f = some x) (hW : E.ng ≤ W.heap.size)
    (hs : argShs P ts = some ss) (hv : ∀ (j : Nat) t v, ts[j]? = some t → args.toList[j]? = some v → Value.okWide P W .any b0 t v) (hA : DataW.TrodAll enc P W 0 (fun _ => true) true ts args.toList ds ps)
    (h : ∀ dvs, ShAs ss dvs → PTp E P f (pvAs ss dvs) (.v (.bool true))) :
    Calls P f args W fun e W' => e = .returned (.bool true) ∧ (∀ b, b < W.heap.size → W'.heap[b]? = W.heap[b]?) ∧ W.heap.size ≤ W'.heap.size ∧ W'.os = W.os ∧ W'.tape = W.tape ∧ W'.output = W.output := by
  obtain ⟨dvs, k1, k2⟩ := open_args hs hv hA
  have := law_calls (v := true) hE hf hW k1 (fun cx hH => lay_pras E.ng k2 [] hH) (PT.conseq (h dvs k2 _) fun x M1 ⟨e1, e2⟩ => ⟨x, M1, PLe.refl _, .refl _, e1⟩)
  simpa using this
end Go.Pm
end

section
/- VfsNone: the law walked. Of any call; no condition. -/
set_option linter.unusedVariables false
namespace Go.Proofs.YtnhhppflnpfehaaGreatDoor
open Go Go.Am Go.Pm
set_option linter.unusedSimpArgs false
set_option maxHeartbeats 1000000
structure Act where
  kind : Int
  off : Int
  path : List UInt8
  to : List UInt8
  ek : Int
  mode : Int
  bytes : List UInt8
def actCells (e : Act) : List PV := [iv e.kind, iv e.off, str e.path, str e.to, iv e.ek, iv e.mode, encBytes e.bytes]
def encAct (e : Act) : PV := .agg (actCells e)
def encActs (xs : List Act) : PV := .lst .no 7 xs.length (xs.flatMap actCells)
abbrev shAct : List Sh := [i64, i64, .str, .str, i64, i64, .sl shB]
theorem act_dec {ds : List DV} (h : ShPs shAct ds) : ∃ e : Act, pvs shAct ds = actCells e := by
  cases h with | cons h1 h =>
  cases h with | cons h2 h =>
  cases h with | cons h3 h =>
  cases h with | cons h4 h =>
  cases h with | cons h5 h =>
  cases h with | cons h6 h =>
  cases h with | cons h7 h =>
  cases h
  obtain ⟨a, a1, a2⟩ := i_dec h1
  obtain ⟨b, b1, b2⟩ := i_dec h2
  obtain ⟨c, c1, c2⟩ := txt_dec h3
  obtain ⟨d, d1, d2⟩ := txt_dec h4
  obtain ⟨e, e1, e2⟩ := i_dec h5
  obtain ⟨f, f1, f2⟩ := i_dec h6
  obtain ⟨g, g1, g2⟩ := bytes_dec h7
  exact ⟨⟨a, b, c, d, e, f, g⟩, by simp only [pvs, a1, b1, c1, d1, e1, f1, g1]; rfl⟩
theorem long_effect (x m : Int) (a : List UInt8) : PTp env Tryz.prog 15 [.agg [iv x, iv m, encBytes a]] (bv (decide ((a.length : Int) > 1200))) := fun M => by
  refine PT.enterR env_ok fn15 (by simp) comp15 fun k hk hf => RX.of env_ok ?_
  simp only [WX, WV, WO, WC, FJ, e_L, e_A, e_Z, r_append, r_cap, cap_nil, FB, FL, FX, FS, FN, Option.map_some, Option.map_none, Nat.reduceLT, Nat.reduceEqDiff, Nat.reduceAdd, Nat.reduceLeDiff, Nat.reduceMul, true_and, and_self, argsP, encBytes]
  exact end1 hf rfl ⟨rfl, rfl⟩
def encOne (e : Act) : PV := .lst .no 7 1 (actCells e)
def actLong (e : Act) : Bool := decide ((e.path.length : Int) > 100) || decide ((e.to.length : Int) > 100) || decide ((e.bytes.length : Int) > 1200)
theorem round4 (e : Act) (M : PMem) (k : Nat) (Q : AExit → PSt → Prop) (i : Nat) (hi : i < 1) (q2 : actLong e = true → ∀ tm, tget tm 2 = bv true → Q .ret ⟨tm, 41, k, [], M⟩)
    (h : actLong e = false → RXL env Tryz.prog none c4_13 ⟨[(3, iv (i + 1 : Nat)), (0, encOne e)], 41, k, [], M⟩ Q) :
    RXL env Tryz.prog none c4_13 ⟨[(3, iv i), (0, encOne e)], 41, k, [], M⟩ Q := by
  have hii : (i : Int) < ((1 : Nat) : Int) := by omega
  have him : (i : Int) < 61 := by omega
  have hw : IntKind.i64.wrap ((i : Int) + 1) = ((i + 1 : Nat) : Int) := by rw [wrap64_id (by omega) (by omega)]; rfl
  have h0 : i = 0 := by omega
  have c2 : (actCells e)[i * 7 + 2]? = some (str e.path) := by rw [h0]; rfl
  have c6 : (actCells e)[i * 7 + 3]? = some (str e.to) := by rw [h0]; rfl
  have c3 : ptake true 3 (actCells e) (i * 7 + 4) = some (.agg [iv e.ek, iv e.mode, encBytes e.bytes]) := by rw [h0]; rfl
  refine RXL.round (RX.of env_ok ?_)
  simp only [WX, WV, WO, WC, FJ, e_L, e_A, e_Z, r_append, r_cap, cap_nil, FB, FL, FX, FS, FN, Option.map_some, Option.map_none, Nat.reduceLT, Nat.reduceEqDiff, Nat.reduceAdd, Nat.reduceLeDiff, Nat.reduceMul, true_and, and_self, encOne, him, hii, hi, decide_true, Bool.and_true, cnd_t, c2, c6, c3]
  refine cg0F (fun h => by simp only [h, Bool.not_false, cnd_t]; exact long_effect _ _ _) (by decide) ?_
  simp only [WX, WV, WO, WC, FJ, e_L, e_A, e_Z, r_append, r_cap, cap_nil, FB, FL, FX, FS, FN, Option.map_some, Option.map_none, Nat.reduceLT, Nat.reduceEqDiff, Nat.reduceAdd, Nat.reduceLeDiff, Nat.reduceMul, true_and, and_self, encOne, him, hii, decide_true, Bool.and_true, c2, c6, c3]
  refine cW_s (fun hb => ?_) (fun hb => ?_)
  · simp only [WX, WV, WO, WC, FJ, e_L, e_A, e_Z, r_append, r_cap, cap_nil, FB, FL, FX, FS, FN, Option.map_some, Option.map_none, Nat.reduceLT, Nat.reduceEqDiff, Nat.reduceAdd, Nat.reduceLeDiff, Nat.reduceMul, true_and, and_self]
    exact q2 hb _ rfl
  · simp only [WX, WV, WO, WC, FJ, e_L, e_A, e_Z, r_append, r_cap, cap_nil, FB, FL, FX, FS, FN, Option.map_some, Option.map_none, Nat.reduceLT, Nat.reduceEqDiff, Nat.reduceAdd, Nat.reduceLeDiff, Nat.reduceMul, true_and, and_self, hw]
    refine RXL.weak (keepE ?_) (h hb)
    repeat (first | exact KP.nil | apply KP.cons rfl)
theorem long_one (e : Act) : PTp env Tryz.prog 4 [encOne e] (bv (actLong e)) := fun M => by
  refine PT.enterR env_ok fn4 (by simp) comp4 fun k hk hf => RX.of env_ok ?_
  simp only [WX, WV, WO, WC, FJ, e_L, e_A, e_Z, r_append, r_cap, cap_nil, FB, FL, FX, FS, FN, Option.map_some, Option.map_none, Nat.reduceLT, Nat.reduceEqDiff, Nat.reduceAdd, Nat.reduceLeDiff, Nat.reduceMul, true_and, and_self, argsP]
  refine RX.loop (RXL.weak (keepE (tm' := [(3, iv (0 : Nat)), (0, encOne e)]) ?_) (round4 e M k _ 0 (by decide) (fun h tm ht => ?_) (fun h => RXL.round (RX.of env_ok ?_))))
  · repeat (first | exact KP.nil | apply KP.cons rfl)
  · simp only [WX, WV, WO, WC, FJ, e_L, e_A, e_Z, r_append, r_cap, cap_nil, FB, FL, FX, FS, FN, Option.map_some, Option.map_none, Nat.reduceLT, Nat.reduceEqDiff, Nat.reduceAdd, Nat.reduceLeDiff, Nat.reduceMul, true_and, and_self]
    refine end1 hf ht ⟨?_, rfl⟩
    rw [h]
  · have hii : ¬ (((0 + 1 : Nat) : Int) < ((1 : Nat) : Int)) := by decide
    simp only [WX, WV, WO, WC, FJ, e_L, e_A, e_Z, r_append, r_cap, cap_nil, FB, FL, FX, FS, FN, Option.map_some, Option.map_none, Nat.reduceLT, Nat.reduceEqDiff, Nat.reduceAdd, Nat.reduceLeDiff, Nat.reduceMul, true_and, and_self, encOne, hii, decide_false, Bool.false_and, cnd_f]
    refine end1 hf rfl ⟨?_, rfl⟩
    rw [h]; rfl
def zF : List PV := [.lst .full 0 0 [], .v (.map none), iv 0]
theorem neI {a : Int} : (a != a) = false := by simp
theorem round3 (e : Act) (M : PMem) (k : Nat) (Q : AExit → PSt → Prop) (i : Nat) (hi : i < 2) (s : PV) (hg : [.v (.pointer none), .ptr k 1 0][i * 1]? = some s) (hn : noneS (seg M k [.row .rw 0 (actCells e), .row .rw 0 zF]) s)
    (h : RXL env Tryz.prog none c3_25 ⟨[(4, iv (i + 1 : Nat)), (3, .lst .full 1 2 [.v (.pointer none), .ptr k 1 0]), (1, .ptr k 0 0)], 106, k, [.row .rw 0 (actCells e), .row .rw 0 zF], M⟩ Q) :
    RXL env Tryz.prog none c3_25 ⟨[(4, iv i), (3, .lst .full 1 2 [.v (.pointer none), .ptr k 1 0]), (1, .ptr k 0 0)], 106, k, [.row .rw 0 (actCells e), .row .rw 0 zF], M⟩ Q := by
  have hii : (i : Int) < ((2 : Nat) : Int) := by omega
  have hw : IntKind.i64.wrap ((i : Int) + 1) = ((i + 1 : Nat) : Int) := by rw [wrap64_id (by omega) (by omega)]; rfl
  refine RXL.inn fun k' hk1 hk2 hk3 => RX.of env_ok ?_
  have hld : ∀ {ag : Bool} {n o j : Nat} {os : List Pm.Obj}, loadP k' os (seg M k [.row .rw 0 (actCells e), .row .rw 0 zF]) ag n (.ptr k j o) = rowTake ag n o [.row .rw 0 (actCells e), .row .rw 0 zF][j]? := fun {ag n o j os} => by
    rw [loadP_out (Ne.symm hk1), seg_same]
  simp only [actCells, zF] at hn h hld ⊢
  simp only [WX, WV, WO, WC, FJ, e_L, e_A, e_Z, r_append, r_cap, cap_nil, FB, FL, FX, FS, FN, Option.map_some, Option.map_none, Nat.reduceLT, Nat.reduceEqDiff, Nat.reduceAdd, Nat.reduceLeDiff, Nat.reduceMul, true_and, and_self, hii, decide_true, hi, hg, hld]
  refine cs0 (write_none hn e.path e.mode e.bytes) (Sub.seg hk3) (by decide) ?_
  simp only [WX, WV, WO, WC, FJ, e_L, e_A, e_Z, r_append, r_cap, cap_nil, FB, FL, FX, FS, FN, Option.map_some, Option.map_none, Nat.reduceLT, Nat.reduceEqDiff, Nat.reduceAdd, Nat.reduceLeDiff, Nat.reduceMul, true_and, and_self, beq_self_eq_true, cnd_t, hld]
  refine cs0 (mkdir_none hn e.path e.mode) (Sub.seg hk3) (by decide) ?_
  simp only [WX, WV, WO, WC, FJ, e_L, e_A, e_Z, r_append, r_cap, cap_nil, FB, FL, FX, FS, FN, Option.map_some, Option.map_none, Nat.reduceLT, Nat.reduceEqDiff, Nat.reduceAdd, Nat.reduceLeDiff, Nat.reduceMul, true_and, and_self, beq_self_eq_true, cnd_t, hld]
  refine cs0 (chmod_none hn e.path e.mode) (Sub.seg hk3) (by decide) ?_
  simp only [WX, WV, WO, WC, FJ, e_L, e_A, e_Z, r_append, r_cap, cap_nil, FB, FL, FX, FS, FN, Option.map_some, Option.map_none, Nat.reduceLT, Nat.reduceEqDiff, Nat.reduceAdd, Nat.reduceLeDiff, Nat.reduceMul, true_and, and_self, beq_self_eq_true, cnd_t, hld]
  refine cs0 (remove_none hn e.path) (Sub.seg hk3) (by decide) ?_
  simp only [WX, WV, WO, WC, FJ, e_L, e_A, e_Z, r_append, r_cap, cap_nil, FB, FL, FX, FS, FN, Option.map_some, Option.map_none, Nat.reduceLT, Nat.reduceEqDiff, Nat.reduceAdd, Nat.reduceLeDiff, Nat.reduceMul, true_and, and_self, beq_self_eq_true, cnd_t, hld]
  refine cs0 (rename_none hn e.path e.to) (Sub.seg hk3) (by decide) ?_
  simp only [WX, WV, WO, WC, FJ, e_L, e_A, e_Z, r_append, r_cap, cap_nil, FB, FL, FX, FS, FN, Option.map_some, Option.map_none, Nat.reduceLT, Nat.reduceEqDiff, Nat.reduceAdd, Nat.reduceLeDiff, Nat.reduceMul, true_and, and_self, beq_self_eq_true, cnd_t, hld]
  refine cs0 (swap_none hn e.path e.ek e.mode e.bytes e.off) (Sub.seg hk3) (by decide) ?_
  simp only [WX, WV, WO, WC, FJ, e_L, e_A, e_Z, r_append, r_cap, cap_nil, FB, FL, FX, FS, FN, Option.map_some, Option.map_none, Nat.reduceLT, Nat.reduceEqDiff, Nat.reduceAdd, Nat.reduceLeDiff, Nat.reduceMul, true_and, and_self, beq_self_eq_true, cnd_t, cnd_f, hld, Bool.not_true, Bool.not_false, Bool.or_false, Bool.false_or, neI]
  refine cs0 (tree_none hn) (Sub.seg hk3) (by decide) ?_
  simp only [WX, WV, WO, WC, FJ, e_L, e_A, e_Z, r_append, r_cap, cap_nil, FB, FL, FX, FS, FN, Option.map_some, Option.map_none, Nat.reduceLT, Nat.reduceEqDiff, Nat.reduceAdd, Nat.reduceLeDiff, Nat.reduceMul, true_and, and_self, beq_self_eq_true, cnd_t, cnd_f, hld, Bool.not_true, Bool.not_false, Bool.or_false, Bool.false_or, neI, gt_iff_lt, Int.lt_irrefl, decide_false, Int.natCast_zero]
  refine cs0 (stamp_none hn _) (Sub.seg hk3) (by decide) ?_
  simp only [WX, WV, WO, WC, FJ, e_L, e_A, e_Z, r_append, r_cap, cap_nil, FB, FL, FX, FS, FN, Option.map_some, Option.map_none, Nat.reduceLT, Nat.reduceEqDiff, Nat.reduceAdd, Nat.reduceLeDiff, Nat.reduceMul, true_and, and_self, beq_self_eq_true, cnd_t, cnd_f, hld, Bool.not_true, Bool.not_false, Bool.or_false, Bool.false_or, neI, gt_iff_lt, Int.lt_irrefl, decide_false, Int.natCast_zero]
  refine cs0 (clock_none hn) (Sub.seg hk3) (by decide) ?_
  simp only [WX, WV, WO, WC, FJ, e_L, e_A, e_Z, r_append, r_cap, cap_nil, FB, FL, FX, FS, FN, Option.map_some, Option.map_none, Nat.reduceLT, Nat.reduceEqDiff, Nat.reduceAdd, Nat.reduceLeDiff, Nat.reduceMul, true_and, and_self, beq_self_eq_true, cnd_t, cnd_f, hld, Bool.not_true, Bool.not_false, Bool.or_false, Bool.false_or, neI, hw]
  refine RXL.weak (keepE ?_) h
  repeat (first | exact KP.nil | apply KP.cons rfl)
theorem vfs_none (e : Act) : PTp env Tryz.prog 3 [encAct e] (bv true) := fun M => by
  refine PT.enterR env_ok fn3 (by simp) comp3 fun k hk hf => RX.of env_ok ?_
  simp only [WX, WV, WO, WC, FJ, e_L, e_A, e_Z, r_append, r_cap, cap_nil, FB, FL, FX, FS, FN, Option.map_some, Option.map_none, Nat.reduceLT, Nat.reduceEqDiff, Nat.reduceAdd, Nat.reduceLeDiff, Nat.reduceMul, true_and, and_self, argsP, encAct, actCells]
  refine cp0 (PTp.args (args' := [encOne e]) (.cons (PLe.no _ _ _ _) .nil) (long_one e)) (by decide) ?_
  simp only [WX, WV, WO, WC, FJ, e_L, e_A, e_Z, r_append, r_cap, cap_nil, FB, FL, FX, FS, FN, Option.map_some, Option.map_none, Nat.reduceLT, Nat.reduceEqDiff, Nat.reduceAdd, Nat.reduceLeDiff, Nat.reduceMul, true_and, and_self]
  refine cW_s (fun hb => ?_) (fun hb => ?_)
  · simp only [WX, WV, WO, WC, FJ, e_L, e_A, e_Z, r_append, r_cap, cap_nil, FB, FL, FX, FS, FN, Option.map_some, Option.map_none, Nat.reduceLT, Nat.reduceEqDiff, Nat.reduceAdd, Nat.reduceLeDiff, Nat.reduceMul, true_and, and_self]
    refine cp0 awake5 (by decide) ?_
    simp only [WX, WV, WO, WC, FJ, e_L, e_A, e_Z, r_append, r_cap, cap_nil, FB, FL, FX, FS, FN, Option.map_some, Option.map_none, Nat.reduceLT, Nat.reduceEqDiff, Nat.reduceAdd, Nat.reduceLeDiff, Nat.reduceMul, true_and, and_self]
    exact end1 hf rfl ⟨rfl, rfl⟩
  · simp only [WX, WV, WO, WC, FJ, e_L, e_A, e_Z, r_append, r_cap, cap_nil, FB, FL, FX, FS, FN, Option.map_some, Option.map_none, Nat.reduceLT, Nat.reduceEqDiff, Nat.reduceAdd, Nat.reduceLeDiff, Nat.reduceMul, true_and, and_self]
    refine RX.loop (RXL.weak (keepE (tm' := [(4, iv (0 : Nat)), (3, .lst .full 1 2 [.v (.pointer none), .ptr k 1 0]), (1, .ptr k 0 0)]) ?_) (round3 e M k _ 0 (by decide) (.v (.pointer none)) rfl (.inl rfl) (round3 e M k _ 1 (by decide) (.ptr k 1 0) rfl (.inr ⟨k, 1, _, _, _, _, rfl, by rw [seg_same]; rfl⟩) ?_)))
    · repeat (first | exact KP.nil | apply KP.cons rfl)
    · have hii : ¬ (((1 + 1 : Nat) : Int) < ((2 : Nat) : Int)) := by decide
      refine RXL.round (RX.of env_ok ?_)
      simp only [WX, WV, WO, WC, FJ, e_L, e_A, e_Z, r_append, r_cap, cap_nil, FB, FL, FX, FS, FN, Option.map_some, Option.map_none, Nat.reduceLT, Nat.reduceEqDiff, Nat.reduceAdd, Nat.reduceLeDiff, Nat.reduceMul, true_and, and_self, hii, decide_false]
      refine cp0 awake5 (by decide) ?_
      simp only [WX, WV, WO, WC, FJ, e_L, e_A, e_Z, r_append, r_cap, cap_nil, FB, FL, FX, FS, FN, Option.map_some, Option.map_none, Nat.reduceLT, Nat.reduceEqDiff, Nat.reduceAdd, Nat.reduceLeDiff, Nat.reduceMul, true_and, and_self]
      exact end1 hf rfl ⟨rfl, rfl⟩
theorem vfs_none_pt (ds : List DV) (h : ShAs [.agg shAct] ds) : PTp env Tryz.prog 3 (pvAs [.agg shAct] ds) (bv true) := by
  cases h with | cons h hs =>
  cases hs
  cases h with | agg h =>
  obtain ⟨e, he⟩ := act_dec h
  simp only [pvAs, pvA, he]
  exact vfs_none e
end Go.Proofs.YtnhhppflnpfehaaGreatDoor
end
