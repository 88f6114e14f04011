/- TableMoves holds. Part 27 of 29; no condition. -/
import Derived.Test.YthjlhgjnjhmfbaaGreatDoorM26
import Derived.ChangeSame
import Derived.ChangeVars
import Derived.JoinedOf
import Derived.RowKit
import Derived.RowKitTokens
import Derived.LaidLaws
import Derived.HandedShaped
import Derived.SevenTiedAt
import Derived.Carry
import Derived.ChangeOld
set_option linter.unusedVariables false
set_option linter.unusedSimpArgs false
namespace Go.Am
open Go Go.ChangeShapes Go.WideShapes Go.RowKit
variable {H : Type} {enc : TypeId × Value -> H}
theorem keptBut_of_blocks {W W' : World} {may : MemPlace -> Prop} (hos : W'.os = W.os) (hout : W'.output = W.output) (hb : ∀ b, b < W.heap.size -> W'.heap[b]? = W.heap[b]?) : W.keptBut W' may := by
 refine ⟨hos, hout, fun i hi => ?_⟩
 rw [hb i hi]
 exact (World.keptBut_refl W may).2.2 i hi
theorem ShapedOpen.size {P : Program} {W : World} (h : W.ShapedOpen P) {g : Nat} {zero : Array Value} {t : TypeId} (hg : g < P.globals.size)
  (h0 : (((begin P (fun _ _ => 0) default).world).heap[g]?).bind Obj.row? = some (zero, t)) : g + 1 <= W.heap.size := by
 obtain ⟨cs, e, _⟩ := h.1 g zero t hg h0
 rcases Nat.lt_or_ge g W.heap.size with hx | hx
 ·exact hx
 ·rw [Array.getElem?_eq_none hx] at e; cases e
theorem returnsInHanded_of_change_both {a : Assume} {C : Checked} {os : Os} {f : FuncId} {fn : Func} {s : ChangeSpec} {conds : List PathCond} {apart fresh handsOn again : Bool} {X : World -> Array Value -> Prop}
  (hX : ∀ (w w' : World) (args : Array Value), w.heap = w'.heap -> X w args -> X w' args)
  (own : ownKnob C.prog.godebug = none) (started : os.Started) (noInit : C.prog.inits.idxOf? f = none) (hfn : C.prog.funcs[f]? = some fn)
  (witness : ∃ (w : World) (tape : Tape) (i : Input), w.os = os /\ (w.forCall tape i).Shaped C.prog /\ i.vars = [] /\ Input.okWide C.prog (w.forCall tape i) .any w.heap.size f i ∧
   ((s.pre enc C.prog fn conds apart (w.forCall tape i).memory i.args /\ X (w.forCall tape i).memory i.args) /\ sizedMet enc C.prog fn (OpenSpec.ofChange s) apart (w.forCall tape i).memory i.args) /\ a.holds C.prog (lone (Frame.enter C.prog f i.args .normal) [] (w.forCall tape i)))
  (contract : ∀ (W : World) (base : Nat) (args : Array Value) (ds gs : List (DataW H)) (before : List MemPlace),
   (∀ (j : Nat) t v, fn.params[j]? = some t -> args[j]? = some v -> Value.okWide C.prog W .any base t v) →
   DataW.Whole enc C.prog fn.params.toList s.vars apart W args.toList ds gs before →
   conds.all (PathCond.test C.prog ⟨fn.params.toList, ds, s.plain.varTypes C.prog, gs⟩) = true →
   (DataW.weightsEach C.prog (fn.params.toList ++ s.plain.varTypes C.prog) (ds ++ gs)).all (· <= reachBytes) = true -> X W args →
   W.ShapedOpen C.prog →
   Calls C.prog f args W fun e W' => ∃ v, e = .returned v /\ s.post enc C.prog fn apart fresh handsOn again W args v W') :
  ReturnsInHanded a C os f .any (fun w args => (s.pre enc C.prog fn conds apart w args /\ X w args) /\ sizedMet enc C.prog fn (OpenSpec.ofChange s) apart w args) (s.post enc C.prog fn apart fresh handsOn again) := by
 refine returnsInHanded_of_calls own started noInit witness ?_
 intro w tape i _ hsh _ hok hpre hholds
 obtain ⟨_, _, _, fn', hfn', _, _, _, _, hval⟩ := hok
 have e : fn' = fn := Option.some.inj (hfn'.symm.trans hfn)
 subst e
 obtain ⟨⟨⟨ds, gs, before, hw, hc⟩, hx⟩, hz⟩ := hpre
 have hw' := DataW.Whole.of_heap (w' := w.forCall tape i) (by rfl) hw
 refine (contract (w.forCall tape i) w.heap.size i.args ds gs before hval hw' hc (hz.weights hw) (hX _ _ _ (by rfl) hx) hsh).mono fun e W' ⟨v, he, hp⟩ => ?_
 subst he
 exact ChangeSpec.post_blind hp
end Go.Am
namespace Go.Am
open Go Go.ChangeShapes Go.WideShapes Go.RowKit
variable {H : Type} {enc : TypeId × Value -> H}
theorem trodAll_kept {P : Program} {W W' : World} (hl : laidOutB P = true) (hb : Below W.heap.size W W') : ∀ {ts : List TypeId} {vs : List Value} {ds : List (DataW H)} {ps : List MemPlace},
  (∀ t ∈ ts, P.readableRec t = true /\ t < P.types.size) -> DataW.TrodAll enc P W 0 (fun _ => true) true ts vs ds ps -> (∀ x ∈ ps, x.block < W.heap.size) →
  DataW.TrodAll enc P W' 0 (fun b => decide (b < W.heap.size)) true ts vs ds ps
 | [], vs, ds, ps, _, h, _ => by
  obtain ⟨rfl, rfl, rfl⟩ := trodAll_nil h
  exact trodAll_mk0
 | t :: ts, vs, ds, ps, hr, h, hlt => by
  obtain ⟨v, vs', d, ds', p, q, rfl, rfl, rfl, hd, hs⟩ := trodAll_cons h
  obtain ⟨hr1, hr2⟩ := hr t List.mem_cons_self
  exact ⟨p, q, Below.trod hl hr1 hr2 hd hb (fun x hx => hlt x (List.mem_append_left _ hx)),
   trodAll_kept hl hb (fun t ht => hr t (List.mem_cons_of_mem _ ht)) hs (fun x hx => hlt x (List.mem_append_right _ hx)), rfl⟩
theorem trodAll_len {P : Program} {w : World} {base : Nat} {spare : Nat -> Bool} {held : Bool} : ∀ {ts : List TypeId} {vs : List Value} {ds : List (DataW H)} {ps : List MemPlace}, DataW.TrodAll enc P w base spare held ts vs ds ps -> ds.length = ts.length
 | [], vs, ds, ps, h => by
  obtain ⟨_, rfl, _⟩ := trodAll_nil h
  rfl
 | t :: ts, vs, ds, ps, h => by
  obtain ⟨v, vs', d, ds', p, q, rfl, rfl, rfl, _, h2⟩ := trodAll_cons h
  rw [List.length_cons, List.length_cons, trodAll_len h2]
theorem post_args {P : Program} {f : Func} {s : ChangeSpec} {apart fresh handsOn again : Bool} {W W' : World} {args : Array Value} {ds gs : List (DataW H)} {before : List MemPlace} {t : TypeId}
  (hl : laidOutB P = true) (hp : f.params.toList.all (fun t => P.readableRec t && decide (t < P.types.size)) = true)
  (hr : f.resultTypes = #[t]) (ht : P.underlying t = some .bool) (hv : s.vars = []) (hs : s.fn H ds = { results := [.lit (.bool true)], args := ds })
  (hag : again = false)
  (hW : DataW.Whole enc P f.params.toList s.vars apart W args.toList ds gs before)
  (hos : W'.os = W.os) (htp : W'.tape = W.tape) (hout : W'.output = W.output) (hsz : W.heap.size <= W'.heap.size) (hb : ∀ b, b < W.heap.size -> W'.heap[b]? = W.heap[b]?) :
  s.post enc P f apart fresh handsOn again W args (.bool true) W' := by
 have hW0 := hW
 obtain ⟨p, q, hA0, hV0, rfl, hfz, hnd⟩ := hW0
 rw [hv] at hV0
 obtain ⟨rfl, rfl⟩ : gs = [] /\ q = [] := by
  cases gs with
  | nil => exact ⟨rfl, hV0⟩
  | cons g r => exact absurd hV0 (by intro h; cases h)
 have e1 : s.fn H (ds ++ []) = { results := [.lit (.bool true)], args := ds } := by rw [List.append_nil]; exact hs
 refine ⟨ds, [], _, [], p, [], hW, ?_, ?_, ?_, keptBut_of_blocks hos hout hb, fun h => by rw [hag] at h; cases h⟩
 ·rw [e1, hr]; exact trodAll_mk1 (shut_bool ht true)
 ·rw [e1]
  refine trodAll_kept hl ⟨hos, htp, hout, hsz, hb⟩ (fun t ht => ?_) hA0 (fun x hx => ?_)
  ·have := List.all_eq_true.1 hp t ht
   simp only [Bool.and_eq_true, decide_eq_true_eq] at this
   exact this
  ·exact hW.lt x (List.mem_append_left _ hx)
 ·rw [e1, hv]; rfl
end Go.Am
namespace Go.Pm
open Go Go.RowKit Go.Am Go.ChangeShapes
def shapeFs (P : Program) (sh : TypeId -> Option (List Sh)) : List Field -> Nat -> Option (List Sh)
 | [], _ => some []
 | f :: fs, n => match sh f.type with
  | some l => if f.offset = n /\ P.cellsOf f.type = l.length then
    match shapeFs P sh fs (n + l.length) with
    | some l' => some (l ++ l')
    | none => none
   else none
  | none => none
def shapeOf (P : Program) : Nat -> TypeId -> Option (List Sh)
 | 0, _ => none
 | k + 1, t => match P.underlying t with
  | some .bool => some [.bool]
  | some (.int k) => some [.int k]
  | some .string => some [.str]
  | some (.slice e) => match shapeOf P k e with
   | some l => if P.cellsOf e = l.length /\ l.length ≠ 0 /\ l.length < 4096 then some [.sl l] else none
   | none => none
  | some (.struct fs) => match shapeFs P (shapeOf P k) fs.toList 0 with
   | some l => if P.cellsOf t = l.length then some l else none
   | none => none
  | _ => none
theorem shapeFs_ok {P : Program} {sh : TypeId -> Option (List Sh)} (h : ∀ t l, sh t = some l -> Typ P t l) : ∀ {fs : List Field} {n : Nat} {l : List Sh}, shapeFs P sh fs n = some l -> TypFs P fs n l
 | [], n, l, e => by cases e; exact .nil
 | f :: fs, n, l, e => by
  unfold shapeFs at e
  split at e
  ·rename_i l1 h1
   split at e
   ·rename_i hc
    split at e
    ·rename_i l2 h2
     cases e
     exact .cons hc.1 (h _ _ h1) hc.2 (shapeFs_ok h h2)
    ·cases e
   ·cases e
  ·cases e
theorem shapeOf_ok {P : Program} : ∀ (k : Nat) (t : TypeId) (l : List Sh), shapeOf P k t = some l -> Typ P t l
 | 0, t, l, e => by cases e
 | k + 1, t, l, e => by
  unfold shapeOf at e
  split at e
  ·rename_i hu; cases e; exact .bool hu
  ·rename_i hu; cases e; exact .int hu
  ·rename_i hu; cases e; exact .str hu
  ·rename_i hu
   split at e
   ·rename_i l1 h1
    split at e
    ·rename_i hc
     cases e
     exact .sl hu (shapeOf_ok k _ _ h1) hc.1 hc.2.1 hc.2.2
    ·cases e
   ·cases e
  ·rename_i hu
   split at e
   ·rename_i l1 h1
    split at e
    ·rename_i hc
     cases e
     exact .struct hu (shapeFs_ok (shapeOf_ok k) h1) hc
    ·cases e
   ·cases e
  ·cases e
inductive ArgSh where
 | one (s : Sh)
 | agg (l : List Sh)
inductive ShA : ArgSh -> DV -> Prop where
 | one {s : Sh} {d : DV} (h : ShP s d) : ShA (.one s) d
 | agg {l : List Sh} {ds : List DV} (h : ShPs l ds) : ShA (.agg l) (.agg ds)
inductive ShAs : List ArgSh -> List DV -> Prop where
 | nil : ShAs [] []
 | cons {s : ArgSh} {d : DV} {l : List ArgSh} {l' : List DV} (h : ShA s d) (hs : ShAs l l') : ShAs (s :: l) (d :: l')
def pvA : ArgSh -> DV -> PV
 | .one s, d => pvD s d
 | .agg l, .agg ds => .agg (pvs l ds)
 | .agg _, _ => .junk
def pvAs : List ArgSh -> List DV -> List PV
 | s :: l, d :: l' => pvA s d :: pvAs l l'
 | _, _ => []
def argSh (P : Program) (t : TypeId) : Option ArgSh := match P.underlying t with
 | some (.struct _) => match shapeOf P 20 t with
  | some l => some (.agg l)
  | none => none
 | u => match oneT u, shapeOf P 20 t with
  | true, some [s] => some (.one s)
  | _, _ => none
def argShs (P : Program) : List TypeId -> Option (List ArgSh)
 | [] => some []
 | t :: ts => match argSh P t, argShs P ts with
  | some s, some l => some (s :: l)
  | _, _ => none
theorem lay_pra {cx : Cx} (ng : Nat) {s : ArgSh} {d : DV} (h : ShA s d) (R : List (List Value × Nat)) (hH : Holds cx ng (lay ng d R).2) : PR cx (pvA s d) (lay ng d R).1 := by
 cases h with
 | one h => exact lay_pr ng h R hH
 | agg h => exact pvD_agg h hH
theorem lay_pras {cx : Cx} (ng : Nat) : ∀ {l : List ArgSh} {ds : List DV}, ShAs l ds -> ∀ R, Holds cx ng (lays ng ds R).2 -> PRs cx (pvAs l ds) (lays ng ds R).1
 | _, _, .nil, R, _ => by simp only [lays, pvAs]; exact .nil
 | _, _, .cons (d := d) (l' := ds) h hs, R, hH => by
  simp only [lays] at hH ⊢
  obtain ⟨Y, hY⟩ := lays_grow ng ds (lay ng d R).2
  refine .cons (lay_pra ng h R ?_) (lay_pras ng hs _ hH)
  rw [hY] at hH
  exact hH.left
section
variable {H : Type} {enc : TypeId × Value -> H} {P : Program} {W : World}
theorem open_arg {b0 : Nat} {t : TypeId} {s : ArgSh} {v : Value} {d : DataW H} {p : List MemPlace} (hs : argSh P t = some s) (hv : Value.okWide P W .any b0 t v) (h : DataW.Trod enc P W 0 (fun _ => true) true t v d p) : ∃ d, DW W d v /\ ShA s d := by
 unfold argSh at hs
 split at hs
 ·rename_i fs hu
  split at hs
  ·rename_i l hl
   cases hs
   obtain ⟨ds, k1, k2⟩ := open_agg (shapeOf_ok _ _ _ hl) hu hv h
   exact ⟨_, k1, .agg k2⟩
  ·cases hs
 ·split at hs
  ·rename_i ho hl
   cases hs
   obtain ⟨d, k1, k2⟩ := open_one (shapeOf_ok _ _ _ hl) ho hv h
   exact ⟨_, k1, .one k2⟩
  ·cases hs
theorem open_args {b0 : Nat} : ∀ {ts : List TypeId} {ss : List ArgSh} {vs : List Value} {ds : List (DataW H)} {ps : List MemPlace}, argShs P ts = some ss →
  (∀ (j : Nat) t v, ts[j]? = some t -> vs[j]? = some v -> Value.okWide P W .any b0 t v) -> DataW.TrodAll enc P W 0 (fun _ => true) true ts vs ds ps -> ∃ dvs, DWs W dvs vs /\ ShAs ss dvs
 | [], ss, vs, ds, ps, hs, _, h => by
  cases hs
  obtain ⟨rfl, _, _⟩ := trodAll_nil h
  exact ⟨[], .nil, .nil⟩
 | t :: ts, ss, vs, ds, ps, hs, hv, h => by
  obtain ⟨v, vs', d, ds', p, q, rfl, rfl, rfl, h1, h2⟩ := trodAll_cons h
  unfold argShs at hs
  split at hs
  ·rename_i s l e1 e2
   cases hs
   obtain ⟨x, k1, k2⟩ := open_arg e1 (hv 0 t v rfl rfl) h1
   obtain ⟨xs, g1, g2⟩ := open_args e2 (fun j t v a b => hv (j + 1) t v a b) h2
   exact ⟨x :: xs, .cons k1 g1, .cons k2 g2⟩
  ·cases hs
end
theorem law_args {H : Type} {enc : TypeId × Value -> H} {E : Env} {P : Program} {f : Nat} {x : Fun} {W : World} {ts : List TypeId} {ss : List ArgSh} {args : Array Value} {ds : List (DataW H)} {ps : List MemPlace} {b0 : Nat} (hE : EnvOk E P) (hf : E.fn f = some x) (hW : E.ng <= W.heap.size)
  (hs : argShs P ts = some ss) (hv : ∀ (j : Nat) t v, ts[j]? = some t -> args.toList[j]? = some v -> Value.okWide P W .any b0 t v) (hA : DataW.TrodAll enc P W 0 (fun _ => true) true ts args.toList ds ps)
  (h : ∀ dvs, ShAs ss dvs -> PTp E P f (pvAs ss dvs) (.v (.bool true))) :
  Calls P f args W fun e W' => e = .returned (.bool true) /\ (∀ b, b < W.heap.size -> W'.heap[b]? = W.heap[b]?) /\ W.heap.size <= W'.heap.size /\ W'.os = W.os /\ W'.tape = W.tape /\ W'.output = W.output := by
 obtain ⟨dvs, k1, k2⟩ := open_args hs hv hA
 have := law_calls (v := true) hE hf hW k1 (fun cx hH => lay_pras E.ng k2 [] hH) (PT.conseq (h dvs k2 _) fun x M1 ⟨e1, e2⟩ => ⟨x, M1, PLe.refl _, .refl _, e1⟩)
 simpa using this
end Go.Pm