/- ShelfJoins holds. Part 31 of 32; no condition. -/
import Derived.Test.YtlbjplpehkgcdaaGreatDoorM30
import Derived.ChangeSame
import Derived.ChangeVars
import Derived.JoinedOf
import Derived.RowKit
import Derived.RowKitTokens
import Derived.LaidLaws
import Derived.HandedShaped
import Derived.SevenTiedAt
import Derived.Carry
import Derived.ChangeOld
set_option linter.unusedVariables false
set_option linter.unusedSimpArgs false
set_option maxHeartbeats 4000000
set_option maxRecDepth 100000
open Nat renaming reduceLT → Z1, reduceEqDiff → Z2, reduceAdd → Z3, reduceLeDiff → Z4, reduceMul → Z5
namespace Go.Am
open Go Go.ChangeShapes Go.WideShapes Go.RowKit
variable {H : Type} {enc : TypeId × Value -> H}
theorem keptBut_of_blocks {W W' : World} {may : MemPlace -> Prop} (hos : W'.os = W.os) (hout : W'.output = W.output) (hb : ∀ b, b < W.heap.size -> W'.heap[b]? = W.heap[b]?) : W.keptBut W' may := by
 refine ⟨hos, hout, fun i hi => ?_⟩
 rw [hb i hi]
 exact (World.keptBut_refl W may).2.2 i hi
theorem ShapedOpen.size {P : Program} {W : World} (h : W.ShapedOpen P) {g : Nat} {zero : Array Value} {t : TypeId} (hg : g < P.globals.size)
  (h0 : (((begin P (fun _ _ => 0) default).world).heap[g]?).bind Obj.row? = some (zero, t)) : g + 1 <= W.heap.size := by
 obtain ⟨cs, e, _⟩ := h.1 g zero t hg h0
 rcases Nat.lt_or_ge g W.heap.size with hx | hx
 ·exact hx
 ·rw [Array.getElem?_eq_none hx] at e; cases e
theorem returnsInHanded_of_change_both {a : Assume} {C : Checked} {os : Os} {f : FuncId} {fn : Func} {s : ChangeSpec} {conds : List PathCond} {apart fresh handsOn again : Bool} {X : World -> Array Value -> Prop}
  (hX : ∀ (w w' : World) (args : Array Value), w.heap = w'.heap -> X w args -> X w' args)
  (own : ownKnob C.prog.godebug = none) (started : os.Started) (noInit : C.prog.inits.idxOf? f = none) (hfn : C.prog.funcs[f]? = some fn)
  (witness : ∃ (w : World) (tape : Tape) (i : Input), w.os = os /\ (w.forCall tape i).Shaped C.prog /\ i.vars = [] /\ Input.okWide C.prog (w.forCall tape i) .any w.heap.size f i ∧
   ((s.pre enc C.prog fn conds apart (w.forCall tape i).memory i.args /\ X (w.forCall tape i).memory i.args) /\ sizedMet enc C.prog fn (OpenSpec.ofChange s) apart (w.forCall tape i).memory i.args) /\ a.holds C.prog (lone (Frame.enter C.prog f i.args .normal) [] (w.forCall tape i)))
  (contract : ∀ (W : World) (base : Nat) (args : Array Value) (ds gs : List (DataW H)) (before : List MemPlace),
   (∀ (j : Nat) t v, fn.params[j]? = some t -> args[j]? = some v -> Value.okWide C.prog W .any base t v) →
   DataW.Whole enc C.prog fn.params.toList s.vars apart W args.toList ds gs before →
   conds.all (PathCond.test C.prog ⟨fn.params.toList, ds, s.plain.varTypes C.prog, gs⟩) = true →
   (DataW.weightsEach C.prog (fn.params.toList ++ s.plain.varTypes C.prog) (ds ++ gs)).all (· <= reachBytes) = true -> X W args →
   W.ShapedOpen C.prog →
   Calls C.prog f args W fun e W' => ∃ v, e = .returned v /\ s.post enc C.prog fn apart fresh handsOn again W args v W') :
  ReturnsInHanded a C os f .any (fun w args => (s.pre enc C.prog fn conds apart w args /\ X w args) /\ sizedMet enc C.prog fn (OpenSpec.ofChange s) apart w args) (s.post enc C.prog fn apart fresh handsOn again) := by
 refine returnsInHanded_of_calls own started noInit witness ?_
 intro w tape i _ hsh _ hok hpre hholds
 obtain ⟨_, _, _, fn', hfn', _, _, _, _, hval⟩ := hok
 have e : fn' = fn := Option.some.inj (hfn'.symm.trans hfn)
 subst e
 obtain ⟨⟨⟨ds, gs, before, hw, hc⟩, hx⟩, hz⟩ := hpre
 have hw' := DataW.Whole.of_heap (w' := w.forCall tape i) (by rfl) hw
 refine (contract (w.forCall tape i) w.heap.size i.args ds gs before hval hw' hc (hz.weights hw) (hX _ _ _ (by rfl) hx) hsh).mono fun e W' ⟨v, he, hp⟩ => ?_
 subst he
 exact ChangeSpec.post_blind hp
end Go.Am
namespace Go.Am
open Go Go.ChangeShapes Go.WideShapes Go.RowKit
variable {H : Type} {enc : TypeId × Value -> H}
theorem trodAll_kept {P : Program} {W W' : World} (hl : laidOutB P = true) (hb : Below W.heap.size W W') : ∀ {ts : List TypeId} {vs : List Value} {ds : List (DataW H)} {ps : List MemPlace},
  (∀ t ∈ ts, P.readableRec t = true /\ t < P.types.size) -> DataW.TrodAll enc P W 0 (fun _ => true) true ts vs ds ps -> (∀ x ∈ ps, x.block < W.heap.size) →
  DataW.TrodAll enc P W' 0 (fun b => decide (b < W.heap.size)) true ts vs ds ps
 | [], vs, ds, ps, _, h, _ => by
  obtain ⟨rfl, rfl, rfl⟩ := trodAll_nil h
  exact trodAll_mk0
 | t :: ts, vs, ds, ps, hr, h, hlt => by
  obtain ⟨v, vs', d, ds', p, q, rfl, rfl, rfl, hd, hs⟩ := trodAll_cons h
  obtain ⟨hr1, hr2⟩ := hr t List.mem_cons_self
  exact ⟨p, q, Below.trod hl hr1 hr2 hd hb (fun x hx => hlt x (List.mem_append_left _ hx)),
   trodAll_kept hl hb (fun t ht => hr t (List.mem_cons_of_mem _ ht)) hs (fun x hx => hlt x (List.mem_append_right _ hx)), rfl⟩
theorem trodAll_len {P : Program} {w : World} {base : Nat} {spare : Nat -> Bool} {held : Bool} : ∀ {ts : List TypeId} {vs : List Value} {ds : List (DataW H)} {ps : List MemPlace}, DataW.TrodAll enc P w base spare held ts vs ds ps -> ds.length = ts.length
 | [], vs, ds, ps, h => by
  obtain ⟨_, rfl, _⟩ := trodAll_nil h
  rfl
 | t :: ts, vs, ds, ps, h => by
  obtain ⟨v, vs', d, ds', p, q, rfl, rfl, rfl, _, h2⟩ := trodAll_cons h
  rw [List.length_cons, List.length_cons, trodAll_len h2]
theorem post_args {P : Program} {f : Func} {s : ChangeSpec} {apart fresh handsOn again : Bool} {W W' : World} {args : Array Value} {ds gs : List (DataW H)} {before : List MemPlace} {t : TypeId}
  (hl : laidOutB P = true) (hp : f.params.toList.all (fun t => P.readableRec t && decide (t < P.types.size)) = true)
  (hr : f.resultTypes = #[t]) (ht : P.underlying t = some .bool) (hv : s.vars = []) (hs : s.fn H ds = { results := [.lit (.bool true)], args := ds })
  (hag : again = false)
  (hW : DataW.Whole enc P f.params.toList s.vars apart W args.toList ds gs before)
  (hos : W'.os = W.os) (htp : W'.tape = W.tape) (hout : W'.output = W.output) (hsz : W.heap.size <= W'.heap.size) (hb : ∀ b, b < W.heap.size -> W'.heap[b]? = W.heap[b]?) :
  s.post enc P f apart fresh handsOn again W args (.bool true) W' := by
 have hW0 := hW
 obtain ⟨p, q, hA0, hV0, rfl, hfz, hnd⟩ := hW0
 rw [hv] at hV0
 obtain ⟨rfl, rfl⟩ : gs = [] /\ q = [] := by
  cases gs with
  | nil => exact ⟨rfl, hV0⟩
  | cons g r => exact absurd hV0 (by intro h; cases h)
 have e1 : s.fn H (ds ++ []) = { results := [.lit (.bool true)], args := ds } := by rw [List.append_nil]; exact hs
 refine ⟨ds, [], _, [], p, [], hW, ?_, ?_, ?_, keptBut_of_blocks hos hout hb, fun h => by rw [hag] at h; cases h⟩
 ·rw [e1, hr]; exact trodAll_mk1 (shut_bool ht true)
 ·rw [e1]
  refine trodAll_kept hl ⟨hos, htp, hout, hsz, hb⟩ (fun t ht => ?_) hA0 (fun x hx => ?_)
  ·have := List.all_eq_true.1 hp t ht
   simp only [Bool.and_eq_true, decide_eq_true_eq] at this
   exact this
  ·exact hW.lt x (List.mem_append_left _ hx)
 ·rw [e1, hv]; rfl
end Go.Am
namespace Go.Pm
open Go Go.RowKit Go.Am Go.ChangeShapes
def shapeFs (P : Program) (sh : TypeId -> Option (List Sh)) : List Field -> Nat -> Option (List Sh)
 | [], _ => some []
 | f :: fs, n => match sh f.type with
  | some l => if f.offset = n /\ P.cellsOf f.type = l.length then
    match shapeFs P sh fs (n + l.length) with
    | some l' => some (l ++ l')
    | none => none
   else none
  | none => none
def shapeOf (P : Program) : Nat -> TypeId -> Option (List Sh)
 | 0, _ => none
 | k + 1, t => match P.underlying t with
  | some .bool => some [.bool]
  | some (.int k) => some [.int k]
  | some .string => some [.str]
  | some (.slice e) => match shapeOf P k e with
   | some l => if P.cellsOf e = l.length /\ l.length ≠ 0 /\ l.length < 4096 then some [.sl l] else none
   | none => none
  | some (.struct fs) => match shapeFs P (shapeOf P k) fs.toList 0 with
   | some l => if P.cellsOf t = l.length then some l else none
   | none => none
  | _ => none
theorem shapeFs_ok {P : Program} {sh : TypeId -> Option (List Sh)} (h : ∀ t l, sh t = some l -> Typ P t l) : ∀ {fs : List Field} {n : Nat} {l : List Sh}, shapeFs P sh fs n = some l -> TypFs P fs n l
 | [], n, l, e => by cases e; exact .nil
 | f :: fs, n, l, e => by
  unfold shapeFs at e
  split at e
  ·rename_i l1 h1
   split at e
   ·rename_i hc
    split at e
    ·rename_i l2 h2
     cases e
     exact .cons hc.1 (h _ _ h1) hc.2 (shapeFs_ok h h2)
    ·cases e
   ·cases e
  ·cases e
theorem shapeOf_ok {P : Program} : ∀ (k : Nat) (t : TypeId) (l : List Sh), shapeOf P k t = some l -> Typ P t l
 | 0, t, l, e => by cases e
 | k + 1, t, l, e => by
  unfold shapeOf at e
  split at e
  ·rename_i hu; cases e; exact .bool hu
  ·rename_i hu; cases e; exact .int hu
  ·rename_i hu; cases e; exact .str hu
  ·rename_i hu
   split at e
   ·rename_i l1 h1
    split at e
    ·rename_i hc
     cases e
     exact .sl hu (shapeOf_ok k _ _ h1) hc.1 hc.2.1 hc.2.2
    ·cases e
   ·cases e
  ·rename_i hu
   split at e
   ·rename_i l1 h1
    split at e
    ·rename_i hc
     cases e
     exact .struct hu (shapeFs_ok (shapeOf_ok k) h1) hc
    ·cases e
   ·cases e
  ·cases e
inductive ArgSh where
 | one (s : Sh)
 | agg (l : List Sh)
inductive ShA : ArgSh -> DV -> Prop where
 | one {s : Sh} {d : DV} (h : ShP s d) : ShA (.one s) d
 | agg {l : List Sh} {ds : List DV} (h : ShPs l ds) : ShA (.agg l) (.agg ds)
inductive ShAs : List ArgSh -> List DV -> Prop where
 | nil : ShAs [] []
 | cons {s : ArgSh} {d : DV} {l : List ArgSh} {l' : List DV} (h : ShA s d) (hs : ShAs l l') : ShAs (s :: l) (d :: l')
def pvA : ArgSh -> DV -> PV
 | .one s, d => pvD s d
 | .agg l, .agg ds => .agg (pvs l ds)
 | .agg _, _ => .junk
def pvAs : List ArgSh -> List DV -> List PV
 | s :: l, d :: l' => pvA s d :: pvAs l l'
 | _, _ => []
def argSh (P : Program) (t : TypeId) : Option ArgSh := match P.underlying t with
 | some (.struct _) => match shapeOf P 20 t with
  | some l => some (.agg l)
  | none => none
 | u => match oneT u, shapeOf P 20 t with
  | true, some [s] => some (.one s)
  | _, _ => none
def argShs (P : Program) : List TypeId -> Option (List ArgSh)
 | [] => some []
 | t :: ts => match argSh P t, argShs P ts with
  | some s, some l => some (s :: l)
  | _, _ => none
theorem lay_pra {cx : Cx} (ng : Nat) {s : ArgSh} {d : DV} (h : ShA s d) (R : List (List Value × Nat)) (hH : Holds cx ng (lay ng d R).2) : PR cx (pvA s d) (lay ng d R).1 := by
 cases h with
 | one h => exact lay_pr ng h R hH
 | agg h => exact pvD_agg h hH
theorem lay_pras {cx : Cx} (ng : Nat) : ∀ {l : List ArgSh} {ds : List DV}, ShAs l ds -> ∀ R, Holds cx ng (lays ng ds R).2 -> PRs cx (pvAs l ds) (lays ng ds R).1
 | _, _, .nil, R, _ => by simp only [lays, pvAs]; exact .nil
 | _, _, .cons (d := d) (l' := ds) h hs, R, hH => by
  simp only [lays] at hH ⊢
  obtain ⟨Y, hY⟩ := lays_grow ng ds (lay ng d R).2
  refine .cons (lay_pra ng h R ?_) (lay_pras ng hs _ hH)
  rw [hY] at hH
  exact hH.left
section
variable {H : Type} {enc : TypeId × Value -> H} {P : Program} {W : World}
theorem open_arg {b0 : Nat} {t : TypeId} {s : ArgSh} {v : Value} {d : DataW H} {p : List MemPlace} (hs : argSh P t = some s) (hv : Value.okWide P W .any b0 t v) (h : DataW.Trod enc P W 0 (fun _ => true) true t v d p) : ∃ d, DW W d v /\ ShA s d := by
 unfold argSh at hs
 split at hs
 ·rename_i fs hu
  split at hs
  ·rename_i l hl
   cases hs
   obtain ⟨ds, k1, k2⟩ := open_agg (shapeOf_ok _ _ _ hl) hu hv h
   exact ⟨_, k1, .agg k2⟩
  ·cases hs
 ·split at hs
  ·rename_i ho hl
   cases hs
   obtain ⟨d, k1, k2⟩ := open_one (shapeOf_ok _ _ _ hl) ho hv h
   exact ⟨_, k1, .one k2⟩
  ·cases hs
theorem open_args {b0 : Nat} : ∀ {ts : List TypeId} {ss : List ArgSh} {vs : List Value} {ds : List (DataW H)} {ps : List MemPlace}, argShs P ts = some ss →
  (∀ (j : Nat) t v, ts[j]? = some t -> vs[j]? = some v -> Value.okWide P W .any b0 t v) -> DataW.TrodAll enc P W 0 (fun _ => true) true ts vs ds ps -> ∃ dvs, DWs W dvs vs /\ ShAs ss dvs
 | [], ss, vs, ds, ps, hs, _, h => by
  cases hs
  obtain ⟨rfl, _, _⟩ := trodAll_nil h
  exact ⟨[], .nil, .nil⟩
 | t :: ts, ss, vs, ds, ps, hs, hv, h => by
  obtain ⟨v, vs', d, ds', p, q, rfl, rfl, rfl, h1, h2⟩ := trodAll_cons h
  unfold argShs at hs
  split at hs
  ·rename_i s l e1 e2
   cases hs
   obtain ⟨x, k1, k2⟩ := open_arg e1 (hv 0 t v rfl rfl) h1
   obtain ⟨xs, g1, g2⟩ := open_args e2 (fun j t v a b => hv (j + 1) t v a b) h2
   exact ⟨x :: xs, .cons k1 g1, .cons k2 g2⟩
  ·cases hs
end
theorem law_args {H : Type} {enc : TypeId × Value -> H} {E : Env} {P : Program} {f : Nat} {x : Fun} {W : World} {ts : List TypeId} {ss : List ArgSh} {args : Array Value} {ds : List (DataW H)} {ps : List MemPlace} {b0 : Nat} (hE : EnvOk E P) (hf : E.fn f = some x) (hW : E.ng <= W.heap.size)
  (hs : argShs P ts = some ss) (hv : ∀ (j : Nat) t v, ts[j]? = some t -> args.toList[j]? = some v -> Value.okWide P W .any b0 t v) (hA : DataW.TrodAll enc P W 0 (fun _ => true) true ts args.toList ds ps)
  (h : ∀ dvs, ShAs ss dvs -> PTp E P f (pvAs ss dvs) (.v (.bool true))) :
  Calls P f args W fun e W' => e = .returned (.bool true) /\ (∀ b, b < W.heap.size -> W'.heap[b]? = W.heap[b]?) /\ W.heap.size <= W'.heap.size /\ W'.os = W.os /\ W'.tape = W.tape /\ W'.output = W.output := by
 obtain ⟨dvs, k1, k2⟩ := open_args hs hv hA
 have := law_calls (v := true) hE hf hW k1 (fun cx hH => lay_pras E.ng k2 [] hH) (PT.conseq (h dvs k2 _) fun x M1 ⟨e1, e2⟩ => ⟨x, M1, PLe.refl _, .refl _, e1⟩)
 simpa using this
end Go.Pm
namespace Go.Proofs.YtlbjplpehkgcdaaGreatDoor
open Go Go.Am Go.Pm
theorem clo_of {l : List Ev} (hc : ClosedL l) : Clo (· ∈ l) where
 ok := fun x hx => by
  obtain ⟨i, hi⟩ := List.mem_iff_getElem?.1 hx
  exact (hc i x hi).1
 dot := fun x y hx hy h => by
  obtain ⟨i, hi⟩ := List.mem_iff_getElem?.1 hx
  obtain ⟨j, hj⟩ := List.mem_iff_getElem?.1 hy
  have hb := (hc i x hi).2 j y hj
  unfold badPair at hb
  unfold sameD at h
  rw [h, Bool.true_or, Bool.and_true] at hb
  have : j = i := by
   have : ((j : Int) == (i : Int)) = true := by
    cases h2 : ((j : Int) == (i : Int)) with
    | true => rfl
    | false => rw [bne, h2] at hb; cases hb
   have := eq_of_beq this
   omega
  subst this
  rw [hi] at hj; cases hj; rfl
 irr := fun x _ => not_self
 tr := fun x y z hx hy hz h1 h2 => by
  obtain ⟨i, hi⟩ := List.mem_iff_getElem?.1 hx
  obtain ⟨j, hj⟩ := List.mem_iff_getElem?.1 hy
  obtain ⟨m, hm⟩ := List.mem_iff_getElem?.1 hz
  exact closed_trans hc hi hj hm h1 h2
theorem mx_shelf {U X : Ev -> Prop} {S : List Ev} (hU : Clo U) (hX : ∀ x, X x -> U x) (hp : ∀ x y, X x -> X y -> x.path = y.path) (h : Mx X S) : ShelfL S := by
 refine ⟨fun j x hj hx => ⟨hU.ok x (hX x (h.sub x (List.mem_of_getElem? hx))), fun y hy => hp x y (h.sub x (List.mem_of_getElem? hx)) (h.sub y (List.mem_of_getElem? hy)), fun i y hij hy => ?_⟩, fun j x hj hx y hy => h.top x (List.mem_of_getElem? hx) y (h.sub y hy)⟩
 exact h.sort i j y x (by omega) hy hx
theorem mx_puts {U : Ev -> Prop} {l : List Ev} (hU : Clo U) (hl : ∀ x ∈ l, U x) : Mx (· ∈ l) (l.foldl putF []) :=
 (Mx.puts hU (l := l) (X := fun _ => False) (fun x hx => hx.elim) hl Mx.nil).congr fun x => by simp
theorem puts_of {U : Ev -> Prop} {l : List Ev} (hU : Clo U) (hl : ∀ x ∈ l, U x) (hs : ∀ x ∈ l, Sm x) (hp : ∀ x ∈ l, ∀ y ∈ l, x.path = y.path) : Puts l where
 sh := fun i hi => by
  have hsub : ∀ x ∈ l.take i, x ∈ l := fun x hx => List.mem_of_mem_take hx
  exact mx_shelf hU (X := (· ∈ l.take i)) (fun x hx => hl x (hsub x hx)) (fun x y hx hy => hp x (hsub x hx) y (hsub y hy)) (mx_puts hU fun x hx => hl x (hsub x hx))
 one := fun x hx => by
  refine ⟨fun j y hj hy => ?_, fun j y hj hy z hz => ?_⟩
  ·have h0 : j = 0 := by simpa using hj
   subst h0
   simp at hy; subst hy
   exact ⟨hU.ok x (hl x hx), fun h hh => by simp at hh; rw [hh], fun i y h => by omega⟩
  ·have h0 : j = 0 := by simpa using hj
   subst h0
   simp at hy; subst hy
   simp at hz; subst hz
   exact hU.irr _ (hl _ hx)
 sm := hs
 path := hp
theorem mem_at {l : List Ev} {x : Ev} (h : x ∈ atF l) : x ∈ l := by
 cases l with
 | nil => exact h
 | cons y r => exact (List.mem_filter.1 h).1
theorem at_path {l : List Ev} {x y : Ev} (h : x ∈ atF l) (k : y ∈ atF l) : x.path = y.path := by
 cases l with
 | nil => simp [atF] at h
 | cons z r =>
  have h1 := (List.mem_filter.1 h).2
  have h2 := (List.mem_filter.1 k).2
  rw [eq_of_beq h1, eq_of_beq h2]
theorem at_len (l : List Ev) : (atF l).length <= l.length := by
 cases l with
 | nil => exact Nat.le_refl _
 | cons z r => exact List.length_filter_le _ _
theorem joins_let (l : List Ev) (one other : List Bool) (h : longEvs 12 l = true \/ (longEvs 12 l = false /\ ¬ ClosedL l)) : PTp env Tryz.prog 4 [encEvs l, encBools one, encBools other] (bv true) := fun M => by
 refine PT.enterR env_ok fn4 (by simp) comp4 fun k hk hf => RX.of env_ok ?_
 simp only [G0, Z1, Z2, Z3, Z4, Z5, argsP]
 refine cp0 awake7 (by decide) ?_
 simp only [G0, Z1, Z2, Z3, Z4, Z5]
 refine cp0 (long_events l 12 (by decide)) (by decide) ?_
 rcases h with h | ⟨h, hc⟩
 ·rw [h]
  simp only [G0, Z1, Z2, Z3, Z4, Z5, cnd_t, cnd_f, Bool.not_true, Bool.not_false, Bool.true_or]
  exact end1 hf rfl ⟨rfl, rfl⟩
 ·rw [h]
  obtain ⟨h1, h2⟩ := not_long h
  simp only [G0, Z1, Z2, Z3, Z4, Z5, cnd_t, cnd_f, Bool.not_true, Bool.not_false, Bool.false_or]
  refine cp0 (closed_at l (by omega) fun e he => by have := h2 e he; omega) (by decide) ?_
  rw [closedB_f hc]
  simp only [G0, Z1, Z2, Z3, Z4, Z5, cnd_t, cnd_f, Bool.not_true, Bool.not_false, Bool.false_or]
  exact end1 hf rfl ⟨rfl, rfl⟩
theorem joins_do (l : List Ev) (one other : List Bool) (h : longEvs 12 l = false) (hc : ClosedL l) : PTp env Tryz.prog 4 [encEvs l, encBools one, encBools other] (bv true) := fun M => by
 obtain ⟨h1, h2⟩ := not_long h
 have hU := clo_of hc
 have hL := at_len l
 generalize hl0 : atF l = L at hL
 have hLm : ∀ x ∈ L, x ∈ l := fun x hx => mem_at (by rw [hl0]; exact hx)
 have hLp : ∀ x ∈ L, ∀ y ∈ L, x.path = y.path := fun x hx y hy => at_path (l := l) (by rw [hl0]; exact hx) (by rw [hl0]; exact hy)
 have hsm : ∀ x ∈ l, Sm x := fun x hx => by
  obtain ⟨q1, q2, q3⟩ := h2 x hx
  exact ⟨by omega, by omega, by omega⟩
 generalize hA : sel (fl one) 0 L = A
 generalize hB : sel (fl other) 0 L = B
 generalize hC : sel (fun i => fl one i || fl other i) 0 L = C
 have hin : ∀ f : Nat -> Bool, (∀ x ∈ sel f 0 L, x ∈ L) /\ (sel f 0 L).length <= 12 := fun f => ⟨fun x hx => by
  obtain ⟨i, hi, _⟩ := (mem_sel f x L 0).1 hx
  exact List.mem_of_getElem? hi, by have := sel_len f L 0; omega⟩
 obtain ⟨hAm, hAl⟩ := hin (fl one)
 obtain ⟨hBm, hBl⟩ := hin (fl other)
 obtain ⟨hCm, hCl⟩ := hin (fun i => fl one i || fl other i)
 have hmem : ∀ x, (x ∈ A \/ x ∈ B) ↔ x ∈ C := fun x => by
  rw [<- hA, <- hB, <- hC, mem_sel, mem_sel, mem_sel]
  constructor
  ·rintro (⟨i, q1, q2⟩ | ⟨i, q1, q2⟩)
   ·exact ⟨i, q1, by simp only [q2, Bool.true_or]⟩
   ·exact ⟨i, q1, by simp only [q2, Bool.or_true]⟩
  ·rintro ⟨i, q1, q2⟩
   rw [Bool.or_eq_true] at q2
   exact q2.imp (fun q => ⟨i, q1, q⟩) (fun q => ⟨i, q1, q⟩)
 rw [hA] at hAm hAl
 rw [hB] at hBm hBl
 rw [hC] at hCm hCl
 have hPA : Puts A := puts_of hU (fun x hx => hLm x (hAm x hx)) (fun x hx => hsm x (hLm x (hAm x hx))) fun x hx y hy => hLp x (hAm x hx) y (hAm y hy)
 have hPB : Puts B := puts_of hU (fun x hx => hLm x (hBm x hx)) (fun x hx => hsm x (hLm x (hBm x hx))) fun x hx y hy => hLp x (hBm x hx) y (hBm y hy)
 have hPC : Puts C := puts_of hU (fun x hx => hLm x (hCm x hx)) (fun x hx => hsm x (hLm x (hCm x hx))) fun x hx y hy => hLp x (hCm x hx) y (hCm y hy)
 have mA := mx_puts hU fun x hx => hLm x (hAm x hx)
 have mB := mx_puts hU fun x hx => hLm x (hBm x hx)
 have mC := mx_puts hU fun x hx => hLm x (hCm x hx)
 have sA := hPA.sh A.length (Nat.le_refl _)
 have sB := hPB.sh B.length (Nat.le_refl _)
 have sC := hPC.sh C.length (Nat.le_refl _)
 rw [List.take_length] at sA sB sC
 have lA := fold_len [] A
 have lB := fold_len [] B
 have lC := fold_len [] C
 have eAB : (B.foldl putF []).foldl putF (A.foldl putF []) = C.foldl putF [] :=
  Mx.uniq (Mx.join hU (fun x hx => hLm x (hAm x hx)) (fun x hx => hLm x (hBm x hx)) mA mB) mC hmem
 have eBA : (A.foldl putF []).foldl putF (B.foldl putF []) = C.foldl putF [] :=
  Mx.uniq (Mx.join hU (fun x hx => hLm x (hBm x hx)) (fun x hx => hLm x (hAm x hx)) mB mA) mC fun x => by rw [or_comm]; exact hmem x
 have eCC : (C.foldl putF []).foldl putF (C.foldl putF []) = C.foldl putF [] :=
  Mx.uniq (Mx.join hU (fun x hx => hLm x (hCm x hx)) (fun x hx => hLm x (hCm x hx)) mC mC) mC fun x => or_self_iff
 generalize hSA : A.foldl putF [] = SA at *
 generalize hSB : B.foldl putF [] = SB at *
 generalize hSC : C.foldl putF [] = SC at *
 have join : ∀ {S T : List Ev} {X Y : Ev -> Prop}, S.length <= 20 -> T.length <= 20 -> ShelfL S -> ShelfL T -> Mx X S -> Mx Y T -> (∀ x, X x -> x ∈ L) -> (∀ x, Y x -> x ∈ L) -> T.foldl putF S = SC -> PTp env Tryz.prog 12 [encEvs S, encEvs T] (.tup [encEvs SC, iv 0]) := fun {S T X Y} q1 q2 q3 q4 q5 q6 q7 q8 q9 => by
  rw [<- q9]
  exact join12 (by omega) q3 q4 (fun x hx => hsm x (hLm x (q7 x (q5.sub x hx)))) (fun x hx => hsm x (hLm x (q8 x (q6.sub x hx)))) (fun x hx h hh => hLp x (q8 x (q6.sub x hx)) h (q7 h (q5.sub h (List.mem_of_getElem? hh)))) q5.sort
 have same := same14 SC (by simp only [List.length_nil] at lC; omega) fun x hx => by
  have := (hsm x (hLm x (hCm x (mC.sub x hx)))).past
  omega
 refine PT.enterR env_ok fn4 (by simp) comp4 fun k hk hf => RX.of env_ok ?_
 simp only [G0, Z1, Z2, Z3, Z4, Z5, argsP]
 refine cp0 awake7 (by decide) ?_
 simp only [G0, Z1, Z2, Z3, Z4, Z5]
 refine cp0 (long_events l 12 (by decide)) (by decide) ?_
 rw [h]
 simp only [G0, Z1, Z2, Z3, Z4, Z5, cnd_t, cnd_f, Bool.not_true, Bool.not_false, Bool.false_or]
 refine cp0 (closed_at l (by omega) fun e he => by have := h2 e he; omega) (by decide) ?_
 rw [closedB_t hc]
 simp only [G0, Z1, Z2, Z3, Z4, Z5, cnd_t, cnd_f, Bool.not_true, Bool.not_false, Bool.false_or]
 refine cp0 (at20 l (by omega)) (by decide) ?_
 rw [hl0]
 simp only [G0, Z1, Z2, Z3, Z4, Z5]
 refine RX.loop (loop4 L (by omega) one other M k _ (fun tm os v1 v2 v3 hK hO => ?_) L.length 0 [] (.lst .full 0 0 []) (.lst .full 0 0 []) (.lst .full 0 0 []) _ rfl (Nat.zero_le _) (by exact ⟨rfl, rfl, rfl, rfl, rfl, rfl, rfl, rfl⟩) ⟨none, none, none, .nil 0, .nil 0, .nil 0, nofun, nofun, nofun⟩)
 obtain ⟨t0, t1, t2, t7, t8, t9, t10, t11⟩ := hK
 rw [hA, hB, hC] at hO
 obtain ⟨j1, j2, j3, o1, o2, o3, -, -, -⟩ := hO.ex
 have cA : PTp env Tryz.prog 21 [v1] (.tup [encEvs SA, bv true]) := fun M => by have := all21 A (by omega) hPA M; rw [hSA] at this; exact this.args (.cons o1.le .nil)
 have cB : PTp env Tryz.prog 21 [v2] (.tup [encEvs SB, bv true]) := fun M => by have := all21 B (by omega) hPB M; rw [hSB] at this; exact this.args (.cons o2.le .nil)
 have cC : PTp env Tryz.prog 21 [v3] (.tup [encEvs SC, bv true]) := fun M => by have := all21 C (by omega) hPC M; rw [hSC] at this; exact this.args (.cons o3.le .nil)
 simp only [List.length_nil] at lA lB lC
 simp only [G0, Z1, Z2, Z3, Z4, Z5, t7, t8]
 refine cp0 cA (by decide) ?_
 simp only [G0, Z1, Z2, Z3, Z4, Z5, t9]
 refine cp0 cB (by decide) ?_
 simp only [G0, Z1, Z2, Z3, Z4, Z5, t10]
 refine cp0 cC (by decide) ?_
 simp only [G0, Z1, Z2, Z3, Z4, Z5]
 refine cp0 (join (X := (· ∈ A)) (Y := (· ∈ B)) (by omega) (by omega) sA sB mA mB hAm hBm eAB) (by decide) ?_
 simp only [G0, Z1, Z2, Z3, Z4, Z5]
 refine cp0 (join (X := (· ∈ B)) (Y := (· ∈ A)) (by omega) (by omega) sB sA mB mA hBm hAm eBA) (by decide) ?_
 simp only [G0, Z1, Z2, Z3, Z4, Z5]
 refine cp0 (join (X := (· ∈ C)) (Y := (· ∈ C)) (by omega) (by omega) sC sC mC mC hCm hCm eCC) (by decide) ?_
 simp only [G0, Z1, Z2, Z3, Z4, Z5, t7, bne_self_eq_false, cnd_t, cnd_f, Bool.not_true, Bool.not_false, Bool.or_false, Bool.or_self]
 refine cp0 same (by decide) ?_
 simp only [G0, Z1, Z2, Z3, Z4, Z5, cnd_t, cnd_f, Bool.not_true, Bool.not_false]
 refine cp0 same (by decide) ?_
 simp only [G0, Z1, Z2, Z3, Z4, Z5, cnd_t, cnd_f, Bool.not_true, Bool.not_false]
 refine cp0 same (by decide) ?_
 simp only [G0, Z1, Z2, Z3, Z4, Z5, cnd_t, cnd_f, Bool.not_true, Bool.not_false]
 exact end1 hf rfl ⟨rfl, rfl⟩
theorem evs_dec {d : DV} (h : ShP (.sl shEv) d) : ∃ xs : List Ev, pvD (.sl shEv) d = encEvs xs := by
 obtain ⟨xs, h1, h2, _⟩ := sl_dec (l := shEv) (enc := evCells) (B := evB) (by decide) (fun ds h => ev_dec h) h
 exact ⟨xs, h1⟩
theorem bool_dec {ds : List DV} (h : ShPs [.bool] ds) : ∃ b : Bool, pvs [.bool] ds = [bv b] /\ True := by
 cases h with | cons h1 h =>
 cases h
 cases h1 with
 | bool b => exact ⟨b, rfl, trivial⟩
theorem bools_dec {d : DV} (h : ShP (.sl [.bool]) d) : ∃ bs : List Bool, pvD (.sl [.bool]) d = encBools bs := by
 obtain ⟨xs, h1, h2, h3⟩ := sl_dec (l := [.bool]) (enc := fun b => [bv b]) (B := fun _ => True) (by decide) (fun ds h => bool_dec h) h
 refine ⟨xs, ?_⟩
 rw [h1]
 unfold encBools
 congr 1
 clear h1 h2 h3
 induction xs with
 | nil => rfl
 | cons x xs ih => simp only [List.flatMap_cons, List.map_cons, ih]; rfl
theorem joins4 (l : List Ev) (one other : List Bool) : PTp env Tryz.prog 4 [encEvs l, encBools one, encBools other] (bv true) := by
 cases h : longEvs 12 l with
 | true => exact joins_let l one other (.inl h)
 | false =>
  by_cases hc : ClosedL l
  ·exact joins_do l one other h hc
  ·exact joins_let l one other (.inr ⟨h, hc⟩)
theorem joins_pt (ds : List DV) (h : ShAs [.one (.sl shEv), .one (.sl [.bool]), .one (.sl [.bool])] ds) : PTp env Tryz.prog 4 (pvAs [.one (.sl shEv), .one (.sl [.bool]), .one (.sl [.bool])] ds) (bv true) := by
 cases h with | cons h1 h =>
 cases h with | cons h2 h =>
 cases h with | cons h3 h =>
 cases h
 cases h1 with | one h1 =>
 cases h2 with | one h2 =>
 cases h3 with | one h3 =>
 obtain ⟨xs, hxs⟩ := evs_dec h1
 obtain ⟨a, ha⟩ := bools_dec h2
 obtain ⟨b, hb⟩ := bools_dec h3
 simp only [pvAs, pvA, ha, hb, hxs]
 exact joins4 xs a b
end Go.Proofs.YtlbjplpehkgcdaaGreatDoor