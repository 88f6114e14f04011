/- TableWalks holds. Part 27 of 29; no condition. -/
import Derived.Test.YtnmidpahhhdlpaaGreatDoorM26
import Derived.ChangeSame
import Derived.ChangeVars
import Derived.JoinedOf
import Derived.RowKit
import Derived.RowKitTokens
import Derived.LaidLaws
import Derived.HandedShaped
import Derived.SevenTiedAt
import Derived.Carry
import Derived.ChangeOld
set_option linter.unusedVariables false
set_option linter.unusedSimpArgs false
namespace Go.Am
open Go Go.ChangeShapes Go.WideShapes Go.RowKit
variable {H : Type} {enc : TypeId × Value -> H}
theorem gO {W W' : World} {may : MemPlace -> Prop} (hos : W'.os = W.os) (hout : W'.output = W.output) (hb : ∀ b, b < W.heap.size -> W'.heap[b]? = W.heap[b]?) : W.keptBut W' may := by
 refine ⟨hos, hout, fun i hi => ?_⟩
 rw [hb i hi]
 exact (World.keptBut_refl W may).2.2 i hi
theorem ShapedOpen.size {P : Program} {W : World} (h : W.ShapedOpen P) {g : Nat} {zero : Array Value} {t : TypeId} (hg : g < P.globals.size)
  (h0 : (((begin P (fun _ _ => 0) default).world).heap[g]?).bind Obj.row? = some (zero, t)) : g + 1 <= W.heap.size := by
 obtain ⟨cs, e, _⟩ := h.1 g zero t hg h0
 rcases Nat.lt_or_ge g W.heap.size with hx | hx
 ·exact hx
 ·rw [Array.getElem?_eq_none hx] at e; cases e
theorem N8 {a : Assume} {C : Checked} {os : Os} {f : FuncId} {fn : Func} {s : ChangeSpec} {conds : List PathCond} {apart fresh handsOn again : Bool} {X : World -> Array Value -> Prop}
  (hX : ∀ (w w' : World) (args : Array Value), w.heap = w'.heap -> X w args -> X w' args)
  (own : ownKnob C.prog.godebug = none) (started : os.Started) (noInit : C.prog.inits.idxOf? f = none) (hfn : C.prog.funcs[f]? = some fn)
  (witness : ∃ (w : World) (tape : Tape) (i : Input), w.os = os /\ (w.forCall tape i).Shaped C.prog /\ i.vars = [] /\ Input.okWide C.prog (w.forCall tape i) .any w.heap.size f i ∧
   ((s.pre enc C.prog fn conds apart (w.forCall tape i).memory i.args /\ X (w.forCall tape i).memory i.args) /\ sizedMet enc C.prog fn (OpenSpec.ofChange s) apart (w.forCall tape i).memory i.args) /\ a.holds C.prog (lone (Frame.enter C.prog f i.args .normal) [] (w.forCall tape i)))
  (contract : ∀ (W : World) (base : Nat) (args : Array Value) (ds gs : List (DataW H)) (before : List MemPlace),
   (∀ (j : Nat) t v, fn.params[j]? = some t -> args[j]? = some v -> Value.okWide C.prog W .any base t v) →
   DataW.Whole enc C.prog fn.params.toList s.vars apart W args.toList ds gs before →
   conds.all (PathCond.test C.prog ⟨fn.params.toList, ds, s.plain.varTypes C.prog, gs⟩) = true →
   (DataW.weightsEach C.prog (fn.params.toList ++ s.plain.varTypes C.prog) (ds ++ gs)).all (· <= reachBytes) = true -> X W args →
   W.ShapedOpen C.prog →
   Calls C.prog f args W fun e W' => ∃ v, e = .returned v /\ s.post enc C.prog fn apart fresh handsOn again W args v W') :
  ReturnsInHanded a C os f .any (fun w args => (s.pre enc C.prog fn conds apart w args /\ X w args) /\ sizedMet enc C.prog fn (OpenSpec.ofChange s) apart w args) (s.post enc C.prog fn apart fresh handsOn again) := by
 refine returnsInHanded_of_calls own started noInit witness ?_
 intro w tape i _ hsh _ hok hpre hholds
 obtain ⟨_, _, _, fn', hfn', _, _, _, _, hval⟩ := hok
 have e : fn' = fn := Option.some.inj (hfn'.symm.trans hfn)
 subst e
 obtain ⟨⟨⟨ds, gs, before, hw, hc⟩, hx⟩, hz⟩ := hpre
 have hw' := DataW.Whole.of_heap (w' := w.forCall tape i) (by rfl) hw
 refine (contract (w.forCall tape i) w.heap.size i.args ds gs before hval hw' hc (hz.weights hw) (hX _ _ _ (by rfl) hx) hsh).mono fun e W' ⟨v, he, hp⟩ => ?_
 subst he
 exact ChangeSpec.post_blind hp
end Go.Am
namespace Go.Am
open Go Go.ChangeShapes Go.WideShapes Go.RowKit
variable {H : Type} {enc : TypeId × Value -> H}
theorem iI {P : Program} {W W' : World} (hl : laidOutB P = true) (hb : Below W.heap.size W W') : ∀ {ts : List TypeId} {vs : List Value} {ds : List (DataW H)} {ps : List MemPlace},
  (∀ t ∈ ts, P.readableRec t = true /\ t < P.types.size) -> DataW.TrodAll enc P W 0 (fun _ => true) true ts vs ds ps -> (∀ x ∈ ps, x.block < W.heap.size) →
  DataW.TrodAll enc P W' 0 (fun b => decide (b < W.heap.size)) true ts vs ds ps
 | [], vs, ds, ps, _, h, _ => by
  obtain ⟨rfl, rfl, rfl⟩ := trodAll_nil h
  exact trodAll_mk0
 | t :: ts, vs, ds, ps, hr, h, hlt => by
  obtain ⟨v, vs', d, ds', p, q, rfl, rfl, rfl, hd, hs⟩ := trodAll_cons h
  obtain ⟨hr1, hr2⟩ := hr t List.mem_cons_self
  exact ⟨p, q, Below.trod hl hr1 hr2 hd hb (fun x hx => hlt x (List.mem_append_left _ hx)),
   iI hl hb (fun t ht => hr t (List.mem_cons_of_mem _ ht)) hs (fun x hx => hlt x (List.mem_append_right _ hx)), rfl⟩
theorem kI {P : Program} {w : World} {base : Nat} {spare : Nat -> Bool} {held : Bool} : ∀ {ts : List TypeId} {vs : List Value} {ds : List (DataW H)} {ps : List MemPlace}, DataW.TrodAll enc P w base spare held ts vs ds ps -> ds.length = ts.length
 | [], vs, ds, ps, h => by
  obtain ⟨_, rfl, _⟩ := trodAll_nil h
  rfl
 | t :: ts, vs, ds, ps, h => by
  obtain ⟨v, vs', d, ds', p, q, rfl, rfl, rfl, _, h2⟩ := trodAll_cons h
  rw [List.length_cons, List.length_cons, kI h2]
theorem aE5 {P : Program} {f : Func} {s : ChangeSpec} {apart fresh handsOn again : Bool} {W W' : World} {args : Array Value} {ds gs : List (DataW H)} {before : List MemPlace} {t : TypeId}
  (hl : laidOutB P = true) (hp : f.params.toList.all (fun t => P.readableRec t && decide (t < P.types.size)) = true)
  (hr : f.resultTypes = #[t]) (ht : P.underlying t = some .bool) (hv : s.vars = []) (hs : s.fn H ds = { results := [.lit (.bool true)], args := ds })
  (hag : again = false)
  (hW : DataW.Whole enc P f.params.toList s.vars apart W args.toList ds gs before)
  (hos : W'.os = W.os) (htp : W'.tape = W.tape) (hout : W'.output = W.output) (hsz : W.heap.size <= W'.heap.size) (hb : ∀ b, b < W.heap.size -> W'.heap[b]? = W.heap[b]?) :
  s.post enc P f apart fresh handsOn again W args (.bool true) W' := by
 have hW0 := hW
 obtain ⟨p, q, hA0, hV0, rfl, hfz, hnd⟩ := hW0
 rw [hv] at hV0
 obtain ⟨rfl, rfl⟩ : gs = [] /\ q = [] := by
  cases gs with
  | nil => exact ⟨rfl, hV0⟩
  | cons g r => exact absurd hV0 (by intro h; cases h)
 have e1 : s.fn H (ds ++ []) = { results := [.lit (.bool true)], args := ds } := by rw [List.append_nil]; exact hs
 refine ⟨ds, [], _, [], p, [], hW, ?_, ?_, ?_, gO hos hout hb, fun h => by rw [hag] at h; cases h⟩
 ·rw [e1, hr]; exact trodAll_mk1 (shut_bool ht true)
 ·rw [e1]
  refine iI hl ⟨hos, htp, hout, hsz, hb⟩ (fun t ht => ?_) hA0 (fun x hx => ?_)
  ·have := List.all_eq_true.1 hp t ht
   simp only [Bool.and_eq_true, decide_eq_true_eq] at this
   exact this
  ·exact hW.lt x (List.mem_append_left _ hx)
 ·rw [e1, hv]; rfl
end Go.Am
namespace Go.Pm
open Go Go.RowKit Go.Am Go.ChangeShapes
def mF (P : Program) (sh : TypeId -> Option (List Sh)) : List Field -> Nat -> Option (List Sh)
 | [], _ => some []
 | f :: fs, n => match sh f.type with
  | some l => if f.offset = n /\ P.cellsOf f.type = l.length then
    match mF P sh fs (n + l.length) with
    | some l' => some (l ++ l')
    | none => none
   else none
  | none => none
def eG (P : Program) : Nat -> TypeId -> Option (List Sh)
 | 0, _ => none
 | k + 1, t => match P.underlying t with
  | some .bool => some [.bool]
  | some (.int k) => some [.int k]
  | some .string => some [.str]
  | some (.slice e) => match eG P k e with
   | some l => if P.cellsOf e = l.length /\ l.length ≠ 0 /\ l.length < 4096 then some [.sl l] else none
   | none => none
  | some (.struct fs) => match mF P (eG P k) fs.toList 0 with
   | some l => if P.cellsOf t = l.length then some l else none
   | none => none
  | _ => none
theorem oO {P : Program} {sh : TypeId -> Option (List Sh)} (h : ∀ t l, sh t = some l -> Typ P t l) : ∀ {fs : List Field} {n : Nat} {l : List Sh}, mF P sh fs n = some l -> tK P fs n l
 | [], n, l, e => by cases e; exact .nil
 | f :: fs, n, l, e => by
  unfold mF at e
  split at e
  ·rename_i l1 h1
   split at e
   ·rename_i hc
    split at e
    ·rename_i l2 h2
     cases e
     exact .cons hc.1 (h _ _ h1) hc.2 (oO h h2)
    ·cases e
   ·cases e
  ·cases e
theorem aC {P : Program} : ∀ (k : Nat) (t : TypeId) (l : List Sh), eG P k t = some l -> Typ P t l
 | 0, t, l, e => by cases e
 | k + 1, t, l, e => by
  unfold eG at e
  split at e
  ·rename_i hu; cases e; exact .bool hu
  ·rename_i hu; cases e; exact .int hu
  ·rename_i hu; cases e; exact .str hu
  ·rename_i hu
   split at e
   ·rename_i l1 h1
    split at e
    ·rename_i hc
     cases e
     exact .sl hu (aC k _ _ h1) hc.1 hc.2.1 hc.2.2
    ·cases e
   ·cases e
  ·rename_i hu
   split at e
   ·rename_i l1 h1
    split at e
    ·rename_i hc
     cases e
     exact .struct hu (oO (aC k) h1) hc
    ·cases e
   ·cases e
  ·cases e
inductive Y7 where
 | one (s : Sh)
 | agg (l : List Sh)
inductive ShA : Y7 -> DV -> Prop where
 | one {s : Sh} {d : DV} (h : zY s d) : ShA (.one s) d
 | agg {l : List Sh} {ds : List DV} (h : Q9 l ds) : ShA (.agg l) (.agg ds)
inductive aAI : List Y7 -> List DV -> Prop where
 | nil : aAI [] []
 | cons {s : Y7} {d : DV} {l : List Y7} {l' : List DV} (h : ShA s d) (hs : aAI l l') : aAI (s :: l) (d :: l')
def pvA : Y7 -> DV -> PV
 | .one s, d => qL s d
 | .agg l, .agg ds => .agg (pvs l ds)
 | .agg _, _ => .junk
def aFW : List Y7 -> List DV -> List PV
 | s :: l, d :: l' => pvA s d :: aFW l l'
 | _, _ => []
def aL0 (P : Program) (t : TypeId) : Option Y7 := match P.underlying t with
 | some (.struct _) => match eG P 20 t with
  | some l => some (.agg l)
  | none => none
 | u => match aVR u, eG P 20 t with
  | true, some [s] => some (.one s)
  | _, _ => none
def pD (P : Program) : List TypeId -> Option (List Y7)
 | [] => some []
 | t :: ts => match aL0 P t, pD P ts with
  | some s, some l => some (s :: l)
  | _, _ => none
theorem aNY {cx : Cx} (ng : Nat) {s : Y7} {d : DV} (h : ShA s d) (R : List (List Value × Nat)) (hH : cU cx ng (X3 ng d R).2) : PR cx (pvA s d) (X3 ng d R).1 := by
 cases h with
 | one h => exact aGZ ng h R hH
 | agg h => exact aNX h hH
theorem wK {cx : Cx} (ng : Nat) : ∀ {l : List Y7} {ds : List DV}, aAI l ds -> ∀ R, cU cx ng (u7 ng ds R).2 -> l9 cx (aFW l ds) (u7 ng ds R).1
 | _, _, .nil, R, _ => by simp only [u7, aFW]; exact .nil
 | _, _, .cons (d := d) (l' := ds) h hs, R, hH => by
  simp only [u7] at hH ⊢
  obtain ⟨Y, hY⟩ := S0 ng ds (X3 ng d R).2
  refine .cons (aNY ng h R ?_) (wK ng hs _ hH)
  rw [hY] at hH
  exact hH.left
section
variable {H : Type} {enc : TypeId × Value -> H} {P : Program} {W : World}
theorem aHH {b0 : Nat} {t : TypeId} {s : Y7} {v : Value} {d : DataW H} {p : List MemPlace} (hs : aL0 P t = some s) (hv : Value.okWide P W .any b0 t v) (h : DataW.Trod enc P W 0 (fun _ => true) true t v d p) : ∃ d, DW W d v /\ ShA s d := by
 unfold aL0 at hs
 split at hs
 ·rename_i fs hu
  split at hs
  ·rename_i l hl
   cases hs
   obtain ⟨ds, k1, k2⟩ := aH4 (aC _ _ _ hl) hu hv h
   exact ⟨_, k1, .agg k2⟩
  ·cases hs
 ·split at hs
  ·rename_i ho hl
   cases hs
   obtain ⟨d, k1, k2⟩ := aH2 (aC _ _ _ hl) ho hv h
   exact ⟨_, k1, .one k2⟩
  ·cases hs
theorem sJ {b0 : Nat} : ∀ {ts : List TypeId} {ss : List Y7} {vs : List Value} {ds : List (DataW H)} {ps : List MemPlace}, pD P ts = some ss →
  (∀ (j : Nat) t v, ts[j]? = some t -> vs[j]? = some v -> Value.okWide P W .any b0 t v) -> DataW.TrodAll enc P W 0 (fun _ => true) true ts vs ds ps -> ∃ dvs, mK W dvs vs /\ aAI ss dvs
 | [], ss, vs, ds, ps, hs, _, h => by
  cases hs
  obtain ⟨rfl, _, _⟩ := trodAll_nil h
  exact ⟨[], .nil, .nil⟩
 | t :: ts, ss, vs, ds, ps, hs, hv, h => by
  obtain ⟨v, vs', d, ds', p, q, rfl, rfl, rfl, h1, h2⟩ := trodAll_cons h
  unfold pD at hs
  split at hs
  ·rename_i s l e1 e2
   cases hs
   obtain ⟨x, k1, k2⟩ := aHH e1 (hv 0 t v rfl rfl) h1
   obtain ⟨xs, g1, g2⟩ := sJ e2 (fun j t v a b => hv (j + 1) t v a b) h2
   exact ⟨x :: xs, .cons k1 g1, .cons k2 g2⟩
  ·cases hs
end
theorem aJ4 {H : Type} {enc : TypeId × Value -> H} {E : d9} {P : Program} {f : Nat} {x : lO} {W : World} {ts : List TypeId} {ss : List Y7} {args : Array Value} {ds : List (DataW H)} {ps : List MemPlace} {b0 : Nat} (hE : c8 E P) (hf : E.fn f = some x) (hW : E.ng <= W.heap.size)
  (hs : pD P ts = some ss) (hv : ∀ (j : Nat) t v, ts[j]? = some t -> args.toList[j]? = some v -> Value.okWide P W .any b0 t v) (hA : DataW.TrodAll enc P W 0 (fun _ => true) true ts args.toList ds ps)
  (h : ∀ dvs, aAI ss dvs -> r8 E P f (aFW ss dvs) (.v (.bool true))) :
  Calls P f args W fun e W' => e = .returned (.bool true) /\ (∀ b, b < W.heap.size -> W'.heap[b]? = W.heap[b]?) /\ W.heap.size <= W'.heap.size /\ W'.os = W.os /\ W'.tape = W.tape /\ W'.output = W.output := by
 obtain ⟨dvs, k1, k2⟩ := sJ hs hv hA
 have := aGE (v := true) hE hf hW k1 (fun cx hH => wK E.ng k2 [] hH) (PT.conseq (h dvs k2 _) fun x M1 ⟨e1, e2⟩ => ⟨x, M1, Q2.refl _, .refl _, e1⟩)
 simpa using this
end Go.Pm