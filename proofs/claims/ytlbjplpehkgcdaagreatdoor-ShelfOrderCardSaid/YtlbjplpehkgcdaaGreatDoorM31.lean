/- ShelfOrder holds. Part 31 of 32; no condition. -/
import Derived.Test.YtlbjplpehkgcdaaGreatDoorM30
import Derived.ChangeSame
import Derived.ChangeVars
import Derived.JoinedOf
import Derived.RowKit
import Derived.RowKitTokens
import Derived.LaidLaws
import Derived.HandedShaped
import Derived.SevenTiedAt
import Derived.Carry
import Derived.ChangeOld
set_option linter.unusedVariables false
set_option linter.unusedSimpArgs false
set_option maxHeartbeats 4000000
set_option maxRecDepth 100000
open Nat renaming reduceLT → Z1, reduceEqDiff → Z2, reduceAdd → Z3, reduceLeDiff → Z4, reduceMul → Z5
namespace Go.Am
open Go Go.ChangeShapes Go.WideShapes Go.RowKit
variable {H : Type} {enc : TypeId × Value -> H}
theorem jJ {W W' : World} {may : MemPlace -> Prop} (hos : W'.os = W.os) (hout : W'.output = W.output) (hb : ∀ b, b < W.heap.size -> W'.heap[b]? = W.heap[b]?) : W.keptBut W' may := by
 refine ⟨hos, hout, fun i hi => ?_⟩
 rw [hb i hi]
 exact (World.keptBut_refl W may).2.2 i hi
theorem ShapedOpen.size {P : Program} {W : World} (h : W.ShapedOpen P) {g : Nat} {zero : Array Value} {t : TypeId} (hg : g < P.globals.size)
  (h0 : (((begin P (fun _ _ => 0) default).world).heap[g]?).bind Obj.row? = some (zero, t)) : g + 1 <= W.heap.size := by
 obtain ⟨cs, e, _⟩ := h.1 g zero t hg h0
 rcases Nat.lt_or_ge g W.heap.size with hx | hx
 ·exact hx
 ·rw [Array.getElem?_eq_none hx] at e; cases e
theorem R6 {a : Assume} {C : Checked} {os : Os} {f : FuncId} {fn : Func} {s : ChangeSpec} {conds : List PathCond} {apart fresh handsOn again : Bool} {X : World -> Array Value -> Prop}
  (hX : ∀ (w w' : World) (args : Array Value), w.heap = w'.heap -> X w args -> X w' args)
  (own : ownKnob C.prog.godebug = none) (started : os.Started) (noInit : C.prog.inits.idxOf? f = none) (hfn : C.prog.funcs[f]? = some fn)
  (witness : ∃ (w : World) (tape : Tape) (i : Input), w.os = os /\ (w.forCall tape i).Shaped C.prog /\ i.vars = [] /\ Input.okWide C.prog (w.forCall tape i) .any w.heap.size f i ∧
   ((s.pre enc C.prog fn conds apart (w.forCall tape i).memory i.args /\ X (w.forCall tape i).memory i.args) /\ sizedMet enc C.prog fn (OpenSpec.ofChange s) apart (w.forCall tape i).memory i.args) /\ a.holds C.prog (lone (Frame.enter C.prog f i.args .normal) [] (w.forCall tape i)))
  (contract : ∀ (W : World) (base : Nat) (args : Array Value) (ds gs : List (DataW H)) (B3 : List MemPlace),
   (∀ (j : Nat) t v, fn.params[j]? = some t -> args[j]? = some v -> Value.okWide C.prog W .any base t v) →
   DataW.Whole enc C.prog fn.params.toList s.vars apart W args.toList ds gs B3 →
   conds.all (PathCond.test C.prog ⟨fn.params.toList, ds, s.plain.varTypes C.prog, gs⟩) = true →
   (DataW.weightsEach C.prog (fn.params.toList ++ s.plain.varTypes C.prog) (ds ++ gs)).all (· <= reachBytes) = true -> X W args →
   W.ShapedOpen C.prog →
   Calls C.prog f args W fun e W' => ∃ v, e = .returned v /\ s.post enc C.prog fn apart fresh handsOn again W args v W') :
  ReturnsInHanded a C os f .any (fun w args => (s.pre enc C.prog fn conds apart w args /\ X w args) /\ sizedMet enc C.prog fn (OpenSpec.ofChange s) apart w args) (s.post enc C.prog fn apart fresh handsOn again) := by
 refine returnsInHanded_of_calls own started noInit witness ?_
 intro w tape i _ hsh _ hok hpre hholds
 obtain ⟨_, _, _, fn', hfn', _, _, _, _, hval⟩ := hok
 have e : fn' = fn := Option.some.inj (hfn'.symm.trans hfn)
 subst e
 obtain ⟨⟨⟨ds, gs, B3, hw, hc⟩, hx⟩, hz⟩ := hpre
 have hw' := DataW.Whole.of_heap (w' := w.forCall tape i) (by rfl) hw
 refine (contract (w.forCall tape i) w.heap.size i.args ds gs B3 hval hw' hc (hz.weights hw) (hX _ _ _ (by rfl) hx) hsh).mono fun e W' ⟨v, he, hp⟩ => ?_
 subst he
 exact ChangeSpec.post_blind hp
end Go.Am
namespace Go.Am
open Go Go.ChangeShapes Go.WideShapes Go.RowKit
variable {H : Type} {enc : TypeId × Value -> H}
theorem jI {P : Program} {W W' : World} (hl : laidOutB P = true) (hb : Below W.heap.size W W') : ∀ {ts : List TypeId} {vs : List Value} {ds : List (DataW H)} {ps : List MemPlace},
  (∀ t ∈ ts, P.readableRec t = true /\ t < P.types.size) -> DataW.TrodAll enc P W 0 (fun _ => true) true ts vs ds ps -> (∀ x ∈ ps, x.block < W.heap.size) →
  DataW.TrodAll enc P W' 0 (fun b => decide (b < W.heap.size)) true ts vs ds ps
 | [], vs, ds, ps, _, h, _ => by
  obtain ⟨rfl, rfl, rfl⟩ := trodAll_nil h
  exact trodAll_mk0
 | t :: ts, vs, ds, ps, hr, h, hlt => by
  obtain ⟨v, vs', d, ds', p, q, rfl, rfl, rfl, hd, hs⟩ := trodAll_cons h
  obtain ⟨hr1, hr2⟩ := hr t List.mem_cons_self
  exact ⟨p, q, Below.trod hl hr1 hr2 hd hb (fun x hx => hlt x (List.mem_append_left _ hx)),
   jI hl hb (fun t ht => hr t (List.mem_cons_of_mem _ ht)) hs (fun x hx => hlt x (List.mem_append_right _ hx)), rfl⟩
theorem nM {P : Program} {w : World} {base : Nat} {spare : Nat -> Bool} {held : Bool} : ∀ {ts : List TypeId} {vs : List Value} {ds : List (DataW H)} {ps : List MemPlace}, DataW.TrodAll enc P w base spare held ts vs ds ps -> ds.length = ts.length
 | [], vs, ds, ps, h => by
  obtain ⟨_, rfl, _⟩ := trodAll_nil h
  rfl
 | t :: ts, vs, ds, ps, h => by
  obtain ⟨v, vs', d, ds', p, q, rfl, rfl, rfl, _, h2⟩ := trodAll_cons h
  rw [List.length_cons, List.length_cons, nM h2]
theorem aIL {P : Program} {f : Func} {s : ChangeSpec} {apart fresh handsOn again : Bool} {W W' : World} {args : Array Value} {ds gs : List (DataW H)} {B3 : List MemPlace} {t : TypeId}
  (hl : laidOutB P = true) (hp : f.params.toList.all (fun t => P.readableRec t && decide (t < P.types.size)) = true)
  (hr : f.resultTypes = #[t]) (ht : P.underlying t = some .bool) (hv : s.vars = []) (hs : s.fn H ds = { results := [.lit (.bool true)], args := ds })
  (hag : again = false)
  (hW : DataW.Whole enc P f.params.toList s.vars apart W args.toList ds gs B3)
  (hos : W'.os = W.os) (htp : W'.tape = W.tape) (hout : W'.output = W.output) (hsz : W.heap.size <= W'.heap.size) (hb : ∀ b, b < W.heap.size -> W'.heap[b]? = W.heap[b]?) :
  s.post enc P f apart fresh handsOn again W args (.bool true) W' := by
 have hW0 := hW
 obtain ⟨p, q, hA0, hV0, rfl, hfz, hnd⟩ := hW0
 rw [hv] at hV0
 obtain ⟨rfl, rfl⟩ : gs = [] /\ q = [] := by
  cases gs with
  | nil => exact ⟨rfl, hV0⟩
  | cons g r => exact absurd hV0 (by intro h; cases h)
 have e1 : s.fn H (ds ++ []) = { results := [.lit (.bool true)], args := ds } := by rw [List.append_nil]; exact hs
 refine ⟨ds, [], _, [], p, [], hW, ?_, ?_, ?_, jJ hos hout hb, fun h => by rw [hag] at h; cases h⟩
 ·rw [e1, hr]; exact trodAll_mk1 (shut_bool ht true)
 ·rw [e1]
  refine jI hl ⟨hos, htp, hout, hsz, hb⟩ (fun t ht => ?_) hA0 (fun x hx => ?_)
  ·have := List.all_eq_true.1 hp t ht
   simp only [Bool.and_eq_true, decide_eq_true_eq] at this
   exact this
  ·exact hW.lt x (List.mem_append_left _ hx)
 ·rw [e1, hv]; rfl
end Go.Am
namespace Go.Pm
open Go Go.RowKit Go.Am Go.ChangeShapes
def oD (P : Program) (sh : TypeId -> Option (List Sh)) : List Field -> Nat -> Option (List Sh)
 | [], _ => some []
 | f :: fs, n => match sh f.type with
  | some l => if f.offset = n /\ P.cellsOf f.type = l.length then
    match oD P sh fs (n + l.length) with
    | some l' => some (l ++ l')
    | none => none
   else none
  | none => none
def fQ (P : Program) : Nat -> TypeId -> Option (List Sh)
 | 0, _ => none
 | k + 1, t => match P.underlying t with
  | some .bool => some [.bool]
  | some (.int k) => some [.int k]
  | some .string => some [.str]
  | some (.slice e) => match fQ P k e with
   | some l => if P.cellsOf e = l.length /\ l.length ≠ 0 /\ l.length < 4096 then some [.sl l] else none
   | none => none
  | some (.struct fs) => match oD P (fQ P k) fs.toList 0 with
   | some l => if P.cellsOf t = l.length then some l else none
   | none => none
  | _ => none
theorem pM {P : Program} {sh : TypeId -> Option (List Sh)} (h : ∀ t l, sh t = some l -> Typ P t l) : ∀ {fs : List Field} {n : Nat} {l : List Sh}, oD P sh fs n = some l -> vU P fs n l
 | [], n, l, e => by cases e; exact .nil
 | f :: fs, n, l, e => by
  unfold oD at e
  split at e
  ·rename_i l1 h1
   split at e
   ·rename_i hc
    split at e
    ·rename_i l2 h2
     cases e
     exact .cons hc.1 (h _ _ h1) hc.2 (pM h h2)
    ·cases e
   ·cases e
  ·cases e
theorem bR {P : Program} : ∀ (k : Nat) (t : TypeId) (l : List Sh), fQ P k t = some l -> Typ P t l
 | 0, t, l, e => by cases e
 | k + 1, t, l, e => by
  unfold fQ at e
  split at e
  ·rename_i hu; cases e; exact .bool hu
  ·rename_i hu; cases e; exact .int hu
  ·rename_i hu; cases e; exact .str hu
  ·rename_i hu
   split at e
   ·rename_i l1 h1
    split at e
    ·rename_i hc
     cases e
     exact .sl hu (bR k _ _ h1) hc.1 hc.2.1 hc.2.2
    ·cases e
   ·cases e
  ·rename_i hu
   split at e
   ·rename_i l1 h1
    split at e
    ·rename_i hc
     cases e
     exact .struct hu (pM (bR k) h1) hc
    ·cases e
   ·cases e
  ·cases e
inductive bK where
 | one (s : Sh)
 | agg (l : List Sh)
inductive ShA : bK -> DV -> Prop where
 | one {s : Sh} {d : DV} (h : vL s d) : ShA (.one s) d
 | agg {l : List Sh} {ds : List DV} (h : R3 l ds) : ShA (.agg l) (.agg ds)
inductive aDP : List bK -> List DV -> Prop where
 | nil : aDP [] []
 | cons {s : bK} {d : DV} {l : List bK} {l' : List DV} (h : ShA s d) (hs : aDP l l') : aDP (s :: l) (d :: l')
def pvA : bK -> DV -> PV
 | .one s, d => mW s d
 | .agg l, .agg ds => .agg (yM l ds)
 | .agg _, _ => .junk
def aIT : List bK -> List DV -> List PV
 | s :: l, d :: l' => pvA s d :: aIT l l'
 | _, _ => []
def aJ5 (P : Program) (t : TypeId) : Option bK := match P.underlying t with
 | some (.struct _) => match fQ P 20 t with
  | some l => some (.agg l)
  | none => none
 | u => match aXQ u, fQ P 20 t with
  | true, some [s] => some (.one s)
  | _, _ => none
def rH (P : Program) : List TypeId -> Option (List bK)
 | [] => some []
 | t :: ts => match aJ5 P t, rH P ts with
  | some s, some l => some (s :: l)
  | _, _ => none
theorem aQ3 {cx : Cx} (ng : Nat) {s : bK} {d : DV} (h : ShA s d) (R : List (List Value × Nat)) (hH : eA cx ng (aP ng d R).2) : PR cx (pvA s d) (aP ng d R).1 := by
 cases h with
 | one h => exact aKI ng h R hH
 | agg h => exact aRZ h hH
theorem zZ {cx : Cx} (ng : Nat) : ∀ {l : List bK} {ds : List DV}, aDP l ds -> ∀ R, eA cx ng (z8 ng ds R).2 -> p7 cx (aIT l ds) (z8 ng ds R).1
 | _, _, .nil, R, _ => by simp only [z8, aIT]; exact .nil
 | _, _, .cons (d := d) (l' := ds) h hs, R, hH => by
  simp only [z8] at hH ⊢
  obtain ⟨Y, hY⟩ := W3 ng ds (aP ng d R).2
  refine .cons (aQ3 ng h R ?_) (zZ ng hs _ hH)
  rw [hY] at hH
  exact hH.left
section
variable {H : Type} {enc : TypeId × Value -> H} {P : Program} {W : World}
theorem aNH {b0 : Nat} {t : TypeId} {s : bK} {v : Value} {d : DataW H} {p : List MemPlace} (hs : aJ5 P t = some s) (hv : Value.okWide P W .any b0 t v) (h : DataW.Trod enc P W 0 (fun _ => true) true t v d p) : ∃ d, DW W d v /\ ShA s d := by
 unfold aJ5 at hs
 split at hs
 ·rename_i fs hu
  split at hs
  ·rename_i l hl
   cases hs
   obtain ⟨ds, k1, k2⟩ := aOU (bR _ _ _ hl) hu hv h
   exact ⟨_, k1, .agg k2⟩
  ·cases hs
 ·split at hs
  ·rename_i ho hl
   cases hs
   obtain ⟨d, k1, k2⟩ := aJJ (bR _ _ _ hl) ho hv h
   exact ⟨_, k1, .one k2⟩
  ·cases hs
theorem tX {b0 : Nat} : ∀ {ts : List TypeId} {ss : List bK} {vs : List Value} {ds : List (DataW H)} {ps : List MemPlace}, rH P ts = some ss →
  (∀ (j : Nat) t v, ts[j]? = some t -> vs[j]? = some v -> Value.okWide P W .any b0 t v) -> DataW.TrodAll enc P W 0 (fun _ => true) true ts vs ds ps -> ∃ dvs, pP W dvs vs /\ aDP ss dvs
 | [], ss, vs, ds, ps, hs, _, h => by
  cases hs
  obtain ⟨rfl, _, _⟩ := trodAll_nil h
  exact ⟨[], .nil, .nil⟩
 | t :: ts, ss, vs, ds, ps, hs, hv, h => by
  obtain ⟨v, vs', d, ds', p, q, rfl, rfl, rfl, h1, h2⟩ := trodAll_cons h
  unfold rH at hs
  split at hs
  ·rename_i s l e1 e2
   cases hs
   obtain ⟨x, k1, k2⟩ := aNH e1 (hv 0 t v rfl rfl) h1
   obtain ⟨xs, g1, g2⟩ := tX e2 (fun j t v a b => hv (j + 1) t v a b) h2
   exact ⟨x :: xs, .cons k1 g1, .cons k2 g2⟩
  ·cases hs
end
theorem aJK {H : Type} {enc : TypeId × Value -> H} {E : i9} {P : Program} {f : Nat} {x : nA} {W : World} {ts : List TypeId} {ss : List bK} {args : Array Value} {ds : List (DataW H)} {ps : List MemPlace} {b0 : Nat} (hE : e7 E P) (hf : E.fn f = some x) (hW : E.ng <= W.heap.size)
  (hs : rH P ts = some ss) (hv : ∀ (j : Nat) t v, ts[j]? = some t -> args.toList[j]? = some v -> Value.okWide P W .any b0 t v) (hA : DataW.TrodAll enc P W 0 (fun _ => true) true ts args.toList ds ps)
  (h : ∀ dvs, aDP ss dvs -> A0 E P f (aIT ss dvs) (.v (.bool true))) :
  Calls P f args W fun e W' => e = .returned (.bool true) /\ (∀ b, b < W.heap.size -> W'.heap[b]? = W.heap[b]?) /\ W.heap.size <= W'.heap.size /\ W'.os = W.os /\ W'.tape = W.tape /\ W'.output = W.output := by
 obtain ⟨dvs, k1, k2⟩ := tX hs hv hA
 have := aHR (v := true) hE hf hW k1 (fun cx hH => zZ E.ng k2 [] hH) (PT.conseq (h dvs k2 _) fun x M1 ⟨e1, e2⟩ => ⟨x, M1, J6.refl _, .refl _, e1⟩)
 simpa using this
end Go.Pm
namespace Go.Proofs.YtlbjplpehkgcdaaGreatDoor
open Go Go.Am Go.Pm
theorem aW7 {l : List Ev} (hc : P7 l) : Clo (· ∈ l) where
 ok := fun x hx => by
  obtain ⟨i, hi⟩ := List.mem_iff_getElem?.1 hx
  exact (hc i x hi).1
 dot := fun x y hx hy h => by
  obtain ⟨i, hi⟩ := List.mem_iff_getElem?.1 hx
  obtain ⟨j, hj⟩ := List.mem_iff_getElem?.1 hy
  have hb := (hc i x hi).2 j y hj
  unfold J9 at hb
  unfold B7 at h
  rw [h, Bool.true_or, Bool.and_true] at hb
  have : j = i := by
   have : ((j : Int) == (i : Int)) = true := by
    cases h2 : ((j : Int) == (i : Int)) with
    | true => rfl
    | false => rw [bne, h2] at hb; cases hb
   have := eq_of_beq this
   omega
  subst this
  rw [hi] at hj; cases hj; rfl
 irr := fun x _ => aAF
 tr := fun x y z hx hy hz h1 h2 => by
  obtain ⟨i, hi⟩ := List.mem_iff_getElem?.1 hx
  obtain ⟨j, hj⟩ := List.mem_iff_getElem?.1 hy
  obtain ⟨m, hm⟩ := List.mem_iff_getElem?.1 hz
  exact wM hc hi hj hm h1 h2
theorem aMO {U X : Ev -> Prop} {S : List Ev} (hU : Clo U) (hX : ∀ x, X x -> U x) (hp : ∀ x y, X x -> X y -> x.path = y.path) (h : Mx X S) : aK S := by
 refine ⟨fun j x hj hx => ⟨hU.ok x (hX x (h.sub x (List.mem_of_getElem? hx))), fun y hy => hp x y (h.sub x (List.mem_of_getElem? hx)) (h.sub y (List.mem_of_getElem? hy)), fun i y hij hy => ?_⟩, fun j x hj hx y hy => h.top x (List.mem_of_getElem? hx) y (h.sub y hy)⟩
 exact h.sort i j y x (by omega) hy hx
theorem xZ {U : Ev -> Prop} {l : List Ev} (hU : Clo U) (hl : ∀ x ∈ l, U x) : Mx (· ∈ l) (l.foldl D0 []) :=
 (Mx.puts hU (l := l) (X := fun _ => False) (fun x hx => hx.elim) hl Mx.nil).congr fun x => by simp
theorem aG0 {U : Ev -> Prop} {l : List Ev} (hU : Clo U) (hl : ∀ x ∈ l, U x) (hs : ∀ x ∈ l, Sm x) (hp : ∀ x ∈ l, ∀ y ∈ l, x.path = y.path) : aNI l where
 sh := fun i hi => by
  have hsub : ∀ x ∈ l.take i, x ∈ l := fun x hx => List.mem_of_mem_take hx
  exact aMO hU (X := (· ∈ l.take i)) (fun x hx => hl x (hsub x hx)) (fun x y hx hy => hp x (hsub x hx) y (hsub y hy)) (xZ hU fun x hx => hl x (hsub x hx))
 one := fun x hx => by
  refine ⟨fun j y hj hy => ?_, fun j y hj hy z hz => ?_⟩
  ·have h0 : j = 0 := by simpa using hj
   subst h0
   simp at hy; subst hy
   exact ⟨hU.ok x (hl x hx), fun h hh => by simp at hh; rw [hh], fun i y h => by omega⟩
  ·have h0 : j = 0 := by simpa using hj
   subst h0
   simp at hy; subst hy
   simp at hz; subst hz
   exact hU.irr _ (hl _ hx)
 sm := hs
 path := hp
theorem aW4 {l : List Ev} {x : Ev} (h : x ∈ atF l) : x ∈ l := by
 cases l with
 | nil => exact h
 | cons y r => exact (List.mem_filter.1 h).1
theorem aR0 {l : List Ev} {x y : Ev} (h : x ∈ atF l) (k : y ∈ atF l) : x.path = y.path := by
 cases l with
 | nil => simp [atF] at h
 | cons z r =>
  have h1 := (List.mem_filter.1 h).2
  have h2 := (List.mem_filter.1 k).2
  rw [eq_of_beq h1, eq_of_beq h2]
theorem aUM (l : List Ev) : (atF l).length <= l.length := by
 cases l with
 | nil => exact Nat.le_refl _
 | cons z r => exact List.length_filter_le _ _
theorem aRJ {d : DV} (h : vL (.sl aDA) d) : ∃ xs : List Ev, mW (.sl aDA) d = d4 xs := by
 obtain ⟨xs, h1, h2, _⟩ := qF (l := aDA) (enc := b6) (B := evB) (by decide) (fun ds h => aVK h) h
 exact ⟨xs, h1⟩
theorem aAS {ds : List DV} (h : R3 [.bool] ds) : ∃ b : Bool, yM [.bool] ds = [bv b] /\ True := by
 cases h with | cons h1 h =>
 cases h
 cases h1 with
 | bool b => exact ⟨b, rfl, trivial⟩
theorem aHQ {d : DV} (h : vL (.sl [.bool]) d) : ∃ bs : List Bool, mW (.sl [.bool]) d = P1 bs := by
 obtain ⟨xs, h1, h2, h3⟩ := qF (l := [.bool]) (enc := fun b => [bv b]) (B := fun _ => True) (by decide) (fun ds h => aAS h) h
 refine ⟨xs, ?_⟩
 rw [h1]
 unfold P1
 congr 1
 clear h1 h2 h3
 induction xs with
 | nil => rfl
 | cons x xs ih => simp only [List.flatMap_cons, List.map_cons, ih]; rfl
end Go.Proofs.YtlbjplpehkgcdaaGreatDoor
namespace Go.Proofs.YtlbjplpehkgcdaaGreatDoor
open Go Go.Am Go.Pm
structure K6 (tm : List (Nat × PV)) (l A : List Ev) (i : Nat) : Prop where
 t0 : c8 tm 0 = d4 l
 t7 : c8 tm 7 = bv true
 t8 : c8 tm 8 = d4 A
 t15 : c8 tm 15 = iv i
def fol (l : List Ev) (x : Ev) : Bool := l.any fun y => n9 x y
theorem bB4 (l A : List Ev) (hl : l.length <= 1000000) (hp : ∀ x ∈ l, x.path.length <= 1000000) (i : Nat) (x : Ev) (hx : l[i]? = some x) (M : c7) (k : Nat) (Q : f7 -> d9 -> Prop)
  (q : ∀ tm, K6 tm l A i -> c8 tm 16 = bv (fol l x) -> Q (.exit 4) ⟨tm, 134, k, [], M⟩) :
  ∀ d m tm, l.length - m = d -> m <= l.length -> K6 tm l A i -> c8 tm 17 = iv m -> c8 tm 16 = bv (fol (l.take m) x) -> w7 env Tryz.prog none aSV ⟨tm, 134, k, [], M⟩ Q := by
 intro d
 induction d with
 | zero =>
  intro m tm hd hm hK t17 t16
  have : m = l.length := by omega
  subst this
  rw [List.take_length] at t16
  obtain ⟨t0, t7, t8, t15⟩ := hK
  have h0 : c8 tm 0 = .lst .no 7 l.length (l.flatMap b6) := t0
  refine w7.round (RX.of a6 ?_)
  simp only [G0, Z1, Z2, Z3, Z4, Z5, h0, t17, Int.lt_irrefl, decide_false]
  exact q _ ⟨t0, t7, t8, t15⟩ t16
 | succ d ih =>
  intro m tm hd hm hK t17 t16
  obtain ⟨t0, t7, t8, t15⟩ := hK
  have hi := iA hx
  have hm' : m < l.length := by omega
  have hmm : (m : Int) < l.length := by omega
  obtain ⟨y, hy, -⟩ := K2 hm'
  have hlx := x7 hx
  have hly := x7 hy
  have h0 : c8 tm 0 = .lst .no 7 l.length (l.flatMap b6) := t0
  have hw : IntKind.i64.wrap ((m : Int) + 1) = ((m + 1 : Nat) : Int) := by rw [f9 (by omega) (by omega)]; rfl
  have hf : fol (l.take (m + 1)) x = (fol (l.take m) x || n9 x y) := by
   unfold fol
   rw [K3 hy, List.any_append]; simp
  refine w7.round (RX.of a6 ?_)
  cases hc : fol (l.take m) x with
  | true =>
   rw [hc] at t16
   simp only [G0, Z1, Z2, Z3, Z4, Z5, h0, t15, t16, t17, hmm, decide_true, hi, hm', hlx, hly, m9, o8, hw, qC, Bool.not_true, Bool.not_false]
   refine ih (m + 1) _ (by omega) (by omega) ?_ ?_ ?_
   ·exact ⟨t0, t7, t8, t15⟩
   ·rfl
   ·rw [hf, hc]; rfl
  | false =>
   rw [hc] at t16
   simp only [G0, Z1, Z2, Z3, Z4, Z5, h0, t15, t16, t17, hmm, decide_true, hi, hm', hlx, hly, m9, o8, qC]
   refine H7 (eI x y (hp x (List.mem_of_getElem? hx)) (hp y (List.mem_of_getElem? hy))) (by decide) ?_
   simp only [G0, Z1, Z2, Z3, Z4, Z5, t17, hw, m9, o8, Bool.not_true, Bool.not_false]
   refine ih (m + 1) _ (by omega) (by omega) ?_ ?_ ?_
   ·exact ⟨t0, t7, t8, t15⟩
   ·rfl
   ·rw [hf, hc, Bool.false_or]; rfl
theorem bBQ (l A : List Ev) (hl : l.length <= 1000000) (hp : ∀ x ∈ l, x.path.length <= 1000000) (hA : A.length <= 1000000) (hpp : ∀ x ∈ l, x.past.length <= 1000000) (hd : ∀ x ∈ l, ∀ y ∈ A, B7 y x = true -> y = x)
  (hh : ∀ x ∈ l, (A.any fun y => B7 y x) = !(fol l x)) (M : c7) (k : Nat) (Q : f7 -> d9 -> Prop) (q : ∀ tm, c8 tm 7 = bv true -> Q (.exit 2) ⟨tm, 134, k, [], M⟩) :
  ∀ d i tm, l.length - i = d -> i <= l.length -> K6 tm l A i -> w7 env Tryz.prog none aTE ⟨tm, 134, k, [], M⟩ Q := by
 intro d
 induction d with
 | zero =>
  intro i tm hdd hi hK
  have : i = l.length := by omega
  subst this
  obtain ⟨t0, t7, t8, t15⟩ := hK
  have h0 : c8 tm 0 = .lst .no 7 l.length (l.flatMap b6) := t0
  refine w7.round (RX.of a6 ?_)
  simp only [G0, Z1, Z2, Z3, Z4, Z5, h0, t15, Int.lt_irrefl, decide_false]
  exact q _ t7
 | succ d ih =>
  intro i tm hdd hi hK
  obtain ⟨t0, t7, t8, t15⟩ := hK
  have hi' : i < l.length := by omega
  have hii : (i : Int) < l.length := by omega
  obtain ⟨x, hx, -⟩ := K2 hi'
  have hlx := x7 hx
  have h0 : c8 tm 0 = .lst .no 7 l.length (l.flatMap b6) := t0
  have hw : IntKind.i64.wrap ((i : Int) + 1) = ((i + 1 : Nat) : Int) := by rw [f9 (by omega) (by omega)]; rfl
  have hxm := List.mem_of_getElem? hx
  refine w7.round (RX.of a6 ?_)
  simp only [G0, Z1, Z2, Z3, Z4, Z5, h0, t15, hii, decide_true]
  refine RX.loop (bB4 l A hl hp i x hx M k _ (fun tm1 hK1 t16 => ?_) l.length 0 _ rfl (Nat.zero_le _) (by exact ⟨t0, t7, t8, t15⟩) (by rfl) (by rfl))
  obtain ⟨t0, t7, t8, t15⟩ := hK1
  have h0 : c8 tm1 0 = .lst .no 7 l.length (l.flatMap b6) := t0
  have hhx := hh x hxm
  simp only [G0, Z1, Z2, Z3, Z4, Z5, h0, t8, t15, hi', hlx]
  refine H7 (bDB A x hA (hd x hxm) (hpp x hxm)) (by decide) ?_
  rw [hhx]
  have hbtf : (true == false) = false := rfl
  have hbft : (false == true) = false := rfl
  cases hf : fol l x with
  | true =>
   rw [hf] at t16
   simp only [G0, Z1, Z2, Z3, Z4, Z5, t15, t16, hw, rO, bne_self_eq_false, m9, o8, Bool.not_true, Bool.not_false, hbtf, hbft]
   refine ih (i + 1) _ (by omega) (by omega) ?_
   exact ⟨t0, t7, t8, rfl⟩
  | false =>
   rw [hf] at t16
   simp only [G0, Z1, Z2, Z3, Z4, Z5, t15, t16, hw, rO, bne_self_eq_false, m9, o8, Bool.not_true, Bool.not_false, hbtf, hbft]
   refine ih (i + 1) _ (by omega) (by omega) ?_
   exact ⟨t0, t7, t8, rfl⟩
theorem aR2 {l A : List Ev} (hU : Clo (· ∈ l)) (h : Mx (· ∈ l) A) (x : Ev) (hx : x ∈ l) : (A.any fun y => B7 y x) = !(fol l x) := by
 cases hf : fol l x with
 | true =>
  unfold fol at hf
  rw [List.any_eq_true] at hf
  obtain ⟨y, hy, hxy⟩ := hf
  cases ha : (A.any fun y => B7 y x) with
  | false => rfl
  | true =>
   rw [List.any_eq_true] at ha
   obtain ⟨z, hz, hzx⟩ := ha
   have := hU.dot z x (h.sub z hz) hx hzx
   subst this
   have := h.top z hz y hy
   rw [hxy] at this; cases this
 | false =>
  unfold fol at hf
  have hf' : ∀ y ∈ l, n9 x y = false := fun y hy => by
   have := List.any_eq_false.1 hf y hy
   simpa using this
  show (A.any fun y => B7 y x) = true
  rw [List.any_eq_true]
  obtain ⟨m, hm, hxm⟩ := h.cov x hx
  rcases hxm with rfl | hxm
  ·exact ⟨x, hm, by unfold B7; simp⟩
  ·have := hf' m (h.sub m hm)
   rw [hxm] at this; cases this
end Go.Proofs.YtlbjplpehkgcdaaGreatDoor
noncomputable section
namespace Go.Proofs.YtlbjplpehkgcdaaGreatDoor
namespace ShelfKnown
open Go Go.Am
set_option maxRecDepth 1000000
theorem aKN : aC Tryz.prog 3 41 [.agg [.v (.int .i64 1), .v (.int .i64 1), .v (.string ⟨#[102]⟩), .v (.int .i64 1), .v (.int .i64 0), .v (.slice none 0 0), .v (.slice none 0 0)]] (.int .i64 0) := jH.pure 1000000 1000 (by kernel_rfl)
theorem aLC : aC Tryz.prog 3 41 [.agg [.v (.int .i64 2), .v (.int .i64 1), .v (.string ⟨#[102]⟩), .v (.int .i64 3), .v (.int .i64 0), .v (.slice none 0 0), .lst 3 1 [.v (.int .i64 1), .v (.int .i64 1), .v (.int .i64 1)]]] (.int .i64 0) := jH.pure 1000000 1000 (by kernel_rfl)
theorem aLV : aC Tryz.prog 3 41 [.agg [.v (.int .i64 3), .v (.int .i64 1), .v (.string ⟨#[102]⟩), .v (.int .i64 2), .v (.int .i64 0), .v (.slice none 0 0), .v (.slice none 0 0)]] (.int .i64 0) := jH.pure 1000000 1000 (by kernel_rfl)
theorem bA5 : aC Tryz.prog 3 41 [.agg [.v (.int .i64 1), .v (.int .i64 2), .v (.string ⟨#[103]⟩), .v (.int .i64 1), .v (.int .i64 0), .v (.slice none 0 0), .v (.slice none 0 0)]] (.int .i64 0) := jH.pure 1000000 1000 (by kernel_rfl)
def t41 : List (List DV × Value) := [([.agg [.v (.int .i64 1), .v (.int .i64 1), .v (.string ⟨#[102]⟩), .v (.int .i64 1), .v (.int .i64 0), .v (.slice none 0 0), .v (.slice none 0 0)]], .int .i64 0),
 ([.agg [.v (.int .i64 2), .v (.int .i64 1), .v (.string ⟨#[102]⟩), .v (.int .i64 3), .v (.int .i64 0), .v (.slice none 0 0), .lst 3 1 [.v (.int .i64 1), .v (.int .i64 1), .v (.int .i64 1)]]], .int .i64 0),
 ([.agg [.v (.int .i64 3), .v (.int .i64 1), .v (.string ⟨#[102]⟩), .v (.int .i64 2), .v (.int .i64 0), .v (.slice none 0 0), .v (.slice none 0 0)]], .int .i64 0),
 ([.agg [.v (.int .i64 1), .v (.int .i64 2), .v (.string ⟨#[103]⟩), .v (.int .i64 1), .v (.int .i64 0), .v (.slice none 0 0), .v (.slice none 0 0)]], .int .i64 0)]
theorem e41 : wY Tryz.prog 3 41 t41 := .cons aKN rfl <| .cons aLC rfl <| .cons aLV rfl <| .cons bA5 rfl <| .nil
def env1 : i9 := aUN.memo (aMM 41 t41)
theorem sure1 : gK env1 Tryz.prog := jH.memo e41
theorem ran : iN (run env1 1000000 1000 (.call 22 []) (nP 3)) = true := by kernel_rfl
theorem fn : (env.fn 22).isSome = true := by kernel_rfl
theorem bAL (W : World) (hW : 3 <= W.heap.size) :
  Calls Tryz.prog 22 #[] W fun e W' => e = .returned (.bool true) /\ (∀ b, b < W.heap.size -> W'.heap[b]? = W.heap[b]?) /\ W.heap.size <= W'.heap.size /\ W'.os = W.os /\ W'.tape = W.tape /\ W'.output = W.output :=
 match Option.isSome_iff_exists.1 fn with
 | ⟨_, hx⟩ => gL (E := env1) (j := 1000000) (k := 1000) sure1.ok sure1.ext sure1.keep hx (show iN (run env1 1000000 1000 (.call 22 []) (nP env.ng)) = true from oY.symm ▸ ran) (show env.ng <= _ from oY.symm ▸ hW)
end ShelfKnown
end Go.Proofs.YtlbjplpehkgcdaaGreatDoor
end
namespace Go.Proofs.YtlbjplpehkgcdaaGreatDoor
open Go Go.Am Go.Pm
set_option maxRecDepth 1000000
theorem aAH : xQ (.bool true) (aQB ShelfKnown.env1 1000000 1000 22 []) = true := by kernel_rfl
theorem wO : aC Tryz.prog env.ng 22 [] (.bool true) := ShelfKnown.sure1.pure 1000000 1000 aAH
theorem aFO : A0 env Tryz.prog 22 [] (bv true) := A0.of_pure a6 bEJ wO rfl
end Go.Proofs.YtlbjplpehkgcdaaGreatDoor
namespace Go.Proofs.YtlbjplpehkgcdaaGreatDoor
open Go Go.Am Go.Pm
theorem tT (l : List Ev) (order : List Int) (again : List Bool) (h : V1 12 l = true \/ (V1 12 l = false /\ ¬ P7 l)) : A0 env Tryz.prog 5 [d4 l, V7 order, P1 again] (bv true) := fun M => by
 refine PT.enterR a6 fn5 (by simp) aTA fun k hk hf => RX.of a6 ?_
 simp only [G0, Z1, Z2, Z3, Z4, Z5, f8]
 refine H7 aFO (by decide) ?_
 simp only [G0, Z1, Z2, Z3, Z4, Z5]
 refine H7 (nI l 12 (by decide)) (by decide) ?_
 rcases h with h | ⟨h, hc⟩
 ·rw [h]
  simp only [G0, Z1, Z2, Z3, Z4, Z5, m9, o8, Bool.not_true, Bool.not_false, Bool.true_or]
  exact m6 hf rfl ⟨rfl, rfl⟩
 ·rw [h]
  obtain ⟨h1, h2⟩ := aAW h
  simp only [G0, Z1, Z2, Z3, Z4, Z5, m9, o8, Bool.not_true, Bool.not_false, Bool.false_or]
  refine H7 (tR l (by omega) fun e he => by have := h2 e he; omega) (by decide) ?_
  rw [vA hc]
  simp only [G0, Z1, Z2, Z3, Z4, Z5, m9, o8, Bool.not_true, Bool.not_false, Bool.false_or]
  exact m6 hf rfl ⟨rfl, rfl⟩
theorem aOB (l : List Ev) (order : List Int) (again : List Bool) (h : V1 12 l = false) (hc : P7 l) : A0 env Tryz.prog 5 [d4 l, V7 order, P1 again] (bv true) := fun M => by
 obtain ⟨h1, h2⟩ := aAW h
 have hU := aW7 hc
 have hL := aUM l
 generalize hl0 : atF l = L at hL
 have hLm : ∀ x ∈ L, x ∈ l := fun x hx => aW4 (by rw [hl0]; exact hx)
 have hLp : ∀ x ∈ L, ∀ y ∈ L, x.path = y.path := fun x hx y hy => aR0 (l := l) (by rw [hl0]; exact hx) (by rw [hl0]; exact hy)
 have hsm : ∀ x ∈ l, Sm x := fun x hx => by
  obtain ⟨q1, q2, q3⟩ := h2 x hx
  exact ⟨by omega, by omega, by omega⟩
 have hUL : Clo (· ∈ L) := ⟨fun x hx => hU.ok x (hLm x hx), fun x y hx hy => hU.dot x y (hLm x hx) (hLm y hy), fun x hx => hU.irr x (hLm x hx), fun x y z hx hy hz => hU.tr x y z (hLm x hx) (hLm y hy) (hLm z hz)⟩
 generalize hF : trn order again 0 [] L = F
 have hFm : ∀ x, x ∈ F ↔ x ∈ L := fun x => by rw [<- hF, aEO]; simp
 have hFl := aEH order again L 0 []
 rw [hF, List.length_nil] at hFl
 have hPL : aNI L := aG0 hU hLm (fun x hx => hsm x (hLm x hx)) hLp
 have hPF : aNI F := aG0 hU (fun x hx => hLm x ((hFm x).1 hx)) (fun x hx => hsm x (hLm x ((hFm x).1 hx))) fun x hx y hy => hLp x ((hFm x).1 hx) y ((hFm y).1 hy)
 have mL := xZ hU hLm
 have mF := xZ hU fun x hx => hLm x ((hFm x).1 hx)
 have lL := kN [] L
 have eLF : F.foldl D0 [] = L.foldl D0 [] := Mx.uniq mF mL hFm
 generalize hA : L.foldl D0 [] = A at *
 have same := aVH A (by simp only [List.length_nil] at lL; omega) fun x hx => by
  have := (hsm x (hLm x (mL.sub x hx))).past
  omega
 have cL : A0 env Tryz.prog 21 [d4 L] (.tup [d4 A, bv true]) := by have := aS0 L (by omega) hPL; rw [hA] at this; exact this
 have cF : A0 env Tryz.prog 21 [d4 F] (.tup [d4 A, bv true]) := by have := aS0 F (by omega) hPF; rw [eLF] at this; exact this
 refine PT.enterR a6 fn5 (by simp) aTA fun k hk hf => RX.of a6 ?_
 simp only [G0, Z1, Z2, Z3, Z4, Z5, f8]
 refine H7 aFO (by decide) ?_
 simp only [G0, Z1, Z2, Z3, Z4, Z5]
 refine H7 (nI l 12 (by decide)) (by decide) ?_
 rw [h]
 simp only [G0, Z1, Z2, Z3, Z4, Z5, m9, o8, Bool.not_true, Bool.not_false, Bool.false_or]
 refine H7 (tR l (by omega) fun e he => by have := h2 e he; omega) (by decide) ?_
 rw [tW hc]
 simp only [G0, Z1, Z2, Z3, Z4, Z5, m9, o8, Bool.not_true, Bool.not_false, Bool.false_or]
 refine H7 (bD5 l (by omega)) (by decide) ?_
 rw [hl0]
 simp only [G0, Z1, Z2, Z3, Z4, Z5]
 refine H7 cL (by decide) ?_
 simp only [G0, Z1, Z2, Z3, Z4, Z5]
 refine RX.loop (w7.weak (aEE (i := 10) (w := d4 []) (by exact J6.nil_no _ _ _ rfl)) (bBF L A order again (by omega) F M k _ (fun tm hK => ?_) L.length 0 [] _ rfl (Nat.zero_le _) (Nat.le_refl _) hF (by exact ⟨rfl, rfl, rfl, rfl, rfl, rfl, rfl, rfl⟩)))
 obtain ⟨t0, t1, t2, t7, t8, t9, t10, t11⟩ := hK
 simp only [G0, Z1, Z2, Z3, Z4, Z5, t10]
 refine H7 cF (by decide) ?_
 simp only [G0, Z1, Z2, Z3, Z4, Z5, t8, t9, m9, o8, Bool.not_true, Bool.not_false]
 refine H7 same (by decide) ?_
 simp only [G0, Z1, Z2, Z3, Z4, Z5, m9, o8, Bool.not_true, Bool.not_false]
 refine RX.loop (bBQ L A (by omega) (fun x hx => (hsm x (hLm x hx)).path) (by simp only [List.length_nil] at lL; omega) (fun x hx => (hsm x (hLm x hx)).past) (fun x hx y hy hd => hU.dot y x (hLm y (mL.sub y hy)) (hLm x hx) hd) (aR2 hUL mL) M k _ (fun tm t7 => ?_) L.length 0 _ rfl (Nat.zero_le _) (by exact ⟨t0, t7, t8, rfl⟩))
 simp only [G0, Z1, Z2, Z3, Z4, Z5, t7]
 exact m6 hf rfl ⟨rfl, rfl⟩
theorem oX {ds : List DV} (h : R3 [.int .i64] ds) : ∃ x : Int, yM [.int .i64] ds = [iv x] /\ True := by
 cases h with | cons h1 h =>
 cases h
 cases h1 with
 | int x _ _ => exact ⟨x, rfl, trivial⟩
theorem aM9 {d : DV} (h : vL (.sl [.int .i64]) d) : ∃ xs : List Int, mW (.sl [.int .i64]) d = V7 xs := by
 obtain ⟨xs, h1, h2, h3⟩ := qF (l := [.int .i64]) (enc := fun b => [iv b]) (B := fun _ => True) (by decide) (fun ds h => oX h) h
 refine ⟨xs, ?_⟩
 rw [h1]
 unfold V7
 congr 1
 clear h1 h2 h3
 induction xs with
 | nil => rfl
 | cons x xs ih => simp only [List.flatMap_cons, List.map_cons, ih]; rfl
theorem aVF (l : List Ev) (order : List Int) (again : List Bool) : A0 env Tryz.prog 5 [d4 l, V7 order, P1 again] (bv true) := by
 cases h : V1 12 l with
 | true => exact tT l order again (.inl h)
 | false =>
  by_cases hc : P7 l
  ·exact aOB l order again h hc
  ·exact tT l order again (.inr ⟨h, hc⟩)
theorem aJN (ds : List DV) (h : aDP [.one (.sl aDA), .one (.sl [.int .i64]), .one (.sl [.bool])] ds) : A0 env Tryz.prog 5 (aIT [.one (.sl aDA), .one (.sl [.int .i64]), .one (.sl [.bool])] ds) (bv true) := by
 cases h with | cons h1 h =>
 cases h with | cons h2 h =>
 cases h with | cons h3 h =>
 cases h
 cases h1 with | one h1 =>
 cases h2 with | one h2 =>
 cases h3 with | one h3 =>
 obtain ⟨xs, hxs⟩ := aRJ h1
 obtain ⟨a, ha⟩ := aM9 h2
 obtain ⟨b, hb⟩ := aHQ h3
 simp only [aIT, pvA, ha, hb, hxs]
 exact aVF xs a b
end Go.Proofs.YtlbjplpehkgcdaaGreatDoor