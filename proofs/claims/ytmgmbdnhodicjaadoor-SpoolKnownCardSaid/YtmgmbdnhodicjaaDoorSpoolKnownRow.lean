/- SpoolKnown: the law of the chapter's examples returns true, in whatever memory; nothing that was there is changed. No condition. -/
import Derived.Test.YtmgmbdnhodicjaaDoorSpoolKnownRun
import Derived.Test.YtmgmbdnhodicjaaDoorRows
import Derived.Test.YtmgmbdnhodicjaaDoorAmR
import Derived.Test.YtmgmbdnhodicjaaDoorCards
import Derived.Test.YtmgmbdnhodicjaaDoorTie
import Derived.ChangeSame
import Derived.ChangeVars
import Derived.JoinedOf
import Derived.RowKit
import Derived.RowKitTokens
import Derived.LaidLaws
import Derived.HandedShaped
import Derived.SevenTiedAt
namespace Go.Proofs.YtmgmbdnhodicjaaDoor
open Go Go.ChangeShapes Go.WideShapes Go.RowKit Go.Am

theorem ownKnobOk : ownKnob Tryd.prog.godebug = none := by kernel_rfl

/-- What a datum of numbers lays. -/
def litCells : List (DataW Unit) → List Value
  | [] => []
  | .lit (.int k n) :: r => .int k n :: litCells r
  | .agg l :: r => litCells1 l ++ litCells r
  | _ :: r => litCells r
where litCells1 : List (DataW Unit) → List Value
  | [] => []
  | .lit (.int k n) :: r => .int k n :: litCells1 r
  | _ :: r => litCells1 r

noncomputable def laidWorld (os : Os) : World :=
  let w0 := World.holding Tryd.prog os ⟨#[], #[], []⟩
  let w1 : World := { w0 with heap := w0.heap.modify 0 fun
      | .cells _ t frozen => .cells (litCells [Rows.laid_unicode_utf8_first]).toArray t frozen
      | o => o }
  { w1 with heap := w1.heap.modify 1 fun
      | .cells _ t frozen => .cells (litCells (match (Rows.laid_unicode_utf8_acceptRanges : DataW Unit) with | .agg l => l | _ => [])).toArray t frozen
      | o => o }

theorem laidWorld_met (os : Os) (args : Array Value) : laidMetH Tryd.prog [("unicode/utf8.acceptRanges", Rows.laid_unicode_utf8_acceptRanges), ("unicode/utf8.first", Rows.laid_unicode_utf8_first)] ((laidWorld os).forCall (fun _ _ => 0) ⟨#[], args, []⟩).memory :=
  laidMetH_of_parts (laidMet_of_run' 8 (by kernel_rfl) (by kernel_rfl)) (by kernel_rfl)

theorem globals3 (W : World) (h : W.ShapedOpen Tryd.prog) : 3 ≤ W.heap.size :=
  ShapedOpen.size (g := 2) h (of_decide_eq_true (by kernel_rfl)) (t := 3) (zero := #[.int .i64 0]) (by kernel_rfl)

theorem bool4 : Tryd.prog.underlying 4 = some .bool := by kernel_rfl
set_option maxRecDepth 100000 in
theorem law_lifted (os : Os) (started : os.Started) (H : Type) (enc : TypeId × Value → H) :
    ReturnsInHanded {} Tryd.checked os 3 .any (fun w args => (Rows.spoolKnownSpec.pre enc Tryd.prog Tryd.f3 [] false w args ∧ laidMetH Tryd.prog [("unicode/utf8.acceptRanges", Rows.laid_unicode_utf8_acceptRanges), ("unicode/utf8.first", Rows.laid_unicode_utf8_first)] w) ∧ sizedMet enc Tryd.prog Tryd.f3 (OpenSpec.ofChange Rows.spoolKnownSpec) false w args)
      (Rows.spoolKnownSpec.post enc Tryd.prog Tryd.f3 false true false false) := by
  refine returnsInHanded_of_change_both (C := Tryd.checked) (X := fun w _ => laidMetH Tryd.prog [("unicode/utf8.acceptRanges", Rows.laid_unicode_utf8_acceptRanges), ("unicode/utf8.first", Rows.laid_unicode_utf8_first)] w) (fun _ _ _ hh h => h.of_heap hh) ownKnobOk started (by kernel_rfl) Tryd.func3
    (ChangeSpec.witness_at (enc := enc) (C := Tryd.checked) (os := os) (X := fun w _ => laidMetH Tryd.prog [("unicode/utf8.acceptRanges", Rows.laid_unicode_utf8_acceptRanges), ("unicode/utf8.first", Rows.laid_unicode_utf8_first)] w) false (laidWorld os) #[] 8 rfl (by kernel_rfl) (by kernel_rfl) (by kernel_rfl) (by kernel_rfl) (by kernel_rfl) (laidWorld_met os _)) ?_
  intro W base args ds gs before _ hW _ _ _ hsh
  obtain ⟨p, q, hA0, _⟩ := id hW
  rw [show Tryd.f3.params = #[] by kernel_rfl] at hA0
  have ha : args.toList = [] := (trodAll_nil hA0).1
  obtain rfl : args = #[] := by simpa using ha
  refine (known_calls W (globals3 W hsh)).mono fun e W' ⟨he, hb, hsz, hos, htp, hout⟩ => ⟨.bool true, he, ?_⟩
  exact post_closed (t := 4) (by kernel_rfl) (by kernel_rfl) bool4 rfl rfl rfl hW hos hout hb

theorem f_holds : Rows.SpoolKnownSaid :=
  OpenClaim.holds_of_wide 3 Tryd.f3 rfl rfl rfl rfl rfl rfl rfl ⟨rfl, rfl, rfl, rfl, rfl⟩ rfl rfl rfl rfl rfl (by kernel_rfl) Tryd.func3 (by kernel_rfl)
    (of_decide_eq_true (by kernel_rfl)) (by unfold Func.isWrapper; rw [if_neg (of_decide_eq_false (by kernel_rfl))]; exact ⟨rfl, rfl⟩)
    (fun os started H enc _ => law_lifted os started H enc)

theorem spoolKnown_holds : Rows.SpoolKnownCardSaid :=
  Claim7.holds_tied_plain_at .later [] [.data, .pinned] true (true, "b49ce140f1a49cd33fc9e5f85a0270c4a77f4ae4f4033b4ccdb8f36fa5085252") false
    f_holds (fun _ h => by cases h) (by kernel_rfl) (fun _ h => by cases h) spoolKnown_row_tie rfl ⟨rfl, rfl⟩ (by kernel_rfl) rfl
    (fun f fn hf hfn => by
      obtain rfl : f = 3 := Option.some.inj ((show Tryd.prog.funcNamed "tributary/tributarylaw21.SpoolKnown" = some 3 by kernel_rfl).symm.trans hf) |>.symm
      obtain rfl : fn = Tryd.f3 := (Option.some.inj (Tryd.func3.symm.trans hfn)).symm
      exact ⟨by kernel_rfl, fun j t ht => by
        rw [show Tryd.f3.params = #[] by kernel_rfl] at ht
        simp at ht⟩)
    (by kernel_rfl)
#print axioms spoolKnown_holds
end Go.Proofs.YtmgmbdnhodicjaaDoor
