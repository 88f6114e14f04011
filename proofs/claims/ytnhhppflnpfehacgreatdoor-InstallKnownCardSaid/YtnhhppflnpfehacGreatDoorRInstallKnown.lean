/- InstallKnown: the law of the chapter's examples returns true, in whatever memory; nothing that was there is changed. No condition. -/
import Derived.Test.YtnhhppflnpfehacGreatDoorTInstallKnown
import Derived.Test.YtnhhppflnpfehacGreatDoorRows
import Derived.Test.YtnhhppflnpfehacGreatDoorAmR
import Derived.Test.YtnhhppflnpfehacGreatDoorCards
import Derived.Test.YtnhhppflnpfehacGreatDoorTie
import Derived.ChangeSame
import Derived.ChangeVars
import Derived.JoinedOf
import Derived.RowKit
import Derived.RowKitTokens
import Derived.LaidLaws
import Derived.HandedShaped
import Derived.SevenTiedAt
namespace Go.Proofs.YtnhhppflnpfehacGreatDoor
namespace InstallKnown
open Go Go.ChangeShapes Go.WideShapes Go.RowKit Go.Am

theorem ownKnobOk : ownKnob Tryz.prog.godebug = none := by kernel_rfl

/-- What a datum of numbers lays. -/
def cellsOf : Nat → List (DataW Unit) → List Value
  | 0, _ => []
  | _ + 1, [] => []
  | k + 1, .lit (.int i n) :: r => .int i n :: cellsOf k r
  | k + 1, .agg l :: r => cellsOf k l ++ cellsOf k r
  | k + 1, _ :: r => cellsOf k r

noncomputable def laidWorld (os : Os) : World :=
  let w0 := World.holding Tryz.prog os ⟨#[], #[], []⟩
  let w1 : World := { w0 with heap := w0.heap.modify 2 fun
      | .cells _ t frozen => .cells (cellsOf 400 [(Rows.laid_unicode_utf8_acceptRanges : DataW Unit)]).toArray t frozen
      | o => o }
  let w2 : World := { w1 with heap := w1.heap.modify 1 fun
      | .cells _ t frozen => .cells (cellsOf 400 [(Rows.laid_unicode_utf8_first : DataW Unit)]).toArray t frozen
      | o => o }
  w2

theorem laidWorld_met (os : Os) (args : Array Value) : laidMetH Tryz.prog [("unicode/utf8.acceptRanges", Rows.laid_unicode_utf8_acceptRanges), ("unicode/utf8.first", Rows.laid_unicode_utf8_first)] ((laidWorld os).forCall (fun _ _ => 0) ⟨#[], args, []⟩).memory :=
  laidMetH_of_parts (laidMet_of_run' 8 (by kernel_rfl) (by kernel_rfl)) (by kernel_rfl)

theorem globals (W : World) (h : W.ShapedOpen Tryz.prog) : 3 ≤ W.heap.size :=
  ShapedOpen.size (g := 2) h (of_decide_eq_true (by kernel_rfl)) (t := 303) (zero := #[.int .u8 0, .int .u8 0, .int .u8 0, .int .u8 0, .int .u8 0, .int .u8 0, .int .u8 0, .int .u8 0, .int .u8 0, .int .u8 0, .int .u8 0, .int .u8 0, .int .u8 0, .int .u8 0, .int .u8 0, .int .u8 0, .int .u8 0, .int .u8 0, .int .u8 0, .int .u8 0, .int .u8 0, .int .u8 0, .int .u8 0, .int .u8 0, .int .u8 0, .int .u8 0, .int .u8 0, .int .u8 0, .int .u8 0, .int .u8 0, .int .u8 0, .int .u8 0]) (by kernel_rfl)

theorem boolT : Tryz.prog.underlying 4 = some .bool := by kernel_rfl
set_option maxRecDepth 100000 in
theorem law_lifted (os : Os) (started : os.Started) (H : Type) (enc : TypeId × Value → H) :
    ReturnsInHanded {} Tryz.checked os 3 .any (fun w args => (Rows.installKnownSpec.pre enc Tryz.prog Tryz.f3 [] false w args ∧ laidMetH Tryz.prog [("unicode/utf8.acceptRanges", Rows.laid_unicode_utf8_acceptRanges), ("unicode/utf8.first", Rows.laid_unicode_utf8_first)] w) ∧ sizedMet enc Tryz.prog Tryz.f3 (OpenSpec.ofChange Rows.installKnownSpec) false w args)
      (Rows.installKnownSpec.post enc Tryz.prog Tryz.f3 false true false false) := by
  refine returnsInHanded_of_change_both (C := Tryz.checked) (X := fun w _ => laidMetH Tryz.prog [("unicode/utf8.acceptRanges", Rows.laid_unicode_utf8_acceptRanges), ("unicode/utf8.first", Rows.laid_unicode_utf8_first)] w) (fun _ _ _ hh h => h.of_heap hh) ownKnobOk started (by kernel_rfl) Tryz.func3
    (ChangeSpec.witness_at (enc := enc) (C := Tryz.checked) (os := os) (X := fun w _ => laidMetH Tryz.prog [("unicode/utf8.acceptRanges", Rows.laid_unicode_utf8_acceptRanges), ("unicode/utf8.first", Rows.laid_unicode_utf8_first)] w) false (laidWorld os) #[] 8 rfl (by kernel_rfl) (by kernel_rfl) (by kernel_rfl) (by kernel_rfl) (by kernel_rfl) (laidWorld_met os _)) ?_
  intro W base args ds gs before _ hW _ _ _ hsh
  obtain ⟨p, q, hA0, _⟩ := id hW
  rw [show Tryz.f3.params = #[] by kernel_rfl] at hA0
  have ha : args.toList = [] := (trodAll_nil hA0).1
  obtain rfl : args = #[] := by simpa using ha
  refine (calls W (globals W hsh)).mono fun e W' ⟨he, hb, hsz, hos, htp, hout⟩ => ⟨.bool true, he, ?_⟩
  exact post_closed (t := 4) (by kernel_rfl) (by kernel_rfl) boolT rfl rfl rfl hW hos hout hb

theorem f_holds : Rows.InstallKnownSaid :=
  OpenClaim.holds_of_wide 3 Tryz.f3 rfl rfl rfl rfl rfl rfl rfl ⟨rfl, rfl, rfl, rfl, rfl⟩ rfl rfl rfl rfl rfl (by kernel_rfl) Tryz.func3 (by kernel_rfl)
    (of_decide_eq_true (by kernel_rfl)) (by unfold Func.isWrapper; rw [if_neg (of_decide_eq_false (by kernel_rfl))]; exact ⟨rfl, rfl⟩)
    (fun os started H enc _ => law_lifted os started H enc)
end InstallKnown

theorem installKnown_holds : Rows.InstallKnownCardSaid :=
  Claim7.holds_tied_plain_at .later [] [.data, .pinned] true (true, "676ba3b9d691580dd94fc4ec3f8d9b3364804440c2debbf478fc457158293cce") false
    InstallKnown.f_holds (fun _ h => by cases h) (by kernel_rfl) (fun _ h => by cases h) installKnown_row_tie rfl ⟨rfl, rfl⟩ (by kernel_rfl) rfl
    (fun f fn hf hfn => by
      obtain rfl : f = 3 := Option.some.inj ((show Tryz.prog.funcNamed "tributary/tributarylaw24.InstallKnown" = some 3 by kernel_rfl).symm.trans hf) |>.symm
      obtain rfl : fn = Tryz.f3 := (Option.some.inj (Tryz.func3.symm.trans hfn)).symm
      exact ⟨by kernel_rfl, fun j t ht => by
        rw [show Tryz.f3.params = #[] by kernel_rfl] at ht
        simp at ht⟩)
    (by kernel_rfl)
#print axioms installKnown_holds
end Go.Proofs.YtnhhppflnpfehacGreatDoor

