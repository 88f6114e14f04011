/- TableWalks holds. Part 29 of 29; no condition. -/
import Derived.Test.YtnmidpahhhdlpaaGreatDoorM28
import Derived.Test.YtnmidpahhhdlpaaGreatDoorRows
import Derived.Test.YtnmidpahhhdlpaaGreatDoorCards
import Derived.Test.YtnmidpahhhdlpaaGreatDoorTie
import Derived.ChangeSame
import Derived.ChangeVars
import Derived.JoinedOf
import Derived.RowKit
import Derived.RowKitTokens
import Derived.LaidLaws
import Derived.HandedShaped
import Derived.SevenTiedAt
set_option linter.unusedVariables false
set_option linter.unusedSimpArgs false
set_option maxHeartbeats 4000000
set_option maxRecDepth 100000
noncomputable section
namespace Go.Proofs.YtnmidpahhhdlpaaGreatDoor
namespace TableWalks
open Go Go.ChangeShapes Go.WideShapes Go.RowKit Go.Am Go.Pm
theorem ownKnobOk : ownKnob Tryz.prog.godebug = none := by kernel_rfl
def cellsOf : Nat -> List (DataW Unit) -> List Value
 | 0, _ => []
 | _ + 1, [] => []
 | k + 1, .lit (.int i n) :: r => .int i n :: cellsOf k r
 | k + 1, .agg l :: r => cellsOf k l ++ cellsOf k r
 | k + 1, _ :: r => cellsOf k r
def laidWorld (os : Os) : World :=
  let w0 := World.holding Tryz.prog os ⟨#[], #[], []⟩
  let w1 : World := { w0 with heap := w0.heap.modify 2 fun
      | .cells _ t frozen => .cells (cellsOf 400 [(Rows.laid_unicode_utf8_acceptRanges : DataW Unit)]).toArray t frozen
      | o => o }
  let w2 : World := { w1 with heap := w1.heap.modify 1 fun
      | .cells _ t frozen => .cells (cellsOf 400 [(Rows.laid_unicode_utf8_first : DataW Unit)]).toArray t frozen
      | o => o }
  w2
theorem laidWorld_met (os : Os) (args : Array Value) : laidMetH Tryz.prog [("unicode/utf8.acceptRanges", Rows.laid_unicode_utf8_acceptRanges), ("unicode/utf8.first", Rows.laid_unicode_utf8_first)] ((laidWorld os).forCall (fun _ _ => 0) ⟨#[], args, []⟩).memory :=
 laidMetH_of_parts (laidMet_of_run' 8 (by kernel_rfl) (by kernel_rfl)) (by kernel_rfl)
theorem globals (W : World) (h : W.ShapedOpen Tryz.prog) : 3 <= W.heap.size :=
 ShapedOpen.size (g := 2) h (of_decide_eq_true (by kernel_rfl)) (t := 156) (zero := #[.int .u8 0, .int .u8 0, .int .u8 0, .int .u8 0, .int .u8 0, .int .u8 0, .int .u8 0, .int .u8 0, .int .u8 0, .int .u8 0, .int .u8 0, .int .u8 0, .int .u8 0, .int .u8 0, .int .u8 0, .int .u8 0, .int .u8 0, .int .u8 0, .int .u8 0, .int .u8 0, .int .u8 0, .int .u8 0, .int .u8 0, .int .u8 0, .int .u8 0, .int .u8 0, .int .u8 0, .int .u8 0, .int .u8 0, .int .u8 0, .int .u8 0, .int .u8 0]) (by kernel_rfl)
theorem boolT : Tryz.prog.underlying 4 = some .bool := by kernel_rfl
theorem shapes : pD Tryz.prog Tryz.f3.params.toList = some [.one (.sl [.str, .int .i64, .int .i64, .sl [.int .u8]]), .one (.sl [.str, .int .i64, .int .i64, .sl [.int .u8]])] := by kernel_rfl
theorem readable : Tryz.f3.params.toList.all (fun t => Tryz.prog.readableRec t && decide (t < Tryz.prog.types.size)) = true := by kernel_rfl
theorem params : Tryz.f3.params = #[22, 22] := by kernel_rfl
def zeros : Array Value := #[.slice none 0 0, .slice none 0 0]
set_option maxRecDepth 100000 in
theorem law_lifted (os : Os) (started : os.Started) (H : Type) (enc : TypeId × Value -> H) :
  ReturnsInHanded {} Tryz.checked os 3 .any (fun w args => (Rows.tableWalksSpec.pre enc Tryz.prog Tryz.f3 [] false w args /\ laidMetH Tryz.prog [("unicode/utf8.acceptRanges", Rows.laid_unicode_utf8_acceptRanges), ("unicode/utf8.first", Rows.laid_unicode_utf8_first)] w) /\ sizedMet enc Tryz.prog Tryz.f3 (OpenSpec.ofChange Rows.tableWalksSpec) false w args)
   (Rows.tableWalksSpec.post enc Tryz.prog Tryz.f3 false true false false) := by
 refine N8 (C := Tryz.checked) (X := fun w _ => laidMetH Tryz.prog [("unicode/utf8.acceptRanges", Rows.laid_unicode_utf8_acceptRanges), ("unicode/utf8.first", Rows.laid_unicode_utf8_first)] w) (fun _ _ _ hh h => h.of_heap hh) ownKnobOk started (by kernel_rfl) Tryz.func3
  (ChangeSpec.witness_at (enc := enc) (C := Tryz.checked) (os := os) (X := fun w _ => laidMetH Tryz.prog [("unicode/utf8.acceptRanges", Rows.laid_unicode_utf8_acceptRanges), ("unicode/utf8.first", Rows.laid_unicode_utf8_first)] w) false (laidWorld os) zeros 8 rfl (by kernel_rfl) (by kernel_rfl) (by kernel_rfl) (by kernel_rfl) (by kernel_rfl) (laidWorld_met os _)) ?_
 intro W base args ds gs before hval hW _ _ _ hsh
 obtain ⟨p, q, hA0, _⟩ := id hW
 have hlen : ds.length = 2 := by
  have := kI hA0
  rw [this, params]; rfl
 refine (aJ4 a6 fn3 (by rw [uD]; exact globals W hsh) shapes (fun j t v ht hv => hval j t v (by simpa using ht) (by simpa using hv)) hA0 aNA).mono fun e W' ⟨he, hb, hsz, hos, htp, hout⟩ => ⟨.bool true, he, ?_⟩
 have hs : Rows.tableWalksSpec.fn H ds = { results := [.lit (.bool true)], args := ds } := by
  match ds, hlen with
  | [_, _], _ => rfl
 exact aE5 (t := 4) (by kernel_rfl) readable (by kernel_rfl) boolT rfl hs rfl hW hos htp hout hsz hb
theorem f_holds : Rows.TableWalksSaid :=
 OpenClaim.holds_of_wide 3 Tryz.f3 rfl rfl rfl rfl rfl rfl rfl ⟨rfl, rfl, rfl, rfl, rfl⟩ rfl rfl rfl rfl rfl (by kernel_rfl) Tryz.func3 (by kernel_rfl)
  (of_decide_eq_true (by kernel_rfl)) (by unfold Func.isWrapper; rw [if_neg (of_decide_eq_false (by kernel_rfl))]; exact ⟨rfl, rfl⟩)
  (fun os started H enc _ => law_lifted os started H enc)
end TableWalks
theorem tableWalks_holds : Rows.TableWalksCardSaid :=
 Claim7.holds_tied_plain_at .later [] [.data, .pinned] true (true, "2918607de9dfc73d668a7f77ccd728e203b4537f8f3ef93c253d30b4aa6e4d07") false
  TableWalks.f_holds (fun _ h => by cases h) (by kernel_rfl) (fun _ h => by cases h) tableWalks_row_tie rfl ⟨rfl, rfl⟩ (by kernel_rfl) rfl
  (fun f fn hf hfn => by
   obtain rfl : f = 3 := Option.some.inj ((show Tryz.prog.funcNamed "tributary/tributarylaw05.TableWalks" = some 3 by kernel_rfl).symm.trans hf) |>.symm
   obtain rfl : fn = Tryz.f3 := (Option.some.inj (Tryz.func3.symm.trans hfn)).symm
   exact ⟨by kernel_rfl, fun j t ht => by
    have hall : Tryz.f3.params.toList.all (fun t => !Tryz.prog.wantsStandIn t) = true := by kernel_rfl
    have := List.all_eq_true.1 hall t (List.mem_of_getElem? (by rw [Array.getElem?_toList]; exact ht))
    have h2 : Tryz.prog.wantsStandIn t = false := by simpa using this
    exact h2⟩)
  (by kernel_rfl)
#print axioms tableWalks_holds
end Go.Proofs.YtnmidpahhhdlpaaGreatDoor
end