/- TableMoves holds. Part 29 of 29; no condition. -/
import Derived.Test.YthjlhgjnjhmfbaaGreatDoorM28
import Derived.Test.YthjlhgjnjhmfbaaGreatDoorRows
import Derived.Test.YthjlhgjnjhmfbaaGreatDoorCards
import Derived.Test.YthjlhgjnjhmfbaaGreatDoorTie
import Derived.ChangeSame
import Derived.ChangeVars
import Derived.JoinedOf
import Derived.RowKit
import Derived.RowKitTokens
import Derived.LaidLaws
import Derived.HandedShaped
import Derived.SevenTiedAt
set_option linter.unusedVariables false
set_option linter.unusedSimpArgs false
set_option maxHeartbeats 4000000
set_option maxRecDepth 100000
noncomputable section
namespace Go.Proofs.YthjlhgjnjhmfbaaGreatDoor
namespace TableMoves
open Go Go.ChangeShapes Go.WideShapes Go.RowKit Go.Am Go.Pm
theorem ownKnobOk : ownKnob Tryz.prog.godebug = none := by kernel_rfl
def cellsOf : Nat -> List (DataW Unit) -> List Value
 | 0, _ => []
 | _ + 1, [] => []
 | k + 1, .lit (.int i n) :: r => .int i n :: cellsOf k r
 | k + 1, .agg l :: r => cellsOf k l ++ cellsOf k r
 | k + 1, _ :: r => cellsOf k r
def laidWorld (os : Os) : World :=
  let w0 := World.holding Tryz.prog os ⟨#[], #[], []⟩
  let w1 : World := { w0 with heap := w0.heap.modify 2 fun
      | .cells _ t frozen => .cells (cellsOf 400 [(Rows.laid_unicode_utf8_acceptRanges : DataW Unit)]).toArray t frozen
      | o => o }
  let w2 : World := { w1 with heap := w1.heap.modify 1 fun
      | .cells _ t frozen => .cells (cellsOf 400 [(Rows.laid_unicode_utf8_first : DataW Unit)]).toArray t frozen
      | o => o }
  w2
theorem laidWorld_met (os : Os) (args : Array Value) : laidMetH Tryz.prog [("unicode/utf8.acceptRanges", Rows.laid_unicode_utf8_acceptRanges), ("unicode/utf8.first", Rows.laid_unicode_utf8_first)] ((laidWorld os).forCall (fun _ _ => 0) ⟨#[], args, []⟩).memory :=
 laidMetH_of_parts (laidMet_of_run' 8 (by kernel_rfl) (by kernel_rfl)) (by kernel_rfl)
theorem globals (W : World) (h : W.ShapedOpen Tryz.prog) : 3 <= W.heap.size :=
 ShapedOpen.size (g := 2) h (of_decide_eq_true (by kernel_rfl)) (t := 154) (zero := #[.int .u8 0, .int .u8 0, .int .u8 0, .int .u8 0, .int .u8 0, .int .u8 0, .int .u8 0, .int .u8 0, .int .u8 0, .int .u8 0, .int .u8 0, .int .u8 0, .int .u8 0, .int .u8 0, .int .u8 0, .int .u8 0, .int .u8 0, .int .u8 0, .int .u8 0, .int .u8 0, .int .u8 0, .int .u8 0, .int .u8 0, .int .u8 0, .int .u8 0, .int .u8 0, .int .u8 0, .int .u8 0, .int .u8 0, .int .u8 0, .int .u8 0, .int .u8 0]) (by kernel_rfl)
theorem boolT : Tryz.prog.underlying 4 = some .bool := by kernel_rfl
theorem shapes : argShs Tryz.prog Tryz.f3.params.toList = some [.one (.sl [.str, .int .i64, .int .i64, .sl [.int .u8]]), .one (.str), .one (.str)] := by kernel_rfl
theorem readable : Tryz.f3.params.toList.all (fun t => Tryz.prog.readableRec t && decide (t < Tryz.prog.types.size)) = true := by kernel_rfl
theorem params : Tryz.f3.params = #[22, 9, 9] := by kernel_rfl
def zeros : Array Value := #[.slice none 0 0, .string ⟨#[]⟩, .string ⟨#[]⟩]
set_option maxRecDepth 100000 in
theorem law_lifted (os : Os) (started : os.Started) (H : Type) (enc : TypeId × Value -> H) :
  ReturnsInHanded {} Tryz.checked os 3 .any (fun w args => (Rows.tableMovesSpec.pre enc Tryz.prog Tryz.f3 [] false w args /\ laidMetH Tryz.prog [("unicode/utf8.acceptRanges", Rows.laid_unicode_utf8_acceptRanges), ("unicode/utf8.first", Rows.laid_unicode_utf8_first)] w) /\ sizedMet enc Tryz.prog Tryz.f3 (OpenSpec.ofChange Rows.tableMovesSpec) false w args)
   (Rows.tableMovesSpec.post enc Tryz.prog Tryz.f3 false true false false) := by
 refine returnsInHanded_of_change_both (C := Tryz.checked) (X := fun w _ => laidMetH Tryz.prog [("unicode/utf8.acceptRanges", Rows.laid_unicode_utf8_acceptRanges), ("unicode/utf8.first", Rows.laid_unicode_utf8_first)] w) (fun _ _ _ hh h => h.of_heap hh) ownKnobOk started (by kernel_rfl) Tryz.func3
  (ChangeSpec.witness_at (enc := enc) (C := Tryz.checked) (os := os) (X := fun w _ => laidMetH Tryz.prog [("unicode/utf8.acceptRanges", Rows.laid_unicode_utf8_acceptRanges), ("unicode/utf8.first", Rows.laid_unicode_utf8_first)] w) false (laidWorld os) zeros 8 rfl (by kernel_rfl) (by kernel_rfl) (by kernel_rfl) (by kernel_rfl) (by kernel_rfl) (laidWorld_met os _)) ?_
 intro W base args ds gs before hval hW _ _ _ hsh
 obtain ⟨p, q, hA0, _⟩ := id hW
 have hlen : ds.length = 3 := by
  have := trodAll_len hA0
  rw [this, params]; rfl
 refine (law_args env_ok fn3 (by rw [env_ng]; exact globals W hsh) shapes (fun j t v ht hv => hval j t v (by simpa using ht) (by simpa using hv)) hA0 moves_pt).mono fun e W' ⟨he, hb, hsz, hos, htp, hout⟩ => ⟨.bool true, he, ?_⟩
 have hs : Rows.tableMovesSpec.fn H ds = { results := [.lit (.bool true)], args := ds } := by
  match ds, hlen with
  | [_, _, _], _ => rfl
 exact post_args (t := 4) (by kernel_rfl) readable (by kernel_rfl) boolT rfl hs rfl hW hos htp hout hsz hb
theorem f_holds : Rows.TableMovesSaid :=
 OpenClaim.holds_of_wide 3 Tryz.f3 rfl rfl rfl rfl rfl rfl rfl ⟨rfl, rfl, rfl, rfl, rfl⟩ rfl rfl rfl rfl rfl (by kernel_rfl) Tryz.func3 (by kernel_rfl)
  (of_decide_eq_true (by kernel_rfl)) (by unfold Func.isWrapper; rw [if_neg (of_decide_eq_false (by kernel_rfl))]; exact ⟨rfl, rfl⟩)
  (fun os started H enc _ => law_lifted os started H enc)
end TableMoves
theorem tableMoves_holds : Rows.TableMovesCardSaid :=
 Claim7.holds_tied_plain_at .later [] [.data, .pinned] true (true, "507af34141de465026c0cec67073de673af737a65db4eac6a169ecf81bc10722") false
  TableMoves.f_holds (fun _ h => by cases h) (by kernel_rfl) (fun _ h => by cases h) tableMoves_row_tie rfl ⟨rfl, rfl⟩ (by kernel_rfl) rfl
  (fun f fn hf hfn => by
   obtain rfl : f = 3 := Option.some.inj ((show Tryz.prog.funcNamed "tributary/tributarylaw05.TableMoves" = some 3 by kernel_rfl).symm.trans hf) |>.symm
   obtain rfl : fn = Tryz.f3 := (Option.some.inj (Tryz.func3.symm.trans hfn)).symm
   exact ⟨by kernel_rfl, fun j t ht => by
    have hall : Tryz.f3.params.toList.all (fun t => !Tryz.prog.wantsStandIn t) = true := by kernel_rfl
    have := List.all_eq_true.1 hall t (List.mem_of_getElem? (by rw [Array.getElem?_toList]; exact ht))
    have h2 : Tryz.prog.wantsStandIn t = false := by simpa using this
    exact h2⟩)
  (by kernel_rfl)
#print axioms tableMoves_holds
end Go.Proofs.YthjlhgjnjhmfbaaGreatDoor
end