/- ShelfOrder holds. Part 32 of 32; no condition. -/
import Derived.Test.YtlbjplpehkgcdaaGreatDoorM31
import Derived.Test.YtlbjplpehkgcdaaGreatDoorRows
import Derived.Test.YtlbjplpehkgcdaaGreatDoorCards
import Derived.Test.YtlbjplpehkgcdaaGreatDoorTie
import Derived.ChangeSame
import Derived.ChangeVars
import Derived.JoinedOf
import Derived.RowKit
import Derived.RowKitTokens
import Derived.LaidLaws
import Derived.HandedShaped
import Derived.SevenTiedAt
set_option linter.unusedVariables false
set_option linter.unusedSimpArgs false
set_option maxHeartbeats 4000000
set_option maxRecDepth 100000
noncomputable section
namespace Go.Proofs.YtlbjplpehkgcdaaGreatDoor
namespace ShelfOrder
open Go Go.ChangeShapes Go.WideShapes Go.RowKit Go.Am Go.Pm
theorem ownKnobOk : ownKnob Tryz.prog.godebug = none := by kernel_rfl
def cellsOf : Nat -> List (DataW Unit) -> List Value
 | 0, _ => []
 | _ + 1, [] => []
 | k + 1, .lit (.int i n) :: r => .int i n :: cellsOf k r
 | k + 1, .agg l :: r => cellsOf k l ++ cellsOf k r
 | k + 1, _ :: r => cellsOf k r
def laidWorld (os : Os) : World :=
  let w0 := World.holding Tryz.prog os ⟨#[], #[], []⟩
  let w1 : World := { w0 with heap := w0.heap.modify 2 fun
      | .cells _ t frozen => .cells (cellsOf 400 [(Rows.laid_unicode_utf8_acceptRanges : DataW Unit)]).toArray t frozen
      | o => o }
  let w2 : World := { w1 with heap := w1.heap.modify 1 fun
      | .cells _ t frozen => .cells (cellsOf 400 [(Rows.laid_unicode_utf8_first : DataW Unit)]).toArray t frozen
      | o => o }
  w2
theorem laidWorld_met (os : Os) (args : Array Value) : laidMetH Tryz.prog [("unicode/utf8.acceptRanges", Rows.laid_unicode_utf8_acceptRanges), ("unicode/utf8.first", Rows.laid_unicode_utf8_first)] ((laidWorld os).forCall (fun _ _ => 0) ⟨#[], args, []⟩).memory :=
 laidMetH_of_parts (laidMet_of_run' 8 (by kernel_rfl) (by kernel_rfl)) (by kernel_rfl)
theorem globals (W : World) (h : W.ShapedOpen Tryz.prog) : 3 <= W.heap.size :=
 ShapedOpen.size (g := 2) h (of_decide_eq_true (by kernel_rfl)) (t := 179) (zero := #[.int .u8 0, .int .u8 0, .int .u8 0, .int .u8 0, .int .u8 0, .int .u8 0, .int .u8 0, .int .u8 0, .int .u8 0, .int .u8 0, .int .u8 0, .int .u8 0, .int .u8 0, .int .u8 0, .int .u8 0, .int .u8 0, .int .u8 0, .int .u8 0, .int .u8 0, .int .u8 0, .int .u8 0, .int .u8 0, .int .u8 0, .int .u8 0, .int .u8 0, .int .u8 0, .int .u8 0, .int .u8 0, .int .u8 0, .int .u8 0, .int .u8 0, .int .u8 0]) (by kernel_rfl)
theorem boolT : Tryz.prog.underlying 4 = some .bool := by kernel_rfl
theorem shapes : rH Tryz.prog Tryz.f5.params.toList = some [.one (.sl [.int .i64, .int .i64, .str, .int .i64, .int .i64, .sl [.int .u8], .sl [.int .i64, .int .i64, .int .i64]]), .one (.sl [.int .i64]), .one (.sl [.bool])] := by kernel_rfl
theorem readable : Tryz.f5.params.toList.all (fun t => Tryz.prog.readableRec t && decide (t < Tryz.prog.types.size)) = true := by kernel_rfl
theorem params : Tryz.f5.params = #[22, 49, 44] := by kernel_rfl
def zeros : Array Value := #[.slice none 0 0, .slice none 0 0, .slice none 0 0]
set_option maxRecDepth 100000 in
theorem law_lifted (os : Os) (started : os.Started) (H : Type) (enc : TypeId × Value -> H) :
  ReturnsInHanded {} Tryz.checked os 5 .any (fun w args => (Rows.shelfOrderSpec.pre enc Tryz.prog Tryz.f5 [] false w args /\ laidMetH Tryz.prog [("unicode/utf8.acceptRanges", Rows.laid_unicode_utf8_acceptRanges), ("unicode/utf8.first", Rows.laid_unicode_utf8_first)] w) /\ sizedMet enc Tryz.prog Tryz.f5 (OpenSpec.ofChange Rows.shelfOrderSpec) false w args)
   (Rows.shelfOrderSpec.post enc Tryz.prog Tryz.f5 false true false false) := by
 refine R6 (C := Tryz.checked) (X := fun w _ => laidMetH Tryz.prog [("unicode/utf8.acceptRanges", Rows.laid_unicode_utf8_acceptRanges), ("unicode/utf8.first", Rows.laid_unicode_utf8_first)] w) (fun _ _ _ hh h => h.of_heap hh) ownKnobOk started (by kernel_rfl) Tryz.func5
  (ChangeSpec.witness_at (enc := enc) (C := Tryz.checked) (os := os) (X := fun w _ => laidMetH Tryz.prog [("unicode/utf8.acceptRanges", Rows.laid_unicode_utf8_acceptRanges), ("unicode/utf8.first", Rows.laid_unicode_utf8_first)] w) false (laidWorld os) zeros 8 rfl (by kernel_rfl) (by kernel_rfl) (by kernel_rfl) (by kernel_rfl) (by kernel_rfl) (laidWorld_met os _)) ?_
 intro W base args ds gs B3 hval hW _ _ _ hsh
 obtain ⟨p, q, hA0, _⟩ := id hW
 have hlen : ds.length = 3 := by
  have := nM hA0
  rw [this, params]; rfl
 refine (aJK a6 fn5 (by rw [oY]; exact globals W hsh) shapes (fun j t v ht hv => hval j t v (by simpa using ht) (by simpa using hv)) hA0 aJN).mono fun e W' ⟨he, hb, hsz, hos, htp, hout⟩ => ⟨.bool true, he, ?_⟩
 have hs : Rows.shelfOrderSpec.fn H ds = { results := [.lit (.bool true)], args := ds } := by
  match ds, hlen with
  | [_, _, _], _ => rfl
 exact aIL (t := 4) (by kernel_rfl) readable (by kernel_rfl) boolT rfl hs rfl hW hos htp hout hsz hb
theorem f_holds : Rows.ShelfOrderSaid :=
 OpenClaim.holds_of_wide 5 Tryz.f5 rfl rfl rfl rfl rfl rfl rfl ⟨rfl, rfl, rfl, rfl, rfl⟩ rfl rfl rfl rfl rfl (by kernel_rfl) Tryz.func5 (by kernel_rfl)
  (of_decide_eq_true (by kernel_rfl)) (by unfold Func.isWrapper; rw [if_neg (of_decide_eq_false (by kernel_rfl))]; exact ⟨rfl, rfl⟩)
  (fun os started H enc _ => law_lifted os started H enc)
end ShelfOrder
theorem shelfOrder_holds : Rows.ShelfOrderCardSaid :=
 Claim7.holds_tied_plain_at .later [] [.data, .pinned] true (true, "cef57cde4e9cd318b6d7492f81518e3c8ee993dc1f07770f8b1ea4acb7342fcd") false
  ShelfOrder.f_holds (fun _ h => by cases h) (by kernel_rfl) (fun _ h => by cases h) shelfOrder_row_tie rfl ⟨rfl, rfl⟩ (by kernel_rfl) rfl
  (fun f fn hf hfn => by
   obtain rfl : f = 5 := Option.some.inj ((show Tryz.prog.funcNamed "tributary/tributarylaw09.ShelfOrder" = some 5 by kernel_rfl).symm.trans hf) |>.symm
   obtain rfl : fn = Tryz.f5 := (Option.some.inj (Tryz.func5.symm.trans hfn)).symm
   exact ⟨by kernel_rfl, fun j t ht => by
    have hall : Tryz.f5.params.toList.all (fun t => !Tryz.prog.wantsStandIn t) = true := by kernel_rfl
    have := List.all_eq_true.1 hall t (List.mem_of_getElem? (by rw [Array.getElem?_toList]; exact ht))
    have h2 : Tryz.prog.wantsStandIn t = false := by simpa using this
    exact h2⟩)
  (by kernel_rfl)
#print axioms shelfOrder_holds
end Go.Proofs.YtlbjplpehkgcdaaGreatDoor
end