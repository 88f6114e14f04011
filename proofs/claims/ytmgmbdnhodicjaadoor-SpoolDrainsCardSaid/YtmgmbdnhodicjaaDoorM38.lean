/- SpoolDrains: the law returns true, of all arguments of its types, in whatever memory. Part 38 of 39; no condition. -/
import Derived.Test.YtmgmbdnhodicjaaDoorM37
section
/- SpoolDrains: of any arguments of its types. No condition. -/
set_option linter.unusedVariables false
namespace Go.Proofs.YtmgmbdnhodicjaaDoor
open Go Go.Am Go.Pm
set_option linter.unusedSimpArgs false
abbrev shAct : List Sh := [.bool, i64, i64, .str, i64, i64, .sl shB, .sl shSpan]
theorem act_dec {ds : List DV} (h : ShPs shAct ds) : ∃ x : Act, pvs shAct ds = actCells x ∧ True := by
  cases h with | cons h1 h =>
  obtain ⟨b, hb⟩ := bool_dec h1
  obtain ⟨e, he, _⟩ := ev_dec h
  exact ⟨⟨b, e⟩, by simp only [pvs, hb]; exact congrArg _ he, trivial⟩
theorem acts_dec {d : DV} (h : ShP (.sl shAct) d) : ∃ xs : List Act, pvD (.sl shAct) d = encActs xs ∧ xs.length ≤ maxLen := by
  obtain ⟨xs, h1, h2, _⟩ := sl_dec (l := shAct) (enc := actCells) (B := fun _ => True) (by decide) (fun ds h => act_dec h) h
  exact ⟨xs, h1, h2⟩
theorem drains_pt (ds : List DV) (h : ShAs [.one i64, .one i64, .one (.sl shAct), .agg shEv] ds) : PTp env Tryd.prog 4 (pvAs [.one i64, .one i64, .one (.sl shAct), .agg shEv] ds) (bv true) := by
  cases h with | cons h1 h =>
  cases h with | cons h2 h =>
  cases h with | cons h3 h =>
  cases h with | cons h4 h =>
  cases h
  cases h1 with | one h1 =>
  cases h2 with | one h2 =>
  cases h3 with | one h3 =>
  cases h4 with | agg h4 =>
  obtain ⟨x, hx, _⟩ := i_dec h1
  obtain ⟨y, hy, _⟩ := i_dec h2
  obtain ⟨xs, hxs, hl⟩ := acts_dec h3
  obtain ⟨e, he, _⟩ := ev_dec h4
  simp only [pvAs, pvA, hx, hy, hxs, he]
  exact drains x y xs (by have : maxLen = 9223372036854775807 := by decide
                          omega) e
end Go.Proofs.YtmgmbdnhodicjaaDoor
end
