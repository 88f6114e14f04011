/- ShelfOrder holds. Part 10 of 32; no condition. -/
import Derived.Test.YtlbjplpehkgcdaaGreatDoorM9
set_option linter.unusedVariables false
set_option linter.unusedSimpArgs false
namespace Go.Pm
open Go.RowKit Go.Am
section
variable {α : Type} {k i o n w es sz a b : Nat} {os : List Obj} {M : c7} {ag : Bool} {cs vs : List PV} {x y : PV} {v : α} {l : List α} {wm : Wm}
theorem Q9 : y6 k os M ag n (.ptr k i o) = p9 ag n o os[i]? := by
 unfold y6; dsimp only; rw [if_pos rfl]
theorem o9 (h : a ≠ k) : y6 k os M ag n (.ptr a i o) = p9 ag n o (M a i) := by
 unfold y6; dsimp only; rw [if_neg h]
theorem mA : p9 ag n o (some (.row wm es cs)) = A3 ag n cs o := rfl
theorem rR : y6 k os M ag n (.dp cs o) = A3 ag n cs o := rfl
theorem uC : A3 false n cs o = cs[o]? := rfl
theorem lX (h : n = cs.length) : A3 true n cs 0 = some (.agg cs) := by
 subst h; simp [A3]
theorem lD (h : o + n <= cs.length) : A3 true n cs o = some (.agg ((cs.drop o).take n)) := by simp [A3, h]
theorem ge0 : (v :: l)[0]? = some v := rfl
theorem geS : (v :: l)[i + 1]? = l[i]? := rfl
theorem p6 (h : (k9 x).length = n /\ o + (k9 x).length <= cs.length /\ (k9 x).all w9 = true) : w5 n o x (some (.row .rw es cs)) = some (.row .rw es (g8 cs o (k9 x))) := by
 simp only [w5, if_pos h]
theorem iQ (h : (k9 x).length = n /\ o + (k9 x).length <= cs.length /\ (k9 x).all w9 = true) : w5 n o x (some (.row .own es cs)) = some (.row .rw es (g8 cs o (k9 x))) := by
 simp only [w5, if_pos h]
theorem R7 : k9 (.agg cs) = cs := rfl
theorem aAX {x : Value} : k9 (.v x) = [.v x] := rfl
theorem pR {t : kV} : k9 (.lst t es n cs) = [.lst t es n cs] := rfl
theorem pQ : k9 (.ptr k i o) = [.ptr k i o] := rfl
theorem uV : k9 (.dp cs o) = [.dp cs o] := rfl
theorem vS : k9 (.fn n cs vs) = [.fn n cs vs] := rfl
theorem vM : k9 (.iface n x) = [.iface n x] := rfl
theorem aNU {x : Value} : w9 (.v x) = true := rfl
theorem aBO {t : kV} : w9 (.lst t es n cs) = true := rfl
theorem aAJ : w9 (.ptr k i o) = true := rfl
theorem aE9 : w9 (.dp cs o) = true := rfl
theorem aE1 : w9 (.fn n cs vs) = true := rfl
theorem aD6 : w9 (.iface n x) = true := rfl
theorem Y7 (h : vs.length = cs.length) : g8 cs 0 vs = vs := by
 simp [g8, h]
theorem vO : g8 (x :: cs) 0 [y] = y :: cs := rfl
theorem tV : g8 (x :: cs) (o + 1) vs = x :: g8 cs o vs := by simp [g8, Nat.add_right_comm]
theorem cC {t : kV} {kk : IntKind} {m : Nat} (h : m < n) : I5 sz (.lst t es n cs) (.v (.int kk (m : Int))) = some (.dp cs (m * sz)) := by
 simp only [I5, H6, if_pos h]
theorem aBN {t : kV} : gB (.lst t es n cs) = some (.v (.int .i64 n)) := rfl
theorem yS {s : ByteArray} : nN (.v (.string s)) = some (.v (.int .i64 s.data.toList.length)) := rfl
theorem aEU : bCZ i (.tup vs) = vs[i]? := rfl
theorem qK : pZ false n o (.agg cs) = cs[o]? := rfl
theorem sG : pZ true n o (.agg cs) = some (.agg ((cs.drop o).take n)) := rfl
theorem sC : pT n (.ptr k i o) = some (.ptr k i (o + n)) := rfl
theorem uO : pT n (.dp cs o) = some (.dp cs (o + n)) := rfl
theorem aE2 : S6 (.v (.bool true)) x y = some x := rfl
theorem aFL : S6 (.v (.bool false)) x y = some y := rfl
theorem aBS {b : Bool} : pun .not (.v (.bool b)) = some (.v (.bool !b)) := rfl
end
theorem FB {E : i9} : type_of% (And.intro (@aBJ E) <| And.intro (@aBI E) <| And.intro (@zK E) <| And.intro (@rM E) <| And.intro (@aAM E) <| And.intro (@aAL E) <| And.intro (@aBX E) <| And.intro (@aBC E) (@zB E)) := And.intro (@aBJ E) <| And.intro (@aBI E) <| And.intro (@zK E) <| And.intro (@rM E) <| And.intro (@aAM E) <| And.intro (@aAL E) <| And.intro (@aBX E) <| And.intro (@aBC E) (@zB E)
theorem FL : type_of% (And.intro @Q9 <| And.intro @mA <| And.intro @rR <| And.intro @uC <| And.intro @lX <| And.intro @lD <| And.intro @ge0 <| And.intro @geS <| And.intro @Nat.zero_add <| And.intro @Nat.add_zero <| And.intro @List.length_cons.{0} @List.length_nil.{0}) := And.intro @Q9 <| And.intro @mA <| And.intro @rR <| And.intro @uC <| And.intro @lX <| And.intro @lD <| And.intro @ge0 <| And.intro @geS <| And.intro @Nat.zero_add <| And.intro @Nat.add_zero <| And.intro @List.length_cons.{0} @List.length_nil.{0}
theorem FS : type_of% (And.intro @p6 <| And.intro @iQ <| And.intro @R7 <| And.intro @aAX <| And.intro @pR <| And.intro @pQ <| And.intro @uV <| And.intro @vS <| And.intro @vM <| And.intro @aNU <| And.intro @aBO <| And.intro @aAJ <| And.intro @aE9 <|
 And.intro @aE1 <| And.intro @aD6 <| And.intro @Y7 <| And.intro @vO <| And.intro @tV <| And.intro @ge0 <| And.intro @geS <| And.intro @Nat.zero_add <| And.intro @Nat.add_zero <| And.intro @List.length_cons.{0} <| And.intro @List.length_nil.{0} <| And.intro @List.all_cons.{0} <| And.intro @List.all_nil.{0} @Bool.and_self) := And.intro @p6 <| And.intro @iQ <| And.intro @R7 <| And.intro @aAX <| And.intro @pR <| And.intro @pQ <| And.intro @uV <| And.intro @vS <| And.intro @vM <| And.intro @aNU <| And.intro @aBO <| And.intro @aAJ <| And.intro @aE9 <|
 And.intro @aE1 <| And.intro @aD6 <| And.intro @Y7 <| And.intro @vO <| And.intro @tV <| And.intro @ge0 <| And.intro @geS <| And.intro @Nat.zero_add <| And.intro @Nat.add_zero <| And.intro @List.length_cons.{0} <| And.intro @List.length_nil.{0} <| And.intro @List.all_cons.{0} <| And.intro @List.all_nil.{0} @Bool.and_self
theorem FX : type_of% (And.intro @cC <| And.intro @aBN <| And.intro @yS <| And.intro @aEU <| And.intro @qK <| And.intro @sG <| And.intro @sC <| And.intro @uO <| And.intro @aE2 <| And.intro @aFL <| And.intro @aBS <| And.intro @ge0 <| And.intro @geS <|
 And.intro @Nat.zero_add @Nat.add_zero) := And.intro @cC <| And.intro @aBN <| And.intro @yS <| And.intro @aEU <| And.intro @qK <| And.intro @sG <| And.intro @sC <| And.intro @uO <| And.intro @aE2 <| And.intro @aFL <| And.intro @aBS <| And.intro @ge0 <| And.intro @geS <|
 And.intro @Nat.zero_add @Nat.add_zero
theorem FN : type_of% (And.intro @List.set_cons_zero.{0} <| And.intro @List.set_cons_succ.{0} <| And.intro @List.length_cons.{0} <| And.intro @List.length_nil.{0} <| And.intro @List.cons_append.{0} @List.nil_append.{0}) := And.intro @List.set_cons_zero.{0} <| And.intro @List.set_cons_succ.{0} <| And.intro @List.length_cons.{0} <| And.intro @List.length_nil.{0} <| And.intro @List.cons_append.{0} @List.nil_append.{0}
end Go.Pm