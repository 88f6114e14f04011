/- TableWalks holds. Part 10 of 29; no condition. -/
import Derived.Test.YtnmidpahhhdlpaaGreatDoorM9
set_option linter.unusedVariables false
set_option linter.unusedSimpArgs false
namespace Go.Pm
open Go.RowKit Go.Am
section
variable {α : Type} {k i o n w es sz a b : Nat} {os : List Obj} {M : b7} {ag : Bool} {cs vs : List PV} {x y : PV} {v : α} {l : List α} {wm : Wm}
theorem jB : F7 k os M ag n (.ptr k i o) = A9 ag n o os[i]? := by
 unfold F7; dsimp only; rw [if_pos rfl]
theorem K3 (h : a ≠ k) : F7 k os M ag n (.ptr a i o) = A9 ag n o (M a i) := by
 unfold F7; dsimp only; rw [if_neg h]
theorem kY : A9 ag n o (some (.row wm es cs)) = o9 ag n cs o := rfl
theorem zK : F7 k os M ag n (.dp cs o) = o9 ag n cs o := rfl
theorem rU : o9 false n cs o = cs[o]? := rfl
theorem iP (h : n = cs.length) : o9 true n cs 0 = some (.agg cs) := by
 subst h; simp [o9]
theorem jM (h : o + n <= cs.length) : o9 true n cs o = some (.agg ((cs.drop o).take n)) := by simp [o9, h]
theorem ge0 : (v :: l)[0]? = some v := rfl
theorem geS : (v :: l)[i + 1]? = l[i]? := rfl
theorem n7 (h : (e9 x).length = n /\ o + (e9 x).length <= cs.length /\ (e9 x).all p7 = true) : q8 n o x (some (.row .rw es cs)) = some (.row .rw es (e8 cs o (e9 x))) := by
 simp only [q8, if_pos h]
theorem fI (h : (e9 x).length = n /\ o + (e9 x).length <= cs.length /\ (e9 x).all p7 = true) : q8 n o x (some (.row .own es cs)) = some (.row .rw es (e8 cs o (e9 x))) := by
 simp only [q8, if_pos h]
theorem N0 : e9 (.agg cs) = cs := rfl
theorem xV {x : Value} : e9 (.v x) = [.v x] := rfl
theorem pK {t : lH} : e9 (.lst t es n cs) = [.lst t es n cs] := rfl
theorem nO : e9 (.ptr k i o) = [.ptr k i o] := rfl
theorem rW : e9 (.dp cs o) = [.dp cs o] := rfl
theorem tF : e9 (.fn n cs vs) = [.fn n cs vs] := rfl
theorem rJ : e9 (.iface n x) = [.iface n x] := rfl
theorem aKR {x : Value} : p7 (.v x) = true := rfl
theorem pO {t : lH} : p7 (.lst t es n cs) = true := rfl
theorem yK : p7 (.ptr k i o) = true := rfl
theorem aCS : p7 (.dp cs o) = true := rfl
theorem aEX : p7 (.fn n cs vs) = true := rfl
theorem aDQ : p7 (.iface n x) = true := rfl
theorem V7 (h : vs.length = cs.length) : e8 cs 0 vs = vs := by
 simp [e8, h]
theorem tG : e8 (x :: cs) 0 [y] = y :: cs := rfl
theorem sS : e8 (x :: cs) (o + 1) vs = x :: e8 cs o vs := by simp [e8, Nat.add_right_comm]
theorem fN {t : lH} {kk : IntKind} {m : Nat} (h : m < n) : G8 sz (.lst t es n cs) (.v (.int kk (m : Int))) = some (.dp cs (m * sz)) := by
 simp only [G8, w7, if_pos h]
theorem zC {t : lH} : T7 (.lst t es n cs) = some (.v (.int .i64 n)) := rfl
theorem wP {s : ByteArray} : lN (.v (.string s)) = some (.v (.int .i64 s.data.toList.length)) := rfl
theorem aC0 : aX4 i (.tup vs) = vs[i]? := rfl
theorem oD : mW false n o (.agg cs) = cs[o]? := rfl
theorem pA : mW true n o (.agg cs) = some (.agg ((cs.drop o).take n)) := rfl
theorem mY : qC n (.ptr k i o) = some (.ptr k i (o + n)) := rfl
theorem sV : qC n (.dp cs o) = some (.dp cs (o + n)) := rfl
theorem aEP : P1 (.v (.bool true)) x y = some x := rfl
theorem aD1 : P1 (.v (.bool false)) x y = some y := rfl
theorem yC {b : Bool} : pun .not (.v (.bool b)) = some (.v (.bool !b)) := rfl
end
theorem FB {E : d9} : type_of% (And.intro (@zG E) <| And.intro (@yY E) <| And.intro (@yM E) <| And.intro (@nY E) <| And.intro (@yT E) <| And.intro (@yG E) <| And.intro (@xD E) <| And.intro (@xT E) (@xY E)) := And.intro (@zG E) <| And.intro (@yY E) <| And.intro (@yM E) <| And.intro (@nY E) <| And.intro (@yT E) <| And.intro (@yG E) <| And.intro (@xD E) <| And.intro (@xT E) (@xY E)
theorem FL : type_of% (And.intro @jB <| And.intro @kY <| And.intro @zK <| And.intro @rU <| And.intro @iP <| And.intro @jM <| And.intro @ge0 <| And.intro @geS <| And.intro @Nat.zero_add <| And.intro @Nat.add_zero <| And.intro @List.length_cons.{0} @List.length_nil.{0}) := And.intro @jB <| And.intro @kY <| And.intro @zK <| And.intro @rU <| And.intro @iP <| And.intro @jM <| And.intro @ge0 <| And.intro @geS <| And.intro @Nat.zero_add <| And.intro @Nat.add_zero <| And.intro @List.length_cons.{0} @List.length_nil.{0}
theorem FS : type_of% (And.intro @n7 <| And.intro @fI <| And.intro @N0 <| And.intro @xV <| And.intro @pK <| And.intro @nO <| And.intro @rW <| And.intro @tF <| And.intro @rJ <| And.intro @aKR <| And.intro @pO <| And.intro @yK <| And.intro @aCS <|
 And.intro @aEX <| And.intro @aDQ <| And.intro @V7 <| And.intro @tG <| And.intro @sS <| And.intro @ge0 <| And.intro @geS <| And.intro @Nat.zero_add <| And.intro @Nat.add_zero <| And.intro @List.length_cons.{0} <| And.intro @List.length_nil.{0} <| And.intro @List.all_cons.{0} <| And.intro @List.all_nil.{0} @Bool.and_self) := And.intro @n7 <| And.intro @fI <| And.intro @N0 <| And.intro @xV <| And.intro @pK <| And.intro @nO <| And.intro @rW <| And.intro @tF <| And.intro @rJ <| And.intro @aKR <| And.intro @pO <| And.intro @yK <| And.intro @aCS <|
 And.intro @aEX <| And.intro @aDQ <| And.intro @V7 <| And.intro @tG <| And.intro @sS <| And.intro @ge0 <| And.intro @geS <| And.intro @Nat.zero_add <| And.intro @Nat.add_zero <| And.intro @List.length_cons.{0} <| And.intro @List.length_nil.{0} <| And.intro @List.all_cons.{0} <| And.intro @List.all_nil.{0} @Bool.and_self
theorem FX : type_of% (And.intro @fN <| And.intro @zC <| And.intro @wP <| And.intro @aC0 <| And.intro @oD <| And.intro @pA <| And.intro @mY <| And.intro @sV <| And.intro @aEP <| And.intro @aD1 <| And.intro @yC <| And.intro @ge0 <| And.intro @geS <|
 And.intro @Nat.zero_add @Nat.add_zero) := And.intro @fN <| And.intro @zC <| And.intro @wP <| And.intro @aC0 <| And.intro @oD <| And.intro @pA <| And.intro @mY <| And.intro @sV <| And.intro @aEP <| And.intro @aD1 <| And.intro @yC <| And.intro @ge0 <| And.intro @geS <|
 And.intro @Nat.zero_add @Nat.add_zero
theorem FN : type_of% (And.intro @List.set_cons_zero.{0} <| And.intro @List.set_cons_succ.{0} <| And.intro @List.length_cons.{0} <| And.intro @List.length_nil.{0} <| And.intro @List.cons_append.{0} @List.nil_append.{0}) := And.intro @List.set_cons_zero.{0} <| And.intro @List.set_cons_succ.{0} <| And.intro @List.length_cons.{0} <| And.intro @List.length_nil.{0} <| And.intro @List.cons_append.{0} @List.nil_append.{0}
end Go.Pm