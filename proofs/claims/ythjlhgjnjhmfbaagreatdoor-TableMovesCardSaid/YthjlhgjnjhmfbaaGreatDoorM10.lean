/- TableMoves holds. Part 10 of 29; no condition. -/
import Derived.Test.YthjlhgjnjhmfbaaGreatDoorM9
set_option linter.unusedVariables false
set_option linter.unusedSimpArgs false
namespace Go.Pm
open Go.RowKit Go.Am
section
variable {α : Type} {k i o n w es sz a b : Nat} {os : List Obj} {M : PMem} {ag : Bool} {cs vs : List PV} {x y : PV} {v : α} {l : List α} {wm : Wm}
theorem loadP_own : loadP k os M ag n (.ptr k i o) = rowTake ag n o os[i]? := by
 unfold loadP; dsimp only; rw [if_pos rfl]
theorem loadP_out (h : a ≠ k) : loadP k os M ag n (.ptr a i o) = rowTake ag n o (M a i) := by
 unfold loadP; dsimp only; rw [if_neg h]
theorem rowTake_row : rowTake ag n o (some (.row wm es cs)) = ptake ag n cs o := rfl
theorem loadP_dp : loadP k os M ag n (.dp cs o) = ptake ag n cs o := rfl
theorem ptake_one : ptake false n cs o = cs[o]? := rfl
theorem ptake_all (h : n = cs.length) : ptake true n cs 0 = some (.agg cs) := by
 subst h; simp [ptake]
theorem ptake_mid (h : o + n <= cs.length) : ptake true n cs o = some (.agg ((cs.drop o).take n)) := by simp [ptake, h]
theorem ge0 : (v :: l)[0]? = some v := rfl
theorem geS : (v :: l)[i + 1]? = l[i]? := rfl
theorem storeO_eq (h : (pcells x).length = n /\ o + (pcells x).length <= cs.length /\ (pcells x).all pone = true) : storeO n o x (some (.row .rw es cs)) = some (.row .rw es (psplice cs o (pcells x))) := by
 simp only [storeO, if_pos h]
theorem storeO_own (h : (pcells x).length = n /\ o + (pcells x).length <= cs.length /\ (pcells x).all pone = true) : storeO n o x (some (.row .own es cs)) = some (.row .rw es (psplice cs o (pcells x))) := by
 simp only [storeO, if_pos h]
theorem pcells_agg : pcells (.agg cs) = cs := rfl
theorem pcells_v {x : Value} : pcells (.v x) = [.v x] := rfl
theorem pcells_lst {t : Tok} : pcells (.lst t es n cs) = [.lst t es n cs] := rfl
theorem pcells_ptr : pcells (.ptr k i o) = [.ptr k i o] := rfl
theorem pcells_dp : pcells (.dp cs o) = [.dp cs o] := rfl
theorem pcells_fn : pcells (.fn n cs vs) = [.fn n cs vs] := rfl
theorem pcells_if : pcells (.iface n x) = [.iface n x] := rfl
theorem pone_v {x : Value} : pone (.v x) = true := rfl
theorem pone_lst {t : Tok} : pone (.lst t es n cs) = true := rfl
theorem pone_ptr : pone (.ptr k i o) = true := rfl
theorem pone_dp : pone (.dp cs o) = true := rfl
theorem pone_fn : pone (.fn n cs vs) = true := rfl
theorem pone_if : pone (.iface n x) = true := rfl
theorem psplice_all (h : vs.length = cs.length) : psplice cs 0 vs = vs := by
 simp [psplice, h]
theorem psplice_0 : psplice (x :: cs) 0 [y] = y :: cs := rfl
theorem psplice_S : psplice (x :: cs) (o + 1) vs = x :: psplice cs o vs := by simp [psplice, Nat.add_right_comm]
theorem iaddrS_lst {t : Tok} {kk : IntKind} {m : Nat} (h : m < n) : iaddrS sz (.lst t es n cs) (.v (.int kk (m : Int))) = some (.dp cs (m * sz)) := by
 simp only [iaddrS, pnat_int, if_pos h]
theorem lenL_lst {t : Tok} : lenL (.lst t es n cs) = some (.v (.int .i64 n)) := rfl
theorem lenS_str {s : ByteArray} : lenS (.v (.string s)) = some (.v (.int .i64 s.data.toList.length)) := rfl
theorem extP_eq : extP i (.tup vs) = vs[i]? := rfl
theorem fieldP_one : fieldP false n o (.agg cs) = cs[o]? := rfl
theorem fieldP_agg : fieldP true n o (.agg cs) = some (.agg ((cs.drop o).take n)) := rfl
theorem faddrP_ptr : faddrP n (.ptr k i o) = some (.ptr k i (o + n)) := rfl
theorem faddrP_dp : faddrP n (.dp cs o) = some (.dp cs (o + n)) := rfl
theorem ppick_t : ppick (.v (.bool true)) x y = some x := rfl
theorem ppick_f : ppick (.v (.bool false)) x y = some y := rfl
theorem not_bool {b : Bool} : pun .not (.v (.bool b)) = some (.v (.bool !b)) := rfl
end
theorem FB {E : Env} : type_of% (And.intro (@pbin_lss E) <| And.intro (@pbin_leq E) <| And.intro (@pbin_gtr E) <| And.intro (@pbin_geq E) <| And.intro (@pbin_eql E) <| And.intro (@pbin_neq E) <| And.intro (@pbin_add E) <| And.intro (@pbin_sub E) (@pbin_mul E)) := And.intro (@pbin_lss E) <| And.intro (@pbin_leq E) <| And.intro (@pbin_gtr E) <| And.intro (@pbin_geq E) <| And.intro (@pbin_eql E) <| And.intro (@pbin_neq E) <| And.intro (@pbin_add E) <| And.intro (@pbin_sub E) (@pbin_mul E)
theorem FL : type_of% (And.intro @loadP_own <| And.intro @rowTake_row <| And.intro @loadP_dp <| And.intro @ptake_one <| And.intro @ptake_all <| And.intro @ptake_mid <| And.intro @ge0 <| And.intro @geS <| And.intro @Nat.zero_add <| And.intro @Nat.add_zero <| And.intro @List.length_cons.{0} @List.length_nil.{0}) := And.intro @loadP_own <| And.intro @rowTake_row <| And.intro @loadP_dp <| And.intro @ptake_one <| And.intro @ptake_all <| And.intro @ptake_mid <| And.intro @ge0 <| And.intro @geS <| And.intro @Nat.zero_add <| And.intro @Nat.add_zero <| And.intro @List.length_cons.{0} @List.length_nil.{0}
theorem FS : type_of% (And.intro @storeO_eq <| And.intro @storeO_own <| And.intro @pcells_agg <| And.intro @pcells_v <| And.intro @pcells_lst <| And.intro @pcells_ptr <| And.intro @pcells_dp <| And.intro @pcells_fn <| And.intro @pcells_if <| And.intro @pone_v <| And.intro @pone_lst <| And.intro @pone_ptr <| And.intro @pone_dp <|
 And.intro @pone_fn <| And.intro @pone_if <| And.intro @psplice_all <| And.intro @psplice_0 <| And.intro @psplice_S <| And.intro @ge0 <| And.intro @geS <| And.intro @Nat.zero_add <| And.intro @Nat.add_zero <| And.intro @List.length_cons.{0} <| And.intro @List.length_nil.{0} <| And.intro @List.all_cons.{0} <| And.intro @List.all_nil.{0} @Bool.and_self) := And.intro @storeO_eq <| And.intro @storeO_own <| And.intro @pcells_agg <| And.intro @pcells_v <| And.intro @pcells_lst <| And.intro @pcells_ptr <| And.intro @pcells_dp <| And.intro @pcells_fn <| And.intro @pcells_if <| And.intro @pone_v <| And.intro @pone_lst <| And.intro @pone_ptr <| And.intro @pone_dp <|
 And.intro @pone_fn <| And.intro @pone_if <| And.intro @psplice_all <| And.intro @psplice_0 <| And.intro @psplice_S <| And.intro @ge0 <| And.intro @geS <| And.intro @Nat.zero_add <| And.intro @Nat.add_zero <| And.intro @List.length_cons.{0} <| And.intro @List.length_nil.{0} <| And.intro @List.all_cons.{0} <| And.intro @List.all_nil.{0} @Bool.and_self
theorem FX : type_of% (And.intro @iaddrS_lst <| And.intro @lenL_lst <| And.intro @lenS_str <| And.intro @extP_eq <| And.intro @fieldP_one <| And.intro @fieldP_agg <| And.intro @faddrP_ptr <| And.intro @faddrP_dp <| And.intro @ppick_t <| And.intro @ppick_f <| And.intro @not_bool <| And.intro @ge0 <| And.intro @geS <|
 And.intro @Nat.zero_add @Nat.add_zero) := And.intro @iaddrS_lst <| And.intro @lenL_lst <| And.intro @lenS_str <| And.intro @extP_eq <| And.intro @fieldP_one <| And.intro @fieldP_agg <| And.intro @faddrP_ptr <| And.intro @faddrP_dp <| And.intro @ppick_t <| And.intro @ppick_f <| And.intro @not_bool <| And.intro @ge0 <| And.intro @geS <|
 And.intro @Nat.zero_add @Nat.add_zero
theorem FN : type_of% (And.intro @List.set_cons_zero.{0} <| And.intro @List.set_cons_succ.{0} <| And.intro @List.length_cons.{0} <| And.intro @List.length_nil.{0} <| And.intro @List.cons_append.{0} @List.nil_append.{0}) := And.intro @List.set_cons_zero.{0} <| And.intro @List.set_cons_succ.{0} <| And.intro @List.length_cons.{0} <| And.intro @List.length_nil.{0} <| And.intro @List.cons_append.{0} @List.nil_append.{0}
end Go.Pm