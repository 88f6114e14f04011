/- maps.DeleteFunc, its text walked: a map whose keys are texts. Of this program's copy of it; no condition. -/
import Derived.Test.YtnhhppflnpfehacGreatDoorAmE
import Derived.Test.YtnhhppflnpfehacGreatDoorProg
import Derived.WalkKit
import Derived.Lib.Walk
import Derived.Maps.RangeRun
import Derived.Maps.RangeWalk
import Derived.Deep.LoopGhost
import Derived.Shelf.Abstract
set_option linter.unusedVariables false
set_option linter.unusedSimpArgs false
namespace Go.Proofs.YtnhhppflnpfehacGreatDoor
namespace Del49
open Go Go.RowKit Go.Maps Go.Am
open Go.ChangeMaps (setBlock)

variable {P : Program}

/-- A loop over a map, under way. -/
structure St (w : World) (b clock : Nat) (seen : Array Nat) (M : Array MapEntry) (wr : World) : Prop where
  it : wr.heap[w.heap.size]? = some (.mapIter (some b) clock seen clock)
  mp : wr.heap[b]? = some (.map M clock)
  old : ∀ c, c < w.heap.size → c ≠ b → wr.heap[c]? = w.heap[c]?
  size : w.heap.size < wr.heap.size
  os : wr.os = w.os
  tape : wr.tape = w.tape
  output : wr.output = w.output

theorem lt_of_some {w : World} {b : Nat} {o : Obj} (h : w.heap[b]? = some o) : b < w.heap.size := by
  rcases Nat.lt_or_ge b w.heap.size with hx | hx
  · exact hx
  · rw [Array.getElem?_eq_none hx] at h; cases h
theorem set_same {w : World} {r : Nat} {o : Obj} (h : r < w.heap.size) : (setBlock w r o).heap[r]? = some o := by unfold setBlock; simp [h]
theorem set_other {w : World} {r c : Nat} {o : Obj} (h : c ≠ r) : (setBlock w r o).heap[c]? = w.heap[c]? := by
  unfold setBlock
  simp only [Array.getElem?_setIfInBounds]
  rw [if_neg (Ne.symm h)]
theorem set_size {w : World} {r : Nat} {o : Obj} : (setBlock w r o).heap.size = w.heap.size := by unfold setBlock; simp

theorem St.start {w : World} {b clock : Nat} {es : Array MapEntry} (h : w.heap[b]? = some (.map es clock)) : St w b clock #[] es (w.alloc (.mapIter (some b) clock #[] clock)) := by
  have hb := lt_of_some h
  have hg : ∀ c, c < w.heap.size → (w.alloc (.mapIter (some b) clock #[] clock)).heap[c]? = w.heap[c]? := fun c hc => by show (w.heap.push _)[c]? = _; rw [Array.getElem?_push, if_neg (by omega)]
  exact ⟨by show (w.heap.push _)[w.heap.size]? = _; simp, by rw [hg b hb]; exact h, fun c hc _ => hg c hc, by show _ < (w.heap.push _).size; simp, rfl, rfl, rfl⟩
theorem St.grown {w wr w' : World} {b clock : Nat} {seen : Array Nat} {M : Array MapEntry} (h : St w b clock seen M wr) (hb : b < w.heap.size) (hs : ∀ c, c < wr.heap.size → w'.heap[c]? = wr.heap[c]?) (hz : wr.heap.size ≤ w'.heap.size) (h1 : w'.os = wr.os) (h2 : w'.tape = wr.tape) (h3 : w'.output = wr.output) :
    St w b clock seen M w' :=
  have hz' := h.size
  ⟨by rw [hs _ h.size]; exact h.it, by rw [hs _ (by omega)]; exact h.mp, fun c hc hn => by rw [hs c (by omega)]; exact h.old c hc hn, by omega, h1.trans h.os, h2.trans h.tape, h3.trans h.output⟩

theorem wpList_range_raw (w : World) {ops : Array Oper} {rest : List Oper} {o : Oper} {a : Act} {Q : Exit → Act → World → Prop} (hg : o.guard = none) (m : Operand) (t : TypeId) (hop : o.op = Op.range t m) {k e : TypeId} (ht : P.underlying t = some (.map k e)) {b clock : Nat} {es : Array MapEntry}
    (hm : a.eval m = .map (some b)) (hb : w.heap[b]? = some (.map es clock)) (hK : ∀ w', St w b clock #[] es w' → wpList P ops Q rest (a.put o.dst (.pointer (some ⟨w.heap.size, 0, none⟩))) w') : wpList P ops Q (o :: rest) a w := by
  refine wpList_plain hg fun K' hK' => ?_
  have hrun := run_range_map (P := P) w t k e b es clock ht hb
  unfold Oper.wp
  simp [execOp, hop, hm, hrun, Result.andThen]
  exact hK' _ _ (hK _ (St.start hb))

theorem wpList_next_raw (w wr : World) {ops : Array Oper} {rest : List Oper} {o : Oper} {a : Act} {Q : Exit → Act → World → Prop} (hg : o.guard = none) (it : Operand) (hop : o.op = Op.next it false) {b clock : Nat} {es : Array MapEntry} {seen : Array Nat} {d : Nat → Bool}
    (hit : a.eval it = .pointer (some ⟨w.heap.size, 0, none⟩)) (hbw : b < w.heap.size) (h : St w b clock seen (keepOf d seen es) wr) (hold : ∀ x ∈ es.toList, x.born < clock) (hn : (es.toList.map (·.born)).Nodup)
    (hDone : (leftOf (keepOf d seen es) seen).size = 0 → wpList P ops Q rest (a.put o.dst (.tuple #[.bool false])) wr)
    (hMore : ∀ (x : MapEntry) (key val : Value) (w' : World), x.key = key → x.val = val → x ∈ es.toList → seen.contains x.born = false → x ∈ (keepOf d seen es).toList → St w b clock (seen.push x.born) (keepOf d seen es) w' →
      (Instr.entry (.pointer (some ⟨w.heap.size, 0, none⟩))).run P w' = .ok (.tuple #[key, val]) w' → wpList P ops Q rest (a.put o.dst (.tuple #[.bool true, key, val])) w') :
    wpList P ops Q (o :: rest) a wr := by
  refine wpList_plain hg fun K' hK' => ?_
  unfold Oper.wp
  rcases run_next_at (P := P) wr o.type w.heap.size b clock clock seen (keepOf d seen es) clock h.it h.mp (fun x hx => hold x (by unfold keepOf at hx; rw [Array.toList_filter, List.mem_filter] at hx; exact hx.1)) (Nat.le_refl _) with ⟨h0, hrun⟩ | ⟨x, hx, w1, hw1, hrun⟩
  · simp [execOp, hop, hit, hrun, Result.andThen]
    exact hK' _ _ (hDone h0)
  · obtain ⟨k1, k2, k3⟩ := keepOf_mem hx
    have hw : w1.heap = wr.heap ∧ w1.os = wr.os ∧ w1.tape = wr.tape ∧ w1.output = wr.output := by rcases hw1 with rfl | rfl <;> exact ⟨rfl, rfl, rfl, rfl⟩
    obtain ⟨e1, e2, e3, e4⟩ := hw
    have hz := h.size
    have hst : St w b clock (seen.push x.born) (keepOf d seen es) (setBlock w1 w.heap.size (.mapIter (some b) clock (seen.push x.born) clock)) :=
      ⟨set_same (by rw [e1]; exact h.size), by rw [set_other (by omega), e1]; exact h.mp, fun c hc hne => by rw [set_other (by omega), e1]; exact h.old c hc hne, by rw [set_size, e1]; exact h.size, e2.trans h.os, e3.trans h.tape, e4.trans h.output⟩
    simp [execOp, hop, hit, hrun, Result.andThen]
    exact hK' _ _ (hMore x _ _ _ rfl rfl k1 k2 k3 hst (run_entry_at _ _ _ _ _ _ _ _ hst.it hst.mp k3 (keepOf_nodup hn)))

theorem wpList_delete_raw (w wr : World) {ops : Array Oper} {rest : List Oper} {o : Oper} {a : Act} {Q : Exit → Act → World → Prop} (hg : o.guard = none) (m x : Operand) (t kt : TypeId) (hop : o.op = Op.call { callee := Callee.builtin Builtin.delete, args := #[m, x], argTypes := #[t, kt] })
    {k e : TypeId} (ht : P.underlying t = some (.map k e)) (hk : P.underlying k = some .string) {b clock : Nat} {es : Array MapEntry} {seen : Array Nat} {d : Nat → Bool} (hbw : b < w.heap.size) (y : MapEntry)
    (h : St w b clock (seen.push y.born) (keepOf d seen es) wr) (hn : (es.toList.map (·.born)).Nodup) (hs : ∀ x ∈ es.toList, ∃ s, x.key = .string s) (hkn : (es.toList.map (·.key)).Nodup) (hy : y ∈ (keepOf d seen es).toList) (hd : d y.born = true)
    (hm : a.eval m = .map (some b)) (hx : a.eval x = y.key) (hK : ∀ w', St w b clock (seen.push y.born) (keepOf d (seen.push y.born) es) w' → wpList P ops Q rest (a.put o.dst (.tuple #[])) w') : wpList P ops Q (o :: rest) a wr := by
  have hsub : ∀ z ∈ (keepOf d seen es).toList, z ∈ es.toList := fun z hz => by unfold keepOf at hz; rw [Array.toList_filter, List.mem_filter] at hz; exact hz.1
  have hkn' : ((keepOf d seen es).toList.map (·.key)).Nodup := by unfold keepOf; rw [Array.toList_filter]; exact (List.filter_sublist.map _).nodup hkn
  obtain ⟨j, hf, hj⟩ := findKey_str (P := P) hk (fun z hz => hs z (hsub z hz)) hkn' hy
  have hgo : (getObj b).run P wr = .ok (.map (keepOf d seen es) clock) wr := by simp [getObj, Sem.run, h.mp]
  have hso : ∀ O : Obj, (setObj b O).run P wr = .ok () (setBlock wr b O) := fun O => by simp [setObj, Sem.run, h.mp, setBlock]
  have hrun : (Builtin.delete_ #[t, kt] o.type #[.map (some b), y.key]).run P wr = .ok (.tuple #[]) (setBlock wr b (.map (keepOf d (seen.push y.born) es) clock)) := by
    unfold Builtin.delete_
    simp [run_underlying ht, hgo, Result.andThen, checkKey_str hk, hf, hso, keepOf_true hn hd (by rw [← Array.getElem?_toList]; exact hj)]
  have hz := h.size
  have hst : St w b clock (seen.push y.born) (keepOf d (seen.push y.born) es) (setBlock wr b (.map (keepOf d (seen.push y.born) es) clock)) :=
    ⟨by rw [set_other (by omega)]; exact h.it, set_same (by omega), fun c hc hne => by rw [set_other hne]; exact h.old c hc hne, by rw [set_size]; exact h.size, h.os, h.tape, h.output⟩
  refine wpList_plain hg fun K' hK' => ?_
  unfold Oper.wp
  simp [execOp, hop, resolve, invoke, builtin, hm, hx, hrun, Result.andThen]
  exact hK' _ _ (hK _ hst)

theorem tm : Tryz.prog.underlying 52 = some (.map 9 3) := by kernel_rfl
theorem tk : Tryz.prog.underlying 9 = some .string := by kernel_rfl
theorem tb : Tryz.prog.underlying 4 = some .bool := by kernel_rfl
theorem mixed : Tryz.prog.follows .mixedOrders = true := by kernel_rfl

set_option maxHeartbeats 4000000 in
set_option maxRecDepth 100000 in
theorem del (g : Nat) (cb : Array Value) (b : Nat) (es : Array MapEntry) (clock : Nat) (w : World) (d : Nat → Bool)
    (hb : w.heap[b]? = some (.map es clock)) (hold : ∀ x ∈ es.toList, x.born < clock) (hn : (es.toList.map (·.born)).Nodup) (hks : ∀ x ∈ es.toList, ∃ s, x.key = .string s) (hkn : (es.toList.map (·.key)).Nodup)
    (eg : ∀ args w, (callFunc g args).run Tryz.prog w = .ok (.enter g args) w)
    (hdel : ∀ (W : World) x, x ∈ es.toList → w.heap.size ≤ W.heap.size → (∀ c, c < w.heap.size → c ≠ b → W.heap[c]? = w.heap[c]?) → W.os = w.os → W.tape = w.tape → W.output = w.output →
      Calls Tryz.prog g (#[x.key, x.val] ++ cb) W fun e w' => e = .returned (.bool (d x.born)) ∧ (∀ c, c < W.heap.size → w'.heap[c]? = W.heap[c]?) ∧ W.heap.size ≤ w'.heap.size ∧ w'.os = W.os ∧ w'.tape = W.tape ∧ w'.output = W.output) :
    Calls Tryz.prog 49 #[.map (some b), .func (.func g) #[] cb] w fun e w' =>
      e = .returned (.tuple #[]) ∧ w'.heap[b]? = some (.map (es.filter fun x => !d x.born) clock) ∧ (∀ c, c < w.heap.size → c ≠ b → w'.heap[c]? = w.heap[c]?) ∧ w.heap.size ≤ w'.heap.size ∧ w'.os = w.os ∧ w'.tape = w.tape ∧ w'.output = w.output := by
  have t4 := tb; have t23 := tm; have mixed := mixed
  have hbw := lt_of_some hb
  have A : Aside ((∀ x ∈ es.toList, x.born < clock) ∧ (es.toList.map (·.born)).Nodup ∧ (∀ x ∈ es.toList, ∃ s, x.key = .string s) ∧ (es.toList.map (·.key)).Nodup ∧ w.heap[b]? = some (.map es clock)) := ⟨hold, hn, hks, hkn, hb⟩
  have HD : Aside _ := hdel
  clear hold hn hks hkn hb hdel
  go_enter Tryz.func49, Tryz.ntmps49
  go_wp2_with (first
    | (at_range; refine wpList_range_raw _ rfl _ _ rfl tm rfl A.out.2.2.2.2 ?_; intro w0 hst0)
    | go_in)
  go_frame
  go_loopg [8] (leftN es #[]) (fun k _ wr => ∃ seen : Array Nat, k = leftN es seen ∧ St w b clock seen (keepOf d seen es) wr)
  case atStart => exact ⟨#[], rfl, by rw [keepOf_start]; exact hst0⟩
  case round =>
    obtain ⟨seen, hk, hst⟩ := hrel
    go_wp2_with (first
      | (at_next; refine wpList_next_raw w _ rfl _ rfl rfl hbw hst A.out.1 A.out.2.1 ?_ ?_)
      | go_in)
    · intro hl0
      go_wp2
      go_end0
      exact ⟨rfl, by rw [← keepOf_end (d := d) (es := es) (seen := seen) (by rw [hl0]; rfl)]; exact hst.mp, hst.old, Nat.le_of_lt hst.size, hst.os, hst.tape, hst.output⟩
    · intro x key val w1 hxk hxv hx0 hsn0 hxm0 hst1 hen
      have hx : x ∈ es.toList := by simpa using hx0
      have hsn : seen.contains x.born = false := by simpa using hsn0
      have hxm : x ∈ (keepOf d seen es).toList := by simpa using hxm0
      have hz1 := hst1.size
      have hc := HD.out w1 x hx (Nat.le_of_lt hst1.size) hst1.old hst1.os hst1.tape hst1.output
      rw [hxk, hxv] at hc
      have hlt := leftN_push (es := es) hx hsn
      cases hp : d x.born <;> rw [hp] at hc
      · go_wp2_with (first
          | (go_at_fn g; refine hc.mono ?_; rintro e w2 ⟨rfl, hg2⟩)
          | go_in)
        have hst2 := hst1.grown hbw hg2.1 hg2.2.1 hg2.2.2.1 hg2.2.2.2.1 hg2.2.2.2.2
        go_roundg (leftN es (seen.push x.born))
        case measure => rw [hk]; exact hlt
        case rel => exact ⟨_, rfl, by rw [keepOf_false hp]; exact hst2⟩
      · go_wp2_with (first
          | (go_at_fn g; refine hc.mono ?_; rintro e w2 ⟨rfl, hg2⟩; have hst2 := hst1.grown hbw hg2.1 hg2.2.1 hg2.2.2.1 hg2.2.2.2.1 hg2.2.2.2.2)
          | (at_delete; refine wpList_delete_raw w _ rfl _ _ _ _ rfl tm tk hbw x hst2 A.out.2.1 A.out.2.2.1 A.out.2.2.2.1 hxm hp rfl hxk.symm ?_; intro w3 hst3; go_frame)
          | go_in)
        go_roundg (leftN es (seen.push x.born))
        case measure => rw [hk]; exact hlt
        case rel => exact ⟨_, rfl, hst3⟩
theorem fn : DelFn Tryz.prog 49 := ⟨del⟩
end Del49
end Go.Proofs.YtnhhppflnpfehacGreatDoor
