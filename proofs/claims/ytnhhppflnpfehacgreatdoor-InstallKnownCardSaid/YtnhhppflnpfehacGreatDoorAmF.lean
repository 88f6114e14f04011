/- Operations that lay a new row and read nothing: apart from where they lay it. -/
import Derived.Test.YtnhhppflnpfehacGreatDoorAm14
namespace Go.Am
open Go.RowKit

section
variable {E : Env} {P : Program} {ι ι1 ι2 : Inj} {m m1 m2 : Mem} {w w1 w2 : World}

/-- A real block has been laid, and nothing else done: the abstract row stands to it, wherever the machine has it. -/
def Laid (E : Env) (ι : Inj) (w : World) (t : Tgt) (cs : List Value) (es : Nat) (w1 : World) : Prop :=
  (∃ O, w1.heap = w.heap.push O) ∧ w1.os = w.os ∧ w1.tape = w.tape ∧ w1.output = w.output ∧ t.blk = w.heap.size ∧ ∀ ι1, Sub ι ι1 → OR E.ng ι1 w1 t (.row cs .rw es none)

theorem lay_new {cs cs' : List Value} (hcs : VRs ι cs cs') (el es : Nat) : Laid E ι w ⟨w.heap.size, 0, cs'.length, es⟩ cs es (w.alloc (.cells cs'.toArray el)) := by
  have hb : (w.alloc (.cells cs'.toArray el)).heap[w.heap.size]? = some (.cells cs'.toArray el) := by show (w.heap.push _)[w.heap.size]? = _; simp
  refine ⟨⟨_, rfl⟩, rfl, rfl, rfl, rfl, fun ι1 hs => ⟨fun j v e => ?_, fun _ => ⟨rfl, by simp [hcs.length], cs'.toArray, el, (0, 0), hb, by simp, fun j _ => ?_⟩⟩⟩
  · obtain ⟨v', e', hr⟩ := hcs.get e
    exact ⟨v', by rw [cell?_block hb]; simpa using e', hr.mono hs⟩
  · unfold World.frozen?; rw [hb]; simp

theorem lay_buildSlice (hE : EnvOk E P) (ι : Inj) (w : World) {t len : Nat} {parts parts' : List (Nat × Value)} {v : Value} (hb : buildSliceV E m t len parts = some (v, m1)) (hp : PRs ι parts parts') :
    ∃ n k cs es tg w1 v', (∀ m', buildSliceV E m' t len parts = some (.slice (some (addr m'.size 0)) n k, m'.new (.row cs .rw es none))) ∧ (Instr.buildSlice t len parts'.toArray).run P w = .ok v' w1 ∧
      Laid E ι w tg cs es w1 ∧ ∀ (ι1 : Inj) (X : Nat), ι1 X = some tg → VR ι1 (.slice (some (addr X 0)) n k) v' := by
  unfold buildSliceV at hb
  split at hb
  case h_2 => cases hb
  rename_i y hy
  split at hb
  case h_2 => cases hb
  rename_i e hd
  split at hb
  case h_2 => cases hb
  rename_i ye z hye hz
  cases hcond0 : (Nat.ble (len * ye.size) 16777216 && Nat.beq z.length ye.size) with
  | false => rw [hcond0] at hb; cases hb
  | true =>
  rw [hcond0] at hb
  simp only [cond_true] at hb
  have hcond := hcond0
  rw [Bool.and_eq_true] at hcond
  have h1 := Nat.le_of_ble_eq_true hcond.1
  have h2 := Nat.eq_of_beq_eq_true hcond.2
  split at hb
  case h_2 => cases hb
  rename_i cs hcs
  simp only [newRow, Option.some.injEq, Prod.mk.injEq] at hb
  obtain ⟨rfl, rfl⟩ := hb
  obtain ⟨zv, hzr, hzc, _, hzV⟩ := hE.zero hz w
  obtain ⟨r', e', hr⟩ := sim_fill hp ((hzV ι).repeat len) hcs
  refine ⟨len, 2 * len, cs, ye.size, _, _, .slice (some ⟨w.heap.size, 0, none⟩) len len, fun m' => ?_, ?_, lay_new hr e ye.size, fun ι1 X hX => VR.sex 0 len len hX⟩
  · unfold buildSliceV
    simp only [hy, hd, hye, hz, hcond0, hcs, cond_true, newRow]
  · have hu := hE.und hy
    rw [hd] at hu
    have hfill : Instr.fill (fun i => some (i * ye.size, ye.size)) ((Array.range (len * ye.size)).map fun x => zv.cells[x % zv.cells.size]!) parts' = some r'.toArray := by
      rw [← e']
      by_cases h0 : ye.size = 0
      · have hz0 : z = [] := List.eq_nil_of_length_eq_zero (by omega)
        congr 1; apply Array.ext'; rw [hz0]
        have : ∀ n, repeatCells [] n = [] := fun n => by induction n with | zero => rfl | succ n ih => simp [repeatCells, ih]
        simp [h0, this]
      · have hsz : zv.cells.size = ye.size := by
          have hq : zv.cells.toList.length = z.length := by rw [hzc]
          rw [Array.length_toList] at hq; omega
        congr 1; apply Array.ext'
        rw [← hzc, ← zeros_toList _ _ (by omega), hsz]
    have hfill' : Instr.fill (fun i => some (i * ye.size, ye.size)) ((Array.range (len * ye.size)).map fun x => (if len * ye.size = 0 then #[] else zv.cells)[x % (if len * ye.size = 0 then (#[] : Array Value) else zv.cells).size]!) parts' = some r'.toArray := by
      by_cases h0 : len * ye.size = 0
      · rw [← hfill]; congr 1; rw [h0]; simp
      · simp only [if_neg h0]; exact hfill
    simp only [Instr.buildSlice, Sem.run_bind, hu, Result.andThen_ok, hE.size hye, Sem.run_ite, Sem.run_pure]
    rw [if_neg (by omega)]
    by_cases h0 : len * ye.size = 0
    · simp only [if_pos h0] at hfill'
      rw [if_pos h0, hfill']; rfl
    · rw [if_neg h0, hzr]
      simp only [Result.andThen_ok]
      rw [hfill]; rfl

theorem lay_makeSlice (hE : EnvOk E P) (ι : Inj) (w : World) {t : Nat} {l c l' c' v : Value} (hm : makeSliceV E m t l c = some (v, m1)) (hl : VR ι l l') (hc : VR ι c c') :
    ∃ n k cs es tg w1 v', (∀ m', makeSliceV E m' t l c = some (.slice (some (addr m'.size 0)) n k, m'.new (.row cs .rw es none))) ∧ (Instr.makeSlice t l' c').run P w = .ok v' w1 ∧
      Laid E ι w tg cs es w1 ∧ ∀ (ι1 : Inj) (X : Nat), ι1 X = some tg → VR ι1 (.slice (some (addr X 0)) n k) v' := by
  unfold makeSliceV at hm
  split at hm
  case h_2 => cases hm
  rename_i y k1 l k2 c hy
  cases hl; cases hc
  split at hm
  case h_2 => cases hm
  rename_i e hd
  split at hm
  case h_2 => cases hm
  rename_i ye z hye hz
  split at hm
  case isFalse => cases hm
  rename_i hcond
  have hcond0 := hcond
  obtain ⟨hl0, hlc, hcm, hbytes, hzl⟩ := hcond
  simp only [newRow, Option.some.injEq, Prod.mk.injEq] at hm
  obtain ⟨rfl, rfl⟩ := hm
  obtain ⟨zv, hzr, hzc, _, hzV⟩ := hE.zero hz w
  obtain ⟨i, hi, _, hib, _⟩ := hE.infoR hye w
  have hu := hE.und hy
  rw [hd] at hu
  have hsz : zv.cells.size = ye.size := by
    have hq : zv.cells.toList.length = z.length := by rw [hzc]
    rw [Array.length_toList] at hq; omega
  refine ⟨l.toNat, 2 * c.toNat, repeatCells z c.toNat, ye.size, _, _, .slice (some ⟨w.heap.size, 0, none⟩) l.toNat c.toNat, fun m' => ?_, ?_, lay_new ((hzV ι).repeat c.toNat) e ye.size, fun ι1 X hX => .sex 0 _ _ hX⟩
  · unfold makeSliceV
    simp only [hy, hd, hye, hz, newRow]
    rw [if_pos hcond0]
  have w1e := wrap_small (n := l) hl0 (by omega)
  have w2e := wrap_small (n := c) (by omega) hcm
  have hbad : ((decide (c < 0) || decide ((i.bytes : Int) * c > 2 ^ 48)) || decide (l < 0) || decide (l > c)) = false := by
    simp only [Bool.or_eq_false_iff, decide_eq_false_iff_not]
    rw [hib]
    refine ⟨⟨⟨by omega, ?_⟩, by omega⟩, by omega⟩
    have : (2 : Int) ^ 48 = 281474976710656 := by decide
    omega
  have hcells : ((Array.range (c.toNat * ye.size)).map fun x => (if c.toNat * ye.size = 0 then (#[] : Array Value) else zv.cells)[x % (if c.toNat * ye.size = 0 then (#[] : Array Value) else zv.cells).size]!) = (repeatCells z c.toNat).toArray := by
    apply Array.ext'
    by_cases h0 : c.toNat * ye.size = 0
    · rw [h0]
      have : repeatCells z c.toNat = [] := List.eq_nil_of_length_eq_zero (by rw [repeat_length, hzl]; exact h0)
      rw [this]; simp
    · simp only [if_neg h0]
      have hne : ye.size ≠ 0 := fun e => h0 (by rw [e]; simp)
      rw [← hsz, zeros_toList _ _ (by omega), hzc]
  simp only [Instr.makeSlice, Sem.run_bind, hu, Result.andThen_ok, asInt, asIntOf, Sem.run_pure, hi, w1e, w2e, Sem.run_ite]
  rw [if_neg (by rw [hbad]; decide)]
  simp only [run_askRoom, Result.andThen_ok, hE.size hye]
  by_cases h0 : c.toNat * ye.size = 0
  · rw [if_pos h0]
    simp only [if_pos h0] at hcells
    rw [hcells]; rfl
  · rw [if_neg h0, hzr]
    simp only [if_neg h0] at hcells
    simp only [Result.andThen_ok]
    rw [hcells]; rfl

theorem lay_bytes (hd : w1.heap = w.heap) (h1 : w1.os = w.os) (h2 : w1.tape = w.tape) (h3 : w1.output = w.output) (l : List UInt8) (cap : Nat) (hc : l.length ≤ cap) (el : TypeId) (w2 : World)
    (hw2 : w2 = (w1.alloc (.cells ((byteCells l).toArray ++ Array.replicate (cap - l.length) (.int .u8 0)) el)).freeze ⟨w1.heap.size, cap, none⟩ 1) :
    Laid E ι w ⟨w.heap.size, 0, cap, 1⟩ (byteCells l) 1 w2 := by
  have hheap : w2.heap = w.heap.push (.cells ((byteCells l).toArray ++ Array.replicate (cap - l.length) (.int .u8 0)) el (cap, cap + 1)) := by
    rw [hw2, freeze_push, hd]
  have hst : w2.os = w.os ∧ w2.tape = w.tape ∧ w2.output = w.output := by
    rw [hw2]; unfold World.freeze; rw [if_neg (by omega)]; exact ⟨h1, h2, h3⟩
  have hb : w2.heap[w.heap.size]? = some (.cells ((byteCells l).toArray ++ Array.replicate (cap - l.length) (.int .u8 0)) el (cap, cap + 1)) := by rw [hheap]; simp
  have hlen : ((byteCells l).toArray ++ Array.replicate (cap - l.length) (Value.int .u8 0)).size = cap := by simp [byteCells_length]; omega
  refine ⟨⟨_, hheap⟩, hst.1, hst.2.1, hst.2.2, rfl, fun ι1 _ => ⟨fun j v e => ?_, fun _ => ⟨rfl, by simp [byteCells_length]; omega, _, el, _, hb, hlen, fun j hj => ?_⟩⟩⟩
  · refine ⟨v, ?_, ?_⟩
    · rw [cell?_block hb]
      have hj : j < (byteCells l).length := by
        rcases Nat.lt_or_ge j (byteCells l).length with hx | hx
        · exact hx
        · rw [List.getElem?_eq_none hx] at e; cases e
      simp only [Nat.zero_add]
      rw [Array.getElem?_append_left (by simpa using hj)]
      simpa using e
    · obtain ⟨v', e', hr⟩ := (VRs.ints (ι := ι1) l).get e
      rw [e] at e'; cases e'; exact hr
  · have hj' : j < cap := by simpa [fzTo] using hj
    unfold World.frozen?; rw [hb]; simp; omega

theorem lay_conv (hE : EnvOk E P) (ι : Inj) (w : World) {src dst : Nat} {x x' v : Value} {y : Ty} {e0 : TypeId} (hy : E.ty dst = some y) (hyd : y.desc = .slice e0) (hc : convV E m src dst x = some (v, m1)) (hx : VR ι x x') :
    ∃ n k cs es tg w1 v', (∀ m', convV E m' src dst x = some (.slice (some (addr m'.size 0)) n k, m'.new (.row cs .rw es none))) ∧ (convert src dst x').run P w = .ok v' w1 ∧
      Laid E ι w tg cs es w1 ∧ ∀ (ι1 : Inj) (X : Nat), ι1 X = some tg → VR ι1 (.slice (some (addr X 0)) n k) v' := by
  unfold convV at hc
  split at hc
  case h_2 => cases hc
  rename_i s d hs hd
  rw [hy] at hd; cases hd
  have hd := hy
  have us := hE.und hs
  have ud := hE.und hd
  split at hc
  · rename_i hdd; rw [hyd] at hdd; cases hdd
  · rename_i hdd; rw [hyd] at hdd; cases hdd
  · rename_i e st hdd
    cases hx
    rw [hdd] at ud
    split at hc
    case h_2 => cases hc
    rename_i ye hye
    have ue := hE.und hye
    split at hc
    case h_2 => cases hc
    rename_i hed
    rw [hed] at ue
    simp only [newRow, Option.some.injEq, Prod.mk.injEq] at hc
    obtain ⟨rfl, rfl⟩ := hc
    have hl : st.data.toList.length = st.size := Array.length_toList
    have hcap : st.size ≤ (Question.appendCap st.size 0 e).cut (w.tape w.drawn (Question.appendCap st.size 0 e)) := by simp [Question.cut]
    generalize hcg : (Question.appendCap st.size 0 e).cut (w.tape w.drawn (Question.appendCap st.size 0 e)) = cap at hcap
    refine ⟨st.data.toList.length, loCap st.data.toList.length 1, byteCells st.data.toList, 1, ⟨w.heap.size, 0, cap, 1⟩, _, .slice (some ⟨w.heap.size, 0, none⟩) st.size cap, fun m' => ?_, ?_, lay_bytes (w1 := w.drew) rfl rfl rfl rfl st.data.toList cap (by omega) e _ rfl, fun ι1 X hX => ?_⟩
    · unfold convV
      simp only [hs, hd, hdd, hye, hed, newRow]
    · have e1 : (st.data.map fun b => Value.int .u8 b.toNat) = (byteCells st.data.toList).toArray := by
        apply Array.ext'; rw [byteCells_map]; simp
      simp only [convert, Sem.run_bind, us, ud, Result.andThen_ok]
      have : ∀ d0 : TypeDesc, (match d0, TypeDesc.slice e, Value.string st with
          | _, _, _ => (do match ← underlying e with
                             | .int .u8 => Conv.stringToBytes e st
                             | .int .i32 => Conv.stringToRunes e st
                             | _ => stuck "Convert: string to a slice of what?" : Sem Value)).run P w = (Conv.stringToBytes e st).run P w := fun d0 => by simp [ue]
      have hrun : (Conv.stringToBytes e st).run P w = .ok (.slice (some ⟨w.heap.size, 0, none⟩) st.size cap)
          ((w.drew.alloc (.cells ((byteCells st.data.toList).toArray ++ Array.replicate (cap - st.data.toList.length) (.int .u8 0)) e)).freeze ⟨w.drew.heap.size, cap, none⟩ 1) := by
        have hsh : ∀ (c : Array Value) (el : TypeId), (w.drew.alloc (.cells c el)).shape? w.heap.size = some (el, c.size) := fun c el => by
          unfold World.shape?
          have : (w.drew.alloc (.cells c el)).heap[w.heap.size]? = some (.cells c el) := by show (w.heap.push _)[w.heap.size]? = _; simp
          rw [this]
        unfold Conv.stringToBytes
        simp only [Sem.run_bind, run_choose, Question.forced, Bool.false_eq_true, if_false, Result.andThen_ok, hcg, Go.newRow, run_newObj, World.drew_eq, World.alloc_eq, Sem.run_pure, e1, markStringish, run_shape]
        have hsz : w.drew.heap.size = w.heap.size := rfl
        rw [hsz, hsh]
        have hcs : ((byteCells st.data.toList).toArray ++ Array.replicate (cap - st.size) (Value.int .u8 0)).size = cap := by simp [byteCells_length]; omega
        simp only [run_freeze, Result.andThen_ok, hcs, hl]
      cases s.desc <;> simp only [ue, Result.andThen_ok] <;> exact hrun
    · rw [hl]
      exact VR.slo 0 st.size st.size cap hX hcap (by simp) (show (1 : Nat) < 4096 by omega)
  · rename_i hdd; rw [hyd] at hdd; cases hdd
  · rename_i hdd; rw [hyd] at hdd; cases hdd
  · cases hc


/-- An operation that lays a new row: what it lays and what it yields, wherever that comes to lie. -/
theorem fresh_sim (hE : EnvOk E P) (h : Rel E ι m w) {tm : Tr Value} {nt : Nat} {a : Act} (hT : TR ι tm nt a.tmps) {o : Oper} {r : ANext} (ho : opOk E.ng o.op = true) (hc : (cls E o.op).isFresh = true) {m0 : Mem}
    (hr : aop E (ev tm) m0 o = some r) : ∃ (F : Nat → Value) (cs : List Value) (es : Nat), (∀ m', aop E (ev tm) m' o = some (.val (F m'.size) (m'.new (.row cs .rw es none)))) ∧
      ∃ tg w1 v', (execOp a.eval o).run P w = .ok (.value v') w1 ∧ Laid E ι w tg cs es w1 ∧ ∀ (ι1 : Inj) (X : Nat), ι1 X = some tg → VR ι1 (F X) v' := by
  rw [aop_def] at hr
  cases hop : o.op with
  | alloc e =>
    rw [hop] at hr
    simp only at hr
    split at hr
    · rename_i z hz
      obtain ⟨zv, hzr, hzc, _, hzV⟩ := hE.zero hz w
      refine ⟨fun X => .pointer (some (addr X 0)), z, 0, fun m' => by simp [aop_def, hop, hz, newRow], _, _, .pointer (some ⟨w.heap.size, 0, none⟩), ?_, lay_new (hzV ι) e 0, fun ι1 X hX => VR.ptr 0 hX⟩
      have : zv.cells = z.toArray := by apply Array.ext'; simpa using hzc
      simp [execOp, hop, Instr.alloc, hzr, newVar, Go.newRow, this]
    · cases hr
  | box e x =>
    rw [hop] at hr ho
    have hx := (ev_rel h hT ho).cells
    refine ⟨fun X => .pointer (some (addr X 0)), (ev tm x).cells.toList, 0, fun m' => by simp [aop_def, hop, newRow], _, _, .pointer (some ⟨w.heap.size, 0, none⟩), ?_, lay_new hx e 0, fun ι1 X hX => VR.ptr 0 hX⟩
    simp [execOp, hop, Instr.box, newVar, Go.newRow]
  | buildSlice t len parts =>
    rw [hop] at hr ho
    simp only at hr
    cases hb : buildSliceV E m0 t len (parts.toList.map fun p => (p.1, ev tm p.2)) with
    | none => rw [hb] at hr; cases hr
    | some q =>
      obtain ⟨v, m1⟩ := q
      obtain ⟨n, k, cs, es, tg, w1, v', h1, h2, h3, h4⟩ := lay_buildSlice (P := P) hE ι w hb (parts_rel h hT ho)
      have e1 : (parts.map fun (i, x) => (i, a.eval x)) = (parts.toList.map fun p => (p.1, a.eval p.2)).toArray := by apply Array.ext'; simp
      exact ⟨fun X => .slice (some (addr X 0)) n k, cs, es, fun m' => by simp [aop_def, hop, h1], tg, w1, v', by simp [execOp, hop, e1, h2], h3, h4⟩
  | makeSlice t x y =>
    rw [hop] at hr ho
    simp only [opOk, Bool.and_eq_true] at ho
    simp only at hr
    cases hb : makeSliceV E m0 t (ev tm x) (ev tm y) with
    | none => rw [hb] at hr; cases hr
    | some q =>
      obtain ⟨v, m1⟩ := q
      obtain ⟨n, k, cs, es, tg, w1, v', h1, h2, h3, h4⟩ := lay_makeSlice (P := P) hE ι w hb (ev_rel h hT ho.1) (ev_rel h hT ho.2)
      exact ⟨fun X => .slice (some (addr X 0)) n k, cs, es, fun m' => by simp [aop_def, hop, h1], tg, w1, v', by simp [execOp, hop, h2], h3, h4⟩
  | convert s d x =>
    rw [hop] at hr ho hc
    simp only at hr
    simp only [cls, clsConv] at hc
    cases hb : convV E m0 s d (ev tm x) with
    | none => rw [hb] at hr; cases hr
    | some q =>
      obtain ⟨v, m1⟩ := q
      split at hc
      · rename_i y hy
        split at hc
        · rename_i e0 hyd
          obtain ⟨n, k, cs, es, tg, w1, v', h1, h2, h3, h4⟩ := lay_conv (P := P) hE ι w hy hyd hb (ev_rel h hT ho)
          exact ⟨fun X => .slice (some (addr X 0)) n k, cs, es, fun m' => by simp [aop_def, hop, h1], tg, w1, v', by simp [execOp, hop, h2], h3, h4⟩
        · cases hc
      · cases hc
  | call c => rw [hop] at hc; simp only [cls] at hc; split at hc <;> cases hc
  | _ => rw [hop] at hc; cases hc

/-- The same, of the machine alone. -/
theorem aop_fresh {ρ : Operand → Value} {o : Oper} {r : ANext} (hc : (cls E o.op).isFresh = true) (hr : aop E ρ m o = some r) : ∃ v cs es, r = .val v (m.new (.row cs .rw es none)) := by
  rw [aop_def] at hr
  cases hop : o.op with
  | alloc e =>
    rw [hop] at hr
    simp only [newRow] at hr
    split at hr
    · cases hr; exact ⟨_, _, _, rfl⟩
    · cases hr
  | box e x => rw [hop] at hr; simp only [newRow] at hr; cases hr; exact ⟨_, _, _, rfl⟩
  | buildSlice t len parts =>
    rw [hop] at hr
    simp only [Option.map_eq_some_iff] at hr
    obtain ⟨⟨v, m1⟩, hb, e⟩ := hr
    cases e
    unfold buildSliceV at hb
    simp only [Bool.cond_eq_ite, newRow] at hb
    repeat' split at hb
    all_goals cases hb
    exact ⟨_, _, _, rfl⟩
  | makeSlice t x y =>
    rw [hop] at hr
    simp only [Option.map_eq_some_iff] at hr
    obtain ⟨⟨v, m1⟩, hb, e⟩ := hr
    cases e
    unfold makeSliceV at hb
    simp only [newRow] at hb
    repeat' split at hb
    all_goals cases hb
    exact ⟨_, _, _, rfl⟩
  | convert s d x =>
    rw [hop] at hr hc
    simp only [Option.map_eq_some_iff] at hr
    obtain ⟨⟨v, m1⟩, hb, e⟩ := hr
    cases e
    simp only [cls, clsConv] at hc
    split at hc
    · rename_i y hy
      split at hc
      · rename_i e0 hyd
        unfold convV at hb
        split at hb
        · rename_i s' d' hs hd
          rw [hy] at hd; cases hd
          rw [hyd] at hb
          split at hb
          all_goals first | contradiction | skip
          · simp only [newRow] at hb
            repeat' split at hb
            all_goals cases hb
            exact ⟨_, _, _, rfl⟩
        · cases hb
      · cases hc
    · cases hc
  | call c => rw [hop] at hc; simp only [cls] at hc; split at hc <;> cases hc
  | _ => rw [hop] at hc; cases hc
end
end Go.Am
