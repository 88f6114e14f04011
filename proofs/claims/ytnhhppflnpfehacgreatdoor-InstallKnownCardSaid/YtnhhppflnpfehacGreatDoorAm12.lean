/- What each operation comes to on the model's side: conversions, new slices, appends, iterators. -/
import Derived.Test.YtnhhppflnpfehacGreatDoorAm11
namespace Go.Am
open Go.RowKit

section
variable {E : Env} {P : Program} {ι ι1 ι2 : Inj} {m m1 m2 : Mem} {w w1 w2 : World}

/-! ### Bytes and texts -/
theorem byteCells_map : ∀ l : List UInt8, byteCells l = l.map fun b => Value.int .u8 b.toNat
  | [] => rfl
  | b :: r => by simp [byteCells, byteCells_map r]
theorem VRs.ints : ∀ l : List UInt8, VRs ι (byteCells l) (byteCells l)
  | [] => .nil
  | _ :: r => .cons (.int _ _) (VRs.ints r)
theorem byteCells_length (l : List UInt8) : (byteCells l).length = l.length := by rw [byteCells_map]; simp

theorem cellsBytes_spec : ∀ {cs cs' : List Value} {l : List UInt8}, cellsBytes cs = some l → VRs ι cs cs' → ∃ ns : List Int, cs' = ns.map (Value.int .u8) ∧ l = ns.map fun n => UInt8.ofNat n.toNat
  | [], cs', l, h, hc => by cases hc; simp [cellsBytes] at h; subst h; exact ⟨[], rfl, rfl⟩
  | c :: r, cs', l, h, hc => by
    cases hc with
    | cons h1 h2 =>
    cases c with
    | int k n =>
      cases k <;> simp only [cellsBytes] at h
      all_goals first | (cases h; done) | skip
      cases hr : cellsBytes r with
      | none => rw [hr] at h; cases h
      | some l' =>
        rw [hr] at h; cases h
        cases h1
        obtain ⟨ns, e1, e2⟩ := cellsBytes_spec hr h2
        exact ⟨n :: ns, by simp [e1], by simp [e2]⟩
    | _ => simp [cellsBytes] at h

theorem foldl_push : ∀ (ns : List Int) (s : ByteArray), (ns.foldl (fun r n => r.push (UInt8.ofNat n.toNat)) s).data.toList = s.data.toList ++ ns.map fun n => UInt8.ofNat n.toNat
  | [], s => by simp
  | n :: r, s => by
    rw [List.foldl_cons, foldl_push r]
    simp [ByteArray.push]

/-- A frozen mark behind the last cell. -/
theorem freeze_push (w : World) (c : Array Value) (el : TypeId) (n : Nat) :
    ((w.alloc (.cells c el)).freeze ⟨w.heap.size, n, none⟩ 1).heap = w.heap.push (.cells c el (n, n + 1)) := by
  have h1 : ((w.alloc (.cells c el)).freeze ⟨w.heap.size, n, none⟩ 1) = { (w.alloc (.cells c el)) with heap := (w.alloc (.cells c el)).heap.modify w.heap.size fun
      | .cells c elem (lo, hi) => .cells c elem (if lo == hi then (n, n + 1) else (min lo n, max hi (n + 1)))
      | o => o } := by
    unfold World.freeze; rw [if_neg (by omega)]; rfl
  rw [h1]
  apply Array.ext_getElem?
  intro i
  simp only [World.alloc, Array.getElem?_modify, Array.getElem?_push]
  by_cases hi : i = w.heap.size
  · subst hi; simp
  · rw [if_neg (Ne.symm hi)]
    simp [hi]

theorem sim_bytes_new (h : Rel E ι m w) (hd : w1.heap = w.heap) (h1 : w1.os = w.os) (h2 : w1.tape = w.tape) (h3 : w1.output = w.output) (l : List UInt8) (cap : Nat) (hc : l.length ≤ cap) (el : TypeId) (w2 : World)
    (hw2 : w2 = (w1.alloc (.cells ((byteCells l).toArray ++ Array.replicate (cap - l.length) (.int .u8 0)) el)).freeze ⟨w1.heap.size, cap, none⟩ 1) :
    Step E ι m w (ι.put m.size ⟨w.heap.size, 0, cap, 1⟩) (newRow m (byteCells l) 1).2 w2 ∧ (ι.put m.size ⟨w.heap.size, 0, cap, 1⟩) m.size = some ⟨w.heap.size, 0, cap, 1⟩ := by
  have hs := Inj.put_sub (ι := ι) ⟨w.heap.size, 0, cap, 1⟩ h.none_of_size
  have hheap : w2.heap = w.heap.push (.cells ((byteCells l).toArray ++ Array.replicate (cap - l.length) (.int .u8 0)) el (cap, cap + 1)) := by
    rw [hw2, freeze_push, hd]
  have hst : w2.os = w.os ∧ w2.tape = w.tape ∧ w2.output = w.output := by
    rw [hw2]; unfold World.freeze; rw [if_neg (by omega)]; exact ⟨h1, h2, h3⟩
  have hb : w2.heap[w.heap.size]? = some (.cells ((byteCells l).toArray ++ Array.replicate (cap - l.length) (.int .u8 0)) el (cap, cap + 1)) := by rw [hheap]; simp
  have hlen : ((byteCells l).toArray ++ Array.replicate (cap - l.length) (Value.int .u8 0)).size = cap := by simp [byteCells_length]; omega
  refine ⟨Step.new h hheap hst.1 hst.2.1 hst.2.2 rfl ?_ (fun _ _ _ _ e => by cases e), by unfold Inj.put; rw [if_pos rfl]⟩
  refine ⟨fun j v e => ?_, fun _ => ⟨rfl, by simp [byteCells_length]; omega, _, el, _, hb, hlen, fun j hj => ?_⟩⟩
  · refine ⟨v, ?_, ?_⟩
    · rw [cell?_block hb]
      have hj : j < (byteCells l).length := by
        rcases Nat.lt_or_ge j (byteCells l).length with hx | hx
        · exact hx
        · rw [List.getElem?_eq_none hx] at e; cases e
      simp only [Nat.zero_add]
      rw [Array.getElem?_append_left (by simpa using hj)]
      simpa using e
    · obtain ⟨v', e', hr⟩ := (VRs.ints (ι := ι.put m.size ⟨w.heap.size, 0, cap, 1⟩) l).get e
      rw [e] at e'; cases e'; exact hr
  · have hj' : j < cap := by simpa [fzTo] using hj
    unfold World.frozen?; rw [hb]; simp; omega

theorem cells_zero {a : Addr} {cs : List Value} (h : m.cells a 0 = some cs) : cs = [] := by
  unfold Mem.cells at h
  split at h
  · rename_i rs _ _ _ _
    cases hb : Nat.ble (a.off + 0) rs.length with
    | false => rw [hb] at h; cases h
    | true => rw [hb] at h; simp only [cond_true, Option.some.injEq] at h; rw [← h]; rfl
  · cases h

theorem sim_conv (hE : EnvOk E P) (h : Rel E ι m w) {src dst : Nat} {x x' v : Value} (hc : convV E m src dst x = some (v, m1)) (hx : VR ι x x') :
    ∃ ι1 w1 v', (convert src dst x').run P w = .ok v' w1 ∧ VR ι1 v v' ∧ Step E ι m w ι1 m1 w1 := by
  unfold convV at hc
  split at hc
  case h_2 => cases hc
  rename_i s d hs hd
  have us := hE.und hs
  have ud := hE.und hd
  split at hc
  · rename_i k k0 n hdd
    cases hx; cases hc
    rw [hdd] at ud
    refine ⟨ι, w, _, ?_, .int _ _, Step.refl h⟩
    simp only [convert, Sem.run_bind, us, ud, Result.andThen_ok]
    cases s.desc <;> rfl
  · rename_i st hdd
    cases hx; cases hc
    rw [hdd] at ud
    refine ⟨ι, w, _, ?_, .str _, Step.refl h⟩
    simp only [convert, Sem.run_bind, us, ud, Result.andThen_ok]
    cases s.desc <;> rfl
  · rename_i e st hdd
    cases hx
    rw [hdd] at ud
    split at hc
    case h_2 => cases hc
    rename_i ye hye
    have ue := hE.und hye
    split at hc
    case h_2 => cases hc
    rename_i hed
    rw [hed] at ue
    simp only [newRow, Option.some.injEq, Prod.mk.injEq] at hc
    obtain ⟨rfl, rfl⟩ := hc
    have hl : st.data.toList.length = st.size := Array.length_toList
    have hcap : st.size ≤ (Question.appendCap st.size 0 e).cut (w.tape w.drawn (Question.appendCap st.size 0 e)) := by simp [Question.cut]
    generalize hcg : (Question.appendCap st.size 0 e).cut (w.tape w.drawn (Question.appendCap st.size 0 e)) = cap at hcap
    have := sim_bytes_new h (w1 := w.drew) rfl rfl rfl rfl st.data.toList cap (by omega) e _ rfl
    obtain ⟨hstep, hput⟩ := this
    refine ⟨_, _, .slice (some ⟨w.heap.size, 0, none⟩) st.size cap, ?_, ?_, hstep⟩
    · have e1 : (st.data.map fun b => Value.int .u8 b.toNat) = (byteCells st.data.toList).toArray := by
        apply Array.ext'; rw [byteCells_map]; simp
      simp only [convert, Sem.run_bind, us, ud, Result.andThen_ok]
      have : ∀ d0 : TypeDesc, (match d0, TypeDesc.slice e, Value.string st with
          | _, _, _ => (do match ← underlying e with
                             | .int .u8 => Conv.stringToBytes e st
                             | .int .i32 => Conv.stringToRunes e st
                             | _ => stuck "Convert: string to a slice of what?" : Sem Value)).run P w = (Conv.stringToBytes e st).run P w := fun d0 => by simp [ue]
      have hrun : (Conv.stringToBytes e st).run P w = .ok (.slice (some ⟨w.heap.size, 0, none⟩) st.size cap)
          ((w.drew.alloc (.cells ((byteCells st.data.toList).toArray ++ Array.replicate (cap - st.data.toList.length) (.int .u8 0)) e)).freeze ⟨w.drew.heap.size, cap, none⟩ 1) := by
        have hsh : ∀ (c : Array Value) (el : TypeId), (w.drew.alloc (.cells c el)).shape? w.heap.size = some (el, c.size) := fun c el => by
          unfold World.shape?
          have : (w.drew.alloc (.cells c el)).heap[w.heap.size]? = some (.cells c el) := by show (w.heap.push _)[w.heap.size]? = _; simp
          rw [this]
        unfold Conv.stringToBytes
        simp only [Sem.run_bind, run_choose, Question.forced, Bool.false_eq_true, if_false, Result.andThen_ok, hcg, Go.newRow, run_newObj, World.drew_eq, World.alloc_eq, Sem.run_pure, e1, markStringish, run_shape]
        have hsz : w.drew.heap.size = w.heap.size := rfl
        rw [hsz, hsh]
        have hcs : ((byteCells st.data.toList).toArray ++ Array.replicate (cap - st.size) (Value.int .u8 0)).size = cap := by simp [byteCells_length]; omega
        simp only [run_freeze, Result.andThen_ok, hcs, hl]
      cases s.desc <;> simp only [ue, Result.andThen_ok] <;> exact hrun
    · rw [hl]
      exact VR.slo 0 st.size st.size cap hput hcap (by simp) (show (1 : Nat) < 4096 by omega)
  · rename_i e _ _ hsd hdd
    cases hx
    rw [hdd] at ud
    rw [hsd] at us
    split at hc
    case h_2 => cases hc
    rename_i ye hye
    have ue := hE.und hye
    split at hc
    case h_2 => cases hc
    rename_i hed
    rw [hed] at ue
    cases hc
    refine ⟨ι, w, _, ?_, .str _, Step.refl h⟩
    simp [convert, us, ud, ue, Conv.bytesToString]
    rfl
  · rename_i e a n k hsd hdd
    rw [hdd] at ud
    rw [hsd] at us
    split at hc
    case h_2 => cases hc
    rename_i ye hye
    have ue := hE.und hye
    split at hc
    case h_2 => cases hc
    rename_i hed
    rw [hed] at ue
    -- an empty slice reads nothing
    have hempty : ∀ (a' : Addr) (c : Nat), (convert src dst (.slice (some a') 0 c)).run P w = .ok (.string ⟨#[]⟩) w := fun a' c => by
      have hl : (loadCells a' 0).run P w = .ok (([] : List Int).map (Value.int .u8)).toArray w := by simp [loadCells, loadCellsFrom]
      have := run_bytesToString w a' 0 c [] hl
      simp only [convert, Sem.run_bind, us, ud, ue, Result.andThen_ok, this]
      rfl
    have hfull : ∀ (b o : Nat) (t : Tgt) (cs : List Value) (l : List UInt8) (c : Nat), ι b = some t → m.cells ⟨b, o, none⟩ n = some cs → cellsBytes cs = some l →
        (convert src dst (.slice (some ⟨t.blk, t.dlt + o, none⟩) n c)).run P w = .ok (.string ⟨l.toArray⟩) w := fun b o t cs l c hb hcs hl => by
      obtain ⟨hlen, cs', hr, hcell⟩ := load_cells h hb hcs
      obtain ⟨ns, e1, e2⟩ := cellsBytes_spec hl hr
      have hld := run_loadCells (P := P) (w := w) (b := t.blk) (o := t.dlt + o) (vs := cs') hcell
      rw [← hr.length, hlen, e1] at hld
      have := run_bytesToString w ⟨t.blk, t.dlt + o, none⟩ n c ns hld
      simp only [convert, Sem.run_bind, us, ud, ue, Result.andThen_ok, this]
      congr 2
      apply ByteArray.ext
      apply Array.ext'
      rw [foldl_push, e2]; rfl
    split at hc
    · rename_i cs hcs
      cases hl : cellsBytes cs with
      | none => rw [hl] at hc; cases hc
      | some l =>
        rw [hl] at hc; cases hc
        cases hx with
        | @sex b t o _ _ hb => exact ⟨ι, w, _, hfull b o t cs l _ hb hcs hl, .str _, Step.refl h⟩
        | @slo b t o _ _ _ hb _ _ _ => exact ⟨ι, w, _, hfull b o t cs l _ hb hcs hl, .str _, Step.refl h⟩
        | semp _ a' es he =>
          have : cs = [] := cells_zero hcs
          subst this; simp [cellsBytes] at hl; subst hl
          exact ⟨ι, w, _, hempty _ _, .str _, Step.refl h⟩
        | sem0 _ a' =>
          have : cs = [] := cells_zero hcs
          subst this; simp [cellsBytes] at hl; subst hl
          exact ⟨ι, w, _, hempty _ _, .str _, Step.refl h⟩
    · cases hn : Nat.beq n 0 with
      | false => rw [hn] at hc; cases hc
      | true =>
        have := Nat.eq_of_beq_eq_true hn; subst this
        rw [hn] at hc; simp only [cond_true, Option.some.injEq, Prod.mk.injEq] at hc
        obtain ⟨rfl, rfl⟩ := hc
        cases hx with
        | sex => exact ⟨ι, w, _, hempty _ _, .str _, Step.refl h⟩
        | slo => exact ⟨ι, w, _, hempty _ _, .str _, Step.refl h⟩
        | semp => exact ⟨ι, w, _, hempty _ _, .str _, Step.refl h⟩
        | sem0 => exact ⟨ι, w, _, hempty _ _, .str _, Step.refl h⟩
  · cases hc

/-! ### make -/
theorem wrap_small {n : Int} (h0 : 0 ≤ n) (h1 : n ≤ 4611686018427387904) : IntKind.i64.wrap n = n := by
  have e : n % (2 ^ 64 : Int) = n := Int.emod_eq_of_lt h0 (by omega)
  have h2 : ¬ n ≥ (2 ^ 63 : Int) := by omega
  show (if (true && decide (n % (2 ^ 64 : Int) ≥ (2 ^ 63 : Int))) = true then n % (2 ^ 64 : Int) - (2 ^ 64 : Int) else n % (2 ^ 64 : Int)) = n
  simp only [e, decide_eq_false h2, Bool.and_false, Bool.false_eq_true, if_false]

theorem sim_makeSlice (hE : EnvOk E P) (h : Rel E ι m w) {t : Nat} {l c l' c' v : Value} (hm : makeSliceV E m t l c = some (v, m1)) (hl : VR ι l l') (hc : VR ι c c') :
    ∃ ι1 w1 v', (Instr.makeSlice t l' c').run P w = .ok v' w1 ∧ VR ι1 v v' ∧ Step E ι m w ι1 m1 w1 := by
  unfold makeSliceV at hm
  split at hm
  case h_2 => cases hm
  rename_i y k1 l k2 c hy
  cases hl; cases hc
  split at hm
  case h_2 => cases hm
  rename_i e hd
  split at hm
  case h_2 => cases hm
  rename_i ye z hye hz
  split at hm
  case isFalse => cases hm
  rename_i hcond
  obtain ⟨hl0, hlc, hcm, hbytes, hzl⟩ := hcond
  simp only [newRow, Option.some.injEq, Prod.mk.injEq] at hm
  obtain ⟨rfl, rfl⟩ := hm
  obtain ⟨zv, hzr, hzc, _, hzV⟩ := hE.zero hz w
  obtain ⟨i, hi, _, hib, _⟩ := hE.infoR hye w
  obtain ⟨hst, hput⟩ := sim_new h ((hzV ι).repeat c.toNat) e ye.size
  have hu := hE.und hy
  rw [hd] at hu
  have hsz : zv.cells.size = ye.size := by
    have hq : zv.cells.toList.length = z.length := by rw [hzc]
    rw [Array.length_toList] at hq; omega
  refine ⟨_, _, .slice (some ⟨w.heap.size, 0, none⟩) l.toNat c.toNat, ?_, .sex 0 _ _ hput, hst⟩
  have w1e := wrap_small (n := l) hl0 (by omega)
  have w2e := wrap_small (n := c) (by omega) hcm
  have hbad : ((decide (c < 0) || decide ((i.bytes : Int) * c > 2 ^ 48)) || decide (l < 0) || decide (l > c)) = false := by
    simp only [Bool.or_eq_false_iff, decide_eq_false_iff_not]
    rw [hib]
    refine ⟨⟨⟨by omega, ?_⟩, by omega⟩, by omega⟩
    have : (2 : Int) ^ 48 = 281474976710656 := by decide
    omega
  have hcells : ((Array.range (c.toNat * ye.size)).map fun x => (if c.toNat * ye.size = 0 then (#[] : Array Value) else zv.cells)[x % (if c.toNat * ye.size = 0 then (#[] : Array Value) else zv.cells).size]!) = (repeatCells z c.toNat).toArray := by
    apply Array.ext'
    by_cases h0 : c.toNat * ye.size = 0
    · rw [h0]
      have : repeatCells z c.toNat = [] := List.eq_nil_of_length_eq_zero (by rw [repeat_length, hzl]; exact h0)
      rw [this]; simp
    · simp only [if_neg h0]
      have hne : ye.size ≠ 0 := fun e => h0 (by rw [e]; simp)
      rw [← hsz, zeros_toList _ _ (by omega), hzc]
  simp only [Instr.makeSlice, Sem.run_bind, hu, Result.andThen_ok, asInt, asIntOf, Sem.run_pure, hi, w1e, w2e, Sem.run_ite]
  rw [if_neg (by rw [hbad]; decide)]
  simp only [run_askRoom, Result.andThen_ok, hE.size hye]
  by_cases h0 : c.toNat * ye.size = 0
  · rw [if_pos h0]
    simp only [if_pos h0] at hcells
    rw [hcells]; rfl
  · rw [if_neg h0, hzr]
    simp only [if_neg h0] at hcells
    simp only [Result.andThen_ok]
    rw [hcells]; rfl

/-! ### len, cap, max, min -/
theorem ERs.length {l l' : List MapEntry} (h : ERs ι l l') : l.length = l'.length := by induction h with | nil => rfl | cons _ _ ih => simp [ih]

theorem sim_len (hE : EnvOk E P) (h : Rel E ι m w) {t : Nat} {x x' v : Value} {ats : Array TypeId} {ty : TypeId} {args : Array Value} (hv : lenV E m t x = some v) (hx : VR ι x x') (h0 : ats[0]? = some t) (h1 : args[0]? = some x') :
    (Builtin.len_ ats ty args).run P w = .ok v w ∧ VR ι v v := by
  unfold lenV at hv
  split at hv
  · cases hv
  rename_i y hy
  have hu := hE.und hy
  split at hv
  · rename_i s hd
    cases hx; cases hv; rw [hd] at hu
    have e1 : s.data.toList.length = s.size := Array.length_toList
    exact ⟨by simp only [Builtin.len_, h0, h1, Sem.run_bind, hu, Result.andThen_ok, Sem.run_pure, goInt, e1], .int _ _⟩
  · rename_i n e hd
    cases hv; rw [hd] at hu
    exact ⟨by simp [Builtin.len_, h0, h1, hu, goInt], .int _ _⟩
  · rename_i n a l k hd
    rw [hd] at hu; cases hv
    cases hx <;> exact ⟨by simp [Builtin.len_, h0, h1, hu, goInt], .int _ _⟩
  · rename_i hd
    rw [hd] at hu; cases hv; cases hx
    exact ⟨by simp [Builtin.len_, h0, h1, hu, goInt], .int _ _⟩
  · rename_i hd
    rw [hd] at hu
    split at hv
    · rename_i es clock hg
      cases hv
      cases hx with
      | mp hb =>
        obtain ⟨es', hh, hes⟩ := h.obj _ _ _ hb hg
        have hl : es'.size = es.length := by have := hes.length; simpa using this.symm
        exact ⟨by simp [Builtin.len_, h0, h1, hu, goInt, getObj, Sem.run, hh, hl], .int _ _⟩
    · cases hv
  · cases hv

theorem sim_cap (hE : EnvOk E P) {t : Nat} {x x' v : Value} {ats : Array TypeId} {ty : TypeId} {args : Array Value} (hv : capV E t x = some v) (hx : VR ι x x') (h0 : ats[0]? = some t) (h1 : args[0]? = some x') :
    (Builtin.cap_ ats ty args).run P w = .ok v w ∧ VR ι v v := by
  unfold capV at hv
  split at hv
  · cases hv
  rename_i y hy
  have hu := hE.und hy
  split at hv
  · rename_i n e hd
    cases hv; rw [hd] at hu
    exact ⟨by simp [Builtin.cap_, h0, h1, hu, goInt], .int _ _⟩
  · rename_i n a l k hd
    rw [hd] at hu
    cases hev : Nat.beq (k % 2) 0 with
    | false => rw [hev] at hv; cases hv
    | true =>
      rw [hev] at hv; simp only [cond_true, Option.some.injEq] at hv; subst hv
      refine ⟨?_, .int _ _⟩
      cases hx with
      | snil _ c => rw [show 2 * c / 2 = c by omega]; simp [Builtin.cap_, h0, h1, hu, goInt]
      | sex _ _ c => rw [show 2 * c / 2 = c by omega]; simp [Builtin.cap_, h0, h1, hu, goInt]
      | slo _ _ c c' => rw [odd_lo] at hev; cases hev
      | semp => rw [odd_lo] at hev; cases hev
      | sem0 => simp [Builtin.cap_, h0, h1, hu, goInt]
  · cases hv

theorem sim_max : ∀ {r r' : List Value} {x x' v : Value}, maxV x r = some v → VR ι x x' → VRs ι r r' → ∃ v', (∀ w, (r'.foldlM Builtin.max2 x').run P w = .ok v' w) ∧ VR ι v v'
  | [], _, x, x', v, h, hx, hr => by
    cases hr
    simp only [maxV, Option.some.injEq] at h; subst h
    exact ⟨x', fun w => by simp, hx⟩
  | y :: r, _, x, x', v, h, hx, hr => by
    cases hr with
    | cons hy hr =>
    unfold maxV at h
    split at h
    · exact absurd ‹y :: r = []› (by simp)
    · rename_i k a k' b r2 heq
      injection heq with e1 e2; subst e1; subst e2
      cases hx; cases hy
      split at h
      · rename_i hk; subst hk
        obtain ⟨v', h1, h2⟩ := sim_max h (.int _ _) hr
        exact ⟨v', fun w => by simp [Builtin.max2, h1], h2⟩
      · cases h
    · cases h

theorem sim_min : ∀ {r r' : List Value} {x x' v : Value}, minV x r = some v → VR ι x x' → VRs ι r r' → ∃ v', (∀ w, (r'.foldlM Builtin.min2 x').run P w = .ok v' w) ∧ VR ι v v'
  | [], _, x, x', v, h, hx, hr => by
    cases hr
    simp only [minV, Option.some.injEq] at h; subst h
    exact ⟨x', fun w => by simp, hx⟩
  | y :: r, _, x, x', v, h, hx, hr => by
    cases hr with
    | cons hy hr =>
    unfold minV at h
    split at h
    · exact absurd ‹y :: r = []› (by simp)
    · rename_i k a k' b r2 heq
      injection heq with e1 e2; subst e1; subst e2
      cases hx; cases hy
      split at h
      · rename_i hk; subst hk
        obtain ⟨v', h1, h2⟩ := sim_min h (.int _ _) hr
        exact ⟨v', fun w => by simp [Builtin.min2, h1], h2⟩
      · cases h
    · cases h

/-! ### append -/
theorem growBy_le (n : Nat) : ∀ (r c : Nat), c ≤ n + (n + 768) / 4 → Builtin.growBy n r c ≤ n + (n + 768) / 4
  | 0, c, h => by simp [Builtin.growBy]; exact h
  | r + 1, c, h => by
    simp only [Builtin.growBy]
    split
    · exact h
    · exact growBy_le n r _ (by omega)

theorem nextcap_le {need old : Nat} (h : old < need) : Builtin.nextslicecap need old ≤ 2 * need + 2000 := by
  unfold Builtin.nextslicecap
  split
  · omega
  · split
    · omega
    · have := growBy_le need 4 old (by omega); omega

theorem load_head (h : Rel E ι m w) {size n : Nat} {base base' : Option Addr} {k k' : Nat} {cs : List Value} (hc : headV m size base n = some cs) (hs : VR ι (.slice base n k) (.slice base' n k')) :
    cs.length = n * size ∧ ∃ cs', VRs ι cs cs' ∧ ∀ w1 : World, w1.heap = w.heap → (Builtin.firstCells size n (.slice base' n k')).run P w1 = .ok cs'.toArray w1 := by
  unfold headV at hc
  have hzero : ∀ (b : Option Addr) (w1 : World), (Builtin.firstCells size 0 (.slice b 0 k')).run P w1 = .ok #[] w1 := fun b w1 => by
    cases b <;> simp [Builtin.firstCells, loadCells, loadCellsFrom]
  cases hn : Nat.beq n 0 with
  | true =>
    have := Nat.eq_of_beq_eq_true hn; subst this
    have : cs = [] := by cases base <;> simp at hc <;> first | exact hc | exact hc.symm
    subst this
    exact ⟨by simp, [], .nil, fun w1 _ => hzero _ w1⟩
  | false =>
    cases base with
    | none => simp only [hn, cond_false] at hc; cases hc
    | some a =>
      simp only [hn, cond_false] at hc
      have key : ∀ (b o : Nat) (t : Tgt), ι b = some t → a = ⟨b, o, none⟩ → base' = some ⟨t.blk, t.dlt + o, none⟩ →
          cs.length = n * size ∧ ∃ cs', VRs ι cs cs' ∧ ∀ w1 : World, w1.heap = w.heap → (Builtin.firstCells size n (.slice base' n k')).run P w1 = .ok cs'.toArray w1 := by
        rintro b o t hb rfl rfl
        obtain ⟨h1, cs', h2, h3⟩ := load_cells h hb hc
        refine ⟨h1, cs', h2, fun w1 hw => ?_⟩
        have := run_loadCells (P := P) (w := w1) (b := t.blk) (o := t.dlt + o) (vs := cs') (fun j v e => by rw [cell?_congr hw]; exact h3 j v e)
        rw [← h2.length, h1] at this
        simpa [Builtin.firstCells] using this
      cases hs with
      | @sex b t o _ _ hb => exact key b o t hb rfl rfl
      | @slo b t o _ _ _ hb _ _ _ => exact key b o t hb rfl rfl
      | semp => simp at hn
      | sem0 => simp at hn

/-- What is appended, where it is a slice or a text. -/
theorem source_plain (h : Rel E ι m w) {size e n : Nat} {x x' : Value} {new : List Value} (hs : sourceV E m size false e x = some (new, n)) (hx : VR ι x x') :
    new.length = n * size ∧ (∀ w1 : World, (Builtin.lenOf x').run P w1 = .ok n w1) ∧ ∃ new', VRs ι new new' ∧ ∀ w1 : World, w1.heap = w.heap → (Builtin.firstCells size n x').run P w1 = .ok new'.toArray w1 := by
  unfold sourceV at hs
  simp only at hs
  split at hs
  · rename_i n0 k
    cases hn : Nat.beq n0 0 with
    | false => rw [hn] at hs; cases hs
    | true =>
      have := Nat.eq_of_beq_eq_true hn; subst this
      rw [hn] at hs; cases hs
      cases hx
      exact ⟨by simp, fun w1 => by simp [Builtin.lenOf], [], .nil, fun w1 _ => by simp [Builtin.firstCells]⟩
  · rename_i a n0 k
    cases hn : Nat.beq n0 0 with
    | true =>
      have := Nat.eq_of_beq_eq_true hn; subst this
      rw [hn] at hs; cases hs
      refine ⟨by simp, fun w1 => ?_, [], .nil, fun w1 _ => ?_⟩
      · cases hx <;> simp [Builtin.lenOf]
      · cases hx <;> simp [Builtin.firstCells, loadCells, loadCellsFrom]
    | false =>
      rw [hn] at hs; simp only [cond_false] at hs
      split at hs
      · rename_i cs hc
        cases hs
        have hh : headV m size (some a) n = some new := by unfold headV; simp only [hn, cond_false]; exact hc
        cases hx with
        | sex o _ c hb =>
          obtain ⟨h1, cs', h2, h3⟩ := load_head (P := P) h hh (.sex o n c hb)
          exact ⟨h1, fun w1 => by simp [Builtin.lenOf], cs', h2, h3⟩
        | slo o _ c c' hb h4 h5 h6 =>
          obtain ⟨h1, cs', h2, h3⟩ := load_head (P := P) h hh (.slo o n c c' hb h4 h5 h6)
          exact ⟨h1, fun w1 => by simp [Builtin.lenOf], cs', h2, h3⟩
        | semp => simp at hn
        | sem0 => simp at hn
      · cases hs
  · rename_i s
    cases hsz : Nat.beq size 1 with
    | false => rw [hsz] at hs; cases hs
    | true =>
      have := Nat.eq_of_beq_eq_true hsz; subst this
      rw [hsz] at hs; cases hs
      cases hx
      have hl : s.data.toList.length = s.size := Array.length_toList
      refine ⟨by rw [byteCells_length]; simp, fun w1 => by simp only [Builtin.lenOf, Sem.run_pure, hl], byteCells s.data.toList, VRs.ints _, fun w1 _ => ?_⟩
      simp only [Builtin.firstCells, Sem.run_pure]
      congr 1
      apply Array.ext'
      rw [ba_extract]
      have : (s.data.toList.drop 0).take (s.data.toList.length - 0) = s.data.toList := by rw [List.drop_zero, Nat.sub_zero, List.take_length]
      rw [this, byteCells_map]; simp
  · cases hs

theorem zeroCells_eq (z : Array Value) (n : Nat) (hz : z.size ≠ 0) : (Builtin.zeroCells z n).toList = repeatCells z.toList n := zeros_toList z n hz

theorem VR.slice_shape {base : Option Addr} {n k : Nat} {s' : Value} (h : VR ι (.slice base n k) s') : ∃ base' k', s' = .slice base' n k' ∧ (base = none ↔ base' = none) ∧ capOf k ≤ k' ∧ (Nat.beq (k % 2) 0 = true → capOf k = k') := by
  cases h with
  | snil _ c => exact ⟨none, c, rfl, by simp, by rw [capOf_even]; omega, fun _ => capOf_even c⟩
  | sex _ _ c => exact ⟨_, c, rfl, by simp, by rw [capOf_even]; omega, fun _ => capOf_even c⟩
  | slo _ _ c c' _ hc _ he => exact ⟨_, c', rfl, by simp, by rw [capOf_lo _ _ he]; exact hc, fun e => by rw [odd_lo] at e; cases e⟩
  | semp _ a' es he => exact ⟨some a', 0, rfl, by simp, by rw [capOf_lo _ _ he]; omega, fun e => by rw [odd_lo] at e; cases e⟩
  | sem0 _ a' => exact ⟨some a', 0, rfl, by simp, Nat.le_refl _, fun _ => rfl⟩

/-- The row that grows, on the abstract side: what it was, what it is. -/
structure Grows (E : Env) (m : Mem) (e : Nat) (ye : Ty) (base : Option Addr) (len k n : Nat) (new : List Value) (v : Value) (m1 : Mem) where
  old : List Value
  z : List Value
  hold : headV m ye.size base len = some old
  hz : zeroOf E e = some z
  hzl : z.length = ye.size
  hone : allOne new = true
  hsz : ye.size < 4096
  hbytes : (2 * (len + n) + 2000) * ye.bytes ≤ 281474976710656
  hneed : len + n ≤ 4611686018427387904
  out : (Nat.beq (k % 2) 0 = true ∧ v = .slice (some (addr m.size 0)) (len + n) (loCap (len + n) ye.size) ∧ m1 = m.new (.row (old ++ new) .rw ye.size none)) ∨
    (Nat.beq (k % 2) 0 = false ∧ ∃ a cs prev, base = some a ∧ m.get a.block = some (.row cs .rw ye.size prev) ∧ esOf k = ye.size ∧ a.off + len * ye.size = cs.length ∧
      v = .slice (some (addr m.size 0)) (len + n) (loCap (len + n) ye.size) ∧ m1 = (m.upd a.block (some (.row cs .cl ye.size prev))).new (.row (old ++ new) .rw ye.size (some a.block)))

theorem headV_drop {a : Addr} {cs old : List Value} {md : Md} {es len size : Nat} {q : Option Nat} (hg : m.get a.block = some (.row cs md es q)) (hl : a.off + len * size = cs.length)
    (h : headV m size (some a) len = some old) : old = cs.drop a.off := by
  unfold headV at h
  cases hn : Nat.beq len 0 with
  | true =>
    have := Nat.eq_of_beq_eq_true hn; subst this
    simp only [hn, cond_true, Option.some.injEq] at h; subst h
    rw [List.drop_eq_nil_of_le (by omega)]
  | false =>
    simp only [hn, cond_false] at h
    unfold Mem.cells at h
    rw [hg] at h
    simp only at h
    rw [bleT (by omega)] at h
    simp only [cond_true, Option.some.injEq] at h
    rw [← h, List.take_of_length_le (by simp; omega)]

theorem grow_in (h : Rel E ι m w) {e : Nat} {ye : Ty} {base : Option Addr} {len k n : Nat} {new new' : List Value} {v : Value} {s' : Value} (G : Grows E m e ye base len k n new v m1) (hs : VR ι (.slice base len k) s')
    (hnew : VRs ι new new') (hnl : new.length = n * ye.size) (hcap : capOf k < len + n) {base' : Option Addr} {k' : Nat} (he : s' = .slice base' len k') (hin : len + n ≤ k') :
    ∃ a' ι1 w1, base' = some a' ∧ (storeCells (a'.add (len * ye.size)) new').run P w = .ok () w1 ∧ Step E ι m w ι1 m1 w1 ∧ VR ι1 v (.slice base' (len + n) k') := by
  subst he
  rcases G.out with ⟨hev, _⟩ | ⟨hev, a, cs, prev, hbase, hg, hes, hlen, hv, hm1⟩
  · obtain ⟨b2, k2, e2, _, _, hex⟩ := hs.slice_shape
    injection e2 with _ _ e2; subst e2
    have := hex hev; omega
  · subst hbase
    cases hs with
    | sex => rw [even_ex] at hev; cases hev
    | sem0 => cases hev
    | semp => omega
    | @slo b t o _ c _ hb hcc hrr hes4 =>
      simp only at hg hlen
      rw [esOf_lo _ _ hes4] at hes
      obtain ⟨hst1, hno⟩ := claim_step h hg
      have hsame : (m.upd b (some (.row cs .cl ye.size prev))).get b = some (.row cs .cl ye.size prev) := Mem.get_upd_same (row_high h hg (by decide)) _
      have hobj := (h.obj b t _ hb hg).2 (by decide)
      have hold := headV_drop (a := ⟨b, o, none⟩) hg hlen G.hold
      have hnew1 : VRs ι new new' := hnew
      have hc1 : t.dlt + cs.length + new.length ≤ t.cap := by
        have : t.dlt + o + (len + n) * t.es ≤ t.cap := Nat.le_trans (by have := Nat.mul_le_mul_right t.es hin; omega) hrr
        rw [hnl, ← hlen, ← hes]
        rw [Nat.add_mul] at this
        omega
      have hst2 := grow_step (E := E) hst1.rel (off := o) hb hsame hno (by omega) hnew1 hc1
      refine ⟨⟨t.blk, t.dlt + o, none⟩, ι.put (m.upd b (some (.row cs .cl ye.size prev))).size ⟨t.blk, t.dlt + o, t.cap, ye.size⟩, setAll w t.blk (t.dlt + cs.length) new', rfl, ?_, ?_, ?_⟩
      · rw [add_eq]
        obtain ⟨_, hcap2, c0, el, fz, hblk, hcs, hfz⟩ := hobj
        have hoff : t.dlt + o + len * ye.size = t.dlt + cs.length := by omega
        rw [hoff]
        have := run_storeCells (P := P) t.blk (t.dlt + cs.length) new' 0 w (hnew.allOne G.hone)
          (fun j hj => by
            rw [cell?_block hblk]
            have hl' := hnew.length
            have : t.dlt + cs.length + 0 + j < c0.size := by omega
            rw [Array.getElem?_eq_getElem this]; rfl)
          (fun j hj => hfz _ (fz_le (by have hl' := hnew.length; omega)))
        simpa using this
      · rw [hm1, hold]
        exact hst1.trans (by simpa using hst2)
      · rw [hv]
        have hput : (ι.put (m.upd b (some (.row cs .cl ye.size prev))).size ⟨t.blk, t.dlt + o, t.cap, ye.size⟩) m.size = some ⟨t.blk, t.dlt + o, t.cap, ye.size⟩ := by
          unfold Inj.put; exact if_pos rfl
        have := VR.slo (ι := ι.put (m.upd b (some (.row cs .cl ye.size prev))).size ⟨t.blk, t.dlt + o, t.cap, ye.size⟩) 0 (len + n) (len + n) k' hput hin (by simp only; rw [Nat.add_zero, ← hes]; exact hrr) G.hsz
        simpa [addr] using this

theorem grow_out (hE : EnvOk E P) (h : Rel E ι m w) {e : Nat} {ye : Ty} {base : Option Addr} {len k n : Nat} {new new' old' : List Value} {v : Value} (G : Grows E m e ye base len k n new v m1)
    (hnew : VRs ι new new') (hnl : new.length = n * ye.size) (hold : VRs ι G.old old') (hol : G.old.length = len * ye.size) (hye : E.ty e = some ye) (cap : Nat) (hc : len + n ≤ cap) {zv : Value} (hzv : zv.cells.toList = G.z) (el : TypeId) :
    ∃ ι1, Step E ι m w ι1 m1 (w.drew.alloc (.cells (old'.toArray ++ new'.toArray ++ Builtin.zeroCells zv.cells (cap - (len + n))) el)) ∧ VR ι1 v (.slice (some ⟨w.heap.size, 0, none⟩) (len + n) cap) := by
  have hzs : zv.cells.size = ye.size := by
    have hq : zv.cells.toList.length = G.z.length := by rw [hzv]
    rw [Array.length_toList] at hq; rw [hq]; exact G.hzl
  have hlo := hold.length
  have hln := hnew.length
  have hsize : (old'.toArray ++ new'.toArray ++ Builtin.zeroCells zv.cells (cap - (len + n))).size = cap * ye.size := by
    have : (Builtin.zeroCells zv.cells (cap - (len + n))).size = (cap - (len + n)) * ye.size := by unfold Builtin.zeroCells; simp [hzs]
    simp only [Array.size_append, this, List.size_toArray]
    rw [← hlo, ← hln, hol, hnl, ← Nat.add_mul, ← Nat.add_mul]
    congr 1; omega
  have hdrew := Step.drew h
  -- whichever way the old row goes, the new one is laid
  have lay : ∀ (m0 : Mem) (prev : Option Nat), Rel E ι m0 w.drew → m0.size = m.size → (∀ q, prev = some q → q < m0.size ∧ ∀ o', m0.get q = some o' → ∃ cs es r, o' = .row cs .cl es r) →
      Step E ι m0 w.drew (ι.put m.size ⟨w.heap.size, 0, cap * ye.size, ye.size⟩) (m0.new (.row (G.old ++ new) .rw ye.size prev)) (w.drew.alloc (.cells (old'.toArray ++ new'.toArray ++ Builtin.zeroCells zv.cells (cap - (len + n))) el)) := by
    intro m0 prev hr hsz hp
    have hb : (w.drew.alloc (.cells (old'.toArray ++ new'.toArray ++ Builtin.zeroCells zv.cells (cap - (len + n))) el)).heap[w.heap.size]? = some (.cells (old'.toArray ++ new'.toArray ++ Builtin.zeroCells zv.cells (cap - (len + n))) el) := by
      show (w.heap.push _)[w.heap.size]? = _; simp
    rw [← hsz]
    refine Step.new hr (O := .cells (old'.toArray ++ new'.toArray ++ Builtin.zeroCells zv.cells (cap - (len + n))) el) rfl rfl rfl rfl rfl ?_ (fun cs md es q e => by injection e with _ _ _ e; exact hp q e)
    have hs0 := Inj.put_sub (ι := ι) ⟨w.heap.size, 0, cap * ye.size, ye.size⟩ hr.none_of_size
    refine ⟨fun j v ev => ?_, fun _ => ⟨rfl, ?_, _, el, (0, 0), hb, hsize, fun j _ => ?_⟩⟩
    · obtain ⟨v', e', hr'⟩ := (hold.append hnew).get ev
      refine ⟨v', ?_, hr'.mono hs0⟩
      rw [cell?_block hb]
      simp only [Nat.zero_add]
      have hj : j < (old'.toArray ++ new'.toArray).size := by
        have : j < (old' ++ new').length := by
          rcases Nat.lt_or_ge j (old' ++ new').length with hx | hx
          · exact hx
          · rw [List.getElem?_eq_none hx] at e'; cases e'
        simpa using this
      rw [Array.getElem?_append_left hj]
      simpa using e'
    · simp only [Nat.zero_add, List.length_append]
      rw [hol, hnl, ← Nat.add_mul]; exact Nat.mul_le_mul_right _ hc
    · unfold World.frozen?; rw [hb]; simp
  have hput : (ι.put m.size ⟨w.heap.size, 0, cap * ye.size, ye.size⟩) m.size = some ⟨w.heap.size, 0, cap * ye.size, ye.size⟩ := by unfold Inj.put; rw [if_pos rfl]
  have hVR : VR (ι.put m.size ⟨w.heap.size, 0, cap * ye.size, ye.size⟩) (.slice (some (addr m.size 0)) (len + n) (loCap (len + n) ye.size)) (.slice (some ⟨w.heap.size, 0, none⟩) (len + n) cap) := by
    have := VR.slo 0 (len + n) (len + n) cap hput hc (by simp) G.hsz
    simpa [addr] using this
  have _ := hE; have _ := hye
  rcases G.out with ⟨_, hv, hm1⟩ | ⟨_, a, cs, prev, hbase, hg, hes, hlen, hv, hm1⟩
  · rw [hv, hm1]
    exact ⟨_, hdrew.trans (lay m none hdrew.rel rfl (fun q e => by cases e)), hVR⟩
  · rw [hv, hm1]
    obtain ⟨hst1, hno⟩ := claim_step hdrew.rel hg
    have hsame : (m.upd a.block (some (.row cs .cl ye.size prev))).get a.block = some (.row cs .cl ye.size prev) := Mem.get_upd_same (row_high h hg (by decide)) _
    refine ⟨_, (hdrew.trans hst1).trans (lay _ (some a.block) hst1.rel rfl (fun q e => ?_)), hVR⟩
    injection e with e; subst e
    refine ⟨?_, fun o' e => by rw [hsame] at e; cases e; exact ⟨_, _, _, rfl⟩⟩
    show a.block < m.size
    rcases Nat.lt_or_ge a.block m.size with hx | hx
    · exact hx
    · rw [h.top _ hx] at hg; cases hg

/-- What stays within the known capacity. -/
theorem within (h : Rel E ι m w) {base : Option Addr} {len k n size : Nat} {new new' : List Value} {v s' : Value} {base' : Option Addr} {k' : Nat}
    (ha : (match base with
      | none => bif Nat.beq n 0 then some ((.slice none len k : Value), m) else none
      | some a => bif Nat.beq n 0 then some (.slice (some a) len k, m) else (m.storeCells (addOff a (len * size)) new).map fun m1 => (.slice (some a) (len + n) k, m1)) = some (v, m1))
    (hs : VR ι (.slice base len k) s') (he : s' = .slice base' len k') (hnew : VRs ι new new') (hnl : new.length = n * size) (hle : len + n ≤ capOf k) :
    (base' = none ∧ n = 0 ∧ v = .slice none len k ∧ m1 = m) ∨ ∃ a' w1, base' = some a' ∧ (storeCells (a'.add (len * size)) new').run P w = .ok () w1 ∧ Step E ι m w ι m1 w1 ∧ VR ι v (.slice base' (len + n) k') := by
  subst he
  cases base with
  | none =>
    simp only at ha
    cases hn : Nat.beq n 0 with
    | false => rw [hn] at ha; cases ha
    | true =>
      rw [hn] at ha; cases ha
      cases hs; exact .inl ⟨rfl, Nat.eq_of_beq_eq_true hn, rfl, rfl⟩
  | some a =>
    simp only at ha
    cases hn : Nat.beq n 0 with
    | true =>
      have hn0 := Nat.eq_of_beq_eq_true hn; subst hn0
      rw [hn] at ha; cases ha
      have hnil : new' = [] := List.eq_nil_of_length_eq_zero (by rw [← hnew.length, hnl]; simp)
      subst hnil
      obtain ⟨b2, k2, e2, hnone, _, _⟩ := hs.slice_shape
      injection e2 with e2 _ e3; subst e2; subst e3
      cases base' with
      | none => exact absurd (hnone.2 rfl) (by simp)
      | some a' => exact .inr ⟨a', w, rfl, by simp [storeCells], Step.refl h, hs⟩
    | false =>
      rw [hn] at ha; simp only [cond_false] at ha
      cases hst : m.storeCells (addOff a (len * size)) new with
      | none => rw [hst] at ha; cases ha
      | some m2 =>
        rw [hst] at ha; cases ha
        have key : ∀ (b o : Nat) (t : Tgt), ι b = some t → a = ⟨b, o, none⟩ → ∃ w1, (storeCells ((⟨t.blk, t.dlt + o, none⟩ : Addr).add (len * size)) new').run P w = .ok () w1 ∧ Step E ι m w ι m1 w1 := by
          rintro b o t hb rfl
          rw [add_eq, Nat.add_assoc]
          exact store_cells h (VR.ptr (o + len * size) hb) hnew hst
        cases hs with
        | @sex b t o _ _ hb =>
          obtain ⟨w1, h1, h2⟩ := key b o t hb rfl
          exact .inr ⟨_, w1, rfl, h1, h2, .sex o _ _ hb⟩
        | @slo b t o _ _ _ hb h3 h4 h5 =>
          obtain ⟨w1, h1, h2⟩ := key b o t hb rfl
          exact .inr ⟨_, w1, rfl, h1, h2, .slo o _ _ _ hb h3 h4 h5⟩
        | semp _ a' es he4 => rw [capOf_lo _ _ he4] at hle; have : n = 0 := by omega
                              subst this; simp at hn
        | sem0 _ a' => have : n = 0 := by have e0 : capOf 0 = 0 := rfl
                                          omega
                       subst this; simp at hn
end
end Go.Am
