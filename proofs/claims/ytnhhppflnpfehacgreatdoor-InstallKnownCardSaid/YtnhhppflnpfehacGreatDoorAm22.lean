/- Functions without a body: those of sync/atomic. -/
import Derived.Test.YtnhhppflnpfehacGreatDoorAm21
import Derived.Test.YtnhhppflnpfehacGreatDoorAm4
namespace Go.Am
open Go.RowKit

/-- Function f has no body; s is what the model does for it. -/
structure ExtFn (P : Program) (f : Nat) (F : Func) (s : Array Value → Sem Value) : Prop where
  get : P.funcs[f]? = some F
  name : (F.name == "runtime.NumGoroutine") = false
  body : F.body.isNone = true
  next : Extern.findNext F = none
  find : Extern.find F = some s

/-- What an abstract function stands for. -/
structure XSim (E : Env) (P : Program) (g : List Value → Mem → Option (Value × Mem)) (s : Array Value → Sem Value) : Prop where
  sim : ∀ {args args' : List Value} {m m1 : Mem} {v : Value} {ι : Inj} {w : World}, g args m = some (v, m1) → Rel E ι m w → VRs ι args args' → ∃ v' w1, (s args'.toArray).run P w = .ok v' w1 ∧ Got E ι m w v m1 v' w1
  keep : ∀ {args : List Value} {m m1 : Mem} {v : Value}, Wf m → g args m = some (v, m1) → Keep m m1

section
variable {E : Env} {P : Program} {ι ι1 : Inj} {m m1 : Mem} {w w1 : World}

theorem callFunc_extern {f : Nat} {F : Func} {s : Array Value → Sem Value} (h : ExtFn P f F s) {args : Array Value} {v : Value} (hs : (s args).run P w = .ok v w1) : (callFunc f args).run P w = .ok (.value v) w1 := by
  have hn' : F.name ≠ "runtime.NumGoroutine" := by simpa using h.name
  have hb' : F.body = none := by simpa using h.body
  unfold callFunc
  have hp : (program).run P w = .ok P w := rfl
  have hm : ∀ w, (mark (.extern f)).run P w = .ok () w := fun _ => rfl
  simp [Sem.run_bind, hp, h.get, hn', hb', Result.andThen, hm, h.next, h.find, hs]

theorem XSim.upon {g : List Value → Mem → Option (Value × Mem)} {s : Array Value → Sem Value} (hx : XSim E P g s) {f : Nat} {F : Func} (hf : ExtFn P f F s) {args args' : List Value} {v : Value}
    (h : g args m = some (v, m1)) (hR : Rel E ι m w) (ha : VRs ι args args') : Upon P (Got E ι m w v m1) ((callFunc f args'.toArray).run P w) := by
  obtain ⟨v', w1, h1, h2⟩ := hx.sim h hR ha
  rw [callFunc_extern hf h1]
  exact h2

theorem run_store_mode {a : Addr} {v u : Value} (md md' : Mode) (hc : w.cell? a = some u) : (store a v md).run P w = (store a v md').run P w := by
  unfold store
  cases v <;> simp [Sem.run, hc]

/-- One cell, in whatever mode. -/
theorem store_one (h : Rel E ι m w) {a a' : Addr} {v v' : Value} (ha : VR ι (.pointer (some a)) (.pointer (some a'))) (hv : VR ι v v') (hm : m.storeCells a [v] = some m1) {u : Value} (hc : w.cell? a' = some u) (md : Mode) :
    ∃ w1, (store a' v' md).run P w = .ok () w1 ∧ Step E ι m w ι m1 w1 := by
  obtain ⟨w1, h1, h2⟩ := store_cells (P := P) h ha (.cons hv .nil) hm
  refine ⟨w1, ?_, h2⟩
  cases ha with
  | @ptr b t off hb =>
    have e0 : (⟨t.blk, t.dlt + off, none⟩ : Addr).add 0 = ⟨t.blk, t.dlt + off, none⟩ := by rw [add_eq]; rfl
    have h3 : (storeCells ⟨t.blk, t.dlt + off, none⟩ [v'] 0).run P w = (store ⟨t.blk, t.dlt + off, none⟩ v').run P w := by
      simp only [storeCells, e0]
      rw [Sem.run_bind]
      cases (store ⟨t.blk, t.dlt + off, none⟩ v').run P w with
      | ok x w2 => cases x; rfl
      | halt x w2 => rfl
    rw [h3] at h1
    rw [← h1]
    exact run_store_mode _ _ hc

theorem ptr_arg {v' : Value} {a : Addr} (h : VR ι (.pointer (some a)) v') : ∃ a', v' = .pointer (some a') ∧ VR ι (.pointer (some a)) (.pointer (some a')) := by
  cases h with
  | ptr o e => exact ⟨_, rfl, .ptr o e⟩

theorem int_arg {v' : Value} {k : IntKind} {n : Int} (h : VR ι (.int k n) v') : v' = .int k n := by cases h; rfl

theorem asAddr_run (a : Addr) : (asAddr (.pointer (some a))).run P w = .ok a w := rfl

theorem read_i64 {a' : Addr} {n : Int} (hc : w.cell? a' = some (.int .i64 n)) : (Extern.Atomic.read (.int .i64) a').run P w = .ok (.int .i64 n) w := by
  unfold Extern.Atomic.read
  rw [Sem.run_bind, run_load hc]
  simp [Result.andThen]

theorem xLoad64_sim : XSim E P xLoad64 (Extern.Atomic.loadT (.int .i64)) := by
  constructor
  · intro args args' m m1 v ι w h hR ha
    unfold xLoad64 at h
    split at h
    · rename_i a
      split at h
      · rename_i n hn
        cases h
        cases ha with
        | cons h1 h2 =>
          cases h2
          obtain ⟨a', rfl, h1⟩ := ptr_arg h1
          obtain ⟨v', hc, hv⟩ := load_cell hR h1 hn
          cases int_arg hv
          refine ⟨.int .i64 n, w, ?_, ι, .int _ _, Step.refl hR⟩
          show (asAddr (.pointer (some a')) >>= fun b => Extern.Atomic.read (.int .i64) b).run P w = _
          rw [Sem.run_bind, asAddr_run, Result.andThen_ok, read_i64 hc]
      · cases h
    · cases h
  · intro args m m1 v hw h
    unfold xLoad64 at h
    repeat' split at h
    all_goals first | (cases h; exact Keep.refl _) | cases h

theorem xAdd64_sim : XSim E P xAdd64 (Extern.Atomic.update (Op.intArith .add) .i64 true) := by
  constructor
  · intro args args' m m1 v ι w h hR ha
    unfold xAdd64 at h
    split at h
    · rename_i a d
      split at h
      · rename_i n hn
        simp only [Option.map_eq_some_iff] at h
        obtain ⟨m2, hm, e⟩ := h
        cases e
        cases ha with
        | cons h1 h2 =>
          cases h2 with
          | cons h2 h3 =>
            cases h3
            obtain ⟨a', rfl, h1⟩ := ptr_arg h1
            cases int_arg h2
            obtain ⟨v', hc, hv⟩ := load_cell hR h1 hn
            cases int_arg hv
            obtain ⟨w1, hs, hst⟩ := store_one (P := P) hR h1 (.int .i64 (IntKind.i64.wrap (n + d))) hm hc .atomic
            refine ⟨_, w1, ?_, ι, .int _ _, hst⟩
            show (asAddr (.pointer (some a')) >>= fun b => Extern.Atomic.read (.int .i64) b >>= fun old => asInt old >>= fun x => asInt (.int .i64 d) >>= fun y => Op.intArith .add .i64 x y >>= fun new => store b new .atomic >>= fun _ => pure new).run P w = _
            rw [Sem.run_bind, asAddr_run, Result.andThen_ok, Sem.run_bind, read_i64 hc, Result.andThen_ok]
            simp only [asInt, asIntOf, Op.intArith, Sem.run_bind, Sem.run_pure, Result.andThen_ok, hs]
      · cases h
    · cases h
  · intro args m m1 v hw h
    unfold xAdd64 at h
    repeat' split at h
    all_goals first | (cases h; done) | skip
    simp only [Option.map_eq_some_iff] at h
    obtain ⟨m2, hm, e⟩ := h
    cases e
    exact Keep.storeCells hw hm

theorem xCas64_sim : XSim E P xCas64 (Extern.Atomic.casT (.int .i64)) := by
  constructor
  · intro args args' m m1 v ι w h hR ha
    unfold xCas64 at h
    split at h
    · rename_i a old new
      split at h
      · rename_i cs es q hg
        split at h
        · rename_i n hn
          cases ha with
          | cons h1 h2 =>
            cases h2 with
            | cons h2 h3 =>
              cases h3 with
              | cons h3 h4 =>
                cases h4
                obtain ⟨a', rfl, h1⟩ := ptr_arg h1
                cases int_arg h2
                cases int_arg h3
                obtain ⟨v', hc, hv⟩ := load_cell hR h1 hn
                cases int_arg hv
                have ht : (Extern.Atomic.touchesFrozen a').run P w = .ok false w := by
                  cases h1 with
                  | @ptr b t off hb =>
                    have ho := hR.obj _ _ _ hb hg
                    obtain ⟨hcells, hrest⟩ := ho
                    obtain ⟨_, hcap, c, el, fz, hh, hsz, hfz⟩ := hrest (by simp)
                    have hlt : off < cs.length := by
                      simp only [Mem.cell, hg] at hn
                      exact (List.getElem?_eq_some_iff.1 hn).1
                    have hshape : w.shape? t.blk = some (el, c.size) := by simp [World.shape?, hh]
                    have hview : (viewAt t.blk).run P w = .ok none w := by
                      unfold viewAt
                      simp [shape, Sem.run, Sem.run_bind, hshape, Result.andThen]
                    unfold Extern.Atomic.touchesFrozen
                    rw [Sem.run_bind]
                    show ((viewAt t.blk).run P w).andThen _ = _
                    rw [hview, Result.andThen_ok]
                    simp [frozen, Sem.run, hfz (t.dlt + off) (fz_le (by omega))]
                split at h
                · rename_i hd
                  have he : n = old := of_decide_eq_true hd
                  simp only [Option.map_eq_some_iff] at h
                  obtain ⟨m2, hm, e⟩ := h
                  cases e
                  obtain ⟨w1, hs, hst⟩ := store_one (P := P) hR h1 (.int .i64 new) hm hc .atomic
                  refine ⟨.bool true, w1, ?_, ι, .bool _, hst⟩
                  subst he
                  show Sem.run P (asAddr (.pointer (some a')) >>= _) w = _
                  simp [Sem.run_bind, asAddr, ht, read_i64 hc, Result.andThen]
                  show Sem.run P (if n = n then (fun _ => Value.bool (n == n)) <$> store a' (.int .i64 new) .atomic else Pure.pure (.bool (n == n))) w = _
                  rw [if_pos rfl, map_eq_pure_bind, Sem.run_bind, hs]
                  simp [Result.andThen, Sem.run_pure]
                · rename_i hd
                  have he : n ≠ old := of_decide_eq_false hd
                  cases h
                  refine ⟨.bool false, w, ?_, ι, .bool _, Step.refl hR⟩
                  show Sem.run P (asAddr (.pointer (some a')) >>= _) w = _
                  simp [Sem.run_bind, asAddr, ht, read_i64 hc, Result.andThen]
                  show Sem.run P (if n = old then (fun _ => Value.bool (n == old)) <$> store a' (.int .i64 new) .atomic else Pure.pure (.bool (n == old))) w = _
                  simp [he, Sem.run_pure]
        · cases h
      · cases h
    · cases h
  · intro args m m1 v hw h
    unfold xCas64 at h
    repeat' split at h
    all_goals first | (cases h; exact Keep.refl _) | (cases h; done) | skip
    simp only [Option.map_eq_some_iff] at h
    obtain ⟨m2, hm, e⟩ := h
    cases e
    exact Keep.storeCells hw hm

/-! ### bytealg -/
theorem byteAt_find (s : ByteArray) (c : Nat) (hc : c < 256) : ∀ (l : List UInt8) (i : Nat), (∀ k, k < l.length → l[k]? = some s[i + k]!) →
    (List.range' i l.length).find? (fun j => s[j]! == c.toUInt8) = byteAt c i l
  | [], i, _ => rfl
  | b :: l, i, h => by
    have h0 := h 0 (by simp)
    simp at h0
    have ih := byteAt_find s c hc l (i + 1) fun k hk => by
      have := h (k + 1) (by simp; omega)
      rw [List.getElem?_cons_succ] at this
      rw [this]; congr 2; omega
    simp only [List.length_cons, List.range'_succ, List.find?_cons, ih]
    conv => rhs; unfold byteAt
    have e : (s[i]! == c.toUInt8) = Nat.beq b.toNat c := by
      rw [← h0]
      cases hb : Nat.beq b.toNat c with
      | true =>
        have := Nat.eq_of_beq_eq_true hb
        subst this
        simp
      | false =>
        have hne : b.toNat ≠ c := fun e => by rw [e] at hb; simp at hb
        have : b ≠ c.toUInt8 := fun e => hne (by rw [e]; simp; omega)
        simpa using this
    rw [e]
    cases Nat.beq b.toNat c <;> rfl

theorem xIndexByteString_sim : XSim E P xIndexByteString Extern.BytealgIndexByte.indexByte := by
  constructor
  · intro args args' m m1 v ι w h hR ha
    unfold xIndexByteString at h
    split at h
    · rename_i s c
      split at h
      · rename_i hlt
        have hc : c.toNat < 256 := by simpa using hlt
        cases ha with
        | cons h1 h2 =>
          cases h2 with
          | cons h2 h3 =>
            cases h3
            cases h1
            cases int_arg h2
            have hf := byteAt_find s c.toNat hc s.data.toList 0 fun k hk => by
              have hk' : k < s.size := by simpa using hk
              rw [Nat.zero_add, getElem!_pos s k hk']
              have hk2 : k < s.data.size := hk'
              rw [Array.getElem?_toList, Array.getElem?_eq_getElem hk2]
              rfl
            rw [← List.range_eq_range'] at hf
            have hl : s.data.toList.length = s.size := Array.length_toList
            rw [hl] at hf
            have hrun : (Extern.BytealgIndexByte.indexByte #[.string s, .int .u8 c]).run P w = .ok (match byteAt c.toNat 0 s.data.toList with | some i => .int .i64 i | none => .int .i64 (-1)) w := by
              show Sem.run P (Extern.Bytes.bytesOf (.string s) >>= _) w = _
              rw [Sem.run_bind]
              show Result.andThen (.ok s w) _ = _
              rw [Result.andThen_ok]
              show Sem.run P (Extern.Bytes.asByte (.int .u8 c) >>= _) w = _
              rw [Sem.run_bind]
              show Result.andThen (.ok c.toNat.toUInt8 w) _ = _
              rw [Result.andThen_ok]
              show Sem.run P (match (List.range s.size).find? (fun i => s[i]! == c.toNat.toUInt8) with | some i => Pure.pure (goInt i) | none => Pure.pure (goInt (-1))) w = _
              rw [hf]
              cases byteAt c.toNat 0 s.data.toList <;> rfl
            split at h
            · rename_i i hi
              cases h
              rw [hi] at hrun
              exact ⟨_, w, hrun, ι, .int _ _, Step.refl hR⟩
            · rename_i hi
              cases h
              rw [hi] at hrun
              exact ⟨_, w, hrun, ι, .int _ _, Step.refl hR⟩
      · cases h
    · cases h
  · intro args m m1 v hw h
    unfold xIndexByteString at h
    repeat' split at h
    all_goals first | (cases h; exact Keep.refl _) | cases h
end
end Go.Am
