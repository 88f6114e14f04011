/- Each operation at once: what the abstract machine does, the model does. -/
import Derived.Test.YtnhhppflnpfehacGreatDoorAmM
namespace Go.Am
open Go.RowKit

section
variable {E : Env} {P : Program} {ι ι1 ι2 : Inj} {m m1 m2 : Mem} {w w1 w2 : World}

theorem ev_rel (h : Rel E ι m w) {tm : Tr Value} {nt : Nat} {a : Act} (hT : TR ι tm nt a.tmps) {x : Operand} (hx : opndOk E.ng x = true) : VR ι (ev tm x) (a.eval x) := by
  cases x with
  | tmp i => exact hT.2 i
  | const v => exact VR.closed hx
  | global g =>
    obtain ⟨t, e, hb, hd⟩ := h.glob g (by simpa [opndOk] using hx)
    have := VR.ptr (ι := ι) 0 e
    rw [hb, hd] at this
    exact this
  | func f => exact VR.fn f .nil .nil

theorem evs_rel (h : Rel E ι m w) {tm : Tr Value} {nt : Nat} {a : Act} (hT : TR ι tm nt a.tmps) : ∀ {l : List Operand}, opndsOk E.ng l = true → VRs ι (l.map (ev tm)) (l.map a.eval)
  | [], _ => .nil
  | x :: r, hx => by
    simp only [opndsOk, Bool.and_eq_true] at hx
    exact .cons (ev_rel h hT hx.1) (evs_rel h hT hx.2)

theorem opt_rel (h : Rel E ι m w) {tm : Tr Value} {nt : Nat} {a : Act} (hT : TR ι tm nt a.tmps) {x : Option Operand} (hx : optOk E.ng x = true) : OptR ι (x.map (ev tm)) (x.map a.eval) := by
  cases x with
  | none => exact .none
  | some x => exact .some (ev_rel h hT hx)

theorem parts_rel (h : Rel E ι m w) {tm : Tr Value} {nt : Nat} {a : Act} (hT : TR ι tm nt a.tmps) : ∀ {l : List (Nat × Operand)}, opndsOk E.ng (l.map fun p => p.2) = true → PRs ι (l.map fun p => (p.1, ev tm p.2)) (l.map fun p => (p.1, a.eval p.2))
  | [], _ => .nil
  | p :: r, hx => by
    simp only [List.map_cons, opndsOk, Bool.and_eq_true] at hx
    exact .cons (ev_rel h hT hx.1) (parts_rel h hT hx.2)

/-- What an operation's outcome is on the model's side. -/
def OpEnd (E : Env) (P : Program) (ι : Inj) (m : Mem) (w : World) (o : Oper) (ρ : Operand → Value) : ANext → Prop
  | .val v m1 => ∃ ι1 w1 x v', (execOp ρ o).run P w = .ok x w1 ∧ (x = .value v' ∨ (x = .skip ∧ v' = undef)) ∧ VR ι1 v v' ∧ Step E ι m w ι1 m1 w1
  | .enter f args => ∃ args', VRs ι args args' ∧ (execOp ρ o).run P w = (callFunc f args'.toArray).run P w
  | .yield l args => ∃ t args', ι l = some t ∧ VRs ι args args' ∧ (execOp ρ o).run P w = (Instr.yield t.blk args'.toArray).run P w

theorem OpEnd.pure (h : Rel E ι m w) {o : Oper} {ρ : Operand → Value} {v v' : Value} (hr : (execOp ρ o).run P w = .ok (.value v') w) (hv : VR ι v v') : OpEnd E P ι m w o ρ (.val v m) :=
  ⟨ι, w, _, v', hr, .inl rfl, hv, Step.refl h⟩

theorem sim_clear (hE : EnvOk E P) (h : Rel E ι m w) {t : Nat} {x x' v : Value} {ats : Array TypeId} {ty : TypeId} {args : Array Value} (hc : clearV E m t x = some (v, m1)) (hx : VR ι x x') (ht : ats[0]? = some t) (ha : args[0]? = some x') :
    ∃ w1 v', (Builtin.clear_ ats ty args).run P w = .ok v' w1 ∧ VR ι v v' ∧ Step E ι m w ι m1 w1 := by
  unfold clearV at hc
  split at hc
  case h_2 => cases hc
  rename_i y base n k hy
  split at hc
  case h_2 => cases hc
  rename_i e hd
  have hu := hE.und hy w
  rw [hd] at hu
  split at hc
  · rename_i hn
    cases hc
    have hn0 := Nat.eq_of_beq_eq_true hn
    subst hn0
    refine ⟨w, .tuple #[], ?_, VR.undef, Step.refl h⟩
    unfold Builtin.clear_
    cases hx <;> simp only [ht, ha, Sem.run_bind, hu, Result.andThen_ok] <;> rfl
  · rename_i hn
    have hn0 : n ≠ 0 := fun e => by subst e; cases hn
    split at hc
    case h_2 => cases hc
    rename_i a ye z hye hz
    simp only [Option.map_eq_some_iff] at hc
    obtain ⟨m2, hm, e2⟩ := hc
    cases e2
    obtain ⟨zv, hzr, hzc, _, hzV⟩ := hE.zero hz w
    have hcells : (Builtin.zeroCells zv.cells n).toList = repeatCells z n := by
      unfold Builtin.zeroCells
      by_cases h0 : zv.cells.size = 0
      · have hz0 : z = [] := by rw [← hzc]; exact List.eq_nil_of_length_eq_zero (by simpa using h0)
        rw [h0, hz0]
        have : ∀ n, repeatCells [] n = [] := fun n => by induction n with | zero => rfl | succ n ih => simp [repeatCells, ih]
        simp [this]
      · rw [zeros_toList _ _ h0, hzc]
    have main : ∀ {bb o : Nat} {tg : Tgt} {c' : Nat}, ι bb = some tg → m.storeCells ⟨bb, o, none⟩ (repeatCells z n) = some m1 → x' = .slice (some ⟨tg.blk, tg.dlt + o, none⟩) n c' →
        ∃ w1 v', (Builtin.clear_ ats ty args).run P w = .ok v' w1 ∧ VR ι undefV v' ∧ Step E ι m w ι m1 w1 := fun {bb o tg c'} hb hm2 hx' => by
      obtain ⟨w1, h1, h2⟩ := store_cells (P := P) h (.ptr o hb) ((hzV ι).repeat n) hm2
      refine ⟨w1, .tuple #[], ?_, VR.undef, h2⟩
      subst hx'
      obtain ⟨n', rfl⟩ : ∃ n', n = n' + 1 := ⟨n - 1, by omega⟩
      unfold Builtin.clear_
      simp only [ht, ha, Sem.run_bind, hu, Result.andThen_ok, hzr, hcells, h1, Sem.run_pure]
    cases hx with
    | sex o _ c hb => exact main hb hm rfl
    | slo o _ c c' hb h4 h5 h6 => exact main hb hm rfl
    | semp => exact absurd rfl hn0
    | sem0 => exact absurd rfl hn0

theorem sim_copy (hE : EnvOk E P) (h : Rel E ι m w) {t : Nat} {d d' s s' v : Value} {ats : Array TypeId} {ty : TypeId} {args : Array Value} (hc : copyV E m t d s = some (v, m1)) (hd : VR ι d d') (hs : VR ι s s') (ht : ats[0]? = some t)
    (ha : args[0]? = some d') (ha1 : args[1]? = some s') : ∃ w1 v', (Builtin.copy_ ats ty args).run P w = .ok v' w1 ∧ VR ι v v' ∧ Step E ι m w ι m1 w1 := by
  unfold copyV at hc
  split at hc
  case h_2 => cases hc
  rename_i y base dl k sb sl k2 hy
  split at hc
  case h_2 => cases hc
  rename_i e hdd
  split at hc
  case h_2 => cases hc
  rename_i ye hye
  have hu := hE.und hy w
  rw [hdd] at hu
  have hsz := hE.size hye w
  obtain ⟨base', k', rfl⟩ : ∃ base' k', d' = .slice base' dl k' := by cases hd <;> exact ⟨_, _, rfl⟩
  obtain ⟨sb', k2', rfl⟩ : ∃ sb' k2', s' = .slice sb' sl k2' := by cases hs <;> exact ⟨_, _, rfl⟩
  have pre : ∀ (cells : Array Value) (w1 : World), (Builtin.firstCells ye.size (Nat.min sl dl) (.slice sb' sl k2')).run P w = .ok cells w → (match base' with | some a => storeCells a cells.toList | none => pure () : Sem Unit).run P w = .ok () w1 →
      (Builtin.copy_ ats ty args).run P w = .ok (goInt (Nat.min sl dl : Nat)) w1 := fun cells w1 h1 h2 => by
    unfold Builtin.copy_
    simp only [ht, ha, ha1, Sem.run_bind, hu, Result.andThen_ok, Builtin.lenOf, Sem.run_pure, hsz, h1]
    cases base' with
    | none => simp only [Sem.run_pure] at h2 ⊢; cases h2; rfl
    | some a => simp only at h2 ⊢; rw [Sem.run_bind, h2]; rfl
  split at hc
  · rename_i hn
    cases hc
    have hn0 := Nat.eq_of_beq_eq_true hn
    refine ⟨w, goInt (Nat.min sl dl : Nat), pre #[] w ?_ ?_, by rw [hn0]; exact .int _ _, Step.refl h⟩
    · rw [hn0]
      cases sb' <;> simp [Builtin.firstCells, loadCells, loadCellsFrom]
    · cases base' <;> rfl
  · rename_i hn
    have hn0 : Nat.min sl dl ≠ 0 := fun e => by rw [e] at hn; cases hn
    have hsl : sl ≠ 0 := fun e => hn0 (by subst e; exact Nat.zero_min dl)
    have hdl : dl ≠ 0 := fun e => hn0 (by subst e; exact Nat.min_zero sl)
    split at hc
    case h_2 => cases hc
    rename_i a b
    split at hc
    case h_2 => cases hc
    rename_i cs hcs
    simp only [Option.map_eq_some_iff] at hc
    obtain ⟨m2, hm, e2⟩ := hc
    cases e2
    obtain ⟨bs, os, ts, hbs, rfl, rfl⟩ : ∃ bs os ts, ι bs = some ts ∧ b = ⟨bs, os, none⟩ ∧ sb' = some ⟨ts.blk, ts.dlt + os, none⟩ := by
      cases hs with
      | sex o _ c hb => exact ⟨_, _, _, hb, rfl, rfl⟩
      | slo o _ c c' hb h4 h5 h6 => exact ⟨_, _, _, hb, rfl, rfl⟩
      | semp => exact absurd rfl hsl
      | sem0 => exact absurd rfl hsl
    obtain ⟨bd, od, td, hbd, rfl, rfl⟩ : ∃ bd od td, ι bd = some td ∧ a = ⟨bd, od, none⟩ ∧ base' = some ⟨td.blk, td.dlt + od, none⟩ := by
      cases hd with
      | sex o _ c hb => exact ⟨_, _, _, hb, rfl, rfl⟩
      | slo o _ c c' hb h4 h5 h6 => exact ⟨_, _, _, hb, rfl, rfl⟩
      | semp => exact absurd rfl hdl
      | sem0 => exact absurd rfl hdl
    obtain ⟨hl, cs', hcv, hcell⟩ := load_cells h hbs hcs
    obtain ⟨w1, h1, h2⟩ := store_cells (P := P) h (.ptr od hbd) hcv hm
    refine ⟨w1, _, pre cs'.toArray w1 ?_ h1, .int _ _, h2⟩
    have hlen : cs'.length = Nat.min sl dl * ye.size := by rw [← hcv.length]; exact hl
    show (loadCells _ (Nat.min sl dl * ye.size)).run P w = _
    rw [← hlen]
    exact run_loadCells hcell

theorem builtin_sim (hE : EnvOk E P) (h : Rel E ι m w) {b : Builtin} {ats : Array TypeId} {ty : TypeId} {consts : Array Bool} {args : List Value} {args' : Array Value} {v : Value} (hb : builtinV E m b ats.toList args = some (v, m1)) (ha : VRs ι args args'.toList) :
    ∃ ι1 w1 v', (builtin b ats ty consts args').run P w = .ok (.value v') w1 ∧ VR ι1 v v' ∧ Step E ι m w ι1 m1 w1 := by
  have get0 : ∀ {x : Value} {r : List Value}, args = x :: r → ∃ x', args'[0]? = some x' ∧ VR ι x x' := fun {x r} e => by
    subst e
    obtain ⟨x', e', hr⟩ := ha.get (i := 0) rfl
    exact ⟨x', by simpa using e', hr⟩
  have tget0 : ∀ {t : Nat} {r : List Nat}, ats.toList = t :: r → ats[0]? = some t := fun {t r} e => by
    have : ats.toList[0]? = some t := by rw [e]; rfl
    simpa using this
  unfold builtinV at hb
  split at hb
  · rename_i t _ x _ e1
    cases hl : lenV E m t x with
    | none => rw [hl] at hb; cases hb
    | some u =>
      rw [hl] at hb; cases hb
      obtain ⟨x', ex, hx⟩ := get0 rfl
      obtain ⟨hr, hv⟩ := sim_len (P := P) (ty := ty) (args := args') hE h hl hx (tget0 e1) ex
      exact ⟨ι, w, v, by simp [builtin, hr], hv, Step.refl h⟩
  · rename_i t _ x _ e1
    cases hl : capV E t x with
    | none => rw [hl] at hb; cases hb
    | some u =>
      rw [hl] at hb; cases hb
      obtain ⟨x', ex, hx⟩ := get0 rfl
      obtain ⟨hr, hv⟩ := sim_cap (P := P) (w := w) (ty := ty) (args := args') hE hl hx (tget0 e1) ex
      exact ⟨ι, w, v, by simp [builtin, hr], hv, Step.refl h⟩
  · rename_i x r
    cases hl : maxV x r with
    | none => rw [hl] at hb; cases hb
    | some u =>
      rw [hl] at hb; cases hb
      cases hargs : args'.toList with
      | nil => rw [hargs] at ha; cases ha
      | cons x' r' =>
        rw [hargs] at ha
        cases ha with
        | cons hx hr =>
          obtain ⟨v', h1, h2⟩ := sim_max (P := P) hl hx hr
          exact ⟨ι, w, v', by simp [builtin, Builtin.max_, hargs, h1], h2, Step.refl h⟩
  · rename_i x r
    cases hl : minV x r with
    | none => rw [hl] at hb; cases hb
    | some u =>
      rw [hl] at hb; cases hb
      cases hargs : args'.toList with
      | nil => rw [hargs] at ha; cases ha
      | cons x' r' =>
        rw [hargs] at ha
        cases ha with
        | cons hx hr =>
          obtain ⟨v', h1, h2⟩ := sim_min (P := P) hl hx hr
          exact ⟨ι, w, v', by simp [builtin, Builtin.min_, hargs, h1], h2, Step.refl h⟩
  · rename_i t r s x _ e1
    obtain ⟨s', es, hs⟩ := get0 rfl
    obtain ⟨x', e', hx⟩ := ha.get (i := 1) rfl
    have h1 : ats[1]? = r.head? := by
      have : ats.toList[1]? = r.head? := by rw [e1]; cases r <;> rfl
      simpa using this
    obtain ⟨ι1, w1, v', hr, hv, hst⟩ := sim_append (P := P) (ty := ty) (args := args') hE h hb hs hx (tget0 e1) h1 es (by simpa using e')
    exact ⟨ι1, w1, v', by simp [builtin, hr], hv, hst⟩
  · rename_i t r x _ e1
    obtain ⟨x', ex, hx⟩ := get0 rfl
    obtain ⟨w1, v', hr, hv, hst⟩ := sim_clear (P := P) (ty := ty) (args := args') hE h hb hx (tget0 e1) ex
    exact ⟨ι, w1, v', by simp [builtin, hr], hv, hst⟩
  · rename_i t r d s _ e1
    obtain ⟨d', ed, hd⟩ := get0 rfl
    obtain ⟨s', es, hs⟩ := ha.get (i := 1) rfl
    obtain ⟨w1, v', hr, hv, hst⟩ := sim_copy (P := P) (ty := ty) (args := args') hE h hb hd hs (tget0 e1) ed (by simpa using es)
    exact ⟨ι, w1, v', by simp [builtin, hr], hv, hst⟩
  · cases hb

theorem sim_range (hE : EnvOk E P) (h : Rel E ι m w) {t : Nat} {x x' v : Value} (hr : rangeV E m t x = some (v, m1)) (hx : VR ι x x') :
    ∃ ι1 w1 v', (Instr.range t x').run P w = .ok v' w1 ∧ VR ι1 v v' ∧ Step E ι m w ι1 m1 w1 := by
  unfold rangeV at hr
  split at hr
  case h_2 => cases hr
  rename_i y hy
  split at hr
  case h_2 => cases hr
  rename_i s hd
  cases hr; cases hx
  have hu := hE.und hy
  rw [hd] at hu
  have hb : (w.alloc (.stringIter s 0)).heap[w.heap.size]? = some (.stringIter s 0) := by show (w.heap.push _)[w.heap.size]? = _; simp
  have hst : Step E ι m w (ι.put m.size ⟨w.heap.size, 0, 0, 0⟩) (m.new (.str s 0)) (w.alloc (.stringIter s 0)) :=
    Step.new h rfl rfl rfl rfl rfl ⟨rfl, hb⟩ (fun _ _ _ _ e => by cases e)
  have hput : (ι.put m.size ⟨w.heap.size, 0, 0, 0⟩) m.size = some ⟨w.heap.size, 0, 0, 0⟩ := by unfold Inj.put; rw [if_pos rfl]
  refine ⟨_, _, .pointer (some ⟨w.heap.size, 0, none⟩), by simp [Instr.range, hu], ?_, hst⟩
  exact VR.ptr 0 hput

theorem sim_next (h : Rel E ι m w) {it it' v : Value} {str : Bool} {ty : TypeId} (hr : nextV m it str = some (v, m1)) (hx : VR ι it it') :
    ∃ w1 v', (Instr.next it' str ty).run P w = .ok v' w1 ∧ VR ι v v' ∧ Step E ι m w ι m1 w1 := by
  unfold nextV at hr
  split at hr
  case h_2 => cases hr
  rename_i a
  split at hr
  case h_2 => cases hr
  rename_i s pos hg
  cases h0 : (!(Nat.beq a.off 0)) with
  | true => rw [h0] at hr; cases hr
  | false =>
  rw [h0] at hr; simp only [cond_false] at hr
  have ha0 : a.off = 0 := Nat.eq_of_beq_eq_true (by simpa using h0)
  cases hx with
  | @ptr b t o hb =>
  simp only at ha0 hg; subst ha0
  obtain ⟨ht0, hh⟩ := h.obj b t _ hb hg
  have e1 : s.data.toList.length = s.size := Array.length_toList
  have hgo : (getObj t.blk).run P w = .ok (.stringIter s pos) w := by simp [getObj, Sem.run, hh]
  cases hlt : Nat.blt pos s.data.toList.length with
  | true =>
    rw [hlt] at hr; simp only [cond_true] at hr
    have hlt' : pos < s.size := by have : pos < s.data.toList.length := by simpa using hlt
                                   omega
    cases hbar : Nat.ble m.bar b with
    | false => rw [hbar] at hr; cases hr
    | true =>
      rw [hbar] at hr; simp only [cond_true, Option.some.injEq, Prod.mk.injEq] at hr
      obtain ⟨rfl, rfl⟩ := hr
      have hset : (setObj t.blk (.stringIter s (pos + (Utf8.decode s pos).2))).run P w = .ok () (w.putObj t.blk (.stringIter s (pos + (Utf8.decode s pos).2))) := by
        simp [setObj, Sem.run, hh, World.putObj]
      have htb := (h.dom _ _ hb).2
      refine ⟨w.putObj t.blk (.stringIter s (pos + (Utf8.decode s pos).2)), .tuple #[.bool true, goInt pos, .int .i32 (Utf8.decode s pos).1], ?_, ?_, ?_⟩
      · simp only [ht0, Nat.add_zero, Instr.next, Sem.run_bind, hgo, Result.andThen_ok, hlt', if_true, hset, Sem.run_pure]
      · exact .tuple (.cons (.bool _) (.cons (.int _ _) (.cons (.int _ _) .nil)))
      · exact Step.upd h hb hg (fun _ _ _ _ e => by cases e) (fun _ _ _ _ e => by cases e) (Nat.le_of_ble_eq_true hbar) (fun c hc => World.putObj_heap_other hc) World.putObj_size rfl rfl rfl
          ⟨ht0, World.putObj_heap_same htb⟩
  | false =>
    rw [hlt] at hr; simp only [cond_false, Option.some.injEq, Prod.mk.injEq] at hr
    obtain ⟨rfl, rfl⟩ := hr
    have hge : ¬ pos < s.size := by rw [← e1]; exact of_bltF hlt
    refine ⟨w, .tuple #[.bool false], ?_, .tuple (.cons (.bool _) .nil), Step.refl h⟩
    simp only [ht0, Nat.add_zero, Instr.next, Sem.run_bind, hgo, Result.andThen_ok, hge, if_false, Sem.run_pure]

theorem int_arg' {k : IntKind} {n : Int} {v' : Value} (h : VR ι (.int k n) v') : v' = .int k n := by cases h; rfl

theorem aop_sim (hE : EnvOk E P) (h : Rel E ι m w) {tm : Tr Value} {nt : Nat} {a : Act} (hT : TR ι tm nt a.tmps) {o : Oper} {r : ANext} (ho : opOk E.ng o.op = true) (hr : aop E (ev tm) m o = some r) :
    OpEnd E P ι m w o a.eval r := by
  rw [aop_def] at hr
  cases hop : o.op with
  | move x =>
    rw [hop] at hr ho; cases hr
    exact OpEnd.pure h (by simp [execOp, hop]) (ev_rel h hT ho)
  | assign x =>
    rw [hop] at hr ho; cases hr
    exact OpEnd.pure h (by simp [execOp, hop]) (ev_rel h hT ho)
  | pick c x y =>
    rw [hop] at hr ho
    simp only [opOk, Bool.and_eq_true] at ho
    have hc := ev_rel h hT ho.1
    simp only at hr
    split at hr
    · rename_i hcv; rw [hcv] at hc; cases hr
      have : a.eval c = .bool true := by cases hce : a.eval c <;> rw [hce] at hc <;> cases hc; rfl
      exact OpEnd.pure h (by simp [execOp, hop, this, asBool]) (ev_rel h hT ho.2.1)
    · rename_i hcv; rw [hcv] at hc; cases hr
      have : a.eval c = .bool false := by cases hce : a.eval c <;> rw [hce] at hc <;> cases hc; rfl
      exact OpEnd.pure h (by simp [execOp, hop, this, asBool]) (ev_rel h hT ho.2.2)
    · cases hr
  | alloc e =>
    rw [hop] at hr
    simp only at hr
    split at hr
    · rename_i z hz
      simp only [newRow, Option.some.injEq] at hr
      subst hr
      obtain ⟨zv, hzr, hzc, _, hzV⟩ := hE.zero hz w
      obtain ⟨hst, hput⟩ := sim_new h (hzV ι) e 0
      refine ⟨_, _, _, .pointer (some ⟨w.heap.size, 0, none⟩), ?_, .inl rfl, VR.ptr 0 hput, hst⟩
      have : zv.cells = z.toArray := by apply Array.ext'; simpa using hzc
      simp [execOp, hop, Instr.alloc, hzr, newVar, Go.newRow, this]
    · cases hr
  | box e x =>
    rw [hop] at hr ho
    simp only [newRow, Option.some.injEq] at hr
    subst hr
    have hx := (ev_rel h hT ho).cells
    obtain ⟨hst, hput⟩ := sim_new h hx e 0
    refine ⟨_, _, _, .pointer (some ⟨w.heap.size, 0, none⟩), ?_, .inl rfl, VR.ptr 0 hput, hst⟩
    simp [execOp, hop, Instr.box, newVar, Go.newRow]
  | build t parts =>
    rw [hop] at hr ho
    simp only at hr
    cases hb : buildV E t (parts.toList.map fun p => (p.1, ev tm p.2)) with
    | none => rw [hb] at hr; cases hr
    | some v =>
      rw [hb] at hr; cases hr
      obtain ⟨v', h1, h2⟩ := sim_build (P := P) hE hb (parts_rel h hT ho)
      have e1 : (parts.map fun (i, x) => (i, a.eval x)) = (parts.toList.map fun p => (p.1, a.eval p.2)).toArray := by apply Array.ext'; simp
      exact OpEnd.pure h (by simp [execOp, hop, e1, h1]) h2
  | buildSlice t len parts =>
    rw [hop] at hr ho
    simp only at hr
    cases hb : buildSliceV E m t len (parts.toList.map fun p => (p.1, ev tm p.2)) with
    | none => rw [hb] at hr; cases hr
    | some q =>
      obtain ⟨v, m1⟩ := q
      rw [hb] at hr; cases hr
      obtain ⟨ι1, w1, v', h1, h2, h3⟩ := sim_buildSlice (P := P) hE h hb (parts_rel h hT ho)
      have e1 : (parts.map fun (i, x) => (i, a.eval x)) = (parts.toList.map fun p => (p.1, a.eval p.2)).toArray := by apply Array.ext'; simp
      exact ⟨ι1, w1, _, v', by simp [execOp, hop, e1, h1], .inl rfl, h2, h3⟩
  | load t x =>
    rw [hop] at hr ho
    simp only at hr
    have hx := ev_rel h hT ho
    split at hr
    · rename_i ad had
      rw [had] at hx
      cases hl : loadV E m t ad with
      | none => rw [hl] at hr; cases hr
      | some v =>
        rw [hl] at hr; cases hr
        cases hxe : a.eval x with
        | pointer p =>
          rw [hxe] at hx
          cases p with
          | none => cases hx
          | some a' =>
            obtain ⟨v', h1, h2⟩ := sim_loadVar (P := P) hE h hl hx
            exact OpEnd.pure h (by simp [execOp, hop, hxe, Instr.loadAt, Instr.sureAddr, h1]) h2
        | _ => rw [hxe] at hx; cases hx
    · cases hr
  | store t x y =>
    rw [hop] at hr ho
    simp only [opOk, Bool.and_eq_true] at ho
    simp only at hr
    have hx := ev_rel h hT ho.1
    have hy := ev_rel h hT ho.2
    split at hr
    · rename_i ad had
      rw [had] at hx
      cases hl : storeV E m t ad (ev tm y) with
      | none => rw [hl] at hr; cases hr
      | some m1 =>
        rw [hl] at hr; cases hr
        cases hxe : a.eval x with
        | pointer p =>
          rw [hxe] at hx
          cases p with
          | none => cases hx
          | some a' =>
            obtain ⟨w1, h1, h2⟩ := sim_storeVar (P := P) hE h hl hx hy
            exact ⟨ι, w1, _, undef, by simp [execOp, hop, hxe, Instr.storeAt, Instr.sureAddr, h1], .inr ⟨rfl, rfl⟩, VR.undef, h2⟩
        | _ => rw [hxe] at hx; cases hx
    · cases hr
  | nilCheck x =>
    rw [hop] at hr ho
    simp only at hr
    have hx := ev_rel h hT ho
    split at hr
    · cases hr
    · cases hr
    · cases hr
    · cases hr
    · rename_i h1 h2 h3 h4
      cases hr
      refine OpEnd.pure h ?_ hx
      generalize hev : ev tm x = v at *
      generalize hae : a.eval x = v' at *
      cases hx <;> first | (exact absurd rfl h1) | (exact absurd rfl h2) | (exact absurd rfl h3) | (simp [execOp, hop, hae])
  | binOp op t x y yt =>
    rw [hop] at hr ho
    simp only [opOk, Bool.and_eq_true] at ho
    have hx := ev_rel h hT ho.1
    have hy := ev_rel h hT ho.2
    have key : ∀ v, ((op = .eql ∨ op = .neq) → eqFine E t (isConst x) (isConst y) (ev tm x) (ev tm y) = true) → binV E op t (ev tm x) (ev tm y) = some v → OpEnd E P ι m w o a.eval (.val v m) := fun v hg hb => by
      obtain ⟨h1, h2⟩ := sim_bin (P := P) hE hb hx hy
      have h3 := sim_guard (P := P) (w := w) (cx := x) (cy := y) hE hg hx hy
      exact OpEnd.pure h (by simp [execOp, hop, h3, h1]) h2
    simp only at hr
    split at hr
    · cases hg : eqFine E t (isConst x) (isConst y) (ev tm x) (ev tm y) with
      | false => rw [hg] at hr; cases hr
      | true =>
        rw [hg] at hr; simp only [cond_true] at hr
        cases hb : binV E .eql t (ev tm x) (ev tm y) with
        | none => rw [hb] at hr; cases hr
        | some v => rw [hb] at hr; cases hr; exact key v (fun _ => hg) hb
    · cases hg : eqFine E t (isConst x) (isConst y) (ev tm x) (ev tm y) with
      | false => rw [hg] at hr; cases hr
      | true =>
        rw [hg] at hr; simp only [cond_true] at hr
        cases hb : binV E .neq t (ev tm x) (ev tm y) with
        | none => rw [hb] at hr; cases hr
        | some v => rw [hb] at hr; cases hr; exact key v (fun _ => hg) hb
    · rename_i n1 n2
      cases hb : binV E op t (ev tm x) (ev tm y) with
      | none => rw [hb] at hr; cases hr
      | some v => rw [hb] at hr; cases hr; exact key v (fun e => (e.elim (fun e => (n1 e).elim) (fun e => (n2 e).elim))) hb
  | unOp op t x =>
    rw [hop] at hr ho
    simp only at hr
    cases hb : unV op (ev tm x) with
    | none => rw [hb] at hr; cases hr
    | some v =>
      rw [hb] at hr; cases hr
      obtain ⟨h1, h2⟩ := sim_un (P := P) hb (ev_rel h hT ho)
      exact OpEnd.pure h (by simp [execOp, hop, h1]) h2
  | convert s d x =>
    rw [hop] at hr ho
    simp only at hr
    cases hb : convV E m s d (ev tm x) with
    | none => rw [hb] at hr; cases hr
    | some q =>
      obtain ⟨v, m1⟩ := q
      rw [hb] at hr; cases hr
      obtain ⟨ι1, w1, v', h1, h2, h3⟩ := sim_conv (P := P) hE h hb (ev_rel h hT ho)
      exact ⟨ι1, w1, _, v', by simp [execOp, hop, h1], .inl rfl, h2, h3⟩
  | makeInterface t x =>
    rw [hop] at hr ho
    simp only at hr
    split at hr
    · rename_i y hy
      have hu := hE.und hy
      split at hr
      · cases hr
      · rename_i hni
        cases hr
        refine OpEnd.pure (v' := .iface t (a.eval x)) h ?_ (.iface t (ev_rel h hT ho))
        simp only [execOp, hop, Instr.makeInterface, Sem.run_bind, hu, Result.andThen_ok]
        cases hd : y.desc <;> first | rfl | exact absurd hd (hni _)
    · cases hr
  | makeFunc fn first captured =>
    rw [hop] at hr ho
    simp only [opOk, Bool.and_eq_true] at ho
    simp only at hr
    split at hr
    · rename_i f
      cases hr
      refine OpEnd.pure (v' := .func (.func f) (first.map a.eval) (captured.map a.eval)) h (by simp [execOp, hop, Instr.makeFunc]) (.fn f ?_ ?_)
      · simpa using evs_rel h hT ho.1
      · simpa using evs_rel h hT ho.2
    · cases hr
  | makeSlice t l c =>
    rw [hop] at hr ho
    simp only [opOk, Bool.and_eq_true] at ho
    simp only at hr
    cases hb : makeSliceV E m t (ev tm l) (ev tm c) with
    | none => rw [hb] at hr; cases hr
    | some q =>
      obtain ⟨v, m1⟩ := q
      rw [hb] at hr; cases hr
      obtain ⟨ι1, w1, v', h1, h2, h3⟩ := sim_makeSlice (P := P) hE h hb (ev_rel h hT ho.1) (ev_rel h hT ho.2)
      exact ⟨ι1, w1, _, v', by simp [execOp, hop, h1], .inl rfl, h2, h3⟩
  | slice t x l hi mx =>
    rw [hop] at hr ho
    simp only [opOk, Bool.and_eq_true] at ho
    simp only at hr
    cases hb : sliceV E t (ev tm x) (l.map (ev tm)) (hi.map (ev tm)) (mx.map (ev tm)) with
    | none => rw [hb] at hr; cases hr
    | some v =>
      rw [hb] at hr; cases hr
      obtain ⟨v', h1, h2⟩ := sim_slice (P := P) hE hb (ev_rel h hT ho.1) (opt_rel h hT ho.2.1) (opt_rel h hT ho.2.2.1) (opt_rel h hT ho.2.2.2)
      exact OpEnd.pure h (by simp [execOp, hop, h1]) h2
  | fieldAddr s x f =>
    rw [hop] at hr ho
    simp only at hr
    cases hb : fieldAddrV E s (ev tm x) f with
    | none => rw [hb] at hr; cases hr
    | some v =>
      rw [hb] at hr; cases hr
      obtain ⟨v', h1, h2⟩ := sim_fieldAddr (P := P) hE hb (ev_rel h hT ho)
      exact OpEnd.pure h (by simp [execOp, hop, h1]) h2
  | field s x f =>
    rw [hop] at hr ho
    simp only at hr
    cases hb : fieldV E s (ev tm x) f with
    | none => rw [hb] at hr; cases hr
    | some v =>
      rw [hb] at hr; cases hr
      obtain ⟨v', h1, h2⟩ := sim_field (P := P) hE hb (ev_rel h hT ho)
      exact OpEnd.pure h (by simp [execOp, hop, h1]) h2
  | indexAddr t x i =>
    rw [hop] at hr ho
    simp only [opOk, Bool.and_eq_true] at ho
    simp only at hr
    cases hb : indexAddrV E t (ev tm x) (ev tm i) with
    | none => rw [hb] at hr; cases hr
    | some v =>
      rw [hb] at hr; cases hr
      obtain ⟨v', h1, h2⟩ := sim_indexAddr (P := P) hE hb (ev_rel h hT ho.1) (ev_rel h hT ho.2)
      exact OpEnd.pure h (by simp [execOp, hop, h1]) h2
  | index t x i =>
    rw [hop] at hr ho
    simp only [opOk, Bool.and_eq_true] at ho
    simp only at hr
    cases hb : indexV E t (ev tm x) (ev tm i) with
    | none => rw [hb] at hr; cases hr
    | some v =>
      rw [hb] at hr; cases hr
      obtain ⟨v', h1, h2⟩ := sim_index (P := P) hE hb (ev_rel h hT ho.1) (ev_rel h hT ho.2)
      exact OpEnd.pure h (by simp [execOp, hop, h1]) h2
  | extract t i =>
    rw [hop] at hr ho
    simp only at hr
    have hx := ev_rel h hT ho
    split at hr
    · rename_i vs hvs
      rw [hvs] at hx
      cases hg : vs.toList[i]? with
      | none => rw [hg] at hr; cases hr
      | some v =>
        rw [hg] at hr; cases hr
        cases hxe : a.eval t with
        | tuple vs' =>
          rw [hxe] at hx
          cases hx with
          | tuple hx =>
            obtain ⟨v', e', hr'⟩ := hx.get hg
            have e2 : vs'[i]? = some v' := by simpa using e'
            exact OpEnd.pure h (by simp [execOp, hop, hxe, Instr.extract, e2]) hr'
        | _ => rw [hxe] at hx; cases hx
    · cases hr
  | range t x =>
    rw [hop] at hr ho
    simp only at hr
    cases hb : rangeV E m t (ev tm x) with
    | none => rw [hb] at hr; cases hr
    | some q =>
      obtain ⟨v, m1⟩ := q
      rw [hb] at hr; cases hr
      obtain ⟨ι1, w1, v', h1, h2, h3⟩ := sim_range (P := P) hE h hb (ev_rel h hT ho)
      exact ⟨ι1, w1, _, v', by simp [execOp, hop, h1], .inl rfl, h2, h3⟩
  | next it str =>
    rw [hop] at hr ho
    simp only at hr
    cases hb : nextV m (ev tm it) str with
    | none => rw [hb] at hr; cases hr
    | some q =>
      obtain ⟨v, m1⟩ := q
      rw [hb] at hr; cases hr
      obtain ⟨w1, v', h1, h2, h3⟩ := sim_next (P := P) (ty := o.type) h hb (ev_rel h hT ho)
      exact ⟨ι, w1, _, v', by simp [execOp, hop, h1], .inl rfl, h2, h3⟩
  | call c =>
    rw [hop] at hr ho
    simp only [opOk, Bool.and_eq_true] at ho
    have hargs := evs_rel h hT ho.1
    simp only at hr
    split at hr
    · rename_i b hb
      cases hq : builtinV E m b c.argTypes.toList (c.args.toList.map (ev tm)) with
      | none => rw [hq] at hr; cases hr
      | some q =>
        obtain ⟨v, m1⟩ := q
        rw [hq] at hr; cases hr
        obtain ⟨ι1, w1, v', h1, h2, h3⟩ := builtin_sim (P := P) (ty := o.type) (consts := c.args.map fun | .const _ => true | _ => false) (args' := c.args.map a.eval) hE h hq (by simpa using hargs)
        refine ⟨ι1, w1, _, v', ?_, .inl rfl, h2, h3⟩
        simp only [execOp, hop, resolve, hb, Sem.run_bind, Sem.run_pure, Result.andThen_ok, invoke]
        exact h1
    · rename_i f hf
      rw [hf] at ho
      have hfv := ev_rel h hT ho.2
      split at hr
      · rename_i g first captured hev
        cases hr
        rw [hev] at hfv
        cases hfe : a.eval f with
        | func fn' first' captured' =>
          rw [hfe] at hfv
          cases hfv with
          | fn _ h1 h2 =>
            refine ⟨first'.toList ++ (c.args.toList.map a.eval ++ captured'.toList), h1.append (hargs.append h2), ?_⟩
            have e1 : first' ++ c.args.map a.eval ++ captured' = (first'.toList ++ (c.args.toList.map a.eval ++ captured'.toList)).toArray := by apply Array.ext'; simp
            simp only [execOp, hop, resolve, hf, Sem.run_bind, hfe, Deferred.ofValue, Sem.run_pure, Result.andThen_ok, invoke, e1]
        | _ => rw [hfe] at hfv; cases hfv
      · rename_i l first captured hev
        cases hr
        rw [hev] at hfv
        cases hfe : a.eval f with
        | func fn' first' captured' =>
          rw [hfe] at hfv
          cases hfv with
          | @yld _ t hl =>
            refine ⟨t, c.args.toList.map a.eval, hl, by simpa using hargs, ?_⟩
            have e1 : #[] ++ c.args.map a.eval = (c.args.toList.map a.eval).toArray := by apply Array.ext'; simp
            simp only [execOp, hop, resolve, hf, Sem.run_bind, hfe, Deferred.ofValue, Sem.run_pure, Result.andThen_ok, invoke, e1]
        | _ => rw [hfe] at hfv; cases hfv
      · cases hr
    · cases hr
  | makeMap t r =>
    rw [hop] at hr ho
    simp only at hr
    split at hr
    · rename_i ht
      have key : ∀ r' : Option Value, (r.map a.eval = r') → (r' = none ∨ ∃ k n, r' = some (.int k n)) → OpEnd E P ι m w o a.eval (.val (.map (some m.size)) (m.new (.map [] 0))) := fun r' e hr' => by
        obtain ⟨ι1, w1, v', h1, h2, h3⟩ := sim_makeMap (P := P) hE h ht hr'
        exact ⟨ι1, w1, _, v', by simp [execOp, hop, e, h1], .inl rfl, h2, h3⟩
      split at hr
      · cases hr; exact key none rfl (.inl rfl)
      · rename_i x
        split at hr
        · rename_i kk n he
          cases hr
          have hv := ev_rel h hT (x := x) ho
          rw [he] at hv
          exact key _ rfl (.inr ⟨kk, n, by simp [int_arg' hv]⟩)
        · cases hr
    · cases hr
  | lookup t x k ok =>
    rw [hop] at hr ho
    simp only [opOk, Bool.and_eq_true] at ho
    simp only at hr
    cases hb : lookupV E m t (ev tm x) (ev tm k) ok with
    | none => rw [hb] at hr; cases hr
    | some v =>
      rw [hb] at hr; cases hr
      obtain ⟨v', h1, h2⟩ := sim_lookup (P := P) hE h hb (ev_rel h hT ho.1) (ev_rel h hT ho.2)
      exact OpEnd.pure h (by simp [execOp, hop, h1]) h2
  | mapUpdate t x k v =>
    rw [hop] at hr ho
    simp only [opOk, Bool.and_eq_true] at ho
    simp only at hr
    cases hb : mapPutV E m t (ev tm x) (ev tm k) (ev tm v) with
    | none => rw [hb] at hr; cases hr
    | some m1 =>
      rw [hb] at hr; cases hr
      obtain ⟨w1, h1, h2⟩ := sim_mapPut (P := P) hE h hb (ev_rel h hT ho.1) (ev_rel h hT ho.2.1) (ev_rel h hT ho.2.2)
      exact ⟨ι, w1, _, undef, by simp [execOp, hop, h1], .inr ⟨rfl, rfl⟩, VR.undef, h2⟩
  | insert t x k v =>
    rw [hop] at hr ho
    simp only [opOk, Bool.and_eq_true] at ho
    simp only at hr
    cases hb : mapPutV E m t (ev tm x) (ev tm k) (ev tm v) with
    | none => rw [hb] at hr; cases hr
    | some m1 =>
      rw [hb] at hr; cases hr
      obtain ⟨w1, h1, h2⟩ := sim_mapPut (P := P) hE h hb (ev_rel h hT ho.1) (ev_rel h hT ho.2.1) (ev_rel h hT ho.2.2)
      exact ⟨ι, w1, _, undef, by simp [execOp, hop, h1], .inr ⟨rfl, rfl⟩, VR.undef, h2⟩
  | _ => rw [hop] at hr; cases hr
end
end Go.Am
