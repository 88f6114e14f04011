/- TableMoves holds. Part 20 of 29; no condition. -/
import Derived.Test.YthjlhgjnjhmfbaaGreatDoorM19
import Derived.Test.YthjlhgjnjhmfbaaGreatDoorProg
import Derived.KernelRfl
import Derived.Laws.IdiomCopy
set_option linter.unusedVariables false
set_option linter.unusedSimpArgs false
noncomputable section
namespace Go.Proofs.YthjlhgjnjhmfbaaGreatDoor
open Go Go.Am
def tys : Tr (Option Ty) := tyTable Tryz.prog.types.toList
def fns : Tr (Option Fun) := funTable Tryz.prog.globals.size Tryz.prog.funcs.toList
def exs (f : Nat) : Option (List Value -> Mem -> Option (Value × Mem)) :=
 match Nat.beq f 109 with
 | true => some xCompare
 | false =>
  match Nat.beq f 128 with
  | true => some xCountString
  | false =>
   match Nat.beq f 129 with
   | true => some xIndexByteString
   | false =>
    none
def env : Env := envOf Tryz.prog tys fns exs
theorem env_ok : EnvOk env Tryz.prog := envOf_ok Tryz.prog rfl rfl (by kernel_rfl)
theorem env_ng : env.ng = 3 := by kernel_rfl
theorem x109 : ExtFn Tryz.prog 109 Tryz.f109 Extern.BytealgCompare.compare := ⟨Tryz.func109, by kernel_rfl, by kernel_rfl, by kernel_rfl, by kernel_rfl⟩
theorem x128 : ExtFn Tryz.prog 128 Tryz.f128 Extern.BytealgCount.count := ⟨Tryz.func128, by kernel_rfl, by kernel_rfl, by kernel_rfl, by kernel_rfl⟩
theorem x129 : ExtFn Tryz.prog 129 Tryz.f129 Extern.BytealgIndexByte.indexByte := ⟨Tryz.func129, by kernel_rfl, by kernel_rfl, by kernel_rfl, by kernel_rfl⟩
theorem env_ext : XTab env Tryz.prog := by
 constructor
 intro f g hg
 have hg' : exs f = some g := hg
 unfold exs at hg'
 split at hg'
 ·rename_i h
  obtain rfl := Nat.eq_of_beq_eq_true h
  cases hg'
  exact ⟨_, _, x109, xCompare_sim⟩
 ·skip
  split at hg'
  ·rename_i h
   obtain rfl := Nat.eq_of_beq_eq_true h
   cases hg'
   exact ⟨_, _, x128, xCountString_sim⟩
  ·skip
   split at hg'
   ·rename_i h
    obtain rfl := Nat.eq_of_beq_eq_true h
    cases hg'
    exact ⟨_, _, x129, xIndexByteString_sim⟩
   ·skip
    cases hg'
theorem sure0 : Sure env Tryz.prog := Sure.of env_ok env_ext
end Go.Proofs.YthjlhgjnjhmfbaaGreatDoor
end
noncomputable section
namespace Go.Am
open Go.RowKit
structure InsFn (P : Program) (F ts te es by_ : Nat) : Prop where
 shift : ∀ (b off n c i vb voff m vc : Nat) (cs vs : List Value) (w : World), i < n -> 0 < m -> n + m <= c -> n + m <= 4611686018427387904 -> vb ≠ b -> cs.length = n * es -> vs.length = m * es →
  (∀ j v, cs[j]? = some v -> w.cell? ⟨b, off + j, none⟩ = some v) -> (∀ j, j < (n + m) * es -> (w.cell? ⟨b, off + j, none⟩).isSome = true) -> (∀ j, j < (n + m) * es -> w.frozen? ⟨b, off + j, none⟩ = false) →
  (∀ j v, vs[j]? = some v -> w.cell? ⟨vb, voff + j, none⟩ = some v) -> (∀ v ∈ cs, v.oneCell' = true) -> (∀ v ∈ vs, v.oneCell' = true) →
  ∀ (tA tB : TypeId) (kA kB : Nat), w.shape? vb = some (tA, kA) -> w.shape? b = some (tB, kB) -> kB ≠ 0 -> w.frozen? ⟨vb, voff, none⟩ = false -> w.frozen? ⟨vb, kA, none⟩ = false →
  Calls P F #[.slice (some ⟨b, off, none⟩) n c, .int .i64 i, .slice (some ⟨vb, voff, none⟩) m vc] w fun e w' =>
   e = .returned (.slice (some ⟨b, off, none⟩) (n + m) c) /\ w' = (w.drew.setCells b (off + (i + m) * es) (cs.drop (i * es))).setCells b (off + i * es) vs
 grow : ∀ (b off n c i vb voff m vc : Nat) (cs vs : List Value) (w : World), i < n -> 0 < m -> n <= c -> c < n + m -> (n + m) * by_ <= 140737488355328 -> cs.length = n * es -> vs.length = m * es →
  (∀ j v, cs[j]? = some v -> w.cell? ⟨b, off + j, none⟩ = some v) -> (∀ j v, vs[j]? = some v -> w.cell? ⟨vb, voff + j, none⟩ = some v) -> (∀ v ∈ cs, v.oneCell' = true) -> (∀ v ∈ vs, v.oneCell' = true) →
  Calls P F #[.slice (some ⟨b, off, none⟩) n c, .int .i64 i, .slice (some ⟨vb, voff, none⟩) m vc] w fun e w' => ∃ (G : Nat) (ROW : Array Value), n + m <= G /\ ROW.size = G * es /\ (∀ j, j < i * es -> ROW[j]? = cs[j]?) ∧
   e = .returned (.slice (some ⟨w.heap.size, 0, none⟩) (n + m) G) ∧
   w' = (((w.alloc (.cells ROW te)).drew.setCells w.heap.size (i * es) vs).drew).setCells w.heap.size ((i + m) * es) (cs.drop (i * es))
 tail : ∀ (base : Option Addr) (n c vb voff m vc : Nat) (w w1 : World) (v' : Value), 0 < m -> n <= c -> (base = none -> n = 0) →
  (Builtin.append_ #[ts, ts] ts #[.slice base n c, .slice (some ⟨vb, voff, none⟩) m vc]).run P w = .ok v' w1 →
  Calls P F #[.slice base n c, .int .i64 n, .slice (some ⟨vb, voff, none⟩) m vc] w fun e w' => e = .returned v' /\ w' = w1
def xIns0 (E : Env) (ts es by_ : Nat) (args : List Value) (m : Mem) : Option (Value × Mem) :=
 match args with
 | [.slice base n k, .int .i64 i, .slice (some ⟨rv, ov, none⟩) nv kv] =>
  if nv = 0 then none else
  if i = (n : Int) then (if n <= capOf k /\ (base.isSome || Nat.beq n 0) = true then appendV E m ts (some ts) (.slice base n k) (.slice (some ⟨rv, ov, none⟩) nv kv) else none) else
  match base with
  | some ⟨r, o, none⟩ => match m.get r, m.get rv with
   | some (.row cs .rw es1 none), some (.row vs .rw es2 none) =>
    if (o = 0 /\ ov = 0 /\ 0 <= i /\ i.toNat < n) /\ (cs.length = n * es /\ vs.length = nv * es /\ r ≠ rv /\ m.bar <= r) /\ (k = loCap n es /\ es1 = es /\ es2 = es /\ (n + nv) * by_ <= 140737488355328 /\ n + nv <= 4611686018427387904) /\ (es < 4096 /\ es ≠ 1 /\ 0 < es) /\ (allOne cs = true /\ allOne vs = true) then
     some (.slice (some (addr m.size 0)) (n + nv) (loCap (n + nv) es), (m.upd r none).new (.row (cs.take (i.toNat * es) ++ (vs ++ cs.drop (i.toNat * es))) .rw es none))
    else none
   | _, _ => none
  | _ => none
 | _ => none
section
variable {E : Env} {P : Program} {ι : Inj} {m m1 : Mem} {w w' : World}
theorem setCells_eq (b : Nat) : ∀ (vs : List Value) (o : Nat) (w : World), w.setCells b o vs = setAll w b o vs
 | [], _, _ => rfl
 | v :: r, o, w => by rw [World.setCells, setAll, setCells_eq b r]
theorem oneC_eq (v : Value) : v.oneCell' = oneC v := by cases v <;> rfl
theorem Step.swap (h : Rel E ι m w) {r : Nat} {t t' : Tgt} {cs cs' : List Value} {es es' : Nat} (hr : ι r = some t) (hg : m.get r = some (.row cs .rw es none)) (hbar : m.bar <= r)
  (hsz : w.heap.size <= w'.heap.size) (hb : ∀ c, c < w.heap.size -> c ≠ t.blk -> w'.heap[c]? = w.heap[c]?) (ht' : t'.blk = t.blk \/ (t'.blk = w.heap.size /\ w.heap.size < w'.heap.size))
  (hor : OR E.ng (ι.put m.size t') w' t' (.row cs' .rw es' none)) (h1 : w'.os = w.os) (h2 : w'.tape = w.tape) (h3 : w'.output = w.output) (h4 : w.drawn <= w'.drawn) :
  Step E ι m w (ι.put m.size t') ((m.upd r none).new (.row cs' .rw es' none)) w' := by
 have hnb : m.nb <= m.size := Nat.le_trans h.nb h.bar
 have hrs : r < m.size := (h.dom r t hr).1
 have htb := (h.dom r t hr).2
 have hnbr : m.nb <= r := Nat.le_trans h.nb hbar
 have hsub := Inj.put_sub (ι := ι) t' h.none_of_size
 have hN : ((m.upd r none).new (.row cs' .rw es' none)).get m.size = some (.row cs' .rw es' none) := Mem.get_new_same (m := m.upd r none) hnb _
 have hR : ((m.upd r none).new (.row cs' .rw es' none)).get r = none := by
  rw [Mem.get_new_ne (m := m.upd r none) hnb (by show r ≠ m.size; omega), Mem.get_upd_same hnbr]
 have hO : ∀ c, c ≠ m.size -> c ≠ r -> ((m.upd r none).new (.row cs' .rw es' none)).get c = m.get c := fun c hc hcr => by
  rw [Mem.get_new_ne (m := m.upd r none) hnb hc, Mem.get_upd_ne hnbr hcr]
 have noA1 : ∀ y, ¬ Anc m r y := fun y ha => by obtain ⟨⟨_, _, _, e⟩, _⟩ := ha.rows; rw [hg] at e; cases e
 have noA2 : ∀ y, ¬ Anc m y r := fun y ha => by obtain ⟨_, _, _, _, _, e⟩ := ha.rows; rw [hg] at e; cases e
 have hlive : ∀ c o, ((m.upd r none).new (.row cs' .rw es' none)).get c = some o -> c ≠ m.size -> c ≠ r /\ m.get c = some o := fun c o e hc => by
  have hcr : c ≠ r := fun q => by subst q; rw [hR] at e; cases e
  exact ⟨hcr, by rw [<- hO c hc hcr]; exact e⟩
 have hput : ∀ c u, (ι.put m.size t') c = some u -> (c = m.size /\ u = t') \/ (c ≠ m.size /\ ι c = some u) := fun c u e => by
  unfold Inj.put at e; split at e
  ·rename_i hc; cases e; exact .inl ⟨hc, rfl⟩
  ·rename_i hc; exact .inr ⟨hc, e⟩
 have apart : ∀ c u o, ι c = some u -> m.get c = some o -> c ≠ r -> u.blk ≠ t.blk := fun c u o e k hc hq => by
  rcases h.sep c r u t o _ e hr k hg hc hq (Bool.and_false _) with ha | ha
  ·exact noA2 _ ha
  ·exact noA1 _ ha
 have up : ∀ x y, Anc m x y -> Anc ((m.upd r none).new (.row cs' .rw es' none)) x y := fun x y ha => ha.between fun z h1 h2 => by
  have hz : z ≠ m.size := fun q => by
   have : ∃ o, m.get z = some o := by
    rcases h1 with rfl | h1
    ·exact ha.live.1
    ·exact h1.live.2
   obtain ⟨o, e⟩ := this
   rw [h.top z (by omega)] at e; cases e
  have hzr : z ≠ r := fun q => by
   subst q
   rcases h1 with rfl | h1
   ·exact noA1 _ ha
   ·exact noA2 _ h1
  exact hO z hz hzr
 have noN1 : ∀ y, ¬ Anc ((m.upd r none).new (.row cs' .rw es' none)) m.size y := fun y ha => by obtain ⟨⟨_, _, _, e⟩, _⟩ := ha.rows; rw [hN] at e; cases e
 have noN2 : ∀ y, ¬ Anc ((m.upd r none).new (.row cs' .rw es' none)) y m.size := fun y ha => by obtain ⟨_, _, _, _, _, e⟩ := ha.rows; rw [hN] at e; cases e
 have down : ∀ x y, Anc ((m.upd r none).new (.row cs' .rw es' none)) x y -> Anc m x y := fun x y ha => ha.between fun z h1 h2 => by
  have hl : ∃ o, ((m.upd r none).new (.row cs' .rw es' none)).get z = some o := by
   rcases h1 with rfl | h1
   ·exact ha.live.1
   ·exact h1.live.2
  have hz : z ≠ m.size := fun q => by
   subst q
   rcases h1 with rfl | h1
   ·exact noN1 _ ha
   ·exact noN2 _ h1
  have hzr : z ≠ r := fun q => by
   obtain ⟨o, e⟩ := hl
   rw [q, hR] at e; cases e
  exact (hO z hz hzr).symm
 refine ⟨hsub, ?_, ?_, ?_, ?_, hsz, Nat.le_succ _, h1, h2, h3, h4⟩
 ·intro c u e n
  rcases hput c u e with ⟨rfl, _⟩ | ⟨_, e'⟩
  ·exact Nat.le_refl _
  ·rw [e'] at n; cases n
 ·constructor
  ·intro c u e
   rcases hput c u e with ⟨rfl, rfl⟩ | ⟨_, e'⟩
   ·exact ⟨Nat.lt_succ_self _, by rcases ht' with q | ⟨q, q'⟩ <;> omega⟩
   ·have := h.dom _ _ e'; exact ⟨Nat.lt_succ_of_lt this.1, by omega⟩
  ·intro c u o e k
   rcases hput c u e with ⟨rfl, rfl⟩ | ⟨hc, e'⟩
   ·rw [hN] at k; cases k; exact hor
   ·obtain ⟨hcr, k'⟩ := hlive c o k hc
    exact (h.obj c u o e' k').move hsub (hb _ (h.dom _ _ e').2 (apart c u o e' k' hcr))
  ·intro x y u v ox oy e1 e2 k1 k2 hn hq hro
   rcases hput x u e1 with ⟨rfl, rfl⟩ | ⟨hx, e1'⟩
   ·rcases hput y v e2 with ⟨rfl, rfl⟩ | ⟨hy, e2'⟩
    ·exact absurd rfl hn
    ·obtain ⟨hyr, k2'⟩ := hlive y oy k2 hy
     have h5 := apart y v oy e2' k2' hyr
     have h6 := (h.dom _ _ e2').2
     rcases ht' with q | ⟨q, _⟩ <;> omega
   ·obtain ⟨hxr, k1'⟩ := hlive x ox k1 hx
    rcases hput y v e2 with ⟨rfl, rfl⟩ | ⟨hy, e2'⟩
    ·have h5 := apart x u ox e1' k1' hxr
     have h6 := (h.dom _ _ e1').2
     rcases ht' with q | ⟨q, _⟩ <;> omega
    ·obtain ⟨hyr, k2'⟩ := hlive y oy k2 hy
     exact (h.sep x y u v ox oy e1' e2' k1' k2' hn hq hro).imp (up _ _) (up _ _)
  ·intro x y u v e1 e2 ha hq
   have hx : x ≠ m.size := fun q => by subst q; exact noN1 _ ha
   have hy : y ≠ m.size := fun q => by subst q; exact noN2 _ ha
   have hd := down _ _ ha
   rcases hput x u e1 with ⟨q, _⟩ | ⟨_, e1'⟩
   ·exact absurd q hx
   rcases hput y v e2 with ⟨q, _⟩ | ⟨_, e2'⟩
   ·exact absurd q hy
   have hxr : x ≠ r := fun q => by subst q; exact noA1 _ hd
   have hyr : y ≠ r := fun q => by subst q; exact noA2 _ hd
   rw [hO x hx hxr, hO y hy hyr]
   exact h.rng x y u v e1' e2' hd hq
  ·exact h.nb
  ·exact Nat.le_succ_of_le h.bar
  ·intro c o hc k
   have hc' : c < m.nb := hc
   obtain ⟨_, k'⟩ := hlive c o k (by omega)
   exact h.base c o hc' k'
  ·intro g hgl
   obtain ⟨u, e, hu⟩ := h.glob g hgl
   exact ⟨u, hsub _ _ e, hu⟩
  ·intro c hc
   have hc' : m.size + 1 <= c := hc
   rw [hO c (by omega) (by omega)]
   exact h.top c (by omega)
  ·intro c cs0 md es0 q k
   by_cases hc : c = m.size
   ·subst hc; rw [hN] at k; cases k
   ·obtain ⟨hcr, k'⟩ := hlive c _ k hc
    obtain ⟨hq, hcl⟩ := h.prv _ _ _ _ _ k'
    refine ⟨hq, fun o e => ?_⟩
    have hcs : c < m.size := by
     rcases Nat.lt_or_ge c m.size with hx | hx
     ·exact hx
     ·rw [h.top c hx] at k'; cases k'
    exact hcl o (hlive q o e (by omega)).2
 ·rintro c hc ⟨a, u, o, e, k, hro, hu⟩
  rcases hput a u e with ⟨rfl, rfl⟩ | ⟨ha, e'⟩
  ·rcases ht' with q | ⟨q, _⟩
   ·exact ⟨r, t, _, hr, hg, rfl, by omega⟩
   ·omega
  ·obtain ⟨_, k'⟩ := hlive a o k ha
   exact ⟨a, u, o, e', k', hro, hu⟩
 ·intro c hc hn
  refine hb c hc fun q => hn ⟨r, t, _, hr, hg, rfl, q.symm⟩
theorem row_real (h : Rel E ι m w) {b : Nat} {t : Tgt} {cs : List Value} {md : Md} {es : Nat} {q : Option Nat} (hb : ι b = some t) (hg : m.get b = some (.row cs md es q)) :
  ∃ cs', VRs ι cs cs' /\ ∀ (j : Nat) v', cs'[j]? = some v' -> w.cell? ⟨t.blk, t.dlt + j, none⟩ = some v' := by
 have hc : m.cells ⟨b, 0, none⟩ cs.length = some cs := by
  unfold Mem.cells
  rw [hg]
  simp
  rw [bleT (Nat.le_refl _)]; rfl
 obtain ⟨_, cs', h1, h2⟩ := load_cells h hb hc
 exact ⟨cs', h1, fun j v' e => by have := h2 j v' e; simpa using this⟩
theorem insert_ok0 (hE : EnvOk E P) {F ts te es by_ : Nat} (I : InsFn P F ts te es by_) {x : Fun} (hf : E.fn F = some x) {args args' : List Value} {v : Value} (hr : xIns0 E ts es by_ args m = some (v, m1)) (h : Rel E ι m w) (ha : VRs ι args args') :
  Upon P (Got E ι m w v m1) ((callFunc F args'.toArray).run P w) := by
 rw [callFunc_enter hE hf]
 show CallsIn Fence.wide 0 P F args'.toArray w (retOnly (Got E ι m w v m1))
 refine callsIn_wide.2 ?_
 unfold xIns0 at hr
 split at hr
 case h_2 => cases hr
 rename_i base n k i rv ov nv kv
 split at hr
 ·cases hr
 rename_i hnv
 cases ha with
 | @cons _ s' _ _ hs ha =>
 cases ha with
 | @cons _ i' _ _ hi ha =>
 cases ha with
 | @cons _ x' _ _ hx ha =>
 cases ha
 cases int_arg' hi
 obtain ⟨tv, cv, htv, rfl, hcv⟩ : ∃ tv cv, ι rv = some tv /\ x' = .slice (some ⟨tv.blk, tv.dlt + ov, none⟩) nv cv /\ True := by
  cases hx with
  | sex o _ c hb => exact ⟨_, _, hb, rfl, trivial⟩
  | slo o _ c c' hb h4 h5 h6 => exact ⟨_, _, hb, rfl, trivial⟩
  | semp => exact absurd rfl hnv
  | sem0 => exact absurd rfl hnv
 split at hr
 ·rename_i hin
  subst hin
  split at hr
  case isFalse => cases hr
  rename_i hq
  obtain ⟨base', k', rfl, hnone, hck, _⟩ := hs.slice_shape
  obtain ⟨ι1, w1, v', hrun, hv, hst⟩ := sim_append (P := P) (ats := #[ts, ts]) (ty := ts) (args := #[.slice base' n k', .slice (some ⟨tv.blk, tv.dlt + ov, none⟩) nv cv]) hE h hr hs hx rfl rfl rfl rfl
  refine (I.tail base' n k' tv.blk (tv.dlt + ov) nv cv w w1 v' (by omega) (Nat.le_trans hq.1 hck) (fun e => ?_) hrun).mono fun e w' ⟨he, hw⟩ => ?_
  ·have hb := hnone.2 e
   have h2 := hq.2
   rw [hb] at h2
   simpa using h2
  ·subst he; subst hw
   exact ⟨ι1, hv, hst⟩
 ·rename_i hin
  split at hr
  case h_2 => cases hr
  rename_i r o
  split at hr
  case h_2 => cases hr
  rename_i cs es1 vs es2 hgr hgv
  split at hr
  case isFalse => cases hr
  rename_i hc
  obtain ⟨⟨rfl, rfl, hi0, hil⟩, ⟨hcl, hvl, hne, hbar⟩, ⟨hk, he1, he2, hby, hmax⟩, ⟨hes4, hes1, hes0⟩, hac, hav⟩ := hc
  rw [he1] at hgr
  rw [he2] at hgv
  clear he1 he2
  cases hr
  obtain ⟨j, rfl⟩ : ∃ j : Nat, i = (j : Int) := ⟨i.toNat, by omega⟩
  have hjt : ((j : Nat) : Int).toNat = j := by omega
  rw [hjt] at hil ⊢
  -- the list's row
  obtain ⟨t, c', ht, rfl, hnc, hrr, hte⟩ : ∃ t c', ι r = some t /\ s' = .slice (some ⟨t.blk, t.dlt + 0, none⟩) n c' /\ n <= c' /\ t.dlt + 0 + c' * t.es <= t.cap /\ t.es = es := by
   cases hs with
   | sex o n c hb => unfold loCap at hk; omega
   | @slo _ t _ _ c0 c' hb h4 h5 h6 =>
    have e1 : c0 = n /\ t.es = es := by unfold loCap at hk; omega
    obtain ⟨rfl, e2⟩ := e1
    exact ⟨t, c', hb, rfl, h4, h5, e2⟩
   | semp => omega
   | sem0 => unfold loCap at hk; omega
  subst hte
  obtain ⟨_, g1, g2, cr, elr, fzr, g3, g4, g5⟩ : t.es = t.es /\ t.es = t.es /\ t.dlt + cs.length <= t.cap /\ ∃ c el fz, w.heap[t.blk]? = some (.cells c el fz) /\ c.size = t.cap /\ ∀ j, j < fzTo t -> w.frozen? ⟨t.blk, j, none⟩ = false := ⟨rfl, (h.obj r t _ ht hgr).2 (by decide)⟩
  obtain ⟨u1, u2, cw, elw, fzw, u3, u4, u5⟩ := (h.obj rv tv _ htv hgv).2 (by decide)
  obtain ⟨cs', hcv, hcc⟩ := row_real h ht hgr
  obtain ⟨vs', hvv, hvc⟩ := row_real h htv hgv
  have lc : cs'.length = n * t.es := by rw [<- hcv.length]; exact hcl
  have lv : vs'.length = nv * t.es := by rw [<- hvv.length]; exact hvl
  have hbb : tv.blk ≠ t.blk := fun q => by
   rcases h.sep rv r tv t _ _ htv ht hgv hgr (Ne.symm hne) q (Bool.and_false _) with hA | hA
   ·obtain ⟨_, _, _, _, _, e⟩ := hA.rows; rw [hgr] at e; cases e
   ·obtain ⟨_, _, _, _, _, e⟩ := hA.rows; rw [hgv] at e; cases e
  have o1 : ∀ v ∈ cs', v.oneCell' = true := fun v hv => by rw [oneC_eq]; exact hcv.allOne hac v hv
  have o2 : ∀ v ∈ vs', v.oneCell' = true := fun v hv => by rw [oneC_eq]; exact hvv.allOne hav v hv
  have m1 : (j + nv) * t.es = j * t.es + nv * t.es := Nat.add_mul _ _ _
  have m2 : (n - j) * t.es = n * t.es - j * t.es := Nat.sub_mul _ _ _
  have m3 : (n + nv) * t.es = n * t.es + nv * t.es := Nat.add_mul _ _ _
  have m4 : j * t.es <= n * t.es := Nat.mul_le_mul_right _ (by omega)
  have m5 : 0 < nv * t.es := Nat.mul_pos (by omega) hes0
  have hnew : VRs ι (cs.take (j * t.es) ++ (vs ++ cs.drop (j * t.es))) (cs'.take (j * t.es) ++ (vs' ++ cs'.drop (j * t.es))) := (hcv.take _).append (hvv.append (hcv.drop _))
  have lt : (cs'.take (j * t.es)).length = j * t.es := by rw [List.length_take]; omega
  have ld : (cs'.drop (j * t.es)).length = n * t.es - j * t.es := by rw [List.length_drop]; omega
  have at_ : ∀ q : Nat, (cs'.take (j * t.es) ++ (vs' ++ cs'.drop (j * t.es)))[q]? = if q < j * t.es then cs'[q]? else if q < j * t.es + nv * t.es then vs'[q - j * t.es]? else (cs'.drop (j * t.es))[q - (j * t.es + nv * t.es)]? := fun q => by
   by_cases h1 : q < j * t.es
   ·rw [if_pos h1, List.getElem?_append_left (by omega), List.getElem?_take_of_lt h1]
   ·rw [if_neg h1, List.getElem?_append_right (by omega), lt]
    by_cases h2 : q < j * t.es + nv * t.es
    ·rw [if_pos h2, List.getElem?_append_left (by omega)]
    ·rw [if_neg h2, List.getElem?_append_right (by omega), lv]
     congr 1; omega
  have lall : (cs'.take (j * t.es) ++ (vs' ++ cs'.drop (j * t.es))).length = n * t.es + nv * t.es := by simp only [List.length_append, lt, lv, ld]; omega
  have lall' : (cs.take (j * t.es) ++ (vs ++ cs.drop (j * t.es))).length = n * t.es + nv * t.es := by rw [hnew.length, lall]
  rcases Nat.lt_or_ge c' (n + nv) with hroom | hroom
  ·-- a new block
   refine (I.grow t.blk (t.dlt + 0) n c' j tv.blk (tv.dlt + 0) nv cv cs' vs' w hil (by omega) hnc hroom hby lc lv (fun q v e => by simpa using hcc q v e) (fun q v e => by simpa using hvc q v e) o1 o2).mono
    fun e w' ⟨G, ROW, k1, k2, k3, k4, k5⟩ => ?_
   subst k4
   have hb0 : ((w.alloc (.cells ROW te)).drew).heap[w.heap.size]? = some (.cells ROW te) := by show (w.heap.push _)[w.heap.size]? = _; simp
   have k6 : (n + nv) * t.es <= G * t.es := Nat.mul_le_mul_right _ k1
   rw [setCells_eq, setCells_eq] at k5
   obtain ⟨c1, b1, s1, q1⟩ := setAll_block w.heap.size vs' (j * t.es) _ ROW te (0, 0) hb0 (by omega)
   obtain ⟨c2, b2, s2, q2⟩ := setAll_block w.heap.size (cs'.drop (j * t.es)) ((j + nv) * t.es) (setAll (w.alloc (.cells ROW te)).drew w.heap.size (j * t.es) vs').drew c1 te (0, 0) b1 (by omega)
   rw [<- k5] at b2
   have st1 := setAll_streams w.heap.size (cs'.drop (j * t.es)) ((j + nv) * t.es) (setAll (w.alloc (.cells ROW te)).drew w.heap.size (j * t.es) vs').drew
   have st2 := setAll_streams w.heap.size vs' (j * t.es) (w.alloc (.cells ROW te)).drew
   have hsz : w'.heap.size = w.heap.size + 1 := by
    rw [k5, setAll_size]
    show (setAll _ _ _ _).heap.size = _
    rw [setAll_size]
    show (w.heap.push _).size = _
    simp
   have hoth : ∀ c, c ≠ w.heap.size -> w'.heap[c]? = (w.heap.push (.cells ROW te))[c]? := fun c hc => by
    rw [k5, setAll_other _ _ hc]
    show (setAll _ _ _ _).heap[c]? = _
    rw [setAll_other _ _ hc]
    rfl
   have hput : (ι.put m.size ⟨w.heap.size, 0, G * t.es, t.es⟩) m.size = some ⟨w.heap.size, 0, G * t.es, t.es⟩ := by unfold Inj.put; rw [if_pos rfl]
   refine ⟨ι.put m.size ⟨w.heap.size, 0, G * t.es, t.es⟩, VR.slo (t := ⟨w.heap.size, 0, G * t.es, t.es⟩) 0 (n + nv) (n + nv) G hput k1 (by simp) hes4, Step.swap h ht hgr hbar (by omega) (fun c hc _ => by rw [hoth c (by omega), Array.getElem?_push, if_neg (by omega)]) (.inr ⟨rfl, by omega⟩) ?_
    (by rw [k5]; exact st1.1.trans st2.1) (by rw [k5]; exact st1.2.1.trans st2.2.1) (by rw [k5]; exact st1.2.2.trans st2.2.2) (by
     rw [k5, setAll_drawn]
     show w.drawn <= (setAll _ _ _ _).drawn + 1
     rw [setAll_drawn]
     show w.drawn <= w.drawn + 1 + 1
     omega)⟩
   refine ⟨fun q v e => ?_, fun _ => ⟨rfl, by rw [lall']; simp; omega, c2, te, (0, 0), b2, by rw [s2, s1, k2], fun q hq => by unfold World.frozen?; rw [b2]; simp⟩⟩
   obtain ⟨v', e', hr'⟩ := hnew.get e
   refine ⟨v', ?_, hr'.mono (Inj.put_sub _ h.none_of_size)⟩
   rw [cell?_block b2, Nat.zero_add, q2, q1]
   rw [at_] at e'
   by_cases h1 : q < j * t.es
   ·rw [if_pos h1] at e'
    rw [if_neg (by omega), if_neg (by omega), k3 q h1]; exact e'
   ·rw [if_neg h1] at e'
    by_cases h2 : q < j * t.es + nv * t.es
    ·rw [if_pos h2] at e'
     rw [if_neg (by omega), if_pos (by omega)]; exact e'
    ·rw [if_neg h2] at e'
     have : q - (j * t.es + nv * t.es) < (cs'.drop (j * t.es)).length := by
      rcases Nat.lt_or_ge (q - (j * t.es + nv * t.es)) (cs'.drop (j * t.es)).length with hx | hx
      ·exact hx
      ·rw [List.getElem?_eq_none hx] at e'; cases e'
     rw [if_pos (by omega), m1]; exact e'
  ·-- in place
   have k6 : (n + nv) * t.es <= c' * t.es := Nat.mul_le_mul_right _ hroom
   have hfz : ∀ q, q < (n + nv) * t.es -> w.frozen? ⟨t.blk, t.dlt + 0 + q, none⟩ = false := fun q hq => g5 _ (fz_le (by omega))
   refine (I.shift t.blk (t.dlt + 0) n c' j tv.blk (tv.dlt + 0) nv cv cs' vs' w hil (by omega) hroom hmax hbb lc lv (fun q v e => by simpa using hcc q v e)
    (fun q hq => by rw [cell?_block g3, Array.getElem?_eq_getElem (by omega)]; rfl) hfz (fun q v e => by simpa using hvc q v e) o1 o2 elw elr cw.size cr.size (by unfold World.shape?; rw [u3]) (by unfold World.shape?; rw [g3]) (by omega)
    (u5 _ (fz_le (by omega))) (u5 _ (by unfold fzTo; rw [if_neg (by rw [<- u1]; exact hes1)]; omega))).mono fun e w' ⟨k4, k5⟩ => ?_
   subst k4
   rw [setCells_eq, setCells_eq] at k5
   obtain ⟨c1, b1, s1, q1⟩ := setAll_block t.blk (cs'.drop (j * t.es)) (t.dlt + 0 + (j + nv) * t.es) w.drew cr elr fzr g3 (by omega)
   obtain ⟨c2, b2, s2, q2⟩ := setAll_block t.blk vs' (t.dlt + 0 + j * t.es) (setAll w.drew t.blk (t.dlt + 0 + (j + nv) * t.es) (cs'.drop (j * t.es))) c1 elr fzr b1 (by omega)
   rw [<- k5] at b2
   have st1 := setAll_streams t.blk vs' (t.dlt + 0 + j * t.es) (setAll w.drew t.blk (t.dlt + 0 + (j + nv) * t.es) (cs'.drop (j * t.es)))
   have st2 := setAll_streams t.blk (cs'.drop (j * t.es)) (t.dlt + 0 + (j + nv) * t.es) w.drew
   have hsz : w'.heap.size = w.heap.size := by rw [k5, setAll_size, setAll_size]; rfl
   have hfr : ∀ a, w'.frozen? a = w.frozen? a := fun a => by rw [k5, setAll_frozen, setAll_frozen]; rfl
   have hput : (ι.put m.size ⟨t.blk, t.dlt, t.cap, t.es⟩) m.size = some ⟨t.blk, t.dlt, t.cap, t.es⟩ := by unfold Inj.put; rw [if_pos rfl]
   refine ⟨ι.put m.size ⟨t.blk, t.dlt, t.cap, t.es⟩, VR.slo (t := ⟨t.blk, t.dlt, t.cap, t.es⟩) 0 (n + nv) (n + nv) c' hput hroom hrr hes4, Step.swap h ht hgr hbar (by omega) (fun c _ hc => by rw [k5, setAll_other _ _ hc, setAll_other _ _ hc]; rfl) (.inl rfl) ?_
    (by rw [k5]; exact st1.1.trans st2.1) (by rw [k5]; exact st1.2.1.trans st2.2.1) (by rw [k5]; exact st1.2.2.trans st2.2.2) (by
     rw [k5, setAll_drawn, setAll_drawn]
     show w.drawn <= w.drawn + 1
     omega)⟩
   refine ⟨fun q v e => ?_, fun _ => ⟨rfl, by rw [lall']; show t.dlt + _ <= t.cap; omega, c2, elr, fzr, b2, by rw [s2, s1]; exact g4, fun q hq => by rw [hfr]; exact g5 q hq⟩⟩
   obtain ⟨v', e', hr'⟩ := hnew.get e
   refine ⟨v', ?_, hr'.mono (Inj.put_sub _ h.none_of_size)⟩
   rw [cell?_block b2, q2, q1]
   rw [at_] at e'
   by_cases h1 : q < j * t.es
   ·rw [if_pos h1] at e'
    rw [if_neg (by simp only; omega), if_neg (by simp only; omega)]
    have := hcc q v' e'
    rw [cell?_block g3] at this
    exact this
   ·rw [if_neg h1] at e'
    by_cases h2 : q < j * t.es + nv * t.es
    ·rw [if_pos h2] at e'
     rw [if_pos (by simp only; omega)]
     simp only
     rw [show t.dlt + q - (t.dlt + 0 + j * t.es) = q - j * t.es by omega]; exact e'
    ·rw [if_neg h2] at e'
     have : q - (j * t.es + nv * t.es) < (cs'.drop (j * t.es)).length := by
      rcases Nat.lt_or_ge (q - (j * t.es + nv * t.es)) (cs'.drop (j * t.es)).length with hx | hx
      ·exact hx
      ·rw [List.getElem?_eq_none hx] at e'; cases e'
     rw [if_neg (by simp only; omega), if_pos (by simp only; omega)]
     simp only
     rw [show t.dlt + q - (t.dlt + 0 + (j + nv) * t.es) = q - (j * t.es + nv * t.es) by omega]; exact e'
theorem Keep.insert0 {ts es by_ : Nat} {args : List Value} {v : Value} (hw : Wf m) (h : xIns0 E ts es by_ args m = some (v, m1)) : Keep m m1 := by
 unfold xIns0 at h
 split at h
 case h_2 => cases h
 split at h
 ·cases h
 split at h
 ·split at h
  ·exact Keep.append hw h
  ·cases h
 split at h
 case h_2 => cases h
 split at h
 case h_2 => cases h
 split at h
 case isFalse => cases h
 rename_i hc
 cases h
 have k := Keep.upd hw hc.2.1.2.2.2 (none : Option AObj)
 exact k.trans (Keep.new (hw.keep k) _)
def xRoom (es : Nat) (args : List Value) (m : Mem) : Option (Value × Mem) :=
 match args with
 | [.slice (some ⟨r, o, none⟩) n k, .int .i64 i, .slice (some ⟨rv, ov, none⟩) nv _] => match m.get r, m.get rv with
  | some (.row cs .rw _ _), some (.row vs .rw es2 _) =>
   if (ov = 0 /\ 0 <= i /\ i.toNat < n /\ 0 < nv) /\ (vs.length = nv * es /\ r ≠ rv /\ n + nv <= capOf k /\ n + nv <= 4611686018427387904) /\ (es2 = es /\ es ≠ 1 /\ 0 < es /\ o + (n + nv) * es <= cs.length) /\ allOne cs = true /\ allOne vs = true then
    match m.storeCells ⟨r, o + (i.toNat + nv) * es, none⟩ (((cs.drop o).take (n * es)).drop (i.toNat * es)) with
    | some m2 => (m2.storeCells ⟨r, o + i.toNat * es, none⟩ vs).map fun m3 => (.slice (some ⟨r, o, none⟩) (n + nv) k, m3)
    | none => none
   else none
  | _, _ => none
 | _ => none
theorem Keep.room {es : Nat} {args : List Value} {v : Value} (hw : Wf m) (h : xRoom es args m = some (v, m1)) : Keep m m1 := by
 unfold xRoom at h
 split at h
 case h_2 => cases h
 split at h
 case h_2 => cases h
 split at h
 case isFalse => cases h
 split at h
 case h_2 => cases h
 rename_i m2 hm
 simp only [Option.map_eq_some_iff] at h
 obtain ⟨m3, h3, e⟩ := h
 cases e
 have k := Keep.storeCells hw hm
 exact k.trans (Keep.storeCells (hw.keep k) h3)
theorem room_ok (hE : EnvOk E P) {F ts te es by_ : Nat} (I : InsFn P F ts te es by_) {x : Fun} (hf : E.fn F = some x) {args args' : List Value} {v : Value} (hr : xRoom es args m = some (v, m1)) (h : Rel E ι m w) (ha : VRs ι args args') :
  Upon P (Got E ι m w v m1) ((callFunc F args'.toArray).run P w) := by
 rw [callFunc_enter hE hf]
 show CallsIn Fence.wide 0 P F args'.toArray w (retOnly (Got E ι m w v m1))
 refine callsIn_wide.2 ?_
 unfold xRoom at hr
 split at hr
 case h_2 => cases hr
 rename_i r o n k i rv ov nv kv
 split at hr
 case h_2 => cases hr
 rename_i cs es1 pr vs es2 pv hgr hgv
 split at hr
 case isFalse => cases hr
 rename_i hc
 obtain ⟨⟨rfl, hi0, hil, hnv⟩, ⟨hvl, hne, hk, hmax⟩, ⟨he2, hes1, hes0, hlen⟩, hac, hav⟩ := hc
 subst es2
 split at hr
 case h_2 => cases hr
 rename_i m2 hm2
 simp only [Option.map_eq_some_iff] at hr
 obtain ⟨m3, hm3, e⟩ := hr
 cases e
 cases ha with
 | @cons _ s' _ _ hs ha =>
 cases ha with
 | @cons _ i' _ _ hi ha =>
 cases ha with
 | @cons _ x' _ _ hx ha =>
 cases ha
 cases int_arg' hi
 obtain ⟨tv, cv, htv, rfl⟩ : ∃ tv cv, ι rv = some tv /\ x' = .slice (some ⟨tv.blk, tv.dlt + 0, none⟩) nv cv := by
  cases hx with
  | sex o _ c hb => exact ⟨_, _, hb, rfl⟩
  | slo o _ c c' hb h4 h5 h6 => exact ⟨_, _, hb, rfl⟩
  | semp => exact absurd hnv (by omega)
  | sem0 => exact absurd hnv (by omega)
 obtain ⟨j, rfl⟩ : ∃ j : Nat, i = (j : Int) := ⟨i.toNat, by omega⟩
 have hjt : ((j : Nat) : Int).toNat = j := by omega
 rw [hjt] at hil hm2 hm3
 obtain ⟨t, c', ht, rfl, hnc, hres⟩ : ∃ t c', ι r = some t /\ s' = .slice (some ⟨t.blk, t.dlt + o, none⟩) n c' /\ capOf k <= c' /\ VR ι (.slice (some ⟨r, o, none⟩) (n + nv) k) (.slice (some ⟨t.blk, t.dlt + o, none⟩) (n + nv) c') := by
  cases hs with
  | sex o n c hb => exact ⟨_, c, hb, rfl, by rw [capOf_even]; exact Nat.le_refl _, .sex _ _ _ hb⟩
  | slo o n c c' hb h4 h5 h6 => exact ⟨_, c', hb, rfl, by rw [capOf_lo _ _ h6]; exact h4, .slo _ _ _ _ hb h4 h5 h6⟩
  | semp => omega
  | sem0 => omega
 obtain ⟨g1, g2, cr, elr, fzr, g3, g4, g5⟩ := (h.obj r t _ ht hgr).2 (by decide)
 obtain ⟨u1, u2, cw, elw, fzw, u3, u4, u5⟩ := (h.obj rv tv _ htv hgv).2 (by decide)
 obtain ⟨cs', hcv, hcc⟩ := row_real h ht hgr
 obtain ⟨vs', hvv, hvc⟩ := row_real h htv hgv
 have hbb : tv.blk ≠ t.blk := fun q => by
  rcases h.sep rv r tv t _ _ htv ht hgv hgr (Ne.symm hne) q (Bool.and_false _) with hA | hA
  ·obtain ⟨⟨_, _, _, e⟩, _⟩ := hA.rows; rw [hgv] at e; cases e
  ·obtain ⟨⟨_, _, _, e⟩, _⟩ := hA.rows; rw [hgr] at e; cases e
 have o2 : ∀ v ∈ vs', v.oneCell' = true := fun v hv => by rw [oneC_eq]; exact hvv.allOne hav v hv
 have m1' : (j + nv) * es = j * es + nv * es := Nat.add_mul _ _ _
 have m3' : (n + nv) * es = n * es + nv * es := Nat.add_mul _ _ _
 have m4 : j * es <= n * es := Nat.mul_le_mul_right _ (by omega)
 have m5 : 0 < nv * es := Nat.mul_pos (by omega) hes0
 have lcs := hcv.length
 have lvs := hvv.length
 have hL : VRs ι ((cs.drop o).take (n * es)) ((cs'.drop o).take (n * es)) := (hcv.drop o).take _
 have lL : ((cs'.drop o).take (n * es)).length = n * es := by rw [List.length_take, List.length_drop]; omega
 have oL : ∀ v ∈ (cs'.drop o).take (n * es), v.oneCell' = true := fun v hv => by rw [oneC_eq]; exact hcv.allOne hac v (List.mem_of_mem_drop (List.mem_of_mem_take hv))
 have cL : ∀ (q : Nat) v, ((cs'.drop o).take (n * es))[q]? = some v -> w.cell? ⟨t.blk, t.dlt + o + q, none⟩ = some v := fun q v e => by
  have hq : q < n * es := by
   rcases Nat.lt_or_ge q (n * es) with hx | hx
   ·exact hx
   ·rw [List.getElem?_eq_none (by omega)] at e; cases e
  rw [List.getElem?_take_of_lt hq, List.getElem?_drop] at e
  rw [Nat.add_assoc]; exact hcc _ _ e
 have hd := Step.drew h
 obtain ⟨w2, _, e2, s2⟩ := store_cells_all (P := P) hd.rel (VR.ptr (o + (j + nv) * es) ht) (hL.drop (j * es)) hm2
 obtain ⟨w3, _, e3, s3⟩ := store_cells_all (P := P) s2.rel (VR.ptr (o + j * es) ht) hvv hm3
 have k4 : t.dlt + (o + (j + nv) * es) = t.dlt + o + (j + nv) * es := by omega
 have k5 : t.dlt + (o + j * es) = t.dlt + o + j * es := by omega
 simp only [k4] at e2
 simp only [k5] at e3
 refine (I.shift t.blk (t.dlt + o) n c' j tv.blk (tv.dlt + 0) nv cv _ vs' w hil (by omega) (by omega) hmax hbb lL (by omega) cL
  (fun q hq => by rw [cell?_block g3, Array.getElem?_eq_getElem (by omega)]; rfl) (fun q hq => g5 _ (fz_le (by omega))) (fun q v e => by simpa using hvc q v e) oL o2 elw elr cw.size cr.size (by unfold World.shape?; rw [u3]) (by unfold World.shape?; rw [g3]) (by omega)
  (u5 _ (fz_le (by omega))) (u5 _ (by unfold fzTo; rw [if_neg (by rw [<- u1]; exact hes1)]; omega))).mono fun e w' ⟨q4, q5⟩ => ?_
 subst q4
 rw [setCells_eq, setCells_eq, <- e2, <- e3] at q5
 subst q5
 exact ⟨ι, hres, (hd.trans s2).trans s3⟩
def xInsert (E : Env) (ts es by_ : Nat) (args : List Value) (m : Mem) : Option (Value × Mem) :=
 match args with
 | [.slice (some ⟨r, o, none⟩) n k, .int .i64 i, x] => if i = (n : Int) then xIns0 E ts es by_ args m else if n = 0 then none else match m.storeCells ⟨r, o, none⟩ [] with
  | some m2 => match xRoom es args m2 with
   | some r => some r
   | none => xIns0 E ts es by_ args m2
  | none => none
 | _ => xIns0 E ts es by_ args m
theorem Keep.insert {ts es by_ : Nat} {args : List Value} {v : Value} (hw : Wf m) (h : xInsert E ts es by_ args m = some (v, m1)) : Keep m m1 := by
 unfold xInsert at h
 split at h
 ·split at h
  ·exact Keep.insert0 hw h
  ·split at h
   ·cases h
   split at h
   ·rename_i m2 hm
    have k := Keep.storeCells hw hm
    split at h
    ·rename_i hx
     cases h
     exact k.trans (Keep.room (hw.keep k) hx)
    ·exact k.trans (Keep.insert0 (hw.keep k) h)
   ·cases h
 ·exact Keep.insert0 hw h
theorem insert_ok (hE : EnvOk E P) {F ts te es by_ : Nat} (I : InsFn P F ts te es by_) {x : Fun} (hf : E.fn F = some x) {args args' : List Value} {v : Value} (hr : xInsert E ts es by_ args m = some (v, m1)) (h : Rel E ι m w) (ha : VRs ι args args') :
  Upon P (Got E ι m w v m1) ((callFunc F args'.toArray).run P w) := by
 unfold xInsert at hr
 split at hr
 ·rename_i r o n k i x0
  split at hr
  ·exact insert_ok0 hE I hf hr h ha
  ·split at hr
   ·cases hr
   rename_i hn0
   split at hr
   ·rename_i m2 hm
    have hp : ∃ t, ι r = some t := by
     cases ha with
     | cons hs _ =>
      cases hs with
      | sex o n c hb => exact ⟨_, hb⟩
      | slo o n c c' hb _ _ _ => exact ⟨_, hb⟩
      | semp => exact absurd rfl hn0
      | sem0 => exact absurd rfl hn0
    obtain ⟨t, ht⟩ := hp
    obtain ⟨w1, h1, h2⟩ := store_cells (P := P) h (VR.ptr o ht) (VRs.nil (ι := ι)) hm
    have e : w1 = w := by
     have h1' : (storeCells (⟨t.blk, t.dlt + o, none⟩ : Addr) [] 0).run P w = .ok () w1 := h1
     simp [storeCells] at h1'
     exact h1'.symm
    subst e
    split at hr
    ·rename_i hx
     cases hr
     exact Upon.mono (next' := Got E ι m w1 v m1) (fun v' w2 ⟨ι1, hv, hs⟩ => ⟨ι1, hv, h2.trans hs⟩) (room_ok hE I hf hx h2.rel ha)
    ·exact Upon.mono (next' := Got E ι m w1 v m1) (fun v' w2 ⟨ι1, hv, hs⟩ => ⟨ι1, hv, h2.trans hs⟩) (insert_ok0 hE I hf hr h2.rel ha)
   ·cases hr
 ·exact insert_ok0 hE I hf hr h ha
def Env.withIns (E : Env) (F ts es by_ : Nat) : Env := { E with ext := fun f => match Nat.beq f F with
  | true => some (xInsert E ts es by_)
  | false => E.ext f }
theorem Sure.ins (h : Sure E P) {F ts te es by_ : Nat} (I : InsFn P F ts te es by_) (hf : (E.fn F).isSome = true) : Sure (E.withIns F ts es by_) P := by
 obtain ⟨x, hx⟩ := Option.isSome_iff_exists.1 hf
 refine ⟨⟨h.ok.ty, h.ok.fn, h.ok.plain, h.ok.mixed⟩, ?_, ?_⟩
 ·intro f g args args' m m1 v ι w hg hr hR ha
  have hg' : (match Nat.beq f F with
   | true => some (xInsert E ts es by_)
   | false => E.ext f) = some g := hg
  split at hg'
  ·rename_i hb
   have := Nat.eq_of_beq_eq_true hb
   subst this
   cases hg'
   exact Upon.mono (next' := Got (E.withIns f ts es by_) ι m w v m1) (fun v' w1 h => Got.env (E := E) (E' := E.withIns f ts es by_) rfl h) (insert_ok h.ok I hx hr (Rel.env (E := E.withIns f ts es by_) rfl hR) ha)
  ·exact Upon.mono (next' := Got (E.withIns F ts es by_) ι m w v m1) (fun v' w1 h => Got.env (E := E) (E' := E.withIns F ts es by_) rfl h) (h.ext hg' hr (Rel.env (E := E.withIns F ts es by_) rfl hR) ha)
 ·intro f g args m v m1 hg hw hr
  have hg' : (match Nat.beq f F with
   | true => some (xInsert E ts es by_)
   | false => E.ext f) = some g := hg
  split at hg'
  ·cases hg'
   exact Keep.insert hw hr
  ·exact h.keep f g args m v m1 hg' hw hr
end
end Go.Am
end