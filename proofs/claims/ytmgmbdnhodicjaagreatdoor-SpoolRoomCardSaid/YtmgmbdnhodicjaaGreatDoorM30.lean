/- SpoolRoom: what waits never takes more than the quotas. Part 30 of 46; no condition. -/
import Derived.Test.YtmgmbdnhodicjaaGreatDoorM29
set_option linter.unusedVariables false
set_option linter.unusedSimpArgs false
section
namespace Go.Proofs.YtmgmbdnhodicjaaGreatDoor
open Go Go.Am Go.Pm
set_option maxHeartbeats 1000000
set_option maxRecDepth 100000
abbrev nilP : PV := .v (.pointer none)
def lkCells (e : Ev) (s : Nat) (next : PV) : List PV := evCells e ++ [iv s, next]
inductive chain (M0 M : PMem) : PV → List (Nat × Nat) → List (Ev × Nat) → Prop where
  | nil : chain M0 M nilP [] []
  | cons {k i : Nat} {e : Ev} {s : Nat} {p : PV} {ks : List (Nat × Nat)} {l : List (Ev × Nat)} (h : M k i = some (.row .rw 0 (lkCells e s p))) (h0 : fresh M0 k) (hn : (k, i) ∉ ks) (r : chain M0 M p ks l) : chain M0 M (.ptr k i 0) ((k, i) :: ks) ((e, s) :: l)
def spCells (bytes entries : Int) (p : PV) (used many most : Int) : List PV := [bv true, iv bytes, iv entries, p, iv used, iv many, iv most]
def szs (l : List (Ev × Nat)) : Nat := (l.map (·.2)).sum
structure Spl (M0 M : PMem) (a : Nat) (bytes entries most : Int) (ks : List (Nat × Nat)) (l : List (Ev × Nat)) : Prop where
  sub : Pm.Sub M0 M
  new : fresh M0 a
  row : ∃ p, M a 0 = some (.row .rw 0 (spCells bytes entries p (szs l : Nat) (l.length : Nat) most)) ∧ chain M0 M p ks l
def slots : PV → List (Nat × Nat) → List (Ev × Nat) → List (PV × Option Ev)
  | slot, (k, i) :: ks, (e, _) :: l => (slot, some e) :: slots (.ptr k i 8) ks l
  | slot, _, _ => [(slot, none)]
def slotHas (M : PMem) (slot : PV) (o : Option Ev) : Prop := ∃ c j f es cells p, slot = .ptr c j f ∧ M c j = some (.row .rw es cells) ∧ cells[f]? = some p ∧
  match o with
  | none => p = nilP
  | some e => ∃ k i s q, p = .ptr k i 0 ∧ M k i = some (.row .rw 0 (lkCells e s q))
theorem chain.has {M0 M : PMem} {p : PV} {ks : List (Nat × Nat)} {l : List (Ev × Nat)} (h : chain M0 M p ks l) : ∀ {slot : PV} {c j f es : Nat} {cells : List PV}, slot = .ptr c j f → M c j = some (.row .rw es cells) → cells[f]? = some p → ∀ x ∈ slots slot ks l, slotHas M x.1 x.2 := by
  induction h with
  | nil =>
    intro slot c j f es cells h1 h2 h3 x hx
    simp only [slots, List.mem_singleton] at hx
    subst hx
    exact ⟨c, j, f, es, cells, nilP, h1, h2, h3, rfl⟩
  | cons h h0 hn r ih =>
    intro slot c j f es cells h1 h2 h3 x hx
    simp only [slots, List.mem_cons] at hx
    rcases hx with rfl | hx
    · exact ⟨c, j, f, es, cells, _, h1, h2, h3, _, _, _, _, rfl, h⟩
    · exact ih rfl h rfl x hx
theorem slotHas.sub {M M' : PMem} {slot : PV} {o : Option Ev} (h : slotHas M slot o) (hs : Pm.Sub M M') : slotHas M' slot o := by
  obtain ⟨c, j, f, es, cells, p, h1, h2, h3, h4⟩ := h
  refine ⟨c, j, f, es, cells, p, h1, hs _ _ _ h2, h3, ?_⟩
  cases o with
  | none => exact h4
  | some e =>
    obtain ⟨k, i, s, q, g1, g2⟩ := h4
    exact ⟨k, i, s, q, g1, hs _ _ _ g2⟩
def goS {σ : Type} (nxt : σ → PV → Option Ev → Option σ) : σ → List (PV × Option Ev) → σ × Option PV
  | st, [] => (st, none)
  | st, (s, o) :: r => match nxt st s o with
    | some st' => goS nxt st' r
    | none => (st, some s)
theorem goS_go {σ : Type} {nxt : σ → PV → Option Ev → Option σ} {st st' : σ} {s : PV} {o : Option Ev} {r : List (PV × Option Ev)} (h : nxt st s o = some st') : goS nxt st ((s, o) :: r) = goS nxt st' r := by simp only [goS, h]
theorem goS_stop {σ : Type} {nxt : σ → PV → Option Ev → Option σ} {st : σ} {s : PV} {o : Option Ev} {r : List (PV × Option Ev)} (h : nxt st s o = none) : goS nxt st ((s, o) :: r) = (st, some s) := by simp only [goS, h]
theorem pt53 : ∃ y e, env.ty 80 = some y ∧ y.desc = .pointer e := by
  have h : (match env.ty 80 with | some y => (match y.desc with | .pointer _ => true | _ => false) | none => false) = true := by kernel_rfl
  cases hy : env.ty 80 with
  | none => rw [hy] at h; cases h
  | some y =>
    rw [hy] at h
    dsimp only at h
    split at h
    · rename_i e he; exact ⟨y, e, rfl, he⟩
    · cases h
def bxS (a : Nat) : List Pm.Obj := [.row .rw 0 [.ptr a 0 0]]
def mmS (M : PMem) (kb k a : Nat) (os : List Pm.Obj) : PMem := seg (seg M kb (bxS a)) k os
theorem mmS_sub {M : PMem} {kb k a : Nat} {os : List Pm.Obj} (h1 : fresh M kb) (h2 : fresh M k) : Pm.Sub M (mmS M kb k a os) := fun c j o e => by
  unfold mmS
  rw [seg_ne _ _ _ (fun h => by subst h; rw [h2 j] at e; cases e), seg_ne _ _ _ (fun h => by subst h; rw [h1 j] at e; cases e)]
  exact e
theorem mmS_fresh {M : PMem} {kb k k2 a : Nat} {os : List Pm.Obj} (hne : kb ≠ k) (ho : 0 < os.length) (h : fresh (mmS M kb k a os) k2) : k2 ≠ k ∧ k2 ≠ kb ∧ fresh M k2 := by
  have h1 : k2 ≠ k := fun e => by
    subst e
    have := h 0
    unfold mmS at this
    rw [seg_same, List.getElem?_eq_getElem ho] at this; cases this
  have h2 : k2 ≠ kb := fun e => by
    subst e
    have := h 0
    unfold mmS at this
    rw [seg_ne _ _ _ hne, seg_same] at this; cases this
  refine ⟨h1, h2, fun j => ?_⟩
  have := h j
  unfold mmS at this
  rwa [seg_ne _ _ _ h1, seg_ne _ _ _ h2] at this
theorem fresh_mmS {M : PMem} {kb k k2 a : Nat} (os : List Pm.Obj) (h : k2 ≠ k ∧ k2 ≠ kb ∧ fresh M k2) : fresh (mmS M kb k a os) k2 := fun j => by
  unfold mmS
  rw [seg_ne _ _ _ h.1, seg_ne _ _ _ h.2.1]; exact h.2.2 j
def rounds {σ : Type} (M : PMem) (kb k i a : Nat) (os : σ → List Pm.Obj) (nxt : σ → PV → Option Ev → Option σ) (I : Nat → σ → Prop) (G : Ev → Prop) (Z : σ → PV → List Pm.Obj → Prop) : Prop :=
  ∀ n st slot o, I (n + 1) st → (∀ e, o = some e → G e) → slotHas M slot o → PRd env Tryz.prog k i [slot] (mmS M kb k a (os st)) (fun x M1 => (∃ st', nxt st slot o = some st' ∧ x = bv true ∧ M1 = mmS M kb k a (os st')) ∨ (nxt st slot o = none ∧ x = bv false ∧ ∃ os', Z st slot os' ∧ M1 = mmS M kb k a os'))
theorem loop61 {σ : Type} {M0 M : PMem} {kb k i k2 a : Nat} (hne : kb ≠ k) (hkb : fresh M kb) (hk : fresh M k) (os : σ → List Pm.Obj) (nxt : σ → PV → Option Ev → Option σ) (I : Nat → σ → Prop) (hI : ∀ n st s o st', I (n + 1) st → nxt st s o = some st' → I n st') (G : Ev → Prop) (Z : σ → PV → List Pm.Obj → Prop)
    (h2 : k2 ≠ k ∧ k2 ≠ kb ∧ fresh M k2) (hR : rounds M kb k i a os nxt I G Z) (Q : AExit → PSt → Prop) (p : PV) (ks : List (Nat × Nat)) (l : List (Ev × Nat)) (hch : chain M0 M p ks l) (hG : ∀ x ∈ l, G x.1) :
    ∀ (slot : PV) (c j f es : Nat) (cells : List PV) (st : σ), slot = .ptr c j f → M c j = some (.row .rw es cells) → cells[f]? = some p → I (l.length + 1) st →
    (∀ st' tm, goS nxt st (slots slot ks l) = (st', none) → Q (.exit 0) ⟨tm, 21, k2, [], mmS M kb k a (os st')⟩) →
    (∀ st' slot' os' tm, goS nxt st (slots slot ks l) = (st', some slot') → Z st' slot' os' → Q (.exit 0) ⟨tm, 21, k2, [], mmS M kb k a os'⟩) →
    RXL env Tryz.prog none c128_6 ⟨[(3, slot), (0, .yld k i), (1, .ptr kb 0 0)], 21, k2, [], mmS M kb k a (os st)⟩ Q := by
  have hsub : ∀ os', Pm.Sub M (mmS M kb k a os') := fun os' => mmS_sub hkb hk
  induction hch with
  | nil =>
    intro slot c j f es cells st hs hM hc hst q1 q2
    have hn : slotHas M slot none := ⟨c, j, f, es, cells, nilP, hs, hM, hc, rfl⟩
    have hsl : slots slot [] [] = [(slot, none)] := rfl
    rw [hsl] at q1 q2
    refine RXL.round (RX.of env_ok ?_)
    simp only [G0, Nat.reduceLT, Nat.reduceEqDiff, Nat.reduceAdd, Nat.reduceLeDiff, Nat.reduceMul]
    refine cY (fresh_mmS _ h2) (hR _ st slot none hst (fun e he => by cases he) hn) (by decide) ?_
    rintro x M1 (⟨st', h1, rfl, rfl⟩ | ⟨h1, rfl, os', hz, rfl⟩)
    · subst hs
      have hck : c ≠ k2 := fun e => by subst e; rw [h2.2.2 j] at hM; cases hM
      have hld : ∀ {ag : Bool} {n o : Nat} {os' : List Pm.Obj}, loadP k2 os' (mmS M kb k a (os st')) ag n (.ptr c j o) = rowTake ag n o (mmS M kb k a (os st') c j) := loadP_out hck
      have hM' := hsub (os st') _ _ _ hM
      simp only [G0, Nat.reduceLT, Nat.reduceEqDiff, Nat.reduceAdd, Nat.reduceLeDiff, Nat.reduceMul, hld, hM', hc, nil_neq, pt53]
      exact q1 st' _ (by rw [goS_go h1]; rfl)
    · simp only [G0, Nat.reduceLT, Nat.reduceEqDiff, Nat.reduceAdd, Nat.reduceLeDiff, Nat.reduceMul]
      exact q2 st slot os' _ (goS_stop h1) hz
  | cons h h0 hn r ih =>
    rename_i k1 i1 e s p' ks' l'
    have ih := ih fun x hx => hG x (List.mem_cons_of_mem _ hx)
    intro slot c j f es cells st hs hM hc hst q1 q2
    have hn : slotHas M slot (some e) := ⟨c, j, f, es, cells, _, hs, hM, hc, _, _, _, _, rfl, h⟩
    have hsl : slots slot ((k1, i1) :: ks') ((e, s) :: l') = (slot, some e) :: slots (.ptr k1 i1 8) ks' l' := rfl
    rw [hsl] at q1 q2
    refine RXL.round (RX.of env_ok ?_)
    simp only [G0, Nat.reduceLT, Nat.reduceEqDiff, Nat.reduceAdd, Nat.reduceLeDiff, Nat.reduceMul]
    refine cY (fresh_mmS _ h2) (hR _ st slot (some e) hst (fun e' he => by cases he; exact hG (e, s) List.mem_cons_self) hn) (by decide) ?_
    rintro x M1 (⟨st', h1, rfl, rfl⟩ | ⟨h1, rfl, os', hz, rfl⟩)
    · subst hs
      have hck : c ≠ k2 := fun e => by subst e; rw [h2.2.2 j] at hM; cases hM
      have hld : ∀ {ag : Bool} {n o : Nat} {os' : List Pm.Obj}, loadP k2 os' (mmS M kb k a (os st')) ag n (.ptr c j o) = rowTake ag n o (mmS M kb k a (os st') c j) := loadP_out hck
      have hM' := hsub (os st') _ _ _ hM
      rw [goS_go h1] at q1 q2
      simp only [G0, Nat.reduceLT, Nat.reduceEqDiff, Nat.reduceAdd, Nat.reduceLeDiff, Nat.reduceMul, hld, hM', hc, ptr_neq, pt53]
      refine RXL.weak (keepE ?_) (ih (.ptr k1 i1 8) k1 i1 8 0 _ st' rfl h rfl (hI _ _ _ _ _ hst h1) q1 q2)
      repeat (first | exact KP.nil | apply KP.cons rfl)
    · simp only [G0, Nat.reduceLT, Nat.reduceEqDiff, Nat.reduceAdd, Nat.reduceLeDiff, Nat.reduceMul]
      exact q2 st slot os' _ (goS_stop h1) hz
theorem mmS_bx {M : PMem} {kb k k2 a j n o : Nat} {os os' : List Pm.Obj} {ag : Bool} (hne : kb ≠ k) (h2 : k2 ≠ kb) : loadP k2 os' (mmS M kb k a os) ag n (.ptr kb j o) = rowTake ag n o (bxS a)[j]? := by
  rw [loadP_out (Ne.symm h2)]; unfold mmS; rw [seg_ne _ _ _ hne, seg_same]
theorem iter61 {σ : Type} {M0 M : PMem} {kb k i a : Nat} {bytes entries most : Int} {ks : List (Nat × Nat)} {l : List (Ev × Nat)} (hS : Spl M0 M a bytes entries most ks l) (hne : kb ≠ k) (hkb : fresh M kb) (hk : fresh M k) (os : σ → List Pm.Obj) (hos : ∀ st, 0 < (os st).length) (nxt : σ → PV → Option Ev → Option σ) (I : Nat → σ → Prop) (hI : ∀ n st s o st', I (n + 1) st → nxt st s o = some st' → I n st') (G : Ev → Prop) (Z : σ → PV → List Pm.Obj → Prop)
    (hR : rounds M kb k i a os nxt I G Z) (st : σ) (hst : I (l.length + 1) st) (hG : ∀ x ∈ l, G x.1) :
    PT env Tryz.prog 128 [.yld k i, .ptr kb 0 0] (mmS M kb k a (os st)) (fun _ M1 => (∃ st', goS nxt st (slots (.ptr a 0 3) ks l) = (st', none) ∧ M1 = mmS M kb k a (os st')) ∨ (∃ st' slot' os', goS nxt st (slots (.ptr a 0 3) ks l) = (st', some slot') ∧ Z st' slot' os' ∧ M1 = mmS M kb k a os')) := by
  obtain ⟨p, hrow, hch⟩ := hS.row
  refine PT.enterR env_ok fn128 (by simp) comp128 fun k2 hk2 hf => RX.of env_ok ?_
  have h2 := mmS_fresh hne (hos st) hf
  have hld : ∀ {ag : Bool} {n o j : Nat} {os os' : List Pm.Obj}, loadP k2 os' (mmS M kb k a os) ag n (.ptr kb j o) = rowTake ag n o (bxS a)[j]? := mmS_bx hne h2.2.1
  simp only [G0, Nat.reduceLT, Nat.reduceEqDiff, Nat.reduceAdd, Nat.reduceLeDiff, Nat.reduceMul, argsP, hld, bxS]
  refine RX.loop (RXL.weak (keepE (tm' := [(3, .ptr a 0 3), (0, .yld k i), (1, .ptr kb 0 0)]) ?_) (loop61 hne hkb hk os nxt I hI G Z h2 hR _ p ks l hch hG (.ptr a 0 3) a 0 3 0 _ st rfl hrow rfl hst (fun st' tm hg => ?_) (fun st' slot' os' tm hg hz => ?_)))
  · repeat (first | exact KP.nil | apply KP.cons rfl)
  · simp only [G0, Nat.reduceLT, Nat.reduceEqDiff, Nat.reduceAdd, Nat.reduceLeDiff, Nat.reduceMul]
    exact end0' (fresh_mmS _ h2) (.inl ⟨st', hg, rfl⟩)
  · simp only [G0, Nat.reduceLT, Nat.reduceEqDiff, Nat.reduceAdd, Nat.reduceLeDiff, Nat.reduceMul]
    exact end0' (fresh_mmS _ h2) (.inr ⟨st', slot', os', hg, hz, rfl⟩)
theorem links36 (M : PMem) (a : Nat) : PT env Tryz.prog 71 [.ptr a 0 0] M (fun x M1 => ∃ kb, 0 < kb ∧ fresh M kb ∧ x = .fn 128 [] [.ptr kb 0 0] ∧ M1 = seg M kb (bxS a)) := by
  refine PT.enterR env_ok fn71 (by simp) comp71 fun k hk hf => RX.of env_ok ?_
  simp only [G0, Nat.reduceLT, Nat.reduceEqDiff, Nat.reduceAdd, Nat.reduceLeDiff, Nat.reduceMul, argsP]
  exact endM rfl ⟨k, hk, hf, rfl, rfl⟩
def isDot (d1 d2 : Int) (e : Ev) : Bool := e.node == d1 && e.seq == d2
def findP (d1 d2 : Int) : PV → List (Nat × Nat) → List (Ev × Nat) → PV
  | slot, (k, i) :: ks, (e, _) :: l => if isDot d1 d2 e then slot else findP d1 d2 (.ptr k i 8) ks l
  | slot, _, _ => slot
def nxtF (d1 d2 : Int) (_ : PV) (s : PV) : Option Ev → Option PV
  | some e => if isDot d1 d2 e then none else some s
  | none => some s
theorem goS_find (d1 d2 : Int) : ∀ (ks : List (Nat × Nat)) (l : List (Ev × Nat)) (st slot : PV), ks.length = l.length →
    (∃ st', goS (nxtF d1 d2) st (slots slot ks l) = (st', none) ∧ st' = findP d1 d2 slot ks l) ∨ (∃ st', goS (nxtF d1 d2) st (slots slot ks l) = (st', some (findP d1 d2 slot ks l)))
  | [], [], st, slot, _ => .inl ⟨slot, rfl, rfl⟩
  | (k, i) :: ks, (e, s) :: l, st, slot, h => by
    have hl : ks.length = l.length := by simpa using h
    by_cases hd : isDot d1 d2 e = true
    · refine .inr ⟨st, ?_⟩
      simp only [slots, findP, goS, nxtF, if_pos hd]
    · have := goS_find d1 d2 ks l slot (.ptr k i 8) hl
      simp only [slots, findP, goS, nxtF, if_neg hd]
      exact this
theorem chain.len {M0 M : PMem} {p : PV} {ks : List (Nat × Nat)} {l : List (Ev × Nat)} (h : chain M0 M p ks l) : ks.length = l.length := by
  induction h with
  | nil => rfl
  | cons _ _ _ _ ih => simp [ih]
end Go.Proofs.YtmgmbdnhodicjaaGreatDoor
end
