/- SpoolRoom: what waits never takes more than the quotas. Part 37 of 46; no condition. -/
import Derived.Test.YtmgmbdnhodicjaaGreatDoorM36
set_option linter.unusedVariables false
set_option linter.unusedSimpArgs false
section
namespace Go.Pm
open Go.RowKit Go.Am
def innM (nt k : Nat) (os : List Obj) (Q : AExit → PSt → Prop) : AExit → PSt → Prop := fun e s1 => ∃ M1, MLe s1.mem (seg M1 k os) ∧ Q e ⟨s1.tm, nt, k, os, M1⟩
section
variable {E : Env} {P : Program} {rd : Option (Nat × Nat)} {Q : AExit → PSt → Prop} {a : RC} {tm : List (Nat × PV)} {nt k : Nat} {os : List Obj} {M : PMem}
theorem RX.innM (h : ∀ k', k' ≠ k → 0 < k' → fresh (seg M k os) k' → RX E P rd a ⟨tm, nt, k', [], seg M k os⟩ (Pm.innM nt k os Q)) : RX E P rd a ⟨tm, nt, k, os, M⟩ Q :=
  RX.push fun k' h1 h2 h3 => by
    have hfr : fresh (seg M k os) k' := fresh_mem (s := ⟨tm, nt, k, os, M⟩) h3 h1
    refine (h k' h1 h2 hfr).conseq fun e s1 hk hn hq => ?_
    obtain ⟨M1, e1, e2⟩ := hq
    have hn' : s1.nt = nt := hn
    exact ⟨s1, SLe.refl _, os, M1, rfl, e1, by rw [hn']; exact e2⟩
theorem RXL.innM (h : ∀ k', k' ≠ k → 0 < k' → fresh (seg M k os) k' → RX E P rd a ⟨tm, nt, k', [], seg M k os⟩ (Pm.innM nt k os (thenRL E P rd a Q))) : RXL E P rd a ⟨tm, nt, k, os, M⟩ Q :=
  RXL.round (RX.innM h)
end
end Go.Pm
namespace Go.Proofs.YtmgmbdnhodicjaaGreatDoor
open Go Go.Am Go.Pm
set_option maxHeartbeats 1000000
set_option maxRecDepth 100000
theorem chain.fr {M0 M : PMem} {p : PV} {ks : List (Nat × Nat)} {l : List (Ev × Nat)} (h : chain M0 M p ks l) : ∀ k i, (k, i) ∈ ks → fresh M0 k := by
  induction h with
  | nil => intro k i hx; cases hx
  | cons h h0 hn r ih =>
    intro k i hx
    rcases List.mem_cons.1 hx with x | x
    · cases x; exact h0
    · exact ih k i x
theorem chain.re0 {M0 M0' M M' : PMem} {p : PV} {ks : List (Nat × Nat)} {l : List (Ev × Nat)} (h : chain M0 M p ks l) (h1 : ∀ k i, (k, i) ∈ ks → fresh M0' k) (h2 : ∀ k i, (k, i) ∈ ks → M' k i = M k i) : chain M0' M' p ks l := by
  induction h with
  | nil => exact .nil
  | cons h h0 hn r ih => exact .cons (by rw [h2 _ _ List.mem_cons_self]; exact h) (h1 _ _ List.mem_cons_self) hn (ih (fun k i hx => h1 k i (List.mem_cons_of_mem _ hx)) (fun k i hx => h2 k i (List.mem_cons_of_mem _ hx)))
section
variable {M0 M M1 : PMem} {a k : Nat} {bytes entries most : Int} {ks : List (Nat × Nat)} {l : List (Ev × Nat)} {o : Pm.Obj} {os : List Pm.Obj}
theorem Spl.re (h : Spl (seg M0 k (o :: os)) M1 a bytes entries most ks l) : Spl (seg M0 k (o :: os)) (seg M1 k (o :: os)) a bytes entries most ks l := by
  obtain ⟨p, h1, h2⟩ := h.row
  have hak := ne_of_fresh h.new
  refine ⟨sub_re h.sub, h.new, p, by rw [seg_ne _ _ _ hak]; exact h1, h2.re0 h2.fr fun k1 i hx => ?_⟩
  rw [seg_ne _ _ _ (ne_of_fresh (h2.fr k1 i hx))]
theorem Spl.push (h : Spl M0 M a bytes entries most ks l) (hf : fresh M k) : Spl (seg M0 k os) (seg M k os) a bytes entries most ks l := by
  obtain ⟨p, h1, h2⟩ := h.row
  have hak : a ≠ k := fun e => by subst e; rw [hf 0] at h1; cases h1
  have hk : ∀ k1 i, (k1, i) ∈ ks → k1 ≠ k := fun k1 i hx e => by
    subst e
    obtain ⟨o, ho⟩ := h2.at _ _ hx
    rw [hf i] at ho; cases ho
  refine ⟨sub_segs h.sub, fresh_seg h.new hak, p, by rw [seg_ne _ _ _ hak]; exact h1, h2.re0 (fun k1 i hx => fresh_seg (h2.fr k1 i hx) (hk k1 i hx)) fun k1 i hx => ?_⟩
  rw [seg_ne _ _ _ (hk k1 i hx)]
theorem Spl.pop (h : Spl (seg M0 k (o :: os)) M1 a bytes entries most ks l) (hf : fresh M0 k) : Spl M0 (seg M1 k []) a bytes entries most ks l := by
  obtain ⟨p, h1, h2⟩ := h.row
  have hak := ne_of_fresh h.new
  refine ⟨fun j i o e => ?_, fresh_unseg h.new, p, by rw [seg_ne _ _ _ hak]; exact h1, h2.re0 (fun k1 i hx => fresh_unseg (h2.fr k1 i hx)) fun k1 i hx => ?_⟩
  · have hjk : j ≠ k := fun e' => by subst e'; rw [hf i] at e; cases e
    rw [seg_ne _ _ _ hjk]
    exact h.sub _ _ _ (by rw [seg_ne _ _ _ hjk]; exact e)
  · rw [seg_ne _ _ _ (ne_of_fresh (h2.fr k1 i hx))]
end
def pick (x n : Int) : Int := ((x.tmod n) + n).tmod n
theorem pick_in (x n : Int) (h : 0 < n) : 0 ≤ pick x n ∧ pick x n < n := by
  have h1 := Int.lt_tmod_of_pos x h
  have h2 := Int.tmod_lt_of_pos x h
  have h3 : 0 ≤ x.tmod n + n := by omega
  exact ⟨Int.tmod_nonneg _ h3, Int.tmod_lt_of_pos _ h⟩
theorem pick_at (x n : Int) (h : 0 < n) (hn : n ≤ 1000000) : PTp env Tryz.prog 23 [iv x, iv n] (iv (pick x n)) := fun M => by
  have h1 := Int.lt_tmod_of_pos x h
  have h2 := Int.tmod_lt_of_pos x h
  have h0 : ¬ (n < 1) := by omega
  have hne : n ≠ 0 := by omega
  have hr : ∀ {t : Nat} {c d : Bool} {y : Int}, pbin env .rem t c d (.v (.int .i64 y)) (.v (.int .i64 n)) = some (iv (y.tmod n)) := fun {t c d y} => by
    simp [pbin, binV, intBin, hne]
  have hw : IntKind.i64.wrap (x.tmod n + n) = x.tmod n + n := wrap64_id (by omega) (by omega)
  refine PT.enterR env_ok fn23 (by simp) comp23 fun k hk hf => RX.of env_ok ?_
  simp only [G0, Nat.reduceLT, Nat.reduceEqDiff, Nat.reduceAdd, Nat.reduceLeDiff, Nat.reduceMul, argsP, h0, decide_false, hr, hw]
  exact end1 hf rfl ⟨rfl, rfl⟩
structure Act where
  drop : Bool
  ev : Ev
def actCells (x : Act) : List PV := bv x.drop :: evCells x.ev
def encActs (xs : List Act) : PV := .lst .no 8 xs.length (xs.flatMap actCells)
def longA (xs : List Act) : Bool := xs.any (fun x => longEvs 1 [x.ev])
theorem loop16 (xs : List Act) (hs : xs.length ≤ 9223372036854775807) (M : PMem) (k : Nat) (Q : AExit → PSt → Prop) (q1 : longA xs = false → ∀ tm, tget tm 0 = encActs xs → Q (.exit 0) ⟨tm, 20, k, [], M⟩)
    (q2 : longA xs = true → ∀ tm, tget tm 2 = bv true → Q .ret ⟨tm, 20, k, [], M⟩) :
    ∀ d i, xs.length - i = d → i ≤ xs.length → longA xs = longA (xs.drop i) →
    RXL env Tryz.prog none c10_13 ⟨[(3, iv i), (0, encActs xs)], 20, k, [], M⟩ Q := by
  intro d
  induction d with
  | zero =>
    intro i hd hi hp
    have : i = xs.length := by omega
    subst this
    refine RXL.round (RX.of env_ok ?_)
    simp only [G0, Nat.reduceLT, Nat.reduceEqDiff, Nat.reduceAdd, Nat.reduceLeDiff, Nat.reduceMul, encActs, Int.lt_irrefl, decide_false]
    exact q1 (by rw [hp, List.drop_length]; rfl) _ rfl
  | succ d ih =>
    intro i hd hi hp
    have hi' : i < xs.length := by omega
    obtain ⟨x, hx, hdx⟩ := getE hi'
    have hii : (i : Int) < xs.length := by omega
    have c1 : ptake true 7 (xs.flatMap actCells) (i * 8 + 1) = some (.agg (evCells x.ev)) := sub_at (f := actCells) (fun _ => rfl) hx (by decide) rfl
    have hw : IntKind.i64.wrap ((i : Int) + 1) = ((i + 1 : Nat) : Int) := by rw [wrap64_id (by omega) (by omega)]; rfl
    have hfill : fillA 7 [.v (.int .i64 0), .v (.int .i64 0), .v (.string ⟨#[]⟩), .v (.int .i64 0), .v (.int .i64 0), .lst .full 0 0 [], .lst .full 0 0 []] [(0, .agg (evCells x.ev))] = some (evCells x.ev) := rfl
    have hl1 : ([x.ev].flatMap evCells) = evCells x.ev := by simp
    rw [hdx] at hp
    have hcons : longA (x :: xs.drop (i + 1)) = (longEvs 1 [x.ev] || longA (xs.drop (i + 1))) := rfl
    rw [hcons] at hp
    refine RXL.round (RX.of env_ok ?_)
    simp only [G0, Nat.reduceLT, Nat.reduceEqDiff, Nat.reduceAdd, Nat.reduceLeDiff, Nat.reduceMul, encActs, hii, decide_true, hi', c1, hfill]
    refine cp0 (PTp.args (args' := [encEvs [x.ev], iv 1]) (.cons (by unfold encEvs; rw [hl1]; exact PLe.no _ _ _ _) (.cons (PLe.refl _) .nil)) (long_events [x.ev] 1 (by decide))) (by decide) ?_
    simp only [G0, Nat.reduceLT, Nat.reduceEqDiff, Nat.reduceAdd, Nat.reduceLeDiff, Nat.reduceMul]
    refine cW_s (fun hb => ?_) (fun hb => ?_)
    · simp only [G0, Nat.reduceLT, Nat.reduceEqDiff, Nat.reduceAdd, Nat.reduceLeDiff, Nat.reduceMul]
      exact q2 (by rw [hp, hb]; rfl) _ rfl
    · simp only [G0, Nat.reduceLT, Nat.reduceEqDiff, Nat.reduceAdd, Nat.reduceLeDiff, Nat.reduceMul, hw]
      rw [hb, Bool.false_or] at hp
      refine RXL.weak (keepE ?_) (ih (i + 1) (by omega) (by omega) hp)
      repeat (first | exact KP.nil | apply KP.cons rfl)
theorem long_at (xs : List Act) (hs : xs.length ≤ 9223372036854775807) : PTp env Tryz.prog 10 [encActs xs] (bv (longA xs || decide ((xs.length : Int) > 40))) := fun M => by
  refine PT.enterR env_ok fn10 (by simp) comp10 fun k hk hf => RX.of env_ok ?_
  simp only [G0, Nat.reduceLT, Nat.reduceEqDiff, Nat.reduceAdd, Nat.reduceLeDiff, Nat.reduceMul, argsP]
  refine RX.loop (RXL.weak (keepE (tm' := [(3, iv (0 : Nat)), (0, encActs xs)]) ?_) (loop16 xs hs M k _ (fun h tm t0 => ?_) (fun h tm ht => ?_) xs.length 0 rfl (Nat.zero_le _) rfl))
  · repeat (first | exact KP.nil | apply KP.cons rfl)
  · simp only [G0, Nat.reduceLT, Nat.reduceEqDiff, Nat.reduceAdd, Nat.reduceLeDiff, Nat.reduceMul, t0, encActs]
    exact end1 hf rfl ⟨by rw [h]; rfl, rfl⟩
  · simp only [G0, Nat.reduceLT, Nat.reduceEqDiff, Nat.reduceAdd, Nat.reduceLeDiff, Nat.reduceMul]
    exact end1 hf ht ⟨by rw [h]; rfl, rfl⟩
theorem used12 {M0 M : PMem} {a : Nat} {bytes entries most : Int} {ks : List (Nat × Nat)} {l : List (Ev × Nat)} (hS : Spl M0 M a bytes entries most ks l) (x y : Int) : PTs env Tryz.prog M 26 [.ptr a 0 0, iv x, iv y] (bv (((szs l : Nat) : Int) == x && ((l.length : Nat) : Int) == y)) := by
  refine PTs.enter env_ok fn26 (by simp) comp26 fun M' k hs hk hf => ?_
  simp only [G0, Nat.reduceLT, Nat.reduceEqDiff, Nat.reduceAdd, Nat.reduceLeDiff, Nat.reduceMul, argsP]
  refine cs0 (used_at hS) (hs.sseg hf) (by decide) ?_
  simp only [G0, Nat.reduceLT, Nat.reduceEqDiff, Nat.reduceAdd, Nat.reduceLeDiff, Nat.reduceMul]
  exact end1 hf rfl ⟨rfl, rfl⟩
end Go.Proofs.YtmgmbdnhodicjaaGreatDoor
end
