/- TableMoves holds. Part 26 of 29; no condition. -/
import Derived.Test.YthjlhgjnjhmfbaaGreatDoorM25
import Derived.Shelf.SlSortCmp.NoneTotal
set_option linter.unusedVariables false
set_option linter.unusedSimpArgs false
set_option maxHeartbeats 4000000
set_option maxRecDepth 100000
open Nat renaming reduceLT → Z1, reduceEqDiff → Z2, reduceAdd → Z3, reduceLeDiff → Z4, reduceMul → Z5
namespace Go.Pm
open Go.RowKit Go.Am
theorem RX.cut {E : Env} {P : Program} {rd : Option (Nat × Nat)} {a b : RC} {s : PSt} {Q : AExit -> PSt -> Prop} (R : PSt -> Prop) (h : RX E P rd a s (fun e s1 => e = .normal /\ R s1)) (k : ∀ s1, R s1 -> RX E P rd b s1 Q) : RX E P rd (.seq a b) s Q :=
 RX.seq (h.mono fun e s1 hr => by
  obtain ⟨he, hr⟩ := hr
  subst he
  exact k s1 hr)
end Go.Pm
namespace Go.Pm
open Go.RowKit Go.Am
section
variable {E : Env} {P : Program} {tm : List (Nat × PV)} {nt k n m i es sz by_ zl d a c o len r : Nat} {os : List Obj} {M : PMem} {A B : Operand} {cs ds z cells : List PV} {t : Tok} {v x : PV} {κ : Kont} {R : PSt -> Prop} {l : List RI} {ps : List (Nat × Operand)}
theorem r_clear : rclear sz z A ⟨tm, nt, k, os, M⟩ = clearS ⟨tm, nt, k, os, M⟩ sz z (pev tm A) := rfl
theorem r_make : rmake sz by_ z A B ⟨tm, nt, k, os, M⟩ = mkS ⟨tm, nt, k, os, M⟩ sz by_ z (pev tm A) (pev tm B) := rfl
theorem make_at (h : n * by_ <= 281474976710656 /\ n <= 4611686018427387904 /\ z.length = sz) : mkS ⟨tm, nt, k, os, M⟩ sz by_ z (.v (.int .i64 (n : Int))) (.v (.int .i64 (n : Int))) = some (.sl k os.length 0 n (2 * n), ⟨tm, nt, k, os ++ [.row .rw sz (List.replicate n z).flatten], M⟩) := by
 obtain ⟨h1, h2, h3⟩ := h
 unfold mkS
 have hb : ((by_ : Int) * (n : Int)) <= 281474976710656 := by rw [<- Int.natCast_mul]; rw [Nat.mul_comm] at h1; omega
 simp only [if_pos (show (0 : Int) <= (n : Int) /\ (n : Int) <= (n : Int) /\ (n : Int) <= 4611686018427387904 /\ ((by_ : Int) * (n : Int)) <= 281474976710656 /\ z.length = sz from ⟨by omega, by omega, by omega, hb, h3⟩), Int.toNat_natCast]
theorem clear_out (hn : n ≠ 0) (ha : a ≠ k) (hg : M a i = some (.row .rw es cells)) (hl : o + n * sz <= cells.length /\ z.length = sz /\ z.all pone = true) :
  clearS ⟨tm, nt, k, os, M⟩ sz z (.sl a i o n c) = some (.junk, ⟨tm, nt, k, os, putM M a i (.row .rw es (psplice cells o (List.replicate n z).flatten))⟩) := by
 unfold clearS
 simp only [if_neg hn, PSt.look, if_neg ha, hg, if_pos hl, PSt.putO]
theorem clear_own (hn : n ≠ 0) (ha : a ≠ k) (hg : M a i = some (.row .own es cells)) (hl : o + n * sz <= cells.length /\ z.length = sz /\ z.all pone = true) :
  clearS ⟨tm, nt, k, os, M⟩ sz z (.sl a i o n c) = some (.junk, ⟨tm, nt, k, os, putM M a i (.row .rw es (psplice cells o (List.replicate n z).flatten))⟩) := by
 unfold clearS
 simp only [if_neg hn, PSt.look, if_neg ha, hg, if_pos hl, PSt.putO]
end
section
variable {E : Env} {P : Program} {cx : Cx} {s s' : PSt} {sA : St} {m : Mem} {M : PMem}
theorem after_drop (h : PS E cx s sA) {k i r es : Nat} {cs : List PV} {w : Wm} (hM : s.look k i = some (.row w es cs)) (ha : cx.at_ k i = some r) (hbar : sA.m.bar <= r) :
  PS E cx (s.putO k i .gone) { sA with m := sA.m.upd r none } := by
 have hak : k < cx.nk := by
  rcases Nat.lt_or_ge k cx.nk with h1 | h1
  ·exact h1
  ·rw [(h.pg.keys k i h1).1] at ha; cases ha
 have hpg := h.pg.updObj ha hbar hM ⟨nofun, nofun⟩ (o := .gone) nofun (ao := none) hak
 obtain ⟨e1, e2, e3, e5⟩ := PSt.putO_tm (s := s) (k := k) (i := i) (o := .gone)
 exact ⟨fun j => by rw [e1]; exact h.tm j, by rw [e2]; exact h.nt, by rw [PSt.putO_mem hM]; exact hpg, fun j hj => by rw [e3]; exact h.cur j (by rw [e5] at hj; exact hj), by rw [e3]; exact h.low, by rw [e3]; exact h.pos, ⟨h.df.1, fun r hr => ⟨(h.df.2 r hr).1, by rw [Mem.upd_def]; exact (h.df.2 r hr).2⟩⟩⟩
theorem PG.start (h : PG E cx M m) : PS E cx.key ⟨[], 0, cx.nk, [], M⟩ ⟨.nil, 0, [], m⟩ := by
 have hfr := h.bare (Nat.le_refl cx.nk)
 refine ⟨fun i => .junk _, rfl, ?_, fun i _ => h.keys cx.nk i (Nat.le_refl _), Nat.lt_succ_self _, h.pos, List.nodup_nil, fun r hr => by simp at hr⟩
 show PG E cx.key (seg M cx.nk []) m
 rw [seg_nil _ _ hfr]
 exact h.key
end
end Go.Pm
namespace Go.Proofs.YthjlhgjnjhmfbaaGreatDoor
open Go Go.Am Go.Pm
theorem fresh_put {M : PMem} {k j i : Nat} {o : Pm.Obj} (h : fresh M k) (hj : j ≠ k) : fresh (putM M j i o) k := fun c => by
 unfold putM
 rw [if_neg (fun x => hj x.1.symm)]; exact h c
theorem put_ne {M : PMem} {j i a c : Nat} {o : Pm.Obj} (h : ¬ (a = j /\ c = i)) : putM M j i o a c = M a c := by
 unfold putM; rw [if_neg h]
theorem fresh_seg {M : PMem} {j k : Nat} {os : List Pm.Obj} (h : fresh M j) (hj : j ≠ k) : fresh (seg M k os) j := fun i => by rw [seg_ne _ _ _ hj]; exact h i
end Go.Proofs.YthjlhgjnjhmfbaaGreatDoor
namespace Go.Pm
open Go.RowKit Go.Am
theorem PT.countString {E : Env} {P : Program} {M : PMem} (hX : XTab E P) {f : Nat} {st : ByteArray} {c : Int} {R : PV -> PMem -> Prop} (hf : E.ext f = some xCountString) (hc : c.toNat < 256)
  (q : R (.v (.int .i64 (countB c.toNat st.data.toList 0 : Nat))) M) : PT E P f [.v (.string st), .v (.int .u8 c)] M R := fun cx m vargs hg ha => by
 cases ha with
 | cons h1 hs =>
  cases hs with
  | cons h2 hs =>
   cases hs
   obtain ⟨rfl, _⟩ := h1.flat_eq
   obtain ⟨rfl, _⟩ := h2.flat_eq
   refine ⟨_, m, cx, _, M, CanT.ext hX hf (v := .int .i64 (countB c.toNat st.data.toList 0 : Nat)) ?_, hg, Ext.refl _ _, .v rfl, q⟩
   simp only [xCountString, bltT hc]
theorem countB_add (c : Nat) : ∀ (l : List UInt8) (n : Nat), countB c l n = n + countB c l 0
 | [], n => rfl
 | b :: r, n => by
  unfold countB
  cases Nat.beq b.toNat c with
  | true =>
   show countB c r (n + 1) = n + countB c r (0 + 1)
   rw [countB_add c r (n + 1), countB_add c r (0 + 1)]; omega
  | false =>
   show countB c r n = n + countB c r 0
   exact countB_add c r n
end Go.Pm
namespace Go.Proofs.YthjlhgjnjhmfbaaGreatDoor
open Go Go.Am Go.Pm
theorem count_parts : ∀ s : List UInt8, (parts s).length = countB 47 s 0 + 1
 | [] => rfl
 | c :: r => by
  have ih := count_parts r
  unfold parts
  by_cases h : c = 47
  ·rw [if_pos h, List.length_cons, ih]
   subst h
   show _ = countB 47 r (0 + 1) + 1
   rw [countB_add 47 r (0 + 1)]; omega
  ·rw [if_neg h]
   have hb : Nat.beq c.toNat 47 = false := by
    cases hb : Nat.beq c.toNat 47 with
    | false => rfl
    | true =>
     have : c.toNat = 47 := Nat.eq_of_beq_eq_true hb
     exact absurd (UInt8.toNat_inj.1 (by rw [this]; rfl)) h
   have e : countB 47 (c :: r) 0 = countB 47 r 0 := by
    show (match Nat.beq c.toNat 47 with | true => countB 47 r (Nat.succ 0) | false => countB 47 r 0) = _
    rw [hb]
   rw [e, <- ih]
   cases hp : parts r with
   | nil => rw [hp] at ih; simp at ih
   | cons p ps => rfl
theorem parts_join_len : ∀ s : List UInt8, (parts s).length <= s.length + 1
 | [] => Nat.le_refl _
 | c :: r => by
  have ih := parts_join_len r
  unfold parts
  by_cases h : c = 47
  ·rw [if_pos h, List.length_cons, List.length_cons]; omega
  ·rw [if_neg h]
   cases hp : parts r with
   | nil => simp
   | cons p ps => rw [hp] at ih; simp only [List.length_cons] at ih ⊢; omega
theorem count139 (s : List UInt8) : PTp env Tryz.prog 128 [str s, encB 47] (iv (countB 47 s 0 : Nat)) := fun M => by
 exact PT.countString env_ext (by rfl) (by decide) ⟨rfl, rfl⟩
theorem count121 (s : List UInt8) : PTp env Tryz.prog 123 [str s, str [47]] (iv (countB 47 s 0 : Nat)) := fun M => by
 refine PT.enterR env_ok fn123 (by simp) comp123 fun k hk hf => RX.of env_ok ?_
 have h0 : idxS (str [47]) (.v (.int .i64 0)) = some (encB 47) := str_idx (i := 0) rfl
 have hc : (((1 : Nat) : Int) == 0) = false := rfl
 have hd : (((1 : Nat) : Int) == 1) = true := rfl
 simp only [G0, Z1, Z2, Z3, Z4, Z5, argsP, len_one, hc, hd, h0]
 refine cp0 (count139 s) (by decide) ?_
 simp only [G0, Z1, Z2, Z3, Z4, Z5]
 exact end1 hf rfl ⟨rfl, rfl⟩
theorem mm_min {a b : Int} : pmm minV [iv a, iv b] = some (iv (min a b)) := by
 have h : pmm minV [iv a, iv b] = some (iv (if b < a then b else a)) := by
  unfold pmm
  simp [minV, pflats?]
 have h2 : (if b < a then b else a) = min a b := by
  by_cases hb : b < a
  ·rw [if_pos hb]; omega
  ·rw [if_neg hb]; omega
 rw [h, h2]
theorem iaddr_sl {k i o n c sz m : Nat} {kk : IntKind} (h : m < n) : iaddrS sz (.sl k i o n c) (.v (.int kk (m : Int))) = some (.ptr k i (o + m * sz)) := by
 unfold iaddrS
 rw [pnat_int]
 simp only [if_pos h]
structure K88 (tm : List (Nat × PV)) (k n : Nat) (rest : List UInt8) (i : Nat) : Prop where
 t0 : tget tm 0 = str rest
 t1 : tget tm 1 = str [47]
 t2 : tget tm 2 = iv 0
 t3 : tget tm 3 = iv ((n : Int) - 1)
 t9 : tget tm 9 = .sl k 0 0 n (2 * n)
 t10 : tget tm 10 = iv i
def splC (n : Nat) (done : List (List UInt8)) : List PV := done.map str ++ List.replicate (n - done.length) (str [])
theorem splC_put {n : Nat} {done : List (List UInt8)} (h : done.length < n) (p : List UInt8) : storeO 1 (done.length * 1) (str p) (some (.row .rw 1 (splC n done))) = some (.row .rw 1 (splC n (done ++ [p]))) := by
 have hl : (splC n done).length = n := by unfold splC; simp; omega
 rw [storeO_eq (n := 1) ⟨rfl, by rw [hl]; show done.length * 1 + 1 <= n; omega, rfl⟩]
 congr 2
 have e1 : n - done.length = (n - (done ++ [p]).length) + 1 := by simp; omega
 unfold splC
 rw [e1, List.replicate_succ, Nat.mul_one]
 show (done.map str ++ str [] :: List.replicate _ _).take done.length ++ ([str p] ++ (done.map str ++ str [] :: List.replicate _ _).drop (done.length + 1)) = _
 rw [List.take_append_of_le_length (by simp), List.take_of_length_le (by simp), List.drop_append, List.drop_of_length_le (by simp)]
 simp
theorem loop88 (s : List UInt8) (n : Nat) (hn : n = (parts s).length) (hl : n <= 2000000) (M : PMem) (k : Nat) (Q : AExit -> PSt -> Prop)
  (q : ∀ tm done last, K88 tm k n last done.length -> done.length + 1 = n -> parts s = done ++ [last] -> Q (.exit 0) ⟨tm, 66, k, [.row .rw 1 (splC n done)], M⟩) :
  ∀ d done rest tm, n - done.length = d -> done.length < n -> parts s = done ++ parts rest -> rest.length <= 1000000 -> K88 tm k n rest done.length -> RXL env Tryz.prog none c106_34 ⟨tm, 66, k, [.row .rw 1 (splC n done)], M⟩ Q := by
 intro d
 induction d with
 | zero => intro done rest tm hd hlt; omega
 | succ d ih =>
  intro done rest tm hd hlt hp hrl hK
  obtain ⟨t0, t1, t2, t3, t9, t10⟩ := hK
  have hlen : n = done.length + (parts rest).length := by rw [hn, hp, List.length_append]
  refine RXL.round (RX.of env_ok ?_)
  cases hj : idxOf 47 0 rest with
  | none =>
   have hpr := parts_none hj
   have h1 : (parts rest).length = 1 := by rw [hpr]; rfl
   have hii : ¬ ((done.length : Int) < (n : Int) - 1) := by omega
   simp only [G0, Z1, Z2, Z3, Z4, Z5, t3, t10, hii, decide_false]
   exact q _ done rest ⟨t0, t1, t2, t3, t9, t10⟩ (by omega) (by rw [hp, hpr])
  | some j =>
   have hpr := parts_some hj
   have h1 : 1 <= (parts (rest.drop (j + 1))).length := by rw [count_parts]; omega
   have h2 : (parts rest).length = (parts (rest.drop (j + 1))).length + 1 := by rw [hpr]; rfl
   have hii : (done.length : Int) < (n : Int) - 1 := by omega
   simp only [G0, Z1, Z2, Z3, Z4, Z5, t0, t1, t2, t3, t9, t10, hii, decide_true]
   refine cp0 (idx105 rest 47) (by decide) ?_
   rw [hj]
   obtain ⟨_, hjl, _, _⟩ := idxOf_le hj
   have hltj : decide ((j : Int) < 0) = false := by simp
   have hw0 : IntKind.i64.wrap ((j : Int) + 0) = (j : Int) := by rw [wrap64_id (by omega) (by omega)]; omega
   have hw1 : IntKind.i64.wrap ((j : Int) + ((1 : Nat) : Int)) = ((j + 1 : Nat) : Int) := by rw [wrap64_id (by omega) (by omega)]; rfl
   have hw2 : IntKind.i64.wrap ((done.length : Int) + 1) = ((done.length + 1 : Nat) : Int) := by rw [wrap64_id (by omega) (by omega)]; rfl
   have hto : sliceS (str rest) none (some (iv j)) = some (str (rest.take j)) := str_to (by omega)
   have hfr : sliceS (str rest) (some (iv ((j + 1 : Nat) : Int))) none = some (str (rest.drop (j + 1))) := str_from (by omega)
   have hia := fun (kk : IntKind) => iaddr_sl (k := k) (i := 0) (o := 0) (n := n) (c := 2 * n) (sz := 1) (m := done.length) (kk := kk) hlt
   have hst := splC_put hlt (rest.take j)
   simp only [G0, Z1, Z2, Z3, Z4, Z5, idxI, hltj, hw0, hto, t0, t1, t2, t9, t10, hia, Nat.zero_add, hst, len_one, hw1, hfr, hw2]
   refine ih (done ++ [rest.take j]) (rest.drop (j + 1)) _ (by simp; omega) (by simp; omega) (by rw [hp, hpr]; simp) (by rw [List.length_drop]; omega) ?_
   exact ⟨rfl, t1, t2, t3, t9, by simp; rfl⟩
def encStrs (l : List (List UInt8)) : PV := .lst .no 1 l.length (l.map str)
theorem splC_full {n : Nat} {done : List (List UInt8)} (h : done.length = n) : splC n done = done.map str := by
 unfold splC; rw [h, Nat.sub_self]; simp
theorem nks_strs (k : Nat) : ∀ l : List (List UInt8), NKs k (l.map str)
 | [] => .nil
 | x :: l => .cons (.v _) (nks_strs k l)
theorem split88 (s : List UInt8) (hs : s.length <= 1000000) : PTp env Tryz.prog 106 [str s, str [47], iv 0, iv (-1)] (encStrs (parts s)) := fun M => by
 refine PT.freeze (PTk.enterR env_ok fn106 (by simp) comp106 fun k hk hf => RX.of env_ok ?_)
 have hcp := count_parts s
 have hpl := parts_join_len s
 generalize hn : (parts s).length = n at hcp hpl
 have h0 : ((-1 : Int) == 0) = false := rfl
 have h1 : ((-1 : Int) < 0) = True := by simp
 have hse : (([47] : List UInt8) == []) = false := rfl
 simp only [G0, Z1, Z2, Z3, Z4, Z5, argsP, h0, h1, decide_true, str_eql, hse]
 refine cp0 (count121 s) (by decide) ?_
 have hn1 : 1 <= n := by omega
 have hw1 : IntKind.i64.wrap ((countB 47 s 0 : Nat) + 1 : Int) = (n : Int) := by rw [wrap64_id (by omega) (by omega)]; omega
 have hw2 : IntKind.i64.wrap ((s.length : Int) + 1) = ((s.length + 1 : Nat) : Int) := by rw [wrap64_id (by omega) (by omega)]; rfl
 have hmn : min (n : Int) ((s.length + 1 : Nat) : Int) = (n : Int) := by omega
 have hw3 : IntKind.i64.wrap ((n : Int) - 1) = (n : Int) - 1 := wrap64_id (by omega) (by omega)
 have hmk : ∀ {tm : List (Nat × PV)}, mkS ⟨tm, 66, k, [], M⟩ 1 16 [.v (.string ⟨#[]⟩)] (iv n) (iv n) = some (.sl k 0 0 n (2 * n), ⟨tm, 66, k, [.row .rw 1 (splC n [])], M⟩) := fun {tm} => by
  have := make_at (tm := tm) (nt := 66) (k := k) (os := []) (M := M) (n := n) (by_ := 16) (sz := 1) (z := [.v (.string ⟨#[]⟩)]) ⟨by omega, by omega, rfl⟩
  rw [this]
  congr 2
  simp [splC, str]
 simp only [G0, Z1, Z2, Z3, Z4, Z5, hw1, hw2, mm_min, hmn, r_make, hmk, hw3]
 refine RX.loop (loop88 s n hn.symm (by omega) M k _ (fun tm done last hK hl hp => ?_) n [] s _ rfl (by simp; omega) rfl hs (by exact ⟨rfl, rfl, rfl, rfl, rfl, rfl⟩))
 obtain ⟨t0, t1, t2, t3, t9, t10⟩ := hK
 have hia := fun (kk : IntKind) => iaddr_sl (k := k) (i := 0) (o := 0) (n := n) (c := 2 * n) (sz := 1) (m := done.length) (kk := kk) (by omega)
 have hst := splC_put (n := n) (done := done) (by omega) last
 have hw4 : IntKind.i64.wrap ((done.length : Int) + 1) = (n : Int) := by rw [wrap64_id (by omega) (by omega)]; omega
 have hsl : sliceL 1 (.sl k 0 0 n (2 * n)) none (some (iv n)) none = some (.sl k 0 0 n (2 * n)) := by
  have hc : capOf (2 * n) = n := by simp [capOf]
  unfold sliceL
  simp only [pnat_int, hc]
  simp
 simp only [G0, Z1, Z2, Z3, Z4, Z5, t0, t9, t10, hia, Nat.zero_add, hst, hw4, hsl]
 have hcs : splC n (done ++ [last]) = (parts s).map str := by rw [splC_full (by simp; omega), hp]
 refine ⟨.inr rfl, [_], _, rfl, MLe.refl _, k, 0, 1, .rw, (parts s).map str, .lst .no 1 n (((parts s).map str).take (n * 1)), Nat.le_refl _, ?_, nks_strs _ _, ?_, ?_, trivial⟩
 ·intro a j o e
  by_cases hk' : a = k /\ j = 0
  ·obtain ⟨rfl, rfl⟩ := hk'
   rw [putM_same] at e
   cases e
   exact ⟨_, by rw [show PSt.mem _ = seg M a _ from rfl, seg_same]; rfl, by rw [hcs]; exact .refl _⟩
  ·rw [put_ne hk'] at e
   have hak : a ≠ k := fun e' => by subst e'; rw [hf j] at e; cases e
   exact ⟨o, by rw [show PSt.mem _ = seg M k _ from rfl, seg_ne _ _ _ hak]; exact e, .refl _⟩
 ·refine .here ?_ ?_ ?_
  ·rw [List.length_map, hn]; omega
  ·simp [capOf]
  ·left; omega
 ·unfold encStrs
  rw [hn, Nat.mul_one, List.take_of_length_le (by rw [List.length_map, hn]; exact Nat.le_refl _)]
theorem split63 (s : List UInt8) (hs : s.length <= 1000000) : PTp env Tryz.prog 81 [str s, str [47]] (encStrs (parts s)) := fun M => by
 refine PT.enterR env_ok fn81 (by simp) comp81 fun k hk hf => RX.of env_ok ?_
 simp only [G0, Z1, Z2, Z3, Z4, Z5, argsP]
 refine cp0 (split88 s hs) (by decide) ?_
 simp only [G0, Z1, Z2, Z3, Z4, Z5]
 exact end1 hf rfl ⟨rfl, rfl⟩
end Go.Proofs.YthjlhgjnjhmfbaaGreatDoor
noncomputable section
namespace Go.Proofs.YthjlhgjnjhmfbaaGreatDoor
open Go Go.Am Go.Pm
theorem bytesEq_iff' : ∀ {a b : List UInt8}, bytesEq a b = true ↔ a = b
 | [], [] => by simp [bytesEq]
 | [], _ :: _ => by simp [bytesEq]
 | _ :: _, [] => by simp [bytesEq]
 | a :: x, b :: y => by
  have ih := @bytesEq_iff' x y
  simp only [bytesEq, Bool.and_eq_true, ih, List.cons.injEq, Nat.beq_eq, UInt8.toNat_inj]
theorem lt_irrefl : ∀ a : List UInt8, bytesLt a a = false
 | [] => rfl
 | a :: x => by
  have : Nat.blt a.toNat a.toNat = false := bltF (Nat.lt_irrefl _)
  simp only [bytesLt, this, lt_irrefl x, Bool.and_false, Bool.or_false]
theorem blt_iff {a b : Nat} : Nat.blt a b = true ↔ a < b := by simp [Nat.blt_eq]
theorem lt_trans' : ∀ {a b c : List UInt8}, bytesLt a b = true -> bytesLt b c = true -> bytesLt a c = true
 | _, [], _, h, _ => by cases ‹List UInt8› <;> simp [bytesLt] at h
 | _, _ :: _, [], _, h => by simp [bytesLt] at h
 | [], _ :: _, _ :: _, _, _ => rfl
 | a :: x, b :: y, c :: z, h1, h2 => by
  simp only [bytesLt, Bool.or_eq_true, Bool.and_eq_true, blt_iff, Nat.beq_eq] at h1 h2 ⊢
  rcases h1 with h1 | ⟨h1, h3⟩
  ·rcases h2 with h2 | ⟨h2, h4⟩
   ·exact .inl (by omega)
   ·exact .inl (by omega)
  ·rcases h2 with h2 | ⟨h2, h4⟩
   ·exact .inl (by omega)
   ·exact .inr ⟨by omega, lt_trans' h3 h4⟩
theorem lt_total : ∀ {a b : List UInt8}, bytesLt a b = false -> bytesLt b a = false -> a = b
 | [], [], _, _ => rfl
 | [], _ :: _, h, _ => by simp [bytesLt] at h
 | _ :: _, [], _, h => by simp [bytesLt] at h
 | a :: x, b :: y, h1, h2 => by
  simp only [bytesLt, Bool.or_eq_false_iff, Bool.and_eq_false_iff] at h1 h2
  have h3 : ¬ a.toNat < b.toNat := fun h => by have := blt_iff.2 h; rw [this] at h1; cases h1.1
  have h4 : ¬ b.toNat < a.toNat := fun h => by have := blt_iff.2 h; rw [this] at h2; cases h2.1
  have h5 : a.toNat = b.toNat := by omega
  have h6 : Nat.beq a.toNat b.toNat = true := by simp [h5]
  have h7 : Nat.beq b.toNat a.toNat = true := by simp [h5]
  have e : a = b := UInt8.toNat_inj.1 h5
  subst e
  have g1 : bytesLt x y = false := by
   rcases h1.2 with h | h
   ·rw [h6] at h; cases h
   ·exact h
  have g2 : bytesLt y x = false := by
   rcases h2.2 with h | h
   ·rw [h7] at h; cases h
   ·exact h
  rw [lt_total g1 g2]
theorem str_lss {E : Env} {t : Nat} {c d : Bool} {a b : List UInt8} : pbin E .lss t c d (str a) (str b) = some (bv (bytesLt a b)) := by
 simp [pbin, eqFine, binV, strBin]
theorem str_gtr {E : Env} {t : Nat} {c d : Bool} {a b : List UInt8} : pbin E .gtr t c d (str a) (str b) = some (bv (bytesLt b a)) := by
 have h : (!(bytesLt a b || bytesEq a b)) = bytesLt b a := by
  cases h1 : bytesLt a b with
  | true =>
   cases h2 : bytesLt b a with
   | true => have := lt_trans' h1 h2; rw [lt_irrefl] at this; cases this
   | false => rfl
  | false =>
   cases h2 : bytesLt b a with
   | true =>
    cases h3 : bytesEq a b with
    | true => have := bytesEq_iff'.1 h3; subst this; rw [lt_irrefl] at h2; cases h2
    | false => rfl
   | false =>
    have := lt_total h1 h2
    subst this
    rw [bytesEq_iff'.2 rfl]; rfl
 simp [pbin, eqFine, binV, strBin, h]
def ordS (a b : List UInt8) : Int := if bytesLt a b then -1 else if bytesLt b a then 1 else 0
theorem nan89 (a : List UInt8) : PTp env Tryz.prog 107 [str a] (bv false) := fun M => by
 refine PT.enterR env_ok fn107 (by simp) comp107 fun k hk hf => RX.of env_ok ?_
 simp only [G0, Z1, Z2, Z3, Z4, Z5, argsP, str_neq, beq_self_eq_true, Bool.not_true]
 exact end1 hf rfl ⟨rfl, rfl⟩
theorem cmp65 (a b : List UInt8) : PTp env Tryz.prog 83 [str a, str b] (iv (ordS a b)) := fun M => by
 refine PT.enterR env_ok fn83 (by simp) comp83 fun k hk hf => RX.of env_ok ?_
 simp only [G0, Z1, Z2, Z3, Z4, Z5, argsP]
 refine cp0 (nan89 a) (by decide) ?_
 simp only [G0, Z1, Z2, Z3, Z4, Z5]
 refine cp0 (nan89 b) (by decide) ?_
 simp only [G0, Z1, Z2, Z3, Z4, Z5, str_lss, str_gtr]
 unfold ordS
 cases h1 : bytesLt a b with
 | true =>
  simp only [G0, Z1, Z2, Z3, Z4, Z5]
  exact end1 hf rfl ⟨rfl, rfl⟩
 | false =>
  cases h2 : bytesLt b a with
  | true =>
   simp only [G0, Z1, Z2, Z3, Z4, Z5, str_gtr, h2]
   exact end1 hf rfl ⟨rfl, rfl⟩
  | false =>
   simp only [G0, Z1, Z2, Z3, Z4, Z5, str_gtr, h2]
   exact end1 hf rfl ⟨rfl, rfl⟩
theorem cmp64 (a b : List UInt8) : PTp env Tryz.prog 82 [str a, str b] (iv (ordS a b)) := fun M => by
 refine PT.enterR env_ok fn82 (by simp) comp82 fun k hk hf => RX.of env_ok ?_
 simp only [G0, Z1, Z2, Z3, Z4, Z5, argsP]
 refine cp0 (cmp65 a b) (by decide) ?_
 simp only [G0, Z1, Z2, Z3, Z4, Z5]
 exact end1 hf rfl ⟨rfl, rfl⟩
def ordL : List (List UInt8) -> List (List UInt8) -> Int
 | [], [] => 0
 | [], _ :: _ => -1
 | _ :: _, [] => 1
 | x :: r, y :: q => if ordS x y = 0 then ordL r q else ordS x y
theorem strs_load {l : List (List UInt8)} {i : Nat} {x : List UInt8} (h : l[i]? = some x) : ptake false 1 (l.map str) (i * 1) = some (str x) := by
 unfold ptake
 simp [h]
theorem loop62 (a b : List (List UInt8)) (ha : a.length <= 1000001) (hb : b.length <= 1000001) (M : PMem) (k : Nat) (Q : AExit -> PSt -> Prop)
  (q1 : ∀ tm, tget tm 0 = encStrs a -> tget tm 1 = encStrs b -> a.length <= b.length -> ordL a b = (if a.length < b.length then -1 else 0) -> Q (.exit 0) ⟨tm, 39, k, [], M⟩) (q2 : ∀ tm, tget tm 6 = iv (ordL a b) -> Q .ret ⟨tm, 39, k, [], M⟩) :
  ∀ d i tm, a.length - i = d -> i <= a.length -> i <= b.length -> ordL a b = ordL (a.drop i) (b.drop i) -> tget tm 0 = encStrs a -> tget tm 1 = encStrs b -> tget tm 2 = .fn 82 [] [] -> tget tm 11 = encStrs a -> tget tm 12 = iv a.length -> tget tm 13 = iv i →
  RXL env Tryz.prog none c80_25 ⟨tm, 39, k, [], M⟩ Q := by
 intro d
 induction d with
 | zero =>
  intro i tm hd hi hib ho t0 t1 t2 t11 t12 t13
  have : i = a.length := by omega
  subst this
  refine RXL.round (RX.of env_ok ?_)
  simp only [G0, Z1, Z2, Z3, Z4, Z5, t12, t13, Int.lt_irrefl, decide_false]
  refine q1 _ t0 t1 hib ?_
  rw [ho, List.drop_of_length_le (Nat.le_refl _)]
  by_cases h : a.length < b.length
  ·rw [if_pos h]
   cases hb : b.drop a.length with
   | nil => have := List.drop_eq_nil_iff.1 hb; omega
   | cons y r => rfl
  ·rw [if_neg h, List.drop_of_length_le (by omega)]; rfl
 | succ d ih =>
  intro i tm hd hi hib ho t0 t1 t2 t11 t12 t13
  have hi' : i < a.length := by omega
  have hii : (i : Int) < a.length := by omega
  obtain ⟨x, hx, hdx⟩ := getE hi'
  have hlx := strs_load hx
  have h11 : tget tm 11 = .lst .no 1 a.length (a.map str) := t11
  have h1 : tget tm 1 = .lst .no 1 b.length (b.map str) := t1
  have hw : IntKind.i64.wrap ((i : Int) + 1) = ((i + 1 : Nat) : Int) := by rw [wrap64_id (by omega) (by omega)]; rfl
  refine RXL.round (RX.of env_ok ?_)
  by_cases hj : i < b.length
  ·have hge : ¬ ((i : Int) >= b.length) := by omega
   obtain ⟨y, hy, hdy⟩ := getE hj
   have hly := strs_load hy
   rw [hdx, hdy] at ho
   simp only [G0, Z1, Z2, Z3, Z4, Z5, t12, t13, hii, decide_true, h11, hi', hlx, h1, hge, decide_false, hj, hly, t2]
   refine cp0 (cmp64 x y) (by decide) ?_
   by_cases hz : ordS x y = 0
   ·have hne : (ordS x y != 0) = false := by rw [hz]; rfl
    rw [ordL, if_pos hz] at ho
    simp only [G0, Z1, Z2, Z3, Z4, Z5, hne, t13, hw]
    exact ih (i + 1) _ (by omega) (by omega) (by omega) ho t0 t1 t2 t11 t12 rfl
   ·have hne : (ordS x y != 0) = true := by simpa using hz
    rw [ordL, if_neg hz] at ho
    simp only [G0, Z1, Z2, Z3, Z4, Z5, hne]
    exact q2 _ (by rw [ho]; rfl)
  ·have hge : (i : Int) >= b.length := by omega
   simp only [G0, Z1, Z2, Z3, Z4, Z5, t12, t13, hii, decide_true, h11, hi', hlx, h1, hge]
   refine q2 _ ?_
   have hd0 : b.drop i = [] := List.drop_of_length_le (by omega)
   rw [ho, hdx, hd0]; rfl
theorem cmp62 (a b : List (List UInt8)) (ha : a.length <= 1000001) (hb : b.length <= 1000001) : PTp env Tryz.prog 80 [encStrs a, encStrs b, .fn 82 [] []] (iv (ordL a b)) := fun M => by
 refine PT.enterR env_ok fn80 (by simp) comp80 fun k hk hf => RX.of env_ok ?_
 have hlen : lenL (encStrs a) = some (iv (a.length : Nat)) := rfl
 simp only [G0, Z1, Z2, Z3, Z4, Z5, argsP, hlen]
 refine RX.loop (loop62 a b ha hb M k _ (fun tm t0 t1 hle ho => ?_) (fun tm t6 => ?_) a.length 0 _ rfl (Nat.zero_le _) (Nat.zero_le _) rfl (by rfl) (by rfl) (by rfl) (by rfl) (by rfl) (by rfl))
 ·have hl0 : lenL (encStrs b) = some (iv (b.length : Nat)) := rfl
  by_cases h : a.length < b.length
  ·have hlt : (a.length : Int) < b.length := by omega
   rw [if_pos h] at ho
   simp only [G0, Z1, Z2, Z3, Z4, Z5, t0, t1, hlen, hl0, hlt, decide_true]
   exact end1 hf rfl ⟨by rw [ho]; rfl, rfl⟩
  ·have hlt : ¬ ((a.length : Int) < b.length) := by omega
   rw [if_neg h] at ho
   simp only [G0, Z1, Z2, Z3, Z4, Z5, t0, t1, hlen, hl0, hlt, decide_false]
   exact end1 hf rfl ⟨by rw [ho]; rfl, rfl⟩
 ·simp only [G0, Z1, Z2, Z3, Z4, Z5]
  exact end1 hf t6 ⟨rfl, rfl⟩
def ordP (a b : List UInt8) : Int := ordL (parts a) (parts b)
theorem order39 (a b : List UInt8) (ha : a.length <= 1000000) (hb : b.length <= 1000000) : PTp env Tryz.prog 55 [str a, str b] (iv (ordP a b)) := fun M => by
 refine PT.enterR env_ok fn55 (by simp) comp55 fun k hk hf => RX.of env_ok ?_
 have l1 := parts_join_len a
 have l2 := parts_join_len b
 simp only [G0, Z1, Z2, Z3, Z4, Z5, argsP]
 refine cp0 (split63 a ha) (by decide) ?_
 simp only [G0, Z1, Z2, Z3, Z4, Z5]
 refine cp0 (split63 b hb) (by decide) ?_
 simp only [G0, Z1, Z2, Z3, Z4, Z5]
 refine cp0 (cmp62 (parts a) (parts b) (by omega) (by omega)) (by decide) ?_
 simp only [G0, Z1, Z2, Z3, Z4, Z5]
 exact end1 hf rfl ⟨rfl, rfl⟩
def lessB (a b : List UInt8) : Bool := decide (ordP a b < 0)
theorem less15 (a b : List UInt8) (ha : a.length <= 1000000) (hb : b.length <= 1000000) : PTp env Tryz.prog 36 [str a, str b] (bv (lessB a b)) := fun M => by
 refine PT.enterR env_ok fn36 (by simp) comp36 fun k hk hf => RX.of env_ok ?_
 simp only [G0, Z1, Z2, Z3, Z4, Z5, argsP]
 refine cp0 (order39 a b ha hb) (by decide) ?_
 simp only [G0, Z1, Z2, Z3, Z4, Z5]
 exact end1 hf rfl ⟨rfl, rfl⟩
end Go.Proofs.YthjlhgjnjhmfbaaGreatDoor
end
namespace Go.Proofs.YthjlhgjnjhmfbaaGreatDoor
open Go Go.Am Go.Pm
def oneM (k i : Nat) (o : Pm.Obj) : PMem := putM (fun _ _ => none) k i o
theorem oneM_sub {M : PMem} {k i : Nat} {o : Pm.Obj} (h : M k i = some o) : Pm.Sub (oneM k i o) M := fun a b o' e => by
 unfold oneM putM at e
 split at e
 ·rename_i hc; obtain ⟨rfl, rfl⟩ := hc; cases e; exact h
 ·cases e
theorem oneM_at {k i : Nat} {o : Pm.Obj} : oneM k i o k i = some o := putM_same _ _ _ _
end Go.Proofs.YthjlhgjnjhmfbaaGreatDoor
noncomputable section
namespace Go.Proofs.YthjlhgjnjhmfbaaGreatDoor
open Go Go.Am Go.Pm
structure En where
 path : List UInt8
 kind : Int
 mode : Int
 bytes : List UInt8
def enCells (x : En) : List PV := [str x.path, iv x.kind, iv x.mode, encBytes x.bytes]
def encEn (x : En) : PV := .agg (enCells x)
def encEns (l : List En) : PV := .lst .no 4 l.length (l.flatMap enCells)
theorem lt_get {α : Type} {l : List α} {j : Nat} {v : α} (hv : l[j]? = some v) : j < l.length := (List.getElem?_eq_some_iff.1 hv).1
def idxG {α : Type} (p : α -> Bool) : Nat -> List α -> Int
 | _, [] => -1
 | i, x :: r => if p x then (i : Int) else idxG p (i + 1) r
theorem idxG_at {α : Type} (p : α -> Bool) : ∀ (l : List α) (i : Nat), idxG p i l = -1 \/ ∃ j x, idxG p i l = ((i + j : Nat) : Int) /\ l[j]? = some x /\ p x = true
 | [], i => .inl rfl
 | x :: r, i => by
  show (if p x then (i : Int) else idxG p (i + 1) r) = -1 \/ ∃ j y, (if p x then (i : Int) else idxG p (i + 1) r) = _ /\ _
  cases h : p x with
  | true => exact .inr ⟨0, x, rfl, rfl, h⟩
  | false =>
   rcases idxG_at p r (i + 1) with h1 | ⟨j, y, h1, h2, h3⟩
   ·exact .inl (by simpa using h1)
   ·exact .inr ⟨j + 1, y, by simp only [Bool.false_eq_true, if_false]; rw [h1]; congr 1; omega, by simpa using h2, h3⟩
theorem en_load {l : List En} {i : Nat} {x : En} (h : l[i]? = some x) : ptake true 4 (l.flatMap enCells) (i * 4) = some (encEn x) := load_at (f := enCells) (n := 4) (fun _ => rfl) h
theorem en_cell {l : List En} {i : Nat} {x : En} (h : l[i]? = some x) {c : Nat} {v : PV} (hc : (enCells x)[c]? = some v) : (l.flatMap enCells)[i * 4 + c]? = some v := cell_at (f := enCells) (n := 4) (fun _ => rfl) h hc
theorem ask67 (x : En) (p : List UInt8) {M0 : PMem} {a i : Nat} {w : Wm} (hM : M0 a i = some (.row w 0 [str p])) : PTs env Tryz.prog M0 49 [encEn x, .ptr a i 0] (bv (x.path == p)) := by
 refine PTs.enter env_ok fn49 (by simp) comp49 fun M k hs hk hf => ?_
 have hM' := hs _ _ _ hM
 have hld : ∀ {ag : Bool} {n o : Nat} {os : List Pm.Obj}, loadP k os M ag n (.ptr a i o) = rowTake ag n o (M a i) := loadP_out (fresh_ne hf hM')
 simp only [G0, Z1, Z2, Z3, Z4, Z5, argsP, encEn, enCells, hld, hM', str_eql]
 exact end1 hf rfl ⟨rfl, rfl⟩
theorem loop66 (t : List En) (hl : t.length <= 1000000) (p : List UInt8) {M0 : PMem} {a b : Nat} {w : Wm} (hM : M0 a b = some (.row w 0 [str p])) (M : PMem) (k : Nat) (hs : Pm.Sub M0 M) (hf : fresh M k) (Q : AExit -> PSt -> Prop)
  (q1 : ∀ tm, idxG (fun x : En => x.path == p) 0 t = -1 -> Q (.exit 0) ⟨tm, 19, k, [], M⟩) (q2 : ∀ tm, tget tm 4 = iv (idxG (fun x : En => x.path == p) 0 t) -> Q .ret ⟨tm, 19, k, [], M⟩) :
  ∀ d i tm, t.length - i = d -> i <= t.length -> idxG (fun x : En => x.path == p) 0 t = idxG (fun x : En => x.path == p) i (t.drop i) -> tget tm 0 = encEns t -> tget tm 1 = .fn 49 [] [.ptr a b 0] -> tget tm 7 = iv t.length -> tget tm 8 = iv i →
  RXL env Tryz.prog none c48_15 ⟨tm, 19, k, [], M⟩ Q := by
 intro d
 induction d with
 | zero =>
  intro i tm hd hi hp t0 t1 t7 t8
  have : i = t.length := by omega
  subst this
  refine RXL.round (RX.of env_ok ?_)
  simp only [G0, Z1, Z2, Z3, Z4, Z5, t7, t8, Int.lt_irrefl, decide_false]
  exact q1 _ (by rw [hp, List.drop_of_length_le (Nat.le_refl _)]; rfl)
 | succ d ih =>
  intro i tm hd hi hpi t0 t1 t7 t8
  have hi' : i < t.length := by omega
  have hii : (i : Int) < t.length := by omega
  obtain ⟨x, hx, hdx⟩ := getE hi'
  have hlx := en_load hx
  have h0 : tget tm 0 = .lst .no 4 t.length (t.flatMap enCells) := t0
  have hw : IntKind.i64.wrap ((i : Int) + 1) = ((i + 1 : Nat) : Int) := by rw [wrap64_id (by omega) (by omega)]; rfl
  rw [hdx] at hpi
  have hun : idxG (fun x : En => x.path == p) i (x :: t.drop (i + 1)) = if x.path == p then (i : Int) else idxG (fun x : En => x.path == p) (i + 1) (t.drop (i + 1)) := rfl
  rw [hun] at hpi
  refine RXL.round (RX.of env_ok ?_)
  simp only [G0, Z1, Z2, Z3, Z4, Z5, h0, t1, t7, t8, hii, decide_true, hi', hlx]
  refine cs (first := []) (ask67 x p hM) (hs.sseg hf) (by decide) ?_
  cases h : (x.path == p) with
  | true =>
   rw [h, if_pos rfl] at hpi
   simp only [G0, Z1, Z2, Z3, Z4, Z5]
   exact q2 _ (by rw [hpi]; rfl)
  | false =>
   rw [h, if_neg (by decide)] at hpi
   simp only [G0, Z1, Z2, Z3, Z4, Z5, t8, hw]
   exact ih (i + 1) _ (by omega) (by omega) hpi t0 t1 t7 rfl
theorem index66 (t : List En) (hl : t.length <= 1000000) (p : List UInt8) {M0 : PMem} {a b : Nat} {w : Wm} (hM : M0 a b = some (.row w 0 [str p])) :
  PTs env Tryz.prog M0 48 [encEns t, .fn 49 [] [.ptr a b 0]] (iv (idxG (fun x : En => x.path == p) 0 t)) := by
 refine PTs.enter env_ok fn48 (by simp) comp48 fun M k hs hk hf => ?_
 have hlen : lenL (encEns t) = some (iv (t.length : Nat)) := rfl
 simp only [G0, Z1, Z2, Z3, Z4, Z5, argsP, hlen]
 refine RX.loop (loop66 t hl p hM M k hs hf _ ?_ ?_ t.length 0 _ rfl (Nat.zero_le _) rfl rfl rfl rfl rfl)
 ·intro tm h
  simp only [G0, Z1, Z2, Z3, Z4, Z5]
  exact end1 hf rfl ⟨by rw [h]; rfl, rfl⟩
 ·intro tm h
  simp only [G0, Z1, Z2, Z3, Z4, Z5]
  exact end1 hf h ⟨rfl, rfl⟩
def fnd (t : List En) (p : List UInt8) : Int := idxG (fun x : En => x.path == p) 0 t
theorem find40 (t : List En) (hl : t.length <= 1000000) (p : List UInt8) : PTp env Tryz.prog 25 [encEns t, str p] (.tup [iv (fnd t p), bv (decide (fnd t p >= 0))]) := fun M => by
 refine PT.enterR env_ok fn25 (by simp) comp25 fun k hk hf => RX.of env_ok ?_
 simp only [G0, Z1, Z2, Z3, Z4, Z5, argsP]
 refine cs0 (index66 t hl p (M0 := oneM k 0 (.row .rw 0 [str p])) (w := .rw) oneM_at) (oneM_sub (by rw [seg_same]; rfl)) (by decide) ?_
 simp only [G0, Z1, Z2, Z3, Z4, Z5]
 exact end2 hf rfl rfl ⟨rfl, rfl⟩
def lastN (s : List UInt8) (c : UInt8) : Nat -> Int
 | 0 => -1
 | n + 1 => if s[n]? = some c then (n : Int) else lastN s c n
theorem lastN_lt (s : List UInt8) (c : UInt8) : ∀ n, lastN s c n < n
 | 0 => by show (-1 : Int) < 0; decide
 | n + 1 => by
  have := lastN_lt s c n
  show (if s[n]? = some c then (n : Int) else lastN s c n) < ((n + 1 : Nat) : Int)
  split <;> omega
theorem lastN_ge (s : List UInt8) (c : UInt8) : ∀ n, -1 <= lastN s c n
 | 0 => by show (-1 : Int) <= -1; decide
 | n + 1 => by
  have := lastN_ge s c n
  show -1 <= (if s[n]? = some c then (n : Int) else lastN s c n)
  split <;> omega
theorem loop137 (s : List UInt8) (c : UInt8) (hl : s.length <= 1000000) (M : PMem) (k : Nat) (Q : AExit -> PSt -> Prop)
  (q1 : ∀ tm, lastN s c s.length = -1 -> Q (.exit 0) ⟨tm, 19, k, [], M⟩) (q2 : ∀ tm, tget tm 4 = iv (lastN s c s.length) -> Q .ret ⟨tm, 19, k, [], M⟩) :
  ∀ n tm, n <= s.length -> lastN s c s.length = lastN s c n -> tget tm 0 = str s -> tget tm 1 = encB c -> tget tm 5 = iv ((n : Int) - 1) -> RXL env Tryz.prog none c120_13 ⟨tm, 19, k, [], M⟩ Q := by
 intro n
 induction n with
 | zero =>
  intro tm hn he t0 t1 t5
  have hge : ¬ (((0 : Nat) : Int) - 1 >= 0) := by omega
  refine RXL.round (RX.of env_ok ?_)
  simp only [G0, Z1, Z2, Z3, Z4, Z5, t5, hge, decide_false]
  exact q1 _ he
 | succ n ih =>
  intro tm hn he t0 t1 t5
  have hge : ((n + 1 : Nat) : Int) - 1 >= 0 := by omega
  have e1 : ((n + 1 : Nat) : Int) - 1 = (n : Int) := by omega
  obtain ⟨b, hb, -⟩ := getE (xs := s) (i := n) (by omega)
  have hix : idxS (str s) (.v (.int .i64 (n : Int))) = some (encB b) := str_idx hb
  have hw : IntKind.i64.wrap ((n : Int) - 1) = (n : Int) - 1 := wrap64_id (by omega) (by omega)
  rw [e1] at t5
  have hge : (n : Int) >= 0 := by omega
  refine RXL.round (RX.of env_ok ?_)
  have hun : lastN s c (n + 1) = if s[n]? = some c then (n : Int) else lastN s c n := rfl
  rw [hun, hb] at he
  simp only [G0, Z1, Z2, Z3, Z4, Z5, t0, t1, t5, hge, decide_true, hix, encB]
  by_cases hc : b = c
  ·subst hc
   rw [if_pos rfl] at he
   simp only [G0, Z1, Z2, Z3, Z4, Z5, beq_self_eq_true, t5]
   exact q2 _ (by rw [he]; rfl)
  ·have hne : ((b.toNat : Int) == (c.toNat : Int)) = false := by
    cases h : ((b.toNat : Int) == (c.toNat : Int)) with
    | false => rfl
    | true =>
     have := eq_of_beq h
     exact absurd (UInt8.toNat_inj.1 (by omega)) hc
   rw [if_neg (by simpa using hc)] at he
   simp only [G0, Z1, Z2, Z3, Z4, Z5, hne, t5, hw]
   exact ih _ (by omega) he t0 t1 rfl
theorem last137 (s : List UInt8) (c : UInt8) (hl : s.length <= 1000000) : PTp env Tryz.prog 120 [str s, encB c] (iv (lastN s c s.length)) := fun M => by
 refine PT.enterR env_ok fn120 (by simp) comp120 fun k hk hf => RX.of env_ok ?_
 have hw : IntKind.i64.wrap ((s.length : Int) - 1) = (s.length : Int) - 1 := wrap64_id (by omega) (by omega)
 simp only [G0, Z1, Z2, Z3, Z4, Z5, argsP, hw]
 refine RX.loop (loop137 s c hl M k _ (fun tm h => ?_) (fun tm h => ?_) s.length _ (Nat.le_refl _) rfl (by rfl) (by rfl) (by rfl))
 ·simp only [G0, Z1, Z2, Z3, Z4, Z5]
  exact end1 hf rfl ⟨by rw [h]; rfl, rfl⟩
 ·simp only [G0, Z1, Z2, Z3, Z4, Z5]
  exact end1 hf h ⟨rfl, rfl⟩
theorem last119 (s : List UInt8) (c : UInt8) (hl : s.length <= 1000000) : PTp env Tryz.prog 100 [str s, encB c] (iv (lastN s c s.length)) := fun M => by
 refine PT.enterR env_ok fn100 (by simp) comp100 fun k hk hf => RX.of env_ok ?_
 simp only [G0, Z1, Z2, Z3, Z4, Z5, argsP]
 refine cp0 (last137 s c hl) (by decide) ?_
 simp only [G0, Z1, Z2, Z3, Z4, Z5]
 exact end1 hf rfl ⟨rfl, rfl⟩
def cutF (s : List UInt8) : List UInt8 × List UInt8 :=
 if pathOk s then (if 0 <= lastN s 47 s.length then (s.take (lastN s 47 s.length).toNat, s.drop ((lastN s 47 s.length).toNat + 1)) else ([], s)) else ([], [])
theorem ne_err (b : Bool) : (errIf b != 0) = !b := by cases b <;> rfl
theorem cut87 (s : List UInt8) (hl : s.length <= 1000000) : PTp env Tryz.prog 69 [str s] (.tup [str (cutF s).1, str (cutF s).2]) := fun M => by
 refine PT.enterR env_ok fn69 (by simp) comp69 fun k hk hf => RX.of env_ok ?_
 simp only [G0, Z1, Z2, Z3, Z4, Z5, argsP]
 refine cp0 (path_check s hl) (by decide) ?_
 unfold cutF
 have e0 : ((0 : Int) != 0) = false := rfl
 have e2 : ((2 : Int) != 0) = true := rfl
 cases hp : pathOk s with
 | false =>
  simp only [G0, Z1, Z2, Z3, Z4, Z5, ne_err, Bool.not_false]
  exact end2 hf rfl rfl ⟨rfl, rfl⟩
 | true =>
  simp only [G0, Z1, Z2, Z3, Z4, Z5, ne_err, Bool.not_true]
  refine cp0 (last119 s 47 hl) (by decide) ?_
  have h1 := lastN_lt s 47 s.length
  have h2 := lastN_ge s 47 s.length
  generalize hn : lastN s 47 s.length = n at h1 h2
  by_cases hg : 0 <= n
  ·obtain ⟨j, rfl⟩ := Int.eq_ofNat_of_zero_le hg
   have hge : (j : Int) >= 0 := by omega
   have hto : sliceS (str s) none (some (iv j)) = some (str (s.take j)) := str_to (by omega)
   have hfr : sliceS (str s) (some (iv ((j + 1 : Nat) : Int))) none = some (str (s.drop (j + 1))) := str_from (by omega)
   have hw : IntKind.i64.wrap ((j : Int) + 1) = ((j + 1 : Nat) : Int) := by rw [wrap64_id (by omega) (by omega)]; rfl
   rw [if_pos hg]
   simp only [G0, Z1, Z2, Z3, Z4, Z5, hge, decide_true, hto, hfr, hw]
   exact end2 hf rfl rfl ⟨rfl, rfl⟩
  ·have hge : ¬ (n >= 0) := by omega
   rw [if_neg hg]
   simp only [G0, Z1, Z2, Z3, Z4, Z5, hge, decide_false]
   exact end2 hf rfl rfl ⟨rfl, rfl⟩
theorem parent61 (s : List UInt8) (hl : s.length <= 1000000) : PTp env Tryz.prog 50 [str s] (.tup [str (cutF s).1, bv (!((cutF s).1 == []))]) := fun M => by
 refine PT.enterR env_ok fn50 (by simp) comp50 fun k hk hf => RX.of env_ok ?_
 simp only [G0, Z1, Z2, Z3, Z4, Z5, argsP]
 refine cp0 (cut87 s hl) (by decide) ?_
 have hs : PV.v (.string ⟨#[]⟩) = str [] := rfl
 simp only [G0, Z1, Z2, Z3, Z4, Z5, hs, str_neq]
 exact end2 hf rfl rfl ⟨rfl, rfl⟩
end Go.Proofs.YthjlhgjnjhmfbaaGreatDoor
end
noncomputable section
namespace Go.Proofs.YthjlhgjnjhmfbaaGreatDoor
open Go Go.Am Go.Pm
def parI (t : List En) (p : List UInt8) : Int :=
 if (cutF p).1 = [] then 0 else if fnd t (cutF p).1 >= 0 then (match t[(fnd t (cutF p).1).toNat]? with | some x => if x.kind = 2 then 0 else 12 | none => 0) else 6
theorem parented38 (t : List En) (ht : t.length <= 1000000) (p : List UInt8) (hp : p.length <= 1000000) : PTp env Tryz.prog 26 [encEns t, str p] (iv (parI t p)) := fun M => by
 refine PT.enterR env_ok fn26 (by simp) comp26 fun k hk hf => RX.of env_ok ?_
 simp only [G0, Z1, Z2, Z3, Z4, Z5, argsP]
 refine cp0 (parent61 p hp) (by decide) ?_
 unfold parI
 by_cases hu : (cutF p).1 = []
 ·rw [if_pos hu, hu]
  have : (([] : List UInt8) == []) = true := rfl
  simp only [G0, Z1, Z2, Z3, Z4, Z5, this, Bool.not_true, Bool.not_false]
  exact end1 hf rfl ⟨rfl, rfl⟩
 ·have hb : ((cutF p).1 == []) = false := by
   cases h : ((cutF p).1 == []) with
   | false => rfl
   | true => exact absurd (eq_of_beq h) hu
  rw [if_neg hu]
  simp only [G0, Z1, Z2, Z3, Z4, Z5, hb, Bool.not_true, Bool.not_false]
  refine cp0 (find40 t ht (cutF p).1) (by decide) ?_
  by_cases hg : fnd t (cutF p).1 >= 0
  ·rw [if_pos hg]
   have hx : ∃ (j : Nat) (x : En), fnd t (cutF p).1 = (j : Int) /\ t[j]? = some x := by
    rcases idxG_at (fun x : En => x.path == (cutF p).1) t 0 with h | ⟨j, x, h1, h2, _⟩
    ·unfold fnd at hg; omega
    ·exact ⟨j, x, by unfold fnd; rw [h1]; congr 1; omega, h2⟩
   obtain ⟨j, x, e, hx⟩ := hx
   rw [e] at hg ⊢
   rw [Int.toNat_natCast, hx]
   have hj := lt_get hx
   have hc := en_cell (c := 1) hx rfl
   simp only [G0, Z1, Z2, Z3, Z4, Z5, hg, decide_true, Bool.not_true, hj, encEns, hc]
   by_cases hk2 : x.kind = 2
   ·have hne : (x.kind != 2) = false := by rw [hk2]; rfl
    simp only [G0, Z1, Z2, Z3, Z4, Z5, hne]
    exact end1 hf rfl ⟨by simp only [if_pos hg, if_pos hk2]; rfl, rfl⟩
   ·have hne : (x.kind != 2) = true := by simpa using hk2
    simp only [G0, Z1, Z2, Z3, Z4, Z5, hne]
    exact end1 hf rfl ⟨by simp only [if_pos hg, if_neg hk2]; rfl, rfl⟩
  ·rw [if_neg hg]
   simp only [G0, Z1, Z2, Z3, Z4, Z5, hg, decide_false, Bool.not_false]
   exact end1 hf rfl ⟨rfl, rfl⟩
def prevOk (t : List En) (i : Nat) (x : En) : Bool := match i with
 | 0 => true
 | j + 1 => match t[j]? with
  | some y => lessB y.path x.path
  | none => true
def okAt (t : List En) (i : Nat) (x : En) : Bool := (pathOk x.path && effOk x.kind x.mode x.bytes && !(x.kind == 3)) && prevOk t i x && (parI t x.path == 0)
def okFrom (t : List En) : Nat -> List En -> Bool
 | _, [] => true
 | i, x :: r => okAt t i x && okFrom t (i + 1) r
def treeOk (t : List En) : Bool := decide (t.length <= 200) && okFrom t 0 t
theorem hstE (x : En) : storeO 4 0 (encEn x) (some (.row .rw 0 [.v (.string ⟨#[]⟩), .v (.int .i64 0), .v (.int .i64 0), .lst .full 0 0 []])) = some (.row .rw 0 (enCells x)) := storeO_eq (n := 4) ⟨rfl, Nat.le_refl 4, rfl⟩
theorem loop14 (t : List En) (ht : t.length <= 1000000) (hp : ∀ x ∈ t, x.path.length <= 1000000) (M : PMem) (k : Nat) (Q : AExit -> PSt -> Prop)
  (q1 : okFrom t 0 t = true -> ∀ tm, Q (.exit 0) ⟨tm, 55, k, [], M⟩) (q2 : okFrom t 0 t = false -> ∀ tm, tget tm 2 = iv 2 -> Q .ret ⟨tm, 55, k, [], M⟩) :
  ∀ d i tm, t.length - i = d -> i <= t.length -> okFrom t 0 t = okFrom t i (t.drop i) -> tget tm 0 = encEns t -> tget tm 8 = encEns t -> tget tm 9 = iv t.length -> tget tm 10 = iv i -> RXL env Tryz.prog none c15_20 ⟨tm, 55, k, [], M⟩ Q := by
 intro d
 induction d with
 | zero =>
  intro i tm hd hi ho t0 t8 t9 t10
  have : i = t.length := by omega
  subst this
  refine RXL.round (RX.of env_ok ?_)
  simp only [G0, Z1, Z2, Z3, Z4, Z5, t9, t10, Int.lt_irrefl, decide_false]
  exact q1 (by rw [ho, List.drop_of_length_le (Nat.le_refl _)]; rfl) _
 | succ d ih =>
  intro i tm hd hi ho t0 t8 t9 t10
  have hi' : i < t.length := by omega
  have hii : (i : Int) < t.length := by omega
  obtain ⟨x, hx, hdx⟩ := getE hi'
  have hlx := en_load hx
  have h8 : tget tm 8 = .lst .no 4 t.length (t.flatMap enCells) := t8
  have h0 : tget tm 0 = .lst .no 4 t.length (t.flatMap enCells) := t0
  have hw : IntKind.i64.wrap ((i : Int) + 1) = ((i + 1 : Nat) : Int) := by rw [wrap64_id (by omega) (by omega)]; rfl
  have hxm := List.mem_of_getElem? hx
  have hst := hstE x
  rw [hdx] at ho
  have hun : okFrom t i (x :: t.drop (i + 1)) = (okAt t i x && okFrom t (i + 1) (t.drop (i + 1))) := rfl
  rw [hun] at ho
  have hcl : encEn x = .agg [str x.path, iv x.kind, iv x.mode, encBytes x.bytes] := rfl
  refine RXL.inn fun k' hk1 hk2 hk3 => RX.of env_ok ?_
  simp only [G0, Z1, Z2, Z3, Z4, Z5, h8, t9, t10, hii, decide_true, hi', hlx, hst, enCells]
  refine cp0 (path_check x.path (hp x hxm)) (by decide) ?_
  have aggE : ptake true 3 [str x.path, iv x.kind, iv x.mode, encBytes x.bytes] 1 = some (.agg [iv x.kind, iv x.mode, encBytes x.bytes]) := rfl
  cases hpo : pathOk x.path with
  | false =>
   have hno : okFrom t 0 t = false := by rw [ho, okAt, hpo]; rfl
   simp only [G0, Z1, Z2, Z3, Z4, Z5, ne_err, Bool.not_true, Bool.not_false, cnd_t, cnd_f, e_CGD]
   exact q2 hno _ rfl
  | true =>
   simp only [G0, Z1, Z2, Z3, Z4, Z5, ne_err, Bool.not_true, cnd_t, cnd_f, e_CGD, aggE]
   refine cp0 (effect_check x.kind x.mode x.bytes) (by decide) ?_
   cases heo : effOk x.kind x.mode x.bytes with
   | false =>
    have hno : okFrom t 0 t = false := by rw [ho, okAt, hpo, heo]; rfl
    simp only [G0, Z1, Z2, Z3, Z4, Z5, ne_err, Bool.not_true, Bool.not_false, cnd_t, cnd_f, e_CGD]
    exact q2 hno _ rfl
   | true =>
    cases hk3 : (x.kind == 3) with
    | true =>
     have hno : okFrom t 0 t = false := by rw [ho, okAt, hpo, heo, hk3]; rfl
     simp only [G0, Z1, Z2, Z3, Z4, Z5, ne_err, Bool.not_true, Bool.not_false, cnd_t, cnd_f, e_CGD, hk3]
     exact q2 hno _ rfl
    | false =>
     have hT0 : tget tm 0 = .lst .no 4 t.length (t.flatMap enCells) := t0
     rcases Nat.eq_zero_or_pos i with h0 | h0
     ·subst h0
      have hgt : ¬ (((0 : Nat) : Int) > 0) := by omega
      simp only [G0, Z1, Z2, Z3, Z4, Z5, ne_err, Bool.not_true, Bool.not_false, cnd_t, cnd_f, e_CGD, hk3, hgt, decide_false]
      rw [t0]
      refine cp0 (parented38 t ht x.path (hp x hxm)) (by decide) ?_
      cases hpr : (parI t x.path == 0) with
      | false =>
       have hno : okFrom t 0 t = false := by rw [ho, okAt, hpo, heo, hk3, hpr]; simp
       have hne : (parI t x.path != 0) = true := by rw [bne, hpr]; rfl
       simp only [G0, Z1, Z2, Z3, Z4, Z5, hne, Bool.not_true, Bool.not_false, cnd_t, cnd_f]
       exact q2 hno _ rfl
      | true =>
       have hne : (parI t x.path != 0) = false := by rw [bne, hpr]; rfl
       simp only [G0, Z1, Z2, Z3, Z4, Z5, hne, Bool.not_true, Bool.not_false, cnd_t, cnd_f, t10, hw]
       refine ih (0 + 1) _ (by omega) (by omega) (by rw [ho, okAt, hpo, heo, hk3, hpr]; simp [prevOk]) t0 t8 t9 rfl
     ·obtain ⟨y, hy, -⟩ := getE (xs := t) (i := i - 1) (by omega)
      have hgt : (i : Int) > 0 := by omega
      have hw1 : IntKind.i64.wrap ((i : Int) - 1) = ((i - 1 : Nat) : Int) := by rw [wrap64_id (by omega) (by omega)]; omega
      have hi1 : i - 1 < t.length := by omega
      have hcy := en_cell (c := 0) hy rfl
      have hcy' : (t.flatMap enCells)[(i - 1) * 4]? = some (str y.path) := hcy
      have hpv : prevOk t i x = lessB y.path x.path := by
       cases i with
       | zero => omega
       | succ i => unfold prevOk; rw [show i + 1 - 1 = i from rfl] at hy; simp only [hy]
      simp only [G0, Z1, Z2, Z3, Z4, Z5, ne_err, Bool.not_true, Bool.not_false, cnd_t, cnd_f, e_CGD, hk3, hgt, decide_true, hT0, hw1, hi1, hcy, hcy']
      refine cp0 (less15 y.path x.path (hp y (List.mem_of_getElem? hy)) (hp x hxm)) (by decide) ?_
      cases hls : lessB y.path x.path with
      | false =>
       have hno : okFrom t 0 t = false := by rw [ho, okAt, hpo, heo, hk3, hpv, hls]; rfl
       simp only [G0, Z1, Z2, Z3, Z4, Z5, Bool.not_true, Bool.not_false, cnd_t, cnd_f, e_CGD]
       exact q2 hno _ rfl
      | true =>
       simp only [G0, Z1, Z2, Z3, Z4, Z5, Bool.not_true, Bool.not_false, cnd_t, cnd_f, e_CGD]
       rw [t0]
       refine cp0 (parented38 t ht x.path (hp x hxm)) (by decide) ?_
       cases hpr : (parI t x.path == 0) with
       | false =>
        have hno : okFrom t 0 t = false := by rw [ho, okAt, hpo, heo, hk3, hpr]; simp
        have hne : (parI t x.path != 0) = true := by rw [bne, hpr]; rfl
        simp only [G0, Z1, Z2, Z3, Z4, Z5, hne, Bool.not_true, Bool.not_false, cnd_t, cnd_f]
        exact q2 hno _ rfl
       | true =>
        have hne : (parI t x.path != 0) = false := by rw [bne, hpr]; rfl
        simp only [G0, Z1, Z2, Z3, Z4, Z5, hne, Bool.not_true, Bool.not_false, cnd_t, cnd_f, t10, hw]
        refine ih (i + 1) _ (by omega) (by omega) (by rw [ho, okAt, hpo, heo, hk3, hpv, hls, hpr]; rfl) t0 t8 t9 rfl
theorem check14 (t : List En) (ht : t.length <= 1000000) (hp : ∀ x ∈ t, x.path.length <= 1000000) : PTp env Tryz.prog 15 [encEns t] (iv (errIf (treeOk t))) := fun M => by
 refine PT.enterR env_ok fn15 (by simp) comp15 fun k hk hf => RX.of env_ok ?_
 have hlen : lenL (encEns t) = some (iv (t.length : Nat)) := rfl
 unfold treeOk
 by_cases h2 : t.length <= 200
 ·have hgt : ¬ ((t.length : Int) > 200) := by omega
  rw [decide_eq_true h2, Bool.true_and]
  simp only [G0, Z1, Z2, Z3, Z4, Z5, argsP, hlen, hgt, decide_false]
  refine RX.loop (loop14 t ht hp M k _ (fun h tm => ?_) (fun h tm t2 => ?_) t.length 0 _ rfl (Nat.zero_le _) rfl (by rfl) (by rfl) (by rfl) (by rfl))
  ·simp only [G0, Z1, Z2, Z3, Z4, Z5]
   exact end1 hf rfl ⟨by rw [h]; rfl, rfl⟩
  ·simp only [G0, Z1, Z2, Z3, Z4, Z5]
   exact end1 hf t2 ⟨by rw [h]; rfl, rfl⟩
 ·have hgt : (t.length : Int) > 200 := by omega
  rw [decide_eq_false h2, Bool.false_and]
  simp only [G0, Z1, Z2, Z3, Z4, Z5, argsP, hlen, hgt, decide_true]
  exact end1 hf rfl ⟨rfl, rfl⟩
end Go.Proofs.YthjlhgjnjhmfbaaGreatDoor
end
namespace Go.Proofs.YthjlhgjnjhmfbaaGreatDoor
open Go Go.Am Go.Pm
theorem enc4 (x : En) : ptake true 4 [str x.path, iv x.kind, iv x.mode, encBytes x.bytes] 0 = some (.agg [str x.path, iv x.kind, iv x.mode, encBytes x.bytes]) := rfl
theorem own42 (x : En) (h1 : x.bytes.length <= 1000000) : PTp env Tryz.prog 30 [encEn x] (encEn x) := fun M => by
 refine PT.enterR env_ok fn30 (by simp) comp30 fun k hk hf => RX.of env_ok ?_
 simp only [G0, Z1, Z2, Z3, Z4, Z5, argsP, encEn, enCells]
 refine cp0 (clone_bytes _ h1) (by decide) ?_
 have hs3 : storeO 1 3 (encBytes x.bytes) (some (.row .rw 0 [str x.path, iv x.kind, iv x.mode, encBytes x.bytes])) = some (.row .rw 0 [str x.path, iv x.kind, iv x.mode, encBytes x.bytes]) := storeO_eq (n := 1) ⟨rfl, (show 3 + 1 <= 4 from by decide), rfl⟩
 have hs4 := hstE x
 unfold encEn enCells at hs4
 simp only [G0, Z1, Z2, Z3, Z4, Z5, hs3, enc4, hs4]
 refine endc (ag := true) (n := 4) hf (by kernel_rfl) ?_ ⟨rfl, rfl⟩
 simp only [G0, Z1, Z2, Z3, Z4, Z5, enc4]
theorem take_snoc {α : Type} {l : List α} {j : Nat} {v : α} (hv : l[j]? = some v) : l.take (j + 1) = l.take j ++ [v] := by rw [List.take_add_one, hv]; rfl
theorem get_last {os : List Pm.Obj} {o : Pm.Obj} : (os ++ [o])[os.length]? = some o := by simp
theorem set_last {os : List Pm.Obj} {o o' : Pm.Obj} : (os ++ [o]).set os.length o' = os ++ [o'] := by simp
theorem fillN (a : En) : fillA 4 [.v (.string ⟨#[]⟩), .v (.int .i64 0), .v (.int .i64 0), .lst .full 0 0 []] [(0, encEn a)] = some (enCells a) := rfl
theorem en_all (x : En) : ptake true 4 (enCells x) 0 = some (encEn x) := rfl
end Go.Proofs.YthjlhgjnjhmfbaaGreatDoor
noncomputable section
namespace Go.Proofs.YthjlhgjnjhmfbaaGreatDoor
open Go Go.Am Go.Pm
def byI (a b : En) : Int := if lessB a.path b.path then -1 else if lessB b.path a.path then 1 else 0
theorem by26 (a b : En) (ha : a.path.length <= 1000000) (hb : b.path.length <= 1000000) : PTp env Tryz.prog 29 [encEn a, encEn b] (iv (byI a b)) := fun M => by
 refine PT.enterR env_ok fn29 (by simp) comp29 fun k hk hf => RX.of env_ok ?_
 simp only [G0, Z1, Z2, Z3, Z4, Z5, argsP, encEn, enCells]
 refine cp0 (less15 a.path b.path ha hb) (by decide) ?_
 unfold byI
 cases h1 : lessB a.path b.path with
 | true =>
  simp only [G0, Z1, Z2, Z3, Z4, Z5]
  exact end1 hf rfl ⟨rfl, rfl⟩
 | false =>
  simp only [G0, Z1, Z2, Z3, Z4, Z5]
  refine cp0 (less15 b.path a.path hb ha) (by decide) ?_
  cases h2 : lessB b.path a.path with
  | true =>
   simp only [G0, Z1, Z2, Z3, Z4, Z5]
   exact end1 hf rfl ⟨rfl, rfl⟩
  | false =>
   simp only [G0, Z1, Z2, Z3, Z4, Z5]
   exact end1 hf rfl ⟨rfl, rfl⟩
structure Pr where
 path : List UInt8
 ak : Int
 am : Int
 ab : List UInt8
 bk : Int
 bm : Int
 bb : List UInt8
def meet : Option En -> Option En -> Pr
 | none, none => ⟨[], 0, 0, [], 0, 0, []⟩
 | some x, none => ⟨x.path, x.kind, x.mode, x.bytes, 0, 0, []⟩
 | none, some y => ⟨y.path, 0, 0, [], y.kind, y.mode, y.bytes⟩
 | some x, some y => ⟨y.path, x.kind, x.mode, x.bytes, y.kind, y.mode, y.bytes⟩
end Go.Proofs.YthjlhgjnjhmfbaaGreatDoor
end
namespace Go.Proofs.YthjlhgjnjhmfbaaGreatDoor
open Go Go.Am Go.Pm
theorem ordS_self (a : List UInt8) : ordS a a = 0 := by unfold ordS; rw [lt_irrefl]; rfl
theorem ordS_zero {a b : List UInt8} (h : ordS a b = 0) : a = b := by
 unfold ordS at h
 cases h1 : bytesLt a b with
 | true => rw [h1] at h; cases h
 | false =>
  rw [h1] at h
  cases h2 : bytesLt b a with
  | true => rw [h2] at h; cases h
  | false => exact lt_total h1 h2
theorem ordS_neg {a b : List UInt8} : ordS a b < 0 ↔ bytesLt a b = true := by
 unfold ordS
 cases h1 : bytesLt a b with
 | true => exact ⟨fun _ => rfl, fun _ => by rw [if_pos rfl]; decide⟩
 | false =>
  rw [if_neg (by decide)]
  constructor
  ·intro h; split at h <;> omega
  ·intro h; cases h
theorem ordS_swap (a b : List UInt8) : ordS b a = - ordS a b := by
 unfold ordS
 cases h1 : bytesLt a b with
 | true =>
  cases h2 : bytesLt b a with
  | true => have := lt_trans' h1 h2; rw [lt_irrefl] at this; cases this
  | false => rfl
 | false => cases h2 : bytesLt b a <;> rfl
theorem ordS_trans {a b c : List UInt8} (h1 : ordS a b < 0) (h2 : ordS b c < 0) : ordS a c < 0 := ordS_neg.2 (lt_trans' (ordS_neg.1 h1) (ordS_neg.1 h2))
theorem ordL_self : ∀ l : List (List UInt8), ordL l l = 0
 | [] => rfl
 | x :: r => by rw [ordL, if_pos (ordS_self x)]; exact ordL_self r
theorem ordL_zero : ∀ {l m : List (List UInt8)}, ordL l m = 0 -> l = m
 | [], [], _ => rfl
 | [], _ :: _, h => by cases h
 | _ :: _, [], h => by cases h
 | x :: r, y :: q, h => by
  rw [ordL] at h
  split at h
  ·rename_i h1
   rw [ordS_zero h1, ordL_zero h]
  ·rename_i h1; exact absurd h h1
theorem ordL_swap : ∀ l m : List (List UInt8), ordL m l = - ordL l m
 | [], [] => rfl
 | [], _ :: _ => rfl
 | _ :: _, [] => rfl
 | x :: r, y :: q => by
  have hs := ordS_swap x y
  have ih := ordL_swap r q
  rw [ordL, ordL]
  by_cases h : ordS x y = 0
  ·rw [if_pos h, if_pos (by omega)]; exact ih
  ·rw [if_neg h, if_neg (by omega)]; exact hs
theorem ordL_trans : ∀ {l m n : List (List UInt8)}, ordL l m < 0 -> ordL m n < 0 -> ordL l n < 0
 | [], [], _, h, _ => absurd h (by show ¬ (0 : Int) < 0; decide)
 | _ :: _, [], _, h, _ => absurd h (by show ¬ (1 : Int) < 0; decide)
 | _, _ :: _, [], _, h => absurd h (by show ¬ (1 : Int) < 0; decide)
 | [], _ :: _, _ :: _, _, _ => by show (-1 : Int) < 0; decide
 | x :: r, y :: q, z :: p, h1, h2 => by
  have ih := @ordL_trans r q p
  rw [ordL] at h1 h2 ⊢
  by_cases e1 : ordS x y = 0
  ·have := ordS_zero e1; subst this
   rw [if_pos (ordS_self x)] at h1
   by_cases e2 : ordS x z = 0
   ·rw [if_pos e2] at h2 ⊢; exact ih h1 h2
   ·rw [if_neg e2] at h2 ⊢; exact h2
  ·rw [if_neg e1] at h1
   by_cases e2 : ordS y z = 0
   ·have := ordS_zero e2; subst this
    rw [if_neg e1]; exact h1
   ·rw [if_neg e2] at h2
    have h3 := ordS_trans h1 h2
    rw [if_neg (by omega)]; exact h3
def unparts : List (List UInt8) -> List UInt8
 | [] => []
 | [p] => p
 | p :: q :: r => p ++ 47 :: unparts (q :: r)
theorem unparts_parts : ∀ s : List UInt8, unparts (parts s) = s
 | [] => rfl
 | c :: r => by
  have ih := unparts_parts r
  unfold parts
  by_cases hc : c = 47
  ·rw [if_pos hc]
   cases hp : parts r with
   | nil => have := count_parts r; rw [hp] at this; cases this
   | cons p ps => rw [hp] at ih; rw [unparts, ih, hc]; rfl
  ·rw [if_neg hc]
   cases hp : parts r with
   | nil => have := count_parts r; rw [hp] at this; cases this
   | cons p ps =>
    rw [hp] at ih
    dsimp only
    cases ps with
    | nil => rw [unparts] at ih ⊢; rw [ih]
    | cons q qs => rw [unparts] at ih ⊢; rw [List.cons_append, ih]
theorem parts_inj {a b : List UInt8} (h : parts a = parts b) : a = b := by rw [<- unparts_parts a, h, unparts_parts]
theorem less_irr (a : List UInt8) : lessB a a = false := by unfold lessB ordP; rw [ordL_self]; rfl
theorem less_trans {a b c : List UInt8} (h1 : lessB a b = true) (h2 : lessB b c = true) : lessB a c = true := by
 unfold lessB ordP at *
 exact decide_eq_true (ordL_trans (of_decide_eq_true h1) (of_decide_eq_true h2))
theorem less_tot {a b : List UInt8} (h1 : lessB a b = false) (h2 : lessB b a = false) : a = b := by
 unfold lessB ordP at *
 have h3 := of_decide_eq_false h1
 have h4 := of_decide_eq_false h2
 have h5 := ordL_swap (parts a) (parts b)
 exact parts_inj (ordL_zero (by omega))
theorem byI_neg {a b : En} : byI a b < 0 ↔ lessB a.path b.path = true := by
 unfold byI
 cases h1 : lessB a.path b.path with
 | true => exact ⟨fun _ => rfl, fun _ => by rw [if_pos rfl]; decide⟩
 | false =>
  rw [if_neg (by decide)]
  constructor
  ·intro h; split at h <;> omega
  ·intro h; cases h
def Srt (l : List En) : Prop := l.Pairwise (fun x y => lessB x.path y.path = true)
theorem okFrom_at (t : List En) : ∀ (l : List En) (i j : Nat) (x : En), okFrom t i l = true -> l[j]? = some x -> okAt t (i + j) x = true
 | [], i, j, x, _, h => by simp at h
 | y :: r, i, 0, x, h, hx => by
  unfold okFrom at h
  rw [Bool.and_eq_true] at h
  cases hx
  exact h.1
 | y :: r, i, j + 1, x, h, hx => by
  unfold okFrom at h
  rw [Bool.and_eq_true] at h
  have := okFrom_at t r (i + 1) j x h.2 (by simpa using hx)
  rw [show i + 1 + j = i + (j + 1) from by omega] at this
  exact this
theorem tree_at {t : List En} (h : treeOk t = true) {j : Nat} {x : En} (hx : t[j]? = some x) : okAt t j x = true := by
 unfold treeOk at h
 rw [Bool.and_eq_true] at h
 have := okFrom_at t t 0 j x h.2 hx
 rwa [Nat.zero_add] at this
theorem tree_len {t : List En} (h : treeOk t = true) : t.length <= 200 := by
 unfold treeOk at h
 rw [Bool.and_eq_true] at h
 exact of_decide_eq_true h.1
theorem tree_srt {t : List En} (h : treeOk t = true) : Srt t := by
 have step : ∀ (d i : Nat) (x y : En), t[i]? = some x -> t[i + d + 1]? = some y -> lessB x.path y.path = true := by
  intro d
  induction d with
  | zero =>
   intro i x y hx hy
   have := tree_at h hy
   unfold okAt at this
   simp only [Bool.and_eq_true] at this
   have hp := this.1.2
   unfold prevOk at hp
   simp only [Nat.add_zero, hx] at hp
   exact hp
  | succ d ih =>
   intro i x y hx hy
   obtain ⟨z, hz, -⟩ := getE (xs := t) (i := i + d + 1) (by have := lt_get hy; omega)
   have h1 := ih i x z hx hz
   have := tree_at h hy
   unfold okAt at this
   simp only [Bool.and_eq_true] at this
   have hp := this.1.2
   unfold prevOk at hp
   have e : i + (d + 1) + 1 = (i + d + 1) + 1 := by omega
   rw [e] at hp
   simp only [hz] at hp
   exact less_trans h1 hp
 refine List.pairwise_iff_getElem.2 fun i j hi hj hij => ?_
 obtain ⟨d, rfl⟩ : ∃ d, j = i + d + 1 := ⟨j - i - 1, by omega⟩
 exact step d i _ _ (List.getElem?_eq_getElem hi) (List.getElem?_eq_getElem hj)
end Go.Proofs.YthjlhgjnjhmfbaaGreatDoor
namespace Go.Proofs.YthjlhgjnjhmfbaaGreatDoor
open Go Go.Am Go.Pm
def noSl (p : List UInt8) : Prop := ∀ c ∈ p, c ≠ 47
theorem folds_is : ∀ (l : List (List UInt8)) (n : Nat), n <= 6 -> (folds nxtP n l).isSome = (decide (n + l.length <= 6) && l.all partOk)
 | [], n, h => by
  show true = _
  rw [decide_eq_true (by simpa using h)]; rfl
 | p :: l, n, h => by
  have hnx : nxtP n p = if decide (((n + 1 : Nat) : Int) > 6) || !partOk p then none else some (n + 1) := rfl
  rw [folds, hnx]
  by_cases hn : n + 1 <= 6
  ·rw [decide_eq_false (by omega), Bool.false_or]
   cases hp : partOk p with
   | false =>
    rw [Bool.not_false, if_pos rfl]
    rw [List.all_cons, hp, Bool.false_and, Bool.and_false]; rfl
   | true =>
    rw [Bool.not_true, if_neg (by decide)]
    dsimp only
    rw [folds_is l (n + 1) hn, List.all_cons, hp, Bool.true_and, List.length_cons]
    congr 1
    exact decide_eq_decide.2 (by omega)
  ·rw [decide_eq_true (by omega), Bool.true_or, if_pos rfl]
   rw [decide_eq_false (by simp only [List.length_cons]; omega)]; rfl
theorem pathOk_is (s : List UInt8) : pathOk s = (decide ((parts s).length <= 6) && (parts s).all partOk) := by
 unfold pathOk
 rw [folds_is _ _ (Nat.zero_le _), Nat.zero_add]
theorem str_add {E : Env} {t : Nat} {c d : Bool} {a b : List UInt8} (h : a.length + b.length <= 4000000) : pbin E .add t c d (str a) (str b) = some (str (a ++ b)) := by
 have h1 : ¬ (((a.length + b.length : Nat) : Int) > IntKind.i64.max) := by
  have : IntKind.i64.max = 9223372036854775807 := rfl
  omega
 have h2 : strBin .add ⟨a.toArray⟩ ⟨b.toArray⟩ = some (.string ⟨(a ++ b).toArray⟩) := by
  show (if ((a.length + b.length : Nat) : Int) > IntKind.i64.max then none else some (Value.string ⟨(a ++ b).toArray⟩)) = _
  rw [if_neg h1]
 simp [pbin, eqFine, binV, h2]
theorem lastN_no (l : List UInt8) (h : noSl l) : ∀ m, m <= l.length -> lastN l 47 m = -1
 | 0, _ => rfl
 | m + 1, hm => by
  obtain ⟨b, hb, -⟩ := getE (xs := l) (i := m) (by omega)
  rw [lastN, hb, if_neg (fun e => h b (List.mem_of_getElem? hb) (by cases e; rfl))]
  exact lastN_no l h m (by omega)
theorem lastN_at (a l : List UInt8) (h : noSl l) : ∀ m, m <= l.length -> lastN (a ++ 47 :: l) 47 (a.length + 1 + m) = (a.length : Int)
 | 0, _ => by
  show lastN (a ++ 47 :: l) 47 (a.length + 1) = _
  rw [lastN, List.getElem?_append_right (Nat.le_refl _), Nat.sub_self]
  rfl
 | m + 1, hm => by
  obtain ⟨b, hb, -⟩ := getE (xs := l) (i := m) (by omega)
  show lastN (a ++ 47 :: l) 47 ((a.length + 1 + m) + 1) = _
  rw [lastN, List.getElem?_append_right (by omega), show a.length + 1 + m - a.length = m + 1 from by omega, List.getElem?_cons_succ, hb, if_neg (fun e => h b (List.mem_of_getElem? hb) (by cases e; rfl))]
  exact lastN_at a l h m (by omega)
def getE' (t : List En) (p : List UInt8) : Option En := t.find? fun x => x.path == p
theorem idxG_find (P : En -> Bool) : ∀ (l : List En) (i : Nat), (l.find? P = none /\ idxG P i l = -1) \/ ∃ x j, l.find? P = some x /\ idxG P i l = ((i + j : Nat) : Int) /\ l[j]? = some x
 | [], i => .inl ⟨rfl, rfl⟩
 | x :: r, i => by
  rw [List.find?_cons]
  unfold idxG
  cases h : P x with
  | true => exact .inr ⟨x, 0, rfl, rfl, rfl⟩
  | false =>
   rw [if_neg (by decide)]
   rcases idxG_find P r (i + 1) with ⟨h1, h2⟩ | ⟨y, j, h1, h2, h3⟩
   ·exact .inl ⟨h1, h2⟩
   ·exact .inr ⟨y, j + 1, h1, by rw [h2]; congr 1; omega, by simpa using h3⟩
theorem fnd_find (t : List En) (p : List UInt8) : (getE' t p = none /\ fnd t p = -1) \/ ∃ x j, getE' t p = some x /\ fnd t p = ((j : Nat) : Int) /\ t[j]? = some x := by
 rcases idxG_find (fun x : En => x.path == p) t 0 with h | ⟨x, j, h1, h2, h3⟩
 ·exact .inl h
 ·exact .inr ⟨x, j, h1, by unfold fnd; rw [h2, Nat.zero_add], h3⟩
theorem parts_app : ∀ (a r : List UInt8), parts (a ++ 47 :: r) = parts a ++ parts r
 | [], r => by
  show parts (47 :: r) = [] :: parts r
  rw [parts, if_pos rfl]
 | c :: a, r => by
  have ih := parts_app a r
  show parts (c :: (a ++ 47 :: r)) = parts (c :: a) ++ parts r
  rw [parts, parts, ih]
  by_cases hc : c = 47
  ·rw [if_pos hc, if_pos hc]; rfl
  ·rw [if_neg hc, if_neg hc]
   cases hp : parts a with
   | nil => have := count_parts a; rw [hp] at this; simp at this
   | cons p ps => rfl
theorem ok_app {a r : List UInt8} (h : pathOk (a ++ 47 :: r) = true) : pathOk a = true := by
 rw [pathOk_is, parts_app, List.all_append, List.length_append, Bool.and_eq_true, Bool.and_eq_true, decide_eq_true_iff] at h
 rw [pathOk_is, Bool.and_eq_true, decide_eq_true_iff]
 exact ⟨by omega, h.2.1⟩
theorem ok_ne {s : List UInt8} (h : pathOk s = true) : s ≠ [] := by
 rintro rfl
 rw [pathOk_is] at h
 exact absurd h (by decide)
theorem last_split : ∀ s : List UInt8, noSl s \/ ∃ q l, s = q ++ 47 :: l /\ noSl l
 | [] => .inl fun c h => by cases h
 | c :: r => by
  rcases last_split r with h | ⟨q, l, rfl, hl⟩
  ·by_cases hc : c = 47
   ·subst hc; exact .inr ⟨[], r, rfl, h⟩
   ·refine .inl fun x hx => ?_
    rcases List.mem_cons.1 hx with rfl | hx
    ·exact hc
    ·exact h x hx
  ·exact .inr ⟨c :: q, l, rfl, hl⟩
theorem cut_snoc {q l : List UInt8} (hl : noSl l) (hp : pathOk (q ++ 47 :: l) = true) : (cutF (q ++ 47 :: l)).1 = q := by
 have hla := lastN_at q l hl l.length (Nat.le_refl _)
 have hlen : (q ++ 47 :: l).length = q.length + 1 + l.length := by rw [List.length_append, List.length_cons]; omega
 unfold cutF
 rw [if_pos hp, hlen, hla, if_pos (by omega), Int.toNat_natCast]
 exact List.take_left' rfl
theorem cut_flat {s : List UInt8} (hl : noSl s) : (cutF s).1 = [] := by
 unfold cutF
 cases pathOk s with
 | false => rfl
 | true =>
  rw [if_pos rfl, lastN_no s hl s.length (Nat.le_refl _), if_neg (by decide)]
def Ext (a p : List UInt8) : Prop := ∃ s, p = a ++ s /\ (s = [] \/ ∃ r, s = 47 :: r)
theorem Ext.refl (a : List UInt8) : Ext a a := ⟨[], by simp, .inl rfl⟩
theorem Ext.sl (a r : List UInt8) : Ext a (a ++ 47 :: r) := ⟨_, rfl, .inr ⟨r, rfl⟩⟩
theorem Ext.trans {a b c : List UInt8} (h1 : Ext a b) (h2 : Ext b c) : Ext a c := by
 obtain ⟨s, rfl, hs⟩ := h1
 obtain ⟨u, rfl, hu⟩ := h2
 refine ⟨s ++ u, by rw [List.append_assoc], ?_⟩
 rcases hs with rfl | ⟨r, rfl⟩
 ·simpa using hu
 ·exact .inr ⟨r ++ u, rfl⟩
theorem Ext.len {a p : List UInt8} (h : Ext a p) : a.length <= p.length := by
 obtain ⟨s, rfl, _⟩ := h
 rw [List.length_append]; omega
theorem Ext.cut {a q l : List UInt8} (hl : noSl l) (h : Ext a (q ++ 47 :: l)) : q ++ 47 :: l = a \/ Ext a q := by
 obtain ⟨s, hs, hk⟩ := h
 rcases hk with rfl | ⟨r, rfl⟩
 ·left; rw [hs]; simp
 ·right
  rcases List.append_eq_append_iff.1 hs.symm with ⟨m, rfl, h2⟩ | ⟨m, rfl, h2⟩
  ·refine ⟨m, rfl, ?_⟩
   cases m with
   | nil => exact .inl rfl
   | cons c m => rw [List.cons_append] at h2; injection h2 with h3 h4; exact .inr ⟨m, by rw [h3]⟩
  ·cases m with
   | nil => exact ⟨[], by simp, .inl rfl⟩
   | cons c m =>
    rw [List.cons_append] at h2
    injection h2 with h3 h4
    exact absurd rfl (hl 47 (by rw [h4]; simp))
theorem getE_mem {t : List En} {p : List UInt8} {x : En} (h : getE' t p = some x) : x ∈ t /\ x.path = p := by
 unfold getE' at h
 exact ⟨List.mem_of_find?_eq_some h, by simpa using List.find?_some h⟩
theorem getE_none {t : List En} {p : List UInt8} (h : getE' t p = none) {x : En} (hx : x ∈ t) : x.path ≠ p := by
 unfold getE' at h
 have := List.find?_eq_none.1 h x hx
 simpa using this
theorem srt_inj : ∀ {t : List En}, Srt t -> ∀ {x y : En}, x ∈ t -> y ∈ t -> x.path = y.path -> x = y
 | [], _, _, _, h, _, _ => by cases h
 | z :: t, h, x, y, hx, hy, he => by
  obtain ⟨h1, h2⟩ := List.pairwise_cons.1 h
  rcases List.mem_cons.1 hx with e1 | g1
  ·rcases List.mem_cons.1 hy with e2 | g2
   ·rw [e1, e2]
   ·have := h1 y g2; rw [<- e1, he, less_irr] at this; cases this
  ·rcases List.mem_cons.1 hy with e2 | g2
   ·have := h1 x g1; rw [<- e2, he, less_irr] at this; cases this
   ·exact srt_inj h2 g1 g2 he
theorem getE_of {t : List En} (hs : Srt t) {x : En} (hx : x ∈ t) : getE' t x.path = some x := by
 cases h : getE' t x.path with
 | none => exact absurd rfl (getE_none h hx)
 | some y =>
  obtain ⟨h1, h2⟩ := getE_mem h
  rw [srt_inj hs h1 hx h2]
theorem par_iff (t : List En) (p : List UInt8) : parI t p = 0 ↔ (cutF p).1 = [] \/ ∃ z, getE' t (cutF p).1 = some z /\ z.kind = 2 := by
 unfold parI
 by_cases h : (cutF p).1 = []
 ·rw [if_pos h]; exact ⟨fun _ => .inl h, fun _ => rfl⟩
 ·rw [if_neg h]
  rcases fnd_find t (cutF p).1 with ⟨h1, h2⟩ | ⟨x, j, h1, h2, h3⟩
  ·rw [h2, if_neg (by decide)]
   refine ⟨fun e => (by cases e), fun e => ?_⟩
   rcases e with e | ⟨z, e, _⟩
   ·exact absurd e h
   ·rw [h1] at e; cases e
  ·rw [h2, if_pos (by omega), Int.toNat_natCast, h3]
   dsimp only
   by_cases hk : x.kind = 2
   ·rw [if_pos hk]; exact ⟨fun _ => .inr ⟨x, h1, hk⟩, fun _ => rfl⟩
   ·rw [if_neg hk]
    refine ⟨fun e => (by cases e), fun e => ?_⟩
    rcases e with e | ⟨z, e, hz⟩
    ·exact absurd e h
    ·rw [h1] at e; cases e; exact absurd hz hk
structure Tree (t : List En) : Prop where
 len : t.length <= 200
 srt : Srt t
 ok : ∀ x ∈ t, pathOk x.path = true
 eff : ∀ x ∈ t, effOk x.kind x.mode x.bytes = true /\ x.kind ≠ 3
 par : ∀ x ∈ t, (cutF x.path).1 = [] \/ ∃ z ∈ t, z.path = (cutF x.path).1 /\ z.kind = 2
theorem okFrom_of (t : List En) : ∀ (l : List En) (i : Nat), (∀ (j : Nat) (x : En), l[j]? = some x -> okAt t (i + j) x = true) -> okFrom t i l = true
 | [], i, h => rfl
 | x :: r, i, h => by
  unfold okFrom
  rw [Bool.and_eq_true]
  refine ⟨by simpa using h 0 x rfl, okFrom_of t r (i + 1) fun j y hy => ?_⟩
  have := h (j + 1) y (by simpa using hy)
  rwa [show i + (j + 1) = i + 1 + j from by omega] at this
theorem tree_iff {t : List En} : treeOk t = true ↔ Tree t := by
 constructor
 ·intro h
  have hs := tree_srt h
  have hat : ∀ x ∈ t, pathOk x.path = true /\ (effOk x.kind x.mode x.bytes = true /\ x.kind ≠ 3) /\ parI t x.path = 0 := fun x hx => by
   obtain ⟨j, hj⟩ := List.mem_iff_getElem?.1 hx
   have := tree_at h hj
   unfold okAt at this
   simp only [Bool.and_eq_true, Bool.not_eq_true', beq_eq_false_iff_ne, beq_iff_eq] at this
   exact ⟨this.1.1.1.1, ⟨this.1.1.1.2, this.1.1.2⟩, this.2⟩
  refine ⟨tree_len h, hs, fun x hx => (hat x hx).1, fun x hx => (hat x hx).2.1, fun x hx => ?_⟩
  rcases (par_iff t x.path).1 (hat x hx).2.2 with e | ⟨z, e, hz⟩
  ·exact .inl e
  ·obtain ⟨h1, h2⟩ := getE_mem e
   exact .inr ⟨z, h1, h2, hz⟩
 ·intro h
  unfold treeOk
  rw [Bool.and_eq_true]
  refine ⟨decide_eq_true h.len, okFrom_of t t 0 fun j x hx => ?_⟩
  have hm := List.mem_of_getElem? hx
  have hpar : parI t x.path = 0 := by
   refine (par_iff t x.path).2 ?_
   rcases h.par x hm with e | ⟨z, h1, h2, h3⟩
   ·exact .inl e
   ·exact .inr ⟨z, by rw [<- h2]; exact getE_of h.srt h1, h3⟩
  have hprev : prevOk t (0 + j) x = true := by
   rw [Nat.zero_add]
   unfold prevOk
   cases j with
   | zero => rfl
   | succ j =>
    dsimp only
    have hj := lt_get hx
    rw [List.getElem?_eq_getElem (show j < t.length by omega)]
    have := List.pairwise_iff_getElem.1 h.srt j (j + 1) (by omega) hj (by omega)
    rw [List.getElem?_eq_getElem hj] at hx
    cases hx
    exact this
  have he := h.eff x hm
  unfold okAt
  simp only [h.ok x hm, he.1, hprev, hpar, Bool.and_eq_true, Bool.not_eq_true', beq_eq_false_iff_ne, beq_iff_eq]
  exact ⟨⟨⟨⟨trivial, trivial⟩, he.2⟩, trivial⟩, trivial⟩
theorem Tree.up {t : List En} (h : Tree t) {a : List UInt8} : ∀ (n : Nat) (y : En), y.path.length <= n -> y ∈ t -> Ext a y.path -> ∃ z ∈ t, z.path = a
 | n, y, hn, hy, he => by
  rcases last_split y.path with hs | ⟨q, l, hq, hl⟩
  ·obtain ⟨s, hs', hk⟩ := he
   rcases hk with rfl | ⟨r, rfl⟩
   ·exact ⟨y, hy, by simpa using hs'⟩
   ·exact absurd rfl (hs 47 (by rw [hs']; simp))
  ·have hok := h.ok y hy
   rw [hq] at he hok
   rcases he.cut hl with e | he
   ·exact ⟨y, hy, by rw [hq, e]⟩
   ·have hc := cut_snoc hl hok
    rcases h.par y hy with e | ⟨z, h1, h2, h3⟩
    ·rw [hq, hc] at e
     exact absurd e (ok_ne (ok_app hok))
    ·rw [hq, hc] at h2
     have hlen : z.path.length < y.path.length := by rw [h2, hq, List.length_append, List.length_cons]; omega
     cases n with
     | zero => omega
     | succ n => exact h.up n z (by omega) h1 (by rw [h2]; exact he)
end Go.Proofs.YthjlhgjnjhmfbaaGreatDoor
namespace Go.Proofs.YthjlhgjnjhmfbaaGreatDoor
open Go Go.Am Go.Pm
def preSl (a b : List UInt8) : Bool := (b.take a.length == a) && (match b.drop a.length with | c :: _ => c == 47 | [] => false)
def underB (a b : List UInt8) : Bool := (pathOk a && pathOk b) && preSl a b
theorem pre_iff {a b : List UInt8} : preSl a b = true ↔ ∃ r, b = a ++ 47 :: r := by
 unfold preSl
 rw [Bool.and_eq_true]
 constructor
 ·rintro ⟨h1, h2⟩
  cases hd : b.drop a.length with
  | nil => rw [hd] at h2; cases h2
  | cons c r =>
   rw [hd] at h2
   have h3 : b.take a.length = a := by simpa using h1
   have h4 : c = 47 := by simpa using h2
   exact ⟨r, by rw [<- List.take_append_drop a.length b, h3, hd, h4]⟩
 ·rintro ⟨r, rfl⟩
  rw [List.take_left' rfl, List.drop_left' rfl]
  exact ⟨by simp, rfl⟩
theorem under_iff {a b : List UInt8} : underB a b = true ↔ pathOk a = true /\ pathOk b = true /\ ∃ r, b = a ++ 47 :: r := by
 unfold underB
 rw [Bool.and_eq_true, Bool.and_eq_true, pre_iff, and_assoc]
theorem mv_iff {a p : List UInt8} (ha : pathOk a = true) (hp : pathOk p = true) : (p == a || underB a p) = true ↔ Ext a p := by
 rw [Bool.or_eq_true, under_iff]
 constructor
 ·rintro (h | ⟨_, _, r, rfl⟩)
  ·have : p = a := by simpa using h
   rw [this]; exact Ext.refl a
  ·exact Ext.sl a r
 ·rintro ⟨s, rfl, rfl | ⟨r, rfl⟩⟩
  ·left; simp
  ·exact .inr ⟨ha, hp, r, rfl⟩
def rep (a b : List UInt8) (x : En) : En := if (x.path == a || underB a x.path) then { x with path := b ++ x.path.drop a.length } else x
theorem rep_in {a b : List UInt8} {x : En} (ha : pathOk a = true) (hx : pathOk x.path = true) (h : Ext a x.path) : rep a b x = { x with path := b ++ x.path.drop a.length } := by
 unfold rep
 rw [if_pos ((mv_iff ha hx).2 h)]
theorem rep_out {a b : List UInt8} {x : En} (ha : pathOk a = true) (hx : pathOk x.path = true) (h : ¬ Ext a x.path) : rep a b x = x := by
 unfold rep
 rw [if_neg (fun e => h ((mv_iff ha hx).1 e))]
theorem rep_path {a b s : List UInt8} {x : En} (ha : pathOk a = true) (hx : pathOk x.path = true) (hs : x.path = a ++ s) (hk : s = [] \/ ∃ r, s = 47 :: r) : (rep a b x).path = b ++ s := by
 rw [rep_in ha hx ⟨s, hs, hk⟩]
 show b ++ x.path.drop a.length = _
 rw [hs, List.drop_left' rfl]
theorem rep_kind (a b : List UInt8) (x : En) : (rep a b x).kind = x.kind /\ (rep a b x).mode = x.mode /\ (rep a b x).bytes = x.bytes := by
 unfold rep
 split <;> exact ⟨rfl, rfl, rfl⟩
theorem srt_eq : ∀ {l m : List En}, Srt l -> Srt m -> l.Perm m -> l = m
 | [], m, _, _, h => (List.nil_perm.1 h).symm
 | x :: l, [], _, _, h => by have := h.length_eq; simp at this
 | x :: l, y :: m, hl, hm, h => by
  obtain ⟨l1, l2⟩ := List.pairwise_cons.1 hl
  obtain ⟨m1, m2⟩ := List.pairwise_cons.1 hm
  have hx : x ∈ y :: m := h.subset List.mem_cons_self
  have hy : y ∈ x :: l := h.symm.subset List.mem_cons_self
  have e : x = y := by
   rcases List.mem_cons.1 hx with e | hx
   ·exact e
   ·rcases List.mem_cons.1 hy with e | hy
    ·exact e.symm
    ·have := less_trans (l1 y hy) (m1 x hx)
     rw [less_irr] at this; cases this
  subst e
  rw [srt_eq l2 m2 ((List.perm_cons x).1 h)]
theorem asc_srt {u : List En} (h1 : u.Pairwise (fun x y => ¬ byI y x < 0)) (h2 : u.Pairwise (fun x y => x.path ≠ y.path)) : Srt u := by
 refine (h1.and h2).imp fun {x y} h => ?_
 obtain ⟨h3, h4⟩ := h
 rw [byI_neg] at h3
 cases h : lessB x.path y.path with
 | true => rfl
 | false => exact absurd (less_tot h (by simpa using h3)) h4
structure Mv (t : List En) (a b : List UInt8) (u : List En) : Prop where
 tree : Tree t
 oka : pathOk a = true
 okb : pathOk b = true
 here : ∃ x ∈ t, x.path = a
 free : ∀ x ∈ t, x.path ≠ b
 ne : b ≠ a
 nu : underB a b = false
 par : parI t b = 0
 chk : ∀ x ∈ t, pathOk (rep a b x).path = true
 perm : u.Perm (t.map (rep a b))
 asc : u.Pairwise (fun x y => ¬ byI y x < 0)
section
variable {t u : List En} {a b : List UInt8}
theorem Mv.ab (h : Mv t a b u) : ¬ Ext a b := fun e => by
 have := (mv_iff h.oka h.okb).2 e
 rw [h.nu, Bool.or_false] at this
 exact h.ne (by simpa using this)
theorem Mv.nb (h : Mv t a b u) {x : En} (hx : x ∈ t) : ¬ Ext b x.path := fun e => by
 obtain ⟨z, hz, e⟩ := h.tree.up _ x (Nat.le_refl _) hx e
 exact h.free z hz e
theorem Mv.ba (h : Mv t a b u) : ¬ Ext b a := by
 obtain ⟨x, hx, e⟩ := h.here
 rw [<- e]; exact h.nb hx
theorem Mv.ext (h : Mv t a b u) {x : En} (hx : x ∈ t) : Ext b (rep a b x).path ↔ Ext a x.path := by
 have hok := h.tree.ok x hx
 constructor
 ·intro e
  refine Classical.byContradiction fun hn => ?_
  rw [rep_out h.oka hok hn] at e
  exact h.nb hx e
 ·rintro ⟨s, hs, hk⟩
  rw [rep_path h.oka hok hs hk]
  exact ⟨s, rfl, hk⟩
theorem Mv.inj (h : Mv t a b u) {x y : En} (hx : x ∈ t) (hy : y ∈ t) (e : (rep a b x).path = (rep a b y).path) : x.path = y.path := by
 have h1 := h.ext hx
 have h2 := h.ext hy
 rw [e] at h1
 have ox := h.tree.ok x hx
 have oy := h.tree.ok y hy
 by_cases hm : Ext a x.path
 ·obtain ⟨s, hs, hk⟩ := hm
  obtain ⟨s', hs', hk'⟩ := h2.1 (h1.2 ⟨s, hs, hk⟩)
  rw [rep_path h.oka ox hs hk, rep_path h.oka oy hs' hk'] at e
  rw [hs, hs', List.append_cancel_left e]
 ·have hm' : ¬ Ext a y.path := fun q => hm (h1.1 (h2.2 q))
  rw [rep_out h.oka ox hm, rep_out h.oka oy hm'] at e
  exact e
theorem Mv.mem (h : Mv t a b u) {y : En} : y ∈ u ↔ ∃ x ∈ t, rep a b x = y := by
 rw [h.perm.mem_iff, List.mem_map]
theorem Mv.srt (h : Mv t a b u) : Srt u := by
 refine asc_srt h.asc ((h.perm.pairwise_iff (fun hxy => Ne.symm hxy)).2 ?_)
 rw [List.pairwise_map]
 refine h.tree.srt.imp_of_mem fun {x y} hx hy hl e => ?_
 have := h.inj hx hy e
 rw [this, less_irr] at hl; cases hl
theorem par_mem {t : List En} {p : List UInt8} (hs : Srt t) : parI t p = 0 ↔ (cutF p).1 = [] \/ ∃ z ∈ t, z.path = (cutF p).1 /\ z.kind = 2 := by
 rw [par_iff]
 refine or_congr Iff.rfl ⟨?_, ?_⟩
 ·rintro ⟨z, h, hz⟩
  exact ⟨z, (getE_mem h).1, (getE_mem h).2, hz⟩
 ·rintro ⟨z, h1, h2, h3⟩
  exact ⟨z, by rw [<- h2]; exact getE_of hs h1, h3⟩
theorem Mv.up_out (h : Mv t a b u) {p : List UInt8} (hp : pathOk p = true) (hn : ¬ Ext a p) (hc : (cutF p).1 = [] \/ ∃ z ∈ t, z.path = (cutF p).1 /\ z.kind = 2) : (cutF p).1 = [] \/ ∃ z ∈ u, z.path = (cutF p).1 /\ z.kind = 2 := by
 rcases hc with e | ⟨z, h1, h2, h3⟩
 ·exact .inl e
 ·right
  have hz : ¬ Ext a z.path := by
   rcases last_split p with hs | ⟨q, l, rfl, hl⟩
   ·rw [cut_flat hs] at h2
    exact absurd h2 (ok_ne (h.tree.ok z h1))
   ·rw [cut_snoc hl hp] at h2
    rw [h2]
    exact fun e => hn (e.trans (Ext.sl q l))
  exact ⟨z, h.mem.2 ⟨z, h1, rep_out h.oka (h.tree.ok z h1) hz⟩, h2, h3⟩
theorem Mv.tree' (h : Mv t a b u) : Tree u := by
 have hs := h.srt
 refine ⟨by rw [h.perm.length_eq, List.length_map]; exact h.tree.len, hs, fun y hy => ?_, fun y hy => ?_, fun y hy => ?_⟩
 ·obtain ⟨x, hx, rfl⟩ := h.mem.1 hy
  exact h.chk x hx
 ·obtain ⟨x, hx, rfl⟩ := h.mem.1 hy
  obtain ⟨h1, h2, h3⟩ := rep_kind a b x
  rw [h1, h2, h3]
  exact h.tree.eff x hx
 ·obtain ⟨x, hx, rfl⟩ := h.mem.1 hy
  have ok := h.tree.ok x hx
  have ok' := h.chk x hx
  by_cases hm : Ext a x.path
  ·obtain ⟨s, hs', hk⟩ := hm
   have hp := rep_path (b := b) h.oka ok hs' hk
   rw [hp] at ok' ⊢
   rcases hk with rfl | ⟨r, rfl⟩
   ·rw [List.append_nil]
    exact h.up_out h.okb h.ab ((par_mem h.tree.srt).1 h.par)
   ·rcases last_split r with hr | ⟨q, l, rfl, hl⟩
    ·rw [cut_snoc hr ok']
     right
     obtain ⟨z, hz, ez⟩ := h.here
     have hc := h.tree.par x hx
     rw [hs', cut_snoc hr (by rw [<- hs']; exact ok)] at hc
     rcases hc with e | ⟨w, h1, h2, h3⟩
     ·exact absurd e (ok_ne h.oka)
     ·refine ⟨rep a b w, h.mem.2 ⟨w, h1, rfl⟩, ?_, by rw [(rep_kind a b w).1]; exact h3⟩
      rw [rep_path (s := []) h.oka (h.tree.ok w h1) (by rw [h2]; simp) (.inl rfl), List.append_nil]
    ·have e1 : a ++ 47 :: (q ++ 47 :: l) = (a ++ 47 :: q) ++ 47 :: l := by simp
     have e2 : b ++ 47 :: (q ++ 47 :: l) = (b ++ 47 :: q) ++ 47 :: l := by simp
     rw [e2] at ok' ⊢
     rw [cut_snoc hl ok']
     right
     have hc := h.tree.par x hx
     rw [hs', e1, cut_snoc hl (by rw [<- e1, <- hs']; exact ok)] at hc
     rcases hc with e | ⟨w, h1, h2, h3⟩
     ·simp at e
     ·refine ⟨rep a b w, h.mem.2 ⟨w, h1, rfl⟩, ?_, by rw [(rep_kind a b w).1]; exact h3⟩
      rw [rep_path (s := 47 :: q) h.oka (h.tree.ok w h1) h2 (.inr ⟨q, rfl⟩)]
  ·rw [rep_out h.oka ok hm]
   exact h.up_out ok hm (h.tree.par x hx)
theorem Mv.rr (h : Mv t a b u) {x : En} (hx : x ∈ t) : rep b a (rep a b x) = x := by
 have ok := h.tree.ok x hx
 by_cases hm : Ext a x.path
 ·have hm' := (h.ext hx).2 hm
  obtain ⟨s, hs, hk⟩ := hm
  have hp := rep_path (b := b) h.oka ok hs hk
  have h2 := rep_path (a := b) (b := a) (s := s) (x := rep a b x) h.okb (h.chk x hx) hp hk
  obtain ⟨k1, k2, k3⟩ := rep_kind a b x
  obtain ⟨l1, l2, l3⟩ := rep_kind b a (rep a b x)
  rw [k1] at l1; rw [k2] at l2; rw [k3] at l3
  rw [<- hs] at h2
  cases hx' : rep b a (rep a b x) with
  | mk p k m bb =>
   rw [hx'] at h2 l1 l2 l3
   cases x
   dsimp only at h2 l1 l2 l3
   rw [h2, l1, l2, l3]
 ·have hm' : ¬ Ext b (rep a b x).path := fun e => hm ((h.ext hx).1 e)
  rw [rep_out h.okb (h.chk x hx) hm', rep_out h.oka ok hm]
theorem Mv.map_back (h : Mv t a b u) : (u.map (rep b a)).Perm t := by
 have h1 := h.perm.map (rep b a)
 rw [List.map_map] at h1
 have h2 : t.map (rep b a ∘ rep a b) = t := by
  conv => rhs; rw [<- List.map_id t]
  exact List.map_congr_left fun x hx => h.rr hx
 rwa [h2] at h1
theorem Mv.back (h : Mv t a b u) : Tree u /\ (∃ x ∈ u, x.path = b) /\ (∀ x ∈ u, x.path ≠ a) /\ a ≠ b /\ underB b a = false /\ parI u a = 0 /\ ∀ x ∈ u, pathOk (rep b a x).path = true := by
 refine ⟨h.tree', ?_, ?_, Ne.symm h.ne, ?_, ?_, ?_⟩
 ·obtain ⟨x, hx, e⟩ := h.here
  exact ⟨rep a b x, h.mem.2 ⟨x, hx, rfl⟩, by rw [rep_path (s := []) h.oka (h.tree.ok x hx) (by rw [e]; simp) (.inl rfl), List.append_nil]⟩
 ·intro y hy e
  obtain ⟨x, hx, rfl⟩ := h.mem.1 hy
  have h1 := h.ext hx
  by_cases hm : Ext a x.path
  ·have := h1.2 hm
   rw [e] at this
   exact h.ba this
  ·rw [rep_out h.oka (h.tree.ok x hx) hm] at e
   rw [e] at hm
   exact hm (Ext.refl a)
 ·cases hu : underB b a with
  | false => rfl
  | true =>
   obtain ⟨_, _, r, e⟩ := under_iff.1 hu
   exact absurd ⟨_, e, .inr ⟨r, rfl⟩⟩ h.ba
 ·refine (par_mem h.srt).2 ?_
  obtain ⟨x, hx, e⟩ := h.here
  have hc := h.tree.par x hx
  rw [e] at hc
  rcases hc with e | ⟨z, h1, h2, h3⟩
  ·exact .inl e
  ·right
   have hz : ¬ Ext a z.path := by
    rw [h2]
    intro he
    have := he.len
    rcases last_split a with hs | ⟨q, l, ha, hl⟩
    ·rw [cut_flat hs] at h2
     exact ok_ne (h.tree.ok z h1) h2
    ·have hk : pathOk (q ++ 47 :: l) = true := by rw [<- ha]; exact h.oka
     have hq : (cutF a).1 = q := by rw [ha]; exact cut_snoc hl hk
     rw [hq] at this
     rw [ha, List.length_append, List.length_cons] at this
     omega
   exact ⟨z, h.mem.2 ⟨z, h1, rep_out h.oka (h.tree.ok z h1) hz⟩, h2, h3⟩
 ·intro y hy
  obtain ⟨x, hx, rfl⟩ := h.mem.1 hy
  rw [h.rr hx]
  exact h.tree.ok x hx
theorem Mv.same (h : Mv t a b u) {v : List En} (hv : Mv u b a v) : v = t :=
 srt_eq hv.srt h.tree.srt (hv.perm.trans h.map_back)
theorem Mv.len (h : Mv t a b u) : u.length = t.length := by rw [h.perm.length_eq, List.length_map]
theorem Mv.under (h : Mv t a b u) : (t.filter fun x => underB a x.path).length = (u.filter fun x => underB b x.path).length := by
 rw [(h.perm.filter _).length_eq, List.filter_map, List.length_map]
 congr 1
 refine List.filter_congr fun x hx => ?_
 show underB a x.path = underB b (rep a b x).path
 have ok := h.tree.ok x hx
 have ok' := h.chk x hx
 refine Bool.eq_iff_iff.2 ?_
 rw [under_iff, under_iff]
 constructor
 ·rintro ⟨h1, h2, r, e⟩
  exact ⟨h.okb, ok', r, rep_path h.oka ok e (.inr ⟨r, rfl⟩)⟩
 ·rintro ⟨h1, h2, r, e⟩
  obtain ⟨s, hs, hk⟩ := (h.ext hx).1 ⟨_, e, .inr ⟨r, rfl⟩⟩
  rw [rep_path h.oka ok hs hk] at e
  have := List.append_cancel_left e
  exact ⟨h.oka, ok, r, by rw [hs, this]⟩
theorem Mv.get (h : Mv t a b u) : ∃ x y, getE' t a = some x /\ getE' u b = some y /\ x.kind = y.kind /\ x.mode = y.mode /\ x.bytes = y.bytes := by
 obtain ⟨x, hx, e⟩ := h.here
 have hp : (rep a b x).path = b := by rw [rep_path (s := []) h.oka (h.tree.ok x hx) (by rw [e]; simp) (.inl rfl), List.append_nil]
 have h1 := getE_of h.tree.srt hx
 have h2 := getE_of h.srt (h.mem.2 ⟨x, hx, rfl⟩)
 rw [e] at h1
 rw [hp] at h2
 obtain ⟨k1, k2, k3⟩ := rep_kind a b x
 exact ⟨x, _, h1, h2, k1.symm, k2.symm, k3.symm⟩
end
end Go.Proofs.YthjlhgjnjhmfbaaGreatDoor
namespace Go.Proofs.YthjlhgjnjhmfbaaGreatDoor
open Go Go.Am Go.Pm
def enLong (x : En) : Bool := decide ((x.path.length : Int) > 100) || decide ((x.bytes.length : Int) > 1200)
def anyE : Nat -> List En -> Bool
 | 0, _ => false
 | _ + 1, [] => false
 | n + 1, x :: r => enLong x || anyE n r
def longEns (l : List En) : Bool := anyE 61 l || decide ((l.length : Int) > 60)
theorem anyE_not : ∀ (n : Nat) (l : List En), anyE n l = false -> l.length <= n -> ∀ x ∈ l, enLong x = false
 | _, [], _, _, x, h => by cases h
 | 0, _ :: _, _, h, _, _ => by simp at h
 | n + 1, y :: r, h, hl, x, hx => by
  unfold anyE at h
  rw [Bool.or_eq_false_iff] at h
  rcases List.mem_cons.1 hx with rfl | hx
  ·exact h.1
  ·exact anyE_not n r h.2 (by simpa using hl) x hx
theorem not_longE {l : List En} (h : longEns l = false) : l.length <= 60 /\ ∀ x ∈ l, x.path.length <= 100 /\ x.bytes.length <= 1200 := by
 unfold longEns at h
 rw [Bool.or_eq_false_iff] at h
 have h1 := of_decide_eq_false h.2
 refine ⟨by omega, fun x hx => ?_⟩
 have := anyE_not 61 l h.1 (by omega) x hx
 unfold enLong at this
 rw [Bool.or_eq_false_iff] at this
 have h2 := of_decide_eq_false this.1
 have h3 := of_decide_eq_false this.2
 omega
theorem en_eff' {l : List En} {i : Nat} {x : En} (h : l[i]? = some x) : ptake true 3 (l.flatMap enCells) (i * 4 + 1) = some (.agg [iv x.kind, iv x.mode, encBytes x.bytes]) := sub_at (f := enCells) (fun _ => rfl) h (by decide) rfl
theorem en_path {l : List En} {i : Nat} {x : En} (h : l[i]? = some x) : (l.flatMap enCells)[i * 4]? = some (str x.path) := by have := en_cell (c := 0) h rfl; simpa using this
theorem loop5 (l : List En) (M : PMem) (k : Nat) (Q : AExit -> PSt -> Prop) (q1 : anyE 61 l = false -> ∀ tm, tget tm 0 = encEns l -> Q (.exit 0) ⟨tm, 32, k, [], M⟩)
  (q2 : anyE 61 l = true -> ∀ tm, tget tm 2 = bv true -> Q .ret ⟨tm, 32, k, [], M⟩) :
  ∀ d i tm, 61 - i = d -> i <= 61 -> i <= l.length -> anyE 61 l = anyE d (l.drop i) -> tget tm 0 = encEns l -> tget tm 3 = iv i -> RXL env Tryz.prog none c6_13 ⟨tm, 32, k, [], M⟩ Q := by
 intro d
 induction d with
 | zero =>
  intro i tm hd hi hl hp t0 t3
  have h0 : tget tm 0 = .lst .no 4 l.length (l.flatMap enCells) := t0
  have him : ¬ ((i : Int) < 61) := by omega
  refine RXL.round (RX.of env_ok ?_)
  by_cases hlt : (i : Int) < l.length
  ·simp only [G0, Z1, Z2, Z3, Z4, Z5, h0, t3, hlt, him, decide_true, decide_false]
   exact q1 (by rw [hp]; rfl) _ t0
  ·simp only [G0, Z1, Z2, Z3, Z4, Z5, h0, t3, hlt, him, decide_true, decide_false]
   exact q1 (by rw [hp]; rfl) _ t0
 | succ d ih =>
  intro i tm hd hi hl hp t0 t3
  have h0 : tget tm 0 = .lst .no 4 l.length (l.flatMap enCells) := t0
  have him : (i : Int) < 61 := by omega
  by_cases hlt : i < l.length
  ·have hii : (i : Int) < l.length := by omega
   obtain ⟨x, hx, hdx⟩ := getE hlt
   have cp := en_path hx
   have ce := en_eff' hx
   have hw : IntKind.i64.wrap ((i : Int) + 1) = ((i + 1 : Nat) : Int) := by rw [wrap64_id (by omega) (by omega)]; rfl
   rw [hdx] at hp
   refine RXL.round (RX.of env_ok ?_)
   simp only [G0, Z1, Z2, Z3, Z4, Z5, h0, t3, him, hii, hlt, decide_true, cp, ce]
   refine cg0F (fun h => by simp only [h, Bool.not_false, cnd_t]; exact long_effect _ _ _) (by decide) ?_
   simp only [G0, Z1, Z2, Z3, Z4, Z5, h0, t3, him, hii, hlt, decide_true, cp, ce]
   refine cW_s (fun hb => ?_) (fun hb => ?_)
   ·simp only [G0, Z1, Z2, Z3, Z4, Z5]
    refine q2 ?_ _ rfl
    have : enLong x = true := hb
    rw [hp, anyE, this]; rfl
   ·simp only [G0, Z1, Z2, Z3, Z4, Z5, t3, hw]
    have : enLong x = false := hb
    refine ih (i + 1) _ (by omega) (by omega) (by omega) ?_ t0 rfl
    rw [hp, anyE, this]; rfl
  ·have hii : ¬ ((i : Int) < l.length) := by omega
   refine RXL.round (RX.of env_ok ?_)
   simp only [G0, Z1, Z2, Z3, Z4, Z5, h0, t3, hii, decide_false]
   exact q1 (by rw [hp, List.drop_of_length_le (by omega)]; rfl) _ t0
theorem long5 (l : List En) : PTp env Tryz.prog 6 [encEns l] (bv (longEns l)) := fun M => by
 refine PT.enterR env_ok fn6 (by simp) comp6 fun k hk hf => RX.of env_ok ?_
 simp only [G0, Z1, Z2, Z3, Z4, Z5, argsP]
 refine RX.loop (loop5 l M k _ (fun h tm t0 => ?_) (fun h tm t2 => ?_) 61 0 _ rfl (Nat.zero_le _) (Nat.zero_le _) rfl rfl rfl)
 ·have h0 : tget tm 0 = .lst .no 4 l.length (l.flatMap enCells) := t0
  simp only [G0, Z1, Z2, Z3, Z4, Z5, h0]
  exact end1 hf rfl ⟨by unfold longEns; rw [h]; rfl, rfl⟩
 ·simp only [G0, Z1, Z2, Z3, Z4, Z5]
  exact end1 hf t2 ⟨by unfold longEns; rw [h]; rfl, rfl⟩
theorem loop13 (l : List En) (hl : l.length <= 1000000) (M : PMem) (k : Nat) (Q : AExit -> PSt -> Prop) (q : ∀ tm, Q (.exit 0) ⟨tm, 42, k, [], M⟩) :
  ∀ d i tm, l.length - i = d -> i <= l.length -> tget tm 0 = encEns l -> tget tm 1 = encEns l -> tget tm 5 = iv i -> RXL env Tryz.prog none c11_18 ⟨tm, 42, k, [], M⟩ Q := by
 intro d
 induction d with
 | zero =>
  intro i tm hd hi t0 t1 t5
  have : i = l.length := by omega
  subst this
  have h0 : tget tm 0 = .lst .no 4 l.length (l.flatMap enCells) := t0
  refine RXL.round (RX.of env_ok ?_)
  simp only [G0, Z1, Z2, Z3, Z4, Z5, h0, t5, Int.lt_irrefl, decide_false]
  exact q _
 | succ d ih =>
  intro i tm hd hi t0 t1 t5
  have h0 : tget tm 0 = .lst .no 4 l.length (l.flatMap enCells) := t0
  have h1 : tget tm 1 = .lst .no 4 l.length (l.flatMap enCells) := t1
  have hi' : i < l.length := by omega
  obtain ⟨x, hx, hdx⟩ := getE hi'
  have hii : (i : Int) < l.length := by omega
  have cp := en_path hx
  have ce := en_eff' hx
  have hw : IntKind.i64.wrap ((i : Int) + 1) = ((i + 1 : Nat) : Int) := by rw [wrap64_id (by omega) (by omega)]; rfl
  refine RXL.round (RX.of env_ok ?_)
  simp only [G0, Z1, Z2, Z3, Z4, Z5, h0, h1, t5, hii, decide_true, hi', cp, ce, str_neq, beq_self_eq_true, Bool.not_true, e_CGD]
  refine cp0 (same_effect _ _ _ _ _ _) (by decide) ?_
  simp only [G0, Z1, Z2, Z3, Z4, Z5, t5, hw, beq_self_eq_true, Bool.and_self, Bool.not_true, Bool.or_self]
  exact ih (i + 1) _ (by omega) (by omega) t0 t1 rfl
theorem same13 (l : List En) (hl : l.length <= 1000000) : PTp env Tryz.prog 11 [encEns l, encEns l] (bv true) := fun M => by
 refine PT.enterR env_ok fn11 (by simp) comp11 fun k hk hf => RX.of env_ok ?_
 have hlen : lenL (encEns l) = some (iv (l.length : Nat)) := rfl
 simp only [G0, Z1, Z2, Z3, Z4, Z5, argsP, hlen, bne_self_eq_false]
 refine RX.loop (loop13 l hl M k _ (fun tm => ?_) l.length 0 _ rfl (Nat.zero_le _) rfl rfl rfl)
 simp only [G0, Z1, Z2, Z3, Z4, Z5]
 exact end1 hf rfl ⟨rfl, rfl⟩
end Go.Proofs.YthjlhgjnjhmfbaaGreatDoor
namespace Go.Proofs.YthjlhgjnjhmfbaaGreatDoor
open Go Go.Am Go.Pm
def hasP (s p : List UInt8) : Bool := s.take p.length == p
theorem has61 (s p : List UInt8) (hl : s.length <= 1000000) (hp : p.length <= 1000000) : PTp env Tryz.prog 61 [str s, str p] (bv (hasP s p)) := fun M => by
 refine PT.enterR env_ok fn61 (by simp) comp61 fun k hk hf => RX.of env_ok ?_
 by_cases h : p.length <= s.length
 ·have hge : (s.length : Int) >= (p.length : Int) := by omega
  have hto : sliceS (str s) none (some (iv p.length)) = some (str (s.take p.length)) := str_to (by omega)
  simp only [G0, Z1, Z2, Z3, Z4, Z5, argsP, hge, decide_true, hto, str_eql]
  exact end1 hf rfl ⟨rfl, rfl⟩
 ·have hge : ¬ ((s.length : Int) >= (p.length : Int)) := by omega
  have hb : hasP s p = false := by
   unfold hasP
   cases hc : (s.take p.length == p) with
   | false => rfl
   | true =>
    have := congrArg List.length (eq_of_beq hc)
    rw [List.length_take] at this
    omega
  rw [hb]
  simp only [G0, Z1, Z2, Z3, Z4, Z5, argsP, hge, decide_false]
  exact end1 hf rfl ⟨rfl, rfl⟩
theorem has42 (s p : List UInt8) (hl : s.length <= 1000000) (hp : p.length <= 1000000) : PTp env Tryz.prog 42 [str s, str p] (bv (hasP s p)) := fun M => by
 refine PT.enterR env_ok fn42 (by simp) comp42 fun k hk hf => RX.of env_ok ?_
 simp only [G0, Z1, Z2, Z3, Z4, Z5, argsP]
 refine cp0 (has61 s p hl hp) (by decide) ?_
 simp only [G0, Z1, Z2, Z3, Z4, Z5]
 exact end1 hf rfl ⟨rfl, rfl⟩
theorem has_len {s p : List UInt8} (h : hasP s p = true) : p.length <= s.length := by
 have := congrArg List.length (eq_of_beq h)
 rw [List.length_take] at this
 omega
theorem cutp60 (s p : List UInt8) (hl : s.length <= 1000000) (hp : p.length <= 1000000) : PTp env Tryz.prog 60 [str s, str p] (.tup [str (if hasP s p then s.drop p.length else s), bv (hasP s p)]) := fun M => by
 refine PT.enterR env_ok fn60 (by simp) comp60 fun k hk hf => RX.of env_ok ?_
 simp only [G0, Z1, Z2, Z3, Z4, Z5, argsP]
 refine cp0 (has61 s p hl hp) (by decide) ?_
 cases hb : hasP s p with
 | true =>
  have h := has_len hb
  have hfr : sliceS (str s) (some (iv p.length)) none = some (str (s.drop p.length)) := str_from (by omega)
  simp only [G0, Z1, Z2, Z3, Z4, Z5, Bool.not_true, hfr]
  exact end2 hf rfl rfl ⟨rfl, rfl⟩
 | false =>
  simp only [G0, Z1, Z2, Z3, Z4, Z5, Bool.not_false]
  exact end2 hf rfl rfl ⟨rfl, rfl⟩
theorem cutp41 (s p : List UInt8) (hl : s.length <= 1000000) (hp : p.length <= 1000000) : PTp env Tryz.prog 41 [str s, str p] (.tup [str (if hasP s p then s.drop p.length else s), bv (hasP s p)]) := fun M => by
 refine PT.enterR env_ok fn41 (by simp) comp41 fun k hk hf => RX.of env_ok ?_
 simp only [G0, Z1, Z2, Z3, Z4, Z5, argsP]
 refine cp0 (cutp60 s p hl hp) (by decide) ?_
 simp only [G0, Z1, Z2, Z3, Z4, Z5]
 exact end2 hf rfl rfl ⟨rfl, rfl⟩
theorem pre_has (a b : List UInt8) : preSl a b = (hasP b a && hasP (b.drop a.length) [47]) := by
 unfold preSl hasP
 congr 1
 cases b.drop a.length with
 | nil => rfl
 | cons c r =>
  show (c == 47) = ((c :: r).take 1 == [47])
  rw [Bool.eq_iff_iff]
  simp
theorem under17 (a b : List UInt8) (ha : a.length <= 1000000) (hb : b.length <= 1000000) : PTp env Tryz.prog 17 [str a, str b] (bv (underB a b)) := fun M => by
 refine PT.enterR env_ok fn17 (by simp) comp17 fun k hk hf => RX.of env_ok ?_
 have hs : PV.v (.string ⟨#[47]⟩) = str [47] := rfl
 simp only [G0, Z1, Z2, Z3, Z4, Z5, argsP]
 refine cp0 (path_check a ha) (by decide) ?_
 unfold underB
 cases hpa : pathOk a with
 | false =>
  simp only [G0, Z1, Z2, Z3, Z4, Z5, ne_err, Bool.not_false, Bool.not_true, cnd_t, cnd_f]
  exact end1 hf rfl ⟨rfl, rfl⟩
 | true =>
  simp only [G0, Z1, Z2, Z3, Z4, Z5, ne_err, Bool.not_false, Bool.not_true, cnd_t, cnd_f]
  refine cp0 (path_check b hb) (by decide) ?_
  cases hpb : pathOk b with
  | false =>
   simp only [G0, Z1, Z2, Z3, Z4, Z5, ne_err, Bool.not_false, Bool.not_true, cnd_t, cnd_f]
   exact end1 hf rfl ⟨rfl, rfl⟩
  | true =>
   simp only [G0, Z1, Z2, Z3, Z4, Z5, ne_err, Bool.not_false, Bool.not_true, cnd_t, cnd_f]
   refine cp0 (cutp41 b a hb ha) (by decide) ?_
   rw [pre_has]
   cases hh : hasP b a with
   | false =>
    simp only [G0, Z1, Z2, Z3, Z4, Z5]
    exact end1 hf rfl ⟨rfl, rfl⟩
   | true =>
    simp only [G0, Z1, Z2, Z3, Z4, Z5, hs]
    refine cp0 (has42 (b.drop a.length) [47] (by rw [List.length_drop]; omega) (by decide)) (by decide) ?_
    simp only [G0, Z1, Z2, Z3, Z4, Z5]
    exact end1 hf rfl ⟨rfl, rfl⟩
def effE : Option En -> PV
 | some x => .agg [iv x.kind, iv x.mode, encBytes x.bytes]
 | none => .agg [iv 0, iv 0, encBytes []]
theorem hstF (a b : Int) (c : List UInt8) : storeO 3 0 (.agg [iv a, iv b, encBytes c]) (some (.row .rw 0 [.v (.int .i64 0), .v (.int .i64 0), .lst .full 0 0 []])) = some (.row .rw 0 [iv a, iv b, encBytes c]) := storeO_eq (n := 3) ⟨rfl, Nat.le_refl 3, rfl⟩
theorem hstZ : storeO 3 0 (.agg [.v (.int .i64 0), .v (.int .i64 0), .lst .full 0 0 []]) (some (.row .rw 0 [.v (.int .i64 0), .v (.int .i64 0), .lst .full 0 0 []])) = some (.row .rw 0 [.v (.int .i64 0), .v (.int .i64 0), .lst .full 0 0 []]) := storeO_eq (n := 3) ⟨rfl, Nat.le_refl 3, rfl⟩
theorem get8 (t : List En) (ht : t.length <= 1000000) (hb : ∀ x ∈ t, x.bytes.length <= 1000000) (p : List UInt8) : PTp env Tryz.prog 8 [encEns t, str p] (.tup [effE (getE' t p), bv (getE' t p).isSome]) := PTp.of fun M => by
 refine PT.enterR env_ok fn8 (by simp) comp8 fun k hk hf => RX.of env_ok ?_
 simp only [G0, Z1, Z2, Z3, Z4, Z5, argsP]
 refine cp0 (find40 t ht p) (by decide) ?_
 rcases fnd_find t p with ⟨h1, h2⟩ | ⟨x, j, h1, h2, h3⟩
 ·have hz := hstZ
  have hg : ¬ ((-1 : Int) >= 0) := by decide
  rw [h1, h2]
  simp only [G0, Z1, Z2, Z3, Z4, Z5, hg, decide_false, Bool.not_false, hz]
  refine endc2 (ag := true) (n := 3) (v := .agg [.v (.int .i64 0), .v (.int .i64 0), .lst .full 0 0 []]) (w := bv false) hf (by kernel_rfl) ?_ rfl ⟨?_, rfl⟩
  ·simp only [G0, Z1, Z2, Z3, Z4, Z5]
  ·exact .tup (.cons (.agg (.cons (.refl _) (.cons (.refl _) (.cons (PLe.nil_no _ _ _ rfl) .nil)))) (.cons (.refl _) .nil))
 ·have hg : ((j : Nat) : Int) >= 0 := by omega
  have hj := lt_get h3
  have hlx := en_load h3
  rw [h1, h2]
  simp only [G0, Z1, Z2, Z3, Z4, Z5, hg, decide_true, Bool.not_true, encEns, hj, hlx]
  refine cp0 (own42 x (hb x (List.mem_of_getElem? h3))) (by decide) ?_
  have hst : storeO 3 0 (.agg (List.take 3 (List.drop 1 (enCells x)))) (some (.row .rw 0 [.v (.int .i64 0), .v (.int .i64 0), .lst .full 0 0 []])) = some (.row .rw 0 [iv x.kind, iv x.mode, encBytes x.bytes]) := hstF x.kind x.mode x.bytes
  simp only [G0, Z1, Z2, Z3, Z4, Z5, encEn, hst]
  refine endc2 (ag := true) (n := 3) (v := .agg [iv x.kind, iv x.mode, encBytes x.bytes]) (w := bv true) hf (by kernel_rfl) ?_ rfl ⟨?_, rfl⟩
  ·simp only [G0, Z1, Z2, Z3, Z4, Z5]
  ·exact .refl _
end Go.Proofs.YthjlhgjnjhmfbaaGreatDoor
namespace Go.Pm
open Go.RowKit Go.Am
def innM (nt k : Nat) (os : List Obj) (Q : AExit -> PSt -> Prop) : AExit -> PSt -> Prop := fun e s1 => ∃ M1, MLe s1.mem (seg M1 k os) /\ Q e ⟨s1.tm, nt, k, os, M1⟩
section
variable {E : Env} {P : Program} {rd : Option (Nat × Nat)} {Q : AExit -> PSt -> Prop} {a : RC} {tm : List (Nat × PV)} {nt k : Nat} {os : List Obj} {M : PMem}
theorem RX.innM (h : ∀ k', k' ≠ k -> 0 < k' -> fresh (seg M k os) k' -> RX E P rd a ⟨tm, nt, k', [], seg M k os⟩ (Pm.innM nt k os Q)) : RX E P rd a ⟨tm, nt, k, os, M⟩ Q :=
 RX.push fun k' h1 h2 h3 => by
  have hfr : fresh (seg M k os) k' := fresh_mem (s := ⟨tm, nt, k, os, M⟩) h3 h1
  refine (h k' h1 h2 hfr).conseq fun e s1 hk hn hq => ?_
  obtain ⟨M1, e1, e2⟩ := hq
  have hn' : s1.nt = nt := hn
  exact ⟨s1, SLe.refl _, os, M1, rfl, e1, by rw [hn']; exact e2⟩
theorem RXL.innM (h : ∀ k', k' ≠ k -> 0 < k' -> fresh (seg M k os) k' -> RX E P rd a ⟨tm, nt, k', [], seg M k os⟩ (Pm.innM nt k os (thenRL E P rd a Q))) : RXL E P rd a ⟨tm, nt, k, os, M⟩ Q :=
 RXL.round (RX.innM h)
end
end Go.Pm
namespace Go.Pm
open Go.RowKit Go.Am
section
variable {E : Env} {P : Program} {cx : Cx} {s : PSt} {sA : St} {M : PMem}
theorem PTk.lift {F : Nat} {args : List PV} {Q : Nat -> PV -> PMem -> Prop}
  (h : ∀ cx k0 sA vargs, fresh M k0 -> PS E cx ⟨[], 0, k0, [], M⟩ sA -> PRs cx args vargs -> ∃ v m' cx' x s', CanT E P (.call F vargs) sA.m v m' /\ PR cx' x v /\ Ext (some k0) cx cx' /\ PS E cx' s' { sA with m := m' } /\ Q k0 x s'.mem) :
  PTk E P F args M Q := fun cx m vargs hg ha => by
 obtain ⟨v, m', cx', x, s', h1, h2, h3, h4, h5⟩ := h cx.key cx.nk ⟨.nil, 0, [], m⟩ vargs (hg.bare (Nat.le_refl _)) hg.start (ha.mono (CxLe.key cx))
 refine ⟨v, m', cx', x, s'.mem, h1, h4.pg, ⟨(CxLe.key cx).trans h3.le, fun k i hk _ => ?_⟩, h2, h5⟩
 have hn := h3.names k i (by show k < cx.nk + 1; omega) (by simp; omega)
 exact hn
theorem after_store (h : PS E cx s sA) {k i r es o : Nat} {cells ws : List PV} {wv : List Value} (hM : s.look k i = some (.row .rw es cells)) (ha : cx.at_ k i = some r) (hw : PRs cx ws wv) (ho : ws.all pone = true) (hl : o + ws.length <= cells.length) :
  ∃ vs, sA.m.get r = some (.row vs .rw es none) /\ PRs cx cells vs /\ sA.m.bar <= r /\ sA.m.storeCells ⟨r, o, none⟩ wv = some (sA.m.upd r (some (.row (splice vs o wv) .rw es none))) ∧
   PS E cx (s.putO k i (.row .rw es (psplice cells o ws))) { sA with m := sA.m.upd r (some (.row (splice vs o wv) .rw es none)) } := by
 obtain ⟨r', vs, md, q, e1, e2, e3, e4, e5⟩ := h.pg.obj k i _ hM
 obtain ⟨rfl, rfl⟩ := e4 (by simp)
 have hbar := e5 rfl
 rw [ha] at e1; cases e1
 have hl1 := hw.length
 have hl2 := e3.length
 have hnb : sA.m.nb <= r := Nat.le_trans h.pg.wf.nb hbar
 have hone := allOne_sim hw ho
 obtain ⟨⟨cx', p1, p2, p3⟩, q1, q2, q3⟩ := after_upd h ha hbar hM ⟨nofun, nofun⟩ (o := .row .rw es (psplice cells o ws)) nofun (ao := .row (splice vs o wv) .rw es none) ⟨r, _, .rw, none, ha, Mem.get_upd_same hnb _, by
  rw [splice_eq _ _ _ (by omega)]
  exact psplice_sim e3 hw o, fun _ => ⟨rfl, rfl⟩, fun _ => by rw [Mem.upd_def]; exact hbar⟩ (x := .junk) (v := undefV) (.junk _)
 have hpg := h.pg.updObj (cx := cx) ha hbar hM ⟨nofun, nofun⟩ (o := .row .rw es (psplice cells o ws)) nofun (ao := some (.row (splice vs o wv) .rw es none)) ⟨r, _, .rw, none, ha, Mem.get_upd_same hnb _, by
  rw [splice_eq _ _ _ (by omega)]
  exact psplice_sim e3 hw o, fun _ => ⟨rfl, rfl⟩, fun _ => by rw [Mem.upd_def]; exact hbar⟩
 obtain ⟨e1, e2', e3', e5'⟩ := PSt.putO_tm (s := s) (k := k) (i := i) (o := .row .rw es (psplice cells o ws))
 refine ⟨vs, e2, e3, hbar, ?_, ?_⟩
 ·simp only [Mem.storeCells, e2, bleT hbar, bleT (show o + wv.length <= vs.length by omega), hone, Bool.and_self, cond_true, Mem.kill, Option.map_some]
 ·exact ⟨fun j => by rw [e1]; exact h.tm j, by rw [e2']; exact h.nt, by rw [PSt.putO_mem hM]; exact hpg, fun j hj => by rw [e3']; exact h.cur j (by rw [e5'] at hj; exact hj), by rw [e3']; exact h.low, by rw [e3']; exact h.pos, ⟨h.df.1, fun r hr => ⟨(h.df.2 r hr).1, by rw [Mem.upd_def]; exact (h.df.2 r hr).2⟩⟩⟩
theorem PRs.sizes {a : List PV} {b : List Value} (h : PRs cx a b) {n : Nat} (hn : a.length = n) : b.length = n := by rw [<- h.length]; exact hn
end
theorem mem_splice {cs vs : List PV} {o : Nat} {y : PV} (h : y ∈ psplice cs o vs) : y ∈ cs \/ y ∈ vs := by
 unfold psplice at h
 rcases List.mem_append.1 h with h | h
 ·exact .inl (List.mem_of_mem_take h)
 ·rcases List.mem_append.1 h with h | h
  ·exact .inr h
  ·exact .inl (List.mem_of_mem_drop h)
theorem NKs.mem {k : Nat} : ∀ {l : List PV}, NKs k l -> ∀ x ∈ l, NK k x
 | _, .cons h hs, x, hx => by
  rcases List.mem_cons.1 hx with rfl | hx
  ·exact h
  ·exact NKs.mem hs x hx
theorem set_in {cells v : List PV} {a b e : Nat} (hv : v.length = e) (hab : a <= b) (hb : b + e <= cells.length) :
  (psplice (psplice cells (a + e) ((cells.take b).drop a)) a v).take (b + e) = (cells.take b).take a ++ (v ++ (cells.take b).drop a) := by
 have hm : ((cells.take b).drop a).length = b - a := by rw [List.length_drop, List.length_take, Nat.min_eq_left (by omega)]
 have hA : (cells.take (a + e)).length = a + e := by rw [List.length_take, Nat.min_eq_left (by omega)]
 generalize hmid : (cells.take b).drop a = mid at hm ⊢
 unfold psplice
 rw [hm, hv]
 have h1 : (cells.take (a + e) ++ (mid ++ cells.drop (a + e + (b - a)))).take a = cells.take a := by
  rw [List.take_append_of_le_length (by rw [hA]; omega), List.take_take, Nat.min_eq_left (show a <= a + e by omega)]
 have h2 : (cells.take (a + e) ++ (mid ++ cells.drop (a + e + (b - a)))).drop (a + e) = mid ++ cells.drop (a + e + (b - a)) := by
  rw [List.drop_append_of_le_length (by rw [hA]; exact Nat.le_refl _), List.drop_of_length_le (by rw [hA]; exact Nat.le_refl _), List.nil_append]
 rw [h1, h2]
 rw [show (cells.take b).take a = cells.take a by rw [List.take_take, Nat.min_eq_left hab]]
 have e1 : cells.take a ++ (v ++ (mid ++ cells.drop (a + e + (b - a)))) = (cells.take a ++ (v ++ mid)) ++ cells.drop (a + e + (b - a)) := by simp
 rw [e1]
 exact List.take_left' (by rw [List.length_append, List.length_append, List.length_take, Nat.min_eq_left (by omega), hv, hm]; omega)
structure Ins (M : PMem) (k i n es : Nat) (out old : List PV) (nk : Nat) (x : PV) (M1 : PMem) : Prop where
 ex : ∃ a b w c cells, x = .sl a b 0 n c /\ (n <= capOf c /\ c % 2 = 1 /\ esOf c = es) /\ n * es <= cells.length /\ cells.take (n * es) = out /\ (∀ y ∈ cells, y ∈ old) ∧
  ((a = k /\ b = i /\ M1 = putM M k i (.row w es cells)) \/ (a = nk /\ b = 0 /\ fresh M nk /\ M1 = seg (putM M k i .gone) nk [.row w es cells]))
section
variable {E : Env} {P : Program} {M : PMem}
theorem PT.insert (hE : EnvOk E P) {F ts te es by_ : Nat} (I : InsFn P F ts te es by_) {x : Fun} (hf : E.fn F = some x) {yt ye : Ty} {z : List PV} (ht : E.ty ts = some yt) (hd : yt.desc = .slice te) (hye : E.ty te = some ye) (hz : pzero E te = some z) (hzd : zerosD yt.desc = some false)
  (he : ye.size = es /\ ye.bytes = by_ /\ z.length = es) {k i n L idx kv iv cv : Nat} {cells vcells : List PV} (hM : M k i = some (.row .rw es cells)) (hV : M kv iv = some (.row .rw es vcells)) (hne : ¬ (kv = k /\ iv = i))
  (hL : cells.length = L * es) (hn : n <= L) (hn0 : 0 < L) (hi : idx <= n) (hv : vcells.length = es) (ho : cells.all pone = true) (hov : vcells.all pone = true) (hes : 0 < es /\ es < 4096 /\ es ≠ 1) (hby : (2 * (n + 1) + 2000) * by_ <= 140737488355328 /\ n + 1 <= 4611686018427387904) :
  PTk E P F [.sl k i 0 n (loCap L es), .v (.int .i64 (idx : Int)), .sl kv iv 0 1 cv] M (Ins M k i (n + 1) es ((cells.take (n * es)).take (idx * es) ++ (vcells ++ (cells.take (n * es)).drop (idx * es))) (cells ++ vcells)) := by
 obtain ⟨he1, he2, he3⟩ := he
 obtain ⟨hes1, hes2, hes3⟩ := hes
 have hcap : capOf (loCap L es) = L /\ loCap L es % 2 = 1 /\ esOf (loCap L es) = es := cap_lo hes2
 have hcl : n * es <= cells.length := by rw [hL]; exact Nat.mul_le_mul_right _ hn
 have hnes : (n + 1) * es = n * es + es := by rw [Nat.add_mul, Nat.one_mul]
 refine PTk.lift fun cx k0 sA vargs hfr hs ha => ?_
 have hlk : ∀ {a b o}, M a b = some o -> (⟨[], 0, k0, [], M⟩ : PSt).look a b = some o /\ a ≠ k0 := fun {a b o} e => by
  have : a ≠ k0 := fun q => by rw [q, hfr b] at e; cases e
  exact ⟨by unfold PSt.look; rw [if_neg this]; exact e, this⟩
 obtain ⟨hlk1, hk0⟩ := hlk hM
 obtain ⟨hlk2, hkv0⟩ := hlk hV
 cases ha with
 | cons h1 ha =>
 cases ha with
 | cons h2 ha =>
 cases ha with
 | cons h3 ha =>
 cases ha
 obtain ⟨rfl, _⟩ := h2.flat_eq
 have h1' := h1
 have h3' := h3
 cases h1 with
 | sl a1 =>
 rename_i r
 cases h3 with
 | sl a3 =>
 rename_i rv
 obtain ⟨r', vs, md, q, e1, e2, e3, e4, e5⟩ := hs.pg.obj k i _ hlk1
 obtain ⟨rfl, rfl⟩ := e4 (by simp)
 have hbar := e5 rfl
 rw [a1] at e1; cases e1
 obtain ⟨r', ws, md, q, f1, f2, f3, f4, f5⟩ := hs.pg.obj kv iv _ hlk2
 obtain ⟨rfl, rfl⟩ := f4 (by simp)
 rw [a3] at f1; cases f1
 have hrr : r ≠ rv := fun e => by
  subst e
  exact hne (ob_inj (hs.pg.role hlk2 nofun nofun a3) (hs.pg.role hlk1 nofun nofun a1))
 have hlv := e3.length
 have hlw := f3.length
 have hcan : ∀ {v m'}, xInsert E ts es by_ [.slice (some ⟨r, 0, none⟩) n (loCap L es), .int .i64 (idx : Int), .slice (some ⟨rv, 0, none⟩) 1 cv] sA.m = some (v, m') →
   CanT E P (.call F [.slice (some ⟨r, 0, none⟩) n (loCap L es), .int .i64 (idx : Int), .slice (some ⟨rv, 0, none⟩) 1 cv]) sA.m v m' := fun {v m'} hx =>
  ⟨fun ι w args' hR hA => insert_ok hE I hf hx hR hA, fun hw => Keep.insert hw hx⟩
 have hps : ∀ {o : Obj}, ((⟨[], 0, k0, [], M⟩ : PSt).putO k i o) = ⟨[], 0, k0, [], putM M k i o⟩ := fun {o} => by unfold PSt.putO; rw [if_neg hk0]
 have hnil : ∀ {o : Obj}, (⟨[], 0, k0, [], putM M k i o⟩ : PSt).mem = putM M k i o := fun {o} => segNil fun j => by
  show (if k0 = k /\ j = i then some o else M k0 j) = none
  rw [if_neg (fun e => hk0 e.1.symm)]; exact hfr j
 by_cases hidx : idx = n
 ·subst hidx
  have hx0 : ∀ {r1}, appendV E sA.m ts (some ts) (.slice (some ⟨r, 0, none⟩) idx (loCap L es)) (.slice (some ⟨rv, 0, none⟩) 1 cv) = some r1 →
    xInsert E ts es by_ [.slice (some ⟨r, 0, none⟩) idx (loCap L es), .int .i64 (idx : Int), .slice (some ⟨rv, 0, none⟩) 1 cv] sA.m = some r1 := fun {r1} e => by
   unfold xInsert
   simp only [if_true]
   unfold xIns0
   simp only [if_neg (show ¬ (1 = 0) by omega), if_true]
   rw [if_pos ⟨by rw [hcap.1]; exact hn, by rfl⟩]
   exact e
  have hsrc : psourceZ E (⟨[], 0, k0, [], M⟩ : PSt) te z es (some ts) (.sl kv iv 0 1 cv) = some (vcells, 1) := by
   unfold psourceZ psource
   simp only [ht, hzd, if_neg (show ¬ (1 = 0) by omega), hlk2]
   rw [if_pos (by omega), List.drop_zero, List.take_of_length_le (by omega)]
  rw [List.drop_of_length_le (by rw [List.length_take]; omega), List.append_nil, List.take_of_length_le (l := cells.take (idx * es)) (by rw [List.length_take]; omega)]
  rcases Nat.lt_or_ge idx L with hlt | hge
  ·have hroom : (idx + 1) * es <= cells.length := by rw [hL]; exact Nat.mul_le_mul_right _ hlt
   have hp : pappendR E (⟨[], 0, k0, [], M⟩ : PSt) ts (some ts) (.sl k i 0 idx (loCap L es)) (.sl kv iv 0 1 cv) = some (.sl k i 0 (idx + 1) (loCap L es), ⟨[], 0, k0, [], putM M k i (.row .rw es (psplice cells (0 + idx * es) vcells))⟩) := by
    unfold pappendR
    simp only [ht, hd, hye, hz, he1, hsrc]
    rw [if_neg (by omega), if_pos (by rw [hcap.1]; omega)]
    simp only [hlk1]
    rw [if_pos ⟨by omega, hov⟩, hps]
   obtain ⟨v, m', g1, ⟨cx', g2, g3, g4⟩, _, _, _⟩ := pappendR_sim hE hs h1' h3' hp
   refine ⟨v, m', cx', _, _, hcan (hx0 g1), g2, g3, g4, ⟨k, i, .rw, _, _, rfl, ⟨by rw [hcap.1]; omega, hcap.2⟩, ?_, ?_, ?_, .inl ⟨rfl, rfl, hnil⟩⟩⟩
   ·rw [psplice_length (by omega)]; exact hroom
   ·rw [Nat.zero_add]
    unfold psplice
    rw [hnes, <- List.append_assoc, List.take_append_of_le_length (by simp; omega), List.take_of_length_le (by simp; omega)]
   ·intro y hy
    rcases mem_splice hy with h | h
    ·exact List.mem_append_left _ h
    ·exact List.mem_append_right _ h
  ·have hLn : L = idx := by omega
   subst hLn
   have hp : pappendR E (⟨[], 0, k0, [], M⟩ : PSt) ts (some ts) (.sl k i 0 L (loCap L es)) (.sl kv iv 0 1 cv) = some (.sl k0 0 0 (L + 1) (loCap (L + 1) es), ⟨[], 0, k0, [.row .own es (cells ++ vcells)], putM M k i .gone⟩) := by
    unfold pappendR
    simp only [ht, hd, hye, hz, he1, he2, hsrc]
    rw [if_neg (by omega), if_neg (by rw [hcap.1]; omega)]
    unfold pgrow
    rw [if_pos ⟨hcap.2.1, hcap.2.2, rfl, by omega, by omega, hby.2, hes2, he3, hov⟩]
    simp only [hlk1]
    rw [if_pos ⟨trivial, by omega, by omega⟩, hps]
    rfl
   obtain ⟨v, m', g1, ⟨cx', g2, g3, g4⟩, _, _, _⟩ := pappendR_sim hE hs h1' h3' hp
   have hc2 := cap_lo (n := L + 1) hes2
   refine ⟨v, m', cx', _, _, hcan (hx0 g1), g2, g3, g4, ⟨k0, 0, .own, _, _, rfl, ⟨by rw [hc2.1]; omega, hc2.2⟩, ?_, ?_, ?_, .inr ⟨rfl, rfl, hfr, rfl⟩⟩⟩
   ·rw [List.length_append]; omega
   ·rw [List.take_of_length_le (by rw [List.length_append]; omega), List.take_of_length_le (by omega)]
   ·exact fun y hy => hy
 ·have hlt : idx < n := by omega
  obtain ⟨vs0, s1, s2, s3, s4, s5⟩ := after_store hs hlk1 a1 (ws := []) (wv := []) (o := 0) .nil rfl (by simp)
  rw [e2] at s1; cases s1
  rw [show splice vs 0 [] = vs from overK_nil vs] at s4 s5
  rw [hps, show psplice cells 0 [] = cells by unfold psplice; simp] at s5
  have hMM : putM M k i (.row .rw es cells) = M := by
   funext a b
   unfold putM
   split
   ·rename_i hc; rw [hc.1, hc.2, hM]
   ·rfl
  rw [hMM] at s5
  have hnb : sA.m.nb <= r := Nat.le_trans hs.pg.wf.nb hbar
  have hgr2 : (sA.m.upd r (some (.row vs .rw es none))).get r = some (.row vs .rw es none) := Mem.get_upd_same hnb _
  have hgv2 : (sA.m.upd r (some (.row vs .rw es none))).get rv = some (.row ws .rw es none) := by rw [Mem.get_upd_ne hnb (Ne.symm hrr)]; exact f2
  have hbar2 : (sA.m.upd r (some (.row vs .rw es none))).bar = sA.m.bar := by rw [Mem.upd_def]
  have hall1 := allOne_sim e3 ho
  have hall2 := allOne_sim f3 hov
  have hx1 : ∀ {y}, xRoom es [.slice (some ⟨r, 0, none⟩) n (loCap L es), .int .i64 (idx : Int), .slice (some ⟨rv, 0, none⟩) 1 cv] (sA.m.upd r (some (.row vs .rw es none))) = some y →
    xInsert E ts es by_ [.slice (some ⟨r, 0, none⟩) n (loCap L es), .int .i64 (idx : Int), .slice (some ⟨rv, 0, none⟩) 1 cv] sA.m = some y := fun {y} e => by
   unfold xInsert
   simp only [if_neg (show ¬ ((idx : Int) = (n : Int)) by omega), if_neg (show ¬ (n = 0) by omega), s4, e]
  have hx1' : ∀ {y}, xRoom es [.slice (some ⟨r, 0, none⟩) n (loCap L es), .int .i64 (idx : Int), .slice (some ⟨rv, 0, none⟩) 1 cv] (sA.m.upd r (some (.row vs .rw es none))) = none →
    xIns0 E ts es by_ [.slice (some ⟨r, 0, none⟩) n (loCap L es), .int .i64 (idx : Int), .slice (some ⟨rv, 0, none⟩) 1 cv] (sA.m.upd r (some (.row vs .rw es none))) = some y →
    xInsert E ts es by_ [.slice (some ⟨r, 0, none⟩) n (loCap L es), .int .i64 (idx : Int), .slice (some ⟨rv, 0, none⟩) 1 cv] sA.m = some y := fun {y} e e2 => by
   unfold xInsert
   simp only [if_neg (show ¬ ((idx : Int) = (n : Int)) by omega), if_neg (show ¬ (n = 0) by omega), s4, e, e2]
  have htn : ((idx : Int)).toNat = idx := by omega
  have hbn : idx * es <= n * es := Nat.mul_le_mul_right _ hi
  have hinc : (idx + 1) * es = idx * es + es := by rw [Nat.add_mul, Nat.one_mul]
  have htl : ((cells.take (n * es)).drop (idx * es)).length = n * es - idx * es := by simp; omega
  rcases Nat.lt_or_ge n L with hroom | hfull
  ·have hrm : (n + 1) * es <= cells.length := by rw [hL]; exact Nat.mul_le_mul_right _ hroom
   have hlk1' : (⟨[], 0, k0, [], M⟩ : PSt).look k i = some (.row .rw es cells) := hlk1
   have hws1 : PRs cx ((cells.take (n * es)).drop (idx * es)) (((vs.drop 0).take (n * es)).drop (idx * es)) := by rw [List.drop_zero]; exact (e3.take _).drop _
   have hall3 : ((cells.take (n * es)).drop (idx * es)).all pone = true := by
    rw [List.all_eq_true] at ho ⊢
    exact fun x hx => ho x (List.mem_of_mem_take (List.mem_of_mem_drop hx))
   obtain ⟨vs1, u1, u2, u3, u4, u5⟩ := after_store s5 hlk1' a1 (o := 0 + (idx + 1) * es) hws1 hall3 (by omega)
   rw [hgr2] at u1
   simp only [Option.some.injEq, AObj.row.injEq] at u1
   obtain ⟨rfl, -⟩ := u1
   rw [hps] at u5
   have hlk3 : (⟨[], 0, k0, [], putM M k i (.row .rw es (psplice cells (0 + (idx + 1) * es) ((cells.take (n * es)).drop (idx * es))))⟩ : PSt).look k i = some (.row .rw es (psplice cells (0 + (idx + 1) * es) ((cells.take (n * es)).drop (idx * es)))) := by
    unfold PSt.look; rw [if_neg hk0]; exact putM_same _ _ _ _
   obtain ⟨vs2, y1, y2, y3, y4, y5⟩ := after_store u5 hlk3 a1 (o := 0 + idx * es) f3 hov (by rw [psplice_length (by omega)]; omega)
   have hps2 : ∀ {o1 o : Obj}, ((⟨[], 0, k0, [], putM M k i o1⟩ : PSt).putO k i o) = ⟨[], 0, k0, [], putM M k i o⟩ := fun {o1 o} => by unfold PSt.putO; rw [if_neg hk0]; simp only [putM_put]
   rw [hps2] at y5
   have hrm2 : xRoom es [.slice (some ⟨r, 0, none⟩) n (loCap L es), .int .i64 (idx : Int), .slice (some ⟨rv, 0, none⟩) 1 cv] (sA.m.upd r (some (.row vs .rw es none))) =
     some (.slice (some ⟨r, 0, none⟩) (n + 1) (loCap L es), ((sA.m.upd r (some (.row vs .rw es none))).upd r (some (.row (splice vs (0 + (idx + 1) * es) (((vs.drop 0).take (n * es)).drop (idx * es))) .rw es none))).upd r (some (.row (splice vs2 (0 + idx * es) ws) .rw es none))) := by
    unfold xRoom
    simp only [hgr2, hgv2, htn]
    rw [if_pos ⟨⟨trivial, by omega, hlt, by omega⟩, ⟨by omega, hrr, by rw [hcap.1]; omega, hby.2⟩, ⟨trivial, hes3, hes1, by omega⟩, hall1, hall2⟩]
    simp only [u4, y4, Option.map_some]
   have hroomX := hx1 hrm2
   refine ⟨_, _, cx, _, _, hcan hroomX, .sl a1, Ext.refl _ _, y5, ⟨k, i, .rw, _, _, rfl, ⟨by rw [hcap.1]; omega, hcap.2⟩, ?_, ?_, ?_, .inl ⟨rfl, rfl, hnil⟩⟩⟩
   ·rw [psplice_length (by rw [psplice_length (by omega)]; omega), psplice_length (by omega)]; exact hrm
   ·rw [Nat.zero_add, Nat.zero_add, hinc, hnes]
    exact set_in hv hbn (by omega)
   ·intro y hy
    rcases mem_splice hy with h | h
    ·rcases mem_splice h with h | h
     ·exact List.mem_append_left _ h
     ·exact List.mem_append_left _ (List.mem_of_mem_take (List.mem_of_mem_drop h))
    ·exact List.mem_append_right _ h
  ·have hLn : L = n := by omega
   subst hLn
   have hrm0 : xRoom es [.slice (some ⟨r, 0, none⟩) L (loCap L es), .int .i64 (idx : Int), .slice (some ⟨rv, 0, none⟩) 1 cv] (sA.m.upd r (some (.row vs .rw es none))) = none := by
    unfold xRoom
    simp only [hgr2, hgv2]
    rw [if_neg (by rintro ⟨_, ⟨_, _, h, _⟩, _⟩; rw [hcap.1] at h; omega)]
   have hszm : (sA.m.upd r (some (.row vs .rw es none))).size = ((sA.m.upd r (some (.row vs .rw es none))).upd r none).size := by simp only [Mem.upd_def]
   have hct : cells.take (L * es) = cells := List.take_of_length_le (by omega)
   have hx3 : xIns0 E ts es by_ [.slice (some ⟨r, 0, none⟩) L (loCap L es), .int .i64 (idx : Int), .slice (some ⟨rv, 0, none⟩) 1 cv] (sA.m.upd r (some (.row vs .rw es none))) =
     some (.slice (some (addr (sA.m.upd r (some (.row vs .rw es none))).size 0)) (L + 1) (loCap (L + 1) es), ((sA.m.upd r (some (.row vs .rw es none))).upd r none).new (.row (vs.take (idx * es) ++ (ws ++ vs.drop (idx * es))) .rw es none)) := by
    unfold xIns0
    simp only [if_neg (show ¬ (1 = 0) by omega), if_neg (show ¬ ((idx : Int) = (L : Int)) by omega), hgr2, hgv2, htn]
    rw [if_pos ⟨⟨trivial, trivial, by omega, hlt⟩, ⟨by omega, by omega, hrr, by rw [hbar2]; exact hbar⟩, ⟨trivial, trivial, trivial, by have := hby.1; exact Nat.le_trans (Nat.mul_le_mul_right by_ (by omega)) this, hby.2⟩, ⟨hes2, hes3, hes1⟩, hall1, hall2⟩]
   rw [hszm] at hx3
   have hx2 := hx1' hrm0 hx3
   have hd1 := after_drop s5 hlk1 a1 (by show (sA.m.upd r _).bar <= r; rw [hbar2]; exact hbar)
   rw [hps] at hd1
   have hrw : PRs cx (cells.take (idx * es) ++ (vcells ++ cells.drop (idx * es))) (vs.take (idx * es) ++ (ws ++ vs.drop (idx * es))) := (e3.take _).append (f3.append (e3.drop _))
   have hcur := (hd1.cur 0 (Nat.le_refl _)).1
   obtain ⟨⟨cx', g2, g3, g4⟩, _, _, _⟩ := after_new hd1 (o := .row .rw es (cells.take (idx * es) ++ (vcells ++ cells.drop (idx * es)))) nofun nofun (new_row_OG (es := es) hd1.pg hcur hrw) (x := .sl k0 0 0 (L + 1) (loCap (L + 1) es)) (v := .slice (some ⟨((sA.m.upd r (some (.row vs .rw es none))).upd r none).size, 0, none⟩) (L + 1) (loCap (L + 1) es)) (.sl (by simp [Cx.bind]))
   have hc2 := cap_lo (n := L + 1) hes2
   refine ⟨_, _, cx', _, _, hcan hx2, g2, g3, g4, ⟨k0, 0, .rw, _, _, rfl, ⟨by rw [hc2.1]; omega, hc2.2⟩, ?_, ?_, ?_, .inr ⟨rfl, rfl, hfr, rfl⟩⟩⟩
   ·simp only [List.length_append, List.length_take, List.length_drop]; omega
   ·rw [hct, List.take_of_length_le (by simp only [List.length_append, List.length_take, List.length_drop]; omega)]
   ·intro y hy
    rcases List.mem_append.1 hy with h | h
    ·exact List.mem_append_left _ (List.mem_of_mem_take h)
    ·rcases List.mem_append.1 h with h | h
     ·exact List.mem_append_right _ h
     ·exact List.mem_append_left _ (List.mem_of_mem_drop h)
end
end Go.Pm
namespace Go.Proofs.YthjlhgjnjhmfbaaGreatDoor
open Go Go.Am Go.Pm
theorem ia_sl {k i o n c sz m : Nat} {kk : IntKind} (h : m < n) : iaddrS sz (.sl k i o n c) (.v (.int kk (m : Int))) = some (.ptr k i (o + m * sz)) := by
 unfold iaddrS
 simp only [pnat_int, if_pos h]
theorem ln_sl {k i o n c : Nat} : lenL (.sl k i o n c) = some (iv n) := rfl
section
variable {α : Type} {f : α -> List PV} {sz : Nat}
theorem fl_len (hf : ∀ x, (f x).length = sz) (l : List α) : (l.flatMap f).length = l.length * sz := flatMap_len (f := f) (n := sz) hf l
inductive VsV (f : α -> List PV) (sz : Nat) (M : PMem) : PV -> List α -> Prop where
 | lst (t : Tok) (l : List α) : VsV f sz M (.lst t sz l.length (l.flatMap f)) l
 | nil (t : Tok) (e : Nat) : VsV f sz M (.lst t e 0 []) []
 | row {k i c : Nat} {w : Wm} {l : List α} {rest : List PV} (hM : M k i = some (.row w sz (l.flatMap f ++ rest))) : VsV f sz M (.sl k i 0 l.length c) l
theorem VsV.sub {M M' : PMem} {v : PV} {l : List α} (h : VsV f sz M v l) (hs : Pm.Sub M M') : VsV f sz M' v l := by
 cases h with
 | lst t l => exact .lst t l
 | nil t e => exact .nil t e
 | row hM => exact .row (hs _ _ _ hM)
theorem VsV.len {M : PMem} {v : PV} {l : List α} (h : VsV f sz M v l) : lenL v = some (iv (l.length : Nat)) := by
 cases h <;> rfl
theorem vs_pre (hf : ∀ x, (f x).length = sz) {l : List α} {rest : List PV} {i : Nat} {x : α} (h : l[i]? = some x) : ptake true sz (l.flatMap f ++ rest) (i * sz) = some (.agg (f x)) := by
 have h1 := load_at (f := f) (n := sz) hf h
 have hi : i < l.length := (List.getElem?_eq_some_iff.1 h).1
 have hl := fl_len hf l
 have hm : i * sz + sz <= l.length * sz := by
  have : (i + 1) * sz <= l.length * sz := Nat.mul_le_mul_right _ hi
  rw [Nat.succ_mul] at this; exact this
 have h1' : (if i * sz + sz <= (l.flatMap f).length then some (PV.agg (List.take sz (List.drop (i * sz) (l.flatMap f)))) else none) = some (.agg (f x)) := h1
 rw [if_pos (by omega)] at h1'
 show (if i * sz + sz <= (l.flatMap f ++ rest).length then some (PV.agg (List.take sz (List.drop (i * sz) (l.flatMap f ++ rest)))) else none) = some (.agg (f x))
 rw [if_pos (by rw [List.length_append]; omega), <- h1', List.drop_append_of_le_length (by omega), List.take_append_of_le_length (by rw [List.length_drop]; omega)]
theorem VsV.at (hf' : ∀ x, (f x).length = sz) {M : PMem} {v : PV} {l : List α} (h : VsV f sz M v l) {i : Nat} {x : α} (hx : l[i]? = some x) {k : Nat} (hf : fresh M k) :
  ∃ p, (∀ kk : IntKind, iaddrS sz v (.v (.int kk (i : Int))) = some p) /\ ∀ os, loadP k os M true sz p = some (.agg (f x)) := by
 have hi : i < l.length := (List.getElem?_eq_some_iff.1 hx).1
 cases h with
 | lst t l => exact ⟨.dp (l.flatMap f) (i * sz), fun kk => iaddrS_lst hi, fun os => load_at (f := f) (n := sz) hf' hx⟩
 | nil t e => simp at hx
 | @row a b c w l rest hM =>
  refine ⟨.ptr a b (0 + i * sz), fun kk => ia_sl hi, fun os => ?_⟩
  rw [loadP_out (fresh_ne hf hM), hM, Nat.zero_add]
  exact vs_pre hf' hx
theorem set_vs (hf : ∀ x, (f x).length = sz) : ∀ (R : List α) (i : Nat) (v : α), i < R.length -> psplice (R.flatMap f) (i * sz) (f v) = (R.set i v).flatMap f
 | [], i, v, h => by simp at h
 | x :: R, 0, v, _ => by
  unfold psplice
  rw [Nat.zero_mul, List.take_zero, List.nil_append, List.set_cons_zero, List.flatMap_cons, List.flatMap_cons, Nat.zero_add, List.drop_append, List.drop_of_length_le (by rw [hf, hf]; omega), hf, hf, Nat.sub_self, List.drop_zero, List.nil_append]
 | x :: R, i + 1, v, h => by
  have ih := set_vs hf R i v (by simpa using h)
  unfold psplice at ih ⊢
  have e : (i + 1) * sz = sz + i * sz := by rw [Nat.succ_mul]; omega
  rw [List.set_cons_succ, List.flatMap_cons, List.flatMap_cons, <- ih, e]
  have e1 : (f x ++ R.flatMap f).take (sz + i * sz) = f x ++ (R.flatMap f).take (i * sz) := by
   rw [List.take_append, List.take_of_length_le (by rw [hf]; omega), hf]; congr 2; omega
  have e2 : (f x ++ R.flatMap f).drop (sz + i * sz + (f v).length) = (R.flatMap f).drop (i * sz + (f v).length) := by
   rw [List.drop_append, List.drop_of_length_le (by rw [hf, hf]; omega), hf, hf, List.nil_append]; congr 1; omega
  rw [e1, e2, List.append_assoc]
def rowV (w : Wm) (f : α -> List PV) (sz : Nat) (R : List α) : Pm.Obj := .row w sz (R.flatMap f)
theorem rt_rowV {w : Wm} {ag : Bool} {n o : Nat} {R : List α} : rowTake ag n o (some (rowV w f sz R)) = ptake ag n (R.flatMap f) o := rfl
def keepV (p : α -> Bool) (l : List α) : List α := l.filter fun x => !p x
structure DlV (p : α -> Bool) (l R : List α) (i j : Nat) : Prop where
 len : R.length = l.length
 lt : i < j
 le : j <= l.length
 keep : R.take i = keepV p (l.take j)
 rest : R.drop j = l.drop j
section
variable {p : α -> Bool} {l R : List α} {i j : Nat}
theorem lt_getV {l : List α} {j : Nat} {v : α} (hv : l[j]? = some v) : j < l.length := (List.getElem?_eq_some_iff.1 hv).1
theorem take_snocV {l : List α} {j : Nat} {v : α} (hv : l[j]? = some v) : l.take (j + 1) = l.take j ++ [v] := by rw [List.take_add_one, hv]; rfl
theorem DlV.get (h : DlV p l R i j) {v : α} (hv : l[j]? = some v) : R[j]? = some v := by
 have h1 : (R.drop j)[0]? = (l.drop j)[0]? := by rw [h.rest]
 rw [List.getElem?_drop, List.getElem?_drop, Nat.add_zero] at h1
 rw [h1]; exact hv
theorem DlV.out (h : DlV p l R i j) {v : α} (hv : l[j]? = some v) (hp : p v = true) : DlV p l R i (j + 1) := by
 have hj := lt_getV hv
 have hl := h.lt
 refine ⟨h.len, by omega, by omega, ?_, ?_⟩
 ·rw [h.keep, take_snocV hv]; unfold keepV; rw [List.filter_append]; simp [hp]
 ·have : R.drop (j + 1) = (R.drop j).drop 1 := by rw [List.drop_drop]
  rw [this, h.rest, List.drop_drop]
theorem DlV.in (h : DlV p l R i j) {v : α} (hv : l[j]? = some v) (hp : p v = false) : DlV p l (R.set i v) (i + 1) (j + 1) := by
 have hj := lt_getV hv
 have hl := h.lt
 have hlen := h.len
 refine ⟨by rw [List.length_set]; exact h.len, by omega, by omega, ?_, ?_⟩
 ·rw [take_snocV (l := R.set i v) (v := v) (by rw [List.getElem?_set_self (by omega)]), List.take_set_of_le (Nat.le_refl _), h.keep, take_snocV hv]
  unfold keepV; rw [List.filter_append]; simp [hp]
 ·rw [List.drop_set_of_lt (by omega)]
  have : R.drop (j + 1) = (R.drop j).drop 1 := by rw [List.drop_drop]
  rw [this, h.rest, List.drop_drop]
def idxV (p : α -> Bool) : Nat -> List α -> Int
 | _, [] => -1
 | i, x :: r => if p x then i else idxV p (i + 1) r
theorem idxV_first (p : α -> Bool) : ∀ (l : List α) (i : Nat), (idxV p i l = -1 /\ l.any p = false) \/ ∃ n x, idxV p i l = ((i + n : Nat) : Int) /\ l[n]? = some x /\ p x = true /\ ∀ y ∈ l.take n, p y = false
 | [], i => .inl ⟨rfl, rfl⟩
 | x :: r, i => by
  unfold idxV
  cases h : p x with
  | true => exact .inr ⟨0, x, by simp, rfl, h, fun y hy => by simp at hy⟩
  | false =>
   rw [if_neg (by decide)]
   rcases idxV_first p r (i + 1) with ⟨h1, h2⟩ | ⟨n, z, h1, h2, h3, h4⟩
   ·exact .inl ⟨h1, by rw [List.any_cons, h, h2]; rfl⟩
   ·refine .inr ⟨n + 1, z, by rw [h1]; congr 1; omega, by simpa using h2, h3, fun y hy => ?_⟩
    rw [List.take_succ_cons] at hy
    rcases List.mem_cons.1 hy with rfl | hy
    ·exact h
    ·exact h4 y hy
theorem DlV.start {n : Nat} {x : α} (hx : l[n]? = some x) (hp : p x = true) (hn : ∀ y ∈ l.take n, p y = false) : DlV p l l n (n + 1) := by
 have hj := lt_getV hx
 refine ⟨rfl, by omega, by omega, ?_, rfl⟩
 rw [take_snocV hx]; unfold keepV
 rw [List.filter_append, List.filter_eq_self.2 (fun y hy => by rw [hn y hy]; rfl)]
 simp [hp]
end
theorem fresh_reV {M : PMem} {a i k : Nat} {o o' : Pm.Obj} (h : fresh (putM M a i o) k) : fresh (putM M a i o') k := fun y => by
 have hk : ¬ (k = a /\ i = i) := fun e => by
  have := h i
  unfold putM at this
  rw [if_pos e] at this; cases this
 have h1 := h y
 unfold putM at h1 ⊢
 rw [if_neg (fun e => hk ⟨e.1, rfl⟩)] at h1 ⊢
 exact h1
theorem slice_fromV {k i n c sz m : Nat} {kk : IntKind} (h1 : m <= n) (hc : n <= capOf c /\ c % 2 = 1 /\ esOf c = sz) (hs : sz < 4096) : sliceL sz (.sl k i 0 n c) (some (.v (.int kk (m : Int)))) none none = some (.sl k i (m * sz) (n - m) (loCap (capOf c - m) sz)) := by
 have hp : pnat? (.v (.int kk (m : Int))) = some m := pnat_int (n := m)
 unfold sliceL
 simp only [hp]
 rw [if_pos ⟨h1, hc.1, .inr ⟨hc.2.1, hc.2.2, hs⟩⟩, Nat.zero_add, if_neg (by omega)]
theorem lo_ofV {c sz : Nat} (h : c % 2 = 1 /\ esOf c = sz) : loCap (capOf c) sz = c := by
 obtain ⟨h1, rfl⟩ := h
 have h2 : Nat.beq (c % 2) 0 = false := by rw [h1]; rfl
 unfold loCap capOf esOf
 rw [h2, cond_false]
 omega
theorem slice_toV {k i n c sz m : Nat} {kk : IntKind} (h1 : m <= capOf c) (hc : (c % 2 = 1 /\ esOf c = sz) /\ sz < 4096) : sliceL sz (.sl k i 0 n c) none (some (.v (.int kk (m : Int)))) none = some (.sl k i 0 m c) := by
 have hp : pnat? (.v (.int kk (m : Int))) = some m := pnat_int (n := m)
 unfold sliceL
 simp only [hp]
 rw [if_pos ⟨Nat.zero_le _, h1, .inr ⟨hc.1.1, hc.1.2, hc.2⟩⟩, if_neg (by omega), Nat.zero_mul, Nat.sub_zero, Nat.sub_zero, lo_ofV hc.1]
theorem nk_zeroV {z : List PV} (hz : ∀ j, ∀ y ∈ z, NK j y) {n : Nat} (j : Nat) (y : PV) (h : y ∈ (List.replicate n z).flatten) : NK j y := by
 obtain ⟨l, h1, h2⟩ := List.mem_flatten.1 h
 rw [List.eq_of_mem_replicate h1] at h2
 exact hz j y h2
structure CutV (f : α -> List PV) (sz : Nat) (M M1 : PMem) (a i n c : Nat) (out : List α) (x : PV) : Prop where
 val : x = .sl a i 0 out.length c
 mem : ∃ rest w, (w = .rw \/ w = .own) /\ M1 = putM M a i (.row w sz (out.flatMap f ++ rest)) /\ (out.flatMap f ++ rest).length = n * sz /\ (out.flatMap f ++ rest).all pone = true /\ ∀ j, ∀ y ∈ rest, NK j y
structure KdV (tm : List (Nat × PV)) (a b n c : Nat) (g : PV) (i j : Nat) : Prop where
 t0 : tget tm 0 = .sl a b 0 n c
 t1 : tget tm 1 = g
 t5 : tget tm 5 = iv i
 t6 : tget tm 6 = iv j
end
end Go.Proofs.YthjlhgjnjhmfbaaGreatDoor
namespace Go.Proofs.YthjlhgjnjhmfbaaGreatDoor
open Go Go.Am Go.Pm
section
variable {α : Type} {f : α -> List PV} {sz : Nat}
inductive OutO (f : α -> List PV) (sz k : Nat) (os : List Pm.Obj) : PV -> List α -> Prop where
 | nil (e : Nat) : OutO f sz k os (.lst .full e 0 []) []
 | row {j : Nat} {w : Wm} {l : List α} (h : os[j]? = some (.row w sz (l.flatMap f))) (hw : w = .rw \/ w = .own) (hl : l ≠ []) : OutO f sz k os (.sl k j 0 l.length (loCap l.length sz)) l
theorem OutO.more {k : Nat} {os : List Pm.Obj} {v : PV} {L : List α} (h : OutO f sz k os v L) (o : Pm.Obj) : OutO f sz k (os ++ [o]) v L := by
 cases h with
 | nil e => exact .nil e
 | @row j w L h hw hl =>
  have := (List.getElem?_eq_some_iff.1 h).1
  exact .row (by rw [List.getElem?_append_left this]; exact h) hw hl
theorem OutO.push {k : Nat} {os : List Pm.Obj} {v : PV} {L : List α} (h : OutO f sz k os v L) (hf : ∀ x, (f x).length = sz) {by_ : Nat} (hb : (2 * (L.length + 1) + 2000) * by_ <= 281474976710656) (hl : L.length <= 1000000) (hz : sz < 4096) (x : α) (ho : (f x).all pone = true) (t : Tok) :
  ∃ v' os', (∀ {tm : List (Nat × PV)} {nt : Nat} {M : PMem}, appRP ⟨tm, nt, k, os, M⟩ sz by_ sz v (.lst t sz 1 (f x)) = some (v', ⟨tm, nt, k, os', M⟩)) /\ OutO f sz k os' v' (L ++ [x]) := by
 have hfm : (L ++ [x]).flatMap f = L.flatMap f ++ f x := by rw [List.flatMap_append]; simp
 have hlen : (L ++ [x]).length = L.length + 1 := by simp
 have hne : L ++ [x] ≠ [] := by simp
 cases h with
 | nil e0 =>
  refine ⟨_, os ++ [.row .rw sz ([] ++ f x)], fun {tm nt M} => apr_full (m := 1) (n := 0) (by decide) ⟨.inl rfl, hb, by omega, hz, rfl, ho⟩, ?_⟩
  have := OutO.row (f := f) (sz := sz) (k := k) (os := os ++ [.row .rw sz ([] ++ f x)]) (j := os.length) (w := .rw) (l := [] ++ [x]) (by rw [List.getElem?_append_right (Nat.le_refl _), Nat.sub_self, hfm]; rfl) (.inl rfl) hne
  rw [hlen] at this
  exact this
 | @row j w L h hw hl' =>
  refine ⟨_, _, fun {tm nt M} => apr_grow' (m := 1) (n := L.length) (by decide) (fun e => hl' (List.length_eq_zero_iff.1 e)) (cap_lo hz) hw h (fl_len hf L).symm ⟨hb, by omega, hz, rfl, ho⟩, ?_⟩
  have := OutO.row (f := f) (sz := sz) (k := k) (os := os.set j .gone ++ [.row .own sz (L.flatMap f ++ f x)]) (j := os.length) (w := .own) (l := L ++ [x]) (by rw [List.getElem?_append_right (by simp), List.length_set, Nat.sub_self, hfm]; rfl) (.inr rfl) hne
  rw [hlen] at this
  exact this
inductive OutV (f : α -> List PV) (sz : Nat) (M : PMem) : PV -> List α -> Prop where
 | nil (e : Nat) : OutV f sz M (.lst .full e 0 []) []
 | row {k i n c : Nat} {w : Wm} {L : List α} {rest : List PV} (hM : M k i = some (.row w sz (L.flatMap f ++ rest))) (hn : n = L.length) (hw : w = .rw \/ w = .own) (hc : n <= capOf c /\ c % 2 = 1 /\ esOf c = sz) (hr : ∀ j, ∀ y ∈ rest, NK j y) (hp : rest.all pone = true) : OutV f sz M (.sl k i 0 n c) L
def keyW : PV -> Option Nat
 | .sl k _ _ _ _ => some k
 | _ => none
theorem OutO.v {k : Nat} {os : List Pm.Obj} {v : PV} {L : List α} (h : OutO f sz k os v L) (hz : sz < 4096) (M : PMem) : OutV f sz (seg M k os) v L := by
 cases h with
 | nil e => exact .nil e
 | @row j w L h hw hl =>
  have hc := cap_lo (n := L.length) hz
  exact .row (rest := []) (by rw [seg_same, List.append_nil]; exact h) rfl hw ⟨by rw [hc.1]; exact Nat.le_refl _, hc.2⟩ (fun j y hy => by cases hy) rfl
theorem OutO.key {k : Nat} {os : List Pm.Obj} {v : PV} {L : List α} (h : OutO f sz k os v L) : ∀ j, keyW v = some j -> j = k := by
 cases h with
 | nil e => intro j hj; cases hj
 | row h hw hl => intro j hj; cases hj; rfl
inductive OutX (f : α -> List PV) (sz : Nat) (M : PMem) : PV -> List α -> Prop where
 | nil (e : Nat) : OutX f sz M (.lst .full e 0 []) []
 | row {k i n : Nat} {w : Wm} {L : List α} (hM : M k i = some (.row w sz (L.flatMap f))) (hn : n = L.length) (hw : w = .rw \/ w = .own) (hl : L ≠ []) : OutX f sz M (.sl k i 0 n (loCap n sz)) L
theorem OutX.v {M : PMem} {v : PV} {L : List α} (h : OutX f sz M v L) (hz : sz < 4096) : OutV f sz M v L := by
 cases h with
 | nil e => exact .nil e
 | @row k i n w L hM hn hw hl =>
  have hc := cap_lo (n := n) hz
  exact .row (rest := []) (by rw [List.append_nil]; exact hM) hn hw ⟨by rw [hc.1]; exact Nat.le_refl _, hc.2⟩ (fun j y hy => by cases hy) rfl
theorem OutO.x {k : Nat} {os : List Pm.Obj} {v : PV} {L : List α} (h : OutO f sz k os v L) (M : PMem) : OutX f sz (seg M k os) v L := by
 cases h with
 | nil e => exact .nil e
 | @row j w L h hw hl => exact .row (by rw [seg_same]; exact h) rfl hw hl
structure TldX (f : α -> List PV) (sz : Nat) (M M1 : PMem) (n : Nat) (v : PV) (L : List α) : Prop where
 out : OutX f sz M1 v L
 key : ∀ j, keyW v = some j -> fresh M j /\ n <= j
 sub : Pm.Sub M M1
structure TldV (f : α -> List PV) (sz : Nat) (g : PV -> PV) (M M1 : PMem) (n : Nat) (z : PV) (L : List α) : Prop where
 vals : ∃ vo, z = g vo /\ OutV f sz M1 vo L /\ ∀ j, keyW vo = some j -> fresh M j /\ n <= j
 sub : Pm.Sub M M1
theorem nksA {k : Nat} : ∀ {l : List PV}, (∀ y ∈ l, NK k y) -> NKs k l
 | [], _ => .nil
 | x :: l, h => .cons (h x List.mem_cons_self) (nksA fun y hy => h y (List.mem_cons_of_mem _ hy))
def lstV (f : α -> List PV) (sz : Nat) (L : List α) : PV := .lst .no sz L.length (L.flatMap f)
structure Wrap (g : PV -> PV) : Prop where
 le : ∀ {x y : PV}, PLe x y -> PLe (g x) (g y)
 fz : ∀ {k j es : Nat} {cells : List PV} {x y : PV}, FZ k j es cells x y -> FZ k j es cells (g x) (g y)
theorem wrap_id : Wrap fun v => v := ⟨id, id⟩
theorem wrap_iv (n : Int) : Wrap fun v => .tup [v, iv n] := ⟨fun h => .tup (.cons h (.cons (.refl _) .nil)), fun h => .tup (.cons h (.cons (.keep (.v _)) .nil))⟩
theorem told_v {E : Env} {P : Program} (hf : ∀ x, (f x).length = sz) (hnk : ∀ k x, ∀ y ∈ f x, NK k y) {fn : Nat} {args : List PV} {M : PMem} {g : PV -> PV} (hg : Wrap g) {Z : List α -> Prop} (h : PTk E P fn args M (fun nk z M1 => ∃ L, TldV f sz g M M1 nk z L /\ Z L)) :
  PT E P fn args M (fun z M1 => (∃ L, z = g (lstV f sz L) /\ Z L) /\ M1 = M) := by
 refine PT.freezeOr (h.mono ?_)
 rintro nk z M1 ⟨L, ⟨⟨vo, rfl, h1, h2⟩, hs⟩, hZ⟩
 cases h1 with
 | nil e => exact .inr ⟨_, fun k i o e => ⟨o, hs _ _ _ e, .refl _⟩, hg.le (PLe.nil_no _ _ _ rfl), ⟨[], rfl, hZ⟩, rfl⟩
 | @row k i n c w L rest hM hn hw hc hr hp =>
  subst hn
  obtain ⟨g1, g2⟩ := h2 k rfl
  have hl := fl_len hf L
  refine .inl ⟨k, i, sz, w, L.flatMap f ++ rest, _, g2, ?_, nksA (fun y hy => ?_), hg.fz (.here (by rw [List.length_append]; omega) hc.1 (.inr hc.2.2)), ⟨L, ?_, hZ⟩, rfl⟩
  ·intro a j o e
   unfold putM at e
   split at e
   ·rename_i hc; obtain ⟨rfl, rfl⟩ := hc; cases e; exact ⟨_, hM, .refl _⟩
   ·exact ⟨o, hs _ _ _ e, .refl _⟩
  ·rcases List.mem_append.1 hy with hy | hy
   ·obtain ⟨x, _, hx⟩ := List.mem_flatMap.1 hy
    exact hnk k x y hx
   ·exact hr k y hy
  ·rw [List.take_left' hl]; rfl
end
end Go.Proofs.YthjlhgjnjhmfbaaGreatDoor
namespace Go.Proofs.YthjlhgjnjhmfbaaGreatDoor
open Go Go.Am Go.Pm
section
variable {M0 M : PMem} {v : PV} {a b k c g : Nat} {w0 : Wm} {l : List En} {first cap : List PV} {p : En -> Bool}
theorem loopE48 (hv : VsV enCells 4 M0 v l) (hl : l.length <= 1000000) (M : PMem) (k : Nat) (Q : AExit -> PSt -> Prop) (g : Nat) (first cap : List PV) (p : En -> Bool) (hs : Pm.Sub M0 M) (hf : fresh M k)
  (hp : ∀ x ∈ l, PTs env Tryz.prog M0 g (first ++ ([encEn x] ++ cap)) (bv (p x)))
  (q1 : ∀ tm, idxV p 0 l = -1 -> Q (.exit 0) ⟨tm, 19, k, [], M⟩) (q2 : ∀ tm, tget tm 4 = iv (idxV p 0 l) -> Q .ret ⟨tm, 19, k, [], M⟩) :
  ∀ d i tm, l.length - i = d -> i <= l.length -> idxV p 0 l = idxV p i (l.drop i) -> tget tm 0 = v -> tget tm 1 = .fn g first cap -> tget tm 7 = iv l.length -> tget tm 8 = iv i →
  RXL env Tryz.prog none c48_15 ⟨tm, 19, k, [], M⟩ Q := by
 intro d
 induction d with
 | zero =>
  intro i tm hd hi hp t0 t1 t7 t8
  have : i = l.length := by omega
  subst this
  refine RXL.round (RX.of env_ok ?_)
  simp only [G0, Z1, Z2, Z3, Z4, Z5, t7, t8, Int.lt_irrefl, decide_false]
  exact q1 _ (by rw [hp, List.drop_of_length_le (Nat.le_refl _)]; rfl)
 | succ d ih =>
  intro i tm hd hi hpi t0 t1 t7 t8
  have hi' : i < l.length := by omega
  have hii : (i : Int) < l.length := by omega
  obtain ⟨x, hx, hdx⟩ := getE hi'
  obtain ⟨a, ha, hla⟩ := (hv.sub hs).at (f := enCells) (sz := 4) (fun _ => rfl) hx hf
  have hla : ∀ os, loadP k os M true 4 a = some (encEn x) := hla
  have hw : IntKind.i64.wrap ((i : Int) + 1) = ((i + 1 : Nat) : Int) := by rw [wrap64_id (by omega) (by omega)]; rfl
  rw [hdx] at hpi
  have hun : idxV p i (x :: l.drop (i + 1)) = if p x then (i : Int) else idxV p (i + 1) (l.drop (i + 1)) := rfl
  rw [hun] at hpi
  refine RXL.round (RX.of env_ok ?_)
  simp only [G0, Z1, Z2, Z3, Z4, Z5, t0, t1, t7, t8, hii, decide_true, ha, hla]
  refine cs (hp x (List.mem_of_getElem? hx)) (hs.sseg hf) (by decide) ?_
  cases h : p x with
  | true =>
   rw [h, if_pos rfl] at hpi
   simp only [G0, Z1, Z2, Z3, Z4, Z5]
   exact q2 _ (by rw [hpi]; rfl)
  | false =>
   rw [h, if_neg (by decide)] at hpi
   simp only [G0, Z1, Z2, Z3, Z4, Z5, t8, hw]
   exact ih (i + 1) _ (by omega) (by omega) hpi t0 t1 t7 rfl
theorem indexE48 (hv : VsV enCells 4 M0 v l) (hl : l.length <= 1000000) (g : Nat) (first cap : List PV) (p : En -> Bool) (hp : ∀ x ∈ l, PTs env Tryz.prog M0 g (first ++ ([encEn x] ++ cap)) (bv (p x))) :
  PTs env Tryz.prog M0 48 [v, .fn g first cap] (iv (idxV p 0 l)) := by
 refine PTs.enter env_ok fn48 (by simp) comp48 fun M k hs hk hf => ?_
 simp only [G0, Z1, Z2, Z3, Z4, Z5, argsP, hv.len]
 refine RX.loop (loopE48 hv hl M k _ g first cap p hs hf hp ?_ ?_ l.length 0 _ rfl (Nat.zero_le _) rfl rfl rfl rfl rfl)
 ·intro tm h
  simp only [G0, Z1, Z2, Z3, Z4, Z5]
  exact end1 hf rfl ⟨by rw [h]; rfl, rfl⟩
 ·intro tm h
  simp only [G0, Z1, Z2, Z3, Z4, Z5]
  exact end1 hf h ⟨rfl, rfl⟩
theorem loopE32 (hl : l.length <= 1000000) (hs : ∀ o, Pm.Sub M0 (putM M a b o)) (hf : fresh M k) (hak : a ≠ k) (Q : AExit -> PSt -> Prop)
  (hp : ∀ x ∈ l, PTs env Tryz.prog M0 g (first ++ ([encEn x] ++ cap)) (bv (p x)))
  (q1 : ∀ tm R i w, (w = .rw \/ w = .own) -> DlV p l R i l.length -> KdV tm a b l.length c (.fn g first cap) i l.length -> Q (.exit 0) ⟨tm, 42, k, [], putM M a b (rowV w enCells 4 R)⟩) :
  ∀ d j i R N w tm, (w = .rw \/ w = .own) -> N = putM M a b (rowV w enCells 4 R) -> l.length - j = d -> DlV p l R i j -> KdV tm a b l.length c (.fn g first cap) i j -> RXL env Tryz.prog none c32_22 ⟨tm, 42, k, [], N⟩ Q := by
 intro d
 induction d with
 | zero =>
  intro j i R N w tm hw0 hN hd hD hK
  subst hN
  have : j = l.length := by have := hD.le; omega
  subst this
  obtain ⟨t0, t1, t5, t6⟩ := hK
  refine RXL.round (RX.of env_ok ?_)
  simp only [G0, Z1, Z2, Z3, Z4, Z5, t0, t6, ln_sl, Int.lt_irrefl, decide_false]
  exact q1 _ R i w hw0 hD ⟨t0, t1, t5, t6⟩
 | succ d ih =>
  intro j i R N w tm hw0 hN hd hD hK
  subst hN
  have hj' : j < l.length := by omega
  have hjj : (j : Int) < l.length := by omega
  obtain ⟨x, hx, hdx⟩ := getE hj'
  have hRl := hD.len
  have hxR := hD.get hx
  have hilt := hD.lt
  have hlx : ptake true 4 (R.flatMap enCells) (j * 4) = some (encEn x) := load_at (f := enCells) (n := 4) (fun _ => rfl) hxR
  have hmem := List.mem_of_getElem? hx
  have hw : IntKind.i64.wrap ((j : Int) + 1) = ((j + 1 : Nat) : Int) := by rw [wrap64_id (by omega) (by omega)]; rfl
  have hw2 : IntKind.i64.wrap ((i : Int) + 1) = ((i + 1 : Nat) : Int) := by rw [wrap64_id (by omega) (by omega)]; rfl
  obtain ⟨t0, t1, t5, t6⟩ := hK
  refine RXL.innM fun k' hk1 hk2 hk3 => RX.of env_ok ?_
  have hfk : fresh (putM M a b (rowV w enCells 4 R)) k := fresh_put hf hak
  rw [segNil hfk] at hk3 ⊢
  have hak' : a ≠ k' := fun e => by subst e; have := hk3 b; unfold putM at this; rw [if_pos ⟨rfl, rfl⟩] at this; cases this
  have hld : ∀ {ag : Bool} {n o : Nat} {os : List Pm.Obj}, loadP k' os (putM M a b (rowV w enCells 4 R)) ag n (.ptr a b o) = rowTake ag n o (some (rowV w enCells 4 R)) := fun {ag n o os} => by rw [loadP_out hak', putM_same]
  have hia := fun (kk : IntKind) => ia_sl (k := a) (i := b) (o := 0) (n := l.length) (c := c) (sz := 4) (kk := kk) hj'
  have hrt : ∀ {ag : Bool} {n o : Nat}, rowTake ag n o (some (rowV w enCells 4 R)) = ptake ag n (R.flatMap enCells) o := rt_rowV
  simp only [G0, Z1, Z2, Z3, Z4, Z5, t0, t1, t5, t6, ln_sl, hjj, decide_true, hia, Nat.zero_add, hld, hrt, hlx, hstE, en_all]
  refine cs (hp x hmem) ((hs _).sseg hk3) (by decide) ?_
  cases hpx : p x with
  | true =>
   simp only [G0, Z1, Z2, Z3, Z4, Z5, t6, hw, Bool.not_true]
   refine ⟨putM M a b (rowV w enCells 4 R), ?_, ?_⟩
   ·rw [segNil hfk]; exact MLe.pop hk3
   ·exact ih (j + 1) i R _ w _ hw0 rfl (by omega) (hD.out hx hpx) ⟨t0, t1, t5, rfl⟩
  | false =>
   have hii := fun (kk : IntKind) => ia_sl (k := a) (i := b) (o := 0) (n := l.length) (c := c) (sz := 4) (kk := kk) (show i < l.length by omega)
   have hiR : i < R.length := by omega
   have hso : storeO 4 (i * 4) (encEn x) (some (rowV w enCells 4 R)) = some (rowV .rw enCells 4 (R.set i x)) := by
    have hlen : (R.flatMap enCells).length = R.length * 4 := fl_len (f := enCells) (sz := 4) (fun _ => rfl) R
    have hfit : (pcells (encEn x)).length = 4 /\ i * 4 + (pcells (encEn x)).length <= (R.flatMap enCells).length /\ (pcells (encEn x)).all pone = true := ⟨rfl, by show i * 4 + 4 <= _; omega, rfl⟩
    unfold rowV
    rcases hw0 with rfl | rfl
    ·rw [storeO_eq hfit, show pcells (encEn x) = enCells x from rfl, set_vs (f := enCells) (sz := 4) (fun _ => rfl) R i x hiR]
    ·rw [storeO_own hfit, show pcells (encEn x) = enCells x from rfl, set_vs (f := enCells) (sz := 4) (fun _ => rfl) R i x hiR]
   have hst : ∀ {tm : List (Nat × PV)} {nt : Nat} {os : List Pm.Obj}, storeP tm nt k' os (putM M a b (rowV w enCells 4 R)) 4 (encEn x) (.ptr a b (i * 4)) = some (.junk, ⟨tm, nt, k', os, putM M a b (rowV .rw enCells 4 (R.set i x))⟩) := fun {tm nt os} => by
    rw [storeP_out hak', putM_same, hso, stO_eq, putM_put]
   simp only [G0, Z1, Z2, Z3, Z4, Z5, t0, t5, t6, Bool.not_false, hii, Nat.zero_add, en_all, hst, hw, hw2]
   refine ⟨putM M a b (rowV .rw enCells 4 (R.set i x)), ?_, ?_⟩
   ·rw [segNil (fresh_put hf hak)]
    exact MLe.pop (fresh_reV hk3)
   ·exact ih (j + 1) (i + 1) _ _ .rw _ (.inl rfl) rfl (by omega) (hD.in hx hpx) ⟨t0, t1, rfl, rfl⟩
theorem delE32 (hl : l.length <= 1000000) (hs : ∀ o, Pm.Sub M0 (putM M a b o)) (hw0 : w0 = .rw \/ w0 = .own) (hM : M a b = some (rowV w0 enCells 4 l)) (hcap : l.length <= capOf c /\ c % 2 = 1 /\ esOf c = 4)
  (hp : ∀ x ∈ l, PTs env Tryz.prog M0 g (first ++ ([encEn x] ++ cap)) (bv (p x))) :
  PT env Tryz.prog 32 [.sl a b 0 l.length c, .fn g first cap] M (fun x M1 => CutV enCells 4 M M1 a b l.length c (keepV p l) x) := by
 have hMM : putM M a b (rowV w0 enCells 4 l) = M := by
  funext x y
  unfold putM
  split
  ·rename_i h; rw [h.1, h.2, hM]
  ·rfl
 have hs0 : Pm.Sub M0 M := by have := hs (rowV w0 enCells 4 l); rwa [hMM] at this
 have hfl : ∀ R : List En, (R.flatMap enCells).length = R.length * 4 := fun R => fl_len (f := enCells) (sz := 4) (fun _ => rfl) R
 have hall : ∀ R : List En, (R.flatMap enCells).all pone = true := fun R => by
  induction R with
  | nil => rfl
  | cons x l ih => rw [List.flatMap_cons, List.all_append, ih]; rfl
 refine PT.enterR env_ok fn32 (by simp) comp32 fun k hk hf => RX.of env_ok ?_
 have hak : a ≠ k := fun e => by subst e; rw [hf b] at hM; cases hM
 have hV : VsV enCells 4 M (.sl a b 0 l.length c) l := by
  have h1 : M a b = some (.row w0 4 (l.flatMap enCells ++ [])) := by rw [List.append_nil]; exact hM
  exact .row h1
 simp only [G0, Z1, Z2, Z3, Z4, Z5, argsP]
 refine cs0 ((indexE48 hV hl g first cap p fun x hx => (hp x hx).sub hs0)) (by rw [segNil hf]; exact Pm.Sub.refl _) (by decide) ?_
 rcases idxV_first p l 0 with ⟨h1, h2⟩ | ⟨n, x, h1, h2, h3, h4⟩
 ·rw [h1]
  simp only [G0, Z1, Z2, Z3, Z4, Z5, beq_self_eq_true]
  have hkp : keepV p l = l := by
   unfold keepV
   rw [List.filter_eq_self]
   intro y hy
   rw [List.any_eq_false] at h2
   have := h2 y hy
   simpa using this
  refine end1 hf rfl ⟨?_, [], w0, hw0, ?_, ?_, ?_, fun j y hy => by simp at hy⟩
  ·rw [hkp]; rfl
  ·rw [hkp, List.append_nil]; exact hMM.symm
  ·rw [hkp, List.append_nil]; exact hfl l
  ·rw [hkp, List.append_nil]; exact hall l
 ·rw [h1, Nat.zero_add]
  have hD := DlV.start h2 h3 h4
  have hn := lt_getV h2
  have hne : ((n : Int) == -1) = false := by simp
  have hwn : IntKind.i64.wrap ((n : Int) + 1) = ((n + 1 : Nat) : Int) := by rw [wrap64_id (by omega) (by omega)]; rfl
  simp only [G0, Z1, Z2, Z3, Z4, Z5, hne, hwn]
  refine RX.loop (loopE32 (c := c) hl hs hf hak _ hp (fun tm R i w hw hD' hK => ?_) (l.length - (n + 1)) (n + 1) n l M w0 _ hw0 hMM.symm rfl hD (by exact ⟨rfl, rfl, rfl, rfl⟩))
  obtain ⟨t0, t1, t5, t6⟩ := hK
  have hi := hD'.lt
  have hRl := hD'.len
  have hkR : R.take i = keepV p l := by rw [hD'.keep, List.take_length]
  have hki : (keepV p l).length = i := by rw [<- hkR, List.length_take]; omega
  have hfrom := slice_fromV (k := a) (i := b) (n := l.length) (c := c) (sz := 4) (m := i) (kk := .i64) (by omega) ⟨hcap.1, hcap.2⟩ (by decide)
  have hto := slice_toV (k := a) (i := b) (n := l.length) (c := c) (sz := 4) (m := i) (kk := .i64) (by omega) ⟨hcap.2, by decide⟩
  have hne2 : l.length - i ≠ 0 := by omega
  have hlr := hfl R
  have hcl : ∀ {tm : List (Nat × PV)} {c' : Nat}, clearS ⟨tm, 42, k, [], putM M a b (rowV w enCells 4 R)⟩ 4 ([.v (.string ⟨#[]⟩), .v (.int .i64 0), .v (.int .i64 0), .lst .full 0 0 []] : List PV) (.sl a b (i * 4) (l.length - i) c') =
    some (.junk, ⟨tm, 42, k, [], putM M a b (.row .rw 4 (psplice (R.flatMap enCells) (i * 4) (List.replicate (l.length - i) ([.v (.string ⟨#[]⟩), .v (.int .i64 0), .v (.int .i64 0), .lst .full 0 0 []] : List PV)).flatten))⟩) := fun {tm c'} => by
   rcases hw with rfl | rfl
   ·have h9 := clear_out (tm := tm) (nt := 42) (k := k) (os := []) (M := putM M a b (rowV .rw enCells 4 R)) (c := c') (sz := 4) (o := i * 4) (z := ([.v (.string ⟨#[]⟩), .v (.int .i64 0), .v (.int .i64 0), .lst .full 0 0 []] : List PV)) hne2 hak (putM_same M a b (rowV .rw enCells 4 R)) ⟨by omega, rfl, rfl⟩
    rw [putM_put] at h9
    exact h9
   ·have h9 := clear_own (tm := tm) (nt := 42) (k := k) (os := []) (M := putM M a b (rowV .own enCells 4 R)) (c := c') (sz := 4) (o := i * 4) (z := ([.v (.string ⟨#[]⟩), .v (.int .i64 0), .v (.int .i64 0), .lst .full 0 0 []] : List PV)) hne2 hak (putM_same M a b (rowV .own enCells 4 R)) ⟨by omega, rfl, rfl⟩
    rw [putM_put] at h9
    exact h9
  simp only [G0, Z1, Z2, Z3, Z4, Z5, t0, t5, hfrom, r_clear, hcl, hto]
  have hsp : psplice (R.flatMap enCells) (i * 4) (List.replicate (l.length - i) ([.v (.string ⟨#[]⟩), .v (.int .i64 0), .v (.int .i64 0), .lst .full 0 0 []] : List PV)).flatten = (keepV p l).flatMap enCells ++ (List.replicate (l.length - i) ([.v (.string ⟨#[]⟩), .v (.int .i64 0), .v (.int .i64 0), .lst .full 0 0 []] : List PV)).flatten := by
   unfold psplice
   have hz : ((List.replicate (l.length - i) ([.v (.string ⟨#[]⟩), .v (.int .i64 0), .v (.int .i64 0), .lst .full 0 0 []] : List PV)).flatten).length = (l.length - i) * 4 := flat_len ([.v (.string ⟨#[]⟩), .v (.int .i64 0), .v (.int .i64 0), .lst .full 0 0 []] : List PV) _
   rw [hz, List.drop_of_length_le (by rw [hlr]; omega), List.append_nil]
   congr 1
   rw [<- hkR, <- List.take_append_drop i R, List.flatMap_append, List.take_left' (by rw [hfl, List.length_take]; omega), List.take_left' (by rw [List.length_take]; omega)]
  refine endM (v := .sl a b 0 i c) rfl ⟨by rw [hki], (List.replicate (l.length - i) ([.v (.string ⟨#[]⟩), .v (.int .i64 0), .v (.int .i64 0), .lst .full 0 0 []] : List PV)).flatten, .rw, .inl rfl, ?_, ?_, ?_, fun j y hy => nk_zeroV (z := ([.v (.string ⟨#[]⟩), .v (.int .i64 0), .v (.int .i64 0), .lst .full 0 0 []] : List PV)) (fun j y hy => by
   simp only [List.mem_cons, List.not_mem_nil, or_false] at hy
   rcases hy with rfl | rfl | rfl | rfl
   all_goals first | exact NK.v _ | exact NK.lst (fun _ e => by cases e) NKs.nil) j y hy⟩
  ·rw [segNil (fresh_put hf hak), hsp]
  ·rw [List.length_append, hfl, hki, flat_len]
   show i * 4 + (l.length - i) * 4 = _
   rw [<- Nat.add_mul]; congr 1; omega
  ·rw [List.all_append, hall, all_flat rfl]; rfl
theorem delnE32 (e0 g : Nat) (first cap : List PV) : PTp env Tryz.prog 32 [.lst .full e0 0 [], .fn g first cap] (.lst .full e0 0 []) := fun M => by
 refine PT.enterR env_ok fn32 (by simp) comp32 fun k hk hf => RX.of env_ok ?_
 simp only [G0, Z1, Z2, Z3, Z4, Z5, argsP]
 refine cs0 (indexE48 (M0 := fun _ _ => none) (VsV.nil .full e0) (by simp) g first cap (fun _ => false) (fun x hx => by simp at hx)) (fun _ _ _ e => by cases e) (by decide) ?_
 simp only [G0, Z1, Z2, Z3, Z4, Z5, idxV, beq_self_eq_true]
 exact end1 hf rfl ⟨rfl, rfl⟩
end
end Go.Proofs.YthjlhgjnjhmfbaaGreatDoor
namespace Go.Proofs.YthjlhgjnjhmfbaaGreatDoor
open Go Go.Am Go.Pm
structure Fit (A : List En) : Prop where
 len : A.length <= 100000
 path : ∀ x ∈ A, x.path.length <= 1000000
 bytes : ∀ x ∈ A, x.bytes.length <= 1000000
theorem sub_seg {M M2 : PMem} {k : Nat} {os : List Pm.Obj} (hs : Pm.Sub M M2) (hf : fresh M k) : Pm.Sub M (seg M2 k os) := fun a i o e => by
 have : a ≠ k := fun e' => by subst e'; rw [hf i] at e; cases e
 rw [seg_ne _ _ _ this]; exact hs _ _ _ e
def noneAt (M : PMem) (k : Nat) : PMem := fun a i => if a = k then none else M a i
theorem noneAt_ne {M : PMem} {k a i : Nat} (h : a ≠ k) : noneAt M k a i = M a i := by unfold noneAt; rw [if_neg h]
theorem mle_box {M : PMem} {k : Nat} {o : Pm.Obj} (h : M k 0 = some o) : MLe M (seg (noneAt M k) k [o]) := fun a i o' e => by
 by_cases ha : a = k
 ·subst ha
  rw [seg_same] at e
  cases i with
  | zero => cases e; exact ⟨_, h, .refl _⟩
  | succ i => cases e
 ·rw [seg_ne _ _ _ ha, noneAt_ne ha] at e
  exact ⟨o', e, .refl _⟩
theorem endM2 {E : Env} {Q : PV -> PMem -> Prop} {body : Code} {nt nt' r q k : Nat} {v w : PV} {tm : List (Nat × PV)} {os : List Pm.Obj} {M : PMem} (hv : tget tm r = v) (hw : tget tm q = w) (h : Q (.tup [v, w]) (seg M k os)) : ends E ⟨nt, [.tmp r, .tmp q], body⟩ Q .ret ⟨tm, nt', k, os, M⟩ := by
 subst hv hw; exact ⟨.inr rfl, [_, _], seg M k os, rfl, .refl _, h⟩
theorem nk_bytesB (k : Nat) (b : List UInt8) : NK k (encBytes b) := by
 unfold encBytes
 refine .lst (fun i e => by cases e) ?_
 induction b with
 | nil => exact .nil
 | cons x b ih => exact .cons (.v _) ih
end Go.Proofs.YthjlhgjnjhmfbaaGreatDoor
namespace Go.Proofs.YthjlhgjnjhmfbaaGreatDoor
open Go Go.Am Go.Pm
theorem loopO27 (l : List En) (hl : l.length <= 1000000) (hb : ∀ x ∈ l, x.bytes.length <= 1000000) (M : PMem) (k : Nat) (Q : AExit -> PSt -> Prop) (q : ∀ tm os v, OutO enCells 4 k os v l -> tget tm 3 = v -> Q (.exit 0) ⟨tm, 19, k, os, M⟩) :
  ∀ d i os v tm, l.length - i = d -> i <= l.length -> OutO enCells 4 k os v (l.take i) -> tget tm 3 = v -> tget tm 6 = encEns l -> tget tm 7 = iv l.length -> tget tm 8 = iv i -> RXL env Tryz.prog none c27_12 ⟨tm, 19, k, os, M⟩ Q := by
 intro d
 induction d with
 | zero =>
  intro i os v tm hd hi hO t3 t6 t7 t8
  have : i = l.length := by omega
  subst this
  rw [List.take_length] at hO
  refine RXL.round (RX.of env_ok ?_)
  simp only [G0, Z1, Z2, Z3, Z4, Z5, t7, t8, Int.lt_irrefl, decide_false]
  exact q _ os v hO t3
 | succ d ih =>
  intro i os v tm hd hi hO t3 t6 t7 t8
  have hi' : i < l.length := by omega
  have hii : (i : Int) < l.length := by omega
  obtain ⟨x, hx, -⟩ := getE hi'
  have hlx := en_load hx
  have hw : IntKind.i64.wrap ((i : Int) + 1) = ((i + 1 : Nat) : Int) := by rw [wrap64_id (by omega) (by omega)]; rfl
  have ht6 : tget tm 6 = .lst .no 4 l.length (l.flatMap enCells) := t6
  have hst := hstE x
  refine RXL.round (RX.of env_ok ?_)
  simp only [G0, Z1, Z2, Z3, Z4, Z5, t3, ht6, t7, t8, hii, decide_true, hi', hlx, hst, en_all, get_last, set_last]
  refine cp0 (own42 x (hb x (List.mem_of_getElem? hx))) (by decide) ?_
  have hF := fillN x
  simp only [G0, Z1, Z2, Z3, Z4, Z5, hF]
  obtain ⟨v', os', h1, h2⟩ := (hO.more (.row .rw 0 (enCells x))).push (fun _ => rfl) (by_ := 56) (by rw [List.length_take]; omega) (by rw [List.length_take]; omega) (by decide) x rfl .full
  refine aR ?_
  rw [h1]
  simp only [G0, Z1, Z2, Z3, Z4, Z5, t8, hw]
  refine ih (i + 1) os' v' _ (by omega) (by omega) ?_ rfl t6 t7 rfl
  rw [take_snoc hx]; exact h2
theorem clone_row (l : List En) (hl : l.length <= 1000000) (hb : ∀ x ∈ l, x.bytes.length <= 1000000) (M : PMem) : PTk env Tryz.prog 27 [encEns l] M (fun nk z M1 => TldX enCells 4 M M1 nk z l) := by
 refine PTk.enterR env_ok fn27 (by simp) comp27 fun k hk hf => RX.of env_ok ?_
 have hlen : lenL (encEns l) = some (iv (l.length : Nat)) := rfl
 simp only [G0, Z1, Z2, Z3, Z4, Z5, argsP, hlen]
 refine RX.loop (loopO27 l hl hb M k _ (fun tm os v hO t3 => ?_) l.length 0 _ _ _ rfl (Nat.zero_le _) (.nil 0) (by rfl) (by rfl) (by rfl) (by rfl))
 simp only [G0, Z1, Z2, Z3, Z4, Z5, t3]
 refine endM rfl ⟨hO.x M, fun j e => ?_, sub_seg (Pm.Sub.refl M) hf⟩
 have := hO.key j e
 subst this
 exact ⟨hf, Nat.le_refl _⟩
theorem ask33 (x : En) (hx : x.path.length <= 1000000) (p : List UInt8) (hp : p.length <= 1000000) {M0 : PMem} {a i : Nat} {w : Wm} (hM : M0 a i = some (.row w 0 [str p])) : PTs env Tryz.prog M0 33 [encEn x, .ptr a i 0] (bv (!underB p x.path)) := by
 refine PTs.enter env_ok fn33 (by simp) comp33 fun M k hs hk hf => ?_
 have hM' := hs _ _ _ hM
 have hld : ∀ {ag : Bool} {n o : Nat} {os : List Pm.Obj}, loadP k os M ag n (.ptr a i o) = rowTake ag n o (M a i) := loadP_out (fresh_ne hf hM')
 simp only [G0, Z1, Z2, Z3, Z4, Z5, argsP, encEn, enCells, hld, hM']
 refine cp0 (under17 p x.path hp hx) (by decide) ?_
 simp only [G0, Z1, Z2, Z3, Z4, Z5]
 exact end1 hf rfl ⟨rfl, rfl⟩
def boxM (k : Nat) (o : Pm.Obj) : PMem := fun a i => if a = k /\ i = 0 then some o else none
theorem boxM_sub {k : Nat} {o : Pm.Obj} {M : PMem} (h : M k 0 = some o) : Pm.Sub (boxM k o) M := fun a i o' e => by
 unfold boxM at e
 split at e
 ·rename_i hc; obtain ⟨rfl, rfl⟩ := hc; cases e; exact h
 ·cases e
theorem boxM_put {k a b : Nat} {o o' : Pm.Obj} {M : PMem} (h : M k 0 = some o) (hak : a ≠ k) : Pm.Sub (boxM k o) (putM M a b o') :=
 boxM_sub (by rw [put_ne (fun y => hak y.1.symm)]; exact h)
def undL (t : List En) (p : List UInt8) : List En := t.filter fun x => underB p x.path
theorem keep_und (t : List En) (p : List UInt8) : keepV (fun x : En => !underB p x.path) t = undL t p := by
 unfold keepV undL
 congr 1
 funext x
 exact Bool.not_not _
theorem under_raw {t : List En} (ht : Fit t) (p : List UInt8) (hp : p.length <= 1000000) (M : PMem) : PTk env Tryz.prog 10 [encEns t, str p] M (fun nk z M1 => TldV enCells 4 (fun v => v) M M1 nk z (undL t p)) := by
 have h1 := ht.len
 refine PTk.enterR env_ok fn10 (by simp) comp10 fun k hk hf => RX.of env_ok ?_
 simp only [G0, Z1, Z2, Z3, Z4, Z5, argsP]
 refine cmk (first := []) (cap := []) ((clone_row t (by omega) ht.bytes _).mono fun nk z M1 hq hnk => ?_)
 obtain ⟨hO, hK, hS⟩ := hq
 have hbox : M1 k 0 = some (.row .rw 0 [str p]) := hS _ _ _ (by rw [seg_same]; rfl)
 have hS' : Pm.Sub M (noneAt M1 k) := fun a i o e => by
  have hne : a ≠ k := fun e' => by subst e'; rw [hf i] at e; cases e
  rw [noneAt_ne hne]
  exact hS _ _ _ (by rw [seg_ne _ _ _ hne]; exact e)
 refine ⟨[.row .rw 0 [str p]], noneAt M1 k, rfl, mle_box hbox, by decide, ?_⟩
 simp only [G0, Z1, Z2, Z3, Z4, Z5]
 have hbx : (seg (noneAt M1 k) k [.row .rw 0 [str p]]) k 0 = some (.row .rw 0 [str p]) := by rw [seg_same]; rfl
 cases hO with
 | nil e =>
  refine cp (first := []) (cap := []) (delnE32 e 33 [] [.ptr k 0 0]) (by decide) ?_
  simp only [G0, Z1, Z2, Z3, Z4, Z5]
  exact endM rfl ⟨⟨_, rfl, .nil e, fun j e => (by cases e)⟩, sub_seg hS' hf⟩
 | @row k1 i1 n w L hM hn hw hl0 =>
  subst hn
  obtain ⟨g1, g2⟩ := hK k1 rfl
  have hk1 : k1 ≠ k := by omega
  have hg1 : fresh M k1 := fun i => by have := g1 i; rwa [seg_ne _ _ _ hk1] at this
  have hcap := cap_lo (n := t.length) (es := 4) (by decide)
  refine cm (first := []) (cap := []) ((delE32 (M0 := boxM k (.row .rw 0 [str p])) (a := k1) (b := i1) (c := loCap t.length 4) (l := t) (g := 33) (first := []) (cap := [.ptr k 0 0]) (p := fun x => !underB p x.path) (w0 := w) (by omega) (fun o => boxM_put hbx hk1) hw (by rw [seg_ne _ _ _ hk1, noneAt_ne hk1]; exact hM) ⟨by rw [hcap.1]; exact Nat.le_refl _, hcap.2⟩
   (fun x hx => ask33 x (ht.path x hx) p hp (w := .rw) (by unfold boxM; rw [if_pos ⟨rfl, rfl⟩]))).mono fun x M2 hcut => ?_)
  rw [keep_und] at hcut
  obtain ⟨rfl, rest, w', hw', rfl, hrl, hro, hrk⟩ := hcut
  have hlk : (undL t p).length <= t.length := List.length_filter_le _ _
  refine ⟨[.row .rw 0 [str p]], putM (noneAt M1 k) k1 i1 (.row w' 4 ((undL t p).flatMap enCells ++ rest)), rfl, MLe.of_eq (by rw [put_seg_ne hk1]), by decide, ?_⟩
  simp only [G0, Z1, Z2, Z3, Z4, Z5]
  rw [List.all_append, Bool.and_eq_true] at hro
  refine endM rfl ⟨⟨_, rfl, .row (rest := rest) (w := w') (by rw [seg_ne _ _ _ hk1]; exact putM_same _ _ _ _) rfl hw' ⟨by rw [hcap.1]; exact hlk, hcap.2⟩ hrk hro.2, fun j e => (by cases e; exact ⟨hg1, by omega⟩)⟩, ?_⟩
  intro a i o e
  have h3 : a ≠ k := fun e' => by subst e'; rw [hf i] at e; cases e
  have h4 : a ≠ k1 := fun e' => by subst e'; rw [hg1 i] at e; cases e
  rw [seg_ne _ _ _ h3, put_ne (fun y => h4 y.1)]
  exact hS' _ _ _ e
theorem nk_enC (k : Nat) (x : En) : ∀ y ∈ enCells x, NK k y := by
 intro y hy
 simp only [enCells, List.mem_cons, List.not_mem_nil, or_false] at hy
 rcases hy with rfl | rfl | rfl | rfl
 ·exact .v _
 ·exact .v _
 ·exact .v _
 ·exact nk_bytesB k _
theorem under_list {t : List En} (ht : Fit t) (p : List UInt8) (hp : p.length <= 1000000) : PTp env Tryz.prog 10 [encEns t, str p] (encEns (undL t p)) := fun M => by
 refine (told_v (f := enCells) (sz := 4) (fun _ => rfl) nk_enC wrap_id (Z := fun L => L = undL t p) ((under_raw ht p hp M).mono fun nk z M1 h => ⟨_, h, rfl⟩)).mono ?_
 rintro z M1 ⟨⟨L, rfl, rfl⟩, rfl⟩
 exact ⟨rfl, rfl⟩
end Go.Proofs.YthjlhgjnjhmfbaaGreatDoor
noncomputable section
namespace Go.Am
open Go.RowKit Go.Sort Go.Proofs
structure SortFn (P : Program) (F k : Nat) : Prop where
 nil_ : ∀ (p : Option Addr) (cap : Nat) (fv : Value) (w : World), Calls P F #[.slice p 0 cap, fv] w fun e w' => e = .returned (.tuple #[]) /\ w' = w
 sort : ∀ (enc : Nat -> List Value), (∀ x, (enc x).length = k) -> (∀ x, ∀ v ∈ enc x, v.oneCell' = true) -> ∀ (cf : Nat -> Nat -> Int), SWO (ltOf cf) -> ∀ (g : Nat) (cb : Array Value) (blk off cap : Nat) (d : Array Nat) (w : World),
  (∀ args w, (callFunc g args).run P w = .ok (.enter g args) w) -> CmpLays P g cb enc k cf blk off d.size w -> HoldsK enc k w blk off d -> blk < w.heap.size -> d.size < 4611686018427387904 →
  Calls P F #[.slice (some ⟨blk, off, none⟩) d.size cap, .func (.func g) #[] cb] w fun e w' =>
   e = .returned (.tuple #[]) /\ ∃ n os, w' = sortWorldK enc k w blk off n (pdq (ltOf cf) d 0 d.size (Lib.bitLen d.size) true true) os
theorem world_grown {W W' : World} (hs : W.heap.size <= W'.heap.size) (hh : ∀ c, c < W.heap.size -> W'.heap[c]? = W.heap[c]?) (h1 : W'.os = W.os) (h2 : W'.tape = W.tape) (h3 : W'.output = W.output) (h4 : W.drawn <= W'.drawn) :
  ∃ q os', W' = grow (W.drewN q) os' := by
 refine ⟨W'.drawn - W.drawn, W'.heap.extract W.heap.size W'.heap.size, ?_⟩
 have hheap : W.heap ++ W'.heap.extract W.heap.size W'.heap.size = W'.heap := by
  apply Array.ext_getElem?
  intro i
  rw [Array.getElem?_append]
  split
  ·rename_i hi; exact (hh i hi).symm
  ·rename_i hi
   rw [Array.getElem?_extract]
   split
   ·rw [show W.heap.size + (i - W.heap.size) = i from by omega]
   ·rename_i h; rw [Array.getElem?_eq_none (by omega)]
 have hd : W.drawn + (W'.drawn - W.drawn) = W'.drawn := by omega
 cases W' with
 | mk a b c d e =>
  unfold grow World.drewN
  dsimp only at h1 h2 h3 hheap hd ⊢
  rw [hheap, hd, h1, h2, h3]
section
variable {E : Env} {P : Program} {ι : Inj} {m : Mem} {w w1 : World} {r : Nat}
open Classical in
def roN (m : Mem) (r : Nat) : Mem :=
  { base := fun b => if b = r \/ Anc m b r then none else match m.get b with
      | some (.row cs _ es _) => some (.row cs .ro es none)
      | _ => none
    nb := m.size, tree := .nil, size := m.size, bar := m.size }
theorem roN_get {b : Nat} {o : AObj} (h : (roN m r).get b = some o) : b ≠ r /\ ¬ Anc m b r /\ ∃ cs md es q, m.get b = some (.row cs md es q) /\ o = .row cs .ro es none := by
 unfold Mem.get roN at h
 dsimp only at h
 cases hb : Nat.blt b m.size with
 | false => rw [hb] at h; simp only [cond_false, Tr.at_nil] at h; cases h
 | true =>
  rw [hb] at h
  simp only [cond_true] at h
  split at h
  ·cases h
  ·rename_i hn
   refine ⟨fun e => hn (.inl e), fun e => hn (.inr e), ?_⟩
   split at h
   ·rename_i cs md es q hg
    cases h
    exact ⟨cs, md, es, q, hg, rfl⟩
   ·cases h
theorem roN_at {b : Nat} {cs : List Value} {md : Md} {es : Nat} {q : Option Nat} (h1 : b ≠ r) (h2 : ¬ Anc m b r) (hb : b < m.size) (hg : m.get b = some (.row cs md es q)) : (roN m r).get b = some (.row cs .ro es none) := by
 unfold Mem.get roN
 dsimp only
 rw [show Nat.blt b m.size = true from bltT hb]
 simp only [cond_true]
 rw [if_neg (fun e => e.elim h1 h2)]
 have hg' : m.get b = some (.row cs md es q) := hg
 rw [hg']
theorem roN_rel (h : Rel E ι m w) {t : Tgt} {cs0 : List Value} {es0 : Nat} {q0 : Option Nat} (hb : ι r = some t) (hg : m.get r = some (.row cs0 .rw es0 q0)) (hsz : w.heap.size <= w1.heap.size)
  (hs : ∀ c, c < w.heap.size -> c ≠ t.blk -> w1.heap[c]? = w.heap[c]?) : Rel E ι (roN m r) w1 := by
 have hnoA : ∀ b c, ¬ Anc (roN m r) b c := fun b c ha => by
  obtain ⟨⟨_, _, _, e⟩, _⟩ := ha.rows
  obtain ⟨_, _, _, _, _, _, _, e'⟩ := roN_get e
  cases e'
 constructor
 ·intro c u e; have := h.dom c u e; exact ⟨this.1, by show _ < w1.heap.size; omega⟩
 ·intro c u o e k
  obtain ⟨hc1, hc2, cs, md, es', q, k', rfl⟩ := roN_get k
  have hne : u.blk ≠ t.blk := fun q => by
   rcases h.sep c r u t _ _ e hb k' hg hc1 q (Bool.and_false _) with ha | ha
   ·exact hc2 ha
   ·obtain ⟨⟨_, _, _, e'⟩, _⟩ := ha.rows; rw [hg] at e'; cases e'
  have hm := (h.obj c u _ e k').move (Sub.refl _) (hs _ (h.dom _ _ e).2 hne)
  exact ⟨hm.1, fun q => absurd rfl q⟩
 ·intro x y u v ox oy e1 e2 k1 k2 _ _ hro
  obtain ⟨_, _, _, _, _, _, _, rfl⟩ := roN_get k1
  obtain ⟨_, _, _, _, _, _, _, rfl⟩ := roN_get k2
  simp [AObj.isRo] at hro
 ·intro x y u v _ _ ha; exact absurd ha (hnoA x y)
 ·exact Nat.le_refl _
 ·exact Nat.le_refl _
 ·intro c o _ k
  obtain ⟨_, _, cs, _, es', _, _, rfl⟩ := roN_get k
  exact ⟨cs, es', rfl⟩
 ·exact h.glob
 ·intro c hc
  cases hk : (roN m r).get c with
  | none => rfl
  | some o =>
   obtain ⟨_, _, _, _, _, _, k', _⟩ := roN_get hk
   rw [h.top c hc] at k'; cases k'
 ·intro c cs md es' q k
  obtain ⟨_, _, _, _, _, _, _, e⟩ := roN_get k
  cases e
theorem roN_own {b : Nat} : ¬ Own ι (roN m r) b := by
 rintro ⟨a, t, o, _, k, hro, _⟩
 obtain ⟨_, _, _, _, _, _, _, rfl⟩ := roN_get k
 cases hro
theorem roN_wf : Wf (roN m r) := ⟨Nat.le_refl _, Nat.le_refl _, fun b o _ k => by
 obtain ⟨_, _, _, _, _, _, _, rfl⟩ := roN_get k
 rfl⟩
theorem flat_list (enc : Nat -> List Value) (k : Nat) (hk : ∀ x, (enc x).length = k) : ∀ (l : List Nat), (flatK enc k l.toArray).toList = l.flatMap enc := by
  intro l
  have hlen : (l.flatMap enc).length = l.length * k := by
    induction l with
    | nil => simp
    | cons x l ih => rw [List.flatMap_cons, List.length_append, ih, hk, List.length_cons, Nat.succ_mul]; omega
  apply List.ext_getElem
  · rw [Array.length_toList, size_flatK, hlen]; simp
  · intro t h1 h2
    rw [hlen] at h2
    have hk0 : 0 < k := by rcases Nat.eq_zero_or_pos k with h | h; · subst h; simp at h2
                           · exact h
    have hsz : l.toArray.size * k = l.length * k := by simp
    have hget := get_flatK enc k l.toArray t (by rw [hsz]; exact h2)
    rw [Array.getElem_toList, <- getElem!_pos, hget]
    have : ∀ (l : List Nat) (t : Nat), t < l.length * k -> ∀ h, (enc l.toArray[t / k]!)[t % k]! = (l.flatMap enc)[t]'h := by
      intro l
      induction l with
      | nil => intro t ht; simp at ht
      | cons x l ih =>
        intro t ht h
        rcases Nat.lt_or_ge t k with hlt | hge
        · have e1 : t / k = 0 := Nat.div_eq_of_lt hlt
          have e2 : t % k = t := Nat.mod_eq_of_lt hlt
          have hx : t < (enc x).length := by rw [hk]; exact hlt
          simp only [List.flatMap_cons]
          rw [List.getElem_append_left hx, e1, e2]
          simp only [List.getElem!_toArray, List.getElem!_cons_zero]
          exact getElem!_pos (enc x) t hx
        · have e1 : t / k = (t - k) / k + 1 := by rw [<- Nat.add_div_right _ hk0, Nat.sub_add_cancel hge]
          have e2 : t % k = (t - k) % k := by rw [<- Nat.add_mod_right (t - k) k, Nat.sub_add_cancel hge]
          have ht' : t - k < l.length * k := by rw [List.length_cons, Nat.succ_mul] at ht; omega
          have hfl : (l.flatMap enc).length = l.length * k := by
            clear ih ht ht' h hget hsz hlen h1 h2
            induction l with
            | nil => simp
            | cons x l ih => rw [List.flatMap_cons, List.length_append, ih, hk, List.length_cons, Nat.succ_mul]; omega
          have := ih (t - k) ht' (by rw [hfl]; exact ht')
          simp only [List.flatMap_cons]
          rw [List.getElem_append_right (by rw [hk]; exact hge), e1, e2]
          simp only [hk]
          rw [<- this]
          simp only [List.getElem!_toArray, List.getElem!_cons_succ]
    exact this l t h2 _
def rowAt (cells : List Value) (k n i : Nat) : List Value := (cells.drop (min i (n - 1) * k)).take k
def permN (n : Nat) (cf : Nat -> Nat -> Int) : List Nat := (pdq (ltOf cf) (Array.range n) 0 n (Lib.bitLen n) true true).toList
def sortC (cells : List Value) (k n : Nat) (cf : Nat -> Nat -> Int) : List Value := (permN n cf).flatMap (rowAt cells k n)
theorem rowAt_len {cells : List Value} {k n : Nat} (hn : 0 < n) (h : n * k <= cells.length) (i : Nat) : (rowAt cells k n i).length = k := by
 have h1 : min i (n - 1) * k + k <= n * k := by
  have : (min i (n - 1) + 1) * k <= n * k := Nat.mul_le_mul_right _ (by omega)
  rw [Nat.succ_mul] at this; exact this
 unfold rowAt
 rw [List.length_take, List.length_drop]; omega
theorem rowAt_rel {cells cs' : List Value} (h : VRs ι cells cs') (k n i : Nat) : VRs ι (rowAt cells k n i) (rowAt cs' k n i) := (h.drop _).take _
theorem sortC_rel {cells cs' : List Value} (h : VRs ι cells cs') (k n : Nat) (cf : Nat -> Nat -> Int) : VRs ι (sortC cells k n cf) (sortC cs' k n cf) := by
 unfold sortC
 induction permN n cf with
 | nil => exact .nil
 | cons i l ih => rw [List.flatMap_cons, List.flatMap_cons]; exact (rowAt_rel h k n i).append ih
theorem sw_size {enc : Nat -> List Value} {k blk off mm : Nat} {dk : Array Nat} {os : Array Obj} : w.heap.size <= (sortWorldK enc k w blk off mm dk os).heap.size := by
 unfold sortWorldK putRowK putRow mapBlock grow Go.Sort.ahead
 simp
theorem sw_other {enc : Nat -> List Value} {k blk off mm : Nat} {dk : Array Nat} {os : Array Obj} {c : Nat} (hc : c < w.heap.size) (hne : c ≠ blk) : (sortWorldK enc k w blk off mm dk os).heap[c]? = w.heap[c]? := by
 unfold sortWorldK putRowK putRow mapBlock grow Go.Sort.ahead
 simp only
 rw [Array.getElem?_append_left (by simpa using hc), Array.getElem?_modify, if_neg (Ne.symm hne)]
theorem setMany_full (F : Array Value) (vs : List Value) (h : vs.length = F.size) : setMany F 0 vs = vs.toArray := by
 refine ext_get! (by simp [h]) fun t ht => ?_
 have ht' : t < F.size := by simpa using ht
 rw [get_setMany _ _ _ _ ht', if_pos ⟨Nat.zero_le _, by omega⟩, Nat.sub_zero]
 simp
theorem sort_can (hE : EnvOk E P) {F k : Nat} (S : SortFn P F k) {x y : Fun} {g : Nat} (hf : E.fn F = some x) (hgf : E.fn g = some y) {c sz n : Nat} {q0 : Option Nat} {cells : List Value} {cf : Nat -> Nat -> Int} (hO : SWO (ltOf cf))
    (hg : m.get r = some (.row cells .rw sz q0)) (hn : 0 < n) (hlen : n * k <= cells.length) (hone : allOne cells = true) (hnsz : n < 4611686018427387904)
    (hcmp : ∀ i j, ∃ m1, CanT E P (.call g [.agg (rowAt cells k n i).toArray, .agg (rowAt cells k n j).toArray]) (roN m r) (.int .i64 (cf i j)) m1)
    {m1 : Mem} (hm1 : m.storeCells ⟨r, 0, none⟩ (sortC cells k n cf) = some m1) :
    CanT E P (.call F [.slice (some ⟨r, 0, none⟩) n c, .func (.func g) #[] #[]]) m (.tuple #[]) m1 := by
  refine ⟨fun ι w args' h ha => ?_, fun hw => Keep.storeCells hw hm1⟩
  rw [callFunc_enter hE hf]
  show CallsIn Fence.wide 0 P F args'.toArray w (retOnly (Got E ι m w (.tuple #[]) m1))
  refine callsIn_wide.2 ?_
  cases ha with
  | @cons _ s' _ _ hs ha =>
  cases ha with
  | @cons _ f' _ _ hfv ha =>
  cases ha
  cases hfv with
  | @fn _ _ x0' _ cb' h1 h2 =>
  have hx0 : x0' = #[] := by
    have := h1.length
    apply Array.eq_empty_of_size_eq_zero
    rw [<- Array.length_toList, <- this]; rfl
  have hcb : cb' = #[] := by
    have := h2.length
    apply Array.eq_empty_of_size_eq_zero
    rw [<- Array.length_toList, <- this]; rfl
  subst hx0 hcb
  obtain ⟨t, cap, hb, hs'⟩ : ∃ t cap, ι r = some t /\ s' = .slice (some ⟨t.blk, t.dlt + 0, none⟩) n cap := by
    cases hs with
    | sex o n c e => exact ⟨_, _, e, rfl⟩
    | slo o n c c' e h1 h2 h3 => exact ⟨_, _, e, rfl⟩
    | semp a a' es he => omega
    | sem0 a a' => omega
  subst hs'
  obtain ⟨hcell, hrw⟩ := h.obj r t _ hb hg
  obtain ⟨hes, hcap, cc, el, fz, hblk, hcs, hfz⟩ := hrw (by decide)
  obtain ⟨cs', hv, hreal⟩ := row_real h hb hg
  have hl' : cs'.length = cells.length := hv.length.symm
  have hlen' : n * k <= cs'.length := by rw [hl']; exact hlen
  have htb := (h.dom _ _ hb).2
  have hk : ∀ i, (rowAt cs' k n i).length = k := rowAt_len hn hlen'
  have honec : ∀ i, ∀ v ∈ rowAt cs' k n i, v.oneCell' = true := fun i v hvm => by
    rw [oneC_eq]
    exact hv.allOne hone v (List.mem_of_mem_drop (List.mem_of_mem_take hvm))
  have hH : HoldsK (rowAt cs' k n) k w t.blk (t.dlt + 0) (Array.range n) := fun j hj => by
    rw [size_flatK, Array.size_range] at hj
    have hk0 : 0 < k := by rcases Nat.eq_zero_or_pos k with h | h; · subst h; simp at hj
                           · exact h
    have hdiv : j / k < n := Nat.div_lt_of_lt_mul (by rw [Nat.mul_comm]; exact hj)
    have hmod : j % k < k := Nat.mod_lt _ hk0
    have hjj : j / k * k + j % k = j := by rw [Nat.mul_comm]; exact Nat.div_add_mod j k
    have hrange : (Array.range n)[j / k]! = j / k := by rw [getElem!_pos _ _ (by simpa using hdiv)]; simp
    have hget : cs'[j]? = some ((flatK (rowAt cs' k n) k (Array.range n))[j]!) := by
      rw [get_flatK _ _ _ _ (by rw [Array.size_range]; exact hj), hrange, getElem!_pos _ _ (by rw [hk]; exact hmod), List.getElem?_eq_getElem (by omega)]
      congr 1
      unfold rowAt
      rw [List.getElem_take, List.getElem_drop]
      have hmin : min (j / k) (n - 1) = j / k := by omega
      simp only [hmin, hjj]
    exact ⟨by rw [Nat.add_zero]; exact hreal j _ hget, by rw [Nat.add_zero]; exact hfz _ (fz_le (by omega))⟩
  have hC : CmpLays P g #[] (rowAt cs' k n) k cf t.blk (t.dlt + 0) (Array.range n).size w := fun mm os dk _ i j => by
    obtain ⟨m2, hcan⟩ := hcmp i j
    have hR := roN_rel h hb hg (w1 := sortWorldK (rowAt cs' k n) k w t.blk (t.dlt + 0) mm dk os) sw_size fun c hc hne => sw_other hc hne
    have this := hcan.ok ι (sortWorldK (rowAt cs' k n) k w t.blk (t.dlt + 0) mm dk os) [.agg (rowAt cs' k n i).toArray, .agg (rowAt cs' k n j).toArray] hR (.cons (.agg (by simpa using rowAt_rel hv k n i)) (.cons (.agg (by simpa using rowAt_rel hv k n j)) .nil))
    rw [callFunc_enter hE hgf] at this
    have this : CallsIn Fence.wide 0 P g ([Value.agg (rowAt cs' k n i).toArray, .agg (rowAt cs' k n j).toArray] : List Value).toArray (sortWorldK (rowAt cs' k n) k w t.blk (t.dlt + 0) mm dk os) (retOnly (Got E ι (roN m r) (sortWorldK (rowAt cs' k n) k w t.blk (t.dlt + 0) mm dk os) (.int .i64 (cf i j)) m2)) := this
    refine (callsIn_wide.1 this).mono fun e W' he => ?_
    cases e with
    | returned v' =>
      obtain ⟨ι1, hv1, hst⟩ := he
      cases hv1
      exact ⟨rfl, world_grown hst.size (fun c hc => hst.keep c hc roN_own) hst.os hst.tape hst.output hst.drawn⟩
    | panicked _ => exact he.elim
    | outgrown => exact he.elim
  have hrun := S.sort (rowAt cs' k n) hk honec cf hO g #[] t.blk (t.dlt + 0) cap (Array.range n) w (fun args w => callFunc_enter hE hgf args w) hC hH htb (by rw [Array.size_range]; exact hnsz)
  simp only [Array.size_range] at hrun
  refine hrun.mono fun e w' he => ?_
  obtain ⟨rfl, n', os, rfl⟩ := he
  obtain ⟨w1, _, hw1, hst⟩ := store_cells_all (P := P) h (a := ⟨r, 0, none⟩) (a' := ⟨t.blk, t.dlt + 0, none⟩) (.ptr 0 hb) (sortC_rel hv k n cf) hm1
  have hdd : permN n cf = (pdq (ltOf cf) (Array.range n) 0 n (Lib.bitLen n) true true).toList := rfl
  have hput : putRowK (rowAt cs' k n) k w t.blk (t.dlt + 0) (pdq (ltOf cf) (Array.range n) 0 n (Lib.bitLen n) true true) = w1 := by
    have hperm := (pdq_sorts (ltOf cf) hO (Array.range n) 0 n (Lib.bitLen n) true true (Nat.zero_le _) (by simp) (Or.inl rfl)).1
    have hszd : (pdq (ltOf cf) (Array.range n) 0 n (Lib.bitLen n) true true).size = n := by rw [hperm.1]; simp
    have hfl : (flatK (rowAt cs' k n) k (pdq (ltOf cf) (Array.range n) 0 n (Lib.bitLen n) true true)).toList = sortC cs' k n cf := by
      have := flat_list (rowAt cs' k n) k hk (permN n cf)
      rw [hdd, Array.toArray_toList] at this
      rw [this]; rfl
    have hlc : (sortC cs' k n cf).length = n * k := by rw [<- hfl, Array.length_toList, size_flatK, hszd]
    have h0 : setAll w t.blk (t.dlt + 0) (sortC cs' k n cf) = putRow id w t.blk (t.dlt + 0) (setMany (flatK (rowAt cs' k n) k (Array.range n)) 0 (sortC cs' k n cf)) := by
      have h3 := setCells_putRow w t.blk (t.dlt + 0) (sortC cs' k n cf) 0 (flatK (rowAt cs' k n) k (Array.range n)) (by rw [size_flatK, Array.size_range]; omega)
      have h4 : putRow id w t.blk (t.dlt + 0) (flatK (rowAt cs' k n) k (Array.range n)) = w := putRowK_self (rowAt cs' k n) k w t.blk (t.dlt + 0) (Array.range n) hH
      rw [h4, setCells_eq] at h3
      exact h3
    rw [hw1, h0, setMany_full _ _ (by rw [hlc, size_flatK, Array.size_range]), <- hfl, Array.toArray_toList]
    rfl
  have hw' : sortWorldK (rowAt cs' k n) k w t.blk (t.dlt + 0) n' (pdq (ltOf cf) (Array.range n) 0 n (Lib.bitLen n) true true) os = grow (Go.Sort.ahead w1 n') os := by
    rw [<- hput]; rfl
  rw [hw']
  have hsame : ∀ c, c < w1.heap.size -> (grow (Go.Sort.ahead w1 n') os).heap[c]? = w1.heap[c]? := fun c hc => heap_grow_old (Go.Sort.ahead w1 n') os hc
  have hsz2 : w1.heap.size <= (grow (Go.Sort.ahead w1 n') os).heap.size := by unfold grow Go.Sort.ahead; simp
  have hmore : Step E ι m1 w1 ι m1 (grow (Go.Sort.ahead w1 n') os) :=
    ⟨Sub.refl _, (fun c u e n => by rw [e] at n; cases n), hst.rel.more hsame hsz2, fun _ _ ho => ho, fun c hc _ => hsame c hc, hsz2, Nat.le_refl _, rfl, rfl, rfl, Nat.le_add_right _ _⟩
  exact ⟨ι, .tuple .nil, hst.trans hmore⟩
end
end Go.Am
end
namespace Go.Pm
open Go.RowKit Go.Am Go.Sort Go.Proofs
def cxN (cx : Cx) (ng : Nat) : Cx where
 at_ := fun k i => if k = 0 /\ i < ng then some i else none
 role := fun r => match cx.role r with
  | .mk => .none
  | x => x
 tk := fun _ _ => none
 nk := 1
theorem cxN_im {cx : Cx} {ng r : Nat} {cells : List Value} (h : cx.role r = .im cells) : (cxN cx ng).role r = .im cells := by
 show (match cx.role r with | .mk => Role.none | x => x) = _
 rw [h]
mutual
theorem PR.toN {cx cx' : Cx} (him : ∀ r cells, cx.role r = .im cells -> cx'.role r = .im cells) : ∀ {x : PV} {v : Value}, PR cx x v -> (∀ k, NK k x) -> PR cx' x v
 | _, _, .v h, _ => .v h
 | _, _, .junk _, _ => .junk _
 | _, _, .l0 es a c he, _ => .l0 es a c he
 | _, _, .f0 es a, _ => .f0 es a
 | _, _, .lno hr hl hs hn hq he, hk => .lno (him _ _ hr) hl (PRs.toN him hs fun k => by cases hk k with | lst _ h => exact h) hn hq he
 | _, _, .lfull hr hl hs hn, hk => .lfull (him _ _ hr) hl (PRs.toN him hs fun k => by cases hk k with | lst _ h => exact h) hn
 | _, _, .ltok (k := a) (i := i) h ht hn he, hk => by
  cases hk a with
  | lst ht' _ => exact absurd rfl (ht' i)
 | _, _, .dp hr hl hs, hk => .dp (him _ _ hr) hl (PRs.toN him hs fun k => by cases hk k with | dp h => exact h)
 | _, _, .ptr (k := a) e, hk => by cases hk a with | ptr h => exact absurd rfl h
 | _, _, .sl (k := a) e, hk => by cases hk a with | sl h => exact absurd rfl h
 | _, _, .agg h, hk => .agg (PRs.toN him h fun k => by cases hk k with | agg h => exact h)
 | _, _, .tup h, hk => .tup (PRs.toN him h fun k => by cases hk k with | tup h => exact h)
 | _, _, .fn h1 h2, hk => .fn (PRs.toN him h1 fun k => by cases hk k with | fn h _ => exact h) (PRs.toN him h2 fun k => by cases hk k with | fn _ h => exact h)
 | _, _, .yld (k := a) e, hk => by cases hk a with | yld h => exact absurd rfl h
 | _, _, .iface h, hk => .iface (PR.toN him h fun k => by cases hk k with | iface h => exact h)
theorem PRs.toN {cx cx' : Cx} (him : ∀ r cells, cx.role r = .im cells -> cx'.role r = .im cells) : ∀ {l : List PV} {l' : List Value}, PRs cx l l' -> (∀ k, NKs k l) -> PRs cx' l l'
 | _, _, .nil, _ => .nil
 | _, _, .cons h hs, hk => .cons (PR.toN him h fun k => by cases hk k with | cons h _ => exact h) (PRs.toN him hs fun k => by cases hk k with | cons _ h => exact h)
end
section
variable {E : Env} {P : Program} {cx : Cx} {m : Mem} {M : PMem}
theorem shade_dead {b : Nat} {q : Option Nat} (h : Shade cx m b q) : ∀ x, OnChain m q x -> cx.role x = .dead := by
 induction h with
 | none => rintro x ⟨_, _, _, _, e, _⟩; cases e
 | gone hp hd hb hg => rintro x ⟨p, _, _, _, e, k, _⟩; cases e; rw [hg] at k; cases k
 | more hp hd hb hg r ih =>
  rintro x ⟨p, _, _, _, e, k, h⟩
  cases e
  rcases h with rfl | h
  ·exact hd
  ·exact ih x ((anc_iff hg).1 h)
theorem PG.roN (h : PG E cx M m) {k i r es : Nat} {w : Wm} {cs : List PV} (hw : w = .rw \/ w = .own) (hM : M k i = some (.row w es cs)) (ha : cx.at_ k i = some r) : PG E (cxN cx E.ng) (fun _ _ => none) (roN m r) := by
 have hrole := h.role hM nofun nofun ha
 obtain ⟨r', vs, md, q, e1, e2, e3, e4, e5⟩ := h.obj k i _ hM
 rw [ha] at e1; cases e1
 have hdead : ∀ x, Anc m x r -> cx.role x = .dead := fun x hx => by
  have hc := (anc_iff e2).1 hx
  rcases hw with rfl | rfl
  ·obtain ⟨_, rfl⟩ := e4 (by simp)
   obtain ⟨_, _, _, _, e, _⟩ := hc; cases e
  ·obtain ⟨_, _, hs⟩ := e4 (by simp)
   exact shade_dead hs x hc
 refine ⟨fun _ _ _ e => (by cases e), fun a j r' e => ?_, fun _ _ _ _ e => (by cases e), fun r' cells e => ?_, fun r' e => ?_, fun r' e => ?_, fun a j ha' => ?_, fun _ _ _ _ _ _ _ _ _ e => (by cases e), fun g hg => ?_, roN_wf, Nat.zero_lt_one⟩
 ·have e' : (if a = 0 /\ j < E.ng then some j else none) = some r' := e
  split at e'
  ·rename_i hc
   cases e'
   obtain ⟨rfl, hj⟩ := hc
   obtain ⟨g1, g2⟩ := h.at_ _ _ _ (h.glob j hj)
   refine ⟨g1, ?_⟩
   show (match cx.role j with | .mk => Role.none | x => x) = _ \/ (match cx.role j with | .mk => Role.none | x => x) = _
   rcases g2 with g2 | g2
   ·left; rw [g2]
   ·right; rw [g2]
  ·cases e'
 ·have e' : (match cx.role r' with | .mk => Role.none | x => x) = .im cells := e
  have hr : cx.role r' = .im cells := by
   cases hq : cx.role r' with
   | mk => rw [hq] at e'; cases e'
   | _ => rw [hq] at e'; exact e'
  obtain ⟨g1, md, es', q', g2⟩ := h.im _ _ hr
  refine ⟨g1, _, _, _, roN_at (fun e => by subst e; rw [hrole] at hr; cases hr) (fun hx => by rw [hdead _ hx] at hr; cases hr) g1 g2⟩
 ·have e' : (match cx.role r' with | .mk => Role.none | x => x) = .mk := e
  cases hq : cx.role r' with
  | mk => rw [hq] at e'; cases e'
  | _ => rw [hq] at e'; cases e'
 ·have e' : (match cx.role r' with | .mk => Role.none | x => x) = .dead := e
  refine h.dd r' ?_
  cases hq : cx.role r' with
  | mk => rw [hq] at e'; cases e'
  | _ => first | rfl | (rw [hq] at e'; exact e')
 ·refine ⟨?_, rfl⟩
  show (if a = 0 /\ j < E.ng then some j else none) = none
  rw [if_neg (fun e => by have : 1 <= a := ha'; omega)]
 ·show (if (0 : Nat) = 0 /\ g < E.ng then some g else none) = some g
  rw [if_pos ⟨rfl, hg⟩]
theorem flat_at {α : Type} {f : α -> List PV} {sz : Nat} (hf : ∀ x, (f x).length = sz) : ∀ {l : List α} {i : Nat} {x : α} (rest : List PV), l[i]? = some x -> ((l.flatMap f ++ rest).drop (i * sz)).take sz = f x
 | [], _, _, _, h => by simp at h
 | y :: l, 0, x, rest, h => by
  simp only [List.getElem?_cons_zero, Option.some.injEq] at h
  subst h
  rw [Nat.zero_mul, List.drop_zero, List.flatMap_cons, List.append_assoc, List.take_left' (hf y)]
 | y :: l, i + 1, x, rest, h => by
  rw [List.getElem?_cons_succ] at h
  have ih := flat_at hf (l := l) rest h
  rw [Nat.succ_mul, List.flatMap_cons, List.append_assoc, Nat.add_comm, <- List.drop_drop, List.drop_left' (hf y)]
  exact ih
theorem flat_len' {α : Type} {f : α -> List PV} {sz : Nat} (hf : ∀ x, (f x).length = sz) (l : List α) : (l.flatMap f).length = l.length * sz := by
 induction l with
 | nil => simp
 | cons x l ih => rw [List.flatMap_cons, List.length_append, ih, hf, List.length_cons, Nat.succ_mul]; omega
theorem flat_all {α : Type} {f : α -> List PV} (hf : ∀ x, (f x).all pone = true) : ∀ l : List α, (l.flatMap f).all pone = true
 | [] => rfl
 | x :: l => by rw [List.flatMap_cons, List.all_append, hf, flat_all hf l]; rfl
theorem NKs.of' {k : Nat} : ∀ {l : List PV}, (∀ x ∈ l, NK k x) -> NKs k l
 | [], _ => .nil
 | x :: l, h => .cons (h x List.mem_cons_self) (NKs.of' fun y hy => h y (List.mem_cons_of_mem _ hy))
structure Srtd {α : Type} (cf : α -> α -> Int) (l l' : List α) : Prop where
 perm : l'.Perm l
 asc : l'.Pairwise (fun a b => ¬ cf b a < 0)
theorem PT.sort (hE : EnvOk E P) {F sz g : Nat} (S : SortFn P F sz) {x y : Fun} (hf : E.fn F = some x) (hgf : E.fn g = some y) {α : Type} {f : α -> List PV} (hfl : ∀ a, (f a).length = sz) (hfo : ∀ a, (f a).all pone = true) (hnk : ∀ a, ∀ z ∈ f a, ∀ j, NK j z)
  {cf : α -> α -> Int} (hO : SWO (ltOf cf)) {l : List α} (hg : ∀ a ∈ l, ∀ b ∈ l, PTp E P g [.agg (f a), .agg (f b)] (.v (.int .i64 (cf a b)))) {rest : List PV} {k i c es : Nat} {w : Wm} (hw : w = .rw \/ w = .own) (hM : M k i = some (.row w es (l.flatMap f ++ rest))) (hro : rest.all pone = true)
  (hl : l.length < 4611686018427387904) (hl0 : l ≠ []) :
  PT E P F [.sl k i 0 l.length c, .fn g [] []] M (fun z M1 => z = .tup [] /\ ∃ l' : List α, Srtd cf l l' /\ M1 = putM M k i (.row .rw es (l'.flatMap f ++ rest))) := by
 have h0 : PTk E P F [.sl k i 0 l.length c, .fn g [] []] M (fun _ z M1 => z = .tup [] /\ ∃ l' : List α, Srtd cf l l' /\ M1 = putM M k i (.row .rw es (l'.flatMap f ++ rest))) := by
  refine PTk.lift fun cx k0 sA vargs hfr hs ha => ?_
  have hn : 0 < l.length := List.length_pos_iff.2 hl0
  have hlk : (⟨[], 0, k0, [], M⟩ : PSt).look k i = some (.row w es (l.flatMap f ++ rest)) /\ k ≠ k0 := by
   have : k ≠ k0 := fun q => by rw [q, hfr i] at hM; cases hM
   exact ⟨by unfold PSt.look; rw [if_neg this]; exact hM, this⟩
  obtain ⟨hlk1, hk0⟩ := hlk
  have hmem : (⟨[], 0, k0, [], M⟩ : PSt).mem = M := segNil fun j => hfr j
  have hps : ∀ {o : Obj}, ((⟨[], 0, k0, [], M⟩ : PSt).putO k i o) = ⟨[], 0, k0, [], putM M k i o⟩ := fun {o} => by unfold PSt.putO; rw [if_neg hk0]
  have hnil : ∀ {o : Obj}, (⟨[], 0, k0, [], putM M k i o⟩ : PSt).mem = putM M k i o := fun {o} => segNil fun j => by
   show (if k0 = k /\ j = i then some o else M k0 j) = none
   rw [if_neg (fun e => hk0 e.1.symm)]; exact hfr j
  cases ha with
  | cons h1 ha =>
  cases ha with
  | cons h2 ha =>
  cases ha
  cases h1 with
  | sl a1 =>
  rename_i r
  cases h2 with
  | @fn _ _ _ fx fy hx hy =>
  have efx : fx = #[] := by
   have := hx.length
   apply Array.eq_empty_of_size_eq_zero
   rw [<- Array.length_toList, <- this]; rfl
  have efy : fy = #[] := by
   have := hy.length
   apply Array.eq_empty_of_size_eq_zero
   rw [<- Array.length_toList, <- this]; rfl
  subst efx efy
  have hpg : PG E cx M sA.m := by have := hs.pg; rw [hmem] at this; exact this
  obtain ⟨r', vs, md, q, e1, e2, e3, e4, e5⟩ := hpg.obj k i _ hM
  rw [a1] at e1; cases e1
  have hlv := e3.length
  rw [List.length_append, flat_len' hfl] at hlv
  let lN : Nat -> α := fun j => l[min j (l.length - 1)]'(by omega)
  let cfN : Nat -> Nat -> Int := fun a b => cf (lN a) (lN b)
  have hON : SWO (ltOf cfN) := ⟨fun a => hO.irrefl (lN a), fun a b c => hO.trans (lN a) (lN b) (lN c), fun a b c => hO.ntrans (lN a) (lN b) (lN c)⟩
  have hrow : ∀ j, PRs cx (f (lN j)) (Am.rowAt vs sz l.length j) := fun j => by
   have h3 := (e3.drop (min j (l.length - 1) * sz)).take sz
   rw [flat_at hfl (x := lN j) rest (List.getElem?_eq_getElem (by omega))] at h3
   exact h3
  have hpgN := hpg.roN hw hM a1
  have hPR : ∀ j, PR (cxN cx E.ng) (.agg (f (lN j))) (.agg (Am.rowAt vs sz l.length j).toArray) := fun j =>
   .agg (by simpa using PRs.toN (fun _ _ e => cxN_im e) (hrow j) fun k => NKs.of' fun z hz => hnk _ z hz k)
  have hcmp : ∀ a b, ∃ m1, CanT E P (.call g [.agg (Am.rowAt vs sz l.length a).toArray, .agg (Am.rowAt vs sz l.length b).toArray]) (Am.roN sA.m r) (.int .i64 (cfN a b)) m1 := fun a b => by
   obtain ⟨v, m1, cx1, x1, M1, g1, g2, g3, g4, g5, g6⟩ := hg (lN a) (List.getElem_mem _) (lN b) (List.getElem_mem _) (fun _ _ => none) _ _ _ hpgN (.cons (hPR a) (.cons (hPR b) .nil))
   subst g5
   obtain ⟨rfl, _⟩ := g4.flat_eq
   exact ⟨m1, g1⟩
  have hperm := (pdq_sorts (ltOf cfN) hON (Array.range l.length) 0 l.length (Lib.bitLen l.length) true true (Nat.zero_le _) (by simp) (Or.inl rfl))
  have hsz : (pdq (ltOf cfN) (Array.range l.length) 0 l.length (Lib.bitLen l.length) true true).size = l.length := by rw [hperm.1.1]; simp
  have hpl : (permN l.length cfN).Perm (List.range l.length) := by
   have h3 := hperm.1.2.2
   rw [show (pdq (ltOf cfN) (Array.range l.length) 0 l.length (Lib.bitLen l.length) true true).extract 0 l.length = pdq (ltOf cfN) (Array.range l.length) 0 l.length (Lib.bitLen l.length) true true from by
    conv => lhs; rw [<- hsz]
    simp [hsz]] at h3
   have h4 : (Array.range l.length).extract 0 l.length = Array.range l.length := by simp
   rw [h4, Array.toList_range] at h3
   exact h3
  have hmap : (List.range l.length).map lN = l := by
   apply List.ext_getElem
   ·simp
   ·intro j h3 h4
    simp only [List.getElem_map, List.getElem_range]
    show l[min j (l.length - 1)] = l[j]
    congr 1; omega
  have hS : Srtd cf l ((permN l.length cfN).map lN) := by
   refine ⟨by have := hpl.map lN; rw [hmap] at this; exact this, ?_⟩
   refine List.pairwise_map.2 (List.pairwise_iff_getElem.2 fun a b ha hb hab => ?_)
   have ha' : a < (pdq (ltOf cfN) (Array.range l.length) 0 l.length (Lib.bitLen l.length) true true).size := by simpa [permN] using ha
   have hb' : b < (pdq (ltOf cfN) (Array.range l.length) 0 l.length (Lib.bitLen l.length) true true).size := by simpa [permN] using hb
   have h3 := hperm.2 a b (Nat.zero_le _) hab (by rw [<- hsz]; exact hb')
   rw [getElem!_pos (pdq (ltOf cfN) (Array.range l.length) 0 l.length (Lib.bitLen l.length) true true) a ha', getElem!_pos (pdq (ltOf cfN) (Array.range l.length) 0 l.length (Lib.bitLen l.length) true true) b hb'] at h3
   exact of_decide_eq_false h3
  have hpn : (permN l.length cfN).length = l.length := by rw [hpl.length_eq, List.length_range]
  have hws : PRs cx (((permN l.length cfN).map lN).flatMap f) (sortC vs sz l.length cfN) := by
   unfold sortC
   generalize permN l.length cfN = pl
   induction pl with
   | nil => exact .nil
   | cons a pl ih => rw [List.map_cons, List.flatMap_cons, List.flatMap_cons]; exact (hrow a).append ih
  have hwl : (((permN l.length cfN).map lN).flatMap f).length = l.length * sz := by rw [flat_len' hfl, List.length_map, hpn]
  have hwo : (((permN l.length cfN).map lN).flatMap f).all pone = true := by
   exact flat_all hfo _
  have hsp : psplice (l.flatMap f ++ rest) 0 (((permN l.length cfN).map lN).flatMap f) = ((permN l.length cfN).map lN).flatMap f ++ rest := by
   unfold psplice
   rw [List.take_zero, List.nil_append, Nat.zero_add, hwl, List.drop_left' (flat_len' hfl l)]
  have hallo : allOne vs = true := by
   refine allOne_sim e3 ?_
   rw [List.all_append, hro, Bool.and_true]
   exact flat_all hfo l
  rcases hw with rfl | rfl
  ·obtain ⟨rfl, rfl⟩ := e4 (by simp)
   obtain ⟨vs', f1, f2, f3, f4, f5⟩ := after_store hs hlk1 a1 hws hwo (o := 0) (by rw [hwl, List.length_append, flat_len' hfl]; omega)
   rw [e2] at f1; cases f1
   rw [hsp, hps] at f5
   exact ⟨_, _, cx, .tup [], _, sort_can hE S hf hgf hON e2 hn (by omega) hallo hl hcmp f4, .tup .nil, Ext.refl _ _, f5, rfl, _, hS, hnil⟩
  ·obtain ⟨rfl, hbar, hsh⟩ := e4 (by simp)
   have hr2 : PRs cx (psplice (l.flatMap f ++ rest) 0 (((permN l.length cfN).map lN).flatMap f)) (splice vs 0 (sortC vs sz l.length cfN)) := by
    have hlw := hws.length
    rw [splice_eq _ _ _ (by rw [<- hlw, hwl]; omega)]
    exact psplice_sim e3 hws 0
   obtain ⟨m0, k1, ⟨cx', k2, k3, k4⟩, _, _, _⟩ := after_updOwn hs a1 hlk1 e2 hbar hsh hr2 (x := .tup []) (v := .tuple #[]) (.tup .nil)
   rw [hsp, hps] at k4
   have hlw := hws.length
   have hone := allOne_sim hws hwo
   have hst : sA.m.storeCells ⟨r, 0, none⟩ (sortC vs sz l.length cfN) = some (m0.upd r (some (.row (splice vs 0 (sortC vs sz l.length cfN)) .rw es none))) := by
    simp only [Mem.storeCells, e2, bleT hbar, bleT (show 0 + (sortC vs sz l.length cfN).length <= vs.length by rw [<- hlw, hwl]; omega), hone, Bool.and_self, cond_true, k1, Option.map_some]
   exact ⟨_, _, cx', .tup [], _, sort_can hE S hf hgf hON e2 hn (by omega) hallo hl hcmp hst, k2, k3, k4, rfl, _, hS, hnil⟩
 exact h0
end
end Go.Pm
namespace Go.Proofs.YthjlhgjnjhmfbaaGreatDoor
open Go Go.Proofs Go.Shelf Go.Am
def sortEn_ren : Go.Shelf.Ren := ⟨fun | 6 => 28 | 15 => 52 | 14 => 51 | 28 => 78 | 29 => 79 | 20 => 70 | 21 => 71 | 22 => 72 | 23 => 73 | 24 => 74 | 25 => 75 | 26 => 76 | 27 => 77 | 46 => 101 | 47 => 102 | 48 => 103 | 49 => 104 | 50 => 105 | 57 => 121 | n => n, fun | 22 => 22 | 24 => 55 | 25 => 64 | 3 => 3 | 39 => 86 | 0 => 0 | 53 => 113 | 55 => 115 | 4 => 4 | 46 => 107 | 45 => 106 | 50 => 58 | 5 => 5 | 9 => 9 | 66 => 135 | 70 => 139 | 76 => 147 | 77 => 148 | n => n, fun | n => n⟩
theorem sortEn : Go.Proofs.SlLaysF0.n6 Tryz.prog sortEn_ren := {
  mixed := by kernel_rfl
  f6 := ⟨Tryz.f28.name, by decide, Tryz.func28.trans (congrArg some (by kernel_rfl))⟩
  f14 := ⟨Tryz.f51.name, by decide, Tryz.func51.trans (congrArg some (by kernel_rfl))⟩
  f15 := Tryz.func52.trans (congrArg some (by kernel_rfl))
  f20 := ⟨Tryz.f70.name, by decide, Tryz.func70.trans (congrArg some (by kernel_rfl))⟩
  f21 := ⟨Tryz.f71.name, by decide, Tryz.func71.trans (congrArg some (by kernel_rfl))⟩
  f22 := ⟨Tryz.f72.name, by decide, Tryz.func72.trans (congrArg some (by kernel_rfl))⟩
  f23 := ⟨Tryz.f73.name, by decide, Tryz.func73.trans (congrArg some (by kernel_rfl))⟩
  f24 := ⟨Tryz.f74.name, by decide, Tryz.func74.trans (congrArg some (by kernel_rfl))⟩
  f25 := ⟨Tryz.f75.name, by decide, Tryz.func75.trans (congrArg some (by kernel_rfl))⟩
  f26 := ⟨Tryz.f76.name, by decide, Tryz.func76.trans (congrArg some (by kernel_rfl))⟩
  f27 := ⟨Tryz.f77.name, by decide, Tryz.func77.trans (congrArg some (by kernel_rfl))⟩
  f28 := Tryz.func78.trans (congrArg some (by kernel_rfl))
  f29 := Tryz.func79.trans (congrArg some (by kernel_rfl))
  f46 := ⟨Tryz.f101.name, by decide, Tryz.func101.trans (congrArg some (by kernel_rfl))⟩
  f47 := Tryz.func102.trans (congrArg some (by kernel_rfl))
  f48 := Tryz.func103.trans (congrArg some (by kernel_rfl))
  f49 := ⟨Tryz.f104.name, by decide, Tryz.func104.trans (congrArg some (by kernel_rfl))⟩
  f50 := ⟨Tryz.f105.name, by decide, Tryz.func105.trans (congrArg some (by kernel_rfl))⟩
  f57 := ⟨Tryz.f121.name, by decide, Tryz.func121.trans (congrArg some (by kernel_rfl))⟩
  t0 := Tryz.underlying0
  a0 := Tryz.isAgg0
  z0 := Tryz.sizeOf0
  v0 := Tryz.zeroValue0
  t3 := Tryz.underlying3
  a3 := Tryz.isAgg3
  z3 := Tryz.sizeOf3
  v3 := Tryz.zeroValue3
  t4 := Tryz.underlying4
  a4 := Tryz.isAgg4
  z4 := Tryz.sizeOf4
  v4 := Tryz.zeroValue4
  t5 := Tryz.underlying5
  a5 := Tryz.isAgg5
  z5 := Tryz.sizeOf5
  v5 := Tryz.zeroValue5
  t9 := Tryz.underlying9
  a9 := Tryz.isAgg9
  z9 := Tryz.sizeOf9
  v9 := Tryz.zeroValue9
  t22 := Tryz.underlying22
  a22 := Tryz.isAgg22
  z22 := Tryz.sizeOf22
  v22 := Tryz.zeroValue22
  t25 := Tryz.underlying64
  a25 := Tryz.isAgg64
  z25 := Tryz.sizeOf64
  v25 := Tryz.zeroValue64
  t39 := Tryz.underlying86
  a39 := Tryz.isAgg86
  z39 := Tryz.sizeOf86
  v39 := Tryz.zeroValue86
  t45 := Tryz.underlying106
  a45 := Tryz.isAgg106
  z45 := Tryz.sizeOf106
  v45 := Tryz.zeroValue106
  t46 := Tryz.underlying107
  a46 := Tryz.isAgg107
  z46 := Tryz.sizeOf107
  v46 := Tryz.zeroValue107
  t50 := Tryz.underlying58
  a50 := Tryz.isAgg58
  z50 := Tryz.sizeOf58
  v50 := Tryz.zeroValue58
  t53 := Tryz.underlying113
  a53 := Tryz.isAgg113
  z53 := Tryz.sizeOf113
  v53 := Tryz.zeroValue113
  t55 := Tryz.underlying115
  a55 := Tryz.isAgg115
  z55 := Tryz.sizeOf115
  v55 := Tryz.zeroValue115
  t66 := Tryz.underlying135
  a66 := Tryz.isAgg135
  z66 := Tryz.sizeOf135
  v66 := Tryz.zeroValue135
  t70 := Tryz.underlying139
  a70 := Tryz.isAgg139
  z70 := Tryz.sizeOf139
  v70 := Tryz.zeroValue139
  t76 := Tryz.underlying147
  a76 := Tryz.isAgg147
  z76 := Tryz.sizeOf147
  v76 := Tryz.zeroValue147
  t77 := Tryz.underlying148
  a77 := Tryz.isAgg148
  z77 := Tryz.sizeOf148
  v77 := Tryz.zeroValue148 }
theorem sortFn : SortFn Tryz.prog 28 4 :=
  ⟨fun p cap fv w => AnyF.slices_SortFunc_none sortEn p cap fv w,
   fun enc hk h1 cf hO g cb blk off cap d w eg hcmp hH hblk hsz => AnyQ.slices_SortFunc_eq sortEn 4 Tryz.isAgg55 Tryz.sizeOf55 enc hk h1 cf hO g cb blk off cap d w eg hcmp hH hblk hsz⟩
end Go.Proofs.YthjlhgjnjhmfbaaGreatDoor
noncomputable section
namespace Go.Proofs.YthjlhgjnjhmfbaaGreatDoor
open Go Go.Am Go.Pm
def allOk (t : List En) (a b : List UInt8) : Bool := t.all fun x => pathOk (rep a b x).path
def mvE (t : List En) (a b : List UInt8) : Int :=
 if treeOk t = false then 2 else if pathOk a = false then 2 else if pathOk b = false then 2
 else if getE' t a = none then 6
 else if (b == a || underB a b) = true then 13
 else if (getE' t b).isSome = true then 7
 else if parI t b ≠ 0 then parI t b
 else if allOk t a b = true then 0 else 2
def MvR (t : List En) (a b : List UInt8) (L : List En) : Prop := (mvE t a b ≠ 0 -> L = []) /\ (mvE t a b = 0 -> Mv t a b L)
def wrE (n : Int) : PV -> PV := fun v => .tup [v, iv n]
theorem bad7 {t : List En} {a b : List UInt8} {M M1 : PMem} {nk : Nat} {e : Int} (he : mvE t a b = e) (hne : e ≠ 0) (hS : Pm.Sub M M1) : ∃ L, TldV enCells 4 (wrE (mvE t a b)) M M1 nk (.tup [.lst .full 0 0 [], iv e]) L /\ MvR t a b L :=
 ⟨[], ⟨⟨.lst .full 0 0 [], by rw [he]; rfl, .nil 0, fun j e => by cases e⟩, hS⟩, fun _ => rfl, fun h => absurd (he ▸ h) hne⟩
theorem set_path : ∀ (R : List En) (i : Nat) (x : En) (p : List UInt8), R[i]? = some x -> psplice (R.flatMap enCells) (i * 4) [str p] = (R.set i { x with path := p }).flatMap enCells
 | [], i, x, p, h => by simp at h
 | y :: R, 0, x, p, h => by
  simp only [List.getElem?_cons_zero, Option.some.injEq] at h
  subst h
  rfl
 | y :: R, i + 1, x, p, h => by
  have ih := set_path R i x p (by simpa using h)
  unfold psplice at ih ⊢
  have e : (i + 1) * 4 = 4 + i * 4 := by omega
  rw [List.set_cons_succ, List.flatMap_cons, List.flatMap_cons, <- ih, e]
  have e1 : (enCells y ++ R.flatMap enCells).take (4 + i * 4) = enCells y ++ (R.flatMap enCells).take (i * 4) := by
   rw [List.take_append, List.take_of_length_le (by show 4 <= _; omega)]
   congr 2
   show 4 + i * 4 - 4 = _
   omega
  have e2 : (enCells y ++ R.flatMap enCells).drop (4 + i * 4 + [str p].length) = (R.flatMap enCells).drop (i * 4 + [str p].length) := by
   rw [List.drop_append, List.drop_of_length_le (by show 4 <= _; omega), List.nil_append]
   congr 1
   show 4 + i * 4 + 1 - 4 = i * 4 + 1
   omega
  rw [e1, e2, List.append_assoc]
def doneL (t : List En) (a b : List UInt8) (i : Nat) : List En := (t.take i).map (rep a b) ++ t.drop i
theorem done_get {t : List En} {a b : List UInt8} {i : Nat} {x : En} (h : t[i]? = some x) : (doneL t a b i)[i]? = some x := by
 have hi := lt_get h
 unfold doneL
 rw [List.getElem?_append_right (by rw [List.length_map, List.length_take]; omega), List.length_map, List.length_take, Nat.min_eq_left (by omega), Nat.sub_self, List.getElem?_drop, Nat.add_zero]
 exact h
theorem done_set {t : List En} {a b : List UInt8} {i : Nat} {x : En} (h : t[i]? = some x) : (doneL t a b i).set i (rep a b x) = doneL t a b (i + 1) := by
 have hi := lt_get h
 unfold doneL
 rw [List.set_append_right _ _ (by rw [List.length_map, List.length_take]; omega), List.length_map, List.length_take, Nat.min_eq_left (by omega), Nat.sub_self, take_snoc h, List.map_append, List.append_assoc]
 congr 1
 have hd : t.drop i = x :: t.drop (i + 1) := by
  rw [List.drop_eq_getElem_cons hi]
  congr 1
  have := List.getElem?_eq_getElem hi
  rw [h] at this
  exact (Option.some.inj this).symm
 rw [hd]; rfl
theorem done_len {t : List En} {a b : List UInt8} {i : Nat} : (doneL t a b i).length = t.length := by
 unfold doneL
 rw [List.length_append, List.length_map, List.length_take, List.length_drop]
 omega
theorem all_at {t : List En} {a b : List UInt8} {i : Nat} {x : En} (h : t[i]? = some x) : allOk (t.take (i + 1)) a b = (allOk (t.take i) a b && pathOk (rep a b x).path) := by
 unfold allOk
 rw [take_snoc h, List.all_append, List.all_cons, List.all_nil, Bool.and_true]
section
variable {t : List En} {a b : List UInt8}
theorem loop7 (ht : Fit t) (hT : treeOk t = true) (hpa : pathOk a = true) (hpt : ∀ x ∈ t, x.path.length <= 1000) (ha : a.length <= 1000) (hb : b.length <= 1000) (M1 : PMem) (k k1 i1 c : Nat) (hk1 : k1 ≠ k) (Q : AExit -> PSt -> Prop)
  (q1 : allOk t a b = true -> ∀ tm w, (w = .rw \/ w = .own) -> tget tm 13 = .sl k1 i1 0 t.length c -> Q (.exit 1) ⟨tm, 108, k, [], putM M1 k1 i1 (rowV w enCells 4 (t.map (rep a b)))⟩)
  (q2 : allOk t a b = false -> ∀ tm w R, tget tm 6 = .lst .full 0 0 [] -> tget tm 7 = iv 2 -> Q .ret ⟨tm, 108, k, [], putM M1 k1 i1 (rowV w enCells 4 R)⟩) :
  ∀ d i w tm, t.length - i = d -> i <= t.length -> (w = .rw \/ w = .own) -> allOk (t.take i) a b = true -> tget tm 1 = str a -> tget tm 2 = str b -> tget tm 13 = .sl k1 i1 0 t.length c -> tget tm 64 = iv t.length -> tget tm 65 = iv i →
   RXL env Tryz.prog none c7_54 ⟨tm, 108, k, [], putM M1 k1 i1 (rowV w enCells 4 (doneL t a b i))⟩ Q := by
 intro d
 induction d with
 | zero =>
  intro i w tm hd hi hw0 hok t1 t2 t13 t64 t65
  have : i = t.length := by omega
  subst this
  rw [List.take_length] at hok
  have hdn : doneL t a b t.length = t.map (rep a b) := by unfold doneL; rw [List.take_length, List.drop_length, List.append_nil]
  rw [hdn]
  refine RXL.round (RX.of env_ok ?_)
  simp only [G0, Z1, Z2, Z3, Z4, Z5, t64, t65, Int.lt_irrefl, decide_false]
  exact q1 hok _ w hw0 t13
 | succ d ih =>
  intro i w tm hd hi hw0 hok t1 t2 t13 t64 t65
  have hi' : i < t.length := by omega
  have hii : (i : Int) < t.length := by omega
  have hlen := ht.len
  obtain ⟨x, hx, -⟩ := getE hi'
  have hxm := List.mem_of_getElem? hx
  have hg := done_get (a := a) (b := b) hx
  have hxp := hpt x hxm
  have hpx : pathOk x.path = true := (tree_iff.1 hT).ok x hxm
  have hcell : ((doneL t a b i).flatMap enCells)[i * 4]? = some (str x.path) := en_path hg
  have hia := fun (kk : IntKind) => ia_sl (k := k1) (i := i1) (o := 0) (n := t.length) (c := c) (sz := 4) (kk := kk) hi'
  have hld : ∀ {w : Wm} {R : List En} {ag : Bool} {n o : Nat} {os : List Pm.Obj}, loadP k os (putM M1 k1 i1 (rowV w enCells 4 R)) ag n (.ptr k1 i1 o) = ptake ag n (R.flatMap enCells) o := fun {w R ag n o os} => by
   rw [loadP_out hk1, putM_same, rt_rowV]
  have hw : IntKind.i64.wrap ((i : Int) + 1) = ((i + 1 : Nat) : Int) := by rw [wrap64_id (by omega) (by omega)]; rfl
  have hall := all_at (a := a) (b := b) hx
  rw [hok, Bool.true_and] at hall
  have hskip : rep a b x = x -> pathOk (rep a b x).path = true /\ doneL t a b (i + 1) = doneL t a b i := fun e => by
   refine ⟨by rw [e]; exact hpx, ?_⟩
   rw [<- done_set hx, e]
   obtain ⟨hh, he⟩ := List.getElem?_eq_some_iff.1 hg
   rw [<- he]
   exact List.set_getElem_self hh
  refine RXL.round (RX.of env_ok ?_)
  simp only [G0, Z1, Z2, Z3, Z4, Z5, t1, t13, t64, t65, hii, decide_true, hia, Nat.zero_add, hld, ptake_one, hcell, str_neq]
  have hmvd : ∀ (hm : (x.path == a || underB a x.path) = true), (rep a b x).path = b ++ x.path.drop a.length /\ a.length <= x.path.length := fun hm => by
   obtain ⟨s, hs, hk⟩ := (mv_iff hpa hpx).1 hm
   refine ⟨?_, by rw [hs, List.length_append]; omega⟩
   unfold rep
   rw [if_pos hm]
  have hadd : ∀ (E : Env) (tt : Nat) (cc dd : Bool), pbin E .add tt cc dd (str b) (str (x.path.drop a.length)) = some (str (b ++ x.path.drop a.length)) := fun E tt cc dd => str_add (by rw [List.length_drop]; omega)
  have hdl : (x.path.drop a.length).length <= 1000 := by rw [List.length_drop]; omega
  have hnl : (b ++ x.path.drop a.length).length <= 1000000 := by rw [List.length_append]; omega
  have hso : storeO 1 (i * 4) (str (b ++ x.path.drop a.length)) (some (rowV w enCells 4 (doneL t a b i))) = some (rowV .rw enCells 4 ((doneL t a b i).set i { x with path := b ++ x.path.drop a.length })) := by
   have hl4 : ((doneL t a b i).flatMap enCells).length = (doneL t a b i).length * 4 := fl_len (f := enCells) (sz := 4) (fun _ => rfl) _
   have hfit : (pcells (str (b ++ x.path.drop a.length))).length = 1 /\ i * 4 + (pcells (str (b ++ x.path.drop a.length))).length <= ((doneL t a b i).flatMap enCells).length /\ (pcells (str (b ++ x.path.drop a.length))).all pone = true := ⟨rfl, by rw [hl4, done_len]; show i * 4 + 1 <= _; omega, rfl⟩
   unfold rowV
   rcases hw0 with rfl | rfl
   ·rw [storeO_eq hfit]; exact congrArg (fun z => some (Pm.Obj.row .rw 4 z)) (set_path _ i x _ hg)
   ·rw [storeO_own hfit]; exact congrArg (fun z => some (Pm.Obj.row .rw 4 z)) (set_path _ i x _ hg)
  have hst : ∀ {tm : List (Nat × PV)} {nt : Nat} {os : List Pm.Obj}, storeP tm nt k os (putM M1 k1 i1 (rowV w enCells 4 (doneL t a b i))) 1 (str (b ++ x.path.drop a.length)) (.ptr k1 i1 (i * 4)) = some (.junk, ⟨tm, nt, k, os, putM M1 k1 i1 (rowV .rw enCells 4 ((doneL t a b i).set i { x with path := b ++ x.path.drop a.length }))⟩) := fun {tm nt os} => by
   rw [storeP_out hk1, putM_same, hso, stO_eq, putM_put]
  have hcell2 : (((doneL t a b i).set i { x with path := b ++ x.path.drop a.length }).flatMap enCells)[i * 4]? = some (str (b ++ x.path.drop a.length)) := en_path (x := { x with path := b ++ x.path.drop a.length }) (by rw [List.getElem?_set_self (by rw [done_len]; exact hi')])
  have hrep : ∀ (hm : (x.path == a || underB a x.path) = true), ({ x with path := b ++ x.path.drop a.length } : En) = rep a b x := fun hm => by unfold rep; rw [if_pos hm]
  cases hpx' : (x.path == a) with
  | true =>
   have hm : (x.path == a || underB a x.path) = true := by rw [hpx']; rfl
   obtain ⟨hnew, hal⟩ := hmvd hm
   have hdrop : sliceS (str x.path) (some (iv a.length)) none = some (str (x.path.drop a.length)) := str_from hal
   rw [hrep hm] at hst hcell2
   simp only [G0, Z1, Z2, Z3, Z4, Z5, str_neq, hpx', Bool.not_true]
   simp only [G0, Z1, Z2, Z3, Z4, Z5, t1, t2, cnd_t, cnd_f, hcell, hld, ptake_one, hdrop, hadd, hst, hcell2]
   refine cp0 (path_check _ hnl) (by decide) ?_
   rw [<- hnew]
   cases hpk : pathOk (rep a b x).path with
   | false =>
    simp only [G0, Z1, Z2, Z3, Z4, Z5, ne_err, Bool.not_false]
    refine q2 ?_ _ .rw _ rfl rfl
    refine List.all_eq_false.2 ⟨x, hxm, by rw [hpk]; decide⟩
   | true =>
    rw [hpk] at hall
    simp only [G0, Z1, Z2, Z3, Z4, Z5, ne_err, Bool.not_true, t65, hw]
    rw [done_set hx]
    exact ih (i + 1) .rw _ (by omega) (by omega) (.inl rfl) hall t1 t2 t13 t64 rfl
  | false =>
   simp only [G0, Z1, Z2, Z3, Z4, Z5, t1, cnd_t, str_neq, hpx', Bool.not_false, hcell, hld, ptake_one]
   refine cp0 (under17 a x.path (by omega) (by omega)) (by decide) ?_
   cases hu : underB a x.path with
   | false =>
    have hm : (x.path == a || underB a x.path) = false := by rw [hpx', hu]; rfl
    have e : rep a b x = x := by unfold rep; rw [if_neg (by rw [hm]; decide)]
    obtain ⟨h1, h2⟩ := hskip e
    rw [h1] at hall
    simp only [G0, Z1, Z2, Z3, Z4, Z5, Bool.not_false, t65, hw]
    rw [<- h2]
    exact ih (i + 1) w _ (by omega) (by omega) hw0 hall t1 t2 t13 t64 rfl
   | true =>
    have hm : (x.path == a || underB a x.path) = true := by rw [hu]; simp
    obtain ⟨hnew, hal⟩ := hmvd hm
    have hdrop : sliceS (str x.path) (some (iv a.length)) none = some (str (x.path.drop a.length)) := str_from hal
    rw [hrep hm] at hst hcell2
    simp only [G0, Z1, Z2, Z3, Z4, Z5, Bool.not_true]
    simp only [G0, Z1, Z2, Z3, Z4, Z5, t1, t2, cnd_t, cnd_f, hcell, hld, ptake_one, hdrop, hadd, hst, hcell2]
    refine cp0 (path_check _ hnl) (by decide) ?_
    rw [<- hnew]
    cases hpk : pathOk (rep a b x).path with
    | false =>
     simp only [G0, Z1, Z2, Z3, Z4, Z5, ne_err, Bool.not_false]
     refine q2 ?_ _ .rw _ rfl rfl
     refine List.all_eq_false.2 ⟨x, hxm, by rw [hpk]; decide⟩
    | true =>
     rw [hpk] at hall
     simp only [G0, Z1, Z2, Z3, Z4, Z5, ne_err, Bool.not_true, t65, hw]
     rw [done_set hx]
     exact ih (i + 1) .rw _ (by omega) (by omega) (.inl rfl) hall t1 t2 t13 t64 rfl
end
end Go.Proofs.YthjlhgjnjhmfbaaGreatDoor
end
namespace Go.Proofs.YthjlhgjnjhmfbaaGreatDoor
open Go Go.Am Go.Pm
theorem by_swo : Go.Sort.SWO (ltOf byI) := by
 have hlt : ∀ x y : En, ltOf byI x y = lessB x.path y.path := fun x y => by
  unfold ltOf
  cases h : lessB x.path y.path with
  | true => exact decide_eq_true (byI_neg.2 h)
  | false => exact decide_eq_false (fun e => by rw [byI_neg, h] at e; cases e)
 constructor
 ·intro x; rw [hlt]; exact less_irr _
 ·intro x y z h1 h2; rw [hlt] at *; exact less_trans h1 h2
 ·intro x y z h1 h2
  rw [hlt] at *
  cases h : lessB x.path z.path with
  | false => rfl
  | true =>
   cases h3 : lessB y.path x.path with
   | true => have := less_trans h3 h; rw [h2] at this; cases this
   | false =>
    have e := less_tot h1 h3
    rw [e, h2] at h; cases h
section
variable {t : List En} {a b : List UInt8}
theorem move_raw (ht : Fit t) (hpt : ∀ x ∈ t, x.path.length <= 1000) (ha : a.length <= 1000) (hb : b.length <= 1000) (M : PMem) :
  PTk env Tryz.prog 7 [encEns t, str a, str b] M (fun nk z M1 => ∃ L, TldV enCells 4 (wrE (mvE t a b)) M M1 nk z L /\ MvR t a b L) := by
 have hl := ht.len
 refine PTk.enterR env_ok fn7 (by simp) comp7 fun k hk hf => RX.of env_ok ?_
 have hS0 : Pm.Sub M (seg M k []) := sub_seg (Pm.Sub.refl M) hf
 simp only [G0, Z1, Z2, Z3, Z4, Z5, argsP]
 refine cp0 (check14 t (by omega) ht.path) (by decide) ?_
 cases hT : treeOk t with
 | false =>
  simp only [G0, Z1, Z2, Z3, Z4, Z5, ne_err, Bool.not_false, Bool.not_true, cnd_t, cnd_f]
  exact endM2 rfl rfl (bad7 (by simp [mvE, hT]) (by decide) hS0)
 | true =>
 simp only [G0, Z1, Z2, Z3, Z4, Z5, ne_err, Bool.not_false, Bool.not_true, cnd_t, cnd_f]
 refine cp0 (path_check a (by omega)) (by decide) ?_
 cases hpa : pathOk a with
 | false =>
  simp only [G0, Z1, Z2, Z3, Z4, Z5, ne_err, Bool.not_false, Bool.not_true, cnd_t, cnd_f]
  exact endM2 rfl rfl (bad7 (by simp [mvE, hT, hpa]) (by decide) hS0)
 | true =>
 simp only [G0, Z1, Z2, Z3, Z4, Z5, ne_err, Bool.not_false, Bool.not_true, cnd_t, cnd_f]
 refine cp0 (path_check b (by omega)) (by decide) ?_
 cases hpb : pathOk b with
 | false =>
  simp only [G0, Z1, Z2, Z3, Z4, Z5, ne_err, Bool.not_false, Bool.not_true, cnd_t, cnd_f]
  exact endM2 rfl rfl (bad7 (by simp [mvE, hT, hpa, hpb]) (by decide) hS0)
 | true =>
 simp only [G0, Z1, Z2, Z3, Z4, Z5, ne_err, Bool.not_false, Bool.not_true, cnd_t, cnd_f]
 refine cp0 (find40 t (by omega) a) (by decide) ?_
 simp only [G0, Z1, Z2, Z3, Z4, Z5]
 refine cp0 (find40 t (by omega) b) (by decide) ?_
 rcases fnd_find t a with ⟨ga, fa⟩ | ⟨xa, ja, ga, fa, hja⟩
 ·have hg : ¬ ((-1 : Int) >= 0) := by decide
  rw [fa]
  simp only [G0, Z1, Z2, Z3, Z4, Z5, hg, decide_false, Bool.not_false]
  exact endM2 rfl rfl (bad7 (by simp [mvE, hT, hpa, hpb, ga]) (by decide) hS0)
 have hga : ((ja : Nat) : Int) >= 0 := by omega
 rw [fa]
 have hun := under17 a b (by omega) (by omega)
 cases hbs : (b == a || underB a b) with
 | true =>
  cases hba : (b == a) with
  | true =>
   simp only [G0, Z1, Z2, Z3, Z4, Z5, hga, decide_true, Bool.not_true, str_eql, hba, cnd_t, cnd_f]
   exact endM2 rfl rfl (bad7 (by simp only [mvE, hT, hpa, hpb, ga, hbs]; rfl) (by decide) hS0)
  | false =>
   rw [hba, Bool.false_or] at hbs
   simp only [G0, Z1, Z2, Z3, Z4, Z5, hga, decide_true, Bool.not_true, str_eql, hba, cnd_t, cnd_f]
   refine cp0 hun (by decide) ?_
   simp only [G0, Z1, Z2, Z3, Z4, Z5, hbs]
   exact endM2 rfl rfl (bad7 (by simp only [mvE, hT, hpa, hpb, ga, hba, hbs]; rfl) (by decide) hS0)
 | false =>
 have hbs' := hbs
 rw [Bool.or_eq_false_iff] at hbs'
 obtain ⟨hba, hub⟩ := hbs'
 simp only [G0, Z1, Z2, Z3, Z4, Z5, hga, decide_true, Bool.not_true, str_eql, hba, cnd_t, cnd_f]
 refine cp0 hun (by decide) ?_
 rcases fnd_find t b with ⟨gb, fb⟩ | ⟨xb, jb, gb, fb, hjb⟩
 rotate_left
 ·have hgb : ((jb : Nat) : Int) >= 0 := by omega
  rw [fb]
  simp only [G0, Z1, Z2, Z3, Z4, Z5, hub, hgb, decide_true]
  exact endM2 rfl rfl (bad7 (by simp only [mvE, hT, hpa, hpb, ga, hbs, gb]; rfl) (by decide) hS0)
 have hgb : ¬ ((-1 : Int) >= 0) := by decide
 rw [fb]
 simp only [G0, Z1, Z2, Z3, Z4, Z5, hub, hgb, decide_false]
 refine cp0 (parented38 t (by omega) b (by omega)) (by decide) ?_
 by_cases hpar : parI t b = 0
 rotate_left
 ·have hne : (parI t b != 0) = true := by simpa using hpar
  simp only [G0, Z1, Z2, Z3, Z4, Z5, hne]
  exact endM2 rfl rfl (bad7 (by simp only [mvE, hT, hpa, hpb, ga, hbs, gb]; rw [if_neg (by decide), if_neg (by decide), if_neg (by decide), if_neg (by simp), if_neg (by decide), if_neg (by simp), if_pos hpar]) hpar hS0)
 have hne : (parI t b != 0) = false := by rw [hpar]; rfl
 simp only [G0, Z1, Z2, Z3, Z4, Z5, hne]
 have he : mvE t a b = if allOk t a b = true then 0 else 2 := by
  simp only [mvE, hT, hpa, hpb, ga, hbs, gb, hpar]
  rfl
 refine cmk (first := []) (cap := []) ((clone_row t (by omega) ht.bytes _).mono fun nk z M1 hq hnk => ?_)
 obtain ⟨hO, hK, hS⟩ := hq
 rw [segNil hf] at hK hS
 refine ⟨[], M1, rfl, MLe.seg_nil' _ _, by decide, ?_⟩
 cases hO with
 | nil e => simp [getE'] at ga
 | @row k1 i1 n w L hM hn hw hl0 =>
 subst hn
 obtain ⟨g1, g2⟩ := hK k1 rfl
 have hk1 : k1 ≠ k := by omega
 simp only [G0, Z1, Z2, Z3, Z4, Z5, ln_sl]
 have hput : putM M1 k1 i1 (rowV w enCells 4 (doneL t a b 0)) = M1 := by
  funext x y
  unfold putM
  split
  ·rename_i hc
   obtain ⟨rfl, rfl⟩ := hc
   rw [hM]
   unfold rowV doneL
   rfl
  ·rfl
 have hS1 : ∀ o, Pm.Sub M (seg (putM M1 k1 i1 o) k []) := fun o => by
  intro a' i o' e
  have h3 : a' ≠ k := fun e' => by subst e'; rw [hf i] at e; cases e
  have h4 : a' ≠ k1 := fun e' => by subst e'; rw [g1 i] at e; cases e
  rw [seg_ne _ _ _ h3, put_ne (fun y => h4 y.1)]
  exact hS _ _ _ e
 rw [<- hput]
 refine RX.loop (loop7 ht hT hpa hpt ha hb M1 k k1 i1 (loCap t.length 4) hk1 _ (fun hall tm w' hw' t13 => ?_) (fun hall tm w' R t6 t7 => ?_) t.length 0 w _ rfl (Nat.zero_le _) hw rfl (by rfl) (by rfl) (by rfl) (by rfl) (by rfl))
 ·have he0 : mvE t a b = 0 := by rw [he, if_pos hall]
  have hcap := cap_lo (n := t.length) (es := 4) (by decide)
  have hpm : ∀ x ∈ t.map (rep a b), x.path.length <= 1000000 := fun y hy => by
   obtain ⟨x, hx, rfl⟩ := List.mem_map.1 hy
   have := hpt x hx
   unfold rep
   split
   ·show (b ++ x.path.drop a.length).length <= 1000000
    rw [List.length_append, List.length_drop]; omega
   ·omega
  simp only [G0, Z1, Z2, Z3, Z4, Z5, t13]
  have hsort := PT.sort (M := seg (putM M1 k1 i1 (rowV w' enCells 4 (t.map (rep a b)))) k []) env_ok sortFn fn28 fn29 (f := enCells) (fun _ => rfl) (fun _ => rfl) (fun x z hz j => nk_enC j x z hz) by_swo (l := t.map (rep a b)) (fun x hx y hy => by26 x y (hpm x hx) (hpm y hy)) (rest := []) (c := loCap t.length 4) (k := k1) (i := i1) (es := 4) hw' (by rw [seg_ne _ _ _ hk1, putM_same, List.append_nil]; rfl) rfl (by rw [List.length_map]; omega) (by simpa using hl0)
  rw [List.length_map] at hsort
  refine cm (first := []) (cap := []) (hsort.mono fun x M2 hx => ?_)
  obtain ⟨rfl, l', hs, rfl⟩ := hx
  refine ⟨[], putM M1 k1 i1 (.row .rw 4 (l'.flatMap enCells ++ [])), rfl, MLe.of_eq (by rw [put_seg_ne hk1, putM_put]), by decide, ?_⟩
  simp only [G0, Z1, Z2, Z3, Z4, Z5, t13]
  have hlen : l'.length = t.length := by rw [hs.perm.length_eq, List.length_map]
  refine endM2 rfl rfl ⟨l', ⟨⟨.sl k1 i1 0 t.length (loCap t.length 4), by rw [he0]; rfl, .row (rest := []) (w := .rw) (by rw [seg_ne _ _ _ hk1]; exact putM_same _ _ _ _) hlen.symm (.inl rfl) ⟨by rw [hcap.1]; exact Nat.le_refl _, hcap.2⟩ (fun j y hy => by cases hy) rfl, fun j e => by cases e; exact ⟨g1, by omega⟩⟩, hS1 _⟩, fun h => absurd he0 h, fun _ => ?_⟩
  have hT' := tree_iff.1 hT
  obtain ⟨m1, m2⟩ := getE_mem ga
  exact ⟨hT', hpa, hpb, ⟨xa, m1, m2⟩, fun x hx => getE_none gb hx, by simpa using hba, hub, hpar, fun x hx => List.all_eq_true.1 hall x hx, hs.perm, hs.asc⟩
 ·simp only [G0, Z1, Z2, Z3, Z4, Z5]
  exact endM2 t6 t7 (bad7 (by rw [he, if_neg (by rw [hall]; decide)]) (by decide) (hS1 _))
theorem move7 (ht : Fit t) (hpt : ∀ x ∈ t, x.path.length <= 1000) (ha : a.length <= 1000) (hb : b.length <= 1000) (M : PMem) :
  PT env Tryz.prog 7 [encEns t, str a, str b] M (fun z M1 => (∃ u, z = .tup [encEns u, iv (mvE t a b)] /\ MvR t a b u) /\ M1 = M) :=
 told_v (f := enCells) (sz := 4) (fun _ => rfl) nk_enC (wrap_iv (mvE t a b)) (move_raw ht hpt ha hb M)
end
end Go.Proofs.YthjlhgjnjhmfbaaGreatDoor