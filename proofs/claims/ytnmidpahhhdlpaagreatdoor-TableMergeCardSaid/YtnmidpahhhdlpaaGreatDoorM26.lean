/- TableMerge holds. Part 26 of 29; no condition. -/
import Derived.Test.YtnmidpahhhdlpaaGreatDoorM25
set_option linter.unusedVariables false
set_option linter.unusedSimpArgs false
set_option maxHeartbeats 4000000
set_option maxRecDepth 100000
open Nat renaming reduceLT → Z1, reduceEqDiff → Z2, reduceAdd → Z3, reduceLeDiff → Z4, reduceMul → Z5
namespace Go.Pm
open Go.RowKit Go.Am
theorem RX.cut {E : Env} {P : Program} {rd : Option (Nat × Nat)} {a b : RC} {s : PSt} {Q : AExit -> PSt -> Prop} (R : PSt -> Prop) (h : RX E P rd a s (fun e s1 => e = .normal /\ R s1)) (k : ∀ s1, R s1 -> RX E P rd b s1 Q) : RX E P rd (.seq a b) s Q :=
 RX.seq (h.mono fun e s1 hr => by
  obtain ⟨he, hr⟩ := hr
  subst he
  exact k s1 hr)
end Go.Pm
namespace Go.Pm
open Go.RowKit Go.Am
theorem sto_f {tm : List (Nat × PV)} {nt k n i o : Nat} {os : List Obj} {M : PMem} {A B : Operand} {v : PV} {ob : Obj} (hA : pev tm A = .ptr k i o) (hB : pev tm B = v) (h : storeO n o v os[i]? = some ob) : rI none none (rstore n A B) ⟨tm, nt, k, os, M⟩ = some ⟨tm, nt, k, os.set i ob, M⟩ := by
 unfold rI rg
 dsimp only
 rw [r_store, hA, hB]
 unfold storeP
 dsimp only
 rw [if_pos rfl, h]
 rfl
end Go.Pm
namespace Go.Pm
open Go.RowKit Go.Am
section
variable {E : Env} {P : Program} {tm : List (Nat × PV)} {nt k n m i es sz by_ zl d a c o len r : Nat} {os : List Obj} {M : PMem} {A B : Operand} {cs ds z cells : List PV} {t : Tok} {v x : PV} {κ : Kont} {R : PSt -> Prop} {l : List RI} {ps : List (Nat × Operand)}
theorem r_clear : rclear sz z A ⟨tm, nt, k, os, M⟩ = clearS ⟨tm, nt, k, os, M⟩ sz z (pev tm A) := rfl
theorem r_make : rmake sz by_ z A B ⟨tm, nt, k, os, M⟩ = mkS ⟨tm, nt, k, os, M⟩ sz by_ z (pev tm A) (pev tm B) := rfl
theorem make_at (h : n * by_ <= 281474976710656 /\ n <= 4611686018427387904 /\ z.length = sz) : mkS ⟨tm, nt, k, os, M⟩ sz by_ z (.v (.int .i64 (n : Int))) (.v (.int .i64 (n : Int))) = some (.sl k os.length 0 n (2 * n), ⟨tm, nt, k, os ++ [.row .rw sz (List.replicate n z).flatten], M⟩) := by
 obtain ⟨h1, h2, h3⟩ := h
 unfold mkS
 have hb : ((by_ : Int) * (n : Int)) <= 281474976710656 := by rw [<- Int.natCast_mul]; rw [Nat.mul_comm] at h1; omega
 simp only [if_pos (show (0 : Int) <= (n : Int) /\ (n : Int) <= (n : Int) /\ (n : Int) <= 4611686018427387904 /\ ((by_ : Int) * (n : Int)) <= 281474976710656 /\ z.length = sz from ⟨by omega, by omega, by omega, hb, h3⟩), Int.toNat_natCast]
theorem r_sliceA : rsliceA n A ⟨tm, nt, k, os, M⟩ = sliceA n (pev tm A) := rfl
theorem sliceA_ptr : sliceA n (.ptr a i o) = some (.sl a i o n (2 * n)) := rfl
theorem clear_out (hn : n ≠ 0) (ha : a ≠ k) (hg : M a i = some (.row .rw es cells)) (hl : o + n * sz <= cells.length /\ z.length = sz /\ z.all pone = true) :
  clearS ⟨tm, nt, k, os, M⟩ sz z (.sl a i o n c) = some (.junk, ⟨tm, nt, k, os, putM M a i (.row .rw es (psplice cells o (List.replicate n z).flatten))⟩) := by
 unfold clearS
 simp only [if_neg hn, PSt.look, if_neg ha, hg, if_pos hl, PSt.putO]
theorem clear_own (hn : n ≠ 0) (ha : a ≠ k) (hg : M a i = some (.row .own es cells)) (hl : o + n * sz <= cells.length /\ z.length = sz /\ z.all pone = true) :
  clearS ⟨tm, nt, k, os, M⟩ sz z (.sl a i o n c) = some (.junk, ⟨tm, nt, k, os, putM M a i (.row .rw es (psplice cells o (List.replicate n z).flatten))⟩) := by
 unfold clearS
 simp only [if_neg hn, PSt.look, if_neg ha, hg, if_pos hl, PSt.putO]
end
section
variable {E : Env} {P : Program} {cx : Cx} {s s' : PSt} {sA : St} {m : Mem} {M : PMem}
theorem after_drop (h : PS E cx s sA) {k i r es : Nat} {cs : List PV} {w : Wm} (hM : s.look k i = some (.row w es cs)) (ha : cx.at_ k i = some r) (hbar : sA.m.bar <= r) :
  PS E cx (s.putO k i .gone) { sA with m := sA.m.upd r none } := by
 have hak : k < cx.nk := by
  rcases Nat.lt_or_ge k cx.nk with h1 | h1
  ·exact h1
  ·rw [(h.pg.keys k i h1).1] at ha; cases ha
 have hpg := h.pg.updObj ha hbar hM ⟨nofun, nofun⟩ (o := .gone) nofun (ao := none) hak
 obtain ⟨e1, e2, e3, e5⟩ := PSt.putO_tm (s := s) (k := k) (i := i) (o := .gone)
 exact ⟨fun j => by rw [e1]; exact h.tm j, by rw [e2]; exact h.nt, by rw [PSt.putO_mem hM]; exact hpg, fun j hj => by rw [e3]; exact h.cur j (by rw [e5] at hj; exact hj), by rw [e3]; exact h.low, by rw [e3]; exact h.pos, ⟨h.df.1, fun r hr => ⟨(h.df.2 r hr).1, by rw [Mem.upd_def]; exact (h.df.2 r hr).2⟩⟩⟩
theorem PG.start (h : PG E cx M m) : PS E cx.key ⟨[], 0, cx.nk, [], M⟩ ⟨.nil, 0, [], m⟩ := by
 have hfr := h.bare (Nat.le_refl cx.nk)
 refine ⟨fun i => .junk _, rfl, ?_, fun i _ => h.keys cx.nk i (Nat.le_refl _), Nat.lt_succ_self _, h.pos, List.nodup_nil, fun r hr => by simp at hr⟩
 show PG E cx.key (seg M cx.nk []) m
 rw [seg_nil _ _ hfr]
 exact h.key
end
end Go.Pm
namespace Go.Pm
open Go.RowKit Go.Am
section
variable {E : Env} {P : Program} {M : PMem}
theorem bytesOf_list {cx : Cx} {m : Mem} (hg : PG E cx M m) {t : Tok} {l : List PV} {bs : List UInt8} {v : Value} (hb : pbytes? l = some bs) (h : PR cx (.lst t 1 l.length l) v) : bytesOfV m v = some bs := by
 obtain ⟨a, c, rfl, _, _, hn, hv, _⟩ := h.lst_view
 by_cases h0 : l.length = 0
 ·have : l = [] := List.length_eq_zero_iff.1 h0
  subst this
  cases hb
  cases a with
  | none => rfl
  | some a => simp [bytesOfV]
 ·rcases hv with hv | ⟨r, off, cells, rfl, hr, hle, hs⟩
  ·exact absurd hv h0
  ·obtain ⟨_, md, es, q, hget⟩ := hg.im _ _ hr
   unfold bytesOfV
   simp only [natBeqF' h0, cond_false, cells_eq hget hle]
   exact pbytes_sim hs hb
theorem PT.compare (hX : XTab E P) {f : Nat} (hf : E.ext f = some xCompare) {t1 t2 : Tok} {a b : List PV} {x y : List UInt8} (ha : pbytes? a = some x) (hb : pbytes? b = some y) :
  PT E P f [.lst t1 1 a.length a, .lst t2 1 b.length b] M (fun z M1 => z = .v (.int .i64 (cmpL x y)) /\ M1 = M) := fun cx m vargs hg h => by
 cases h with
 | cons h1 h =>
 cases h with
 | cons h2 h =>
 cases h
 refine ⟨_, m, cx, _, M, CanT.ext hX hf (v := .int .i64 (cmpL x y)) ?_, hg, Ext.refl _ _, .v rfl, rfl, rfl⟩
 simp only [xCompare, bytesOf_list hg ha h1, bytesOf_list hg hb h2]
theorem cmpL_self : ∀ l : List UInt8, cmpL l l = 0
 | [] => rfl
 | x :: l => by
  have : Nat.blt x.toNat x.toNat = false := bltF (Nat.lt_irrefl _)
  rw [cmpL, this, cond_false, cond_false]
  exact cmpL_self l
end
end Go.Pm
namespace Go.Proofs.YtnmidpahhhdlpaaGreatDoor
open Go Go.Am Go.Pm
theorem fresh_put {M : PMem} {k j i : Nat} {o : Pm.Obj} (h : fresh M k) (hj : j ≠ k) : fresh (putM M j i o) k := fun c => by
 unfold putM
 rw [if_neg (fun x => hj x.1.symm)]; exact h c
theorem put_ne {M : PMem} {j i a c : Nat} {o : Pm.Obj} (h : ¬ (a = j /\ c = i)) : putM M j i o a c = M a c := by
 unfold putM; rw [if_neg h]
theorem fresh_of_sub {M0 M : PMem} {k : Nat} (h : Pm.Sub M0 M) (hf : fresh M k) : fresh M0 k := fun i => by
 cases e : M0 k i with
 | none => rfl
 | some o => have := h _ _ _ e; rw [hf i] at this; cases this
theorem fresh_seg {M : PMem} {j k : Nat} {os : List Pm.Obj} (h : fresh M j) (hj : j ≠ k) : fresh (seg M k os) j := fun i => by rw [seg_ne _ _ _ hj]; exact h i
end Go.Proofs.YtnmidpahhhdlpaaGreatDoor
namespace Go.Pm
open Go.RowKit Go.Am
theorem PT.countString {E : Env} {P : Program} {M : PMem} (hX : XTab E P) {f : Nat} {st : ByteArray} {c : Int} {R : PV -> PMem -> Prop} (hf : E.ext f = some xCountString) (hc : c.toNat < 256)
  (q : R (.v (.int .i64 (countB c.toNat st.data.toList 0 : Nat))) M) : PT E P f [.v (.string st), .v (.int .u8 c)] M R := fun cx m vargs hg ha => by
 cases ha with
 | cons h1 hs =>
  cases hs with
  | cons h2 hs =>
   cases hs
   obtain ⟨rfl, _⟩ := h1.flat_eq
   obtain ⟨rfl, _⟩ := h2.flat_eq
   refine ⟨_, m, cx, _, M, CanT.ext hX hf (v := .int .i64 (countB c.toNat st.data.toList 0 : Nat)) ?_, hg, Ext.refl _ _, .v rfl, q⟩
   simp only [xCountString, bltT hc]
theorem countB_add (c : Nat) : ∀ (l : List UInt8) (n : Nat), countB c l n = n + countB c l 0
 | [], n => rfl
 | b :: r, n => by
  unfold countB
  cases Nat.beq b.toNat c with
  | true =>
   show countB c r (n + 1) = n + countB c r (0 + 1)
   rw [countB_add c r (n + 1), countB_add c r (0 + 1)]; omega
  | false =>
   show countB c r n = n + countB c r 0
   exact countB_add c r n
end Go.Pm
namespace Go.Proofs.YtnmidpahhhdlpaaGreatDoor
open Go Go.Am Go.Pm
theorem count_parts : ∀ s : List UInt8, (parts s).length = countB 47 s 0 + 1
 | [] => rfl
 | c :: r => by
  have ih := count_parts r
  unfold parts
  by_cases h : c = 47
  ·rw [if_pos h, List.length_cons, ih]
   subst h
   show _ = countB 47 r (0 + 1) + 1
   rw [countB_add 47 r (0 + 1)]; omega
  ·rw [if_neg h]
   have hb : Nat.beq c.toNat 47 = false := by
    cases hb : Nat.beq c.toNat 47 with
    | false => rfl
    | true =>
     have : c.toNat = 47 := Nat.eq_of_beq_eq_true hb
     exact absurd (UInt8.toNat_inj.1 (by rw [this]; rfl)) h
   have e : countB 47 (c :: r) 0 = countB 47 r 0 := by
    show (match Nat.beq c.toNat 47 with | true => countB 47 r (Nat.succ 0) | false => countB 47 r 0) = _
    rw [hb]
   rw [e, <- ih]
   cases hp : parts r with
   | nil => rw [hp] at ih; simp at ih
   | cons p ps => rfl
theorem parts_join_len : ∀ s : List UInt8, (parts s).length <= s.length + 1
 | [] => Nat.le_refl _
 | c :: r => by
  have ih := parts_join_len r
  unfold parts
  by_cases h : c = 47
  ·rw [if_pos h, List.length_cons, List.length_cons]; omega
  ·rw [if_neg h]
   cases hp : parts r with
   | nil => simp
   | cons p ps => rw [hp] at ih; simp only [List.length_cons] at ih ⊢; omega
theorem count139 (s : List UInt8) : PTp env Tryz.prog 139 [str s, encB 47] (iv (countB 47 s 0 : Nat)) := fun M => by
 exact PT.countString env_ext (by rfl) (by decide) ⟨rfl, rfl⟩
theorem count121 (s : List UInt8) : PTp env Tryz.prog 121 [str s, str [47]] (iv (countB 47 s 0 : Nat)) := fun M => by
 refine PT.enterR env_ok fn121 (by simp) comp121 fun k hk hf => RX.of env_ok ?_
 have h0 : idxS (str [47]) (.v (.int .i64 0)) = some (encB 47) := str_idx (i := 0) rfl
 have hc : (((1 : Nat) : Int) == 0) = false := rfl
 have hd : (((1 : Nat) : Int) == 1) = true := rfl
 simp only [G0, Z1, Z2, Z3, Z4, Z5, argsP, len_one, hc, hd, h0]
 refine cp0 (count139 s) (by decide) ?_
 simp only [G0, Z1, Z2, Z3, Z4, Z5]
 exact end1 hf rfl ⟨rfl, rfl⟩
theorem mm_min {a b : Int} : pmm minV [iv a, iv b] = some (iv (min a b)) := by
 have h : pmm minV [iv a, iv b] = some (iv (if b < a then b else a)) := by
  unfold pmm
  simp [minV, pflats?]
 have h2 : (if b < a then b else a) = min a b := by
  by_cases hb : b < a
  ·rw [if_pos hb]; omega
  ·rw [if_neg hb]; omega
 rw [h, h2]
theorem iaddr_sl {k i o n c sz m : Nat} {kk : IntKind} (h : m < n) : iaddrS sz (.sl k i o n c) (.v (.int kk (m : Int))) = some (.ptr k i (o + m * sz)) := by
 unfold iaddrS
 rw [pnat_int]
 simp only [if_pos h]
structure K88 (tm : List (Nat × PV)) (k n : Nat) (rest : List UInt8) (i : Nat) : Prop where
 t0 : tget tm 0 = str rest
 t1 : tget tm 1 = str [47]
 t2 : tget tm 2 = iv 0
 t3 : tget tm 3 = iv ((n : Int) - 1)
 t9 : tget tm 9 = .sl k 0 0 n (2 * n)
 t10 : tget tm 10 = iv i
def splC (n : Nat) (done : List (List UInt8)) : List PV := done.map str ++ List.replicate (n - done.length) (str [])
theorem splC_put {n : Nat} {done : List (List UInt8)} (h : done.length < n) (p : List UInt8) : storeO 1 (done.length * 1) (str p) (some (.row .rw 1 (splC n done))) = some (.row .rw 1 (splC n (done ++ [p]))) := by
 have hl : (splC n done).length = n := by unfold splC; simp; omega
 rw [storeO_eq (n := 1) ⟨rfl, by rw [hl]; show done.length * 1 + 1 <= n; omega, rfl⟩]
 congr 2
 have e1 : n - done.length = (n - (done ++ [p]).length) + 1 := by simp; omega
 unfold splC
 rw [e1, List.replicate_succ, Nat.mul_one]
 show (done.map str ++ str [] :: List.replicate _ _).take done.length ++ ([str p] ++ (done.map str ++ str [] :: List.replicate _ _).drop (done.length + 1)) = _
 rw [List.take_append_of_le_length (by simp), List.take_of_length_le (by simp), List.drop_append, List.drop_of_length_le (by simp)]
 simp
theorem loop88 (s : List UInt8) (n : Nat) (hn : n = (parts s).length) (hl : n <= 2000000) (M : PMem) (k : Nat) (Q : AExit -> PSt -> Prop)
  (q : ∀ tm done last, K88 tm k n last done.length -> done.length + 1 = n -> parts s = done ++ [last] -> Q (.exit 0) ⟨tm, 66, k, [.row .rw 1 (splC n done)], M⟩) :
  ∀ d done rest tm, n - done.length = d -> done.length < n -> parts s = done ++ parts rest -> rest.length <= 1000000 -> K88 tm k n rest done.length -> RXL env Tryz.prog none c88_34 ⟨tm, 66, k, [.row .rw 1 (splC n done)], M⟩ Q := by
 intro d
 induction d with
 | zero => intro done rest tm hd hlt; omega
 | succ d ih =>
  intro done rest tm hd hlt hp hrl hK
  obtain ⟨t0, t1, t2, t3, t9, t10⟩ := hK
  have hlen : n = done.length + (parts rest).length := by rw [hn, hp, List.length_append]
  refine RXL.round (RX.of env_ok ?_)
  cases hj : idxOf 47 0 rest with
  | none =>
   have hpr := parts_none hj
   have h1 : (parts rest).length = 1 := by rw [hpr]; rfl
   have hii : ¬ ((done.length : Int) < (n : Int) - 1) := by omega
   simp only [G0, Z1, Z2, Z3, Z4, Z5, t3, t10, hii, decide_false]
   exact q _ done rest ⟨t0, t1, t2, t3, t9, t10⟩ (by omega) (by rw [hp, hpr])
  | some j =>
   have hpr := parts_some hj
   have h1 : 1 <= (parts (rest.drop (j + 1))).length := by rw [count_parts]; omega
   have h2 : (parts rest).length = (parts (rest.drop (j + 1))).length + 1 := by rw [hpr]; rfl
   have hii : (done.length : Int) < (n : Int) - 1 := by omega
   simp only [G0, Z1, Z2, Z3, Z4, Z5, t0, t1, t2, t3, t9, t10, hii, decide_true]
   refine cp0 (idx105 rest 47) (by decide) ?_
   rw [hj]
   obtain ⟨_, hjl, _, _⟩ := idxOf_le hj
   have hltj : decide ((j : Int) < 0) = false := by simp
   have hw0 : IntKind.i64.wrap ((j : Int) + 0) = (j : Int) := by rw [wrap64_id (by omega) (by omega)]; omega
   have hw1 : IntKind.i64.wrap ((j : Int) + ((1 : Nat) : Int)) = ((j + 1 : Nat) : Int) := by rw [wrap64_id (by omega) (by omega)]; rfl
   have hw2 : IntKind.i64.wrap ((done.length : Int) + 1) = ((done.length + 1 : Nat) : Int) := by rw [wrap64_id (by omega) (by omega)]; rfl
   have hto : sliceS (str rest) none (some (iv j)) = some (str (rest.take j)) := str_to (by omega)
   have hfr : sliceS (str rest) (some (iv ((j + 1 : Nat) : Int))) none = some (str (rest.drop (j + 1))) := str_from (by omega)
   have hia := fun (kk : IntKind) => iaddr_sl (k := k) (i := 0) (o := 0) (n := n) (c := 2 * n) (sz := 1) (m := done.length) (kk := kk) hlt
   have hst := splC_put hlt (rest.take j)
   simp only [G0, Z1, Z2, Z3, Z4, Z5, idxI, hltj, hw0, hto, t0, t1, t2, t9, t10, hia, Nat.zero_add, hst, len_one, hw1, hfr, hw2]
   refine ih (done ++ [rest.take j]) (rest.drop (j + 1)) _ (by simp; omega) (by simp; omega) (by rw [hp, hpr]; simp) (by rw [List.length_drop]; omega) ?_
   exact ⟨rfl, t1, t2, t3, t9, by simp; rfl⟩
def encStrs (l : List (List UInt8)) : PV := .lst .no 1 l.length (l.map str)
theorem splC_full {n : Nat} {done : List (List UInt8)} (h : done.length = n) : splC n done = done.map str := by
 unfold splC; rw [h, Nat.sub_self]; simp
theorem nks_strs (k : Nat) : ∀ l : List (List UInt8), NKs k (l.map str)
 | [] => .nil
 | x :: l => .cons (.v _) (nks_strs k l)
theorem split88 (s : List UInt8) (hs : s.length <= 1000000) : PTp env Tryz.prog 88 [str s, str [47], iv 0, iv (-1)] (encStrs (parts s)) := fun M => by
 refine PT.freeze (PTk.enterR env_ok fn88 (by simp) comp88 fun k hk hf => RX.of env_ok ?_)
 have hcp := count_parts s
 have hpl := parts_join_len s
 generalize hn : (parts s).length = n at hcp hpl
 have h0 : ((-1 : Int) == 0) = false := rfl
 have h1 : ((-1 : Int) < 0) = True := by simp
 have hse : (([47] : List UInt8) == []) = false := rfl
 simp only [G0, Z1, Z2, Z3, Z4, Z5, argsP, h0, h1, decide_true, str_eql, hse]
 refine cp0 (count121 s) (by decide) ?_
 have hn1 : 1 <= n := by omega
 have hw1 : IntKind.i64.wrap ((countB 47 s 0 : Nat) + 1 : Int) = (n : Int) := by rw [wrap64_id (by omega) (by omega)]; omega
 have hw2 : IntKind.i64.wrap ((s.length : Int) + 1) = ((s.length + 1 : Nat) : Int) := by rw [wrap64_id (by omega) (by omega)]; rfl
 have hmn : min (n : Int) ((s.length + 1 : Nat) : Int) = (n : Int) := by omega
 have hw3 : IntKind.i64.wrap ((n : Int) - 1) = (n : Int) - 1 := wrap64_id (by omega) (by omega)
 have hmk : ∀ {tm : List (Nat × PV)}, mkS ⟨tm, 66, k, [], M⟩ 1 16 [.v (.string ⟨#[]⟩)] (iv n) (iv n) = some (.sl k 0 0 n (2 * n), ⟨tm, 66, k, [.row .rw 1 (splC n [])], M⟩) := fun {tm} => by
  have := make_at (tm := tm) (nt := 66) (k := k) (os := []) (M := M) (n := n) (by_ := 16) (sz := 1) (z := [.v (.string ⟨#[]⟩)]) ⟨by omega, by omega, rfl⟩
  rw [this]
  congr 2
  simp [splC, str]
 simp only [G0, Z1, Z2, Z3, Z4, Z5, hw1, hw2, mm_min, hmn, r_make, hmk, hw3]
 refine RX.loop (loop88 s n hn.symm (by omega) M k _ (fun tm done last hK hl hp => ?_) n [] s _ rfl (by simp; omega) rfl hs (by exact ⟨rfl, rfl, rfl, rfl, rfl, rfl⟩))
 obtain ⟨t0, t1, t2, t3, t9, t10⟩ := hK
 have hia := fun (kk : IntKind) => iaddr_sl (k := k) (i := 0) (o := 0) (n := n) (c := 2 * n) (sz := 1) (m := done.length) (kk := kk) (by omega)
 have hst := splC_put (n := n) (done := done) (by omega) last
 have hw4 : IntKind.i64.wrap ((done.length : Int) + 1) = (n : Int) := by rw [wrap64_id (by omega) (by omega)]; omega
 have hsl : sliceL 1 (.sl k 0 0 n (2 * n)) none (some (iv n)) none = some (.sl k 0 0 n (2 * n)) := by
  have hc : capOf (2 * n) = n := by simp [capOf]
  unfold sliceL
  simp only [pnat_int, hc]
  simp
 simp only [G0, Z1, Z2, Z3, Z4, Z5, t0, t9, t10, hia, Nat.zero_add, hst, hw4, hsl]
 have hcs : splC n (done ++ [last]) = (parts s).map str := by rw [splC_full (by simp; omega), hp]
 refine ⟨.inr rfl, [_], _, rfl, MLe.refl _, k, 0, 1, .rw, (parts s).map str, .lst .no 1 n (((parts s).map str).take (n * 1)), Nat.le_refl _, ?_, nks_strs _ _, ?_, ?_, trivial⟩
 ·intro a j o e
  by_cases hk' : a = k /\ j = 0
  ·obtain ⟨rfl, rfl⟩ := hk'
   rw [putM_same] at e
   cases e
   exact ⟨_, by rw [show PSt.mem _ = seg M a _ from rfl, seg_same]; rfl, by rw [hcs]; exact .refl _⟩
  ·rw [put_ne hk'] at e
   have hak : a ≠ k := fun e' => by subst e'; rw [hf j] at e; cases e
   exact ⟨o, by rw [show PSt.mem _ = seg M k _ from rfl, seg_ne _ _ _ hak]; exact e, .refl _⟩
 ·refine .here ?_ ?_ ?_
  ·rw [List.length_map, hn]; omega
  ·simp [capOf]
  ·left; omega
 ·unfold encStrs
  rw [hn, Nat.mul_one, List.take_of_length_le (by rw [List.length_map, hn]; exact Nat.le_refl _)]
theorem split63 (s : List UInt8) (hs : s.length <= 1000000) : PTp env Tryz.prog 63 [str s, str [47]] (encStrs (parts s)) := fun M => by
 refine PT.enterR env_ok fn63 (by simp) comp63 fun k hk hf => RX.of env_ok ?_
 simp only [G0, Z1, Z2, Z3, Z4, Z5, argsP]
 refine cp0 (split88 s hs) (by decide) ?_
 simp only [G0, Z1, Z2, Z3, Z4, Z5]
 exact end1 hf rfl ⟨rfl, rfl⟩
end Go.Proofs.YtnmidpahhhdlpaaGreatDoor
noncomputable section
namespace Go.Proofs.YtnmidpahhhdlpaaGreatDoor
open Go Go.Am Go.Pm
theorem bytesEq_iff' : ∀ {a b : List UInt8}, bytesEq a b = true ↔ a = b
 | [], [] => by simp [bytesEq]
 | [], _ :: _ => by simp [bytesEq]
 | _ :: _, [] => by simp [bytesEq]
 | a :: x, b :: y => by
  have ih := @bytesEq_iff' x y
  simp only [bytesEq, Bool.and_eq_true, ih, List.cons.injEq, Nat.beq_eq, UInt8.toNat_inj]
theorem lt_irrefl : ∀ a : List UInt8, bytesLt a a = false
 | [] => rfl
 | a :: x => by
  have : Nat.blt a.toNat a.toNat = false := bltF (Nat.lt_irrefl _)
  simp only [bytesLt, this, lt_irrefl x, Bool.and_false, Bool.or_false]
theorem blt_iff {a b : Nat} : Nat.blt a b = true ↔ a < b := by simp [Nat.blt_eq]
theorem lt_trans' : ∀ {a b c : List UInt8}, bytesLt a b = true -> bytesLt b c = true -> bytesLt a c = true
 | _, [], _, h, _ => by cases ‹List UInt8› <;> simp [bytesLt] at h
 | _, _ :: _, [], _, h => by simp [bytesLt] at h
 | [], _ :: _, _ :: _, _, _ => rfl
 | a :: x, b :: y, c :: z, h1, h2 => by
  simp only [bytesLt, Bool.or_eq_true, Bool.and_eq_true, blt_iff, Nat.beq_eq] at h1 h2 ⊢
  rcases h1 with h1 | ⟨h1, h3⟩
  ·rcases h2 with h2 | ⟨h2, h4⟩
   ·exact .inl (by omega)
   ·exact .inl (by omega)
  ·rcases h2 with h2 | ⟨h2, h4⟩
   ·exact .inl (by omega)
   ·exact .inr ⟨by omega, lt_trans' h3 h4⟩
theorem lt_total : ∀ {a b : List UInt8}, bytesLt a b = false -> bytesLt b a = false -> a = b
 | [], [], _, _ => rfl
 | [], _ :: _, h, _ => by simp [bytesLt] at h
 | _ :: _, [], _, h => by simp [bytesLt] at h
 | a :: x, b :: y, h1, h2 => by
  simp only [bytesLt, Bool.or_eq_false_iff, Bool.and_eq_false_iff] at h1 h2
  have h3 : ¬ a.toNat < b.toNat := fun h => by have := blt_iff.2 h; rw [this] at h1; cases h1.1
  have h4 : ¬ b.toNat < a.toNat := fun h => by have := blt_iff.2 h; rw [this] at h2; cases h2.1
  have h5 : a.toNat = b.toNat := by omega
  have h6 : Nat.beq a.toNat b.toNat = true := by simp [h5]
  have h7 : Nat.beq b.toNat a.toNat = true := by simp [h5]
  have e : a = b := UInt8.toNat_inj.1 h5
  subst e
  have g1 : bytesLt x y = false := by
   rcases h1.2 with h | h
   ·rw [h6] at h; cases h
   ·exact h
  have g2 : bytesLt y x = false := by
   rcases h2.2 with h | h
   ·rw [h7] at h; cases h
   ·exact h
  rw [lt_total g1 g2]
theorem str_lss {E : Env} {t : Nat} {c d : Bool} {a b : List UInt8} : pbin E .lss t c d (str a) (str b) = some (bv (bytesLt a b)) := by
 simp [pbin, eqFine, binV, strBin]
theorem str_gtr {E : Env} {t : Nat} {c d : Bool} {a b : List UInt8} : pbin E .gtr t c d (str a) (str b) = some (bv (bytesLt b a)) := by
 have h : (!(bytesLt a b || bytesEq a b)) = bytesLt b a := by
  cases h1 : bytesLt a b with
  | true =>
   cases h2 : bytesLt b a with
   | true => have := lt_trans' h1 h2; rw [lt_irrefl] at this; cases this
   | false => rfl
  | false =>
   cases h2 : bytesLt b a with
   | true =>
    cases h3 : bytesEq a b with
    | true => have := bytesEq_iff'.1 h3; subst this; rw [lt_irrefl] at h2; cases h2
    | false => rfl
   | false =>
    have := lt_total h1 h2
    subst this
    rw [bytesEq_iff'.2 rfl]; rfl
 simp [pbin, eqFine, binV, strBin, h]
def ordS (a b : List UInt8) : Int := if bytesLt a b then -1 else if bytesLt b a then 1 else 0
theorem nan89 (a : List UInt8) : PTp env Tryz.prog 89 [str a] (bv false) := fun M => by
 refine PT.enterR env_ok fn89 (by simp) comp89 fun k hk hf => RX.of env_ok ?_
 simp only [G0, Z1, Z2, Z3, Z4, Z5, argsP, str_neq, beq_self_eq_true, Bool.not_true]
 exact end1 hf rfl ⟨rfl, rfl⟩
theorem cmp65 (a b : List UInt8) : PTp env Tryz.prog 65 [str a, str b] (iv (ordS a b)) := fun M => by
 refine PT.enterR env_ok fn65 (by simp) comp65 fun k hk hf => RX.of env_ok ?_
 simp only [G0, Z1, Z2, Z3, Z4, Z5, argsP]
 refine cp0 (nan89 a) (by decide) ?_
 simp only [G0, Z1, Z2, Z3, Z4, Z5]
 refine cp0 (nan89 b) (by decide) ?_
 simp only [G0, Z1, Z2, Z3, Z4, Z5, str_lss, str_gtr]
 unfold ordS
 cases h1 : bytesLt a b with
 | true =>
  simp only [G0, Z1, Z2, Z3, Z4, Z5]
  exact end1 hf rfl ⟨rfl, rfl⟩
 | false =>
  cases h2 : bytesLt b a with
  | true =>
   simp only [G0, Z1, Z2, Z3, Z4, Z5, str_gtr, h2]
   exact end1 hf rfl ⟨rfl, rfl⟩
  | false =>
   simp only [G0, Z1, Z2, Z3, Z4, Z5, str_gtr, h2]
   exact end1 hf rfl ⟨rfl, rfl⟩
theorem cmp64 (a b : List UInt8) : PTp env Tryz.prog 64 [str a, str b] (iv (ordS a b)) := fun M => by
 refine PT.enterR env_ok fn64 (by simp) comp64 fun k hk hf => RX.of env_ok ?_
 simp only [G0, Z1, Z2, Z3, Z4, Z5, argsP]
 refine cp0 (cmp65 a b) (by decide) ?_
 simp only [G0, Z1, Z2, Z3, Z4, Z5]
 exact end1 hf rfl ⟨rfl, rfl⟩
def ordL : List (List UInt8) -> List (List UInt8) -> Int
 | [], [] => 0
 | [], _ :: _ => -1
 | _ :: _, [] => 1
 | x :: r, y :: q => if ordS x y = 0 then ordL r q else ordS x y
theorem strs_load {l : List (List UInt8)} {i : Nat} {x : List UInt8} (h : l[i]? = some x) : ptake false 1 (l.map str) (i * 1) = some (str x) := by
 unfold ptake
 simp [h]
theorem loop62 (a b : List (List UInt8)) (ha : a.length <= 1000001) (hb : b.length <= 1000001) (M : PMem) (k : Nat) (Q : AExit -> PSt -> Prop)
  (q1 : ∀ tm, tget tm 0 = encStrs a -> tget tm 1 = encStrs b -> a.length <= b.length -> ordL a b = (if a.length < b.length then -1 else 0) -> Q (.exit 0) ⟨tm, 39, k, [], M⟩) (q2 : ∀ tm, tget tm 6 = iv (ordL a b) -> Q .ret ⟨tm, 39, k, [], M⟩) :
  ∀ d i tm, a.length - i = d -> i <= a.length -> i <= b.length -> ordL a b = ordL (a.drop i) (b.drop i) -> tget tm 0 = encStrs a -> tget tm 1 = encStrs b -> tget tm 2 = .fn 64 [] [] -> tget tm 11 = encStrs a -> tget tm 12 = iv a.length -> tget tm 13 = iv i →
  RXL env Tryz.prog none c62_25 ⟨tm, 39, k, [], M⟩ Q := by
 intro d
 induction d with
 | zero =>
  intro i tm hd hi hib ho t0 t1 t2 t11 t12 t13
  have : i = a.length := by omega
  subst this
  refine RXL.round (RX.of env_ok ?_)
  simp only [G0, Z1, Z2, Z3, Z4, Z5, t12, t13, Int.lt_irrefl, decide_false]
  refine q1 _ t0 t1 hib ?_
  rw [ho, List.drop_of_length_le (Nat.le_refl _)]
  by_cases h : a.length < b.length
  ·rw [if_pos h]
   cases hb : b.drop a.length with
   | nil => have := List.drop_eq_nil_iff.1 hb; omega
   | cons y r => rfl
  ·rw [if_neg h, List.drop_of_length_le (by omega)]; rfl
 | succ d ih =>
  intro i tm hd hi hib ho t0 t1 t2 t11 t12 t13
  have hi' : i < a.length := by omega
  have hii : (i : Int) < a.length := by omega
  obtain ⟨x, hx, hdx⟩ := getE hi'
  have hlx := strs_load hx
  have h11 : tget tm 11 = .lst .no 1 a.length (a.map str) := t11
  have h1 : tget tm 1 = .lst .no 1 b.length (b.map str) := t1
  have hw : IntKind.i64.wrap ((i : Int) + 1) = ((i + 1 : Nat) : Int) := by rw [wrap64_id (by omega) (by omega)]; rfl
  refine RXL.round (RX.of env_ok ?_)
  by_cases hj : i < b.length
  ·have hge : ¬ ((i : Int) >= b.length) := by omega
   obtain ⟨y, hy, hdy⟩ := getE hj
   have hly := strs_load hy
   rw [hdx, hdy] at ho
   simp only [G0, Z1, Z2, Z3, Z4, Z5, t12, t13, hii, decide_true, h11, hi', hlx, h1, hge, decide_false, hj, hly, t2]
   refine cp0 (cmp64 x y) (by decide) ?_
   by_cases hz : ordS x y = 0
   ·have hne : (ordS x y != 0) = false := by rw [hz]; rfl
    rw [ordL, if_pos hz] at ho
    simp only [G0, Z1, Z2, Z3, Z4, Z5, hne, t13, hw]
    exact ih (i + 1) _ (by omega) (by omega) (by omega) ho t0 t1 t2 t11 t12 rfl
   ·have hne : (ordS x y != 0) = true := by simpa using hz
    rw [ordL, if_neg hz] at ho
    simp only [G0, Z1, Z2, Z3, Z4, Z5, hne]
    exact q2 _ (by rw [ho]; rfl)
  ·have hge : (i : Int) >= b.length := by omega
   simp only [G0, Z1, Z2, Z3, Z4, Z5, t12, t13, hii, decide_true, h11, hi', hlx, h1, hge]
   refine q2 _ ?_
   have hd0 : b.drop i = [] := List.drop_of_length_le (by omega)
   rw [ho, hdx, hd0]; rfl
theorem cmp62 (a b : List (List UInt8)) (ha : a.length <= 1000001) (hb : b.length <= 1000001) : PTp env Tryz.prog 62 [encStrs a, encStrs b, .fn 64 [] []] (iv (ordL a b)) := fun M => by
 refine PT.enterR env_ok fn62 (by simp) comp62 fun k hk hf => RX.of env_ok ?_
 have hlen : lenL (encStrs a) = some (iv (a.length : Nat)) := rfl
 simp only [G0, Z1, Z2, Z3, Z4, Z5, argsP, hlen]
 refine RX.loop (loop62 a b ha hb M k _ (fun tm t0 t1 hle ho => ?_) (fun tm t6 => ?_) a.length 0 _ rfl (Nat.zero_le _) (Nat.zero_le _) rfl (by rfl) (by rfl) (by rfl) (by rfl) (by rfl) (by rfl))
 ·have hl0 : lenL (encStrs b) = some (iv (b.length : Nat)) := rfl
  by_cases h : a.length < b.length
  ·have hlt : (a.length : Int) < b.length := by omega
   rw [if_pos h] at ho
   simp only [G0, Z1, Z2, Z3, Z4, Z5, t0, t1, hlen, hl0, hlt, decide_true]
   exact end1 hf rfl ⟨by rw [ho]; rfl, rfl⟩
  ·have hlt : ¬ ((a.length : Int) < b.length) := by omega
   rw [if_neg h] at ho
   simp only [G0, Z1, Z2, Z3, Z4, Z5, t0, t1, hlen, hl0, hlt, decide_false]
   exact end1 hf rfl ⟨by rw [ho]; rfl, rfl⟩
 ·simp only [G0, Z1, Z2, Z3, Z4, Z5]
  exact end1 hf t6 ⟨rfl, rfl⟩
def ordP (a b : List UInt8) : Int := ordL (parts a) (parts b)
theorem order39 (a b : List UInt8) (ha : a.length <= 1000000) (hb : b.length <= 1000000) : PTp env Tryz.prog 39 [str a, str b] (iv (ordP a b)) := fun M => by
 refine PT.enterR env_ok fn39 (by simp) comp39 fun k hk hf => RX.of env_ok ?_
 have l1 := parts_join_len a
 have l2 := parts_join_len b
 simp only [G0, Z1, Z2, Z3, Z4, Z5, argsP]
 refine cp0 (split63 a ha) (by decide) ?_
 simp only [G0, Z1, Z2, Z3, Z4, Z5]
 refine cp0 (split63 b hb) (by decide) ?_
 simp only [G0, Z1, Z2, Z3, Z4, Z5]
 refine cp0 (cmp62 (parts a) (parts b) (by omega) (by omega)) (by decide) ?_
 simp only [G0, Z1, Z2, Z3, Z4, Z5]
 exact end1 hf rfl ⟨rfl, rfl⟩
def lessB (a b : List UInt8) : Bool := decide (ordP a b < 0)
theorem less15 (a b : List UInt8) (ha : a.length <= 1000000) (hb : b.length <= 1000000) : PTp env Tryz.prog 15 [str a, str b] (bv (lessB a b)) := fun M => by
 refine PT.enterR env_ok fn15 (by simp) comp15 fun k hk hf => RX.of env_ok ?_
 simp only [G0, Z1, Z2, Z3, Z4, Z5, argsP]
 refine cp0 (order39 a b ha hb) (by decide) ?_
 simp only [G0, Z1, Z2, Z3, Z4, Z5]
 exact end1 hf rfl ⟨rfl, rfl⟩
end Go.Proofs.YtnmidpahhhdlpaaGreatDoor
end
namespace Go.Proofs.YtnmidpahhhdlpaaGreatDoor
open Go Go.Am Go.Pm
def oneM (k i : Nat) (o : Pm.Obj) : PMem := putM (fun _ _ => none) k i o
theorem oneM_sub {M : PMem} {k i : Nat} {o : Pm.Obj} (h : M k i = some o) : Pm.Sub (oneM k i o) M := fun a b o' e => by
 unfold oneM putM at e
 split at e
 ·rename_i hc; obtain ⟨rfl, rfl⟩ := hc; cases e; exact h
 ·cases e
theorem oneM_at {k i : Nat} {o : Pm.Obj} : oneM k i o k i = some o := putM_same _ _ _ _
end Go.Proofs.YtnmidpahhhdlpaaGreatDoor
noncomputable section
namespace Go.Proofs.YtnmidpahhhdlpaaGreatDoor
open Go Go.Am Go.Pm
structure En where
 path : List UInt8
 kind : Int
 mode : Int
 bytes : List UInt8
def enCells (x : En) : List PV := [str x.path, iv x.kind, iv x.mode, encBytes x.bytes]
def encEn (x : En) : PV := .agg (enCells x)
def encEns (l : List En) : PV := .lst .no 4 l.length (l.flatMap enCells)
theorem lt_get {α : Type} {l : List α} {j : Nat} {v : α} (hv : l[j]? = some v) : j < l.length := (List.getElem?_eq_some_iff.1 hv).1
def idxG {α : Type} (p : α -> Bool) : Nat -> List α -> Int
 | _, [] => -1
 | i, x :: r => if p x then (i : Int) else idxG p (i + 1) r
theorem idxG_at {α : Type} (p : α -> Bool) : ∀ (l : List α) (i : Nat), idxG p i l = -1 \/ ∃ j x, idxG p i l = ((i + j : Nat) : Int) /\ l[j]? = some x /\ p x = true
 | [], i => .inl rfl
 | x :: r, i => by
  show (if p x then (i : Int) else idxG p (i + 1) r) = -1 \/ ∃ j y, (if p x then (i : Int) else idxG p (i + 1) r) = _ /\ _
  cases h : p x with
  | true => exact .inr ⟨0, x, rfl, rfl, h⟩
  | false =>
   rcases idxG_at p r (i + 1) with h1 | ⟨j, y, h1, h2, h3⟩
   ·exact .inl (by simpa using h1)
   ·exact .inr ⟨j + 1, y, by simp only [Bool.false_eq_true, if_false]; rw [h1]; congr 1; omega, by simpa using h2, h3⟩
theorem en_load {l : List En} {i : Nat} {x : En} (h : l[i]? = some x) : ptake true 4 (l.flatMap enCells) (i * 4) = some (encEn x) := load_at (f := enCells) (n := 4) (fun _ => rfl) h
theorem en_cell {l : List En} {i : Nat} {x : En} (h : l[i]? = some x) {c : Nat} {v : PV} (hc : (enCells x)[c]? = some v) : (l.flatMap enCells)[i * 4 + c]? = some v := cell_at (f := enCells) (n := 4) (fun _ => rfl) h hc
theorem ask67 (x : En) (p : List UInt8) {M0 : PMem} {a i : Nat} {w : Wm} (hM : M0 a i = some (.row w 0 [str p])) : PTs env Tryz.prog M0 67 [encEn x, .ptr a i 0] (bv (x.path == p)) := by
 refine PTs.enter env_ok fn67 (by simp) comp67 fun M k hs hk hf => ?_
 have hM' := hs _ _ _ hM
 have hld : ∀ {ag : Bool} {n o : Nat} {os : List Pm.Obj}, loadP k os M ag n (.ptr a i o) = rowTake ag n o (M a i) := loadP_out (fresh_ne hf hM')
 simp only [G0, Z1, Z2, Z3, Z4, Z5, argsP, encEn, enCells, hld, hM', str_eql]
 exact end1 hf rfl ⟨rfl, rfl⟩
theorem loop66 (t : List En) (hl : t.length <= 1000000) (p : List UInt8) {M0 : PMem} {a b : Nat} {w : Wm} (hM : M0 a b = some (.row w 0 [str p])) (M : PMem) (k : Nat) (hs : Pm.Sub M0 M) (hf : fresh M k) (Q : AExit -> PSt -> Prop)
  (q1 : ∀ tm, idxG (fun x : En => x.path == p) 0 t = -1 -> Q (.exit 0) ⟨tm, 19, k, [], M⟩) (q2 : ∀ tm, tget tm 4 = iv (idxG (fun x : En => x.path == p) 0 t) -> Q .ret ⟨tm, 19, k, [], M⟩) :
  ∀ d i tm, t.length - i = d -> i <= t.length -> idxG (fun x : En => x.path == p) 0 t = idxG (fun x : En => x.path == p) i (t.drop i) -> tget tm 0 = encEns t -> tget tm 1 = .fn 67 [] [.ptr a b 0] -> tget tm 7 = iv t.length -> tget tm 8 = iv i →
  RXL env Tryz.prog none c66_15 ⟨tm, 19, k, [], M⟩ Q := by
 intro d
 induction d with
 | zero =>
  intro i tm hd hi hp t0 t1 t7 t8
  have : i = t.length := by omega
  subst this
  refine RXL.round (RX.of env_ok ?_)
  simp only [G0, Z1, Z2, Z3, Z4, Z5, t7, t8, Int.lt_irrefl, decide_false]
  exact q1 _ (by rw [hp, List.drop_of_length_le (Nat.le_refl _)]; rfl)
 | succ d ih =>
  intro i tm hd hi hpi t0 t1 t7 t8
  have hi' : i < t.length := by omega
  have hii : (i : Int) < t.length := by omega
  obtain ⟨x, hx, hdx⟩ := getE hi'
  have hlx := en_load hx
  have h0 : tget tm 0 = .lst .no 4 t.length (t.flatMap enCells) := t0
  have hw : IntKind.i64.wrap ((i : Int) + 1) = ((i + 1 : Nat) : Int) := by rw [wrap64_id (by omega) (by omega)]; rfl
  rw [hdx] at hpi
  have hun : idxG (fun x : En => x.path == p) i (x :: t.drop (i + 1)) = if x.path == p then (i : Int) else idxG (fun x : En => x.path == p) (i + 1) (t.drop (i + 1)) := rfl
  rw [hun] at hpi
  refine RXL.round (RX.of env_ok ?_)
  simp only [G0, Z1, Z2, Z3, Z4, Z5, h0, t1, t7, t8, hii, decide_true, hi', hlx]
  refine cs (first := []) (ask67 x p hM) (hs.sseg hf) (by decide) ?_
  cases h : (x.path == p) with
  | true =>
   rw [h, if_pos rfl] at hpi
   simp only [G0, Z1, Z2, Z3, Z4, Z5]
   exact q2 _ (by rw [hpi]; rfl)
  | false =>
   rw [h, if_neg (by decide)] at hpi
   simp only [G0, Z1, Z2, Z3, Z4, Z5, t8, hw]
   exact ih (i + 1) _ (by omega) (by omega) hpi t0 t1 t7 rfl
theorem index66 (t : List En) (hl : t.length <= 1000000) (p : List UInt8) {M0 : PMem} {a b : Nat} {w : Wm} (hM : M0 a b = some (.row w 0 [str p])) :
  PTs env Tryz.prog M0 66 [encEns t, .fn 67 [] [.ptr a b 0]] (iv (idxG (fun x : En => x.path == p) 0 t)) := by
 refine PTs.enter env_ok fn66 (by simp) comp66 fun M k hs hk hf => ?_
 have hlen : lenL (encEns t) = some (iv (t.length : Nat)) := rfl
 simp only [G0, Z1, Z2, Z3, Z4, Z5, argsP, hlen]
 refine RX.loop (loop66 t hl p hM M k hs hf _ ?_ ?_ t.length 0 _ rfl (Nat.zero_le _) rfl rfl rfl rfl rfl)
 ·intro tm h
  simp only [G0, Z1, Z2, Z3, Z4, Z5]
  exact end1 hf rfl ⟨by rw [h]; rfl, rfl⟩
 ·intro tm h
  simp only [G0, Z1, Z2, Z3, Z4, Z5]
  exact end1 hf h ⟨rfl, rfl⟩
def fnd (t : List En) (p : List UInt8) : Int := idxG (fun x : En => x.path == p) 0 t
theorem find40 (t : List En) (hl : t.length <= 1000000) (p : List UInt8) : PTp env Tryz.prog 40 [encEns t, str p] (.tup [iv (fnd t p), bv (decide (fnd t p >= 0))]) := fun M => by
 refine PT.enterR env_ok fn40 (by simp) comp40 fun k hk hf => RX.of env_ok ?_
 simp only [G0, Z1, Z2, Z3, Z4, Z5, argsP]
 refine cs0 (index66 t hl p (M0 := oneM k 0 (.row .rw 0 [str p])) (w := .rw) oneM_at) (oneM_sub (by rw [seg_same]; rfl)) (by decide) ?_
 simp only [G0, Z1, Z2, Z3, Z4, Z5]
 exact end2 hf rfl rfl ⟨rfl, rfl⟩
def lastN (s : List UInt8) (c : UInt8) : Nat -> Int
 | 0 => -1
 | n + 1 => if s[n]? = some c then (n : Int) else lastN s c n
theorem lastN_lt (s : List UInt8) (c : UInt8) : ∀ n, lastN s c n < n
 | 0 => by show (-1 : Int) < 0; decide
 | n + 1 => by
  have := lastN_lt s c n
  show (if s[n]? = some c then (n : Int) else lastN s c n) < ((n + 1 : Nat) : Int)
  split <;> omega
theorem lastN_ge (s : List UInt8) (c : UInt8) : ∀ n, -1 <= lastN s c n
 | 0 => by show (-1 : Int) <= -1; decide
 | n + 1 => by
  have := lastN_ge s c n
  show -1 <= (if s[n]? = some c then (n : Int) else lastN s c n)
  split <;> omega
theorem loop137 (s : List UInt8) (c : UInt8) (hl : s.length <= 1000000) (M : PMem) (k : Nat) (Q : AExit -> PSt -> Prop)
  (q1 : ∀ tm, lastN s c s.length = -1 -> Q (.exit 0) ⟨tm, 19, k, [], M⟩) (q2 : ∀ tm, tget tm 4 = iv (lastN s c s.length) -> Q .ret ⟨tm, 19, k, [], M⟩) :
  ∀ n tm, n <= s.length -> lastN s c s.length = lastN s c n -> tget tm 0 = str s -> tget tm 1 = encB c -> tget tm 5 = iv ((n : Int) - 1) -> RXL env Tryz.prog none c137_13 ⟨tm, 19, k, [], M⟩ Q := by
 intro n
 induction n with
 | zero =>
  intro tm hn he t0 t1 t5
  have hge : ¬ (((0 : Nat) : Int) - 1 >= 0) := by omega
  refine RXL.round (RX.of env_ok ?_)
  simp only [G0, Z1, Z2, Z3, Z4, Z5, t5, hge, decide_false]
  exact q1 _ he
 | succ n ih =>
  intro tm hn he t0 t1 t5
  have hge : ((n + 1 : Nat) : Int) - 1 >= 0 := by omega
  have e1 : ((n + 1 : Nat) : Int) - 1 = (n : Int) := by omega
  obtain ⟨b, hb, -⟩ := getE (xs := s) (i := n) (by omega)
  have hix : idxS (str s) (.v (.int .i64 (n : Int))) = some (encB b) := str_idx hb
  have hw : IntKind.i64.wrap ((n : Int) - 1) = (n : Int) - 1 := wrap64_id (by omega) (by omega)
  rw [e1] at t5
  have hge : (n : Int) >= 0 := by omega
  refine RXL.round (RX.of env_ok ?_)
  have hun : lastN s c (n + 1) = if s[n]? = some c then (n : Int) else lastN s c n := rfl
  rw [hun, hb] at he
  simp only [G0, Z1, Z2, Z3, Z4, Z5, t0, t1, t5, hge, decide_true, hix, encB]
  by_cases hc : b = c
  ·subst hc
   rw [if_pos rfl] at he
   simp only [G0, Z1, Z2, Z3, Z4, Z5, beq_self_eq_true, t5]
   exact q2 _ (by rw [he]; rfl)
  ·have hne : ((b.toNat : Int) == (c.toNat : Int)) = false := by
    cases h : ((b.toNat : Int) == (c.toNat : Int)) with
    | false => rfl
    | true =>
     have := eq_of_beq h
     exact absurd (UInt8.toNat_inj.1 (by omega)) hc
   rw [if_neg (by simpa using hc)] at he
   simp only [G0, Z1, Z2, Z3, Z4, Z5, hne, t5, hw]
   exact ih _ (by omega) he t0 t1 rfl
theorem last137 (s : List UInt8) (c : UInt8) (hl : s.length <= 1000000) : PTp env Tryz.prog 137 [str s, encB c] (iv (lastN s c s.length)) := fun M => by
 refine PT.enterR env_ok fn137 (by simp) comp137 fun k hk hf => RX.of env_ok ?_
 have hw : IntKind.i64.wrap ((s.length : Int) - 1) = (s.length : Int) - 1 := wrap64_id (by omega) (by omega)
 simp only [G0, Z1, Z2, Z3, Z4, Z5, argsP, hw]
 refine RX.loop (loop137 s c hl M k _ (fun tm h => ?_) (fun tm h => ?_) s.length _ (Nat.le_refl _) rfl (by rfl) (by rfl) (by rfl))
 ·simp only [G0, Z1, Z2, Z3, Z4, Z5]
  exact end1 hf rfl ⟨by rw [h]; rfl, rfl⟩
 ·simp only [G0, Z1, Z2, Z3, Z4, Z5]
  exact end1 hf h ⟨rfl, rfl⟩
theorem last119 (s : List UInt8) (c : UInt8) (hl : s.length <= 1000000) : PTp env Tryz.prog 119 [str s, encB c] (iv (lastN s c s.length)) := fun M => by
 refine PT.enterR env_ok fn119 (by simp) comp119 fun k hk hf => RX.of env_ok ?_
 simp only [G0, Z1, Z2, Z3, Z4, Z5, argsP]
 refine cp0 (last137 s c hl) (by decide) ?_
 simp only [G0, Z1, Z2, Z3, Z4, Z5]
 exact end1 hf rfl ⟨rfl, rfl⟩
def cutF (s : List UInt8) : List UInt8 × List UInt8 :=
 if pathOk s then (if 0 <= lastN s 47 s.length then (s.take (lastN s 47 s.length).toNat, s.drop ((lastN s 47 s.length).toNat + 1)) else ([], s)) else ([], [])
theorem ne_err (b : Bool) : (errIf b != 0) = !b := by cases b <;> rfl
theorem cut87 (s : List UInt8) (hl : s.length <= 1000000) : PTp env Tryz.prog 87 [str s] (.tup [str (cutF s).1, str (cutF s).2]) := fun M => by
 refine PT.enterR env_ok fn87 (by simp) comp87 fun k hk hf => RX.of env_ok ?_
 simp only [G0, Z1, Z2, Z3, Z4, Z5, argsP]
 refine cp0 (path_check s hl) (by decide) ?_
 unfold cutF
 have e0 : ((0 : Int) != 0) = false := rfl
 have e2 : ((2 : Int) != 0) = true := rfl
 cases hp : pathOk s with
 | false =>
  simp only [G0, Z1, Z2, Z3, Z4, Z5, ne_err, Bool.not_false]
  exact end2 hf rfl rfl ⟨rfl, rfl⟩
 | true =>
  simp only [G0, Z1, Z2, Z3, Z4, Z5, ne_err, Bool.not_true]
  refine cp0 (last119 s 47 hl) (by decide) ?_
  have h1 := lastN_lt s 47 s.length
  have h2 := lastN_ge s 47 s.length
  generalize hn : lastN s 47 s.length = n at h1 h2
  by_cases hg : 0 <= n
  ·obtain ⟨j, rfl⟩ := Int.eq_ofNat_of_zero_le hg
   have hge : (j : Int) >= 0 := by omega
   have hto : sliceS (str s) none (some (iv j)) = some (str (s.take j)) := str_to (by omega)
   have hfr : sliceS (str s) (some (iv ((j + 1 : Nat) : Int))) none = some (str (s.drop (j + 1))) := str_from (by omega)
   have hw : IntKind.i64.wrap ((j : Int) + 1) = ((j + 1 : Nat) : Int) := by rw [wrap64_id (by omega) (by omega)]; rfl
   rw [if_pos hg]
   simp only [G0, Z1, Z2, Z3, Z4, Z5, hge, decide_true, hto, hfr, hw]
   exact end2 hf rfl rfl ⟨rfl, rfl⟩
  ·have hge : ¬ (n >= 0) := by omega
   rw [if_neg hg]
   simp only [G0, Z1, Z2, Z3, Z4, Z5, hge, decide_false]
   exact end2 hf rfl rfl ⟨rfl, rfl⟩
theorem parent61 (s : List UInt8) (hl : s.length <= 1000000) : PTp env Tryz.prog 61 [str s] (.tup [str (cutF s).1, bv (!((cutF s).1 == []))]) := fun M => by
 refine PT.enterR env_ok fn61 (by simp) comp61 fun k hk hf => RX.of env_ok ?_
 simp only [G0, Z1, Z2, Z3, Z4, Z5, argsP]
 refine cp0 (cut87 s hl) (by decide) ?_
 have hs : PV.v (.string ⟨#[]⟩) = str [] := rfl
 simp only [G0, Z1, Z2, Z3, Z4, Z5, hs, str_neq]
 exact end2 hf rfl rfl ⟨rfl, rfl⟩
end Go.Proofs.YtnmidpahhhdlpaaGreatDoor
end
noncomputable section
namespace Go.Proofs.YtnmidpahhhdlpaaGreatDoor
open Go Go.Am Go.Pm
def parI (t : List En) (p : List UInt8) : Int :=
 if (cutF p).1 = [] then 0 else if fnd t (cutF p).1 >= 0 then (match t[(fnd t (cutF p).1).toNat]? with | some x => if x.kind = 2 then 0 else 12 | none => 0) else 6
theorem parented38 (t : List En) (ht : t.length <= 1000000) (p : List UInt8) (hp : p.length <= 1000000) : PTp env Tryz.prog 38 [encEns t, str p] (iv (parI t p)) := fun M => by
 refine PT.enterR env_ok fn38 (by simp) comp38 fun k hk hf => RX.of env_ok ?_
 simp only [G0, Z1, Z2, Z3, Z4, Z5, argsP]
 refine cp0 (parent61 p hp) (by decide) ?_
 unfold parI
 by_cases hu : (cutF p).1 = []
 ·rw [if_pos hu, hu]
  have : (([] : List UInt8) == []) = true := rfl
  simp only [G0, Z1, Z2, Z3, Z4, Z5, this, Bool.not_true, Bool.not_false]
  exact end1 hf rfl ⟨rfl, rfl⟩
 ·have hb : ((cutF p).1 == []) = false := by
   cases h : ((cutF p).1 == []) with
   | false => rfl
   | true => exact absurd (eq_of_beq h) hu
  rw [if_neg hu]
  simp only [G0, Z1, Z2, Z3, Z4, Z5, hb, Bool.not_true, Bool.not_false]
  refine cp0 (find40 t ht (cutF p).1) (by decide) ?_
  by_cases hg : fnd t (cutF p).1 >= 0
  ·rw [if_pos hg]
   have hx : ∃ (j : Nat) (x : En), fnd t (cutF p).1 = (j : Int) /\ t[j]? = some x := by
    rcases idxG_at (fun x : En => x.path == (cutF p).1) t 0 with h | ⟨j, x, h1, h2, _⟩
    ·unfold fnd at hg; omega
    ·exact ⟨j, x, by unfold fnd; rw [h1]; congr 1; omega, h2⟩
   obtain ⟨j, x, e, hx⟩ := hx
   rw [e] at hg ⊢
   rw [Int.toNat_natCast, hx]
   have hj := lt_get hx
   have hc := en_cell (c := 1) hx rfl
   simp only [G0, Z1, Z2, Z3, Z4, Z5, hg, decide_true, Bool.not_true, hj, encEns, hc]
   by_cases hk2 : x.kind = 2
   ·have hne : (x.kind != 2) = false := by rw [hk2]; rfl
    simp only [G0, Z1, Z2, Z3, Z4, Z5, hne]
    exact end1 hf rfl ⟨by simp only [if_pos hg, if_pos hk2]; rfl, rfl⟩
   ·have hne : (x.kind != 2) = true := by simpa using hk2
    simp only [G0, Z1, Z2, Z3, Z4, Z5, hne]
    exact end1 hf rfl ⟨by simp only [if_pos hg, if_neg hk2]; rfl, rfl⟩
  ·rw [if_neg hg]
   simp only [G0, Z1, Z2, Z3, Z4, Z5, hg, decide_false, Bool.not_false]
   exact end1 hf rfl ⟨rfl, rfl⟩
def prevOk (t : List En) (i : Nat) (x : En) : Bool := match i with
 | 0 => true
 | j + 1 => match t[j]? with
  | some y => lessB y.path x.path
  | none => true
def okAt (t : List En) (i : Nat) (x : En) : Bool := (pathOk x.path && effOk x.kind x.mode x.bytes && !(x.kind == 3)) && prevOk t i x && (parI t x.path == 0)
def okFrom (t : List En) : Nat -> List En -> Bool
 | _, [] => true
 | i, x :: r => okAt t i x && okFrom t (i + 1) r
def treeOk (t : List En) : Bool := decide (t.length <= 200) && okFrom t 0 t
theorem hstE (x : En) : storeO 4 0 (encEn x) (some (.row .rw 0 [.v (.string ⟨#[]⟩), .v (.int .i64 0), .v (.int .i64 0), .lst .full 0 0 []])) = some (.row .rw 0 (enCells x)) := storeO_eq (n := 4) ⟨rfl, Nat.le_refl 4, rfl⟩
theorem loop14 (t : List En) (ht : t.length <= 1000000) (hp : ∀ x ∈ t, x.path.length <= 1000000) (M : PMem) (k : Nat) (Q : AExit -> PSt -> Prop)
  (q1 : okFrom t 0 t = true -> ∀ tm, Q (.exit 0) ⟨tm, 55, k, [], M⟩) (q2 : okFrom t 0 t = false -> ∀ tm, tget tm 2 = iv 2 -> Q .ret ⟨tm, 55, k, [], M⟩) :
  ∀ d i tm, t.length - i = d -> i <= t.length -> okFrom t 0 t = okFrom t i (t.drop i) -> tget tm 0 = encEns t -> tget tm 8 = encEns t -> tget tm 9 = iv t.length -> tget tm 10 = iv i -> RXL env Tryz.prog none c14_20 ⟨tm, 55, k, [], M⟩ Q := by
 intro d
 induction d with
 | zero =>
  intro i tm hd hi ho t0 t8 t9 t10
  have : i = t.length := by omega
  subst this
  refine RXL.round (RX.of env_ok ?_)
  simp only [G0, Z1, Z2, Z3, Z4, Z5, t9, t10, Int.lt_irrefl, decide_false]
  exact q1 (by rw [ho, List.drop_of_length_le (Nat.le_refl _)]; rfl) _
 | succ d ih =>
  intro i tm hd hi ho t0 t8 t9 t10
  have hi' : i < t.length := by omega
  have hii : (i : Int) < t.length := by omega
  obtain ⟨x, hx, hdx⟩ := getE hi'
  have hlx := en_load hx
  have h8 : tget tm 8 = .lst .no 4 t.length (t.flatMap enCells) := t8
  have h0 : tget tm 0 = .lst .no 4 t.length (t.flatMap enCells) := t0
  have hw : IntKind.i64.wrap ((i : Int) + 1) = ((i + 1 : Nat) : Int) := by rw [wrap64_id (by omega) (by omega)]; rfl
  have hxm := List.mem_of_getElem? hx
  have hst := hstE x
  rw [hdx] at ho
  have hun : okFrom t i (x :: t.drop (i + 1)) = (okAt t i x && okFrom t (i + 1) (t.drop (i + 1))) := rfl
  rw [hun] at ho
  have hcl : encEn x = .agg [str x.path, iv x.kind, iv x.mode, encBytes x.bytes] := rfl
  refine RXL.inn fun k' hk1 hk2 hk3 => RX.of env_ok ?_
  simp only [G0, Z1, Z2, Z3, Z4, Z5, h8, t9, t10, hii, decide_true, hi', hlx, hst, enCells]
  refine cp0 (path_check x.path (hp x hxm)) (by decide) ?_
  have aggE : ptake true 3 [str x.path, iv x.kind, iv x.mode, encBytes x.bytes] 1 = some (.agg [iv x.kind, iv x.mode, encBytes x.bytes]) := rfl
  cases hpo : pathOk x.path with
  | false =>
   have hno : okFrom t 0 t = false := by rw [ho, okAt, hpo]; rfl
   simp only [G0, Z1, Z2, Z3, Z4, Z5, ne_err, Bool.not_true, Bool.not_false, cnd_t, cnd_f, e_CGD]
   exact q2 hno _ rfl
  | true =>
   simp only [G0, Z1, Z2, Z3, Z4, Z5, ne_err, Bool.not_true, cnd_t, cnd_f, e_CGD, aggE]
   refine cp0 (effect_check x.kind x.mode x.bytes) (by decide) ?_
   cases heo : effOk x.kind x.mode x.bytes with
   | false =>
    have hno : okFrom t 0 t = false := by rw [ho, okAt, hpo, heo]; rfl
    simp only [G0, Z1, Z2, Z3, Z4, Z5, ne_err, Bool.not_true, Bool.not_false, cnd_t, cnd_f, e_CGD]
    exact q2 hno _ rfl
   | true =>
    cases hk3 : (x.kind == 3) with
    | true =>
     have hno : okFrom t 0 t = false := by rw [ho, okAt, hpo, heo, hk3]; rfl
     simp only [G0, Z1, Z2, Z3, Z4, Z5, ne_err, Bool.not_true, Bool.not_false, cnd_t, cnd_f, e_CGD, hk3]
     exact q2 hno _ rfl
    | false =>
     have hT0 : tget tm 0 = .lst .no 4 t.length (t.flatMap enCells) := t0
     rcases Nat.eq_zero_or_pos i with h0 | h0
     ·subst h0
      have hgt : ¬ (((0 : Nat) : Int) > 0) := by omega
      simp only [G0, Z1, Z2, Z3, Z4, Z5, ne_err, Bool.not_true, Bool.not_false, cnd_t, cnd_f, e_CGD, hk3, hgt, decide_false]
      rw [t0]
      refine cp0 (parented38 t ht x.path (hp x hxm)) (by decide) ?_
      cases hpr : (parI t x.path == 0) with
      | false =>
       have hno : okFrom t 0 t = false := by rw [ho, okAt, hpo, heo, hk3, hpr]; simp
       have hne : (parI t x.path != 0) = true := by rw [bne, hpr]; rfl
       simp only [G0, Z1, Z2, Z3, Z4, Z5, hne, Bool.not_true, Bool.not_false, cnd_t, cnd_f]
       exact q2 hno _ rfl
      | true =>
       have hne : (parI t x.path != 0) = false := by rw [bne, hpr]; rfl
       simp only [G0, Z1, Z2, Z3, Z4, Z5, hne, Bool.not_true, Bool.not_false, cnd_t, cnd_f, t10, hw]
       refine ih (0 + 1) _ (by omega) (by omega) (by rw [ho, okAt, hpo, heo, hk3, hpr]; simp [prevOk]) t0 t8 t9 rfl
     ·obtain ⟨y, hy, -⟩ := getE (xs := t) (i := i - 1) (by omega)
      have hgt : (i : Int) > 0 := by omega
      have hw1 : IntKind.i64.wrap ((i : Int) - 1) = ((i - 1 : Nat) : Int) := by rw [wrap64_id (by omega) (by omega)]; omega
      have hi1 : i - 1 < t.length := by omega
      have hcy := en_cell (c := 0) hy rfl
      have hcy' : (t.flatMap enCells)[(i - 1) * 4]? = some (str y.path) := hcy
      have hpv : prevOk t i x = lessB y.path x.path := by
       cases i with
       | zero => omega
       | succ i => unfold prevOk; rw [show i + 1 - 1 = i from rfl] at hy; simp only [hy]
      simp only [G0, Z1, Z2, Z3, Z4, Z5, ne_err, Bool.not_true, Bool.not_false, cnd_t, cnd_f, e_CGD, hk3, hgt, decide_true, hT0, hw1, hi1, hcy, hcy']
      refine cp0 (less15 y.path x.path (hp y (List.mem_of_getElem? hy)) (hp x hxm)) (by decide) ?_
      cases hls : lessB y.path x.path with
      | false =>
       have hno : okFrom t 0 t = false := by rw [ho, okAt, hpo, heo, hk3, hpv, hls]; rfl
       simp only [G0, Z1, Z2, Z3, Z4, Z5, Bool.not_true, Bool.not_false, cnd_t, cnd_f, e_CGD]
       exact q2 hno _ rfl
      | true =>
       simp only [G0, Z1, Z2, Z3, Z4, Z5, Bool.not_true, Bool.not_false, cnd_t, cnd_f, e_CGD]
       rw [t0]
       refine cp0 (parented38 t ht x.path (hp x hxm)) (by decide) ?_
       cases hpr : (parI t x.path == 0) with
       | false =>
        have hno : okFrom t 0 t = false := by rw [ho, okAt, hpo, heo, hk3, hpr]; simp
        have hne : (parI t x.path != 0) = true := by rw [bne, hpr]; rfl
        simp only [G0, Z1, Z2, Z3, Z4, Z5, hne, Bool.not_true, Bool.not_false, cnd_t, cnd_f]
        exact q2 hno _ rfl
       | true =>
        have hne : (parI t x.path != 0) = false := by rw [bne, hpr]; rfl
        simp only [G0, Z1, Z2, Z3, Z4, Z5, hne, Bool.not_true, Bool.not_false, cnd_t, cnd_f, t10, hw]
        refine ih (i + 1) _ (by omega) (by omega) (by rw [ho, okAt, hpo, heo, hk3, hpv, hls, hpr]; rfl) t0 t8 t9 rfl
theorem check14 (t : List En) (ht : t.length <= 1000000) (hp : ∀ x ∈ t, x.path.length <= 1000000) : PTp env Tryz.prog 14 [encEns t] (iv (errIf (treeOk t))) := fun M => by
 refine PT.enterR env_ok fn14 (by simp) comp14 fun k hk hf => RX.of env_ok ?_
 have hlen : lenL (encEns t) = some (iv (t.length : Nat)) := rfl
 unfold treeOk
 by_cases h2 : t.length <= 200
 ·have hgt : ¬ ((t.length : Int) > 200) := by omega
  rw [decide_eq_true h2, Bool.true_and]
  simp only [G0, Z1, Z2, Z3, Z4, Z5, argsP, hlen, hgt, decide_false]
  refine RX.loop (loop14 t ht hp M k _ (fun h tm => ?_) (fun h tm t2 => ?_) t.length 0 _ rfl (Nat.zero_le _) rfl (by rfl) (by rfl) (by rfl) (by rfl))
  ·simp only [G0, Z1, Z2, Z3, Z4, Z5]
   exact end1 hf rfl ⟨by rw [h]; rfl, rfl⟩
  ·simp only [G0, Z1, Z2, Z3, Z4, Z5]
   exact end1 hf t2 ⟨by rw [h]; rfl, rfl⟩
 ·have hgt : (t.length : Int) > 200 := by omega
  rw [decide_eq_false h2, Bool.false_and]
  simp only [G0, Z1, Z2, Z3, Z4, Z5, argsP, hlen, hgt, decide_true]
  exact end1 hf rfl ⟨rfl, rfl⟩
end Go.Proofs.YtnmidpahhhdlpaaGreatDoor
end
namespace Go.Proofs.YtnmidpahhhdlpaaGreatDoor
open Go Go.Am Go.Pm
inductive OutG {α : Type} (f : α -> List PV) (sz : Nat) (k : Nat) (os : List Pm.Obj) : Option Nat -> PV -> List α -> Prop where
 | nil (e : Nat) : OutG f sz k os none (.lst .full e 0 []) []
 | tok {j : Nat} {L : List α} (h : os[j]? = some (.grow L.length sz)) : OutG f sz k os (some j) (.lst (.id k j) sz L.length (L.flatMap f)) L
section
variable {α : Type} {f : α -> List PV} {sz k : Nat} {os : List Pm.Obj} {j : Option Nat} {v : PV} {L : List α}
theorem OutG.more (h : OutG f sz k os j v L) (o : Pm.Obj) : OutG f sz k (os ++ [o]) j v L := by
 cases h with
 | nil e => exact .nil e
 | @tok j L h =>
  have := (List.getElem?_eq_some_iff.1 h).1
  exact .tok (by rw [List.getElem?_append_left this]; exact h)
theorem OutG.le (h : OutG f sz k os j v L) : PLe v (.lst .no sz L.length (L.flatMap f)) := by
 cases h with
 | nil e => exact PLe.nil_no _ _ _ rfl
 | tok h => exact PLe.no _ _ _ _
theorem OutG.push (h : OutG f sz k os j v L) {by_ : Nat} (hb : (2 * (L.length + 1) + 2000) * by_ <= 281474976710656) (hl : L.length <= 1000000) (hz : sz < 4096) (x : α) (ho : (f x).all pone = true) (t : Tok) :
  ∃ v' os' j', (∀ {tm : List (Nat × PV)} {nt : Nat} {M : PMem}, appP ⟨tm, nt, k, os, M⟩ sz by_ sz v (.lst t sz 1 (f x)) = some (v', ⟨tm, nt, k, os', M⟩)) /\ OutG f sz k os' j' v' (L ++ [x]) := by
 have hfm : (L ++ [x]).flatMap f = L.flatMap f ++ f x := by rw [List.flatMap_append]; simp
 have hlen : (L ++ [x]).length = L.length + 1 := by simp
 cases h with
 | nil e0 =>
  have hc : (0 = 0 \/ e0 = sz) /\ (2 * (0 + 1) + 2000) * by_ <= 281474976710656 /\ 0 + 1 <= 4611686018427387904 /\ sz < 4096 /\ sz = sz /\ (f x).all pone = true := ⟨.inl rfl, hb, by omega, hz, rfl, ho⟩
  refine ⟨_, os ++ [.grow (0 + 1) sz], some os.length, fun {tm nt M} => ap_full (by decide) hc, ?_⟩
  have := OutG.tok (f := f) (sz := sz) (k := k) (os := os ++ [.grow (0 + 1) sz]) (j := os.length) (L := [x]) (by rw [List.getElem?_append_right (Nat.le_refl _), Nat.sub_self]; rfl)
  simpa using this
 | @tok j L h =>
  have hj := (List.getElem?_eq_some_iff.1 h).1
  have hc : (L.length = 0 \/ sz = sz) /\ (2 * (L.length + 1) + 2000) * by_ <= 281474976710656 /\ L.length + 1 <= 4611686018427387904 /\ sz < 4096 /\ sz = sz /\ (f x).all pone = true := ⟨.inr rfl, hb, by omega, hz, rfl, ho⟩
  refine ⟨_, os.set j (.grow (L.length + 1) sz), some j, fun {tm nt M} => ap_id (by decide) h hc rfl, ?_⟩
  rw [<- hfm, <- hlen]
  exact .tok (by rw [List.getElem?_set_self hj])
end
theorem enc4 (x : En) : ptake true 4 [str x.path, iv x.kind, iv x.mode, encBytes x.bytes] 0 = some (.agg [str x.path, iv x.kind, iv x.mode, encBytes x.bytes]) := rfl
theorem own42 (x : En) (h1 : x.bytes.length <= 1000000) : PTp env Tryz.prog 42 [encEn x] (encEn x) := fun M => by
 refine PT.enterR env_ok fn42 (by simp) comp42 fun k hk hf => RX.of env_ok ?_
 simp only [G0, Z1, Z2, Z3, Z4, Z5, argsP, encEn, enCells]
 refine cp0 (clone_bytes _ h1) (by decide) ?_
 have hs3 : storeO 1 3 (encBytes x.bytes) (some (.row .rw 0 [str x.path, iv x.kind, iv x.mode, encBytes x.bytes])) = some (.row .rw 0 [str x.path, iv x.kind, iv x.mode, encBytes x.bytes]) := storeO_eq (n := 1) ⟨rfl, (show 3 + 1 <= 4 from by decide), rfl⟩
 have hs4 := hstE x
 unfold encEn enCells at hs4
 simp only [G0, Z1, Z2, Z3, Z4, Z5, hs3, enc4, hs4]
 refine endc (ag := true) (n := 4) hf (by kernel_rfl) ?_ ⟨rfl, rfl⟩
 simp only [G0, Z1, Z2, Z3, Z4, Z5, enc4]
theorem take_snoc {α : Type} {l : List α} {j : Nat} {v : α} (hv : l[j]? = some v) : l.take (j + 1) = l.take j ++ [v] := by rw [List.take_add_one, hv]; rfl
theorem get_last {os : List Pm.Obj} {o : Pm.Obj} : (os ++ [o])[os.length]? = some o := by simp
theorem set_last {os : List Pm.Obj} {o o' : Pm.Obj} : (os ++ [o]).set os.length o' = os ++ [o'] := by simp
theorem fillN (a : En) : fillA 4 [.v (.string ⟨#[]⟩), .v (.int .i64 0), .v (.int .i64 0), .lst .full 0 0 []] [(0, encEn a)] = some (enCells a) := rfl
theorem en_all (x : En) : ptake true 4 (enCells x) 0 = some (encEn x) := rfl
theorem loop25 (l : List En) (hl : l.length <= 1000000) (hb : ∀ x ∈ l, x.bytes.length <= 1000000) (M : PMem) (k : Nat) (Q : AExit -> PSt -> Prop) (q : ∀ tm os j v, OutG enCells 4 k os j v l -> tget tm 3 = v -> Q (.exit 0) ⟨tm, 19, k, os, M⟩) :
  ∀ d i os j v tm, l.length - i = d -> i <= l.length -> OutG enCells 4 k os j v (l.take i) -> tget tm 3 = v -> tget tm 6 = encEns l -> tget tm 7 = iv l.length -> tget tm 8 = iv i -> RXL env Tryz.prog none c25_12 ⟨tm, 19, k, os, M⟩ Q := by
 intro d
 induction d with
 | zero =>
  intro i os j v tm hd hi hO t3 t6 t7 t8
  have : i = l.length := by omega
  subst this
  rw [List.take_length] at hO
  refine RXL.round (RX.of env_ok ?_)
  simp only [G0, Z1, Z2, Z3, Z4, Z5, t7, t8, Int.lt_irrefl, decide_false]
  exact q _ os j v hO t3
 | succ d ih =>
  intro i os j v tm hd hi hO t3 t6 t7 t8
  have hi' : i < l.length := by omega
  have hii : (i : Int) < l.length := by omega
  obtain ⟨x, hx, -⟩ := getE hi'
  have hlx := en_load hx
  have hw : IntKind.i64.wrap ((i : Int) + 1) = ((i + 1 : Nat) : Int) := by rw [wrap64_id (by omega) (by omega)]; rfl
  have ht6 : tget tm 6 = .lst .no 4 l.length (l.flatMap enCells) := t6
  have hst := hstE x
  refine RXL.round (RX.of env_ok ?_)
  simp only [G0, Z1, Z2, Z3, Z4, Z5, t3, ht6, t7, t8, hii, decide_true, hi', hlx, hst, en_all, get_last, set_last]
  refine cp0 (own42 x (hb x (List.mem_of_getElem? hx))) (by decide) ?_
  have hF := fillN x
  simp only [G0, Z1, Z2, Z3, Z4, Z5, hF]
  obtain ⟨v', os', j', h1, h2⟩ := (hO.more (.row .rw 0 (enCells x))).push (by_ := 56) (by rw [List.length_take]; omega) (by rw [List.length_take]; omega) (by decide) x rfl .full
  refine aL ?_
  rw [h1]
  simp only [G0, Z1, Z2, Z3, Z4, Z5, t8, hw]
  refine ih (i + 1) os' j' v' _ (by omega) (by omega) ?_ rfl t6 t7 rfl
  rw [take_snoc hx]; exact h2
theorem clone25 (l : List En) (hl : l.length <= 1000000) (hb : ∀ x ∈ l, x.bytes.length <= 1000000) : PTp env Tryz.prog 25 [encEns l] (encEns l) := PTp.of fun M => by
 refine PT.enterR env_ok fn25 (by simp) comp25 fun k hk hf => RX.of env_ok ?_
 have hlen : lenL (encEns l) = some (iv (l.length : Nat)) := rfl
 simp only [G0, Z1, Z2, Z3, Z4, Z5, argsP, hlen]
 refine RX.loop (loop25 l hl hb M k _ (fun tm os j v hO t3 => ?_) l.length 0 _ none _ _ rfl (Nat.zero_le _) (.nil 0) (by rfl) (by rfl) (by rfl) (by rfl))
 simp only [G0, Z1, Z2, Z3, Z4, Z5, t3]
 exact end1 hf rfl ⟨hO.le, rfl⟩
end Go.Proofs.YtnmidpahhhdlpaaGreatDoor
noncomputable section
namespace Go.Proofs.YtnmidpahhhdlpaaGreatDoor
open Go Go.Am Go.Pm
def byI (a b : En) : Int := if lessB a.path b.path then -1 else if lessB b.path a.path then 1 else 0
theorem by26 (a b : En) (ha : a.path.length <= 1000000) (hb : b.path.length <= 1000000) : PTp env Tryz.prog 26 [encEn a, encEn b] (iv (byI a b)) := fun M => by
 refine PT.enterR env_ok fn26 (by simp) comp26 fun k hk hf => RX.of env_ok ?_
 simp only [G0, Z1, Z2, Z3, Z4, Z5, argsP, encEn, enCells]
 refine cp0 (less15 a.path b.path ha hb) (by decide) ?_
 unfold byI
 cases h1 : lessB a.path b.path with
 | true =>
  simp only [G0, Z1, Z2, Z3, Z4, Z5]
  exact end1 hf rfl ⟨rfl, rfl⟩
 | false =>
  simp only [G0, Z1, Z2, Z3, Z4, Z5]
  refine cp0 (less15 b.path a.path hb ha) (by decide) ?_
  cases h2 : lessB b.path a.path with
  | true =>
   simp only [G0, Z1, Z2, Z3, Z4, Z5]
   exact end1 hf rfl ⟨rfl, rfl⟩
  | false =>
   simp only [G0, Z1, Z2, Z3, Z4, Z5]
   exact end1 hf rfl ⟨rfl, rfl⟩
structure Pr where
 path : List UInt8
 ak : Int
 am : Int
 ab : List UInt8
 bk : Int
 bm : Int
 bb : List UInt8
def prCells (x : Pr) : List PV := [str x.path, iv x.ak, iv x.am, encBytes x.ab, iv x.bk, iv x.bm, encBytes x.bb]
def encPr (x : Pr) : PV := .agg (prCells x)
def encPrs (l : List Pr) : PV := .lst .no 7 l.length (l.flatMap prCells)
inductive PtE : PV -> Option En -> Prop where
 | nil : PtE (.v (.pointer none)) none
 | here {cs : List PV} {o : Nat} {x : En} (h0 : cs[o]? = some (str x.path)) (h1 : ptake true 3 cs (o + 1) = some (.agg [iv x.kind, iv x.mode, encBytes x.bytes])) : PtE (.dp cs o) (some x)
def meet : Option En -> Option En -> Pr
 | none, none => ⟨[], 0, 0, [], 0, 0, []⟩
 | some x, none => ⟨x.path, x.kind, x.mode, x.bytes, 0, 0, []⟩
 | none, some y => ⟨y.path, 0, 0, [], y.kind, y.mode, y.bytes⟩
 | some x, some y => ⟨y.path, x.kind, x.mode, x.bytes, y.kind, y.mode, y.bytes⟩
inductive OutW (M : PMem) : PV -> List Pr -> Prop where
 | nil (e : Nat) : OutW M (.lst .full e 0 []) []
 | row {k i n : Nat} {w : Wm} {L : List Pr} (hM : M k i = some (.row w 7 (L.flatMap prCells))) (hw : w = .rw \/ w = .own) (hn : n = L.length) (h0 : n ≠ 0) : OutW M (.sl k i 0 n (loCap n 7)) L
def keyV : PV -> Option Nat
 | .sl k _ _ _ _ => some k
 | _ => none
theorem OutW.frame {M M' : PMem} {v : PV} {l : List Pr} (h : OutW M v l) (hf : ∀ k i, keyV v = some k -> M k i ≠ none -> M' k i = M k i) : OutW M' v l := by
 cases h with
 | nil e => exact .nil e
 | row hM hw hn h0 => exact .row (by rw [hf _ _ rfl (by rw [hM]; exact fun h => by cases h)]; exact hM) hw hn h0
theorem OutW.key {M : PMem} {v : PV} {l : List Pr} (h : OutW M v l) {k : Nat} (hf : fresh M k) : keyV v ≠ some k := by
 cases h with
 | nil e => intro h; cases h
 | row hM hw hn h0 => intro h; cases h; rw [hf _] at hM; cases hM
theorem endN {Q : PV -> PMem -> Prop} {body : Code} {nt nt' k : Nat} {tm : List (Nat × PV)} {os : List Pm.Obj} {M : PMem} (h : Q (.tup []) (seg M k os)) : ends env ⟨nt, [], body⟩ Q .normal ⟨tm, nt', k, os, M⟩ := ⟨.inl rfl, [], seg M k os, rfl, .refl _, h⟩
theorem pr_len (L : List Pr) : (L.flatMap prCells).length = L.length * 7 := by
 induction L with
 | nil => rfl
 | cons x l ih => rw [List.flatMap_cons, List.length_append, ih, List.length_cons]; show 7 + _ = _; omega
theorem cap_lo' {n es : Nat} (h : es < 4096) : capOf (loCap n es) = n /\ loCap n es % 2 = 1 /\ esOf (loCap n es) = es := cap_lo h
theorem tyPtr : ∃ y e, env.ty 52 = some y /\ y.desc = .pointer e := by
 have h : (match env.ty 52 with | some y => (match y.desc with | .pointer _ => true | _ => false) | none => false) = true := by kernel_rfl
 cases hy : env.ty 52 with
 | none => rw [hy] at h; cases h
 | some y =>
  rw [hy] at h
  dsimp only at h
  split at h
  ·rename_i e he; exact ⟨y, e, rfl, he⟩
  ·cases h
theorem dp_neq {cs : List PV} {o : Nat} {c d : Bool} : pbin env .neq 52 c d (.dp cs o) (.v (.pointer none)) = some (bv true) := by
 obtain ⟨y, e, h1, h2⟩ := tyPtr
 simp only [pbin, h1, h2]
structure K27 (tm : List (Nat × PV)) (px py : PV) (a k : Nat) : Prop where
 t0 : tget tm 0 = px
 t1 : tget tm 1 = py
 t2 : tget tm 2 = .ptr a 0 0
 t5 : tget tm 5 = .ptr k 0 0
theorem half27a {M : PMem} {a k : Nat} {px py : PV} {ox : Option En} {tm : List (Nat × PV)} {Q : AExit -> PSt -> Prop} (hx : PtE px ox) (hK : K27 tm px py a k) (q : ∀ tm', K27 tm' px py a k -> Q .normal ⟨tm', 34, k, [.row .rw 0 (prCells (meet ox none))], M⟩) :
  RX env Tryz.prog none c27_4 ⟨tm, 34, k, [.row .rw 0 (prCells ⟨[], 0, 0, [], 0, 0, []⟩)], M⟩ Q := by
 obtain ⟨t0, t1, t2, t5⟩ := hK
 refine RX.of env_ok ?_
 cases hx with
 | nil =>
  have n1 := nil_neq (t := 52) (c := false) (d := true) tyPtr
  simp only [G0, Z1, Z2, Z3, Z4, Z5, t0, n1]
  exact q _ ⟨t0, t1, t2, t5⟩
 | @here cs o x h0 h1 =>
  simp only [G0, Z1, Z2, Z3, Z4, Z5, t0, t5, dp_neq, h0, h1]
  have hs1 : storeO 1 0 (str x.path) (some (.row .rw 0 (prCells ⟨[], 0, 0, [], 0, 0, []⟩))) = some (.row .rw 0 (prCells ⟨x.path, 0, 0, [], 0, 0, []⟩)) := storeO_eq (n := 1) ⟨rfl, (show 0 + 1 <= 7 from by decide), rfl⟩
  have hL : ∀ v ∈ [PV.dp cs (o + 1)], Apart k 0 v := fun v hv => .inr ⟨cs, o + 1, List.mem_singleton.1 hv⟩
  refine ⟨k, 0, 0, 0, _, rfl, (by show seg _ k _ k 0 = _; rw [seg_same]; rfl), hL, _, sto_f rfl rfl hs1, ?_⟩
  have hs2 : storeO 3 1 (.agg [iv x.kind, iv x.mode, encBytes x.bytes]) (some (.row .rw 0 (prCells ⟨x.path, 0, 0, [], 0, 0, []⟩))) = some (.row .rw 0 (prCells ⟨x.path, x.kind, x.mode, x.bytes, 0, 0, []⟩)) := storeO_eq (n := 3) ⟨rfl, (show 1 + 3 <= 7 from by decide), rfl⟩
  simp only [G0, Z1, Z2, Z3, Z4, Z5, t5, hs2]
  exact q _ ⟨t0, t1, t2, t5⟩
theorem half27b {M : PMem} {a k : Nat} {px py : PV} {ox oy : Option En} {tm : List (Nat × PV)} {Q : AExit -> PSt -> Prop} (hy : PtE py oy) (hK : K27 tm px py a k) (q : ∀ tm', K27 tm' px py a k -> Q .normal ⟨tm', 34, k, [.row .rw 0 (prCells (meet ox oy))], M⟩) :
  RX env Tryz.prog none c27_8 ⟨tm, 34, k, [.row .rw 0 (prCells (meet ox none))], M⟩ Q := by
 obtain ⟨t0, t1, t2, t5⟩ := hK
 refine RX.of env_ok ?_
 cases hy with
 | nil =>
  have n1 := nil_neq (t := 52) (c := false) (d := true) tyPtr
  simp only [G0, Z1, Z2, Z3, Z4, Z5, t1, n1]
  exact q _ ⟨t0, t1, t2, t5⟩
 | @here cs o y h0 h1 =>
  simp only [G0, Z1, Z2, Z3, Z4, Z5, t1, t5, dp_neq, h0, h1]
  have hL : ∀ v ∈ [PV.dp cs (o + 1)], Apart k 0 v := fun v hv => .inr ⟨cs, o + 1, List.mem_singleton.1 hv⟩
  obtain ⟨p, ak, am, ab, hm⟩ : ∃ p ak am ab, meet ox none = ⟨p, ak, am, ab, 0, 0, []⟩ /\ meet ox (some y) = ⟨y.path, ak, am, ab, y.kind, y.mode, y.bytes⟩ := by
   cases ox with
   | none => exact ⟨_, _, _, _, rfl, rfl⟩
   | some x => exact ⟨_, _, _, _, rfl, rfl⟩
  rw [hm.2] at q
  rw [hm.1]
  have hs1 : storeO 1 0 (str y.path) (some (.row .rw 0 (prCells ⟨p, ak, am, ab, 0, 0, []⟩))) = some (.row .rw 0 (prCells ⟨y.path, ak, am, ab, 0, 0, []⟩)) := storeO_eq (n := 1) ⟨rfl, (show 0 + 1 <= 7 from by decide), rfl⟩
  have hs2 : storeO 3 4 (.agg [iv y.kind, iv y.mode, encBytes y.bytes]) (some (.row .rw 0 (prCells ⟨y.path, ak, am, ab, 0, 0, []⟩))) = some (.row .rw 0 (prCells ⟨y.path, ak, am, ab, y.kind, y.mode, y.bytes⟩)) := storeO_eq (n := 3) ⟨rfl, (show 4 + 3 <= 7 from by decide), rfl⟩
  refine ⟨k, 0, 0, 0, _, rfl, (by show seg _ k _ k 0 = _; rw [seg_same]; rfl), hL, _, sto_f rfl rfl hs1, ?_⟩
  simp only [G0, Z1, Z2, Z3, Z4, Z5, t5, hs2]
  exact q _ ⟨t0, t1, t2, t5⟩
theorem pr_all (x : Pr) : ptake true 7 (prCells x) 0 = some (encPr x) := rfl
theorem fillP (x : Pr) : fillA 7 [.v (.string ⟨#[]⟩), .v (.int .i64 0), .v (.int .i64 0), .lst .full 0 0 [], .v (.int .i64 0), .v (.int .i64 0), .lst .full 0 0 []] [(0, encPr x)] = some (prCells x) := rfl
theorem zeroP {M : PMem} {k nt : Nat} {tm : List (Nat × PV)} (hf : fresh M k) : SLe ⟨tm, nt, k, [.row .rw 0 [.v (.string ⟨#[]⟩), .v (.int .i64 0), .v (.int .i64 0), .lst .full 0 0 [], .v (.int .i64 0), .v (.int .i64 0), .lst .full 0 0 []]], M⟩ ⟨tm, nt, k, [.row .rw 0 (prCells ⟨[], 0, 0, [], 0, 0, []⟩)], M⟩ := by
 refine ⟨fun _ => .refl _, rfl, rfl, rfl, fun a i o e => ?_⟩
 have e' : seg M k [.row .rw 0 (prCells ⟨[], 0, 0, [], 0, 0, []⟩)] a i = some o := e
 show ∃ o', seg M k _ a i = some o' /\ _
 by_cases ha : a = k
 ·subst ha
  rw [seg_same] at e' ⊢
  cases i with
  | zero =>
   cases e'
   exact ⟨_, rfl, .row _ _ (.cons (.refl _) (.cons (.refl _) (.cons (.refl _) (.cons (PLe.nil_no _ _ _ rfl) (.cons (.refl _) (.cons (.refl _) (.cons (PLe.nil_no _ _ _ rfl) .nil)))))))⟩
  | succ i => cases e'
 ·rw [seg_ne _ _ _ ha] at e' ⊢
  exact ⟨o, e', .refl _⟩
theorem met27 {M : PMem} {a : Nat} {vo px py : PV} {ox oy : Option En} {L : List Pr} (hx : PtE px ox) (hy : PtE py oy) (hM : M a 0 = some (.row .rw 0 [vo])) (h : OutW M vo L) (hne : keyV vo ≠ some a) (hl : L.length <= 1000000) :
  PTk env Tryz.prog 27 [px, py, .ptr a 0 0] M (fun nk z M1 => ∃ vo' k', M1 a 0 = some (.row .rw 0 [vo']) /\ OutW M1 vo' (L ++ [meet ox oy]) /\ nk <= k' /\ fresh M k' /\ keyV vo' = some k' /\ ∀ k i, k ≠ a -> keyV vo ≠ some k -> M k i ≠ none -> M1 k i = M k i) := by
 refine PTk.enterR env_ok fn27 (by simp) comp27 fun k hk hf => RX.seq (RX.of env_ok ?_)
 have hak : a ≠ k := fun e => by subst e; rw [hf 0] at hM; cases hM
 have hlda : ∀ {ag : Bool} {n o : Nat} {os : List Pm.Obj} {M : PMem}, loadP k os M ag n (.ptr a 0 o) = rowTake ag n o (M a 0) := loadP_out hak
 simp only [G0, Z1, Z2, Z3, Z4, Z5, argsP]
 refine RX.weak (zeroP hf) ?_
 refine RX.seq (half27a (px := px) (py := py) (a := a) hx (by exact ⟨rfl, rfl, rfl, rfl⟩) fun tm1 hK1 => ?_)
 refine RX.seq (half27b (ox := ox) hy hK1 fun tm2 hK2 => ?_)
 obtain ⟨t0, t1, t2, t5⟩ := hK2
 generalize meet ox oy = X
 have hfl := fillP X
 have hst : ∀ {tm : List (Nat × PV)} {os : List Pm.Obj} {M : PMem} {k2 i2 o2 n2 c2 : Nat}, M a 0 = some (.row .rw 0 [vo]) -> storeP tm 34 k os M 1 (.sl k2 i2 o2 n2 c2) (.ptr a 0 0) = some (.junk, ⟨tm, 34, k, os, putM M a 0 (.row .rw 0 [.sl k2 i2 o2 n2 c2])⟩) := fun {tm os M k2 i2 o2 n2 c2} h => by
  rw [storeP_out hak, h, storeO_eq (n := 1) (o := 0) (cs := [vo]) (x := .sl k2 i2 o2 n2 c2) ⟨rfl, Nat.le_refl 1, rfl⟩, stO_eq]; rfl
 have old : ∀ {M' : PMem} {os : List Pm.Obj} {k' i : Nat}, M k' i ≠ none -> seg M' k os k' i = M' k' i := fun {M' os k' i} h => seg_ne _ _ _ fun e => by subst e; exact h (hf i)
 have hXo : (prCells X).all pone = true := rfl
 refine RX.of env_ok ?_
 cases h with
 | nil e =>
  simp only [G0, Z1, Z2, Z3, Z4, Z5, t2, t5, hlda, hM, pr_all, hfl]
  refine aR ?_
  rw [apr_full (m := 1) (n := 0) (by decide) ⟨.inl rfl, by decide, by decide, by decide, rfl, hXo⟩]
  simp only [G0, Z1, Z2, Z3, Z4, Z5, hst, hM, t2]
  refine endN ⟨_, k, by rw [seg_ne _ _ _ hak]; exact putM_same _ _ _ _, ?_, Nat.le_refl _, hf, rfl, fun k' i h1 h2 h3 => by rw [old h3, put_ne (fun y => h1 y.1)]⟩
  exact OutW.row (k := k) (i := 1) (w := .rw) (by rw [seg_same]; simp) (.inl rfl) rfl (by decide)
 | @row k1 i1 n w L hM1 hw hn h0 =>
  subst hn
  have hka : k1 ≠ a := fun e => hne (by subst e; rfl)
  have hk1 : k1 ≠ k := fun e => by subst e; rw [hf i1] at hM1; cases hM1
  simp only [G0, Z1, Z2, Z3, Z4, Z5, t2, t5, hlda, hM, pr_all, hfl]
  refine aR ?_
  rw [apr_grow (m := 1) (n := L.length) (by decide) h0 hk1 (cap_lo (by decide)) hw hM1 (pr_len L).symm ⟨by omega, by omega, by decide, rfl, hXo⟩]
  have hMa : putM M k1 i1 .gone a 0 = some (.row .rw 0 [.sl k1 i1 0 L.length (loCap L.length 7)]) := by rw [put_ne (fun y => hka y.1.symm)]; exact hM
  simp only [G0, Z1, Z2, Z3, Z4, Z5, hst, hMa, t2]
  refine endN ⟨_, k, by rw [seg_ne _ _ _ hak]; exact putM_same _ _ _ _, ?_, Nat.le_refl _, hf, rfl, fun k' i h1 h2 h3 => by rw [old h3, put_ne (fun y => h1 y.1), put_ne (fun y => h2 (by rw [y.1]; rfl))]⟩
  exact OutW.row (k := k) (i := 1) (w := .own) (by rw [seg_same, List.flatMap_append]; simp) (.inr rfl) (by simp) (by omega)
end Go.Proofs.YtnmidpahhhdlpaaGreatDoor
end
noncomputable section
namespace Go.Proofs.YtnmidpahhhdlpaaGreatDoor
open Go Go.Am Go.Pm
theorem ordS_self (a : List UInt8) : ordS a a = 0 := by unfold ordS; rw [lt_irrefl]; rfl
theorem ordS_zero {a b : List UInt8} (h : ordS a b = 0) : a = b := by
 unfold ordS at h
 cases h1 : bytesLt a b with
 | true => rw [h1] at h; cases h
 | false =>
  rw [h1] at h
  cases h2 : bytesLt b a with
  | true => rw [h2] at h; cases h
  | false => exact lt_total h1 h2
theorem ordS_neg {a b : List UInt8} : ordS a b < 0 ↔ bytesLt a b = true := by
 unfold ordS
 cases h1 : bytesLt a b with
 | true => exact ⟨fun _ => rfl, fun _ => by rw [if_pos rfl]; decide⟩
 | false =>
  rw [if_neg (by decide)]
  constructor
  ·intro h; split at h <;> omega
  ·intro h; cases h
theorem ordS_swap (a b : List UInt8) : ordS b a = - ordS a b := by
 unfold ordS
 cases h1 : bytesLt a b with
 | true =>
  cases h2 : bytesLt b a with
  | true => have := lt_trans' h1 h2; rw [lt_irrefl] at this; cases this
  | false => rfl
 | false => cases h2 : bytesLt b a <;> rfl
theorem ordS_trans {a b c : List UInt8} (h1 : ordS a b < 0) (h2 : ordS b c < 0) : ordS a c < 0 := ordS_neg.2 (lt_trans' (ordS_neg.1 h1) (ordS_neg.1 h2))
theorem ordL_self : ∀ l : List (List UInt8), ordL l l = 0
 | [] => rfl
 | x :: r => by rw [ordL, if_pos (ordS_self x)]; exact ordL_self r
theorem ordL_zero : ∀ {l m : List (List UInt8)}, ordL l m = 0 -> l = m
 | [], [], _ => rfl
 | [], _ :: _, h => by cases h
 | _ :: _, [], h => by cases h
 | x :: r, y :: q, h => by
  rw [ordL] at h
  split at h
  ·rename_i h1
   rw [ordS_zero h1, ordL_zero h]
  ·rename_i h1; exact absurd h h1
theorem ordL_swap : ∀ l m : List (List UInt8), ordL m l = - ordL l m
 | [], [] => rfl
 | [], _ :: _ => rfl
 | _ :: _, [] => rfl
 | x :: r, y :: q => by
  have hs := ordS_swap x y
  have ih := ordL_swap r q
  rw [ordL, ordL]
  by_cases h : ordS x y = 0
  ·rw [if_pos h, if_pos (by omega)]; exact ih
  ·rw [if_neg h, if_neg (by omega)]; exact hs
theorem ordL_trans : ∀ {l m n : List (List UInt8)}, ordL l m < 0 -> ordL m n < 0 -> ordL l n < 0
 | [], [], _, h, _ => absurd h (by show ¬ (0 : Int) < 0; decide)
 | _ :: _, [], _, h, _ => absurd h (by show ¬ (1 : Int) < 0; decide)
 | _, _ :: _, [], _, h => absurd h (by show ¬ (1 : Int) < 0; decide)
 | [], _ :: _, _ :: _, _, _ => by show (-1 : Int) < 0; decide
 | x :: r, y :: q, z :: p, h1, h2 => by
  have ih := @ordL_trans r q p
  rw [ordL] at h1 h2 ⊢
  by_cases e1 : ordS x y = 0
  ·have := ordS_zero e1; subst this
   rw [if_pos (ordS_self x)] at h1
   by_cases e2 : ordS x z = 0
   ·rw [if_pos e2] at h2 ⊢; exact ih h1 h2
   ·rw [if_neg e2] at h2 ⊢; exact h2
  ·rw [if_neg e1] at h1
   by_cases e2 : ordS y z = 0
   ·have := ordS_zero e2; subst this
    rw [if_neg e1]; exact h1
   ·rw [if_neg e2] at h2
    have h3 := ordS_trans h1 h2
    rw [if_neg (by omega)]; exact h3
def unparts : List (List UInt8) -> List UInt8
 | [] => []
 | [p] => p
 | p :: q :: r => p ++ 47 :: unparts (q :: r)
theorem unparts_parts : ∀ s : List UInt8, unparts (parts s) = s
 | [] => rfl
 | c :: r => by
  have ih := unparts_parts r
  unfold parts
  by_cases hc : c = 47
  ·rw [if_pos hc]
   cases hp : parts r with
   | nil => have := count_parts r; rw [hp] at this; cases this
   | cons p ps => rw [hp] at ih; rw [unparts, ih, hc]; rfl
  ·rw [if_neg hc]
   cases hp : parts r with
   | nil => have := count_parts r; rw [hp] at this; cases this
   | cons p ps =>
    rw [hp] at ih
    dsimp only
    cases ps with
    | nil => rw [unparts] at ih ⊢; rw [ih]
    | cons q qs => rw [unparts] at ih ⊢; rw [List.cons_append, ih]
theorem parts_inj {a b : List UInt8} (h : parts a = parts b) : a = b := by rw [<- unparts_parts a, h, unparts_parts]
theorem less_irr (a : List UInt8) : lessB a a = false := by unfold lessB ordP; rw [ordL_self]; rfl
theorem less_trans {a b c : List UInt8} (h1 : lessB a b = true) (h2 : lessB b c = true) : lessB a c = true := by
 unfold lessB ordP at *
 exact decide_eq_true (ordL_trans (of_decide_eq_true h1) (of_decide_eq_true h2))
theorem less_tot {a b : List UInt8} (h1 : lessB a b = false) (h2 : lessB b a = false) : a = b := by
 unfold lessB ordP at *
 have h3 := of_decide_eq_false h1
 have h4 := of_decide_eq_false h2
 have h5 := ordL_swap (parts a) (parts b)
 exact parts_inj (ordL_zero (by omega))
theorem byI_neg {a b : En} : byI a b < 0 ↔ lessB a.path b.path = true := by
 unfold byI
 cases h1 : lessB a.path b.path with
 | true => exact ⟨fun _ => rfl, fun _ => by rw [if_pos rfl]; decide⟩
 | false =>
  rw [if_neg (by decide)]
  constructor
  ·intro h; split at h <;> omega
  ·intro h; cases h
theorem by_same {a b : En} (h1 : ¬ byI a b < 0) (h2 : ¬ byI b a < 0) : a.path = b.path := by
 rw [byI_neg] at h1 h2
 exact less_tot (by simpa using h1) (by simpa using h2)
theorem byI_self (a : En) : byI a a = 0 := by unfold byI; rw [less_irr]; rfl
def mergeN : Nat -> List En -> List En -> List Pr
 | 0, _, _ => []
 | n + 1, a, b => match a, b with
  | [], [] => []
  | x :: r, [] => meet (some x) none :: mergeN n r []
  | [], y :: q => meet none (some y) :: mergeN n [] q
  | x :: r, y :: q => if byI x y < 0 then meet (some x) none :: mergeN n r (y :: q) else if byI y x < 0 then meet none (some y) :: mergeN n (x :: r) q else meet (some x) (some y) :: mergeN n r q
theorem merge_nn (n : Nat) : mergeN n [] [] = [] := by cases n <;> rfl
theorem merge_xn (n : Nat) (x : En) (r : List En) : mergeN (n + 1) (x :: r) [] = meet (some x) none :: mergeN n r [] := rfl
theorem merge_ny (n : Nat) (y : En) (q : List En) : mergeN (n + 1) [] (y :: q) = meet none (some y) :: mergeN n [] q := rfl
theorem merge_xy (n : Nat) (x y : En) (r q : List En) : mergeN (n + 1) (x :: r) (y :: q) = if byI x y < 0 then meet (some x) none :: mergeN n r (y :: q) else if byI y x < 0 then meet none (some y) :: mergeN n (x :: r) q else meet (some x) (some y) :: mergeN n r q := rfl
theorem mergeN_len : ∀ (n : Nat) (a b : List En), (mergeN n a b).length <= n
 | 0, _, _ => Nat.le_refl _
 | n + 1, [], [] => Nat.zero_le _
 | n + 1, x :: r, [] => Nat.succ_le_succ (mergeN_len n r [])
 | n + 1, [], y :: q => Nat.succ_le_succ (mergeN_len n [] q)
 | n + 1, x :: r, y :: q => by
  rw [merge_xy]
  split
  ·exact Nat.succ_le_succ (mergeN_len n _ _)
  ·split
   ·exact Nat.succ_le_succ (mergeN_len n _ _)
   ·exact Nat.succ_le_succ (mergeN_len n _ _)
def Srt (l : List En) : Prop := l.Pairwise (fun x y => lessB x.path y.path = true)
theorem mergeN_mem : ∀ (n : Nat) (a b : List En) (p : Pr), p ∈ mergeN n a b -> (∃ x ∈ a, x.path = p.path) \/ (∃ y ∈ b, y.path = p.path)
 | 0, _, _, p, h => by cases h
 | n + 1, [], [], p, h => by cases h
 | n + 1, x :: r, [], p, h => by
  rw [merge_xn] at h
  rcases List.mem_cons.1 h with rfl | h
  ·exact .inl ⟨x, List.mem_cons_self, rfl⟩
  ·rcases mergeN_mem n r [] p h with ⟨z, h1, h2⟩ | ⟨z, h1, h2⟩
   ·exact .inl ⟨z, List.mem_cons_of_mem _ h1, h2⟩
   ·cases h1
 | n + 1, [], y :: q, p, h => by
  rw [merge_ny] at h
  rcases List.mem_cons.1 h with rfl | h
  ·exact .inr ⟨y, List.mem_cons_self, rfl⟩
  ·rcases mergeN_mem n [] q p h with ⟨z, h1, h2⟩ | ⟨z, h1, h2⟩
   ·cases h1
   ·exact .inr ⟨z, List.mem_cons_of_mem _ h1, h2⟩
 | n + 1, x :: r, y :: q, p, h => by
  rw [merge_xy] at h
  have up : ((∃ z ∈ r, z.path = p.path) \/ (∃ z ∈ q, z.path = p.path)) -> ((∃ z ∈ x :: r, z.path = p.path) \/ (∃ z ∈ y :: q, z.path = p.path)) := by
   rintro (⟨z, h1, h2⟩ | ⟨z, h1, h2⟩)
   ·exact .inl ⟨z, List.mem_cons_of_mem _ h1, h2⟩
   ·exact .inr ⟨z, List.mem_cons_of_mem _ h1, h2⟩
  split at h
  ·rcases List.mem_cons.1 h with rfl | h
   ·exact .inl ⟨x, List.mem_cons_self, rfl⟩
   ·rcases mergeN_mem n _ _ p h with ⟨z, h1, h2⟩ | h1
    ·exact .inl ⟨z, List.mem_cons_of_mem _ h1, h2⟩
    ·exact .inr h1
  ·split at h
   ·rcases List.mem_cons.1 h with rfl | h
    ·exact .inr ⟨y, List.mem_cons_self, rfl⟩
    ·rcases mergeN_mem n _ _ p h with h1 | ⟨z, h1, h2⟩
     ·exact .inl h1
     ·exact .inr ⟨z, List.mem_cons_of_mem _ h1, h2⟩
   ·rcases List.mem_cons.1 h with rfl | h
    ·exact .inr ⟨y, List.mem_cons_self, rfl⟩
    ·exact up (mergeN_mem n _ _ p h)
theorem mergeN_srt : ∀ (n : Nat) (a b : List En), Srt a -> Srt b -> (mergeN n a b).Pairwise (fun p q => lessB p.path q.path = true)
 | 0, _, _, _, _ => .nil
 | n + 1, [], [], _, _ => .nil
 | n + 1, x :: r, [], ha, hb => by
  rw [merge_xn]
  obtain ⟨h1, h2⟩ := List.pairwise_cons.1 ha
  refine List.pairwise_cons.2 ⟨fun p hp => ?_, mergeN_srt n r [] h2 hb⟩
  rcases mergeN_mem n _ _ p hp with ⟨z, h3, h4⟩ | ⟨z, h3, h4⟩
  ·rw [<- h4]; exact h1 z h3
  ·cases h3
 | n + 1, [], y :: q, ha, hb => by
  rw [merge_ny]
  obtain ⟨h1, h2⟩ := List.pairwise_cons.1 hb
  refine List.pairwise_cons.2 ⟨fun p hp => ?_, mergeN_srt n [] q ha h2⟩
  rcases mergeN_mem n _ _ p hp with ⟨z, h3, h4⟩ | ⟨z, h3, h4⟩
  ·cases h3
  ·rw [<- h4]; exact h1 z h3
 | n + 1, x :: r, y :: q, ha, hb => by
  rw [merge_xy]
  obtain ⟨h1, h2⟩ := List.pairwise_cons.1 ha
  obtain ⟨g1, g2⟩ := List.pairwise_cons.1 hb
  split
  ·rename_i hc
   have hl := byI_neg.1 hc
   refine List.pairwise_cons.2 ⟨fun p hp => ?_, mergeN_srt n r _ h2 hb⟩
   rcases mergeN_mem n _ _ p hp with ⟨z, h3, h4⟩ | ⟨z, h3, h4⟩
   ·rw [<- h4]; exact h1 z h3
   ·rw [<- h4]
    rcases List.mem_cons.1 h3 with rfl | h3
    ·exact hl
    ·exact less_trans hl (g1 z h3)
  ·rename_i hc
   split
   ·rename_i hd
    have hl := byI_neg.1 hd
    refine List.pairwise_cons.2 ⟨fun p hp => ?_, mergeN_srt n _ q ha g2⟩
    rcases mergeN_mem n _ _ p hp with ⟨z, h3, h4⟩ | ⟨z, h3, h4⟩
    ·rw [<- h4]
     rcases List.mem_cons.1 h3 with rfl | h3
     ·exact hl
     ·exact less_trans hl (h1 z h3)
    ·rw [<- h4]; exact g1 z h3
   ·rename_i hd
    have he := by_same hc hd
    refine List.pairwise_cons.2 ⟨fun p hp => ?_, mergeN_srt n r q h2 g2⟩
    show lessB y.path p.path = true
    rcases mergeN_mem n _ _ p hp with ⟨z, h3, h4⟩ | ⟨z, h3, h4⟩
    ·rw [<- h4, <- he]; exact h1 z h3
    ·rw [<- h4]; exact g1 z h3
def selA (p : Pr) : Option En := if p.ak = 0 then none else some ⟨p.path, p.ak, p.am, p.ab⟩
def selB (p : Pr) : Option En := if p.bk = 0 then none else some ⟨p.path, p.bk, p.bm, p.bb⟩
theorem selA_x {x : En} (h : x.kind ≠ 0) : selA (meet (some x) none) = some x := by
 show (if x.kind = 0 then none else some (En.mk x.path x.kind x.mode x.bytes)) = _
 rw [if_neg h]
theorem selB_y {y : En} (h : y.kind ≠ 0) : selB (meet none (some y)) = some y := by
 show (if y.kind = 0 then none else some (En.mk y.path y.kind y.mode y.bytes)) = _
 rw [if_neg h]
theorem selA_y {y : En} : selA (meet none (some y)) = none := rfl
theorem selB_x {x : En} : selB (meet (some x) none) = none := rfl
theorem selA_xy {x y : En} (h : x.kind ≠ 0) (he : x.path = y.path) : selA (meet (some x) (some y)) = some x := by
 show (if x.kind = 0 then none else some (En.mk y.path x.kind x.mode x.bytes)) = _
 rw [if_neg h, <- he]
theorem selB_xy {x y : En} (h : y.kind ≠ 0) : selB (meet (some x) (some y)) = some y := by
 show (if y.kind = 0 then none else some (En.mk y.path y.kind y.mode y.bytes)) = _
 rw [if_neg h]
theorem mergeN_a : ∀ (n : Nat) (a b : List En), a.length + b.length <= n -> (∀ x ∈ a, x.kind ≠ 0) -> (mergeN n a b).filterMap selA = a
 | n, [], [], _, _ => by rw [merge_nn]; rfl
 | 0, _ :: _, _, h, _ => by simp only [List.length_cons] at h; omega
 | 0, _, _ :: _, h, _ => by simp only [List.length_cons] at h; omega
 | n + 1, x :: r, [], h, ha => by
  simp only [List.length_cons, List.length_nil] at h
  rw [merge_xn, List.filterMap_cons, selA_x (ha x List.mem_cons_self)]
  dsimp only
  rw [mergeN_a n r [] (by simp only [List.length_nil]; omega) fun z hz => ha z (List.mem_cons_of_mem _ hz)]
 | n + 1, [], y :: q, h, ha => by
  simp only [List.length_cons, List.length_nil] at h
  rw [merge_ny, List.filterMap_cons, selA_y]
  dsimp only
  exact mergeN_a n [] q (by simp only [List.length_nil]; omega) ha
 | n + 1, x :: r, y :: q, h, ha => by
  simp only [List.length_cons] at h
  have hx := ha x List.mem_cons_self
  have hr : ∀ z ∈ r, z.kind ≠ 0 := fun z hz => ha z (List.mem_cons_of_mem _ hz)
  rw [merge_xy]
  split
  ·rw [List.filterMap_cons, selA_x hx]
   dsimp only
   rw [mergeN_a n r (y :: q) (by simp only [List.length_cons]; omega) hr]
  ·rename_i h1
   split
   ·rw [List.filterMap_cons, selA_y]
    dsimp only
    exact mergeN_a n (x :: r) q (by simp only [List.length_cons]; omega) ha
   ·rename_i h2
    rw [List.filterMap_cons, selA_xy hx (by_same h1 h2)]
    dsimp only
    rw [mergeN_a n r q (by omega) hr]
theorem mergeN_b : ∀ (n : Nat) (a b : List En), a.length + b.length <= n -> (∀ x ∈ b, x.kind ≠ 0) -> (mergeN n a b).filterMap selB = b
 | n, [], [], _, _ => by rw [merge_nn]; rfl
 | 0, _ :: _, _, h, _ => by simp only [List.length_cons] at h; omega
 | 0, _, _ :: _, h, _ => by simp only [List.length_cons] at h; omega
 | n + 1, x :: r, [], h, hb => by
  simp only [List.length_cons, List.length_nil] at h
  rw [merge_xn, List.filterMap_cons, selB_x]
  dsimp only
  exact mergeN_b n r [] (by simp only [List.length_nil]; omega) hb
 | n + 1, [], y :: q, h, hb => by
  simp only [List.length_cons, List.length_nil] at h
  rw [merge_ny, List.filterMap_cons, selB_y (hb y List.mem_cons_self)]
  dsimp only
  rw [mergeN_b n [] q (by simp only [List.length_nil]; omega) fun z hz => hb z (List.mem_cons_of_mem _ hz)]
 | n + 1, x :: r, y :: q, h, hb => by
  simp only [List.length_cons] at h
  have hy := hb y List.mem_cons_self
  have hq : ∀ z ∈ q, z.kind ≠ 0 := fun z hz => hb z (List.mem_cons_of_mem _ hz)
  rw [merge_xy]
  split
  ·rw [List.filterMap_cons, selB_x]
   dsimp only
   exact mergeN_b n r (y :: q) (by simp only [List.length_cons]; omega) hb
  ·rename_i h1
   split
   ·rw [List.filterMap_cons, selB_y hy]
    dsimp only
    rw [mergeN_b n (x :: r) q (by simp only [List.length_cons]; omega) hq]
   ·rw [List.filterMap_cons, selB_xy hy]
    dsimp only
    rw [mergeN_b n r q (by omega) hq]
theorem mergeN_self : ∀ (n : Nat) (a : List En), a.length + a.length <= n -> mergeN n a a = a.map fun x => meet (some x) (some x)
 | n, [], _ => by rw [merge_nn]; rfl
 | 0, _ :: _, h => by simp only [List.length_cons] at h; omega
 | n + 1, x :: r, h => by
  simp only [List.length_cons] at h
  rw [merge_xy, if_neg (by rw [byI_self]; decide), if_neg (by rw [byI_self]; decide), mergeN_self n r (by omega)]; rfl
theorem okFrom_at (t : List En) : ∀ (l : List En) (i j : Nat) (x : En), okFrom t i l = true -> l[j]? = some x -> okAt t (i + j) x = true
 | [], i, j, x, _, h => by simp at h
 | y :: r, i, 0, x, h, hx => by
  unfold okFrom at h
  rw [Bool.and_eq_true] at h
  cases hx
  exact h.1
 | y :: r, i, j + 1, x, h, hx => by
  unfold okFrom at h
  rw [Bool.and_eq_true] at h
  have := okFrom_at t r (i + 1) j x h.2 (by simpa using hx)
  rw [show i + 1 + j = i + (j + 1) from by omega] at this
  exact this
theorem tree_at {t : List En} (h : treeOk t = true) {j : Nat} {x : En} (hx : t[j]? = some x) : okAt t j x = true := by
 unfold treeOk at h
 rw [Bool.and_eq_true] at h
 have := okFrom_at t t 0 j x h.2 hx
 rwa [Nat.zero_add] at this
theorem tree_kind {t : List En} (h : treeOk t = true) {x : En} (hx : x ∈ t) : x.kind ≠ 0 := by
 obtain ⟨j, hj⟩ := List.mem_iff_getElem?.1 hx
 have := tree_at h hj
 unfold okAt effOk at this
 simp only [Bool.and_eq_true, Bool.not_eq_true', Bool.or_eq_false_iff, decide_eq_false_iff_not] at this
 omega
theorem tree_srt {t : List En} (h : treeOk t = true) : Srt t := by
 have step : ∀ (d i : Nat) (x y : En), t[i]? = some x -> t[i + d + 1]? = some y -> lessB x.path y.path = true := by
  intro d
  induction d with
  | zero =>
   intro i x y hx hy
   have := tree_at h hy
   unfold okAt at this
   simp only [Bool.and_eq_true] at this
   have hp := this.1.2
   unfold prevOk at hp
   simp only [Nat.add_zero, hx] at hp
   exact hp
  | succ d ih =>
   intro i x y hx hy
   obtain ⟨z, hz, -⟩ := getE (xs := t) (i := i + d + 1) (by have := lt_get hy; omega)
   have h1 := ih i x z hx hz
   have := tree_at h hy
   unfold okAt at this
   simp only [Bool.and_eq_true] at this
   have hp := this.1.2
   unfold prevOk at hp
   have e : i + (d + 1) + 1 = (i + d + 1) + 1 := by omega
   rw [e] at hp
   simp only [hz] at hp
   exact less_trans h1 hp
 refine List.pairwise_iff_getElem.2 fun i j hi hj hij => ?_
 obtain ⟨d, rfl⟩ : ∃ d, j = i + d + 1 := ⟨j - i - 1, by omega⟩
 exact step d i _ _ (List.getElem?_eq_getElem hi) (List.getElem?_eq_getElem hj)
end Go.Proofs.YtnmidpahhhdlpaaGreatDoor
end
namespace Go.Proofs.YtnmidpahhhdlpaaGreatDoor
open Go Go.Am Go.Pm
theorem en_eff {l : List En} {i : Nat} {x : En} (h : l[i]? = some x) : ptake true 3 (l.flatMap enCells) (i * 4 + 1) = some (.agg [iv x.kind, iv x.mode, encBytes x.bytes]) := by
 have hl := en_load h
 have hlen : (i * 4 + 4 : Nat) <= (l.flatMap enCells).length := by
  unfold ptake at hl
  dsimp only at hl
  split at hl
  ·assumption
  ·cases hl
 unfold ptake at hl ⊢
 dsimp only at hl ⊢
 rw [if_pos hlen] at hl
 rw [if_pos (by omega)]
 have e : ((l.flatMap enCells).drop (i * 4)).take 4 = enCells x := by
  have := Option.some.inj hl
  unfold encEn at this
  exact PV.agg.inj this
 have e2 : ((l.flatMap enCells).drop (i * 4 + 1)).take 3 = (enCells x).drop 1 := by
  rw [<- e, List.drop_take, List.drop_drop]
 rw [e2]; rfl
theorem ptE_at {l : List En} {i : Nat} {x : En} (h : l[i]? = some x) : PtE (.dp (l.flatMap enCells) (i * 4)) (some x) := .here (by have := en_cell (c := 0) h rfl; exact this) (en_eff h)
structure Bx (n0 : Nat) (M0 M : PMem) (a : Nat) (L : List Pr) : Prop where
 sub : Pm.Sub M0 M
 new : fresh M0 a
 vals : ∃ vo, M a 0 = some (.row .rw 0 [vo]) /\ OutW M vo L /\ keyV vo ≠ some a /\ ∀ k, keyV vo = some k -> fresh M0 k /\ n0 <= k
section
variable {n0 a k : Nat} {M0 M : PMem} {L : List Pr}
theorem Bx.met {px py : PV} {ox oy : Option En} (h : Bx n0 M0 M a L) (hx : PtE px ox) (hy : PtE py oy) (hl : L.length <= 1000000) :
  PTk env Tryz.prog 27 [px, py, .ptr a 0 0] M (fun nk z M1 => n0 <= nk -> Bx n0 M0 M1 a (L ++ [meet ox oy])) := by
 obtain ⟨vo, h1, h2, h3, h4⟩ := h.vals
 refine (met27 hx hy h1 h2 h3 hl).mono ?_
 rintro nk z M1 ⟨vo', k', q1, q2, q3, q4, q5, q6⟩ hn
 refine ⟨fun j i o e => ?_, h.new, vo', q1, q2, ?_, ?_⟩
 ·have hj : j ≠ a := fun e' => by subst e'; rw [h.new i] at e; cases e
  have he := h.sub _ _ _ e
  rw [q6 j i hj (fun e' => by rw [(h4 j e').1 i] at e; cases e) (by rw [he]; exact fun h => by cases h)]
  exact he
 ·rw [q5]
  intro e
  cases e
  rw [q4 0] at h1; cases h1
 ·intro k e
  rw [q5] at e
  cases e
  exact ⟨fresh_of_sub h.sub q4, by omega⟩
theorem Bx.into (h : Bx (k + 1) M0 M a L) (hf : fresh M0 k) (hak : a ≠ k) : Bx (k + 1) M0 (seg M k []) a L := by
 obtain ⟨vo, h1, h2, h3, h4⟩ := h.vals
 refine ⟨fun j i o e => ?_, h.new, vo, by rw [seg_ne _ _ _ hak]; exact h1, h2.frame fun j i e _ => ?_, h3, h4⟩
 ·have hj : j ≠ k := fun e' => by subst e'; rw [hf i] at e; cases e
  rw [seg_ne _ _ _ hj]; exact h.sub _ _ _ e
 ·have hj : j ≠ k := fun e' => by subst e'; have := (h4 _ e).2; omega
  rw [seg_ne _ _ _ hj]
theorem Bx.weak {n1 : Nat} (h : Bx n0 M0 M a L) (hn : n1 <= n0) : Bx n1 M0 M a L := by
 obtain ⟨vo, h1, h2, h3, h4⟩ := h.vals
 exact ⟨h.sub, h.new, vo, h1, h2, h3, fun k e => ⟨(h4 k e).1, Nat.le_trans hn (h4 k e).2⟩⟩
end
theorem scope0 {E : Env} {P : Program} {rd : Option (Nat × Nat)} {s : PSt} {Q : AExit -> PSt -> Prop} {a : Code} {c : RC} (hc : comp E a = c) (h : RX E P rd c s (fun e s1 => (∀ l, e ≠ .goto l) /\ Q e s1)) : RX E P rd (.scope a) s Q :=
 RX.scope (PXS.run ((h a hc).mono fun e s1 h1 => by
  cases e with
  | goto l => exact absurd rfl (h1.1 l)
  | normal => exact h1.2
  | exit i => exact h1.2
  | ret => exact h1.2))
section
variable {E : Env} {P : Program} {d g : Nat} {w : Bool} {A : Operand} {ar : List Operand} {ld : List RD} {tm : List (Nat × PV)} {nt k : Nat} {os : List Pm.Obj} {M : PMem} {R : PSt -> Prop}
theorem e_CG26 (h : pev tm A = .fn 26 [] []) : RPD E P (dCG true d g w A ar :: ld) ⟨tm, nt, k, os, M⟩ R = cG E P d w (.d ld) tm nt k os M R (ar.map (pev tm)) (.fn 26 [] []) (tget tm g) := by
 unfold cG
 have hg : rg (some (g, w)) ⟨tm, nt, k, os, M⟩ = rgV w (tget tm g) := rg_V
 apply propext
 constructor
 ·rintro (⟨h0, h1⟩ | ⟨-, h0, h1⟩ | ⟨h0, -⟩)
  ·replace h0 := hg.symm.trans h0; rw [h0]
   obtain ⟨g', f', c', e, h1⟩ := h1
   exact .inl ⟨g', f', c', h.symm.trans e, h1⟩
  ·replace h0 := hg.symm.trans h0; rw [h0]; dsimp only; rw [<- nV_put]; exact h1
  ·cases h0
 ·intro h1
  split at h1
  ·rename_i h0
   rcases h1 with ⟨g', f', c', e, h1⟩ | ⟨a, i, e, _⟩
   ·cases e; exact .inl ⟨hg.trans h0, _, _, _, h, h1⟩
   ·cases e
  ·rename_i h0
   rw [<- nV_put] at h1
   exact .inr (.inl ⟨rfl, hg.trans h0, h1⟩)
  ·exact h1.elim
theorem e_CGD0 (h : tget tm g = .v (.bool (!w))) : RPD E P (dCG true d g w A ar :: ld) ⟨tm, nt, k, os, M⟩ R = nV E P d (.d ld) tm nt k os M R (some (.tup [])) := by
 have hg : rg (some (g, w)) ⟨tm, nt, k, os, M⟩ = some false := by
  have : rg (some (g, w)) ⟨tm, nt, k, os, M⟩ = rgV w (tget tm g) := rg_V
  rw [this, h]
  cases w <;> rfl
 apply propext
 constructor
 ·rintro (⟨h0, h1⟩ | ⟨-, h0, h1⟩ | ⟨h0, -⟩)
  ·replace h0 := hg.symm.trans h0; cases h0
  ·rw [<- nV_put]; exact h1
  ·cases h0
 ·intro h1
  rw [<- nV_put] at h1
  exact .inr (.inl ⟨rfl, hg, h1⟩)
theorem e_CGDu (h : tget tm g = .tup []) : RPD E P (dCG true d g w A ar :: ld) ⟨tm, nt, k, os, M⟩ R = nV E P d (.d ld) tm nt k os M R (some (.tup [])) := by
 have hg : rg (some (g, w)) ⟨tm, nt, k, os, M⟩ = some false := by
  have : rg (some (g, w)) ⟨tm, nt, k, os, M⟩ = rgV w (tget tm g) := rg_V
  rw [this, h]
  rfl
 apply propext
 constructor
 ·rintro (⟨h0, h1⟩ | ⟨-, h0, h1⟩ | ⟨h0, -⟩)
  ·replace h0 := hg.symm.trans h0; cases h0
  ·rw [<- nV_put]; exact h1
  ·cases h0
 ·intro h1
  rw [<- nV_put] at h1
  exact .inr (.inl ⟨rfl, hg, h1⟩)
end
structure K24 (tm : List (Nat × PV)) (A B : List En) (a i j : Nat) : Prop where
 t0 : tget tm 0 = encEns A
 t1 : tget tm 1 = encEns B
 t2 : tget tm 2 = .fn 26 [] []
 t3 : tget tm 3 = .fn 27 [] [.ptr a 0 0]
 t8 : tget tm 8 = iv i
 t9 : tget tm 9 = iv j
theorem loop24 (A B : List En) (hA : A.length <= 100000) (hB : B.length <= 100000) (hpA : ∀ x ∈ A, x.path.length <= 1000000) (hpB : ∀ x ∈ B, x.path.length <= 1000000) (M0 : PMem) (a k : Nat) (hf : fresh M0 k) (hak : a ≠ k) (R : List Pr) (hR : R.length <= 1000000) (Q : AExit -> PSt -> Prop)
  (q : ∀ tm M, Bx (k + 1) M0 (seg M k []) a R -> Q (.exit 0) ⟨tm, 88, k, [], M⟩) :
  ∀ d i j L M tm, (A.length - i) + (B.length - j) <= d -> i <= A.length -> j <= B.length -> L ++ mergeN d (A.drop i) (B.drop j) = R -> Bx (k + 1) M0 (seg M k []) a L -> K24 tm A B a i j -> RXL env Tryz.prog none c24_24 ⟨tm, 88, k, [], M⟩ Q := by
 intro d
 induction d with
 | zero =>
  intro i j L M tm hd hi hj hL hX hK
  obtain ⟨t0, t1, t2, t3, t8, t9⟩ := hK
  have hii : ¬ ((i : Int) < A.length) := by omega
  have hjj : ¬ ((j : Int) < B.length) := by omega
  have h0 : tget tm 0 = .lst .no 4 A.length (A.flatMap enCells) := t0
  have h1 : tget tm 1 = .lst .no 4 B.length (B.flatMap enCells) := t1
  have hLR : L = R := by rw [<- hL]; simp [mergeN]
  subst hLR
  refine RXL.round (RX.of env_ok ?_)
  simp only [G0, Z1, Z2, Z3, Z4, Z5, h0, h1, t8, t9, hii, hjj, decide_false, cnd_t, cnd_f, Bool.not_true, Bool.not_false]
  exact q _ _ hX
 | succ d ih =>
  intro i j L M tm hd hi hj hL hX hK
  obtain ⟨t0, t1, t2, t3, t8, t9⟩ := hK
  have h0 : tget tm 0 = .lst .no 4 A.length (A.flatMap enCells) := t0
  have h1 : tget tm 1 = .lst .no 4 B.length (B.flatMap enCells) := t1
  have hLl : L.length <= 1000000 := by rw [<- hL, List.length_append] at hR; omega
  have hwi : IntKind.i64.wrap ((i : Int) + 1) = ((i + 1 : Nat) : Int) := by rw [wrap64_id (by omega) (by omega)]; rfl
  have hwj : IntKind.i64.wrap ((j : Int) + 1) = ((j + 1 : Nat) : Int) := by rw [wrap64_id (by omega) (by omega)]; rfl
  refine RXL.round (RX.of env_ok ?_)
  rcases Nat.lt_or_ge i A.length with hia | hia
  ·have hii : (i : Int) < A.length := by omega
   obtain ⟨x, hx, hdx⟩ := getE hia
   have hxm := hpA x (List.mem_of_getElem? hx)
   rcases Nat.lt_or_ge j B.length with hjb | hjb
   ·have hjj : (j : Int) < B.length := by omega
    obtain ⟨y, hy, hdy⟩ := getE hjb
    have hym := hpB y (List.mem_of_getElem? hy)
    have hje : ((j : Int) == (B.length : Int)) = false := by simp; omega
    have hie : ((i : Int) == (A.length : Int)) = false := by simp; omega
    have hlx := en_load hx
    have hly := en_load hy
    rw [hdx, hdy, merge_xy] at hL
    simp only [G0, Z1, Z2, Z3, Z4, Z5, h0, h1, t2, t8, t9, hii, hjj, hia, hjb, hje, hie, hlx, hly, decide_true, decide_false, cnd_t, cnd_f, Bool.not_true, Bool.not_false, e_CG26, e_CGD0, e_CGDu]
    refine cp0 (by26 x y hxm hym) (by decide) ?_
    by_cases hc : byI x y < 0
    ·rw [if_pos hc] at hL
     simp only [G0, Z1, Z2, Z3, Z4, Z5, h0, h1, t2, t3, t8, t9, hia, hjb, hc, hwi, decide_true, decide_false, cnd_t, cnd_f, Bool.not_true, Bool.not_false]
     refine cmk (first := []) (cap := [.ptr a 0 0]) ((hX.met (ptE_at hx) .nil hLl).mono fun nk z M1 hB1 hnk => ⟨[], M1, rfl, MLe.seg_nil' _ _, by decide, ?_⟩)
     simp only [G0, Z1, Z2, Z3, Z4, Z5, t8, hwi]
     exact ih (i + 1) j (L ++ [meet (some x) none]) M1 _ (by omega) (by omega) hj (by rw [List.append_assoc, hdy]; exact hL) ((hB1 (by omega)).into hf hak) ⟨t0, t1, t2, t3, rfl, t9⟩
    ·rw [if_neg hc] at hL
     simp only [G0, Z1, Z2, Z3, Z4, Z5, h0, h1, t2, t3, t8, t9, hii, hjj, hia, hjb, hje, hie, hlx, hly, hc, decide_true, decide_false, cnd_t, cnd_f, Bool.not_true, Bool.not_false, e_CG26, e_CGD0, e_CGDu]
     refine cp0 (by26 y x hym hxm) (by decide) ?_
     by_cases hc2 : byI y x < 0
     ·rw [if_pos hc2] at hL
      simp only [G0, Z1, Z2, Z3, Z4, Z5, h0, h1, t2, t3, t8, t9, hia, hjb, hc2, hwj, decide_true, decide_false, cnd_t, cnd_f, Bool.not_true, Bool.not_false]
      refine cmk (first := []) (cap := [.ptr a 0 0]) ((hX.met .nil (ptE_at hy) hLl).mono fun nk z M1 hB1 hnk => ⟨[], M1, rfl, MLe.seg_nil' _ _, by decide, ?_⟩)
      simp only [G0, Z1, Z2, Z3, Z4, Z5, t9, hwj]
      exact ih i (j + 1) (L ++ [meet none (some y)]) M1 _ (by omega) hi (by omega) (by rw [List.append_assoc, hdx]; exact hL) ((hB1 (by omega)).into hf hak) ⟨t0, t1, t2, t3, t8, rfl⟩
     ·rw [if_neg hc2] at hL
      simp only [G0, Z1, Z2, Z3, Z4, Z5, h0, h1, t2, t3, t8, t9, hia, hjb, hc2, decide_true, decide_false, cnd_t, cnd_f, Bool.not_true, Bool.not_false, e_CG26, e_CGD0, e_CGDu]
      refine d_C (n := 27) (first := []) (cap := [.ptr a 0 0]) ?_ (by rfl)
      simp only [G0, Z1, Z2, Z3, Z4, Z5]
      refine cmk (first := []) (cap := [.ptr a 0 0]) ((hX.met (ptE_at hx) (ptE_at hy) hLl).mono fun nk z M1 hB1 hnk => ⟨[], M1, rfl, MLe.seg_nil' _ _, by decide, ?_⟩)
      simp only [G0, Z1, Z2, Z3, Z4, Z5, t8, t9, hwi, hwj]
      exact ih (i + 1) (j + 1) (L ++ [meet (some x) (some y)]) M1 _ (by omega) (by omega) (by omega) (by rw [List.append_assoc]; exact hL) ((hB1 (by omega)).into hf hak) ⟨t0, t1, t2, t3, rfl, rfl⟩
   ·have hjj : ¬ ((j : Int) < B.length) := by omega
    have hje : ((j : Int) == (B.length : Int)) = true := by simp; omega
    have hdy : B.drop j = [] := List.drop_of_length_le (by omega)
    have hlx := en_load hx
    rw [hdx, hdy, merge_xn] at hL
    simp only [G0, Z1, Z2, Z3, Z4, Z5, h0, h1, t2, t3, t8, t9, hii, hjj, hia, hje, decide_true, decide_false, cnd_t, cnd_f, Bool.not_true, Bool.not_false, e_CG26, e_CGD0, e_CGDu]
    refine cmk (first := []) (cap := [.ptr a 0 0]) ((hX.met (ptE_at hx) .nil hLl).mono fun nk z M1 hB1 hnk => ⟨[], M1, rfl, MLe.seg_nil' _ _, by decide, ?_⟩)
    simp only [G0, Z1, Z2, Z3, Z4, Z5, t8, hwi]
    exact ih (i + 1) j (L ++ [meet (some x) none]) M1 _ (by omega) (by omega) hj (by rw [List.append_assoc, hdy]; exact hL) ((hB1 (by omega)).into hf hak) ⟨t0, t1, t2, t3, rfl, t9⟩
  ·have hii : ¬ ((i : Int) < A.length) := by omega
   have hdx : A.drop i = [] := List.drop_of_length_le (by omega)
   rcases Nat.lt_or_ge j B.length with hjb | hjb
   ·have hjj : (j : Int) < B.length := by omega
    obtain ⟨y, hy, hdy⟩ := getE hjb
    have hje : ((j : Int) == (B.length : Int)) = false := by simp; omega
    have hie : ((i : Int) == (A.length : Int)) = true := by simp; omega
    have hly := en_load hy
    rw [hdx, hdy, merge_ny] at hL
    simp only [G0, Z1, Z2, Z3, Z4, Z5, h0, h1, t2, t3, t8, t9, hii, hjj, hjb, hje, hie, decide_true, decide_false, cnd_t, cnd_f, Bool.not_true, Bool.not_false, e_CG26, e_CGD0, e_CGDu]
    refine cmk (first := []) (cap := [.ptr a 0 0]) ((hX.met .nil (ptE_at hy) hLl).mono fun nk z M1 hB1 hnk => ⟨[], M1, rfl, MLe.seg_nil' _ _, by decide, ?_⟩)
    simp only [G0, Z1, Z2, Z3, Z4, Z5, t9, hwj]
    exact ih i (j + 1) (L ++ [meet none (some y)]) M1 _ (by omega) hi (by omega) (by rw [List.append_assoc, hdx]; exact hL) ((hB1 (by omega)).into hf hak) ⟨t0, t1, t2, t3, t8, rfl⟩
   ·have hjj : ¬ ((j : Int) < B.length) := by omega
    have hdy : B.drop j = [] := List.drop_of_length_le (by omega)
    have hLR : L = R := by rw [<- hL, hdx, hdy, merge_nn, List.append_nil]
    subst hLR
    simp only [G0, Z1, Z2, Z3, Z4, Z5, h0, h1, t8, t9, hii, hjj, decide_false, cnd_t, cnd_f, Bool.not_true, Bool.not_false]
    exact q _ _ hX
end Go.Proofs.YtnmidpahhhdlpaaGreatDoor
namespace Go.Pm
open Go.RowKit Go.Am
def innM (nt k : Nat) (os : List Obj) (Q : AExit -> PSt -> Prop) : AExit -> PSt -> Prop := fun e s1 => ∃ M1, MLe s1.mem (seg M1 k os) /\ Q e ⟨s1.tm, nt, k, os, M1⟩
section
variable {E : Env} {P : Program} {rd : Option (Nat × Nat)} {Q : AExit -> PSt -> Prop} {a : RC} {tm : List (Nat × PV)} {nt k : Nat} {os : List Obj} {M : PMem}
theorem RX.innM (h : ∀ k', k' ≠ k -> 0 < k' -> fresh (seg M k os) k' -> RX E P rd a ⟨tm, nt, k', [], seg M k os⟩ (Pm.innM nt k os Q)) : RX E P rd a ⟨tm, nt, k, os, M⟩ Q :=
 RX.push fun k' h1 h2 h3 => by
  have hfr : fresh (seg M k os) k' := fresh_mem (s := ⟨tm, nt, k, os, M⟩) h3 h1
  refine (h k' h1 h2 hfr).conseq fun e s1 hk hn hq => ?_
  obtain ⟨M1, e1, e2⟩ := hq
  have hn' : s1.nt = nt := hn
  exact ⟨s1, SLe.refl _, os, M1, rfl, e1, by rw [hn']; exact e2⟩
theorem RXL.innM (h : ∀ k', k' ≠ k -> 0 < k' -> fresh (seg M k os) k' -> RX E P rd a ⟨tm, nt, k', [], seg M k os⟩ (Pm.innM nt k os (thenRL E P rd a Q))) : RXL E P rd a ⟨tm, nt, k, os, M⟩ Q :=
 RXL.round (RX.innM h)
end
end Go.Pm
namespace Go.Pm
open Go.RowKit Go.Am
section
variable {E : Env} {P : Program} {cx : Cx} {s : PSt} {sA : St} {M : PMem}
theorem PTk.lift {F : Nat} {args : List PV} {Q : Nat -> PV -> PMem -> Prop}
  (h : ∀ cx k0 sA vargs, fresh M k0 -> PS E cx ⟨[], 0, k0, [], M⟩ sA -> PRs cx args vargs -> ∃ v m' cx' x s', CanT E P (.call F vargs) sA.m v m' /\ PR cx' x v /\ Ext (some k0) cx cx' /\ PS E cx' s' { sA with m := m' } /\ Q k0 x s'.mem) :
  PTk E P F args M Q := fun cx m vargs hg ha => by
 obtain ⟨v, m', cx', x, s', h1, h2, h3, h4, h5⟩ := h cx.key cx.nk ⟨.nil, 0, [], m⟩ vargs (hg.bare (Nat.le_refl _)) hg.start (ha.mono (CxLe.key cx))
 refine ⟨v, m', cx', x, s'.mem, h1, h4.pg, ⟨(CxLe.key cx).trans h3.le, fun k i hk _ => ?_⟩, h2, h5⟩
 have hn := h3.names k i (by show k < cx.nk + 1; omega) (by simp; omega)
 exact hn
theorem after_store (h : PS E cx s sA) {k i r es o : Nat} {cells ws : List PV} {wv : List Value} (hM : s.look k i = some (.row .rw es cells)) (ha : cx.at_ k i = some r) (hw : PRs cx ws wv) (ho : ws.all pone = true) (hl : o + ws.length <= cells.length) :
  ∃ vs, sA.m.get r = some (.row vs .rw es none) /\ PRs cx cells vs /\ sA.m.bar <= r /\ sA.m.storeCells ⟨r, o, none⟩ wv = some (sA.m.upd r (some (.row (splice vs o wv) .rw es none))) ∧
   PS E cx (s.putO k i (.row .rw es (psplice cells o ws))) { sA with m := sA.m.upd r (some (.row (splice vs o wv) .rw es none)) } := by
 obtain ⟨r', vs, md, q, e1, e2, e3, e4, e5⟩ := h.pg.obj k i _ hM
 obtain ⟨rfl, rfl⟩ := e4 (by simp)
 have hbar := e5 rfl
 rw [ha] at e1; cases e1
 have hl1 := hw.length
 have hl2 := e3.length
 have hnb : sA.m.nb <= r := Nat.le_trans h.pg.wf.nb hbar
 have hone := allOne_sim hw ho
 obtain ⟨⟨cx', p1, p2, p3⟩, q1, q2, q3⟩ := after_upd h ha hbar hM ⟨nofun, nofun⟩ (o := .row .rw es (psplice cells o ws)) nofun (ao := .row (splice vs o wv) .rw es none) ⟨r, _, .rw, none, ha, Mem.get_upd_same hnb _, by
  rw [splice_eq _ _ _ (by omega)]
  exact psplice_sim e3 hw o, fun _ => ⟨rfl, rfl⟩, fun _ => by rw [Mem.upd_def]; exact hbar⟩ (x := .junk) (v := undefV) (.junk _)
 have hpg := h.pg.updObj (cx := cx) ha hbar hM ⟨nofun, nofun⟩ (o := .row .rw es (psplice cells o ws)) nofun (ao := some (.row (splice vs o wv) .rw es none)) ⟨r, _, .rw, none, ha, Mem.get_upd_same hnb _, by
  rw [splice_eq _ _ _ (by omega)]
  exact psplice_sim e3 hw o, fun _ => ⟨rfl, rfl⟩, fun _ => by rw [Mem.upd_def]; exact hbar⟩
 obtain ⟨e1, e2', e3', e5'⟩ := PSt.putO_tm (s := s) (k := k) (i := i) (o := .row .rw es (psplice cells o ws))
 refine ⟨vs, e2, e3, hbar, ?_, ?_⟩
 ·simp only [Mem.storeCells, e2, bleT hbar, bleT (show o + wv.length <= vs.length by omega), hone, Bool.and_self, cond_true, Mem.kill, Option.map_some]
 ·exact ⟨fun j => by rw [e1]; exact h.tm j, by rw [e2']; exact h.nt, by rw [PSt.putO_mem hM]; exact hpg, fun j hj => by rw [e3']; exact h.cur j (by rw [e5'] at hj; exact hj), by rw [e3']; exact h.low, by rw [e3']; exact h.pos, ⟨h.df.1, fun r hr => ⟨(h.df.2 r hr).1, by rw [Mem.upd_def]; exact (h.df.2 r hr).2⟩⟩⟩
theorem PRs.sizes {a : List PV} {b : List Value} (h : PRs cx a b) {n : Nat} (hn : a.length = n) : b.length = n := by rw [<- h.length]; exact hn
end
theorem mem_splice {cs vs : List PV} {o : Nat} {y : PV} (h : y ∈ psplice cs o vs) : y ∈ cs \/ y ∈ vs := by
 unfold psplice at h
 rcases List.mem_append.1 h with h | h
 ·exact .inl (List.mem_of_mem_take h)
 ·rcases List.mem_append.1 h with h | h
  ·exact .inr h
  ·exact .inl (List.mem_of_mem_drop h)
theorem NKs.mem {k : Nat} : ∀ {l : List PV}, NKs k l -> ∀ x ∈ l, NK k x
 | _, .cons h hs, x, hx => by
  rcases List.mem_cons.1 hx with rfl | hx
  ·exact h
  ·exact NKs.mem hs x hx
theorem set_in {cells v : List PV} {a b e : Nat} (hv : v.length = e) (hab : a <= b) (hb : b + e <= cells.length) :
  (psplice (psplice cells (a + e) ((cells.take b).drop a)) a v).take (b + e) = (cells.take b).take a ++ (v ++ (cells.take b).drop a) := by
 have hm : ((cells.take b).drop a).length = b - a := by rw [List.length_drop, List.length_take, Nat.min_eq_left (by omega)]
 have hA : (cells.take (a + e)).length = a + e := by rw [List.length_take, Nat.min_eq_left (by omega)]
 generalize hmid : (cells.take b).drop a = mid at hm ⊢
 unfold psplice
 rw [hm, hv]
 have h1 : (cells.take (a + e) ++ (mid ++ cells.drop (a + e + (b - a)))).take a = cells.take a := by
  rw [List.take_append_of_le_length (by rw [hA]; omega), List.take_take, Nat.min_eq_left (show a <= a + e by omega)]
 have h2 : (cells.take (a + e) ++ (mid ++ cells.drop (a + e + (b - a)))).drop (a + e) = mid ++ cells.drop (a + e + (b - a)) := by
  rw [List.drop_append_of_le_length (by rw [hA]; exact Nat.le_refl _), List.drop_of_length_le (by rw [hA]; exact Nat.le_refl _), List.nil_append]
 rw [h1, h2]
 rw [show (cells.take b).take a = cells.take a by rw [List.take_take, Nat.min_eq_left hab]]
 have e1 : cells.take a ++ (v ++ (mid ++ cells.drop (a + e + (b - a)))) = (cells.take a ++ (v ++ mid)) ++ cells.drop (a + e + (b - a)) := by simp
 rw [e1]
 exact List.take_left' (by rw [List.length_append, List.length_append, List.length_take, Nat.min_eq_left (by omega), hv, hm]; omega)
structure Ins (M : PMem) (k i n es : Nat) (out old : List PV) (nk : Nat) (x : PV) (M1 : PMem) : Prop where
 ex : ∃ a b w c cells, x = .sl a b 0 n c /\ (n <= capOf c /\ c % 2 = 1 /\ esOf c = es) /\ n * es <= cells.length /\ cells.take (n * es) = out /\ (∀ y ∈ cells, y ∈ old) ∧
  ((a = k /\ b = i /\ M1 = putM M k i (.row w es cells)) \/ (a = nk /\ b = 0 /\ fresh M nk /\ M1 = seg (putM M k i .gone) nk [.row w es cells]))
section
variable {E : Env} {P : Program} {M : PMem}
theorem PT.insert (hE : EnvOk E P) {F ts te es by_ : Nat} (I : InsFn P F ts te es by_) {x : Fun} (hf : E.fn F = some x) {yt ye : Ty} {z : List PV} (ht : E.ty ts = some yt) (hd : yt.desc = .slice te) (hye : E.ty te = some ye) (hz : pzero E te = some z) (hzd : zerosD yt.desc = some false)
  (he : ye.size = es /\ ye.bytes = by_ /\ z.length = es) {k i n L idx kv iv cv : Nat} {cells vcells : List PV} (hM : M k i = some (.row .rw es cells)) (hV : M kv iv = some (.row .rw es vcells)) (hne : ¬ (kv = k /\ iv = i))
  (hL : cells.length = L * es) (hn : n <= L) (hn0 : 0 < L) (hi : idx <= n) (hv : vcells.length = es) (ho : cells.all pone = true) (hov : vcells.all pone = true) (hes : 0 < es /\ es < 4096 /\ es ≠ 1) (hby : (2 * (n + 1) + 2000) * by_ <= 140737488355328 /\ n + 1 <= 4611686018427387904) :
  PTk E P F [.sl k i 0 n (loCap L es), .v (.int .i64 (idx : Int)), .sl kv iv 0 1 cv] M (Ins M k i (n + 1) es ((cells.take (n * es)).take (idx * es) ++ (vcells ++ (cells.take (n * es)).drop (idx * es))) (cells ++ vcells)) := by
 obtain ⟨he1, he2, he3⟩ := he
 obtain ⟨hes1, hes2, hes3⟩ := hes
 have hcap : capOf (loCap L es) = L /\ loCap L es % 2 = 1 /\ esOf (loCap L es) = es := cap_lo hes2
 have hcl : n * es <= cells.length := by rw [hL]; exact Nat.mul_le_mul_right _ hn
 have hnes : (n + 1) * es = n * es + es := by rw [Nat.add_mul, Nat.one_mul]
 refine PTk.lift fun cx k0 sA vargs hfr hs ha => ?_
 have hlk : ∀ {a b o}, M a b = some o -> (⟨[], 0, k0, [], M⟩ : PSt).look a b = some o /\ a ≠ k0 := fun {a b o} e => by
  have : a ≠ k0 := fun q => by rw [q, hfr b] at e; cases e
  exact ⟨by unfold PSt.look; rw [if_neg this]; exact e, this⟩
 obtain ⟨hlk1, hk0⟩ := hlk hM
 obtain ⟨hlk2, hkv0⟩ := hlk hV
 cases ha with
 | cons h1 ha =>
 cases ha with
 | cons h2 ha =>
 cases ha with
 | cons h3 ha =>
 cases ha
 obtain ⟨rfl, _⟩ := h2.flat_eq
 have h1' := h1
 have h3' := h3
 cases h1 with
 | sl a1 =>
 rename_i r
 cases h3 with
 | sl a3 =>
 rename_i rv
 obtain ⟨r', vs, md, q, e1, e2, e3, e4, e5⟩ := hs.pg.obj k i _ hlk1
 obtain ⟨rfl, rfl⟩ := e4 (by simp)
 have hbar := e5 rfl
 rw [a1] at e1; cases e1
 obtain ⟨r', ws, md, q, f1, f2, f3, f4, f5⟩ := hs.pg.obj kv iv _ hlk2
 obtain ⟨rfl, rfl⟩ := f4 (by simp)
 rw [a3] at f1; cases f1
 have hrr : r ≠ rv := fun e => by
  subst e
  exact hne (ob_inj (hs.pg.role hlk2 nofun nofun a3) (hs.pg.role hlk1 nofun nofun a1))
 have hlv := e3.length
 have hlw := f3.length
 have hcan : ∀ {v m'}, xInsert E ts es by_ [.slice (some ⟨r, 0, none⟩) n (loCap L es), .int .i64 (idx : Int), .slice (some ⟨rv, 0, none⟩) 1 cv] sA.m = some (v, m') →
   CanT E P (.call F [.slice (some ⟨r, 0, none⟩) n (loCap L es), .int .i64 (idx : Int), .slice (some ⟨rv, 0, none⟩) 1 cv]) sA.m v m' := fun {v m'} hx =>
  ⟨fun ι w args' hR hA => insert_ok hE I hf hx hR hA, fun hw => Keep.insert hw hx⟩
 have hps : ∀ {o : Obj}, ((⟨[], 0, k0, [], M⟩ : PSt).putO k i o) = ⟨[], 0, k0, [], putM M k i o⟩ := fun {o} => by unfold PSt.putO; rw [if_neg hk0]
 have hnil : ∀ {o : Obj}, (⟨[], 0, k0, [], putM M k i o⟩ : PSt).mem = putM M k i o := fun {o} => segNil fun j => by
  show (if k0 = k /\ j = i then some o else M k0 j) = none
  rw [if_neg (fun e => hk0 e.1.symm)]; exact hfr j
 by_cases hidx : idx = n
 ·subst hidx
  have hx0 : ∀ {r1}, appendV E sA.m ts (some ts) (.slice (some ⟨r, 0, none⟩) idx (loCap L es)) (.slice (some ⟨rv, 0, none⟩) 1 cv) = some r1 →
    xInsert E ts es by_ [.slice (some ⟨r, 0, none⟩) idx (loCap L es), .int .i64 (idx : Int), .slice (some ⟨rv, 0, none⟩) 1 cv] sA.m = some r1 := fun {r1} e => by
   unfold xInsert
   simp only [if_true]
   unfold xIns0
   simp only [if_neg (show ¬ (1 = 0) by omega), if_true]
   rw [if_pos ⟨by rw [hcap.1]; exact hn, by rfl⟩]
   exact e
  have hsrc : psourceZ E (⟨[], 0, k0, [], M⟩ : PSt) te z es (some ts) (.sl kv iv 0 1 cv) = some (vcells, 1) := by
   unfold psourceZ psource
   simp only [ht, hzd, if_neg (show ¬ (1 = 0) by omega), hlk2]
   rw [if_pos (by omega), List.drop_zero, List.take_of_length_le (by omega)]
  rw [List.drop_of_length_le (by rw [List.length_take]; omega), List.append_nil, List.take_of_length_le (l := cells.take (idx * es)) (by rw [List.length_take]; omega)]
  rcases Nat.lt_or_ge idx L with hlt | hge
  ·have hroom : (idx + 1) * es <= cells.length := by rw [hL]; exact Nat.mul_le_mul_right _ hlt
   have hp : pappendR E (⟨[], 0, k0, [], M⟩ : PSt) ts (some ts) (.sl k i 0 idx (loCap L es)) (.sl kv iv 0 1 cv) = some (.sl k i 0 (idx + 1) (loCap L es), ⟨[], 0, k0, [], putM M k i (.row .rw es (psplice cells (0 + idx * es) vcells))⟩) := by
    unfold pappendR
    simp only [ht, hd, hye, hz, he1, hsrc]
    rw [if_neg (by omega), if_pos (by rw [hcap.1]; omega)]
    simp only [hlk1]
    rw [if_pos ⟨by omega, hov⟩, hps]
   obtain ⟨v, m', g1, ⟨cx', g2, g3, g4⟩, _, _, _⟩ := pappendR_sim hE hs h1' h3' hp
   refine ⟨v, m', cx', _, _, hcan (hx0 g1), g2, g3, g4, ⟨k, i, .rw, _, _, rfl, ⟨by rw [hcap.1]; omega, hcap.2⟩, ?_, ?_, ?_, .inl ⟨rfl, rfl, hnil⟩⟩⟩
   ·rw [psplice_length (by omega)]; exact hroom
   ·rw [Nat.zero_add]
    unfold psplice
    rw [hnes, <- List.append_assoc, List.take_append_of_le_length (by simp; omega), List.take_of_length_le (by simp; omega)]
   ·intro y hy
    rcases mem_splice hy with h | h
    ·exact List.mem_append_left _ h
    ·exact List.mem_append_right _ h
  ·have hLn : L = idx := by omega
   subst hLn
   have hp : pappendR E (⟨[], 0, k0, [], M⟩ : PSt) ts (some ts) (.sl k i 0 L (loCap L es)) (.sl kv iv 0 1 cv) = some (.sl k0 0 0 (L + 1) (loCap (L + 1) es), ⟨[], 0, k0, [.row .own es (cells ++ vcells)], putM M k i .gone⟩) := by
    unfold pappendR
    simp only [ht, hd, hye, hz, he1, he2, hsrc]
    rw [if_neg (by omega), if_neg (by rw [hcap.1]; omega)]
    unfold pgrow
    rw [if_pos ⟨hcap.2.1, hcap.2.2, rfl, by omega, by omega, hby.2, hes2, he3, hov⟩]
    simp only [hlk1]
    rw [if_pos ⟨trivial, by omega, by omega⟩, hps]
    rfl
   obtain ⟨v, m', g1, ⟨cx', g2, g3, g4⟩, _, _, _⟩ := pappendR_sim hE hs h1' h3' hp
   have hc2 := cap_lo (n := L + 1) hes2
   refine ⟨v, m', cx', _, _, hcan (hx0 g1), g2, g3, g4, ⟨k0, 0, .own, _, _, rfl, ⟨by rw [hc2.1]; omega, hc2.2⟩, ?_, ?_, ?_, .inr ⟨rfl, rfl, hfr, rfl⟩⟩⟩
   ·rw [List.length_append]; omega
   ·rw [List.take_of_length_le (by rw [List.length_append]; omega), List.take_of_length_le (by omega)]
   ·exact fun y hy => hy
 ·have hlt : idx < n := by omega
  obtain ⟨vs0, s1, s2, s3, s4, s5⟩ := after_store hs hlk1 a1 (ws := []) (wv := []) (o := 0) .nil rfl (by simp)
  rw [e2] at s1; cases s1
  rw [show splice vs 0 [] = vs from overK_nil vs] at s4 s5
  rw [hps, show psplice cells 0 [] = cells by unfold psplice; simp] at s5
  have hMM : putM M k i (.row .rw es cells) = M := by
   funext a b
   unfold putM
   split
   ·rename_i hc; rw [hc.1, hc.2, hM]
   ·rfl
  rw [hMM] at s5
  have hnb : sA.m.nb <= r := Nat.le_trans hs.pg.wf.nb hbar
  have hgr2 : (sA.m.upd r (some (.row vs .rw es none))).get r = some (.row vs .rw es none) := Mem.get_upd_same hnb _
  have hgv2 : (sA.m.upd r (some (.row vs .rw es none))).get rv = some (.row ws .rw es none) := by rw [Mem.get_upd_ne hnb (Ne.symm hrr)]; exact f2
  have hbar2 : (sA.m.upd r (some (.row vs .rw es none))).bar = sA.m.bar := by rw [Mem.upd_def]
  have hall1 := allOne_sim e3 ho
  have hall2 := allOne_sim f3 hov
  have hx1 : ∀ {y}, xRoom es [.slice (some ⟨r, 0, none⟩) n (loCap L es), .int .i64 (idx : Int), .slice (some ⟨rv, 0, none⟩) 1 cv] (sA.m.upd r (some (.row vs .rw es none))) = some y →
    xInsert E ts es by_ [.slice (some ⟨r, 0, none⟩) n (loCap L es), .int .i64 (idx : Int), .slice (some ⟨rv, 0, none⟩) 1 cv] sA.m = some y := fun {y} e => by
   unfold xInsert
   simp only [if_neg (show ¬ ((idx : Int) = (n : Int)) by omega), if_neg (show ¬ (n = 0) by omega), s4, e]
  have hx1' : ∀ {y}, xRoom es [.slice (some ⟨r, 0, none⟩) n (loCap L es), .int .i64 (idx : Int), .slice (some ⟨rv, 0, none⟩) 1 cv] (sA.m.upd r (some (.row vs .rw es none))) = none →
    xIns0 E ts es by_ [.slice (some ⟨r, 0, none⟩) n (loCap L es), .int .i64 (idx : Int), .slice (some ⟨rv, 0, none⟩) 1 cv] (sA.m.upd r (some (.row vs .rw es none))) = some y →
    xInsert E ts es by_ [.slice (some ⟨r, 0, none⟩) n (loCap L es), .int .i64 (idx : Int), .slice (some ⟨rv, 0, none⟩) 1 cv] sA.m = some y := fun {y} e e2 => by
   unfold xInsert
   simp only [if_neg (show ¬ ((idx : Int) = (n : Int)) by omega), if_neg (show ¬ (n = 0) by omega), s4, e, e2]
  have htn : ((idx : Int)).toNat = idx := by omega
  have hbn : idx * es <= n * es := Nat.mul_le_mul_right _ hi
  have hinc : (idx + 1) * es = idx * es + es := by rw [Nat.add_mul, Nat.one_mul]
  have htl : ((cells.take (n * es)).drop (idx * es)).length = n * es - idx * es := by simp; omega
  rcases Nat.lt_or_ge n L with hroom | hfull
  ·have hrm : (n + 1) * es <= cells.length := by rw [hL]; exact Nat.mul_le_mul_right _ hroom
   have hlk1' : (⟨[], 0, k0, [], M⟩ : PSt).look k i = some (.row .rw es cells) := hlk1
   have hws1 : PRs cx ((cells.take (n * es)).drop (idx * es)) (((vs.drop 0).take (n * es)).drop (idx * es)) := by rw [List.drop_zero]; exact (e3.take _).drop _
   have hall3 : ((cells.take (n * es)).drop (idx * es)).all pone = true := by
    rw [List.all_eq_true] at ho ⊢
    exact fun x hx => ho x (List.mem_of_mem_take (List.mem_of_mem_drop hx))
   obtain ⟨vs1, u1, u2, u3, u4, u5⟩ := after_store s5 hlk1' a1 (o := 0 + (idx + 1) * es) hws1 hall3 (by omega)
   rw [hgr2] at u1
   simp only [Option.some.injEq, AObj.row.injEq] at u1
   obtain ⟨rfl, -⟩ := u1
   rw [hps] at u5
   have hlk3 : (⟨[], 0, k0, [], putM M k i (.row .rw es (psplice cells (0 + (idx + 1) * es) ((cells.take (n * es)).drop (idx * es))))⟩ : PSt).look k i = some (.row .rw es (psplice cells (0 + (idx + 1) * es) ((cells.take (n * es)).drop (idx * es)))) := by
    unfold PSt.look; rw [if_neg hk0]; exact putM_same _ _ _ _
   obtain ⟨vs2, y1, y2, y3, y4, y5⟩ := after_store u5 hlk3 a1 (o := 0 + idx * es) f3 hov (by rw [psplice_length (by omega)]; omega)
   have hps2 : ∀ {o1 o : Obj}, ((⟨[], 0, k0, [], putM M k i o1⟩ : PSt).putO k i o) = ⟨[], 0, k0, [], putM M k i o⟩ := fun {o1 o} => by unfold PSt.putO; rw [if_neg hk0]; simp only [putM_put]
   rw [hps2] at y5
   have hrm2 : xRoom es [.slice (some ⟨r, 0, none⟩) n (loCap L es), .int .i64 (idx : Int), .slice (some ⟨rv, 0, none⟩) 1 cv] (sA.m.upd r (some (.row vs .rw es none))) =
     some (.slice (some ⟨r, 0, none⟩) (n + 1) (loCap L es), ((sA.m.upd r (some (.row vs .rw es none))).upd r (some (.row (splice vs (0 + (idx + 1) * es) (((vs.drop 0).take (n * es)).drop (idx * es))) .rw es none))).upd r (some (.row (splice vs2 (0 + idx * es) ws) .rw es none))) := by
    unfold xRoom
    simp only [hgr2, hgv2, htn]
    rw [if_pos ⟨⟨trivial, by omega, hlt, by omega⟩, ⟨by omega, hrr, by rw [hcap.1]; omega, hby.2⟩, ⟨trivial, hes3, hes1, by omega⟩, hall1, hall2⟩]
    simp only [u4, y4, Option.map_some]
   have hroomX := hx1 hrm2
   refine ⟨_, _, cx, _, _, hcan hroomX, .sl a1, Ext.refl _ _, y5, ⟨k, i, .rw, _, _, rfl, ⟨by rw [hcap.1]; omega, hcap.2⟩, ?_, ?_, ?_, .inl ⟨rfl, rfl, hnil⟩⟩⟩
   ·rw [psplice_length (by rw [psplice_length (by omega)]; omega), psplice_length (by omega)]; exact hrm
   ·rw [Nat.zero_add, Nat.zero_add, hinc, hnes]
    exact set_in hv hbn (by omega)
   ·intro y hy
    rcases mem_splice hy with h | h
    ·rcases mem_splice h with h | h
     ·exact List.mem_append_left _ h
     ·exact List.mem_append_left _ (List.mem_of_mem_take (List.mem_of_mem_drop h))
    ·exact List.mem_append_right _ h
  ·have hLn : L = n := by omega
   subst hLn
   have hrm0 : xRoom es [.slice (some ⟨r, 0, none⟩) L (loCap L es), .int .i64 (idx : Int), .slice (some ⟨rv, 0, none⟩) 1 cv] (sA.m.upd r (some (.row vs .rw es none))) = none := by
    unfold xRoom
    simp only [hgr2, hgv2]
    rw [if_neg (by rintro ⟨_, ⟨_, _, h, _⟩, _⟩; rw [hcap.1] at h; omega)]
   have hszm : (sA.m.upd r (some (.row vs .rw es none))).size = ((sA.m.upd r (some (.row vs .rw es none))).upd r none).size := by simp only [Mem.upd_def]
   have hct : cells.take (L * es) = cells := List.take_of_length_le (by omega)
   have hx3 : xIns0 E ts es by_ [.slice (some ⟨r, 0, none⟩) L (loCap L es), .int .i64 (idx : Int), .slice (some ⟨rv, 0, none⟩) 1 cv] (sA.m.upd r (some (.row vs .rw es none))) =
     some (.slice (some (addr (sA.m.upd r (some (.row vs .rw es none))).size 0)) (L + 1) (loCap (L + 1) es), ((sA.m.upd r (some (.row vs .rw es none))).upd r none).new (.row (vs.take (idx * es) ++ (ws ++ vs.drop (idx * es))) .rw es none)) := by
    unfold xIns0
    simp only [if_neg (show ¬ (1 = 0) by omega), if_neg (show ¬ ((idx : Int) = (L : Int)) by omega), hgr2, hgv2, htn]
    rw [if_pos ⟨⟨trivial, trivial, by omega, hlt⟩, ⟨by omega, by omega, hrr, by rw [hbar2]; exact hbar⟩, ⟨trivial, trivial, trivial, by have := hby.1; exact Nat.le_trans (Nat.mul_le_mul_right by_ (by omega)) this, hby.2⟩, ⟨hes2, hes3, hes1⟩, hall1, hall2⟩]
   rw [hszm] at hx3
   have hx2 := hx1' hrm0 hx3
   have hd1 := after_drop s5 hlk1 a1 (by show (sA.m.upd r _).bar <= r; rw [hbar2]; exact hbar)
   rw [hps] at hd1
   have hrw : PRs cx (cells.take (idx * es) ++ (vcells ++ cells.drop (idx * es))) (vs.take (idx * es) ++ (ws ++ vs.drop (idx * es))) := (e3.take _).append (f3.append (e3.drop _))
   have hcur := (hd1.cur 0 (Nat.le_refl _)).1
   obtain ⟨⟨cx', g2, g3, g4⟩, _, _, _⟩ := after_new hd1 (o := .row .rw es (cells.take (idx * es) ++ (vcells ++ cells.drop (idx * es)))) nofun nofun (new_row_OG (es := es) hd1.pg hcur hrw) (x := .sl k0 0 0 (L + 1) (loCap (L + 1) es)) (v := .slice (some ⟨((sA.m.upd r (some (.row vs .rw es none))).upd r none).size, 0, none⟩) (L + 1) (loCap (L + 1) es)) (.sl (by simp [Cx.bind]))
   have hc2 := cap_lo (n := L + 1) hes2
   refine ⟨_, _, cx', _, _, hcan hx2, g2, g3, g4, ⟨k0, 0, .rw, _, _, rfl, ⟨by rw [hc2.1]; omega, hc2.2⟩, ?_, ?_, ?_, .inr ⟨rfl, rfl, hfr, rfl⟩⟩⟩
   ·simp only [List.length_append, List.length_take, List.length_drop]; omega
   ·rw [hct, List.take_of_length_le (by simp only [List.length_append, List.length_take, List.length_drop]; omega)]
   ·intro y hy
    rcases List.mem_append.1 hy with h | h
    ·exact List.mem_append_left _ (List.mem_of_mem_take h)
    ·rcases List.mem_append.1 h with h | h
     ·exact List.mem_append_right _ h
     ·exact List.mem_append_left _ (List.mem_of_mem_drop h)
end
end Go.Pm
namespace Go.Proofs.YtnmidpahhhdlpaaGreatDoor
open Go Go.Am Go.Pm
theorem ia_sl {k i o n c sz m : Nat} {kk : IntKind} (h : m < n) : iaddrS sz (.sl k i o n c) (.v (.int kk (m : Int))) = some (.ptr k i (o + m * sz)) := by
 unfold iaddrS
 simp only [pnat_int, if_pos h]
theorem ln_sl {k i o n c : Nat} : lenL (.sl k i o n c) = some (iv n) := rfl
section
variable {α : Type} {f : α -> List PV} {sz : Nat}
theorem fl_len (hf : ∀ x, (f x).length = sz) (l : List α) : (l.flatMap f).length = l.length * sz := flatMap_len (f := f) (n := sz) hf l
inductive VsV (f : α -> List PV) (sz : Nat) (M : PMem) : PV -> List α -> Prop where
 | lst (t : Tok) (l : List α) : VsV f sz M (.lst t sz l.length (l.flatMap f)) l
 | nil (t : Tok) (e : Nat) : VsV f sz M (.lst t e 0 []) []
 | row {k i c : Nat} {w : Wm} {l : List α} {rest : List PV} (hM : M k i = some (.row w sz (l.flatMap f ++ rest))) : VsV f sz M (.sl k i 0 l.length c) l
theorem VsV.sub {M M' : PMem} {v : PV} {l : List α} (h : VsV f sz M v l) (hs : Pm.Sub M M') : VsV f sz M' v l := by
 cases h with
 | lst t l => exact .lst t l
 | nil t e => exact .nil t e
 | row hM => exact .row (hs _ _ _ hM)
theorem VsV.len {M : PMem} {v : PV} {l : List α} (h : VsV f sz M v l) : lenL v = some (iv (l.length : Nat)) := by
 cases h <;> rfl
theorem vs_pre (hf : ∀ x, (f x).length = sz) {l : List α} {rest : List PV} {i : Nat} {x : α} (h : l[i]? = some x) : ptake true sz (l.flatMap f ++ rest) (i * sz) = some (.agg (f x)) := by
 have h1 := load_at (f := f) (n := sz) hf h
 have hi : i < l.length := (List.getElem?_eq_some_iff.1 h).1
 have hl := fl_len hf l
 have hm : i * sz + sz <= l.length * sz := by
  have : (i + 1) * sz <= l.length * sz := Nat.mul_le_mul_right _ hi
  rw [Nat.succ_mul] at this; exact this
 have h1' : (if i * sz + sz <= (l.flatMap f).length then some (PV.agg (List.take sz (List.drop (i * sz) (l.flatMap f)))) else none) = some (.agg (f x)) := h1
 rw [if_pos (by omega)] at h1'
 show (if i * sz + sz <= (l.flatMap f ++ rest).length then some (PV.agg (List.take sz (List.drop (i * sz) (l.flatMap f ++ rest)))) else none) = some (.agg (f x))
 rw [if_pos (by rw [List.length_append]; omega), <- h1', List.drop_append_of_le_length (by omega), List.take_append_of_le_length (by rw [List.length_drop]; omega)]
theorem VsV.at (hf' : ∀ x, (f x).length = sz) {M : PMem} {v : PV} {l : List α} (h : VsV f sz M v l) {i : Nat} {x : α} (hx : l[i]? = some x) {k : Nat} (hf : fresh M k) :
  ∃ p, (∀ kk : IntKind, iaddrS sz v (.v (.int kk (i : Int))) = some p) /\ ∀ os, loadP k os M true sz p = some (.agg (f x)) := by
 have hi : i < l.length := (List.getElem?_eq_some_iff.1 hx).1
 cases h with
 | lst t l => exact ⟨.dp (l.flatMap f) (i * sz), fun kk => iaddrS_lst hi, fun os => load_at (f := f) (n := sz) hf' hx⟩
 | nil t e => simp at hx
 | @row a b c w l rest hM =>
  refine ⟨.ptr a b (0 + i * sz), fun kk => ia_sl hi, fun os => ?_⟩
  rw [loadP_out (fresh_ne hf hM), hM, Nat.zero_add]
  exact vs_pre hf' hx
theorem set_vs (hf : ∀ x, (f x).length = sz) : ∀ (R : List α) (i : Nat) (v : α), i < R.length -> psplice (R.flatMap f) (i * sz) (f v) = (R.set i v).flatMap f
 | [], i, v, h => by simp at h
 | x :: R, 0, v, _ => by
  unfold psplice
  rw [Nat.zero_mul, List.take_zero, List.nil_append, List.set_cons_zero, List.flatMap_cons, List.flatMap_cons, Nat.zero_add, List.drop_append, List.drop_of_length_le (by rw [hf, hf]; omega), hf, hf, Nat.sub_self, List.drop_zero, List.nil_append]
 | x :: R, i + 1, v, h => by
  have ih := set_vs hf R i v (by simpa using h)
  unfold psplice at ih ⊢
  have e : (i + 1) * sz = sz + i * sz := by rw [Nat.succ_mul]; omega
  rw [List.set_cons_succ, List.flatMap_cons, List.flatMap_cons, <- ih, e]
  have e1 : (f x ++ R.flatMap f).take (sz + i * sz) = f x ++ (R.flatMap f).take (i * sz) := by
   rw [List.take_append, List.take_of_length_le (by rw [hf]; omega), hf]; congr 2; omega
  have e2 : (f x ++ R.flatMap f).drop (sz + i * sz + (f v).length) = (R.flatMap f).drop (i * sz + (f v).length) := by
   rw [List.drop_append, List.drop_of_length_le (by rw [hf, hf]; omega), hf, hf, List.nil_append]; congr 1; omega
  rw [e1, e2, List.append_assoc]
def rowV (w : Wm) (f : α -> List PV) (sz : Nat) (R : List α) : Pm.Obj := .row w sz (R.flatMap f)
theorem rt_rowV {w : Wm} {ag : Bool} {n o : Nat} {R : List α} : rowTake ag n o (some (rowV w f sz R)) = ptake ag n (R.flatMap f) o := rfl
def keepV (p : α -> Bool) (l : List α) : List α := l.filter fun x => !p x
structure DlV (p : α -> Bool) (l R : List α) (i j : Nat) : Prop where
 len : R.length = l.length
 lt : i < j
 le : j <= l.length
 keep : R.take i = keepV p (l.take j)
 rest : R.drop j = l.drop j
section
variable {p : α -> Bool} {l R : List α} {i j : Nat}
theorem lt_getV {l : List α} {j : Nat} {v : α} (hv : l[j]? = some v) : j < l.length := (List.getElem?_eq_some_iff.1 hv).1
theorem take_snocV {l : List α} {j : Nat} {v : α} (hv : l[j]? = some v) : l.take (j + 1) = l.take j ++ [v] := by rw [List.take_add_one, hv]; rfl
theorem DlV.get (h : DlV p l R i j) {v : α} (hv : l[j]? = some v) : R[j]? = some v := by
 have h1 : (R.drop j)[0]? = (l.drop j)[0]? := by rw [h.rest]
 rw [List.getElem?_drop, List.getElem?_drop, Nat.add_zero] at h1
 rw [h1]; exact hv
theorem DlV.out (h : DlV p l R i j) {v : α} (hv : l[j]? = some v) (hp : p v = true) : DlV p l R i (j + 1) := by
 have hj := lt_getV hv
 have hl := h.lt
 refine ⟨h.len, by omega, by omega, ?_, ?_⟩
 ·rw [h.keep, take_snocV hv]; unfold keepV; rw [List.filter_append]; simp [hp]
 ·have : R.drop (j + 1) = (R.drop j).drop 1 := by rw [List.drop_drop]
  rw [this, h.rest, List.drop_drop]
theorem DlV.in (h : DlV p l R i j) {v : α} (hv : l[j]? = some v) (hp : p v = false) : DlV p l (R.set i v) (i + 1) (j + 1) := by
 have hj := lt_getV hv
 have hl := h.lt
 have hlen := h.len
 refine ⟨by rw [List.length_set]; exact h.len, by omega, by omega, ?_, ?_⟩
 ·rw [take_snocV (l := R.set i v) (v := v) (by rw [List.getElem?_set_self (by omega)]), List.take_set_of_le (Nat.le_refl _), h.keep, take_snocV hv]
  unfold keepV; rw [List.filter_append]; simp [hp]
 ·rw [List.drop_set_of_lt (by omega)]
  have : R.drop (j + 1) = (R.drop j).drop 1 := by rw [List.drop_drop]
  rw [this, h.rest, List.drop_drop]
def idxV (p : α -> Bool) : Nat -> List α -> Int
 | _, [] => -1
 | i, x :: r => if p x then i else idxV p (i + 1) r
theorem idxV_first (p : α -> Bool) : ∀ (l : List α) (i : Nat), (idxV p i l = -1 /\ l.any p = false) \/ ∃ n x, idxV p i l = ((i + n : Nat) : Int) /\ l[n]? = some x /\ p x = true /\ ∀ y ∈ l.take n, p y = false
 | [], i => .inl ⟨rfl, rfl⟩
 | x :: r, i => by
  unfold idxV
  cases h : p x with
  | true => exact .inr ⟨0, x, by simp, rfl, h, fun y hy => by simp at hy⟩
  | false =>
   rw [if_neg (by decide)]
   rcases idxV_first p r (i + 1) with ⟨h1, h2⟩ | ⟨n, z, h1, h2, h3, h4⟩
   ·exact .inl ⟨h1, by rw [List.any_cons, h, h2]; rfl⟩
   ·refine .inr ⟨n + 1, z, by rw [h1]; congr 1; omega, by simpa using h2, h3, fun y hy => ?_⟩
    rw [List.take_succ_cons] at hy
    rcases List.mem_cons.1 hy with rfl | hy
    ·exact h
    ·exact h4 y hy
theorem DlV.start {n : Nat} {x : α} (hx : l[n]? = some x) (hp : p x = true) (hn : ∀ y ∈ l.take n, p y = false) : DlV p l l n (n + 1) := by
 have hj := lt_getV hx
 refine ⟨rfl, by omega, by omega, ?_, rfl⟩
 rw [take_snocV hx]; unfold keepV
 rw [List.filter_append, List.filter_eq_self.2 (fun y hy => by rw [hn y hy]; rfl)]
 simp [hp]
end
theorem fresh_reV {M : PMem} {a i k : Nat} {o o' : Pm.Obj} (h : fresh (putM M a i o) k) : fresh (putM M a i o') k := fun y => by
 have hk : ¬ (k = a /\ i = i) := fun e => by
  have := h i
  unfold putM at this
  rw [if_pos e] at this; cases this
 have h1 := h y
 unfold putM at h1 ⊢
 rw [if_neg (fun e => hk ⟨e.1, rfl⟩)] at h1 ⊢
 exact h1
theorem slice_fromV {k i n c sz m : Nat} {kk : IntKind} (h1 : m <= n) (hc : n <= capOf c /\ c % 2 = 1 /\ esOf c = sz) (hs : sz < 4096) : sliceL sz (.sl k i 0 n c) (some (.v (.int kk (m : Int)))) none none = some (.sl k i (m * sz) (n - m) (loCap (capOf c - m) sz)) := by
 have hp : pnat? (.v (.int kk (m : Int))) = some m := pnat_int (n := m)
 unfold sliceL
 simp only [hp]
 rw [if_pos ⟨h1, hc.1, .inr ⟨hc.2.1, hc.2.2, hs⟩⟩, Nat.zero_add, if_neg (by omega)]
theorem lo_ofV {c sz : Nat} (h : c % 2 = 1 /\ esOf c = sz) : loCap (capOf c) sz = c := by
 obtain ⟨h1, rfl⟩ := h
 have h2 : Nat.beq (c % 2) 0 = false := by rw [h1]; rfl
 unfold loCap capOf esOf
 rw [h2, cond_false]
 omega
theorem slice_toV {k i n c sz m : Nat} {kk : IntKind} (h1 : m <= capOf c) (hc : (c % 2 = 1 /\ esOf c = sz) /\ sz < 4096) : sliceL sz (.sl k i 0 n c) none (some (.v (.int kk (m : Int)))) none = some (.sl k i 0 m c) := by
 have hp : pnat? (.v (.int kk (m : Int))) = some m := pnat_int (n := m)
 unfold sliceL
 simp only [hp]
 rw [if_pos ⟨Nat.zero_le _, h1, .inr ⟨hc.1.1, hc.1.2, hc.2⟩⟩, if_neg (by omega), Nat.zero_mul, Nat.sub_zero, Nat.sub_zero, lo_ofV hc.1]
theorem nk_zeroV {z : List PV} (hz : ∀ j, ∀ y ∈ z, NK j y) {n : Nat} (j : Nat) (y : PV) (h : y ∈ (List.replicate n z).flatten) : NK j y := by
 obtain ⟨l, h1, h2⟩ := List.mem_flatten.1 h
 rw [List.eq_of_mem_replicate h1] at h2
 exact hz j y h2
structure CutV (f : α -> List PV) (sz : Nat) (M M1 : PMem) (a i n c : Nat) (out : List α) (x : PV) : Prop where
 val : x = .sl a i 0 out.length c
 mem : ∃ rest w, (w = .rw \/ w = .own) /\ M1 = putM M a i (.row w sz (out.flatMap f ++ rest)) /\ (out.flatMap f ++ rest).length = n * sz /\ (out.flatMap f ++ rest).all pone = true /\ ∀ j, ∀ y ∈ rest, NK j y
structure KdV (tm : List (Nat × PV)) (a b n c : Nat) (g : PV) (i j : Nat) : Prop where
 t0 : tget tm 0 = .sl a b 0 n c
 t1 : tget tm 1 = g
 t5 : tget tm 5 = iv i
 t6 : tget tm 6 = iv j
end
end Go.Proofs.YtnmidpahhhdlpaaGreatDoor
namespace Go.Proofs.YtnmidpahhhdlpaaGreatDoor
open Go Go.Am Go.Pm
theorem hstP (x : Pr) : storeO 7 0 (encPr x) (some (.row .rw 0 [.v (.string ⟨#[]⟩), .v (.int .i64 0), .v (.int .i64 0), .lst .full 0 0 [], .v (.int .i64 0), .v (.int .i64 0), .lst .full 0 0 []])) = some (.row .rw 0 (prCells x)) := storeO_eq (n := 7) ⟨rfl, Nat.le_refl 7, rfl⟩
section
variable {M0 M : PMem} {v : PV} {a b k c g : Nat} {w0 : Wm} {l : List Pr} {first cap : List PV} {p : Pr -> Bool}
theorem loop55 (hv : VsV prCells 7 M0 v l) (hl : l.length <= 1000000) (M : PMem) (k : Nat) (Q : AExit -> PSt -> Prop) (g : Nat) (first cap : List PV) (p : Pr -> Bool) (hs : Pm.Sub M0 M) (hf : fresh M k)
  (hp : ∀ x ∈ l, PTs env Tryz.prog M0 g (first ++ ([encPr x] ++ cap)) (bv (p x)))
  (q1 : ∀ tm, idxV p 0 l = -1 -> Q (.exit 0) ⟨tm, 19, k, [], M⟩) (q2 : ∀ tm, tget tm 4 = iv (idxV p 0 l) -> Q .ret ⟨tm, 19, k, [], M⟩) :
  ∀ d i tm, l.length - i = d -> i <= l.length -> idxV p 0 l = idxV p i (l.drop i) -> tget tm 0 = v -> tget tm 1 = .fn g first cap -> tget tm 7 = iv l.length -> tget tm 8 = iv i →
  RXL env Tryz.prog none c55_15 ⟨tm, 19, k, [], M⟩ Q := by
 intro d
 induction d with
 | zero =>
  intro i tm hd hi hp t0 t1 t7 t8
  have : i = l.length := by omega
  subst this
  refine RXL.round (RX.of env_ok ?_)
  simp only [G0, Z1, Z2, Z3, Z4, Z5, t7, t8, Int.lt_irrefl, decide_false]
  exact q1 _ (by rw [hp, List.drop_of_length_le (Nat.le_refl _)]; rfl)
 | succ d ih =>
  intro i tm hd hi hpi t0 t1 t7 t8
  have hi' : i < l.length := by omega
  have hii : (i : Int) < l.length := by omega
  obtain ⟨x, hx, hdx⟩ := getE hi'
  obtain ⟨a, ha, hla⟩ := (hv.sub hs).at (f := prCells) (sz := 7) (fun _ => rfl) hx hf
  have hla : ∀ os, loadP k os M true 7 a = some (encPr x) := hla
  have hw : IntKind.i64.wrap ((i : Int) + 1) = ((i + 1 : Nat) : Int) := by rw [wrap64_id (by omega) (by omega)]; rfl
  rw [hdx] at hpi
  have hun : idxV p i (x :: l.drop (i + 1)) = if p x then (i : Int) else idxV p (i + 1) (l.drop (i + 1)) := rfl
  rw [hun] at hpi
  refine RXL.round (RX.of env_ok ?_)
  simp only [G0, Z1, Z2, Z3, Z4, Z5, t0, t1, t7, t8, hii, decide_true, ha, hla]
  refine cs (hp x (List.mem_of_getElem? hx)) (hs.sseg hf) (by decide) ?_
  cases h : p x with
  | true =>
   rw [h, if_pos rfl] at hpi
   simp only [G0, Z1, Z2, Z3, Z4, Z5]
   exact q2 _ (by rw [hpi]; rfl)
  | false =>
   rw [h, if_neg (by decide)] at hpi
   simp only [G0, Z1, Z2, Z3, Z4, Z5, t8, hw]
   exact ih (i + 1) _ (by omega) (by omega) hpi t0 t1 t7 rfl
theorem index55 (hv : VsV prCells 7 M0 v l) (hl : l.length <= 1000000) (g : Nat) (first cap : List PV) (p : Pr -> Bool) (hp : ∀ x ∈ l, PTs env Tryz.prog M0 g (first ++ ([encPr x] ++ cap)) (bv (p x))) :
  PTs env Tryz.prog M0 55 [v, .fn g first cap] (iv (idxV p 0 l)) := by
 refine PTs.enter env_ok fn55 (by simp) comp55 fun M k hs hk hf => ?_
 simp only [G0, Z1, Z2, Z3, Z4, Z5, argsP, hv.len]
 refine RX.loop (loop55 hv hl M k _ g first cap p hs hf hp ?_ ?_ l.length 0 _ rfl (Nat.zero_le _) rfl rfl rfl rfl rfl)
 ·intro tm h
  simp only [G0, Z1, Z2, Z3, Z4, Z5]
  exact end1 hf rfl ⟨by rw [h]; rfl, rfl⟩
 ·intro tm h
  simp only [G0, Z1, Z2, Z3, Z4, Z5]
  exact end1 hf h ⟨rfl, rfl⟩
theorem loop31 (hl : l.length <= 1000000) (hs : ∀ o, Pm.Sub M0 (putM M a b o)) (hf : fresh M k) (hak : a ≠ k) (Q : AExit -> PSt -> Prop)
  (hp : ∀ x ∈ l, PTs env Tryz.prog M0 g (first ++ ([encPr x] ++ cap)) (bv (p x)))
  (q1 : ∀ tm R i w, (w = .rw \/ w = .own) -> DlV p l R i l.length -> KdV tm a b l.length c (.fn g first cap) i l.length -> Q (.exit 0) ⟨tm, 42, k, [], putM M a b (rowV w prCells 7 R)⟩) :
  ∀ d j i R N w tm, (w = .rw \/ w = .own) -> N = putM M a b (rowV w prCells 7 R) -> l.length - j = d -> DlV p l R i j -> KdV tm a b l.length c (.fn g first cap) i j -> RXL env Tryz.prog none c31_22 ⟨tm, 42, k, [], N⟩ Q := by
 intro d
 induction d with
 | zero =>
  intro j i R N w tm hw0 hN hd hD hK
  subst hN
  have : j = l.length := by have := hD.le; omega
  subst this
  obtain ⟨t0, t1, t5, t6⟩ := hK
  refine RXL.round (RX.of env_ok ?_)
  simp only [G0, Z1, Z2, Z3, Z4, Z5, t0, t6, ln_sl, Int.lt_irrefl, decide_false]
  exact q1 _ R i w hw0 hD ⟨t0, t1, t5, t6⟩
 | succ d ih =>
  intro j i R N w tm hw0 hN hd hD hK
  subst hN
  have hj' : j < l.length := by omega
  have hjj : (j : Int) < l.length := by omega
  obtain ⟨x, hx, hdx⟩ := getE hj'
  have hRl := hD.len
  have hxR := hD.get hx
  have hilt := hD.lt
  have hlx : ptake true 7 (R.flatMap prCells) (j * 7) = some (encPr x) := load_at (f := prCells) (n := 7) (fun _ => rfl) hxR
  have hmem := List.mem_of_getElem? hx
  have hw : IntKind.i64.wrap ((j : Int) + 1) = ((j + 1 : Nat) : Int) := by rw [wrap64_id (by omega) (by omega)]; rfl
  have hw2 : IntKind.i64.wrap ((i : Int) + 1) = ((i + 1 : Nat) : Int) := by rw [wrap64_id (by omega) (by omega)]; rfl
  obtain ⟨t0, t1, t5, t6⟩ := hK
  refine RXL.innM fun k' hk1 hk2 hk3 => RX.of env_ok ?_
  have hfk : fresh (putM M a b (rowV w prCells 7 R)) k := fresh_put hf hak
  rw [segNil hfk] at hk3 ⊢
  have hak' : a ≠ k' := fun e => by subst e; have := hk3 b; unfold putM at this; rw [if_pos ⟨rfl, rfl⟩] at this; cases this
  have hld : ∀ {ag : Bool} {n o : Nat} {os : List Pm.Obj}, loadP k' os (putM M a b (rowV w prCells 7 R)) ag n (.ptr a b o) = rowTake ag n o (some (rowV w prCells 7 R)) := fun {ag n o os} => by rw [loadP_out hak', putM_same]
  have hia := fun (kk : IntKind) => ia_sl (k := a) (i := b) (o := 0) (n := l.length) (c := c) (sz := 7) (kk := kk) hj'
  have hrt : ∀ {ag : Bool} {n o : Nat}, rowTake ag n o (some (rowV w prCells 7 R)) = ptake ag n (R.flatMap prCells) o := rt_rowV
  simp only [G0, Z1, Z2, Z3, Z4, Z5, t0, t1, t5, t6, ln_sl, hjj, decide_true, hia, Nat.zero_add, hld, hrt, hlx, hstP, pr_all]
  refine cs (hp x hmem) ((hs _).sseg hk3) (by decide) ?_
  cases hpx : p x with
  | true =>
   simp only [G0, Z1, Z2, Z3, Z4, Z5, t6, hw, Bool.not_true]
   refine ⟨putM M a b (rowV w prCells 7 R), ?_, ?_⟩
   ·rw [segNil hfk]; exact MLe.pop hk3
   ·exact ih (j + 1) i R _ w _ hw0 rfl (by omega) (hD.out hx hpx) ⟨t0, t1, t5, rfl⟩
  | false =>
   have hii := fun (kk : IntKind) => ia_sl (k := a) (i := b) (o := 0) (n := l.length) (c := c) (sz := 7) (kk := kk) (show i < l.length by omega)
   have hiR : i < R.length := by omega
   have hso : storeO 7 (i * 7) (encPr x) (some (rowV w prCells 7 R)) = some (rowV .rw prCells 7 (R.set i x)) := by
    have hlen : (R.flatMap prCells).length = R.length * 7 := fl_len (f := prCells) (sz := 7) (fun _ => rfl) R
    have hfit : (pcells (encPr x)).length = 7 /\ i * 7 + (pcells (encPr x)).length <= (R.flatMap prCells).length /\ (pcells (encPr x)).all pone = true := ⟨rfl, by show i * 7 + 7 <= _; omega, rfl⟩
    unfold rowV
    rcases hw0 with rfl | rfl
    ·rw [storeO_eq hfit, show pcells (encPr x) = prCells x from rfl, set_vs (f := prCells) (sz := 7) (fun _ => rfl) R i x hiR]
    ·rw [storeO_own hfit, show pcells (encPr x) = prCells x from rfl, set_vs (f := prCells) (sz := 7) (fun _ => rfl) R i x hiR]
   have hst : ∀ {tm : List (Nat × PV)} {nt : Nat} {os : List Pm.Obj}, storeP tm nt k' os (putM M a b (rowV w prCells 7 R)) 7 (encPr x) (.ptr a b (i * 7)) = some (.junk, ⟨tm, nt, k', os, putM M a b (rowV .rw prCells 7 (R.set i x))⟩) := fun {tm nt os} => by
    rw [storeP_out hak', putM_same, hso, stO_eq, putM_put]
   simp only [G0, Z1, Z2, Z3, Z4, Z5, t0, t5, t6, Bool.not_false, hii, Nat.zero_add, pr_all, hst, hw, hw2]
   refine ⟨putM M a b (rowV .rw prCells 7 (R.set i x)), ?_, ?_⟩
   ·rw [segNil (fresh_put hf hak)]
    exact MLe.pop (fresh_reV hk3)
   ·exact ih (j + 1) (i + 1) _ _ .rw _ (.inl rfl) rfl (by omega) (hD.in hx hpx) ⟨t0, t1, rfl, rfl⟩
theorem del31 (hl : l.length <= 1000000) (hs : ∀ o, Pm.Sub M0 (putM M a b o)) (hw0 : w0 = .rw \/ w0 = .own) (hM : M a b = some (rowV w0 prCells 7 l)) (hcap : l.length <= capOf c /\ c % 2 = 1 /\ esOf c = 7)
  (hp : ∀ x ∈ l, PTs env Tryz.prog M0 g (first ++ ([encPr x] ++ cap)) (bv (p x))) :
  PT env Tryz.prog 31 [.sl a b 0 l.length c, .fn g first cap] M (fun x M1 => CutV prCells 7 M M1 a b l.length c (keepV p l) x) := by
 have hMM : putM M a b (rowV w0 prCells 7 l) = M := by
  funext x y
  unfold putM
  split
  ·rename_i h; rw [h.1, h.2, hM]
  ·rfl
 have hs0 : Pm.Sub M0 M := by have := hs (rowV w0 prCells 7 l); rwa [hMM] at this
 have hfl : ∀ R : List Pr, (R.flatMap prCells).length = R.length * 7 := fun R => fl_len (f := prCells) (sz := 7) (fun _ => rfl) R
 have hall : ∀ R : List Pr, (R.flatMap prCells).all pone = true := fun R => by
  induction R with
  | nil => rfl
  | cons x l ih => rw [List.flatMap_cons, List.all_append, ih]; rfl
 refine PT.enterR env_ok fn31 (by simp) comp31 fun k hk hf => RX.of env_ok ?_
 have hak : a ≠ k := fun e => by subst e; rw [hf b] at hM; cases hM
 have hV : VsV prCells 7 M (.sl a b 0 l.length c) l := by
  have h1 : M a b = some (.row w0 7 (l.flatMap prCells ++ [])) := by rw [List.append_nil]; exact hM
  exact .row h1
 simp only [G0, Z1, Z2, Z3, Z4, Z5, argsP]
 refine cs0 ((index55 hV hl g first cap p fun x hx => (hp x hx).sub hs0)) (by rw [segNil hf]; exact Pm.Sub.refl _) (by decide) ?_
 rcases idxV_first p l 0 with ⟨h1, h2⟩ | ⟨n, x, h1, h2, h3, h4⟩
 ·rw [h1]
  simp only [G0, Z1, Z2, Z3, Z4, Z5, beq_self_eq_true]
  have hkp : keepV p l = l := by
   unfold keepV
   rw [List.filter_eq_self]
   intro y hy
   rw [List.any_eq_false] at h2
   have := h2 y hy
   simpa using this
  refine end1 hf rfl ⟨?_, [], w0, hw0, ?_, ?_, ?_, fun j y hy => by simp at hy⟩
  ·rw [hkp]; rfl
  ·rw [hkp, List.append_nil]; exact hMM.symm
  ·rw [hkp, List.append_nil]; exact hfl l
  ·rw [hkp, List.append_nil]; exact hall l
 ·rw [h1, Nat.zero_add]
  have hD := DlV.start h2 h3 h4
  have hn := lt_getV h2
  have hne : ((n : Int) == -1) = false := by simp
  have hwn : IntKind.i64.wrap ((n : Int) + 1) = ((n + 1 : Nat) : Int) := by rw [wrap64_id (by omega) (by omega)]; rfl
  simp only [G0, Z1, Z2, Z3, Z4, Z5, hne, hwn]
  refine RX.loop (loop31 (c := c) hl hs hf hak _ hp (fun tm R i w hw hD' hK => ?_) (l.length - (n + 1)) (n + 1) n l M w0 _ hw0 hMM.symm rfl hD (by exact ⟨rfl, rfl, rfl, rfl⟩))
  obtain ⟨t0, t1, t5, t6⟩ := hK
  have hi := hD'.lt
  have hRl := hD'.len
  have hkR : R.take i = keepV p l := by rw [hD'.keep, List.take_length]
  have hki : (keepV p l).length = i := by rw [<- hkR, List.length_take]; omega
  have hfrom := slice_fromV (k := a) (i := b) (n := l.length) (c := c) (sz := 7) (m := i) (kk := .i64) (by omega) ⟨hcap.1, hcap.2⟩ (by decide)
  have hto := slice_toV (k := a) (i := b) (n := l.length) (c := c) (sz := 7) (m := i) (kk := .i64) (by omega) ⟨hcap.2, by decide⟩
  have hne2 : l.length - i ≠ 0 := by omega
  have hlr := hfl R
  have hcl : ∀ {tm : List (Nat × PV)} {c' : Nat}, clearS ⟨tm, 42, k, [], putM M a b (rowV w prCells 7 R)⟩ 7 ([.v (.string ⟨#[]⟩), .v (.int .i64 0), .v (.int .i64 0), .lst .full 0 0 [], .v (.int .i64 0), .v (.int .i64 0), .lst .full 0 0 []] : List PV) (.sl a b (i * 7) (l.length - i) c') =
    some (.junk, ⟨tm, 42, k, [], putM M a b (.row .rw 7 (psplice (R.flatMap prCells) (i * 7) (List.replicate (l.length - i) ([.v (.string ⟨#[]⟩), .v (.int .i64 0), .v (.int .i64 0), .lst .full 0 0 [], .v (.int .i64 0), .v (.int .i64 0), .lst .full 0 0 []] : List PV)).flatten))⟩) := fun {tm c'} => by
   rcases hw with rfl | rfl
   ·have h9 := clear_out (tm := tm) (nt := 42) (k := k) (os := []) (M := putM M a b (rowV .rw prCells 7 R)) (c := c') (sz := 7) (o := i * 7) (z := ([.v (.string ⟨#[]⟩), .v (.int .i64 0), .v (.int .i64 0), .lst .full 0 0 [], .v (.int .i64 0), .v (.int .i64 0), .lst .full 0 0 []] : List PV)) hne2 hak (putM_same M a b (rowV .rw prCells 7 R)) ⟨by omega, rfl, rfl⟩
    rw [putM_put] at h9
    exact h9
   ·have h9 := clear_own (tm := tm) (nt := 42) (k := k) (os := []) (M := putM M a b (rowV .own prCells 7 R)) (c := c') (sz := 7) (o := i * 7) (z := ([.v (.string ⟨#[]⟩), .v (.int .i64 0), .v (.int .i64 0), .lst .full 0 0 [], .v (.int .i64 0), .v (.int .i64 0), .lst .full 0 0 []] : List PV)) hne2 hak (putM_same M a b (rowV .own prCells 7 R)) ⟨by omega, rfl, rfl⟩
    rw [putM_put] at h9
    exact h9
  simp only [G0, Z1, Z2, Z3, Z4, Z5, t0, t5, hfrom, r_clear, hcl, hto]
  have hsp : psplice (R.flatMap prCells) (i * 7) (List.replicate (l.length - i) ([.v (.string ⟨#[]⟩), .v (.int .i64 0), .v (.int .i64 0), .lst .full 0 0 [], .v (.int .i64 0), .v (.int .i64 0), .lst .full 0 0 []] : List PV)).flatten = (keepV p l).flatMap prCells ++ (List.replicate (l.length - i) ([.v (.string ⟨#[]⟩), .v (.int .i64 0), .v (.int .i64 0), .lst .full 0 0 [], .v (.int .i64 0), .v (.int .i64 0), .lst .full 0 0 []] : List PV)).flatten := by
   unfold psplice
   have hz : ((List.replicate (l.length - i) ([.v (.string ⟨#[]⟩), .v (.int .i64 0), .v (.int .i64 0), .lst .full 0 0 [], .v (.int .i64 0), .v (.int .i64 0), .lst .full 0 0 []] : List PV)).flatten).length = (l.length - i) * 7 := flat_len ([.v (.string ⟨#[]⟩), .v (.int .i64 0), .v (.int .i64 0), .lst .full 0 0 [], .v (.int .i64 0), .v (.int .i64 0), .lst .full 0 0 []] : List PV) _
   rw [hz, List.drop_of_length_le (by rw [hlr]; omega), List.append_nil]
   congr 1
   rw [<- hkR, <- List.take_append_drop i R, List.flatMap_append, List.take_left' (by rw [hfl, List.length_take]; omega), List.take_left' (by rw [List.length_take]; omega)]
  refine endM (v := .sl a b 0 i c) rfl ⟨by rw [hki], (List.replicate (l.length - i) ([.v (.string ⟨#[]⟩), .v (.int .i64 0), .v (.int .i64 0), .lst .full 0 0 [], .v (.int .i64 0), .v (.int .i64 0), .lst .full 0 0 []] : List PV)).flatten, .rw, .inl rfl, ?_, ?_, ?_, fun j y hy => nk_zeroV (z := ([.v (.string ⟨#[]⟩), .v (.int .i64 0), .v (.int .i64 0), .lst .full 0 0 [], .v (.int .i64 0), .v (.int .i64 0), .lst .full 0 0 []] : List PV)) (fun j y hy => by
   simp only [List.mem_cons, List.not_mem_nil, or_false] at hy
   rcases hy with rfl | rfl | rfl | rfl | rfl | rfl | rfl
   all_goals first | exact NK.v _ | exact NK.lst (fun _ e => by cases e) NKs.nil) j y hy⟩
  ·rw [segNil (fresh_put hf hak), hsp]
  ·rw [List.length_append, hfl, hki, flat_len]
   show i * 7 + (l.length - i) * 7 = _
   rw [<- Nat.add_mul]; congr 1; omega
  ·rw [List.all_append, hall, all_flat rfl]; rfl
theorem deln31 (e0 g : Nat) (first cap : List PV) : PTp env Tryz.prog 31 [.lst .full e0 0 [], .fn g first cap] (.lst .full e0 0 []) := fun M => by
 refine PT.enterR env_ok fn31 (by simp) comp31 fun k hk hf => RX.of env_ok ?_
 simp only [G0, Z1, Z2, Z3, Z4, Z5, argsP]
 refine cs0 (index55 (M0 := fun _ _ => none) (VsV.nil .full e0) (by simp) g first cap (fun _ => false) (fun x hx => by simp at hx)) (fun _ _ _ e => by cases e) (by decide) ?_
 simp only [G0, Z1, Z2, Z3, Z4, Z5, idxV, beq_self_eq_true]
 exact end1 hf rfl ⟨rfl, rfl⟩
end
end Go.Proofs.YtnmidpahhhdlpaaGreatDoor
namespace Go.Proofs.YtnmidpahhhdlpaaGreatDoor
open Go Go.Am Go.Pm
theorem pone_eb {l : List UInt8} : pone (encBytes l) = true := rfl
end Go.Proofs.YtnmidpahhhdlpaaGreatDoor
noncomputable section
namespace Go.Proofs.YtnmidpahhhdlpaaGreatDoor
open Go Go.Am Go.Pm
def cmpI (a b : Int) : Int := if a < b then -1 else if a > b then 1 else 0
theorem nan105 (a : Int) : PTp env Tryz.prog 105 [iv a] (bv false) := fun M => by
 refine PT.enterR env_ok fn105 (by simp) comp105 fun k hk hf => RX.of env_ok ?_
 simp only [G0, Z1, Z2, Z3, Z4, Z5, argsP, bne_self_eq_false]
 exact end1 hf rfl ⟨rfl, rfl⟩
theorem cmp79 (a b : Int) : PTp env Tryz.prog 79 [iv a, iv b] (iv (cmpI a b)) := fun M => by
 refine PT.enterR env_ok fn79 (by simp) comp79 fun k hk hf => RX.of env_ok ?_
 simp only [G0, Z1, Z2, Z3, Z4, Z5, argsP]
 refine cp0 (nan105 a) (by decide) ?_
 simp only [G0, Z1, Z2, Z3, Z4, Z5]
 refine cp0 (nan105 b) (by decide) ?_
 simp only [G0, Z1, Z2, Z3, Z4, Z5]
 refine cW_s (fun hb => ?_) (fun hb => ?_)
 ·simp only [G0, Z1, Z2, Z3, Z4, Z5]
  refine end1 hf rfl ⟨?_, rfl⟩
  unfold cmpI; rw [if_pos (by simpa using hb)]; rfl
 ·have hb' : ¬ a < b := by simpa using hb
  simp only [G0, Z1, Z2, Z3, Z4, Z5]
  refine cW_s (fun hc => ?_) (fun hc => ?_)
  ·simp only [G0, Z1, Z2, Z3, Z4, Z5]
   refine end1 hf rfl ⟨?_, rfl⟩
   unfold cmpI; rw [if_neg hb', if_pos (by simpa using hc)]; rfl
  ·simp only [G0, Z1, Z2, Z3, Z4, Z5]
   refine end1 hf rfl ⟨?_, rfl⟩
   unfold cmpI; rw [if_neg hb', if_neg (by simpa using hc)]; rfl
def orI : List Int -> Int
 | [] => 0
 | x :: r => if x = 0 then orI r else x
theorem or_load {t : Tok} {l : List Int} {i : Nat} {x : Int} (h : l[i]? = some x) : ptake false 1 (l.map iv) (i * 1) = some (iv x) := by
 unfold ptake
 simp [h]
theorem loop81s {M0 : PMem} {a b c : Nat} {w : Wm} {es : Nat} (l : List Int) (hl : l.length <= 1000000) (hM : M0 a b = some (.row w es (l.map iv))) (M : PMem) (k : Nat) (Q : AExit -> PSt -> Prop) (hs : Pm.Sub M0 M) (hf : fresh M k)
  (q1 : ∀ tm, orI l = 0 -> tget tm 3 = iv 0 -> Q (.exit 0) ⟨tm, 18, k, [], M⟩) (q2 : ∀ tm, tget tm 2 = iv (orI l) -> Q .ret ⟨tm, 18, k, [], M⟩) :
  ∀ d i tm, l.length - i = d -> i <= l.length -> orI l = orI (l.drop i) -> tget tm 3 = iv 0 -> tget tm 6 = .sl a b 0 l.length c -> tget tm 7 = iv l.length -> tget tm 8 = iv i -> RXL env Tryz.prog none c81_16 ⟨tm, 18, k, [], M⟩ Q := by
 intro d
 induction d with
 | zero =>
  intro i tm hd hi ho t3 t6 t7 t8
  have : i = l.length := by omega
  subst this
  refine RXL.round (RX.of env_ok ?_)
  simp only [G0, Z1, Z2, Z3, Z4, Z5, t7, t8, Int.lt_irrefl, decide_false]
  exact q1 _ (by rw [ho, List.drop_of_length_le (Nat.le_refl _)]; rfl) t3
 | succ d ih =>
  intro i tm hd hi ho t3 t6 t7 t8
  have hi' : i < l.length := by omega
  have hii : (i : Int) < l.length := by omega
  obtain ⟨x, hx, hdx⟩ := getE hi'
  have hlx := or_load (t := .no) hx
  have hM' := hs _ _ _ hM
  have hld : ∀ {ag : Bool} {n o : Nat} {os : List Pm.Obj}, loadP k os M ag n (.ptr a b o) = rowTake ag n o (M a b) := loadP_out (fresh_ne hf hM')
  have hia := fun (kk : IntKind) => ia_sl (k := a) (i := b) (o := 0) (n := l.length) (c := c) (sz := 1) (kk := kk) hi'
  have hw : IntKind.i64.wrap ((i : Int) + 1) = ((i + 1 : Nat) : Int) := by rw [wrap64_id (by omega) (by omega)]; rfl
  rw [hdx] at ho
  refine RXL.round (RX.of env_ok ?_)
  simp only [G0, Z1, Z2, Z3, Z4, Z5, t3, t6, t7, t8, hii, decide_true, hia, Nat.zero_add, hld, hM', hlx]
  refine cW_s (fun hb => ?_) (fun hb => ?_)
  ·simp only [G0, Z1, Z2, Z3, Z4, Z5]
   refine q2 _ ?_
   rw [ho]; unfold orI; rw [if_neg (by simpa using hb)]; rfl
  ·simp only [G0, Z1, Z2, Z3, Z4, Z5, t8, hw]
   refine ih (i + 1) _ (by omega) (by omega) ?_ t3 t6 t7 rfl
   rw [ho]
   show orI (x :: _) = _
   rw [orI, if_pos (by simpa using hb)]
theorem or81s {M0 : PMem} {a b c : Nat} {w : Wm} {es : Nat} (l : List Int) (hl : l.length <= 1000000) (hM : M0 a b = some (.row w es (l.map iv))) : PTs env Tryz.prog M0 81 [.sl a b 0 l.length c] (iv (orI l)) := by
 refine PTs.enter env_ok fn81 (by simp) comp81 fun M k hs hk hf => ?_
 simp only [G0, Z1, Z2, Z3, Z4, Z5, argsP, ln_sl]
 refine RX.loop (loop81s l hl hM M k _ hs hf ?_ ?_ l.length 0 _ rfl (Nat.zero_le _) rfl rfl rfl rfl rfl)
 ·intro tm h t3
  simp only [G0, Z1, Z2, Z3, Z4, Z5, t3]
  exact end1 hf rfl ⟨by rw [h]; rfl, rfl⟩
 ·intro tm h
  simp only [G0, Z1, Z2, Z3, Z4, Z5]
  exact end1 hf h ⟨rfl, rfl⟩
theorem e106 : env.ext 106 = some xCompare := by kernel_rfl
theorem cmp106 (a b : List UInt8) : PTp env Tryz.prog 106 [encBytes a, encBytes b] (iv (cmpL a b)) := fun M => by
 have h := PT.compare (M := M) env_ext e106 (t1 := .no) (t2 := .no) (pbytes_enc a) (pbytes_enc b)
 have e1 : ∀ l : List UInt8, (PV.lst .no 1 (l.map encB).length (l.map encB)) = encBytes l := fun l => by unfold encBytes; rw [List.length_map]
 rw [e1, e1] at h
 exact h
theorem cmp80 (a b : List UInt8) : PTp env Tryz.prog 80 [encBytes a, encBytes b] (iv (cmpL a b)) := fun M => by
 refine PT.enterR env_ok fn80 (by simp) comp80 fun k hk hf => RX.of env_ok ?_
 simp only [G0, Z1, Z2, Z3, Z4, Z5, argsP]
 refine cp0 (cmp106 a b) (by decide) ?_
 simp only [G0, Z1, Z2, Z3, Z4, Z5]
 exact end1 hf rfl ⟨rfl, rfl⟩
def effI (x m : Int) (a : List UInt8) (y p : Int) (b : List UInt8) : Int := orI [cmpI x y, cmpI m p, cmpL a b]
theorem fill3 (a b c : Int) : fillA 1 [.v (.int .i64 0), .v (.int .i64 0), .v (.int .i64 0)] [(0, iv a), (1, iv b), (2, iv c)] = some [iv a, iv b, iv c] := rfl
theorem order56 (x m y p : Int) (a b : List UInt8) : PTp env Tryz.prog 56 [.agg [iv x, iv m, encBytes a], .agg [iv y, iv p, encBytes b]] (iv (effI x m a y p b)) := fun M => by
 refine PT.enterR env_ok fn56 (by simp) comp56 fun k hk hf => RX.of env_ok ?_
 have hst : storeO 3 0 (.agg [iv (cmpI x y), iv (cmpI m p), iv (cmpL a b)]) (some (.row .rw 0 [iv 0, iv 0, iv 0])) = some (.row .rw 0 [iv (cmpI x y), iv (cmpI m p), iv (cmpL a b)]) := storeO_eq (n := 3) ⟨rfl, Nat.le_refl 3, rfl⟩
 simp only [G0, Z1, Z2, Z3, Z4, Z5, argsP, pone_eb]
 refine cq0 (cmp79 _ _) (by decide) ?_
 simp only [G0, Z1, Z2, Z3, Z4, Z5]
 refine cq0 (cmp79 _ _) (by decide) ?_
 simp only [G0, Z1, Z2, Z3, Z4, Z5]
 refine cq0 (cmp80 _ _) (by decide) ?_
 simp only [G0, Z1, Z2, Z3, Z4, Z5, fill3, hst, r_sliceA, sliceA_ptr]
 refine cs0 (or81s (M0 := oneM k 2 (.row .rw 0 [iv (cmpI x y), iv (cmpI m p), iv (cmpL a b)])) (w := .rw) (es := 0) [cmpI x y, cmpI m p, cmpL a b] (by simp) oneM_at) (oneM_sub (by rw [seg_same]; rfl)) (by decide) ?_
 simp only [G0, Z1, Z2, Z3, Z4, Z5]
 exact end1 hf rfl ⟨rfl, rfl⟩
theorem effI_self (x m : Int) (a : List UInt8) : effI x m a x m a = 0 := by
 have h : ∀ z : Int, cmpI z z = 0 := fun z => by unfold cmpI; rw [if_neg (Int.lt_irrefl _), if_neg (Int.lt_irrefl _)]
 unfold effI
 rw [h, h, cmpL_self]; rfl
theorem sameE33 (x m y p : Int) (a b : List UInt8) : PTp env Tryz.prog 33 [.agg [iv x, iv m, encBytes a], .agg [iv y, iv p, encBytes b]] (bv (effI x m a y p b == 0)) := fun M => by
 refine PT.enterR env_ok fn33 (by simp) comp33 fun k hk hf => RX.of env_ok ?_
 simp only [G0, Z1, Z2, Z3, Z4, Z5, argsP, pone_eb]
 refine cp0 (order56 x m y p a b) (by decide) ?_
 simp only [G0, Z1, Z2, Z3, Z4, Z5]
 exact end1 hf rfl ⟨rfl, rfl⟩
end Go.Proofs.YtnmidpahhhdlpaaGreatDoor
end
noncomputable section
namespace Go.Proofs.YtnmidpahhhdlpaaGreatDoor
open Go Go.Am Go.Pm
structure Fit (A : List En) : Prop where
 len : A.length <= 100000
 path : ∀ x ∈ A, x.path.length <= 1000000
 bytes : ∀ x ∈ A, x.bytes.length <= 1000000
theorem merge24 {A B : List En} (hA : Fit A) (hB : Fit B) {M0 M : PMem} {a e : Nat} (hM : M a 0 = some (.row .rw 0 [.lst .full e 0 []])) (hs : Pm.Sub M0 M) (hfa : fresh M0 a) :
  PTk env Tryz.prog 24 [encEns A, encEns B, .fn 26 [] [], .fn 27 [] [.ptr a 0 0]] M (fun nk z M1 => Bx nk M0 M1 a (mergeN (A.length + B.length) A B)) := by
 refine PTk.enterR env_ok fn24 (by simp) comp24 fun k hk hf => ?_
 have hak : a ≠ k := fun e => by subst e; rw [hf 0] at hM; cases hM
 have hf0 : fresh M0 k := fresh_of_sub hs hf
 have hlen := mergeN_len (A.length + B.length) A B
 have h1 := hA.len
 have h2 := hB.len
 have hX : Bx (k + 1) M0 (seg M k []) a [] := ⟨hs.sseg hf, hfa, .lst .full e 0 [], by rw [seg_ne _ _ _ hak]; exact hM, .nil e, fun h => by (cases h), fun k e => by (cases e)⟩
 refine scope0 piece24_1 (RX.of env_ok ?_)
 simp only [G0, Z1, Z2, Z3, Z4, Z5, argsP]
 refine RX.loop (loop24 A B hA.len hB.len hA.path hB.path M0 a k hf0 hak (mergeN (A.length + B.length) A B) (by omega) _ (fun tm M hX => ?_) (A.length + B.length) 0 0 [] M _ (by omega) (Nat.zero_le _) (Nat.zero_le _) rfl hX (by exact ⟨rfl, rfl, rfl, rfl, rfl, rfl⟩))
 simp only [G0, Z1, Z2, Z3, Z4, Z5]
 exact ⟨fun l e => by (cases e), endN (hX.weak (Nat.le_succ _))⟩
theorem walk_no {A B : List En} (hA : Fit A) (hB : Fit B) (h : (treeOk A && treeOk B) = false) : PTp env Tryz.prog 8 [encEns A, encEns B] (.tup [.lst .full 0 0 [], iv 2]) := fun M => by
 have h1 := hA.len
 have h2 := hB.len
 refine PT.enterR env_ok fn8 (by simp) comp8 fun k hk hf => RX.of env_ok ?_
 simp only [G0, Z1, Z2, Z3, Z4, Z5, argsP]
 refine cp0 (check14 A (by omega) hA.path) (by decide) ?_
 cases ha : treeOk A with
 | false =>
  simp only [G0, Z1, Z2, Z3, Z4, Z5, ne_err, Bool.not_false, Bool.not_true, cnd_t, cnd_f]
  exact end2 hf rfl rfl ⟨rfl, rfl⟩
 | true =>
  simp only [G0, Z1, Z2, Z3, Z4, Z5, ne_err, Bool.not_false, Bool.not_true, cnd_t, cnd_f]
  refine cp0 (check14 B (by omega) hB.path) (by decide) ?_
  have hb : treeOk B = false := by rw [ha, Bool.true_and] at h; exact h
  rw [hb]
  simp only [G0, Z1, Z2, Z3, Z4, Z5, ne_err, Bool.not_false, Bool.not_true, cnd_t, cnd_f]
  exact end2 hf rfl rfl ⟨rfl, rfl⟩
theorem sub_seg {M M2 : PMem} {k : Nat} {os : List Pm.Obj} (hs : Pm.Sub M M2) (hf : fresh M k) : Pm.Sub M (seg M2 k os) := fun a i o e => by
 have : a ≠ k := fun e' => by subst e'; rw [hf i] at e; cases e
 rw [seg_ne _ _ _ this]; exact hs _ _ _ e
def noneAt (M : PMem) (k : Nat) : PMem := fun a i => if a = k then none else M a i
theorem noneAt_ne {M : PMem} {k a i : Nat} (h : a ≠ k) : noneAt M k a i = M a i := by unfold noneAt; rw [if_neg h]
theorem mle_box {M : PMem} {k : Nat} {o : Pm.Obj} (h : M k 0 = some o) : MLe M (seg (noneAt M k) k [o]) := fun a i o' e => by
 by_cases ha : a = k
 ·subst ha
  rw [seg_same] at e
  cases i with
  | zero => cases e; exact ⟨_, h, .refl _⟩
  | succ i => cases e
 ·rw [seg_ne _ _ _ ha, noneAt_ne ha] at e
  exact ⟨o', e, .refl _⟩
theorem endM2 {E : Env} {Q : PV -> PMem -> Prop} {body : Code} {nt nt' r q k : Nat} {v w : PV} {tm : List (Nat × PV)} {os : List Pm.Obj} {M : PMem} (hv : tget tm r = v) (hw : tget tm q = w) (h : Q (.tup [v, w]) (seg M k os)) : ends E ⟨nt, [.tmp r, .tmp q], body⟩ Q .ret ⟨tm, nt', k, os, M⟩ := by
 subst hv hw; exact ⟨.inr rfl, [_, _], seg M k os, rfl, .refl _, h⟩
structure Told (M M1 : PMem) (n : Nat) (vo : PV) (L : List Pr) : Prop where
 out : OutW M1 vo L
 sub : Pm.Sub M M1
 key : ∀ j, keyV vo = some j -> fresh M j /\ n <= j
theorem walk_raw {A B : List En} (hA : Fit A) (hB : Fit B) (ha : treeOk A = true) (hb : treeOk B = true) (M : PMem) :
  PTk env Tryz.prog 8 [encEns A, encEns B] M (fun nk z M1 => ∃ vo, z = .tup [vo, iv 0] /\ Told M M1 nk vo (mergeN (A.length + B.length) A B)) := by
 have h1 := hA.len
 have h2 := hB.len
 refine PTk.enterR env_ok fn8 (by simp) comp8 fun k hk hf => RX.of env_ok ?_
 simp only [G0, Z1, Z2, Z3, Z4, Z5, argsP]
 refine cp0 (check14 A (by omega) hA.path) (by decide) ?_
 rw [ha]
 simp only [G0, Z1, Z2, Z3, Z4, Z5, ne_err, Bool.not_false, Bool.not_true, cnd_t, cnd_f]
 refine cp0 (check14 B (by omega) hB.path) (by decide) ?_
 rw [hb]
 simp only [G0, Z1, Z2, Z3, Z4, Z5, ne_err, Bool.not_false, Bool.not_true, cnd_t, cnd_f]
 refine cp0 (clone25 A (by omega) hA.bytes) (by decide) ?_
 simp only [G0, Z1, Z2, Z3, Z4, Z5]
 refine cp0 (clone25 B (by omega) hB.bytes) (by decide) ?_
 simp only [G0, Z1, Z2, Z3, Z4, Z5]
 refine cmk (first := []) (cap := []) ((merge24 hA hB (M0 := M) (a := k) (e := 0) (by rw [seg_same]; rfl) ((Pm.Sub.refl M).sseg hf) hf).mono fun nk z M1 hX hnk => ?_)
 obtain ⟨vo, g1, g2, g3, g4⟩ := hX.vals
 have hS : Pm.Sub M (noneAt M1 k) := fun a i o e => by
  have : a ≠ k := fun e' => by subst e'; rw [hf i] at e; cases e
  rw [noneAt_ne this]; exact hX.sub _ _ _ e
 refine ⟨[.row .rw 0 [vo]], noneAt M1 k, rfl, mle_box g1, by decide, ?_⟩
 simp only [G0, Z1, Z2, Z3, Z4, Z5]
 refine endM2 rfl rfl ⟨vo, rfl, ?_, sub_seg hS hf, fun j e => ⟨(g4 j e).1, by have := (g4 j e).2; omega⟩⟩
 refine g2.frame fun j i e _ => ?_
 have hj : j ≠ k := fun e' => by subst e'; exact g3 e
 rw [seg_ne _ _ _ hj, noneAt_ne hj]
theorem nk_bytesB (k : Nat) (b : List UInt8) : NK k (encBytes b) := by
 unfold encBytes
 refine .lst (fun i e => by cases e) ?_
 induction b with
 | nil => exact .nil
 | cons x b ih => exact .cons (.v _) ih
theorem nk_prs (k : Nat) (l : List Pr) : NKs k (l.flatMap prCells) := by
 induction l with
 | nil => exact .nil
 | cons x l ih =>
  rw [List.flatMap_cons]
  exact .cons (.v _) (.cons (.v _) (.cons (.v _) (.cons (nk_bytesB _ _) (.cons (.v _) (.cons (.v _) (.cons (nk_bytesB _ _) ih))))))
inductive OutR (M : PMem) : PV -> List Pr -> Prop where
 | nil (e : Nat) : OutR M (.lst .full e 0 []) []
 | row {k i n c : Nat} {w : Wm} {L : List Pr} {rest : List PV} (hM : M k i = some (.row w 7 (L.flatMap prCells ++ rest))) (hn : n = L.length) (hc : n <= capOf c /\ c % 2 = 1 /\ esOf c = 7) (hr : ∀ j, ∀ y ∈ rest, NK j y) : OutR M (.sl k i 0 n c) L
theorem OutW.r {M : PMem} {v : PV} {L : List Pr} (h : OutW M v L) : OutR M v L := by
 cases h with
 | nil e => exact .nil e
 | row hM hw hn h0 => exact .row (rest := []) (by rw [List.append_nil]; exact hM) hn ⟨by rw [(cap_lo' (by decide)).1]; exact Nat.le_refl _, (cap_lo' (by decide)).2⟩ fun j y hy => by (cases hy)
theorem nks_of {k : Nat} : ∀ {l : List PV}, (∀ y ∈ l, NK k y) -> NKs k l
 | [], _ => .nil
 | x :: l, h => .cons (h x List.mem_cons_self) (nks_of fun y hy => h y (List.mem_cons_of_mem _ hy))
theorem nks_app {k : Nat} : ∀ {l m : List PV}, NKs k l -> NKs k m -> NKs k (l ++ m)
 | [], _, _, h => h
 | _ :: _, _, .cons h hs, g => .cons h (nks_app hs g)
structure TldR (M M1 : PMem) (n : Nat) (z : PV) (L : List Pr) : Prop where
 vals : ∃ vo, z = .tup [vo, iv 0] /\ OutR M1 vo L /\ ∀ j, keyV vo = some j -> fresh M j /\ n <= j
 sub : Pm.Sub M M1
theorem told_list {f : Nat} {args : List PV} {M : PMem} {L : List Pr} (h : PTk env Tryz.prog f args M (fun nk z M1 => TldR M M1 nk z L)) :
  PT env Tryz.prog f args M (fun z M1 => z = .tup [encPrs L, iv 0] /\ M1 = M) := by
 refine PT.freezeOr (h.mono ?_)
 rintro nk z M1 ⟨⟨vo, rfl, h1, h2⟩, hs⟩
 cases h1 with
 | nil e => exact .inr ⟨_, fun k i o e => ⟨o, hs _ _ _ e, .refl _⟩, .tup (.cons (PLe.nil_no _ _ _ rfl) (.cons (.refl _) .nil)), rfl, rfl⟩
 | @row k i n c w L rest hM hn hc hr =>
  subst hn
  obtain ⟨g1, g2⟩ := h2 k rfl
  have hl := pr_len L
  refine .inl ⟨k, i, 7, w, L.flatMap prCells ++ rest, _, g2, ?_, nks_app (nk_prs k L) (nks_of (hr k)), .tup (.cons (.here (by rw [List.length_append]; omega) hc.1 (.inr hc.2.2)) (.cons (.keep (.v _)) .nil)), ?_, rfl⟩
  ·intro a j o e
   unfold putM at e
   split at e
   ·rename_i hc; obtain ⟨rfl, rfl⟩ := hc; cases e; exact ⟨_, hM, .refl _⟩
   ·exact ⟨o, hs _ _ _ e, .refl _⟩
  ·rw [List.take_left' hl]; rfl
theorem walk_list {A B : List En} (hA : Fit A) (hB : Fit B) (ha : treeOk A = true) (hb : treeOk B = true) : PTp env Tryz.prog 8 [encEns A, encEns B] (.tup [encPrs (mergeN (A.length + B.length) A B), iv 0]) := fun M =>
 told_list ((walk_raw hA hB ha hb M).mono fun nk z M1 ⟨vo, h0, h1, h2, h3⟩ => ⟨⟨vo, h0, h1.r, h3⟩, h2⟩)
def sameP (p : Pr) : Bool := effI p.ak p.am p.ab p.bk p.bm p.bb == 0
theorem box_pr (x : Pr) : pcells (encPr x) = prCells x := rfl
theorem pr_a (x : Pr) : ptake true 3 (prCells x) 1 = some (.agg [iv x.ak, iv x.am, encBytes x.ab]) := rfl
theorem pr_b (x : Pr) : ptake true 3 (prCells x) 4 = some (.agg [iv x.bk, iv x.bm, encBytes x.bb]) := rfl
theorem call32 (x : Pr) : PTp env Tryz.prog 32 [encPr x] (bv (sameP x)) := fun M => by
 refine PT.enterR env_ok fn32 (by simp) comp32 fun k hk hf => RX.of env_ok ?_
 have hj : notJunk (encPr x) = true := rfl
 simp only [G0, Z1, Z2, Z3, Z4, Z5, argsP, box_pr, hj, pr_a, pr_b]
 refine cp0 (sameE33 _ _ _ _ _ _) (by decide) ?_
 simp only [G0, Z1, Z2, Z3, Z4, Z5]
 exact end1 hf rfl ⟨rfl, rfl⟩
theorem diff_raw {A B : List En} (hA : Fit A) (hB : Fit B) (ha : treeOk A = true) (hb : treeOk B = true) (M : PMem) :
  PTk env Tryz.prog 10 [encEns A, encEns B] M (fun nk z M1 => TldR M M1 nk z (keepV sameP (mergeN (A.length + B.length) A B))) := by
 have h1 := hA.len
 have h2 := hB.len
 have hln := mergeN_len (A.length + B.length) A B
 refine PTk.enterR env_ok fn10 (by simp) comp10 fun k hk hf => RX.of env_ok ?_
 simp only [G0, Z1, Z2, Z3, Z4, Z5, argsP]
 refine cmk (first := []) (cap := []) (((walk_raw hA hB ha hb _).mono fun nk z M1 hq hnk => ?_))
 generalize mergeN (A.length + B.length) A B = L at hq hln ⊢
 obtain ⟨vo, rfl, hO, hS, hK⟩ := hq
 have hf1 : fresh M1 k \/ True := .inr trivial
 refine ⟨[], M1, rfl, MLe.seg_nil' _ _, by decide, ?_⟩
 rw [segNil hf] at hS hK
 simp only [G0, Z1, Z2, Z3, Z4, Z5]
 cases hO with
 | nil e =>
  refine cp0 (deln31 e 32 [] []) (by decide) ?_
  simp only [G0, Z1, Z2, Z3, Z4, Z5]
  exact endM2 rfl rfl ⟨⟨_, rfl, .nil e, fun j e => by (cases e)⟩, sub_seg hS hf⟩
 | @row k1 i1 n w L hM hw hn h0 =>
  subst hn
  obtain ⟨g1, g2⟩ := hK k1 rfl
  have hk1 : k1 ≠ k := by omega
  have hcap := cap_lo' (n := L.length) (es := 7) (by decide)
  refine cm (first := []) (cap := []) ((del31 (M0 := fun _ _ => none) (a := k1) (b := i1) (c := loCap L.length 7) (l := L) (g := 32) (first := []) (cap := []) (p := sameP) (w0 := w) (by omega) (fun o a i o e => by (cases e)) hw (by rw [seg_ne _ _ _ hk1]; exact hM) ⟨by rw [hcap.1]; exact Nat.le_refl _, hcap.2⟩
   (fun x hx M _ => call32 x M)).mono fun x M2 hcut => ?_)
  obtain ⟨rfl, rest, w', hw', rfl, hrl, hro, hrk⟩ := hcut
  have hlk := List.length_filter_le (fun x => !sameP x) L
  refine ⟨[], putM M1 k1 i1 (.row w' 7 ((keepV sameP L).flatMap prCells ++ rest)), rfl, MLe.of_eq (by rw [put_seg_ne hk1]), by decide, ?_⟩
  simp only [G0, Z1, Z2, Z3, Z4, Z5]
  refine endM2 rfl rfl ⟨⟨_, rfl, .row (rest := rest) (w := w') (by rw [seg_ne _ _ _ hk1]; exact putM_same _ _ _ _) rfl ⟨by rw [hcap.1]; exact hlk, hcap.2⟩ hrk, fun j e => by (cases e; exact ⟨g1, by omega⟩)⟩, ?_⟩
  intro a i o e
  have h3 : a ≠ k := fun e' => by subst e'; rw [hf i] at e; cases e
  have h4 : a ≠ k1 := fun e' => by subst e'; rw [g1 i] at e; cases e
  rw [seg_ne _ _ _ h3, put_ne (fun y => h4 y.1)]
  exact hS _ _ _ e
theorem diff_list {A B : List En} (hA : Fit A) (hB : Fit B) (ha : treeOk A = true) (hb : treeOk B = true) : PTp env Tryz.prog 10 [encEns A, encEns B] (.tup [encPrs (keepV sameP (mergeN (A.length + B.length) A B)), iv 0]) := fun M =>
 told_list (diff_raw hA hB ha hb M)
theorem sameP_self (x : En) : sameP (meet (some x) (some x)) = true := by
 unfold sameP
 show (effI x.kind x.mode x.bytes x.kind x.mode x.bytes == 0) = true
 rw [effI_self]; rfl
theorem keep_none {α : Type} {p : α -> Bool} {l : List α} (h : ∀ x ∈ l, p x = true) : keepV p l = [] := by
 unfold keepV
 rw [List.filter_eq_nil_iff]
 intro x hx
 rw [h x hx]; decide
theorem diff_self {A : List En} (hA : Fit A) (ha : treeOk A = true) : PTp env Tryz.prog 10 [encEns A, encEns A] (.tup [encPrs [], iv 0]) := by
 have h := diff_list hA hA ha ha
 rw [mergeN_self _ _ (Nat.le_refl _), keep_none (by
  intro x hx
  obtain ⟨y, _, rfl⟩ := List.mem_map.1 hx
  exact sameP_self y)] at h
 exact h
end Go.Proofs.YtnmidpahhhdlpaaGreatDoor
end
namespace Go.Proofs.YtnmidpahhhdlpaaGreatDoor
open Go Go.Am Go.Pm
def enLong (x : En) : Bool := decide ((x.path.length : Int) > 100) || decide ((x.bytes.length : Int) > 1200)
def anyE : Nat -> List En -> Bool
 | 0, _ => false
 | _ + 1, [] => false
 | n + 1, x :: r => enLong x || anyE n r
def longEns (l : List En) : Bool := anyE 61 l || decide ((l.length : Int) > 60)
theorem anyE_not : ∀ (n : Nat) (l : List En), anyE n l = false -> l.length <= n -> ∀ x ∈ l, enLong x = false
 | _, [], _, _, x, h => by cases h
 | 0, _ :: _, _, h, _, _ => by simp at h
 | n + 1, y :: r, h, hl, x, hx => by
  unfold anyE at h
  rw [Bool.or_eq_false_iff] at h
  rcases List.mem_cons.1 hx with rfl | hx
  ·exact h.1
  ·exact anyE_not n r h.2 (by simpa using hl) x hx
theorem not_longE {l : List En} (h : longEns l = false) : l.length <= 60 /\ ∀ x ∈ l, x.path.length <= 100 /\ x.bytes.length <= 1200 := by
 unfold longEns at h
 rw [Bool.or_eq_false_iff] at h
 have h1 := of_decide_eq_false h.2
 refine ⟨by omega, fun x hx => ?_⟩
 have := anyE_not 61 l h.1 (by omega) x hx
 unfold enLong at this
 rw [Bool.or_eq_false_iff] at this
 have h2 := of_decide_eq_false this.1
 have h3 := of_decide_eq_false this.2
 omega
theorem en_eff' {l : List En} {i : Nat} {x : En} (h : l[i]? = some x) : ptake true 3 (l.flatMap enCells) (i * 4 + 1) = some (.agg [iv x.kind, iv x.mode, encBytes x.bytes]) := sub_at (f := enCells) (fun _ => rfl) h (by decide) rfl
theorem en_path {l : List En} {i : Nat} {x : En} (h : l[i]? = some x) : (l.flatMap enCells)[i * 4]? = some (str x.path) := by have := en_cell (c := 0) h rfl; simpa using this
theorem loop5 (l : List En) (M : PMem) (k : Nat) (Q : AExit -> PSt -> Prop) (q1 : anyE 61 l = false -> ∀ tm, tget tm 0 = encEns l -> Q (.exit 0) ⟨tm, 32, k, [], M⟩)
  (q2 : anyE 61 l = true -> ∀ tm, tget tm 2 = bv true -> Q .ret ⟨tm, 32, k, [], M⟩) :
  ∀ d i tm, 61 - i = d -> i <= 61 -> i <= l.length -> anyE 61 l = anyE d (l.drop i) -> tget tm 0 = encEns l -> tget tm 3 = iv i -> RXL env Tryz.prog none c5_13 ⟨tm, 32, k, [], M⟩ Q := by
 intro d
 induction d with
 | zero =>
  intro i tm hd hi hl hp t0 t3
  have h0 : tget tm 0 = .lst .no 4 l.length (l.flatMap enCells) := t0
  have him : ¬ ((i : Int) < 61) := by omega
  refine RXL.round (RX.of env_ok ?_)
  by_cases hlt : (i : Int) < l.length
  ·simp only [G0, Z1, Z2, Z3, Z4, Z5, h0, t3, hlt, him, decide_true, decide_false]
   exact q1 (by rw [hp]; rfl) _ t0
  ·simp only [G0, Z1, Z2, Z3, Z4, Z5, h0, t3, hlt, him, decide_true, decide_false]
   exact q1 (by rw [hp]; rfl) _ t0
 | succ d ih =>
  intro i tm hd hi hl hp t0 t3
  have h0 : tget tm 0 = .lst .no 4 l.length (l.flatMap enCells) := t0
  have him : (i : Int) < 61 := by omega
  by_cases hlt : i < l.length
  ·have hii : (i : Int) < l.length := by omega
   obtain ⟨x, hx, hdx⟩ := getE hlt
   have cp := en_path hx
   have ce := en_eff' hx
   have hw : IntKind.i64.wrap ((i : Int) + 1) = ((i + 1 : Nat) : Int) := by rw [wrap64_id (by omega) (by omega)]; rfl
   rw [hdx] at hp
   refine RXL.round (RX.of env_ok ?_)
   simp only [G0, Z1, Z2, Z3, Z4, Z5, h0, t3, him, hii, hlt, decide_true, cp, ce]
   refine cg0F (fun h => by simp only [h, Bool.not_false, cnd_t]; exact long_effect _ _ _) (by decide) ?_
   simp only [G0, Z1, Z2, Z3, Z4, Z5, h0, t3, him, hii, hlt, decide_true, cp, ce]
   refine cW_s (fun hb => ?_) (fun hb => ?_)
   ·simp only [G0, Z1, Z2, Z3, Z4, Z5]
    refine q2 ?_ _ rfl
    have : enLong x = true := hb
    rw [hp, anyE, this]; rfl
   ·simp only [G0, Z1, Z2, Z3, Z4, Z5, t3, hw]
    have : enLong x = false := hb
    refine ih (i + 1) _ (by omega) (by omega) (by omega) ?_ t0 rfl
    rw [hp, anyE, this]; rfl
  ·have hii : ¬ ((i : Int) < l.length) := by omega
   refine RXL.round (RX.of env_ok ?_)
   simp only [G0, Z1, Z2, Z3, Z4, Z5, h0, t3, hii, decide_false]
   exact q1 (by rw [hp, List.drop_of_length_le (by omega)]; rfl) _ t0
theorem long5 (l : List En) : PTp env Tryz.prog 5 [encEns l] (bv (longEns l)) := fun M => by
 refine PT.enterR env_ok fn5 (by simp) comp5 fun k hk hf => RX.of env_ok ?_
 simp only [G0, Z1, Z2, Z3, Z4, Z5, argsP]
 refine RX.loop (loop5 l M k _ (fun h tm t0 => ?_) (fun h tm t2 => ?_) 61 0 _ rfl (Nat.zero_le _) (Nat.zero_le _) rfl rfl rfl)
 ·have h0 : tget tm 0 = .lst .no 4 l.length (l.flatMap enCells) := t0
  simp only [G0, Z1, Z2, Z3, Z4, Z5, h0]
  exact end1 hf rfl ⟨by unfold longEns; rw [h]; rfl, rfl⟩
 ·simp only [G0, Z1, Z2, Z3, Z4, Z5]
  exact end1 hf t2 ⟨by unfold longEns; rw [h]; rfl, rfl⟩
theorem loop13 (l : List En) (hl : l.length <= 1000000) (M : PMem) (k : Nat) (Q : AExit -> PSt -> Prop) (q : ∀ tm, Q (.exit 0) ⟨tm, 42, k, [], M⟩) :
  ∀ d i tm, l.length - i = d -> i <= l.length -> tget tm 0 = encEns l -> tget tm 1 = encEns l -> tget tm 5 = iv i -> RXL env Tryz.prog none c13_18 ⟨tm, 42, k, [], M⟩ Q := by
 intro d
 induction d with
 | zero =>
  intro i tm hd hi t0 t1 t5
  have : i = l.length := by omega
  subst this
  have h0 : tget tm 0 = .lst .no 4 l.length (l.flatMap enCells) := t0
  refine RXL.round (RX.of env_ok ?_)
  simp only [G0, Z1, Z2, Z3, Z4, Z5, h0, t5, Int.lt_irrefl, decide_false]
  exact q _
 | succ d ih =>
  intro i tm hd hi t0 t1 t5
  have h0 : tget tm 0 = .lst .no 4 l.length (l.flatMap enCells) := t0
  have h1 : tget tm 1 = .lst .no 4 l.length (l.flatMap enCells) := t1
  have hi' : i < l.length := by omega
  obtain ⟨x, hx, hdx⟩ := getE hi'
  have hii : (i : Int) < l.length := by omega
  have cp := en_path hx
  have ce := en_eff' hx
  have hw : IntKind.i64.wrap ((i : Int) + 1) = ((i + 1 : Nat) : Int) := by rw [wrap64_id (by omega) (by omega)]; rfl
  refine RXL.round (RX.of env_ok ?_)
  simp only [G0, Z1, Z2, Z3, Z4, Z5, h0, h1, t5, hii, decide_true, hi', cp, ce, str_neq, beq_self_eq_true, Bool.not_true, e_CGD]
  refine cp0 (same_effect _ _ _ _ _ _) (by decide) ?_
  simp only [G0, Z1, Z2, Z3, Z4, Z5, t5, hw, beq_self_eq_true, Bool.and_self, Bool.not_true, Bool.or_self]
  exact ih (i + 1) _ (by omega) (by omega) t0 t1 rfl
theorem same13 (l : List En) (hl : l.length <= 1000000) : PTp env Tryz.prog 13 [encEns l, encEns l] (bv true) := fun M => by
 refine PT.enterR env_ok fn13 (by simp) comp13 fun k hk hf => RX.of env_ok ?_
 have hlen : lenL (encEns l) = some (iv (l.length : Nat)) := rfl
 simp only [G0, Z1, Z2, Z3, Z4, Z5, argsP, hlen, bne_self_eq_false]
 refine RX.loop (loop13 l hl M k _ (fun tm => ?_) l.length 0 _ rfl (Nat.zero_le _) rfl rfl rfl)
 simp only [G0, Z1, Z2, Z3, Z4, Z5]
 exact end1 hf rfl ⟨rfl, rfl⟩
end Go.Proofs.YtnmidpahhhdlpaaGreatDoor
namespace Go.Proofs.YtnmidpahhhdlpaaGreatDoor
open Go Go.Am Go.Pm
def apartJ (a b : Option Nat) : Prop := ∀ q, a = some q -> b ≠ some q
theorem OutG.push2 {α : Type} {f : α -> List PV} {sz k : Nat} {os : List Pm.Obj} {j : Option Nat} {v : PV} {L : List α} (h : OutG f sz k os j v L) {by_ : Nat} (hb : (2 * (L.length + 1) + 2000) * by_ <= 281474976710656) (hl : L.length <= 1000000) (hz : sz < 4096) (x : α) (ho : (f x).all pone = true) (t : Tok) :
  ∃ v' os' j', (∀ {tm : List (Nat × PV)} {nt : Nat} {M : PMem}, appP ⟨tm, nt, k, os, M⟩ sz by_ sz v (.lst t sz 1 (f x)) = some (v', ⟨tm, nt, k, os', M⟩)) /\ OutG f sz k os' j' v' (L ++ [x]) ∧
   ∀ {β : Type} {g : β -> List PV} {s2 : Nat} {j2 : Option Nat} {v2 : PV} {L2 : List β}, OutG g s2 k os j2 v2 L2 -> apartJ j2 j -> OutG g s2 k os' j2 v2 L2 /\ apartJ j2 j' := by
 have hfm : (L ++ [x]).flatMap f = L.flatMap f ++ f x := by rw [List.flatMap_append]; simp
 have hlen : (L ++ [x]).length = L.length + 1 := by simp
 cases h with
 | nil e0 =>
  have hc : (0 = 0 \/ e0 = sz) /\ (2 * (0 + 1) + 2000) * by_ <= 281474976710656 /\ 0 + 1 <= 4611686018427387904 /\ sz < 4096 /\ sz = sz /\ (f x).all pone = true := ⟨.inl rfl, hb, by omega, hz, rfl, ho⟩
  refine ⟨_, os ++ [.grow (0 + 1) sz], some os.length, fun {tm nt M} => ap_full (by decide) hc, ?_, fun {β g s2 j2 v2 L2} h2 ha => ⟨h2.more _, fun q e e' => ?_⟩⟩
  ·have := OutG.tok (f := f) (sz := sz) (k := k) (os := os ++ [.grow (0 + 1) sz]) (j := os.length) (L := [x]) (by rw [List.getElem?_append_right (Nat.le_refl _), Nat.sub_self]; rfl)
   simpa using this
  ·subst e
   cases e'
   cases h2 with
   | tok h3 => have := (List.getElem?_eq_some_iff.1 h3).1; omega
 | @tok j L h =>
  have hj := (List.getElem?_eq_some_iff.1 h).1
  have hc : (L.length = 0 \/ sz = sz) /\ (2 * (L.length + 1) + 2000) * by_ <= 281474976710656 /\ L.length + 1 <= 4611686018427387904 /\ sz < 4096 /\ sz = sz /\ (f x).all pone = true := ⟨.inr rfl, hb, by omega, hz, rfl, ho⟩
  refine ⟨_, os.set j (.grow (L.length + 1) sz), some j, fun {tm nt M} => ap_id (by decide) h hc rfl, ?_, fun {β g s2 j2 v2 L2} h2 ha => ⟨?_, ha⟩⟩
  ·rw [<- hfm, <- hlen]
   exact .tok (by rw [List.getElem?_set_self hj])
  ·cases h2 with
   | nil e => exact .nil e
   | @tok j2 L2 h3 =>
    have hne : j ≠ j2 := fun e => ha j2 rfl (by rw [e])
    exact .tok (by rw [List.getElem?_set_ne hne]; exact h3)
theorem pr_cell {l : List Pr} {i : Nat} {x : Pr} (h : l[i]? = some x) {c : Nat} {v : PV} (hc : (prCells x)[c]? = some v) : (l.flatMap prCells)[i * 7 + c]? = some v := cell_at (f := prCells) (n := 7) (fun _ => rfl) h hc
theorem pr_path {l : List Pr} {i : Nat} {x : Pr} (h : l[i]? = some x) : (l.flatMap prCells)[i * 7]? = some (str x.path) := by have := pr_cell (c := 0) h rfl; simpa using this
theorem pr_effA {l : List Pr} {i : Nat} {x : Pr} (h : l[i]? = some x) : ptake true 3 (l.flatMap prCells) (i * 7 + 1) = some (.agg [iv x.ak, iv x.am, encBytes x.ab]) := sub_at (f := prCells) (fun _ => rfl) h (by decide) rfl
theorem pr_effB {l : List Pr} {i : Nat} {x : Pr} (h : l[i]? = some x) : ptake true 3 (l.flatMap prCells) (i * 7 + 4) = some (.agg [iv x.bk, iv x.bm, encBytes x.bb]) := sub_at (f := prCells) (fun _ => rfl) h (by decide) rfl
structure K4 (tm : List (Nat × PV)) (A B : List En) (R : List Pr) (vx vy : PV) (i : Nat) : Prop where
 t0 : tget tm 0 = encEns A
 t1 : tget tm 1 = encEns B
 t5 : tget tm 5 = bv true
 t6 : tget tm 6 = encPrs R
 t8 : tget tm 8 = vx
 t9 : tget tm 9 = vy
 t10 : tget tm 10 = iv i
theorem sel_take {f : Pr -> Option En} {R : List Pr} {i : Nat} {p : Pr} (h : R[i]? = some p) : (R.take (i + 1)).filterMap f = (R.take i).filterMap f ++ (match f p with | some e => [e] | none => []) := by
 rw [take_snoc h, List.filterMap_append]
 congr 1
 rw [List.filterMap_cons]
 cases f p <;> rfl
theorem sel_len {f : Pr -> Option En} {R : List Pr} {i : Nat} : ((R.take i).filterMap f).length <= R.length := by
 refine Nat.le_trans (List.length_filterMap_le _ _) ?_
 rw [List.length_take]; omega
theorem roundA {A B : List En} {R : List Pr} (hR : R.length <= 1000000) {M : PMem} {k i : Nat} {os : List Pm.Obj} {jx jy : Option Nat} {vx vy : PV} {tm : List (Nat × PV)} {p : Pr} (hp : R[i]? = some p) {Q : AExit -> PSt -> Prop}
  (hx : OutG enCells 4 k os jx vx ((R.take i).filterMap selA)) (hy : OutG enCells 4 k os jy vy ((R.take i).filterMap selB)) (hj : apartJ jy jx) (hK : K4 tm A B R vx vy i)
  (q : ∀ tm os jx vx, OutG enCells 4 k os jx vx ((R.take (i + 1)).filterMap selA) -> OutG enCells 4 k os jy vy ((R.take i).filterMap selB) -> apartJ jy jx -> K4 tm A B R vx vy i -> Q .normal ⟨tm, 140, k, os, M⟩) :
  RX env Tryz.prog none c4_26 ⟨tm, 140, k, os, M⟩ Q := by
 obtain ⟨t0, t1, t5, t6, t8, t9, t10⟩ := hK
 have h6 : tget tm 6 = .lst .no 7 R.length (R.flatMap prCells) := t6
 have hi : i < R.length := lt_get hp
 have hc := pr_cell (c := 1) hp rfl
 refine RX.of env_ok ?_
 by_cases hz : p.ak = 0
 ·have hne : (p.ak != 0) = false := by rw [hz]; rfl
  simp only [G0, Z1, Z2, Z3, Z4, Z5, h6, t10, hi, hc, hne]
  refine q _ _ _ _ ?_ hy hj ⟨t0, t1, t5, t6, t8, t9, t10⟩
  have hs : selA p = none := if_pos hz
  rw [sel_take hp, hs, List.append_nil]; exact hx
 ·have hne : (p.ak != 0) = true := by simpa using hz
  have cp := pr_path hp
  have ce := pr_effA hp
  have hs : selA p = some ⟨p.path, p.ak, p.am, p.ab⟩ := if_neg hz
  have hsl := sel_len (f := selA) (R := R) (i := i)
  obtain ⟨v', os', j', h1, h2, h3⟩ := hx.push2 (by_ := 56) (by omega) (by omega) (by decide) ⟨p.path, p.ak, p.am, p.ab⟩ rfl .full
  have h1' : ∀ {tm : List (Nat × PV)} {nt : Nat} {M : PMem}, appP ⟨tm, nt, k, os, M⟩ 4 56 4 vx (.lst .full 4 1 [str p.path, iv p.ak, iv p.am, encBytes p.ab]) = some (v', ⟨tm, nt, k, os', M⟩) := h1
  obtain ⟨h4, h5⟩ := h3 hy hj
  simp only [G0, Z1, Z2, Z3, Z4, Z5, h6, t8, t10, hi, hc, hne, cp, ce]
  refine aL ?_
  rw [h1']
  simp only [G0, Z1, Z2, Z3, Z4, Z5]
  refine q _ _ _ _ ?_ h4 h5 ⟨t0, t1, t5, t6, rfl, t9, t10⟩
  rw [sel_take hp, hs]; exact h2
theorem roundB {A B : List En} {R : List Pr} (hR : R.length <= 1000000) {M : PMem} {k i : Nat} {os : List Pm.Obj} {jx jy : Option Nat} {vx vy : PV} {tm : List (Nat × PV)} {p : Pr} (hp : R[i]? = some p) {Q : AExit -> PSt -> Prop}
  (hx : OutG enCells 4 k os jx vx ((R.take (i + 1)).filterMap selA)) (hy : OutG enCells 4 k os jy vy ((R.take i).filterMap selB)) (hj : apartJ jx jy) (hK : K4 tm A B R vx vy i)
  (q : ∀ tm os jy vy, OutG enCells 4 k os jx vx ((R.take (i + 1)).filterMap selA) -> OutG enCells 4 k os jy vy ((R.take (i + 1)).filterMap selB) -> apartJ jx jy -> K4 tm A B R vx vy i -> Q .normal ⟨tm, 140, k, os, M⟩) :
  RX env Tryz.prog none c4_30 ⟨tm, 140, k, os, M⟩ Q := by
 obtain ⟨t0, t1, t5, t6, t8, t9, t10⟩ := hK
 have h6 : tget tm 6 = .lst .no 7 R.length (R.flatMap prCells) := t6
 have hi : i < R.length := lt_get hp
 have hc := pr_cell (c := 4) hp rfl
 refine RX.of env_ok ?_
 by_cases hz : p.bk = 0
 ·have hne : (p.bk != 0) = false := by rw [hz]; rfl
  simp only [G0, Z1, Z2, Z3, Z4, Z5, h6, t10, hi, hc, hne]
  refine q _ _ _ _ hx ?_ hj ⟨t0, t1, t5, t6, t8, t9, t10⟩
  have hs : selB p = none := if_pos hz
  rw [sel_take hp, hs, List.append_nil]; exact hy
 ·have hne : (p.bk != 0) = true := by simpa using hz
  have cp := pr_path hp
  have ce := pr_effB hp
  have hs : selB p = some ⟨p.path, p.bk, p.bm, p.bb⟩ := if_neg hz
  have hsl := sel_len (f := selB) (R := R) (i := i)
  obtain ⟨v', os', j', h1, h2, h3⟩ := hy.push2 (by_ := 56) (by omega) (by omega) (by decide) ⟨p.path, p.bk, p.bm, p.bb⟩ rfl .full
  have h1' : ∀ {tm : List (Nat × PV)} {nt : Nat} {M : PMem}, appP ⟨tm, nt, k, os, M⟩ 4 56 4 vy (.lst .full 4 1 [str p.path, iv p.bk, iv p.bm, encBytes p.bb]) = some (v', ⟨tm, nt, k, os', M⟩) := h1
  obtain ⟨h4, h5⟩ := h3 hx hj
  simp only [G0, Z1, Z2, Z3, Z4, Z5, h6, t9, t10, hi, hc, hne, cp, ce]
  refine aL ?_
  rw [h1']
  simp only [G0, Z1, Z2, Z3, Z4, Z5]
  refine q _ _ _ _ h4 ?_ h5 ⟨t0, t1, t5, t6, t8, rfl, t10⟩
  rw [sel_take hp, hs]; exact h2
theorem apart_sym {a b : Option Nat} (h : apartJ a b) : apartJ b a := fun q e e' => h q e' e
theorem loop4 {A B : List En} {R : List Pr} (hR : R.length <= 1000000) (hpR : ∀ x ∈ R, x.path.length <= 1000000) (hS : R.Pairwise (fun p q => lessB p.path q.path = true)) {M : PMem} {k : Nat} {Q : AExit -> PSt -> Prop}
  (q : ∀ tm os jx vx jy vy, OutG enCells 4 k os jx vx (R.filterMap selA) -> OutG enCells 4 k os jy vy (R.filterMap selB) -> K4 tm A B R vx vy R.length -> Q (.exit 0) ⟨tm, 140, k, os, M⟩) :
  ∀ d i os jx vx jy vy tm, R.length - i = d -> i <= R.length -> OutG enCells 4 k os jx vx ((R.take i).filterMap selA) -> OutG enCells 4 k os jy vy ((R.take i).filterMap selB) -> apartJ jy jx -> K4 tm A B R vx vy i →
   RXL env Tryz.prog none c4_36 ⟨tm, 140, k, os, M⟩ Q := by
 intro d
 induction d with
 | zero =>
  intro i os jx vx jy vy tm hd hi hx hy hj hK
  have : i = R.length := by omega
  subst this
  have hK0 := hK
  obtain ⟨t0, t1, t5, t6, t8, t9, t10⟩ := hK
  rw [List.take_length] at hx hy
  have h6 : tget tm 6 = .lst .no 7 R.length (R.flatMap prCells) := t6
  refine RXL.round (RX.of env_ok ?_)
  simp only [G0, Z1, Z2, Z3, Z4, Z5, h6, t10, Int.lt_irrefl, decide_false]
  exact q _ _ _ _ _ _ hx hy ⟨t0, t1, t5, t6, t8, t9, t10⟩
 | succ d ih =>
  intro i os jx vx jy vy tm hd hi hx hy hj hK
  obtain ⟨t0, t1, t5, t6, t8, t9, t10⟩ := hK
  have h6 : tget tm 6 = .lst .no 7 R.length (R.flatMap prCells) := t6
  have hi' : i < R.length := by omega
  have hii : (i : Int) < R.length := by omega
  obtain ⟨p, hp, -⟩ := getE hi'
  have hw : IntKind.i64.wrap ((i : Int) + 1) = ((i + 1 : Nat) : Int) := by rw [wrap64_id (by omega) (by omega)]; rfl
  refine RXL.round (RX.cut (a := c4_17) (b := c4_35) (fun s => ∃ tm, s = ⟨tm, 140, k, os, M⟩ /\ K4 tm A B R vx vy i) (RX.of env_ok ?_) ?_)
  ·simp only [G0, Z1, Z2, Z3, Z4, Z5, h6, t10, hii, decide_true]
   exact ⟨_, rfl, t0, t1, t5, t6, t8, t9, t10⟩
  rintro _ ⟨tm, rfl, hK⟩
  refine RX.cut (a := c4_33) (b := c4_34) (fun s => ∃ tm os jx vx jy vy, s = ⟨tm, 140, k, os, M⟩ /\ OutG enCells 4 k os jx vx ((R.take (i + 1)).filterMap selA) /\ OutG enCells 4 k os jy vy ((R.take (i + 1)).filterMap selB) /\ apartJ jx jy /\ K4 tm A B R vx vy i)
   (RX.blk (RX.cut (a := c4_22) (b := c4_31) (fun s => ∃ tm, s = ⟨tm, 140, k, os, M⟩ /\ K4 tm A B R vx vy i) (RX.of env_ok ?_) ?_)) ?_
  ·obtain ⟨t0, t1, t5, t6, t8, t9, t10⟩ := hK
   have h6 : tget tm 6 = .lst .no 7 R.length (R.flatMap prCells) := t6
   rcases Nat.eq_zero_or_pos i with rfl | hpos
   ·have hgt : ¬ (((0 : Nat) : Int) > 0) := by decide
    simp only [G0, Z1, Z2, Z3, Z4, Z5, h6, t10, hgt, decide_false, e_CGD, cnd_t, cnd_f, Bool.not_true, Bool.not_false]
    exact ⟨_, rfl, t0, t1, t5, t6, t8, t9, t10⟩
   ·obtain ⟨j, rfl⟩ : ∃ j, i = j + 1 := ⟨i - 1, by omega⟩
    have hgt : ((j + 1 : Nat) : Int) > 0 := by omega
    have hj1 : j < R.length := by omega
    obtain ⟨z, hz, -⟩ := getE hj1
    have hws : IntKind.i64.wrap (((j + 1 : Nat) : Int) - 1) = ((j : Nat) : Int) := by rw [wrap64_id (by omega) (by omega)]; omega
    have cp := pr_path hp
    have cz := pr_path hz
    have hl : lessB z.path p.path = true := by
     have := List.pairwise_iff_getElem.1 hS j (j + 1) hj1 hi' (by omega)
     rw [List.getElem?_eq_getElem hj1] at hz
     rw [List.getElem?_eq_getElem hi'] at hp
     cases hz; cases hp
     exact this
    simp only [G0, Z1, Z2, Z3, Z4, Z5, h6, t10, hgt, decide_true, hws, hj1, hi', cp, cz, e_CGD, cnd_t, cnd_f, Bool.not_true, Bool.not_false]
    refine cp0 (less15 z.path p.path (hpR z (List.mem_of_getElem? hz)) (hpR p (List.mem_of_getElem? hp))) (by decide) ?_
    rw [hl]
    simp only [G0, Z1, Z2, Z3, Z4, Z5, Bool.not_true, Bool.and_false]
    exact ⟨_, rfl, t0, t1, t5, t6, t8, t9, t10⟩
  ·rintro _ ⟨tm, rfl, hK⟩
   refine RX.seq (roundA hR hp hx hy hj hK fun tm os jx vx hx hy hj hK => ?_)
   refine roundB hR hp hx hy (apart_sym hj) hK fun tm os jy vy hx hy hj hK => ?_
   exact ⟨rfl, _, _, _, _, _, _, rfl, hx, hy, hj, hK⟩
  ·rintro _ ⟨tm, os, jx, vx, jy, vy, rfl, hx, hy, hj, hK⟩
   obtain ⟨t0, t1, t5, t6, t8, t9, t10⟩ := hK
   refine RX.of env_ok ?_
   simp only [G0, Z1, Z2, Z3, Z4, Z5, t10, hw]
   exact ih (i + 1) os jx vx jy vy _ (by omega) (by omega) hx hy (apart_sym hj) ⟨t0, t1, t5, t6, t8, t9, rfl⟩
end Go.Proofs.YtnmidpahhhdlpaaGreatDoor