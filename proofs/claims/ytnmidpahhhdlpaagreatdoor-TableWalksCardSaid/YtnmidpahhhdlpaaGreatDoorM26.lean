/- TableWalks holds. Part 26 of 29; no condition. -/
import Derived.Test.YtnmidpahhhdlpaaGreatDoorM25
set_option linter.unusedVariables false
set_option linter.unusedSimpArgs false
set_option maxHeartbeats 4000000
set_option maxRecDepth 100000
open Nat renaming reduceLT → Z1, reduceEqDiff → Z2, reduceAdd → Z3, reduceLeDiff → Z4, reduceMul → Z5
namespace Go.Pm
open Go.RowKit Go.Am
theorem RX.cut {E : d9} {P : Program} {rd : Option (Nat × Nat)} {a b : RC} {s : c5} {Q : c9 -> c5 -> Prop} (R : c5 -> Prop) (h : RX E P rd a s (fun e s1 => e = .normal /\ R s1)) (k : ∀ s1, R s1 -> RX E P rd b s1 Q) : RX E P rd (.seq a b) s Q :=
 RX.seq (h.mono fun e s1 hr => by
  obtain ⟨he, hr⟩ := hr
  subst he
  exact k s1 hr)
end Go.Pm
namespace Go.Pm
open Go.RowKit Go.Am
theorem aQ9 {tm : List (Nat × PV)} {nt k n i o : Nat} {os : List Obj} {M : b7} {A B : Operand} {v : PV} {ob : Obj} (hA : g7 tm A = .ptr k i o) (hB : g7 tm B = v) (h : q8 n o v os[i]? = some ob) : rI none none (m7 n A B) ⟨tm, nt, k, os, M⟩ = some ⟨tm, nt, k, os.set i ob, M⟩ := by
 unfold rI rg
 dsimp only
 rw [uQ, hA, hB]
 unfold M8
 dsimp only
 rw [if_pos rfl, h]
 rfl
def gH (E : d9) (P : Program) (d : Nat) (w : Bool) (κ : O8) (R : c5 -> Prop) (tm : List (Nat × PV)) (nt k : Nat) (os : List Obj) (M : b7) (r : Option (PV × c5)) (gv : PV) : Prop :=
 match zX w gv with
 | some true => nU E P d κ R r
 | some false => nV E P d κ tm nt k os M R (some (.tup []))
 | none => False
section
variable {E : d9} {P : Program} {R : c5 -> Prop} {tm : List (Nat × PV)} {nt k d g : Nat} {os : List Obj} {M : b7} {w : Bool} {F : c5 -> Option (PV × c5)} {l : List RI} {κ : O8} {r : Option (PV × c5)}
theorem aTL : S2 E P (oH d g w F :: l) ⟨tm, nt, k, os, M⟩ R = gH E P d w (.o l) R tm nt k os M (F ⟨tm, nt, k, os, M⟩) (a7 tm g) := by
 have hg : rg (some (g, w)) ⟨tm, nt, k, os, M⟩ = zX w (a7 tm g) := uS
 show (∃ s1, rI (some d) (some (g, w)) F ⟨tm, nt, k, os, M⟩ = some s1 /\ RK E P (.o l) s1 R) = _
 unfold gH rI
 rw [hg]
 cases zX w (a7 tm g) with
 | none => simp
 | some b =>
  cases b with
  | true =>
   dsimp only
   cases F ⟨tm, nt, k, os, M⟩ with
   | none => simp [nU]
   | some x => exact W6
  | false => exact J5
theorem aJL : gH E P d true κ R tm nt k os M r (.v (.bool true)) = nU E P d κ R r := rfl
theorem aI2 : gH E P d true κ R tm nt k os M r (.v (.bool false)) = nV E P d κ tm nt k os M R (some (.tup [])) := rfl
end
end Go.Pm
namespace Go.Pm
open Go.RowKit Go.Am
section
variable {E : d9} {P : Program} {tm : List (Nat × PV)} {nt k n m i es sz by_ zl d a c o len r : Nat} {os : List Obj} {M : b7} {A B : Operand} {cs ds z cells : List PV} {t : lH} {v x : PV} {κ : O8} {R : c5 -> Prop} {l : List RI} {ps : List (Nat × Operand)}
theorem aPC : aKO sz z A ⟨tm, nt, k, os, M⟩ = aN ⟨tm, nt, k, os, M⟩ sz z (g7 tm A) := rfl
theorem aVQ : aQ2 sz by_ z A B ⟨tm, nt, k, os, M⟩ = mkS ⟨tm, nt, k, os, M⟩ sz by_ z (g7 tm A) (g7 tm B) := rfl
theorem aPN (h : n * by_ <= 281474976710656 /\ n <= 4611686018427387904 /\ z.length = sz) : mkS ⟨tm, nt, k, os, M⟩ sz by_ z (.v (.int .i64 (n : Int))) (.v (.int .i64 (n : Int))) = some (.sl k os.length 0 n (2 * n), ⟨tm, nt, k, os ++ [.row .rw sz (List.replicate n z).flatten], M⟩) := by
 obtain ⟨h1, h2, h3⟩ := h
 unfold mkS
 have hb : ((by_ : Int) * (n : Int)) <= 281474976710656 := by rw [<- Int.natCast_mul]; rw [Nat.mul_comm] at h1; omega
 simp only [if_pos (show (0 : Int) <= (n : Int) /\ (n : Int) <= (n : Int) /\ (n : Int) <= 4611686018427387904 /\ ((by_ : Int) * (n : Int)) <= 281474976710656 /\ z.length = sz from ⟨by omega, by omega, by omega, hb, h3⟩), Int.toNat_natCast]
theorem aMI : aEB n A ⟨tm, nt, k, os, M⟩ = pF n (g7 tm A) := rfl
theorem aAA : pF n (.ptr a i o) = some (.sl a i o n (2 * n)) := rfl
theorem aGL (hn : n ≠ 0) (ha : a ≠ k) (hg : M a i = some (.row .rw es cells)) (hl : o + n * sz <= cells.length /\ z.length = sz /\ z.all p7 = true) :
  aN ⟨tm, nt, k, os, M⟩ sz z (.sl a i o n c) = some (.junk, ⟨tm, nt, k, os, i6 M a i (.row .rw es (e8 cells o (List.replicate n z).flatten))⟩) := by
 unfold aN
 simp only [if_neg hn, c5.look, if_neg ha, hg, if_pos hl, c5.putO]
theorem aFA (hn : n ≠ 0) (ha : a ≠ k) (hg : M a i = some (.row .own es cells)) (hl : o + n * sz <= cells.length /\ z.length = sz /\ z.all p7 = true) :
  aN ⟨tm, nt, k, os, M⟩ sz z (.sl a i o n c) = some (.junk, ⟨tm, nt, k, os, i6 M a i (.row .rw es (e8 cells o (List.replicate n z).flatten))⟩) := by
 unfold aN
 simp only [if_neg hn, c5.look, if_neg ha, hg, if_pos hl, c5.putO]
theorem bCW {ld : List RD} {e : Nat} (h : g7 tm A = .lst .full e 0 []) : Q3 E P (dQ d sz by_ zl A B :: ld) ⟨tm, nt, k, os, M⟩ R = nU E P d (.d ld) R (W7 ⟨tm, nt, k, os, M⟩ sz by_ zl (.lst .full e 0 []) (g7 tm B)) := by
 have h1 : Q3 E P (dU d (J4 sz by_ zl A B) :: ld) ⟨tm, nt, k, os, M⟩ R = nU E P d (.d ld) R (J4 sz by_ zl A B ⟨tm, nt, k, os, M⟩) := aG6
 rw [bW, h] at h1
 rw [<- h1]
 apply propext
 constructor
 ·rintro ⟨_, h2⟩; exact ⟨rfl, h2⟩
 ·rintro ⟨_, h2⟩; exact ⟨⟨e, h⟩, h2⟩
end
section
variable {E : d9} {P : Program} {cx : Cx} {s s' : c5} {sA : St} {m : b8} {M : b7}
theorem aBB (h : PS E cx s sA) {k i r es : Nat} {cs : List PV} {w : Wm} (hM : s.look k i = some (.row w es cs)) (ha : cx.at_ k i = some r) (hbar : sA.m.bar <= r) :
  PS E cx (s.putO k i .gone) { sA with m := sA.m.upd r none } := by
 have hak : k < cx.nk := by
  rcases Nat.lt_or_ge k cx.nk with h1 | h1
  ·exact h1
  ·rw [(h.pg.keys k i h1).1] at ha; cases ha
 have hpg := h.pg.updObj ha hbar hM ⟨nofun, nofun⟩ (o := .gone) nofun (ao := none) hak
 obtain ⟨e1, e2, e3, e5⟩ := c5.putO_tm (s := s) (k := k) (i := i) (o := .gone)
 exact ⟨fun j => by rw [e1]; exact h.tm j, by rw [e2]; exact h.nt, by rw [c5.putO_mem hM]; exact hpg, fun j hj => by rw [e3]; exact h.cur j (by rw [e5] at hj; exact hj), by rw [e3]; exact h.low, by rw [e3]; exact h.pos, ⟨h.df.1, fun r hr => ⟨(h.df.2 r hr).1, by rw [b8.upd_def]; exact (h.df.2 r hr).2⟩⟩⟩
theorem PG.start (h : PG E cx M m) : PS E cx.key ⟨[], 0, cx.nk, [], M⟩ ⟨.nil, 0, [], m⟩ := by
 have hfr := h.bare (Nat.le_refl cx.nk)
 refine ⟨fun i => .junk _, rfl, ?_, fun i _ => h.keys cx.nk i (Nat.le_refl _), Nat.lt_succ_self _, h.pos, List.nodup_nil, fun r hr => by simp at hr⟩
 show PG E cx.key (seg M cx.nk []) m
 rw [mN _ _ hfr]
 exact h.key
end
end Go.Pm
namespace Go.Pm
open Go.RowKit Go.Am
section
variable {E : d9} {P : Program} {M : b7}
theorem iF {cx : Cx} {m : b8} (hg : PG E cx M m) {t : lH} {l : List PV} {bs : List UInt8} {v : Value} (hb : R3 l = some bs) (h : PR cx (.lst t 1 l.length l) v) : U3 m v = some bs := by
 obtain ⟨a, c, rfl, _, _, hn, hv, _⟩ := h.lst_view
 by_cases h0 : l.length = 0
 ·have : l = [] := List.length_eq_zero_iff.1 h0
  subst this
  cases hb
  cases a with
  | none => rfl
  | some a => simp [U3]
 ·rcases hv with hv | ⟨r, off, cells, rfl, hr, hle, hs⟩
  ·exact absurd hv h0
  ·obtain ⟨_, md, es, q, hget⟩ := hg.im _ _ hr
   unfold U3
   simp only [T2 h0, cond_false, P3 hget hle]
   exact fJ hs hb
theorem PT.compare (hX : rG E P) {f : Nat} (hf : E.ext f = some T8) {t1 t2 : lH} {a b : List PV} {x y : List UInt8} (ha : R3 a = some x) (hb : R3 b = some y) :
  PT E P f [.lst t1 1 a.length a, .lst t2 1 b.length b] M (fun z M1 => z = .v (.int .i64 (S7 x y)) /\ M1 = M) := fun cx m vargs hg h => by
 cases h with
 | cons h1 h =>
 cases h with
 | cons h2 h =>
 cases h
 refine ⟨_, m, cx, _, M, CanT.ext hX hf (v := .int .i64 (S7 x y)) ?_, hg, M3.refl _ _, .v rfl, rfl, rfl⟩
 simp only [T8, iF hg ha h1, iF hg hb h2]
theorem rK : ∀ l : List UInt8, S7 l l = 0
 | [] => rfl
 | x :: l => by
  have : Nat.blt x.toNat x.toNat = false := uZ (Nat.lt_irrefl _)
  rw [S7, this, cond_false, cond_false]
  exact rK l
end
end Go.Pm
namespace Go.Proofs.YtnmidpahhhdlpaaGreatDoor
open Go Go.Am Go.Pm
theorem jV {M : b7} {k j i : Nat} {o : Pm.Obj} (h : fresh M k) (hj : j ≠ k) : fresh (i6 M j i o) k := fun c => by
 unfold i6
 rw [if_neg (fun x => hj x.1.symm)]; exact h c
theorem iN {M : b7} {j i a c : Nat} {o : Pm.Obj} (h : ¬ (a = j /\ c = i)) : i6 M j i o a c = M a c := by
 unfold i6; rw [if_neg h]
theorem iL {M0 M : b7} {k : Nat} (h : Pm.Sub M0 M) (hf : fresh M k) : fresh M0 k := fun i => by
 cases e : M0 k i with
 | none => rfl
 | some o => have := h _ _ _ e; rw [hf i] at this; cases this
theorem rP {M : b7} {j k : Nat} {os : List Pm.Obj} (h : fresh M j) (hj : j ≠ k) : fresh (seg M k os) j := fun i => by rw [l3 _ _ _ hj]; exact h i
end Go.Proofs.YtnmidpahhhdlpaaGreatDoor
namespace Go.Pm
open Go.RowKit Go.Am
theorem PT.countString {E : d9} {P : Program} {M : b7} (hX : rG E P) {f : Nat} {st : ByteArray} {c : Int} {R : PV -> b7 -> Prop} (hf : E.ext f = some I0) (hc : c.toNat < 256)
  (q : R (.v (.int .i64 (A7 c.toNat st.data.toList 0 : Nat))) M) : PT E P f [.v (.string st), .v (.int .u8 c)] M R := fun cx m vargs hg ha => by
 cases ha with
 | cons h1 hs =>
  cases hs with
  | cons h2 hs =>
   cases hs
   obtain ⟨rfl, _⟩ := h1.flat_eq
   obtain ⟨rfl, _⟩ := h2.flat_eq
   refine ⟨_, m, cx, _, M, CanT.ext hX hf (v := .int .i64 (A7 c.toNat st.data.toList 0 : Nat)) ?_, hg, M3.refl _ _, .v rfl, q⟩
   simp only [I0, cT hc]
theorem aO (c : Nat) : ∀ (l : List UInt8) (n : Nat), A7 c l n = n + A7 c l 0
 | [], n => rfl
 | b :: r, n => by
  unfold A7
  cases Nat.beq b.toNat c with
  | true =>
   show A7 c r (n + 1) = n + A7 c r (0 + 1)
   rw [aO c r (n + 1), aO c r (0 + 1)]; omega
  | false =>
   show A7 c r n = n + A7 c r 0
   exact aO c r n
end Go.Pm
namespace Go.Proofs.YtnmidpahhhdlpaaGreatDoor
open Go Go.Am Go.Pm
theorem K6 : ∀ s : List UInt8, (b6 s).length = A7 47 s 0 + 1
 | [] => rfl
 | c :: r => by
  have ih := K6 r
  unfold b6
  by_cases h : c = 47
  ·rw [if_pos h, List.length_cons, ih]
   subst h
   show _ = A7 47 r (0 + 1) + 1
   rw [aO 47 r (0 + 1)]; omega
  ·rw [if_neg h]
   have hb : Nat.beq c.toNat 47 = false := by
    cases hb : Nat.beq c.toNat 47 with
    | false => rfl
    | true =>
     have : c.toNat = 47 := Nat.eq_of_beq_eq_true hb
     exact absurd (UInt8.toNat_inj.1 (by rw [this]; rfl)) h
   have e : A7 47 (c :: r) 0 = A7 47 r 0 := by
    show (match Nat.beq c.toNat 47 with | true => A7 47 r (Nat.succ 0) | false => A7 47 r 0) = _
    rw [hb]
   rw [e, <- ih]
   cases hp : b6 r with
   | nil => rw [hp] at ih; simp at ih
   | cons p ps => rfl
theorem v8 : ∀ s : List UInt8, (b6 s).length <= s.length + 1
 | [] => Nat.le_refl _
 | c :: r => by
  have ih := v8 r
  unfold b6
  by_cases h : c = 47
  ·rw [if_pos h, List.length_cons, List.length_cons]; omega
  ·rw [if_neg h]
   cases hp : b6 r with
   | nil => simp
   | cons p ps => rw [hp] at ih; simp only [List.length_cons] at ih ⊢; omega
theorem aJO (s : List UInt8) : r8 env Tryz.prog 139 [str s, A5 47] (iv (A7 47 s 0 : Nat)) := fun M => by
 exact PT.countString mM (by rfl) (by decide) ⟨rfl, rfl⟩
theorem aLX (s : List UInt8) : r8 env Tryz.prog 121 [str s, str [47]] (iv (A7 47 s 0 : Nat)) := fun M => by
 refine PT.enterR a6 bAP (by simp) aO6 fun k hk hf => RX.of a6 ?_
 have h0 : Y5 (str [47]) (.v (.int .i64 0)) = some (A5 47) := V4 (i := 0) rfl
 have hc : (((1 : Nat) : Int) == 0) = false := rfl
 have hd : (((1 : Nat) : Int) == 1) = true := rfl
 simp only [G0, Z1, Z2, Z3, Z4, Z5, d5, vL, hc, hd, h0]
 refine y7 (aJO s) (by decide) ?_
 simp only [G0, Z1, Z2, Z3, Z4, Z5]
 exact i9 hf rfl ⟨rfl, rfl⟩
theorem aUH {a b : Int} : pmm jG [iv a, iv b] = some (iv (min a b)) := by
 have h : pmm jG [iv a, iv b] = some (iv (if b < a then b else a)) := by
  unfold pmm
  simp [jG, aU]
 have h2 : (if b < a then b else a) = min a b := by
  by_cases hb : b < a
  ·rw [if_pos hb]; omega
  ·rw [if_neg hb]; omega
 rw [h, h2]
theorem zW {k i o n c sz m : Nat} {kk : IntKind} (h : m < n) : G8 sz (.sl k i o n c) (.v (.int kk (m : Int))) = some (.ptr k i (o + m * sz)) := by
 unfold G8
 rw [w7]
 simp only [if_pos h]
structure K88 (tm : List (Nat × PV)) (k n : Nat) (rest : List UInt8) (i : Nat) : Prop where
 t0 : a7 tm 0 = str rest
 t1 : a7 tm 1 = str [47]
 t2 : a7 tm 2 = iv 0
 t3 : a7 tm 3 = iv ((n : Int) - 1)
 t9 : a7 tm 9 = .sl k 0 0 n (2 * n)
 t10 : a7 tm 10 = iv i
def lP (n : Nat) (done : List (List UInt8)) : List PV := done.map str ++ List.replicate (n - done.length) (str [])
theorem xB {n : Nat} {done : List (List UInt8)} (h : done.length < n) (p : List UInt8) : q8 1 (done.length * 1) (str p) (some (.row .rw 1 (lP n done))) = some (.row .rw 1 (lP n (done ++ [p]))) := by
 have hl : (lP n done).length = n := by unfold lP; simp; omega
 rw [n7 (n := 1) ⟨rfl, by rw [hl]; show done.length * 1 + 1 <= n; omega, rfl⟩]
 congr 2
 have e1 : n - done.length = (n - (done ++ [p]).length) + 1 := by simp; omega
 unfold lP
 rw [e1, List.replicate_succ, Nat.mul_one]
 show (done.map str ++ str [] :: List.replicate _ _).take done.length ++ ([str p] ++ (done.map str ++ str [] :: List.replicate _ _).drop (done.length + 1)) = _
 rw [List.take_append_of_le_length (by simp), List.take_of_length_le (by simp), List.drop_append, List.drop_of_length_le (by simp)]
 simp
theorem aUP (s : List UInt8) (n : Nat) (hn : n = (b6 s).length) (hl : n <= 2000000) (M : b7) (k : Nat) (Q : c9 -> c5 -> Prop)
  (q : ∀ tm done last, K88 tm k n last done.length -> done.length + 1 = n -> b6 s = done ++ [last] -> Q (.exit 0) ⟨tm, 66, k, [.row .rw 1 (lP n done)], M⟩) :
  ∀ d done rest tm, n - done.length = d -> done.length < n -> b6 s = done ++ b6 rest -> rest.length <= 1000000 -> K88 tm k n rest done.length -> u0 env Tryz.prog none aLR ⟨tm, 66, k, [.row .rw 1 (lP n done)], M⟩ Q := by
 intro d
 induction d with
 | zero => intro done rest tm hd hlt; omega
 | succ d ih =>
  intro done rest tm hd hlt hp hrl hK
  obtain ⟨t0, t1, t2, t3, t9, t10⟩ := hK
  have hlen : n = done.length + (b6 rest).length := by rw [hn, hp, List.length_append]
  refine u0.round (RX.of a6 ?_)
  cases hj : F1 47 0 rest with
  | none =>
   have hpr := fU hj
   have h1 : (b6 rest).length = 1 := by rw [hpr]; rfl
   have hii : ¬ ((done.length : Int) < (n : Int) - 1) := by omega
   simp only [G0, Z1, Z2, Z3, Z4, Z5, t3, t10, hii, decide_false]
   exact q _ done rest ⟨t0, t1, t2, t3, t9, t10⟩ (by omega) (by rw [hp, hpr])
  | some j =>
   have hpr := fP hj
   have h1 : 1 <= (b6 (rest.drop (j + 1))).length := by rw [K6]; omega
   have h2 : (b6 rest).length = (b6 (rest.drop (j + 1))).length + 1 := by rw [hpr]; rfl
   have hii : (done.length : Int) < (n : Int) - 1 := by omega
   simp only [G0, Z1, Z2, Z3, Z4, Z5, t0, t1, t2, t3, t9, t10, hii, decide_true]
   refine y7 (aLA rest 47) (by decide) ?_
   rw [hj]
   obtain ⟨_, hjl, _, _⟩ := pN hj
   have hltj : decide ((j : Int) < 0) = false := by simp
   have hw0 : IntKind.i64.wrap ((j : Int) + 0) = (j : Int) := by rw [d3 (by omega) (by omega)]; omega
   have hw1 : IntKind.i64.wrap ((j : Int) + ((1 : Nat) : Int)) = ((j + 1 : Nat) : Int) := by rw [d3 (by omega) (by omega)]; rfl
   have hw2 : IntKind.i64.wrap ((done.length : Int) + 1) = ((done.length + 1 : Nat) : Int) := by rw [d3 (by omega) (by omega)]; rfl
   have hto : D4 (str rest) none (some (iv j)) = some (str (rest.take j)) := vQ (by omega)
   have hfr : D4 (str rest) (some (iv ((j + 1 : Nat) : Int))) none = some (str (rest.drop (j + 1))) := cC (by omega)
   have hia := fun (kk : IntKind) => zW (k := k) (i := 0) (o := 0) (n := n) (c := 2 * n) (sz := 1) (m := done.length) (kk := kk) hlt
   have hst := xB hlt (rest.take j)
   simp only [G0, Z1, Z2, Z3, Z4, Z5, vF, hltj, hw0, hto, t0, t1, t2, t9, t10, hia, Nat.zero_add, hst, vL, hw1, hfr, hw2]
   refine ih (done ++ [rest.take j]) (rest.drop (j + 1)) _ (by simp; omega) (by simp; omega) (by rw [hp, hpr]; simp) (by rw [List.length_drop]; omega) ?_
   exact ⟨rfl, t1, t2, t3, t9, by simp; rfl⟩
def l5 (l : List (List UInt8)) : PV := .lst .no 1 l.length (l.map str)
theorem aGQ {n : Nat} {done : List (List UInt8)} (h : done.length = n) : lP n done = done.map str := by
 unfold lP; rw [h, Nat.sub_self]; simp
theorem wW (k : Nat) : ∀ l : List (List UInt8), oJ k (l.map str)
 | [] => .nil
 | x :: l => .cons (.v _) (wW k l)
theorem aNK (s : List UInt8) (hs : s.length <= 1000000) : r8 env Tryz.prog 88 [str s, str [47], iv 0, iv (-1)] (l5 (b6 s)) := fun M => by
 refine PT.freeze (iY.enterR a6 bEG (by simp) aU5 fun k hk hf => RX.of a6 ?_)
 have hcp := K6 s
 have hpl := v8 s
 generalize hn : (b6 s).length = n at hcp hpl
 have h0 : ((-1 : Int) == 0) = false := rfl
 have h1 : ((-1 : Int) < 0) = True := by simp
 have hse : (([47] : List UInt8) == []) = false := rfl
 simp only [G0, Z1, Z2, Z3, Z4, Z5, d5, h0, h1, decide_true, H7, hse]
 refine y7 (aLX s) (by decide) ?_
 have hn1 : 1 <= n := by omega
 have hw1 : IntKind.i64.wrap ((A7 47 s 0 : Nat) + 1 : Int) = (n : Int) := by rw [d3 (by omega) (by omega)]; omega
 have hw2 : IntKind.i64.wrap ((s.length : Int) + 1) = ((s.length + 1 : Nat) : Int) := by rw [d3 (by omega) (by omega)]; rfl
 have hmn : min (n : Int) ((s.length + 1 : Nat) : Int) = (n : Int) := by omega
 have hw3 : IntKind.i64.wrap ((n : Int) - 1) = (n : Int) - 1 := d3 (by omega) (by omega)
 have hmk : ∀ {tm : List (Nat × PV)}, mkS ⟨tm, 66, k, [], M⟩ 1 16 [.v (.string ⟨#[]⟩)] (iv n) (iv n) = some (.sl k 0 0 n (2 * n), ⟨tm, 66, k, [.row .rw 1 (lP n [])], M⟩) := fun {tm} => by
  have := aPN (tm := tm) (nt := 66) (k := k) (os := []) (M := M) (n := n) (by_ := 16) (sz := 1) (z := [.v (.string ⟨#[]⟩)]) ⟨by omega, by omega, rfl⟩
  rw [this]
  congr 2
  simp [lP, str]
 simp only [G0, Z1, Z2, Z3, Z4, Z5, hw1, hw2, aUH, hmn, aVQ, hmk, hw3]
 refine RX.loop (aUP s n hn.symm (by omega) M k _ (fun tm done last hK hl hp => ?_) n [] s _ rfl (by simp; omega) rfl hs (by exact ⟨rfl, rfl, rfl, rfl, rfl, rfl⟩))
 obtain ⟨t0, t1, t2, t3, t9, t10⟩ := hK
 have hia := fun (kk : IntKind) => zW (k := k) (i := 0) (o := 0) (n := n) (c := 2 * n) (sz := 1) (m := done.length) (kk := kk) (by omega)
 have hst := xB (n := n) (done := done) (by omega) last
 have hw4 : IntKind.i64.wrap ((done.length : Int) + 1) = (n : Int) := by rw [d3 (by omega) (by omega)]; omega
 have hsl : G1 1 (.sl k 0 0 n (2 * n)) none (some (iv n)) none = some (.sl k 0 0 n (2 * n)) := by
  have hc : g9 (2 * n) = n := by simp [g9]
  unfold G1
  simp only [w7, hc]
  simp
 simp only [G0, Z1, Z2, Z3, Z4, Z5, t0, t9, t10, hia, Nat.zero_add, hst, hw4, hsl]
 have hcs : lP n (done ++ [last]) = (b6 s).map str := by rw [aGQ (by simp; omega), hp]
 refine ⟨.inr rfl, [_], _, rfl, N3.refl _, k, 0, 1, .rw, (b6 s).map str, .lst .no 1 n (((b6 s).map str).take (n * 1)), Nat.le_refl _, ?_, wW _ _, ?_, ?_, trivial⟩
 ·intro a j o e
  by_cases hk' : a = k /\ j = 0
  ·obtain ⟨rfl, rfl⟩ := hk'
   rw [D6] at e
   cases e
   exact ⟨_, by rw [show c5.mem _ = seg M a _ from rfl, i4]; rfl, by rw [hcs]; exact .refl _⟩
  ·rw [iN hk'] at e
   have hak : a ≠ k := fun e' => by subst e'; rw [hf j] at e; cases e
   exact ⟨o, by rw [show c5.mem _ = seg M k _ from rfl, l3 _ _ _ hak]; exact e, .refl _⟩
 ·refine .here ?_ ?_ ?_
  ·rw [List.length_map, hn]; omega
  ·simp [g9]
  ·left; omega
 ·unfold l5
  rw [hn, Nat.mul_one, List.take_of_length_le (by rw [List.length_map, hn]; exact Nat.le_refl _)]
theorem aDT (s : List UInt8) (hs : s.length <= 1000000) : r8 env Tryz.prog 63 [str s, str [47]] (l5 (b6 s)) := fun M => by
 refine PT.enterR a6 bCO (by simp) aVV fun k hk hf => RX.of a6 ?_
 simp only [G0, Z1, Z2, Z3, Z4, Z5, d5]
 refine y7 (aNK s hs) (by decide) ?_
 simp only [G0, Z1, Z2, Z3, Z4, Z5]
 exact i9 hf rfl ⟨rfl, rfl⟩
end Go.Proofs.YtnmidpahhhdlpaaGreatDoor
noncomputable section
namespace Go.Proofs.YtnmidpahhhdlpaaGreatDoor
open Go Go.Am Go.Pm
theorem aD : ∀ {a b : List UInt8}, z7 a b = true ↔ a = b
 | [], [] => by simp [z7]
 | [], _ :: _ => by simp [z7]
 | _ :: _, [] => by simp [z7]
 | a :: x, b :: y => by
  have ih := @aD x y
  simp only [z7, Bool.and_eq_true, ih, List.cons.injEq, Nat.beq_eq, UInt8.toNat_inj]
theorem lt_irrefl : ∀ a : List UInt8, i8 a a = false
 | [] => rfl
 | a :: x => by
  have : Nat.blt a.toNat a.toNat = false := uZ (Nat.lt_irrefl _)
  simp only [i8, this, lt_irrefl x, Bool.and_false, Bool.or_false]
theorem iD {a b : Nat} : Nat.blt a b = true ↔ a < b := by simp [Nat.blt_eq]
theorem dH : ∀ {a b c : List UInt8}, i8 a b = true -> i8 b c = true -> i8 a c = true
 | _, [], _, h, _ => by cases ‹List UInt8› <;> simp [i8] at h
 | _, _ :: _, [], _, h => by simp [i8] at h
 | [], _ :: _, _ :: _, _, _ => rfl
 | a :: x, b :: y, c :: z, h1, h2 => by
  simp only [i8, Bool.or_eq_true, Bool.and_eq_true, iD, Nat.beq_eq] at h1 h2 ⊢
  rcases h1 with h1 | ⟨h1, h3⟩
  ·rcases h2 with h2 | ⟨h2, h4⟩
   ·exact .inl (by omega)
   ·exact .inl (by omega)
  ·rcases h2 with h2 | ⟨h2, h4⟩
   ·exact .inl (by omega)
   ·exact .inr ⟨by omega, dH h3 h4⟩
theorem pH : ∀ {a b : List UInt8}, i8 a b = false -> i8 b a = false -> a = b
 | [], [], _, _ => rfl
 | [], _ :: _, h, _ => by simp [i8] at h
 | _ :: _, [], _, h => by simp [i8] at h
 | a :: x, b :: y, h1, h2 => by
  simp only [i8, Bool.or_eq_false_iff, Bool.and_eq_false_iff] at h1 h2
  have h3 : ¬ a.toNat < b.toNat := fun h => by have := iD.2 h; rw [this] at h1; cases h1.1
  have h4 : ¬ b.toNat < a.toNat := fun h => by have := iD.2 h; rw [this] at h2; cases h2.1
  have h5 : a.toNat = b.toNat := by omega
  have h6 : Nat.beq a.toNat b.toNat = true := by simp [h5]
  have h7 : Nat.beq b.toNat a.toNat = true := by simp [h5]
  have e : a = b := UInt8.toNat_inj.1 h5
  subst e
  have g1 : i8 x y = false := by
   rcases h1.2 with h | h
   ·rw [h6] at h; cases h
   ·exact h
  have g2 : i8 y x = false := by
   rcases h2.2 with h | h
   ·rw [h7] at h; cases h
   ·exact h
  rw [pH g1 g2]
theorem aB5 {E : d9} {t : Nat} {c d : Bool} {a b : List UInt8} : w9 E .lss t c d (str a) (str b) = some (bv (i8 a b)) := by
 simp [w9, w5, B8, X0]
theorem vI {E : d9} {t : Nat} {c d : Bool} {a b : List UInt8} : w9 E .gtr t c d (str a) (str b) = some (bv (i8 b a)) := by
 have h : (!(i8 a b || z7 a b)) = i8 b a := by
  cases h1 : i8 a b with
  | true =>
   cases h2 : i8 b a with
   | true => have := dH h1 h2; rw [lt_irrefl] at this; cases this
   | false => rfl
  | false =>
   cases h2 : i8 b a with
   | true =>
    cases h3 : z7 a b with
    | true => have := aD.1 h3; subst this; rw [lt_irrefl] at h2; cases h2
    | false => rfl
   | false =>
    have := pH h1 h2
    subst this
    rw [aD.2 rfl]; rfl
 simp [w9, w5, B8, X0, h]
def Q7 (a b : List UInt8) : Int := if i8 a b then -1 else if i8 b a then 1 else 0
theorem aQL (a : List UInt8) : r8 env Tryz.prog 89 [str a] (bv false) := fun M => by
 refine PT.enterR a6 bCR (by simp) aV2 fun k hk hf => RX.of a6 ?_
 simp only [G0, Z1, Z2, Z3, Z4, Z5, d5, R8, beq_self_eq_true, Bool.not_true]
 exact i9 hf rfl ⟨rfl, rfl⟩
theorem aXP (a b : List UInt8) : r8 env Tryz.prog 65 [str a, str b] (iv (Q7 a b)) := fun M => by
 refine PT.enterR a6 bD5 (by simp) aVS fun k hk hf => RX.of a6 ?_
 simp only [G0, Z1, Z2, Z3, Z4, Z5, d5]
 refine y7 (aQL a) (by decide) ?_
 simp only [G0, Z1, Z2, Z3, Z4, Z5]
 refine y7 (aQL b) (by decide) ?_
 simp only [G0, Z1, Z2, Z3, Z4, Z5, aB5, vI]
 unfold Q7
 cases h1 : i8 a b with
 | true =>
  simp only [G0, Z1, Z2, Z3, Z4, Z5]
  exact i9 hf rfl ⟨rfl, rfl⟩
 | false =>
  cases h2 : i8 b a with
  | true =>
   simp only [G0, Z1, Z2, Z3, Z4, Z5, vI, h2]
   exact i9 hf rfl ⟨rfl, rfl⟩
  | false =>
   simp only [G0, Z1, Z2, Z3, Z4, Z5, vI, h2]
   exact i9 hf rfl ⟨rfl, rfl⟩
theorem bAY (a b : List UInt8) : r8 env Tryz.prog 64 [str a, str b] (iv (Q7 a b)) := fun M => by
 refine PT.enterR a6 bCV (by simp) aTC fun k hk hf => RX.of a6 ?_
 simp only [G0, Z1, Z2, Z3, Z4, Z5, d5]
 refine y7 (aXP a b) (by decide) ?_
 simp only [G0, Z1, Z2, Z3, Z4, Z5]
 exact i9 hf rfl ⟨rfl, rfl⟩
def P2 : List (List UInt8) -> List (List UInt8) -> Int
 | [], [] => 0
 | [], _ :: _ => -1
 | _ :: _, [] => 1
 | x :: r, y :: q => if Q7 x y = 0 then P2 r q else Q7 x y
theorem D5 {l : List (List UInt8)} {i : Nat} {x : List UInt8} (h : l[i]? = some x) : o9 false 1 (l.map str) (i * 1) = some (str x) := by
 unfold o9
 simp [h]
theorem aXD (a b : List (List UInt8)) (ha : a.length <= 1000001) (hb : b.length <= 1000001) (M : b7) (k : Nat) (Q : c9 -> c5 -> Prop)
  (q1 : ∀ tm, a7 tm 0 = l5 a -> a7 tm 1 = l5 b -> a.length <= b.length -> P2 a b = (if a.length < b.length then -1 else 0) -> Q (.exit 0) ⟨tm, 39, k, [], M⟩) (q2 : ∀ tm, a7 tm 6 = iv (P2 a b) -> Q .ret ⟨tm, 39, k, [], M⟩) :
  ∀ d i tm, a.length - i = d -> i <= a.length -> i <= b.length -> P2 a b = P2 (a.drop i) (b.drop i) -> a7 tm 0 = l5 a -> a7 tm 1 = l5 b -> a7 tm 2 = .fn 64 [] [] -> a7 tm 11 = l5 a -> a7 tm 12 = iv a.length -> a7 tm 13 = iv i →
  u0 env Tryz.prog none aIF ⟨tm, 39, k, [], M⟩ Q := by
 intro d
 induction d with
 | zero =>
  intro i tm hd hi hib ho t0 t1 t2 t11 t12 t13
  have : i = a.length := by omega
  subst this
  refine u0.round (RX.of a6 ?_)
  simp only [G0, Z1, Z2, Z3, Z4, Z5, t12, t13, Int.lt_irrefl, decide_false]
  refine q1 _ t0 t1 hib ?_
  rw [ho, List.drop_of_length_le (Nat.le_refl _)]
  by_cases h : a.length < b.length
  ·rw [if_pos h]
   cases hb : b.drop a.length with
   | nil => have := List.drop_eq_nil_iff.1 hb; omega
   | cons y r => rfl
  ·rw [if_neg h, List.drop_of_length_le (by omega)]; rfl
 | succ d ih =>
  intro i tm hd hi hib ho t0 t1 t2 t11 t12 t13
  have hi' : i < a.length := by omega
  have hii : (i : Int) < a.length := by omega
  obtain ⟨x, hx, hdx⟩ := E6 hi'
  have hlx := D5 hx
  have h11 : a7 tm 11 = .lst .no 1 a.length (a.map str) := t11
  have h1 : a7 tm 1 = .lst .no 1 b.length (b.map str) := t1
  have hw : IntKind.i64.wrap ((i : Int) + 1) = ((i + 1 : Nat) : Int) := by rw [d3 (by omega) (by omega)]; rfl
  refine u0.round (RX.of a6 ?_)
  by_cases hj : i < b.length
  ·have hge : ¬ ((i : Int) >= b.length) := by omega
   obtain ⟨y, hy, hdy⟩ := E6 hj
   have hly := D5 hy
   rw [hdx, hdy] at ho
   simp only [G0, Z1, Z2, Z3, Z4, Z5, t12, t13, hii, decide_true, h11, hi', hlx, h1, hge, decide_false, hj, hly, t2]
   refine y7 (bAY x y) (by decide) ?_
   by_cases hz : Q7 x y = 0
   ·have hne : (Q7 x y != 0) = false := by rw [hz]; rfl
    rw [P2, if_pos hz] at ho
    simp only [G0, Z1, Z2, Z3, Z4, Z5, hne, t13, hw]
    exact ih (i + 1) _ (by omega) (by omega) (by omega) ho t0 t1 t2 t11 t12 rfl
   ·have hne : (Q7 x y != 0) = true := by simpa using hz
    rw [P2, if_neg hz] at ho
    simp only [G0, Z1, Z2, Z3, Z4, Z5, hne]
    exact q2 _ (by rw [ho]; rfl)
  ·have hge : (i : Int) >= b.length := by omega
   simp only [G0, Z1, Z2, Z3, Z4, Z5, t12, t13, hii, decide_true, h11, hi', hlx, h1, hge]
   refine q2 _ ?_
   have hd0 : b.drop i = [] := List.drop_of_length_le (by omega)
   rw [ho, hdx, hd0]; rfl
theorem bAR (a b : List (List UInt8)) (ha : a.length <= 1000001) (hb : b.length <= 1000001) : r8 env Tryz.prog 62 [l5 a, l5 b, .fn 64 [] []] (iv (P2 a b)) := fun M => by
 refine PT.enterR a6 bCL (by simp) aUV fun k hk hf => RX.of a6 ?_
 have hlen : T7 (l5 a) = some (iv (a.length : Nat)) := rfl
 simp only [G0, Z1, Z2, Z3, Z4, Z5, d5, hlen]
 refine RX.loop (aXD a b ha hb M k _ (fun tm t0 t1 hle ho => ?_) (fun tm t6 => ?_) a.length 0 _ rfl (Nat.zero_le _) (Nat.zero_le _) rfl (by rfl) (by rfl) (by rfl) (by rfl) (by rfl) (by rfl))
 ·have hl0 : T7 (l5 b) = some (iv (b.length : Nat)) := rfl
  by_cases h : a.length < b.length
  ·have hlt : (a.length : Int) < b.length := by omega
   rw [if_pos h] at ho
   simp only [G0, Z1, Z2, Z3, Z4, Z5, t0, t1, hlen, hl0, hlt, decide_true]
   exact i9 hf rfl ⟨by rw [ho]; rfl, rfl⟩
  ·have hlt : ¬ ((a.length : Int) < b.length) := by omega
   rw [if_neg h] at ho
   simp only [G0, Z1, Z2, Z3, Z4, Z5, t0, t1, hlen, hl0, hlt, decide_false]
   exact i9 hf rfl ⟨by rw [ho]; rfl, rfl⟩
 ·simp only [G0, Z1, Z2, Z3, Z4, Z5]
  exact i9 hf t6 ⟨rfl, rfl⟩
def aGN (a b : List UInt8) : Int := P2 (b6 a) (b6 b)
theorem aPV (a b : List UInt8) (ha : a.length <= 1000000) (hb : b.length <= 1000000) : r8 env Tryz.prog 39 [str a, str b] (iv (aGN a b)) := fun M => by
 refine PT.enterR a6 bDU (by simp) aUE fun k hk hf => RX.of a6 ?_
 have l1 := v8 a
 have l2 := v8 b
 simp only [G0, Z1, Z2, Z3, Z4, Z5, d5]
 refine y7 (aDT a ha) (by decide) ?_
 simp only [G0, Z1, Z2, Z3, Z4, Z5]
 refine y7 (aDT b hb) (by decide) ?_
 simp only [G0, Z1, Z2, Z3, Z4, Z5]
 refine y7 (bAR (b6 a) (b6 b) (by omega) (by omega)) (by decide) ?_
 simp only [G0, Z1, Z2, Z3, Z4, Z5]
 exact i9 hf rfl ⟨rfl, rfl⟩
def v4 (a b : List UInt8) : Bool := decide (aGN a b < 0)
theorem aBI (a b : List UInt8) (ha : a.length <= 1000000) (hb : b.length <= 1000000) : r8 env Tryz.prog 15 [str a, str b] (bv (v4 a b)) := fun M => by
 refine PT.enterR a6 bDT (by simp) aWD fun k hk hf => RX.of a6 ?_
 simp only [G0, Z1, Z2, Z3, Z4, Z5, d5]
 refine y7 (aPV a b ha hb) (by decide) ?_
 simp only [G0, Z1, Z2, Z3, Z4, Z5]
 exact i9 hf rfl ⟨rfl, rfl⟩
end Go.Proofs.YtnmidpahhhdlpaaGreatDoor
end
namespace Go.Proofs.YtnmidpahhhdlpaaGreatDoor
open Go Go.Am Go.Pm
def aJU (k i : Nat) (o : Pm.Obj) : b7 := i6 (fun _ _ => none) k i o
theorem xI {M : b7} {k i : Nat} {o : Pm.Obj} (h : M k i = some o) : Pm.Sub (aJU k i o) M := fun a b o' e => by
 unfold aJU i6 at e
 split at e
 ·rename_i hc; obtain ⟨rfl, rfl⟩ := hc; cases e; exact h
 ·cases e
theorem aET {k i : Nat} {o : Pm.Obj} : aJU k i o k i = some o := D6 _ _ _ _
end Go.Proofs.YtnmidpahhhdlpaaGreatDoor
noncomputable section
namespace Go.Proofs.YtnmidpahhhdlpaaGreatDoor
open Go Go.Am Go.Pm
structure En where
 path : List UInt8
 kind : Int
 mode : Int
 bytes : List UInt8
def d6 (x : En) : List PV := [str x.path, iv x.kind, iv x.mode, a8 x.bytes]
def S5 (x : En) : PV := .agg (d6 x)
def d7 (l : List En) : PV := .lst .no 4 l.length (l.flatMap d6)
theorem vD {α : Type} {l : List α} {j : Nat} {v : α} (hv : l[j]? = some v) : j < l.length := (List.getElem?_eq_some_iff.1 hv).1
def eJ {α : Type} (p : α -> Bool) : Nat -> List α -> Int
 | _, [] => -1
 | i, x :: r => if p x then (i : Int) else eJ p (i + 1) r
theorem aDL {α : Type} (p : α -> Bool) : ∀ (l : List α) (i : Nat), eJ p i l = -1 \/ ∃ j x, eJ p i l = ((i + j : Nat) : Int) /\ l[j]? = some x /\ p x = true
 | [], i => .inl rfl
 | x :: r, i => by
  show (if p x then (i : Int) else eJ p (i + 1) r) = -1 \/ ∃ j y, (if p x then (i : Int) else eJ p (i + 1) r) = _ /\ _
  cases h : p x with
  | true => exact .inr ⟨0, x, rfl, rfl, h⟩
  | false =>
   rcases aDL p r (i + 1) with h1 | ⟨j, y, h1, h2, h3⟩
   ·exact .inl (by simpa using h1)
   ·exact .inr ⟨j + 1, y, by simp only [Bool.false_eq_true, if_false]; rw [h1]; congr 1; omega, by simpa using h2, h3⟩
theorem R4 {l : List En} {i : Nat} {x : En} (h : l[i]? = some x) : o9 true 4 (l.flatMap d6) (i * 4) = some (S5 x) := gQ (f := d6) (n := 4) (fun _ => rfl) h
theorem lX {l : List En} {i : Nat} {x : En} (h : l[i]? = some x) {c : Nat} {v : PV} (hc : (d6 x)[c]? = some v) : (l.flatMap d6)[i * 4 + c]? = some v := aCP (f := d6) (n := 4) (fun _ => rfl) h hc
theorem bA4 (x : En) (p : List UInt8) {M0 : b7} {a i : Nat} {w : Wm} (hM : M0 a i = some (.row w 0 [str p])) : lT env Tryz.prog M0 67 [S5 x, .ptr a i 0] (bv (x.path == p)) := by
 refine lT.enter a6 bDM (by simp) aU9 fun M k hs hk hf => ?_
 have hM' := hs _ _ _ hM
 have hld : ∀ {ag : Bool} {n o : Nat} {os : List Pm.Obj}, F7 k os M ag n (.ptr a i o) = A9 ag n o (M a i) := K3 (cE hf hM')
 simp only [G0, Z1, Z2, Z3, Z4, Z5, d5, S5, d6, hld, hM', H7]
 exact i9 hf rfl ⟨rfl, rfl⟩
theorem aS5 (t : List En) (hl : t.length <= 1000000) (p : List UInt8) {M0 : b7} {a b : Nat} {w : Wm} (hM : M0 a b = some (.row w 0 [str p])) (M : b7) (k : Nat) (hs : Pm.Sub M0 M) (hf : fresh M k) (Q : c9 -> c5 -> Prop)
  (q1 : ∀ tm, eJ (fun x : En => x.path == p) 0 t = -1 -> Q (.exit 0) ⟨tm, 19, k, [], M⟩) (q2 : ∀ tm, a7 tm 4 = iv (eJ (fun x : En => x.path == p) 0 t) -> Q .ret ⟨tm, 19, k, [], M⟩) :
  ∀ d i tm, t.length - i = d -> i <= t.length -> eJ (fun x : En => x.path == p) 0 t = eJ (fun x : En => x.path == p) i (t.drop i) -> a7 tm 0 = d7 t -> a7 tm 1 = .fn 67 [] [.ptr a b 0] -> a7 tm 7 = iv t.length -> a7 tm 8 = iv i →
  u0 env Tryz.prog none aJX ⟨tm, 19, k, [], M⟩ Q := by
 intro d
 induction d with
 | zero =>
  intro i tm hd hi hp t0 t1 t7 t8
  have : i = t.length := by omega
  subst this
  refine u0.round (RX.of a6 ?_)
  simp only [G0, Z1, Z2, Z3, Z4, Z5, t7, t8, Int.lt_irrefl, decide_false]
  exact q1 _ (by rw [hp, List.drop_of_length_le (Nat.le_refl _)]; rfl)
 | succ d ih =>
  intro i tm hd hi hpi t0 t1 t7 t8
  have hi' : i < t.length := by omega
  have hii : (i : Int) < t.length := by omega
  obtain ⟨x, hx, hdx⟩ := E6 hi'
  have hlx := R4 hx
  have h0 : a7 tm 0 = .lst .no 4 t.length (t.flatMap d6) := t0
  have hw : IntKind.i64.wrap ((i : Int) + 1) = ((i + 1 : Nat) : Int) := by rw [d3 (by omega) (by omega)]; rfl
  rw [hdx] at hpi
  have hun : eJ (fun x : En => x.path == p) i (x :: t.drop (i + 1)) = if x.path == p then (i : Int) else eJ (fun x : En => x.path == p) (i + 1) (t.drop (i + 1)) := rfl
  rw [hun] at hpi
  refine u0.round (RX.of a6 ?_)
  simp only [G0, Z1, Z2, Z3, Z4, Z5, h0, t1, t7, t8, hii, decide_true, hi', hlx]
  refine cs (first := []) (bA4 x p hM) (hs.sseg hf) (by decide) ?_
  cases h : (x.path == p) with
  | true =>
   rw [h, if_pos rfl] at hpi
   simp only [G0, Z1, Z2, Z3, Z4, Z5]
   exact q2 _ (by rw [hpi]; rfl)
  | false =>
   rw [h, if_neg (by decide)] at hpi
   simp only [G0, Z1, Z2, Z3, Z4, Z5, t8, hw]
   exact ih (i + 1) _ (by omega) (by omega) hpi t0 t1 t7 rfl
theorem aPG (t : List En) (hl : t.length <= 1000000) (p : List UInt8) {M0 : b7} {a b : Nat} {w : Wm} (hM : M0 a b = some (.row w 0 [str p])) :
  lT env Tryz.prog M0 66 [d7 t, .fn 67 [] [.ptr a b 0]] (iv (eJ (fun x : En => x.path == p) 0 t)) := by
 refine lT.enter a6 bEE (by simp) aWM fun M k hs hk hf => ?_
 have hlen : T7 (d7 t) = some (iv (t.length : Nat)) := rfl
 simp only [G0, Z1, Z2, Z3, Z4, Z5, d5, hlen]
 refine RX.loop (aS5 t hl p hM M k hs hf _ ?_ ?_ t.length 0 _ rfl (Nat.zero_le _) rfl rfl rfl rfl rfl)
 ·intro tm h
  simp only [G0, Z1, Z2, Z3, Z4, Z5]
  exact i9 hf rfl ⟨by rw [h]; rfl, rfl⟩
 ·intro tm h
  simp only [G0, Z1, Z2, Z3, Z4, Z5]
  exact i9 hf h ⟨rfl, rfl⟩
def fnd (t : List En) (p : List UInt8) : Int := eJ (fun x : En => x.path == p) 0 t
theorem aVF (t : List En) (hl : t.length <= 1000000) (p : List UInt8) : r8 env Tryz.prog 40 [d7 t, str p] (.tup [iv (fnd t p), bv (decide (fnd t p >= 0))]) := fun M => by
 refine PT.enterR a6 bC3 (by simp) aUJ fun k hk hf => RX.of a6 ?_
 simp only [G0, Z1, Z2, Z3, Z4, Z5, d5]
 refine cs0 (aPG t hl p (M0 := aJU k 0 (.row .rw 0 [str p])) (w := .rw) aET) (xI (by rw [i4]; rfl)) (by decide) ?_
 simp only [G0, Z1, Z2, Z3, Z4, Z5]
 exact cR hf rfl rfl ⟨rfl, rfl⟩
def F3 (s : List UInt8) (c : UInt8) : Nat -> Int
 | 0 => -1
 | n + 1 => if s[n]? = some c then (n : Int) else F3 s c n
theorem xK (s : List UInt8) (c : UInt8) : ∀ n, F3 s c n < n
 | 0 => by show (-1 : Int) < 0; decide
 | n + 1 => by
  have := xK s c n
  show (if s[n]? = some c then (n : Int) else F3 s c n) < ((n + 1 : Nat) : Int)
  split <;> omega
theorem wJ (s : List UInt8) (c : UInt8) : ∀ n, -1 <= F3 s c n
 | 0 => by show (-1 : Int) <= -1; decide
 | n + 1 => by
  have := wJ s c n
  show -1 <= (if s[n]? = some c then (n : Int) else F3 s c n)
  split <;> omega
theorem aN8 (s : List UInt8) (c : UInt8) (hl : s.length <= 1000000) (M : b7) (k : Nat) (Q : c9 -> c5 -> Prop)
  (q1 : ∀ tm, F3 s c s.length = -1 -> Q (.exit 0) ⟨tm, 19, k, [], M⟩) (q2 : ∀ tm, a7 tm 4 = iv (F3 s c s.length) -> Q .ret ⟨tm, 19, k, [], M⟩) :
  ∀ n tm, n <= s.length -> F3 s c s.length = F3 s c n -> a7 tm 0 = str s -> a7 tm 1 = A5 c -> a7 tm 5 = iv ((n : Int) - 1) -> u0 env Tryz.prog none aE1 ⟨tm, 19, k, [], M⟩ Q := by
 intro n
 induction n with
 | zero =>
  intro tm hn he t0 t1 t5
  have hge : ¬ (((0 : Nat) : Int) - 1 >= 0) := by omega
  refine u0.round (RX.of a6 ?_)
  simp only [G0, Z1, Z2, Z3, Z4, Z5, t5, hge, decide_false]
  exact q1 _ he
 | succ n ih =>
  intro tm hn he t0 t1 t5
  have hge : ((n + 1 : Nat) : Int) - 1 >= 0 := by omega
  have e1 : ((n + 1 : Nat) : Int) - 1 = (n : Int) := by omega
  obtain ⟨b, hb, -⟩ := E6 (xs := s) (i := n) (by omega)
  have hix : Y5 (str s) (.v (.int .i64 (n : Int))) = some (A5 b) := V4 hb
  have hw : IntKind.i64.wrap ((n : Int) - 1) = (n : Int) - 1 := d3 (by omega) (by omega)
  rw [e1] at t5
  have hge : (n : Int) >= 0 := by omega
  refine u0.round (RX.of a6 ?_)
  have hun : F3 s c (n + 1) = if s[n]? = some c then (n : Int) else F3 s c n := rfl
  rw [hun, hb] at he
  simp only [G0, Z1, Z2, Z3, Z4, Z5, t0, t1, t5, hge, decide_true, hix, A5]
  by_cases hc : b = c
  ·subst hc
   rw [if_pos rfl] at he
   simp only [G0, Z1, Z2, Z3, Z4, Z5, beq_self_eq_true, t5]
   exact q2 _ (by rw [he]; rfl)
  ·have hne : ((b.toNat : Int) == (c.toNat : Int)) = false := by
    cases h : ((b.toNat : Int) == (c.toNat : Int)) with
    | false => rfl
    | true =>
     have := eq_of_beq h
     exact absurd (UInt8.toNat_inj.1 (by omega)) hc
   rw [if_neg (by simpa using hc)] at he
   simp only [G0, Z1, Z2, Z3, Z4, Z5, hne, t5, hw]
   exact ih _ (by omega) he t0 t1 rfl
theorem aPT (s : List UInt8) (c : UInt8) (hl : s.length <= 1000000) : r8 env Tryz.prog 137 [str s, A5 c] (iv (F3 s c s.length)) := fun M => by
 refine PT.enterR a6 bBD (by simp) aPX fun k hk hf => RX.of a6 ?_
 have hw : IntKind.i64.wrap ((s.length : Int) - 1) = (s.length : Int) - 1 := d3 (by omega) (by omega)
 simp only [G0, Z1, Z2, Z3, Z4, Z5, d5, hw]
 refine RX.loop (aN8 s c hl M k _ (fun tm h => ?_) (fun tm h => ?_) s.length _ (Nat.le_refl _) rfl (by rfl) (by rfl) (by rfl))
 ·simp only [G0, Z1, Z2, Z3, Z4, Z5]
  exact i9 hf rfl ⟨by rw [h]; rfl, rfl⟩
 ·simp only [G0, Z1, Z2, Z3, Z4, Z5]
  exact i9 hf h ⟨rfl, rfl⟩
theorem aOW (s : List UInt8) (c : UInt8) (hl : s.length <= 1000000) : r8 env Tryz.prog 119 [str s, A5 c] (iv (F3 s c s.length)) := fun M => by
 refine PT.enterR a6 aYA (by simp) aOB fun k hk hf => RX.of a6 ?_
 simp only [G0, Z1, Z2, Z3, Z4, Z5, d5]
 refine y7 (aPT s c hl) (by decide) ?_
 simp only [G0, Z1, Z2, Z3, Z4, Z5]
 exact i9 hf rfl ⟨rfl, rfl⟩
def O0 (s : List UInt8) : List UInt8 × List UInt8 :=
 if E8 s then (if 0 <= F3 s 47 s.length then (s.take (F3 s 47 s.length).toNat, s.drop ((F3 s 47 s.length).toNat + 1)) else ([], s)) else ([], [])
theorem u6 (b : Bool) : (kS b != 0) = !b := by cases b <;> rfl
theorem aYQ (s : List UInt8) (hl : s.length <= 1000000) : r8 env Tryz.prog 87 [str s] (.tup [str (O0 s).1, str (O0 s).2]) := fun M => by
 refine PT.enterR a6 bEL (by simp) aSS fun k hk hf => RX.of a6 ?_
 simp only [G0, Z1, Z2, Z3, Z4, Z5, d5]
 refine y7 (pU s hl) (by decide) ?_
 unfold O0
 have e0 : ((0 : Int) != 0) = false := rfl
 have e2 : ((2 : Int) != 0) = true := rfl
 cases hp : E8 s with
 | false =>
  simp only [G0, Z1, Z2, Z3, Z4, Z5, u6, Bool.not_false]
  exact cR hf rfl rfl ⟨rfl, rfl⟩
 | true =>
  simp only [G0, Z1, Z2, Z3, Z4, Z5, u6, Bool.not_true]
  refine y7 (aOW s 47 hl) (by decide) ?_
  have h1 := xK s 47 s.length
  have h2 := wJ s 47 s.length
  generalize hn : F3 s 47 s.length = n at h1 h2
  by_cases hg : 0 <= n
  ·obtain ⟨j, rfl⟩ := Int.eq_ofNat_of_zero_le hg
   have hge : (j : Int) >= 0 := by omega
   have hto : D4 (str s) none (some (iv j)) = some (str (s.take j)) := vQ (by omega)
   have hfr : D4 (str s) (some (iv ((j + 1 : Nat) : Int))) none = some (str (s.drop (j + 1))) := cC (by omega)
   have hw : IntKind.i64.wrap ((j : Int) + 1) = ((j + 1 : Nat) : Int) := by rw [d3 (by omega) (by omega)]; rfl
   rw [if_pos hg]
   simp only [G0, Z1, Z2, Z3, Z4, Z5, hge, decide_true, hto, hfr, hw]
   exact cR hf rfl rfl ⟨rfl, rfl⟩
  ·have hge : ¬ (n >= 0) := by omega
   rw [if_neg hg]
   simp only [G0, Z1, Z2, Z3, Z4, Z5, hge, decide_false]
   exact cR hf rfl rfl ⟨rfl, rfl⟩
theorem aMX (s : List UInt8) (hl : s.length <= 1000000) : r8 env Tryz.prog 61 [str s] (.tup [str (O0 s).1, bv (!((O0 s).1 == []))]) := fun M => by
 refine PT.enterR a6 bCX (by simp) aWP fun k hk hf => RX.of a6 ?_
 simp only [G0, Z1, Z2, Z3, Z4, Z5, d5]
 refine y7 (aYQ s hl) (by decide) ?_
 have hs : PV.v (.string ⟨#[]⟩) = str [] := rfl
 simp only [G0, Z1, Z2, Z3, Z4, Z5, hs, R8]
 exact cR hf rfl rfl ⟨rfl, rfl⟩
end Go.Proofs.YtnmidpahhhdlpaaGreatDoor
end
noncomputable section
namespace Go.Proofs.YtnmidpahhhdlpaaGreatDoor
open Go Go.Am Go.Pm
def cH (t : List En) (p : List UInt8) : Int :=
 if (O0 p).1 = [] then 0 else if fnd t (O0 p).1 >= 0 then (match t[(fnd t (O0 p).1).toNat]? with | some x => if x.kind = 2 then 0 else 12 | none => 0) else 6
theorem pX (t : List En) (ht : t.length <= 1000000) (p : List UInt8) (hp : p.length <= 1000000) : r8 env Tryz.prog 38 [d7 t, str p] (iv (cH t p)) := fun M => by
 refine PT.enterR a6 bDO (by simp) aSU fun k hk hf => RX.of a6 ?_
 simp only [G0, Z1, Z2, Z3, Z4, Z5, d5]
 refine y7 (aMX p hp) (by decide) ?_
 unfold cH
 by_cases hu : (O0 p).1 = []
 ·rw [if_pos hu, hu]
  have : (([] : List UInt8) == []) = true := rfl
  simp only [G0, Z1, Z2, Z3, Z4, Z5, this, Bool.not_true, Bool.not_false]
  exact i9 hf rfl ⟨rfl, rfl⟩
 ·have hb : ((O0 p).1 == []) = false := by
   cases h : ((O0 p).1 == []) with
   | false => rfl
   | true => exact absurd (eq_of_beq h) hu
  rw [if_neg hu]
  simp only [G0, Z1, Z2, Z3, Z4, Z5, hb, Bool.not_true, Bool.not_false]
  refine y7 (aVF t ht (O0 p).1) (by decide) ?_
  by_cases hg : fnd t (O0 p).1 >= 0
  ·rw [if_pos hg]
   have hx : ∃ (j : Nat) (x : En), fnd t (O0 p).1 = (j : Int) /\ t[j]? = some x := by
    rcases aDL (fun x : En => x.path == (O0 p).1) t 0 with h | ⟨j, x, h1, h2, _⟩
    ·unfold fnd at hg; omega
    ·exact ⟨j, x, by unfold fnd; rw [h1]; congr 1; omega, h2⟩
   obtain ⟨j, x, e, hx⟩ := hx
   rw [e] at hg ⊢
   rw [Int.toNat_natCast, hx]
   have hj := vD hx
   have hc := lX (c := 1) hx rfl
   simp only [G0, Z1, Z2, Z3, Z4, Z5, hg, decide_true, Bool.not_true, hj, d7, hc]
   by_cases hk2 : x.kind = 2
   ·have hne : (x.kind != 2) = false := by rw [hk2]; rfl
    simp only [G0, Z1, Z2, Z3, Z4, Z5, hne]
    exact i9 hf rfl ⟨by simp only [if_pos hg, if_pos hk2]; rfl, rfl⟩
   ·have hne : (x.kind != 2) = true := by simpa using hk2
    simp only [G0, Z1, Z2, Z3, Z4, Z5, hne]
    exact i9 hf rfl ⟨by simp only [if_pos hg, if_neg hk2]; rfl, rfl⟩
  ·rw [if_neg hg]
   simp only [G0, Z1, Z2, Z3, Z4, Z5, hg, decide_false, Bool.not_false]
   exact i9 hf rfl ⟨rfl, rfl⟩
def aP (t : List En) (i : Nat) (x : En) : Bool := match i with
 | 0 => true
 | j + 1 => match t[j]? with
  | some y => v4 y.path x.path
  | none => true
def R5 (t : List En) (i : Nat) (x : En) : Bool := (E8 x.path && O7 x.kind x.mode x.bytes && !(x.kind == 3)) && aP t i x && (cH t x.path == 0)
def s8 (t : List En) : Nat -> List En -> Bool
 | _, [] => true
 | i, x :: r => R5 t i x && s8 t (i + 1) r
def r5 (t : List En) : Bool := decide (t.length <= 200) && s8 t 0 t
theorem aN6 (x : En) : q8 4 0 (S5 x) (some (.row .rw 0 [.v (.string ⟨#[]⟩), .v (.int .i64 0), .v (.int .i64 0), .lst .full 0 0 []])) = some (.row .rw 0 (d6 x)) := n7 (n := 4) ⟨rfl, Nat.le_refl 4, rfl⟩
theorem aV6 (t : List En) (ht : t.length <= 1000000) (hp : ∀ x ∈ t, x.path.length <= 1000000) (M : b7) (k : Nat) (Q : c9 -> c5 -> Prop)
  (q1 : s8 t 0 t = true -> ∀ tm, Q (.exit 0) ⟨tm, 55, k, [], M⟩) (q2 : s8 t 0 t = false -> ∀ tm, a7 tm 2 = iv 2 -> Q .ret ⟨tm, 55, k, [], M⟩) :
  ∀ d i tm, t.length - i = d -> i <= t.length -> s8 t 0 t = s8 t i (t.drop i) -> a7 tm 0 = d7 t -> a7 tm 8 = d7 t -> a7 tm 9 = iv t.length -> a7 tm 10 = iv i -> u0 env Tryz.prog none aHU ⟨tm, 55, k, [], M⟩ Q := by
 intro d
 induction d with
 | zero =>
  intro i tm hd hi ho t0 t8 t9 t10
  have : i = t.length := by omega
  subst this
  refine u0.round (RX.of a6 ?_)
  simp only [G0, Z1, Z2, Z3, Z4, Z5, t9, t10, Int.lt_irrefl, decide_false]
  exact q1 (by rw [ho, List.drop_of_length_le (Nat.le_refl _)]; rfl) _
 | succ d ih =>
  intro i tm hd hi ho t0 t8 t9 t10
  have hi' : i < t.length := by omega
  have hii : (i : Int) < t.length := by omega
  obtain ⟨x, hx, hdx⟩ := E6 hi'
  have hlx := R4 hx
  have h8 : a7 tm 8 = .lst .no 4 t.length (t.flatMap d6) := t8
  have h0 : a7 tm 0 = .lst .no 4 t.length (t.flatMap d6) := t0
  have hw : IntKind.i64.wrap ((i : Int) + 1) = ((i + 1 : Nat) : Int) := by rw [d3 (by omega) (by omega)]; rfl
  have hxm := List.mem_of_getElem? hx
  have hst := aN6 x
  rw [hdx] at ho
  have hun : s8 t i (x :: t.drop (i + 1)) = (R5 t i x && s8 t (i + 1) (t.drop (i + 1))) := rfl
  rw [hun] at ho
  have hcl : S5 x = .agg [str x.path, iv x.kind, iv x.mode, a8 x.bytes] := rfl
  refine u0.inn fun k' hk1 hk2 hk3 => RX.of a6 ?_
  simp only [G0, Z1, Z2, Z3, Z4, Z5, h8, t9, t10, hii, decide_true, hi', hlx, hst, d6]
  refine y7 (pU x.path (hp x hxm)) (by decide) ?_
  have aggE : o9 true 3 [str x.path, iv x.kind, iv x.mode, a8 x.bytes] 1 = some (.agg [iv x.kind, iv x.mode, a8 x.bytes]) := rfl
  cases hpo : E8 x.path with
  | false =>
   have hno : s8 t 0 t = false := by rw [ho, R5, hpo]; rfl
   simp only [G0, Z1, Z2, Z3, Z4, Z5, u6, Bool.not_true, Bool.not_false, i7, j0, I7]
   exact q2 hno _ rfl
  | true =>
   simp only [G0, Z1, Z2, Z3, Z4, Z5, u6, Bool.not_true, i7, j0, I7, aggE]
   refine y7 (uR x.kind x.mode x.bytes) (by decide) ?_
   cases heo : O7 x.kind x.mode x.bytes with
   | false =>
    have hno : s8 t 0 t = false := by rw [ho, R5, hpo, heo]; rfl
    simp only [G0, Z1, Z2, Z3, Z4, Z5, u6, Bool.not_true, Bool.not_false, i7, j0, I7]
    exact q2 hno _ rfl
   | true =>
    cases hk3 : (x.kind == 3) with
    | true =>
     have hno : s8 t 0 t = false := by rw [ho, R5, hpo, heo, hk3]; rfl
     simp only [G0, Z1, Z2, Z3, Z4, Z5, u6, Bool.not_true, Bool.not_false, i7, j0, I7, hk3]
     exact q2 hno _ rfl
    | false =>
     have hT0 : a7 tm 0 = .lst .no 4 t.length (t.flatMap d6) := t0
     rcases Nat.eq_zero_or_pos i with h0 | h0
     ·subst h0
      have hgt : ¬ (((0 : Nat) : Int) > 0) := by omega
      simp only [G0, Z1, Z2, Z3, Z4, Z5, u6, Bool.not_true, Bool.not_false, i7, j0, I7, hk3, hgt, decide_false]
      rw [t0]
      refine y7 (pX t ht x.path (hp x hxm)) (by decide) ?_
      cases hpr : (cH t x.path == 0) with
      | false =>
       have hno : s8 t 0 t = false := by rw [ho, R5, hpo, heo, hk3, hpr]; simp
       have hne : (cH t x.path != 0) = true := by rw [bne, hpr]; rfl
       simp only [G0, Z1, Z2, Z3, Z4, Z5, hne, Bool.not_true, Bool.not_false, i7, j0]
       exact q2 hno _ rfl
      | true =>
       have hne : (cH t x.path != 0) = false := by rw [bne, hpr]; rfl
       simp only [G0, Z1, Z2, Z3, Z4, Z5, hne, Bool.not_true, Bool.not_false, i7, j0, t10, hw]
       refine ih (0 + 1) _ (by omega) (by omega) (by rw [ho, R5, hpo, heo, hk3, hpr]; simp [aP]) t0 t8 t9 rfl
     ·obtain ⟨y, hy, -⟩ := E6 (xs := t) (i := i - 1) (by omega)
      have hgt : (i : Int) > 0 := by omega
      have hw1 : IntKind.i64.wrap ((i : Int) - 1) = ((i - 1 : Nat) : Int) := by rw [d3 (by omega) (by omega)]; omega
      have hi1 : i - 1 < t.length := by omega
      have hcy := lX (c := 0) hy rfl
      have hcy' : (t.flatMap d6)[(i - 1) * 4]? = some (str y.path) := hcy
      have hpv : aP t i x = v4 y.path x.path := by
       cases i with
       | zero => omega
       | succ i => unfold aP; rw [show i + 1 - 1 = i from rfl] at hy; simp only [hy]
      simp only [G0, Z1, Z2, Z3, Z4, Z5, u6, Bool.not_true, Bool.not_false, i7, j0, I7, hk3, hgt, decide_true, hT0, hw1, hi1, hcy, hcy']
      refine y7 (aBI y.path x.path (hp y (List.mem_of_getElem? hy)) (hp x hxm)) (by decide) ?_
      cases hls : v4 y.path x.path with
      | false =>
       have hno : s8 t 0 t = false := by rw [ho, R5, hpo, heo, hk3, hpv, hls]; rfl
       simp only [G0, Z1, Z2, Z3, Z4, Z5, Bool.not_true, Bool.not_false, i7, j0, I7]
       exact q2 hno _ rfl
      | true =>
       simp only [G0, Z1, Z2, Z3, Z4, Z5, Bool.not_true, Bool.not_false, i7, j0, I7]
       rw [t0]
       refine y7 (pX t ht x.path (hp x hxm)) (by decide) ?_
       cases hpr : (cH t x.path == 0) with
       | false =>
        have hno : s8 t 0 t = false := by rw [ho, R5, hpo, heo, hk3, hpr]; simp
        have hne : (cH t x.path != 0) = true := by rw [bne, hpr]; rfl
        simp only [G0, Z1, Z2, Z3, Z4, Z5, hne, Bool.not_true, Bool.not_false, i7, j0]
        exact q2 hno _ rfl
       | true =>
        have hne : (cH t x.path != 0) = false := by rw [bne, hpr]; rfl
        simp only [G0, Z1, Z2, Z3, Z4, Z5, hne, Bool.not_true, Bool.not_false, i7, j0, t10, hw]
        refine ih (i + 1) _ (by omega) (by omega) (by rw [ho, R5, hpo, heo, hk3, hpv, hls, hpr]; rfl) t0 t8 t9 rfl
theorem mJ (t : List En) (ht : t.length <= 1000000) (hp : ∀ x ∈ t, x.path.length <= 1000000) : r8 env Tryz.prog 14 [d7 t] (iv (kS (r5 t))) := fun M => by
 refine PT.enterR a6 bC2 (by simp) aTT fun k hk hf => RX.of a6 ?_
 have hlen : T7 (d7 t) = some (iv (t.length : Nat)) := rfl
 unfold r5
 by_cases h2 : t.length <= 200
 ·have hgt : ¬ ((t.length : Int) > 200) := by omega
  rw [decide_eq_true h2, Bool.true_and]
  simp only [G0, Z1, Z2, Z3, Z4, Z5, d5, hlen, hgt, decide_false]
  refine RX.loop (aV6 t ht hp M k _ (fun h tm => ?_) (fun h tm t2 => ?_) t.length 0 _ rfl (Nat.zero_le _) rfl (by rfl) (by rfl) (by rfl) (by rfl))
  ·simp only [G0, Z1, Z2, Z3, Z4, Z5]
   exact i9 hf rfl ⟨by rw [h]; rfl, rfl⟩
  ·simp only [G0, Z1, Z2, Z3, Z4, Z5]
   exact i9 hf t2 ⟨by rw [h]; rfl, rfl⟩
 ·have hgt : (t.length : Int) > 200 := by omega
  rw [decide_eq_false h2, Bool.false_and]
  simp only [G0, Z1, Z2, Z3, Z4, Z5, d5, hlen, hgt, decide_true]
  exact i9 hf rfl ⟨rfl, rfl⟩
end Go.Proofs.YtnmidpahhhdlpaaGreatDoor
end
namespace Go.Proofs.YtnmidpahhhdlpaaGreatDoor
open Go Go.Am Go.Pm
inductive B2 {α : Type} (f : α -> List PV) (sz : Nat) (k : Nat) (os : List Pm.Obj) : Option Nat -> PV -> List α -> Prop where
 | nil (e : Nat) : B2 f sz k os none (.lst .full e 0 []) []
 | tok {j : Nat} {L : List α} (h : os[j]? = some (.grow L.length sz)) : B2 f sz k os (some j) (.lst (.id k j) sz L.length (L.flatMap f)) L
section
variable {α : Type} {f : α -> List PV} {sz k : Nat} {os : List Pm.Obj} {j : Option Nat} {v : PV} {L : List α}
theorem B2.more (h : B2 f sz k os j v L) (o : Pm.Obj) : B2 f sz k (os ++ [o]) j v L := by
 cases h with
 | nil e => exact .nil e
 | @tok j L h =>
  have := (List.getElem?_eq_some_iff.1 h).1
  exact .tok (by rw [List.getElem?_append_left this]; exact h)
theorem B2.le (h : B2 f sz k os j v L) : Q2 v (.lst .no sz L.length (L.flatMap f)) := by
 cases h with
 | nil e => exact Q2.nil_no _ _ _ rfl
 | tok h => exact Q2.no _ _ _ _
theorem B2.push (h : B2 f sz k os j v L) {by_ : Nat} (hb : (2 * (L.length + 1) + 2000) * by_ <= 281474976710656) (hl : L.length <= 1000000) (hz : sz < 4096) (x : α) (ho : (f x).all p7 = true) (t : lH) :
  ∃ v' os' j', (∀ {tm : List (Nat × PV)} {nt : Nat} {M : b7}, W7 ⟨tm, nt, k, os, M⟩ sz by_ sz v (.lst t sz 1 (f x)) = some (v', ⟨tm, nt, k, os', M⟩)) /\ B2 f sz k os' j' v' (L ++ [x]) := by
 have hfm : (L ++ [x]).flatMap f = L.flatMap f ++ f x := by rw [List.flatMap_append]; simp
 have hlen : (L ++ [x]).length = L.length + 1 := by simp
 cases h with
 | nil e0 =>
  have hc : (0 = 0 \/ e0 = sz) /\ (2 * (0 + 1) + 2000) * by_ <= 281474976710656 /\ 0 + 1 <= 4611686018427387904 /\ sz < 4096 /\ sz = sz /\ (f x).all p7 = true := ⟨.inl rfl, hb, by omega, hz, rfl, ho⟩
  refine ⟨_, os ++ [.grow (0 + 1) sz], some os.length, fun {tm nt M} => mE (by decide) hc, ?_⟩
  have := B2.tok (f := f) (sz := sz) (k := k) (os := os ++ [.grow (0 + 1) sz]) (j := os.length) (L := [x]) (by rw [List.getElem?_append_right (Nat.le_refl _), Nat.sub_self]; rfl)
  simpa using this
 | @tok j L h =>
  have hj := (List.getElem?_eq_some_iff.1 h).1
  have hc : (L.length = 0 \/ sz = sz) /\ (2 * (L.length + 1) + 2000) * by_ <= 281474976710656 /\ L.length + 1 <= 4611686018427387904 /\ sz < 4096 /\ sz = sz /\ (f x).all p7 = true := ⟨.inr rfl, hb, by omega, hz, rfl, ho⟩
  refine ⟨_, os.set j (.grow (L.length + 1) sz), some j, fun {tm nt M} => aRX (by decide) h hc rfl, ?_⟩
  rw [<- hfm, <- hlen]
  exact .tok (by rw [List.getElem?_set_self hj])
end
theorem bAN (x : En) : o9 true 4 [str x.path, iv x.kind, iv x.mode, a8 x.bytes] 0 = some (.agg [str x.path, iv x.kind, iv x.mode, a8 x.bytes]) := rfl
theorem bAS (x : En) (h1 : x.bytes.length <= 1000000) : r8 env Tryz.prog 42 [S5 x] (S5 x) := fun M => by
 refine PT.enterR a6 bD1 (by simp) aTQ fun k hk hf => RX.of a6 ?_
 simp only [G0, Z1, Z2, Z3, Z4, Z5, d5, S5, d6]
 refine y7 (xP _ h1) (by decide) ?_
 have hs3 : q8 1 3 (a8 x.bytes) (some (.row .rw 0 [str x.path, iv x.kind, iv x.mode, a8 x.bytes])) = some (.row .rw 0 [str x.path, iv x.kind, iv x.mode, a8 x.bytes]) := n7 (n := 1) ⟨rfl, (show 3 + 1 <= 4 from by decide), rfl⟩
 have hs4 := aN6 x
 unfold S5 d6 at hs4
 simp only [G0, Z1, Z2, Z3, Z4, Z5, hs3, bAN, hs4]
 refine aWB (ag := true) (n := 4) hf (by kernel_rfl) ?_ ⟨rfl, rfl⟩
 simp only [G0, Z1, Z2, Z3, Z4, Z5, bAN]
theorem N7 {α : Type} {l : List α} {j : Nat} {v : α} (hv : l[j]? = some v) : l.take (j + 1) = l.take j ++ [v] := by rw [List.take_add_one, hv]; rfl
theorem dF {os : List Pm.Obj} {o : Pm.Obj} : (os ++ [o])[os.length]? = some o := by simp
theorem oX {os : List Pm.Obj} {o o' : Pm.Obj} : (os ++ [o]).set os.length o' = os ++ [o'] := by simp
theorem sC (a : En) : T6 4 [.v (.string ⟨#[]⟩), .v (.int .i64 0), .v (.int .i64 0), .lst .full 0 0 []] [(0, S5 a)] = some (d6 a) := rfl
theorem aV3 (x : En) : o9 true 4 (d6 x) 0 = some (S5 x) := rfl
theorem aXB (l : List En) (hl : l.length <= 1000000) (hb : ∀ x ∈ l, x.bytes.length <= 1000000) (M : b7) (k : Nat) (Q : c9 -> c5 -> Prop) (q : ∀ tm os j v, B2 d6 4 k os j v l -> a7 tm 3 = v -> Q (.exit 0) ⟨tm, 19, k, os, M⟩) :
  ∀ d i os j v tm, l.length - i = d -> i <= l.length -> B2 d6 4 k os j v (l.take i) -> a7 tm 3 = v -> a7 tm 6 = d7 l -> a7 tm 7 = iv l.length -> a7 tm 8 = iv i -> u0 env Tryz.prog none aJB ⟨tm, 19, k, os, M⟩ Q := by
 intro d
 induction d with
 | zero =>
  intro i os j v tm hd hi hO t3 t6 t7 t8
  have : i = l.length := by omega
  subst this
  rw [List.take_length] at hO
  refine u0.round (RX.of a6 ?_)
  simp only [G0, Z1, Z2, Z3, Z4, Z5, t7, t8, Int.lt_irrefl, decide_false]
  exact q _ os j v hO t3
 | succ d ih =>
  intro i os j v tm hd hi hO t3 t6 t7 t8
  have hi' : i < l.length := by omega
  have hii : (i : Int) < l.length := by omega
  obtain ⟨x, hx, -⟩ := E6 hi'
  have hlx := R4 hx
  have hw : IntKind.i64.wrap ((i : Int) + 1) = ((i + 1 : Nat) : Int) := by rw [d3 (by omega) (by omega)]; rfl
  have ht6 : a7 tm 6 = .lst .no 4 l.length (l.flatMap d6) := t6
  have hst := aN6 x
  refine u0.round (RX.of a6 ?_)
  simp only [G0, Z1, Z2, Z3, Z4, Z5, t3, ht6, t7, t8, hii, decide_true, hi', hlx, hst, aV3, dF, oX]
  refine y7 (bAS x (hb x (List.mem_of_getElem? hx))) (by decide) ?_
  have hF := sC x
  simp only [G0, Z1, Z2, Z3, Z4, Z5, hF]
  obtain ⟨v', os', j', h1, h2⟩ := (hO.more (.row .rw 0 (d6 x))).push (by_ := 56) (by rw [List.length_take]; omega) (by rw [List.length_take]; omega) (by decide) x rfl .full
  refine aL ?_
  rw [h1]
  simp only [G0, Z1, Z2, Z3, Z4, Z5, t8, hw]
  refine ih (i + 1) os' j' v' _ (by omega) (by omega) ?_ rfl t6 t7 rfl
  rw [N7 hx]; exact h2
theorem aDH (l : List En) (hl : l.length <= 1000000) (hb : ∀ x ∈ l, x.bytes.length <= 1000000) : r8 env Tryz.prog 25 [d7 l] (d7 l) := r8.of fun M => by
 refine PT.enterR a6 bEC (by simp) aUR fun k hk hf => RX.of a6 ?_
 have hlen : T7 (d7 l) = some (iv (l.length : Nat)) := rfl
 simp only [G0, Z1, Z2, Z3, Z4, Z5, d5, hlen]
 refine RX.loop (aXB l hl hb M k _ (fun tm os j v hO t3 => ?_) l.length 0 _ none _ _ rfl (Nat.zero_le _) (.nil 0) (by rfl) (by rfl) (by rfl) (by rfl))
 simp only [G0, Z1, Z2, Z3, Z4, Z5, t3]
 exact i9 hf rfl ⟨hO.le, rfl⟩
end Go.Proofs.YtnmidpahhhdlpaaGreatDoor
noncomputable section
namespace Go.Proofs.YtnmidpahhhdlpaaGreatDoor
open Go Go.Am Go.Pm
def byI (a b : En) : Int := if v4 a.path b.path then -1 else if v4 b.path a.path then 1 else 0
theorem aY9 (a b : En) (ha : a.path.length <= 1000000) (hb : b.path.length <= 1000000) : r8 env Tryz.prog 26 [S5 a, S5 b] (iv (byI a b)) := fun M => by
 refine PT.enterR a6 bC1 (by simp) aS8 fun k hk hf => RX.of a6 ?_
 simp only [G0, Z1, Z2, Z3, Z4, Z5, d5, S5, d6]
 refine y7 (aBI a.path b.path ha hb) (by decide) ?_
 unfold byI
 cases h1 : v4 a.path b.path with
 | true =>
  simp only [G0, Z1, Z2, Z3, Z4, Z5]
  exact i9 hf rfl ⟨rfl, rfl⟩
 | false =>
  simp only [G0, Z1, Z2, Z3, Z4, Z5]
  refine y7 (aBI b.path a.path hb ha) (by decide) ?_
  cases h2 : v4 b.path a.path with
  | true =>
   simp only [G0, Z1, Z2, Z3, Z4, Z5]
   exact i9 hf rfl ⟨rfl, rfl⟩
  | false =>
   simp only [G0, Z1, Z2, Z3, Z4, Z5]
   exact i9 hf rfl ⟨rfl, rfl⟩
structure Pr where
 path : List UInt8
 ak : Int
 am : Int
 ab : List UInt8
 bk : Int
 bm : Int
 bb : List UInt8
def b9 (x : Pr) : List PV := [str x.path, iv x.ak, iv x.am, a8 x.ab, iv x.bk, iv x.bm, a8 x.bb]
def K2 (x : Pr) : PV := .agg (b9 x)
def G6 (l : List Pr) : PV := .lst .no 7 l.length (l.flatMap b9)
inductive PtE : PV -> Option En -> Prop where
 | nil : PtE (.v (.pointer none)) none
 | here {cs : List PV} {o : Nat} {x : En} (h0 : cs[o]? = some (str x.path)) (h1 : o9 true 3 cs (o + 1) = some (.agg [iv x.kind, iv x.mode, a8 x.bytes])) : PtE (.dp cs o) (some x)
def L3 : Option En -> Option En -> Pr
 | none, none => ⟨[], 0, 0, [], 0, 0, []⟩
 | some x, none => ⟨x.path, x.kind, x.mode, x.bytes, 0, 0, []⟩
 | none, some y => ⟨y.path, 0, 0, [], y.kind, y.mode, y.bytes⟩
 | some x, some y => ⟨y.path, x.kind, x.mode, x.bytes, y.kind, y.mode, y.bytes⟩
inductive fC (M : b7) : PV -> List Pr -> Prop where
 | nil (e : Nat) : fC M (.lst .full e 0 []) []
 | row {k i n : Nat} {w : Wm} {L : List Pr} (hM : M k i = some (.row w 7 (L.flatMap b9))) (hw : w = .rw \/ w = .own) (hn : n = L.length) (h0 : n ≠ 0) : fC M (.sl k i 0 n (g6 n 7)) L
def wE : PV -> Option Nat
 | .sl k _ _ _ _ => some k
 | _ => none
theorem fC.frame {M M' : b7} {v : PV} {l : List Pr} (h : fC M v l) (hf : ∀ k i, wE v = some k -> M k i ≠ none -> M' k i = M k i) : fC M' v l := by
 cases h with
 | nil e => exact .nil e
 | row hM hw hn h0 => exact .row (by rw [hf _ _ rfl (by rw [hM]; exact fun h => by cases h)]; exact hM) hw hn h0
theorem fC.key {M : b7} {v : PV} {l : List Pr} (h : fC M v l) {k : Nat} (hf : fresh M k) : wE v ≠ some k := by
 cases h with
 | nil e => intro h; cases h
 | row hM hw hn h0 => intro h; cases h; rw [hf _] at hM; cases hM
theorem aSV {Q : PV -> b7 -> Prop} {body : Code} {nt nt' k : Nat} {tm : List (Nat × PV)} {os : List Pm.Obj} {M : b7} (h : Q (.tup []) (seg M k os)) : bH env ⟨nt, [], body⟩ Q .normal ⟨tm, nt', k, os, M⟩ := ⟨.inl rfl, [], seg M k os, rfl, .refl _, h⟩
theorem aJ1 (L : List Pr) : (L.flatMap b9).length = L.length * 7 := by
 induction L with
 | nil => rfl
 | cons x l ih => rw [List.flatMap_cons, List.length_append, ih, List.length_cons]; show 7 + _ = _; omega
theorem wH {n es : Nat} (h : es < 4096) : g9 (g6 n es) = n /\ g6 n es % 2 = 1 /\ L2 (g6 n es) = es := oR h
theorem aL2 : ∃ y e, env.ty 52 = some y /\ y.desc = .pointer e := by
 have h : (match env.ty 52 with | some y => (match y.desc with | .pointer _ => true | _ => false) | none => false) = true := by kernel_rfl
 cases hy : env.ty 52 with
 | none => rw [hy] at h; cases h
 | some y =>
  rw [hy] at h
  dsimp only at h
  split at h
  ·rename_i e he; exact ⟨y, e, rfl, he⟩
  ·cases h
theorem aIP {cs : List PV} {o : Nat} {c d : Bool} : w9 env .neq 52 c d (.dp cs o) (.v (.pointer none)) = some (bv true) := by
 obtain ⟨y, e, h1, h2⟩ := aL2
 simp only [w9, h1, h2]
structure K27 (tm : List (Nat × PV)) (px py : PV) (a k : Nat) : Prop where
 t0 : a7 tm 0 = px
 t1 : a7 tm 1 = py
 t2 : a7 tm 2 = .ptr a 0 0
 t5 : a7 tm 5 = .ptr k 0 0
theorem aPS {M : b7} {a k : Nat} {px py : PV} {ox : Option En} {tm : List (Nat × PV)} {Q : c9 -> c5 -> Prop} (hx : PtE px ox) (hK : K27 tm px py a k) (q : ∀ tm', K27 tm' px py a k -> Q .normal ⟨tm', 34, k, [.row .rw 0 (b9 (L3 ox none))], M⟩) :
  RX env Tryz.prog none aQZ ⟨tm, 34, k, [.row .rw 0 (b9 ⟨[], 0, 0, [], 0, 0, []⟩)], M⟩ Q := by
 obtain ⟨t0, t1, t2, t5⟩ := hK
 refine RX.of a6 ?_
 cases hx with
 | nil =>
  have n1 := aDO (t := 52) (c := false) (d := true) aL2
  simp only [G0, Z1, Z2, Z3, Z4, Z5, t0, n1]
  exact q _ ⟨t0, t1, t2, t5⟩
 | @here cs o x h0 h1 =>
  simp only [G0, Z1, Z2, Z3, Z4, Z5, t0, t5, aIP, h0, h1]
  have hs1 : q8 1 0 (str x.path) (some (.row .rw 0 (b9 ⟨[], 0, 0, [], 0, 0, []⟩))) = some (.row .rw 0 (b9 ⟨x.path, 0, 0, [], 0, 0, []⟩)) := n7 (n := 1) ⟨rfl, (show 0 + 1 <= 7 from by decide), rfl⟩
  have hL : ∀ v ∈ [PV.dp cs (o + 1)], aCM k 0 v := fun v hv => .inr ⟨cs, o + 1, List.mem_singleton.1 hv⟩
  refine ⟨k, 0, 0, 0, _, rfl, (by show seg _ k _ k 0 = _; rw [i4]; rfl), hL, _, aQ9 rfl rfl hs1, ?_⟩
  have hs2 : q8 3 1 (.agg [iv x.kind, iv x.mode, a8 x.bytes]) (some (.row .rw 0 (b9 ⟨x.path, 0, 0, [], 0, 0, []⟩))) = some (.row .rw 0 (b9 ⟨x.path, x.kind, x.mode, x.bytes, 0, 0, []⟩)) := n7 (n := 3) ⟨rfl, (show 1 + 3 <= 7 from by decide), rfl⟩
  simp only [G0, Z1, Z2, Z3, Z4, Z5, t5, hs2]
  exact q _ ⟨t0, t1, t2, t5⟩
theorem aPQ {M : b7} {a k : Nat} {px py : PV} {ox oy : Option En} {tm : List (Nat × PV)} {Q : c9 -> c5 -> Prop} (hy : PtE py oy) (hK : K27 tm px py a k) (q : ∀ tm', K27 tm' px py a k -> Q .normal ⟨tm', 34, k, [.row .rw 0 (b9 (L3 ox oy))], M⟩) :
  RX env Tryz.prog none aQ5 ⟨tm, 34, k, [.row .rw 0 (b9 (L3 ox none))], M⟩ Q := by
 obtain ⟨t0, t1, t2, t5⟩ := hK
 refine RX.of a6 ?_
 cases hy with
 | nil =>
  have n1 := aDO (t := 52) (c := false) (d := true) aL2
  simp only [G0, Z1, Z2, Z3, Z4, Z5, t1, n1]
  exact q _ ⟨t0, t1, t2, t5⟩
 | @here cs o y h0 h1 =>
  simp only [G0, Z1, Z2, Z3, Z4, Z5, t1, t5, aIP, h0, h1]
  have hL : ∀ v ∈ [PV.dp cs (o + 1)], aCM k 0 v := fun v hv => .inr ⟨cs, o + 1, List.mem_singleton.1 hv⟩
  obtain ⟨p, ak, am, ab, hm⟩ : ∃ p ak am ab, L3 ox none = ⟨p, ak, am, ab, 0, 0, []⟩ /\ L3 ox (some y) = ⟨y.path, ak, am, ab, y.kind, y.mode, y.bytes⟩ := by
   cases ox with
   | none => exact ⟨_, _, _, _, rfl, rfl⟩
   | some x => exact ⟨_, _, _, _, rfl, rfl⟩
  rw [hm.2] at q
  rw [hm.1]
  have hs1 : q8 1 0 (str y.path) (some (.row .rw 0 (b9 ⟨p, ak, am, ab, 0, 0, []⟩))) = some (.row .rw 0 (b9 ⟨y.path, ak, am, ab, 0, 0, []⟩)) := n7 (n := 1) ⟨rfl, (show 0 + 1 <= 7 from by decide), rfl⟩
  have hs2 : q8 3 4 (.agg [iv y.kind, iv y.mode, a8 y.bytes]) (some (.row .rw 0 (b9 ⟨y.path, ak, am, ab, 0, 0, []⟩))) = some (.row .rw 0 (b9 ⟨y.path, ak, am, ab, y.kind, y.mode, y.bytes⟩)) := n7 (n := 3) ⟨rfl, (show 4 + 3 <= 7 from by decide), rfl⟩
  refine ⟨k, 0, 0, 0, _, rfl, (by show seg _ k _ k 0 = _; rw [i4]; rfl), hL, _, aQ9 rfl rfl hs1, ?_⟩
  simp only [G0, Z1, Z2, Z3, Z4, Z5, t5, hs2]
  exact q _ ⟨t0, t1, t2, t5⟩
theorem uA (x : Pr) : o9 true 7 (b9 x) 0 = some (K2 x) := rfl
theorem aSL (x : Pr) : T6 7 [.v (.string ⟨#[]⟩), .v (.int .i64 0), .v (.int .i64 0), .lst .full 0 0 [], .v (.int .i64 0), .v (.int .i64 0), .lst .full 0 0 []] [(0, K2 x)] = some (b9 x) := rfl
theorem aY0 {M : b7} {k nt : Nat} {tm : List (Nat × PV)} (hf : fresh M k) : uF ⟨tm, nt, k, [.row .rw 0 [.v (.string ⟨#[]⟩), .v (.int .i64 0), .v (.int .i64 0), .lst .full 0 0 [], .v (.int .i64 0), .v (.int .i64 0), .lst .full 0 0 []]], M⟩ ⟨tm, nt, k, [.row .rw 0 (b9 ⟨[], 0, 0, [], 0, 0, []⟩)], M⟩ := by
 refine ⟨fun _ => .refl _, rfl, rfl, rfl, fun a i o e => ?_⟩
 have e' : seg M k [.row .rw 0 (b9 ⟨[], 0, 0, [], 0, 0, []⟩)] a i = some o := e
 show ∃ o', seg M k _ a i = some o' /\ _
 by_cases ha : a = k
 ·subst ha
  rw [i4] at e' ⊢
  cases i with
  | zero =>
   cases e'
   exact ⟨_, rfl, .row _ _ (.cons (.refl _) (.cons (.refl _) (.cons (.refl _) (.cons (Q2.nil_no _ _ _ rfl) (.cons (.refl _) (.cons (.refl _) (.cons (Q2.nil_no _ _ _ rfl) .nil)))))))⟩
  | succ i => cases e'
 ·rw [l3 _ _ _ ha] at e' ⊢
  exact ⟨o, e', .refl _⟩
theorem aZ6 {M : b7} {a : Nat} {vo px py : PV} {ox oy : Option En} {L : List Pr} (hx : PtE px ox) (hy : PtE py oy) (hM : M a 0 = some (.row .rw 0 [vo])) (h : fC M vo L) (hne : wE vo ≠ some a) (hl : L.length <= 1000000) :
  iY env Tryz.prog 27 [px, py, .ptr a 0 0] M (fun nk z M1 => ∃ vo' k', M1 a 0 = some (.row .rw 0 [vo']) /\ fC M1 vo' (L ++ [L3 ox oy]) /\ nk <= k' /\ fresh M k' /\ wE vo' = some k' /\ ∀ k i, k ≠ a -> wE vo ≠ some k -> M k i ≠ none -> M1 k i = M k i) := by
 refine iY.enterR a6 bEK (by simp) aVD fun k hk hf => RX.seq (RX.of a6 ?_)
 have hak : a ≠ k := fun e => by subst e; rw [hf 0] at hM; cases hM
 have hlda : ∀ {ag : Bool} {n o : Nat} {os : List Pm.Obj} {M : b7}, F7 k os M ag n (.ptr a 0 o) = A9 ag n o (M a 0) := K3 hak
 simp only [G0, Z1, Z2, Z3, Z4, Z5, d5]
 refine RX.weak (aY0 hf) ?_
 refine RX.seq (aPS (px := px) (py := py) (a := a) hx (by exact ⟨rfl, rfl, rfl, rfl⟩) fun tm1 hK1 => ?_)
 refine RX.seq (aPQ (ox := ox) hy hK1 fun tm2 hK2 => ?_)
 obtain ⟨t0, t1, t2, t5⟩ := hK2
 generalize L3 ox oy = X
 have hfl := aSL X
 have hst : ∀ {tm : List (Nat × PV)} {os : List Pm.Obj} {M : b7} {k2 i2 o2 n2 c2 : Nat}, M a 0 = some (.row .rw 0 [vo]) -> M8 tm 34 k os M 1 (.sl k2 i2 o2 n2 c2) (.ptr a 0 0) = some (.junk, ⟨tm, 34, k, os, i6 M a 0 (.row .rw 0 [.sl k2 i2 o2 n2 c2])⟩) := fun {tm os M k2 i2 o2 n2 c2} h => by
  rw [N4 hak, h, n7 (n := 1) (o := 0) (cs := [vo]) (x := .sl k2 i2 o2 n2 c2) ⟨rfl, Nat.le_refl 1, rfl⟩, jL]; rfl
 have old : ∀ {M' : b7} {os : List Pm.Obj} {k' i : Nat}, M k' i ≠ none -> seg M' k os k' i = M' k' i := fun {M' os k' i} h => l3 _ _ _ fun e => by subst e; exact h (hf i)
 have hXo : (b9 X).all p7 = true := rfl
 refine RX.of a6 ?_
 cases h with
 | nil e =>
  simp only [G0, Z1, Z2, Z3, Z4, Z5, t2, t5, hlda, hM, uA, hfl]
  refine aR ?_
  rw [aK2 (m := 1) (n := 0) (by decide) ⟨.inl rfl, by decide, by decide, by decide, rfl, hXo⟩]
  simp only [G0, Z1, Z2, Z3, Z4, Z5, hst, hM, t2]
  refine aSV ⟨_, k, by rw [l3 _ _ _ hak]; exact D6 _ _ _ _, ?_, Nat.le_refl _, hf, rfl, fun k' i h1 h2 h3 => by rw [old h3, iN (fun y => h1 y.1)]⟩
  exact fC.row (k := k) (i := 1) (w := .rw) (by rw [i4]; simp) (.inl rfl) rfl (by decide)
 | @row k1 i1 n w L hM1 hw hn h0 =>
  subst hn
  have hka : k1 ≠ a := fun e => hne (by subst e; rfl)
  have hk1 : k1 ≠ k := fun e => by subst e; rw [hf i1] at hM1; cases hM1
  simp only [G0, Z1, Z2, Z3, Z4, Z5, t2, t5, hlda, hM, uA, hfl]
  refine aR ?_
  rw [aM8 (m := 1) (n := L.length) (by decide) h0 hk1 (oR (by decide)) hw hM1 (aJ1 L).symm ⟨by omega, by omega, by decide, rfl, hXo⟩]
  have hMa : i6 M k1 i1 .gone a 0 = some (.row .rw 0 [.sl k1 i1 0 L.length (g6 L.length 7)]) := by rw [iN (fun y => hka y.1.symm)]; exact hM
  simp only [G0, Z1, Z2, Z3, Z4, Z5, hst, hMa, t2]
  refine aSV ⟨_, k, by rw [l3 _ _ _ hak]; exact D6 _ _ _ _, ?_, Nat.le_refl _, hf, rfl, fun k' i h1 h2 h3 => by rw [old h3, iN (fun y => h1 y.1), iN (fun y => h2 (by rw [y.1]; rfl))]⟩
  exact fC.row (k := k) (i := 1) (w := .own) (by rw [i4, List.flatMap_append]; simp) (.inr rfl) (by simp) (by omega)
end Go.Proofs.YtnmidpahhhdlpaaGreatDoor
end
noncomputable section
namespace Go.Proofs.YtnmidpahhhdlpaaGreatDoor
open Go Go.Am Go.Pm
theorem jQ (a : List UInt8) : Q7 a a = 0 := by unfold Q7; rw [lt_irrefl]; rfl
theorem dX {a b : List UInt8} (h : Q7 a b = 0) : a = b := by
 unfold Q7 at h
 cases h1 : i8 a b with
 | true => rw [h1] at h; cases h
 | false =>
  rw [h1] at h
  cases h2 : i8 b a with
  | true => rw [h2] at h; cases h
  | false => exact pH h1 h2
theorem cA {a b : List UInt8} : Q7 a b < 0 ↔ i8 a b = true := by
 unfold Q7
 cases h1 : i8 a b with
 | true => exact ⟨fun _ => rfl, fun _ => by rw [if_pos rfl]; decide⟩
 | false =>
  rw [if_neg (by decide)]
  constructor
  ·intro h; split at h <;> omega
  ·intro h; cases h
theorem aFQ (a b : List UInt8) : Q7 b a = - Q7 a b := by
 unfold Q7
 cases h1 : i8 a b with
 | true =>
  cases h2 : i8 b a with
  | true => have := dH h1 h2; rw [lt_irrefl] at this; cases this
  | false => rfl
 | false => cases h2 : i8 b a <;> rfl
theorem aAO {a b c : List UInt8} (h1 : Q7 a b < 0) (h2 : Q7 b c < 0) : Q7 a c < 0 := cA.2 (dH (cA.1 h1) (cA.1 h2))
theorem sN : ∀ l : List (List UInt8), P2 l l = 0
 | [] => rfl
 | x :: r => by rw [P2, if_pos (jQ x)]; exact sN r
theorem sX : ∀ {l m : List (List UInt8)}, P2 l m = 0 -> l = m
 | [], [], _ => rfl
 | [], _ :: _, h => by cases h
 | _ :: _, [], h => by cases h
 | x :: r, y :: q, h => by
  rw [P2] at h
  split at h
  ·rename_i h1
   rw [dX h1, sX h]
  ·rename_i h1; exact absurd h h1
theorem sU : ∀ l m : List (List UInt8), P2 m l = - P2 l m
 | [], [] => rfl
 | [], _ :: _ => rfl
 | _ :: _, [] => rfl
 | x :: r, y :: q => by
  have hs := aFQ x y
  have ih := sU r q
  rw [P2, P2]
  by_cases h : Q7 x y = 0
  ·rw [if_pos h, if_pos (by omega)]; exact ih
  ·rw [if_neg h, if_neg (by omega)]; exact hs
theorem pG : ∀ {l m n : List (List UInt8)}, P2 l m < 0 -> P2 m n < 0 -> P2 l n < 0
 | [], [], _, h, _ => absurd h (by show ¬ (0 : Int) < 0; decide)
 | _ :: _, [], _, h, _ => absurd h (by show ¬ (1 : Int) < 0; decide)
 | _, _ :: _, [], _, h => absurd h (by show ¬ (1 : Int) < 0; decide)
 | [], _ :: _, _ :: _, _, _ => by show (-1 : Int) < 0; decide
 | x :: r, y :: q, z :: p, h1, h2 => by
  have ih := @pG r q p
  rw [P2] at h1 h2 ⊢
  by_cases e1 : Q7 x y = 0
  ·have := dX e1; subst this
   rw [if_pos (jQ x)] at h1
   by_cases e2 : Q7 x z = 0
   ·rw [if_pos e2] at h2 ⊢; exact ih h1 h2
   ·rw [if_neg e2] at h2 ⊢; exact h2
  ·rw [if_neg e1] at h1
   by_cases e2 : Q7 y z = 0
   ·have := dX e2; subst this
    rw [if_neg e1]; exact h1
   ·rw [if_neg e2] at h2
    have h3 := aAO h1 h2
    rw [if_neg (by omega)]; exact h3
def m8 : List (List UInt8) -> List UInt8
 | [] => []
 | [p] => p
 | p :: q :: r => p ++ 47 :: m8 (q :: r)
theorem J3 : ∀ s : List UInt8, m8 (b6 s) = s
 | [] => rfl
 | c :: r => by
  have ih := J3 r
  unfold b6
  by_cases hc : c = 47
  ·rw [if_pos hc]
   cases hp : b6 r with
   | nil => have := K6 r; rw [hp] at this; cases this
   | cons p ps => rw [hp] at ih; rw [m8, ih, hc]; rfl
  ·rw [if_neg hc]
   cases hp : b6 r with
   | nil => have := K6 r; rw [hp] at this; cases this
   | cons p ps =>
    rw [hp] at ih
    dsimp only
    cases ps with
    | nil => rw [m8] at ih ⊢; rw [ih]
    | cons q qs => rw [m8] at ih ⊢; rw [List.cons_append, ih]
theorem aGS {a b : List UInt8} (h : b6 a = b6 b) : a = b := by rw [<- J3 a, h, J3]
theorem U1 (a : List UInt8) : v4 a a = false := by unfold v4 aGN; rw [sN]; rfl
theorem S9 {a b c : List UInt8} (h1 : v4 a b = true) (h2 : v4 b c = true) : v4 a c = true := by
 unfold v4 aGN at *
 exact decide_eq_true (pG (of_decide_eq_true h1) (of_decide_eq_true h2))
theorem zS {a b : List UInt8} (h1 : v4 a b = false) (h2 : v4 b a = false) : a = b := by
 unfold v4 aGN at *
 have h3 := of_decide_eq_false h1
 have h4 := of_decide_eq_false h2
 have h5 := sU (b6 a) (b6 b)
 exact aGS (sX (by omega))
theorem vW {a b : En} : byI a b < 0 ↔ v4 a.path b.path = true := by
 unfold byI
 cases h1 : v4 a.path b.path with
 | true => exact ⟨fun _ => rfl, fun _ => by rw [if_pos rfl]; decide⟩
 | false =>
  rw [if_neg (by decide)]
  constructor
  ·intro h; split at h <;> omega
  ·intro h; cases h
theorem uE {a b : En} (h1 : ¬ byI a b < 0) (h2 : ¬ byI b a < 0) : a.path = b.path := by
 rw [vW] at h1 h2
 exact zS (by simpa using h1) (by simpa using h2)
def n6 : Nat -> List En -> List En -> List Pr
 | 0, _, _ => []
 | n + 1, a, b => match a, b with
  | [], [] => []
  | x :: r, [] => L3 (some x) none :: n6 n r []
  | [], y :: q => L3 none (some y) :: n6 n [] q
  | x :: r, y :: q => if byI x y < 0 then L3 (some x) none :: n6 n r (y :: q) else if byI y x < 0 then L3 none (some y) :: n6 n (x :: r) q else L3 (some x) (some y) :: n6 n r q
theorem nQ (n : Nat) : n6 n [] [] = [] := by cases n <;> rfl
theorem Y2 (n : Nat) (x : En) (r : List En) : n6 (n + 1) (x :: r) [] = L3 (some x) none :: n6 n r [] := rfl
theorem Z0 (n : Nat) (y : En) (q : List En) : n6 (n + 1) [] (y :: q) = L3 none (some y) :: n6 n [] q := rfl
theorem S3 (n : Nat) (x y : En) (r q : List En) : n6 (n + 1) (x :: r) (y :: q) = if byI x y < 0 then L3 (some x) none :: n6 n r (y :: q) else if byI y x < 0 then L3 none (some y) :: n6 n (x :: r) q else L3 (some x) (some y) :: n6 n r q := rfl
theorem H2 : ∀ (n : Nat) (a b : List En), (n6 n a b).length <= n
 | 0, _, _ => Nat.le_refl _
 | n + 1, [], [] => Nat.zero_le _
 | n + 1, x :: r, [] => Nat.succ_le_succ (H2 n r [])
 | n + 1, [], y :: q => Nat.succ_le_succ (H2 n [] q)
 | n + 1, x :: r, y :: q => by
  rw [S3]
  split
  ·exact Nat.succ_le_succ (H2 n _ _)
  ·split
   ·exact Nat.succ_le_succ (H2 n _ _)
   ·exact Nat.succ_le_succ (H2 n _ _)
def Srt (l : List En) : Prop := l.Pairwise (fun x y => v4 x.path y.path = true)
theorem A3 : ∀ (n : Nat) (a b : List En) (p : Pr), p ∈ n6 n a b -> (∃ x ∈ a, x.path = p.path) \/ (∃ y ∈ b, y.path = p.path)
 | 0, _, _, p, h => by cases h
 | n + 1, [], [], p, h => by cases h
 | n + 1, x :: r, [], p, h => by
  rw [Y2] at h
  rcases List.mem_cons.1 h with rfl | h
  ·exact .inl ⟨x, List.mem_cons_self, rfl⟩
  ·rcases A3 n r [] p h with ⟨z, h1, h2⟩ | ⟨z, h1, h2⟩
   ·exact .inl ⟨z, List.mem_cons_of_mem _ h1, h2⟩
   ·cases h1
 | n + 1, [], y :: q, p, h => by
  rw [Z0] at h
  rcases List.mem_cons.1 h with rfl | h
  ·exact .inr ⟨y, List.mem_cons_self, rfl⟩
  ·rcases A3 n [] q p h with ⟨z, h1, h2⟩ | ⟨z, h1, h2⟩
   ·cases h1
   ·exact .inr ⟨z, List.mem_cons_of_mem _ h1, h2⟩
 | n + 1, x :: r, y :: q, p, h => by
  rw [S3] at h
  have up : ((∃ z ∈ r, z.path = p.path) \/ (∃ z ∈ q, z.path = p.path)) -> ((∃ z ∈ x :: r, z.path = p.path) \/ (∃ z ∈ y :: q, z.path = p.path)) := by
   rintro (⟨z, h1, h2⟩ | ⟨z, h1, h2⟩)
   ·exact .inl ⟨z, List.mem_cons_of_mem _ h1, h2⟩
   ·exact .inr ⟨z, List.mem_cons_of_mem _ h1, h2⟩
  split at h
  ·rcases List.mem_cons.1 h with rfl | h
   ·exact .inl ⟨x, List.mem_cons_self, rfl⟩
   ·rcases A3 n _ _ p h with ⟨z, h1, h2⟩ | h1
    ·exact .inl ⟨z, List.mem_cons_of_mem _ h1, h2⟩
    ·exact .inr h1
  ·split at h
   ·rcases List.mem_cons.1 h with rfl | h
    ·exact .inr ⟨y, List.mem_cons_self, rfl⟩
    ·rcases A3 n _ _ p h with h1 | ⟨z, h1, h2⟩
     ·exact .inl h1
     ·exact .inr ⟨z, List.mem_cons_of_mem _ h1, h2⟩
   ·rcases List.mem_cons.1 h with rfl | h
    ·exact .inr ⟨y, List.mem_cons_self, rfl⟩
    ·exact up (A3 n _ _ p h)
theorem J7 : ∀ (n : Nat) (a b : List En), Srt a -> Srt b -> (n6 n a b).Pairwise (fun p q => v4 p.path q.path = true)
 | 0, _, _, _, _ => .nil
 | n + 1, [], [], _, _ => .nil
 | n + 1, x :: r, [], ha, hb => by
  rw [Y2]
  obtain ⟨h1, h2⟩ := List.pairwise_cons.1 ha
  refine List.pairwise_cons.2 ⟨fun p hp => ?_, J7 n r [] h2 hb⟩
  rcases A3 n _ _ p hp with ⟨z, h3, h4⟩ | ⟨z, h3, h4⟩
  ·rw [<- h4]; exact h1 z h3
  ·cases h3
 | n + 1, [], y :: q, ha, hb => by
  rw [Z0]
  obtain ⟨h1, h2⟩ := List.pairwise_cons.1 hb
  refine List.pairwise_cons.2 ⟨fun p hp => ?_, J7 n [] q ha h2⟩
  rcases A3 n _ _ p hp with ⟨z, h3, h4⟩ | ⟨z, h3, h4⟩
  ·cases h3
  ·rw [<- h4]; exact h1 z h3
 | n + 1, x :: r, y :: q, ha, hb => by
  rw [S3]
  obtain ⟨h1, h2⟩ := List.pairwise_cons.1 ha
  obtain ⟨g1, g2⟩ := List.pairwise_cons.1 hb
  split
  ·rename_i hc
   have hl := vW.1 hc
   refine List.pairwise_cons.2 ⟨fun p hp => ?_, J7 n r _ h2 hb⟩
   rcases A3 n _ _ p hp with ⟨z, h3, h4⟩ | ⟨z, h3, h4⟩
   ·rw [<- h4]; exact h1 z h3
   ·rw [<- h4]
    rcases List.mem_cons.1 h3 with rfl | h3
    ·exact hl
    ·exact S9 hl (g1 z h3)
  ·rename_i hc
   split
   ·rename_i hd
    have hl := vW.1 hd
    refine List.pairwise_cons.2 ⟨fun p hp => ?_, J7 n _ q ha g2⟩
    rcases A3 n _ _ p hp with ⟨z, h3, h4⟩ | ⟨z, h3, h4⟩
    ·rw [<- h4]
     rcases List.mem_cons.1 h3 with rfl | h3
     ·exact hl
     ·exact S9 hl (h1 z h3)
    ·rw [<- h4]; exact g1 z h3
   ·rename_i hd
    have he := uE hc hd
    refine List.pairwise_cons.2 ⟨fun p hp => ?_, J7 n r q h2 g2⟩
    show v4 y.path p.path = true
    rcases A3 n _ _ p hp with ⟨z, h3, h4⟩ | ⟨z, h3, h4⟩
    ·rw [<- h4, <- he]; exact h1 z h3
    ·rw [<- h4]; exact g1 z h3
def aFJ (p : Pr) : Option En := if p.ak = 0 then none else some ⟨p.path, p.ak, p.am, p.ab⟩
def aF9 (p : Pr) : Option En := if p.bk = 0 then none else some ⟨p.path, p.bk, p.bm, p.bb⟩
theorem aK5 {x : En} (h : x.kind ≠ 0) : aFJ (L3 (some x) none) = some x := by
 show (if x.kind = 0 then none else some (En.mk x.path x.kind x.mode x.bytes)) = _
 rw [if_neg h]
theorem aJ7 {y : En} (h : y.kind ≠ 0) : aF9 (L3 none (some y)) = some y := by
 show (if y.kind = 0 then none else some (En.mk y.path y.kind y.mode y.bytes)) = _
 rw [if_neg h]
theorem aHR {y : En} : aFJ (L3 none (some y)) = none := rfl
theorem aHB {x : En} : aF9 (L3 (some x) none) = none := rfl
theorem aO0 {x y : En} (h : x.kind ≠ 0) (he : x.path = y.path) : aFJ (L3 (some x) (some y)) = some x := by
 show (if x.kind = 0 then none else some (En.mk y.path x.kind x.mode x.bytes)) = _
 rw [if_neg h, <- he]
theorem aOE {x y : En} (h : y.kind ≠ 0) : aF9 (L3 (some x) (some y)) = some y := by
 show (if y.kind = 0 then none else some (En.mk y.path y.kind y.mode y.bytes)) = _
 rw [if_neg h]
theorem U0 : ∀ (n : Nat) (a b : List En), a.length + b.length <= n -> (∀ x ∈ a, x.kind ≠ 0) -> (n6 n a b).filterMap aFJ = a
 | n, [], [], _, _ => by rw [nQ]; rfl
 | 0, _ :: _, _, h, _ => by simp only [List.length_cons] at h; omega
 | 0, _, _ :: _, h, _ => by simp only [List.length_cons] at h; omega
 | n + 1, x :: r, [], h, ha => by
  simp only [List.length_cons, List.length_nil] at h
  rw [Y2, List.filterMap_cons, aK5 (ha x List.mem_cons_self)]
  dsimp only
  rw [U0 n r [] (by simp only [List.length_nil]; omega) fun z hz => ha z (List.mem_cons_of_mem _ hz)]
 | n + 1, [], y :: q, h, ha => by
  simp only [List.length_cons, List.length_nil] at h
  rw [Z0, List.filterMap_cons, aHR]
  dsimp only
  exact U0 n [] q (by simp only [List.length_nil]; omega) ha
 | n + 1, x :: r, y :: q, h, ha => by
  simp only [List.length_cons] at h
  have hx := ha x List.mem_cons_self
  have hr : ∀ z ∈ r, z.kind ≠ 0 := fun z hz => ha z (List.mem_cons_of_mem _ hz)
  rw [S3]
  split
  ·rw [List.filterMap_cons, aK5 hx]
   dsimp only
   rw [U0 n r (y :: q) (by simp only [List.length_cons]; omega) hr]
  ·rename_i h1
   split
   ·rw [List.filterMap_cons, aHR]
    dsimp only
    exact U0 n (x :: r) q (by simp only [List.length_cons]; omega) ha
   ·rename_i h2
    rw [List.filterMap_cons, aO0 hx (uE h1 h2)]
    dsimp only
    rw [U0 n r q (by omega) hr]
theorem T3 : ∀ (n : Nat) (a b : List En), a.length + b.length <= n -> (∀ x ∈ b, x.kind ≠ 0) -> (n6 n a b).filterMap aF9 = b
 | n, [], [], _, _ => by rw [nQ]; rfl
 | 0, _ :: _, _, h, _ => by simp only [List.length_cons] at h; omega
 | 0, _, _ :: _, h, _ => by simp only [List.length_cons] at h; omega
 | n + 1, x :: r, [], h, hb => by
  simp only [List.length_cons, List.length_nil] at h
  rw [Y2, List.filterMap_cons, aHB]
  dsimp only
  exact T3 n r [] (by simp only [List.length_nil]; omega) hb
 | n + 1, [], y :: q, h, hb => by
  simp only [List.length_cons, List.length_nil] at h
  rw [Z0, List.filterMap_cons, aJ7 (hb y List.mem_cons_self)]
  dsimp only
  rw [T3 n [] q (by simp only [List.length_nil]; omega) fun z hz => hb z (List.mem_cons_of_mem _ hz)]
 | n + 1, x :: r, y :: q, h, hb => by
  simp only [List.length_cons] at h
  have hy := hb y List.mem_cons_self
  have hq : ∀ z ∈ q, z.kind ≠ 0 := fun z hz => hb z (List.mem_cons_of_mem _ hz)
  rw [S3]
  split
  ·rw [List.filterMap_cons, aHB]
   dsimp only
   exact T3 n r (y :: q) (by simp only [List.length_cons]; omega) hb
  ·rename_i h1
   split
   ·rw [List.filterMap_cons, aJ7 hy]
    dsimp only
    rw [T3 n (x :: r) q (by simp only [List.length_cons]; omega) hq]
   ·rw [List.filterMap_cons, aOE hy]
    dsimp only
    rw [T3 n r q (by omega) hq]
theorem sZ (t : List En) : ∀ (l : List En) (i j : Nat) (x : En), s8 t i l = true -> l[j]? = some x -> R5 t (i + j) x = true
 | [], i, j, x, _, h => by simp at h
 | y :: r, i, 0, x, h, hx => by
  unfold s8 at h
  rw [Bool.and_eq_true] at h
  cases hx
  exact h.1
 | y :: r, i, j + 1, x, h, hx => by
  unfold s8 at h
  rw [Bool.and_eq_true] at h
  have := sZ t r (i + 1) j x h.2 (by simpa using hx)
  rw [show i + 1 + j = i + (j + 1) from by omega] at this
  exact this
theorem vZ {t : List En} (h : r5 t = true) {j : Nat} {x : En} (hx : t[j]? = some x) : R5 t j x = true := by
 unfold r5 at h
 rw [Bool.and_eq_true] at h
 have := sZ t t 0 j x h.2 hx
 rwa [Nat.zero_add] at this
theorem tH {t : List En} (h : r5 t = true) {x : En} (hx : x ∈ t) : x.kind ≠ 0 := by
 obtain ⟨j, hj⟩ := List.mem_iff_getElem?.1 hx
 have := vZ h hj
 unfold R5 O7 at this
 simp only [Bool.and_eq_true, Bool.not_eq_true', Bool.or_eq_false_iff, decide_eq_false_iff_not] at this
 omega
theorem yE {t : List En} (h : r5 t = true) : Srt t := by
 have step : ∀ (d i : Nat) (x y : En), t[i]? = some x -> t[i + d + 1]? = some y -> v4 x.path y.path = true := by
  intro d
  induction d with
  | zero =>
   intro i x y hx hy
   have := vZ h hy
   unfold R5 at this
   simp only [Bool.and_eq_true] at this
   have hp := this.1.2
   unfold aP at hp
   simp only [Nat.add_zero, hx] at hp
   exact hp
  | succ d ih =>
   intro i x y hx hy
   obtain ⟨z, hz, -⟩ := E6 (xs := t) (i := i + d + 1) (by have := vD hy; omega)
   have h1 := ih i x z hx hz
   have := vZ h hy
   unfold R5 at this
   simp only [Bool.and_eq_true] at this
   have hp := this.1.2
   unfold aP at hp
   have e : i + (d + 1) + 1 = (i + d + 1) + 1 := by omega
   rw [e] at hp
   simp only [hz] at hp
   exact S9 h1 hp
 refine List.pairwise_iff_getElem.2 fun i j hi hj hij => ?_
 obtain ⟨d, rfl⟩ : ∃ d, j = i + d + 1 := ⟨j - i - 1, by omega⟩
 exact step d i _ _ (List.getElem?_eq_getElem hi) (List.getElem?_eq_getElem hj)
end Go.Proofs.YtnmidpahhhdlpaaGreatDoor
end
namespace Go.Proofs.YtnmidpahhhdlpaaGreatDoor
open Go Go.Am Go.Pm
theorem aN1 {l : List UInt8} {i j : Nat} {k k' : IntKind} (h1 : i <= j) (h2 : j <= l.length) : D4 (str l) (some (.v (.int k (i : Int)))) (some (.v (.int k' (j : Int)))) = some (str ((l.drop i).take (j - i))) := by
 unfold D4
 simp only [Option.map_some, w7]
 show (if i <= j /\ j <= l.length then some (PV.v (.string ⟨((l.drop i).take (j - i)).toArray⟩)) else none) = _
 rw [if_pos ⟨h1, h2⟩]
def aAL (p : List UInt8) : Prop := ∀ c ∈ p, c ≠ 47
theorem tE : ∀ (p : List UInt8), aAL p -> ∀ r, b6 (p ++ 47 :: r) = p :: b6 r
 | [], _, r => by
  show b6 (47 :: r) = _
  conv => lhs; unfold b6
  rw [if_pos rfl]
 | c :: p, h, r => by
  have ih := tE p (fun x hx => h x (List.mem_cons_of_mem _ hx)) r
  show b6 (c :: (p ++ 47 :: r)) = _
  conv => lhs; unfold b6
  rw [if_neg (h c List.mem_cons_self), ih]
theorem pL : ∀ (p : List UInt8), aAL p -> b6 p = [p]
 | [], _ => rfl
 | c :: p, h => by
  have ih := pL p (fun x hx => h x (List.mem_cons_of_mem _ hx))
  unfold b6
  rw [if_neg (h c List.mem_cons_self), ih]
theorem nM : ∀ (s : List UInt8), ∀ p ∈ b6 s, aAL p
 | [], p, hp => by
  rw [show b6 [] = [[]] from rfl, List.mem_singleton] at hp
  subst hp; intro c hc; cases hc
 | c :: r, p, hp => by
  have ih := nM r
  unfold b6 at hp
  by_cases hc : c = 47
  ·rw [if_pos hc] at hp
   rcases List.mem_cons.1 hp with rfl | hp
   ·intro c hc; cases hc
   ·exact ih p hp
  ·rw [if_neg hc] at hp
   cases hpr : b6 r with
   | nil =>
    rw [hpr] at hp
    dsimp only at hp
    rw [List.mem_singleton] at hp
    subst hp
    intro x hx
    rw [List.mem_singleton] at hx
    rw [hx]; exact hc
   | cons q qs =>
    rw [hpr] at hp ih
    dsimp only at hp
    rcases List.mem_cons.1 hp with rfl | hp
    ·intro x hx
     rcases List.mem_cons.1 hx with rfl | hx
     ·exact hc
     ·exact ih q List.mem_cons_self x hx
    ·exact ih p (List.mem_cons_of_mem _ hp)
def V0 (s : List UInt8) : List PV := [str s]
theorem iR (l : List (List UInt8)) : l.flatMap V0 = l.map str := by
 induction l with
 | nil => rfl
 | cons x l ih => rw [List.flatMap_cons, List.map_cons, ih]; rfl
theorem aA2 {k : Nat} {os : List Pm.Obj} {j : Option Nat} {v : PV} {L : List (List UInt8)} (h : B2 V0 1 k os j v L) : Q2 v (l5 L) := by
 have := h.le
 rw [iR] at this
 exact this
structure K76 (tm : List (Nat × PV)) (s : List UInt8) (v : PV) (f i : Nat) : Prop where
 t0 : a7 tm 0 = str s
 t3 : a7 tm 3 = v
 t4 : a7 tm 4 = iv f
 t5 : a7 tm 5 = iv i
theorem aUK (s : List UInt8) (hl : s.length <= 1000000) (M : b7) (k : Nat) (Q : c9 -> c5 -> Prop)
  (q : ∀ tm os j v done f, B2 V0 1 k os j v done -> K76 tm s v f s.length -> f <= s.length -> done.length <= f -> b6 s = done ++ [s.drop f] -> Q (.exit 0) ⟨tm, 31, k, os, M⟩) :
  ∀ d i os j v done f tm, s.length - i = d -> i <= s.length -> f <= i -> done.length <= f -> B2 V0 1 k os j v done -> b6 s = done ++ b6 (s.drop f) -> aAL ((s.drop f).take (i - f)) -> K76 tm s v f i -> u0 env Tryz.prog none aGX ⟨tm, 31, k, os, M⟩ Q := by
 intro d
 induction d with
 | zero =>
  intro i os j v done f tm hd hi hfi hdl hO hp hn hK
  have : i = s.length := by omega
  subst this
  obtain ⟨t0, t3, t4, t5⟩ := hK
  refine u0.round (RX.of a6 ?_)
  simp only [G0, Z1, Z2, Z3, Z4, Z5, t0, t5, Int.lt_irrefl, decide_false]
  rw [List.take_of_length_le (by rw [List.length_drop]; omega)] at hn
  rw [pL _ hn] at hp
  exact q _ _ _ _ _ f hO ⟨t0, t3, t4, t5⟩ hfi hdl hp
 | succ d ih =>
  intro i os j v done f tm hd hi hfi hdl hO hp hn hK
  obtain ⟨t0, t3, t4, t5⟩ := hK
  have hi' : i < s.length := by omega
  have hii : (i : Int) < s.length := by omega
  obtain ⟨b, hb, hdb⟩ := E6 hi'
  have hw : IntKind.i64.wrap ((i : Int) + 1) = ((i + 1 : Nat) : Int) := by rw [d3 (by omega) (by omega)]; rfl
  have hix : Y5 (str s) (.v (.int .i64 (i : Int))) = some (A5 b) := V4 hb
  have hsplit : s.drop f = (s.drop f).take (i - f) ++ b :: s.drop (i + 1) := by
   conv => lhs; rw [<- List.take_append_drop (i - f) (s.drop f)]
   rw [List.drop_drop, show f + (i - f) = i from by omega, hdb]
  refine u0.round (RX.of a6 ?_)
  by_cases hc : b = 47
  ·have hbe : ((b.toNat : Int) == 47) = true := by rw [hc]; rfl
   have hsl : D4 (str s) (some (.v (.int .i64 (f : Int)))) (some (.v (.int .i64 (i : Int)))) = some (str ((s.drop f).take (i - f))) := aN1 hfi (by omega)
   obtain ⟨v', os', j', h1, h2⟩ := hO.push (by_ := 16) (by omega) (by omega) (by decide) ((s.drop f).take (i - f)) rfl .full
   have h1' : ∀ {tm : List (Nat × PV)} {nt : Nat} {M : b7}, W7 ⟨tm, nt, k, os, M⟩ 1 16 1 v (.lst .full 1 1 [str ((s.drop f).take (i - f))]) = some (v', ⟨tm, nt, k, os', M⟩) := h1
   simp only [G0, Z1, Z2, Z3, Z4, Z5, t0, t3, t4, t5, hii, decide_true, hix, A5, hbe, hsl]
   refine aL ?_
   rw [h1']
   simp only [G0, Z1, Z2, Z3, Z4, Z5, t5, hw]
   refine ih (i + 1) os' j' v' _ (i + 1) _ (by omega) (by omega) (Nat.le_refl _) (by simp; omega) h2 ?_ ?_ ⟨t0, rfl, rfl, rfl⟩
   ·rw [hsplit, hc, tE _ hn] at hp
    rw [hp, List.append_assoc]; rfl
   ·rw [Nat.sub_self, List.take_zero]; intro c hc; cases hc
  ·have hbe : ((b.toNat : Int) == 47) = false := by
    cases h : ((b.toNat : Int) == 47) with
    | false => rfl
    | true =>
     have := eq_of_beq h
     exact absurd (UInt8.toNat_inj.1 (show b.toNat = (47 : UInt8).toNat from by show b.toNat = 47; omega)) hc
   simp only [G0, Z1, Z2, Z3, Z4, Z5, t0, t3, t4, t5, hii, decide_true, hix, A5, hbe, hw]
   refine ih (i + 1) os j v done f _ (by omega) (by omega) (by omega) hdl hO hp ?_ ⟨t0, t3, t4, rfl⟩
   have e : (s.drop f).take (i + 1 - f) = (s.drop f).take (i - f) ++ [b] := by
    rw [show i + 1 - f = (i - f) + 1 from by omega, List.take_add_one, List.getElem?_drop, show f + (i - f) = i from by omega, hb]; rfl
   rw [e]
   intro c hc'
   rcases List.mem_append.1 hc' with h | h
   ·exact hn c h
   ·rw [List.mem_singleton] at h; rw [h]; exact hc
theorem aCJ (s : List UInt8) (hl : s.length <= 1000000) : r8 env Tryz.prog 76 [str s] (l5 (b6 s)) := r8.of fun M => by
 refine PT.enterR a6 bCM (by simp) aWW fun k hk hf => RX.of a6 ?_
 simp only [G0, Z1, Z2, Z3, Z4, Z5, d5]
 refine RX.loop (aUK s hl M k _ (fun tm os j v done f hO hK hfl hdl hp => ?_) s.length 0 [] none _ [] 0 _ rfl (Nat.zero_le _) (Nat.le_refl _) (Nat.le_refl _) (.nil 0) rfl (fun c hc => by cases hc) (by exact ⟨rfl, rfl, rfl, rfl⟩))
 obtain ⟨t0, t3, t4, t5⟩ := hK
 have hsl : D4 (str s) (some (.v (.int .i64 (f : Int)))) none = some (str (s.drop f)) := cC hfl
 obtain ⟨v', os', j', h1, h2⟩ := hO.push (by_ := 16) (by omega) (by omega) (by decide) (s.drop f) rfl .full
 have h1' : ∀ {tm : List (Nat × PV)} {nt : Nat} {M : b7}, W7 ⟨tm, nt, k, os, M⟩ 1 16 1 v (.lst .full 1 1 [str (s.drop f)]) = some (v', ⟨tm, nt, k, os', M⟩) := h1
 simp only [G0, Z1, Z2, Z3, Z4, Z5, t0, t3, t4, hsl]
 refine aL ?_
 rw [h1']
 simp only [G0, Z1, Z2, Z3, Z4, Z5]
 rw [hp]
 exact i9 hf rfl ⟨aA2 h2, rfl⟩
end Go.Proofs.YtnmidpahhhdlpaaGreatDoor
noncomputable section
namespace Go.Proofs.YtnmidpahhhdlpaaGreatDoor
open Go Go.Am Go.Pm
def aOA (n : Int) : Bool := (((decide (n < 97) || decide (n > 122)) && (decide (n < 48) || decide (n > 57))) && (n != 46)) && (n != 95) && (n != 45)
theorem aNF : (List.range 256).all (fun n => aOA (n : Int) == !(k8.any fun x => x.toNat == n)) = true := by kernel_rfl
theorem aUM (b : UInt8) : aOA (b.toNat : Int) = !qV b := by
 have h := List.all_eq_true.1 aNF b.toNat (List.mem_range.2 b.toNat_lt)
 have h := eq_of_beq h
 rw [h]
 unfold qV
 rw [tU]
theorem aTP (s : List UInt8) (hl : s.length <= 1000000) (M : b7) (k : Nat) (Q : c9 -> c5 -> Prop) (q1 : s.all qV = true -> ∀ tm, a7 tm 0 = str s -> Q (.exit 0) ⟨tm, 56, k, [], M⟩) (q2 : s.all qV = false -> ∀ tm, a7 tm 2 = bv false -> Q .ret ⟨tm, 56, k, [], M⟩) :
  ∀ d i tm, s.length - i = d -> i <= s.length -> s.all qV = (s.drop i).all qV -> a7 tm 0 = str s -> a7 tm 3 = iv i -> u0 env Tryz.prog none aK8 ⟨tm, 56, k, [], M⟩ Q := by
 intro d
 induction d with
 | zero =>
  intro i tm hd hi hp t0 t3
  have : i = s.length := by omega
  subst this
  refine u0.round (RX.of a6 ?_)
  simp only [G0, Z1, Z2, Z3, Z4, Z5, t0, t3, Int.lt_irrefl, decide_false]
  exact q1 (by rw [hp, List.drop_of_length_le (Nat.le_refl _)]; rfl) _ t0
 | succ d ih =>
  intro i tm hd hi hp t0 t3
  have hi' : i < s.length := by omega
  have hii : (i : Int) < s.length := by omega
  obtain ⟨b, hb, hdb⟩ := E6 hi'
  have hw : IntKind.i64.wrap ((i : Int) + 1) = ((i + 1 : Nat) : Int) := by rw [d3 (by omega) (by omega)]; rfl
  have hix : Y5 (str s) (.v (.int .i64 (i : Int))) = some (A5 b) := V4 hb
  rw [hdb, List.all_cons] at hp
  have hbad := aUM b
  refine u0.round (RX.of a6 ?_)
  simp only [G0, Z1, Z2, Z3, Z4, Z5, t0, t3, hii, decide_true, hix, A5]
  refine jY (fun hb => ?_) (fun hb => ?_)
  ·simp only [G0, Z1, Z2, Z3, Z4, Z5]
   have h1 : aOA (b.toNat : Int) = true := hb
   rw [h1] at hbad
   refine q2 ?_ _ rfl
   rw [hp, show qV b = false by simpa using hbad.symm]; rfl
  ·simp only [G0, Z1, Z2, Z3, Z4, Z5, t3, hw]
   have h1 : aOA (b.toNat : Int) = false := hb
   rw [h1] at hbad
   refine ih (i + 1) _ (by omega) (by omega) ?_ t0 rfl
   rw [hp, show qV b = true by simpa using hbad.symm]; rfl
theorem aSP (s : List UInt8) (hl : s.length <= 1000000) : r8 env Tryz.prog 77 [str s] (bv (I4 s)) := fun M => by
 refine PT.enterR a6 bDE (by simp) aWA fun k hk hf => RX.of a6 ?_
 simp only [G0, Z1, Z2, Z3, Z4, Z5, d5]
 refine RX.loop (aTP s hl M k _ (fun ha tm t0 => ?_) (fun ha tm t2 => ?_) s.length 0 _ rfl (Nat.zero_le _) rfl rfl rfl)
 ·simp only [G0, Z1, Z2, Z3, Z4, Z5, t0, R8, eD]
  refine i9 hf rfl ⟨?_, rfl⟩
  unfold I4
  rw [ha, Bool.and_true]
  congr 2
  cases s with
  | nil => rfl
  | cons c r =>
   have h1 : decide ((((c :: r).length : Nat) : Int) >= 1) = true := decide_eq_true (by simp only [List.length_cons]; omega)
   have h2 : ((c :: r) != []) = true := rfl
   rw [h1, h2]; rfl
 ·simp only [G0, Z1, Z2, Z3, Z4, Z5]
  refine i9 hf t2 ⟨?_, rfl⟩
  unfold I4
  rw [ha, Bool.and_false]
theorem xQ : ∀ (l : List (List UInt8)) (n : Nat), n <= 6 -> (T5 qJ n l).isSome = (decide (n + l.length <= 6) && l.all I4)
 | [], n, h => by
  show true = _
  rw [decide_eq_true (by simpa using h)]; rfl
 | p :: l, n, h => by
  have hnx : qJ n p = if decide (((n + 1 : Nat) : Int) > 6) || !I4 p then none else some (n + 1) := rfl
  rw [T5, hnx]
  by_cases hn : n + 1 <= 6
  ·rw [decide_eq_false (by omega), Bool.false_or]
   cases hp : I4 p with
   | false =>
    rw [Bool.not_false, if_pos rfl]
    rw [List.all_cons, hp, Bool.false_and, Bool.and_false]; rfl
   | true =>
    rw [Bool.not_true, if_neg (by decide)]
    dsimp only
    rw [xQ l (n + 1) hn, List.all_cons, hp, Bool.true_and, List.length_cons]
    congr 1
    exact decide_eq_decide.2 (by omega)
  ·rw [decide_eq_true (by omega), Bool.true_or, if_pos rfl]
   rw [decide_eq_false (by simp only [List.length_cons]; omega)]; rfl
theorem iZ (s : List UInt8) : E8 s = (decide ((b6 s).length <= 6) && (b6 s).all I4) := by
 unfold E8
 rw [xQ _ _ (Nat.zero_le _), Nat.zero_add]
theorem yS : ∀ (s : List UInt8), ∀ p ∈ b6 s, p.length <= s.length
 | [], p, h => by
  rw [show b6 [] = [[]] from rfl, List.mem_singleton] at h
  subst h; exact Nat.le_refl _
 | c :: r, p, h => by
  have ih := yS r
  unfold b6 at h
  by_cases hc : c = 47
  ·rw [if_pos hc] at h
   rcases List.mem_cons.1 h with rfl | h
   ·exact Nat.zero_le _
   ·exact Nat.le_succ_of_le (ih p h)
  ·rw [if_neg hc] at h
   cases hpr : b6 r with
   | nil =>
    rw [hpr] at h
    dsimp only at h
    rw [List.mem_singleton] at h
    subst h; simp
   | cons q qs =>
    rw [hpr] at h ih
    dsimp only at h
    rcases List.mem_cons.1 h with rfl | h
    ·exact Nat.succ_le_succ (ih q List.mem_cons_self)
    ·exact Nat.le_succ_of_le (ih p (List.mem_cons_of_mem _ h))
theorem aVW (l : List (List UInt8)) (hl : l.length <= 1000001) (hp : ∀ p ∈ l, p.length <= 1000000) (M : b7) (k : Nat) (Q : c9 -> c5 -> Prop) (q1 : l.all I4 = true -> ∀ tm, Q (.exit 0) ⟨tm, 22, k, [], M⟩) (q2 : l.all I4 = false -> ∀ tm, a7 tm 2 = iv 2 -> Q .ret ⟨tm, 22, k, [], M⟩) :
  ∀ d i tm, l.length - i = d -> i <= l.length -> l.all I4 = (l.drop i).all I4 -> a7 tm 3 = l5 l -> a7 tm 4 = iv i -> u0 env Tryz.prog none aHF ⟨tm, 22, k, [], M⟩ Q := by
 intro d
 induction d with
 | zero =>
  intro i tm hd hi ho t3 t4
  have : i = l.length := by omega
  subst this
  have h3 : a7 tm 3 = .lst .no 1 l.length (l.map str) := t3
  refine u0.round (RX.of a6 ?_)
  simp only [G0, Z1, Z2, Z3, Z4, Z5, h3, t4, Int.lt_irrefl, decide_false]
  exact q1 (by rw [ho, List.drop_of_length_le (Nat.le_refl _)]; rfl) _
 | succ d ih =>
  intro i tm hd hi ho t3 t4
  have hi' : i < l.length := by omega
  have hii : (i : Int) < l.length := by omega
  obtain ⟨p, hpi, hdp⟩ := E6 hi'
  have h3 : a7 tm 3 = .lst .no 1 l.length (l.map str) := t3
  have hld := D5 hpi
  have hw : IntKind.i64.wrap ((i : Int) + 1) = ((i + 1 : Nat) : Int) := by rw [d3 (by omega) (by omega)]; rfl
  rw [hdp, List.all_cons] at ho
  refine u0.round (RX.of a6 ?_)
  simp only [G0, Z1, Z2, Z3, Z4, Z5, h3, t4, hii, decide_true, hi', hld]
  refine y7 (aSP p (hp p (List.mem_of_getElem? hpi))) (by decide) ?_
  cases hpo : I4 p with
  | false =>
   simp only [G0, Z1, Z2, Z3, Z4, Z5, Bool.not_false]
   exact q2 (by rw [ho, hpo]; rfl) _ rfl
  | true =>
   simp only [G0, Z1, Z2, Z3, Z4, Z5, Bool.not_true, t4, hw]
   exact ih (i + 1) _ (by omega) (by omega) (by rw [ho, hpo]; rfl) t3 rfl
theorem aCC (s : List UInt8) (hl : s.length <= 1000000) : r8 env Tryz.prog 51 [str s] (iv (kS (E8 s))) := fun M => by
 have hpl := v8 s
 have hpp : ∀ p ∈ b6 s, p.length <= 1000000 := fun p hp => Nat.le_trans (yS s p hp) hl
 refine PT.enterR a6 bDP (by simp) aU7 fun k hk hf => RX.of a6 ?_
 simp only [G0, Z1, Z2, Z3, Z4, Z5, d5]
 refine y7 (aCJ s hl) (by decide) ?_
 rw [iZ]
 generalize b6 s = l at *
 have hlen : T7 (l5 l) = some (iv (l.length : Nat)) := rfl
 by_cases h6 : l.length <= 6
 ·have hgt : ¬ ((l.length : Int) > 6) := by omega
  rw [decide_eq_true h6, Bool.true_and]
  simp only [G0, Z1, Z2, Z3, Z4, Z5, hlen, hgt, decide_false]
  refine RX.loop (aVW l (by omega) hpp M k _ (fun h tm => ?_) (fun h tm t2 => ?_) l.length 0 _ rfl (Nat.zero_le _) rfl (by rfl) (by rfl))
  ·simp only [G0, Z1, Z2, Z3, Z4, Z5]
   exact i9 hf rfl ⟨by rw [h]; rfl, rfl⟩
  ·simp only [G0, Z1, Z2, Z3, Z4, Z5]
   exact i9 hf t2 ⟨by rw [h]; rfl, rfl⟩
 ·have hgt : (l.length : Int) > 6 := by omega
  rw [decide_eq_false h6, Bool.false_and]
  simp only [G0, Z1, Z2, Z3, Z4, Z5, hlen, hgt, decide_true]
  exact i9 hf rfl ⟨rfl, rfl⟩
def ltL (l m : List (List UInt8)) : Bool := decide (P2 l m < 0)
theorem aUA (a b : List (List UInt8)) (ha : a.length <= 1000001) (hb : b.length <= 1000001) (M : b7) (k : Nat) (Q : c9 -> c5 -> Prop)
  (q1 : ∀ tm, a7 tm 5 = l5 a -> a7 tm 6 = l5 b -> P2 a b = (if a.length < b.length then -1 else if b.length < a.length then 1 else 0) -> Q (.exit 0) ⟨tm, 47, k, [], M⟩) (q2 : ∀ tm, a7 tm 4 = bv (ltL a b) -> Q .ret ⟨tm, 47, k, [], M⟩) :
  ∀ d i tm, a.length - i = d -> i <= a.length -> i <= b.length -> P2 a b = P2 (a.drop i) (b.drop i) -> a7 tm 5 = l5 a -> a7 tm 6 = l5 b -> a7 tm 7 = iv i -> u0 env Tryz.prog none aG7 ⟨tm, 47, k, [], M⟩ Q := by
 intro d
 induction d with
 | zero =>
  intro i tm hd hi hib ho t5 t6 t7
  have : i = a.length := by omega
  subst this
  have h5 : a7 tm 5 = .lst .no 1 a.length (a.map str) := t5
  refine u0.round (RX.of a6 ?_)
  simp only [G0, Z1, Z2, Z3, Z4, Z5, h5, t7, Int.lt_irrefl, decide_false, i7, j0]
  refine q1 _ t5 t6 ?_
  rw [ho, List.drop_of_length_le (Nat.le_refl _)]
  by_cases h : a.length < b.length
  ·rw [if_pos h]
   cases hb : b.drop a.length with
   | nil => have := List.drop_eq_nil_iff.1 hb; omega
   | cons y r => rfl
  ·rw [if_neg h, if_neg (by omega), List.drop_of_length_le (by omega)]; rfl
 | succ d ih =>
  intro i tm hd hi hib ho t5 t6 t7
  have hi' : i < a.length := by omega
  have hii : (i : Int) < a.length := by omega
  obtain ⟨x, hx, hdx⟩ := E6 hi'
  have hlx := D5 hx
  have h5 : a7 tm 5 = .lst .no 1 a.length (a.map str) := t5
  have h6 : a7 tm 6 = .lst .no 1 b.length (b.map str) := t6
  have hw : IntKind.i64.wrap ((i : Int) + 1) = ((i + 1 : Nat) : Int) := by rw [d3 (by omega) (by omega)]; rfl
  refine u0.round (RX.of a6 ?_)
  by_cases hj : i < b.length
  ·have hjj : (i : Int) < b.length := by omega
   obtain ⟨y, hy, hdy⟩ := E6 hj
   have hly := D5 hy
   rw [hdx, hdy, P2] at ho
   by_cases he : x = y
   ·subst he
    rw [if_pos (jQ x)] at ho
    simp only [G0, Z1, Z2, Z3, Z4, Z5, h5, h6, t7, hii, hjj, decide_true, hi', hj, hlx, hly, R8, beq_self_eq_true, Bool.not_true, hw]
    exact ih (i + 1) _ (by omega) (by omega) (by omega) ho t5 t6 rfl
   ·have hne : (!(x == y)) = true := by simpa using he
    rw [if_neg (fun h => he (dX h))] at ho
    simp only [G0, Z1, Z2, Z3, Z4, Z5, h5, h6, t7, hii, hjj, decide_true, hi', hj, hlx, hly, R8, hne, aB5]
    refine q2 _ ?_
    show bv (i8 x y) = _
    unfold ltL
    rw [ho]
    congr 2
    cases hbl : i8 x y with
    | true => exact (decide_eq_true (cA.2 hbl)).symm
    | false => exact (decide_eq_false (fun h => by rw [cA.1 h] at hbl; cases hbl)).symm
  ·have hjj : ¬ ((i : Int) < b.length) := by omega
   simp only [G0, Z1, Z2, Z3, Z4, Z5, h5, h6, t7, hii, hjj, decide_true, decide_false]
   refine q1 _ t5 t6 ?_
   have hd0 : b.drop i = [] := List.drop_of_length_le (by omega)
   rw [ho, hdx, hd0, if_neg (by omega), if_pos (by omega)]; rfl
theorem aJI (a b : List UInt8) (ha : a.length <= 1000000) (hb : b.length <= 1000000) : r8 env Tryz.prog 53 [str a, str b] (bv (v4 a b)) := fun M => by
 have l1 := v8 a
 have l2 := v8 b
 refine PT.enterR a6 bEJ (by simp) aW6 fun k hk hf => RX.of a6 ?_
 simp only [G0, Z1, Z2, Z3, Z4, Z5, d5]
 refine y7 (aCJ a ha) (by decide) ?_
 simp only [G0, Z1, Z2, Z3, Z4, Z5]
 refine y7 (aCJ b hb) (by decide) ?_
 have hla : T7 (l5 (b6 a)) = some (iv ((b6 a).length : Nat)) := rfl
 have hlb : T7 (l5 (b6 b)) = some (iv ((b6 b).length : Nat)) := rfl
 simp only [G0, Z1, Z2, Z3, Z4, Z5]
 refine RX.loop (aUA (b6 a) (b6 b) (by omega) (by omega) M k _ (fun tm t5 t6 ho => ?_) (fun tm t4 => ?_) (b6 a).length 0 _ rfl (Nat.zero_le _) (Nat.zero_le _) rfl (by rfl) (by rfl) (by rfl))
 ·simp only [G0, Z1, Z2, Z3, Z4, Z5, t5, t6, hla, hlb]
  refine i9 hf rfl ⟨?_, rfl⟩
  show bv (decide (((b6 a).length : Int) < (b6 b).length)) = _
  unfold v4 aGN
  rw [ho]
  congr 2
  by_cases h : (b6 a).length < (b6 b).length
  ·rw [if_pos h]; exact propext ⟨fun _ => by decide, fun _ => by omega⟩
  ·rw [if_neg h]
   refine propext ⟨fun _ => by omega, fun h' => ?_⟩
   split at h' <;> omega
 ·simp only [G0, Z1, Z2, Z3, Z4, Z5]
  exact i9 hf t4 ⟨rfl, rfl⟩
end Go.Proofs.YtnmidpahhhdlpaaGreatDoor
end
namespace Go.Proofs.YtnmidpahhhdlpaaGreatDoor
open Go Go.Am Go.Pm
def pJ (x : En) : Bool := decide ((x.path.length : Int) > 100) || decide ((x.bytes.length : Int) > 1200)
def rD : Nat -> List En -> Bool
 | 0, _ => false
 | _ + 1, [] => false
 | n + 1, x :: r => pJ x || rD n r
def H6 (l : List En) : Bool := rD 61 l || decide ((l.length : Int) > 60)
theorem zV : ∀ (n : Nat) (l : List En), rD n l = false -> l.length <= n -> ∀ x ∈ l, pJ x = false
 | _, [], _, _, x, h => by cases h
 | 0, _ :: _, _, h, _, _ => by simp at h
 | n + 1, y :: r, h, hl, x, hx => by
  unfold rD at h
  rw [Bool.or_eq_false_iff] at h
  rcases List.mem_cons.1 hx with rfl | hx
  ·exact h.1
  ·exact zV n r h.2 (by simpa using hl) x hx
theorem jW {l : List En} (h : H6 l = false) : l.length <= 60 /\ ∀ x ∈ l, x.path.length <= 100 /\ x.bytes.length <= 1200 := by
 unfold H6 at h
 rw [Bool.or_eq_false_iff] at h
 have h1 := of_decide_eq_false h.2
 refine ⟨by omega, fun x hx => ?_⟩
 have := zV 61 l h.1 (by omega) x hx
 unfold pJ at this
 rw [Bool.or_eq_false_iff] at this
 have h2 := of_decide_eq_false this.1
 have h3 := of_decide_eq_false this.2
 omega
theorem mG {l : List En} {i : Nat} {x : En} (h : l[i]? = some x) : o9 true 3 (l.flatMap d6) (i * 4 + 1) = some (.agg [iv x.kind, iv x.mode, a8 x.bytes]) := aAB (f := d6) (fun _ => rfl) h (by decide) rfl
theorem aF {l : List En} {i : Nat} {x : En} (h : l[i]? = some x) : (l.flatMap d6)[i * 4]? = some (str x.path) := by have := lX (c := 0) h rfl; simpa using this
theorem aZS (l : List En) (M : b7) (k : Nat) (Q : c9 -> c5 -> Prop) (q1 : rD 61 l = false -> ∀ tm, a7 tm 0 = d7 l -> Q (.exit 0) ⟨tm, 32, k, [], M⟩)
  (q2 : rD 61 l = true -> ∀ tm, a7 tm 2 = bv true -> Q .ret ⟨tm, 32, k, [], M⟩) :
  ∀ d i tm, 61 - i = d -> i <= 61 -> i <= l.length -> rD 61 l = rD d (l.drop i) -> a7 tm 0 = d7 l -> a7 tm 3 = iv i -> u0 env Tryz.prog none aQH ⟨tm, 32, k, [], M⟩ Q := by
 intro d
 induction d with
 | zero =>
  intro i tm hd hi hl hp t0 t3
  have h0 : a7 tm 0 = .lst .no 4 l.length (l.flatMap d6) := t0
  have him : ¬ ((i : Int) < 61) := by omega
  refine u0.round (RX.of a6 ?_)
  by_cases hlt : (i : Int) < l.length
  ·simp only [G0, Z1, Z2, Z3, Z4, Z5, h0, t3, hlt, him, decide_true, decide_false]
   exact q1 (by rw [hp]; rfl) _ t0
  ·simp only [G0, Z1, Z2, Z3, Z4, Z5, h0, t3, hlt, him, decide_true, decide_false]
   exact q1 (by rw [hp]; rfl) _ t0
 | succ d ih =>
  intro i tm hd hi hl hp t0 t3
  have h0 : a7 tm 0 = .lst .no 4 l.length (l.flatMap d6) := t0
  have him : (i : Int) < 61 := by omega
  by_cases hlt : i < l.length
  ·have hii : (i : Int) < l.length := by omega
   obtain ⟨x, hx, hdx⟩ := E6 hlt
   have cp := aF hx
   have ce := mG hx
   have hw : IntKind.i64.wrap ((i : Int) + 1) = ((i + 1 : Nat) : Int) := by rw [d3 (by omega) (by omega)]; rfl
   rw [hdx] at hp
   refine u0.round (RX.of a6 ?_)
   simp only [G0, Z1, Z2, Z3, Z4, Z5, h0, t3, him, hii, hlt, decide_true, cp, ce]
   refine bD2 (fun h => by simp only [h, Bool.not_false, i7]; exact wR _ _ _) (by decide) ?_
   simp only [G0, Z1, Z2, Z3, Z4, Z5, h0, t3, him, hii, hlt, decide_true, cp, ce]
   refine jY (fun hb => ?_) (fun hb => ?_)
   ·simp only [G0, Z1, Z2, Z3, Z4, Z5]
    refine q2 ?_ _ rfl
    have : pJ x = true := hb
    rw [hp, rD, this]; rfl
   ·simp only [G0, Z1, Z2, Z3, Z4, Z5, t3, hw]
    have : pJ x = false := hb
    refine ih (i + 1) _ (by omega) (by omega) (by omega) ?_ t0 rfl
    rw [hp, rD, this]; rfl
  ·have hii : ¬ ((i : Int) < l.length) := by omega
   refine u0.round (RX.of a6 ?_)
   simp only [G0, Z1, Z2, Z3, Z4, Z5, h0, t3, hii, decide_false]
   exact q1 (by rw [hp, List.drop_of_length_le (by omega)]; rfl) _ t0
theorem aDU (l : List En) : r8 env Tryz.prog 5 [d7 l] (bv (H6 l)) := fun M => by
 refine PT.enterR a6 fn5 (by simp) bBY fun k hk hf => RX.of a6 ?_
 simp only [G0, Z1, Z2, Z3, Z4, Z5, d5]
 refine RX.loop (aZS l M k _ (fun h tm t0 => ?_) (fun h tm t2 => ?_) 61 0 _ rfl (Nat.zero_le _) (Nat.zero_le _) rfl rfl rfl)
 ·have h0 : a7 tm 0 = .lst .no 4 l.length (l.flatMap d6) := t0
  simp only [G0, Z1, Z2, Z3, Z4, Z5, h0]
  exact i9 hf rfl ⟨by unfold H6; rw [h]; rfl, rfl⟩
 ·simp only [G0, Z1, Z2, Z3, Z4, Z5]
  exact i9 hf t2 ⟨by unfold H6; rw [h]; rfl, rfl⟩
theorem aTZ (l : List En) (hl : l.length <= 1000000) (M : b7) (k : Nat) (Q : c9 -> c5 -> Prop) (q : ∀ tm, Q (.exit 0) ⟨tm, 42, k, [], M⟩) :
  ∀ d i tm, l.length - i = d -> i <= l.length -> a7 tm 0 = d7 l -> a7 tm 1 = d7 l -> a7 tm 5 = iv i -> u0 env Tryz.prog none aKX ⟨tm, 42, k, [], M⟩ Q := by
 intro d
 induction d with
 | zero =>
  intro i tm hd hi t0 t1 t5
  have : i = l.length := by omega
  subst this
  have h0 : a7 tm 0 = .lst .no 4 l.length (l.flatMap d6) := t0
  refine u0.round (RX.of a6 ?_)
  simp only [G0, Z1, Z2, Z3, Z4, Z5, h0, t5, Int.lt_irrefl, decide_false]
  exact q _
 | succ d ih =>
  intro i tm hd hi t0 t1 t5
  have h0 : a7 tm 0 = .lst .no 4 l.length (l.flatMap d6) := t0
  have h1 : a7 tm 1 = .lst .no 4 l.length (l.flatMap d6) := t1
  have hi' : i < l.length := by omega
  obtain ⟨x, hx, hdx⟩ := E6 hi'
  have hii : (i : Int) < l.length := by omega
  have cp := aF hx
  have ce := mG hx
  have hw : IntKind.i64.wrap ((i : Int) + 1) = ((i + 1 : Nat) : Int) := by rw [d3 (by omega) (by omega)]; rfl
  refine u0.round (RX.of a6 ?_)
  simp only [G0, Z1, Z2, Z3, Z4, Z5, h0, h1, t5, hii, decide_true, hi', cp, ce, R8, beq_self_eq_true, Bool.not_true, I7]
  refine y7 (bM _ _ _ _ _ _) (by decide) ?_
  simp only [G0, Z1, Z2, Z3, Z4, Z5, t5, hw, beq_self_eq_true, Bool.and_self, Bool.not_true, Bool.or_self]
  exact ih (i + 1) _ (by omega) (by omega) t0 t1 rfl
theorem aMY (l : List En) (hl : l.length <= 1000000) : r8 env Tryz.prog 13 [d7 l, d7 l] (bv true) := fun M => by
 refine PT.enterR a6 bDI (by simp) aXF fun k hk hf => RX.of a6 ?_
 have hlen : T7 (d7 l) = some (iv (l.length : Nat)) := rfl
 simp only [G0, Z1, Z2, Z3, Z4, Z5, d5, hlen, bne_self_eq_false]
 refine RX.loop (aTZ l hl M k _ (fun tm => ?_) l.length 0 _ rfl (Nat.zero_le _) rfl rfl rfl)
 simp only [G0, Z1, Z2, Z3, Z4, Z5]
 exact i9 hf rfl ⟨rfl, rfl⟩
end Go.Proofs.YtnmidpahhhdlpaaGreatDoor
namespace Go.Proofs.YtnmidpahhhdlpaaGreatDoor
open Go Go.Am Go.Pm
theorem vX {E : d9} {t : Nat} {c d : Bool} {a b : List UInt8} (h : a.length + b.length <= 4000000) : w9 E .add t c d (str a) (str b) = some (str (a ++ b)) := by
 have h1 : ¬ (((a.length + b.length : Nat) : Int) > IntKind.i64.max) := by
  have : IntKind.i64.max = 9223372036854775807 := rfl
  omega
 have h2 : X0 .add ⟨a.toArray⟩ ⟨b.toArray⟩ = some (.string ⟨(a ++ b).toArray⟩) := by
  show (if ((a.length + b.length : Nat) : Int) > IntKind.i64.max then none else some (Value.string ⟨(a ++ b).toArray⟩)) = _
  rw [if_neg h1]
 simp [w9, w5, B8, h2]
theorem aJ : ∀ (ps : List (List UInt8)) (l : List UInt8), ps ≠ [] -> m8 (ps ++ [l]) = m8 ps ++ 47 :: l
 | [], _, h => absurd rfl h
 | [p], l, _ => rfl
 | p :: q :: r, l, _ => by
  have ih := aJ (q :: r) l (by simp)
  show p ++ 47 :: m8 (q :: r ++ [l]) = (p ++ 47 :: m8 (q :: r)) ++ 47 :: l
  rw [ih]; simp
theorem N6 : ∀ (ps : List (List UInt8)) (i : Nat), (m8 (ps.take i)).length <= (m8 ps).length
 | [], i => by rw [List.take_nil]; exact Nat.le_refl _
 | p :: r, 0 => Nat.zero_le _
 | [p], i + 1 => by rw [List.take_succ_cons, List.take_nil]; exact Nat.le_refl _
 | p :: q :: r, 1 => by
  show p.length <= (p ++ 47 :: m8 (q :: r)).length
  rw [List.length_append]; omega
 | p :: q :: r, i + 2 => by
  have ih := N6 (q :: r) (i + 1)
  show (p ++ 47 :: m8 ((q :: r).take (i + 1))).length <= (p ++ 47 :: m8 (q :: r)).length
  rw [List.length_append, List.length_append, List.length_cons, List.length_cons]; omega
theorem aO2 (l : List (List UInt8)) (hl : l.length <= 1000001) (hu : (m8 l).length <= 1000000) (M : b7) (k : Nat) (Q : c9 -> c5 -> Prop) (q : ∀ tm, a7 tm 3 = str (m8 l) -> Q (.exit 0) ⟨tm, 22, k, [], M⟩) :
  ∀ d i tm, l.length - i = d -> i <= l.length -> a7 tm 0 = l5 l -> a7 tm 3 = str (m8 (l.take i)) -> a7 tm 4 = iv i -> u0 env Tryz.prog none aED ⟨tm, 22, k, [], M⟩ Q := by
 intro d
 induction d with
 | zero =>
  intro i tm hd hi t0 t3 t4
  have : i = l.length := by omega
  subst this
  have h0 : a7 tm 0 = .lst .no 1 l.length (l.map str) := t0
  refine u0.round (RX.of a6 ?_)
  simp only [G0, Z1, Z2, Z3, Z4, Z5, h0, t4, Int.lt_irrefl, decide_false]
  rw [List.take_length] at t3
  exact q _ t3
 | succ d ih =>
  intro i tm hd hi t0 t3 t4
  have hi' : i < l.length := by omega
  have hii : (i : Int) < l.length := by omega
  obtain ⟨p, hp, -⟩ := E6 hi'
  have h0 : a7 tm 0 = .lst .no 1 l.length (l.map str) := t0
  have hld := D5 hp
  have hw : IntKind.i64.wrap ((i : Int) + 1) = ((i + 1 : Nat) : Int) := by rw [d3 (by omega) (by omega)]; rfl
  have htk : l.take (i + 1) = l.take i ++ [p] := N7 hp
  have hul := N6 l (i + 1)
  refine u0.round (RX.of a6 ?_)
  rcases Nat.eq_zero_or_pos i with rfl | hpos
  ·have hgt : ¬ (((0 : Nat) : Int) > 0) := by decide
   have hu1 : m8 (l.take (0 + 1)) = p := by rw [htk]; rfl
   rw [hu1] at hul
   have had : ∀ {c d : Bool}, w9 env .add 9 c d (str []) (str p) = some (str ([] ++ p)) := vX (by simp; omega)
   have t3' : a7 tm 3 = str [] := t3
   simp only [G0, Z1, Z2, Z3, Z4, Z5, h0, t3', t4, hii, decide_true, decide_false, hgt, hi', hld, had, hw]
   exact ih (0 + 1) _ (by omega) (by omega) t0 (by rw [hu1]; rfl) rfl
  ·have hgt : (i : Int) > 0 := by omega
   have hne : l.take i ≠ [] := fun e => by have := congrArg List.length e; rw [List.length_take, List.length_nil] at this; omega
   have hu1 : m8 (l.take (i + 1)) = m8 (l.take i) ++ 47 :: p := by rw [htk]; exact aJ _ _ hne
   rw [hu1, List.length_append, List.length_cons] at hul
   have had1 : ∀ {c d : Bool}, w9 env .add 9 c d (str (m8 (l.take i))) (str [47]) = some (str (m8 (l.take i) ++ [47])) := vX (by simp; omega)
   have had2 : ∀ {c d : Bool}, w9 env .add 9 c d (str (m8 (l.take i) ++ [47])) (str p) = some (str ((m8 (l.take i) ++ [47]) ++ p)) := vX (by rw [List.length_append]; simp; omega)
   simp only [G0, Z1, Z2, Z3, Z4, Z5, h0, t3, t4, hii, decide_true, hgt, hi', hld, had1, had2, hw]
   exact ih (i + 1) _ (by omega) (by omega) t0 (by rw [hu1]; show str _ = str _; congr 1; simp) rfl
theorem aPH (l : List (List UInt8)) (hl : l.length <= 1000001) (hu : (m8 l).length <= 1000000) : r8 env Tryz.prog 104 [l5 l] (str (m8 l)) := fun M => by
 refine PT.enterR a6 bBU (by simp) aNE fun k hk hf => RX.of a6 ?_
 simp only [G0, Z1, Z2, Z3, Z4, Z5, d5]
 refine RX.loop (aO2 l hl hu M k _ (fun tm t3 => ?_) l.length 0 _ rfl (Nat.zero_le _) rfl (by rfl) (by rfl))
 simp only [G0, Z1, Z2, Z3, Z4, Z5, t3]
 exact i9 hf rfl ⟨rfl, rfl⟩
theorem aGC (s : List UInt8) (hl : s.length <= 1000000) : r8 env Tryz.prog 103 [str s] (.tup [l5 (if E8 s then b6 s else []), iv (kS (E8 s))]) := r8.of fun M => by
 refine PT.enterR a6 bAF (by simp) aOR fun k hk hf => RX.of a6 ?_
 simp only [G0, Z1, Z2, Z3, Z4, Z5, d5]
 refine y7 (aCC s hl) (by decide) ?_
 cases hp : E8 s with
 | false =>
  simp only [G0, Z1, Z2, Z3, Z4, Z5, u6, Bool.not_false]
  exact cR hf rfl rfl ⟨.tup (.cons (Q2.nil_no _ _ _ rfl) (.cons (.refl _) .nil)), rfl⟩
 | true =>
  simp only [G0, Z1, Z2, Z3, Z4, Z5, u6, Bool.not_true]
  refine y7 (aCJ s hl) (by decide) ?_
  simp only [G0, Z1, Z2, Z3, Z4, Z5]
  exact cR hf rfl rfl ⟨.refl _, rfl⟩
theorem xA (l : List UInt8) (h : aAL l) : ∀ m, m <= l.length -> F3 l 47 m = -1
 | 0, _ => rfl
 | m + 1, hm => by
  obtain ⟨b, hb, -⟩ := E6 (xs := l) (i := m) (by omega)
  rw [F3, hb, if_neg (fun e => h b (List.mem_of_getElem? hb) (by cases e; rfl))]
  exact xA l h m (by omega)
theorem wM (a l : List UInt8) (h : aAL l) : ∀ m, m <= l.length -> F3 (a ++ 47 :: l) 47 (a.length + 1 + m) = (a.length : Int)
 | 0, _ => by
  show F3 (a ++ 47 :: l) 47 (a.length + 1) = _
  rw [F3, List.getElem?_append_right (Nat.le_refl _), Nat.sub_self]
  rfl
 | m + 1, hm => by
  obtain ⟨b, hb, -⟩ := E6 (xs := l) (i := m) (by omega)
  show F3 (a ++ 47 :: l) 47 ((a.length + 1 + m) + 1) = _
  rw [F3, List.getElem?_append_right (by omega), show a.length + 1 + m - a.length = m + 1 from by omega, List.getElem?_cons_succ, hb, if_neg (fun e => h b (List.mem_of_getElem? hb) (by cases e; rfl))]
  exact wM a l h m (by omega)
theorem aGD {s : List UInt8} (hp : E8 s = true) : (O0 s).1 = m8 ((b6 s).dropLast) /\ (((O0 s).1 == []) = decide ((b6 s).length < 2)) := by
 have hsp := nM s
 have hun := J3 s
 have hne : b6 s ≠ [] := fun e => by have := K6 s; rw [e] at this; simp at this
 rw [iZ, Bool.and_eq_true] at hp
 obtain ⟨ps, l, hpl⟩ : ∃ ps l, b6 s = ps ++ [l] := ⟨(b6 s).dropLast, (b6 s).getLast hne, (List.dropLast_concat_getLast hne).symm⟩
 have hl : aAL l := hsp l (by rw [hpl]; simp)
 rw [hpl] at hun
 have hall := hp.2
 rw [hpl] at hall
 have hd : (ps ++ [l]).dropLast = ps := by simp
 have hlen : (ps ++ [l]).length = ps.length + 1 := by simp
 have hpk : E8 s = true := by rw [iZ, Bool.and_eq_true]; exact hp
 rw [hpl, hd, hlen]
 unfold O0
 rw [if_pos hpk]
 cases ps with
 | nil =>
  have hs : s = l := hun.symm
  subst hs
  rw [xA s hl s.length (Nat.le_refl _), if_neg (by decide)]
  exact ⟨rfl, rfl⟩
 | cons p r =>
  rw [aJ _ _ (by simp)] at hun
  generalize hA : m8 (p :: r) = A at hun
  have hla := wM A l hl l.length (Nat.le_refl _)
  have hsl : s.length = A.length + 1 + l.length := by rw [<- hun, List.length_append, List.length_cons]; omega
  have hlst : F3 s 47 s.length = (A.length : Int) := by rw [hsl]; rw [<- hla, hun]
  rw [hlst, if_pos (by omega), Int.toNat_natCast]
  have hta : s.take A.length = A := by rw [<- hun]; exact List.take_left' rfl
  refine ⟨hta, ?_⟩
  rw [hta]
  have hAne : A ≠ [] := by
   have hpo : I4 p = true := by
    rw [List.all_append, List.all_cons] at hall
    simp only [Bool.and_eq_true] at hall
    exact hall.1.1
   have hpne : p ≠ [] := by
    intro e
    subst e
    exact absurd hpo (by decide)
   rw [<- hA]
   cases r with
   | nil => exact hpne
   | cons q qs => intro e; have : (p ++ 47 :: m8 (q :: qs)) = [] := e; simp at this
  rw [decide_eq_false (by simp)]
  cases A with
  | nil => exact absurd rfl hAne
  | cons _ _ => rfl
theorem aJF (s : List UInt8) (hl : s.length <= 1000000) : r8 env Tryz.prog 78 [str s] (.tup [str (O0 s).1, bv (!((O0 s).1 == []))]) := fun M => by
 have hpl := v8 s
 refine PT.enterR a6 bDR (by simp) aTM fun k hk hf => RX.of a6 ?_
 simp only [G0, Z1, Z2, Z3, Z4, Z5, d5]
 refine y7 (aGC s hl) (by decide) ?_
 cases hp : E8 s with
 | false =>
  have hl0 : T7 (l5 []) = some (iv ((0 : Nat) : Int)) := rfl
  rw [if_neg (by decide)]
  simp only [G0, Z1, Z2, Z3, Z4, Z5, u6, Bool.not_true, Bool.not_false, hl0, i7, j0, Bool.true_or]
  refine cR hf rfl rfl ⟨?_, rfl⟩
  have : O0 s = ([], []) := by unfold O0; rw [hp]; rfl
  rw [this]; rfl
 | true =>
  obtain ⟨h1, h2⟩ := aGD hp
  rw [h1] at h2 ⊢
  rw [h2]
  have hun := J3 s
  generalize b6 s = l at *
  have hlen : T7 (l5 l) = some (iv (l.length : Nat)) := rfl
  rw [if_pos rfl]
  by_cases h3 : l.length < 2
  ·have hlt : (l.length : Int) < 2 := by omega
   simp only [G0, Z1, Z2, Z3, Z4, Z5, u6, Bool.not_true, Bool.not_false, hlen, hlt, decide_true, i7, j0, Bool.or_true, Bool.false_or]
   refine cR hf rfl rfl ⟨?_, rfl⟩
   rw [decide_eq_true h3]
   have : m8 l.dropLast = [] := by
    cases l with
    | nil => rfl
    | cons x r => cases r with
     | nil => rfl
     | cons y q => simp only [List.length_cons] at h3; omega
   rw [this]; rfl
  ·have hlt : ¬ ((l.length : Int) < 2) := by omega
   have hw : IntKind.i64.wrap ((l.length : Int) - 1) = ((l.length - 1 : Nat) : Int) := by rw [d3 (by omega) (by omega)]; omega
   have hsl : ∀ kk : IntKind, G1 1 (l5 l) none (some (.v (.int kk ((l.length - 1 : Nat) : Int)))) none = some (l5 l.dropLast) := fun kk => by
    unfold G1 l5
    simp only [w7]
    simp only [if_true, if_pos (show (0 : Nat) <= l.length - 1 /\ l.length - 1 <= l.length from ⟨Nat.zero_le _, Nat.sub_le _ _⟩)]
    rw [Nat.zero_mul, List.drop_zero, Nat.sub_zero, Nat.mul_one, List.dropLast_eq_take, List.length_take, Nat.min_eq_left (by omega), List.map_take]
   have hu : (m8 l.dropLast).length <= 1000000 := by
    rw [List.dropLast_eq_take]
    have := N6 l (l.length - 1)
    rw [hun] at this
    omega
   simp only [G0, Z1, Z2, Z3, Z4, Z5, u6, Bool.not_true, Bool.not_false, hlen, hlt, decide_false, hw, hsl, i7, j0, Bool.false_or, Bool.or_self]
   refine y7 (aPH l.dropLast (by rw [List.length_dropLast]; omega) hu) (by decide) ?_
   simp only [G0, Z1, Z2, Z3, Z4, Z5]
   refine cR hf rfl rfl ⟨?_, rfl⟩
   rw [decide_eq_false h3]; rfl
end Go.Proofs.YtnmidpahhhdlpaaGreatDoor
namespace Go.Proofs.YtnmidpahhhdlpaaGreatDoor
open Go Go.Am Go.Pm
theorem aDI {l : List UInt8} : p7 (a8 l) = true := rfl
end Go.Proofs.YtnmidpahhhdlpaaGreatDoor
namespace Go.Pm
open Go.RowKit Go.Am
def innM (nt k : Nat) (os : List Obj) (Q : c9 -> c5 -> Prop) : c9 -> c5 -> Prop := fun e s1 => ∃ M1, N3 s1.mem (seg M1 k os) /\ Q e ⟨s1.tm, nt, k, os, M1⟩
section
variable {E : d9} {P : Program} {rd : Option (Nat × Nat)} {Q : c9 -> c5 -> Prop} {a : RC} {tm : List (Nat × PV)} {nt k : Nat} {os : List Obj} {M : b7}
theorem RX.innM (h : ∀ k', k' ≠ k -> 0 < k' -> fresh (seg M k os) k' -> RX E P rd a ⟨tm, nt, k', [], seg M k os⟩ (Pm.innM nt k os Q)) : RX E P rd a ⟨tm, nt, k, os, M⟩ Q :=
 RX.push fun k' h1 h2 h3 => by
  have hfr : fresh (seg M k os) k' := rV (s := ⟨tm, nt, k, os, M⟩) h3 h1
  refine (h k' h1 h2 hfr).conseq fun e s1 hk hn hq => ?_
  obtain ⟨M1, e1, e2⟩ := hq
  have hn' : s1.nt = nt := hn
  exact ⟨s1, uF.refl _, os, M1, rfl, e1, by rw [hn']; exact e2⟩
theorem u0.innM (h : ∀ k', k' ≠ k -> 0 < k' -> fresh (seg M k os) k' -> RX E P rd a ⟨tm, nt, k', [], seg M k os⟩ (Pm.innM nt k os (iW E P rd a Q))) : u0 E P rd a ⟨tm, nt, k, os, M⟩ Q :=
 u0.round (RX.innM h)
end
end Go.Pm
namespace Go.Pm
open Go.RowKit Go.Am
section
variable {E : d9} {P : Program} {cx : Cx} {s : c5} {sA : St} {M : b7}
theorem iY.lift {F : Nat} {args : List PV} {Q : Nat -> PV -> b7 -> Prop}
  (h : ∀ cx k0 sA vargs, fresh M k0 -> PS E cx ⟨[], 0, k0, [], M⟩ sA -> l9 cx args vargs -> ∃ v m' cx' x s', CanT E P (.call F vargs) sA.m v m' /\ PR cx' x v /\ M3 (some k0) cx cx' /\ PS E cx' s' { sA with m := m' } /\ Q k0 x s'.mem) :
  iY E P F args M Q := fun cx m vargs hg ha => by
 obtain ⟨v, m', cx', x, s', h1, h2, h3, h4, h5⟩ := h cx.key cx.nk ⟨.nil, 0, [], m⟩ vargs (hg.bare (Nat.le_refl _)) hg.start (ha.mono (m9.key cx))
 refine ⟨v, m', cx', x, s'.mem, h1, h4.pg, ⟨(m9.key cx).trans h3.le, fun k i hk _ => ?_⟩, h2, h5⟩
 have hn := h3.names k i (by show k < cx.nk + 1; omega) (by simp; omega)
 exact hn
theorem bX (h : PS E cx s sA) {k i r es o : Nat} {cells ws : List PV} {wv : List Value} (hM : s.look k i = some (.row .rw es cells)) (ha : cx.at_ k i = some r) (hw : l9 cx ws wv) (ho : ws.all p7 = true) (hl : o + ws.length <= cells.length) :
  ∃ vs, sA.m.get r = some (.row vs .rw es none) /\ l9 cx cells vs /\ sA.m.bar <= r /\ sA.m.storeCells ⟨r, o, none⟩ wv = some (sA.m.upd r (some (.row (w6 vs o wv) .rw es none))) ∧
   PS E cx (s.putO k i (.row .rw es (e8 cells o ws))) { sA with m := sA.m.upd r (some (.row (w6 vs o wv) .rw es none)) } := by
 obtain ⟨r', vs, md, q, e1, e2, e3, e4, e5⟩ := h.pg.obj k i _ hM
 obtain ⟨rfl, rfl⟩ := e4 (by simp)
 have hbar := e5 rfl
 rw [ha] at e1; cases e1
 have hl1 := hw.length
 have hl2 := e3.length
 have hnb : sA.m.nb <= r := Nat.le_trans h.pg.wf.nb hbar
 have hone := x8 hw ho
 obtain ⟨⟨cx', p1, p2, p3⟩, q1, q2, q3⟩ := K4 h ha hbar hM ⟨nofun, nofun⟩ (o := .row .rw es (e8 cells o ws)) nofun (ao := .row (w6 vs o wv) .rw es none) ⟨r, _, .rw, none, ha, b8.get_upd_same hnb _, by
  rw [M9 _ _ _ (by omega)]
  exact D8 e3 hw o, fun _ => ⟨rfl, rfl⟩, fun _ => by rw [b8.upd_def]; exact hbar⟩ (x := .junk) (v := u9) (.junk _)
 have hpg := h.pg.updObj (cx := cx) ha hbar hM ⟨nofun, nofun⟩ (o := .row .rw es (e8 cells o ws)) nofun (ao := some (.row (w6 vs o wv) .rw es none)) ⟨r, _, .rw, none, ha, b8.get_upd_same hnb _, by
  rw [M9 _ _ _ (by omega)]
  exact D8 e3 hw o, fun _ => ⟨rfl, rfl⟩, fun _ => by rw [b8.upd_def]; exact hbar⟩
 obtain ⟨e1, e2', e3', e5'⟩ := c5.putO_tm (s := s) (k := k) (i := i) (o := .row .rw es (e8 cells o ws))
 refine ⟨vs, e2, e3, hbar, ?_, ?_⟩
 ·simp only [b8.storeCells, e2, r9 hbar, r9 (show o + wv.length <= vs.length by omega), hone, Bool.and_self, cond_true, b8.kill, Option.map_some]
 ·exact ⟨fun j => by rw [e1]; exact h.tm j, by rw [e2']; exact h.nt, by rw [c5.putO_mem hM]; exact hpg, fun j hj => by rw [e3']; exact h.cur j (by rw [e5'] at hj; exact hj), by rw [e3']; exact h.low, by rw [e3']; exact h.pos, ⟨h.df.1, fun r hr => ⟨(h.df.2 r hr).1, by rw [b8.upd_def]; exact (h.df.2 r hr).2⟩⟩⟩
theorem l9.sizes {a : List PV} {b : List Value} (h : l9 cx a b) {n : Nat} (hn : a.length = n) : b.length = n := by rw [<- h.length]; exact hn
end
theorem fO {cs vs : List PV} {o : Nat} {y : PV} (h : y ∈ e8 cs o vs) : y ∈ cs \/ y ∈ vs := by
 unfold e8 at h
 rcases List.mem_append.1 h with h | h
 ·exact .inl (List.mem_of_mem_take h)
 ·rcases List.mem_append.1 h with h | h
  ·exact .inr h
  ·exact .inl (List.mem_of_mem_drop h)
theorem oJ.mem {k : Nat} : ∀ {l : List PV}, oJ k l -> ∀ x ∈ l, NK k x
 | _, .cons h hs, x, hx => by
  rcases List.mem_cons.1 hx with rfl | hx
  ·exact h
  ·exact oJ.mem hs x hx
theorem aTK {cells v : List PV} {a b e : Nat} (hv : v.length = e) (hab : a <= b) (hb : b + e <= cells.length) :
  (e8 (e8 cells (a + e) ((cells.take b).drop a)) a v).take (b + e) = (cells.take b).take a ++ (v ++ (cells.take b).drop a) := by
 have hm : ((cells.take b).drop a).length = b - a := by rw [List.length_drop, List.length_take, Nat.min_eq_left (by omega)]
 have hA : (cells.take (a + e)).length = a + e := by rw [List.length_take, Nat.min_eq_left (by omega)]
 generalize hmid : (cells.take b).drop a = mid at hm ⊢
 unfold e8
 rw [hm, hv]
 have h1 : (cells.take (a + e) ++ (mid ++ cells.drop (a + e + (b - a)))).take a = cells.take a := by
  rw [List.take_append_of_le_length (by rw [hA]; omega), List.take_take, Nat.min_eq_left (show a <= a + e by omega)]
 have h2 : (cells.take (a + e) ++ (mid ++ cells.drop (a + e + (b - a)))).drop (a + e) = mid ++ cells.drop (a + e + (b - a)) := by
  rw [List.drop_append_of_le_length (by rw [hA]; exact Nat.le_refl _), List.drop_of_length_le (by rw [hA]; exact Nat.le_refl _), List.nil_append]
 rw [h1, h2]
 rw [show (cells.take b).take a = cells.take a by rw [List.take_take, Nat.min_eq_left hab]]
 have e1 : cells.take a ++ (v ++ (mid ++ cells.drop (a + e + (b - a)))) = (cells.take a ++ (v ++ mid)) ++ cells.drop (a + e + (b - a)) := by simp
 rw [e1]
 exact List.take_left' (by rw [List.length_append, List.length_append, List.length_take, Nat.min_eq_left (by omega), hv, hm]; omega)
structure Ins (M : b7) (k i n es : Nat) (out old : List PV) (nk : Nat) (x : PV) (M1 : b7) : Prop where
 ex : ∃ a b w c cells, x = .sl a b 0 n c /\ (n <= g9 c /\ c % 2 = 1 /\ L2 c = es) /\ n * es <= cells.length /\ cells.take (n * es) = out /\ (∀ y ∈ cells, y ∈ old) ∧
  ((a = k /\ b = i /\ M1 = i6 M k i (.row w es cells)) \/ (a = nk /\ b = 0 /\ fresh M nk /\ M1 = seg (i6 M k i .gone) nk [.row w es cells]))
section
variable {E : d9} {P : Program} {M : b7}
theorem PT.insert (hE : c8 E P) {F ts te es by_ : Nat} (I : InsFn P F ts te es by_) {x : lO} (hf : E.fn F = some x) {yt ye : Ty} {z : List PV} (ht : E.ty ts = some yt) (hd : yt.desc = .slice te) (hye : E.ty te = some ye) (hz : bL E te = some z) (hzd : W5 yt.desc = some false)
  (he : ye.size = es /\ ye.bytes = by_ /\ z.length = es) {k i n L idx kv iv cv : Nat} {cells vcells : List PV} (hM : M k i = some (.row .rw es cells)) (hV : M kv iv = some (.row .rw es vcells)) (hne : ¬ (kv = k /\ iv = i))
  (hL : cells.length = L * es) (hn : n <= L) (hn0 : 0 < L) (hi : idx <= n) (hv : vcells.length = es) (ho : cells.all p7 = true) (hov : vcells.all p7 = true) (hes : 0 < es /\ es < 4096 /\ es ≠ 1) (hby : (2 * (n + 1) + 2000) * by_ <= 140737488355328 /\ n + 1 <= 4611686018427387904) :
  iY E P F [.sl k i 0 n (g6 L es), .v (.int .i64 (idx : Int)), .sl kv iv 0 1 cv] M (Ins M k i (n + 1) es ((cells.take (n * es)).take (idx * es) ++ (vcells ++ (cells.take (n * es)).drop (idx * es))) (cells ++ vcells)) := by
 obtain ⟨he1, he2, he3⟩ := he
 obtain ⟨hes1, hes2, hes3⟩ := hes
 have hcap : g9 (g6 L es) = L /\ g6 L es % 2 = 1 /\ L2 (g6 L es) = es := oR hes2
 have hcl : n * es <= cells.length := by rw [hL]; exact Nat.mul_le_mul_right _ hn
 have hnes : (n + 1) * es = n * es + es := by rw [Nat.add_mul, Nat.one_mul]
 refine iY.lift fun cx k0 sA vargs hfr hs ha => ?_
 have hlk : ∀ {a b o}, M a b = some o -> (⟨[], 0, k0, [], M⟩ : c5).look a b = some o /\ a ≠ k0 := fun {a b o} e => by
  have : a ≠ k0 := fun q => by rw [q, hfr b] at e; cases e
  exact ⟨by unfold c5.look; rw [if_neg this]; exact e, this⟩
 obtain ⟨hlk1, hk0⟩ := hlk hM
 obtain ⟨hlk2, hkv0⟩ := hlk hV
 cases ha with
 | cons h1 ha =>
 cases ha with
 | cons h2 ha =>
 cases ha with
 | cons h3 ha =>
 cases ha
 obtain ⟨rfl, _⟩ := h2.flat_eq
 have h1' := h1
 have h3' := h3
 cases h1 with
 | sl a1 =>
 rename_i r
 cases h3 with
 | sl a3 =>
 rename_i rv
 obtain ⟨r', vs, md, q, e1, e2, e3, e4, e5⟩ := hs.pg.obj k i _ hlk1
 obtain ⟨rfl, rfl⟩ := e4 (by simp)
 have hbar := e5 rfl
 rw [a1] at e1; cases e1
 obtain ⟨r', ws, md, q, f1, f2, f3, f4, f5⟩ := hs.pg.obj kv iv _ hlk2
 obtain ⟨rfl, rfl⟩ := f4 (by simp)
 rw [a3] at f1; cases f1
 have hrr : r ≠ rv := fun e => by
  subst e
  exact hne (aBJ (hs.pg.role hlk2 nofun nofun a3) (hs.pg.role hlk1 nofun nofun a1))
 have hlv := e3.length
 have hlw := f3.length
 have hcan : ∀ {v m'}, G3 E ts es by_ [.slice (some ⟨r, 0, none⟩) n (g6 L es), .int .i64 (idx : Int), .slice (some ⟨rv, 0, none⟩) 1 cv] sA.m = some (v, m') →
   CanT E P (.call F [.slice (some ⟨r, 0, none⟩) n (g6 L es), .int .i64 (idx : Int), .slice (some ⟨rv, 0, none⟩) 1 cv]) sA.m v m' := fun {v m'} hx =>
  ⟨fun ι w args' hR hA => tO hE I hf hx hR hA, fun hw => d4.insert hw hx⟩
 have hps : ∀ {o : Obj}, ((⟨[], 0, k0, [], M⟩ : c5).putO k i o) = ⟨[], 0, k0, [], i6 M k i o⟩ := fun {o} => by unfold c5.putO; rw [if_neg hk0]
 have hnil : ∀ {o : Obj}, (⟨[], 0, k0, [], i6 M k i o⟩ : c5).mem = i6 M k i o := fun {o} => bJ fun j => by
  show (if k0 = k /\ j = i then some o else M k0 j) = none
  rw [if_neg (fun e => hk0 e.1.symm)]; exact hfr j
 by_cases hidx : idx = n
 ·subst hidx
  have hx0 : ∀ {r1}, C1 E sA.m ts (some ts) (.slice (some ⟨r, 0, none⟩) idx (g6 L es)) (.slice (some ⟨rv, 0, none⟩) 1 cv) = some r1 →
    G3 E ts es by_ [.slice (some ⟨r, 0, none⟩) idx (g6 L es), .int .i64 (idx : Int), .slice (some ⟨rv, 0, none⟩) 1 cv] sA.m = some r1 := fun {r1} e => by
   unfold G3
   simp only [if_true]
   unfold bP
   simp only [if_neg (show ¬ (1 = 0) by omega), if_true]
   rw [if_pos ⟨by rw [hcap.1]; exact hn, by rfl⟩]
   exact e
  have hsrc : bO E (⟨[], 0, k0, [], M⟩ : c5) te z es (some ts) (.sl kv iv 0 1 cv) = some (vcells, 1) := by
   unfold bO G2
   simp only [ht, hzd, if_neg (show ¬ (1 = 0) by omega), hlk2]
   rw [if_pos (by omega), List.drop_zero, List.take_of_length_le (by omega)]
  rw [List.drop_of_length_le (by rw [List.length_take]; omega), List.append_nil, List.take_of_length_le (l := cells.take (idx * es)) (by rw [List.length_take]; omega)]
  rcases Nat.lt_or_ge idx L with hlt | hge
  ·have hroom : (idx + 1) * es <= cells.length := by rw [hL]; exact Nat.mul_le_mul_right _ hlt
   have hp : U4 E (⟨[], 0, k0, [], M⟩ : c5) ts (some ts) (.sl k i 0 idx (g6 L es)) (.sl kv iv 0 1 cv) = some (.sl k i 0 (idx + 1) (g6 L es), ⟨[], 0, k0, [], i6 M k i (.row .rw es (e8 cells (0 + idx * es) vcells))⟩) := by
    unfold U4
    simp only [ht, hd, hye, hz, he1, hsrc]
    rw [if_neg (by omega), if_pos (by rw [hcap.1]; omega)]
    simp only [hlk1]
    rw [if_pos ⟨by omega, hov⟩, hps]
   obtain ⟨v, m', g1, ⟨cx', g2, g3, g4⟩, _, _, _⟩ := aW hE hs h1' h3' hp
   refine ⟨v, m', cx', _, _, hcan (hx0 g1), g2, g3, g4, ⟨k, i, .rw, _, _, rfl, ⟨by rw [hcap.1]; omega, hcap.2⟩, ?_, ?_, ?_, .inl ⟨rfl, rfl, hnil⟩⟩⟩
   ·rw [D1 (by omega)]; exact hroom
   ·rw [Nat.zero_add]
    unfold e8
    rw [hnes, <- List.append_assoc, List.take_append_of_le_length (by simp; omega), List.take_of_length_le (by simp; omega)]
   ·intro y hy
    rcases fO hy with h | h
    ·exact List.mem_append_left _ h
    ·exact List.mem_append_right _ h
  ·have hLn : L = idx := by omega
   subst hLn
   have hp : U4 E (⟨[], 0, k0, [], M⟩ : c5) ts (some ts) (.sl k i 0 L (g6 L es)) (.sl kv iv 0 1 cv) = some (.sl k0 0 0 (L + 1) (g6 (L + 1) es), ⟨[], 0, k0, [.row .own es (cells ++ vcells)], i6 M k i .gone⟩) := by
    unfold U4
    simp only [ht, hd, hye, hz, he1, he2, hsrc]
    rw [if_neg (by omega), if_neg (by rw [hcap.1]; omega)]
    unfold kJ
    rw [if_pos ⟨hcap.2.1, hcap.2.2, rfl, by omega, by omega, hby.2, hes2, he3, hov⟩]
    simp only [hlk1]
    rw [if_pos ⟨trivial, by omega, by omega⟩, hps]
    rfl
   obtain ⟨v, m', g1, ⟨cx', g2, g3, g4⟩, _, _, _⟩ := aW hE hs h1' h3' hp
   have hc2 := oR (n := L + 1) hes2
   refine ⟨v, m', cx', _, _, hcan (hx0 g1), g2, g3, g4, ⟨k0, 0, .own, _, _, rfl, ⟨by rw [hc2.1]; omega, hc2.2⟩, ?_, ?_, ?_, .inr ⟨rfl, rfl, hfr, rfl⟩⟩⟩
   ·rw [List.length_append]; omega
   ·rw [List.take_of_length_le (by rw [List.length_append]; omega), List.take_of_length_le (by omega)]
   ·exact fun y hy => hy
 ·have hlt : idx < n := by omega
  obtain ⟨vs0, s1, s2, s3, s4, s5⟩ := bX hs hlk1 a1 (ws := []) (wv := []) (o := 0) .nil rfl (by simp)
  rw [e2] at s1; cases s1
  rw [show w6 vs 0 [] = vs from jD vs] at s4 s5
  rw [hps, show e8 cells 0 [] = cells by unfold e8; simp] at s5
  have hMM : i6 M k i (.row .rw es cells) = M := by
   funext a b
   unfold i6
   split
   ·rename_i hc; rw [hc.1, hc.2, hM]
   ·rfl
  rw [hMM] at s5
  have hnb : sA.m.nb <= r := Nat.le_trans hs.pg.wf.nb hbar
  have hgr2 : (sA.m.upd r (some (.row vs .rw es none))).get r = some (.row vs .rw es none) := b8.get_upd_same hnb _
  have hgv2 : (sA.m.upd r (some (.row vs .rw es none))).get rv = some (.row ws .rw es none) := by rw [b8.get_upd_ne hnb (Ne.symm hrr)]; exact f2
  have hbar2 : (sA.m.upd r (some (.row vs .rw es none))).bar = sA.m.bar := by rw [b8.upd_def]
  have hall1 := x8 e3 ho
  have hall2 := x8 f3 hov
  have hx1 : ∀ {y}, cS es [.slice (some ⟨r, 0, none⟩) n (g6 L es), .int .i64 (idx : Int), .slice (some ⟨rv, 0, none⟩) 1 cv] (sA.m.upd r (some (.row vs .rw es none))) = some y →
    G3 E ts es by_ [.slice (some ⟨r, 0, none⟩) n (g6 L es), .int .i64 (idx : Int), .slice (some ⟨rv, 0, none⟩) 1 cv] sA.m = some y := fun {y} e => by
   unfold G3
   simp only [if_neg (show ¬ ((idx : Int) = (n : Int)) by omega), if_neg (show ¬ (n = 0) by omega), s4, e]
  have hx1' : ∀ {y}, cS es [.slice (some ⟨r, 0, none⟩) n (g6 L es), .int .i64 (idx : Int), .slice (some ⟨rv, 0, none⟩) 1 cv] (sA.m.upd r (some (.row vs .rw es none))) = none →
    bP E ts es by_ [.slice (some ⟨r, 0, none⟩) n (g6 L es), .int .i64 (idx : Int), .slice (some ⟨rv, 0, none⟩) 1 cv] (sA.m.upd r (some (.row vs .rw es none))) = some y →
    G3 E ts es by_ [.slice (some ⟨r, 0, none⟩) n (g6 L es), .int .i64 (idx : Int), .slice (some ⟨rv, 0, none⟩) 1 cv] sA.m = some y := fun {y} e e2 => by
   unfold G3
   simp only [if_neg (show ¬ ((idx : Int) = (n : Int)) by omega), if_neg (show ¬ (n = 0) by omega), s4, e, e2]
  have htn : ((idx : Int)).toNat = idx := by omega
  have hbn : idx * es <= n * es := Nat.mul_le_mul_right _ hi
  have hinc : (idx + 1) * es = idx * es + es := by rw [Nat.add_mul, Nat.one_mul]
  have htl : ((cells.take (n * es)).drop (idx * es)).length = n * es - idx * es := by simp; omega
  rcases Nat.lt_or_ge n L with hroom | hfull
  ·have hrm : (n + 1) * es <= cells.length := by rw [hL]; exact Nat.mul_le_mul_right _ hroom
   have hlk1' : (⟨[], 0, k0, [], M⟩ : c5).look k i = some (.row .rw es cells) := hlk1
   have hws1 : l9 cx ((cells.take (n * es)).drop (idx * es)) (((vs.drop 0).take (n * es)).drop (idx * es)) := by rw [List.drop_zero]; exact (e3.take _).drop _
   have hall3 : ((cells.take (n * es)).drop (idx * es)).all p7 = true := by
    rw [List.all_eq_true] at ho ⊢
    exact fun x hx => ho x (List.mem_of_mem_take (List.mem_of_mem_drop hx))
   obtain ⟨vs1, u1, u2, u3, u4, u5⟩ := bX s5 hlk1' a1 (o := 0 + (idx + 1) * es) hws1 hall3 (by omega)
   rw [hgr2] at u1
   simp only [Option.some.injEq, w8.row.injEq] at u1
   obtain ⟨rfl, -⟩ := u1
   rw [hps] at u5
   have hlk3 : (⟨[], 0, k0, [], i6 M k i (.row .rw es (e8 cells (0 + (idx + 1) * es) ((cells.take (n * es)).drop (idx * es))))⟩ : c5).look k i = some (.row .rw es (e8 cells (0 + (idx + 1) * es) ((cells.take (n * es)).drop (idx * es)))) := by
    unfold c5.look; rw [if_neg hk0]; exact D6 _ _ _ _
   obtain ⟨vs2, y1, y2, y3, y4, y5⟩ := bX u5 hlk3 a1 (o := 0 + idx * es) f3 hov (by rw [D1 (by omega)]; omega)
   have hps2 : ∀ {o1 o : Obj}, ((⟨[], 0, k0, [], i6 M k i o1⟩ : c5).putO k i o) = ⟨[], 0, k0, [], i6 M k i o⟩ := fun {o1 o} => by unfold c5.putO; rw [if_neg hk0]; simp only [gZ]
   rw [hps2] at y5
   have hrm2 : cS es [.slice (some ⟨r, 0, none⟩) n (g6 L es), .int .i64 (idx : Int), .slice (some ⟨rv, 0, none⟩) 1 cv] (sA.m.upd r (some (.row vs .rw es none))) =
     some (.slice (some ⟨r, 0, none⟩) (n + 1) (g6 L es), ((sA.m.upd r (some (.row vs .rw es none))).upd r (some (.row (w6 vs (0 + (idx + 1) * es) (((vs.drop 0).take (n * es)).drop (idx * es))) .rw es none))).upd r (some (.row (w6 vs2 (0 + idx * es) ws) .rw es none))) := by
    unfold cS
    simp only [hgr2, hgv2, htn]
    rw [if_pos ⟨⟨trivial, by omega, hlt, by omega⟩, ⟨by omega, hrr, by rw [hcap.1]; omega, hby.2⟩, ⟨trivial, hes3, hes1, by omega⟩, hall1, hall2⟩]
    simp only [u4, y4, Option.map_some]
   have hroomX := hx1 hrm2
   refine ⟨_, _, cx, _, _, hcan hroomX, .sl a1, M3.refl _ _, y5, ⟨k, i, .rw, _, _, rfl, ⟨by rw [hcap.1]; omega, hcap.2⟩, ?_, ?_, ?_, .inl ⟨rfl, rfl, hnil⟩⟩⟩
   ·rw [D1 (by rw [D1 (by omega)]; omega), D1 (by omega)]; exact hrm
   ·rw [Nat.zero_add, Nat.zero_add, hinc, hnes]
    exact aTK hv hbn (by omega)
   ·intro y hy
    rcases fO hy with h | h
    ·rcases fO h with h | h
     ·exact List.mem_append_left _ h
     ·exact List.mem_append_left _ (List.mem_of_mem_take (List.mem_of_mem_drop h))
    ·exact List.mem_append_right _ h
  ·have hLn : L = n := by omega
   subst hLn
   have hrm0 : cS es [.slice (some ⟨r, 0, none⟩) L (g6 L es), .int .i64 (idx : Int), .slice (some ⟨rv, 0, none⟩) 1 cv] (sA.m.upd r (some (.row vs .rw es none))) = none := by
    unfold cS
    simp only [hgr2, hgv2]
    rw [if_neg (by rintro ⟨_, ⟨_, _, h, _⟩, _⟩; rw [hcap.1] at h; omega)]
   have hszm : (sA.m.upd r (some (.row vs .rw es none))).size = ((sA.m.upd r (some (.row vs .rw es none))).upd r none).size := by simp only [b8.upd_def]
   have hct : cells.take (L * es) = cells := List.take_of_length_le (by omega)
   have hx3 : bP E ts es by_ [.slice (some ⟨r, 0, none⟩) L (g6 L es), .int .i64 (idx : Int), .slice (some ⟨rv, 0, none⟩) 1 cv] (sA.m.upd r (some (.row vs .rw es none))) =
     some (.slice (some (I5 (sA.m.upd r (some (.row vs .rw es none))).size 0)) (L + 1) (g6 (L + 1) es), ((sA.m.upd r (some (.row vs .rw es none))).upd r none).new (.row (vs.take (idx * es) ++ (ws ++ vs.drop (idx * es))) .rw es none)) := by
    unfold bP
    simp only [if_neg (show ¬ (1 = 0) by omega), if_neg (show ¬ ((idx : Int) = (L : Int)) by omega), hgr2, hgv2, htn]
    rw [if_pos ⟨⟨trivial, trivial, by omega, hlt⟩, ⟨by omega, by omega, hrr, by rw [hbar2]; exact hbar⟩, ⟨trivial, trivial, trivial, by have := hby.1; exact Nat.le_trans (Nat.mul_le_mul_right by_ (by omega)) this, hby.2⟩, ⟨hes2, hes3, hes1⟩, hall1, hall2⟩]
   rw [hszm] at hx3
   have hx2 := hx1' hrm0 hx3
   have hd1 := aBB s5 hlk1 a1 (by show (sA.m.upd r _).bar <= r; rw [hbar2]; exact hbar)
   rw [hps] at hd1
   have hrw : l9 cx (cells.take (idx * es) ++ (vcells ++ cells.drop (idx * es))) (vs.take (idx * es) ++ (ws ++ vs.drop (idx * es))) := (e3.take _).append (f3.append (e3.drop _))
   have hcur := (hd1.cur 0 (Nat.le_refl _)).1
   obtain ⟨⟨cx', g2, g3, g4⟩, _, _, _⟩ := K1 hd1 (o := .row .rw es (cells.take (idx * es) ++ (vcells ++ cells.drop (idx * es)))) nofun nofun (N9 (es := es) hd1.pg hcur hrw) (x := .sl k0 0 0 (L + 1) (g6 (L + 1) es)) (v := .slice (some ⟨((sA.m.upd r (some (.row vs .rw es none))).upd r none).size, 0, none⟩) (L + 1) (g6 (L + 1) es)) (.sl (by simp [Cx.bind]))
   have hc2 := oR (n := L + 1) hes2
   refine ⟨_, _, cx', _, _, hcan hx2, g2, g3, g4, ⟨k0, 0, .rw, _, _, rfl, ⟨by rw [hc2.1]; omega, hc2.2⟩, ?_, ?_, ?_, .inr ⟨rfl, rfl, hfr, rfl⟩⟩⟩
   ·simp only [List.length_append, List.length_take, List.length_drop]; omega
   ·rw [hct, List.take_of_length_le (by simp only [List.length_append, List.length_take, List.length_drop]; omega)]
   ·intro y hy
    rcases List.mem_append.1 hy with h | h
    ·exact List.mem_append_left _ (List.mem_of_mem_take h)
    ·rcases List.mem_append.1 h with h | h
     ·exact List.mem_append_right _ h
     ·exact List.mem_append_left _ (List.mem_of_mem_drop h)
end
end Go.Pm
namespace Go.Proofs.YtnmidpahhhdlpaaGreatDoor
open Go Go.Am Go.Pm
theorem aB3 {k i o n c sz m : Nat} {kk : IntKind} (h : m < n) : G8 sz (.sl k i o n c) (.v (.int kk (m : Int))) = some (.ptr k i (o + m * sz)) := by
 unfold G8
 simp only [w7, if_pos h]
theorem aKZ {k i o n c : Nat} : T7 (.sl k i o n c) = some (iv n) := rfl
section
variable {α : Type} {f : α -> List PV} {sz : Nat}
theorem aA1 (hf : ∀ x, (f x).length = sz) (l : List α) : (l.flatMap f).length = l.length * sz := bI (f := f) (n := sz) hf l
inductive VsV (f : α -> List PV) (sz : Nat) (M : b7) : PV -> List α -> Prop where
 | lst (t : lH) (l : List α) : VsV f sz M (.lst t sz l.length (l.flatMap f)) l
 | nil (t : lH) (e : Nat) : VsV f sz M (.lst t e 0 []) []
 | row {k i c : Nat} {w : Wm} {l : List α} {rest : List PV} (hM : M k i = some (.row w sz (l.flatMap f ++ rest))) : VsV f sz M (.sl k i 0 l.length c) l
theorem VsV.sub {M M' : b7} {v : PV} {l : List α} (h : VsV f sz M v l) (hs : Pm.Sub M M') : VsV f sz M' v l := by
 cases h with
 | lst t l => exact .lst t l
 | nil t e => exact .nil t e
 | row hM => exact .row (hs _ _ _ hM)
theorem VsV.len {M : b7} {v : PV} {l : List α} (h : VsV f sz M v l) : T7 v = some (iv (l.length : Nat)) := by
 cases h <;> rfl
theorem aTH (hf : ∀ x, (f x).length = sz) {l : List α} {rest : List PV} {i : Nat} {x : α} (h : l[i]? = some x) : o9 true sz (l.flatMap f ++ rest) (i * sz) = some (.agg (f x)) := by
 have h1 := gQ (f := f) (n := sz) hf h
 have hi : i < l.length := (List.getElem?_eq_some_iff.1 h).1
 have hl := aA1 hf l
 have hm : i * sz + sz <= l.length * sz := by
  have : (i + 1) * sz <= l.length * sz := Nat.mul_le_mul_right _ hi
  rw [Nat.succ_mul] at this; exact this
 have h1' : (if i * sz + sz <= (l.flatMap f).length then some (PV.agg (List.take sz (List.drop (i * sz) (l.flatMap f)))) else none) = some (.agg (f x)) := h1
 rw [if_pos (by omega)] at h1'
 show (if i * sz + sz <= (l.flatMap f ++ rest).length then some (PV.agg (List.take sz (List.drop (i * sz) (l.flatMap f ++ rest)))) else none) = some (.agg (f x))
 rw [if_pos (by rw [List.length_append]; omega), <- h1', List.drop_append_of_le_length (by omega), List.take_append_of_le_length (by rw [List.length_drop]; omega)]
theorem VsV.at (hf' : ∀ x, (f x).length = sz) {M : b7} {v : PV} {l : List α} (h : VsV f sz M v l) {i : Nat} {x : α} (hx : l[i]? = some x) {k : Nat} (hf : fresh M k) :
  ∃ p, (∀ kk : IntKind, G8 sz v (.v (.int kk (i : Int))) = some p) /\ ∀ os, F7 k os M true sz p = some (.agg (f x)) := by
 have hi : i < l.length := (List.getElem?_eq_some_iff.1 hx).1
 cases h with
 | lst t l => exact ⟨.dp (l.flatMap f) (i * sz), fun kk => fN hi, fun os => gQ (f := f) (n := sz) hf' hx⟩
 | nil t e => simp at hx
 | @row a b c w l rest hM =>
  refine ⟨.ptr a b (0 + i * sz), fun kk => aB3 hi, fun os => ?_⟩
  rw [K3 (cE hf hM), hM, Nat.zero_add]
  exact aTH hf' hx
theorem aBP (hf : ∀ x, (f x).length = sz) : ∀ (R : List α) (i : Nat) (v : α), i < R.length -> e8 (R.flatMap f) (i * sz) (f v) = (R.set i v).flatMap f
 | [], i, v, h => by simp at h
 | x :: R, 0, v, _ => by
  unfold e8
  rw [Nat.zero_mul, List.take_zero, List.nil_append, List.set_cons_zero, List.flatMap_cons, List.flatMap_cons, Nat.zero_add, List.drop_append, List.drop_of_length_le (by rw [hf, hf]; omega), hf, hf, Nat.sub_self, List.drop_zero, List.nil_append]
 | x :: R, i + 1, v, h => by
  have ih := aBP hf R i v (by simpa using h)
  unfold e8 at ih ⊢
  have e : (i + 1) * sz = sz + i * sz := by rw [Nat.succ_mul]; omega
  rw [List.set_cons_succ, List.flatMap_cons, List.flatMap_cons, <- ih, e]
  have e1 : (f x ++ R.flatMap f).take (sz + i * sz) = f x ++ (R.flatMap f).take (i * sz) := by
   rw [List.take_append, List.take_of_length_le (by rw [hf]; omega), hf]; congr 2; omega
  have e2 : (f x ++ R.flatMap f).drop (sz + i * sz + (f v).length) = (R.flatMap f).drop (i * sz + (f v).length) := by
   rw [List.drop_append, List.drop_of_length_le (by rw [hf, hf]; omega), hf, hf, List.nil_append]; congr 1; omega
  rw [e1, e2, List.append_assoc]
def V2 (w : Wm) (f : α -> List PV) (sz : Nat) (R : List α) : Pm.Obj := .row w sz (R.flatMap f)
theorem aNJ {w : Wm} {ag : Bool} {n o : Nat} {R : List α} : A9 ag n o (some (V2 w f sz R)) = o9 ag n (R.flatMap f) o := rfl
def I2 (p : α -> Bool) (l : List α) : List α := l.filter fun x => !p x
structure DlV (p : α -> Bool) (l R : List α) (i j : Nat) : Prop where
 len : R.length = l.length
 lt : i < j
 le : j <= l.length
 keep : R.take i = I2 p (l.take j)
 rest : R.drop j = l.drop j
section
variable {p : α -> Bool} {l R : List α} {i j : Nat}
theorem mP {l : List α} {j : Nat} {v : α} (hv : l[j]? = some v) : j < l.length := (List.getElem?_eq_some_iff.1 hv).1
theorem aH {l : List α} {j : Nat} {v : α} (hv : l[j]? = some v) : l.take (j + 1) = l.take j ++ [v] := by rw [List.take_add_one, hv]; rfl
theorem DlV.get (h : DlV p l R i j) {v : α} (hv : l[j]? = some v) : R[j]? = some v := by
 have h1 : (R.drop j)[0]? = (l.drop j)[0]? := by rw [h.rest]
 rw [List.getElem?_drop, List.getElem?_drop, Nat.add_zero] at h1
 rw [h1]; exact hv
theorem DlV.out (h : DlV p l R i j) {v : α} (hv : l[j]? = some v) (hp : p v = true) : DlV p l R i (j + 1) := by
 have hj := mP hv
 have hl := h.lt
 refine ⟨h.len, by omega, by omega, ?_, ?_⟩
 ·rw [h.keep, aH hv]; unfold I2; rw [List.filter_append]; simp [hp]
 ·have : R.drop (j + 1) = (R.drop j).drop 1 := by rw [List.drop_drop]
  rw [this, h.rest, List.drop_drop]
theorem DlV.in (h : DlV p l R i j) {v : α} (hv : l[j]? = some v) (hp : p v = false) : DlV p l (R.set i v) (i + 1) (j + 1) := by
 have hj := mP hv
 have hl := h.lt
 have hlen := h.len
 refine ⟨by rw [List.length_set]; exact h.len, by omega, by omega, ?_, ?_⟩
 ·rw [aH (l := R.set i v) (v := v) (by rw [List.getElem?_set_self (by omega)]), List.take_set_of_le (Nat.le_refl _), h.keep, aH hv]
  unfold I2; rw [List.filter_append]; simp [hp]
 ·rw [List.drop_set_of_lt (by omega)]
  have : R.drop (j + 1) = (R.drop j).drop 1 := by rw [List.drop_drop]
  rw [this, h.rest, List.drop_drop]
def lK (p : α -> Bool) : Nat -> List α -> Int
 | _, [] => -1
 | i, x :: r => if p x then i else lK p (i + 1) r
theorem nG (p : α -> Bool) : ∀ (l : List α) (i : Nat), (lK p i l = -1 /\ l.any p = false) \/ ∃ n x, lK p i l = ((i + n : Nat) : Int) /\ l[n]? = some x /\ p x = true /\ ∀ y ∈ l.take n, p y = false
 | [], i => .inl ⟨rfl, rfl⟩
 | x :: r, i => by
  unfold lK
  cases h : p x with
  | true => exact .inr ⟨0, x, by simp, rfl, h, fun y hy => by simp at hy⟩
  | false =>
   rw [if_neg (by decide)]
   rcases nG p r (i + 1) with ⟨h1, h2⟩ | ⟨n, z, h1, h2, h3, h4⟩
   ·exact .inl ⟨h1, by rw [List.any_cons, h, h2]; rfl⟩
   ·refine .inr ⟨n + 1, z, by rw [h1]; congr 1; omega, by simpa using h2, h3, fun y hy => ?_⟩
    rw [List.take_succ_cons] at hy
    rcases List.mem_cons.1 hy with rfl | hy
    ·exact h
    ·exact h4 y hy
theorem DlV.start {n : Nat} {x : α} (hx : l[n]? = some x) (hp : p x = true) (hn : ∀ y ∈ l.take n, p y = false) : DlV p l l n (n + 1) := by
 have hj := mP hx
 refine ⟨rfl, by omega, by omega, ?_, rfl⟩
 rw [aH hx]; unfold I2
 rw [List.filter_append, List.filter_eq_self.2 (fun y hy => by rw [hn y hy]; rfl)]
 simp [hp]
end
theorem aFE {M : b7} {a i k : Nat} {o o' : Pm.Obj} (h : fresh (i6 M a i o) k) : fresh (i6 M a i o') k := fun y => by
 have hk : ¬ (k = a /\ i = i) := fun e => by
  have := h i
  unfold i6 at this
  rw [if_pos e] at this; cases this
 have h1 := h y
 unfold i6 at h1 ⊢
 rw [if_neg (fun e => hk ⟨e.1, rfl⟩)] at h1 ⊢
 exact h1
theorem xX {k i n c sz m : Nat} {kk : IntKind} (h1 : m <= n) (hc : n <= g9 c /\ c % 2 = 1 /\ L2 c = sz) (hs : sz < 4096) : G1 sz (.sl k i 0 n c) (some (.v (.int kk (m : Int)))) none none = some (.sl k i (m * sz) (n - m) (g6 (g9 c - m) sz)) := by
 have hp : v6 (.v (.int kk (m : Int))) = some m := w7 (n := m)
 unfold G1
 simp only [hp]
 rw [if_pos ⟨h1, hc.1, .inr ⟨hc.2.1, hc.2.2, hs⟩⟩, Nat.zero_add, if_neg (by omega)]
theorem aXH {c sz : Nat} (h : c % 2 = 1 /\ L2 c = sz) : g6 (g9 c) sz = c := by
 obtain ⟨h1, rfl⟩ := h
 have h2 : Nat.beq (c % 2) 0 = false := by rw [h1]; rfl
 unfold g6 g9 L2
 rw [h2, cond_false]
 omega
theorem aFT {k i n c sz m : Nat} {kk : IntKind} (h1 : m <= g9 c) (hc : (c % 2 = 1 /\ L2 c = sz) /\ sz < 4096) : G1 sz (.sl k i 0 n c) none (some (.v (.int kk (m : Int)))) none = some (.sl k i 0 m c) := by
 have hp : v6 (.v (.int kk (m : Int))) = some m := w7 (n := m)
 unfold G1
 simp only [hp]
 rw [if_pos ⟨Nat.zero_le _, h1, .inr ⟨hc.1.1, hc.1.2, hc.2⟩⟩, if_neg (by omega), Nat.zero_mul, Nat.sub_zero, Nat.sub_zero, aXH hc.1]
theorem aI7 {z : List PV} (hz : ∀ j, ∀ y ∈ z, NK j y) {n : Nat} (j : Nat) (y : PV) (h : y ∈ (List.replicate n z).flatten) : NK j y := by
 obtain ⟨l, h1, h2⟩ := List.mem_flatten.1 h
 rw [List.eq_of_mem_replicate h1] at h2
 exact hz j y h2
structure bCS (f : α -> List PV) (sz : Nat) (M M1 : b7) (a i n c : Nat) (out : List α) (x : PV) : Prop where
 val : x = .sl a i 0 out.length c
 mem : ∃ rest w, (w = .rw \/ w = .own) /\ M1 = i6 M a i (.row w sz (out.flatMap f ++ rest)) /\ (out.flatMap f ++ rest).length = n * sz /\ (out.flatMap f ++ rest).all p7 = true /\ ∀ j, ∀ y ∈ rest, NK j y
structure KdV (tm : List (Nat × PV)) (a b n c : Nat) (g : PV) (i j : Nat) : Prop where
 t0 : a7 tm 0 = .sl a b 0 n c
 t1 : a7 tm 1 = g
 t5 : a7 tm 5 = iv i
 t6 : a7 tm 6 = iv j
end
end Go.Proofs.YtnmidpahhhdlpaaGreatDoor
noncomputable section
namespace Go.Proofs.YtnmidpahhhdlpaaGreatDoor
open Go Go.Am Go.Pm
def bB (a b : Int) : Int := if a < b then -1 else if a > b then 1 else 0
theorem aL9 (a : Int) : r8 env Tryz.prog 105 [iv a] (bv false) := fun M => by
 refine PT.enterR a6 bBB (by simp) aON fun k hk hf => RX.of a6 ?_
 simp only [G0, Z1, Z2, Z3, Z4, Z5, d5, bne_self_eq_false]
 exact i9 hf rfl ⟨rfl, rfl⟩
theorem aRC (a b : Int) : r8 env Tryz.prog 79 [iv a, iv b] (iv (bB a b)) := fun M => by
 refine PT.enterR a6 bDH (by simp) aW8 fun k hk hf => RX.of a6 ?_
 simp only [G0, Z1, Z2, Z3, Z4, Z5, d5]
 refine y7 (aL9 a) (by decide) ?_
 simp only [G0, Z1, Z2, Z3, Z4, Z5]
 refine y7 (aL9 b) (by decide) ?_
 simp only [G0, Z1, Z2, Z3, Z4, Z5]
 refine jY (fun hb => ?_) (fun hb => ?_)
 ·simp only [G0, Z1, Z2, Z3, Z4, Z5]
  refine i9 hf rfl ⟨?_, rfl⟩
  unfold bB; rw [if_pos (by simpa using hb)]; rfl
 ·have hb' : ¬ a < b := by simpa using hb
  simp only [G0, Z1, Z2, Z3, Z4, Z5]
  refine jY (fun hc => ?_) (fun hc => ?_)
  ·simp only [G0, Z1, Z2, Z3, Z4, Z5]
   refine i9 hf rfl ⟨?_, rfl⟩
   unfold bB; rw [if_neg hb', if_pos (by simpa using hc)]; rfl
  ·simp only [G0, Z1, Z2, Z3, Z4, Z5]
   refine i9 hf rfl ⟨?_, rfl⟩
   unfold bB; rw [if_neg hb', if_neg (by simpa using hc)]; rfl
def orI : List Int -> Int
 | [] => 0
 | x :: r => if x = 0 then orI r else x
theorem aNO {t : lH} {l : List Int} {i : Nat} {x : Int} (h : l[i]? = some x) : o9 false 1 (l.map iv) (i * 1) = some (iv x) := by
 unfold o9
 simp [h]
theorem aP5 {M0 : b7} {a b c : Nat} {w : Wm} {es : Nat} (l : List Int) (hl : l.length <= 1000000) (hM : M0 a b = some (.row w es (l.map iv))) (M : b7) (k : Nat) (Q : c9 -> c5 -> Prop) (hs : Pm.Sub M0 M) (hf : fresh M k)
  (q1 : ∀ tm, orI l = 0 -> a7 tm 3 = iv 0 -> Q (.exit 0) ⟨tm, 18, k, [], M⟩) (q2 : ∀ tm, a7 tm 2 = iv (orI l) -> Q .ret ⟨tm, 18, k, [], M⟩) :
  ∀ d i tm, l.length - i = d -> i <= l.length -> orI l = orI (l.drop i) -> a7 tm 3 = iv 0 -> a7 tm 6 = .sl a b 0 l.length c -> a7 tm 7 = iv l.length -> a7 tm 8 = iv i -> u0 env Tryz.prog none aIH ⟨tm, 18, k, [], M⟩ Q := by
 intro d
 induction d with
 | zero =>
  intro i tm hd hi ho t3 t6 t7 t8
  have : i = l.length := by omega
  subst this
  refine u0.round (RX.of a6 ?_)
  simp only [G0, Z1, Z2, Z3, Z4, Z5, t7, t8, Int.lt_irrefl, decide_false]
  exact q1 _ (by rw [ho, List.drop_of_length_le (Nat.le_refl _)]; rfl) t3
 | succ d ih =>
  intro i tm hd hi ho t3 t6 t7 t8
  have hi' : i < l.length := by omega
  have hii : (i : Int) < l.length := by omega
  obtain ⟨x, hx, hdx⟩ := E6 hi'
  have hlx := aNO (t := .no) hx
  have hM' := hs _ _ _ hM
  have hld : ∀ {ag : Bool} {n o : Nat} {os : List Pm.Obj}, F7 k os M ag n (.ptr a b o) = A9 ag n o (M a b) := K3 (cE hf hM')
  have hia := fun (kk : IntKind) => aB3 (k := a) (i := b) (o := 0) (n := l.length) (c := c) (sz := 1) (kk := kk) hi'
  have hw : IntKind.i64.wrap ((i : Int) + 1) = ((i + 1 : Nat) : Int) := by rw [d3 (by omega) (by omega)]; rfl
  rw [hdx] at ho
  refine u0.round (RX.of a6 ?_)
  simp only [G0, Z1, Z2, Z3, Z4, Z5, t3, t6, t7, t8, hii, decide_true, hia, Nat.zero_add, hld, hM', hlx]
  refine jY (fun hb => ?_) (fun hb => ?_)
  ·simp only [G0, Z1, Z2, Z3, Z4, Z5]
   refine q2 _ ?_
   rw [ho]; unfold orI; rw [if_neg (by simpa using hb)]; rfl
  ·simp only [G0, Z1, Z2, Z3, Z4, Z5, t8, hw]
   refine ih (i + 1) _ (by omega) (by omega) ?_ t3 t6 t7 rfl
   rw [ho]
   show orI (x :: _) = _
   rw [orI, if_pos (by simpa using hb)]
theorem aX1 {M0 : b7} {a b c : Nat} {w : Wm} {es : Nat} (l : List Int) (hl : l.length <= 1000000) (hM : M0 a b = some (.row w es (l.map iv))) : lT env Tryz.prog M0 81 [.sl a b 0 l.length c] (iv (orI l)) := by
 refine lT.enter a6 bCU (by simp) aXK fun M k hs hk hf => ?_
 simp only [G0, Z1, Z2, Z3, Z4, Z5, d5, aKZ]
 refine RX.loop (aP5 l hl hM M k _ hs hf ?_ ?_ l.length 0 _ rfl (Nat.zero_le _) rfl rfl rfl rfl rfl)
 ·intro tm h t3
  simp only [G0, Z1, Z2, Z3, Z4, Z5, t3]
  exact i9 hf rfl ⟨by rw [h]; rfl, rfl⟩
 ·intro tm h
  simp only [G0, Z1, Z2, Z3, Z4, Z5]
  exact i9 hf h ⟨rfl, rfl⟩
theorem bEF : env.ext 106 = some T8 := by kernel_rfl
theorem aWI (a b : List UInt8) : r8 env Tryz.prog 106 [a8 a, a8 b] (iv (S7 a b)) := fun M => by
 have h := PT.compare (M := M) mM bEF (t1 := .no) (t2 := .no) (aG a) (aG b)
 have e1 : ∀ l : List UInt8, (PV.lst .no 1 (l.map A5).length (l.map A5)) = a8 l := fun l => by unfold a8; rw [List.length_map]
 rw [e1, e1] at h
 exact h
theorem aZK (a b : List UInt8) : r8 env Tryz.prog 80 [a8 a, a8 b] (iv (S7 a b)) := fun M => by
 refine PT.enterR a6 bDZ (by simp) aWZ fun k hk hf => RX.of a6 ?_
 simp only [G0, Z1, Z2, Z3, Z4, Z5, d5]
 refine y7 (aWI a b) (by decide) ?_
 simp only [G0, Z1, Z2, Z3, Z4, Z5]
 exact i9 hf rfl ⟨rfl, rfl⟩
def aAF (x m : Int) (a : List UInt8) (y p : Int) (b : List UInt8) : Int := orI [bB x y, bB m p, S7 a b]
theorem bCD (a b c : Int) : T6 1 [.v (.int .i64 0), .v (.int .i64 0), .v (.int .i64 0)] [(0, iv a), (1, iv b), (2, iv c)] = some [iv a, iv b, iv c] := rfl
theorem aOQ (x m y p : Int) (a b : List UInt8) : r8 env Tryz.prog 56 [.agg [iv x, iv m, a8 a], .agg [iv y, iv p, a8 b]] (iv (aAF x m a y p b)) := fun M => by
 refine PT.enterR a6 bC6 (by simp) aS9 fun k hk hf => RX.of a6 ?_
 have hst : q8 3 0 (.agg [iv (bB x y), iv (bB m p), iv (S7 a b)]) (some (.row .rw 0 [iv 0, iv 0, iv 0])) = some (.row .rw 0 [iv (bB x y), iv (bB m p), iv (S7 a b)]) := n7 (n := 3) ⟨rfl, Nat.le_refl 3, rfl⟩
 simp only [G0, Z1, Z2, Z3, Z4, Z5, d5, aDI]
 refine cq0 (aRC _ _) (by decide) ?_
 simp only [G0, Z1, Z2, Z3, Z4, Z5]
 refine cq0 (aRC _ _) (by decide) ?_
 simp only [G0, Z1, Z2, Z3, Z4, Z5]
 refine cq0 (aZK _ _) (by decide) ?_
 simp only [G0, Z1, Z2, Z3, Z4, Z5, bCD, hst, aMI, aAA]
 refine cs0 (aX1 (M0 := aJU k 2 (.row .rw 0 [iv (bB x y), iv (bB m p), iv (S7 a b)])) (w := .rw) (es := 0) [bB x y, bB m p, S7 a b] (by simp) aET) (xI (by rw [i4]; rfl)) (by decide) ?_
 simp only [G0, Z1, Z2, Z3, Z4, Z5]
 exact i9 hf rfl ⟨rfl, rfl⟩
theorem aFX (x m : Int) (a : List UInt8) : aAF x m a x m a = 0 := by
 have h : ∀ z : Int, bB z z = 0 := fun z => by unfold bB; rw [if_neg (Int.lt_irrefl _), if_neg (Int.lt_irrefl _)]
 unfold aAF
 rw [h, h, rK]; rfl
theorem aPJ (x m y p : Int) (a b : List UInt8) : r8 env Tryz.prog 33 [.agg [iv x, iv m, a8 a], .agg [iv y, iv p, a8 b]] (bv (aAF x m a y p b == 0)) := fun M => by
 refine PT.enterR a6 bDK (by simp) aUU fun k hk hf => RX.of a6 ?_
 simp only [G0, Z1, Z2, Z3, Z4, Z5, d5, aDI]
 refine y7 (aOQ x m y p a b) (by decide) ?_
 simp only [G0, Z1, Z2, Z3, Z4, Z5]
 exact i9 hf rfl ⟨rfl, rfl⟩
end Go.Proofs.YtnmidpahhhdlpaaGreatDoor
end
namespace Go.Proofs.YtnmidpahhhdlpaaGreatDoor
open Go Go.Am Go.Pm
theorem aSY {l : List En} {i : Nat} {x : En} (h : l[i]? = some x) : o9 true 3 (l.flatMap d6) (i * 4 + 1) = some (.agg [iv x.kind, iv x.mode, a8 x.bytes]) := by
 have hl := R4 h
 have hlen : (i * 4 + 4 : Nat) <= (l.flatMap d6).length := by
  unfold o9 at hl
  dsimp only at hl
  split at hl
  ·assumption
  ·cases hl
 unfold o9 at hl ⊢
 dsimp only at hl ⊢
 rw [if_pos hlen] at hl
 rw [if_pos (by omega)]
 have e : ((l.flatMap d6).drop (i * 4)).take 4 = d6 x := by
  have := Option.some.inj hl
  unfold S5 at this
  exact PV.agg.inj this
 have e2 : ((l.flatMap d6).drop (i * 4 + 1)).take 3 = (d6 x).drop 1 := by
  rw [<- e, List.drop_take, List.drop_drop]
 rw [e2]; rfl
theorem iU {l : List En} {i : Nat} {x : En} (h : l[i]? = some x) : PtE (.dp (l.flatMap d6) (i * 4)) (some x) := .here (by have := lX (c := 0) h rfl; exact this) (aSY h)
structure Bx (n0 : Nat) (M0 M : b7) (a : Nat) (L : List Pr) : Prop where
 sub : Pm.Sub M0 M
 new : fresh M0 a
 vals : ∃ vo, M a 0 = some (.row .rw 0 [vo]) /\ fC M vo L /\ wE vo ≠ some a /\ ∀ k, wE vo = some k -> fresh M0 k /\ n0 <= k
section
variable {n0 a k : Nat} {M0 M : b7} {L : List Pr}
theorem Bx.met {px py : PV} {ox oy : Option En} (h : Bx n0 M0 M a L) (hx : PtE px ox) (hy : PtE py oy) (hl : L.length <= 1000000) :
  iY env Tryz.prog 27 [px, py, .ptr a 0 0] M (fun nk z M1 => n0 <= nk -> Bx n0 M0 M1 a (L ++ [L3 ox oy])) := by
 obtain ⟨vo, h1, h2, h3, h4⟩ := h.vals
 refine (aZ6 hx hy h1 h2 h3 hl).mono ?_
 rintro nk z M1 ⟨vo', k', q1, q2, q3, q4, q5, q6⟩ hn
 refine ⟨fun j i o e => ?_, h.new, vo', q1, q2, ?_, ?_⟩
 ·have hj : j ≠ a := fun e' => by subst e'; rw [h.new i] at e; cases e
  have he := h.sub _ _ _ e
  rw [q6 j i hj (fun e' => by rw [(h4 j e').1 i] at e; cases e) (by rw [he]; exact fun h => by cases h)]
  exact he
 ·rw [q5]
  intro e
  cases e
  rw [q4 0] at h1; cases h1
 ·intro k e
  rw [q5] at e
  cases e
  exact ⟨iL h.sub q4, by omega⟩
theorem Bx.into (h : Bx (k + 1) M0 M a L) (hf : fresh M0 k) (hak : a ≠ k) : Bx (k + 1) M0 (seg M k []) a L := by
 obtain ⟨vo, h1, h2, h3, h4⟩ := h.vals
 refine ⟨fun j i o e => ?_, h.new, vo, by rw [l3 _ _ _ hak]; exact h1, h2.frame fun j i e _ => ?_, h3, h4⟩
 ·have hj : j ≠ k := fun e' => by subst e'; rw [hf i] at e; cases e
  rw [l3 _ _ _ hj]; exact h.sub _ _ _ e
 ·have hj : j ≠ k := fun e' => by subst e'; have := (h4 _ e).2; omega
  rw [l3 _ _ _ hj]
theorem Bx.weak {n1 : Nat} (h : Bx n0 M0 M a L) (hn : n1 <= n0) : Bx n1 M0 M a L := by
 obtain ⟨vo, h1, h2, h3, h4⟩ := h.vals
 exact ⟨h.sub, h.new, vo, h1, h2, h3, fun k e => ⟨(h4 k e).1, Nat.le_trans hn (h4 k e).2⟩⟩
end
theorem aSZ {E : d9} {P : Program} {rd : Option (Nat × Nat)} {s : c5} {Q : c9 -> c5 -> Prop} {a : Code} {c : RC} (hc : i5 E a = c) (h : RX E P rd c s (fun e s1 => (∀ l, e ≠ .goto l) /\ Q e s1)) : RX E P rd (.scope a) s Q :=
 RX.scope (PXS.run ((h a hc).mono fun e s1 h1 => by
  cases e with
  | goto l => exact absurd rfl (h1.1 l)
  | normal => exact h1.2
  | exit i => exact h1.2
  | ret => exact h1.2))
section
variable {E : d9} {P : Program} {d g : Nat} {w : Bool} {A : Operand} {ar : List Operand} {ld : List RD} {tm : List (Nat × PV)} {nt k : Nat} {os : List Pm.Obj} {M : b7} {R : c5 -> Prop}
theorem pB (h : g7 tm A = .fn 26 [] []) : Q3 E P (dCG true d g w A ar :: ld) ⟨tm, nt, k, os, M⟩ R = cG E P d w (.d ld) tm nt k os M R (ar.map (g7 tm)) (.fn 26 [] []) (a7 tm g) := by
 unfold cG
 have hg : rg (some (g, w)) ⟨tm, nt, k, os, M⟩ = zX w (a7 tm g) := uS
 apply propext
 constructor
 ·rintro (⟨h0, h1⟩ | ⟨-, h0, h1⟩ | ⟨h0, -⟩)
  ·replace h0 := hg.symm.trans h0; rw [h0]
   obtain ⟨g', f', c', e, h1⟩ := h1
   exact .inl ⟨g', f', c', h.symm.trans e, h1⟩
  ·replace h0 := hg.symm.trans h0; rw [h0]; dsimp only; rw [<- J5]; exact h1
  ·cases h0
 ·intro h1
  split at h1
  ·rename_i h0
   rcases h1 with ⟨g', f', c', e, h1⟩ | ⟨a, i, e, _⟩
   ·cases e; exact .inl ⟨hg.trans h0, _, _, _, h, h1⟩
   ·cases e
  ·rename_i h0
   rw [<- J5] at h1
   exact .inr (.inl ⟨rfl, hg.trans h0, h1⟩)
  ·exact h1.elim
theorem nI (h : a7 tm g = .v (.bool (!w))) : Q3 E P (dCG true d g w A ar :: ld) ⟨tm, nt, k, os, M⟩ R = nV E P d (.d ld) tm nt k os M R (some (.tup [])) := by
 have hg : rg (some (g, w)) ⟨tm, nt, k, os, M⟩ = some false := by
  have : rg (some (g, w)) ⟨tm, nt, k, os, M⟩ = zX w (a7 tm g) := uS
  rw [this, h]
  cases w <;> rfl
 apply propext
 constructor
 ·rintro (⟨h0, h1⟩ | ⟨-, h0, h1⟩ | ⟨h0, -⟩)
  ·replace h0 := hg.symm.trans h0; cases h0
  ·rw [<- J5]; exact h1
  ·cases h0
 ·intro h1
  rw [<- J5] at h1
  exact .inr (.inl ⟨rfl, hg, h1⟩)
theorem oW (h : a7 tm g = .tup []) : Q3 E P (dCG true d g w A ar :: ld) ⟨tm, nt, k, os, M⟩ R = nV E P d (.d ld) tm nt k os M R (some (.tup [])) := by
 have hg : rg (some (g, w)) ⟨tm, nt, k, os, M⟩ = some false := by
  have : rg (some (g, w)) ⟨tm, nt, k, os, M⟩ = zX w (a7 tm g) := uS
  rw [this, h]
  rfl
 apply propext
 constructor
 ·rintro (⟨h0, h1⟩ | ⟨-, h0, h1⟩ | ⟨h0, -⟩)
  ·replace h0 := hg.symm.trans h0; cases h0
  ·rw [<- J5]; exact h1
  ·cases h0
 ·intro h1
  rw [<- J5] at h1
  exact .inr (.inl ⟨rfl, hg, h1⟩)
end
structure K24 (tm : List (Nat × PV)) (A B : List En) (a i j : Nat) : Prop where
 t0 : a7 tm 0 = d7 A
 t1 : a7 tm 1 = d7 B
 t2 : a7 tm 2 = .fn 26 [] []
 t3 : a7 tm 3 = .fn 27 [] [.ptr a 0 0]
 t8 : a7 tm 8 = iv i
 t9 : a7 tm 9 = iv j
theorem aW9 (A B : List En) (hA : A.length <= 100000) (hB : B.length <= 100000) (hpA : ∀ x ∈ A, x.path.length <= 1000000) (hpB : ∀ x ∈ B, x.path.length <= 1000000) (M0 : b7) (a k : Nat) (hf : fresh M0 k) (hak : a ≠ k) (R : List Pr) (hR : R.length <= 1000000) (Q : c9 -> c5 -> Prop)
  (q : ∀ tm M, Bx (k + 1) M0 (seg M k []) a R -> Q (.exit 0) ⟨tm, 88, k, [], M⟩) :
  ∀ d i j L M tm, (A.length - i) + (B.length - j) <= d -> i <= A.length -> j <= B.length -> L ++ n6 d (A.drop i) (B.drop j) = R -> Bx (k + 1) M0 (seg M k []) a L -> K24 tm A B a i j -> u0 env Tryz.prog none aHK ⟨tm, 88, k, [], M⟩ Q := by
 intro d
 induction d with
 | zero =>
  intro i j L M tm hd hi hj hL hX hK
  obtain ⟨t0, t1, t2, t3, t8, t9⟩ := hK
  have hii : ¬ ((i : Int) < A.length) := by omega
  have hjj : ¬ ((j : Int) < B.length) := by omega
  have h0 : a7 tm 0 = .lst .no 4 A.length (A.flatMap d6) := t0
  have h1 : a7 tm 1 = .lst .no 4 B.length (B.flatMap d6) := t1
  have hLR : L = R := by rw [<- hL]; simp [n6]
  subst hLR
  refine u0.round (RX.of a6 ?_)
  simp only [G0, Z1, Z2, Z3, Z4, Z5, h0, h1, t8, t9, hii, hjj, decide_false, i7, j0, Bool.not_true, Bool.not_false]
  exact q _ _ hX
 | succ d ih =>
  intro i j L M tm hd hi hj hL hX hK
  obtain ⟨t0, t1, t2, t3, t8, t9⟩ := hK
  have h0 : a7 tm 0 = .lst .no 4 A.length (A.flatMap d6) := t0
  have h1 : a7 tm 1 = .lst .no 4 B.length (B.flatMap d6) := t1
  have hLl : L.length <= 1000000 := by rw [<- hL, List.length_append] at hR; omega
  have hwi : IntKind.i64.wrap ((i : Int) + 1) = ((i + 1 : Nat) : Int) := by rw [d3 (by omega) (by omega)]; rfl
  have hwj : IntKind.i64.wrap ((j : Int) + 1) = ((j + 1 : Nat) : Int) := by rw [d3 (by omega) (by omega)]; rfl
  refine u0.round (RX.of a6 ?_)
  rcases Nat.lt_or_ge i A.length with hia | hia
  ·have hii : (i : Int) < A.length := by omega
   obtain ⟨x, hx, hdx⟩ := E6 hia
   have hxm := hpA x (List.mem_of_getElem? hx)
   rcases Nat.lt_or_ge j B.length with hjb | hjb
   ·have hjj : (j : Int) < B.length := by omega
    obtain ⟨y, hy, hdy⟩ := E6 hjb
    have hym := hpB y (List.mem_of_getElem? hy)
    have hje : ((j : Int) == (B.length : Int)) = false := by simp; omega
    have hie : ((i : Int) == (A.length : Int)) = false := by simp; omega
    have hlx := R4 hx
    have hly := R4 hy
    rw [hdx, hdy, S3] at hL
    simp only [G0, Z1, Z2, Z3, Z4, Z5, h0, h1, t2, t8, t9, hii, hjj, hia, hjb, hje, hie, hlx, hly, decide_true, decide_false, i7, j0, Bool.not_true, Bool.not_false, pB, nI, oW]
    refine y7 (aY9 x y hxm hym) (by decide) ?_
    by_cases hc : byI x y < 0
    ·rw [if_pos hc] at hL
     simp only [G0, Z1, Z2, Z3, Z4, Z5, h0, h1, t2, t3, t8, t9, hia, hjb, hc, hwi, decide_true, decide_false, i7, j0, Bool.not_true, Bool.not_false]
     refine cmk (first := []) (cap := [.ptr a 0 0]) ((hX.met (iU hx) .nil hLl).mono fun nk z M1 hB1 hnk => ⟨[], M1, rfl, N3.seg_nil' _ _, by decide, ?_⟩)
     simp only [G0, Z1, Z2, Z3, Z4, Z5, t8, hwi]
     exact ih (i + 1) j (L ++ [L3 (some x) none]) M1 _ (by omega) (by omega) hj (by rw [List.append_assoc, hdy]; exact hL) ((hB1 (by omega)).into hf hak) ⟨t0, t1, t2, t3, rfl, t9⟩
    ·rw [if_neg hc] at hL
     simp only [G0, Z1, Z2, Z3, Z4, Z5, h0, h1, t2, t3, t8, t9, hii, hjj, hia, hjb, hje, hie, hlx, hly, hc, decide_true, decide_false, i7, j0, Bool.not_true, Bool.not_false, pB, nI, oW]
     refine y7 (aY9 y x hym hxm) (by decide) ?_
     by_cases hc2 : byI y x < 0
     ·rw [if_pos hc2] at hL
      simp only [G0, Z1, Z2, Z3, Z4, Z5, h0, h1, t2, t3, t8, t9, hia, hjb, hc2, hwj, decide_true, decide_false, i7, j0, Bool.not_true, Bool.not_false]
      refine cmk (first := []) (cap := [.ptr a 0 0]) ((hX.met .nil (iU hy) hLl).mono fun nk z M1 hB1 hnk => ⟨[], M1, rfl, N3.seg_nil' _ _, by decide, ?_⟩)
      simp only [G0, Z1, Z2, Z3, Z4, Z5, t9, hwj]
      exact ih i (j + 1) (L ++ [L3 none (some y)]) M1 _ (by omega) hi (by omega) (by rw [List.append_assoc, hdx]; exact hL) ((hB1 (by omega)).into hf hak) ⟨t0, t1, t2, t3, t8, rfl⟩
     ·rw [if_neg hc2] at hL
      simp only [G0, Z1, Z2, Z3, Z4, Z5, h0, h1, t2, t3, t8, t9, hia, hjb, hc2, decide_true, decide_false, i7, j0, Bool.not_true, Bool.not_false, pB, nI, oW]
      refine d_C (n := 27) (first := []) (cap := [.ptr a 0 0]) ?_ (by rfl)
      simp only [G0, Z1, Z2, Z3, Z4, Z5]
      refine cmk (first := []) (cap := [.ptr a 0 0]) ((hX.met (iU hx) (iU hy) hLl).mono fun nk z M1 hB1 hnk => ⟨[], M1, rfl, N3.seg_nil' _ _, by decide, ?_⟩)
      simp only [G0, Z1, Z2, Z3, Z4, Z5, t8, t9, hwi, hwj]
      exact ih (i + 1) (j + 1) (L ++ [L3 (some x) (some y)]) M1 _ (by omega) (by omega) (by omega) (by rw [List.append_assoc]; exact hL) ((hB1 (by omega)).into hf hak) ⟨t0, t1, t2, t3, rfl, rfl⟩
   ·have hjj : ¬ ((j : Int) < B.length) := by omega
    have hje : ((j : Int) == (B.length : Int)) = true := by simp; omega
    have hdy : B.drop j = [] := List.drop_of_length_le (by omega)
    have hlx := R4 hx
    rw [hdx, hdy, Y2] at hL
    simp only [G0, Z1, Z2, Z3, Z4, Z5, h0, h1, t2, t3, t8, t9, hii, hjj, hia, hje, decide_true, decide_false, i7, j0, Bool.not_true, Bool.not_false, pB, nI, oW]
    refine cmk (first := []) (cap := [.ptr a 0 0]) ((hX.met (iU hx) .nil hLl).mono fun nk z M1 hB1 hnk => ⟨[], M1, rfl, N3.seg_nil' _ _, by decide, ?_⟩)
    simp only [G0, Z1, Z2, Z3, Z4, Z5, t8, hwi]
    exact ih (i + 1) j (L ++ [L3 (some x) none]) M1 _ (by omega) (by omega) hj (by rw [List.append_assoc, hdy]; exact hL) ((hB1 (by omega)).into hf hak) ⟨t0, t1, t2, t3, rfl, t9⟩
  ·have hii : ¬ ((i : Int) < A.length) := by omega
   have hdx : A.drop i = [] := List.drop_of_length_le (by omega)
   rcases Nat.lt_or_ge j B.length with hjb | hjb
   ·have hjj : (j : Int) < B.length := by omega
    obtain ⟨y, hy, hdy⟩ := E6 hjb
    have hje : ((j : Int) == (B.length : Int)) = false := by simp; omega
    have hie : ((i : Int) == (A.length : Int)) = true := by simp; omega
    have hly := R4 hy
    rw [hdx, hdy, Z0] at hL
    simp only [G0, Z1, Z2, Z3, Z4, Z5, h0, h1, t2, t3, t8, t9, hii, hjj, hjb, hje, hie, decide_true, decide_false, i7, j0, Bool.not_true, Bool.not_false, pB, nI, oW]
    refine cmk (first := []) (cap := [.ptr a 0 0]) ((hX.met .nil (iU hy) hLl).mono fun nk z M1 hB1 hnk => ⟨[], M1, rfl, N3.seg_nil' _ _, by decide, ?_⟩)
    simp only [G0, Z1, Z2, Z3, Z4, Z5, t9, hwj]
    exact ih i (j + 1) (L ++ [L3 none (some y)]) M1 _ (by omega) hi (by omega) (by rw [List.append_assoc, hdx]; exact hL) ((hB1 (by omega)).into hf hak) ⟨t0, t1, t2, t3, t8, rfl⟩
   ·have hjj : ¬ ((j : Int) < B.length) := by omega
    have hdy : B.drop j = [] := List.drop_of_length_le (by omega)
    have hLR : L = R := by rw [<- hL, hdx, hdy, nQ, List.append_nil]
    subst hLR
    simp only [G0, Z1, Z2, Z3, Z4, Z5, h0, h1, t8, t9, hii, hjj, decide_false, i7, j0, Bool.not_true, Bool.not_false]
    exact q _ _ hX
end Go.Proofs.YtnmidpahhhdlpaaGreatDoor
namespace Go.Proofs.YtnmidpahhhdlpaaGreatDoor
open Go Go.Am Go.Pm
theorem bEH (x : Pr) : q8 7 0 (K2 x) (some (.row .rw 0 [.v (.string ⟨#[]⟩), .v (.int .i64 0), .v (.int .i64 0), .lst .full 0 0 [], .v (.int .i64 0), .v (.int .i64 0), .lst .full 0 0 []])) = some (.row .rw 0 (b9 x)) := n7 (n := 7) ⟨rfl, Nat.le_refl 7, rfl⟩
section
variable {M0 M : b7} {v : PV} {a b k c g : Nat} {w0 : Wm} {l : List Pr} {first cap : List PV} {p : Pr -> Bool}
theorem aXL (hv : VsV b9 7 M0 v l) (hl : l.length <= 1000000) (M : b7) (k : Nat) (Q : c9 -> c5 -> Prop) (g : Nat) (first cap : List PV) (p : Pr -> Bool) (hs : Pm.Sub M0 M) (hf : fresh M k)
  (hp : ∀ x ∈ l, lT env Tryz.prog M0 g (first ++ ([K2 x] ++ cap)) (bv (p x)))
  (q1 : ∀ tm, lK p 0 l = -1 -> Q (.exit 0) ⟨tm, 19, k, [], M⟩) (q2 : ∀ tm, a7 tm 4 = iv (lK p 0 l) -> Q .ret ⟨tm, 19, k, [], M⟩) :
  ∀ d i tm, l.length - i = d -> i <= l.length -> lK p 0 l = lK p i (l.drop i) -> a7 tm 0 = v -> a7 tm 1 = .fn g first cap -> a7 tm 7 = iv l.length -> a7 tm 8 = iv i →
  u0 env Tryz.prog none aK4 ⟨tm, 19, k, [], M⟩ Q := by
 intro d
 induction d with
 | zero =>
  intro i tm hd hi hp t0 t1 t7 t8
  have : i = l.length := by omega
  subst this
  refine u0.round (RX.of a6 ?_)
  simp only [G0, Z1, Z2, Z3, Z4, Z5, t7, t8, Int.lt_irrefl, decide_false]
  exact q1 _ (by rw [hp, List.drop_of_length_le (Nat.le_refl _)]; rfl)
 | succ d ih =>
  intro i tm hd hi hpi t0 t1 t7 t8
  have hi' : i < l.length := by omega
  have hii : (i : Int) < l.length := by omega
  obtain ⟨x, hx, hdx⟩ := E6 hi'
  obtain ⟨a, ha, hla⟩ := (hv.sub hs).at (f := b9) (sz := 7) (fun _ => rfl) hx hf
  have hla : ∀ os, F7 k os M true 7 a = some (K2 x) := hla
  have hw : IntKind.i64.wrap ((i : Int) + 1) = ((i + 1 : Nat) : Int) := by rw [d3 (by omega) (by omega)]; rfl
  rw [hdx] at hpi
  have hun : lK p i (x :: l.drop (i + 1)) = if p x then (i : Int) else lK p (i + 1) (l.drop (i + 1)) := rfl
  rw [hun] at hpi
  refine u0.round (RX.of a6 ?_)
  simp only [G0, Z1, Z2, Z3, Z4, Z5, t0, t1, t7, t8, hii, decide_true, ha, hla]
  refine cs (hp x (List.mem_of_getElem? hx)) (hs.sseg hf) (by decide) ?_
  cases h : p x with
  | true =>
   rw [h, if_pos rfl] at hpi
   simp only [G0, Z1, Z2, Z3, Z4, Z5]
   exact q2 _ (by rw [hpi]; rfl)
  | false =>
   rw [h, if_neg (by decide)] at hpi
   simp only [G0, Z1, Z2, Z3, Z4, Z5, t8, hw]
   exact ih (i + 1) _ (by omega) (by omega) hpi t0 t1 t7 rfl
theorem aEO (hv : VsV b9 7 M0 v l) (hl : l.length <= 1000000) (g : Nat) (first cap : List PV) (p : Pr -> Bool) (hp : ∀ x ∈ l, lT env Tryz.prog M0 g (first ++ ([K2 x] ++ cap)) (bv (p x))) :
  lT env Tryz.prog M0 55 [v, .fn g first cap] (iv (lK p 0 l)) := by
 refine lT.enter a6 bDB (by simp) aWN fun M k hs hk hf => ?_
 simp only [G0, Z1, Z2, Z3, Z4, Z5, d5, hv.len]
 refine RX.loop (aXL hv hl M k _ g first cap p hs hf hp ?_ ?_ l.length 0 _ rfl (Nat.zero_le _) rfl rfl rfl rfl rfl)
 ·intro tm h
  simp only [G0, Z1, Z2, Z3, Z4, Z5]
  exact i9 hf rfl ⟨by rw [h]; rfl, rfl⟩
 ·intro tm h
  simp only [G0, Z1, Z2, Z3, Z4, Z5]
  exact i9 hf h ⟨rfl, rfl⟩
theorem aVU (hl : l.length <= 1000000) (hs : ∀ o, Pm.Sub M0 (i6 M a b o)) (hf : fresh M k) (hak : a ≠ k) (Q : c9 -> c5 -> Prop)
  (hp : ∀ x ∈ l, lT env Tryz.prog M0 g (first ++ ([K2 x] ++ cap)) (bv (p x)))
  (q1 : ∀ tm R i w, (w = .rw \/ w = .own) -> DlV p l R i l.length -> KdV tm a b l.length c (.fn g first cap) i l.length -> Q (.exit 0) ⟨tm, 42, k, [], i6 M a b (V2 w b9 7 R)⟩) :
  ∀ d j i R N w tm, (w = .rw \/ w = .own) -> N = i6 M a b (V2 w b9 7 R) -> l.length - j = d -> DlV p l R i j -> KdV tm a b l.length c (.fn g first cap) i j -> u0 env Tryz.prog none aKA ⟨tm, 42, k, [], N⟩ Q := by
 intro d
 induction d with
 | zero =>
  intro j i R N w tm hw0 hN hd hD hK
  subst hN
  have : j = l.length := by have := hD.le; omega
  subst this
  obtain ⟨t0, t1, t5, t6⟩ := hK
  refine u0.round (RX.of a6 ?_)
  simp only [G0, Z1, Z2, Z3, Z4, Z5, t0, t6, aKZ, Int.lt_irrefl, decide_false]
  exact q1 _ R i w hw0 hD ⟨t0, t1, t5, t6⟩
 | succ d ih =>
  intro j i R N w tm hw0 hN hd hD hK
  subst hN
  have hj' : j < l.length := by omega
  have hjj : (j : Int) < l.length := by omega
  obtain ⟨x, hx, hdx⟩ := E6 hj'
  have hRl := hD.len
  have hxR := hD.get hx
  have hilt := hD.lt
  have hlx : o9 true 7 (R.flatMap b9) (j * 7) = some (K2 x) := gQ (f := b9) (n := 7) (fun _ => rfl) hxR
  have hmem := List.mem_of_getElem? hx
  have hw : IntKind.i64.wrap ((j : Int) + 1) = ((j + 1 : Nat) : Int) := by rw [d3 (by omega) (by omega)]; rfl
  have hw2 : IntKind.i64.wrap ((i : Int) + 1) = ((i + 1 : Nat) : Int) := by rw [d3 (by omega) (by omega)]; rfl
  obtain ⟨t0, t1, t5, t6⟩ := hK
  refine u0.innM fun k' hk1 hk2 hk3 => RX.of a6 ?_
  have hfk : fresh (i6 M a b (V2 w b9 7 R)) k := jV hf hak
  rw [bJ hfk] at hk3 ⊢
  have hak' : a ≠ k' := fun e => by subst e; have := hk3 b; unfold i6 at this; rw [if_pos ⟨rfl, rfl⟩] at this; cases this
  have hld : ∀ {ag : Bool} {n o : Nat} {os : List Pm.Obj}, F7 k' os (i6 M a b (V2 w b9 7 R)) ag n (.ptr a b o) = A9 ag n o (some (V2 w b9 7 R)) := fun {ag n o os} => by rw [K3 hak', D6]
  have hia := fun (kk : IntKind) => aB3 (k := a) (i := b) (o := 0) (n := l.length) (c := c) (sz := 7) (kk := kk) hj'
  have hrt : ∀ {ag : Bool} {n o : Nat}, A9 ag n o (some (V2 w b9 7 R)) = o9 ag n (R.flatMap b9) o := aNJ
  simp only [G0, Z1, Z2, Z3, Z4, Z5, t0, t1, t5, t6, aKZ, hjj, decide_true, hia, Nat.zero_add, hld, hrt, hlx, bEH, uA]
  refine cs (hp x hmem) ((hs _).sseg hk3) (by decide) ?_
  cases hpx : p x with
  | true =>
   simp only [G0, Z1, Z2, Z3, Z4, Z5, t6, hw, Bool.not_true]
   refine ⟨i6 M a b (V2 w b9 7 R), ?_, ?_⟩
   ·rw [bJ hfk]; exact N3.pop hk3
   ·exact ih (j + 1) i R _ w _ hw0 rfl (by omega) (hD.out hx hpx) ⟨t0, t1, t5, rfl⟩
  | false =>
   have hii := fun (kk : IntKind) => aB3 (k := a) (i := b) (o := 0) (n := l.length) (c := c) (sz := 7) (kk := kk) (show i < l.length by omega)
   have hiR : i < R.length := by omega
   have hso : q8 7 (i * 7) (K2 x) (some (V2 w b9 7 R)) = some (V2 .rw b9 7 (R.set i x)) := by
    have hlen : (R.flatMap b9).length = R.length * 7 := aA1 (f := b9) (sz := 7) (fun _ => rfl) R
    have hfit : (e9 (K2 x)).length = 7 /\ i * 7 + (e9 (K2 x)).length <= (R.flatMap b9).length /\ (e9 (K2 x)).all p7 = true := ⟨rfl, by show i * 7 + 7 <= _; omega, rfl⟩
    unfold V2
    rcases hw0 with rfl | rfl
    ·rw [n7 hfit, show e9 (K2 x) = b9 x from rfl, aBP (f := b9) (sz := 7) (fun _ => rfl) R i x hiR]
    ·rw [fI hfit, show e9 (K2 x) = b9 x from rfl, aBP (f := b9) (sz := 7) (fun _ => rfl) R i x hiR]
   have hst : ∀ {tm : List (Nat × PV)} {nt : Nat} {os : List Pm.Obj}, M8 tm nt k' os (i6 M a b (V2 w b9 7 R)) 7 (K2 x) (.ptr a b (i * 7)) = some (.junk, ⟨tm, nt, k', os, i6 M a b (V2 .rw b9 7 (R.set i x))⟩) := fun {tm nt os} => by
    rw [N4 hak', D6, hso, jL, gZ]
   simp only [G0, Z1, Z2, Z3, Z4, Z5, t0, t5, t6, Bool.not_false, hii, Nat.zero_add, uA, hst, hw, hw2]
   refine ⟨i6 M a b (V2 .rw b9 7 (R.set i x)), ?_, ?_⟩
   ·rw [bJ (jV hf hak)]
    exact N3.pop (aFE hk3)
   ·exact ih (j + 1) (i + 1) _ _ .rw _ (.inl rfl) rfl (by omega) (hD.in hx hpx) ⟨t0, t1, rfl, rfl⟩
theorem aYJ (hl : l.length <= 1000000) (hs : ∀ o, Pm.Sub M0 (i6 M a b o)) (hw0 : w0 = .rw \/ w0 = .own) (hM : M a b = some (V2 w0 b9 7 l)) (hcap : l.length <= g9 c /\ c % 2 = 1 /\ L2 c = 7)
  (hp : ∀ x ∈ l, lT env Tryz.prog M0 g (first ++ ([K2 x] ++ cap)) (bv (p x))) :
  PT env Tryz.prog 31 [.sl a b 0 l.length c, .fn g first cap] M (fun x M1 => bCS b9 7 M M1 a b l.length c (I2 p l) x) := by
 have hMM : i6 M a b (V2 w0 b9 7 l) = M := by
  funext x y
  unfold i6
  split
  ·rename_i h; rw [h.1, h.2, hM]
  ·rfl
 have hs0 : Pm.Sub M0 M := by have := hs (V2 w0 b9 7 l); rwa [hMM] at this
 have hfl : ∀ R : List Pr, (R.flatMap b9).length = R.length * 7 := fun R => aA1 (f := b9) (sz := 7) (fun _ => rfl) R
 have hall : ∀ R : List Pr, (R.flatMap b9).all p7 = true := fun R => by
  induction R with
  | nil => rfl
  | cons x l ih => rw [List.flatMap_cons, List.all_append, ih]; rfl
 refine PT.enterR a6 aZL (by simp) aJV fun k hk hf => RX.of a6 ?_
 have hak : a ≠ k := fun e => by subst e; rw [hf b] at hM; cases hM
 have hV : VsV b9 7 M (.sl a b 0 l.length c) l := by
  have h1 : M a b = some (.row w0 7 (l.flatMap b9 ++ [])) := by rw [List.append_nil]; exact hM
  exact .row h1
 simp only [G0, Z1, Z2, Z3, Z4, Z5, d5]
 refine cs0 ((aEO hV hl g first cap p fun x hx => (hp x hx).sub hs0)) (by rw [bJ hf]; exact Pm.Sub.refl _) (by decide) ?_
 rcases nG p l 0 with ⟨h1, h2⟩ | ⟨n, x, h1, h2, h3, h4⟩
 ·rw [h1]
  simp only [G0, Z1, Z2, Z3, Z4, Z5, beq_self_eq_true]
  have hkp : I2 p l = l := by
   unfold I2
   rw [List.filter_eq_self]
   intro y hy
   rw [List.any_eq_false] at h2
   have := h2 y hy
   simpa using this
  refine i9 hf rfl ⟨?_, [], w0, hw0, ?_, ?_, ?_, fun j y hy => by simp at hy⟩
  ·rw [hkp]; rfl
  ·rw [hkp, List.append_nil]; exact hMM.symm
  ·rw [hkp, List.append_nil]; exact hfl l
  ·rw [hkp, List.append_nil]; exact hall l
 ·rw [h1, Nat.zero_add]
  have hD := DlV.start h2 h3 h4
  have hn := mP h2
  have hne : ((n : Int) == -1) = false := by simp
  have hwn : IntKind.i64.wrap ((n : Int) + 1) = ((n + 1 : Nat) : Int) := by rw [d3 (by omega) (by omega)]; rfl
  simp only [G0, Z1, Z2, Z3, Z4, Z5, hne, hwn]
  refine RX.loop (aVU (c := c) hl hs hf hak _ hp (fun tm R i w hw hD' hK => ?_) (l.length - (n + 1)) (n + 1) n l M w0 _ hw0 hMM.symm rfl hD (by exact ⟨rfl, rfl, rfl, rfl⟩))
  obtain ⟨t0, t1, t5, t6⟩ := hK
  have hi := hD'.lt
  have hRl := hD'.len
  have hkR : R.take i = I2 p l := by rw [hD'.keep, List.take_length]
  have hki : (I2 p l).length = i := by rw [<- hkR, List.length_take]; omega
  have hfrom := xX (k := a) (i := b) (n := l.length) (c := c) (sz := 7) (m := i) (kk := .i64) (by omega) ⟨hcap.1, hcap.2⟩ (by decide)
  have hto := aFT (k := a) (i := b) (n := l.length) (c := c) (sz := 7) (m := i) (kk := .i64) (by omega) ⟨hcap.2, by decide⟩
  have hne2 : l.length - i ≠ 0 := by omega
  have hlr := hfl R
  have hcl : ∀ {tm : List (Nat × PV)} {c' : Nat}, aN ⟨tm, 42, k, [], i6 M a b (V2 w b9 7 R)⟩ 7 ([.v (.string ⟨#[]⟩), .v (.int .i64 0), .v (.int .i64 0), .lst .full 0 0 [], .v (.int .i64 0), .v (.int .i64 0), .lst .full 0 0 []] : List PV) (.sl a b (i * 7) (l.length - i) c') =
    some (.junk, ⟨tm, 42, k, [], i6 M a b (.row .rw 7 (e8 (R.flatMap b9) (i * 7) (List.replicate (l.length - i) ([.v (.string ⟨#[]⟩), .v (.int .i64 0), .v (.int .i64 0), .lst .full 0 0 [], .v (.int .i64 0), .v (.int .i64 0), .lst .full 0 0 []] : List PV)).flatten))⟩) := fun {tm c'} => by
   rcases hw with rfl | rfl
   ·have h9 := aGL (tm := tm) (nt := 42) (k := k) (os := []) (M := i6 M a b (V2 .rw b9 7 R)) (c := c') (sz := 7) (o := i * 7) (z := ([.v (.string ⟨#[]⟩), .v (.int .i64 0), .v (.int .i64 0), .lst .full 0 0 [], .v (.int .i64 0), .v (.int .i64 0), .lst .full 0 0 []] : List PV)) hne2 hak (D6 M a b (V2 .rw b9 7 R)) ⟨by omega, rfl, rfl⟩
    rw [gZ] at h9
    exact h9
   ·have h9 := aFA (tm := tm) (nt := 42) (k := k) (os := []) (M := i6 M a b (V2 .own b9 7 R)) (c := c') (sz := 7) (o := i * 7) (z := ([.v (.string ⟨#[]⟩), .v (.int .i64 0), .v (.int .i64 0), .lst .full 0 0 [], .v (.int .i64 0), .v (.int .i64 0), .lst .full 0 0 []] : List PV)) hne2 hak (D6 M a b (V2 .own b9 7 R)) ⟨by omega, rfl, rfl⟩
    rw [gZ] at h9
    exact h9
  simp only [G0, Z1, Z2, Z3, Z4, Z5, t0, t5, hfrom, aPC, hcl, hto]
  have hsp : e8 (R.flatMap b9) (i * 7) (List.replicate (l.length - i) ([.v (.string ⟨#[]⟩), .v (.int .i64 0), .v (.int .i64 0), .lst .full 0 0 [], .v (.int .i64 0), .v (.int .i64 0), .lst .full 0 0 []] : List PV)).flatten = (I2 p l).flatMap b9 ++ (List.replicate (l.length - i) ([.v (.string ⟨#[]⟩), .v (.int .i64 0), .v (.int .i64 0), .lst .full 0 0 [], .v (.int .i64 0), .v (.int .i64 0), .lst .full 0 0 []] : List PV)).flatten := by
   unfold e8
   have hz : ((List.replicate (l.length - i) ([.v (.string ⟨#[]⟩), .v (.int .i64 0), .v (.int .i64 0), .lst .full 0 0 [], .v (.int .i64 0), .v (.int .i64 0), .lst .full 0 0 []] : List PV)).flatten).length = (l.length - i) * 7 := Y0 ([.v (.string ⟨#[]⟩), .v (.int .i64 0), .v (.int .i64 0), .lst .full 0 0 [], .v (.int .i64 0), .v (.int .i64 0), .lst .full 0 0 []] : List PV) _
   rw [hz, List.drop_of_length_le (by rw [hlr]; omega), List.append_nil]
   congr 1
   rw [<- hkR, <- List.take_append_drop i R, List.flatMap_append, List.take_left' (by rw [hfl, List.length_take]; omega), List.take_left' (by rw [List.length_take]; omega)]
  refine bAD (v := .sl a b 0 i c) rfl ⟨by rw [hki], (List.replicate (l.length - i) ([.v (.string ⟨#[]⟩), .v (.int .i64 0), .v (.int .i64 0), .lst .full 0 0 [], .v (.int .i64 0), .v (.int .i64 0), .lst .full 0 0 []] : List PV)).flatten, .rw, .inl rfl, ?_, ?_, ?_, fun j y hy => aI7 (z := ([.v (.string ⟨#[]⟩), .v (.int .i64 0), .v (.int .i64 0), .lst .full 0 0 [], .v (.int .i64 0), .v (.int .i64 0), .lst .full 0 0 []] : List PV)) (fun j y hy => by
   simp only [List.mem_cons, List.not_mem_nil, or_false] at hy
   rcases hy with rfl | rfl | rfl | rfl | rfl | rfl | rfl
   all_goals first | exact NK.v _ | exact NK.lst (fun _ e => by cases e) oJ.nil) j y hy⟩
  ·rw [bJ (jV hf hak), hsp]
  ·rw [List.length_append, hfl, hki, Y0]
   show i * 7 + (l.length - i) * 7 = _
   rw [<- Nat.add_mul]; congr 1; omega
  ·rw [List.all_append, hall, iH rfl]; rfl
theorem aMU (e0 g : Nat) (first cap : List PV) : r8 env Tryz.prog 31 [.lst .full e0 0 [], .fn g first cap] (.lst .full e0 0 []) := fun M => by
 refine PT.enterR a6 aZL (by simp) aJV fun k hk hf => RX.of a6 ?_
 simp only [G0, Z1, Z2, Z3, Z4, Z5, d5]
 refine cs0 (aEO (M0 := fun _ _ => none) (VsV.nil .full e0) (by simp) g first cap (fun _ => false) (fun x hx => by simp at hx)) (fun _ _ _ e => by cases e) (by decide) ?_
 simp only [G0, Z1, Z2, Z3, Z4, Z5, lK, beq_self_eq_true]
 exact i9 hf rfl ⟨rfl, rfl⟩
end
end Go.Proofs.YtnmidpahhhdlpaaGreatDoor
noncomputable section
namespace Go.Proofs.YtnmidpahhhdlpaaGreatDoor
open Go Go.Am Go.Pm
structure qN (A : List En) : Prop where
 len : A.length <= 100000
 path : ∀ x ∈ A, x.path.length <= 1000000
 bytes : ∀ x ∈ A, x.bytes.length <= 1000000
theorem aPP {A B : List En} (hA : qN A) (hB : qN B) {M0 M : b7} {a e : Nat} (hM : M a 0 = some (.row .rw 0 [.lst .full e 0 []])) (hs : Pm.Sub M0 M) (hfa : fresh M0 a) :
  iY env Tryz.prog 24 [d7 A, d7 B, .fn 26 [] [], .fn 27 [] [.ptr a 0 0]] M (fun nk z M1 => Bx nk M0 M1 a (n6 (A.length + B.length) A B)) := by
 refine iY.enterR a6 bEM (by simp) aUI fun k hk hf => ?_
 have hak : a ≠ k := fun e => by subst e; rw [hf 0] at hM; cases hM
 have hf0 : fresh M0 k := iL hs hf
 have hlen := H2 (A.length + B.length) A B
 have h1 := hA.len
 have h2 := hB.len
 have hX : Bx (k + 1) M0 (seg M k []) a [] := ⟨hs.sseg hf, hfa, .lst .full e 0 [], by rw [l3 _ _ _ hak]; exact hM, .nil e, fun h => by (cases h), fun k e => by (cases e)⟩
 refine aSZ aFL (RX.of a6 ?_)
 simp only [G0, Z1, Z2, Z3, Z4, Z5, d5]
 refine RX.loop (aW9 A B hA.len hB.len hA.path hB.path M0 a k hf0 hak (n6 (A.length + B.length) A B) (by omega) _ (fun tm M hX => ?_) (A.length + B.length) 0 0 [] M _ (by omega) (Nat.zero_le _) (Nat.zero_le _) rfl hX (by exact ⟨rfl, rfl, rfl, rfl, rfl, rfl⟩))
 simp only [G0, Z1, Z2, Z3, Z4, Z5]
 exact ⟨fun l e => by (cases e), aSV (hX.weak (Nat.le_succ _))⟩
theorem aCV {A B : List En} (hA : qN A) (hB : qN B) (h : (r5 A && r5 B) = false) : r8 env Tryz.prog 8 [d7 A, d7 B] (.tup [.lst .full 0 0 [], iv 2]) := fun M => by
 have h1 := hA.len
 have h2 := hB.len
 refine PT.enterR a6 fn8 (by simp) aQJ fun k hk hf => RX.of a6 ?_
 simp only [G0, Z1, Z2, Z3, Z4, Z5, d5]
 refine y7 (mJ A (by omega) hA.path) (by decide) ?_
 cases ha : r5 A with
 | false =>
  simp only [G0, Z1, Z2, Z3, Z4, Z5, u6, Bool.not_false, Bool.not_true, i7, j0]
  exact cR hf rfl rfl ⟨rfl, rfl⟩
 | true =>
  simp only [G0, Z1, Z2, Z3, Z4, Z5, u6, Bool.not_false, Bool.not_true, i7, j0]
  refine y7 (mJ B (by omega) hB.path) (by decide) ?_
  have hb : r5 B = false := by rw [ha, Bool.true_and] at h; exact h
  rw [hb]
  simp only [G0, Z1, Z2, Z3, Z4, Z5, u6, Bool.not_false, Bool.not_true, i7, j0]
  exact cR hf rfl rfl ⟨rfl, rfl⟩
theorem aCN {M M2 : b7} {k : Nat} {os : List Pm.Obj} (hs : Pm.Sub M M2) (hf : fresh M k) : Pm.Sub M (seg M2 k os) := fun a i o e => by
 have : a ≠ k := fun e' => by subst e'; rw [hf i] at e; cases e
 rw [l3 _ _ _ this]; exact hs _ _ _ e
def mR (M : b7) (k : Nat) : b7 := fun a i => if a = k then none else M a i
theorem jR {M : b7} {k a i : Nat} (h : a ≠ k) : mR M k a i = M a i := by unfold mR; rw [if_neg h]
theorem aPU {M : b7} {k : Nat} {o : Pm.Obj} (h : M k 0 = some o) : N3 M (seg (mR M k) k [o]) := fun a i o' e => by
 by_cases ha : a = k
 ·subst ha
  rw [i4] at e
  cases i with
  | zero => cases e; exact ⟨_, h, .refl _⟩
  | succ i => cases e
 ·rw [l3 _ _ _ ha, jR ha] at e
  exact ⟨o', e, .refl _⟩
theorem aKV {E : d9} {Q : PV -> b7 -> Prop} {body : Code} {nt nt' r q k : Nat} {v w : PV} {tm : List (Nat × PV)} {os : List Pm.Obj} {M : b7} (hv : a7 tm r = v) (hw : a7 tm q = w) (h : Q (.tup [v, w]) (seg M k os)) : bH E ⟨nt, [.tmp r, .tmp q], body⟩ Q .ret ⟨tm, nt', k, os, M⟩ := by
 subst hv hw; exact ⟨.inr rfl, [_, _], seg M k os, rfl, .refl _, h⟩
structure bDQ (M M1 : b7) (n : Nat) (vo : PV) (L : List Pr) : Prop where
 out : fC M1 vo L
 sub : Pm.Sub M M1
 key : ∀ j, wE vo = some j -> fresh M j /\ n <= j
theorem yH {A B : List En} (hA : qN A) (hB : qN B) (ha : r5 A = true) (hb : r5 B = true) (M : b7) :
  iY env Tryz.prog 8 [d7 A, d7 B] M (fun nk z M1 => ∃ vo, z = .tup [vo, iv 0] /\ bDQ M M1 nk vo (n6 (A.length + B.length) A B)) := by
 have h1 := hA.len
 have h2 := hB.len
 refine iY.enterR a6 fn8 (by simp) aQJ fun k hk hf => RX.of a6 ?_
 simp only [G0, Z1, Z2, Z3, Z4, Z5, d5]
 refine y7 (mJ A (by omega) hA.path) (by decide) ?_
 rw [ha]
 simp only [G0, Z1, Z2, Z3, Z4, Z5, u6, Bool.not_false, Bool.not_true, i7, j0]
 refine y7 (mJ B (by omega) hB.path) (by decide) ?_
 rw [hb]
 simp only [G0, Z1, Z2, Z3, Z4, Z5, u6, Bool.not_false, Bool.not_true, i7, j0]
 refine y7 (aDH A (by omega) hA.bytes) (by decide) ?_
 simp only [G0, Z1, Z2, Z3, Z4, Z5]
 refine y7 (aDH B (by omega) hB.bytes) (by decide) ?_
 simp only [G0, Z1, Z2, Z3, Z4, Z5]
 refine cmk (first := []) (cap := []) ((aPP hA hB (M0 := M) (a := k) (e := 0) (by rw [i4]; rfl) ((Pm.Sub.refl M).sseg hf) hf).mono fun nk z M1 hX hnk => ?_)
 obtain ⟨vo, g1, g2, g3, g4⟩ := hX.vals
 have hS : Pm.Sub M (mR M1 k) := fun a i o e => by
  have : a ≠ k := fun e' => by subst e'; rw [hf i] at e; cases e
  rw [jR this]; exact hX.sub _ _ _ e
 refine ⟨[.row .rw 0 [vo]], mR M1 k, rfl, aPU g1, by decide, ?_⟩
 simp only [G0, Z1, Z2, Z3, Z4, Z5]
 refine aKV rfl rfl ⟨vo, rfl, ?_, aCN hS hf, fun j e => ⟨(g4 j e).1, by have := (g4 j e).2; omega⟩⟩
 refine g2.frame fun j i e _ => ?_
 have hj : j ≠ k := fun e' => by subst e'; exact g3 e
 rw [l3 _ _ _ hj, jR hj]
theorem rL (k : Nat) (b : List UInt8) : NK k (a8 b) := by
 unfold a8
 refine .lst (fun i e => by cases e) ?_
 induction b with
 | nil => exact .nil
 | cons x b ih => exact .cons (.v _) ih
theorem aUX (k : Nat) (l : List Pr) : oJ k (l.flatMap b9) := by
 induction l with
 | nil => exact .nil
 | cons x l ih =>
  rw [List.flatMap_cons]
  exact .cons (.v _) (.cons (.v _) (.cons (.v _) (.cons (rL _ _) (.cons (.v _) (.cons (.v _) (.cons (rL _ _) ih))))))
inductive aNS (M : b7) : PV -> List Pr -> Prop where
 | nil (e : Nat) : aNS M (.lst .full e 0 []) []
 | row {k i n c : Nat} {w : Wm} {L : List Pr} {rest : List PV} (hM : M k i = some (.row w 7 (L.flatMap b9 ++ rest))) (hn : n = L.length) (hc : n <= g9 c /\ c % 2 = 1 /\ L2 c = 7) (hr : ∀ j, ∀ y ∈ rest, NK j y) : aNS M (.sl k i 0 n c) L
theorem fC.r {M : b7} {v : PV} {L : List Pr} (h : fC M v L) : aNS M v L := by
 cases h with
 | nil e => exact .nil e
 | row hM hw hn h0 => exact .row (rest := []) (by rw [List.append_nil]; exact hM) hn ⟨by rw [(wH (by decide)).1]; exact Nat.le_refl _, (wH (by decide)).2⟩ fun j y hy => by (cases hy)
theorem aIA {k : Nat} : ∀ {l : List PV}, (∀ y ∈ l, NK k y) -> oJ k l
 | [], _ => .nil
 | x :: l, h => .cons (h x List.mem_cons_self) (aIA fun y hy => h y (List.mem_cons_of_mem _ hy))
theorem aEE {k : Nat} : ∀ {l m : List PV}, oJ k l -> oJ k m -> oJ k (l ++ m)
 | [], _, _, h => h
 | _ :: _, _, .cons h hs, g => .cons h (aEE hs g)
structure bAQ (M M1 : b7) (n : Nat) (z : PV) (L : List Pr) : Prop where
 vals : ∃ vo, z = .tup [vo, iv 0] /\ aNS M1 vo L /\ ∀ j, wE vo = some j -> fresh M j /\ n <= j
 sub : Pm.Sub M M1
theorem tS {f : Nat} {args : List PV} {M : b7} {L : List Pr} (h : iY env Tryz.prog f args M (fun nk z M1 => bAQ M M1 nk z L)) :
  PT env Tryz.prog f args M (fun z M1 => z = .tup [G6 L, iv 0] /\ M1 = M) := by
 refine PT.freezeOr (h.mono ?_)
 rintro nk z M1 ⟨⟨vo, rfl, h1, h2⟩, hs⟩
 cases h1 with
 | nil e => exact .inr ⟨_, fun k i o e => ⟨o, hs _ _ _ e, .refl _⟩, .tup (.cons (Q2.nil_no _ _ _ rfl) (.cons (.refl _) .nil)), rfl, rfl⟩
 | @row k i n c w L rest hM hn hc hr =>
  subst hn
  obtain ⟨g1, g2⟩ := h2 k rfl
  have hl := aJ1 L
  refine .inl ⟨k, i, 7, w, L.flatMap b9 ++ rest, _, g2, ?_, aEE (aUX k L) (aIA (hr k)), .tup (.cons (.here (by rw [List.length_append]; omega) hc.1 (.inr hc.2.2)) (.cons (.keep (.v _)) .nil)), ?_, rfl⟩
  ·intro a j o e
   unfold i6 at e
   split at e
   ·rename_i hc; obtain ⟨rfl, rfl⟩ := hc; cases e; exact ⟨_, hM, .refl _⟩
   ·exact ⟨o, hs _ _ _ e, .refl _⟩
  ·rw [List.take_left' hl]; rfl
theorem aFB {A B : List En} (hA : qN A) (hB : qN B) (ha : r5 A = true) (hb : r5 B = true) : r8 env Tryz.prog 8 [d7 A, d7 B] (.tup [G6 (n6 (A.length + B.length) A B), iv 0]) := fun M =>
 tS ((yH hA hB ha hb M).mono fun nk z M1 ⟨vo, h0, h1, h2, h3⟩ => ⟨⟨vo, h0, h1.r, h3⟩, h2⟩)
def L8 (p : Pr) : Bool := aAF p.ak p.am p.ab p.bk p.bm p.bb == 0
theorem aWO (x : Pr) : e9 (K2 x) = b9 x := rfl
theorem bCT (x : Pr) : o9 true 3 (b9 x) 1 = some (.agg [iv x.ak, iv x.am, a8 x.ab]) := rfl
theorem bDF (x : Pr) : o9 true 3 (b9 x) 4 = some (.agg [iv x.bk, iv x.bm, a8 x.bb]) := rfl
theorem aT6 (x : Pr) : r8 env Tryz.prog 32 [K2 x] (bv (L8 x)) := fun M => by
 refine PT.enterR a6 bC0 (by simp) aWY fun k hk hf => RX.of a6 ?_
 have hj : B0 (K2 x) = true := rfl
 simp only [G0, Z1, Z2, Z3, Z4, Z5, d5, aWO, hj, bCT, bDF]
 refine y7 (aPJ _ _ _ _ _ _) (by decide) ?_
 simp only [G0, Z1, Z2, Z3, Z4, Z5]
 exact i9 hf rfl ⟨rfl, rfl⟩
theorem aHV {A B : List En} (hA : qN A) (hB : qN B) (ha : r5 A = true) (hb : r5 B = true) (M : b7) :
  iY env Tryz.prog 10 [d7 A, d7 B] M (fun nk z M1 => bAQ M M1 nk z (I2 L8 (n6 (A.length + B.length) A B))) := by
 have h1 := hA.len
 have h2 := hB.len
 have hln := H2 (A.length + B.length) A B
 refine iY.enterR a6 aY4 (by simp) aI6 fun k hk hf => RX.of a6 ?_
 simp only [G0, Z1, Z2, Z3, Z4, Z5, d5]
 refine cmk (first := []) (cap := []) (((yH hA hB ha hb _).mono fun nk z M1 hq hnk => ?_))
 generalize n6 (A.length + B.length) A B = L at hq hln ⊢
 obtain ⟨vo, rfl, hO, hS, hK⟩ := hq
 have hf1 : fresh M1 k \/ True := .inr trivial
 refine ⟨[], M1, rfl, N3.seg_nil' _ _, by decide, ?_⟩
 rw [bJ hf] at hS hK
 simp only [G0, Z1, Z2, Z3, Z4, Z5]
 cases hO with
 | nil e =>
  refine y7 (aMU e 32 [] []) (by decide) ?_
  simp only [G0, Z1, Z2, Z3, Z4, Z5]
  exact aKV rfl rfl ⟨⟨_, rfl, .nil e, fun j e => by (cases e)⟩, aCN hS hf⟩
 | @row k1 i1 n w L hM hw hn h0 =>
  subst hn
  obtain ⟨g1, g2⟩ := hK k1 rfl
  have hk1 : k1 ≠ k := by omega
  have hcap := wH (n := L.length) (es := 7) (by decide)
  refine cm (first := []) (cap := []) ((aYJ (M0 := fun _ _ => none) (a := k1) (b := i1) (c := g6 L.length 7) (l := L) (g := 32) (first := []) (cap := []) (p := L8) (w0 := w) (by omega) (fun o a i o e => by (cases e)) hw (by rw [l3 _ _ _ hk1]; exact hM) ⟨by rw [hcap.1]; exact Nat.le_refl _, hcap.2⟩
   (fun x hx M _ => aT6 x M)).mono fun x M2 hcut => ?_)
  obtain ⟨rfl, rest, w', hw', rfl, hrl, hro, hrk⟩ := hcut
  have hlk := List.length_filter_le (fun x => !L8 x) L
  refine ⟨[], i6 M1 k1 i1 (.row w' 7 ((I2 L8 L).flatMap b9 ++ rest)), rfl, N3.of_eq (by rw [nE hk1]), by decide, ?_⟩
  simp only [G0, Z1, Z2, Z3, Z4, Z5]
  refine aKV rfl rfl ⟨⟨_, rfl, .row (rest := rest) (w := w') (by rw [l3 _ _ _ hk1]; exact D6 _ _ _ _) rfl ⟨by rw [hcap.1]; exact hlk, hcap.2⟩ hrk, fun j e => by (cases e; exact ⟨g1, by omega⟩)⟩, ?_⟩
  intro a i o e
  have h3 : a ≠ k := fun e' => by subst e'; rw [hf i] at e; cases e
  have h4 : a ≠ k1 := fun e' => by subst e'; rw [g1 i] at e; cases e
  rw [l3 _ _ _ h3, iN (fun y => h4 y.1)]
  exact hS _ _ _ e
theorem aFV {A B : List En} (hA : qN A) (hB : qN B) (ha : r5 A = true) (hb : r5 B = true) : r8 env Tryz.prog 10 [d7 A, d7 B] (.tup [G6 (I2 L8 (n6 (A.length + B.length) A B)), iv 0]) := fun M =>
 tS (aHV hA hB ha hb M)
end Go.Proofs.YtnmidpahhhdlpaaGreatDoor
end
namespace Go.Proofs.YtnmidpahhhdlpaaGreatDoor
open Go Go.Am Go.Pm
def n8 (t : List En) (p : List UInt8) : Option En := t.find? fun x => x.path == p
def aP8 : Option En -> PV
 | some x => .agg [iv x.kind, iv x.mode, a8 x.bytes]
 | none => .agg [iv 0, iv 0, a8 []]
theorem tJ (P : En -> Bool) : ∀ (l : List En) (i : Nat), (l.find? P = none /\ eJ P i l = -1) \/ ∃ x j, l.find? P = some x /\ eJ P i l = ((i + j : Nat) : Int) /\ l[j]? = some x
 | [], i => .inl ⟨rfl, rfl⟩
 | x :: r, i => by
  rw [List.find?_cons]
  unfold eJ
  cases h : P x with
  | true => exact .inr ⟨x, 0, rfl, rfl, rfl⟩
  | false =>
   rw [if_neg (by decide)]
   rcases tJ P r (i + 1) with ⟨h1, h2⟩ | ⟨y, j, h1, h2, h3⟩
   ·exact .inl ⟨h1, h2⟩
   ·exact .inr ⟨y, j + 1, h1, by rw [h2]; congr 1; omega, by simpa using h3⟩
theorem aHY (t : List En) (p : List UInt8) : (n8 t p = none /\ fnd t p = -1) \/ ∃ x j, n8 t p = some x /\ fnd t p = ((j : Nat) : Int) /\ t[j]? = some x := by
 rcases tJ (fun x : En => x.path == p) t 0 with h | ⟨x, j, h1, h2, h3⟩
 ·exact .inl h
 ·exact .inr ⟨x, j, h1, by unfold fnd; rw [h2, Nat.zero_add], h3⟩
theorem aMW (a b : Int) (c : List UInt8) : q8 3 0 (.agg [iv a, iv b, a8 c]) (some (.row .rw 0 [.v (.int .i64 0), .v (.int .i64 0), .lst .full 0 0 []])) = some (.row .rw 0 [iv a, iv b, a8 c]) := n7 (n := 3) ⟨rfl, Nat.le_refl 3, rfl⟩
theorem bDL : q8 3 0 (.agg [.v (.int .i64 0), .v (.int .i64 0), .lst .full 0 0 []]) (some (.row .rw 0 [.v (.int .i64 0), .v (.int .i64 0), .lst .full 0 0 []])) = some (.row .rw 0 [.v (.int .i64 0), .v (.int .i64 0), .lst .full 0 0 []]) := n7 (n := 3) ⟨rfl, Nat.le_refl 3, rfl⟩
theorem aS6 (t : List En) (ht : t.length <= 1000000) (p : List UInt8) (M : b7) (k : Nat) (Q : c9 -> c5 -> Prop)
  (q1 : n8 t p = none -> ∀ tm, a7 tm 4 = .ptr k 0 0 -> Q (.exit 0) ⟨tm, 26, k, [.row .rw 0 [.v (.int .i64 0), .v (.int .i64 0), .lst .full 0 0 []]], M⟩)
  (q2 : ∀ x, n8 t p = some x -> ∀ tm, a7 tm 4 = .ptr k 0 0 -> a7 tm 5 = bv true -> Q .ret ⟨tm, 26, k, [.row .rw 0 [iv x.kind, iv x.mode, a8 x.bytes]], M⟩) :
  ∀ d i tm, t.length - i = d -> i <= t.length -> n8 t p = n8 (t.drop i) p -> a7 tm 0 = d7 t -> a7 tm 1 = str p -> a7 tm 4 = .ptr k 0 0 -> a7 tm 6 = iv i →
   u0 env Tryz.prog none aNB ⟨tm, 26, k, [.row .rw 0 [.v (.int .i64 0), .v (.int .i64 0), .lst .full 0 0 []]], M⟩ Q := by
 intro d
 induction d with
 | zero =>
  intro i tm hd hi ho t0 t1 t4 t6
  have : i = t.length := by omega
  subst this
  have h0 : a7 tm 0 = .lst .no 4 t.length (t.flatMap d6) := t0
  refine u0.round (RX.of a6 ?_)
  simp only [G0, Z1, Z2, Z3, Z4, Z5, h0, t6, Int.lt_irrefl, decide_false]
  exact q1 (by rw [ho, List.drop_of_length_le (Nat.le_refl _)]; rfl) _ t4
 | succ d ih =>
  intro i tm hd hi ho t0 t1 t4 t6
  have hi' : i < t.length := by omega
  have hii : (i : Int) < t.length := by omega
  obtain ⟨x, hx, hdx⟩ := E6 hi'
  have h0 : a7 tm 0 = .lst .no 4 t.length (t.flatMap d6) := t0
  have cp := aF hx
  have ce := mG hx
  have hw : IntKind.i64.wrap ((i : Int) + 1) = ((i + 1 : Nat) : Int) := by rw [d3 (by omega) (by omega)]; rfl
  rw [hdx] at ho
  unfold n8 at ho
  rw [List.find?_cons] at ho
  have hst := aMW x.kind x.mode x.bytes
  refine u0.round (RX.of a6 ?_)
  cases hpx : (x.path == p) with
  | true =>
   rw [hpx] at ho
   simp only [G0, Z1, Z2, Z3, Z4, Z5, h0, t1, t4, t6, hii, decide_true, hi', cp, H7, hpx, ce, hst]
   exact q2 x ho _ t4 rfl
  | false =>
   rw [hpx] at ho
   simp only [G0, Z1, Z2, Z3, Z4, Z5, h0, t1, t4, t6, hii, decide_true, hi', cp, H7, hpx, hw]
   exact ih (i + 1) _ (by omega) (by omega) ho t0 t1 t4 rfl
theorem aL6 (t : List En) (ht : t.length <= 1000000) (p : List UInt8) : r8 env Tryz.prog 30 [d7 t, str p] (.tup [aP8 (n8 t p), bv (n8 t p).isSome]) := r8.of fun M => by
 refine PT.enterR a6 bDD (by simp) aT7 fun k hk hf => RX.of a6 ?_
 simp only [G0, Z1, Z2, Z3, Z4, Z5, d5]
 refine RX.loop (aS6 t ht p M k _ (fun h tm t4 => ?_) (fun x h tm t4 t5 => ?_) t.length 0 _ rfl (Nat.zero_le _) rfl (by rfl) (by rfl) (by rfl) (by rfl))
 ·have hz := bDL
  simp only [G0, Z1, Z2, Z3, Z4, Z5, t4, hz]
  refine aII (ag := true) (n := 3) (v := .agg [.v (.int .i64 0), .v (.int .i64 0), .lst .full 0 0 []]) (w := bv false) hf (by kernel_rfl) ?_ rfl ⟨?_, rfl⟩
  ·simp only [G0, Z1, Z2, Z3, Z4, Z5, t4]
  ·rw [h]
   exact .tup (.cons (.agg (.cons (.refl _) (.cons (.refl _) (.cons (Q2.nil_no _ _ _ rfl) .nil)))) (.cons (.refl _) .nil))
 ·simp only [G0, Z1, Z2, Z3, Z4, Z5]
  refine aII (ag := true) (n := 3) (v := .agg [iv x.kind, iv x.mode, a8 x.bytes]) (w := bv true) hf (by kernel_rfl) ?_ t5 ⟨?_, rfl⟩
  ·simp only [G0, Z1, Z2, Z3, Z4, Z5, t4]
  ·rw [h]; exact .refl _
theorem bAJ (m : Int) (b : List UInt8) : O7 1 m b = ((decide (m >= 0) && decide (m <= 511)) && decide ((b.length : Int) <= 1000)) := by
 rw [Bool.eq_iff_iff]
 unfold O7
 simp only [Bool.and_eq_true, Bool.not_eq_true', Bool.or_eq_false_iff, decide_eq_true_eq, decide_eq_false_iff_not, if_true, if_neg (show ¬ (1 : Int) = 3 by decide)]
 omega
theorem aY7 (m : Int) (b : List UInt8) : O7 2 m b = ((decide (m >= 0) && decide (m <= 511)) && ((b.length : Int) == 0)) := by
 rw [Bool.eq_iff_iff]
 unfold O7
 simp only [Bool.and_eq_true, Bool.not_eq_true', Bool.or_eq_false_iff, decide_eq_true_eq, decide_eq_false_iff_not, beq_iff_eq, if_neg (show ¬ (2 : Int) = 1 by decide), if_neg (show ¬ (2 : Int) = 3 by decide)]
 omega
theorem bB7 (m : Int) (b : List UInt8) : O7 3 m b = ((m == 0) && ((b.length : Int) == 0)) := by
 rw [Bool.eq_iff_iff]
 unfold O7
 simp only [Bool.and_eq_true, Bool.not_eq_true', Bool.or_eq_false_iff, decide_eq_true_eq, decide_eq_false_iff_not, beq_iff_eq, if_true, if_neg (show ¬ (3 : Int) = 1 by decide)]
 omega
theorem aPW (k m : Int) (b : List UInt8) : r8 env Tryz.prog 52 [.agg [iv k, iv m, a8 b]] (iv (kS (O7 k m b))) := fun M => by
 refine PT.enterR a6 bD9 (by simp) aUD fun kk hk hf => RX.of a6 ?_
 have hlen : T7 (a8 b) = some (iv (b.length : Nat)) := rfl
 by_cases h1 : k = 1
 ·subst h1
  have e1 : ((1 : Int) == 1) = true := rfl
  simp only [G0, Z1, Z2, Z3, Z4, Z5, d5, e1, hlen]
  rw [bAJ]
  generalize hB : ((decide (m >= 0) && decide (m <= 511)) && decide ((b.length : Int) <= 1000)) = B
  refine jY (fun hb => ?_) (fun hb => ?_)
  ·have hb' : (!B) = true := hb
   rw [show B = false by simpa using hb']
   simp only [G0, Z1, Z2, Z3, Z4, Z5]
   exact i9 hf rfl ⟨rfl, rfl⟩
  ·have hb' : (!B) = false := hb
   rw [show B = true by simpa using hb']
   simp only [G0, Z1, Z2, Z3, Z4, Z5]
   exact i9 hf rfl ⟨rfl, rfl⟩
 ·have e1 : (k == 1) = false := by simpa using h1
  by_cases h2 : k = 2
  ·subst h2
   have e2 : ((2 : Int) == 2) = true := rfl
   simp only [G0, Z1, Z2, Z3, Z4, Z5, d5, e1, e2, hlen]
   rw [aY7]
   generalize hB : ((decide (m >= 0) && decide (m <= 511)) && ((b.length : Int) == 0)) = B
   refine jY (fun hb => ?_) (fun hb => ?_)
   ·have hb' : (!B) = true := hb
    rw [show B = false by simpa using hb']
    simp only [G0, Z1, Z2, Z3, Z4, Z5]
    exact i9 hf rfl ⟨rfl, rfl⟩
   ·have hb' : (!B) = false := hb
    rw [show B = true by simpa using hb']
    simp only [G0, Z1, Z2, Z3, Z4, Z5]
    exact i9 hf rfl ⟨rfl, rfl⟩
  ·have e2 : (k == 2) = false := by simpa using h2
   by_cases h3 : k = 3
   ·subst h3
    have e3 : ((3 : Int) == 3) = true := rfl
    simp only [G0, Z1, Z2, Z3, Z4, Z5, d5, e1, e2, e3, hlen]
    rw [bB7]
    generalize hB : ((m == 0) && ((b.length : Int) == 0)) = B
    refine jY (fun hb => ?_) (fun hb => ?_)
    ·have hb' : (!B) = true := hb
     rw [show B = false by simpa using hb']
     simp only [G0, Z1, Z2, Z3, Z4, Z5]
     exact i9 hf rfl ⟨rfl, rfl⟩
    ·have hb' : (!B) = false := hb
     rw [show B = true by simpa using hb']
     simp only [G0, Z1, Z2, Z3, Z4, Z5]
     exact i9 hf rfl ⟨rfl, rfl⟩
   ·have e3 : (k == 3) = false := by simpa using h3
    have : O7 k m b = false := by
     unfold O7
     simp
     omega
    rw [this]
    simp only [G0, Z1, Z2, Z3, Z4, Z5, d5, e1, e2, e3, Bool.not_false]
    exact i9 hf rfl ⟨rfl, rfl⟩
theorem xL (t : List En) (ht : t.length <= 1000000) (p : List UInt8) (hp : p.length <= 1000000) : r8 env Tryz.prog 54 [d7 t, str p] (iv (cH t p)) := fun M => by
 refine PT.enterR a6 bC4 (by simp) aWG fun k hk hf => RX.of a6 ?_
 simp only [G0, Z1, Z2, Z3, Z4, Z5, d5]
 refine y7 (aJF p hp) (by decide) ?_
 unfold cH
 by_cases hu : (O0 p).1 = []
 ·rw [if_pos hu, hu]
  have : (([] : List UInt8) == []) = true := rfl
  simp only [G0, Z1, Z2, Z3, Z4, Z5, this, Bool.not_true, Bool.not_false]
  exact i9 hf rfl ⟨rfl, rfl⟩
 ·have hb : ((O0 p).1 == []) = false := by
   cases h : ((O0 p).1 == []) with
   | false => rfl
   | true => exact absurd (eq_of_beq h) hu
  rw [if_neg hu]
  simp only [G0, Z1, Z2, Z3, Z4, Z5, hb, Bool.not_true, Bool.not_false]
  refine y7 (aL6 t ht (O0 p).1) (by decide) ?_
  rcases aHY t (O0 p).1 with ⟨h1, h2⟩ | ⟨x, j, h1, h2, h3⟩
  ·rw [h1, h2, if_neg (by decide)]
   have hst := aMW 0 0 []
   simp only [G0, Z1, Z2, Z3, Z4, Z5, aP8, Option.isSome_none, hst, Bool.not_false]
   exact i9 hf rfl ⟨rfl, rfl⟩
  ·rw [h1, h2, if_pos (by omega), Int.toNat_natCast, h3]
   have hst := aMW x.kind x.mode x.bytes
   simp only [G0, Z1, Z2, Z3, Z4, Z5, aP8, Option.isSome_some, hst, Bool.not_true]
   by_cases hk2 : x.kind = 2
   ·have hne : (x.kind != 2) = false := by rw [hk2]; rfl
    simp only [G0, Z1, Z2, Z3, Z4, Z5, hne]
    exact i9 hf rfl ⟨by simp only [if_pos hk2]; rfl, rfl⟩
   ·have hne : (x.kind != 2) = true := by simpa using hk2
    simp only [G0, Z1, Z2, Z3, Z4, Z5, hne]
    exact i9 hf rfl ⟨by simp only [if_neg hk2]; rfl, rfl⟩
theorem aU4 (t : List En) (ht : t.length <= 1000000) (hp : ∀ x ∈ t, x.path.length <= 1000000) (M : b7) (k : Nat) (Q : c9 -> c5 -> Prop)
  (q1 : s8 t 0 t = true -> ∀ tm, Q (.exit 0) ⟨tm, 55, k, [], M⟩) (q2 : s8 t 0 t = false -> ∀ tm, a7 tm 2 = iv 2 -> Q .ret ⟨tm, 55, k, [], M⟩) :
  ∀ d i tm, t.length - i = d -> i <= t.length -> s8 t 0 t = s8 t i (t.drop i) -> a7 tm 0 = d7 t -> a7 tm 3 = iv i -> u0 env Tryz.prog none aH8 ⟨tm, 55, k, [], M⟩ Q := by
 intro d
 induction d with
 | zero =>
  intro i tm hd hi ho t0 t3
  have : i = t.length := by omega
  subst this
  have h0 : a7 tm 0 = .lst .no 4 t.length (t.flatMap d6) := t0
  refine u0.round (RX.of a6 ?_)
  simp only [G0, Z1, Z2, Z3, Z4, Z5, h0, t3, Int.lt_irrefl, decide_false]
  exact q1 (by rw [ho, List.drop_of_length_le (Nat.le_refl _)]; rfl) _
 | succ d ih =>
  intro i tm hd hi ho t0 t3
  have hi' : i < t.length := by omega
  have hii : (i : Int) < t.length := by omega
  obtain ⟨x, hx, hdx⟩ := E6 hi'
  have hlx := R4 hx
  have hT0 : a7 tm 0 = .lst .no 4 t.length (t.flatMap d6) := t0
  have hw : IntKind.i64.wrap ((i : Int) + 1) = ((i + 1 : Nat) : Int) := by rw [d3 (by omega) (by omega)]; rfl
  have hxm := List.mem_of_getElem? hx
  have hst := aN6 x
  rw [hdx] at ho
  have hun : s8 t i (x :: t.drop (i + 1)) = (R5 t i x && s8 t (i + 1) (t.drop (i + 1))) := rfl
  rw [hun] at ho
  have hpE : o9 false 1 (d6 x) 0 = some (str x.path) := rfl
  have hkE : o9 false 1 (d6 x) 1 = some (iv x.kind) := rfl
  have aggE : o9 true 3 (d6 x) 1 = some (.agg [iv x.kind, iv x.mode, a8 x.bytes]) := rfl
  refine u0.inn fun k' hk1 hk2 hk3 => RX.of a6 ?_
  simp only [G0, Z1, Z2, Z3, Z4, Z5, hT0, t3, hii, decide_true, hi', hlx, hst, hpE]
  refine y7 (aCC x.path (hp x hxm)) (by decide) ?_
  cases hpo : E8 x.path with
  | false =>
   have hno : s8 t 0 t = false := by rw [ho, R5, hpo]; rfl
   simp only [G0, Z1, Z2, Z3, Z4, Z5, u6, Bool.not_true, Bool.not_false, i7, j0, I7]
   exact q2 hno _ rfl
  | true =>
   simp only [G0, Z1, Z2, Z3, Z4, Z5, u6, Bool.not_true, i7, j0, I7, aggE]
   refine y7 (aPW x.kind x.mode x.bytes) (by decide) ?_
   cases heo : O7 x.kind x.mode x.bytes with
   | false =>
    have hno : s8 t 0 t = false := by rw [ho, R5, hpo, heo]; rfl
    simp only [G0, Z1, Z2, Z3, Z4, Z5, u6, Bool.not_true, Bool.not_false, i7, j0, I7]
    exact q2 hno _ rfl
   | true =>
    cases hk3' : (x.kind == 3) with
    | true =>
     have hno : s8 t 0 t = false := by rw [ho, R5, hpo, heo, hk3']; rfl
     simp only [G0, Z1, Z2, Z3, Z4, Z5, u6, Bool.not_true, Bool.not_false, i7, j0, I7, hkE, hk3']
     exact q2 hno _ rfl
    | false =>
     rcases Nat.eq_zero_or_pos i with h0 | h0
     ·subst h0
      have hgt : ¬ (((0 : Nat) : Int) > 0) := by omega
      simp only [G0, Z1, Z2, Z3, Z4, Z5, u6, Bool.not_true, Bool.not_false, i7, j0, I7, hkE, hk3', hgt, decide_false, t3, hT0, hpE]
      refine y7 (xL t ht x.path (hp x hxm)) (by decide) ?_
      cases hpr : (cH t x.path == 0) with
      | false =>
       have hno : s8 t 0 t = false := by rw [ho, R5, hpo, heo, hk3', hpr]; simp
       have hne : (cH t x.path != 0) = true := by rw [bne, hpr]; rfl
       simp only [G0, Z1, Z2, Z3, Z4, Z5, hne, Bool.not_true, Bool.not_false, i7, j0]
       exact q2 hno _ rfl
      | true =>
       have hne : (cH t x.path != 0) = false := by rw [bne, hpr]; rfl
       simp only [G0, Z1, Z2, Z3, Z4, Z5, hne, Bool.not_true, Bool.not_false, i7, j0, t3, hw]
       refine ih (0 + 1) _ (by omega) (by omega) (by rw [ho, R5, hpo, heo, hk3', hpr]; simp [aP]) t0 rfl
     ·obtain ⟨y, hy, -⟩ := E6 (xs := t) (i := i - 1) (by omega)
      have hgt : (i : Int) > 0 := by omega
      have hw1 : IntKind.i64.wrap ((i : Int) - 1) = ((i - 1 : Nat) : Int) := by rw [d3 (by omega) (by omega)]; omega
      have hi1 : i - 1 < t.length := by omega
      have hcy := aF hy
      have hpv : aP t i x = v4 y.path x.path := by
       cases i with
       | zero => omega
       | succ i => unfold aP; rw [show i + 1 - 1 = i from rfl] at hy; simp only [hy]
      simp only [G0, Z1, Z2, Z3, Z4, Z5, u6, Bool.not_true, Bool.not_false, i7, j0, I7, hkE, hk3', hgt, decide_true, hT0, t3, hw1, hi1, hcy, hpE]
      refine y7 (aJI y.path x.path (hp y (List.mem_of_getElem? hy)) (hp x hxm)) (by decide) ?_
      cases hls : v4 y.path x.path with
      | false =>
       have hno : s8 t 0 t = false := by rw [ho, R5, hpo, heo, hk3', hpv, hls]; rfl
       simp only [G0, Z1, Z2, Z3, Z4, Z5, Bool.not_true, Bool.not_false, i7, j0, I7]
       exact q2 hno _ rfl
      | true =>
       simp only [G0, Z1, Z2, Z3, Z4, Z5, Bool.not_true, Bool.not_false, i7, j0, I7, hT0, hpE]
       refine y7 (xL t ht x.path (hp x hxm)) (by decide) ?_
       cases hpr : (cH t x.path == 0) with
       | false =>
        have hno : s8 t 0 t = false := by rw [ho, R5, hpo, heo, hk3', hpr]; simp
        have hne : (cH t x.path != 0) = true := by rw [bne, hpr]; rfl
        simp only [G0, Z1, Z2, Z3, Z4, Z5, hne, Bool.not_true, Bool.not_false, i7, j0]
        exact q2 hno _ rfl
       | true =>
        have hne : (cH t x.path != 0) = false := by rw [bne, hpr]; rfl
        simp only [G0, Z1, Z2, Z3, Z4, Z5, hne, Bool.not_true, Bool.not_false, i7, j0, t3, hw]
        refine ih (i + 1) _ (by omega) (by omega) (by rw [ho, R5, hpo, heo, hk3', hpv, hls, hpr]; rfl) t0 rfl
theorem mI (t : List En) (ht : t.length <= 1000000) (hp : ∀ x ∈ t, x.path.length <= 1000000) : r8 env Tryz.prog 28 [d7 t] (iv (kS (r5 t))) := fun M => by
 refine PT.enterR a6 bEA (by simp) aUW fun k hk hf => RX.of a6 ?_
 have hlen : T7 (d7 t) = some (iv (t.length : Nat)) := rfl
 unfold r5
 by_cases h2 : t.length <= 200
 ·have hgt : ¬ ((t.length : Int) > 200) := by omega
  rw [decide_eq_true h2, Bool.true_and]
  simp only [G0, Z1, Z2, Z3, Z4, Z5, d5, hlen, hgt, decide_false]
  refine RX.loop (aU4 t ht hp M k _ (fun h tm => ?_) (fun h tm t2 => ?_) t.length 0 _ rfl (Nat.zero_le _) rfl (by rfl) (by rfl))
  ·simp only [G0, Z1, Z2, Z3, Z4, Z5]
   exact i9 hf rfl ⟨by rw [h]; rfl, rfl⟩
  ·simp only [G0, Z1, Z2, Z3, Z4, Z5]
   exact i9 hf t2 ⟨by rw [h]; rfl, rfl⟩
 ·have hgt : (t.length : Int) > 200 := by omega
  rw [decide_eq_false h2, Bool.false_and]
  simp only [G0, Z1, Z2, Z3, Z4, Z5, d5, hlen, hgt, decide_true]
  exact i9 hf rfl ⟨rfl, rfl⟩
end Go.Proofs.YtnmidpahhhdlpaaGreatDoor
noncomputable section
namespace Go.Proofs.YtnmidpahhhdlpaaGreatDoor
open Go Go.Am Go.Pm
def eL (out : List (List UInt8)) (x : List UInt8) : Nat := (out.takeWhile fun y => v4 y x).length
def N2 (out : List (List UInt8)) (x : List UInt8) : List (List UInt8) := if out[eL out x]? = some x then out else out.take (eL out x) ++ x :: out.drop (eL out x)
theorem aLP (out : List (List UInt8)) (x : List UInt8) : eL out x <= out.length := by unfold eL; exact (List.takeWhile_sublist _).length_le
theorem zB (out : List (List UInt8)) (x : List UInt8) : (N2 out x).length <= out.length + 1 := by
 have := aLP out x
 unfold N2
 split
 ·omega
 ·rw [List.length_append, List.length_cons, List.length_take, List.length_drop]; omega
theorem yW {out : List (List UInt8)} {x y : List UInt8} (h : y ∈ N2 out x) : y ∈ out \/ y = x := by
 unfold N2 at h
 split at h
 ·exact .inl h
 ·rcases List.mem_append.1 h with h | h
  ·exact .inl (List.mem_of_mem_take h)
  ·rcases List.mem_cons.1 h with h | h
   ·exact .inr h
   ·exact .inl (List.mem_of_mem_drop h)
theorem B2.pushL {α : Type} {f : α -> List PV} {sz k : Nat} {os : List Pm.Obj} {j : Option Nat} {v : PV} {L : List α} (h : B2 f sz k os j v L) {by_ : Nat} (ys : List α) (hb : (2 * (L.length + ys.length) + 2000) * by_ <= 281474976710656) (hl : L.length + ys.length <= 1000000) (hz : sz < 4096) (ho : (ys.flatMap f).all p7 = true) (t : lH) :
  ∃ v' os' j', (∀ {tm : List (Nat × PV)} {nt : Nat} {M : b7}, W7 ⟨tm, nt, k, os, M⟩ sz by_ sz v (.lst t sz ys.length (ys.flatMap f)) = some (v', ⟨tm, nt, k, os', M⟩)) /\ B2 f sz k os' j' v' (L ++ ys) := by
 by_cases hy : ys = []
 ·subst hy
  refine ⟨v, os, j, fun {tm nt M} => ?_, by rw [List.append_nil]; exact h⟩
  cases h with
  | nil e => exact vM
  | tok h => exact vM
 ·have hm : ys.length ≠ 0 := fun e => hy (List.length_eq_zero_iff.1 e)
  have hfm : (L ++ ys).flatMap f = L.flatMap f ++ ys.flatMap f := by rw [List.flatMap_append]
  have hlen : (L ++ ys).length = L.length + ys.length := by simp
  cases h with
  | nil e0 =>
   have hc : (0 = 0 \/ e0 = sz) /\ (2 * (0 + ys.length) + 2000) * by_ <= 281474976710656 /\ 0 + ys.length <= 4611686018427387904 /\ sz < 4096 /\ sz = sz /\ (ys.flatMap f).all p7 = true := ⟨.inl rfl, by simpa using hb, by simp only [List.length_nil] at hl; omega, hz, rfl, ho⟩
   refine ⟨_, os ++ [.grow (0 + ys.length) sz], some os.length, fun {tm nt M} => mE hm hc, ?_⟩
   have := B2.tok (f := f) (sz := sz) (k := k) (os := os ++ [.grow (0 + ys.length) sz]) (j := os.length) (L := ys) (by rw [List.getElem?_append_right (Nat.le_refl _), Nat.sub_self, Nat.zero_add]; rfl)
   simpa using this
  | @tok j L h =>
   have hj := (List.getElem?_eq_some_iff.1 h).1
   have hc : (L.length = 0 \/ sz = sz) /\ (2 * (L.length + ys.length) + 2000) * by_ <= 281474976710656 /\ L.length + ys.length <= 4611686018427387904 /\ sz < 4096 /\ sz = sz /\ (ys.flatMap f).all p7 = true := ⟨.inr rfl, hb, by omega, hz, rfl, ho⟩
   refine ⟨_, os.set j (.grow (L.length + ys.length) sz), some j, fun {tm nt M} => aRX hm h hc rfl, ?_⟩
   rw [<- hfm, <- hlen]
   exact .tok (by rw [List.getElem?_set_self hj])
theorem B2.shape {α : Type} {f : α -> List PV} {sz k : Nat} {os : List Pm.Obj} {j : Option Nat} {v : PV} {L : List α} (h : B2 f sz k os j v L) : ∃ t e, v = .lst t e L.length (L.flatMap f) := by
 cases h with
 | nil e => exact ⟨.full, e, rfl⟩
 | tok h => exact ⟨_, _, rfl⟩
theorem aEH (l : List (List UInt8)) : (l.flatMap V0).all p7 = true := by
 induction l with
 | nil => rfl
 | cons x l ih => rw [List.flatMap_cons, List.all_append, ih]; rfl
theorem aJ8 {k : Nat} {os : List Pm.Obj} {j : Option Nat} {v : PV} {L : List (List UInt8)} (h : B2 V0 1 k os j v L) {m : Nat} (hm : m <= L.length) (kk : IntKind) : ∃ t, G1 1 v none (some (.v (.int kk (m : Int)))) none = some (.lst t 1 (L.take m).length ((L.take m).flatMap V0)) := by
 cases h with
 | nil e =>
  have hm0 : m = 0 := by simpa using hm
  subst hm0
  unfold G1
  have hp : v6 (.v (.int kk ((0 : Nat) : Int))) = some 0 := w7 (n := 0)
  simp only [hp]
  by_cases he : 1 = e
  ·subst he; exact ⟨.no, by simp⟩
  ·rw [if_neg he]; exact ⟨.full, by simp⟩
 | @tok j L h =>
  refine ⟨.no, ?_⟩
  unfold G1
  have hp : v6 (.v (.int kk (m : Int))) = some m := w7 (n := m)
  simp only [hp, if_true]
  rw [if_pos ⟨Nat.zero_le _, hm⟩, List.length_take, Nat.min_eq_left hm, Nat.zero_mul, List.drop_zero, Nat.sub_zero, Nat.mul_one, iR, iR, List.map_take]
theorem aHS {k : Nat} {os : List Pm.Obj} {j : Option Nat} {v : PV} {L : List (List UInt8)} (h : B2 V0 1 k os j v L) {m : Nat} (hm : m <= L.length) (kk : IntKind) : ∃ t, G1 1 v (some (.v (.int kk (m : Int)))) none none = some (.lst t 1 (L.drop m).length ((L.drop m).flatMap V0)) := by
 cases h with
 | nil e =>
  have hm0 : m = 0 := by simpa using hm
  subst hm0
  unfold G1
  have hp : v6 (.v (.int kk ((0 : Nat) : Int))) = some 0 := w7 (n := 0)
  simp only [hp]
  by_cases he : 1 = e
  ·subst he; exact ⟨.no, by simp⟩
  ·rw [if_neg he]; exact ⟨.full, by simp⟩
 | @tok j L h =>
  refine ⟨.no, ?_⟩
  unfold G1
  have hp : v6 (.v (.int kk (m : Int))) = some m := w7 (n := m)
  simp only [hp, if_true]
  rw [if_pos ⟨hm, Nat.le_refl _⟩, List.length_drop, Nat.mul_one, Nat.mul_one, iR, iR, List.take_of_length_le (by simp), List.map_drop]
structure K29 (tm : List (Nat × PV)) (ns : List (List UInt8)) (v : PV) (i : Nat) : Prop where
 t0 : a7 tm 0 = l5 ns
 t3 : a7 tm 3 = v
 t4 : a7 tm 4 = iv i
theorem yZ {t : lH} {l : List (List UInt8)} {i : Nat} {x : List UInt8} (h : l[i]? = some x) : o9 false 1 (l.flatMap V0) (i * 1) = some (str x) := by rw [iR]; exact D5 h
theorem aT4 (ns : List (List UInt8)) (hp : ∀ p ∈ ns, p.length <= 1000000) (i : Nat) (x : List UInt8) (hx : ns[i]? = some x) (out : List (List UInt8)) (ho : out.length <= 1000000) (hop : ∀ p ∈ out, p.length <= 1000000) (t : lH) (e : Nat) (M : b7) (k : Nat) (os : List Pm.Obj) (Q : c9 -> c5 -> Prop)
  (q : ∀ tm, a7 tm 5 = iv (eL out x : Nat) -> K29 tm ns (.lst t e out.length (out.flatMap V0)) i -> Q (.exit 2) ⟨tm, 60, k, os, M⟩) :
  ∀ d m tm, out.length - m = d -> m <= out.length -> eL out x = m + eL (out.drop m) x -> a7 tm 5 = iv m -> K29 tm ns (.lst t e out.length (out.flatMap V0)) i -> u0 env Tryz.prog none aJJ ⟨tm, 60, k, os, M⟩ Q := by
 intro d
 induction d with
 | zero =>
  intro m tm hd hm hk t5 hK
  obtain ⟨t0, t3, t4⟩ := hK
  have : m = out.length := by omega
  subst this
  refine u0.round (RX.of a6 ?_)
  simp only [G0, Z1, Z2, Z3, Z4, Z5, t3, t5, Int.lt_irrefl, decide_false, I7, i7, j0]
  refine q _ ?_ ⟨t0, t3, t4⟩
  rw [List.drop_of_length_le (Nat.le_refl _)] at hk
  rw [hk]; exact t5
 | succ d ih =>
  intro m tm hd hm hk t5 hK
  obtain ⟨t0, t3, t4⟩ := hK
  have hm' : m < out.length := by omega
  have hmm : (m : Int) < out.length := by omega
  obtain ⟨y, hy, hdy⟩ := E6 hm'
  have hly := yZ (t := t) hy
  have h0 : a7 tm 0 = .lst .no 1 ns.length (ns.map str) := t0
  have hlx := D5 hx
  have hi := vD hx
  have hw : IntKind.i64.wrap ((m : Int) + 1) = ((m + 1 : Nat) : Int) := by rw [d3 (by omega) (by omega)]; rfl
  refine u0.round (RX.of a6 ?_)
  simp only [G0, Z1, Z2, Z3, Z4, Z5, h0, t3, t4, t5, hmm, decide_true, hm', hi, hly, hlx, I7, i7, j0]
  refine y7 (aJI y x (hop y (List.mem_of_getElem? hy)) (hp x (List.mem_of_getElem? hx))) (by decide) ?_
  rw [hdy] at hk
  unfold eL at hk
  rw [List.takeWhile_cons] at hk
  cases hl : v4 y x with
  | true =>
   rw [hl, if_pos rfl, List.length_cons] at hk
   simp only [G0, Z1, Z2, Z3, Z4, Z5, t5, hw]
   exact ih (m + 1) _ (by omega) (by omega) (by unfold eL; omega) rfl ⟨t0, t3, t4⟩
  | false =>
   rw [hl, if_neg (by decide), List.length_nil] at hk
   simp only [G0, Z1, Z2, Z3, Z4, Z5]
   refine q _ ?_ ⟨t0, t3, t4⟩
   unfold eL
   rw [hk]; exact t5
theorem aW7 (ns : List (List UInt8)) (hl : ns.length <= 100000) (hp : ∀ p ∈ ns, p.length <= 1000000) (M : b7) (k : Nat) (Q : c9 -> c5 -> Prop)
  (q : ∀ tm os j v, B2 V0 1 k os j v (ns.foldl N2 []) -> a7 tm 3 = v -> Q (.exit 0) ⟨tm, 60, k, os, M⟩) :
  ∀ d i os j v out tm, ns.length - i = d -> i <= ns.length -> out.length <= i -> (∀ p ∈ out, p ∈ ns) -> (ns.drop i).foldl N2 out = ns.foldl N2 [] -> B2 V0 1 k os j v out -> K29 tm ns v i -> u0 env Tryz.prog none aHZ ⟨tm, 60, k, os, M⟩ Q := by
 intro d
 induction d with
 | zero =>
  intro i os j v out tm hd hi hol hoi hfo hO hK
  have : i = ns.length := by omega
  subst this
  obtain ⟨t0, t3, t4⟩ := hK
  have h0 : a7 tm 0 = .lst .no 1 ns.length (ns.map str) := t0
  rw [List.drop_of_length_le (Nat.le_refl _)] at hfo
  have hfo : out = ns.foldl N2 [] := hfo
  refine u0.round (RX.of a6 ?_)
  simp only [G0, Z1, Z2, Z3, Z4, Z5, h0, t4, Int.lt_irrefl, decide_false]
  exact q _ _ _ _ (hfo ▸ hO) t3
 | succ d ih =>
  intro i os j v out tm hd hi hol hoi hfo hO hK
  have hi' : i < ns.length := by omega
  have hii : (i : Int) < ns.length := by omega
  obtain ⟨x, hx, hdx⟩ := E6 hi'
  obtain ⟨t, e, hv⟩ := hO.shape
  rw [hdx, List.foldl_cons] at hfo
  have hlx := D5 hx
  have hw : IntKind.i64.wrap ((i : Int) + 1) = ((i + 1 : Nat) : Int) := by rw [d3 (by omega) (by omega)]; rfl
  have hkl := aLP out x
  have hil := zB out x
  refine u0.round (RX.cut (a := aRR) (b := aGY) (fun s => ∃ tm, s = ⟨tm, 60, k, os, M⟩ /\ K29 tm ns v i) (RX.of a6 ?_) ?_)
  ·obtain ⟨t0, t3, t4⟩ := hK
   have h0 : a7 tm 0 = .lst .no 1 ns.length (ns.map str) := t0
   simp only [G0, Z1, Z2, Z3, Z4, Z5, h0, t4, hii, decide_true]
   exact ⟨_, rfl, t0, t3, t4⟩
  rintro _ ⟨tm, rfl, hK⟩
  refine RX.cut (a := aMZ) (b := aI1) (fun s => ∃ tm os j v, s = ⟨tm, 60, k, os, M⟩ /\ B2 V0 1 k os j v (N2 out x) /\ K29 tm ns v i) (RX.blk ?_) ?_
  ·refine RX.cut (a := aQ7) (b := aLC) (fun s => ∃ tm, s = ⟨tm, 60, k, os, M⟩ /\ K29 tm ns v i /\ a7 tm 5 = iv (0 : Nat)) (RX.of a6 ?_) ?_
   ·obtain ⟨t0, t3, t4⟩ := hK
    simp only [G0, Z1, Z2, Z3, Z4, Z5]
    exact ⟨_, rfl, ⟨t0, t3, t4⟩, rfl⟩
   rintro _ ⟨tm, rfl, hK, t5⟩
   refine RX.cut (a := aJS) (b := aG3) (fun s => ∃ tm, s = ⟨tm, 60, k, os, M⟩ /\ K29 tm ns v i /\ a7 tm 5 = iv (eL out x : Nat)) ?_ ?_
   ·refine RX.blk (RX.loop ?_)
    rw [hv] at hK
    refine aT4 ns hp i x hx out (by omega) (fun p hp' => hp p (hoi p hp')) t e M k os _ (fun tm t5 hK => ?_) out.length 0 tm rfl (Nat.zero_le _) (by rw [Nat.zero_add]; rfl) t5 hK
    exact ⟨rfl, _, rfl, hv ▸ hK, t5⟩
   rintro _ ⟨tm, rfl, hK, t5⟩
   obtain ⟨t0, t3, t4⟩ := hK
   have h0 : a7 tm 0 = .lst .no 1 ns.length (ns.map str) := t0
   have h3 : a7 tm 3 = .lst t e out.length (out.flatMap V0) := by rw [t3, hv]
   have hil' : ((out.take (eL out x) ++ [x]) ++ out.drop (eL out x)).length = out.length + 1 := by
    rw [List.length_append, List.length_append, List.length_take, List.length_drop, List.length_singleton]; omega
   have hl1 : (out.take (eL out x)).length <= 100000 := by rw [List.length_take]; omega
   have hl2 : (out.drop (eL out x)).length <= 100000 := by rw [List.length_drop]; omega
   have hins : ¬ out[eL out x]? = some x -> N2 out x = (out.take (eL out x) ++ [x]) ++ out.drop (eL out x) := fun hne => by
    unfold N2; rw [if_neg hne]; simp
   obtain ⟨tt, hs1⟩ := aJ8 hO hkl .i64
   obtain ⟨td, hs2⟩ := aHS hO hkl .i64
   obtain ⟨v1, os1, j1, p1, o1⟩ := (B2.nil (f := V0) (sz := 1) (k := k) (os := os) 1).pushL (by_ := 16) (out.take (eL out x)) (by simp only [List.length_nil]; omega) (by simp only [List.length_nil]; omega) (by decide) (aEH _) tt
   rw [List.nil_append] at o1
   obtain ⟨v2, os2, j2, p2, o2⟩ := o1.push (by_ := 16) (by omega) (by omega) (by decide) x rfl .full
   have p2' : ∀ {tm : List (Nat × PV)} {nt : Nat} {M : b7}, W7 ⟨tm, nt, k, os1, M⟩ 1 16 1 v1 (.lst .full 1 1 [str x]) = some (v2, ⟨tm, nt, k, os2, M⟩) := p2
   have hl3 : (out.take (eL out x) ++ [x]).length <= 100001 := by rw [List.length_append, List.length_singleton]; omega
   obtain ⟨v3, os3, j3, p3, o3⟩ := o2.pushL (by_ := 16) (out.drop (eL out x)) (by omega) (by omega) (by decide) (aEH _) td
   have hfill : T6 1 [] [] = some [] := rfl
   have ins : ¬ out[eL out x]? = some x -> ∀ tm, K29 tm ns v i -> a7 tm 5 = iv (eL out x : Nat) -> RX env Tryz.prog none aJH ⟨tm, 60, k, os, M⟩ (rC 1 fun e s => e = .normal /\ ∃ tm os j v, s = ⟨tm, 60, k, os, M⟩ /\ B2 V0 1 k os j v (N2 out x) /\ K29 tm ns v i) := fun hne tm hK t5 => by
    obtain ⟨t0, t3, t4⟩ := hK
    have h0 : a7 tm 0 = .lst .no 1 ns.length (ns.map str) := t0
    rw [hins hne]
    refine RX.of a6 ?_
    simp only [G0, Z1, Z2, Z3, Z4, Z5, h0, t3, t4, t5, hi', hlx, hs1, hs2, hfill]
    rw [bCW (e := 1) (by rfl)]
    simp only [G0, Z1, Z2, Z3, Z4, Z5, p1]
    refine aL ?_
    rw [p2']
    simp only [G0, Z1, Z2, Z3, Z4, Z5]
    refine aL ?_
    rw [p3]
    simp only [G0, Z1, Z2, Z3, Z4, Z5]
    exact ⟨_, _, _, _, rfl, o3, t0, rfl, t4⟩
   refine RX.cut (a := aIB) (b := aL4) (fun s => ∃ tm, s = ⟨tm, 60, k, os, M⟩ /\ K29 tm ns v i /\ a7 tm 5 = iv (eL out x : Nat) /\ a7 tm 43 = bv (!(decide (out[eL out x]? = some x)))) (RX.of a6 ?_) ?_
   ·rcases Nat.lt_or_ge (eL out x) out.length with hlt | hge
    ·obtain ⟨y, hy, -⟩ := E6 hlt
     have hly := yZ (t := t) hy
     have hne : (((eL out x : Nat) : Int) == (out.length : Int)) = false := by simp; omega
     simp only [G0, Z1, Z2, Z3, Z4, Z5, h0, h3, t4, t5, hne, hlt, hi', hly, hlx, R8, Bool.not_true, Bool.not_false, i7, j0, Bool.false_or]
     refine ⟨_, rfl, ⟨t0, t3, t4⟩, t5, ?_⟩
     rw [hy]
     show bv _ = bv _
     congr 1
     by_cases hxy : y = x
     ·subst hxy; simp
     ·simp [hxy]
    ·have heq : (((eL out x : Nat) : Int) == (out.length : Int)) = true := by simp; omega
     simp only [G0, Z1, Z2, Z3, Z4, Z5, h0, h3, t4, t5, heq, Bool.not_true, Bool.not_false, i7, j0, Bool.true_or]
     refine ⟨_, rfl, ⟨t0, t3, t4⟩, t5, ?_⟩
     rw [List.getElem?_eq_none hge]; rfl
   rintro _ ⟨tm, rfl, hK, t5, t43⟩
   by_cases hq : out[eL out x]? = some x
   ·rw [decide_eq_true hq] at t43
    obtain ⟨t0, t3, t4⟩ := hK
    refine RX.of a6 ?_
    simp only [G0, Z1, Z2, Z3, Z4, Z5, t43, Bool.not_true]
    have hio : N2 out x = out := by unfold N2; rw [if_pos hq]
    rw [hio]
    exact ⟨tm, os, j, v, rfl, hO, t0, t3, t4⟩
   ·rw [decide_eq_false hq] at t43
    exact RX.cond_true (show a7 tm 43 = .v (.bool true) by rw [t43]; rfl) (ins hq tm hK t5)
  ·rintro _ ⟨tm, os, j, v, rfl, hO, t0, t3, t4⟩
   refine RX.of a6 ?_
   simp only [G0, Z1, Z2, Z3, Z4, Z5, t4, hw]
   refine ih (i + 1) os j v (N2 out x) _ (by omega) (by omega) (by omega) (fun p hp' => ?_) hfo hO ⟨t0, t3, rfl⟩
   rcases yW hp' with h | rfl
   ·exact hoi p h
   ·exact List.mem_of_getElem? hx
theorem sO : ∀ (ns out : List (List UInt8)), (ns.foldl N2 out).length <= out.length + ns.length
 | [], out => Nat.le_refl _
 | x :: r, out => by
  have h1 := sO r (N2 out x)
  have h2 := zB out x
  rw [List.foldl_cons, List.length_cons]; omega
theorem aU1 (ns : List (List UInt8)) (hl : ns.length <= 100000) (hp : ∀ p ∈ ns, p.length <= 1000000) : r8 env Tryz.prog 29 [l5 ns] (l5 (ns.foldl N2 [])) := r8.of fun M => by
 refine PT.enterR a6 bD7 (by simp) aTS fun k hk hf => RX.of a6 ?_
 simp only [G0, Z1, Z2, Z3, Z4, Z5, d5]
 refine RX.loop (aW7 ns hl hp M k _ (fun tm os j v hO t3 => ?_) ns.length 0 [] none _ [] _ rfl (Nat.zero_le _) (Nat.le_refl _) (fun p hp => by cases hp) rfl (.nil 0) (by exact ⟨rfl, rfl, rfl⟩))
 simp only [G0, Z1, Z2, Z3, Z4, Z5, t3]
 exact i9 hf rfl ⟨aA2 hO, rfl⟩
end Go.Proofs.YtnmidpahhhdlpaaGreatDoor
end
namespace Go.Proofs.YtnmidpahhhdlpaaGreatDoor
open Go Go.Am Go.Pm
def LtS (l : List (List UInt8)) : Prop := l.Pairwise (fun a b => v4 a b = true)
theorem zU {α : Type} (P : α -> Bool) : ∀ l : List α, ∃ A B, l = A ++ B /\ l.takeWhile P = A /\ (∀ a ∈ A, P a = true) /\ ∀ z r, B = z :: r -> P z = false
 | [] => ⟨[], [], rfl, rfl, fun a h => (by cases h), fun z r h => (by cases h)⟩
 | x :: l => by
  cases h : P x with
  | true =>
   obtain ⟨A, B, h1, h2, h3, h4⟩ := zU P l
   refine ⟨x :: A, B, by rw [h1]; rfl, by rw [List.takeWhile_cons, h, if_pos rfl, h2], fun a ha => ?_, h4⟩
   rcases List.mem_cons.1 ha with rfl | ha
   ·exact h
   ·exact h3 a ha
  | false => exact ⟨[], x :: l, rfl, by rw [List.takeWhile_cons, h]; rfl, fun a h => (by cases h), fun z r e => by cases e; exact h⟩
theorem sY (out : List (List UInt8)) (x : List UInt8) : ∃ A B, out = A ++ B /\ (∀ a ∈ A, v4 a x = true) /\ (∀ z r, B = z :: r -> v4 z x = false) /\ N2 out x = (match B with | z :: _ => if z = x then out else A ++ x :: B | [] => A ++ [x]) := by
 obtain ⟨A, B, h1, h2, h3, h4⟩ := zU (fun y => v4 y x) out
 refine ⟨A, B, h1, h3, h4, ?_⟩
 have hk : eL out x = A.length := by unfold eL; rw [h2]
 unfold N2
 rw [hk, h1, List.take_left' rfl, List.drop_left' rfl]
 cases B with
 | nil => rw [List.append_nil, if_neg (by rw [List.getElem?_eq_none (Nat.le_refl _)]; simp)]
 | cons z r =>
  rw [List.getElem?_append_right (Nat.le_refl _), Nat.sub_self, List.getElem?_cons_zero]
  dsimp only
  by_cases hz : z = x
  ·rw [if_pos hz, if_pos (by rw [hz])]
  ·rw [if_neg hz, if_neg (by simpa using hz)]
theorem aLM {out : List (List UInt8)} (h : LtS out) (x : List UInt8) : LtS (N2 out x) := by
 obtain ⟨A, B, h1, h2, h3, h4⟩ := sY out x
 rw [h4]
 subst h1
 obtain ⟨g1, g2, g3⟩ := List.pairwise_append.1 h
 cases B with
 | nil => exact List.pairwise_append.2 ⟨g1, List.pairwise_singleton _ _, fun a ha b hb => by rw [List.mem_singleton] at hb; rw [hb]; exact h2 a ha⟩
 | cons z r =>
  dsimp only
  by_cases hz : z = x
  ·rw [if_pos hz]; exact h
  ·rw [if_neg hz]
   have hxz : v4 x z = true := by
    cases hl : v4 x z with
    | true => rfl
    | false => exact absurd (zS (h3 z r rfl) hl) hz
   refine List.pairwise_append.2 ⟨g1, List.pairwise_cons.2 ⟨fun b hb => ?_, g2⟩, fun a ha b hb => ?_⟩
   ·rcases List.mem_cons.1 hb with rfl | hb
    ·exact hxz
    ·exact S9 hxz ((List.pairwise_cons.1 g2).1 b hb)
   ·rcases List.mem_cons.1 hb with rfl | hb
    ·exact h2 a ha
    ·exact g3 a ha b hb
theorem aNZ (out : List (List UInt8)) (x y : List UInt8) : y ∈ N2 out x ↔ y ∈ out \/ y = x := by
 refine ⟨yW, fun h => ?_⟩
 obtain ⟨A, B, h1, h2, h3, h4⟩ := sY out x
 rw [h4]
 subst h1
 cases B with
 | nil =>
  rw [List.append_nil] at h
  rcases h with h | rfl
  ·exact List.mem_append_left _ h
  ·simp
 | cons z r =>
  dsimp only
  by_cases hz : z = x
  ·rw [if_pos hz]
   rcases h with h | rfl
   ·exact h
   ·rw [hz]; simp
  ·rw [if_neg hz]
   rcases h with h | rfl
   ·rcases List.mem_append.1 h with h | h
    ·exact List.mem_append_left _ h
    ·exact List.mem_append_right _ (List.mem_cons_of_mem _ h)
   ·simp
theorem xM : ∀ (ns out : List (List UInt8)), LtS out -> LtS (ns.foldl N2 out)
 | [], _, h => h
 | x :: r, _, h => xM r _ (aLM h x)
theorem aB2 : ∀ (ns out : List (List UInt8)) (y : List UInt8), y ∈ ns.foldl N2 out ↔ y ∈ out \/ y ∈ ns
 | [], out, y => by simp
 | x :: r, out, y => by
  rw [List.foldl_cons, aB2 r _ y, aNZ]
  simp only [List.mem_cons]
  constructor
  ·rintro ((h | h) | h)
   ·exact .inl h
   ·exact .inr (.inl h)
   ·exact .inr (.inr h)
  ·rintro (h | h | h)
   ·exact .inl (.inl h)
   ·exact .inl (.inr h)
   ·exact .inr h
theorem aFZ {a b : List UInt8} (h1 : v4 a b = true) (h2 : v4 b a = true) : False := by
 have := S9 h1 h2
 rw [U1] at this; cases this
theorem aC9 : ∀ {l m : List (List UInt8)}, LtS l -> LtS m -> (∀ y, y ∈ l ↔ y ∈ m) -> l = m
 | [], [], _, _, _ => rfl
 | [], y :: m, _, _, h => by have := (h y).2 List.mem_cons_self; cases this
 | x :: l, [], _, _, h => by have := (h x).1 List.mem_cons_self; cases this
 | x :: l, y :: m, h1, h2, h => by
  obtain ⟨a1, a2⟩ := List.pairwise_cons.1 h1
  obtain ⟨b1, b2⟩ := List.pairwise_cons.1 h2
  have hxy : x = y := by
   rcases List.mem_cons.1 ((h x).1 List.mem_cons_self) with e | e
   ·exact e
   ·rcases List.mem_cons.1 ((h y).2 List.mem_cons_self) with e' | e'
    ·exact e'.symm
    ·exact (aFZ (b1 x e) (a1 y e')).elim
  subst hxy
  rw [aC9 a2 b2 fun z => ⟨fun hz => ?_, fun hz => ?_⟩]
  ·rcases List.mem_cons.1 ((h z).1 (List.mem_cons_of_mem _ hz)) with e | e
   ·subst e; have := a1 z hz; rw [U1] at this; cases this
   ·exact e
  ·rcases List.mem_cons.1 ((h z).2 (List.mem_cons_of_mem _ hz)) with e | e
   ·subst e; have := b1 z hz; rw [U1] at this; cases this
   ·exact e
structure aI4 (a b : List En) (r : Pr) (ox oy : Option En) : Prop where
 eq : r = L3 ox oy
 inA : ∀ x, ox = some x -> x ∈ a /\ x.path = r.path
 inB : ∀ y, oy = some y -> y ∈ b /\ y.path = r.path
theorem mV {a b a' b' : List En} {r : Pr} (ha : ∀ x ∈ a, x ∈ a') (hb : ∀ x ∈ b, x ∈ b') (h : ∃ ox oy, aI4 a b r ox oy) : ∃ ox oy, aI4 a' b' r ox oy := by
 obtain ⟨ox, oy, h1, h2, h3⟩ := h
 exact ⟨ox, oy, h1, fun x e => ⟨ha _ (h2 x e).1, (h2 x e).2⟩, fun y e => ⟨hb _ (h3 y e).1, (h3 y e).2⟩⟩
theorem N1 : ∀ (n : Nat) (a b : List En) (r : Pr), r ∈ n6 n a b -> ∃ ox oy, aI4 a b r ox oy
 | 0, _, _, _, h => by cases h
 | n + 1, [], [], _, h => by cases h
 | n + 1, x :: q, [], r, h => by
  rw [Y2] at h
  rcases List.mem_cons.1 h with rfl | h
  ·exact ⟨some x, none, rfl, fun y e => by cases e; exact ⟨List.mem_cons_self, rfl⟩, fun y e => (by cases e)⟩
  ·exact mV (fun _ => List.mem_cons_of_mem _) (fun _ => id) (N1 n q [] r h)
 | n + 1, [], y :: q, r, h => by
  rw [Z0] at h
  rcases List.mem_cons.1 h with rfl | h
  ·exact ⟨none, some y, rfl, fun y e => (by cases e), fun z e => by cases e; exact ⟨List.mem_cons_self, rfl⟩⟩
  ·exact mV (fun _ => id) (fun _ => List.mem_cons_of_mem _) (N1 n [] q r h)
 | n + 1, x :: p, y :: q, r, h => by
  rw [S3] at h
  split at h
  ·rcases List.mem_cons.1 h with rfl | h
   ·exact ⟨some x, none, rfl, fun y e => by cases e; exact ⟨List.mem_cons_self, rfl⟩, fun y e => (by cases e)⟩
   ·exact mV (fun _ => List.mem_cons_of_mem _) (fun _ => id) (N1 n p (y :: q) r h)
  ·rename_i h1
   split at h
   ·rcases List.mem_cons.1 h with rfl | h
    ·exact ⟨none, some y, rfl, fun y e => (by cases e), fun z e => by cases e; exact ⟨List.mem_cons_self, rfl⟩⟩
    ·exact mV (fun _ => id) (fun _ => List.mem_cons_of_mem _) (N1 n (x :: p) q r h)
   ·rename_i h2
    rcases List.mem_cons.1 h with rfl | h
    ·exact ⟨some x, some y, rfl, fun z e => by cases e; exact ⟨List.mem_cons_self, uE h1 h2⟩, fun z e => by cases e; exact ⟨List.mem_cons_self, rfl⟩⟩
    ·exact mV (fun _ => List.mem_cons_of_mem _) (fun _ => List.mem_cons_of_mem _) (N1 n p q r h)
def E0 : Option En -> Int | some x => x.kind | none => 0
def D7 : Option En -> Int | some x => x.mode | none => 0
def n9 : Option En -> List UInt8 | some x => x.bytes | none => []
theorem aOG (o : Option En) : aP8 o = .agg [iv (E0 o), iv (D7 o), a8 (n9 o)] := by cases o <;> rfl
def U2 (A B : List En) (p : List UInt8) : Pr := ⟨p, E0 (n8 A p), D7 (n8 A p), n9 (n8 A p), E0 (n8 B p), D7 (n8 B p), n9 (n8 B p)⟩
theorem aIR {A : List En} (h : Srt A) {x y : En} (hx : x ∈ A) (hy : y ∈ A) (he : x.path = y.path) : x = y := by
 induction A with
 | nil => cases hx
 | cons z r ih =>
  obtain ⟨h1, h2⟩ := List.pairwise_cons.1 h
  rcases List.mem_cons.1 hx with rfl | hx'
  ·rcases List.mem_cons.1 hy with rfl | hy'
   ·rfl
   ·have := h1 y hy'; rw [he, U1] at this; cases this
  ·rcases List.mem_cons.1 hy with rfl | hy'
   ·have := h1 x hx'; rw [he, U1] at this; cases this
   ·exact ih h2 hx' hy'
theorem aMC {A : List En} (h : Srt A) {x : En} (hx : x ∈ A) : n8 A x.path = some x := by
 unfold n8
 cases hf : A.find? (fun y => y.path == x.path) with
 | none =>
  have := List.find?_eq_none.1 hf x hx
  simp at this
 | some y =>
  have h1 := List.find?_some hf
  have h2 := List.mem_of_find?_eq_some hf
  have : y.path = x.path := eq_of_beq h1
  rw [aIR h h2 hx this]
theorem aDG {A : List En} {p : List UInt8} (h : ∀ x ∈ A, x.path ≠ p) : n8 A p = none := by
 unfold n8
 rw [List.find?_eq_none]
 intro x hx
 simpa using h x hx
theorem aKQ {A B : List En} (hA : Srt A) (hB : Srt B) (kA : ∀ x ∈ A, x.kind ≠ 0) (kB : ∀ x ∈ B, x.kind ≠ 0) {r : Pr} (hr : r ∈ n6 (A.length + B.length) A B) : U2 A B r.path = r := by
 have eA := U0 (A.length + B.length) A B (Nat.le_refl _) kA
 have eB := T3 (A.length + B.length) A B (Nat.le_refl _) kB
 have eS := J7 (A.length + B.length) A B hA hB
 have uq : ∀ s ∈ n6 (A.length + B.length) A B, s.path = r.path -> s = r := fun s hs he => by
  generalize n6 (A.length + B.length) A B = R at eS hr hs
  clear eA eB
  induction R with
  | nil => cases hs
  | cons z q ih =>
   obtain ⟨h1, h2⟩ := List.pairwise_cons.1 eS
   rcases List.mem_cons.1 hs with rfl | hs'
   ·rcases List.mem_cons.1 hr with rfl | hr'
    ·rfl
    ·have := h1 r hr'; rw [he, U1] at this; cases this
   ·rcases List.mem_cons.1 hr with rfl | hr'
    ·have := h1 s hs'; rw [he, U1] at this; cases this
    ·exact ih h2 hr' hs'
 obtain ⟨ox, oy, h1, h2, h3⟩ := N1 _ _ _ r hr
 have gA : n8 A r.path = ox := by
  cases ox with
  | some x =>
   obtain ⟨m1, m2⟩ := h2 x rfl
   rw [<- m2]; exact aMC hA m1
  | none =>
   refine aDG fun x hx he => ?_
   rw [<- eA] at hx
   obtain ⟨s, hs, hsel⟩ := List.mem_filterMap.1 hx
   unfold aFJ at hsel
   split at hsel
   ·cases hsel
   ·rename_i hk
    cases hsel
    have := uq s hs he
    subst this
    apply hk
    rw [h1]
    cases oy <;> rfl
 have gB : n8 B r.path = oy := by
  cases oy with
  | some x =>
   obtain ⟨m1, m2⟩ := h3 x rfl
   rw [<- m2]; exact aMC hB m1
  | none =>
   refine aDG fun x hx he => ?_
   rw [<- eB] at hx
   obtain ⟨s, hs, hsel⟩ := List.mem_filterMap.1 hx
   unfold aF9 at hsel
   split at hsel
   ·cases hsel
   ·rename_i hk
    cases hsel
    have := uq s hs he
    subst this
    apply hk
    rw [h1]
    cases ox <;> rfl
 unfold U2
 rw [gA, gB]
 cases ox with
 | none =>
  cases oy with
  | none => rw [h1]; rfl
  | some y => rw [h1]; rfl
 | some x =>
  cases oy with
  | none => rw [h1]; rfl
  | some y => rw [h1]; rfl
theorem aFI {A B : List En} (hA : Srt A) (hB : Srt B) (kA : ∀ x ∈ A, x.kind ≠ 0) (kB : ∀ x ∈ B, x.kind ≠ 0) : (A.map En.path ++ B.map En.path).foldl N2 [] = (n6 (A.length + B.length) A B).map Pr.path := by
 have eA := U0 (A.length + B.length) A B (Nat.le_refl _) kA
 have eB := T3 (A.length + B.length) A B (Nat.le_refl _) kB
 refine aC9 (xM _ _ .nil) (List.pairwise_map.2 (J7 _ _ _ hA hB)) fun y => ?_
 rw [aB2]
 simp only [List.not_mem_nil, false_or, List.mem_append, List.mem_map]
 constructor
 ·rintro (⟨x, hx, rfl⟩ | ⟨x, hx, rfl⟩)
  ·rw [<- eA] at hx
   obtain ⟨s, hs, hsel⟩ := List.mem_filterMap.1 hx
   unfold aFJ at hsel
   split at hsel
   ·cases hsel
   ·cases hsel; exact ⟨s, hs, rfl⟩
  ·rw [<- eB] at hx
   obtain ⟨s, hs, hsel⟩ := List.mem_filterMap.1 hx
   unfold aF9 at hsel
   split at hsel
   ·cases hsel
   ·cases hsel; exact ⟨s, hs, rfl⟩
 ·rintro ⟨r, hr, rfl⟩
  rcases A3 _ _ _ _ hr with h | h
  ·exact .inl h
  ·exact .inr h
theorem aFN {A B : List En} (hA : Srt A) (hB : Srt B) (kA : ∀ x ∈ A, x.kind ≠ 0) (kB : ∀ x ∈ B, x.kind ≠ 0) : ((A.map En.path ++ B.map En.path).foldl N2 []).map (U2 A B) = n6 (A.length + B.length) A B := by
 rw [aFI hA hB kA kB, List.map_map]
 conv => rhs; rw [<- List.map_id (n6 (A.length + B.length) A B)]
 exact List.map_congr_left fun r hr => aKQ hA hB kA kB hr
theorem tW : ∀ {a b : List UInt8}, S7 a b = 0 -> a = b
 | [], [], _ => rfl
 | [], _ :: _, h => by simp [S7] at h
 | _ :: _, [], h => by simp [S7] at h
 | x :: a, y :: b, h => by
  rw [S7] at h
  cases h1 : Nat.blt x.toNat y.toNat with
  | true => rw [h1, cond_true] at h; cases h
  | false =>
   rw [h1, cond_false] at h
   cases h2 : Nat.blt y.toNat x.toNat with
   | true => rw [h2, cond_true] at h; cases h
   | false =>
    rw [h2, cond_false] at h
    have h3 : ¬ x.toNat < y.toNat := fun h => by have := iD.2 h; rw [this] at h1; cases h1
    have h4 : ¬ y.toNat < x.toNat := fun h => by have := iD.2 h; rw [this] at h2; cases h2
    rw [UInt8.toNat_inj.1 (show x.toNat = y.toNat by omega), tW h]
theorem sL {a b : Int} (h : bB a b = 0) : a = b := by
 unfold bB at h
 split at h
 ·cases h
 ·split at h
  ·cases h
  ·omega
theorem aG4 (p : Pr) : L8 p = (p.ak == p.bk && p.am == p.bm && p.ab == p.bb) := by
 unfold L8
 cases h : (p.ak == p.bk && p.am == p.bm && p.ab == p.bb) with
 | true =>
  simp only [Bool.and_eq_true, beq_iff_eq] at h
  obtain ⟨⟨h1, h2⟩, h3⟩ := h
  rw [h1, h2, h3, aFX]; rfl
 | false =>
  cases he : (aAF p.ak p.am p.ab p.bk p.bm p.bb == 0) with
  | false => rfl
  | true =>
   have he := eq_of_beq he
   unfold aAF orI at he
   split at he
   ·rename_i h1
    unfold orI at he
    split at he
    ·rename_i h2
     unfold orI at he
     split at he
     ·rename_i h3
      rw [sL h1, sL h2, tW h3] at h
      simp at h
     ·rename_i h3; exact absurd he h3
    ·rename_i h2; exact absurd he h2
   ·rename_i h1; exact absurd he h1
end Go.Proofs.YtnmidpahhhdlpaaGreatDoor
namespace Go.Proofs.YtnmidpahhhdlpaaGreatDoor
open Go Go.Am Go.Pm
theorem rY : ∀ l : List UInt8, (l.map A5).all p7 = true
 | [] => rfl
 | x :: l => by rw [List.map_cons, List.all_cons, rY l]; rfl
theorem mS (b : List UInt8) (hb : b.length <= 1000000) (k : Nat) (os : List Pm.Obj) : ∃ t os', (∀ {tm : List (Nat × PV)} {nt : Nat} {M : b7}, W7 ⟨tm, nt, k, os, M⟩ 1 1 1 (.lst .full 1 0 []) (a8 b) = some (.lst t 1 b.length (b.map A5), ⟨tm, nt, k, os', M⟩)) /\ (os' = os \/ ∃ o, os' = os ++ [o]) := by
 by_cases hz : b = []
 ·subst hz
  exact ⟨.full, os, fun {tm nt M} => vM, .inl rfl⟩
 ·have hn : b.length ≠ 0 := fun e => hz (List.length_eq_zero_iff.1 e)
  refine ⟨.id k os.length, os ++ [.grow (0 + b.length) 1], fun {tm nt M} => ?_, .inr ⟨_, rfl⟩⟩
  have hc : (0 = 0 \/ 1 = 1) /\ (2 * (0 + b.length) + 2000) * 1 <= 281474976710656 /\ 0 + b.length <= 4611686018427387904 /\ 1 < 4096 /\ 1 = 1 /\ (b.map A5).all p7 = true := ⟨.inl rfl, by omega, by omega, by decide, rfl, rY b⟩
  have h := mE (tm := tm) (nt := nt) (k := k) (os := os) (M := M) (t := .no) (es := 1) (cs := []) (by_ := 1) hn hc
  unfold a8
  rw [h, Nat.zero_add]; rfl
structure B9 (k : Nat) (os : List Pm.Obj) (n1 n2 : Nat) (j : Option Nat) (v : PV) (L : List Pr) (o1 o2 : Option En) : Prop where
 o : B2 b9 7 k os j v L
 r1 : os[n1]? = some (.row .rw 0 [iv (E0 o1), iv (D7 o1), a8 (n9 o1)])
 r2 : os[n2]? = some (.row .rw 0 [iv (E0 o2), iv (D7 o2), a8 (n9 o2)])
 ne : n1 ≠ n2
 d1 : j ≠ some n1
 d2 : j ≠ some n2
theorem B2.setNe {α : Type} {f : α -> List PV} {sz k : Nat} {os : List Pm.Obj} {j : Option Nat} {v : PV} {L : List α} (h : B2 f sz k os j v L) {n : Nat} (hn : j ≠ some n) (o : Pm.Obj) : B2 f sz k (os.set n o) j v L := by
 cases h with
 | nil e => exact .nil e
 | @tok j L h => exact .tok (by rw [List.getElem?_set_ne (fun e => hn (by rw [e]))]; exact h)
section
variable {k n1 n2 : Nat} {os : List Pm.Obj} {j : Option Nat} {v : PV} {L : List Pr} {o1 o2 : Option En}
theorem B9.ext (h : B9 k os n1 n2 j v L o1 o2) (o : Pm.Obj) : B9 k (os ++ [o]) n1 n2 j v L o1 o2 :=
 ⟨h.o.more _, by rw [List.getElem?_append_left (List.getElem?_eq_some_iff.1 h.r1).1]; exact h.r1, by rw [List.getElem?_append_left (List.getElem?_eq_some_iff.1 h.r2).1]; exact h.r2, h.ne, h.d1, h.d2⟩
theorem B9.re1 (h : B9 k os n1 n2 j v L o1 o2) : B9 k (os.set n1 (.row .rw 0 [iv (E0 o1), iv (D7 o1), a8 (n9 o1)])) n1 n2 j v L o1 o2 :=
 ⟨h.o.setNe h.d1 _, by rw [List.getElem?_set_self (List.getElem?_eq_some_iff.1 h.r1).1], by rw [List.getElem?_set_ne h.ne]; exact h.r2, h.ne, h.d1, h.d2⟩
theorem B9.re2 (h : B9 k os n1 n2 j v L o1 o2) : B9 k (os.set n2 (.row .rw 0 [iv (E0 o2), iv (D7 o2), a8 (n9 o2)])) n1 n2 j v L o1 o2 :=
 ⟨h.o.setNe h.d2 _, by rw [List.getElem?_set_ne (Ne.symm h.ne)]; exact h.r1, by rw [List.getElem?_set_self (List.getElem?_eq_some_iff.1 h.r2).1], h.ne, h.d1, h.d2⟩
end
theorem aC8 {tm : List (Nat × PV)} {nt k n es : Nat} {os : List Pm.Obj} {M : b7} {w : Wm} {cs cs' : List PV} (h : S4 cs cs') : uF ⟨tm, nt, k, os.set n (.row w es cs), M⟩ ⟨tm, nt, k, os.set n (.row w es cs'), M⟩ := by
 refine ⟨fun _ => .refl _, rfl, rfl, by simp, fun a i o e => ?_⟩
 have e' : seg M k (os.set n (.row w es cs')) a i = some o := e
 show ∃ o', seg M k (os.set n (.row w es cs)) a i = some o' /\ _
 by_cases ha : a = k
 ·subst ha
  rw [i4] at e' ⊢
  by_cases hi : n = i
  ·subst hi
   by_cases hn : n < os.length
   ·rw [List.getElem?_set_self hn] at e' ⊢
    cases e'
    exact ⟨_, rfl, .row _ _ h⟩
   ·rw [List.getElem?_eq_none (by simp; omega)] at e'; cases e'
  ·rw [List.getElem?_set_ne hi] at e' ⊢
   exact ⟨o, e', .refl _⟩
 ·rw [l3 _ _ _ ha] at e' ⊢
  exact ⟨o, e', .refl _⟩
structure K9 (tm : List (Nat × PV)) (A B : List En) (N : List (List UInt8)) (v : PV) (i : Nat) : Prop where
 t0 : a7 tm 0 = d7 A
 t1 : a7 tm 1 = d7 B
 t6 : a7 tm 6 = l5 N
 t9 : a7 tm 9 = v
 t10 : a7 tm 10 = iv i
section
variable {A B : List En} {N : List (List UInt8)} {M : b7} {k n1 n2 i : Nat} {os : List Pm.Obj} {j : Option Nat} {v : PV} {L : List Pr} {o1 o2 : Option En} {tm : List (Nat × PV)}
theorem pO {t : lH} {n : Nat} {cs : List PV} : p7 (.lst t 1 n cs) = true := rfl
theorem cpA (hb : (n9 o1).length <= 1000000) (hB : B9 k os n1 n2 j v L o1 o2) (hK : K9 tm A B N v i) (t11 : a7 tm 11 = .ptr k n1 0) (t13 : a7 tm 13 = .ptr k n2 0) :
  RX env Tryz.prog none aHT ⟨tm, 98, k, os, M⟩ (fun e s => e = .normal /\ ∃ tm os cs, s = ⟨tm, 98, k, os.set n1 (.row .rw 0 cs), M⟩ /\ S4 cs [iv (E0 o1), iv (D7 o1), a8 (n9 o1)] /\ B9 k os n1 n2 j v L o1 o2 /\ K9 tm A B N v i /\ a7 tm 11 = .ptr k n1 0 /\ a7 tm 13 = .ptr k n2 0) := by
 obtain ⟨t0, t1, t6, t9, t10⟩ := hK
 obtain ⟨t, os', h1, h2⟩ := mS (n9 o1) hb k os
 have hB' : B9 k os' n1 n2 j v L o1 o2 := by
  rcases h2 with rfl | ⟨o, rfl⟩
  ·exact hB
  ·exact hB.ext o
 have hr := hB.r1
 have hr' := hB'.r1
 have hfill : T6 1 [] [] = some [] := rfl
 have hst : q8 1 2 (.lst t 1 (n9 o1).length ((n9 o1).map A5)) (some (.row .rw 0 [iv (E0 o1), iv (D7 o1), a8 (n9 o1)])) = some (.row .rw 0 [iv (E0 o1), iv (D7 o1), .lst t 1 (n9 o1).length ((n9 o1).map A5)]) := n7 (n := 1) ⟨rfl, (show 2 + 1 <= 3 from by decide), rfl⟩
 refine RX.of a6 ?_
 simp only [G0, Z1, Z2, Z3, Z4, Z5, t11, hfill, hr]
 refine aL ?_
 rw [h1]
 simp only [G0, Z1, Z2, Z3, Z4, Z5, t11, hr', hst]
 exact ⟨_, _, _, rfl, .cons (.refl _) (.cons (.refl _) (.cons (Q2.no _ _ _ _) .nil)), hB', ⟨t0, t1, t6, t9, t10⟩, t11, t13⟩
theorem cpB (hb : (n9 o2).length <= 1000000) (hB : B9 k os n1 n2 j v L o1 o2) (hK : K9 tm A B N v i) (t11 : a7 tm 11 = .ptr k n1 0) (t13 : a7 tm 13 = .ptr k n2 0) :
  RX env Tryz.prog none aKH ⟨tm, 98, k, os, M⟩ (fun e s => e = .normal /\ ∃ tm os cs, s = ⟨tm, 98, k, os.set n2 (.row .rw 0 cs), M⟩ /\ S4 cs [iv (E0 o2), iv (D7 o2), a8 (n9 o2)] /\ B9 k os n1 n2 j v L o1 o2 /\ K9 tm A B N v i /\ a7 tm 11 = .ptr k n1 0 /\ a7 tm 13 = .ptr k n2 0) := by
 obtain ⟨t0, t1, t6, t9, t10⟩ := hK
 obtain ⟨t, os', h1, h2⟩ := mS (n9 o2) hb k os
 have hB' : B9 k os' n1 n2 j v L o1 o2 := by
  rcases h2 with rfl | ⟨o, rfl⟩
  ·exact hB
  ·exact hB.ext o
 have hr := hB.r2
 have hr' := hB'.r2
 have hfill : T6 1 [] [] = some [] := rfl
 have hst : q8 1 2 (.lst t 1 (n9 o2).length ((n9 o2).map A5)) (some (.row .rw 0 [iv (E0 o2), iv (D7 o2), a8 (n9 o2)])) = some (.row .rw 0 [iv (E0 o2), iv (D7 o2), .lst t 1 (n9 o2).length ((n9 o2).map A5)]) := n7 (n := 1) ⟨rfl, (show 2 + 1 <= 3 from by decide), rfl⟩
 refine RX.of a6 ?_
 simp only [G0, Z1, Z2, Z3, Z4, Z5, t13, hfill, hr]
 refine aL ?_
 rw [h1]
 simp only [G0, Z1, Z2, Z3, Z4, Z5, t13, hr', hst]
 exact ⟨_, _, _, rfl, .cons (.refl _) (.cons (.refl _) (.cons (Q2.no _ _ _ _) .nil)), hB', ⟨t0, t1, t6, t9, t10⟩, t11, t13⟩
theorem bCQ (hL : L.length <= 200000) {p : List UInt8} (hp : N[i]? = some p) (hB : B9 k os n1 n2 j v L o1 o2) (hK : K9 tm A B N v i) (t11 : a7 tm 11 = .ptr k n1 0) (t13 : a7 tm 13 = .ptr k n2 0) :
  RX env Tryz.prog none aI5 ⟨tm, 98, k, os, M⟩ (fun e s => e = .normal /\ ∃ tm os j v, s = ⟨tm, 98, k, os, M⟩ /\ B2 b9 7 k os j v (L ++ [⟨p, E0 o1, D7 o1, n9 o1, E0 o2, D7 o2, n9 o2⟩]) /\ K9 tm A B N v i) := by
 obtain ⟨t0, t1, t6, t9, t10⟩ := hK
 have h6 : a7 tm 6 = .lst .no 1 N.length (N.map str) := t6
 have hi := vD hp
 have hlp := D5 hp
 have hr1 := hB.r1
 have hr2 := hB.r2
 obtain ⟨v', os', j', h1, h2⟩ := hB.o.push (by_ := 96) (by omega) (by omega) (by decide) ⟨p, E0 o1, D7 o1, n9 o1, E0 o2, D7 o2, n9 o2⟩ rfl .full
 have h1' : ∀ {tm : List (Nat × PV)} {nt : Nat} {M : b7}, W7 ⟨tm, nt, k, os, M⟩ 7 96 7 v (.lst .full 7 1 [str p, iv (E0 o1), iv (D7 o1), a8 (n9 o1), iv (E0 o2), iv (D7 o2), a8 (n9 o2)]) = some (v', ⟨tm, nt, k, os', M⟩) := h1
 refine RX.of a6 ?_
 simp only [G0, Z1, Z2, Z3, Z4, Z5, h6, t9, t10, t11, t13, hi, hlp, hr1, hr2]
 refine aL ?_
 rw [h1']
 simp only [G0, Z1, Z2, Z3, Z4, Z5]
 exact ⟨_, _, _, _, rfl, h2, t0, t1, t6, rfl, t10⟩
end
end Go.Proofs.YtnmidpahhhdlpaaGreatDoor
namespace Go.Proofs.YtnmidpahhhdlpaaGreatDoor
open Go Go.Am Go.Pm
theorem aV8 {A B : List En} (hA : A.length <= 50000) {M : b7} {k : Nat} {Q : c9 -> c5 -> Prop}
  (q : ∀ tm os j v, B2 V0 1 k os j v (A.map En.path) -> a7 tm 0 = d7 A -> a7 tm 1 = d7 B -> a7 tm 6 = v -> Q (.exit 0) ⟨tm, 98, k, os, M⟩) :
  ∀ d i os j v tm, A.length - i = d -> i <= A.length -> B2 V0 1 k os j v ((A.take i).map En.path) -> a7 tm 0 = d7 A -> a7 tm 1 = d7 B -> a7 tm 6 = v -> a7 tm 7 = iv i -> u0 env Tryz.prog none aQP ⟨tm, 98, k, os, M⟩ Q := by
 intro d
 induction d with
 | zero =>
  intro i os j v tm hd hi hO t0 t1 t6 t7
  have : i = A.length := by omega
  subst this
  have h0 : a7 tm 0 = .lst .no 4 A.length (A.flatMap d6) := t0
  rw [List.take_length] at hO
  refine u0.round (RX.of a6 ?_)
  simp only [G0, Z1, Z2, Z3, Z4, Z5, h0, t7, Int.lt_irrefl, decide_false]
  exact q _ _ _ _ hO t0 t1 t6
 | succ d ih =>
  intro i os j v tm hd hi hO t0 t1 t6 t7
  have hi' : i < A.length := by omega
  have hii : (i : Int) < A.length := by omega
  obtain ⟨x, hx, -⟩ := E6 hi'
  have h0 : a7 tm 0 = .lst .no 4 A.length (A.flatMap d6) := t0
  have cp := aF hx
  have hw : IntKind.i64.wrap ((i : Int) + 1) = ((i + 1 : Nat) : Int) := by rw [d3 (by omega) (by omega)]; rfl
  have hln : ((A.take i).map En.path).length <= 50000 := by rw [List.length_map, List.length_take]; omega
  obtain ⟨v', os', j', h1, h2⟩ := hO.push (by_ := 16) (by omega) (by omega) (by decide) x.path rfl .full
  have h1' : ∀ {tm : List (Nat × PV)} {nt : Nat} {M : b7}, W7 ⟨tm, nt, k, os, M⟩ 1 16 1 v (.lst .full 1 1 [str x.path]) = some (v', ⟨tm, nt, k, os', M⟩) := h1
  refine u0.round (RX.of a6 ?_)
  simp only [G0, Z1, Z2, Z3, Z4, Z5, h0, t6, t7, hii, decide_true, hi', cp]
  refine aL ?_
  rw [h1']
  simp only [G0, Z1, Z2, Z3, Z4, Z5, t7, hw]
  refine ih (i + 1) os' j' v' _ (by omega) (by omega) ?_ t0 t1 rfl rfl
  rw [N7 hx, List.map_append]; exact h2
theorem aUQ {A B : List En} (hA : A.length <= 50000) (hB : B.length <= 50000) {M : b7} {k : Nat} {Q : c9 -> c5 -> Prop}
  (q : ∀ tm os j v, B2 V0 1 k os j v (A.map En.path ++ B.map En.path) -> a7 tm 0 = d7 A -> a7 tm 1 = d7 B -> a7 tm 6 = v -> Q (.exit 2) ⟨tm, 98, k, os, M⟩) :
  ∀ d i os j v tm, B.length - i = d -> i <= B.length -> B2 V0 1 k os j v (A.map En.path ++ (B.take i).map En.path) -> a7 tm 0 = d7 A -> a7 tm 1 = d7 B -> a7 tm 6 = v -> a7 tm 8 = iv i -> u0 env Tryz.prog none aRE ⟨tm, 98, k, os, M⟩ Q := by
 intro d
 induction d with
 | zero =>
  intro i os j v tm hd hi hO t0 t1 t6 t8
  have : i = B.length := by omega
  subst this
  have h1 : a7 tm 1 = .lst .no 4 B.length (B.flatMap d6) := t1
  rw [List.take_length] at hO
  refine u0.round (RX.of a6 ?_)
  simp only [G0, Z1, Z2, Z3, Z4, Z5, h1, t8, Int.lt_irrefl, decide_false]
  exact q _ _ _ _ hO t0 t1 t6
 | succ d ih =>
  intro i os j v tm hd hi hO t0 t1 t6 t8
  have hi' : i < B.length := by omega
  have hii : (i : Int) < B.length := by omega
  obtain ⟨x, hx, -⟩ := E6 hi'
  have hT1 : a7 tm 1 = .lst .no 4 B.length (B.flatMap d6) := t1
  have cp := aF hx
  have hw : IntKind.i64.wrap ((i : Int) + 1) = ((i + 1 : Nat) : Int) := by rw [d3 (by omega) (by omega)]; rfl
  have hln : (A.map En.path ++ (B.take i).map En.path).length <= 100000 := by rw [List.length_append, List.length_map, List.length_map, List.length_take]; omega
  obtain ⟨v', os', j', h1, h2⟩ := hO.push (by_ := 16) (by omega) (by omega) (by decide) x.path rfl .full
  have h1' : ∀ {tm : List (Nat × PV)} {nt : Nat} {M : b7}, W7 ⟨tm, nt, k, os, M⟩ 1 16 1 v (.lst .full 1 1 [str x.path]) = some (v', ⟨tm, nt, k, os', M⟩) := h1
  refine u0.round (RX.of a6 ?_)
  simp only [G0, Z1, Z2, Z3, Z4, Z5, hT1, t6, t8, hii, decide_true, hi', cp]
  refine aL ?_
  rw [h1']
  simp only [G0, Z1, Z2, Z3, Z4, Z5, t8, hw]
  refine ih (i + 1) os' j' v' _ (by omega) (by omega) ?_ t0 t1 rfl rfl
  rw [N7 hx, List.map_append, <- List.append_assoc]; exact h2
theorem rZ {A : List En} (hb : ∀ x ∈ A, x.bytes.length <= 1000000) (p : List UInt8) : (n9 (n8 A p)).length <= 1000000 := by
 cases h : n8 A p with
 | none => exact Nat.zero_le _
 | some x => exact hb x (List.mem_of_find?_eq_some h)
theorem aXM {A B : List En} (fA : qN A) (fB : qN B) {N : List (List UInt8)} (hN : N.length <= 100000) {M : b7} {k : Nat} {Q : c9 -> c5 -> Prop}
  (q : ∀ tm os j v, B2 b9 7 k os j v (N.map (U2 A B)) -> a7 tm 9 = v -> Q (.exit 4) ⟨tm, 98, k, os, M⟩) :
  ∀ d i os j v tm, N.length - i = d -> i <= N.length -> B2 b9 7 k os j v ((N.take i).map (U2 A B)) -> K9 tm A B N v i -> u0 env Tryz.prog none aQQ ⟨tm, 98, k, os, M⟩ Q := by
 have hlA := fA.len
 have hlB := fB.len
 intro d
 induction d with
 | zero =>
  intro i os j v tm hd hi hO hK
  obtain ⟨t0, t1, t6, t9, t10⟩ := hK
  have : i = N.length := by omega
  subst this
  have h6 : a7 tm 6 = .lst .no 1 N.length (N.map str) := t6
  rw [List.take_length] at hO
  refine u0.round (RX.of a6 ?_)
  simp only [G0, Z1, Z2, Z3, Z4, Z5, h6, t10, Int.lt_irrefl, decide_false]
  exact q _ _ _ _ hO t9
 | succ d ih =>
  intro i os j v tm hd hi hO hK
  have hi' : i < N.length := by omega
  have hii : (i : Int) < N.length := by omega
  obtain ⟨p, hp, -⟩ := E6 hi'
  have hlp := D5 hp
  have hw : IntKind.i64.wrap ((i : Int) + 1) = ((i + 1 : Nat) : Int) := by rw [d3 (by omega) (by omega)]; rfl
  have hb1 := rZ fA.bytes p
  have hb2 := rZ fB.bytes p
  have hln : ((N.take i).map (U2 A B)).length <= 200000 := by rw [List.length_map, List.length_take]; omega
  have hg1 := aL6 A (by omega) p
  have hg2 := aL6 B (by omega) p
  rw [aOG] at hg1 hg2
  refine u0.round (RX.cut (a := aRM) (b := aSM) (fun s => ∃ tm, s = ⟨tm, 98, k, os, M⟩ /\ K9 tm A B N v i) (RX.of a6 ?_) ?_)
  ·obtain ⟨t0, t1, t6, t9, t10⟩ := hK
   have h6 : a7 tm 6 = .lst .no 1 N.length (N.map str) := t6
   simp only [G0, Z1, Z2, Z3, Z4, Z5, h6, t10, hii, decide_true]
   exact ⟨_, rfl, t0, t1, t6, t9, t10⟩
  rintro _ ⟨tm, rfl, hK⟩
  refine RX.cut (a := aRV) (b := aRU) (fun s => ∃ tm os j v, s = ⟨tm, 98, k, os, M⟩ /\ B2 b9 7 k os j v ((N.take (i + 1)).map (U2 A B)) /\ K9 tm A B N v i) (RX.blk ?_) ?_
  ·refine RX.cut (a := aQN) (b := aRY) (fun s => ∃ tm, s = ⟨tm, 98, k, os ++ [.row .rw 0 [iv (E0 (n8 A p)), iv (D7 (n8 A p)), a8 (n9 (n8 A p))]], M⟩ /\ K9 tm A B N v i /\ a7 tm 11 = .ptr k os.length 0) (RX.of a6 ?_) ?_
   ·obtain ⟨t0, t1, t6, t9, t10⟩ := hK
    have h6 : a7 tm 6 = .lst .no 1 N.length (N.map str) := t6
    have hst := aMW (E0 (n8 A p)) (D7 (n8 A p)) (n9 (n8 A p))
    simp only [G0, Z1, Z2, Z3, Z4, Z5, t0, h6, t10, hi', hlp]
    refine y7 hg1 (by decide) ?_
    simp only [G0, Z1, Z2, Z3, Z4, Z5, hst, dF, oX]
    exact ⟨_, rfl, ⟨t0, t1, t6, t9, t10⟩, rfl⟩
   rintro _ ⟨tm, rfl, hK, t11⟩
   generalize ho1 : os ++ [.row .rw 0 [iv (E0 (n8 A p)), iv (D7 (n8 A p)), a8 (n9 (n8 A p))]] = os1
   have hO1 : B2 b9 7 k os1 j v ((N.take i).map (U2 A B)) := by rw [<- ho1]; exact hO.more _
   have hr1 : os1[os.length]? = some (.row .rw 0 [iv (E0 (n8 A p)), iv (D7 (n8 A p)), a8 (n9 (n8 A p))]) := by rw [<- ho1]; exact dF
   have hl1 : os.length < os1.length := by rw [<- ho1]; simp
   have hjl : ∀ q, j = some q -> q < os.length := fun q e => by
    subst e
    cases hO with | tok h => exact (List.getElem?_eq_some_iff.1 h).1
   refine RX.cut (a := aQD) (b := aQI) (fun s => ∃ tm os2 n2, s = ⟨tm, 98, k, os2, M⟩ /\ B9 k os2 os.length n2 j v ((N.take i).map (U2 A B)) (n8 A p) (n8 B p) /\ K9 tm A B N v i /\ a7 tm 11 = .ptr k os.length 0 /\ a7 tm 13 = .ptr k n2 0) (RX.of a6 ?_) ?_
   ·obtain ⟨t0, t1, t6, t9, t10⟩ := hK
    have h6 : a7 tm 6 = .lst .no 1 N.length (N.map str) := t6
    have hst := aMW (E0 (n8 B p)) (D7 (n8 B p)) (n9 (n8 B p))
    simp only [G0, Z1, Z2, Z3, Z4, Z5, t1, h6, t10, hi', hlp]
    refine y7 hg2 (by decide) ?_
    simp only [G0, Z1, Z2, Z3, Z4, Z5, hst, dF, oX]
    refine ⟨_, _, os1.length, rfl, ⟨hO1.more _, ?_, dF, by omega, fun e => ?_, fun e => ?_⟩, ⟨t0, t1, t6, t9, t10⟩, t11, rfl⟩
    ·rw [List.getElem?_append_left hl1]; exact hr1
    ·have := hjl _ e; omega
    ·have := hjl _ e; omega
   rintro _ ⟨tm, os2, n2, rfl, hB, hK, t11, t13⟩
   refine RX.cut (a := aHT) (b := aQB) (fun s => ∃ tm os3 cs, s = ⟨tm, 98, k, os3.set os.length (.row .rw 0 cs), M⟩ /\ S4 cs [iv (E0 (n8 A p)), iv (D7 (n8 A p)), a8 (n9 (n8 A p))] /\ B9 k os3 os.length n2 j v ((N.take i).map (U2 A B)) (n8 A p) (n8 B p) /\ K9 tm A B N v i /\ a7 tm 11 = .ptr k os.length 0 /\ a7 tm 13 = .ptr k n2 0) (cpA hb1 hB hK t11 t13) ?_
   rintro _ ⟨tm, os3, cs, rfl, hcs, hB, hK, t11, t13⟩
   refine RX.weak (aC8 hcs) ?_
   have hB := hB.re1
   refine RX.cut (a := aKH) (b := aI5) (fun s => ∃ tm os3 cs, s = ⟨tm, 98, k, os3.set n2 (.row .rw 0 cs), M⟩ /\ S4 cs [iv (E0 (n8 B p)), iv (D7 (n8 B p)), a8 (n9 (n8 B p))] /\ B9 k os3 os.length n2 j v ((N.take i).map (U2 A B)) (n8 A p) (n8 B p) /\ K9 tm A B N v i /\ a7 tm 11 = .ptr k os.length 0 /\ a7 tm 13 = .ptr k n2 0) (cpB hb2 hB hK t11 t13) ?_
   rintro _ ⟨tm, os4, cs, rfl, hcs, hB, hK, t11, t13⟩
   refine RX.weak (aC8 hcs) ?_
   have hB := hB.re2
   refine (bCQ hln hp hB hK t11 t13).mono ?_
   rintro e s ⟨rfl, tm, os, j, v, rfl, h1, h2⟩
   refine ⟨rfl, tm, os, j, v, rfl, ?_, h2⟩
   rw [N7 hp, List.map_append]; exact h1
  ·rintro _ ⟨tm, os, j, v, rfl, hO, t0, t1, t6, t9, t10⟩
   refine RX.of a6 ?_
   simp only [G0, Z1, Z2, Z3, Z4, Z5, t10, hw]
   exact ih (i + 1) os j v _ (by omega) (by omega) hO ⟨t0, t1, t6, t9, rfl⟩
theorem aKL {A B : List En} (hA : qN A) (hB : qN B) (h : (r5 A && r5 B) = false) : r8 env Tryz.prog 9 [d7 A, d7 B] (.tup [.lst .full 0 0 [], iv 2]) := fun M => by
 have h1 := hA.len
 have h2 := hB.len
 refine PT.enterR a6 fn9 (by simp) aRW fun k hk hf => RX.of a6 ?_
 simp only [G0, Z1, Z2, Z3, Z4, Z5, d5]
 refine y7 (mI A (by omega) hA.path) (by decide) ?_
 cases ha : r5 A with
 | false =>
  simp only [G0, Z1, Z2, Z3, Z4, Z5, u6, Bool.not_false, Bool.not_true, i7, j0]
  exact cR hf rfl rfl ⟨rfl, rfl⟩
 | true =>
  simp only [G0, Z1, Z2, Z3, Z4, Z5, u6, Bool.not_false, Bool.not_true, i7, j0]
  refine y7 (mI B (by omega) hB.path) (by decide) ?_
  have hb : r5 B = false := by rw [ha, Bool.true_and] at h; exact h
  rw [hb]
  simp only [G0, Z1, Z2, Z3, Z4, Z5, u6, Bool.not_false, Bool.not_true, i7, j0]
  exact cR hf rfl rfl ⟨rfl, rfl⟩
theorem aE2 {A B : List En} (hA : qN A) (hB : qN B) (h1 : A.length <= 50000) (h2 : B.length <= 50000) (ha : r5 A = true) (hb : r5 B = true) : r8 env Tryz.prog 9 [d7 A, d7 B] (.tup [G6 (n6 (A.length + B.length) A B), iv 0]) := r8.of fun M => by
 have hsame := aFN (yE ha) (yE hb) (fun x hx => tH ha hx) (fun x hx => tH hb hx)
 have hlN : (A.map En.path ++ B.map En.path).length <= 100000 := by rw [List.length_append, List.length_map, List.length_map]; omega
 have hpN : ∀ p ∈ A.map En.path ++ B.map En.path, p.length <= 1000000 := fun p hp => by
  rcases List.mem_append.1 hp with h | h
  ·obtain ⟨x, hx, rfl⟩ := List.mem_map.1 h; exact hA.path x hx
  ·obtain ⟨x, hx, rfl⟩ := List.mem_map.1 h; exact hB.path x hx
 have hfl := sO (A.map En.path ++ B.map En.path) []
 have hsort := aU1 _ hlN hpN
 refine PT.enterR a6 fn9 (by simp) aRW fun k hk hf => RX.of a6 ?_
 simp only [G0, Z1, Z2, Z3, Z4, Z5, d5]
 refine y7 (mI A (by omega) hA.path) (by decide) ?_
 rw [ha]
 simp only [G0, Z1, Z2, Z3, Z4, Z5, u6, Bool.not_false, Bool.not_true, i7, j0]
 refine y7 (mI B (by omega) hB.path) (by decide) ?_
 rw [hb]
 simp only [G0, Z1, Z2, Z3, Z4, Z5, u6, Bool.not_false, Bool.not_true, i7, j0, Bool.or_self]
 refine RX.loop (aV8 (A := A) (B := B) h1 (fun tm os j v hO t0 t1 t6 => ?_) A.length 0 [] none _ _ rfl (Nat.zero_le _) (.nil 0) (by rfl) (by rfl) (by rfl) (by rfl))
 simp only [G0, Z1, Z2, Z3, Z4, Z5]
 refine RX.loop (aUQ (A := A) (B := B) h1 h2 (fun tm os j v hO t0 t1 t6 => ?_) B.length 0 os j v _ rfl (Nat.zero_le _) (by rw [List.take_zero, List.map_nil, List.append_nil]; exact hO) t0 t1 t6 (by rfl))
 simp only [G0, Z1, Z2, Z3, Z4, Z5, t6]
 refine y7 (hsort.args (.cons (aA2 hO) .nil)) (by decide) ?_
 generalize (A.map En.path ++ B.map En.path).foldl N2 [] = N at *
 simp only [G0, Z1, Z2, Z3, Z4, Z5]
 refine RX.loop (aXM (A := A) (B := B) hA hB (N := N) (by simp only [List.length_nil] at hfl; omega) (fun tm os j v hO t9 => ?_) N.length 0 os none _ _ rfl (Nat.zero_le _) (.nil 0) (by exact ⟨t0, t1, rfl, rfl, rfl⟩))
 simp only [G0, Z1, Z2, Z3, Z4, Z5, t9]
 rw [hsame] at hO
 exact cR hf rfl rfl ⟨.tup (.cons hO.le (.cons (.refl _) .nil)), rfl⟩
end Go.Proofs.YtnmidpahhhdlpaaGreatDoor
namespace Go.Proofs.YtnmidpahhhdlpaaGreatDoor
open Go Go.Am Go.Pm
theorem aPR {l : List Pr} {i : Nat} {x : Pr} (h : l[i]? = some x) {c : Nat} {v : PV} (hc : (b9 x)[c]? = some v) : (l.flatMap b9)[i * 7 + c]? = some v := aCP (f := b9) (n := 7) (fun _ => rfl) h hc
theorem aOF {l : List Pr} {i : Nat} {x : Pr} (h : l[i]? = some x) : (l.flatMap b9)[i * 7]? = some (str x.path) := by have := aPR (c := 0) h rfl; simpa using this
theorem aCL {l : List Pr} {i : Nat} {x : Pr} (h : l[i]? = some x) : o9 true 3 (l.flatMap b9) (i * 7 + 1) = some (.agg [iv x.ak, iv x.am, a8 x.ab]) := aAB (f := b9) (fun _ => rfl) h (by decide) rfl
theorem aEG {l : List Pr} {i : Nat} {x : Pr} (h : l[i]? = some x) : o9 true 3 (l.flatMap b9) (i * 7 + 4) = some (.agg [iv x.bk, iv x.bm, a8 x.bb]) := aAB (f := b9) (fun _ => rfl) h (by decide) rfl
end Go.Proofs.YtnmidpahhhdlpaaGreatDoor