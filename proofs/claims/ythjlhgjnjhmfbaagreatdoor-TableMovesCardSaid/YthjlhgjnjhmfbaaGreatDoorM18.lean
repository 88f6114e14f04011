/- TableMoves holds. Part 18 of 29; no condition. -/
import Derived.Test.YthjlhgjnjhmfbaaGreatDoorM17
set_option linter.unusedVariables false
set_option linter.unusedSimpArgs false
namespace Go.Pm
open Go.RowKit Go.Am
section
variable {E : Env} {P : Program} {tm tm1 : List (Nat × PV)} {nt k n d f g k2 i : Nat} {os os' : List Obj} {M M' M1 : PMem} {v : PV} {args vs first cap : List PV} {κ : Kont} {R : PSt -> Prop} {b : Bool}
theorem segNil {M : PMem} {k : Nat} (h : fresh M k) : seg M k [] = M := by
 funext a j
 by_cases ha : a = k
 ·subst ha; rw [seg_same, h j]; rfl
 ·rw [seg_ne _ _ _ ha]
theorem MLe.seg_nil' (M : PMem) (k : Nat) : MLe M (seg M k []) := fun a j o e => by
 by_cases ha : a = k
 ·subst ha; rw [seg_same] at e; cases e
 ·rw [seg_ne _ _ _ ha] at e; exact ⟨o, e, .refl o⟩
theorem PRd.mono {R R' : PV -> PMem -> Prop} (h : PRd E P k i args M R) (hq : ∀ x M1, R x M1 -> R' x M1) : PRd E P k i args M R' := fun cx m l vargs hg hl ha => by
 obtain ⟨v, m1, cx1, x, M1, h1, h2, h3, h4, h5⟩ := h cx m l vargs hg hl ha
 exact ⟨v, m1, cx1, x, M1, h1, h2, h3, h4, hq x M1 h5⟩
theorem cY {Q : PV -> PMem -> Prop} (hf : fresh M k2) (hp : PRd E P k i vs M Q) (hd : d < nt) (h : ∀ x M1, Q x M1 -> RK E P κ ⟨(d, x) :: tm, nt, k2, [], M1⟩ R) : cK E P (some d) κ tm nt k2 [] M R vs (.yld k i) :=
 .inr ⟨k, i, rfl, by
  rw [segNil hf]
  exact hp.mono fun x M1 hq => ⟨[], M1, ⟨(d, x) :: tm, nt, k2, [], M1⟩, rfl, MLe.seg_nil' _ _, by simp only [pput, if_pos hd], h x M1 hq⟩⟩
theorem cmk (hp : PTk E P g (first ++ (vs ++ cap)) (seg M k os) (fun nk x M1 => k < nk -> ∃ os1 M2, os1.length = os.length /\ MLe M1 (seg M2 k os1) /\ d < nt /\ RK E P κ ⟨(d, x) :: tm, nt, k, os1, M2⟩ R)) : cK E P (some d) κ tm nt k os M R vs (.fn g first cap) :=
 .inl ⟨_, _, _, rfl, fun cx m vargs hlo hg ha => by
  obtain ⟨v, m1, cx1, x, M1, h1, h2, h3, h4, h5⟩ := hp cx m vargs hg ha
  obtain ⟨os1, M2, q1, q2, q3, q4⟩ := h5 hlo
  exact ⟨v, m1, cx1, x, M1, h1, h2, h3, h4, os1, M2, _, q1, q2, by simp only [pput, if_pos q3], q4⟩⟩
theorem PRd.runR (hE : EnvOk E P) {Q : PV -> PMem -> Prop} {pend : Option Code} {ps : List Tmp} {asg body : Code} {ca cb : RC} (hca : codeOk E.ng asg = true) (hcb : codeOk E.ng body = true) (pa : comp E asg = ca) (pb : comp E body = cb)
  (hM : M k i = some (.loop true .ready pend tm nt ps asg body)) (hp : pparams ps args tm nt = some tm1)
  (h : ∀ k', 0 < k' -> k' ≠ k -> fresh M k' -> RX E P (some (k, i)) ca ⟨tm1, nt, k', [], M⟩ (fun e s1 => e = .normal /\ ∃ tm2 os2, s1 = ⟨tm2, nt, k', os2, M⟩ ∧
   RX E P (some (k, i)) cb ⟨tm2, nt, k', os2, putM M k i (.loop true .busy pend tm nt ps asg body)⟩ (roundEnds k i Q))) : PRd E P k i args M Q :=
 PRd.run hE hca hcb hM hp fun k' h1 h2 h3 => (h k' h1 h2 h3 asg pa).mono fun e s1 ⟨he, tm2, os2, hs, hb⟩ => by
  subst hs
  refine ⟨he, pend, tm, nt, ps, asg, ?_, ?_⟩
  ·unfold PSt.look; rw [if_neg (Ne.symm h2)]; exact hM
  ·have : (⟨tm2, nt, k', os2, M⟩ : PSt).putO k i (.loop true .busy pend tm nt ps asg body) = ⟨tm2, nt, k', os2, putM M k i (.loop true .busy pend tm nt ps asg body)⟩ := by
    unfold PSt.putO; rw [if_neg (Ne.symm h2)]
   rw [this]
   exact hb body pb
theorem roundGo {Q : PV -> PMem -> Prop} {st : LoopState} {pend : Option Code} {ps : List Tmp} {asg body : Code} {tm' : List (Nat × PV)} {nt' k' : Nat} {os : List Obj} (hne : k ≠ k') (hM : M k i = some (.loop true st pend tm nt ps asg body)) (hf : fresh M k')
  (h : Q (.v (.bool true)) (putM M k i (.loop true .ready none tm nt ps asg body))) : roundEnds k i Q .normal ⟨tm', nt', k', os, M⟩ := by
 refine ⟨st, pend, tm, nt, ps, asg, body, by unfold PSt.look; rw [if_neg hne]; exact hM, putM M k i (.loop true .ready none tm nt ps asg body), ?_, h⟩
 have : (⟨tm', nt', k', os, M⟩ : PSt).putO k i (.loop true .ready none tm nt ps asg body) = ⟨tm', nt', k', os, putM M k i (.loop true .ready none tm nt ps asg body)⟩ := by
  unfold PSt.putO; rw [if_neg hne]
 show MLe ((⟨tm', nt', k', os, M⟩ : PSt).putO k i (.loop true .ready none tm nt ps asg body)).mem _
 rw [this]
 refine MLe.pop fun j => ?_
 show putM M k i _ k' j = none
 unfold putM
 rw [if_neg (fun e => hne e.1.symm)]; exact hf j
theorem roundStop {Q : PV -> PMem -> Prop} {st : LoopState} {pend : Option Code} {ps : List Tmp} {asg body : Code} {tm' : List (Nat × PV)} {nt' k' : Nat} {os : List Obj} {e : AExit} {c : Code} (hj : exitJump e = some c) (hne : k ≠ k') (hM : M k i = some (.loop true st pend tm nt ps asg body)) (hf : fresh M k')
  (h : Q (.v (.bool false)) (putM M k i (.loop true .done (some c) tm nt ps asg body))) : roundEnds k i Q e ⟨tm', nt', k', os, M⟩ := by
 refine ⟨st, pend, tm, nt, ps, asg, body, by unfold PSt.look; rw [if_neg hne]; exact hM, putM M k i (.loop true .done (some c) tm nt ps asg body), ?_, by rw [hj]; exact h⟩
 rw [hj]
 have : (⟨tm', nt', k', os, M⟩ : PSt).putO k i (.loop true .done (some c) tm nt ps asg body) = ⟨tm', nt', k', os, putM M k i (.loop true .done (some c) tm nt ps asg body)⟩ := by
  unfold PSt.putO; rw [if_neg hne]
 show MLe ((⟨tm', nt', k', os, M⟩ : PSt).putO k i (.loop true .done (some c) tm nt ps asg body)).mem _
 rw [this]
 refine MLe.pop fun j => ?_
 show putM M k i _ k' j = none
 unfold putM
 rw [if_neg (fun e => hne e.1.symm)]; exact hf j
theorem endM {Q : PV -> PMem -> Prop} {body : Code} {nt' r : Nat} (hv : tget tm r = v) (h : Q v (seg M k os)) : ends E ⟨nt, [.tmp r], body⟩ Q .ret ⟨tm, nt', k, os, M⟩ := by
 subst hv; exact ⟨.inr rfl, [_], seg M k os, rfl, .refl _, h⟩
theorem RX.scope1 {rd : Option (Nat × Nat)} {s : PSt} {Q : AExit -> PSt -> Prop} {a : Code} {c : RC} (hc : comp E a = c) (h : RX E P rd c s (fun e s1 => (∀ l, e ≠ .goto l) /\ Q e s1)) : RX E P rd (.scope a) s Q :=
 RX.scope (PXS.run ((h a hc).mono fun e s1 ⟨h1, h2⟩ => by
  cases e with
  | goto l => exact absurd rfl (h1 l)
  | _ => exact h2))
theorem putM_put {M : PMem} {k i : Nat} {o o' : Obj} : putM (putM M k i o) k i o' = putM M k i o' := by
 funext a j
 unfold putM
 by_cases h : a = k /\ j = i
 ·rw [if_pos h, if_pos h]
 ·rw [if_neg h, if_neg h, if_neg h]
theorem put_seg_ne {M : PMem} {k k' i : Nat} {os : List Obj} {o : Obj} (h : k ≠ k') : putM (seg M k' os) k i o = seg (putM M k i o) k' os := by
 funext a j
 unfold putM
 by_cases ha : a = k /\ j = i
 ·obtain ⟨rfl, rfl⟩ := ha
  rw [if_pos ⟨rfl, rfl⟩, seg_ne _ _ _ h, if_pos ⟨rfl, rfl⟩]
 ·rw [if_neg ha]
  by_cases hk : a = k'
  ·subst hk; rw [seg_same, seg_same]
  ·rw [seg_ne _ _ _ hk, seg_ne _ _ _ hk, if_neg ha]
def ghost : Obj := .grow 0 0
theorem PX.ghost {rd : Option (Nat × Nat)} {Q : AExit -> PSt -> Prop} {c : Code} (h : PX E P rd c ⟨tm, nt, k, os ++ [Pm.ghost], M⟩ Q) : PX E P rd c ⟨tm, nt, k, os, M⟩ Q := fun hc cx sA hs hr => by
 have hcur := hs.cur
 have hlow : k < cx.nk := hs.low
 have ht : cx.tk k os.length = none := (hcur os.length (Nat.le_refl _)).2
 have hle : CxLe cx (cx.setTk k os.length (none, 0, 0)) := by
  refine ⟨fun _ _ _ e => e, fun _ _ e => e, fun _ e => e, fun _ e => e, fun a i r n es e => ?_, Nat.le_refl _⟩
  refine ⟨r, n, es, ?_, .inl ⟨rfl, rfl, rfl⟩⟩
  simp only [Cx.setTk]
  rw [if_neg]
  ·exact e
  ·rintro ⟨rfl, rfl⟩; rw [ht] at e; cases e
 have hlook : ∀ (a i : Nat) (o : Obj), seg M k (os ++ [Pm.ghost]) a i = some o -> (a = k /\ i = os.length /\ o = Pm.ghost) \/ (seg M k os a i = some o /\ ¬ (a = k /\ i = os.length)) := fun a i o e => by
  by_cases ha : a = k
  ·subst ha
   rw [seg_same] at e
   rcases Nat.lt_trichotomy i os.length with hi | hi | hi
   ·rw [List.getElem?_append_left hi] at e
    exact .inr ⟨by rw [seg_same]; exact e, by omega⟩
   ·subst hi
    rw [List.getElem?_append_right (Nat.le_refl _), Nat.sub_self] at e
    cases e
    exact .inl ⟨rfl, rfl, rfl⟩
   ·rw [List.getElem?_eq_none (by simp; omega)] at e; cases e
  ·rw [seg_ne _ _ _ ha] at e
   exact .inr ⟨by rw [seg_ne _ _ _ ha]; exact e, fun x => ha x.1⟩
 have hps : PS E (cx.setTk k os.length (none, 0, 0)) ⟨tm, nt, k, os ++ [Pm.ghost], M⟩ sA := by
  refine ⟨fun i => (hs.tm i).mono hle, hs.nt, ?_, fun i hi => ?_, hlow, hs.pos, hs.df⟩
  ·have hpg := hs.pg
   refine ⟨fun a i o e => ?_, hpg.at_, fun a i o r e e' => ?_, hpg.im, hpg.mks, hpg.dd, fun a i ha => ?_, fun a i a' i' r n es n' es' e e' t t' => ?_, hpg.glob, hpg.wf, hpg.pos⟩
   ·rcases hlook a i o e with ⟨rfl, rfl, rfl⟩ | ⟨e, hne⟩
    ·exact ⟨none, by simp [Cx.setTk], by decide, rfl⟩
    ·refine OG.move hle (fun p hp => ⟨hp, .inl rfl⟩) rfl (fun _ _ => rfl) (fun _ => ?_) (fun _ _ _ _ _ => rfl) (hpg.obj a i o e)
     simp only [Cx.setTk]; rw [if_neg hne]
   ·rcases hlook a i o e with ⟨rfl, rfl, rfl⟩ | ⟨e, hne⟩
    ·exact .inr (.inr ⟨_, _, rfl⟩)
    ·exact hpg.nd _ _ _ _ e e'
   ·refine ⟨(hpg.keys a i ha).1, ?_⟩
    simp only [Cx.setTk]
    rw [if_neg (fun x => by have h1 : cx.nk <= a := ha; have h2 := x.1; omega)]
    exact (hpg.keys a i ha).2
   ·have key : ∀ {a i n es}, seg M k (os ++ [Pm.ghost]) a i = some (.grow n es) -> (cx.setTk k os.length (none, 0, 0)).tk a i = some (some r, n, es) -> seg M k os a i = some (.grow n es) /\ cx.tk a i = some (some r, n, es) := fun {a i n es} e t => by
     rcases hlook a i _ e with ⟨rfl, rfl, _⟩ | ⟨e, hne⟩
     ·simp [Cx.setTk] at t
     ·simp only [Cx.setTk] at t
      rw [if_neg hne] at t
      exact ⟨e, t⟩
    obtain ⟨x1, x2⟩ := key e t
    obtain ⟨y1, y2⟩ := key e' t'
    exact hpg.tkin _ _ _ _ _ _ _ _ _ x1 y1 x2 y2
  ·have hi' : os.length + 1 <= i := by simpa using hi
   refine ⟨(hcur i (show os.length <= i by omega)).1, ?_⟩
   simp only [Cx.setTk]
   rw [if_neg (fun x => by have := x.2; omega)]
   exact (hcur i (show os.length <= i by omega)).2
 obtain ⟨g1, g2⟩ := rdOf_mono hle hr
 obtain ⟨e, sA1, cx2, s1, h1, h2, h3, h4, h5, h6⟩ := h hc _ sA hps g2
 rw [g1] at h1
 have hext : Ext (some k) cx (cx.setTk k os.length (none, 0, 0)) := ⟨hle, fun a i ha hn => ⟨id, fun e => by
  simp only [Cx.setTk]
  rw [if_neg (fun x => hn (by rw [x.1]))]
  exact e⟩⟩
 exact ⟨e, sA1, cx2, s1, h1, h2, hext.trans h3, h4, h5, h6⟩
theorem RX.ghost {rd : Option (Nat × Nat)} {Q : AExit -> PSt -> Prop} {c : RC} (h : RX E P rd c ⟨tm, nt, k, os ++ [Pm.ghost], M⟩ Q) : RX E P rd c ⟨tm, nt, k, os, M⟩ Q := fun code e => PX.ghost (h code e)
theorem PT.enterG {nt : Nat} {res : List ResultVar} {body : Code} {c : RC} (hE : EnvOk E P) {R : PV -> PMem -> Prop} (hf : E.fn f = some ⟨nt, res, body⟩) (hle : args.length <= nt) (hc : comp E body = c)
  (h : ∀ k, 0 < k -> fresh M k -> wX E P none c ⟨argsP 0 args, nt, k, [Pm.ghost], M⟩ (ends E ⟨nt, res, body⟩ R)) : PT E P f args M R :=
 PT.enterR hE hf hle hc fun k hk hfr => RX.ghost (os := []) (RX.of hE (h k hk hfr))
end
end Go.Pm
namespace Go.Pm
open Go.RowKit Go.Am
mutual
inductive NK (k : Nat) : PV -> Prop where
 | v (x : Value) : NK k (.v x)
 | junk : NK k .junk
 | lst {t : Tok} {es n : Nat} {cs : List PV} (ht : ∀ i, t ≠ .id k i) (hs : NKs k cs) : NK k (.lst t es n cs)
 | dp {cs : List PV} {o : Nat} (hs : NKs k cs) : NK k (.dp cs o)
 | ptr {a i o : Nat} (ha : a ≠ k) : NK k (.ptr a i o)
 | sl {a i o n c : Nat} (ha : a ≠ k) : NK k (.sl a i o n c)
 | agg {cs : List PV} (hs : NKs k cs) : NK k (.agg cs)
 | tup {cs : List PV} (hs : NKs k cs) : NK k (.tup cs)
 | fn {f : Nat} {a b : List PV} (h1 : NKs k a) (h2 : NKs k b) : NK k (.fn f a b)
 | yld {a i : Nat} (ha : a ≠ k) : NK k (.yld a i)
 | iface {t : Nat} {x : PV} (h : NK k x) : NK k (.iface t x)
inductive NKs (k : Nat) : List PV -> Prop where
 | nil : NKs k []
 | cons {x : PV} {l : List PV} (h : NK k x) (hs : NKs k l) : NKs k (x :: l)
end
section
variable {cx cx1 cx2 : Cx} {k : Nat}
mutual
theorem PR.nk (hk : ∀ i, cx.at_ k i = none /\ cx.tk k i = none) : ∀ {x : PV} {v : Value}, PR cx x v -> NK k x
 | _, _, .v _ => .v _
 | _, _, .junk _ => .junk
 | _, _, .l0 _ _ _ _ => .lst (fun _ e => by cases e) .nil
 | _, _, .f0 _ _ => .lst (fun _ e => by cases e) .nil
 | _, _, .lno _ _ hs _ _ _ => .lst (fun _ e => by cases e) (PRs.nk hk hs)
 | _, _, .lfull _ _ hs _ => .lst (fun _ e => by cases e) (PRs.nk hk hs)
 | _, _, .ltok h ht _ _ => by
  cases PR.nk hk h with
  | lst _ hs => exact .lst (fun i e => by cases e; rw [(hk _).2] at ht; cases ht) hs
 | _, _, .dp _ _ hs => .dp (PRs.nk hk hs)
 | _, _, .ptr e => .ptr fun h => by subst h; rw [(hk _).1] at e; cases e
 | _, _, .sl e => .sl fun h => by subst h; rw [(hk _).1] at e; cases e
 | _, _, .agg h => .agg (PRs.nk hk h)
 | _, _, .tup h => .tup (PRs.nk hk h)
 | _, _, .fn h1 h2 => .fn (PRs.nk hk h1) (PRs.nk hk h2)
 | _, _, .yld e => .yld fun h => by subst h; rw [(hk _).1] at e; cases e
 | _, _, .iface h => .iface (PR.nk hk h)
theorem PRs.nk (hk : ∀ i, cx.at_ k i = none /\ cx.tk k i = none) : ∀ {l : List PV} {l' : List Value}, PRs cx l l' -> NKs k l
 | _, _, .nil => .nil
 | _, _, .cons h hs => .cons (PR.nk hk h) (PRs.nk hk hs)
end
structure CxBut (k : Nat) (cx1 cx2 : Cx) : Prop where
 at_ : ∀ a i, a ≠ k -> cx2.at_ a i = cx1.at_ a i
 tk : ∀ a i, a ≠ k -> cx2.tk a i = cx1.tk a i
 im : ∀ r cells, cx1.role r = .im cells -> cx2.role r = .im cells
mutual
theorem PR.but (hc : CxBut k cx1 cx2) : ∀ {x : PV} {v : Value}, PR cx1 x v -> NK k x -> PR cx2 x v
 | _, _, .v h, _ => .v h
 | _, _, .junk _, _ => .junk _
 | _, _, .l0 es a c he, _ => .l0 es a c he
 | _, _, .f0 es a, _ => .f0 es a
 | _, _, .lno hr hl hs hn hq he, .lst _ h => .lno (hc.im _ _ hr) hl (PRs.but hc hs h) hn hq he
 | _, _, .lfull hr hl hs hn, .lst _ h => .lfull (hc.im _ _ hr) hl (PRs.but hc hs h) hn
 | _, _, .ltok (k := a) (i := i) h ht hn he, .lst ht' h' => by
  have ha : a ≠ k := fun e => by subst e; exact ht' i rfl
  exact .ltok (PR.but hc h (.lst (fun _ e => by cases e) h')) (by rw [hc.tk _ _ ha]; exact ht) hn he
 | _, _, .dp hr hl hs, .dp h => .dp (hc.im _ _ hr) hl (PRs.but hc hs h)
 | _, _, .ptr e, .ptr ha => .ptr (by rw [hc.at_ _ _ ha]; exact e)
 | _, _, .sl e, .sl ha => .sl (by rw [hc.at_ _ _ ha]; exact e)
 | _, _, .agg h, .agg h' => .agg (PRs.but hc h h')
 | _, _, .tup h, .tup h' => .tup (PRs.but hc h h')
 | _, _, .fn h1 h2, .fn g1 g2 => .fn (PRs.but hc h1 g1) (PRs.but hc h2 g2)
 | _, _, .yld e, .yld ha => .yld (by rw [hc.at_ _ _ ha]; exact e)
 | _, _, .iface h, .iface h' => .iface (PR.but hc h h')
theorem PRs.but (hc : CxBut k cx1 cx2) : ∀ {l : List PV} {l' : List Value}, PRs cx1 l l' -> NKs k l -> PRs cx2 l l'
 | _, _, .nil, _ => .nil
 | _, _, .cons h hs, .cons g gs => .cons (PR.but hc h g) (PRs.but hc hs gs)
end
end
section
variable {E : Env} {P : Program} {f : Nat} {args : List PV} {M : PMem}
mutual
inductive FZ (k j es : Nat) (cells : List PV) : PV -> PV -> Prop where
 | here {n c : Nat} (hl : n * es <= cells.length) (hc : n <= capOf c) (he : c % 2 = 0 \/ esOf c = es) : FZ k j es cells (.sl k j 0 n c) (.lst .no es n (cells.take (n * es)))
 | keep {x : PV} (h : NK k x) : FZ k j es cells x x
 | tup {l l' : List PV} (h : FZs k j es cells l l') : FZ k j es cells (.tup l) (.tup l')
inductive FZs (k j es : Nat) (cells : List PV) : List PV -> List PV -> Prop where
 | nil : FZs k j es cells [] []
 | cons {x y : PV} {l l' : List PV} (h : FZ k j es cells x y) (hs : FZs k j es cells l l') : FZs k j es cells (x :: l) (y :: l')
end
mutual
theorem FZ.sim {cx1 cx2 : Cx} {k j es r : Nat} {cells : List PV} {vs : List Value} (hc : CxBut k cx1 cx2) (hr : cx2.role r = .im vs) (ha : cx1.at_ k j = some r) (hp : PRs cx2 cells vs) : ∀ {x y : PV} {v : Value}, FZ k j es cells x y -> PR cx1 x v -> PR cx2 y v
 | _, _, _, .here (n := n) hl hcap he, .sl e => by
  rw [ha] at e; cases e
  have hlen := hp.length
  have h1 : (cells.take (n * es)).length = n * es := by rw [List.length_take, Nat.min_eq_left hl]
  refine .lno hr (by rw [h1]; omega) ?_ h1 hcap he
  rw [h1, List.drop_zero]
  exact hp.take _
 | _, _, _, .keep h, hx => PR.but hc hx h
 | _, _, _, .tup h, .tup hx => .tup (FZs.sim hc hr ha hp h hx)
theorem FZs.sim {cx1 cx2 : Cx} {k j es r : Nat} {cells : List PV} {vs : List Value} (hc : CxBut k cx1 cx2) (hr : cx2.role r = .im vs) (ha : cx1.at_ k j = some r) (hp : PRs cx2 cells vs) : ∀ {l l' : List PV} {ws : List Value}, FZs k j es cells l l' -> PRs cx1 l ws -> PRs cx2 l' ws
 | _, _, _, .nil, .nil => .nil
 | _, _, _, .cons h hs, .cons g gs => .cons (FZ.sim hc hr ha hp h g) (FZs.sim hc hr ha hp hs gs)
end
theorem PT.freezeOr {Q : PV -> PMem -> Prop} (h : PTk E P f args M (fun nk x M1 => (∃ k j es w cells y, nk <= k /\ MLe M1 (putM M k j (.row w es cells)) /\ NKs k cells /\ FZ k j es cells x y /\ Q y M) \/ ∃ y, MLe M1 M /\ PLe x y /\ Q y M)) : PT E P f args M Q := fun cx m vargs hg ha => by
 obtain ⟨v, m1, cx1, x, M1, h1, h2, h3, h4, h5⟩ := h cx m vargs hg ha
 rcases h5 with ⟨k, j, es, w, cells, y, hk, hM, hnk, hfz, hq⟩ | ⟨y, hM, hle, hq⟩
 rotate_left
 ·exact ⟨v, m1, cx1, y, M, h1, h2.weak hM, h3, hle _ _ h4, hq⟩
 have hfr : ∀ i, cx.at_ k i = none /\ cx.tk k i = none := fun i => hg.keys k i hk
 have hbare := hg.bare hk
 have hw := h2.weak hM
 have hrow : putM M k j (.row w es cells) k j = some (.row w es cells) := putM_same _ _ _ _
 obtain ⟨r, vs, md, q, e1, e2, e3, _, _⟩ := hw.obj k j _ hrow
 have hrs := (hw.at_ _ _ _ e1).1
 have hrole := hw.role hrow nofun nofun e1
 have hlook : ∀ {a i o}, M a i = some o -> a ≠ k /\ putM M k j (.row w es cells) a i = some o := fun {a i o} e => by
  have hak : a ≠ k := fun e' => by subst e'; rw [hbare i] at e; cases e
  refine ⟨hak, ?_⟩
  unfold putM
  rw [if_neg (fun x => hak x.1)]; exact e
 let cx2 : Cx := { cx1 with at_ := fun a b => if a = k /\ b = j then none else cx1.at_ a b, role := fun r' => if r' = r then .im vs else cx1.role r' }
 have hrim : ∀ {r' cs}, cx1.role r' = .im cs -> r' ≠ r := fun {r' cs} e e' => by subst e'; rw [hrole] at e; cases e
 have hbut : CxBut k cx1 cx2 := ⟨fun a i hak => if_neg (fun x => hak x.1), fun _ _ _ => rfl, fun r' cs e => by
  show (if r' = r then Role.im vs else cx1.role r') = _
  rw [if_neg (hrim e)]; exact e⟩
 have hrole2 : cx2.role r = .im vs := if_pos rfl
 have hdd : DD cx1 cx2 m1 m1 := fun p hp => ⟨by
  show (if p = r then Role.im vs else cx1.role p) = _
  rw [if_neg (fun e' => by subst e'; rw [hrole] at hp; cases hp)]; exact hp, .inl rfl⟩
 have hcells : PRs cx2 cells vs := PRs.but hbut e3 hnk
 have hkpos : 0 < k := Nat.lt_of_lt_of_le hg.pos hk
 refine ⟨v, m1, cx2, y, M, h1, ?_, ?_, FZ.sim hbut hrole2 e1 hcells hfz h4, hq⟩
 ·refine ⟨fun a i o e => ?_, fun a i r' e => ?_, fun a i o r' eM e => ?_, fun r' cs e => ?_, fun r' e => ?_, fun r' e => ?_, fun a i ha' => ?_, fun a i a' i' r' n es n' es' e e' t t' => ?_, fun g hgl => ?_, hw.wf, hw.pos⟩
  ·obtain ⟨hak, e'⟩ := hlook e
   have old := hg.obj a i o e
   have new := hw.obj a i o e'
   have hat : cx2.at_ a i = cx1.at_ a i := if_neg (fun x => hak x.1)
   cases o with
   | row w' es' cs =>
    obtain ⟨_, vs0, _, _, _, _, o3, _⟩ := old
    obtain ⟨r1, vs1, md1, q1, n1, n2, n3, n4, n5⟩ := new
    refine ⟨r1, vs1, md1, q1, by rw [hat]; exact n1, n2, PRs.but hbut n3 (PRs.nk hfr o3), fun hw' => ⟨(n4 hw').1, ?_⟩, n5⟩
    have := (n4 hw').2
    cases w' with
    | own => exact ⟨this.1, this.2.move hdd (Nat.le_refl _)⟩
    | _ => exact this
   | str w' st pos =>
    obtain ⟨r1, n1, n2, n3⟩ := new
    exact ⟨r1, by rw [hat]; exact n1, n2, n3⟩
   | loop w' st pend tm nt ps asg body =>
    obtain ⟨_, tm0, _, _, _, o3, _⟩ := old
    obtain ⟨r1, tmA, D, n1, n2, n3, n4⟩ := new
    exact ⟨r1, tmA, D, by rw [hat]; exact n1, n2, fun j' => PR.but hbut (n3 j') (PR.nk hfr (o3 j')), n4⟩
   | grow n es' =>
    obtain ⟨ro, n1, n2, n3⟩ := new
    refine ⟨ro, n1, n2, ?_⟩
    cases ro with
    | none => exact n3
    | some r1 =>
     obtain ⟨vs1, q1, g1, g2, g3⟩ := n3
     exact ⟨vs1, q1, g1, hbut.im _ _ g2, g3⟩
   | gone => exact new
  ·have e' : (if a = k /\ i = j then none else cx1.at_ a i) = some r' := e
   split at e'
   ·cases e'
   ·rename_i hne
    obtain ⟨g1, g2⟩ := hw.at_ _ _ _ e'
    refine ⟨g1, ?_⟩
    show (if r' = r then Role.im vs else cx1.role r') = _ \/ (if r' = r then Role.im vs else cx1.role r') = _
    rw [if_neg]
    ·exact g2
    ·intro hr'
     subst hr'
     rw [hrole] at g2
     rcases g2 with g2 | g2
     ·cases g2
      exact hne ⟨rfl, rfl⟩
     ·cases g2
  ·obtain ⟨hak, e'⟩ := hlook eM
   have e2' : (if a = k /\ i = j then none else cx1.at_ a i) = some r' := e
   rw [if_neg (fun x => hak x.1)] at e2'
   rcases hw.nd a i o r' e' e2' with h9 | h9
   ·refine .inl ?_
    show (if r' = r then Role.im vs else cx1.role r') = _
    rw [if_neg]
    ·exact h9
    ·intro hr'
     subst hr'
     rw [hrole] at h9
     cases h9
     exact hak rfl
   ·exact .inr h9
  ·have e' : (if r' = r then Role.im vs else cx1.role r') = .im cs := e
   split at e'
   ·rename_i hr'
    subst hr'
    cases e'
    exact ⟨hrs, md, es, q, e2⟩
   ·exact hw.im _ _ e'
  ·have e' : (if r' = r then Role.im vs else cx1.role r') = .mk := e
   split at e'
   ·cases e'
   ·exact hw.mks _ e'
  ·have e' : (if r' = r then Role.im vs else cx1.role r') = .dead := e
   split at e'
   ·cases e'
   ·exact hw.dd _ e'
  ·refine ⟨?_, (hw.keys a i ha').2⟩
   show (if a = k /\ i = j then none else cx1.at_ a i) = none
   split
   ·rfl
   ·exact (hw.keys a i ha').1
  ·exact hw.tkin _ _ _ _ _ _ _ _ _ (hlook e).2 (hlook e').2 t t'
  ·show (if 0 = k /\ g = j then none else cx1.at_ 0 g) = _
   rw [if_neg (fun x => by omega)]
   exact hw.glob g hgl
 ·refine ⟨⟨fun a i r' e => ?_, fun r' cs e => hbut.im _ _ (h3.le.im _ _ e), fun r' e => ?_, fun r' e => (hdd _ (h3.le.dd _ e)).1, h3.le.tk, h3.le.nk⟩, fun a i ha' hc => ⟨fun e => ?_, fun e => (h3.names a i ha' hc).2 e⟩⟩
  ·show (if a = k /\ i = j then none else cx1.at_ a i) = _
   rw [if_neg]
   ·exact h3.le.at_ _ _ _ e
   ·rintro ⟨rfl, rfl⟩
    rw [(hfr _).1] at e; cases e
  ·have := h3.le.mks _ e
   show (if r' = r then Role.im vs else cx1.role r') = _
   rw [if_neg]
   ·exact this
   ·intro e'; subst e'; rw [hrole] at this; cases this
  ·show (if a = k /\ i = j then none else cx1.at_ a i) = none
   split
   ·rfl
   ·exact (h3.names a i ha' hc).1 e
theorem PT.freeze {Q : PV -> PMem -> Prop} (h : PTk E P f args M (fun nk x M1 => ∃ k j es w cells y, nk <= k /\ MLe M1 (putM M k j (.row w es cells)) /\ NKs k cells /\ FZ k j es cells x y /\ Q y M)) : PT E P f args M Q := PT.freezeOr (h.mono fun _ _ _ h => .inl h)
end
end Go.Pm