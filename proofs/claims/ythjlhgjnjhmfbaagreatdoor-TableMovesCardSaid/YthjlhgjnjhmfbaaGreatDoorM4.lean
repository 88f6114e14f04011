/- TableMoves holds. Part 4 of 29; no condition. -/
import Derived.Test.YthjlhgjnjhmfbaaGreatDoorM3
set_option linter.unusedVariables false
set_option linter.unusedSimpArgs false
noncomputable section
namespace Go.Pm
open Go.RowKit Go.Am
section
variable {E : Env} {P : Program} {cx cx' : Cx} {s s' : PSt} {sA : St} {m m' : Mem} {M M' : PMem}
def psourceZ (E : Env) (s : PSt) (e : Nat) (z : List PV) (size : Nat) (t2 : Option Nat) (y : PV) : Option (List PV × Nat) :=
 match t2 with
 | none => none
 | some u => match E.ty u with
  | none => none
  | some yu => match zerosD yu.desc with
   | none => none
   | some false => psource s size y
   | some true => match pnat? y with
    | some k => match E.ty e with
     | some ye => if k <= 1048576 /\ z.length = size /\ ye.bytes * k <= 281474976710656 then some ((List.replicate k z).flatten, k) else none
     | none => none
    | none => none
def pgrow (s : PSt) (sz by_ zl k : Nat) (new : List PV) (a b o n c : Nat) : Option (PV × PSt) :=
 if c % 2 = 1 /\ esOf c = sz /\ o = 0 /\ k ≠ 0 /\ (2 * (n + k) + 2000) * by_ <= 281474976710656 /\ n + k <= 4611686018427387904 /\ sz < 4096 /\ zl = sz /\ new.all pone = true then
  match s.look a b with
  | some (.row .rw es cells) => if es = sz /\ n * sz = cells.length /\ n ≠ 0 then
    some (.sl s.k s.os.length 0 (n + k) (loCap (n + k) sz), { s.putO a b .gone with os := (s.putO a b .gone).os ++ [.row .own sz (cells ++ new)] })
   else none
  | some (.row .own es cells) => if es = sz /\ n * sz = cells.length /\ n ≠ 0 then
    some (.sl s.k s.os.length 0 (n + k) (loCap (n + k) sz), { s.putO a b .gone with os := (s.putO a b .gone).os ++ [.row .own sz (cells ++ new)] })
   else none
  | _ => none
 else none
def pappendR (E : Env) (s : PSt) (t : Nat) (t2 : Option Nat) (x y : PV) : Option (PV × PSt) :=
 match E.ty t with
 | none => none
 | some yt => match yt.desc with
  | .slice e => match E.ty e, pzero E e with
   | some ye, some z => match psourceZ E s e z ye.size t2 y with
    | none => none
    | some (new, k) => match x with
     | .lst .full es n cs =>
      if k ≠ 0 /\ (n = 0 \/ es = ye.size) /\ (2 * (n + k) + 2000) * ye.bytes <= 281474976710656 /\ n + k <= 4611686018427387904 /\ ye.size < 4096 /\ z.length = ye.size /\ new.all pone = true then
       some (.sl s.k s.os.length 0 (n + k) (loCap (n + k) ye.size), { s with os := s.os ++ [.row .rw ye.size (cs ++ new)] })
      else none
     | .sl a b o n c =>
      if k = 0 /\ n <= capOf c then some (.sl a b o n c, s)
      else if n + k <= capOf c then
       match s.look a b with
       | some (.row .rw es cells) => if o + n * ye.size + new.length <= cells.length /\ new.all pone = true then some (.sl a b o (n + k) c, s.putO a b (.row .rw es (psplice cells (o + n * ye.size) new))) else none
       | _ => none
      else pgrow s ye.size ye.bytes z.length k new a b o n c
     | _ => none
   | _, _ => none
  | _ => none
theorem flat_len (z : List PV) : ∀ k : Nat, (List.replicate k z).flatten.length = k * z.length
 | 0 => by simp
 | k + 1 => by rw [List.replicate_succ, List.flatten_cons, List.length_append, flat_len z k, Nat.succ_mul, Nat.add_comm]
theorem psourceZ_sim (hE : EnvOk E P) (h : PG E cx s.mem m) {e size k : Nat} {z new : List PV} {zv : List Value} {t2 : Option Nat} {y : PV} {v : Value} (hz : zeroOf E e = some zv) (hzr : PRs cx z zv) (hy : PR cx y v) (hp : psourceZ E s e z size t2 y = some (new, k)) :
  ∃ u yu zb vs, t2 = some u /\ E.ty u = some yu /\ zerosD yu.desc = some zb /\ sourceV E m size zb e v = some (vs, k) /\ PRs cx new vs /\ vs.length = k * size := by
 unfold psourceZ at hp
 split at hp
 ·cases hp
 ·rename_i u
  split at hp
  ·cases hp
  ·rename_i yu hu
   split at hp
   ·cases hp
   ·rename_i hd
    obtain ⟨vs, h1, h2, h3⟩ := psource_sim (e := e) h hy hp
    exact ⟨u, yu, false, vs, rfl, hu, hd, h1, h2, h3⟩
   ·rename_i hd
    split at hp
    ·rename_i k' hk
     split at hp
     ·rename_i ye hye
      split at hp
      ·rename_i hc
       obtain ⟨c1, c2, c3⟩ := hc
       cases hp
       have hl := hzr.length
       refine ⟨u, yu, true, repeatCells zv k, rfl, hu, hd, ?_, repeat_sim hzr k, ?_⟩
       ·unfold sourceV
        simp only [pnat_sim hy hk, hz, hye, bleT c1, natBeqT (show zv.length = size by omega), bleT c3, Bool.and_self, cond_true]
       ·rw [<- (repeat_sim hzr k).length, flat_len, c2]
      ·cases hp
     ·cases hp
    ·cases hp
theorem after_own (h : PS E cx s sA) {a b r es c n : Nat} {cells new : List PV} {vs nv : List Value} {w : Wm} {q : Option Nat} (hM : s.look a b = some (.row w es cells)) (ha : cx.at_ a b = some r) (hg : sA.m.get r = some (.row vs .rw es q)) (hsh : Shade cx sA.m r q) (hbar : sA.m.bar <= r) (hs : PRs cx new nv) :
  After E cx s sA (.sl s.k s.os.length 0 n c) { s.putO a b .gone with os := (s.putO a b .gone).os ++ [.row .own es new] } (.slice (some ⟨sA.m.size, 0, none⟩) n c) ((sA.m.upd r (some (.row vs .cl es q))).new (.row nv .rw es (some r))) := by
 obtain ⟨c1, c2⟩ := h.cur s.os.length (Nat.le_refl _)
 have hrole := h.pg.role hM nofun nofun ha
 obtain ⟨p1, p2, p3, p5⟩ := PSt.putO_tm (s := s) (k := a) (i := b) (o := .gone)
 have hrs := (h.pg.at_ _ _ _ ha).1
 have hnbr : sA.m.nb <= r := Nat.le_trans h.pg.wf.nb hbar
 have hak : a < cx.nk := by
  rcases Nat.lt_or_ge a cx.nk with h1 | h1
  ·exact h1
  ·rw [(h.pg.keys a b h1).1] at ha; cases ha
 have hwf1 : Wf (sA.m.upd r (some (.row vs .cl es q))) := h.pg.wf.keep (Keep.upd h.pg.wf hbar _)
 have hsz1 : (sA.m.upd r (some (.row vs .cl es q))).size = sA.m.size := by rw [Mem.upd_def]
 have hbr1 : (sA.m.upd r (some (.row vs .cl es q))).bar = sA.m.bar := by rw [Mem.upd_def]
 have hnb1 : (sA.m.upd r (some (.row vs .cl es q))).nb <= (sA.m.upd r (some (.row vs .cl es q))).size := Nat.le_trans hwf1.nb hwf1.bar
 have hgr : ∀ r', r' < sA.m.size -> r' ≠ r -> ((sA.m.upd r (some (.row vs .cl es q))).new (.row nv .rw es (some r))).get r' = sA.m.get r' := fun r' h1 h2 => by
  rw [new_get hnb1 _ (by rw [hsz1]; exact h1)]; exact Mem.get_upd_ne hnbr h2 _
 have hgo : ((sA.m.upd r (some (.row vs .cl es q))).new (.row nv .rw es (some r))).get r = some (.row vs .cl es q) := by
  rw [new_get hnb1 _ (by rw [hsz1]; exact hrs)]; exact Mem.get_upd_same hnbr _
 let cx' : Cx := { cx with at_ := fun k' i' => if k' = s.k /\ i' = s.os.length then some sA.m.size else cx.at_ k' i', role := fun r' => if r' = sA.m.size then .ob s.k s.os.length else if r' = r then .dead else cx.role r' }
 have hro : ∀ r', r' < sA.m.size -> r' ≠ r -> cx'.role r' = cx.role r' := fun r' h1 h2 => by
  show (if r' = sA.m.size then _ else if r' = r then _ else cx.role r') = _
  rw [if_neg (by omega), if_neg h2]
 have hror : cx'.role r = .dead := by
  show (if r = sA.m.size then _ else if r = r then _ else cx.role r) = _
  rw [if_neg (by omega), if_pos rfl]
 have hat : ∀ k' i', ¬ (k' = s.k /\ i' = s.os.length) -> cx'.at_ k' i' = cx.at_ k' i' := fun k' i' hc => if_neg hc
 have hat0 : cx'.at_ s.k s.os.length = some sA.m.size := if_pos ⟨rfl, rfl⟩
 have hle : CxLe cx cx' := by
  refine ⟨fun k' i' r' e => ?_, fun r' cs e => ?_, fun r' e => ?_, fun r' e => ?_, fun k' i' r' n' es' e => ⟨r', n', es', e, .inl ⟨rfl, rfl, rfl⟩⟩, Nat.le_refl _⟩
  ·rw [hat]
   ·exact e
   ·rintro ⟨rfl, rfl⟩; rw [c1] at e; cases e
  ·rw [hro r' (h.pg.im _ _ e).1 (fun hr => by subst hr; rw [hrole] at e; cases e)]; exact e
  ·rw [hro r' (h.pg.mks _ e).1 (fun hr => by subst hr; rw [hrole] at e; cases e)]; exact e
  ·rw [hro r' (h.pg.dd _ e) (fun hr => by subst hr; rw [hrole] at e; cases e)]; exact e
 have hdd : DD cx cx' sA.m ((sA.m.upd r (some (.row vs .cl es q))).new (.row nv .rw es (some r))) := fun p hp => ⟨hle.dd _ hp, .inl (hgr p (h.pg.dd _ hp) (fun hr => by subst hr; rw [hrole] at hp; cases hp))⟩
 have hne : ∀ {k' i' r'}, cx.at_ k' i' = some r' -> ¬ (k' = a /\ i' = b) -> r' ≠ r := fun {k' i' r'} e hc hr => by
  subst hr
  rcases (h.pg.at_ _ _ _ e).2 with h1 | h1
  ·exact hc (ob_inj h1 hrole)
  ·rw [hrole] at h1; cases h1
 have emem : ({ s.putO a b .gone with os := (s.putO a b .gone).os ++ [.row .own es new] } : PSt).mem = putM (putM s.mem a b .gone) s.k s.os.length (.row .own es new) := by
  have h1 : ({ s.putO a b .gone with os := (s.putO a b .gone).os ++ [.row .own es new] } : PSt).mem = putM (s.putO a b .gone).mem (s.putO a b .gone).k (s.putO a b .gone).os.length (.row .own es new) := putM_seg
  rw [h1, PSt.putO_mem hM, p3, p5]
 refine ⟨⟨cx', .sl hat0, ⟨hle, fun k' i' hk hc => ⟨fun e => ?_, fun e => e⟩⟩, ?_⟩, p1, p2, p3⟩
 ·rw [hat _ _ (fun x => hc (by rw [x.1]))]; exact e
 ·refine ⟨fun i => by show PR cx' (tget (s.putO a b .gone).tm i) _; rw [p1]; exact (h.tm i).mono hle, by show sA.nt = (s.putO a b .gone).nt; rw [p2]; exact h.nt, ?_, fun i hi => ?_, by show (s.putO a b .gone).k < cx.nk; rw [p3]; exact h.low, by show 0 < (s.putO a b .gone).k; rw [p3]; exact h.pos, ⟨h.df.1, fun r' hr => ⟨hle.mks _ (h.df.2 r' hr).1, by rw [new_bar, hbr1]; exact (h.df.2 r' hr).2⟩⟩⟩
  ·rw [emem]
   refine ⟨fun k' i' o' e => ?_, fun k' i' r' e => ?_, fun k' i' o' r' hMo e => ?_, fun r' cs e => ?_, fun r' e => ?_, fun r' e => ?_, fun k' i' e => ?_, fun k1 i1 k2 i2 r' n1 es1 n2 es2 e1 e2 e3 e4 => ?_, fun g hg => ?_, new_wf hwf1 _, h.pg.pos⟩
   ·by_cases hc : k' = s.k /\ i' = s.os.length
    ·obtain ⟨rfl, rfl⟩ := hc
     unfold putM at e
     rw [if_pos ⟨rfl, rfl⟩] at e
     cases e
     refine ⟨sA.m.size, nv, .rw, some r, hat0, by rw [<- hsz1]; exact Mem.get_new_same hnb1 _, hs.mono hle, fun _ => ⟨rfl, by rw [new_bar, hbr1]; exact h.pg.wf.bar, .more hrs hror (by rw [new_bar, hbr1]; exact hbar) hgo (hsh.move hdd (by rw [new_bar, hbr1]; exact Nat.le_refl _))⟩, fun e => by cases e⟩
    ·by_cases hc2 : k' = a /\ i' = b
     ·obtain ⟨rfl, rfl⟩ := hc2
      unfold putM at e
      rw [if_neg hc, if_pos ⟨rfl, rfl⟩] at e
      cases e
      exact hak
     ·unfold putM at e
      rw [if_neg hc, if_neg hc2] at e
      refine (h.pg.obj k' i' o' e).move hle hdd (by rw [new_bar, hbr1]) (fun r' e1 => hgr r' (h.pg.at_ _ _ _ e1).1 (hne e1 hc2)) (fun _ => rfl) (fun r' n es e1 e2 => ?_)
      subst e1
      obtain ⟨_, _, _, h2, _⟩ := h.pg.tk_im e e2
      exact hgr r' (h.pg.im _ _ h2).1 (fun hr => by subst hr; rw [hrole] at h2; cases h2)
   ·rw [new_size, hsz1]
    by_cases hc : k' = s.k /\ i' = s.os.length
    ·obtain ⟨rfl, rfl⟩ := hc
     rw [hat0] at e; cases e
     exact ⟨by omega, .inl (if_pos rfl)⟩
    ·rw [hat _ _ hc] at e
     have h1 := h.pg.at_ _ _ _ e
     refine ⟨by omega, ?_⟩
     by_cases hr : r' = r
     ·subst hr; exact .inr hror
     ·rw [hro r' h1.1 hr]; exact h1.2
   ·by_cases hc : k' = s.k /\ i' = s.os.length
    ·obtain ⟨rfl, rfl⟩ := hc
     rw [hat0] at e; cases e
     exact .inl (if_pos rfl)
    ·rw [hat _ _ hc] at e
     unfold putM at hMo
     rw [if_neg hc] at hMo
     by_cases hc2 : k' = a /\ i' = b
     ·obtain ⟨rfl, rfl⟩ := hc2
      rw [if_pos ⟨rfl, rfl⟩] at hMo
      cases hMo; exact .inr (.inl rfl)
     ·rw [if_neg hc2] at hMo
      rw [hro r' (h.pg.at_ _ _ _ e).1 (hne e hc2)]
      exact h.pg.nd _ _ _ _ hMo e
   ·have e' : (if r' = sA.m.size then Role.ob s.k s.os.length else if r' = r then .dead else cx.role r') = .im cs := e
    rw [new_size, hsz1]
    split at e'
    ·cases e'
    ·split at e'
     ·cases e'
     ·rename_i hr
      obtain ⟨h1, md, es', q, h2⟩ := h.pg.im _ _ e'
      exact ⟨by omega, md, es', q, by rw [hgr r' h1 hr]; exact h2⟩
   ·have e' : (if r' = sA.m.size then Role.ob s.k s.os.length else if r' = r then .dead else cx.role r') = .mk := e
    rw [new_size, hsz1]
    split at e'
    ·cases e'
    ·split at e'
     ·cases e'
     ·rename_i hr
      obtain ⟨h1, h2⟩ := h.pg.mks _ e'
      exact ⟨by omega, by rw [hgr r' h1 hr]; exact h2⟩
   ·have e' : (if r' = sA.m.size then Role.ob s.k s.os.length else if r' = r then .dead else cx.role r') = .dead := e
    rw [new_size, hsz1]
    split at e'
    ·cases e'
    ·split at e'
     ·rename_i hr; omega
     ·have := h.pg.dd _ e'; omega
   ·have e' : cx.nk <= k' := e
    have := h.pg.keys k' i' e'
    have hlow := h.low
    rw [hat _ _ (by omega)]
    exact this
   ·have key : ∀ {k i n' es'}, putM (putM s.mem a b .gone) s.k s.os.length (.row .own es new) k i = some (.grow n' es') -> s.mem k i = some (.grow n' es') := fun {k i n' es'} x => by
     unfold putM at x
     split at x
     ·cases x
     ·split at x
      ·cases x
      ·exact x
    exact h.pg.tkin _ _ _ _ _ _ _ _ _ (key e1) (key e2) e3 e4
   ·rw [hat _ _ (fun x => by have := h.pos; omega)]
    exact h.pg.glob g hg
  ·have hi' : s.os.length + 1 <= i := by
    have h1 : ((s.putO a b .gone).os ++ [Obj.row .own es new]).length <= i := hi
    rw [List.length_append, p5] at h1
    exact h1
   have hcur := h.cur i (by omega)
   show cx'.at_ (s.putO a b .gone).k i = none /\ cx.tk (s.putO a b .gone).k i = none
   rw [p3, hat _ _ (fun x => by have := x.2; omega)]
   exact hcur
theorem pappendR_sim (hE : EnvOk E P) (h : PS E cx s sA) {t : Nat} {t2 : Option Nat} {x y z : PV} {vx vy : Value} (hx : PR cx x vx) (hy : PR cx y vy) (hp : pappendR E s t t2 x y = some (z, s')) :
  ∃ v m', appendV E sA.m t t2 vx vy = some (v, m') /\ After E cx s sA z s' v m' := by
 unfold pappendR at hp
 split at hp
 ·cases hp
 ·rename_i yt hyt
  split at hp
  ·rename_i e hd
   split at hp
   ·rename_i ye zz hye hzz
    obtain ⟨zv, hzv, hzr⟩ := pzero_sim hE hzz (cx := cx)
    split at hp
    ·cases hp
    ·rename_i new k hsrc
     obtain ⟨u2, yu2, zb, nv, rfl, hu2, hz, hnv, hnr, hnl⟩ := psourceZ_sim hE h.pg hzv hzr hy hsrc
     have hA : ∀ (a : Option Addr) (n c : Nat), appendV E sA.m t (some u2) (.slice a n c) vy =
       (bif Nat.ble (n + k) (capOf c) then
        match a with
        | none => bif Nat.beq k 0 then some (.slice none n c, sA.m) else none
        | some a => bif Nat.beq k 0 then some (.slice (some a) n c, sA.m) else
         (sA.m.storeCells (addOff a (n * ye.size)) nv).map fun m1 => (.slice (some a) (n + k) c, m1)
       else bif !(Nat.ble ((2 * (n + k) + 2000) * ye.bytes) 281474976710656 && Nat.ble (n + k) 4611686018427387904 && Nat.blt ye.size 4096) then none else
       match headV sA.m ye.size a n with
       | some old =>
        bif !(Nat.beq zv.length ye.size && allOne nv) then none else
        bif Nat.beq (c % 2) 0 then
         match Am.newRow sA.m (old ++ nv) ye.size with
         | (b, m1) => some (.slice (some b) (n + k) (loCap (n + k) ye.size), m1)
        else
         match a with
         | none => none
         | some a => match sA.m.get a.block with
          | some (.row cs .rw es prev) =>
           bif Nat.beq (esOf c) ye.size && Nat.beq es ye.size && Nat.beq (a.off + n * ye.size) cs.length then
            let m1 := sA.m.upd a.block (some (.row cs .cl es prev))
            some (.slice (some (addr m1.size 0)) (n + k) (loCap (n + k) ye.size), m1.new (.row (old ++ nv) .rw es (some a.block)))
           else none
          | _ => none
       | none => none) := fun a n c => by
      unfold appendV
      simp only [hyt, hd, hye, hu2, hz, hnv, hzv]
      cases headV sA.m ye.size a n <;> rfl
     split at hp
     ·rename_i es n cs
      obtain ⟨a, c, rfl, hcap, hodd, hn, hv, hfull⟩ := hx.lst_view
      rw [hA]
      split at hp
      ·rename_i hc
       obtain ⟨hk0, q1, q2, q3, q4, q5, q6⟩ := hc
       cases hp
       have hone := allOne_sim hnr q6
       have hzl := hzr.length
       have hcl : cs.length = n * ye.size := by
        rcases q1 with rfl | rfl
        ·simpa using hn
        ·exact hn
       have hhead : ∃ old, headV sA.m ye.size a n = some old /\ PRs cx cs old := by
        rcases hv with rfl | ⟨r, off, cells, rfl, hr, hle, hs⟩
        ·have : cs = [] := by simpa using hcl
         subst this
         cases a <;> exact ⟨[], rfl, .nil⟩
        ·by_cases hn0 : n = 0
         ·subst hn0
          have : cs = [] := by simpa using hcl
          subst this
          exact ⟨[], rfl, .nil⟩
         ·obtain ⟨_, md, es', q, hg⟩ := h.pg.im _ _ hr
          refine ⟨_, ?_, hs⟩
          unfold headV
          simp only [natBeqF' hn0, cond_false]
          rw [cells_eq hg (by omega), hcl]
       obtain ⟨old, hold, holdr⟩ := hhead
       have hall : PRs cx (cs ++ new) (old ++ nv) := holdr.append hnr
       have hb3 : (!(Nat.ble ((2 * (n + k) + 2000) * ye.bytes) 281474976710656 && Nat.ble (n + k) 4611686018427387904 && Nat.blt ye.size 4096)) = false := by
        simp only [bleT q2, bleT q3, bltT q4, Bool.and_self, Bool.not_true]
       have hb4 : (!(Nat.beq zv.length ye.size && allOne nv)) = false := by
        simp only [natBeqT (show zv.length = ye.size by omega), hone, Bool.and_self, Bool.not_true]
       have hc2 := hfull rfl
       subst hc2
       simp only [bleF (show ¬ n + k <= capOf (2 * n) by rw [capOf_even]; exact Nat.not_le.2 (Nat.lt_add_of_pos_right (Nat.pos_of_ne_zero hk0))), cond_false, hb3, hold, hb4, evenT (show 2 * n % 2 = 0 by omega), cond_true, Am.newRow, addr]
       have hcur := (h.cur s.os.length (Nat.le_refl _)).1
       exact ⟨_, _, rfl, after_new h (fun _ _ e => by cases e) (fun e => by cases e) (new_row_OG h.pg hcur hall) (.sl (by simp [Cx.bind]))⟩
      ·cases hp
     ·rename_i ka kb o n c
      cases hx with
      | sl e0 =>
      rename_i r0
      rw [hA]
      split at hp
      ·rename_i hc
       obtain ⟨hk0, hcap⟩ := hc
       subst hk0
       cases hp
       simp only [Nat.add_zero, bleT hcap, cond_true]
       exact ⟨_, _, rfl, ⟨cx, .sl e0, Ext.refl _ _, h⟩, rfl, rfl, rfl⟩
      ·rename_i hk0
       split at hp
       ·rename_i hcap
        simp only [bleT hcap, cond_true]
        split at hp
        ·rename_i es cells hk
         split at hp
         ·rename_i hc
          obtain ⟨hle, hone⟩ := hc
          cases hp
          have hkne : k ≠ 0 := fun e => hk0 ⟨e, by omega⟩
          obtain ⟨r, vs, md, q, e1, e2, e3, e4, e5⟩ := h.pg.obj ka kb _ hk
          obtain ⟨rfl, rfl⟩ := e4 (by simp)
          have hbar := e5 rfl
          rw [e0] at e1; cases e1
          have hl := hnr.length
          have hlc := e3.length
          have hone' := allOne_sim hnr hone
          simp only [natBeqF' hkne, cond_false, Mem.storeCells, addOff, e2, bleT hbar, bleT (show o + n * ye.size + nv.length <= vs.length by omega), hone', Bool.and_self, cond_true, Mem.kill, Option.map_some]
          refine ⟨_, _, rfl, after_upd h e0 hbar hk ⟨nofun, nofun⟩ (fun _ _ e => by cases e) ?_ (.sl e0)⟩
          have hnb : sA.m.nb <= r0 := Nat.le_trans h.pg.wf.nb hbar
          refine ⟨r0, _, .rw, none, e0, Mem.get_upd_same hnb _, ?_, fun _ => ⟨rfl, rfl⟩, fun _ => by rw [Mem.upd_def]; exact hbar⟩
          rw [splice_eq _ _ _ (by omega)]
          exact psplice_sim e3 hnr _
         ·cases hp
        ·cases hp
       ·rename_i hcap
        unfold pgrow at hp
        split at hp
        ·rename_i hc
         obtain ⟨hodd, hes, rfl, hkne, q2, q3, q4, q5, q6⟩ := hc
         have fin : ∀ (w : Wm) (es : Nat) (cells : List PV), s.look ka kb = some (.row w es cells) -> (w = .rw \/ w = .own) -> es = ye.size -> n * ye.size = cells.length -> n ≠ 0 -> z = .sl s.k s.os.length 0 (n + k) (loCap (n + k) ye.size) -> s' = { s.putO ka kb .gone with os := (s.putO ka kb .gone).os ++ [.row .own ye.size (cells ++ new)] } →
           ∃ v m', (bif !(Nat.ble ((2 * (n + k) + 2000) * ye.bytes) 281474976710656 && Nat.ble (n + k) 4611686018427387904 && Nat.blt ye.size 4096) then none else
            match headV sA.m ye.size (some ⟨r0, 0, none⟩) n with
            | some old =>
             bif !(Nat.beq zv.length ye.size && allOne nv) then none else
             bif Nat.beq (c % 2) 0 then
              match Am.newRow sA.m (old ++ nv) ye.size with
              | (b, m1) => some (.slice (some b) (n + k) (loCap (n + k) ye.size), m1)
             else
              match sA.m.get r0 with
               | some (.row cs .rw es prev) =>
                bif Nat.beq (esOf c) ye.size && Nat.beq es ye.size && Nat.beq (0 + n * ye.size) cs.length then
                 let m1 := sA.m.upd r0 (some (.row cs .cl es prev))
                 some (Value.slice (some (addr m1.size 0)) (n + k) (loCap (n + k) ye.size), m1.new (.row (old ++ nv) .rw es (some r0)))
                else none
               | _ => none
            | none => none) = some (v, m') /\ After E cx s sA z s' v m' := fun w es cells hk hw hes2 hcl hn0 hz1 hz2 => by
          subst hes2 hz1 hz2
          obtain ⟨r, vs, md, q, e1, e2, e3, e4, e5⟩ := h.pg.obj ka kb _ hk
          have hw0 : md = .rw /\ sA.m.bar <= r /\ Shade cx sA.m r q := by
           rcases hw with rfl | rfl
           ·obtain ⟨h1, h2⟩ := e4 (by simp)
            have h2' : q = none := h2
            subst h2'
            exact ⟨h1, e5 rfl, .none⟩
           ·exact e4 (by simp)
          obtain ⟨rfl, hbar, hsh⟩ := hw0
          rw [e0] at e1; cases e1
          have hlc := e3.length
          have hzl := hzr.length
          have hone' := allOne_sim hnr q6
          have hold : headV sA.m ye.size (some ⟨r0, 0, none⟩) n = some vs := by
           unfold headV
           simp only [natBeqF' hn0, cond_false]
           rw [cells_eq e2 (by omega), List.drop_zero, List.take_of_length_le (by omega)]
          have hb3 : (!(Nat.ble ((2 * (n + k) + 2000) * ye.bytes) 281474976710656 && Nat.ble (n + k) 4611686018427387904 && Nat.blt ye.size 4096)) = false := by
           simp only [bleT q2, bleT q3, bltT q4, Bool.and_self, Bool.not_true]
          have hb4 : (!(Nat.beq zv.length ye.size && allOne nv)) = false := by
           simp only [natBeqT (show zv.length = ye.size by omega), hone', Bool.and_self, Bool.not_true]
          have hb5 : (Nat.beq (esOf c) ye.size && Nat.beq ye.size ye.size && Nat.beq (0 + n * ye.size) vs.length) = true := by
           simp only [natBeqT hes, natBeqT (rfl : ye.size = ye.size), natBeqT (show 0 + n * ye.size = vs.length by omega), Bool.and_self]
          have hsz1 : (sA.m.upd r0 (some (.row vs .cl ye.size q))).size = sA.m.size := by rw [Mem.upd_def]
          simp only [hb3, cond_false, hold, hb4, oddF (show c % 2 ≠ 0 by omega), e2, hb5, cond_true, hsz1, addr]
          exact ⟨_, _, rfl, after_own h hk e0 e2 hsh hbar (e3.append hnr)⟩
         simp only [bleF hcap, cond_false]
         split at hp
         ·rename_i es cells hk
          split at hp
          ·rename_i hc2
           cases hp
           exact fin .rw es cells hk (.inl rfl) hc2.1 hc2.2.1 hc2.2.2 rfl rfl
          ·cases hp
         ·rename_i es cells hk
          split at hp
          ·rename_i hc2
           cases hp
           exact fin .own es cells hk (.inr rfl) hc2.1 hc2.2.1 hc2.2.2 rfl rfl
          ·cases hp
         ·cases hp
        ·cases hp
     ·cases hp
   ·cases hp
  ·cases hp
end
end Go.Pm
end