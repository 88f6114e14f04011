/- SpoolRoom: what waits never takes more than the quotas. Part 4 of 46; no condition. -/
import Derived.Test.YtmgmbdnhodicjaaGreatDoorM3
set_option linter.unusedVariables false
set_option linter.unusedSimpArgs false
section
namespace Go.Pm
open Go.RowKit Go.Am
section
variable {E : Env} {P : Program} {cx cx' : Cx} {s s' : PSt} {sA : St} {m m' : Mem} {M M' : PMem}
noncomputable def psourceZ (E : Env) (s : PSt) (e : Nat) (z : List PV) (size : Nat) (t2 : Option Nat) (y : PV) : Option (List PV × Nat) :=
  match t2 with
  | none => none
  | some u => match E.ty u with
    | none => none
    | some yu => match zerosD yu.desc with
      | none => none
      | some false => psource s size y
      | some true => match pnat? y with
        | some k => match E.ty e with
          | some ye => if k ≤ 1048576 ∧ z.length = size ∧ ye.bytes * k ≤ 281474976710656 then some ((List.replicate k z).flatten, k) else none
          | none => none
        | none => none
noncomputable def pappendR (E : Env) (s : PSt) (t : Nat) (t2 : Option Nat) (x y : PV) : Option (PV × PSt) :=
  match E.ty t with
  | none => none
  | some yt => match yt.desc with
    | .slice e => match E.ty e, pzero E e with
      | some ye, some z => match psourceZ E s e z ye.size t2 y with
        | none => none
        | some (new, k) => match x with
          | .lst .full es n cs =>
            if k ≠ 0 ∧ (n = 0 ∨ es = ye.size) ∧ (2 * (n + k) + 2000) * ye.bytes ≤ 281474976710656 ∧ n + k ≤ 4611686018427387904 ∧ ye.size < 4096 ∧ z.length = ye.size ∧ new.all pone = true then
              some (.sl s.k s.os.length 0 (n + k) (loCap (n + k) ye.size), { s with os := s.os ++ [.row .rw ye.size (cs ++ new)] })
            else none
          | .sl a b o n c =>
            if k = 0 ∧ n ≤ capOf c then some (.sl a b o n c, s)
            else if n + k ≤ capOf c then
              match s.look a b with
              | some (.row .rw es cells) => if o + n * ye.size + new.length ≤ cells.length ∧ new.all pone = true then some (.sl a b o (n + k) c, s.putO a b (.row .rw es (psplice cells (o + n * ye.size) new))) else none
              | _ => none
            else none
          | _ => none
      | _, _ => none
    | _ => none
theorem flat_len (z : List PV) : ∀ k : Nat, (List.replicate k z).flatten.length = k * z.length
  | 0 => by simp
  | k + 1 => by rw [List.replicate_succ, List.flatten_cons, List.length_append, flat_len z k, Nat.succ_mul, Nat.add_comm]
theorem psourceZ_sim (hE : EnvOk E P) (h : PG E cx s.mem m) {e size k : Nat} {z new : List PV} {zv : List Value} {t2 : Option Nat} {y : PV} {v : Value} (hz : zeroOf E e = some zv) (hzr : PRs cx z zv) (hy : PR cx y v) (hp : psourceZ E s e z size t2 y = some (new, k)) :
    ∃ u yu zb vs, t2 = some u ∧ E.ty u = some yu ∧ zerosD yu.desc = some zb ∧ sourceV E m size zb e v = some (vs, k) ∧ PRs cx new vs ∧ vs.length = k * size := by
  unfold psourceZ at hp
  split at hp
  · cases hp
  · rename_i u
    split at hp
    · cases hp
    · rename_i yu hu
      split at hp
      · cases hp
      · rename_i hd
        obtain ⟨vs, h1, h2, h3⟩ := psource_sim (e := e) h hy hp
        exact ⟨u, yu, false, vs, rfl, hu, hd, h1, h2, h3⟩
      · rename_i hd
        split at hp
        · rename_i k' hk
          split at hp
          · rename_i ye hye
            split at hp
            · rename_i hc
              obtain ⟨c1, c2, c3⟩ := hc
              cases hp
              have hl := hzr.length
              refine ⟨u, yu, true, repeatCells zv k, rfl, hu, hd, ?_, repeat_sim hzr k, ?_⟩
              · unfold sourceV
                simp only [pnat_sim hy hk, hz, hye, bleT c1, natBeqT (show zv.length = size by omega), bleT c3, Bool.and_self, cond_true]
              · rw [← (repeat_sim hzr k).length, flat_len, c2]
            · cases hp
          · cases hp
        · cases hp
theorem pappendR_sim (hE : EnvOk E P) (h : PS E cx s sA) {t : Nat} {t2 : Option Nat} {x y z : PV} {vx vy : Value} (hx : PR cx x vx) (hy : PR cx y vy) (hp : pappendR E s t t2 x y = some (z, s')) :
    ∃ v m', appendV E sA.m t t2 vx vy = some (v, m') ∧ After E cx s sA z s' v m' := by
  unfold pappendR at hp
  split at hp
  · cases hp
  · rename_i yt hyt
    split at hp
    · rename_i e hd
      split at hp
      · rename_i ye zz hye hzz
        obtain ⟨zv, hzv, hzr⟩ := pzero_sim hE hzz (cx := cx)
        split at hp
        · cases hp
        · rename_i new k hsrc
          obtain ⟨u2, yu2, zb, nv, rfl, hu2, hz, hnv, hnr, hnl⟩ := psourceZ_sim hE h.pg hzv hzr hy hsrc
          have hA : ∀ (a : Option Addr) (n c : Nat), appendV E sA.m t (some u2) (.slice a n c) vy =
              (bif Nat.ble (n + k) (capOf c) then
                match a with
                | none => bif Nat.beq k 0 then some (.slice none n c, sA.m) else none
                | some a => bif Nat.beq k 0 then some (.slice (some a) n c, sA.m) else
                  (sA.m.storeCells (addOff a (n * ye.size)) nv).map fun m1 => (.slice (some a) (n + k) c, m1)
              else bif !(Nat.ble ((2 * (n + k) + 2000) * ye.bytes) 281474976710656 && Nat.ble (n + k) 4611686018427387904 && Nat.blt ye.size 4096) then none else
              match headV sA.m ye.size a n with
              | some old =>
                bif !(Nat.beq zv.length ye.size && allOne nv) then none else
                bif Nat.beq (c % 2) 0 then
                  match Am.newRow sA.m (old ++ nv) ye.size with
                  | (b, m1) => some (.slice (some b) (n + k) (loCap (n + k) ye.size), m1)
                else
                  match a with
                  | none => none
                  | some a => match sA.m.get a.block with
                    | some (.row cs .rw es prev) =>
                      bif Nat.beq (esOf c) ye.size && Nat.beq es ye.size && Nat.beq (a.off + n * ye.size) cs.length then
                        let m1 := sA.m.upd a.block (some (.row cs .cl es prev))
                        some (.slice (some (addr m1.size 0)) (n + k) (loCap (n + k) ye.size), m1.new (.row (old ++ nv) .rw es (some a.block)))
                      else none
                    | _ => none
              | none => none) := fun a n c => by
            unfold appendV
            simp only [hyt, hd, hye, hu2, hz, hnv, hzv]
            cases headV sA.m ye.size a n <;> rfl
          split at hp
          · rename_i es n cs
            obtain ⟨a, c, rfl, hcap, hodd, hn, hv, hfull⟩ := hx.lst_view
            rw [hA]
            split at hp
            · rename_i hc
              obtain ⟨hk0, q1, q2, q3, q4, q5, q6⟩ := hc
              cases hp
              have hone := allOne_sim hnr q6
              have hzl := hzr.length
              have hcl : cs.length = n * ye.size := by
                rcases q1 with rfl | rfl
                · simpa using hn
                · exact hn
              have hhead : ∃ old, headV sA.m ye.size a n = some old ∧ PRs cx cs old := by
                rcases hv with rfl | ⟨r, off, cells, rfl, hr, hle, hs⟩
                · have : cs = [] := by simpa using hcl
                  subst this
                  cases a <;> exact ⟨[], rfl, .nil⟩
                · by_cases hn0 : n = 0
                  · subst hn0
                    have : cs = [] := by simpa using hcl
                    subst this
                    exact ⟨[], rfl, .nil⟩
                  · obtain ⟨_, md, es', q, hg⟩ := h.pg.im _ _ hr
                    refine ⟨_, ?_, hs⟩
                    unfold headV
                    simp only [natBeqF' hn0, cond_false]
                    rw [cells_eq hg (by omega), hcl]
              obtain ⟨old, hold, holdr⟩ := hhead
              have hall : PRs cx (cs ++ new) (old ++ nv) := holdr.append hnr
              have hb3 : (!(Nat.ble ((2 * (n + k) + 2000) * ye.bytes) 281474976710656 && Nat.ble (n + k) 4611686018427387904 && Nat.blt ye.size 4096)) = false := by
                simp only [bleT q2, bleT q3, bltT q4, Bool.and_self, Bool.not_true]
              have hb4 : (!(Nat.beq zv.length ye.size && allOne nv)) = false := by
                simp only [natBeqT (show zv.length = ye.size by omega), hone, Bool.and_self, Bool.not_true]
              have hc2 := hfull rfl
              subst hc2
              simp only [bleF (show ¬ n + k ≤ capOf (2 * n) by rw [capOf_even]; exact Nat.not_le.2 (Nat.lt_add_of_pos_right (Nat.pos_of_ne_zero hk0))), cond_false, hb3, hold, hb4, evenT (show 2 * n % 2 = 0 by omega), cond_true, Am.newRow, addr]
              have hcur := (h.cur s.os.length (Nat.le_refl _)).1
              exact ⟨_, _, rfl, after_new h (fun _ _ e => by cases e) (new_row_OG h.pg hcur hall) (.sl (by simp [Cx.bind]))⟩
            · cases hp
          · rename_i ka kb o n c
            cases hx with
            | sl e0 =>
            rename_i r0
            rw [hA]
            split at hp
            · rename_i hc
              obtain ⟨hk0, hcap⟩ := hc
              subst hk0
              cases hp
              simp only [Nat.add_zero, bleT hcap, cond_true]
              exact ⟨_, _, rfl, ⟨cx, .sl e0, Ext.refl _ _, h⟩, rfl, rfl, rfl⟩
            · rename_i hk0
              split at hp
              · rename_i hcap
                simp only [bleT hcap, cond_true]
                split at hp
                · rename_i es cells hk
                  split at hp
                  · rename_i hc
                    obtain ⟨hle, hone⟩ := hc
                    cases hp
                    have hkne : k ≠ 0 := fun e => hk0 ⟨e, by omega⟩
                    obtain ⟨r, vs, md, q, e1, e2, e3, e4, e5⟩ := h.pg.obj ka kb _ hk
                    obtain ⟨rfl, rfl⟩ := e4 (by simp)
                    have hbar := e5 rfl
                    rw [e0] at e1; cases e1
                    have hl := hnr.length
                    have hlc := e3.length
                    have hone' := allOne_sim hnr hone
                    simp only [natBeqF' hkne, cond_false, Mem.storeCells, addOff, e2, bleT hbar, bleT (show o + n * ye.size + nv.length ≤ vs.length by omega), hone', Bool.and_self, cond_true, Mem.kill, Option.map_some]
                    refine ⟨_, _, rfl, after_upd h e0 hbar hk (fun _ _ e => by cases e) ?_ (.sl e0)⟩
                    have hnb : sA.m.nb ≤ r0 := Nat.le_trans h.pg.wf.nb hbar
                    refine ⟨r0, _, .rw, none, e0, Mem.get_upd_same hnb _, ?_, fun _ => ⟨rfl, rfl⟩, fun _ => by rw [Mem.upd_def]; exact hbar⟩
                    rw [splice_eq _ _ _ (by omega)]
                    exact psplice_sim e3 hnr _
                  · cases hp
                · cases hp
              · cases hp
          · cases hp
      · cases hp
    · cases hp
end
end Go.Pm
end
