/- Entries struck out of a map by what a call says of each: the machine's one operation for it, and that it is the program's. Plain lemmas; no condition. -/
import Derived.Test.YtnhhppflnpfehacGreatDoorAmD
set_option linter.unusedVariables false
namespace Go.Am
open Go.RowKit

/-- What the text of maps.DeleteFunc has been found to do: keys are texts. -/
structure DelFn (P : Program) (F : Nat) : Prop where
  del : ∀ (g : Nat) (cb : Array Value) (b : Nat) (es : Array MapEntry) (clock : Nat) (w : World) (d : Nat → Bool),
    w.heap[b]? = some (.map es clock) → (∀ x ∈ es.toList, x.born < clock) → (es.toList.map (·.born)).Nodup → (∀ x ∈ es.toList, ∃ s, x.key = .string s) → (es.toList.map (·.key)).Nodup →
    (∀ args w, (callFunc g args).run P w = .ok (.enter g args) w) →
    (∀ (W : World) x, x ∈ es.toList → w.heap.size ≤ W.heap.size → (∀ c, c < w.heap.size → c ≠ b → W.heap[c]? = w.heap[c]?) → W.os = w.os → W.tape = w.tape → W.output = w.output →
      Calls P g (#[x.key, x.val] ++ cb) W fun e w' => e = .returned (.bool (d x.born)) ∧ (∀ c, c < W.heap.size → w'.heap[c]? = W.heap[c]?) ∧ W.heap.size ≤ w'.heap.size ∧ w'.os = W.os ∧ w'.tape = W.tape ∧ w'.output = W.output) →
    Calls P F #[.map (some b), .func (.func g) #[] cb] w fun e w' =>
      e = .returned (.tuple #[]) ∧ w'.heap[b]? = some (.map (es.filter fun x => !d x.born) clock) ∧ (∀ c, c < w.heap.size → c ≠ b → w'.heap[c]? = w.heap[c]?) ∧ w.heap.size ≤ w'.heap.size ∧ w'.os = w.os ∧ w'.tape = w.tape ∧ w'.output = w.output

/-! ### Keys that are texts -/
theorem findNow_str : ∀ (l : List MapEntry) (i : Nat) (x : MapEntry), (∀ y ∈ l, ∃ s, y.key = .string s) → (l.map (·.key)).Nodup → x ∈ l →
    ∃ j, Instr.findNow .string x.key l i = some (some (i + j, x.val)) ∧ l[j]? = some x
  | [], _, x, _, _, hx => by simp at hx
  | y :: l, i, x, hs, hn, hx => by
    simp only [List.map_cons, List.nodup_cons] at hn
    obtain ⟨s, hy⟩ := hs y List.mem_cons_self
    obtain ⟨u, hxk⟩ := hs x hx
    unfold Instr.findNow
    rw [hxk, hy]
    simp only [Instr.sameNow]
    rcases List.mem_cons.1 hx with rfl | hx'
    · have : u = s := by rw [hxk] at hy; injection hy
      subst this
      rw [show (u == u) = true by rw [beq_toListBytes]; simp]
      exact ⟨0, rfl, rfl⟩
    · have hne : u ≠ s := fun e => hn.1 (by
        subst e
        rw [hy, ← hxk]; exact List.mem_map_of_mem hx')
      rw [show (u == s) = false by
        rw [beq_toListBytes]
        cases hq : (u.toList == s.toList) with
        | false => rfl
        | true =>
          have h' := eq_of_beq hq
          rw [ByteArray.toList_eq, ByteArray.toList_eq] at h'
          obtain ⟨⟨la⟩⟩ := u
          obtain ⟨⟨lb⟩⟩ := s
          simp only at h'
          subst h'; exact absurd rfl hne]
      obtain ⟨j, h1, h2⟩ := findNow_str l (i + 1) x (fun z hz => hs z (List.mem_cons_of_mem _ hz)) hn.2 hx'
      refine ⟨j + 1, ?_, by simpa using h2⟩
      rw [hxk] at h1
      simp only [h1]
      congr 3
      omega
theorem findKey_str {P : Program} {kt : TypeId} (hk : P.underlying kt = some .string) {l : List MapEntry} {x : MapEntry} (hs : ∀ y ∈ l, ∃ s, y.key = .string s) (hn : (l.map (·.key)).Nodup) (hx : x ∈ l) :
    ∃ j, (∀ w, (Instr.findKey kt x.key l).run P w = .ok (some (j, x.val)) w) ∧ l[j]? = some x := by
  obtain ⟨j, h1, h2⟩ := findNow_str l 0 x hs hn hx
  refine ⟨j, fun w => ?_, h2⟩
  unfold Instr.findKey
  simp only [Sem.run_bind, run_underlying hk, Result.andThen_ok, h1, Nat.zero_add]
  rfl
theorem checkKey_str {P : Program} {kt : TypeId} (hk : P.underlying kt = some .string) (b : Bool) (n : Nat) (v : Value) (w : World) : (Instr.checkKey b (n + 1) kt v).run P w = .ok () w := by
  unfold Instr.checkKey
  simp only [Sem.run_bind, run_underlying hk, Result.andThen_ok]
  rfl

/-! ### The machine -/
noncomputable def roM (m : Mem) : Mem :=
  { base := fun b => match m.get b with
      | some (.row cs _ es _) => some (.row cs .ro es none)
      | _ => none
    nb := m.size, tree := .nil, size := m.size, bar := m.size }
noncomputable def askDel (K : Task → Mem → Option (Value × Mem)) (g : Nat) (cb : List Value) (m0 : Mem) : List MapEntry → Option (List (Nat × Bool))
  | [] => some []
  | x :: r => match K (.call g (x.key :: x.val :: cb)) m0 with
    | some (.bool d, _) => match askDel K g cb m0 r with
      | some l => some ((x.born, d) :: l)
      | none => none
    | _ => none
noncomputable def toldDel : List (Nat × Bool) → Nat → Bool
  | [], _ => false
  | (b, d) :: r, n => match Nat.beq b n with
    | true => d
    | false => toldDel r n
noncomputable def notIn (s : ByteArray) (n : Nat) : List MapEntry → Bool
  | [] => true
  | y :: r => (match y.key with
    | .string u => !(bytesEq u.data.toList s.data.toList)
    | _ => false) && (!(Nat.beq y.born n) && notIn s n r)
noncomputable def fineMap (clock : Nat) : List MapEntry → Bool
  | [] => true
  | x :: r => (match x.key with
    | .string s => notIn s x.born r
    | _ => false) && (Nat.blt x.born clock && fineMap clock r)
noncomputable def strike (d : Nat → Bool) : List MapEntry → List MapEntry
  | [] => []
  | x :: r => match d x.born with
    | true => strike d r
    | false => x :: strike d r
noncomputable def xDelete (K : Task → Mem → Option (Value × Mem)) (fn : Nat → Bool) (args : List Value) (m : Mem) : Option (Value × Mem) :=
  match args with
  | [.map (some b), .func (.func g) x cb] => match m.get b with
    | some (.map es clock) => match Nat.ble m.bar b && (fineMap clock es && (Nat.beq x.toList.length 0 && fn g)) with
      | true => match askDel K g cb.toList (roM m) es with
        | some l => some (.tuple #[], m.upd b (some (.map (strike (toldDel l) es) clock)))
        | none => none
      | false => none
    | _ => none
  | _ => none

section
variable {E : Env} {P : Program} {ι : Inj} {m m1 : Mem} {w w1 : World}

theorem roM_get {b : Nat} {o : AObj} (h : (roM m).get b = some o) : ∃ cs md es q, m.get b = some (.row cs md es q) ∧ o = .row cs .ro es none := by
  unfold Mem.get roM at h
  dsimp only at h
  cases hb : Nat.blt b m.size with
  | false => rw [hb] at h; simp only [cond_false, Tr.at_nil] at h; cases h
  | true =>
    rw [hb] at h
    simp only [cond_true] at h
    split at h
    · rename_i cs md es q hg
      cases h
      exact ⟨cs, md, es, q, hg, rfl⟩
    · cases h
theorem roM_rel (h : Rel E ι m w) {b : Nat} {t : Tgt} {es : List MapEntry} {clock : Nat} (hb : ι b = some t) (hg : m.get b = some (.map es clock)) (hsz : w.heap.size ≤ w1.heap.size)
    (hs : ∀ c, c < w.heap.size → c ≠ t.blk → w1.heap[c]? = w.heap[c]?) : Rel E ι (roM m) w1 := by
  have hnoA : ∀ b c, ¬ Anc (roM m) b c := fun b c ha => by
    obtain ⟨⟨_, _, _, e⟩, _⟩ := ha.rows
    obtain ⟨_, _, _, _, _, e'⟩ := roM_get e
    cases e'
  constructor
  · intro c u e; have := h.dom c u e; exact ⟨this.1, by omega⟩
  · intro c u o e k
    obtain ⟨cs, md, es', q, k', rfl⟩ := roM_get k
    have hcb : c ≠ b := fun q => by subst q; rw [hg] at k'; cases k'
    have hne : u.blk ≠ t.blk := fun q => by
      rcases h.sep c b u t _ _ e hb k' hg hcb q (Bool.and_false _) with ha | ha
      · obtain ⟨_, _, _, _, _, e'⟩ := ha.rows; rw [hg] at e'; cases e'
      · obtain ⟨⟨_, _, _, e'⟩, _⟩ := ha.rows; rw [hg] at e'; cases e'
    have hm := (h.obj c u _ e k').move (Sub.refl _) (hs _ (h.dom _ _ e).2 hne)
    exact ⟨hm.1, fun q => absurd rfl q⟩
  · intro x y u v ox oy e1 e2 k1 k2 _ _ hro
    obtain ⟨_, _, _, _, _, rfl⟩ := roM_get k1
    obtain ⟨_, _, _, _, _, rfl⟩ := roM_get k2
    simp [AObj.isRo] at hro
  · intro x y u v _ _ ha; exact absurd ha (hnoA x y)
  · exact Nat.le_refl _
  · exact Nat.le_refl _
  · intro c o _ k
    obtain ⟨cs, _, es', _, _, rfl⟩ := roM_get k
    exact ⟨cs, es', rfl⟩
  · exact h.glob
  · intro c hc
    cases hk : (roM m).get c with
    | none => rfl
    | some o =>
      obtain ⟨_, _, _, _, k', _⟩ := roM_get hk
      rw [h.top c hc] at k'; cases k'
  · intro c cs md es' q k
    obtain ⟨_, _, _, _, _, e⟩ := roM_get k
    cases e
theorem roM_own {b : Nat} : ¬ Own ι (roM m) b := by
  rintro ⟨a, t, o, _, k, hro, _⟩
  obtain ⟨_, _, _, _, _, rfl⟩ := roM_get k
  cases hro

theorem notIn_ok {s : ByteArray} {n : Nat} : ∀ {l l' : List MapEntry}, notIn s n l = true → ERs ι l l' → (.string s : Value) ∉ l'.map (·.key) ∧ n ∉ l'.map (·.born) ∧ (∀ x ∈ l', ∃ u, x.key = .string u)
  | [], _, _, .nil => by simp
  | y :: r, _, h, .cons (e' := e') he hs => by
    unfold notIn at h
    simp only [Bool.and_eq_true] at h
    obtain ⟨h1, h2, h3⟩ := h
    obtain ⟨k1, k2, k3⟩ := notIn_ok h3 hs
    split at h1
    case h_2 => cases h1
    rename_i u hu
    have hk := he.1
    rw [hu] at hk
    generalize hq : e'.key = q at hk
    cases hk
    have hne : u ≠ s := fun e => by subst e; rw [bytesEq_eq] at h1; simp at h1
    have hbn : y.born ≠ n := fun e => by rw [e] at h2; simp at h2
    refine ⟨?_, ?_, ?_⟩
    · rw [List.map_cons, List.mem_cons, hq]
      rintro (e | e)
      · injection e with e; exact hne e.symm
      · exact k1 e
    · rw [List.map_cons, List.mem_cons, ← he.2.2]
      rintro (e | e)
      · exact hbn e.symm
      · exact k2 e
    · intro x hx
      rcases List.mem_cons.1 hx with rfl | hx
      · exact ⟨u, hq⟩
      · exact k3 x hx
theorem fineMap_ok {clock : Nat} : ∀ {l l' : List MapEntry}, fineMap clock l = true → ERs ι l l' →
    (∀ x ∈ l', x.born < clock) ∧ (l'.map (·.born)).Nodup ∧ (∀ x ∈ l', ∃ s, x.key = .string s) ∧ (l'.map (·.key)).Nodup
  | [], _, _, .nil => by simp
  | x :: r, _, h, .cons (e' := e') he hs => by
    unfold fineMap at h
    simp only [Bool.and_eq_true] at h
    obtain ⟨h1, h2, h3⟩ := h
    obtain ⟨k1, k2, k3, k4⟩ := fineMap_ok h3 hs
    split at h1
    case h_2 => cases h1
    rename_i u hu
    have hk := he.1
    rw [hu] at hk
    generalize hq : e'.key = q at hk
    cases hk
    obtain ⟨g1, g2, g3⟩ := notIn_ok h1 hs
    have hb : x.born < clock := by simpa using h2
    refine ⟨?_, ?_, ?_, ?_⟩
    · intro y hy
      rcases List.mem_cons.1 hy with rfl | hy
      · rw [← he.2.2]; exact hb
      · exact k1 y hy
    · rw [List.map_cons, List.nodup_cons, ← he.2.2]; exact ⟨g2, k2⟩
    · intro y hy
      rcases List.mem_cons.1 hy with rfl | hy
      · exact ⟨u, hq⟩
      · exact k3 y hy
    · rw [List.map_cons, List.nodup_cons, hq]; exact ⟨g1, k4⟩
theorem ERs.mem {l l' : List MapEntry} (h : ERs ι l l') : ∀ {x' : MapEntry}, x' ∈ l' → ∃ x ∈ l, ER ι x x' := by
  induction h with
  | nil => intro x' hx; simp at hx
  | @cons e e' _ _ he hs ih =>
    intro x' hx
    rcases List.mem_cons.1 hx with rfl | hx
    · exact ⟨e, List.mem_cons_self, he⟩
    · obtain ⟨x, h1, h2⟩ := ih hx
      exact ⟨x, List.mem_cons_of_mem _ h1, h2⟩
theorem ERs.strike {d : Nat → Bool} {l l' : List MapEntry} (h : ERs ι l l') : ERs ι (strike d l) (l'.filter fun x => !d x.born) := by
  induction h with
  | nil => exact .nil
  | @cons e e' _ _ he hs ih =>
    unfold Am.strike
    cases hd : d e.born with
    | true => rw [List.filter_cons_of_neg (by rw [← he.2.2, hd]; simp)]; exact ih
    | false => rw [List.filter_cons_of_pos (by rw [← he.2.2, hd]; rfl)]; exact .cons he ih
theorem toldDel_skip {b n : Nat} {d : Bool} {l : List (Nat × Bool)} (h : b ≠ n) : toldDel ((b, d) :: l) n = toldDel l n := by
  rw [toldDel]
  split
  · rename_i hb; exact absurd (Nat.eq_of_beq_eq_true hb) h
  · rfl
theorem toldDel_here {b : Nat} {d : Bool} {l : List (Nat × Bool)} : toldDel ((b, d) :: l) b = d := by
  rw [toldDel]
  split
  · rfl
  · rename_i hb; rw [Nat.beq_refl] at hb; cases hb
theorem askDel_ok {K : Task → Mem → Option (Value × Mem)} {g : Nat} {cb : List Value} {m0 : Mem} : ∀ {es : List MapEntry} {l : List (Nat × Bool)}, askDel K g cb m0 es = some l → (es.map (·.born)).Nodup →
    ∀ x ∈ es, ∃ m1, K (.call g (x.key :: x.val :: cb)) m0 = some (.bool (toldDel l x.born), m1)
  | [], _, _, _, x, hx => by simp at hx
  | y :: r, l, h, hn, x, hx => by
    unfold askDel at h
    split at h
    case h_2 => cases h
    rename_i d m1 hk
    split at h
    case h_2 => cases h
    rename_i l1 hl
    cases h
    simp only [List.map_cons, List.nodup_cons] at hn
    rcases List.mem_cons.1 hx with rfl | hx
    · exact ⟨m1, by rw [toldDel_here]; exact hk⟩
    · have hne : y.born ≠ x.born := fun e => hn.1 (by rw [e]; exact List.mem_map_of_mem hx)
      rw [toldDel_skip hne]
      exact askDel_ok hl hn.2 x hx
theorem ERs.born {l l' : List MapEntry} (h : ERs ι l l') : l.map (·.born) = l'.map (·.born) := by
  induction h with
  | nil => rfl
  | cons he _ ih => simp [ih, he.2.2]

theorem Keep.delete {K : Task → Mem → Option (Value × Mem)} {fn : Nat → Bool} {args : List Value} {v : Value} (hw : Wf m) (h : xDelete K fn args m = some (v, m1)) : Keep m m1 := by
  unfold xDelete at h
  split at h
  case h_2 => cases h
  split at h
  case h_2 => cases h
  split at h
  case h_2 => cases h
  rename_i hc
  split at h
  case h_2 => cases h
  cases h
  simp only [Bool.and_eq_true] at hc
  exact Keep.upd hw (Nat.le_of_ble_eq_true hc.1) _

theorem delete_ok (hS : Sure E P) {F j k : Nat} (D : DelFn P F) {x : Fun} (hf : E.fn F = some x) {args args' : List Value} {v : Value} (hr : xDelete (run E j k) (fun g => (E.fn g).isSome) args m = some (v, m1)) (h : Rel E ι m w) (ha : VRs ι args args') :
    Upon P (Got E ι m w v m1) ((callFunc F args'.toArray).run P w) := by
  rw [callFunc_enter hS.ok hf]
  show CallsIn Fence.wide 0 P F args'.toArray w (retOnly (Got E ι m w v m1))
  refine callsIn_wide.2 ?_
  unfold xDelete at hr
  split at hr
  case h_2 => cases hr
  rename_i b g x0 cb
  split at hr
  case h_2 => cases hr
  rename_i es clock hg
  split at hr
  case h_2 => cases hr
  rename_i hc
  split at hr
  case h_2 => cases hr
  rename_i l hl
  cases hr
  simp only [Bool.and_eq_true] at hc
  obtain ⟨hbar, hfine, hx0, hgs⟩ := hc
  have hbar := Nat.le_of_ble_eq_true hbar
  obtain ⟨y, hy⟩ := Option.isSome_iff_exists.1 hgs
  have hx0 := Nat.eq_of_beq_eq_true hx0
  cases ha with
  | @cons _ a' _ _ hs ha =>
  cases ha with
  | @cons _ f' _ _ hf' ha =>
  cases ha
  cases hs with
  | @mp _ t hb =>
  cases hf' with
  | @fn _ _ x0' _ cb' h1 h2 =>
  have hx0e : x0' = #[] := by
    have := h1.length
    apply Array.eq_empty_of_size_eq_zero
    rw [← Array.length_toList]; omega
  subst hx0e
  obtain ⟨es', hes1, hes2⟩ := h.obj _ _ _ hb hg
  obtain ⟨f1, f2, f3, f4⟩ := fineMap_ok hfine hes2
  have fb : (es.map (·.born)).Nodup := by rw [hes2.born]; exact f2
  have htb := (h.dom _ _ hb).2
  refine (D.del g cb' t.blk es' clock w (toldDel l) hes1 f1 f2 f3 f4 (fun args w => callFunc_enter hS.ok hy args w) (fun W x' hx' k1 k2 k3 k4 k5 => ?_)).mono fun e w' ⟨g1, g2, g3, g4, g5, g6, g7⟩ => ?_
  · obtain ⟨q, hq1, hq2⟩ := hes2.mem hx'
    obtain ⟨m2, hrun⟩ := askDel_ok hl fb q hq1
    have hR := roM_rel h hb hg k1 k2
    have := (run_ok hS.ok hS.ext hS.keep (j := j) k).call (args' := x'.key :: x'.val :: cb'.toList) hrun hR (.cons hq2.1 (.cons hq2.2.1 h2))
    rw [callFunc_enter hS.ok hy] at this
    have this : CallsIn Fence.wide 0 P g (x'.key :: x'.val :: cb'.toList).toArray W (retOnly (Got E ι (roM m) W (.bool (toldDel l q.born)) m2)) := this
    have e1 : (x'.key :: x'.val :: cb'.toList).toArray = #[x'.key, x'.val] ++ cb' := by apply Array.ext'; simp
    rw [e1] at this
    refine (callsIn_wide.1 this).mono fun e W' he => ?_
    cases e with
    | returned v' =>
      obtain ⟨ι1, hv, hst⟩ := he
      cases hv
      rw [← hq2.2.2]
      exact ⟨rfl, fun c hc => hst.keep c hc roM_own, hst.size, hst.os, hst.tape, hst.output⟩
    | panicked _ => exact he.elim
    | outgrown => exact he.elim
  · subst g1
    have hes3 : ERs ι (strike (toldDel l) es) (es'.filter fun x => !toldDel l x.born).toList := by rw [Array.toList_filter]; exact hes2.strike
    have hup : Step E ι m w ι (m.upd b (some (.map (strike (toldDel l) es) clock))) (w.putObj t.blk (.map (es'.filter fun x => !toldDel l x.born) clock)) :=
      Step.upd h hb hg (fun _ _ _ _ e => by cases e) (fun _ _ _ _ e => by cases e) hbar (fun c hc => World.putObj_heap_other hc) World.putObj_size rfl rfl rfl
        ⟨_, World.putObj_heap_same htb, hes3⟩
    have hmore : Step E ι (m.upd b (some (.map (strike (toldDel l) es) clock))) (w.putObj t.blk (.map (es'.filter fun x => !toldDel l x.born) clock)) ι (m.upd b (some (.map (strike (toldDel l) es) clock))) w' := by
      have hsame : ∀ c, c < (w.putObj t.blk (.map (es'.filter fun x => !toldDel l x.born) clock)).heap.size → w'.heap[c]? = (w.putObj t.blk (.map (es'.filter fun x => !toldDel l x.born) clock)).heap[c]? := fun c hc => by
        rw [World.putObj_size] at hc
        by_cases hq : c = t.blk
        · subst hq; rw [g2, World.putObj_heap_same htb]
        · rw [g3 c hc hq, World.putObj_heap_other hq]
      have hsz : (w.putObj t.blk (.map (es'.filter fun x => !toldDel l x.born) clock)).heap.size ≤ w'.heap.size := by rw [World.putObj_size]; exact g4
      exact ⟨Sub.refl _, (fun c u e n => by rw [e] at n; cases n), hup.rel.more hsame hsz, fun _ _ ho => ho, fun c hc _ => hsame c hc, hsz, Nat.le_refl _, g5, g6, g7⟩
    exact ⟨ι, .tuple .nil, hup.trans hmore⟩

noncomputable def Env.withDel (E : Env) (F j k : Nat) : Env := { E with ext := fun f => match Nat.beq f F with
  | true => some (xDelete (run E j k) (fun g => (E.fn g).isSome))
  | false => E.ext f }
theorem Sure.del (h : Sure E P) {F : Nat} (j k : Nat) (D : DelFn P F) (hf : (E.fn F).isSome = true) : Sure (E.withDel F j k) P := by
  obtain ⟨x, hx⟩ := Option.isSome_iff_exists.1 hf
  refine ⟨⟨h.ok.ty, h.ok.fn, h.ok.plain, h.ok.mixed⟩, ?_, ?_⟩
  · intro f g args args' m m1 v ι w hg hr hR ha
    have hg' : (match Nat.beq f F with
      | true => some (xDelete (run E j k) (fun g => (E.fn g).isSome))
      | false => E.ext f) = some g := hg
    split at hg'
    · rename_i hb
      have := Nat.eq_of_beq_eq_true hb
      subst this
      cases hg'
      exact Upon.mono (next' := Got (E.withDel f j k) ι m w v m1) (fun v' w1 h => Got.env (E := E) (E' := E.withDel f j k) rfl h) (delete_ok h D hx hr (Rel.env (E := E.withDel f j k) rfl hR) ha)
    · exact Upon.mono (next' := Got (E.withDel F j k) ι m w v m1) (fun v' w1 h => Got.env (E := E) (E' := E.withDel F j k) rfl h) (h.ext hg' hr (Rel.env (E := E.withDel F j k) rfl hR) ha)
  · intro f g args m v m1 hg hw hr
    have hg' : (match Nat.beq f F with
      | true => some (xDelete (run E j k) (fun g => (E.fn g).isSome))
      | false => E.ext f) = some g := hg
    split at hg'
    · cases hg'
      exact Keep.delete hw hr
    · exact h.keep f g args m v m1 hg' hw hr
end
end Go.Am
