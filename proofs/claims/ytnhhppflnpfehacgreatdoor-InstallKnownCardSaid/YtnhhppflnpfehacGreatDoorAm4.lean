/- The abstract machine over a loaded program: the tables that it looks things up in. -/
import Derived.Test.YtnhhppflnpfehacGreatDoorAm10
namespace Go.Am

noncomputable def Tr.ofList {α : Type} : Nat → List α → Tr α → Tr α
  | _, [], t => t
  | i, x :: r, t => Tr.ofList (i + 1) r (t.put i (some x))

noncomputable def closedZ : Option Value → Option Value
  | some z => match closedV z with
    | true => some z
    | false => none
  | none => none

noncomputable def tyOf (types : List TypeInfo) (i : TypeInfo) : Option Ty :=
  match i.desc with
  | .named _ u => match types[u]? with
    | some j => some { desc := j.desc, size := i.size, bytes := i.bytes, zero := closedZ i.zero, cmp := i.comparable }
    | none => none
  | d => some { desc := d, size := i.size, bytes := i.bytes, zero := closedZ i.zero, cmp := i.comparable }

noncomputable def tyTable (types : List TypeInfo) : Tr (Option Ty) := Tr.ofList 0 (types.map (tyOf types)) .nil

noncomputable def funOf (ng : Nat) (f : Func) : Option Fun := match f.body with
  | some b => match codeOk ng b && !(f.name == "runtime.NumGoroutine") with
    | true => some { ntmps := f.ntmps, results := f.results.toList, body := b }
    | false => none
  | none => none

noncomputable def funTable (ng : Nat) (fs : List Func) : Tr (Option Fun) := Tr.ofList 0 (fs.map (funOf ng)) .nil

theorem Tr.ofList_at {α : Type} : ∀ (l : List α) (i : Nat) (t : Tr α) (x : Nat), (Tr.ofList i l t).at x = if i ≤ x ∧ x < i + l.length then l[x - i]? else t.at x := by
  intro l
  induction l with
  | nil => intro i t x; simp [Tr.ofList]; omega
  | cons v l ih =>
    intro i t x
    simp only [Tr.ofList, ih, Tr.at_put, List.length_cons]
    by_cases h : x = i
    · subst h
      rw [if_neg (by omega), if_pos rfl, if_pos (by omega)]
      simp
    · rw [if_neg h]
      by_cases h2 : i + 1 ≤ x ∧ x < i + 1 + l.length
      · rw [if_pos h2, if_pos (by omega)]
        have : x - i = (x - (i + 1)) + 1 := by omega
        rw [this, List.getElem?_cons_succ]
      · rw [if_neg h2, if_neg (by omega)]

theorem Tr.ofList_get {α : Type} {l : List α} {x : Nat} {v : α} (h : (Tr.ofList 0 l .nil).at x = some v) : l[x]? = some v := by
  rw [Tr.ofList_at] at h
  split at h
  · simpa using h
  · rw [Tr.at_nil] at h; cases h

/-! ### Functions that are not entered -/
noncomputable def xLoad64 : List Value → Mem → Option (Value × Mem)
  | [.pointer (some a)], m => match m.cell a with
    | some (.int .i64 n) => some (.int .i64 n, m)
    | _ => none
  | _, _ => none

noncomputable def xAdd64 : List Value → Mem → Option (Value × Mem)
  | [.pointer (some a), .int .i64 d], m => match m.cell a with
    | some (.int .i64 n) => (m.storeCells a [.int .i64 (IntKind.i64.wrap (n + d))]).map fun m1 => (.int .i64 (IntKind.i64.wrap (n + d)), m1)
    | _ => none
  | _, _ => none

noncomputable def xCas64 : List Value → Mem → Option (Value × Mem)
  | [.pointer (some a), .int .i64 old, .int .i64 new], m => match m.get a.block with
    | some (.row _ .rw _ _) => match m.cell a with
      | some (.int .i64 n) => match decide (n = old) with
        | true => (m.storeCells a [.int .i64 new]).map fun m1 => (.bool true, m1)
        | false => some (.bool false, m)
      | _ => none
    | _ => none
  | _, _ => none

noncomputable def byteAt (c : Nat) : Nat → List UInt8 → Option Nat
  | _, [] => none
  | i, b :: r => bif Nat.beq b.toNat c then some i else byteAt c (i + 1) r

noncomputable def xIndexByteString : List Value → Mem → Option (Value × Mem)
  | [.string s, .int .u8 c], m => match Nat.blt c.toNat 256 with
    | true => match byteAt c.toNat 0 s.data.toList with
      | some i => some (.int .i64 i, m)
      | none => some (.int .i64 (-1), m)
    | false => none
  | _, _ => none

noncomputable def cmpL : List UInt8 → List UInt8 → Int
  | [], [] => 0
  | [], _ :: _ => -1
  | _ :: _, [] => 1
  | a :: x, b :: y => bif Nat.blt a.toNat b.toNat then -1 else bif Nat.blt b.toNat a.toNat then 1 else cmpL x y

noncomputable def bytesOfV (m : Mem) : Value → Option (List UInt8)
  | .string s => some s.data.toList
  | .slice none _ _ => some []
  | .slice (some a) n _ => bif Nat.beq n 0 then some [] else match m.cells a n with
    | some cs => cellsBytes cs
    | none => none
  | _ => none

noncomputable def xCompare : List Value → Mem → Option (Value × Mem)
  | [x, y], m => match bytesOfV m x, bytesOfV m y with
    | some a, some b => some (.int .i64 (cmpL a b), m)
    | _, _ => none
  | _, _ => none

noncomputable def extNamed (name : String) : Option (List Value → Mem → Option (Value × Mem)) :=
  if name = "sync/atomic.LoadInt64" then some xLoad64 else
  if name = "sync/atomic.AddInt64" then some xAdd64 else
  if name = "sync/atomic.CompareAndSwapInt64" then some xCas64 else
  if name = "internal/bytealg.IndexByteString" then some xIndexByteString else
  if name = "internal/bytealg.Compare" then some xCompare else none

noncomputable def envOf (P : Program) (types : Tr (Option Ty)) (funs : Tr (Option Fun)) (exts : Nat → Option (List Value → Mem → Option (Value × Mem))) : Env :=
  { ng := P.globals.size
    ty := fun t => match types.at t with | some r => r | none => none
    fn := fun f => match funs.at f with | some r => r | none => none
    ext := exts
    plainEq := fun t => !(P.eqGuardType P.depth t) && !(P.stoodInHeld t) }

/-- The program, as the machine looks it up, is the program. -/
theorem envOf_ok (P : Program) {types : Tr (Option Ty)} {funs : Tr (Option Fun)} {exts : Nat → Option (List Value → Mem → Option (Value × Mem))}
    (ht : types = tyTable P.types.toList) (hf : funs = funTable P.globals.size P.funcs.toList) (hm : P.follows .mixedOrders = true) : EnvOk (envOf P types funs exts) P := by
  subst ht hf
  have info : ∀ {t : Nat} {i : TypeInfo}, P.types.toList[t]? = some i → P.info? t = some i := by
    intro t i h
    have hlt : t < P.types.size := by
      rcases Nat.lt_or_ge t P.types.size with hx | hx
      · exact hx
      · rw [List.getElem?_eq_none (by simpa using hx)] at h; cases h
    unfold Tables.info?
    rw [if_pos hlt]
    simpa using h
  constructor
  · intro t y h
    have h' : (match (tyTable P.types.toList).at t with | some r => r | none => none) = some y := h
    split at h'
    · rename_i r hr
      subst h'
      unfold tyTable at hr
      have hg := Tr.ofList_get hr
      rw [List.getElem?_map] at hg
      cases hi : P.types.toList[t]? with
      | none => rw [hi] at hg; cases hg
      | some i =>
        rw [hi] at hg
        simp only [Option.map_some, Option.some.injEq] at hg
        have hz : ∀ z, closedZ i.zero = some z → i.zero = some z ∧ closedV z = true := by
          intro z hz
          unfold closedZ at hz
          split at hz
          · split at hz
            · cases hz; rename_i h1 h2; exact ⟨h1, h2⟩
            · cases hz
          · cases hz
        refine ⟨i, info hi, ?_⟩
        have hu : ∀ n u j, i.desc = .named n u → P.types.toList[u]? = some j → P.underlying t = some j.desc := by
          intro n u j hd hj
          unfold Program.underlying
          rw [info hi]
          obtain ⟨⟩ := i
          simp only at hd
          subst hd
          simp [info hj]
        have hu' : (∀ n u, i.desc ≠ .named n u) → P.underlying t = some i.desc := by
          intro hd
          unfold Program.underlying
          rw [info hi]
          split
          · rename_i heq
            cases heq
            exact absurd rfl (hd _ _)
          · rename_i heq; cases heq; rfl
          · rename_i heq; cases heq
        unfold tyOf at hg
        split at hg
        · rename_i n u hd
          split at hg
          · rename_i j hj
            cases hg
            exact ⟨rfl, rfl, hz, rfl, hu n u j hd hj⟩
          · cases hg
        · rename_i hd
          cases hg
          exact ⟨rfl, rfl, hz, rfl, hu' fun n u e => hd n u e⟩
    · cases h'
  · intro f x h
    have h' : (match (funTable P.globals.size P.funcs.toList).at f with | some r => r | none => none) = some x := h
    split at h'
    · rename_i r hr
      subst h'
      unfold funTable at hr
      have hg := Tr.ofList_get hr
      rw [List.getElem?_map] at hg
      cases hi : P.funcs.toList[f]? with
      | none => rw [hi] at hg; cases hg
      | some F =>
        rw [hi] at hg
        simp only [Option.map_some, Option.some.injEq] at hg
        unfold funOf at hg
        split at hg
        · rename_i b hb
          split at hg
          · rename_i hc
            cases hg
            simp only [Bool.and_eq_true, Bool.not_eq_true'] at hc
            exact ⟨F, by simpa using hi, hb, rfl, rfl, hc.2, hc.1⟩
          · cases hg
        · cases hg
    · cases h'
  · intro t h
    have h' : (!(P.eqGuardType P.depth t) && !(P.stoodInHeld t)) = true := h
    simpa using h'
  · exact hm

/-- The start: the package-level variables' blocks, of which nothing is told. -/
noncomputable def mem0 (ng : Nat) : Mem := { base := fun _ => none, nb := ng, tree := .nil, size := ng, bar := ng }
def inj0 (ng : Nat) : Inj := fun b => if b < ng then some ⟨b, 0, 0, 0⟩ else none

theorem rel0 {E : Env} {w : World} (h : E.ng ≤ w.heap.size) : Rel E (inj0 E.ng) (mem0 E.ng) w := by
  have hget : ∀ b, (mem0 E.ng).get b = none := fun b => by
    unfold Mem.get mem0
    simp only
    cases Nat.blt b E.ng with
    | true => rfl
    | false => rfl
  have hi : ∀ b t, inj0 E.ng b = some t → b < E.ng ∧ t.blk = b := fun b t e => by
    unfold inj0 at e
    split at e
    · rename_i hb; cases e; exact ⟨hb, rfl⟩
    · cases e
  constructor
  · intro b t e; obtain ⟨h1, h2⟩ := hi b t e; exact ⟨h1, by omega⟩
  · intro b t o _ k; rw [hget] at k; cases k
  · intro b c t u ob oc _ _ k; rw [hget] at k; cases k
  · intro b c t u _ _ ha; obtain ⟨⟨_, _, _, e⟩, _⟩ := ha.rows; rw [hget] at e; cases e
  · exact Nat.le_refl _
  · exact Nat.le_refl _
  · intro b o _ k; rw [hget] at k; cases k
  · intro g hg; exact ⟨⟨g, 0, 0, 0⟩, by unfold inj0; rw [if_pos hg], rfl, rfl⟩
  · intro b _; exact hget b
  · intro b cs md es q k; rw [hget] at k; cases k

theorem own0 {ng b : Nat} : ¬ Own (inj0 ng) (mem0 ng) b := by
  rintro ⟨a, t, o, _, k, _⟩
  have : (mem0 ng).get a = none := by
    unfold Mem.get mem0
    simp only
    cases Nat.blt a ng with
    | true => rfl
    | false => rfl
  rw [this] at k; cases k
end Go.Am
