/- How the abstract machine's memory stands to the model's world: values, rows, records. -/
import Derived.Test.YtnhhppflnpfehacGreatDoorAm3
import Derived.Below
namespace Go.Am
open Go.RowKit

/-- Where an abstract block lies: the real block, the place in it, how many cells that has, the cells of an element. -/
structure Tgt where
  blk : Nat
  dlt : Nat
  cap : Nat
  es : Nat

abbrev Inj := Nat → Option Tgt

mutual
inductive VR (ι : Inj) : Value → Value → Prop where
  | bool (b : Bool) : VR ι (.bool b) (.bool b)
  | int (k : IntKind) (n : Int) : VR ι (.int k n) (.int k n)
  | float (k : FloatKind) (n : Nat) : VR ι (.float k n) (.float k n)
  | complex (k : FloatKind) (n m : Nat) : VR ι (.complex k n m) (.complex k n m)
  | str (s : ByteArray) : VR ι (.string s) (.string s)
  | pnil : VR ι (.pointer none) (.pointer none)
  | ptr {b : Nat} {t : Tgt} (o : Nat) (h : ι b = some t) : VR ι (.pointer (some ⟨b, o, none⟩)) (.pointer (some ⟨t.blk, t.dlt + o, none⟩))
  | snil (n c : Nat) : VR ι (.slice none n (2 * c)) (.slice none n c)
  | sex {b : Nat} {t : Tgt} (o n c : Nat) (h : ι b = some t) : VR ι (.slice (some ⟨b, o, none⟩) n (2 * c)) (.slice (some ⟨t.blk, t.dlt + o, none⟩) n c)
  | slo {b : Nat} {t : Tgt} (o n c c' : Nat) (h : ι b = some t) (hc : c ≤ c') (hr : t.dlt + o + c' * t.es ≤ t.cap) (he : t.es < 4096) :
      VR ι (.slice (some ⟨b, o, none⟩) n (loCap c t.es)) (.slice (some ⟨t.blk, t.dlt + o, none⟩) n c')
  | semp (a a' : Addr) (es : Nat) (he : es < 4096) : VR ι (.slice (some a) 0 (loCap 0 es)) (.slice (some a') 0 0)
  | sem0 (a a' : Addr) : VR ι (.slice (some a) 0 0) (.slice (some a') 0 0)
  | mnil : VR ι (.map none) (.map none)
  | mp {b : Nat} {t : Tgt} (h : ι b = some t) : VR ι (.map (some b)) (.map (some t.blk))
  | fnil : VR ι .nilFunc .nilFunc
  | inil : VR ι .nilIface .nilIface
  | iface (t : TypeId) {v v' : Value} (h : VR ι v v') : VR ι (.iface t v) (.iface t v')
  | fn (f : FuncId) {x x' y y' : Array Value} (h1 : VRs ι x.toList x'.toList) (h2 : VRs ι y.toList y'.toList) : VR ι (.func (.func f) x y) (.func (.func f) x' y')
  | yld {b : Nat} {t : Tgt} (h : ι b = some t) : VR ι (.func (.yield b) #[] #[]) (.func (.yield t.blk) #[] #[])
  | agg {x x' : Array Value} (h : VRs ι x.toList x'.toList) : VR ι (.agg x) (.agg x')
  | tuple {x x' : Array Value} (h : VRs ι x.toList x'.toList) : VR ι (.tuple x) (.tuple x')
inductive VRs (ι : Inj) : List Value → List Value → Prop where
  | nil : VRs ι [] []
  | cons {v v' : Value} {l l' : List Value} (h : VR ι v v') (hs : VRs ι l l') : VRs ι (v :: l) (v' :: l')
end

def Sub (ι ι' : Inj) : Prop := ∀ b t, ι b = some t → ι' b = some t
theorem Sub.refl (ι : Inj) : Sub ι ι := fun _ _ h => h
theorem Sub.trans {a b c : Inj} (h : Sub a b) (k : Sub b c) : Sub a c := fun x t e => k x t (h x t e)

mutual
theorem VR.mono {ι ι' : Inj} (h : Sub ι ι') : ∀ {v v' : Value}, VR ι v v' → VR ι' v v'
  | _, _, .bool b => .bool b
  | _, _, .int k n => .int k n
  | _, _, .float k n => .float k n
  | _, _, .complex k n m => .complex k n m
  | _, _, .str s => .str s
  | _, _, .pnil => .pnil
  | _, _, .ptr o e => .ptr o (h _ _ e)
  | _, _, .snil n c => .snil n c
  | _, _, .sex o n c e => .sex o n c (h _ _ e)
  | _, _, .slo o n c c' e hc hr he => .slo o n c c' (h _ _ e) hc hr he
  | _, _, .semp a a' es he => .semp a a' es he
  | _, _, .sem0 a a' => .sem0 a a'
  | _, _, .mnil => .mnil
  | _, _, .mp e => .mp (h _ _ e)
  | _, _, .fnil => .fnil
  | _, _, .inil => .inil
  | _, _, .iface t e => .iface t (VR.mono h e)
  | _, _, .fn f h1 h2 => .fn f (VRs.mono h h1) (VRs.mono h h2)
  | _, _, .yld e => .yld (h _ _ e)
  | _, _, .agg e => .agg (VRs.mono h e)
  | _, _, .tuple e => .tuple (VRs.mono h e)
theorem VRs.mono {ι ι' : Inj} (h : Sub ι ι') : ∀ {l l' : List Value}, VRs ι l l' → VRs ι' l l'
  | _, _, .nil => .nil
  | _, _, .cons a b => .cons (VR.mono h a) (VRs.mono h b)
end

theorem VRs.length {ι : Inj} {l l' : List Value} (h : VRs ι l l') : l.length = l'.length := by
  induction l generalizing l' with
  | nil => cases h; rfl
  | cons a l ih => cases h with | cons h hs => simp [ih hs]

theorem VRs.get {ι : Inj} {l l' : List Value} (h : VRs ι l l') {i : Nat} {v : Value} (hv : l[i]? = some v) : ∃ v', l'[i]? = some v' ∧ VR ι v v' := by
  induction l generalizing l' i with
  | nil => simp at hv
  | cons a l ih =>
    cases h with
    | cons h hs =>
      cases i with
      | zero => simp at hv; subst hv; exact ⟨_, rfl, h⟩
      | succ i => simp at hv; simpa using ih hs hv

theorem VRs.get' {ι : Inj} {l l' : List Value} (h : VRs ι l l') {i : Nat} {v' : Value} (hv : l'[i]? = some v') : ∃ v, l[i]? = some v ∧ VR ι v v' := by
  induction l generalizing l' i with
  | nil => cases h; simp at hv
  | cons a l ih =>
    cases h with
    | cons h hs =>
      cases i with
      | zero => simp at hv; subst hv; exact ⟨_, rfl, h⟩
      | succ i => simp at hv; simpa using ih hs hv

theorem VRs.append {ι : Inj} {a a' b b' : List Value} (h : VRs ι a a') (k : VRs ι b b') : VRs ι (a ++ b) (a' ++ b') := by
  induction a generalizing a' with
  | nil => cases h; exact k
  | cons x a ih => cases h with | cons h hs => exact .cons h (ih hs)

theorem VRs.drop {ι : Inj} {a a' : List Value} (h : VRs ι a a') : ∀ n : Nat, VRs ι (a.drop n) (a'.drop n) := by
  induction a generalizing a' with
  | nil => cases h; intro n; simp; exact .nil
  | cons x a ih =>
    cases h with
    | cons h hs =>
      intro n
      cases n with
      | zero => exact .cons h hs
      | succ n => simpa using ih hs n

theorem VRs.take {ι : Inj} {a a' : List Value} (h : VRs ι a a') : ∀ n : Nat, VRs ι (a.take n) (a'.take n) := by
  induction a generalizing a' with
  | nil => cases h; intro n; simp; exact .nil
  | cons x a ih =>
    cases h with
    | cons h hs =>
      intro n
      cases n with
      | zero => exact .nil
      | succ n => simpa using .cons h (ih hs n)

theorem VRs.of_get {ι : Inj} : ∀ {l l' : List Value}, l.length = l'.length → (∀ (i : Nat) v, l[i]? = some v → ∃ v', l'[i]? = some v' ∧ VR ι v v') → VRs ι l l'
  | [], [], _, _ => .nil
  | [], _ :: _, h, _ => by simp at h
  | _ :: _, [], h, _ => by simp at h
  | a :: l, b :: l', h, hg => by
    obtain ⟨v', e, hv⟩ := hg 0 a rfl
    simp at e; subst e
    exact .cons hv (VRs.of_get (by simpa using h) fun i v e => by simpa using hg (i + 1) v (by simpa using e))

theorem VRs.set {ι : Inj} {a a' : List Value} (h : VRs ι a a') {v v' : Value} (hv : VR ι v v') : ∀ n : Nat, VRs ι (a.set n v) (a'.set n v') := by
  induction a generalizing a' with
  | nil => cases h; intro n; simp; exact .nil
  | cons x a ih =>
    cases h with
    | cons h hs =>
      intro n
      cases n with
      | zero => exact .cons hv hs
      | succ n => simpa using .cons h (ih hs n)

theorem VRs.snoc {ι : Inj} {a a' : List Value} {v v' : Value} (h : VRs ι a a') (hv : VR ι v v') : VRs ι (a ++ [v]) (a' ++ [v']) := h.append (.cons hv .nil)

theorem VR.undef {ι : Inj} : VR ι undefV undef := .tuple .nil

/-! ### Values without addresses -/
def flat : Value → Bool
  | .bool _ | .int _ _ | .float _ _ | .complex _ _ _ | .string _ | .pointer none | .map none | .nilFunc | .nilIface => true
  | .slice none n c => Nat.beq n 0 && Nat.beq c 0
  | _ => false
def flats : List Value → Bool
  | [] => true
  | v :: r => flat v && flats r
def closedV : Value → Bool
  | .agg cs => flats cs.toList
  | .tuple cs => flats cs.toList
  | .iface _ v => flat v
  | .func (.func _) x y => flats x.toList && flats y.toList
  | v => flat v

theorem VR.flat {ι : Inj} {v : Value} (h : flat v = true) : VR ι v v := by
  unfold Am.flat at h
  split at h
  all_goals first | constructor | skip
  · simp at h
    obtain ⟨rfl, rfl⟩ := h
    exact .snil 0 0
  · cases h
theorem VRs.flats {ι : Inj} : ∀ {l : List Value}, flats l = true → VRs ι l l
  | [], _ => .nil
  | v :: r, h => by simp [Am.flats] at h; exact .cons (VR.flat h.1) (VRs.flats h.2)
theorem VR.closed {ι : Inj} {v : Value} (h : closedV v = true) : VR ι v v := by
  unfold closedV at h
  split at h
  · exact .agg (VRs.flats h)
  · exact .tuple (VRs.flats h)
  · exact .iface _ (VR.flat h)
  · simp at h; exact .fn _ (VRs.flats h.1) (VRs.flats h.2)
  · exact VR.flat h

theorem VR.cells {ι : Inj} {v v' : Value} (h : VR ι v v') : VRs ι v.cells.toList v'.cells.toList := by
  cases h
  case agg h => exact h
  all_goals exact .cons (by constructor <;> assumption) .nil
end Go.Am
