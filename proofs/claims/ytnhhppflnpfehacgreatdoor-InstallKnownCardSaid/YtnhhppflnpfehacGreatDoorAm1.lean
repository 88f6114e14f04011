/- The deterministic abstract machine: its tables of numbered things. Plain definitions; nothing is assumed. Written with the recursors themselves: the kernel runs them. -/
import Derived.RangeFuncRecord
import Derived.OrdersIn
import Derived.KernelRfl
namespace Go.Am

/-! ### Lists by number -/
noncomputable def nthK {α : Type} (d : α) (l : List α) : Nat → α :=
  List.rec (motive := fun _ => Nat → α) (fun _ => d) (fun x _ ih i => Nat.rec (motive := fun _ => α) x (fun i _ => ih i) i) l

noncomputable def modK {α : Type} (d : α) (f : α → α) (i : Nat) : List α → List α :=
  Nat.rec (motive := fun _ => List α → List α) (fun l => List.rec (motive := fun _ => List α) [f d] (fun y r _ => f y :: r) l)
    (fun _ ih l => List.rec (motive := fun _ => List α) (d :: ih []) (fun y r _ => y :: ih r) l) i

theorem nthK_nil {α : Type} (d : α) (i : Nat) : nthK d [] i = d := rfl
theorem nthK_zero {α : Type} (d x : α) (l : List α) : nthK d (x :: l) 0 = x := rfl
theorem nthK_succ {α : Type} (d x : α) (l : List α) (i : Nat) : nthK d (x :: l) (i + 1) = nthK d l i := rfl
theorem modK_nil0 {α : Type} (d : α) (f : α → α) : modK d f 0 [] = [f d] := rfl
theorem modK_cons0 {α : Type} (d x : α) (f : α → α) (l : List α) : modK d f 0 (x :: l) = f x :: l := rfl
theorem modK_nil1 {α : Type} (d : α) (f : α → α) (i : Nat) : modK d f (i + 1) [] = d :: modK d f i [] := rfl
theorem modK_cons1 {α : Type} (d x : α) (f : α → α) (l : List α) (i : Nat) : modK d f (i + 1) (x :: l) = x :: modK d f i l := rfl

theorem nthK_modK {α : Type} (d : α) (f : α → α) : ∀ (i : Nat) (l : List α) (j : Nat), nthK d (modK d f i l) j = if j = i then f (nthK d l i) else nthK d l j := by
  intro i
  induction i with
  | zero =>
    intro l j
    cases l with
    | nil =>
      rw [modK_nil0]
      cases j with
      | zero => rfl
      | succ j => rw [nthK_succ, if_neg (by omega)]; rfl
    | cons x l =>
      rw [modK_cons0]
      cases j with
      | zero => rfl
      | succ j => rw [nthK_succ, nthK_succ, if_neg (by omega)]
  | succ i ih =>
    intro l j
    cases l with
    | nil =>
      rw [modK_nil1]
      cases j with
      | zero => rw [nthK_zero, if_neg (by omega)]; rfl
      | succ j =>
        rw [nthK_succ, ih]
        simp only [nthK_nil, Nat.add_right_cancel_iff]
    | cons x l =>
      rw [modK_cons1]
      cases j with
      | zero => rw [nthK_zero, nthK_zero, if_neg (by omega)]
      | succ j => rw [nthK_succ, nthK_succ, nthK_succ, ih]; simp only [Nat.add_right_cancel_iff]

/-! ### A table of numbered things -/
def Tr (α : Type) : Type := List (List (List (Option α)))
def Tr.nil {α : Type} : Tr α := ([] : List (List (List (Option α))))
noncomputable def Tr.at {α : Type} (t : Tr α) (b : Nat) : Option α :=
  nthK none (nthK [] (nthK [] t (Nat.div b 64)) (Nat.mod (Nat.div b 8) 8)) (Nat.mod b 8)
noncomputable def Tr.put {α : Type} (t : Tr α) (b : Nat) (x : Option α) : Tr α :=
  modK [] (modK [] (modK none (fun _ => x) (Nat.mod b 8)) (Nat.mod (Nat.div b 8) 8)) (Nat.div b 64) t

theorem trKey {α : Type} (t : List (List (List (Option α)))) (b c : Nat) (x : Option α) :
    nthK none (nthK [] (nthK [] (modK [] (modK [] (modK none (fun _ => x) (b % 8)) (b / 8 % 8)) (b / 64) t) (c / 64)) (c / 8 % 8)) (c % 8) =
      if c = b then x else nthK none (nthK [] (nthK [] t (c / 64)) (c / 8 % 8)) (c % 8) := by
  rw [nthK_modK]
  by_cases h1 : c / 64 = b / 64
  · rw [if_pos h1, nthK_modK]
    by_cases h2 : c / 8 % 8 = b / 8 % 8
    · rw [if_pos h2, nthK_modK]
      by_cases h3 : c % 8 = b % 8
      · rw [if_pos h3, if_pos (by omega)]
      · rw [if_neg h3, if_neg (by omega), h1, h2]
    · rw [if_neg h2, if_neg (by intro e; subst e; exact h2 rfl), h1]
  · rw [if_neg h1, if_neg (by intro e; subst e; exact h1 rfl)]

theorem Tr.at_put {α : Type} (t : Tr α) (b c : Nat) (x : Option α) : (t.put b x).at c = if c = b then x else t.at c := trKey t b c x
theorem Tr.at_put_same {α : Type} (t : Tr α) (b : Nat) (x : Option α) : (t.put b x).at b = x := by rw [Tr.at_put, if_pos rfl]
theorem Tr.at_put_ne {α : Type} (t : Tr α) {b c : Nat} (x : Option α) (h : c ≠ b) : (t.put b x).at c = t.at c := by rw [Tr.at_put, if_neg h]
theorem Tr.at_nil {α : Type} (b : Nat) : (Tr.nil : Tr α).at b = none := rfl
end Go.Am
