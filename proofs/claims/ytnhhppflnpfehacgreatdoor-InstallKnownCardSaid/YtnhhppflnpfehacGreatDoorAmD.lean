/- Entries struck out of a map by what a call says of each: what the machine does in place of maps.DeleteFunc, and what it leans on. Plain lemmas; no condition. -/
import Derived.Test.YtnhhppflnpfehacGreatDoorAmL
import Derived.Maps.RangeRun
set_option linter.unusedVariables false
namespace Go.Am
open Go.RowKit

/-! ### Which entries stay -/
def keepOf (d : Nat → Bool) (seen : Array Nat) (es : Array MapEntry) : Array MapEntry := es.filter fun x => !(seen.contains x.born && d x.born)

theorem keepOf_mem {d : Nat → Bool} {seen : Array Nat} {es : Array MapEntry} {x : MapEntry} (h : x ∈ (leftOf (keepOf d seen es) seen).toList) : x ∈ es.toList ∧ seen.contains x.born = false ∧ x ∈ (keepOf d seen es).toList := by
  unfold leftOf at h
  rw [Array.toList_filter, List.mem_filter] at h
  have h1 := h.1
  unfold keepOf at h1
  rw [Array.toList_filter, List.mem_filter] at h1
  exact ⟨h1.1, by simpa using h.2, h.1⟩
theorem keepOf_start (d : Nat → Bool) (es : Array MapEntry) : keepOf d #[] es = es := by
  unfold keepOf
  rw [Array.filter_eq_self]
  intro x _; simp
theorem keepOf_false {d : Nat → Bool} {seen : Array Nat} {es : Array MapEntry} {x : MapEntry} (h : d x.born = false) : keepOf d (seen.push x.born) es = keepOf d seen es := by
  unfold keepOf
  congr 1
  funext y
  by_cases hy : y.born = x.born
  · rw [hy, h]; simp
  · simp [Array.contains_push, hy]
theorem erase_filter : ∀ {l : List MapEntry} {j : Nat} {x : MapEntry}, (l.map (·.born)).Nodup → l[j]? = some x → l.eraseIdx j = l.filter fun y => !(y.born == x.born)
  | [], j, x, _, h => by simp at h
  | y :: l, 0, x, hn, h => by
    simp at h; subst h
    simp only [List.map_cons, List.nodup_cons] at hn
    rw [List.eraseIdx_cons_zero, List.filter_cons_of_neg (by simp)]
    symm
    rw [List.filter_eq_self]
    intro z hz
    have : z.born ≠ y.born := fun e => hn.1 (by rw [← e]; exact List.mem_map_of_mem hz)
    simpa using this
  | y :: l, j + 1, x, hn, h => by
    simp only [List.map_cons, List.nodup_cons] at hn
    have hx : l[j]? = some x := by simpa using h
    have hne : y.born ≠ x.born := fun e => hn.1 (by rw [e]; exact List.mem_map_of_mem (List.mem_of_getElem? hx))
    rw [List.eraseIdx_cons_succ, List.filter_cons_of_pos (by simpa using hne), erase_filter hn.2 hx]
theorem keepOf_nodup {d : Nat → Bool} {seen : Array Nat} {es : Array MapEntry} (h : (es.toList.map (·.born)).Nodup) : ((keepOf d seen es).toList.map (·.born)).Nodup := by
  unfold keepOf
  rw [Array.toList_filter]
  exact (List.filter_sublist.map _).nodup h
theorem keepOf_true {d : Nat → Bool} {seen : Array Nat} {es : Array MapEntry} {x : MapEntry} {j : Nat} (hn : (es.toList.map (·.born)).Nodup) (hd : d x.born = true) (hj : (keepOf d seen es)[j]? = some x) :
    (keepOf d seen es).eraseIdxIfInBounds j = keepOf d (seen.push x.born) es := by
  have hl : j < (keepOf d seen es).size := by
    rcases Nat.lt_or_ge j (keepOf d seen es).size with h | h
    · exact h
    · rw [Array.getElem?_eq_none h] at hj; cases hj
  apply Array.ext'
  rw [Array.eraseIdxIfInBounds, dif_pos hl, Array.toList_eraseIdx, erase_filter (keepOf_nodup hn) (by rw [Array.getElem?_toList]; exact hj)]
  unfold keepOf
  rw [Array.toList_filter, Array.toList_filter, List.filter_filter]
  congr 1
  funext y
  by_cases hy : y.born = x.born
  · rw [hy, hd]; simp
  · simp [Array.contains_push, hy]
theorem keepOf_end {d : Nat → Bool} {seen : Array Nat} {es : Array MapEntry} (h : (leftOf (keepOf d seen es) seen).size = 0) : keepOf d seen es = es.filter fun x => !d x.born := by
  have hall : ∀ x, x ∈ keepOf d seen es → seen.contains x.born = true := fun x hx => by
    cases hs : seen.contains x.born with
    | true => rfl
    | false =>
      have : x ∈ leftOf (keepOf d seen es) seen := by unfold leftOf; rw [Array.mem_filter]; exact ⟨hx, by simpa using hs⟩
      rw [Array.eq_empty_of_size_eq_zero h] at this
      simp at this
  unfold keepOf at hall ⊢
  apply Array.ext'
  rw [Array.toList_filter, Array.toList_filter]
  apply List.filter_congr
  intro x hx
  cases hs : seen.contains x.born with
  | true => simp
  | false =>
    have := hall x (by rw [Array.mem_filter]; exact ⟨by simpa using hx, by rw [hs]; rfl⟩)
    rw [hs] at this; cases this
def leftN (es : Array MapEntry) (seen : Array Nat) : Nat := (es.toList.filter fun x => !seen.contains x.born).length
theorem filter_len_le {α : Type} {p q : α → Bool} : ∀ (l : List α), (∀ x ∈ l, p x = true → q x = true) → (l.filter p).length ≤ (l.filter q).length
  | [], _ => Nat.le_refl _
  | a :: l, h => by
    have ih := filter_len_le l fun x hx => h x (List.mem_cons_of_mem _ hx)
    have ha := h a List.mem_cons_self
    cases hp : p a with
    | true => rw [List.filter_cons_of_pos hp, List.filter_cons_of_pos (ha hp)]; simpa using ih
    | false =>
      rw [List.filter_cons_of_neg (by simp [hp])]
      cases hq : q a with
      | true => rw [List.filter_cons_of_pos hq]; simp; omega
      | false => rw [List.filter_cons_of_neg (by simp [hq])]; exact ih
theorem filter_len_lt {α : Type} {p q : α → Bool} {y : α} : ∀ (l : List α), (∀ x ∈ l, p x = true → q x = true) → y ∈ l → p y = false → q y = true → (l.filter p).length < (l.filter q).length
  | [], _, hy, _, _ => by simp at hy
  | a :: l, h, hy, hp, hq => by
    have ha := h a List.mem_cons_self
    have hs : ∀ x ∈ l, p x = true → q x = true := fun x hx => h x (List.mem_cons_of_mem _ hx)
    rcases List.mem_cons.1 hy with rfl | hy'
    · have := filter_len_le l hs
      rw [List.filter_cons_of_neg (by simp [hp]), List.filter_cons_of_pos hq]
      simp; omega
    · have ih := filter_len_lt l hs hy' hp hq
      cases hpa : p a with
      | true => rw [List.filter_cons_of_pos hpa, List.filter_cons_of_pos (ha hpa)]; simpa using ih
      | false =>
        rw [List.filter_cons_of_neg (by simp [hpa])]
        cases hqa : q a with
        | true => rw [List.filter_cons_of_pos hqa]; simp; omega
        | false => rw [List.filter_cons_of_neg (by simp [hqa])]; exact ih
theorem leftN_push {es : Array MapEntry} {seen : Array Nat} {x : MapEntry} (hx : x ∈ es.toList) (hs : seen.contains x.born = false) : leftN es (seen.push x.born) < leftN es seen := by
  unfold leftN
  refine filter_len_lt _ (fun y _ h => ?_) hx (by simp) (by simpa using hs)
  simp [Array.contains_push] at h ⊢
  exact fun q => h.1 q
end Go.Am
