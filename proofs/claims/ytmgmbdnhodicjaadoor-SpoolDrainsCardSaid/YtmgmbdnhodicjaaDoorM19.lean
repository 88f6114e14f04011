/- SpoolDrains: the law returns true, of all arguments of its types, in whatever memory. Part 19 of 39; no condition. -/
import Derived.Test.YtmgmbdnhodicjaaDoorM18
section
/- Appends, by equations: to lists, or to rows. Plain lemmas; no condition. -/
set_option linter.unusedVariables false
namespace Go.Pm
open Go.RowKit Go.Am

section
variable {E : Env} {P : Program} {tm : List (Nat × PV)} {nt k n m i es sz by_ zl d a c o : Nat} {os : List Obj} {M : PMem} {A B : Operand} {cs ds z cells : List PV} {t : Tok} {v : PV} {κ : Kont} {R : PSt → Prop} {l : List RI}
noncomputable def appRP (s : PSt) (sz by_ zl : Nat) (x y : PV) : Option (PV × PSt) := match psource s sz y with
  | none => none
  | some (new, k) => match x with
    | .lst .full es n cs =>
      if k ≠ 0 ∧ (n = 0 ∨ es = sz) ∧ (2 * (n + k) + 2000) * by_ ≤ 281474976710656 ∧ n + k ≤ 4611686018427387904 ∧ sz < 4096 ∧ zl = sz ∧ new.all pone = true then
        some (.sl s.k s.os.length 0 (n + k) (loCap (n + k) sz), { s with os := s.os ++ [.row .rw sz (cs ++ new)] })
      else none
    | .sl a b o n c =>
      if k = 0 ∧ n ≤ capOf c then some (.sl a b o n c, s)
      else if n + k ≤ capOf c then
        match s.look a b with
        | some (.row .rw es cells) => if o + n * sz + new.length ≤ cells.length ∧ new.all pone = true then some (.sl a b o (n + k) c, s.putO a b (.row .rw es (psplice cells (o + n * sz) new))) else none
        | _ => none
      else none
    | _ => none
theorem r_appendR : rappendR sz by_ zl A B ⟨tm, nt, k, os, M⟩ = appRP ⟨tm, nt, k, os, M⟩ sz by_ zl (pev tm A) (pev tm B) := by
  unfold rappendR appRP
  rfl
/-- Zeros appended to nothing: a row of one's own. -/
noncomputable def appZP (s : PSt) (sz by_ : Nat) (z : List PV) (x y : PV) : Option (PV × PSt) := match (match pnat? y with
    | some k => (if k ≤ 1048576 ∧ z.length = sz ∧ by_ * k ≤ 281474976710656 then some ((List.replicate k z).flatten, k) else none)
    | none => none) with
  | none => none
  | some (new, k) => match x with
    | .lst .full es n cs =>
      if k ≠ 0 ∧ (n = 0 ∨ es = sz) ∧ (2 * (n + k) + 2000) * by_ ≤ 281474976710656 ∧ n + k ≤ 4611686018427387904 ∧ sz < 4096 ∧ z.length = sz ∧ new.all pone = true then
        some (.sl s.k s.os.length 0 (n + k) (loCap (n + k) sz), { s with os := s.os ++ [.row .rw sz (cs ++ new)] })
      else none
    | .sl a b o n c =>
      if k = 0 ∧ n ≤ capOf c then some (.sl a b o n c, s)
      else if n + k ≤ capOf c then
        match s.look a b with
        | some (.row .rw es cells) => if o + n * sz + new.length ≤ cells.length ∧ new.all pone = true then some (.sl a b o (n + k) c, s.putO a b (.row .rw es (psplice cells (o + n * sz) new))) else none
        | _ => none
      else none
    | _ => none
theorem r_appendZ : rappendZ sz by_ z A B ⟨tm, nt, k, os, M⟩ = appZP ⟨tm, nt, k, os, M⟩ sz by_ z (pev tm A) (pev tm B) := by
  unfold rappendZ appZP
  rfl
/-- An append: what it gives as a list, or as a row. -/
def aA (E : Env) (P : Program) (d : Nat) (κ : Kont) (R : PSt → Prop) (p q : Option (PV × PSt)) : Prop := nU E P d κ R p ∨ nU E P d κ R q
theorem aL {p q : Option (PV × PSt)} (h : nU E P d κ R p) : aA E P d κ R p q := .inl h
theorem aR {p q : Option (PV × PSt)} (h : nU E P d κ R q) : aA E P d κ R p q := .inr h
theorem e_A : RPO E P (oA d sz by_ zl A B :: l) ⟨tm, nt, k, os, M⟩ R = aA E P d (.o l) R (appP ⟨tm, nt, k, os, M⟩ sz by_ zl (pev tm A) (pev tm B)) (appRP ⟨tm, nt, k, os, M⟩ sz by_ zl (pev tm A) (pev tm B)) := by
  have h1 : RPO E P (oU d (rappend sz by_ zl A B) :: l) ⟨tm, nt, k, os, M⟩ R = nU E P d (.o l) R (rappend sz by_ zl A B ⟨tm, nt, k, os, M⟩) := e_U
  have h2 : RPO E P (oU d (rappendR sz by_ zl A B) :: l) ⟨tm, nt, k, os, M⟩ R = nU E P d (.o l) R (rappendR sz by_ zl A B ⟨tm, nt, k, os, M⟩) := e_U
  rw [r_append] at h1
  rw [r_appendR] at h2
  show (RPO E P (oU d (rappend sz by_ zl A B) :: l) ⟨tm, nt, k, os, M⟩ R ∨ RPO E P (oU d (rappendR sz by_ zl A B) :: l) ⟨tm, nt, k, os, M⟩ R) = _
  rw [h1, h2]; rfl
theorem e_Z : RPO E P (oZ d sz by_ z A B :: l) ⟨tm, nt, k, os, M⟩ R = nU E P d (.o l) R (appZP ⟨tm, nt, k, os, M⟩ sz by_ z (pev tm A) (pev tm B)) := by
  have h2 : RPO E P (oU d (rappendZ sz by_ z A B) :: l) ⟨tm, nt, k, os, M⟩ R = nU E P d (.o l) R (rappendZ sz by_ z A B ⟨tm, nt, k, os, M⟩) := e_U
  rw [r_appendZ] at h2
  rw [← h2]
  apply propext
  constructor
  · rintro (⟨s1, h, _⟩ | h)
    · simp [rI, rg, rnone] at h
    · exact h
  · intro h; exact .inr h
theorem r_cap : rcap A ⟨tm, nt, k, os, M⟩ = capL (pev tm A) := rfl
theorem cap_nil : capL (.lst .full es n cs) = some (.v (.int .i64 n)) := rfl
theorem apr_none (hn : n ≤ capOf c) : appRP ⟨tm, nt, k, os, M⟩ sz by_ zl (.sl a i o n c) (.lst t es 0 ds) = some (.sl a i o n c, ⟨tm, nt, k, os, M⟩) := by
  unfold appRP psource
  simp only [if_true, if_pos (show True ∧ n ≤ capOf c from ⟨trivial, hn⟩)]
theorem apr_out (hm : m ≠ 0) (ha : a ≠ k) (hc : n + m ≤ capOf c) (hg : M a i = some (.row .rw es cells)) (hl : o + n * sz + ds.length ≤ cells.length) (ho : ds.all pone = true) :
    appRP ⟨tm, nt, k, os, M⟩ sz by_ zl (.sl a i o n c) (.lst t sz m ds) = some (.sl a i o (n + m) c, ⟨tm, nt, k, os, putM M a i (.row .rw es (psplice cells (o + n * sz) ds))⟩) := by
  unfold appRP psource
  simp only [if_neg hm, if_true, PSt.look, if_neg ha, hg, PSt.putO]
  rw [if_neg (fun x => hm x.1), if_pos hc, if_pos ⟨hl, ho⟩]
theorem apz_nil (hm : m ≠ 0) (hz : z.length = sz) (hb : m ≤ 1048576 ∧ by_ * m ≤ 281474976710656 ∧ (2 * m + 2000) * by_ ≤ 281474976710656 ∧ sz < 4096) (ho : ((List.replicate m z).flatten).all pone = true) :
    appZP ⟨tm, nt, k, os, M⟩ sz by_ z (.lst .full es 0 []) (.v (.int .i64 (m : Int))) = some (.sl k os.length 0 m (loCap m sz), ⟨tm, nt, k, os ++ [.row .rw sz ((List.replicate m z).flatten)], M⟩) := by
  obtain ⟨h1, h2, h3, h4⟩ := hb
  unfold appZP
  simp only [pnat_int, if_pos (show m ≤ 1048576 ∧ z.length = sz ∧ by_ * m ≤ 281474976710656 from ⟨h1, hz, h2⟩), Nat.zero_add, List.nil_append]
  rw [if_pos ⟨hm, .inl (by trivial), h3, by omega, h4, hz, ho⟩]
end
end Go.Pm
end
