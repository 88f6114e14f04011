/- VfsNone: the law returns true, of all arguments of its types, in whatever memory. Part 9 of 29; no condition. -/
import Derived.Test.YtnhhppflnpfehaaGreatDoorM8
section
/- Short forms of operations, and what each does when its operands are known; conditions that are not decided. Plain lemmas; no condition. -/
set_option linter.unusedVariables false
namespace Go.Pm
open Go.RowKit Go.Am

/-! ### Short forms -/
abbrev T (i : Nat) : Operand := .tmp i
abbrev K (n : Int) : Operand := .const (.int .i64 n)
def oV (d : Nat) (f : PSt → Option PV) : RI := .st (rI (some d) none (rv f))
def oG (d g : Nat) (w : Bool) (f : PSt → Option PV) : RI := .st (rI (some d) (some (g, w)) (rv f))
def oU (d : Nat) (F : PSt → Option (PV × PSt)) : RI := .st (rI (some d) none F)
def oH (d g : Nat) (w : Bool) (F : PSt → Option (PV × PSt)) : RI := .st (rI (some d) (some (g, w)) F)
def oS (F : PSt → Option (PV × PSt)) : RI := .st (rI none none F)
noncomputable def oC (d : Nat) (f : Operand) (as : List Operand) : RI := .call (some d) (fun s => rg none s) (fun s => pev s.tm f) (fun s => as.map (pev s.tm))
noncomputable def oN (f : Operand) (as : List Operand) : RI := .call none (fun s => rg none s) (fun s => pev s.tm f) (fun s => as.map (pev s.tm))
noncomputable def oCG (d g : Nat) (w : Bool) (f : Operand) (as : List Operand) : RI := .call (some d) (fun s => rg (some (g, w)) s) (fun s => pev s.tm f) (fun s => as.map (pev s.tm))
/-- Appends: to a list, or to a row. -/
noncomputable def oA (d sz by_ zl : Nat) (x y : Operand) : RI := .alt (rI (some d) none (rappend sz by_ zl x y)) (rI (some d) none (rappendR sz by_ zl x y))
noncomputable def oZ (d sz by_ : Nat) (z : List PV) (x y : Operand) : RI := .alt (rI (some d) none rnone) (rI (some d) none (rappendZ sz by_ z x y))
/-- Is a list nil? -/
def oL (d : Nat) (neg : Bool) (x : Operand) : RI := .nilc (some d) (fun s => rg none s) neg (fun s => pev s.tm x)
def oLG (d g : Nat) (w neg : Bool) (x : Operand) : RI := .nilc (some d) (fun s => rg (some (g, w)) s) neg (fun s => pev s.tm x)
def dV (d : Nat) (f : PSt → Option PV) : RD := .st true (rI (some d) none (rv f))
def dG (d g : Nat) (w : Bool) (f : PSt → Option PV) : RD := .st true (rI (some d) (some (g, w)) (rv f))
def dU (d : Nat) (F : PSt → Option (PV × PSt)) : RD := .st true (rI (some d) none F)
def dH (d g : Nat) (w : Bool) (F : PSt → Option (PV × PSt)) : RD := .st true (rI (some d) (some (g, w)) F)
def dS (F : PSt → Option (PV × PSt)) : RD := .st true (rI none none F)
noncomputable def dC (fr : Bool) (d : Nat) (f : Operand) (as : List Operand) : RD := .call fr (some d) (fun s => rg none s) (fun s => pev s.tm f) (fun s => as.map (pev s.tm))
noncomputable def dN (fr : Bool) (f : Operand) (as : List Operand) : RD := .call fr none (fun s => rg none s) (fun s => pev s.tm f) (fun s => as.map (pev s.tm))
noncomputable def dCG (fr : Bool) (d g : Nat) (w : Bool) (f : Operand) (as : List Operand) : RD := .call fr (some d) (fun s => rg (some (g, w)) s) (fun s => pev s.tm f) (fun s => as.map (pev s.tm))
noncomputable def rX (t : Nat) : PSt → PV := fun s => tget s.tm t

/-! ### Inner functions -/
noncomputable def rowTake (ag : Bool) (n o : Nat) : Option Obj → Option PV
  | some (.row _ _ cs) => ptake ag n cs o
  | _ => none
noncomputable def loadP (k : Nat) (os : List Obj) (M : PMem) (ag : Bool) (n : Nat) : PV → Option PV
  | .ptr a i o => rowTake ag n o (if a = k then os[i]? else M a i)
  | .dp cs o => ptake ag n cs o
  | _ => none
def faddrP (off : Nat) : PV → Option PV
  | .ptr k i o => some (.ptr k i (o + off))
  | .dp cs o => some (.dp cs (o + off))
  | _ => none
noncomputable def fieldP (ag : Bool) (n off : Nat) : PV → Option PV
  | .agg cs => rpart ag n off cs
  | _ => none
def extP (i : Nat) : PV → Option PV
  | .tup vs => vs[i]?
  | _ => none
def storeO (n : Nat) (o : Nat) (x : PV) : Option Obj → Option Obj
  | some (.row .rw es cs) => if (pcells x).length = n ∧ o + (pcells x).length ≤ cs.length ∧ (pcells x).all pone = true then some (.row .rw es (psplice cs o (pcells x))) else none
  | _ => none

section
variable {E : Env} {P : Program} {tm : List (Nat × PV)} {nt k d g n c e : Nat} {os os' : List Obj} {M : PMem} {f : PSt → Option PV} {F : PSt → Option (PV × PSt)} {r x va vb vc : PV} {l : List RI} {ld : List RD} {R : PSt → Prop} {want : Bool} {A B C : Operand}

/-! ### Values of operations -/
theorem ev_mv (h : pev tm A = va) : rmv A ⟨tm, nt, k, os, M⟩ = some va := by rw [← h]; rfl
theorem ev_bin {op : BinOp} {t : Nat} {c d : Bool} (h1 : pev tm A = va) (h2 : pev tm B = vb) (h : pbin E op t c d va vb = some r) : rbin E op t c d A B ⟨tm, nt, k, os, M⟩ = some r := by
  subst h1 h2; exact h
theorem ev_un {op : UnOp} (h1 : pev tm A = va) (h : pun op va = some r) : run' op A ⟨tm, nt, k, os, M⟩ = some r := by subst h1; exact h
theorem ev_pick (h1 : pev tm A = va) (h2 : pev tm B = vb) (h3 : pev tm C = vc) (h : ppick va vb vc = some r) : rpick A B C ⟨tm, nt, k, os, M⟩ = some r := by subst h1 h2 h3; exact h
theorem ev_load {ag : Bool} (h1 : pev tm A = va) (h : loadP k os M ag n va = some r) : rload ag n A ⟨tm, nt, k, os, M⟩ = some r := by
  subst h1
  unfold rload
  unfold loadP at h
  dsimp only [PSt.look]
  split at h
  · rename_i h0; rw [h0]
    unfold rowTake at h
    split at h
    · rename_i h1; dsimp only; rw [h1]; exact h
    · cases h
  · rename_i h0; rw [h0]; exact h
  · cases h
theorem ev_faddr (h1 : pev tm A = va) (h : faddrP n va = some r) : rfaddr n A ⟨tm, nt, k, os, M⟩ = some r := by subst h1; exact h
theorem ev_field {ag : Bool} {o : Nat} (h1 : pev tm A = va) (h : fieldP ag n o va = some r) : rfield ag n o A ⟨tm, nt, k, os, M⟩ = some r := by subst h1; exact h
theorem ev_iaddr (h1 : pev tm A = va) (h2 : pev tm B = vb) (h : iaddrS n va vb = some r) : riaddr n A B ⟨tm, nt, k, os, M⟩ = some r := by subst h1 h2; exact h
theorem ev_iaddrA (h1 : pev tm A = va) (h2 : pev tm B = vb) (h : iaddrA c n va vb = some r) : riaddrA c n A B ⟨tm, nt, k, os, M⟩ = some r := by subst h1 h2; exact h
theorem ev_len (h1 : pev tm A = va) (h : lenL va = some r) : rlen A ⟨tm, nt, k, os, M⟩ = some r := by subst h1; exact h
theorem ev_lenS (h1 : pev tm A = va) (h : lenS va = some r) : rlenS A ⟨tm, nt, k, os, M⟩ = some r := by subst h1; exact h
theorem ev_idxS (h1 : pev tm A = va) (h2 : pev tm B = vb) (h : idxS va vb = some r) : ridxS A B ⟨tm, nt, k, os, M⟩ = some r := by subst h1 h2; exact h
theorem ev_ext (h1 : pev tm A = va) (h : extP n va = some r) : rext A n ⟨tm, nt, k, os, M⟩ = some r := by subst h1; exact h

/-! ### Steps -/
theorem sV (hf : f ⟨tm, nt, k, os, M⟩ = some x) (hd : d < nt) (h : RPO E P l ⟨(d, x) :: tm, nt, k, os, M⟩ R) : RPO E P (oV d f :: l) ⟨tm, nt, k, os, M⟩ R := RPO.v hf hd h
theorem sGt (hg : tget tm g = .v (.bool want)) (hf : f ⟨tm, nt, k, os, M⟩ = some x) (hd : d < nt) (h : RPO E P l ⟨(d, x) :: tm, nt, k, os, M⟩ R) : RPO E P (oG d g want f :: l) ⟨tm, nt, k, os, M⟩ R := RPO.gt hg hf hd h
theorem sGf (hg : tget tm g = .v (.bool (!want))) (hd : d < nt) (h : RPO E P l ⟨(d, .tup []) :: tm, nt, k, os, M⟩ R) : RPO E P (oG d g want f :: l) ⟨tm, nt, k, os, M⟩ R := RPO.gf hg hd h
theorem sGu (hg : tget tm g = .tup []) (hd : d < nt) (h : RPO E P l ⟨(d, .tup []) :: tm, nt, k, os, M⟩ R) : RPO E P (oG d g want f :: l) ⟨tm, nt, k, os, M⟩ R := RPO.gu hg hd h
theorem sHf (hg : tget tm g = .v (.bool (!want))) (hd : d < nt) (h : RPO E P l ⟨(d, .tup []) :: tm, nt, k, os, M⟩ R) : RPO E P (oH d g want F :: l) ⟨tm, nt, k, os, M⟩ R := RPO.gf hg hd h
theorem sHu (hg : tget tm g = .tup []) (hd : d < nt) (h : RPO E P l ⟨(d, .tup []) :: tm, nt, k, os, M⟩ R) : RPO E P (oH d g want F :: l) ⟨tm, nt, k, os, M⟩ R := RPO.gu hg hd h
theorem tV (hf : f ⟨tm, nt, k, os, M⟩ = some x) (hd : d < nt) (h : RPD E P ld ⟨(d, x) :: tm, nt, k, os, M⟩ R) : RPD E P (dV d f :: ld) ⟨tm, nt, k, os, M⟩ R := RPD.v hf hd h
theorem tGt (hg : tget tm g = .v (.bool want)) (hf : f ⟨tm, nt, k, os, M⟩ = some x) (hd : d < nt) (h : RPD E P ld ⟨(d, x) :: tm, nt, k, os, M⟩ R) : RPD E P (dG d g want f :: ld) ⟨tm, nt, k, os, M⟩ R := RPD.gt hg hf hd h
theorem tGf (hg : tget tm g = .v (.bool (!want))) (hd : d < nt) (h : RPD E P ld ⟨(d, .tup []) :: tm, nt, k, os, M⟩ R) : RPD E P (dG d g want f :: ld) ⟨tm, nt, k, os, M⟩ R := RPD.gf hg hd h
theorem tGu (hg : tget tm g = .tup []) (hd : d < nt) (h : RPD E P ld ⟨(d, .tup []) :: tm, nt, k, os, M⟩ R) : RPD E P (dG d g want f :: ld) ⟨tm, nt, k, os, M⟩ R := RPD.gu hg hd h

theorem sGfT (hg : tget tm g = .v (.bool false)) (hd : d < nt) (h : RPO E P l ⟨(d, .tup []) :: tm, nt, k, os, M⟩ R) : RPO E P (oG d g true f :: l) ⟨tm, nt, k, os, M⟩ R := RPO.gf hg hd h
theorem sHfT (hg : tget tm g = .v (.bool false)) (hd : d < nt) (h : RPO E P l ⟨(d, .tup []) :: tm, nt, k, os, M⟩ R) : RPO E P (oH d g true F :: l) ⟨tm, nt, k, os, M⟩ R := RPO.gf hg hd h
theorem sGfF (hg : tget tm g = .v (.bool true)) (hd : d < nt) (h : RPO E P l ⟨(d, .tup []) :: tm, nt, k, os, M⟩ R) : RPO E P (oG d g false f :: l) ⟨tm, nt, k, os, M⟩ R := RPO.gf hg hd h
theorem sHfF (hg : tget tm g = .v (.bool true)) (hd : d < nt) (h : RPO E P l ⟨(d, .tup []) :: tm, nt, k, os, M⟩ R) : RPO E P (oH d g false F :: l) ⟨tm, nt, k, os, M⟩ R := RPO.gf hg hd h
theorem tGfT (hg : tget tm g = .v (.bool false)) (hd : d < nt) (h : RPD E P ld ⟨(d, .tup []) :: tm, nt, k, os, M⟩ R) : RPD E P (dG d g true f :: ld) ⟨tm, nt, k, os, M⟩ R := RPD.gf hg hd h
theorem tHfT (hg : tget tm g = .v (.bool false)) (hd : d < nt) (h : RPD E P ld ⟨(d, .tup []) :: tm, nt, k, os, M⟩ R) : RPD E P (dH d g true F :: ld) ⟨tm, nt, k, os, M⟩ R := RPD.gf hg hd h
theorem tGfF (hg : tget tm g = .v (.bool true)) (hd : d < nt) (h : RPD E P ld ⟨(d, .tup []) :: tm, nt, k, os, M⟩ R) : RPD E P (dG d g false f :: ld) ⟨tm, nt, k, os, M⟩ R := RPD.gf hg hd h
theorem tHfF (hg : tget tm g = .v (.bool true)) (hd : d < nt) (h : RPD E P ld ⟨(d, .tup []) :: tm, nt, k, os, M⟩ R) : RPD E P (dH d g false F :: ld) ⟨tm, nt, k, os, M⟩ R := RPD.gf hg hd h

/-! ### Memory -/
theorem new_eq {z : List PV} (hn : os.length = n) (ho : os ++ [.row .rw 0 z] = os') : rnew z ⟨tm, nt, k, os, M⟩ = some (.ptr k n 0, ⟨tm, nt, k, os', M⟩) := by
  subst hn ho; rfl
theorem sNew {z : List PV} (hn : os.length = n) (ho : os ++ [.row .rw 0 z] = os') (hd : d < nt) (h : RPO E P l ⟨(d, .ptr k n 0) :: tm, nt, k, os', M⟩ R) : RPO E P (oU d (rnew z) :: l) ⟨tm, nt, k, os, M⟩ R := RPO.m (new_eq hn ho) hd h
theorem tNew {z : List PV} (hn : os.length = n) (ho : os ++ [.row .rw 0 z] = os') (hd : d < nt) (h : RPD E P ld ⟨(d, .ptr k n 0) :: tm, nt, k, os', M⟩ R) : RPD E P (dU d (rnew z) :: ld) ⟨tm, nt, k, os, M⟩ R := RPD.m (new_eq hn ho) hd h
theorem box_eq {z : List PV} (h1 : pev tm A = va) (hj : notJunk va = true) (hz : pcells va = z) (hn : os.length = n) (ho : os ++ [.row .rw 0 z] = os') : rbox A ⟨tm, nt, k, os, M⟩ = some (.ptr k n 0, ⟨tm, nt, k, os', M⟩) := by
  subst h1 hn ho hz; unfold rbox; dsimp only; rw [if_pos hj]; rfl
theorem sBox {z : List PV} (h1 : pev tm A = va) (hj : notJunk va = true) (hz : pcells va = z) (hn : os.length = n) (ho : os ++ [.row .rw 0 z] = os') (hd : d < nt) (h : RPO E P l ⟨(d, .ptr k n 0) :: tm, nt, k, os', M⟩ R) : RPO E P (oU d (rbox A) :: l) ⟨tm, nt, k, os, M⟩ R := RPO.m (box_eq h1 hj hz hn ho) hd h
theorem tBox {z : List PV} (h1 : pev tm A = va) (hj : notJunk va = true) (hz : pcells va = z) (hn : os.length = n) (ho : os ++ [.row .rw 0 z] = os') (hd : d < nt) (h : RPD E P ld ⟨(d, .ptr k n 0) :: tm, nt, k, os', M⟩ R) : RPD E P (dU d (rbox A) :: ld) ⟨tm, nt, k, os, M⟩ R := RPD.m (box_eq h1 hj hz hn ho) hd h
theorem store_eq {i o : Nat} {ob : Obj} (h1 : pev tm A = .ptr k i o) (h2 : pev tm B = vb) (h3 : storeO n o vb os[i]? = some ob) (h4 : os.set i ob = os') : rstore n A B ⟨tm, nt, k, os, M⟩ = some (.junk, ⟨tm, nt, k, os', M⟩) := by
  subst h2 h4
  unfold rstore
  dsimp only [PSt.look, PSt.putO]
  rw [h1]
  unfold storeO at h3
  dsimp only [PSt.look, PSt.putO]
  rw [if_pos rfl]
  split at h3
  · rename_i es cs e
    split at h3
    · rename_i hc
      cases h3
      rw [e]
      dsimp only
      rw [if_pos hc, if_pos rfl]
    · cases h3
  · cases h3
theorem sStore {i o : Nat} {ob : Obj} (h1 : pev tm A = .ptr k i o) (h2 : pev tm B = vb) (h3 : storeO n o vb os[i]? = some ob) (h4 : os.set i ob = os') (h : RPO E P l ⟨tm, nt, k, os', M⟩ R) : RPO E P (oS (rstore n A B) :: l) ⟨tm, nt, k, os, M⟩ R := RPO.m0 (store_eq h1 h2 h3 h4) h
theorem tStore {i o : Nat} {ob : Obj} (h1 : pev tm A = .ptr k i o) (h2 : pev tm B = vb) (h3 : storeO n o vb os[i]? = some ob) (h4 : os.set i ob = os') (h : RPD E P ld ⟨tm, nt, k, os', M⟩ R) : RPD E P (dS (rstore n A B) :: ld) ⟨tm, nt, k, os, M⟩ R := RPD.m0 (store_eq h1 h2 h3 h4) h
theorem sU (hf : F ⟨tm, nt, k, os, M⟩ = some (x, ⟨tm, nt, k, os', M⟩)) (hd : d < nt) (h : RPO E P l ⟨(d, x) :: tm, nt, k, os', M⟩ R) : RPO E P (oU d F :: l) ⟨tm, nt, k, os, M⟩ R := RPO.m hf hd h
theorem tU (hf : F ⟨tm, nt, k, os, M⟩ = some (x, ⟨tm, nt, k, os', M⟩)) (hd : d < nt) (h : RPD E P ld ⟨(d, x) :: tm, nt, k, os', M⟩ R) : RPD E P (dU d F :: ld) ⟨tm, nt, k, os, M⟩ R := RPD.m hf hd h

/-! ### Conditions that are not decided -/
variable {cnd : Bool → PV → PV}
abbrev Cnd (cnd : Bool → PV → PV) : Prop := (∀ x, cnd true x = x) ∧ (∀ x, cnd false x = .tup [])
theorem rg_sym {b : Bool} (hg : tget tm g = .v (.bool b)) : rg (some (g, want)) ⟨tm, nt, k, os, M⟩ = some (b == want) := by simp only [rg, hg]
theorem rg_cnd {b cb : Bool} (hc : Cnd cnd) (hg : tget tm g = cnd cb (.v (.bool b))) : rg (some (g, want)) ⟨tm, nt, k, os, M⟩ = some (cb && (b == want)) := by
  cases cb with
  | true => rw [hc.1] at hg; rw [rg_sym hg]; rfl
  | false => rw [hc.2] at hg; simp only [rg, hg]; rfl
theorem guard_sym {b : Bool} (hc : Cnd cnd) (hg : rg (some (g, want)) ⟨tm, nt, k, os, M⟩ = some b) (hf : b = true → f ⟨tm, nt, k, os, M⟩ = some x) (hd : d < nt) : rI (some d) (some (g, want)) (rv f) ⟨tm, nt, k, os, M⟩ = some ⟨(d, cnd b x) :: tm, nt, k, os, M⟩ := by
  cases b with
  | true => simp only [rI, hg, rv, hf rfl, pput, if_pos hd, hc.1]
  | false => simp only [rI, hg, pput, if_pos hd, hc.2]
theorem eqT (b : Bool) : (b == true) = b := by cases b <;> rfl
theorem eqF (b : Bool) : (b == false) = !b := by cases b <;> rfl
theorem sGsT {b : Bool} (hc : Cnd cnd) (hg : tget tm g = .v (.bool b)) (hf : b = true → f ⟨tm, nt, k, os, M⟩ = some x) (hd : d < nt) (h : RPO E P l ⟨(d, cnd b x) :: tm, nt, k, os, M⟩ R) : RPO E P (oG d g true f :: l) ⟨tm, nt, k, os, M⟩ R :=
  ⟨_, guard_sym hc (by rw [rg_sym hg, eqT]) hf hd, h⟩
theorem sGsF {b : Bool} (hc : Cnd cnd) (hg : tget tm g = .v (.bool b)) (hf : b = false → f ⟨tm, nt, k, os, M⟩ = some x) (hd : d < nt) (h : RPO E P l ⟨(d, cnd (!b) x) :: tm, nt, k, os, M⟩ R) : RPO E P (oG d g false f :: l) ⟨tm, nt, k, os, M⟩ R :=
  ⟨_, guard_sym hc (by rw [rg_sym hg, eqF]) (fun e => hf (by simpa using e)) hd, h⟩
theorem sGcT {b cb : Bool} (hc : Cnd cnd) (hg : tget tm g = cnd cb (.v (.bool b))) (hf : cb = true → b = true → f ⟨tm, nt, k, os, M⟩ = some x) (hd : d < nt) (h : RPO E P l ⟨(d, cnd (cb && b) x) :: tm, nt, k, os, M⟩ R) : RPO E P (oG d g true f :: l) ⟨tm, nt, k, os, M⟩ R :=
  ⟨_, guard_sym hc (by rw [rg_cnd hc hg, eqT]) (fun e => by rw [Bool.and_eq_true] at e; exact hf e.1 e.2) hd, h⟩
theorem sGcF {b cb : Bool} (hc : Cnd cnd) (hg : tget tm g = cnd cb (.v (.bool b))) (hf : cb = true → b = false → f ⟨tm, nt, k, os, M⟩ = some x) (hd : d < nt) (h : RPO E P l ⟨(d, cnd (cb && !b) x) :: tm, nt, k, os, M⟩ R) : RPO E P (oG d g false f :: l) ⟨tm, nt, k, os, M⟩ R :=
  ⟨_, guard_sym hc (by rw [rg_cnd hc hg, eqF]) (fun e => by rw [Bool.and_eq_true] at e; exact hf e.1 (by simpa using e.2)) hd, h⟩
theorem tGsT {b : Bool} (hc : Cnd cnd) (hg : tget tm g = .v (.bool b)) (hf : b = true → f ⟨tm, nt, k, os, M⟩ = some x) (hd : d < nt) (h : RPD E P ld ⟨(d, cnd b x) :: tm, nt, k, os, M⟩ R) : RPD E P (dG d g true f :: ld) ⟨tm, nt, k, os, M⟩ R :=
  ⟨rfl, _, guard_sym hc (by rw [rg_sym hg, eqT]) hf hd, h⟩
theorem tGsF {b : Bool} (hc : Cnd cnd) (hg : tget tm g = .v (.bool b)) (hf : b = false → f ⟨tm, nt, k, os, M⟩ = some x) (hd : d < nt) (h : RPD E P ld ⟨(d, cnd (!b) x) :: tm, nt, k, os, M⟩ R) : RPD E P (dG d g false f :: ld) ⟨tm, nt, k, os, M⟩ R :=
  ⟨rfl, _, guard_sym hc (by rw [rg_sym hg, eqF]) (fun e => hf (by simpa using e)) hd, h⟩
theorem tGcT {b cb : Bool} (hc : Cnd cnd) (hg : tget tm g = cnd cb (.v (.bool b))) (hf : cb = true → b = true → f ⟨tm, nt, k, os, M⟩ = some x) (hd : d < nt) (h : RPD E P ld ⟨(d, cnd (cb && b) x) :: tm, nt, k, os, M⟩ R) : RPD E P (dG d g true f :: ld) ⟨tm, nt, k, os, M⟩ R :=
  ⟨rfl, _, guard_sym hc (by rw [rg_cnd hc hg, eqT]) (fun e => by rw [Bool.and_eq_true] at e; exact hf e.1 e.2) hd, h⟩
theorem tGcF {b cb : Bool} (hc : Cnd cnd) (hg : tget tm g = cnd cb (.v (.bool b))) (hf : cb = true → b = false → f ⟨tm, nt, k, os, M⟩ = some x) (hd : d < nt) (h : RPD E P ld ⟨(d, cnd (cb && !b) x) :: tm, nt, k, os, M⟩ R) : RPD E P (dG d g false f :: ld) ⟨tm, nt, k, os, M⟩ R :=
  ⟨rfl, _, guard_sym hc (by rw [rg_cnd hc hg, eqF]) (fun e => by rw [Bool.and_eq_true] at e; exact hf e.1 (by simpa using e.2)) hd, h⟩
theorem pick_or {a b : Bool} (hc : Cnd cnd) : ppick (.v (.bool a)) (.v (.bool true)) (cnd (!a) (.v (.bool b))) = some (.v (.bool (a || b))) := by cases a <;> simp [ppick, hc.1]
theorem pick_and {a b : Bool} (hc : Cnd cnd) : ppick (.v (.bool a)) (cnd a (.v (.bool b))) (.v (.bool false)) = some (.v (.bool (a && b))) := by cases a <;> simp [ppick, hc.1]
theorem cnd_ex : ∃ cnd : Bool → PV → PV, Cnd cnd ∧ (∀ a b : Bool, ppick (.v (.bool a)) (.v (.bool true)) (cnd (!a) (.v (.bool b))) = some (.v (.bool (a || b)))) ∧
    (∀ a b : Bool, ppick (.v (.bool a)) (cnd a (.v (.bool b))) (.v (.bool false)) = some (.v (.bool (a && b)))) :=
  ⟨fun b x => bif b then x else .tup [], ⟨fun _ => rfl, fun _ => rfl⟩, fun a b => pick_or (cnd := fun b x => bif b then x else .tup []) ⟨fun _ => rfl, fun _ => rfl⟩, fun a b => pick_and (cnd := fun b x => bif b then x else .tup []) ⟨fun _ => rfl, fun _ => rfl⟩⟩
end

end Go.Pm
end
