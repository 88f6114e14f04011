/- TableMoves holds. Part 1 of 29; no condition. -/
import Derived.RangeFuncRecord
import Derived.OrdersIn
import Derived.KernelRfl
import Derived.Below
import Derived.Laws.StructEq
import Derived.Laws.BytesString
import Derived.Laws.Tables
import Derived.Laws.Slices
set_option linter.unusedVariables false
set_option linter.unusedSimpArgs false
set_option maxHeartbeats 4000000
set_option maxRecDepth 100000
noncomputable section
namespace Go.Am
def nthK {α : Type} (d : α) (l : List α) : Nat -> α :=
 List.rec (motive := fun _ => Nat -> α) (fun _ => d) (fun x _ ih i => Nat.rec (motive := fun _ => α) x (fun i _ => ih i) i) l
def modK {α : Type} (d : α) (f : α -> α) (i : Nat) : List α -> List α :=
 Nat.rec (motive := fun _ => List α -> List α) (fun l => List.rec (motive := fun _ => List α) [f d] (fun y r _ => f y :: r) l)
  (fun _ ih l => List.rec (motive := fun _ => List α) (d :: ih []) (fun y r _ => y :: ih r) l) i
theorem nthK_nil {α : Type} (d : α) (i : Nat) : nthK d [] i = d := rfl
theorem nthK_zero {α : Type} (d x : α) (l : List α) : nthK d (x :: l) 0 = x := rfl
theorem nthK_succ {α : Type} (d x : α) (l : List α) (i : Nat) : nthK d (x :: l) (i + 1) = nthK d l i := rfl
theorem modK_nil0 {α : Type} (d : α) (f : α -> α) : modK d f 0 [] = [f d] := rfl
theorem modK_cons0 {α : Type} (d x : α) (f : α -> α) (l : List α) : modK d f 0 (x :: l) = f x :: l := rfl
theorem modK_nil1 {α : Type} (d : α) (f : α -> α) (i : Nat) : modK d f (i + 1) [] = d :: modK d f i [] := rfl
theorem modK_cons1 {α : Type} (d x : α) (f : α -> α) (l : List α) (i : Nat) : modK d f (i + 1) (x :: l) = x :: modK d f i l := rfl
theorem nthK_modK {α : Type} (d : α) (f : α -> α) : ∀ (i : Nat) (l : List α) (j : Nat), nthK d (modK d f i l) j = if j = i then f (nthK d l i) else nthK d l j := by
 intro i
 induction i with
 | zero =>
  intro l j
  cases l with
  | nil =>
   rw [modK_nil0]
   cases j with
   | zero => rfl
   | succ j => rw [nthK_succ, if_neg (by omega)]; rfl
  | cons x l =>
   rw [modK_cons0]
   cases j with
   | zero => rfl
   | succ j => rw [nthK_succ, nthK_succ, if_neg (by omega)]
 | succ i ih =>
  intro l j
  cases l with
  | nil =>
   rw [modK_nil1]
   cases j with
   | zero => rw [nthK_zero, if_neg (by omega)]; rfl
   | succ j =>
    rw [nthK_succ, ih]
    simp only [nthK_nil, Nat.add_right_cancel_iff]
  | cons x l =>
   rw [modK_cons1]
   cases j with
   | zero => rw [nthK_zero, nthK_zero, if_neg (by omega)]
   | succ j => rw [nthK_succ, nthK_succ, nthK_succ, ih]; simp only [Nat.add_right_cancel_iff]
def Tr (α : Type) : Type := List (List (List (Option α)))
def Tr.nil {α : Type} : Tr α := ([] : List (List (List (Option α))))
def Tr.at {α : Type} (t : Tr α) (b : Nat) : Option α :=
 nthK none (nthK [] (nthK [] t (Nat.div b 64)) (Nat.mod (Nat.div b 8) 8)) (Nat.mod b 8)
def Tr.put {α : Type} (t : Tr α) (b : Nat) (x : Option α) : Tr α :=
 modK [] (modK [] (modK none (fun _ => x) (Nat.mod b 8)) (Nat.mod (Nat.div b 8) 8)) (Nat.div b 64) t
theorem trKey {α : Type} (t : List (List (List (Option α)))) (b c : Nat) (x : Option α) :
  nthK none (nthK [] (nthK [] (modK [] (modK [] (modK none (fun _ => x) (b % 8)) (b / 8 % 8)) (b / 64) t) (c / 64)) (c / 8 % 8)) (c % 8) =
   if c = b then x else nthK none (nthK [] (nthK [] t (c / 64)) (c / 8 % 8)) (c % 8) := by
 rw [nthK_modK]
 by_cases h1 : c / 64 = b / 64
 ·rw [if_pos h1, nthK_modK]
  by_cases h2 : c / 8 % 8 = b / 8 % 8
  ·rw [if_pos h2, nthK_modK]
   by_cases h3 : c % 8 = b % 8
   ·rw [if_pos h3, if_pos (by omega)]
   ·rw [if_neg h3, if_neg (by omega), h1, h2]
  ·rw [if_neg h2, if_neg (by intro e; subst e; exact h2 rfl), h1]
 ·rw [if_neg h1, if_neg (by intro e; subst e; exact h1 rfl)]
theorem Tr.at_put {α : Type} (t : Tr α) (b c : Nat) (x : Option α) : (t.put b x).at c = if c = b then x else t.at c := trKey t b c x
theorem Tr.at_put_same {α : Type} (t : Tr α) (b : Nat) (x : Option α) : (t.put b x).at b = x := by rw [Tr.at_put, if_pos rfl]
theorem Tr.at_put_ne {α : Type} (t : Tr α) {b c : Nat} (x : Option α) (h : c ≠ b) : (t.put b x).at c = t.at c := by rw [Tr.at_put, if_neg h]
theorem Tr.at_nil {α : Type} (b : Nat) : (Tr.nil : Tr α).at b = none := rfl
end Go.Am
end
noncomputable section
namespace Go.Am
inductive Md where
 | ro | rw | cl
 deriving DecidableEq
inductive AObj where
 /-- 'es': the cells of an element, where slices of the row may grow; 'prev': the row that this one was appended to, while both may share one array -/
 | row (cells : List Value) (md : Md) (es : Nat) (prev : Option Nat)
 | loop (st : LoopState) (pending : Option Code) (tm : Tr Value) (nt : Nat) (params : List Tmp) (assign body : Code) (df : Nat)
 | mark
 | map (es : List MapEntry) (clock : Nat)
 | str (s : ByteArray) (pos : Nat)
structure Mem where
 base : Nat -> Option AObj
 nb : Nat
 tree : Tr AObj
 size : Nat
 bar : Nat
def Mem.get (m : Mem) (b : Nat) : Option AObj := match m with | ⟨base, nb, tree, _, _⟩ => bif Nat.blt b nb then base b else tree.at (Nat.sub b nb)
def Mem.new (m : Mem) (o : AObj) : Mem := match m with | ⟨base, nb, tree, size, bar⟩ => ⟨base, nb, tree.put (Nat.sub size nb) (some o), Nat.succ size, bar⟩
def Mem.upd (m : Mem) (b : Nat) (o : Option AObj) : Mem := match m with | ⟨base, nb, tree, size, bar⟩ => ⟨base, nb, tree.put (Nat.sub b nb) o, size, bar⟩
theorem Mem.get_def (m : Mem) (b : Nat) : m.get b = bif Nat.blt b m.nb then m.base b else m.tree.at (b - m.nb) := by cases m; rfl
theorem Mem.new_def (m : Mem) (o : AObj) : m.new o = { m with tree := m.tree.put (m.size - m.nb) (some o), size := m.size + 1 } := by cases m; rfl
theorem Mem.upd_def (m : Mem) (b : Nat) (o : Option AObj) : m.upd b o = { m with tree := m.tree.put (b - m.nb) o } := by cases m; rfl
structure Ty where
 desc : TypeDesc
 size : Nat
 bytes : Nat
 zero : Option Value
 cmp : Bool
structure Fun where
 ntmps : Nat
 results : List ResultVar
 body : Code
structure Env where
 /-- how many package-level variables there are -/
 ng : Nat
 ty : Nat -> Option Ty
 fn : Nat -> Option Fun
 /-- functions that are not entered -/
 ext : Nat -> Option (List Value -> Mem -> Option (Value × Mem))
 /-- may two values of this aggregate type be compared as they are? -/
 plainEq : Nat -> Bool
def isAgg : TypeDesc -> Bool
 | .struct _ | .array _ _ => true
 | _ => false
def Mem.cells (m : Mem) (a : Addr) (n : Nat) : Option (List Value) :=
 match m.get a.block with
 | some (.row cs _ _ _) => bif Nat.ble (a.off + n) cs.length then some ((cs.drop a.off).take n) else none
 | _ => none
def Mem.cell (m : Mem) (a : Addr) : Option Value :=
 match m.get a.block with
 | some (.row cs _ _ _) => cs[a.off]?
 | _ => none
def Mem.kill : Nat -> Mem -> Option Nat -> Option Mem
 | _, m, none => some m
 | 0, _, some _ => none
 | k + 1, m, some p =>
  match m.get p with
  | some (.row _ .cl _ q) => bif Nat.ble m.bar p then Mem.kill k (m.upd p none) q else none
  | none => some m
  | _ => none
def overK (vs : List Value) : List Value -> List Value :=
 List.rec (motive := fun _ => List Value -> List Value) (fun cs => List.rec (motive := fun _ => List Value) [] (fun c t _ => c :: t) cs) (fun v _ ih cs => List.rec (motive := fun _ => List Value) [] (fun _ t _ => v :: ih t) cs) vs
def splice (cs : List Value) (off : Nat) (vs : List Value) : List Value :=
 Nat.rec (motive := fun _ => List Value -> List Value) (fun cs => overK vs cs) (fun _ ih cs => List.rec (motive := fun _ => List Value) [] (fun c t _ => c :: ih t) cs) off cs
theorem overK_nil (cs : List Value) : overK [] cs = cs := by cases cs <;> rfl
theorem overK_cons (v c : Value) (vs cs : List Value) : overK (v :: vs) (c :: cs) = v :: overK vs cs := rfl
theorem splice_zero (cs vs : List Value) : splice cs 0 vs = overK vs cs := rfl
theorem splice_succ (c : Value) (cs : List Value) (off : Nat) (vs : List Value) : splice (c :: cs) (off + 1) vs = c :: splice cs off vs := rfl
def allOne : List Value -> Bool
 | [] => true
 | .agg _ :: _ => false
 | .tuple _ :: _ => false
 | _ :: r => allOne r
def Mem.storeCells (m : Mem) (a : Addr) (vs : List Value) : Option Mem :=
 match m.get a.block with
 | some (.row cs .rw es prev) =>
  bif Nat.ble m.bar a.block && Nat.ble (a.off + vs.length) cs.length && allOne vs then
   (m.kill m.size prev).map fun m1 => m1.upd a.block (some (.row (splice cs a.off vs) .rw es none))
  else none
 | _ => none
def addr (b : Nat) (o : Nat) : Addr := ⟨b, o, none⟩
def loadV (E : Env) (m : Mem) (t : Nat) (a : Addr) : Option Value :=
 match E.ty t with
 | some y => match isAgg y.desc with
  | true => (m.cells a y.size).map fun cs => .agg cs.toArray
  | false => m.cell a
 | none => none
def storeV (E : Env) (m : Mem) (t : Nat) (a : Addr) (v : Value) : Option Mem :=
 match E.ty t with
 | some y => bif Nat.beq v.cells.toList.length y.size then m.storeCells a v.cells.toList else none
 | none => none
def loCap (c es : Nat) : Nat := 2 * (c * 4096 + es) + 1
def capOf (k : Nat) : Nat := bif Nat.beq (k % 2) 0 then k / 2 else k / 2 / 4096
def esOf (k : Nat) : Nat := k / 2 % 4096
def undefV : Value := .tuple #[]
def ev (t : Tr Value) : Operand -> Value
 | .tmp i => match t.at i with | some v => v | none => undefV
 | .const v => v
 | .global g => .pointer (some ⟨g, 0, none⟩)
 | .func f => .func (.func f) #[] #[]
inductive ANext where
 | val (v : Value) (m : Mem)
 | enter (f : Nat) (args : List Value)
 | yield (l : Nat) (args : List Value)
def zeroOf (E : Env) (t : Nat) : Option (List Value) :=
 match E.ty t with
 | some y => match y.zero with | some v => some v.cells.toList | none => none
 | none => none
def repeatCells (z : List Value) : Nat -> List Value
 | 0 => []
 | n + 1 => z ++ repeatCells z n
def newRow (m : Mem) (cs : List Value) (es : Nat) : Addr × Mem := (addr m.size 0, m.new (.row cs .rw es none))
def fieldPlaces (E : Env) : List Field -> Option (List (Nat × Nat))
 | [] => some []
 | f :: r => match E.ty f.type, fieldPlaces E r with
  | some y, some l => some ((f.offset, y.size) :: l)
  | _, _ => none
def setCells (cs : List Value) (off : Nat) : List Value -> List Value
 | [] => cs
 | v :: r => setCells (cs.set off v) (off + 1) r
def fillL (place : Nat -> Option (Nat × Nat)) (cells : List Value) : List (Nat × Value) -> Option (List Value)
 | [] => some cells
 | (i, v) :: rest =>
  match place i with
  | none => none
  | some (off, size) =>
   bif Nat.beq v.cells.toList.length size && Nat.ble (off + v.cells.toList.length) cells.length then
    fillL place (setCells cells off v.cells.toList) rest
   else none
def buildV (E : Env) (t : Nat) (parts : List (Nat × Value)) : Option Value :=
 match E.ty t, zeroOf E t with
 | some y, some z =>
  match y.desc with
  | .struct fields => match fieldPlaces E fields.toList with
   | some ps => (fillL (fun i => ps[i]?) z parts).map fun cs => .agg cs.toArray
   | none => none
  | .array _ e => match E.ty e with
   | some ye => (fillL (fun i => some (i * ye.size, ye.size)) z parts).map fun cs => .agg cs.toArray
   | none => none
  | _ => none
 | _, _ => none
def buildSliceV (E : Env) (m : Mem) (t len : Nat) (parts : List (Nat × Value)) : Option (Value × Mem) :=
 match E.ty t with
 | some y => match y.desc with
  | .slice e => match E.ty e, zeroOf E e with
   | some ye, some z =>
    bif Nat.ble (len * ye.size) 16777216 && Nat.beq z.length ye.size then
     match fillL (fun i => some (i * ye.size, ye.size)) (repeatCells z len) parts with
     | some cs => match newRow m cs ye.size with
      | (a, m1) => some (.slice (some a) len (2 * len), m1)
     | none => none
    else none
   | _, _ => none
  | _ => none
 | none => none
def partV (E : Env) (t : Nat) (cs : List Value) (off : Nat) : Option Value :=
 match E.ty t with
 | some y => match isAgg y.desc with
  | true => some (.agg ((cs.drop off).take y.size).toArray)
  | false => cs[off]?
 | none => none
def bytesEq : List UInt8 -> List UInt8 -> Bool
 | [], [] => true
 | a :: x, b :: y => Nat.beq a.toNat b.toNat && bytesEq x y
 | _, _ => false
def bytesLt : List UInt8 -> List UInt8 -> Bool
 | _, [] => false
 | [], _ :: _ => true
 | a :: x, b :: y => Nat.blt a.toNat b.toNat || (Nat.beq a.toNat b.toNat && bytesLt x y)
def eqFields (E : Env) (eq : Nat -> Value -> Value -> Option Bool) (xs ys : List Value) : List Field -> Option Bool
 | [] => some true
 | f :: r =>
  if f.name = "_" then eqFields E eq xs ys r else
  match partV E f.type xs f.offset, partV E f.type ys f.offset with
  | some p, some q =>
   match eq f.type p q with
   | some true => eqFields E eq xs ys r
   | some false => some false
   | none => none
  | _, _ => none
def aEq (E : Env) : Nat -> Nat -> Value -> Value -> Option Bool
 | 0, _, _, _ => none
 | d + 1, t, x, y =>
  match E.ty t with
  | none => none
  | some ty =>
   match ty.desc, x, y with
   | .bool, .bool a, .bool b => some (a == b)
   | .int _, .int k a, .int k' b => if k = k' then some (a == b) else none
   | .string, .string a, .string b => some (bytesEq a.data.toList b.data.toList)
   | .pointer _, .pointer none, .pointer b => some b.isNone
   | .pointer _, .pointer (some _), .pointer none => some false
   | .pointer e, .pointer (some a), .pointer (some b) =>
    match E.ty e with
    | some ye => bif !(Nat.beq ye.size 0) && Nat.beq a.block b.block then some (Nat.beq a.off b.off) else none
    | none => none
   | .interface _, .nilIface, .nilIface => some true
   | .interface _, .nilIface, .iface _ _ => some false
   | .interface _, .iface _ _, .nilIface => some false
   | .interface _, .iface tx vx, .iface ty2 vy =>
    bif Nat.beq tx ty2 then
     match E.ty tx with
     | some yx => match yx.cmp with
      | true => aEq E d tx vx vy
      | false => none
     | none => none
    else some false
   | .struct fields, .agg xs, .agg ys =>
    match E.plainEq t with
    | true => eqFields E (aEq E d) xs.toList ys.toList fields.toList
    | false => none
   | .slice _, .slice none _ _, .slice b _ _ => some b.isNone
   | .slice _, .slice (some _) _ _, .slice none _ _ => some false
   | .map _ _, .map none, .map b => some b.isNone
   | .map _ _, .map (some _), .map none => some false
   | .func _ _ _, .nilFunc, .nilFunc => some true
   | .func _ _ _, .nilFunc, .func _ _ _ => some false
   | .func _ _ _, .func _ _ _, .nilFunc => some false
   | _, _, _ => none
def eqFine (E : Env) (t : Nat) (cx cy : Bool) : Value -> Value -> Bool
 | .nilIface, .nilIface => cx || cy
 | .agg _, .agg _ => E.plainEq t
 | _, _ => true
def isConst : Operand -> Bool
 | .const _ => true
 | _ => false
def intBin (op : BinOp) (k : IntKind) (a b : Int) : Option Value :=
 match op with
 | .add => some (.int k (k.wrap (a + b)))
 | .sub => some (.int k (k.wrap (a - b)))
 | .mul => some (.int k (k.wrap (a * b)))
 | .quo => if b = 0 then none else some (.int k (k.wrap (a.tdiv b)))
 | .rem => if b = 0 then none else some (.int k (a.tmod b))
 | .and => some (.int k (k.wrap (BitVec.ofInt k.bits a &&& BitVec.ofInt k.bits b).toNat))
 | .or => some (.int k (k.wrap (BitVec.ofInt k.bits a ||| BitVec.ofInt k.bits b).toNat))
 | .xor => some (.int k (k.wrap (BitVec.ofInt k.bits a ^^^ BitVec.ofInt k.bits b).toNat))
 | .andNot => some (.int k (k.wrap (BitVec.ofInt k.bits a &&& ~~~BitVec.ofInt k.bits b).toNat))
 | .eql => some (.bool (a == b))
 | .neq => some (.bool (a != b))
 | .lss => some (.bool (decide (a < b)))
 | .leq => some (.bool (decide (a <= b)))
 | .gtr => some (.bool (decide (a > b)))
 | .geq => some (.bool (decide (a >= b)))
 | _ => none
def strBin (op : BinOp) (a b : ByteArray) : Option Value :=
 match op with
 | .add => if ((a.data.toList.length + b.data.toList.length : Nat) : Int) > IntKind.i64.max then none else some (.string ⟨(a.data.toList ++ b.data.toList).toArray⟩)
 | .eql => some (.bool (bytesEq a.data.toList b.data.toList))
 | .neq => some (.bool (!bytesEq a.data.toList b.data.toList))
 | .lss => some (.bool (bytesLt a.data.toList b.data.toList))
 | .leq => some (.bool (bytesLt a.data.toList b.data.toList || bytesEq a.data.toList b.data.toList))
 | .gtr => some (.bool (!(bytesLt a.data.toList b.data.toList || bytesEq a.data.toList b.data.toList)))
 | .geq => some (.bool (!bytesLt a.data.toList b.data.toList))
 | _ => none
def shiftV (op : BinOp) (k : IntKind) (a b : Int) : Option Value :=
 if b < 0 then none else
 match op with
 | .shl => some (.int k (k.wrap (a * 2 ^ min b.toNat k.bits)))
 | .shr => some (.int k (a.fdiv (2 ^ min b.toNat k.bits)))
 | _ => none
def binV (E : Env) (op : BinOp) (t : Nat) (x y : Value) : Option Value :=
 match op, x, y with
 | .shl, .int k a, .int _ b => shiftV .shl k a b
 | .shr, .int k a, .int _ b => shiftV .shr k a b
 | op, .int k a, .int k' b => if k = k' then intBin op k a b else none
 | op, .string a, .string b => strBin op a b
 | .eql, x, y => (aEq E 100 t x y).map fun r => .bool r
 | .neq, x, y => (aEq E 100 t x y).map fun r => .bool (!r)
 | _, _, _ => none
def unV (op : UnOp) (x : Value) : Option Value :=
 match op, x with
 | .neg, .int k n => some (.int k (k.wrap (0 - n)))
 | .xor, .int k n => intBin .xor k (if k.signed then -1 else k.max) n
 | .not, .bool b => some (.bool (!b))
 | _, _ => none
def byteCells : List UInt8 -> List Value
 | [] => []
 | b :: r => .int .u8 b.toNat :: byteCells r
def cellsBytes : List Value -> Option (List UInt8)
 | [] => some []
 | .int .u8 n :: r => (cellsBytes r).map fun l => UInt8.ofNat n.toNat :: l
 | _ :: _ => none
def convV (E : Env) (m : Mem) (src dst : Nat) (x : Value) : Option (Value × Mem) :=
 match E.ty src, E.ty dst with
 | some s, some d =>
  match s.desc, d.desc, x with
  | _, .int k, .int _ n => some (.int k (k.wrap n), m)
  | _, .string, .string s => some (.string s, m)
  | _, .slice e, .string s => match E.ty e with
   | some ye => match ye.desc with
    | .int .u8 => match newRow m (byteCells s.data.toList) 1 with
     | (a, m1) => some (.slice (some a) s.data.toList.length (loCap s.data.toList.length 1), m1)
    | _ => none
   | none => none
  | .slice e, .string, .slice none _ _ => match E.ty e with
   | some ye => match ye.desc with
    | .int .u8 => some (.string ⟨#[]⟩, m)
    | _ => none
   | none => none
  | .slice e, .string, .slice (some a) n _ => match E.ty e with
   | some ye => match ye.desc with
    | .int .u8 => match m.cells a n with
     | some cs => (cellsBytes cs).map fun l => (.string ⟨l.toArray⟩, m)
     | none => bif Nat.beq n 0 then some (.string ⟨#[]⟩, m) else none
    | _ => none
   | none => none
  | _, _, _ => none
 | _, _ => none
def asNat? : Value -> Option Nat
 | .int _ n => if 0 <= n then some n.toNat else none
 | _ => none
def makeSliceV (E : Env) (m : Mem) (t : Nat) (l c : Value) : Option (Value × Mem) :=
 match E.ty t, l, c with
 | some y, .int _ l, .int _ c => match y.desc with
  | .slice e => match E.ty e, zeroOf E e with
   | some ye, some z =>
    if 0 <= l /\ l <= c /\ c <= 4611686018427387904 /\ (ye.bytes : Int) * c <= 281474976710656 /\ z.length = ye.size then
     match newRow m (repeatCells z c.toNat) ye.size with
     | (a, m1) => some (.slice (some a) l.toNat (2 * c.toNat), m1)
    else none
   | _, _ => none
  | _ => none
 | _, _, _ => none
def boundsV (len cap : Nat) (low high max : Option Value) : Option (Nat × Nat × Nat) :=
 match max with
 | some mv => match asNat? mv, high with
  | some mx, some hv => match asNat? hv with
   | some h => match low with
    | some lv => match asNat? lv with
     | some l => bif Nat.ble mx cap && Nat.ble h mx && Nat.ble l h then some (l, h, mx) else none
     | none => none
    | none => bif Nat.ble mx cap && Nat.ble h mx then some (0, h, mx) else none
   | none => none
  | _, _ => none
 | none =>
  match (match high with | some hv => asNat? hv | none => some len) with
  | some h => match low with
   | some lv => match asNat? lv with
    | some l => bif Nat.ble h cap && Nat.ble l h then some (l, h, cap) else none
    | none => none
   | none => bif Nat.ble h cap then some (0, h, cap) else none
  | none => none
def addOff (a : Addr) (n : Nat) : Addr := ⟨a.block, a.off + n, a.spot⟩
def sliceV (E : Env) (t : Nat) (x : Value) (low high max : Option Value) : Option Value :=
 match E.ty t with
 | none => none
 | some y =>
  match y.desc, x with
  | .string, .string s => match max with
   | some _ => none
   | none => (boundsV s.data.toList.length s.data.toList.length low high none).map fun r => .string ⟨((s.data.toList.drop r.1).take (r.2.1 - r.1)).toArray⟩
  | .slice e, .slice a len k => match E.ty e with
   | some ye =>
    match boundsV len (capOf k) low high max with
    | some (l, h, mx) =>
     match a with
     | none => some (.slice none (h - l) (2 * (mx - l)))
     | some a =>
      match max, Nat.beq (k % 2) 0 with
      | none, false => bif Nat.beq (esOf k) ye.size then some (.slice (some (addOff a (l * ye.size))) (h - l) (loCap (mx - l) ye.size)) else none
      | _, _ => some (.slice (some (bif Nat.beq mx l then a else addOff a (l * ye.size))) (h - l) (2 * (mx - l)))
    | none => none
   | none => none
  | .array n e, .pointer (some a) => match E.ty e with
   | some ye =>
    match boundsV n n low high max with
    | some (l, h, mx) => some (.slice (some (bif Nat.beq mx l then a else addOff a (l * ye.size))) (h - l) (2 * (mx - l)))
    | none => none
   | none => none
  | _, _ => none
def fieldAddrV (E : Env) (s : Nat) (x : Value) (f : Nat) : Option Value :=
 match E.ty s, x with
 | some y, .pointer (some a) => match y.desc with
  | .struct fields => match fields.toList[f]? with
   | some fd => match E.ty fd.type with
    | some yf => bif Nat.beq yf.size 0 then none else some (.pointer (some (addOff a fd.offset)))
    | none => none
   | none => none
  | _ => none
 | _, _ => none
def fieldV (E : Env) (t : Nat) (x : Value) (f : Nat) : Option Value :=
 match E.ty t, x with
 | some y, .agg cs => match y.desc with
  | .struct fields => match fields.toList[f]? with
   | some fd => partV E fd.type cs.toList fd.offset
   | none => none
  | _ => none
 | _, _ => none
def indexAddrV (E : Env) (t : Nat) (x i : Value) : Option Value :=
 match E.ty t, asNat? i with
 | some y, some i => match y.desc, x with
  | .slice e, .slice (some a) len _ => match E.ty e with
   | some ye => bif Nat.blt i len then some (.pointer (some (addOff a (i * ye.size)))) else none
   | none => none
  | .array n e, .pointer (some a) => match E.ty e with
   | some ye => bif Nat.blt i n then some (.pointer (some (addOff a (i * ye.size)))) else none
   | none => none
  | _, _ => none
 | _, _ => none
def indexV (E : Env) (t : Nat) (x i : Value) : Option Value :=
 match E.ty t, asNat? i with
 | some y, some i => match y.desc, x with
  | .array n e, .agg cs => match E.ty e with
   | some ye => bif Nat.blt i n then partV E e cs.toList (i * ye.size) else none
   | none => none
  | .string, .string s => match s.data.toList[i]? with
   | some b => some (.int .u8 b.toNat)
   | none => none
  | _, _ => none
 | _, _ => none
def lenV (E : Env) (m : Mem) (t : Nat) (x : Value) : Option Value :=
 match E.ty t with
 | none => none
 | some y =>
  match y.desc, x with
  | .string, .string s => some (.int .i64 s.data.toList.length)
  | .array n _, _ => some (.int .i64 n)
  | .slice _, .slice _ n _ => some (.int .i64 n)
  | .map _ _, .map none => some (.int .i64 0)
  | .map _ _, .map (some r) => match m.get r with
   | some (.map es _) => some (.int .i64 es.length)
   | _ => none
  | _, _ => none
def capV (E : Env) (t : Nat) (x : Value) : Option Value :=
 match E.ty t with
 | none => none
 | some y =>
  match y.desc, x with
  | .array n _, _ => some (.int .i64 n)
  | .slice _, .slice _ _ k => bif Nat.beq (k % 2) 0 then some (.int .i64 (k / 2 : Nat)) else none
  | _, _ => none
def maxV : Value -> List Value -> Option Value
 | x, [] => some x
 | .int k x, .int k' y :: r => if k = k' then maxV (.int k (if y > x then y else x)) r else none
 | _, _ => none
def minV : Value -> List Value -> Option Value
 | x, [] => some x
 | .int k x, .int k' y :: r => if k = k' then minV (.int k (if y < x then y else x)) r else none
 | _, _ => none
def sourceV (E : Env) (m : Mem) (size : Nat) (zeros : Bool) (e : Nat) (x : Value) : Option (List Value × Nat) :=
 match zeros with
 | true => match asNat? x, zeroOf E e, E.ty e with
  | some n, some z, some ye => bif Nat.ble n 1048576 && Nat.beq z.length size && Nat.ble (ye.bytes * n) 281474976710656 then some (repeatCells z n, n) else none
  | _, _, _ => none
 | false => match x with
  | .slice none n _ => bif Nat.beq n 0 then some ([], 0) else none
  | .slice (some a) n _ => bif Nat.beq n 0 then some ([], 0) else match m.cells a (n * size) with
   | some cs => some (cs, n)
   | none => none
  | .string s => bif Nat.beq size 1 then some (byteCells s.data.toList, s.data.toList.length) else none
  | _ => none
def headV (m : Mem) (size : Nat) : Option Addr -> Nat -> Option (List Value)
 | none, n => bif Nat.beq n 0 then some [] else none
 | some a, n => bif Nat.beq n 0 then some [] else m.cells a (n * size)
def zerosD : TypeDesc -> Option Bool
 | .int _ => some true
 | .slice _ => some false
 | .string => some false
 | _ => none
def appendV (E : Env) (m : Mem) (t : Nat) (t2 : Option Nat) (s x : Value) : Option (Value × Mem) :=
 match E.ty t, s with
 | some y, .slice base len k => match y.desc with
  | .slice e => match E.ty e with
   | some ye =>
    match (match t2 with | none => none | some u => match E.ty u with | some yu => zerosD yu.desc | none => none) with
    | none => none
    | some zeros =>
    match sourceV E m ye.size zeros e x with
    | none => none
    | some (new, n) =>
     bif Nat.ble (len + n) (capOf k) then
      -- within the known capacity
      match base with
      | none => bif Nat.beq n 0 then some (.slice none len k, m) else none
      | some a => bif Nat.beq n 0 then some (.slice (some a) len k, m) else
       (m.storeCells (addOff a (len * ye.size)) new).map fun m1 => (.slice (some a) (len + n) k, m1)
     else bif !(Nat.ble ((2 * (len + n) + 2000) * ye.bytes) 281474976710656 && Nat.ble (len + n) 4611686018427387904 && Nat.blt ye.size 4096) then none else
     match headV m ye.size base len, zeroOf E e with
     | some old, some z =>
      bif !(Nat.beq z.length ye.size && allOne new) then none else
      bif Nat.beq (k % 2) 0 then
       match newRow m (old ++ new) ye.size with
       | (b, m1) => some (.slice (some b) (len + n) (loCap (len + n) ye.size), m1)
      else
       match base with
       | none => none
       | some a => match m.get a.block with
        | some (.row cs .rw es prev) =>
         bif Nat.beq (esOf k) ye.size && Nat.beq es ye.size && Nat.beq (a.off + len * ye.size) cs.length then
          let m1 := m.upd a.block (some (.row cs .cl es prev))
          some (.slice (some (addr m1.size 0)) (len + n) (loCap (len + n) ye.size), m1.new (.row (old ++ new) .rw es (some a.block)))
         else none
        | _ => none
     | _, _ => none
   | none => none
  | _ => none
 | _, _ => none
def leafEq (x y : Value) : Bool :=
 match x with
 | .bool a => match y with
  | .bool b => a == b
  | _ => false
 | .int k a => match y with
  | .int k' b => match decide (k = k') with
   | true => a == b
   | false => false
  | _ => false
 | .string a => match y with
  | .string b => bytesEq a.data.toList b.data.toList
  | _ => false
 | .pointer none => match y with
  | .pointer none => true
  | _ => false
 | .slice none n c => match y with
  | .slice none n' c' => Nat.beq n 0 && (Nat.beq n' 0 && (Nat.beq c 0 && Nat.beq c' 0))
  | _ => false
 | .nilFunc => match y with
  | .nilFunc => true
  | _ => false
 | .nilIface => match y with
  | .nilIface => true
  | _ => false
 | _ => false
def findM (E : Env) (kt : Nat) (k : Value) : List MapEntry -> Nat -> Option (Option (Nat × Value))
 | [], _ => some none
 | e :: r, i => match aEq E 100 kt k e.key with
  | some true => some (some (i, e.val))
  | some false => findM E kt k r (i + 1)
  | none => none
def leafKind (E : Env) (t : Nat) : Bool := match E.ty t with
 | some y => match y.desc with
  | .int _ => true
  | .string => true
  | .bool => true
  | _ => false
 | none => false
def keyParts (E : Env) (fine : Nat -> Value -> Bool) (cs : List Value) : List Field -> Bool
 | [] => true
 | f :: r => (match partV E f.type cs f.offset with
  | some p => fine f.type p
  | none => false) && keyParts E fine cs r
def keyStruct (E : Env) (fine : Nat -> Value -> Bool) (t : Nat) (k : Value) : Bool := match E.ty t with
 | some y => match y.desc, k with
  | .struct fs, .agg arr => keyParts E fine arr.toList fs.toList
  | _, _ => false
 | none => false
def keyFine1 (E : Env) (t : Nat) (k : Value) : Bool := match leafKind E t with
 | true => true
 | false => keyStruct E (fun t _ => leafKind E t) t k
def keyFine (E : Env) (t : Nat) (k : Value) : Bool := match leafKind E t with
 | true => true
 | false => keyStruct E (keyFine1 E) t k
def keyLeaf (x y : Value) : Bool :=
 match x with
 | .bool a => match y with
  | .bool b => a == b
  | _ => false
 | .int k a => match y with
  | .int k' b => match decide (k = k') with
   | true => a == b
   | false => false
  | _ => false
 | .string a => match y with
  | .string b => bytesEq a.data.toList b.data.toList
  | _ => false
 | _ => false
def leavesEq : List Value -> List Value -> Bool
 | [], l => match l with
  | [] => true
  | _ => false
 | x :: r, l => match l with
  | y :: s => keyLeaf x y && leavesEq r s
  | [] => false
def keySame (x y : Value) : Bool :=
 match x with
 | .agg a => match y with
  | .agg b => leavesEq a.toList b.toList
  | _ => false
 | x => keyLeaf x y
def okPair (ok : Bool) (v : Value) (b : Bool) : Value := match ok with
 | true => .tuple #[v, .bool b]
 | false => v
def mapOf (m : Mem) (x : Value) : Option (List MapEntry) := match x with
 | .map none => some []
 | .map (some b) => match m.get b with
  | some (.map es _) => some es
  | _ => none
 | _ => none
def zeroVal (E : Env) (t : Nat) : Option Value := match E.ty t with
 | some y => y.zero
 | none => none
def lookupV (E : Env) (m : Mem) (t : Nat) (x k : Value) (ok : Bool) : Option Value :=
 match E.ty t with
 | some y => match y.desc with
  | .map kt et => match keyFine E kt k, mapOf m x with
   | true, some es => match findM E kt k es 0 with
    | some (some (_, v)) => some (okPair ok v true)
    | some none => (zeroVal E et).map fun z => okPair ok z false
    | none => none
   | _, _ => none
  | _ => none
 | none => none
def setEntry (k v : Value) : Nat -> List MapEntry -> Option (List MapEntry)
 | _, [] => none
 | 0, e :: r => match keySame e.key k with
  | true => some ({ e with key := k, val := v } :: r)
  | false => none
 | i + 1, e :: r => (setEntry k v i r).map fun r => e :: r
def mapPutV (E : Env) (m : Mem) (t : Nat) (x k v : Value) : Option Mem :=
 match E.ty t, x with
 | some y, .map (some b) => match y.desc, m.get b with
  | .map kt _, some (.map es clock) => match keyFine E kt k && Nat.ble m.bar b with
   | true => match findM E kt k es 0 with
    | some (some (i, _)) => (setEntry k v i es).map fun es1 => m.upd b (some (.map es1 clock))
    | some none => some (m.upd b (some (.map (es ++ [{ key := k, val := v, born := clock }]) (clock + 1))))
    | none => none
   | false => none
  | _, _ => none
 | _, _ => none
def isMapT (E : Env) (t : Nat) : Bool := match E.ty t with
 | some y => match y.desc with
  | .map _ _ => true
  | _ => false
 | none => false
def clearV (E : Env) (m : Mem) (t : Nat) (x : Value) : Option (Value × Mem) :=
 match E.ty t, x with
 | some y, .slice base n _ => match y.desc with
  | .slice e => match Nat.beq n 0 with
   | true => some (undefV, m)
   | false => match base, E.ty e, zeroOf E e with
    | some a, some ye, some z => (m.storeCells a (repeatCells z n)).map fun m1 => (undefV, m1)
    | _, _, _ => none
  | _ => none
 | _, _ => none
def copyV (E : Env) (m : Mem) (t : Nat) (d s : Value) : Option (Value × Mem) :=
 match E.ty t, d, s with
 | some y, .slice base dl _, .slice sb sl _ => match y.desc with
  | .slice e => match E.ty e with
   | some ye => match Nat.beq (Nat.min sl dl) 0 with
    | true => some (.int .i64 0, m)
    | false => match base, sb with
     | some a, some b => match m.cells b (Nat.min sl dl * ye.size) with
      | some cs => (m.storeCells a cs).map fun m1 => (.int .i64 (Nat.min sl dl : Nat), m1)
      | none => none
     | _, _ => none
   | none => none
  | _ => none
 | _, _, _ => none
def builtinV (E : Env) (m : Mem) (b : Builtin) (ats : List Nat) (args : List Value) : Option (Value × Mem) :=
 match b, ats, args with
 | .len, t :: _, x :: _ => (lenV E m t x).map fun v => (v, m)
 | .cap, t :: _, x :: _ => (capV E t x).map fun v => (v, m)
 | .max, _, x :: r => (maxV x r).map fun v => (v, m)
 | .min, _, x :: r => (minV x r).map fun v => (v, m)
 | .append, t :: r, s :: x :: _ => appendV E m t r.head? s x
 | .clear, t :: _, x :: _ => clearV E m t x
 | .copy, t :: _, d :: s :: _ => copyV E m t d s
 | _, _, _ => none
def rangeV (E : Env) (m : Mem) (t : Nat) (x : Value) : Option (Value × Mem) :=
 match E.ty t with
 | some y => match y.desc, x with
  | .string, .string s => some (.pointer (some (addr m.size 0)), m.new (.str s 0))
  | _, _ => none
 | none => none
def nextV (m : Mem) (it : Value) (isString : Bool) : Option (Value × Mem) :=
 match it, isString with
 | .pointer (some a), true => match m.get a.block with
  | some (.str s pos) =>
   bif !(Nat.beq a.off 0) then none else bif Nat.blt pos s.data.toList.length then
    bif Nat.ble m.bar a.block then
     match Utf8.decode s pos with
     | (c, width) => some (.tuple #[.bool true, .int .i64 pos, .int .i32 c], m.upd a.block (some (.str s (pos + width))))
    else none
   else some (.tuple #[.bool false], m)
  | _ => none
 | _, _ => none
structure OpH where
 go : Env -> (Operand -> Value) -> Mem -> Option ANext
def opH (op : Op) : OpH :=
 match op with
 | .move x => ⟨fun E ρ m => some (.val (ρ x) m)⟩
 | .assign x => ⟨fun E ρ m => some (.val (ρ x) m)⟩
 | .pick c a b => ⟨fun E ρ m => match ρ c with
  | .bool true => some (.val (ρ a) m)
  | .bool false => some (.val (ρ b) m)
  | _ => none⟩
 | .alloc e => ⟨fun E ρ m => match zeroOf E e with
  | some z => match newRow m z 0 with | (a, m1) => some (.val (.pointer (some a)) m1)
  | none => none⟩
 | .box _ x => ⟨fun E ρ m => match newRow m (ρ x).cells.toList 0 with | (a, m1) => some (.val (.pointer (some a)) m1)⟩
 | .build t parts => ⟨fun E ρ m => (buildV E t (parts.toList.map fun p => (p.1, ρ p.2))).map fun v => .val v m⟩
 | .buildSlice t len parts => ⟨fun E ρ m => (buildSliceV E m t len (parts.toList.map fun p => (p.1, ρ p.2))).map fun r => .val r.1 r.2⟩
 | .load t a => ⟨fun E ρ m => match ρ a with
  | .pointer (some a) => (loadV E m t a).map fun v => .val v m
  | _ => none⟩
 | .store t a x => ⟨fun E ρ m => match ρ a with
  | .pointer (some a) => (storeV E m t a (ρ x)).map fun m1 => .val undefV m1
  | _ => none⟩
 | .nilCheck x => ⟨fun E ρ m => match ρ x with
  | .pointer none => none
  | .nilIface => none
  | .nilFunc => none
  | .func (.method _) _ _ => none
  | v => some (.val v m)⟩
 | .binOp op t x y _ => ⟨fun E ρ m => match op with
  | .eql => bif eqFine E t (isConst x) (isConst y) (ρ x) (ρ y) then (binV E .eql t (ρ x) (ρ y)).map fun v => .val v m else none
  | .neq => bif eqFine E t (isConst x) (isConst y) (ρ x) (ρ y) then (binV E .neq t (ρ x) (ρ y)).map fun v => .val v m else none
  | op => (binV E op t (ρ x) (ρ y)).map fun v => .val v m⟩
 | .unOp op _ x => ⟨fun E ρ m => (unV op (ρ x)).map fun v => .val v m⟩
 | .convert s d x => ⟨fun E ρ m => (convV E m s d (ρ x)).map fun r => .val r.1 r.2⟩
 | .makeInterface t x => ⟨fun E ρ m => match E.ty t with
  | some y => match y.desc with
   | .interface _ => none
   | _ => some (.val (.iface t (ρ x)) m)
  | none => none⟩
 | .makeFunc fn first captured => ⟨fun E ρ m => match fn with
  | .func f => some (.val (.func (.func f) (first.toList.map ρ).toArray (captured.toList.map ρ).toArray) m)
  | _ => none⟩
 | .makeSlice t l c => ⟨fun E ρ m => (makeSliceV E m t (ρ l) (ρ c)).map fun r => .val r.1 r.2⟩
 | .slice t x lo hi mx => ⟨fun E ρ m => (sliceV E t (ρ x) (lo.map ρ) (hi.map ρ) (mx.map ρ)).map fun v => .val v m⟩
 | .fieldAddr s x f => ⟨fun E ρ m => (fieldAddrV E s (ρ x) f).map fun v => .val v m⟩
 | .field t x f => ⟨fun E ρ m => (fieldV E t (ρ x) f).map fun v => .val v m⟩
 | .indexAddr t x i => ⟨fun E ρ m => (indexAddrV E t (ρ x) (ρ i)).map fun v => .val v m⟩
 | .index t x i => ⟨fun E ρ m => (indexV E t (ρ x) (ρ i)).map fun v => .val v m⟩
 | .range t x => ⟨fun E ρ m => (rangeV E m t (ρ x)).map fun r => .val r.1 r.2⟩
 | .next it str => ⟨fun E ρ m => (nextV m (ρ it) str).map fun r => .val r.1 r.2⟩
 | .extract t i => ⟨fun E ρ m => match ρ t with
  | .tuple vs => (vs.toList[i]?).map fun v => .val v m
  | _ => none⟩
 | .call c => ⟨fun E ρ m => match c.callee with
  | .builtin b => (builtinV E m b c.argTypes.toList (c.args.toList.map ρ)).map fun r => .val r.1 r.2
  | .value f => match ρ f with
   | .func (.func g) first captured => some (.enter g (first.toList ++ (c.args.toList.map ρ ++ captured.toList)))
   | .func (.yield l) first _ => some (.yield l (first.toList ++ c.args.toList.map ρ))
   | _ => none
  | _ => none⟩
 | .makeMap t r => ⟨fun E ρ m => match isMapT E t with
  | true => match r with
   | none => some (.val (.map (some m.size)) (m.new (.map [] 0)))
   | some x => match ρ x with
    | .int _ _ => some (.val (.map (some m.size)) (m.new (.map [] 0)))
    | _ => none
  | false => none⟩
 | .lookup t x k ok => ⟨fun E ρ m => (lookupV E m t (ρ x) (ρ k) ok).map fun v => .val v m⟩
 | .mapUpdate t x k v => ⟨fun E ρ m => (mapPutV E m t (ρ x) (ρ k) (ρ v)).map fun m1 => .val undefV m1⟩
 | .insert t x k v => ⟨fun E ρ m => (mapPutV E m t (ρ x) (ρ k) (ρ v)).map fun m1 => .val undefV m1⟩
 | _ => ⟨fun _ _ _ => none⟩
def aop (E : Env) (ρ : Operand -> Value) (m : Mem) (o : Oper) : Option ANext := (opH o.op).go E ρ m
theorem aop_def (E : Env) (ρ : Operand -> Value) (m : Mem) (o : Oper) : aop E ρ m o =
 match o.op with
 | .move x => some (.val (ρ x) m)
 | .assign x => some (.val (ρ x) m)
 | .pick c a b => match ρ c with
  | .bool true => some (.val (ρ a) m)
  | .bool false => some (.val (ρ b) m)
  | _ => none
 | .alloc e => match zeroOf E e with
  | some z => match newRow m z 0 with | (a, m1) => some (.val (.pointer (some a)) m1)
  | none => none
 | .box _ x => match newRow m (ρ x).cells.toList 0 with | (a, m1) => some (.val (.pointer (some a)) m1)
 | .build t parts => (buildV E t (parts.toList.map fun p => (p.1, ρ p.2))).map fun v => .val v m
 | .buildSlice t len parts => (buildSliceV E m t len (parts.toList.map fun p => (p.1, ρ p.2))).map fun r => .val r.1 r.2
 | .load t a => match ρ a with
  | .pointer (some a) => (loadV E m t a).map fun v => .val v m
  | _ => none
 | .store t a x => match ρ a with
  | .pointer (some a) => (storeV E m t a (ρ x)).map fun m1 => .val undefV m1
  | _ => none
 | .nilCheck x => match ρ x with
  | .pointer none => none
  | .nilIface => none
  | .nilFunc => none
  | .func (.method _) _ _ => none
  | v => some (.val v m)
 | .binOp op t x y _ => match op with
  | .eql => bif eqFine E t (isConst x) (isConst y) (ρ x) (ρ y) then (binV E .eql t (ρ x) (ρ y)).map fun v => .val v m else none
  | .neq => bif eqFine E t (isConst x) (isConst y) (ρ x) (ρ y) then (binV E .neq t (ρ x) (ρ y)).map fun v => .val v m else none
  | op => (binV E op t (ρ x) (ρ y)).map fun v => .val v m
 | .unOp op _ x => (unV op (ρ x)).map fun v => .val v m
 | .convert s d x => (convV E m s d (ρ x)).map fun r => .val r.1 r.2
 | .makeInterface t x => match E.ty t with
  | some y => match y.desc with
   | .interface _ => none
   | _ => some (.val (.iface t (ρ x)) m)
  | none => none
 | .makeFunc fn first captured => match fn with
  | .func f => some (.val (.func (.func f) (first.toList.map ρ).toArray (captured.toList.map ρ).toArray) m)
  | _ => none
 | .makeSlice t l c => (makeSliceV E m t (ρ l) (ρ c)).map fun r => .val r.1 r.2
 | .slice t x lo hi mx => (sliceV E t (ρ x) (lo.map ρ) (hi.map ρ) (mx.map ρ)).map fun v => .val v m
 | .fieldAddr s x f => (fieldAddrV E s (ρ x) f).map fun v => .val v m
 | .field t x f => (fieldV E t (ρ x) f).map fun v => .val v m
 | .indexAddr t x i => (indexAddrV E t (ρ x) (ρ i)).map fun v => .val v m
 | .index t x i => (indexV E t (ρ x) (ρ i)).map fun v => .val v m
 | .range t x => (rangeV E m t (ρ x)).map fun r => .val r.1 r.2
 | .next it str => (nextV m (ρ it) str).map fun r => .val r.1 r.2
 | .extract t i => match ρ t with
  | .tuple vs => (vs.toList[i]?).map fun v => .val v m
  | _ => none
 | .call c => match c.callee with
  | .builtin b => (builtinV E m b c.argTypes.toList (c.args.toList.map ρ)).map fun r => .val r.1 r.2
  | .value f => match ρ f with
   | .func (.func g) first captured => some (.enter g (first.toList ++ (c.args.toList.map ρ ++ captured.toList)))
   | .func (.yield l) first _ => some (.yield l (first.toList ++ c.args.toList.map ρ))
   | _ => none
  | _ => none
 | .makeMap t r => match isMapT E t with
  | true => match r with
   | none => some (.val (.map (some m.size)) (m.new (.map [] 0)))
   | some x => match ρ x with
    | .int _ _ => some (.val (.map (some m.size)) (m.new (.map [] 0)))
    | _ => none
  | false => none
 | .lookup t x k ok => (lookupV E m t (ρ x) (ρ k) ok).map fun v => .val v m
 | .mapUpdate t x k v => (mapPutV E m t (ρ x) (ρ k) (ρ v)).map fun m1 => .val undefV m1
 | .insert t x k v => (mapPutV E m t (ρ x) (ρ k) (ρ v)).map fun m1 => .val undefV m1
 | _ => none := by
 unfold aop
 cases o.op <;> rfl
end Go.Am
end
noncomputable section
namespace Go.Am
inductive AExit where
 | normal
 | exit (id : Nat)
 | goto (l : Nat)
 | ret
structure St where
 tm : Tr Value
 nt : Nat
 df : List Nat
 m : Mem
inductive Task where
 | call (f : Nat) (args : List Value)
 | round (l : Nat) (args : List Value)
def putT (tm : Tr Value) (nt : Nat) (dst : Option Nat) (v : Value) : Option (Tr Value) :=
 match dst with
 | none => some tm
 | some d => bif Nat.blt d nt then some (tm.put d (some v)) else none
def told (ops : List Oper) (tm : Tr Value) (j : Nat) : Option Bool :=
 match ops[j]? with
 | some o => match o.dst with
  | some d => match tm.at d with
   | some (.bool b) => some b
   | _ => none
  | none => none
 | none => none
def wantedV (ops : List Oper) (tm : Tr Value) (o : Oper) : Bool :=
 match o.guard with
 | none => true
 | some (j, want) => match told ops tm j with
  | some b => b == want
  | none => false
def doOp (E : Env) (K : Task -> Mem -> Option (Value × Mem)) (o : Oper) (tm : Tr Value) (m : Mem) : Option (Value × Mem) :=
 match aop E (ev tm) m o with
 | some (.val v m1) => some (v, m1)
 | some (.enter f args) => K (.call f args) m
 | some (.yield l args) => K (.round l args) m
 | none => none
def stepOp (E : Env) (K : Task -> Mem -> Option (Value × Mem)) (ops : List Oper) (o : Oper) (s : St) : Option St :=
 match s with
 | ⟨tm, nt, df, m⟩ => match wantedV ops tm o with
  | true => match doOp E K o tm m with
   | some (v, m1) => match putT tm nt o.dst v with
    | some tm1 => some ⟨tm1, nt, df, m1⟩
    | none => none
   | none => none
  | false => match putT tm nt o.dst undefV with
   | some tm1 => some ⟨tm1, nt, df, m⟩
   | none => none
theorem stepOp_def (E : Env) (K : Task -> Mem -> Option (Value × Mem)) (ops : List Oper) (o : Oper) (s : St) : stepOp E K ops o s =
 match wantedV ops s.tm o with
 | true => match doOp E K o s.tm s.m with
  | some (v, m1) => match putT s.tm s.nt o.dst v with
   | some tm1 => some { s with tm := tm1, m := m1 }
   | none => none
  | none => none
 | false => match putT s.tm s.nt o.dst undefV with
  | some tm1 => some { s with tm := tm1 }
  | none => none := by cases s; rfl
def runOps (E : Env) (K : Task -> Mem -> Option (Value × Mem)) (ops : List Oper) : List Oper -> St -> Option St
 | [], s => some s
 | o :: r, s => match stepOp E K ops o s with
  | some s1 => runOps E K ops r s1
  | none => none
inductive Cls where
 | pure | soft | fresh | hard
def Cls.isPure : Cls -> Bool
 | .pure => true
 | _ => false
def Cls.isFresh : Cls -> Bool
 | .fresh => true
 | _ => false
def Cls.isHard : Cls -> Bool
 | .hard => true
 | _ => false
def clsConv (E : Env) (d : Nat) : Cls :=
 match E.ty d with
 | some y => match y.desc with
  | .slice _ => .fresh
  | _ => .soft
 | none => .hard
def cls (E : Env) : Op -> Cls
 | .move _ | .assign _ | .pick _ _ _ | .nilCheck _ | .unOp _ _ _ | .makeInterface _ _ | .makeFunc _ _ _ | .slice _ _ _ _ _ | .fieldAddr _ _ _ | .field _ _ _ | .indexAddr _ _ _
 | .index _ _ _ | .extract _ _ | .build _ _ | .binOp _ _ _ _ _ => .pure
 | .load _ _ => .soft
 | .alloc _ | .box _ _ | .buildSlice _ _ _ | .makeSlice _ _ _ => .fresh
 | .convert _ d _ => clsConv E d
 | .call c => match c.callee with
  | .builtin .len | .builtin .cap | .builtin .max | .builtin .min => .soft
  | _ => .hard
 | _ => .hard
def clsAt (E : Env) (ops : List Oper) (i : Nat) : Cls :=
 match ops[i]? with
 | some o => cls E o.op
 | none => .pure
def edgeBits (acc : List Nat) : List Edge -> Nat
 | [] => 0
 | e :: r => match Region.binds .any e with
  | true => 2 ^ e.on ||| (acc.getD e.on 0 ||| edgeBits acc r)
  | false => edgeBits acc r
def befores : List Oper -> List Nat -> List Nat
 | [], acc => acc
 | o :: r, acc => befores r (acc ++ [edgeBits acc o.after.toList])
def bef (bs : List Nat) (j i : Nat) : Bool := (bs.getD j 0).testBit i
def ordered (bs : List Nat) (i j : Nat) : Bool := bef bs i j || bef bs j i
def allBelow : Nat -> (Nat -> Bool) -> Bool
 | 0, _ => true
 | n + 1, p => allBelow n p && p n
def alone (E : Env) (bs : List Nat) (ops : List Oper) (i : Nat) : Bool :=
 allBelow ops.length fun j => Nat.beq j i || (clsAt E ops j).isPure || ordered bs i j
def edgesBack (i : Nat) : List Edge -> Bool
 | [] => true
 | e :: r => (!(Region.binds .any e) || Nat.blt e.on i) && edgesBack i r
def memN (d : Nat) : List Nat -> Bool
 | [] => false
 | x :: r => Nat.beq d x || memN d r
def tmpsOf : List Operand -> List Nat
 | [] => []
 | .tmp t :: r => t :: tmpsOf r
 | _ :: r => tmpsOf r
def readsOf (o : Oper) : List Nat := tmpsOf o.op.operands.toList
def pairOk (E : Env) (b : Bool) (x y : Oper) : Bool :=
 (match x.dst with
  | some d => (match y.dst with | some d' => !(Nat.beq d d') | none => true) && (b || !(memN d (readsOf y)))
  | none => true) &&
 (match y.dst with
  | some d' => b || !(memN d' (readsOf x))
  | none => true) &&
 (b || !((cls E x.op).isHard && ((cls E y.op).isHard || (cls E y.op).isFresh)))
def guardBack (bs : List Nat) (i : Nat) (o : Oper) : Bool :=
 match o.guard with
 | none => true
 | some (g, _) => bef bs i g
def drawOk (E : Env) (bs : List Nat) (ops : List Oper) : Bool :=
 allBelow ops.length fun j => match ops[j]? with
  | some y => edgesBack j y.after.toList && guardBack bs j y && allBelow j fun i => match ops[i]? with
   | some x => pairOk E (bef bs j i) x y
   | none => false
  | none => false
def edgesIn (done : List Nat) : List Edge -> Bool
 | [] => true
 | e :: r => (!(Region.binds .any e) || memN e.on done) && edgesIn done r
def pickOp (E : Env) (hard : Bool) (done : List Nat) : Nat -> List Oper -> Option Nat
 | _, [] => none
 | i, o :: r => match !(memN i done) && (edgesIn done o.after.toList && (cls E o.op).isHard == hard) with
  | true => some i
  | false => pickOp E hard done (i + 1) r
def sched (E : Env) (ops : List Oper) : Nat -> List Nat -> List Nat
 | 0, done => done
 | n + 1, done => match pickOp E false done 0 ops with
  | some i => sched E ops n (done ++ [i])
  | none => match pickOp E true done 0 ops with
   | some i => sched E ops n (done ++ [i])
   | none => done
def posOf (i : Nat) : List Nat -> Nat
 | [] => 0
 | x :: r => bif Nat.beq i x then 0 else posOf i r + 1
def guardIn (n : Nat) : Option (Nat × Bool) -> Bool
 | none => true
 | some (g, _) => Nat.blt g n
def permOk (ops : List Oper) (ord : List Nat) : Bool :=
 Nat.beq ord.length ops.length &&
 (allBelow ops.length fun p => Nat.blt (ord.getD p 0) ops.length && Nat.beq (posOf (ord.getD p 0) ord) p) &&
 (allBelow ops.length fun i => Nat.blt (posOf i ord) ops.length && Nat.beq (ord.getD (posOf i ord) 0) i) &&
 (ops.all fun o => guardIn ops.length o.guard)
def moved (ord : List Nat) (o : Oper) : Oper :=
  { o with after := (o.after.toList.map fun e => { e with on := posOf e.on ord }).toArray
           guard := match o.guard with | some (g, b) => some (posOf g ord, b) | none => none }
def permute (ops : List Oper) : List Nat -> List Oper
 | [] => []
 | i :: r => match ops[i]? with
  | some o => o :: permute ops r
  | none => permute ops r
def arranged (E : Env) (ops : List Oper) : Option (List Oper) :=
 let ord := sched E ops ops.length []
 match permOk ops ord with
 | true => some ((permute ops ord).map (moved ord))
 | false => none
def stepDraw (E : Env) (K : Task -> Mem -> Option (Value × Mem)) (ops : List Oper) (free : Bool) (o : Oper) (s : St) : Option St :=
 match free with
 | true => stepOp E K ops o s
 | false => match stepOp E K ops o { s with m := { s.m with bar := s.m.size } } with
  | some s1 => some { s1 with m := { s1.m with bar := s.m.bar } }
  | none => none
def loadOff (E : Env) (ops : List Oper) (bs : List Nat) (i : Nat) (tm : Tr Value) (blk : Nat) : Bool :=
 allBelow ops.length fun j => Nat.beq j i || ((clsAt E ops j).isPure || (ordered bs i j || (Nat.blt j i && match ops[j]? with
  | some y => (match y.op with
   | .load _ x => match ev tm x with
    | .pointer (some a) => !(Nat.beq a.block blk)
    | _ => true
   | _ => false) && allBelow i fun k => Nat.blt k j || (match ops[k]? with
    | some z => match z.dst with
     | some d => !(memN d (readsOf y))
     | none => true
    | none => true)
  | none => false)))
def stepStore (E : Env) (K : Task -> Mem -> Option (Value × Mem)) (ops : List Oper) (bs : List Nat) (i : Nat) (o : Oper) (s : St) : Option St :=
 match o.op with
 | .store _ a _ => match ev s.tm a with
  | .pointer (some ad) => match s.m.get ad.block with
   | some (.row _ .rw _ none) => match loadOff E ops bs i s.tm ad.block with
    | true => stepOp E K ops o s
    | false => none
   | _ => none
  | _ => none
 | _ => none
def stepDrawI (E : Env) (K : Task -> Mem -> Option (Value × Mem)) (ops : List Oper) (bs : List Nat) (i : Nat) (o : Oper) (s : St) : Option St :=
 match stepDraw E K ops (!(cls E o.op).isHard || alone E bs ops i) o s with
 | some s1 => some s1
 | none => stepStore E K ops bs i o s
def runDraw (E : Env) (K : Task -> Mem -> Option (Value × Mem)) (ops : List Oper) (bs : List Nat) : Nat -> List Oper -> St -> Option St
 | _, [], s => some s
 | i, o :: r, s => match stepDrawI E K ops bs i o s with
  | some s1 => runDraw E K ops bs (i + 1) r s1
  | none => none
def drawn (E : Env) (K : Task -> Mem -> Option (Value × Mem)) (ops : List Oper) (s : St) : Option St :=
 match arranged E ops with
 | some l => match drawOk E (befores l []) l with
  | true => runDraw E K l (befores l []) 0 l s
  | false => none
 | none => none
def loopRun (ex : Code -> St -> Option (AExit × St)) (b : Code) : Nat -> St -> Option (AExit × St)
 | 0, _ => none
 | n + 1, s => match ex b s with
  | some (.normal, s1) => loopRun ex b n s1
  | r => r
def scopeRun (ex : Code -> St -> Option (AExit × St)) (b : Code) : Nat -> Code -> St -> Option (AExit × St)
 | 0, _, _ => none
 | n + 1, c, s => match ex c s with
  | some (.goto l, s1) => match findLabel b l with
   | some rest => scopeRun ex b n rest s1
   | none => some (.goto l, s1)
  | r => r
def endLoopV (m : Mem) (L : Nat) : Option (Option Code × Mem) :=
 match m.get L with
 | some (.loop st pend tm nt ps asg body D) => match st with
  | .busy => none
  | _ => bif Nat.ble m.bar L then some (pend, m.upd L (some (.loop .exhausted pend tm nt ps asg body D))) else none
 | _ => none
def jumpOf : Code -> Option AExit
 | .exit i => some (.exit i)
 | .goto l => some (.goto l)
 | .ret => some .ret
 | _ => none
def enterLoopV (s : St) (round : Option Nat) (ps : List Tmp) (asg body : Code) : Option (Nat × List Nat × Mem) :=
 match round with
 | none => some (s.m.size + 1, [s.m.size], (s.m.new .mark).new (.loop .ready none s.tm s.nt ps asg body s.m.size))
 | some l => match s.m.get l with
  | some (.loop _ _ _ _ _ _ _ D) => some (s.m.size, [], s.m.new (.loop .ready none s.tm s.nt ps asg body D))
  | _ => none
structure CodeH where
 go : Env -> (Task -> Mem -> Option (Value × Mem)) -> Option Nat -> Nat -> (Code -> St -> Option (AExit × St)) -> St -> Option (AExit × St)
def codeH (c : Code) : CodeH :=
 match c with
 | .skip => ⟨fun E K round k ex s => some (.normal, s)⟩
 | .label _ => ⟨fun E K round k ex s => some (.normal, s)⟩
 | .region _ ops draw => ⟨fun E K round k ex s => match draw with
  | false => match runOps E K ops.toList ops.toList s with
   | some s1 => some (.normal, s1)
   | none => none
  | true => match drawn E K ops.toList s with
   | some s1 => some (.normal, s1)
   | none => none⟩
 | .seq a b => ⟨fun E K round k ex s => match ex a s with
  | some (.normal, s1) => ex b s1
  | r => r⟩
 | .cond c a b => ⟨fun E K round k ex s => match ev s.tm c with
  | .bool true => ex a s
  | .bool false => ex b s
  | _ => none⟩
 | .block id b => ⟨fun E K round k ex s => match ex b s with
  | some (.exit i, s1) => some (bif Nat.beq i id then .normal else .exit i, s1)
  | r => r⟩
 | .loop b => ⟨fun E K round k ex s => loopRun ex b k s⟩
 | .scope b => ⟨fun E K round k ex s => scopeRun ex b k b s⟩
 | .exit i => ⟨fun E K round k ex s => some (.exit i, s)⟩
 | .goto l => ⟨fun E K round k ex s => some (.goto l, s)⟩
 | .ret => ⟨fun E K round k ex s => some (.ret, s)⟩
 | .refuse _ => ⟨fun E K round k ex s => none⟩
 | .rangeFunc f ps asg body => ⟨fun E K round k ex s =>
  match ev s.tm f with
  | .func (.func g) first captured =>
   match E.fn g with
   | none => none
   | some _ =>
   match enterLoopV s round ps.toList asg body with
   | some (L, marks, m1) =>
    match K (.call g (first.toList ++ (.func (.yield L) #[] #[] :: captured.toList))) m1 with
    | some (_, m2) =>
     match endLoopV m2 L with
     | some (none, m3) => some (.normal, { s with df := marks ++ s.df, m := m3 })
     | some (some c, m3) => match jumpOf c with
      | some e => some (e, { s with df := marks ++ s.df, m := m3 })
      | none => none
     | none => none
    | none => none
   | none => none
  | _ => none⟩
def exec (E : Env) (K : Task -> Mem -> Option (Value × Mem)) (round : Option Nat) (k : Nat) : Code -> St -> Option (AExit × St) :=
 Nat.rec (motive := fun _ => Code -> St -> Option (AExit × St)) (fun _ _ => none) (fun k ex c s => (codeH c).go E K round k ex s) k
theorem exec_succ (E : Env) (K : Task -> Mem -> Option (Value × Mem)) (round : Option Nat) (k : Nat) (c : Code) (s : St) : exec E K round (k + 1) c s =
  match c with
  | .skip => some (.normal, s)
  | .label _ => some (.normal, s)
  | .region _ ops draw => match draw with
   | false => match runOps E K ops.toList ops.toList s with
    | some s1 => some (.normal, s1)
    | none => none
   | true => match drawn E K ops.toList s with
    | some s1 => some (.normal, s1)
    | none => none
  | .seq a b => match exec E K round k a s with
   | some (.normal, s1) => exec E K round k b s1
   | r => r
  | .cond c a b => match ev s.tm c with
   | .bool true => exec E K round k a s
   | .bool false => exec E K round k b s
   | _ => none
  | .block id b => match exec E K round k b s with
   | some (.exit i, s1) => some (bif Nat.beq i id then .normal else .exit i, s1)
   | r => r
  | .loop b => loopRun (exec E K round k) b k s
  | .scope b => scopeRun (exec E K round k) b k b s
  | .exit i => some (.exit i, s)
  | .goto l => some (.goto l, s)
  | .ret => some (.ret, s)
  | .refuse _ => none
  | .rangeFunc f ps asg body =>
   match ev s.tm f with
   | .func (.func g) first captured =>
    match E.fn g with
    | none => none
    | some _ =>
    match enterLoopV s round ps.toList asg body with
    | some (L, marks, m1) =>
     match K (.call g (first.toList ++ (.func (.yield L) #[] #[] :: captured.toList))) m1 with
     | some (_, m2) =>
      match endLoopV m2 L with
      | some (none, m3) => some (.normal, { s with df := marks ++ s.df, m := m3 })
      | some (some c, m3) => match jumpOf c with
       | some e => some (e, { s with df := marks ++ s.df, m := m3 })
       | none => none
      | none => none
     | none => none
    | none => none
   | _ => none := by
 show (codeH c).go E K round k (exec E K round k) s = _
 cases c <;> rfl
def argsT : Nat -> List Value -> Tr Value -> Tr Value
 | _, [], t => t
 | i, v :: r, t => argsT (i + 1) r (t.put i (some v))
def takeMarks : List Nat -> Mem -> Option Mem
 | [], m => some m
 | D :: r, m => match m.get D with
  | some .mark => bif Nat.ble m.bar D then takeMarks r (m.upd D none) else none
  | _ => none
def resultV (E : Env) (tm : Tr Value) (m : Mem) : ResultVar -> Option Value
 | .tmp t => some (ev tm (.tmp t))
 | .cell a t => match ev tm (.tmp a) with
  | .pointer (some a) => loadV E m t a
  | _ => none
def resultsV (E : Env) (tm : Tr Value) (m : Mem) : List ResultVar -> Option (List Value)
 | [] => some []
 | r :: rs => match resultV E tm m r, resultsV E tm m rs with
  | some v, some vs => some (v :: vs)
  | _, _ => none
def packV : List Value -> Value
 | [v] => v
 | vs => .tuple vs.toArray
def exitJump : AExit -> Option Code
 | .normal => none
 | .exit i => some (.exit i)
 | .goto l => some (.goto l)
 | .ret => some .ret
def paramsT : List Tmp -> List Value -> Tr Value -> Nat -> Option (Tr Value)
 | [], [], t, _ => some t
 | p :: ps, v :: vs, t, nt => bif Nat.blt p nt then paramsT ps vs (t.put p (some v)) nt else none
 | _, _, _, _ => none
def callBody (E : Env) (K : Task -> Mem -> Option (Value × Mem)) (j : Nat) (fn : Fun) (args : List Value) (m : Mem) : Option (Value × Mem) :=
 bif Nat.ble args.length fn.ntmps then
  match exec E K none j fn.body { tm := argsT 0 args .nil, nt := fn.ntmps, df := [], m := m } with
  | some (e, s) => match e with
   | .exit _ => none
   | .goto _ => none
   | _ => match takeMarks s.df s.m with
    | some m1 => match resultsV E s.tm m1 fn.results with
     | some vs => some (packV vs, m1)
     | none => none
    | none => none
  | none => none
 else none
def roundBody (E : Env) (K : Task -> Mem -> Option (Value × Mem)) (j : Nat) (l : Nat) (args : List Value) (m : Mem) : Option (Value × Mem) :=
 match m.get l with
 | some (.loop .ready pend tm nt ps asg body D) =>
  match paramsT ps args tm nt with
  | some tm1 => match exec E K (some l) j asg { tm := tm1, nt := nt, df := [], m := m } with
   | some (.normal, s1) =>
    match s1.m.get l with
    | some (.loop .ready pend2 tm2 nt2 ps2 asg2 body2 D2) =>
     bif Nat.ble s1.m.bar l then
      match exec E K (some l) j body { s1 with m := s1.m.upd l (some (.loop .busy pend2 tm2 nt2 ps2 asg2 body2 D2)) } with
      | some (e, s2) => match s2.m.get l with
       | some (.loop _ _ tm3 nt3 ps3 asg3 body3 D3) =>
        let jump := exitJump e
        bif Nat.ble s2.m.bar l then
         some (.bool jump.isNone, s2.m.upd l (some (.loop (match jump with | none => .ready | some _ => .done) jump tm3 nt3 ps3 asg3 body3 D3)))
        else none
       | _ => none
      | none => none
     else none
    | _ => none
   | _ => none
  | none => none
 | _ => none
def run (E : Env) (j : Nat) : Nat -> Task -> Mem -> Option (Value × Mem)
 | 0, _, _ => none
 | k + 1, t, m =>
  match t with
  | .call f args => match E.ext f with
   | some g => g args m
   | none => match E.fn f with
    | some fn => callBody E (run E j k) j fn args m
    | none => none
  | .round l args => roundBody E (run E j k) j l args m
end Go.Am
end
namespace Go.Am
open Go.RowKit
structure Tgt where
 blk : Nat
 dlt : Nat
 cap : Nat
 es : Nat
abbrev Inj := Nat -> Option Tgt
mutual
inductive VR (ι : Inj) : Value -> Value -> Prop where
 | bool (b : Bool) : VR ι (.bool b) (.bool b)
 | int (k : IntKind) (n : Int) : VR ι (.int k n) (.int k n)
 | float (k : FloatKind) (n : Nat) : VR ι (.float k n) (.float k n)
 | complex (k : FloatKind) (n m : Nat) : VR ι (.complex k n m) (.complex k n m)
 | str (s : ByteArray) : VR ι (.string s) (.string s)
 | pnil : VR ι (.pointer none) (.pointer none)
 | ptr {b : Nat} {t : Tgt} (o : Nat) (h : ι b = some t) : VR ι (.pointer (some ⟨b, o, none⟩)) (.pointer (some ⟨t.blk, t.dlt + o, none⟩))
 | snil (n c : Nat) : VR ι (.slice none n (2 * c)) (.slice none n c)
 | sex {b : Nat} {t : Tgt} (o n c : Nat) (h : ι b = some t) : VR ι (.slice (some ⟨b, o, none⟩) n (2 * c)) (.slice (some ⟨t.blk, t.dlt + o, none⟩) n c)
 | slo {b : Nat} {t : Tgt} (o n c c' : Nat) (h : ι b = some t) (hc : c <= c') (hr : t.dlt + o + c' * t.es <= t.cap) (he : t.es < 4096) :
   VR ι (.slice (some ⟨b, o, none⟩) n (loCap c t.es)) (.slice (some ⟨t.blk, t.dlt + o, none⟩) n c')
 | semp (a a' : Addr) (es : Nat) (he : es < 4096) : VR ι (.slice (some a) 0 (loCap 0 es)) (.slice (some a') 0 0)
 | sem0 (a a' : Addr) : VR ι (.slice (some a) 0 0) (.slice (some a') 0 0)
 | mnil : VR ι (.map none) (.map none)
 | mp {b : Nat} {t : Tgt} (h : ι b = some t) : VR ι (.map (some b)) (.map (some t.blk))
 | fnil : VR ι .nilFunc .nilFunc
 | inil : VR ι .nilIface .nilIface
 | iface (t : TypeId) {v v' : Value} (h : VR ι v v') : VR ι (.iface t v) (.iface t v')
 | fn (f : FuncId) {x x' y y' : Array Value} (h1 : VRs ι x.toList x'.toList) (h2 : VRs ι y.toList y'.toList) : VR ι (.func (.func f) x y) (.func (.func f) x' y')
 | yld {b : Nat} {t : Tgt} (h : ι b = some t) : VR ι (.func (.yield b) #[] #[]) (.func (.yield t.blk) #[] #[])
 | agg {x x' : Array Value} (h : VRs ι x.toList x'.toList) : VR ι (.agg x) (.agg x')
 | tuple {x x' : Array Value} (h : VRs ι x.toList x'.toList) : VR ι (.tuple x) (.tuple x')
inductive VRs (ι : Inj) : List Value -> List Value -> Prop where
 | nil : VRs ι [] []
 | cons {v v' : Value} {l l' : List Value} (h : VR ι v v') (hs : VRs ι l l') : VRs ι (v :: l) (v' :: l')
end
def Sub (ι ι' : Inj) : Prop := ∀ b t, ι b = some t -> ι' b = some t
theorem Sub.refl (ι : Inj) : Sub ι ι := fun _ _ h => h
theorem Sub.trans {a b c : Inj} (h : Sub a b) (k : Sub b c) : Sub a c := fun x t e => k x t (h x t e)
mutual
theorem VR.mono {ι ι' : Inj} (h : Sub ι ι') : ∀ {v v' : Value}, VR ι v v' -> VR ι' v v'
 | _, _, .bool b => .bool b
 | _, _, .int k n => .int k n
 | _, _, .float k n => .float k n
 | _, _, .complex k n m => .complex k n m
 | _, _, .str s => .str s
 | _, _, .pnil => .pnil
 | _, _, .ptr o e => .ptr o (h _ _ e)
 | _, _, .snil n c => .snil n c
 | _, _, .sex o n c e => .sex o n c (h _ _ e)
 | _, _, .slo o n c c' e hc hr he => .slo o n c c' (h _ _ e) hc hr he
 | _, _, .semp a a' es he => .semp a a' es he
 | _, _, .sem0 a a' => .sem0 a a'
 | _, _, .mnil => .mnil
 | _, _, .mp e => .mp (h _ _ e)
 | _, _, .fnil => .fnil
 | _, _, .inil => .inil
 | _, _, .iface t e => .iface t (VR.mono h e)
 | _, _, .fn f h1 h2 => .fn f (VRs.mono h h1) (VRs.mono h h2)
 | _, _, .yld e => .yld (h _ _ e)
 | _, _, .agg e => .agg (VRs.mono h e)
 | _, _, .tuple e => .tuple (VRs.mono h e)
theorem VRs.mono {ι ι' : Inj} (h : Sub ι ι') : ∀ {l l' : List Value}, VRs ι l l' -> VRs ι' l l'
 | _, _, .nil => .nil
 | _, _, .cons a b => .cons (VR.mono h a) (VRs.mono h b)
end
theorem VRs.length {ι : Inj} {l l' : List Value} (h : VRs ι l l') : l.length = l'.length := by
 induction l generalizing l' with
 | nil => cases h; rfl
 | cons a l ih => cases h with | cons h hs => simp [ih hs]
theorem VRs.get {ι : Inj} {l l' : List Value} (h : VRs ι l l') {i : Nat} {v : Value} (hv : l[i]? = some v) : ∃ v', l'[i]? = some v' /\ VR ι v v' := by
 induction l generalizing l' i with
 | nil => simp at hv
 | cons a l ih =>
  cases h with
  | cons h hs =>
   cases i with
   | zero => simp at hv; subst hv; exact ⟨_, rfl, h⟩
   | succ i => simp at hv; simpa using ih hs hv
theorem VRs.get' {ι : Inj} {l l' : List Value} (h : VRs ι l l') {i : Nat} {v' : Value} (hv : l'[i]? = some v') : ∃ v, l[i]? = some v /\ VR ι v v' := by
 induction l generalizing l' i with
 | nil => cases h; simp at hv
 | cons a l ih =>
  cases h with
  | cons h hs =>
   cases i with
   | zero => simp at hv; subst hv; exact ⟨_, rfl, h⟩
   | succ i => simp at hv; simpa using ih hs hv
theorem VRs.append {ι : Inj} {a a' b b' : List Value} (h : VRs ι a a') (k : VRs ι b b') : VRs ι (a ++ b) (a' ++ b') := by
 induction a generalizing a' with
 | nil => cases h; exact k
 | cons x a ih => cases h with | cons h hs => exact .cons h (ih hs)
theorem VRs.drop {ι : Inj} {a a' : List Value} (h : VRs ι a a') : ∀ n : Nat, VRs ι (a.drop n) (a'.drop n) := by
 induction a generalizing a' with
 | nil => cases h; intro n; simp; exact .nil
 | cons x a ih =>
  cases h with
  | cons h hs =>
   intro n
   cases n with
   | zero => exact .cons h hs
   | succ n => simpa using ih hs n
theorem VRs.take {ι : Inj} {a a' : List Value} (h : VRs ι a a') : ∀ n : Nat, VRs ι (a.take n) (a'.take n) := by
 induction a generalizing a' with
 | nil => cases h; intro n; simp; exact .nil
 | cons x a ih =>
  cases h with
  | cons h hs =>
   intro n
   cases n with
   | zero => exact .nil
   | succ n => simpa using .cons h (ih hs n)
theorem VRs.of_get {ι : Inj} : ∀ {l l' : List Value}, l.length = l'.length -> (∀ (i : Nat) v, l[i]? = some v -> ∃ v', l'[i]? = some v' /\ VR ι v v') -> VRs ι l l'
 | [], [], _, _ => .nil
 | [], _ :: _, h, _ => by simp at h
 | _ :: _, [], h, _ => by simp at h
 | a :: l, b :: l', h, hg => by
  obtain ⟨v', e, hv⟩ := hg 0 a rfl
  simp at e; subst e
  exact .cons hv (VRs.of_get (by simpa using h) fun i v e => by simpa using hg (i + 1) v (by simpa using e))
theorem VRs.set {ι : Inj} {a a' : List Value} (h : VRs ι a a') {v v' : Value} (hv : VR ι v v') : ∀ n : Nat, VRs ι (a.set n v) (a'.set n v') := by
 induction a generalizing a' with
 | nil => cases h; intro n; simp; exact .nil
 | cons x a ih =>
  cases h with
  | cons h hs =>
   intro n
   cases n with
   | zero => exact .cons hv hs
   | succ n => simpa using .cons h (ih hs n)
theorem VRs.snoc {ι : Inj} {a a' : List Value} {v v' : Value} (h : VRs ι a a') (hv : VR ι v v') : VRs ι (a ++ [v]) (a' ++ [v']) := h.append (.cons hv .nil)
theorem VR.undef {ι : Inj} : VR ι undefV undef := .tuple .nil
def flat : Value -> Bool
 | .bool _ | .int _ _ | .float _ _ | .complex _ _ _ | .string _ | .pointer none | .map none | .nilFunc | .nilIface => true
 | .slice none n c => Nat.beq n 0 && Nat.beq c 0
 | _ => false
def flats : List Value -> Bool
 | [] => true
 | v :: r => flat v && flats r
def closedV : Value -> Bool
 | .agg cs => flats cs.toList
 | .tuple cs => flats cs.toList
 | .iface _ v => flat v
 | .func (.func _) x y => flats x.toList && flats y.toList
 | v => flat v
theorem VR.flat {ι : Inj} {v : Value} (h : flat v = true) : VR ι v v := by
 unfold Am.flat at h
 split at h
 all_goals first | constructor | skip
 ·simp at h
  obtain ⟨rfl, rfl⟩ := h
  exact .snil 0 0
 ·cases h
theorem VRs.flats {ι : Inj} : ∀ {l : List Value}, flats l = true -> VRs ι l l
 | [], _ => .nil
 | v :: r, h => by simp [Am.flats] at h; exact .cons (VR.flat h.1) (VRs.flats h.2)
theorem VR.closed {ι : Inj} {v : Value} (h : closedV v = true) : VR ι v v := by
 unfold closedV at h
 split at h
 ·exact .agg (VRs.flats h)
 ·exact .tuple (VRs.flats h)
 ·exact .iface _ (VR.flat h)
 ·simp at h; exact .fn _ (VRs.flats h.1) (VRs.flats h.2)
 ·exact VR.flat h
theorem VR.cells {ι : Inj} {v v' : Value} (h : VR ι v v') : VRs ι v.cells.toList v'.cells.toList := by
 cases h
 case agg h => exact h
 all_goals exact .cons (by constructor <;> assumption) .nil
end Go.Am
namespace Go.Am
open Go.RowKit
def opndOk (ng : Nat) : Operand -> Bool
 | .const v => closedV v
 | .global g => Nat.blt g ng
 | _ => true
def opndsOk (ng : Nat) : List Operand -> Bool
 | [] => true
 | x :: r => opndOk ng x && opndsOk ng r
def optOk (ng : Nat) : Option Operand -> Bool
 | none => true
 | some x => opndOk ng x
def opOk (ng : Nat) : Op -> Bool
 | .move x | .assign x | .box _ x | .load _ x | .nilCheck x | .unOp _ _ x | .convert _ _ x | .makeInterface _ x | .fieldAddr _ x _ | .field _ x _ | .extract x _ | .range _ x | .next x _ => opndOk ng x
 | .pick c a b => opndOk ng c && (opndOk ng a && opndOk ng b)
 | .build _ ps | .buildSlice _ _ ps => opndsOk ng (ps.toList.map fun p => p.2)
 | .store _ a v | .binOp _ _ a v _ | .makeSlice _ a v | .indexAddr _ a v | .index _ a v => opndOk ng a && opndOk ng v
 | .makeFunc _ first captured => opndsOk ng first.toList && opndsOk ng captured.toList
 | .slice _ x l h m => opndOk ng x && (optOk ng l && (optOk ng h && optOk ng m))
 | .call c => opndsOk ng c.args.toList && (match c.callee with | .value f => opndOk ng f | _ => true)
 | .makeMap _ r => optOk ng r
 | .lookup _ a v _ => opndOk ng a && opndOk ng v
 | .mapUpdate _ a k v | .insert _ a k v => opndOk ng a && (opndOk ng k && opndOk ng v)
 | _ => true
def opsOk (ng : Nat) : List Oper -> Bool
 | [] => true
 | o :: r => opOk ng o.op && opsOk ng r
def codeOk (ng : Nat) : Code -> Bool
 | .region _ ops _ => opsOk ng ops.toList
 | .seq a b => codeOk ng a && codeOk ng b
 | .cond c a b => opndOk ng c && (codeOk ng a && codeOk ng b)
 | .block _ b => codeOk ng b
 | .loop b => codeOk ng b
 | .scope b => codeOk ng b
 | .rangeFunc f _ a b => opndOk ng f && (codeOk ng a && codeOk ng b)
 | _ => true
def TR (ι : Inj) (tm : Tr Value) (nt : Nat) (tmps : Array Value) : Prop :=
 tmps.size = nt /\ ∀ i : Nat, VR ι (ev tm (.tmp i)) (tmps.getD i undef)
def ER (ι : Inj) (e e' : MapEntry) : Prop := VR ι e.key e'.key /\ VR ι e.val e'.val /\ e.born = e'.born
inductive ERs (ι : Inj) : List MapEntry -> List MapEntry -> Prop where
 | nil : ERs ι [] []
 | cons {e e' : MapEntry} {l l' : List MapEntry} (h : ER ι e e') (hs : ERs ι l l') : ERs ι (e :: l) (e' :: l')
def fzTo (t : Tgt) : Nat := if t.es = 1 then t.cap else t.cap + 1
theorem fz_le {t : Tgt} {j : Nat} (h : j < t.cap) : j < fzTo t := by unfold fzTo; split <;> omega
def OR (ng : Nat) (ι : Inj) (w : World) (t : Tgt) : AObj -> Prop
 | .row cs md es _ =>
  (∀ (j : Nat) v, cs[j]? = some v -> ∃ v', w.cell? ⟨t.blk, t.dlt + j, none⟩ = some v' /\ VR ι v v') ∧
  (md ≠ .ro -> es = t.es /\ t.dlt + cs.length <= t.cap /\ ∃ c el fz, w.heap[t.blk]? = some (.cells c el fz) /\ c.size = t.cap /\ ∀ j, j < fzTo t -> w.frozen? ⟨t.blk, j, none⟩ = false)
 | .loop st pend tm nt ps asg body _ =>
  t.dlt = 0 /\ codeOk ng asg = true /\ codeOk ng body = true ∧
   ∃ fn tmps D', w.heap[t.blk]? = some (.loop { state := st, pending := pend, fn := fn, tmps := tmps, params := ps.toArray, assign := asg, body := body, defers := D' }) /\ TR ι tm nt tmps
 | .mark => w.heap[t.blk]? = some (.deferred (some []))
 | .map es clock => ∃ es', w.heap[t.blk]? = some (.map es' clock) /\ ERs ι es es'.toList
 | .str s pos => t.dlt = 0 /\ w.heap[t.blk]? = some (.stringIter s pos)
def AObj.isRo : AObj -> Bool
 | .row _ .ro _ _ => true
 | _ => false
theorem AObj.notRow {o : AObj} (hr : ∀ cs md es q, o ≠ .row cs md es q) : o.isRo = false := by
 cases o with
 | row cs md es q => exact absurd rfl (hr cs md es q)
 | _ => rfl
inductive Anc (m : Mem) : Nat -> Nat -> Prop where
 | one {b c : Nat} {cs cs' : List Value} {md : Md} {es es' : Nat} {q : Option Nat} (h : m.get c = some (.row cs' md es' (some b))) (k : m.get b = some (.row cs .cl es q)) : Anc m b c
 | step {b x c : Nat} {cs cs' : List Value} {md : Md} {es es' : Nat} {q : Option Nat} (h : m.get c = some (.row cs' md es' (some x))) (k : m.get x = some (.row cs .cl es q)) (r : Anc m b x) : Anc m b c
def rowLen : Option AObj -> Nat
 | some (.row cs _ _ _) => cs.length
 | _ => 0
structure Rel (E : Env) (ι : Inj) (m : Mem) (w : World) : Prop where
 dom : ∀ b t, ι b = some t -> b < m.size /\ t.blk < w.heap.size
 obj : ∀ b t o, ι b = some t -> m.get b = some o -> OR E.ng ι w t o
 sep : ∀ b c t u ob oc, ι b = some t -> ι c = some u -> m.get b = some ob -> m.get c = some oc -> b ≠ c -> t.blk = u.blk -> (ob.isRo && oc.isRo) = false -> Anc m b c \/ Anc m c b
 rng : ∀ b c t u, ι b = some t -> ι c = some u -> Anc m b c -> t.blk = u.blk -> t.dlt + rowLen (m.get b) <= u.dlt + rowLen (m.get c)
 nb : m.nb <= m.bar
 bar : m.bar <= m.size
 base : ∀ b o, b < m.nb -> m.get b = some o -> ∃ cs es, o = .row cs .ro es none
 glob : ∀ g, g < E.ng -> ∃ t, ι g = some t /\ t.blk = g /\ t.dlt = 0
 top : ∀ b, m.size <= b -> m.get b = none
 prv : ∀ b cs md es q, m.get b = some (.row cs md es (some q)) -> q < b /\ ∀ o, m.get q = some o -> ∃ cs es r, o = .row cs .cl es r
def Own (ι : Inj) (m : Mem) (b : Nat) : Prop := ∃ a t o, ι a = some t /\ m.get a = some o /\ o.isRo = false /\ t.blk = b
structure Step (E : Env) (ι : Inj) (m : Mem) (w : World) (ι' : Inj) (m' : Mem) (w' : World) : Prop where
 sub : Sub ι ι'
 fresh : ∀ b t, ι' b = some t -> ι b = none -> m.size <= b
 rel : Rel E ι' m' w'
 own : ∀ b, b < w.heap.size -> Own ι' m' b -> Own ι m b
 keep : ∀ b, b < w.heap.size -> ¬ Own ι m b -> w'.heap[b]? = w.heap[b]?
 size : w.heap.size <= w'.heap.size
 msize : m.size <= m'.size
 os : w'.os = w.os
 tape : w'.tape = w.tape
 output : w'.output = w.output
 drawn : w.drawn <= w'.drawn
section
variable {E : Env} {ι ι1 ι2 : Inj} {m m1 m2 : Mem} {w w1 w2 : World}
theorem Step.refl (h : Rel E ι m w) : Step E ι m w ι m w :=
 ⟨Sub.refl _, (fun b t h k => by rw [h] at k; cases k), h, fun _ _ h => h, fun _ _ _ => rfl, Nat.le_refl _, Nat.le_refl _, rfl, rfl, rfl, Nat.le_refl _⟩
theorem Step.trans (h : Step E ι m w ι1 m1 w1) (k : Step E ι1 m1 w1 ι2 m2 w2) : Step E ι m w ι2 m2 w2 where
 sub := h.sub.trans k.sub
 fresh := fun b t e n => by
  cases e1 : ι1 b with
  | none => exact Nat.le_trans h.msize (k.fresh b t e e1)
  | some t1 => exact h.fresh b t1 e1 n
 rel := k.rel
 own := fun b hb o => h.own b hb (k.own b (Nat.lt_of_lt_of_le hb h.size) o)
 keep := fun b hb n => (k.keep b (Nat.lt_of_lt_of_le hb h.size) (fun o => n (h.own b hb o))).trans (h.keep b hb n)
 size := Nat.le_trans h.size k.size
 msize := Nat.le_trans h.msize k.msize
 os := k.os.trans h.os
 tape := k.tape.trans h.tape
 output := k.output.trans h.output
 drawn := Nat.le_trans h.drawn k.drawn
theorem cell?_congr (h : w1.heap = w.heap) (a : Addr) : w1.cell? a = w.cell? a := by unfold World.cell?; rw [h]
theorem cell?_blk (a : Addr) (h : w1.heap[a.block]? = w.heap[a.block]?) : w1.cell? a = w.cell? a := by unfold World.cell?; rw [h]
theorem frozen?_blk (a : Addr) (h : w1.heap[a.block]? = w.heap[a.block]?) : w1.frozen? a = w.frozen? a := by unfold World.frozen?; rw [h]
theorem TR.mono {tm : Tr Value} {nt : Nat} {tmps : Array Value} (hs : Sub ι ι1) (h : TR ι tm nt tmps) : TR ι1 tm nt tmps := ⟨h.1, fun i => (h.2 i).mono hs⟩
theorem ERs.mono (hs : Sub ι ι1) {l l' : List MapEntry} (h : ERs ι l l') : ERs ι1 l l' := by
 induction h with
 | nil => exact .nil
 | cons h _ ih => exact .cons ⟨h.1.mono hs, h.2.1.mono hs, h.2.2⟩ ih
theorem OR.move {ng : Nat} {t : Tgt} {o : AObj} (hs : Sub ι ι1) (hb : w1.heap[t.blk]? = w.heap[t.blk]?) (h : OR ng ι w t o) : OR ng ι1 w1 t o := by
 cases o with
 | row cs md es prev =>
  refine ⟨fun j v e => ?_, fun hm => ?_⟩
  ·obtain ⟨v', hc, hv⟩ := h.1 j v e
   exact ⟨v', by rw [cell?_blk _ hb]; exact hc, hv.mono hs⟩
  ·obtain ⟨h1, h2, c, el, fz, hh, hsz, hf⟩ := h.2 hm
   exact ⟨h1, h2, c, el, fz, by rw [hb]; exact hh, hsz, fun j hj => by rw [frozen?_blk _ hb]; exact hf j hj⟩
 | loop st pend tm nt ps asg body D =>
  obtain ⟨h0, ha, hbd, fn, tmps, D', hh, ht⟩ := h
  exact ⟨h0, ha, hbd, fn, tmps, D', by rw [hb]; exact hh, ht.mono hs⟩
 | mark => show w1.heap[t.blk]? = _; rw [hb]; exact h
 | map es clock => obtain ⟨es', hh, he⟩ := h; exact ⟨es', by rw [hb]; exact hh, he.mono hs⟩
 | str s pos => exact ⟨h.1, by rw [hb]; exact h.2⟩
theorem Rel.congr (h : Rel E ι m w) (hh : w1.heap = w.heap) : Rel E ι m w1 where
 dom := fun b t e => by rw [hh]; exact h.dom b t e
 obj := fun b t o e k => (h.obj b t o e k).move (Sub.refl _) (by rw [hh])
 sep := h.sep
 rng := h.rng
 nb := h.nb
 bar := h.bar
 base := h.base
 glob := h.glob
 top := h.top
 prv := h.prv
theorem Step.congr (h : Rel E ι m w) (hh : w1.heap = w.heap) (h1 : w1.os = w.os) (h2 : w1.tape = w.tape) (h3 : w1.output = w.output) (h4 : w.drawn <= w1.drawn := by first | exact Nat.le_refl _ | exact Nat.le_succ _ | assumption) : Step E ι m w ι m w1 :=
 ⟨Sub.refl _, (fun b t h k => by rw [h] at k; cases k), h.congr hh, fun _ _ h => h, (fun _ _ _ => by rw [hh]), (by rw [hh]; exact Nat.le_refl _), Nat.le_refl _, h1, h2, h3, h4⟩
theorem Step.drew (h : Rel E ι m w) : Step E ι m w ι m w.drew := Step.congr h rfl rfl rfl rfl
theorem bltF {a b : Nat} (h : ¬ a < b) : Nat.blt a b = false := by
 cases e : Nat.blt a b with
 | false => rfl
 | true => exact absurd (by simpa using e) h
theorem bltT {a b : Nat} (h : a < b) : Nat.blt a b = true := by simpa using h
theorem of_bltF {a b : Nat} (h : Nat.blt a b = false) : ¬ a < b := fun k => by rw [bltT k] at h; cases h
theorem bleF {a b : Nat} (h : ¬ a <= b) : Nat.ble a b = false := by
 cases e : Nat.ble a b with
 | false => rfl
 | true => exact absurd (Nat.le_of_ble_eq_true e) h
theorem bleT {a b : Nat} (h : a <= b) : Nat.ble a b = true := Nat.ble_eq_true_of_le h
theorem Mem.get_new_same (h : m.nb <= m.size) (o : AObj) : (m.new o).get m.size = some o := by
 simp only [Mem.get_def, Mem.new_def, bltF (Nat.not_lt.2 h), cond_false, Tr.at_put_same]
theorem Mem.get_new_ne {b : Nat} (h : m.nb <= m.size) (hb : b ≠ m.size) (o : AObj) : (m.new o).get b = m.get b := by
 simp only [Mem.get_def, Mem.new_def]
 cases hlt : Nat.blt b m.nb with
 | true => rfl
 | false =>
  have := of_bltF hlt
  simp only [cond_false]
  rw [Tr.at_put_ne _ _ (by omega)]
theorem Mem.get_upd_same {b : Nat} (h : m.nb <= b) (o : Option AObj) : (m.upd b o).get b = o := by
 simp only [Mem.get_def, Mem.upd_def, bltF (Nat.not_lt.2 h), cond_false, Tr.at_put_same]
theorem Mem.get_upd_ne {b c : Nat} (h : m.nb <= b) (hc : c ≠ b) (o : Option AObj) : (m.upd b o).get c = m.get c := by
 simp only [Mem.get_def, Mem.upd_def]
 cases hlt : Nat.blt c m.nb with
 | true => rfl
 | false =>
  have := of_bltF hlt
  simp only [cond_false]
  rw [Tr.at_put_ne _ _ (by omega)]
def Inj.put (ι : Inj) (b : Nat) (t : Tgt) : Inj := fun c => if c = b then some t else ι c
theorem Inj.put_sub {b : Nat} (t : Tgt) (h : ι b = none) : Sub ι (ι.put b t) := fun c u e => by
 unfold Inj.put; split
 ·rename_i hc; subst hc; rw [h] at e; cases e
 ·exact e
theorem Rel.none_of_size (h : Rel E ι m w) : ι m.size = none := by
 cases e : ι m.size with
 | none => rfl
 | some t => exact absurd (h.dom _ _ e).1 (Nat.lt_irrefl _)
theorem Anc.rows {b c : Nat} (h : Anc m b c) : (∃ cs es q, m.get b = some (.row cs .cl es q)) /\ ∃ cs md es x, m.get c = some (.row cs md es (some x)) := by
 induction h with
 | one h k => exact ⟨⟨_, _, _, k⟩, _, _, _, _, h⟩
 | step h k r ih => exact ⟨ih.1, _, _, _, _, h⟩
theorem Anc.move {b c : Nat} (h : Anc m b c) (hg : ∀ x, (∃ cs md es q, m.get x = some (.row cs md es q)) -> m1.get x = m.get x) : Anc m1 b c := by
 induction h with
 | one h k => exact .one (by rw [hg _ ⟨_, _, _, _, h⟩]; exact h) (by rw [hg _ ⟨_, _, _, _, k⟩]; exact k)
 | step h k r ih => exact .step (by rw [hg _ ⟨_, _, _, _, h⟩]; exact h) (by rw [hg _ ⟨_, _, _, _, k⟩]; exact k) ih
theorem Anc.live {b c : Nat} (h : Anc m b c) : (∃ o, m.get b = some o) /\ ∃ o, m.get c = some o := by
 obtain ⟨⟨_, _, _, e⟩, _, _, _, _, k⟩ := h.rows
 exact ⟨⟨_, e⟩, _, k⟩
theorem Anc.under {b c : Nat} {n : Nat} (h : Anc m b c) (top : ∀ x, n <= x -> m.get x = none) (hg : ∀ x, x < n -> m1.get x = m.get x) : Anc m1 b c :=
 h.move fun x ⟨_, _, _, _, e⟩ => hg x (by
  rcases Nat.lt_or_ge x n with hx | hx
  ·exact hx
  ·rw [top x hx] at e; cases e)
theorem Step.newAt (h : Rel E ι m w) {o : AObj} {t : Tgt} (hsz : w.heap.size <= w1.heap.size) (hold : ∀ b, b < w.heap.size -> w1.heap[b]? = w.heap[b]?) (h1 : w1.os = w.os) (h2 : w1.tape = w.tape) (h3 : w1.output = w.output)
  (ht : w.heap.size <= t.blk) (ht1 : t.blk < w1.heap.size) (ho : OR E.ng (ι.put m.size t) w1 t o)
  (hp : ∀ cs md es q, o = .row cs md es (some q) -> q < m.size /\ ∀ o', m.get q = some o' -> ∃ cs es r, o' = .row cs .cl es r) (h4 : w.drawn <= w1.drawn := by first | exact Nat.le_refl _ | exact Nat.le_succ _ | assumption) : Step E ι m w (ι.put m.size t) (m.new o) w1 := by
 have hn := h.none_of_size
 have hs := Inj.put_sub (ι := ι) t hn
 have hnb : m.nb <= m.size := Nat.le_trans h.nb h.bar
 have hget : ∀ b, b ≠ m.size -> (m.new o).get b = m.get b := fun b hb => Mem.get_new_ne hnb hb o
 have hput : ∀ b u, (ι.put m.size t) b = some u -> (b = m.size /\ u = t) \/ (b ≠ m.size /\ ι b = some u) := fun b u e => by
  unfold Inj.put at e; split at e
  ·rename_i hb; cases e; exact .inl ⟨hb, rfl⟩
  ·rename_i hb; exact .inr ⟨hb, e⟩
 have up : ∀ b c, Anc m b c -> Anc (m.new o) b c := fun b c ha => ha.under h.top fun x hx => hget x (by omega)
 have hlt : ∀ b c, Anc (m.new o) b c -> c ≠ m.size -> b ≠ m.size := by
  intro b c ha hc hb
  induction ha with
  | @one c _ _ _ _ _ _ h' k' =>
   rw [hget _ hc] at h'
   have := (h.prv _ _ _ _ _ h').1
   rcases Nat.lt_or_ge c m.size with hx | hx
   ·omega
   ·rw [h.top _ hx] at h'; cases h'
  | @step x c _ _ _ _ _ _ h' k' r ih =>
   rw [hget _ hc] at h'
   have hx1 := (h.prv _ _ _ _ _ h').1
   have hc1 : c < m.size := by
    rcases Nat.lt_or_ge c m.size with hx | hx
    ·exact hx
    ·rw [h.top _ hx] at h'; cases h'
   exact ih (by omega)
 have down : ∀ b c, Anc (m.new o) b c -> c ≠ m.size -> Anc m b c := by
  intro b c ha
  induction ha with
  | one h' k' => intro hc; exact .one (by rw [<- hget _ hc]; exact h') (by rw [<- hget _ (hlt _ _ (.one h' k') hc)]; exact k')
  | @step x c _ _ _ _ _ _ h' k' r ih =>
   intro hc
   have hx : x ≠ m.size := hlt x c (.one h' k') hc
   exact .step (by rw [<- hget _ hc]; exact h') (by rw [<- hget _ hx]; exact k') (ih hx)
 refine ⟨hs, ?_, ?_, ?_, ?_, by omega, by simp [Mem.new_def], h1, h2, h3, h4⟩
 ·intro b u e n
  rcases hput b u e with ⟨hb, _⟩ | ⟨_, e'⟩
  ·omega
  ·rw [n] at e'; cases e'
 ·constructor
  ·intro b u e
   rcases hput b u e with ⟨hb, hu⟩ | ⟨_, e'⟩
   ·subst hb; subst hu; simp [Mem.new_def]; omega
   ·have := h.dom _ _ e'; simp [Mem.new_def]; omega
  ·intro b u o' e k
   rcases hput b u e with ⟨hb, hu⟩ | ⟨hb, e'⟩
   ·subst hb; subst hu
    rw [Mem.get_new_same hnb] at k
    cases k; exact ho
   ·rw [hget b hb] at k
    exact (h.obj b u o' e' k).move hs (hold _ (h.dom _ _ e').2)
  ·intro b c u v ob oc e1 e2 k1 k2 hne hblk hro
   rcases hput b u e1 with ⟨hb, hu⟩ | ⟨hb, e1'⟩
   ·rcases hput c v e2 with ⟨hc, hv⟩ | ⟨hc, e2'⟩
    ·exact absurd (hb.trans hc.symm) hne
    ·subst hu; have := (h.dom _ _ e2').2; omega
   ·rcases hput c v e2 with ⟨hc, hv⟩ | ⟨hc, e2'⟩
    ·subst hv; have := (h.dom _ _ e1').2; omega
    ·rw [hget b hb] at k1; rw [hget c hc] at k2
     exact (h.sep b c u v ob oc e1' e2' k1 k2 hne hblk hro).imp (up _ _) (up _ _)
  ·intro b c u v e1 e2 ha hblk
   rcases hput c v e2 with ⟨hc, hv⟩ | ⟨hc, e2'⟩
   ·rcases hput b u e1 with ⟨hb, hu⟩ | ⟨hb, e1'⟩
    ·subst hb; subst hc; subst hu; subst hv; exact Nat.le_refl _
    ·subst hv; have := (h.dom _ _ e1').2; omega
   ·have hb := hlt b c ha hc
    rcases hput b u e1 with ⟨hb', hu⟩ | ⟨_, e1'⟩
    ·exact absurd hb' hb
    ·rw [hget b hb, hget c hc]
     exact h.rng b c u v e1' e2' (down b c ha hc) hblk
  ·exact h.nb
  ·have := h.bar; simp [Mem.new_def]; omega
  ·intro b o' hb k
   have hb' : b < m.nb := hb
   rw [hget b (by omega)] at k
   exact h.base b o' hb' k
  ·intro g hg
   obtain ⟨u, e, hu⟩ := h.glob g hg
   exact ⟨u, hs _ _ e, hu⟩
  ·intro b hb
   have hb' : m.size + 1 <= b := hb
   rw [hget b (by omega)]
   exact h.top b (by omega)
  ·intro b cs md es q k
   by_cases hb : b = m.size
   ·subst hb
    rw [Mem.get_new_same hnb] at k
    injection k with k
    obtain ⟨hq, ha⟩ := hp _ _ _ _ k
    exact ⟨hq, fun o' e => ha o' (by rw [<- hget q (by omega)]; exact e)⟩
   ·rw [hget b hb] at k
    obtain ⟨hq, ha⟩ := h.prv _ _ _ _ _ k
    have hb1 : b < m.size := by
     rcases Nat.lt_or_ge b m.size with hx | hx
     ·exact hx
     ·rw [h.top _ hx] at k; cases k
    exact ⟨hq, fun o' e => ha o' (by rw [<- hget q (by omega)]; exact e)⟩
 ·rintro b hb ⟨a, u, o', e, k, hr, hu⟩
  rcases hput a u e with ⟨_, hu'⟩ | ⟨ha, e'⟩
  ·subst hu'; omega
  ·rw [hget a ha] at k; exact ⟨a, u, o', e', k, hr, hu⟩
 ·intro b hb _; exact hold b hb
theorem Step.new (h : Rel E ι m w) {o : AObj} {O : Obj} {t : Tgt} (hw : w1.heap = w.heap.push O) (h1 : w1.os = w.os) (h2 : w1.tape = w.tape) (h3 : w1.output = w.output)
  (ht : t.blk = w.heap.size) (ho : OR E.ng (ι.put m.size t) w1 t o)
  (hp : ∀ cs md es q, o = .row cs md es (some q) -> q < m.size /\ ∀ o', m.get q = some o' -> ∃ cs es r, o' = .row cs .cl es r) (h4 : w.drawn <= w1.drawn := by first | exact Nat.le_refl _ | exact Nat.le_succ _ | assumption) : Step E ι m w (ι.put m.size t) (m.new o) w1 :=
 Step.newAt h (by rw [hw]; simp) (fun b hb => by rw [hw, Array.getElem?_push, if_neg (by omega)]) h1 h2 h3 (by omega) (by rw [hw]; simp; omega) ho hp h4
end
end Go.Am
namespace Go.Am
open Go.RowKit
section
variable {E : Env} {P : Program} {ι ι1 ι2 : Inj} {m m1 m2 : Mem} {w w1 w2 : World}
theorem add_eq (b o n : Nat) : (⟨b, o, none⟩ : Addr).add n = ⟨b, o + n, none⟩ := by
 unfold Addr.add; split
 ·subst_vars; rfl
 ·rfl
theorem run_load {a : Addr} {v : Value} {md : Mode} (h : w.cell? a = some v) : (load a md).run P w = .ok v w := by simp [load, Sem.run, h]
theorem run_loadCellsFrom (b o : Nat) : ∀ (vs : List Value) (i : Nat) (acc : Array Value), (∀ (j : Nat) v, vs[j]? = some v -> w.cell? ⟨b, o + (i + j), none⟩ = some v) →
  (loadCellsFrom ⟨b, o, none⟩ i vs.length acc).run P w = .ok (acc ++ vs.toArray) w
 | [], i, acc, _ => by simp [loadCellsFrom, Sem.run_pure]
 | v :: r, i, acc, h => by
  simp only [List.length_cons, loadCellsFrom, add_eq]
  have h0 := h 0 v rfl
  rw [Sem.run_bind, run_load (by simpa using h0)]
  simp only [Result.andThen]
  rw [run_loadCellsFrom b o r (i + 1) (acc.push v) (fun j u e => by
   have := h (j + 1) u (by simpa using e)
   rw [show o + (i + (j + 1)) = o + (i + 1 + j) by omega] at this; exact this)]
  congr 1
  apply Array.ext'
  simp
theorem run_loadCells {b o : Nat} {vs : List Value} (h : ∀ (j : Nat) v, vs[j]? = some v -> w.cell? ⟨b, o + j, none⟩ = some v) :
  (loadCells ⟨b, o, none⟩ vs.length).run P w = .ok vs.toArray w := by
 unfold loadCells
 rw [run_loadCellsFrom b o vs 0 #[] (fun j v e => by simpa using h j v e)]
 simp
def setAll (w : World) (b o : Nat) : List Value -> World
 | [] => w
 | v :: r => setAll (w.setCell ⟨b, o, none⟩ v) b (o + 1) r
theorem setAll_size (b : Nat) : ∀ (vs : List Value) (o : Nat) (w : World), (setAll w b o vs).heap.size = w.heap.size
 | [], _, _ => rfl
 | v :: r, o, w => by rw [setAll, setAll_size b r]; simp
theorem setAll_other (b c : Nat) (h : c ≠ b) : ∀ (vs : List Value) (o : Nat) (w : World), (setAll w b o vs).heap[c]? = w.heap[c]?
 | [], _, _ => rfl
 | v :: r, o, w => by rw [setAll, setAll_other b c h r, Below.heap_setCell _ _ _ _ h]
theorem setAll_streams (b : Nat) : ∀ (vs : List Value) (o : Nat) (w : World), (setAll w b o vs).os = w.os /\ (setAll w b o vs).tape = w.tape /\ (setAll w b o vs).output = w.output
 | [], _, _ => ⟨rfl, rfl, rfl⟩
 | v :: r, o, w => by rw [setAll]; exact setAll_streams b r (o + 1) _
theorem setAll_drawn (b : Nat) : ∀ (vs : List Value) (o : Nat) (w : World), (setAll w b o vs).drawn = w.drawn
 | [], _, _ => rfl
 | v :: r, o, w => by rw [setAll]; exact setAll_drawn b r (o + 1) _
theorem setAll_frozen (b : Nat) (a : Addr) : ∀ (vs : List Value) (o : Nat) (w : World), (setAll w b o vs).frozen? a = w.frozen? a
 | [], _, _ => rfl
 | v :: r, o, w => by rw [setAll, setAll_frozen b a r]; simp
theorem setCell_block {b o : Nat} {v : Value} {c : Array Value} {el : TypeId} {fz : Nat × Nat} (h : w.heap[b]? = some (.cells c el fz)) :
  (w.setCell ⟨b, o, none⟩ v).heap[b]? = some (.cells (c.setIfInBounds o v) el fz) := by
 simp only [World.setCell, Array.getElem?_modify, if_true]
 rw [h]; simp
theorem setAll_block (b : Nat) : ∀ (vs : List Value) (o : Nat) (w : World) (c : Array Value) (el : TypeId) (fz : Nat × Nat), w.heap[b]? = some (.cells c el fz) -> o + vs.length <= c.size →
  ∃ c', (setAll w b o vs).heap[b]? = some (.cells c' el fz) /\ c'.size = c.size /\ ∀ j, c'[j]? = if o <= j /\ j < o + vs.length then vs[j - o]? else c[j]?
 | [], o, w, c, el, fz, h, _ => ⟨c, h, rfl, fun j => by rw [if_neg (by simp only [List.length_nil]; omega)]⟩
 | v :: r, o, w, c, el, fz, h, hl => by
  simp only [List.length_cons] at hl
  obtain ⟨c', h1, h2, h3⟩ := setAll_block b r (o + 1) (w.setCell ⟨b, o, none⟩ v) _ el fz (setCell_block h) (by simp; omega)
  refine ⟨c', h1, by simpa using h2, fun j => ?_⟩
  rw [h3 j]
  by_cases hj : j = o
  ·subst hj
   rw [if_neg (by omega), if_pos (by simp)]
   have : j < c.size := by omega
   simp [this]
  ·by_cases hj2 : o + 1 <= j /\ j < o + 1 + r.length
   ·rw [if_pos hj2, if_pos (by simp; omega)]
    rw [show j - o = (j - (o + 1)) + 1 by omega]; simp
   ·rw [if_neg hj2, if_neg (by simp; omega)]
    rw [Array.getElem?_setIfInBounds_ne (Ne.symm hj)]
def oneC : Value -> Bool
 | .agg _ | .tuple _ => false
 | _ => true
theorem run_store_one {a : Addr} {v u : Value} {md : Mode} (hv : oneC v = true) (hc : w.cell? a = some u) (hf : w.frozen? a = false) : (store a v md).run P w = .ok () (w.setCell a v) := by
 unfold store
 cases v <;> simp_all [Sem.run, oneC]
theorem cell?_setCell_ne {a b : Addr} {v : Value} (h : a ≠ b) : (w.setCell a v).cell? b = w.cell? b := World.cell?_setCell_other w a b v h
theorem run_storeCells (b o : Nat) : ∀ (vs : List Value) (i : Nat) (w : World), (∀ v ∈ vs, oneC v = true) -> (∀ j, j < vs.length -> (w.cell? ⟨b, o + i + j, none⟩).isSome = true) →
  (∀ j, j < vs.length -> w.frozen? ⟨b, o + i + j, none⟩ = false) -> (storeCells ⟨b, o, none⟩ vs i).run P w = .ok () (setAll w b (o + i) vs)
 | [], i, w, _, _, _ => by simp [storeCells, Sem.run_pure, setAll]
 | v :: r, i, w, h1, h2, h3 => by
  simp only [storeCells, add_eq]
  have hc := h2 0 (by simp)
  obtain ⟨u, hu⟩ := Option.isSome_iff_exists.1 hc
  rw [Sem.run_bind, run_store_one (h1 v (by simp)) (by simpa using hu) (by simpa using h3 0 (by simp))]
  simp only [Result.andThen]
  rw [run_storeCells b o r (i + 1) _ (fun v hv => h1 v (by simp [hv]))
   (fun j hj => by
    have := h2 (j + 1) (by simp; omega)
    rw [show o + i + (j + 1) = o + (i + 1) + j by omega] at this
    have hne : (⟨b, o + i, none⟩ : Addr) ≠ ⟨b, o + (i + 1) + j, none⟩ := by intro e; injection e with _ e; omega
    rw [cell?_setCell_ne hne]; exact this)
   (fun j hj => by
    have := h3 (j + 1) (by simp; omega)
    rw [show o + i + (j + 1) = o + (i + 1) + j by omega] at this
    simpa using this)]
  rw [setAll]; rfl
theorem cell?_block {b j : Nat} {c : Array Value} {el : TypeId} {fz : Nat × Nat} (h : w.heap[b]? = some (.cells c el fz)) : w.cell? ⟨b, j, none⟩ = c[j]? := by
 unfold World.cell?; simp [h]
theorem VR.oneC {v v' : Value} (h : VR ι v v') (hv : oneC v = true) : oneC v' = true := by
 cases h <;> first | rfl | exact hv
theorem allOne_mem : ∀ {l : List Value}, allOne l = true -> ∀ v ∈ l, oneC v = true
 | [], _, v, hv => by simp at hv
 | x :: r, h, v, hv => by
  cases x <;> simp only [allOne] at h
  all_goals first | (cases h; done) | skip
  all_goals
   rcases List.mem_cons.1 hv with e | e
   ·subst e; rfl
   ·exact allOne_mem h v e
theorem VRs.allOne {l l' : List Value} (h : VRs ι l l') (ha : allOne l = true) : ∀ v' ∈ l', oneC v' = true := fun v' hv' => by
 obtain ⟨i, hi⟩ := List.mem_iff_getElem?.1 hv'
 obtain ⟨v, hv, hr⟩ := h.get' hi
 exact hr.oneC (allOne_mem ha v (List.mem_of_getElem? hv))
theorem load_cell (h : Rel E ι m w) {a a' : Addr} {v : Value} (ha : VR ι (.pointer (some a)) (.pointer (some a'))) (hv : m.cell a = some v) : ∃ v', w.cell? a' = some v' /\ VR ι v v' := by
 cases ha with
 | @ptr b t o hb =>
  unfold Mem.cell at hv
  split at hv
  ·rename_i cs md es q hg
   have := (h.obj _ _ _ hb hg).1 o v hv
   exact this
  ·cases hv
theorem load_cells (h : Rel E ι m w) {b o n : Nat} {t : Tgt} {cs : List Value} (hb : ι b = some t) (hv : m.cells ⟨b, o, none⟩ n = some cs) :
  cs.length = n /\ ∃ cs', VRs ι cs cs' /\ ∀ (j : Nat) v', cs'[j]? = some v' -> w.cell? ⟨t.blk, t.dlt + o + j, none⟩ = some v' := by
 unfold Mem.cells at hv
 split at hv
 ·rename_i rs md es q hg
  cases hle : Nat.ble (o + n) rs.length with
  | false => simp [hle] at hv
  | true =>
   simp only [hle, cond_true] at hv
   cases hv
   have hle' := Nat.le_of_ble_eq_true hle
   have hlen : ((rs.drop o).take n).length = n := by simp; omega
   refine ⟨hlen, ?_⟩
   have hobj := (h.obj _ _ _ hb hg).1
   -- read the cells one by one
   have key : ∀ k, k <= n -> ∃ cs', VRs ι ((rs.drop o).take k) cs' /\ ∀ (j : Nat) v', cs'[j]? = some v' -> w.cell? ⟨t.blk, t.dlt + o + j, none⟩ = some v' := by
    intro k
    induction k with
    | zero => intro _; exact ⟨[], by simp; exact .nil, fun j v' e => by simp at e⟩
    | succ k ih =>
     intro hk
     obtain ⟨cs', h1, h2⟩ := ih (by omega)
     have hlt : o + k < rs.length := by omega
     obtain ⟨v', hc, hv⟩ := hobj (o + k) rs[o + k] (by simp [hlt])
     refine ⟨cs' ++ [v'], ?_, fun j u e => ?_⟩
     ·rw [List.take_add_one]
      have : (rs.drop o)[k]? = some rs[o + k] := by simp [hlt]
      rw [this]; exact h1.snoc hv
     ·have hl : cs'.length = k := by rw [<- h1.length]; simp; omega
      rw [List.getElem?_append] at e
      split at e
      ·exact h2 j u e
      ·rename_i hj
       have hjk : j = k := by
        rcases Nat.lt_or_ge (j - cs'.length) 1 with h' | h'
        ·omega
        ·rw [List.getElem?_eq_none (by simpa using h')] at e; cases e
       subst hjk
       rw [hl, Nat.sub_self] at e
       simp at e; subst e
       rw [Nat.add_assoc]; exact hc
   exact key n (Nat.le_refl _)
 ·cases hv
theorem Rel.setBar (h : Rel E ι m w) {b : Nat} (h1 : m.nb <= b) (h2 : b <= m.size) : Rel E ι { m with bar := b } w where
 dom := h.dom
 obj := h.obj
 sep := fun b c t u ob oc e1 e2 k1 k2 hne hb hro => (h.sep b c t u ob oc e1 e2 k1 k2 hne hb hro).imp (fun a => a.move fun _ _ => rfl) (fun a => a.move fun _ _ => rfl)
 rng := fun b c t u e1 e2 ha hb => h.rng b c t u e1 e2 (ha.move fun _ _ => rfl) hb
 nb := h1
 bar := h2
 base := h.base
 glob := h.glob
 top := h.top
 prv := h.prv
theorem Step.upd (h : Rel E ι m w) {b : Nat} {t : Tgt} {o o' : AObj} (hb : ι b = some t) (hg : m.get b = some o) (hr : ∀ cs md es q, o ≠ .row cs md es q) (hr' : ∀ cs md es q, o' ≠ .row cs md es q)
  (hbar : m.bar <= b) (hw : ∀ c, c ≠ t.blk -> w1.heap[c]? = w.heap[c]?) (hsz : w1.heap.size = w.heap.size) (h1 : w1.os = w.os) (h2 : w1.tape = w.tape) (h3 : w1.output = w.output)
  (ho : OR E.ng ι w1 t o') (h4 : w.drawn <= w1.drawn := by first | exact Nat.le_refl _ | exact Nat.le_succ _ | assumption) : Step E ι m w ι (m.upd b (some o')) w1 := by
 have hnb : m.nb <= b := Nat.le_trans h.nb hbar
 have hsame : (m.upd b (some o')).get b = some o' := Mem.get_upd_same hnb _
 have hget : ∀ c, c ≠ b -> (m.upd b (some o')).get c = m.get c := fun c hc => Mem.get_upd_ne hnb hc _
 have hnr : ∀ x cs md es q, m.get x = some (.row cs md es q) -> x ≠ b := fun x cs md es q e hx => by subst hx; rw [hg] at e; cases e; exact hr _ _ _ _ rfl
 have hnr' : ∀ x cs md es q, (m.upd b (some o')).get x = some (.row cs md es q) -> x ≠ b := fun x cs md es q e hx => by subst hx; rw [hsame] at e; cases e; exact hr' _ _ _ _ rfl
 have up : ∀ x y, Anc m x y -> Anc (m.upd b (some o')) x y := fun x y ha => ha.move fun z ⟨_, _, _, _, e⟩ => hget z (hnr _ _ _ _ _ e)
 have down : ∀ x y, Anc (m.upd b (some o')) x y -> Anc m x y := fun x y ha => ha.move fun z ⟨_, _, _, _, e⟩ => (hget z (hnr' _ _ _ _ _ e)).symm
 -- no two live blocks of one real block, one of them no row
 have alone : ∀ c u oc, ι c = some u -> m.get c = some oc -> c ≠ b -> u.blk ≠ t.blk := fun c u oc e k hne hblk => by
  rcases h.sep c b u t oc o e hb k hg hne hblk (by rw [AObj.notRow hr, Bool.and_false]) with ha | ha
  ·obtain ⟨_, _, _, _, _, e'⟩ := ha.rows; exact hnr b _ _ _ _ e' rfl
  ·obtain ⟨⟨_, _, _, e'⟩, _⟩ := ha.rows; exact hnr b _ _ _ _ e' rfl
 refine ⟨Sub.refl _, (fun c u e n => by rw [e] at n; cases n), ?_, ?_, ?_, by omega, Nat.le_refl _, h1, h2, h3, h4⟩
 ·constructor
  ·intro c u e; have := h.dom _ _ e; exact ⟨this.1, by omega⟩
  ·intro c u oc e k
   by_cases hc : c = b
   ·subst hc; rw [hsame] at k; cases k; rw [hb] at e; cases e; exact ho
   ·rw [hget c hc] at k
    exact (h.obj c u oc e k).move (Sub.refl _) (hw _ (alone c u oc e k hc))
  ·intro x y u v ox oy e1 e2 k1 k2 hne hblk hro
   by_cases hx : x = b
   ·subst hx
    rw [hget y (Ne.symm hne)] at k2
    rw [hb] at e1; cases e1
    exact absurd hblk.symm (alone y v oy e2 k2 (Ne.symm hne))
   ·by_cases hy : y = b
    ·subst hy
     rw [hget x hne] at k1
     rw [hb] at e2; cases e2
     exact absurd hblk (alone x u ox e1 k1 hne)
    ·rw [hget x hx] at k1; rw [hget y hy] at k2
     exact (h.sep x y u v ox oy e1 e2 k1 k2 hne hblk hro).imp (up _ _) (up _ _)
  ·intro x y u v e1 e2 ha hblk
   have ha' := down _ _ ha
   obtain ⟨⟨_, _, _, ex⟩, _, _, _, _, ey⟩ := ha'.rows
   rw [hget x (hnr _ _ _ _ _ ex), hget y (hnr _ _ _ _ _ ey)]
   exact h.rng x y u v e1 e2 ha' hblk
  ·exact h.nb
  ·exact h.bar
  ·intro c oc hc k
   have hc' : c < m.nb := hc
   rw [hget c (by omega)] at k
   exact h.base c oc hc' k
  ·exact h.glob
  ·intro c hc
   have hc' : m.size <= c := hc
   have := (h.dom _ _ hb).1
   rw [hget c (by omega)]; exact h.top c hc'
  ·intro c cs md es q k
   rw [hget c (hnr' _ _ _ _ _ k)] at k
   obtain ⟨hq, ha⟩ := h.prv _ _ _ _ _ k
   refine ⟨hq, fun oq e => ?_⟩
   by_cases hqb : q = b
   ·subst hqb
    obtain ⟨_, _, _, e'⟩ := ha o hg
    exact absurd e' (hr _ _ _ _)
   ·exact ha oq (by rw [<- hget q hqb]; exact e)
 ·rintro x hx ⟨a, u, oa, e, k, hro, hu⟩
  by_cases ha : a = b
  ·subst ha
   rw [hb] at e; cases e
   exact ⟨a, t, o, hb, hg, by cases o <;> first | rfl | exact absurd rfl (hr _ _ _ _), hu⟩
  ·rw [hget a ha] at k; exact ⟨a, u, oa, e, k, hro, hu⟩
 ·intro x hx hn
  exact hw x (fun e => hn ⟨b, t, o, hb, hg, by cases o <;> first | rfl | exact absurd rfl (hr _ _ _ _), e.symm⟩)
end
end Go.Am
namespace Go.Am
open Go.RowKit
section
variable {E : Env} {P : Program} {ι ι1 ι2 : Inj} {m m1 m2 : Mem} {w w1 w2 : World}
theorem Anc.between {b c : Nat} (h : Anc m b c) (hg : ∀ z, (z = b \/ Anc m b z) -> (z = c \/ Anc m z c) -> m1.get z = m.get z) : Anc m1 b c := by
 induction h with
 | one h k =>
  exact .one (by rw [hg _ (.inr (.one h k)) (.inl rfl)]; exact h) (by rw [hg _ (.inl rfl) (.inr (.one h k))]; exact k)
 | @step x c _ _ _ _ _ _ h k r ih =>
  have hxc : Anc m x c := .one h k
  have tr : ∀ z, Anc m z x -> Anc m z c := fun z hz => .step h k hz
  refine .step (x := x) (by rw [hg _ (.inr (tr _ r)) (.inl rfl)]; exact h) (by rw [hg x (.inr r) (.inr hxc)]; exact k) (ih fun z hz1 hz2 => hg z hz1 (.inr ?_))
  rcases hz2 with e | e
  ·subst e; exact hxc
  ·exact tr z e
theorem Anc.trans {a b c : Nat} (h : Anc m a b) (k : Anc m b c) : Anc m a c := by
 induction k with
 | one h1 k1 => exact .step h1 k1 h
 | step h1 k1 _ ih => exact .step h1 k1 ih
def OnChain (m : Mem) (p : Option Nat) (x : Nat) : Prop := ∃ q cs es r, p = some q /\ m.get q = some (.row cs .cl es r) /\ (x = q \/ Anc m x q)
theorem anc_iff {b x : Nat} {cs : List Value} {md : Md} {es : Nat} {p : Option Nat} (hg : m.get b = some (.row cs md es p)) : Anc m x b ↔ OnChain m p x := by
 constructor
 ·intro h
  cases h with
  | one h k => rw [hg] at h; injection h with h; injection h with _ _ _ h; exact ⟨_, _, _, _, h, k, .inl rfl⟩
  | step h k r => rw [hg] at h; injection h with h; injection h with _ _ _ h; exact ⟨_, _, _, _, h, k, .inr r⟩
 ·rintro ⟨q, cs', es', r, rfl, k, e | e⟩
  ·subst e; exact .one hg k
  ·exact .step hg k e
structure Killed (m m1 : Mem) (p : Option Nat) : Prop where
 nb : m1.nb = m.nb
 size : m1.size = m.size
 bar : m1.bar = m.bar
 gone : ∀ x, OnChain m p x -> m1.get x = none
 kept : ∀ x, ¬ OnChain m p x -> m1.get x = m.get x
 high : ∀ x, OnChain m p x -> m.bar <= x
theorem anc_lt (hp : ∀ b cs md es q, m.get b = some (.row cs md es (some q)) -> q < b) {x y : Nat} (h : Anc m x y) : x < y := by
 induction h with
 | one h _ => exact hp _ _ _ _ _ h
 | step h _ _ ih => exact Nat.lt_trans ih (hp _ _ _ _ _ h)
theorem kill_spec : ∀ (k : Nat) (m m1 : Mem) (p : Option Nat), m.nb <= m.bar -> (∀ b cs md es q, m.get b = some (.row cs md es (some q)) -> q < b) -> m.kill k p = some m1 -> Killed m m1 p := by
 intro k
 induction k with
 | zero =>
  intro m m1 p _ _ h
  cases p with
  | none => simp [Mem.kill] at h; subst h; exact ⟨rfl, rfl, rfl, (fun x ⟨_, _, _, _, e, _⟩ => by cases e), fun _ _ => rfl, (fun x ⟨_, _, _, _, e, _⟩ => by cases e)⟩
  | some p => simp [Mem.kill] at h
 | succ k ih =>
  intro m m1 p hnb hp h
  cases p with
  | none => simp [Mem.kill] at h; subst h; exact ⟨rfl, rfl, rfl, (fun x ⟨_, _, _, _, e, _⟩ => by cases e), fun _ _ => rfl, (fun x ⟨_, _, _, _, e, _⟩ => by cases e)⟩
  | some p =>
   simp only [Mem.kill] at h
   cases hg : m.get p with
   | none =>
    rw [hg] at h; simp at h; subst h
    exact ⟨rfl, rfl, rfl, (fun x ⟨_, _, _, _, e, k, _⟩ => by cases e; rw [hg] at k; cases k), fun _ _ => rfl, (fun x ⟨_, _, _, _, e, k, _⟩ => by cases e; rw [hg] at k; cases k)⟩
   | some o =>
    cases o with
    | row cs md es q =>
     cases md with
     | ro => rw [hg] at h; simp at h
     | rw => rw [hg] at h; simp at h
     | cl =>
      rw [hg] at h
      simp only at h
      cases hb : Nat.ble m.bar p with
      | false => simp [hb] at h
      | true =>
       simp only [hb, cond_true] at h
       have hbar := Nat.le_of_ble_eq_true hb
       have hnp : m.nb <= p := Nat.le_trans hnb hbar
       have hget : ∀ x, x ≠ p -> (m.upd p none).get x = m.get x := fun x hx => Mem.get_upd_ne hnp hx _
       have hsame : (m.upd p none).get p = none := Mem.get_upd_same hnp _
       have hp' : ∀ b cs md es q, (m.upd p none).get b = some (.row cs md es (some q)) -> q < b := fun b cs md es q e => by
        by_cases hbp : b = p
        ·subst hbp; rw [hsame] at e; cases e
        ·rw [hget b hbp] at e; exact hp _ _ _ _ _ e
       have K := ih (m.upd p none) m1 q hnb hp' h
       -- the chain from p on is p and the chain behind it
       have up : ∀ x, OnChain m q x -> OnChain (m.upd p none) q x := by
        rintro x ⟨y, cs', es', r, rfl, k, e⟩
        have hyp := hp _ _ _ _ _ hg
        refine ⟨y, cs', es', r, rfl, by rw [hget y (by omega)]; exact k, ?_⟩
        rcases e with e | e
        ·exact .inl e
        ·refine .inr (e.between fun z _ hz => hget z ?_)
         rcases hz with hz | hz
         ·omega
         ·have := anc_lt hp hz; omega
       have down : ∀ x, OnChain (m.upd p none) q x -> OnChain m q x := by
        rintro x ⟨y, cs', es', r, rfl, k, e⟩
        have hyp := hp _ _ _ _ _ hg
        rw [hget y (by omega)] at k
        refine ⟨y, cs', es', r, rfl, k, ?_⟩
        rcases e with e | e
        ·exact .inl e
        ·refine .inr (e.between fun z _ hz => (hget z ?_).symm)
         rcases hz with hz | hz
         ·omega
         ·have := anc_lt hp' hz; omega
       have split : ∀ x, OnChain m (some p) x ↔ x = p \/ OnChain m q x := by
        intro x
        constructor
        ·rintro ⟨y, cs', es', r, e, k, e'⟩
         cases e
         rcases e' with e' | e'
         ·exact .inl e'
         ·exact .inr ((anc_iff hg).1 e')
        ·rintro (e | e)
         ·exact ⟨p, _, _, _, rfl, hg, .inl e⟩
         ·exact ⟨p, _, _, _, rfl, hg, .inr ((anc_iff hg).2 e)⟩
       refine ⟨K.nb, K.size, K.bar, fun x hx => ?_, fun x hx => ?_, fun x hx => ?_⟩
       ·rcases (split x).1 hx with e | e
        ·subst e
         by_cases hc : OnChain (m.upd x none) q x
         ·exact K.gone x hc
         ·rw [K.kept x hc]; exact hsame
        ·exact K.gone x (up x e)
       ·have h1 : x ≠ p := fun e => hx ((split x).2 (.inl e))
        rw [K.kept x (fun e => hx ((split x).2 (.inr (down x e)))), hget x h1]
       ·rcases (split x).1 hx with e | e
        ·omega
        ·exact K.high x (up x e)
    | loop => rw [hg] at h; simp at h
    | mark => rw [hg] at h; simp at h
    | map => rw [hg] at h; simp at h
    | str => rw [hg] at h; simp at h
theorem overK_get : ∀ (vs cs : List Value), vs.length <= cs.length -> ∀ j, (overK vs cs)[j]? = if j < vs.length then vs[j]? else cs[j]?
 | [], cs, _, j => by rw [overK_nil]; simp
 | v :: vs, [], h, j => by simp at h
 | v :: vs, c :: cs, h, j => by
  rw [overK_cons]
  cases j with
  | zero => simp
  | succ j =>
   have := overK_get vs cs (by simpa using h) j
   simpa using this
theorem overK_length : ∀ (vs cs : List Value), vs.length <= cs.length -> (overK vs cs).length = cs.length
 | [], cs, _ => by rw [overK_nil]
 | v :: vs, [], h => by simp at h
 | v :: vs, c :: cs, h => by rw [overK_cons]; simp [overK_length vs cs (by simpa using h)]
theorem splice_get : ∀ (cs : List Value) (off : Nat) (vs : List Value), off + vs.length <= cs.length -> ∀ j : Nat,
  (splice cs off vs)[j]? = if off <= j /\ j < off + vs.length then vs[j - off]? else cs[j]?
 | cs, 0, vs, h, j => by rw [splice_zero, overK_get vs cs (by omega)]; simp
 | [], off + 1, vs, h, j => by simp at h
 | c :: cs, off + 1, vs, h, j => by
  rw [splice_succ]
  cases j with
  | zero => simp
  | succ j =>
   have := splice_get cs off vs (by simp at h; omega) j
   simp only [List.getElem?_cons_succ, this]
   have e1 : (off <= j /\ j < off + vs.length) ↔ (off + 1 <= j + 1 /\ j + 1 < off + 1 + vs.length) := by omega
   have e2 : j + 1 - (off + 1) = j - off := by omega
   rw [e2]
   by_cases hc : off <= j /\ j < off + vs.length
   ·rw [if_pos hc, if_pos (e1.1 hc)]
   ·rw [if_neg hc, if_neg (fun x => hc (e1.2 x))]
theorem splice_length : ∀ (cs : List Value) (off : Nat) (vs : List Value), off + vs.length <= cs.length -> (splice cs off vs).length = cs.length
 | cs, 0, vs, h => by rw [splice_zero, overK_length vs cs (by omega)]
 | [], off + 1, vs, h => by simp at h
 | c :: cs, off + 1, vs, h => by rw [splice_succ]; simp [splice_length cs off vs (by simp at h; omega)]
theorem store_cells_all (h : Rel E ι m w) {a a' : Addr} {vs vs' : List Value} (ha : VR ι (.pointer (some a)) (.pointer (some a'))) (hvs : VRs ι vs vs') (hm : m.storeCells a vs = some m1) :
  ∃ w1, (storeCells a' vs').run P w = .ok () w1 /\ w1 = setAll w a'.block a'.off vs' /\ Step E ι m w ι m1 w1 := by
 cases ha with
 | @ptr b t off hb =>
 unfold Mem.storeCells at hm
 split at hm
 case h_2 => cases hm
 rename_i cs es prev hg
 cases hcond : (Nat.ble m.bar b && Nat.ble (off + vs.length) cs.length && allOne vs) with
 | false => simp [hcond] at hm
 | true =>
 simp only [hcond, cond_true] at hm
 simp only [Bool.and_eq_true] at hcond
 obtain ⟨⟨hbar, hlen⟩, hone⟩ := hcond
 have hbar := Nat.le_of_ble_eq_true hbar
 have hlen := Nat.le_of_ble_eq_true hlen
 cases hk : m.kill m.size prev with
 | none => rw [hk] at hm; simp at hm
 | some m0 =>
 rw [hk] at hm
 simp only [Option.map_some, Option.some.injEq] at hm
 have hprv : ∀ b cs md es q, m.get b = some (.row cs md es (some q)) -> q < b := fun b cs md es q e => (h.prv b cs md es q e).1
 have K := kill_spec m.size m m0 prev h.nb hprv hk
 have hg' : m.get b = some (.row cs .rw es prev) := hg
 have hbm0 : m0.nb <= b := by rw [K.nb]; exact Nat.le_trans h.nb hbar
 obtain ⟨hcell, hrw⟩ := h.obj b t _ hb hg'
 obtain ⟨hes, hcap, c, el, fz, hblk, hcs, hfz⟩ := hrw (by decide)
 have hl' := hvs.length
 have hbn : ¬ OnChain m prev b := fun hc => by have := anc_lt hprv ((anc_iff hg').2 hc); omega
 -- the model's run
 have hrun : (storeCells ⟨t.blk, t.dlt + off, none⟩ vs').run P w = .ok () (setAll w t.blk (t.dlt + off) vs') := by
  have := run_storeCells (P := P) t.blk (t.dlt + off) vs' 0 w (hvs.allOne hone)
   (fun j hj => by
    have hlt : off + j < cs.length := by omega
    obtain ⟨v', e, _⟩ := hcell (off + j) cs[off + j] (by simp [hlt])
    rw [show t.dlt + off + 0 + j = t.dlt + (off + j) by omega, e]; rfl)
   (fun j hj => hfz _ (fz_le (by omega)))
  simpa using this
 refine ⟨_, hrun, rfl, ?_⟩
 obtain ⟨c1, hb1, hs1, hc1⟩ := setAll_block t.blk vs' (t.dlt + off) w c el fz hblk (by omega)
 have hst := setAll_streams t.blk vs' (t.dlt + off) w
 have hdr := setAll_drawn t.blk vs' (t.dlt + off) w
 have hoth : ∀ x, x ≠ t.blk -> (setAll w t.blk (t.dlt + off) vs').heap[x]? = w.heap[x]? := fun x hx => setAll_other _ _ hx _ _ _
 have hsize : (setAll w t.blk (t.dlt + off) vs').heap.size = w.heap.size := setAll_size _ _ _ _
 generalize setAll w t.blk (t.dlt + off) vs' = w1 at *
 subst hm
 have hsame : (m0.upd b (some (.row (splice cs off vs) .rw es none))).get b = some (.row (splice cs off vs) .rw es none) := Mem.get_upd_same hbm0 _
 have hget : ∀ x, x ≠ b -> (m0.upd b (some (.row (splice cs off vs) .rw es none))).get x = m0.get x := fun x hx => Mem.get_upd_ne hbm0 hx _
 have hgone : ∀ x, OnChain m prev x -> (m0.upd b (some (.row (splice cs off vs) .rw es none))).get x = none := fun x hx => by
  rw [hget x (fun e => by subst e; exact hbn hx)]; exact K.gone x hx
 have hkept : ∀ x, x ≠ b -> ¬ OnChain m prev x -> (m0.upd b (some (.row (splice cs off vs) .rw es none))).get x = m.get x := fun x hx hc => by rw [hget x hx]; exact K.kept x hc
 -- what lives now, and is not b, lived
 have hlive : ∀ x o, (m0.upd b (some (.row (splice cs off vs) .rw es none))).get x = some o -> x ≠ b -> ¬ OnChain m prev x /\ m.get x = some o := fun x o e hx => by
  by_cases hc : OnChain m prev x
  ·rw [hgone x hc] at e; cases e
  ·exact ⟨hc, by rw [<- hkept x hx hc]; exact e⟩
 -- b is nobody's ancestor
 have hnoA : ∀ y, ¬ Anc m b y := fun y ha => by obtain ⟨⟨_, _, _, e⟩, _⟩ := ha.rows; rw [hg'] at e; cases e
 -- none that lives shares b's array
 have halone : ∀ x u o, ι x = some u -> (m0.upd b (some (.row (splice cs off vs) .rw es none))).get x = some o -> x ≠ b -> u.blk ≠ t.blk := fun x u o e k hx hblk' => by
  obtain ⟨hc, k'⟩ := hlive x o k hx
  rcases h.sep x b u t o _ e hb k' hg' hx hblk' (Bool.and_false _) with ha | ha
  ·exact hc ((anc_iff hg').1 ha)
  ·exact hnoA _ ha
 have up : ∀ x y, Anc m x y -> x ≠ b -> y ≠ b -> ¬ OnChain m prev x -> Anc (m0.upd b (some (.row (splice cs off vs) .rw es none))) x y := by
  intro x y ha hx hy hc
  have notOn : ∀ z, (z = x \/ Anc m x z) -> ¬ OnChain m prev z := by
   rintro z (e | e) hz
   ·subst e; exact hc hz
   ·obtain ⟨q, cs', es', r, hq, k, e'⟩ := hz
    refine hc ⟨q, cs', es', r, hq, k, .inr ?_⟩
    rcases e' with e' | e'
    ·subst e'; exact e
    ·exact e.trans e'
  refine ha.between fun z hz1 hz2 => hkept z ?_ (notOn z hz1)
  rintro rfl
  rcases hz2 with e | e
  ·exact hy e.symm
  ·exact hnoA _ e
 have down : ∀ x y, Anc (m0.upd b (some (.row (splice cs off vs) .rw es none))) x y -> Anc m x y := by
  intro x y ha
  refine ha.between fun z hz1 hz2 => ?_
  have hzb : z ≠ b := by
   rintro rfl
   rcases hz2 with e | e
   ·subst e
    obtain ⟨_, _, _, _, _, e'⟩ := ha.rows
    rw [hsame] at e'; injection e' with e'; injection e' with _ _ _ e'; cases e'
   ·obtain ⟨⟨_, _, _, e'⟩, _⟩ := e.rows
    rw [hsame] at e'; injection e' with e'; injection e' with _ e' _ _; cases e'
  have hl : ∃ o, (m0.upd b (some (.row (splice cs off vs) .rw es none))).get z = some o := by
   rcases hz1 with e | e
   ·subst e; exact ha.live.1
   ·exact e.live.2
  obtain ⟨o, hl⟩ := hl
  rw [(hlive z o hl hzb).2, hl]
 refine ⟨Sub.refl _, (fun x u e n => by rw [e] at n; cases n), ?_, ?_, ?_, by omega, by simp [Mem.upd_def, K.size], hst.1, hst.2.1, hst.2.2, Nat.le_of_eq hdr.symm⟩
 ·constructor
  ·intro x u e; have := h.dom _ _ e; exact ⟨by simp [Mem.upd_def, K.size]; exact this.1, by omega⟩
  ·intro x u o e k
   by_cases hx : x = b
   ·subst hx
    rw [hsame] at k; cases k
    rw [hb] at e; cases e
    refine ⟨fun j v ev => ?_, fun _ => ⟨hes, by rw [splice_length _ _ _ hlen]; exact hcap, c1, el, fz, hb1, by omega, fun j hj => ?_⟩⟩
    ·rw [splice_get _ _ _ hlen] at ev
     rw [cell?_block hb1, hc1]
     by_cases hin : off <= j /\ j < off + vs.length
     ·rw [if_pos hin] at ev
      rw [if_pos (by omega)]
      obtain ⟨v', e', hr⟩ := hvs.get ev
      exact ⟨v', by rw [show t.dlt + j - (t.dlt + off) = j - off by omega]; exact e', hr⟩
     ·rw [if_neg hin] at ev
      rw [if_neg (by omega)]
      obtain ⟨v', e', hr⟩ := hcell j v ev
      rw [cell?_block hblk] at e'
      exact ⟨v', e', hr⟩
    ·have hf := hfz j hj
     unfold World.frozen? at hf ⊢
     rw [hblk] at hf; rw [hb1]; exact hf
   ·exact (h.obj x u o e (hlive x o k hx).2).move (Sub.refl _) (hoth _ (halone x u o e k hx))
  ·intro x y u v ox oy e1 e2 k1 k2 hne hblk' hro
   by_cases hx : x = b
   ·subst hx
    rw [hb] at e1; cases e1
    exact absurd hblk'.symm (halone y v oy e2 k2 (Ne.symm hne))
   ·by_cases hy : y = b
    ·subst hy
     rw [hb] at e2; cases e2
     exact absurd hblk' (halone x u ox e1 k1 hne)
    ·obtain ⟨hcx, kx⟩ := hlive x ox k1 hx
     obtain ⟨hcy, ky⟩ := hlive y oy k2 hy
     exact (h.sep x y u v ox oy e1 e2 kx ky hne hblk' hro).imp (fun ha => up _ _ ha hx hy hcx) (fun ha => up _ _ ha hy hx hcy)
  ·intro x y u v e1 e2 ha hblk'
   have ha' := down _ _ ha
   obtain ⟨⟨ox, lx⟩, oy, ly⟩ := ha.live
   have hx : x ≠ b := by rintro rfl; exact hnoA _ ha'
   have hy : y ≠ b := by
    rintro rfl
    obtain ⟨_, _, _, _, _, e'⟩ := ha.rows
    rw [hsame] at e'; injection e' with e'; injection e' with _ _ _ e'; cases e'
   have := h.rng x y u v e1 e2 ha' hblk'
   rw [lx, ly]
   rw [(hlive x ox lx hx).2, (hlive y oy ly hy).2] at this
   exact this
  ·show m0.nb <= m0.bar; rw [K.nb, K.bar]; exact h.nb
  ·show m0.bar <= m0.size; rw [K.bar, K.size]; exact h.bar
  ·intro x o hx k
   have hx' : x < m.nb := by have : x < m0.nb := hx; rw [K.nb] at this; exact this
   have hxb : x ≠ b := by have := h.nb; omega
   exact h.base x o hx' (hlive x o k hxb).2
  ·exact h.glob
  ·intro x hx
   have hx' : m.size <= x := by have : m0.size <= x := hx; rw [K.size] at this; exact this
   have := (h.dom _ _ hb).1
   by_cases hc : OnChain m prev x
   ·exact hgone x hc
   ·rw [hkept x (by omega) hc]; exact h.top x hx'
  ·intro x cs' md es' q k
   have hx : x ≠ b := by
    rintro rfl
    rw [hsame] at k; injection k with k; injection k with _ _ _ k; cases k
   obtain ⟨hq, hc⟩ := h.prv _ _ _ _ _ (hlive x _ k hx).2
   refine ⟨hq, fun o e => ?_⟩
   by_cases hqb : q = b
   ·subst hqb
    obtain ⟨_, _, _, e'⟩ := hc _ hg'
    injection e' with _ e' _ _; cases e'
   ·exact hc o (hlive q o e hqb).2
 ·rintro x hx ⟨y, u, o, e, k, hro, hu⟩
  by_cases hy : y = b
  ·subst hy
   rw [hb] at e; cases e
   exact ⟨y, t, _, hb, hg', rfl, hu⟩
  ·exact ⟨y, u, o, e, (hlive y o k hy).2, hro, hu⟩
 ·intro x hx hn
  exact hoth x (fun e => hn ⟨b, t, _, hb, hg', rfl, e.symm⟩)
theorem store_cells (h : Rel E ι m w) {a a' : Addr} {vs vs' : List Value} (ha : VR ι (.pointer (some a)) (.pointer (some a'))) (hvs : VRs ι vs vs') (hm : m.storeCells a vs = some m1) :
  ∃ w1, (storeCells a' vs').run P w = .ok () w1 /\ Step E ι m w ι m1 w1 :=
 let ⟨w1, h1, _, h2⟩ := store_cells_all h ha hvs hm
 ⟨w1, h1, h2⟩
end
end Go.Am
namespace Go.Am
open Go.RowKit
section
variable {E : Env} {P : Program} {ι ι1 ι2 : Inj} {m m1 m2 : Mem} {w w1 w2 : World}
theorem row_high (h : Rel E ι m w) {A : Nat} {cs : List Value} {md : Md} {es : Nat} {q : Option Nat} (hg : m.get A = some (.row cs md es q)) (hmd : md ≠ .ro) : m.nb <= A := by
 rcases Nat.lt_or_ge A m.nb with hx | hx
 ·obtain ⟨_, _, e⟩ := h.base A _ hx hg
  injection e with _ e _ _; exact absurd e hmd
 ·exact hx
theorem claim_step (h : Rel E ι m w) {A : Nat} {cs : List Value} {es : Nat} {prev : Option Nat} (hg : m.get A = some (.row cs .rw es prev)) :
  Step E ι m w ι (m.upd A (some (.row cs .cl es prev))) w /\ ∀ c cs' md es', (m.upd A (some (.row cs .cl es prev))).get c ≠ some (.row cs' md es' (some A)) := by
 have hnb := row_high h hg (by decide)
 have hsame : (m.upd A (some (.row cs .cl es prev))).get A = some (.row cs .cl es prev) := Mem.get_upd_same hnb _
 have hget : ∀ c, c ≠ A -> (m.upd A (some (.row cs .cl es prev))).get c = m.get c := fun c hc => Mem.get_upd_ne hnb hc _
 have hnoA : ∀ y, ¬ Anc m A y := fun y ha => by obtain ⟨⟨_, _, _, e⟩, _⟩ := ha.rows; rw [hg] at e; cases e
 have hno : ∀ c cs' md es', m.get c ≠ some (.row cs' md es' (some A)) := fun c cs' md es' e => by
  obtain ⟨_, _, _, e'⟩ := (h.prv _ _ _ _ _ e).2 _ hg
  injection e' with _ e' _ _; cases e'
 have hno' : ∀ c cs' md es', (m.upd A (some (.row cs .cl es prev))).get c ≠ some (.row cs' md es' (some A)) := fun c cs' md es' e => by
  by_cases hc : c = A
  ·subst hc; rw [hsame] at e; injection e with e; injection e with _ _ _ e; subst e; exact hno _ _ _ _ hg
  ·rw [hget c hc] at e; exact hno _ _ _ _ e
 -- a row reads alike but for the mark
 have hrow : ∀ x cs' md es' q, m.get x = some (.row cs' md es' q) -> ∃ md', (m.upd A (some (.row cs .cl es prev))).get x = some (.row cs' md' es' q) /\ (md = .cl -> md' = .cl) := fun x cs' md es' q e => by
  by_cases hx : x = A
  ·subst hx; rw [hg] at e; injection e with e; injection e with e1 e2 e3 e4; subst e1; subst e2; subst e3; subst e4; exact ⟨_, hsame, fun e => by cases e⟩
  ·exact ⟨md, by rw [hget x hx]; exact e, id⟩
 have hrow' : ∀ x cs' md es' q, (m.upd A (some (.row cs .cl es prev))).get x = some (.row cs' md es' q) -> x ≠ A -> m.get x = some (.row cs' md es' q) := fun x cs' md es' q e hx => by rw [<- hget x hx]; exact e
 have up : ∀ x y, Anc m x y -> Anc (m.upd A (some (.row cs .cl es prev))) x y := by
  intro x y ha
  induction ha with
  | one h1 k1 =>
   obtain ⟨_, e1, _⟩ := hrow _ _ _ _ _ h1
   obtain ⟨_, e2, f2⟩ := hrow _ _ _ _ _ k1
   rw [f2 rfl] at e2; exact .one e1 e2
  | step h1 k1 _ ih =>
   obtain ⟨_, e1, _⟩ := hrow _ _ _ _ _ h1
   obtain ⟨_, e2, f2⟩ := hrow _ _ _ _ _ k1
   rw [f2 rfl] at e2; exact .step e1 e2 ih
 have down : ∀ x y, Anc (m.upd A (some (.row cs .cl es prev))) x y -> Anc m x y := by
  intro x y ha
  have hx : ∀ c cs' md es' b, (m.upd A (some (.row cs .cl es prev))).get c = some (.row cs' md es' (some b)) -> b ≠ A := fun c cs' md es' b e hb => by subst hb; exact hno' _ _ _ _ e
  have hc : ∀ c cs' md es' q, (m.upd A (some (.row cs .cl es prev))).get c = some (.row cs' md es' q) -> ∃ md', m.get c = some (.row cs' md' es' q) := fun c cs' md es' q e => by
   by_cases hcA : c = A
   ·subst hcA; rw [hsame] at e; injection e with e; injection e with e1 e2 e3 e4; subst e1; subst e3; subst e4; exact ⟨_, hg⟩
   ·exact ⟨_, hrow' _ _ _ _ _ e hcA⟩
  induction ha with
  | one h1 k1 => obtain ⟨_, e1⟩ := hc _ _ _ _ _ h1; exact .one e1 (hrow' _ _ _ _ _ k1 (hx _ _ _ _ _ h1))
  | step h1 k1 _ ih => obtain ⟨_, e1⟩ := hc _ _ _ _ _ h1; exact .step e1 (hrow' _ _ _ _ _ k1 (hx _ _ _ _ _ h1)) ih
 have hlen : ∀ x, rowLen ((m.upd A (some (.row cs .cl es prev))).get x) = rowLen (m.get x) := fun x => by
  by_cases hx : x = A
  ·subst hx; rw [hsame, hg]; rfl
  ·rw [hget x hx]
 have hlive : ∀ x o, (m.upd A (some (.row cs .cl es prev))).get x = some o -> ∃ o', m.get x = some o' /\ o'.isRo = o.isRo := fun x o e => by
  by_cases hx : x = A
  ·subst hx; rw [hsame] at e; cases e; exact ⟨_, hg, rfl⟩
  ·exact ⟨o, by rw [<- hget x hx]; exact e, rfl⟩
 refine ⟨⟨Sub.refl _, (fun x u e n => by rw [e] at n; cases n), ?_, ?_, fun _ _ _ => rfl, Nat.le_refl _, Nat.le_refl _, rfl, rfl, rfl, Nat.le_refl _⟩, hno'⟩
 ·constructor
  ·exact h.dom
  ·intro x u o e k
   by_cases hx : x = A
   ·subst hx; rw [hsame] at k; cases k
    have := h.obj x u _ e hg
    exact ⟨this.1, fun _ => this.2 (by decide)⟩
   ·rw [hget x hx] at k; exact h.obj x u o e k
  ·intro x y u v ox oy e1 e2 k1 k2 hne hb hro
   obtain ⟨ox', kx, rx⟩ := hlive x ox k1
   obtain ⟨oy', ky, ry⟩ := hlive y oy k2
   exact (h.sep x y u v ox' oy' e1 e2 kx ky hne hb (by rw [rx, ry]; exact hro)).imp (up _ _) (up _ _)
  ·intro x y u v e1 e2 ha hb
   rw [hlen x, hlen y]; exact h.rng x y u v e1 e2 (down _ _ ha) hb
  ·exact h.nb
  ·exact h.bar
  ·intro x o hx k
   have hx' : x < m.nb := hx
   rw [hget x (by omega)] at k; exact h.base x o hx' k
  ·exact h.glob
  ·intro x hx
   have hx' : m.size <= x := hx
   have hAm : A < m.size := by
    rcases Nat.lt_or_ge A m.size with hy | hy
    ·exact hy
    ·rw [h.top A hy] at hg; cases hg
   rw [hget x (by omega)]; exact h.top x hx'
  ·intro x cs' md es' q k
   have hqA : q ≠ A := fun e => by subst e; exact hno' _ _ _ _ k
   by_cases hx : x = A
   ·subst hx; rw [hsame] at k; injection k with k; injection k with e1 e2 e3 e4; subst e4
    obtain ⟨hq, hc⟩ := h.prv _ _ _ _ _ hg
    exact ⟨hq, fun o e => hc o (by rw [<- hget q hqA]; exact e)⟩
   ·rw [hget x hx] at k
    obtain ⟨hq, hc⟩ := h.prv _ _ _ _ _ k
    exact ⟨hq, fun o e => hc o (by rw [<- hget q hqA]; exact e)⟩
 ·rintro x hx ⟨y, u, o, e, k, hro, hu⟩
  obtain ⟨o', k', hr⟩ := hlive y o k
  exact ⟨y, u, o', e, k', by rw [hr]; exact hro, hu⟩
theorem anc_first {b c : Nat} (h : Anc m b c) : ∃ x cs md es, m.get x = some (.row cs md es (some b)) := by
 induction h with
 | one h _ => exact ⟨_, _, _, _, h⟩
 | step _ _ _ ih => exact ih
theorem grow_step (h : Rel E ι m w) {A off : Nat} {t : Tgt} {cs new new' : List Value} {es : Nat} {prev : Option Nat} (hA : ι A = some t) (hg : m.get A = some (.row cs .cl es prev))
  (hno : ∀ c cs' md es', m.get c ≠ some (.row cs' md es' (some A))) (hoff : off <= cs.length) (hnew : VRs ι new new') (hcap : t.dlt + cs.length + new.length <= t.cap) :
  Step E ι m w (ι.put m.size ⟨t.blk, t.dlt + off, t.cap, es⟩) (m.new (.row (cs.drop off ++ new) .rw es (some A))) (setAll w t.blk (t.dlt + cs.length) new') := by
 have hn := h.none_of_size
 have hs := Inj.put_sub (ι := ι) ⟨t.blk, t.dlt + off, t.cap, es⟩ hn
 have hnb : m.nb <= m.size := Nat.le_trans h.nb h.bar
 obtain ⟨hcell, hrw⟩ := h.obj A t _ hA hg
 obtain ⟨hes, hcapA, c, el, fz, hblk, hcs, hfz⟩ := hrw (by decide)
 have hl' := hnew.length
 have hAs := (h.dom _ _ hA).1
 have htb := (h.dom _ _ hA).2
 obtain ⟨c1, hb1, hs1, hc1⟩ := setAll_block t.blk new' (t.dlt + cs.length) w c el fz hblk (by omega)
 have hst := setAll_streams t.blk new' (t.dlt + cs.length) w
 have hdr := setAll_drawn t.blk new' (t.dlt + cs.length) w
 have hoth : ∀ x, x ≠ t.blk -> (setAll w t.blk (t.dlt + cs.length) new').heap[x]? = w.heap[x]? := fun x hx => setAll_other _ _ hx _ _ _
 have hsize : (setAll w t.blk (t.dlt + cs.length) new').heap.size = w.heap.size := setAll_size _ _ _ _
 have hfr : ∀ a, (setAll w t.blk (t.dlt + cs.length) new').frozen? a = w.frozen? a := fun a => setAll_frozen _ _ _ _ _
 generalize setAll w t.blk (t.dlt + cs.length) new' = w1 at *
 have hN : (m.new (.row (cs.drop off ++ new) .rw es (some A))).get m.size = some (.row (cs.drop off ++ new) .rw es (some A)) := Mem.get_new_same hnb _
 have hget : ∀ b, b ≠ m.size -> (m.new (.row (cs.drop off ++ new) .rw es (some A))).get b = m.get b := fun b hb => Mem.get_new_ne hnb hb _
 have hput : ∀ b u, (ι.put m.size ⟨t.blk, t.dlt + off, t.cap, es⟩) b = some u -> (b = m.size /\ u = ⟨t.blk, t.dlt + off, t.cap, es⟩) \/ (b ≠ m.size /\ ι b = some u) := fun b u e => by
  unfold Inj.put at e; split at e
  ·rename_i hb; cases e; exact .inl ⟨hb, rfl⟩
  ·rename_i hb; exact .inr ⟨hb, e⟩
 have up : ∀ b c, Anc m b c -> Anc (m.new (.row (cs.drop off ++ new) .rw es (some A))) b c := fun b c ha => ha.under h.top fun x hx => hget x (by omega)
 have hltm : ∀ x o, m.get x = some o -> x < m.size := fun x o e => by
  rcases Nat.lt_or_ge x m.size with hx | hx
  ·exact hx
  ·rw [h.top _ hx] at e; cases e
 have hlt : ∀ b c, Anc (m.new (.row (cs.drop off ++ new) .rw es (some A))) b c -> c ≠ m.size -> b ≠ m.size := by
  intro b c ha hc hb
  induction ha with
  | @one c _ _ _ _ _ _ h' k' =>
   rw [hget _ hc] at h'
   have := (h.prv _ _ _ _ _ h').1
   have := hltm _ _ h'
   omega
  | @step x c _ _ _ _ _ _ h' k' r ih =>
   rw [hget _ hc] at h'
   have := (h.prv _ _ _ _ _ h').1
   have := hltm _ _ h'
   exact ih (by omega)
 have down : ∀ b c, Anc (m.new (.row (cs.drop off ++ new) .rw es (some A))) b c -> c ≠ m.size -> Anc m b c := by
  intro b c ha
  induction ha with
  | one h' k' => intro hc; exact .one (by rw [<- hget _ hc]; exact h') (by rw [<- hget _ (hlt _ _ (.one h' k') hc)]; exact k')
  | @step x c _ _ _ _ _ _ h' k' r ih =>
   intro hc
   have hx : x ≠ m.size := hlt x c (.one h' k') hc
   exact .step (by rw [<- hget _ hc]; exact h') (by rw [<- hget _ hx]; exact k') (ih hx)
 have hnoA : ∀ y, ¬ Anc m A y := fun y ha => by obtain ⟨x, _, _, _, e⟩ := anc_first ha; exact hno _ _ _ _ e
 -- who shares the array is A, or A's ancestor
 have hshare : ∀ x u o, ι x = some u -> m.get x = some o -> u.blk = t.blk -> x = A \/ Anc m x A := fun x u o e k hb => by
  by_cases hx : x = A
  ·exact .inl hx
  ·rcases h.sep x A u t o _ e hA k hg hx hb (Bool.and_false _) with ha | ha
   ·exact .inr ha
   ·exact absurd ha (hnoA _)
 -- the new row's ancestors are A and A's ancestors
 have hancN : ∀ x, Anc (m.new (.row (cs.drop off ++ new) .rw es (some A))) x m.size -> x = A \/ Anc m x A := fun x ha => by
  cases ha with
  | one h' k' => rw [hN] at h'; injection h' with h'; injection h' with _ _ _ h'; injection h' with h'; exact .inl h'.symm
  | step h' k' r => rw [hN] at h'; injection h' with h'; injection h' with _ _ _ h'; injection h' with h'; subst h'; exact .inr (down _ _ r (by omega))
 refine ⟨hs, ?_, ?_, ?_, ?_, by omega, by simp [Mem.new_def], hst.1, hst.2.1, hst.2.2, Nat.le_of_eq hdr.symm⟩
 ·intro b u e n
  rcases hput b u e with ⟨hb, _⟩ | ⟨_, e'⟩
  ·omega
  ·rw [n] at e'; cases e'
 ·constructor
  ·intro b u e
   rcases hput b u e with ⟨hb, hu⟩ | ⟨_, e'⟩
   ·subst hb; subst hu; simp [Mem.new_def]; omega
   ·have := h.dom _ _ e'; simp [Mem.new_def]; omega
  ·intro b u o e k
   rcases hput b u e with ⟨hb, hu⟩ | ⟨hb, e'⟩
   ·subst hb; subst hu
    rw [hN] at k; cases k
    refine ⟨fun j v ev => ?_, fun _ => ⟨rfl, by simp; omega, c1, el, fz, hb1, by simp; omega, fun j hj => by rw [hfr]; exact hfz j (by subst hes; exact hj)⟩⟩
    show ∃ v', w1.cell? ⟨t.blk, t.dlt + off + j, none⟩ = some v' /\ _
    rw [cell?_block hb1, hc1]
    have hdl : (cs.drop off).length = cs.length - off := by simp
    by_cases hj : j < cs.length - off
    ·rw [List.getElem?_append_left (by omega), List.getElem?_drop] at ev
     obtain ⟨v', e', hr⟩ := hcell (off + j) v ev
     rw [cell?_block hblk] at e'
     rw [if_neg (by omega)]
     exact ⟨v', by rw [Nat.add_assoc]; exact e', hr.mono hs⟩
    ·rw [List.getElem?_append_right (by omega)] at ev
     have hlt2 : j - (cs.drop off).length < new.length := by
      rcases Nat.lt_or_ge (j - (cs.drop off).length) new.length with hx | hx
      ·exact hx
      ·rw [List.getElem?_eq_none hx] at ev; cases ev
     obtain ⟨v', e', hr⟩ := hnew.get ev
     rw [if_pos (by omega)]
     refine ⟨v', ?_, hr.mono hs⟩
     rw [<- e']; congr 1; omega
   ·rw [hget b hb] at k
    by_cases hbk : u.blk = t.blk
    ·-- a row that shares the array: what is known of it lies ahead of what was written
     have hle : u.dlt + rowLen (m.get b) <= t.dlt + cs.length := by
      rcases hshare b u o e' k hbk with hx | hx
      ·subst hx; rw [hA] at e'; cases e'; rw [hg]; exact Nat.le_refl _
      ·have := h.rng b A u t e' hA hx hbk
       rw [hg] at this; exact this
     have hro : ∃ cs' md es' q, o = .row cs' md es' q := by
      rcases hshare b u o e' k hbk with hx | hx
      ·subst hx; rw [hg] at k; cases k; exact ⟨_, _, _, _, rfl⟩
      ·obtain ⟨⟨_, _, _, e2⟩, _⟩ := hx.rows; rw [k] at e2; cases e2; exact ⟨_, _, _, _, rfl⟩
     obtain ⟨cs', md, es', q, rfl⟩ := hro
     rw [k] at hle
     have hob := h.obj b u _ e' k
     refine ⟨fun j v ev => ?_, fun hmd => ?_⟩
     ·obtain ⟨v', e2, hr⟩ := hob.1 j v ev
      have hj : j < cs'.length := by
       rcases Nat.lt_or_ge j cs'.length with hx | hx
       ·exact hx
       ·rw [List.getElem?_eq_none hx] at ev; cases ev
      simp only [rowLen] at hle
      rw [hbk] at e2 ⊢
      rw [cell?_block hblk] at e2
      rw [cell?_block hb1, hc1, if_neg (by omega)]
      exact ⟨v', e2, hr.mono hs⟩
     ·obtain ⟨g1, g2, c2, el2, fz2, g3, g4, g5⟩ := hob.2 hmd
      rw [hbk] at g3
      rw [hblk] at g3; cases g3
      exact ⟨g1, g2, c1, el, fz, by rw [hbk]; exact hb1, by omega, fun j hj => by rw [hfr]; exact g5 j hj⟩
    ·exact (h.obj b u o e' k).move hs (hoth _ hbk)
  ·intro b c' u v ob oc e1 e2 k1 k2 hne hbk hro
   rcases hput b u e1 with ⟨hb, hu⟩ | ⟨hb, e1'⟩
   ·rcases hput c' v e2 with ⟨hc, hv⟩ | ⟨hc, e2'⟩
    ·exact absurd (hb.trans hc.symm) hne
    ·subst hb; subst hu
     rw [hget c' hc] at k2
     rcases hshare c' v oc e2' k2 hbk.symm with hx | hx
     ·subst hx; exact .inr (.one hN (by rw [hget c' hc]; exact hg))
     ·exact .inr (.step hN (by rw [hget A (by omega)]; exact hg) (up _ _ hx))
   ·rcases hput c' v e2 with ⟨hc, hv⟩ | ⟨hc, e2'⟩
    ·subst hc; subst hv
     rw [hget b hb] at k1
     rcases hshare b u ob e1' k1 hbk with hx | hx
     ·subst hx; exact .inl (.one hN (by rw [hget b hb]; exact hg))
     ·exact .inl (.step hN (by rw [hget A (by omega)]; exact hg) (up _ _ hx))
    ·rw [hget b hb] at k1; rw [hget c' hc] at k2
     exact (h.sep b c' u v ob oc e1' e2' k1 k2 hne hbk hro).imp (up _ _) (up _ _)
  ·intro b c' u v e1 e2 ha hbk
   rcases hput c' v e2 with ⟨hc, hv⟩ | ⟨hc, e2'⟩
   ·subst hc; subst hv
    rcases hput b u e1 with ⟨hb, hu⟩ | ⟨hb, e1'⟩
    ·subst hb; subst hu; exact Nat.le_refl _
    ·have hle : u.dlt + rowLen (m.get b) <= t.dlt + cs.length := by
      rcases hancN b ha with hx | hx
      ·subst hx; rw [hA] at e1'; cases e1'; rw [hg]; exact Nat.le_refl _
      ·have := h.rng b A u t e1' hA hx hbk
       rw [hg] at this; exact this
     rw [hN, hget b hb]
     simp [rowLen] at hle ⊢
     cases hgb : m.get b with
     | none => rw [hgb] at hle; simp at hle ⊢; omega
     | some ob => rw [hgb] at hle; cases ob <;> simp at hle ⊢ <;> omega
   ·have hb := hlt b c' ha hc
    rcases hput b u e1 with ⟨hb', hu⟩ | ⟨_, e1'⟩
    ·exact absurd hb' hb
    ·rw [hget b hb, hget c' hc]
     exact h.rng b c' u v e1' e2' (down b c' ha hc) hbk
  ·exact h.nb
  ·have := h.bar; simp [Mem.new_def]; omega
  ·intro b o' hb k
   have hb' : b < m.nb := hb
   rw [hget b (by omega)] at k
   exact h.base b o' hb' k
  ·intro g hg'
   obtain ⟨u, e, hu⟩ := h.glob g hg'
   exact ⟨u, hs _ _ e, hu⟩
  ·intro b hb
   have hb' : m.size + 1 <= b := hb
   rw [hget b (by omega)]
   exact h.top b (by omega)
  ·intro b cs' md es' q k
   by_cases hb : b = m.size
   ·subst hb
    rw [hN] at k; injection k with k; injection k with _ _ _ k; injection k with k; subst k
    exact ⟨hAs, fun o e => by rw [hget A (by omega), hg] at e; cases e; exact ⟨_, _, _, rfl⟩⟩
   ·rw [hget b hb] at k
    obtain ⟨hq, hc⟩ := h.prv _ _ _ _ _ k
    have := hltm _ _ k
    exact ⟨hq, fun o e => hc o (by rw [<- hget q (by omega)]; exact e)⟩
 ·rintro b hb ⟨a, u, o', e, k, hr, hu⟩
  rcases hput a u e with ⟨ha, hu'⟩ | ⟨ha, e'⟩
  ·subst hu'; exact ⟨A, t, _, hA, hg, rfl, hu⟩
  ·rw [hget a ha] at k; exact ⟨a, u, o', e', k, hr, hu⟩
 ·intro b hb hnn
  exact hoth b (fun e => hnn ⟨A, t, _, hA, hg, rfl, e.symm⟩)
end
end Go.Am
namespace Go.Am
open Go.RowKit
structure EnvOk (E : Env) (P : Program) : Prop where
 ty : ∀ t y, E.ty t = some y -> ∃ i, P.info? t = some i /\ i.size = y.size /\ i.bytes = y.bytes /\ (∀ z, y.zero = some z -> i.zero = some z /\ closedV z = true) /\ i.comparable = y.cmp /\ P.underlying t = some y.desc
 fn : ∀ f x, E.fn f = some x -> ∃ F, P.funcs[f]? = some F /\ F.body = some x.body /\ F.ntmps = x.ntmps /\ F.results.toList = x.results /\ (F.name == "runtime.NumGoroutine") = false /\ codeOk E.ng x.body = true
 plain : ∀ t, E.plainEq t = true -> P.eqGuardType P.depth t = false /\ P.stoodInHeld t = false
 mixed : P.follows .mixedOrders = true
section
variable {E : Env} {P : Program} {ι ι1 ι2 : Inj} {m m1 m2 : Mem} {w w1 w2 : World}
theorem EnvOk.und (hE : EnvOk E P) {t : Nat} {y : Ty} (h : E.ty t = some y) (w : World) : (underlying t).run P w = .ok y.desc w := by
 obtain ⟨_, _, _, _, _, _, hu⟩ := hE.ty t y h; exact run_underlying hu w
theorem EnvOk.undP (hE : EnvOk E P) {t : Nat} {y : Ty} (h : E.ty t = some y) : P.underlying t = some y.desc := by
 obtain ⟨_, _, _, _, _, _, hu⟩ := hE.ty t y h; exact hu
theorem EnvOk.size (hE : EnvOk E P) {t : Nat} {y : Ty} (h : E.ty t = some y) (w : World) : (sizeOf t).run P w = .ok y.size w := by
 obtain ⟨i, hi, hs, _⟩ := hE.ty t y h; simp [sizeOf, typeInfo, hi, hs]
theorem EnvOk.infoR (hE : EnvOk E P) {t : Nat} {y : Ty} (h : E.ty t = some y) (w : World) : ∃ i, (typeInfo t).run P w = .ok i w /\ i.size = y.size /\ i.bytes = y.bytes /\ i.comparable = y.cmp := by
 obtain ⟨i, hi, hs, hb, _, hc, _⟩ := hE.ty t y h; exact ⟨i, by simp [typeInfo, hi], hs, hb, hc⟩
theorem EnvOk.agg (hE : EnvOk E P) {t : Nat} {y : Ty} (h : E.ty t = some y) (w : World) : (Go.isAgg t).run P w = .ok (isAgg y.desc) w := by
 simp only [Go.isAgg, Sem.run_bind, hE.und h, Result.andThen_ok]
 cases y.desc <;> rfl
theorem EnvOk.zero (hE : EnvOk E P) {t : Nat} {zs : List Value} (h : zeroOf E t = some zs) (w : World) : ∃ z, (zeroValue t).run P w = .ok z w /\ z.cells.toList = zs /\ closedV z = true /\ ∀ ι, VRs ι zs zs := by
 unfold zeroOf at h
 split at h
 ·rename_i y hy
  obtain ⟨i, hi, _, _, hz, _⟩ := hE.ty t y hy
  split at h
  ·rename_i v hv
   cases h
   obtain ⟨hz1, hz2⟩ := hz v hv
   exact ⟨v, by simp [zeroValue, typeInfo, hi, hz1], rfl, hz2, fun ι => (VR.closed hz2).cells⟩
  ·cases h
 ·cases h
theorem sim_loadVar (hE : EnvOk E P) (h : Rel E ι m w) {t : Nat} {a a' : Addr} {v : Value} (hv : loadV E m t a = some v) (ha : VR ι (.pointer (some a)) (.pointer (some a'))) :
  ∃ v', (loadVar t a').run P w = .ok v' w /\ VR ι v v' := by
 unfold loadV at hv
 split at hv
 ·rename_i y hy
  simp only [loadVar, Sem.run_bind, hE.agg hy, Result.andThen_ok]
  cases hag : isAgg y.desc with
  | true =>
   rw [hag] at hv
   simp only at hv
   cases hc : m.cells a y.size with
   | none => rw [hc] at hv; cases hv
   | some cs =>
    rw [hc] at hv; cases hv
    cases ha with
    | @ptr b tg o hb =>
     obtain ⟨hlen, cs', h1, h2⟩ := load_cells h hb hc
     refine ⟨.agg cs'.toArray, ?_, .agg (by simpa using h1)⟩
     have hl : cs'.length = y.size := by rw [<- h1.length]; exact hlen
     have := run_loadCells (P := P) (w := w) (b := tg.blk) (o := tg.dlt + o) (vs := cs') h2
     rw [hl] at this
     simp [hE.size hy, this]
  | false =>
   rw [hag] at hv
   obtain ⟨v', hc, hr⟩ := load_cell h ha hv
   exact ⟨v', by simp [hc], hr⟩
 ·cases hv
theorem sim_storeVar (hE : EnvOk E P) (h : Rel E ι m w) {t : Nat} {a a' : Addr} {v v' : Value} (hm : storeV E m t a v = some m1) (ha : VR ι (.pointer (some a)) (.pointer (some a'))) (hv : VR ι v v') :
  ∃ w1, (storeVar t a' v').run P w = .ok () w1 /\ Step E ι m w ι m1 w1 := by
 unfold storeV at hm
 split at hm
 ·rename_i y hy
  cases hl : Nat.beq v.cells.toList.length y.size with
  | false => rw [hl] at hm; cases hm
  | true =>
   rw [hl] at hm
   simp only [cond_true] at hm
   have hl := Nat.eq_of_beq_eq_true hl
   obtain ⟨w1, hr, hs⟩ := store_cells (P := P) h ha hv.cells hm
   refine ⟨w1, ?_, hs⟩
   have hsz : v'.cells.size = y.size := by have := hv.cells.length; simp at this hl; omega
   simp [storeVar, hE.size hy, hsz, hr]
 ·cases hm
theorem sim_new (h : Rel E ι m w) {cs cs' : List Value} (hcs : VRs ι cs cs') (el es : Nat) :
  Step E ι m w (ι.put m.size ⟨w.heap.size, 0, cs'.length, es⟩) (newRow m cs es).2 (w.alloc (.cells cs'.toArray el)) ∧
   (ι.put m.size ⟨w.heap.size, 0, cs'.length, es⟩) m.size = some ⟨w.heap.size, 0, cs'.length, es⟩ := by
 have hs := Inj.put_sub (ι := ι) ⟨w.heap.size, 0, cs'.length, es⟩ h.none_of_size
 have hb : (w.alloc (.cells cs'.toArray el)).heap[w.heap.size]? = some (.cells cs'.toArray el) := by show (w.heap.push _)[w.heap.size]? = _; simp
 refine ⟨Step.new h rfl rfl rfl rfl rfl ?_ (fun _ _ _ _ e => by cases e), ?_⟩
 ·refine ⟨fun j v e => ?_, fun _ => ⟨rfl, by simp [hcs.length], cs'.toArray, el, (0, 0), hb, by simp, fun j _ => ?_⟩⟩
  ·obtain ⟨v', e', hr⟩ := hcs.get e
   exact ⟨v', by rw [cell?_block hb]; simpa using e', hr.mono hs⟩
  ·unfold World.frozen?; rw [hb]; simp
 ·unfold Inj.put; rw [if_pos rfl]
theorem VRs.repeat {a : List Value} {a' : List Value} (h : VRs ι a a') : ∀ n, VRs ι (repeatCells a n) (repeatCells a' n)
 | 0 => .nil
 | n + 1 => h.append (VRs.repeat h n)
theorem repeat_length (z : List Value) : ∀ n, (repeatCells z n).length = n * z.length
 | 0 => by simp [repeatCells]
 | n + 1 => by simp [repeatCells, repeat_length z n, Nat.add_mul]; omega
theorem repeat_get (z : List Value) : ∀ (n i : Nat), i < n * z.length -> (repeatCells z n)[i]? = z[i % z.length]?
 | 0, i, h => by simp at h
 | n + 1, i, h => by
  rw [repeatCells]
  by_cases hi : i < z.length
  ·rw [List.getElem?_append_left hi, Nat.mod_eq_of_lt hi]
  ·rw [List.getElem?_append_right (by omega), repeat_get z n _ (by rw [Nat.add_mul] at h; omega)]
   congr 1
   rw [Nat.mod_eq_sub_mod (a := i) (by omega)]
theorem zeros_toList (z : Array Value) (n : Nat) (hz : z.size ≠ 0) : ((Array.range (n * z.size)).map (z[· % z.size]!)).toList = repeatCells z.toList n := by
 apply List.ext_getElem?
 intro i
 by_cases hi : i < n * z.size
 ·rw [repeat_get _ _ _ (by simpa using hi)]
  have hm : i % z.size < z.size := Nat.mod_lt _ (by omega)
  simp [hi, getElem!_pos, hm]
 ·rw [List.getElem?_eq_none (by simp; omega), List.getElem?_eq_none (by rw [repeat_length]; simp; omega)]
theorem setCells_foldl : ∀ (vs : List Value) (k off : Nat) (arr : Array Value),
  ((vs.zipIdx k).foldl (fun cs p => cs.setIfInBounds (off + p.2) p.1) arr).toList = setCells arr.toList (off + k) vs
 | [], _, _, _ => rfl
 | v :: r, k, off, arr => by
  simp only [List.zipIdx_cons, List.foldl_cons, setCells]
  rw [setCells_foldl r (k + 1) off]
  simp [Nat.add_assoc]
theorem VRs.setCells : ∀ {vs vs' cs cs' : List Value} (off : Nat), VRs ι cs cs' -> VRs ι vs vs' -> VRs ι (setCells cs off vs) (Am.setCells cs' off vs')
 | [], _, _, _, _, h, k => by cases k; exact h
 | v :: r, _, _, _, off, h, k => by cases k with | cons k1 k2 => exact VRs.setCells (off + 1) (h.set k1 off) k2
inductive PRs (ι : Inj) : List (Nat × Value) -> List (Nat × Value) -> Prop where
 | nil : PRs ι [] []
 | cons {i : Nat} {v v' : Value} {l l' : List (Nat × Value)} (h : VR ι v v') (hs : PRs ι l l') : PRs ι ((i, v) :: l) ((i, v') :: l')
theorem sim_fill {place : Nat -> Option (Nat × Nat)} : ∀ {parts parts' : List (Nat × Value)} {cs cs' r : List Value}, PRs ι parts parts' -> VRs ι cs cs' -> fillL place cs parts = some r →
  ∃ r', Instr.fill place cs'.toArray parts' = some r'.toArray /\ VRs ι r r'
 | [], _, cs, cs', r, hp, hc, h => by cases hp; simp [fillL] at h; subst h; exact ⟨cs', by simp [Instr.fill], hc⟩
 | (i, v) :: rest, _, cs, cs', r, hp, hc, h => by
  cases hp with
  | @cons _ _ v' _ rest' hv hs =>
  simp only [fillL] at h
  cases hpl : place i with
  | none => rw [hpl] at h; cases h
  | some os =>
   obtain ⟨off, size⟩ := os
   rw [hpl] at h
   simp only at h
   cases hcond : (Nat.beq v.cells.toList.length size && Nat.ble (off + v.cells.toList.length) cs.length) with
   | false => rw [hcond] at h; cases h
   | true =>
    rw [hcond] at h
    simp only [cond_true] at h
    rw [Bool.and_eq_true] at hcond
    have h1 := Nat.eq_of_beq_eq_true hcond.1
    have h2 := Nat.le_of_ble_eq_true hcond.2
    have hl := hv.cells.length
    have hlc := hc.length
    obtain ⟨r', e, hr⟩ := sim_fill hs (VRs.setCells off hc hv.cells) h
    refine ⟨r', ?_, hr⟩
    simp only [Instr.fill, hpl]
    rw [if_neg (by simp at hl h1 h2 ⊢; omega)]
    rw [<- e]
    congr 1
    apply Array.ext'
    have := setCells_foldl v'.cells.toList 0 off cs'.toArray
    simp only [Nat.add_zero] at this
    rw [<- this]
    rw [<- Array.foldl_toList, Array.toList_zipIdx]
theorem places_eq (hE : EnvOk E P) : ∀ {fs : List Field} {ps : List (Nat × Nat)}, fieldPlaces E fs = some ps -> fs.mapM (fun f => (P.info? f.type).map fun i => (f.offset, i.size)) = some ps
 | [], ps, h => by simp [fieldPlaces] at h; subst h; rfl
 | f :: r, ps, h => by
  simp only [fieldPlaces] at h
  split at h
  ·rename_i y l hy hl
   cases h
   obtain ⟨i, hi, hs, _⟩ := hE.ty _ _ hy
   simp [List.mapM_cons, hi, hs, places_eq hE hl]
  ·cases h
theorem sim_build (hE : EnvOk E P) {t : Nat} {parts parts' : List (Nat × Value)} {v : Value} (h : buildV E t parts = some v) (hp : PRs ι parts parts') :
  ∃ v', (∀ w, (Instr.build t parts'.toArray).run P w = .ok v' w) /\ VR ι v v' := by
 unfold buildV at h
 split at h
 case h_2 => cases h
 rename_i y z hy hz
 obtain ⟨i, hi, hs, _, hzz, _, hu⟩ := hE.ty _ _ hy
 obtain ⟨zv, hzr, hzc, hzcl, hzV⟩ := hE.zero hz default
 have hiz : i.zero = some zv := by
  unfold zeroOf at hz; rw [hy] at hz; simp only at hz
  split at hz
  ·rename_i v hv
   have := (hzz v hv).1
   simp [zeroValue, typeInfo, hi, this] at hzr
   rw [this, hzr]
  ·cases hz
 split at h
 ·rename_i fields hd
  rw [hd] at hu
  split at h
  ·rename_i ps hps
   cases hf : fillL (fun i => ps[i]?) z parts with
   | none => rw [hf] at h; cases h
   | some cs =>
    rw [hf] at h; cases h
    obtain ⟨r', e, hr⟩ := sim_fill hp (hzV ι) hf
    refine ⟨.agg r'.toArray, fun w => run_build w t _ _ ?_, .agg (by simpa using hr)⟩
    unfold Program.built
    simp only [hi, hu, hiz, places_eq hE hps]
    rw [<- e]
    have : zv.cells = z.toArray := by apply Array.ext'; simpa using hzc
    rw [this]; simp
  ·cases h
 ·rename_i n e hd
  rw [hd] at hu
  split at h
  ·rename_i ye hye
   obtain ⟨ie, hie, hse, _⟩ := hE.ty _ _ hye
   cases hf : fillL (fun i => some (i * ye.size, ye.size)) z parts with
   | none => rw [hf] at h; cases h
   | some cs =>
    rw [hf] at h; cases h
    obtain ⟨r', e', hr⟩ := sim_fill hp (hzV ι) hf
    refine ⟨.agg r'.toArray, fun w => run_build w t _ _ ?_, .agg (by simpa using hr)⟩
    unfold Program.built
    simp only [hi, hu, hiz, hie]
    rw [<- e']
    have : zv.cells = z.toArray := by apply Array.ext'; simpa using hzc
    rw [this, hse]
  ·cases h
 ·cases h
theorem sim_buildSlice (hE : EnvOk E P) (h : Rel E ι m w) {t len : Nat} {parts parts' : List (Nat × Value)} {v : Value} (hb : buildSliceV E m t len parts = some (v, m1)) (hp : PRs ι parts parts') :
  ∃ ι1 w1 v', (Instr.buildSlice t len parts'.toArray).run P w = .ok v' w1 /\ VR ι1 v v' /\ Step E ι m w ι1 m1 w1 := by
 unfold buildSliceV at hb
 split at hb
 case h_2 => cases hb
 rename_i y hy
 split at hb
 case h_2 => cases hb
 rename_i e hd
 split at hb
 case h_2 => cases hb
 rename_i ye z hye hz
 cases hcond : (Nat.ble (len * ye.size) 16777216 && Nat.beq z.length ye.size) with
 | false => rw [hcond] at hb; cases hb
 | true =>
 rw [hcond] at hb
 simp only [cond_true] at hb
 rw [Bool.and_eq_true] at hcond
 have h1 := Nat.le_of_ble_eq_true hcond.1
 have h2 := Nat.eq_of_beq_eq_true hcond.2
 split at hb
 case h_2 => cases hb
 rename_i cs hcs
 simp only [newRow, Option.some.injEq, Prod.mk.injEq] at hb
 obtain ⟨rfl, rfl⟩ := hb
 obtain ⟨zv, hzr, hzc, _, hzV⟩ := hE.zero hz w
 obtain ⟨r', e', hr⟩ := sim_fill hp ((hzV ι).repeat len) hcs
 obtain ⟨hst, hvr⟩ := sim_new h hr e ye.size
 refine ⟨_, _, .slice (some ⟨w.heap.size, 0, none⟩) len len, ?_, ?_, hst⟩
 ·have hu := hE.und hy
  rw [hd] at hu
  have hfill : Instr.fill (fun i => some (i * ye.size, ye.size)) ((Array.range (len * ye.size)).map fun x => zv.cells[x % zv.cells.size]!) parts' = some r'.toArray := by
   rw [<- e']
   by_cases h0 : ye.size = 0
   ·have hz0 : z = [] := List.eq_nil_of_length_eq_zero (by omega)
    congr 1; apply Array.ext'; rw [hz0]
    have : ∀ n, repeatCells [] n = [] := fun n => by induction n with | zero => rfl | succ n ih => simp [repeatCells, ih]
    simp [h0, this]
   ·have hsz : zv.cells.size = ye.size := by
     have hq : zv.cells.toList.length = z.length := by rw [hzc]
     rw [Array.length_toList] at hq; omega
    congr 1; apply Array.ext'
    rw [<- hzc, <- zeros_toList _ _ (by omega), hsz]
  have hfill' : Instr.fill (fun i => some (i * ye.size, ye.size)) ((Array.range (len * ye.size)).map fun x => (if len * ye.size = 0 then #[] else zv.cells)[x % (if len * ye.size = 0 then (#[] : Array Value) else zv.cells).size]!) parts' = some r'.toArray := by
   by_cases h0 : len * ye.size = 0
   ·rw [<- hfill]; congr 1; rw [h0]; simp
   ·simp only [if_neg h0]; exact hfill
  simp only [Instr.buildSlice, Sem.run_bind, hu, Result.andThen_ok, hE.size hye, Sem.run_ite, Sem.run_pure]
  rw [if_neg (by omega)]
  by_cases h0 : len * ye.size = 0
  ·simp only [if_pos h0] at hfill'
   rw [if_pos h0, hfill']; rfl
  ·rw [if_neg h0, hzr]
   simp only [Result.andThen_ok]
   rw [hfill]; rfl
 ·exact VR.sex 0 len len hvr
theorem sim_part (hE : EnvOk E P) {t off : Nat} {cs cs' : Array Value} {v : Value} (h : partV E t cs.toList off = some v) (hc : VRs ι cs.toList cs'.toList) :
  ∃ v', (∀ w, (part t cs' off).run P w = .ok v' w) /\ VR ι v v' := by
 unfold partV at h
 split at h
 ·rename_i y hy
  cases hag : isAgg y.desc with
  | true =>
   rw [hag] at h; cases h
   refine ⟨.agg (cs'.extract off (off + y.size)), fun w => by simp [part, hE.agg hy, hag, hE.size hy], .agg ?_⟩
   have e1 : (cs'.extract off (off + y.size)).toList = (cs'.toList.drop off).take y.size := by
    rw [Array.toList_extract, List.extract_eq_take_drop]; congr 1; omega
   rw [e1]
   exact (hc.drop off).take y.size
  | false =>
   rw [hag] at h
   obtain ⟨v', e, hr⟩ := hc.get h
   exact ⟨v', fun w => by
    have : cs'[off]? = some v' := by simpa using e
    simp [part, hE.agg hy, hag, this], hr⟩
 ·cases h
theorem natBeqF {a b : Nat} (h : a ≠ b) : Nat.beq a b = false := by
 cases e : Nat.beq a b with
 | false => rfl
 | true => exact absurd (Nat.eq_of_beq_eq_true e) h
theorem bytesEq_eq : ∀ a b : List UInt8, bytesEq a b = (a == b)
 | [], [] => rfl
 | [], _ :: _ => rfl
 | _ :: _, [] => rfl
 | a :: x, b :: y => by
  simp only [bytesEq, bytesEq_eq x y, List.cons_beq_cons]
  congr 1
  by_cases h : a = b
  ·subst h; simp
  ·have : a.toNat ≠ b.toNat := fun e => h (UInt8.toNat_inj.1 e)
   rw [natBeqF this, beq_eq_false_iff_ne.2 h]
set_option maxHeartbeats 1600000 in
theorem sim_eq (hE : EnvOk E P) : ∀ (d : Nat) {D t : Nat} {x y x' y' : Value} {r : Bool}, d <= D -> aEq E d t x y = some r -> VR ι x x' -> VR ι y y' -> ∀ w, (Op.equalIn D t x' y').run P w = .ok r w := by
 intro d
 induction d with
 | zero => intro D t x y x' y' r _ h; simp [aEq] at h
 | succ d ih =>
  intro D t x y x' y' r hD h hx hy w
  obtain ⟨D, rfl⟩ : ∃ k, D = k + 1 := ⟨D - 1, by omega⟩
  simp only [aEq] at h
  split at h
  ·cases h
  rename_i ty hty
  have hu := hE.und hty
  split at h
  case h_1 hd => cases hx; cases hy; rw [hd] at hu; cases h; simp [Op.equalIn, hu]
  case h_2 hd =>
   cases hx; cases hy; rw [hd] at hu
   split at h
   ·rename_i hk; cases h; subst hk; simp [Op.equalIn, hu]
   ·cases h
  case h_3 hd =>
   cases hx; cases hy; rw [hd] at hu; cases h
   simp only [Op.equalIn, Sem.run_bind, hu, Result.andThen_ok, Sem.run_pure, bytesEq_eq]
   congr 1
   rw [beq_toListBytes, ByteArray.toList_eq, ByteArray.toList_eq]
  case h_4 hd =>
   rw [hd] at hu; cases h
   cases hx; cases hy <;> simp [Op.equalIn, hu]
  case h_5 hd =>
   rw [hd] at hu; cases h
   cases hx; cases hy; simp [Op.equalIn, hu]
  case h_6 e a b hd =>
   rw [hd] at hu
   split at h
   ·rename_i ye hye
    cases hcond : (!(Nat.beq ye.size 0) && Nat.beq a.block b.block) with
    | false => rw [hcond] at h; cases h
    | true =>
     rw [hcond] at h; simp only [cond_true, Option.some.injEq] at h; subst h
     rw [Bool.and_eq_true] at hcond
     have h0 : ye.size ≠ 0 := fun e0 => by rw [e0] at hcond; simp at hcond
     have hb := Nat.eq_of_beq_eq_true hcond.2
     cases hx with
     | @ptr b1 t1 o1 e1 =>
      cases hy with
      | @ptr b2 t2 o2 e2 =>
       simp only at hb; subst hb
       rw [e1] at e2; cases e2
       simp only [Op.equalIn, Sem.run_bind, hu, Result.andThen_ok, hE.size hye, ne_eq, h0, not_false_eq_true, if_true, sameAddr]
       simp only [BEq.rfl, if_true, Sem.run_pure]
       congr 1
       by_cases ho : o1 = o2
       ·subst ho; simp
       ·have : (⟨t1.blk, t1.dlt + o1, none⟩ : Addr) ≠ ⟨t1.blk, t1.dlt + o2, none⟩ := fun e => by injection e with _ e; omega
        rw [natBeqF ho]; exact beq_eq_false_iff_ne.2 this
   ·cases h
  case h_7 hd => rw [hd] at hu; cases h; cases hx; cases hy; simp [Op.equalIn, hu]
  case h_8 hd => rw [hd] at hu; cases h; cases hx; cases hy; simp [Op.equalIn, hu]
  case h_9 hd => rw [hd] at hu; cases h; cases hx; cases hy; simp [Op.equalIn, hu]
  case h_10 tx vx ty2 vy hd =>
   rw [hd] at hu
   cases hx with
   | iface _ hvx =>
   cases hy with
   | iface _ hvy =>
   cases hb : Nat.beq tx ty2 with
   | false =>
    rw [hb] at h; simp only [cond_false, Option.some.injEq] at h; subst h
    have hne : tx ≠ ty2 := fun e => by subst e; simp at hb
    simp [Op.equalIn, hu, hne]
   | true =>
    have := Nat.eq_of_beq_eq_true hb; subst this
    simp only [hb, cond_true] at h
    split at h
    ·rename_i yx hyx
     obtain ⟨i, hi, _, _, hcmp⟩ := hE.infoR hyx w
     split at h
     ·rename_i hc
      have := ih (D := D) (by omega) h hvx hvy w
      simp [Op.equalIn, hu, hi, hcmp, hc, this]
     ·cases h
    ·cases h
  case h_11 fields xs ys hd =>
   cases hx with
   | agg hxs =>
   cases hy with
   | agg hys =>
   rename_i xs' ys'
   split at h
   ·rename_i hpl
    have hP := hE.undP hty
    rw [hd] at hP
    have hf : P.fieldsOf t = fields := by unfold Program.fieldsOf; rw [hP]
    rw [run_equalIn_struct w D t xs' ys' (by rw [hf]; exact hP) (hE.plain t hpl).2, hf]
    -- field by field
    revert h
    generalize fields.toList = fs
    intro h
    induction fs with
    | nil => simp only [eqFields, Option.some.injEq] at h; subst h; rfl
    | cons f fs ihf =>
     simp only [eqFields] at h
     simp only [Op.eqFields]
     by_cases hn : f.name = "_"
     ·rw [if_pos hn] at h; rw [if_neg (by simp [hn])]; exact ihf h
     ·rw [if_neg hn] at h; rw [if_pos hn]
      split at h
      ·rename_i p q hp hq
       obtain ⟨p', hp', hpr⟩ := sim_part hE hp hxs
       obtain ⟨q', hq', hqr⟩ := sim_part hE hq hys
       split at h
       ·rename_i he
        have := ih (D := D) (by omega) he hpr hqr w
        simp [hp', hq', this, ihf h]
       ·rename_i he
        cases h
        have := ih (D := D) (by omega) he hpr hqr w
        simp [hp', hq', this]
       ·cases h
      ·cases h
   ·cases h
  case h_12 hd => rw [hd] at hu; cases h; cases hx; cases hy <;> simp [Op.equalIn, hu]
  case h_13 hd => rw [hd] at hu; cases h; cases hx <;> cases hy <;> simp [Op.equalIn, hu]
  case h_14 hd => rw [hd] at hu; cases h; cases hx; cases hy <;> simp [Op.equalIn, hu]
  case h_15 hd => rw [hd] at hu; cases h; cases hx; cases hy; simp [Op.equalIn, hu]
  case h_16 hd => rw [hd] at hu; cases h; cases hx; cases hy; simp [Op.equalIn, hu]
  case h_17 hd => rw [hd] at hu; cases h; cases hx; cases hy <;> simp [Op.equalIn, hu]
  case h_18 hd => rw [hd] at hu; cases h; cases hy; cases hx <;> simp [Op.equalIn, hu]
  case h_19 => cases h
end
end Go.Am
namespace Go.Am
open Go.RowKit
section
variable {E : Env} {P : Program} {ι ι1 ι2 : Inj} {m m1 m2 : Mem} {w w1 w2 : World}
theorem sim_intBin {op : BinOp} {k : IntKind} {a b : Int} {v : Value} (t : TypeId) (hs : op ≠ .shl) (hs' : op ≠ .shr) (h : intBin op k a b = some v) (ι : Inj) :
    (∀ w, (binOp op t (.int k a) (.int k b)).run P w = .ok v w) /\ VR ι v v := by
  cases op <;> simp only [intBin] at h
  all_goals first
    | (cases h; done)
    | (exact absurd rfl hs)
    | (exact absurd rfl hs')
    | (cases h; refine ⟨fun w => by simp [binOp, Op.intArith, Op.intBits, Op.intCmp], by constructor⟩)
    | (split at h
       · cases h
       · rename_i hb; cases h; exact ⟨fun w => by simp [binOp, Op.intDiv, hb], by constructor⟩)
theorem bytesLt_eq : ∀ a b : List UInt8, bytesLt a b = Op.bytesLess a b
 | [], [] => rfl
 | [], _ :: _ => rfl
 | _ :: _, [] => rfl
 | a :: x, b :: y => by
  simp only [bytesLt, Op.bytesLess, bytesLt_eq x y]
  have e1 : Nat.blt a.toNat b.toNat = decide (a < b) := by
   by_cases h : a < b
   ·rw [decide_eq_true h, bltT (UInt8.lt_iff_toNat_lt.1 h)]
   ·rw [decide_eq_false h, bltF (fun k => h (UInt8.lt_iff_toNat_lt.2 k))]
  have e2 : Nat.beq a.toNat b.toNat = (a == b) := by
   by_cases h : a = b
   ·subst h; simp
   ·rw [natBeqF (fun e => h (UInt8.toNat_inj.1 e)), beq_eq_false_iff_ne.2 h]
  rw [e1, e2]
theorem ba_append (a b : ByteArray) : a ++ b = ⟨(a.data.toList ++ b.data.toList).toArray⟩ := by
 apply ByteArray.ext
 rw [ByteArray.data_append]
 apply Array.ext'
 rw [Array.toList_append]
theorem ba_extract (s : ByteArray) (l h : Nat) : s.extract l h = ⟨((s.data.toList.drop l).take (h - l)).toArray⟩ := by
 apply ByteArray.ext
 rw [ByteArray.data_extract]
 apply Array.ext'
 rw [Array.toList_extract, List.extract_eq_take_drop]
theorem sim_strBin {op : BinOp} {a b : ByteArray} {v : Value} (t : TypeId) (h : strBin op a b = some v) (ι : Inj) :
    (∀ w, (binOp op t (.string a) (.string b)).run P w = .ok v w) /\ VR ι v v := by
  cases op <;> simp only [strBin] at h
  all_goals first
    | (cases h; done)
    | (cases h
       refine ⟨fun w => ?_, by constructor⟩
       simp only [binOp, Op.stringOp, bytesEq_eq, bytesLt_eq, ByteArray.toList_eq, Sem.run_pure])
    | skip
  split at h
  · cases h
  · rename_i hb
    cases h
    refine ⟨fun w => ?_, by constructor⟩
    have e1 : a.data.toList.length = a.size := Array.length_toList
    have e2 : b.data.toList.length = b.size := Array.length_toList
    rw [e1, e2] at hb
    simp only [binOp, Op.stringOp, Sem.run_ite]
    rw [if_neg hb]
    simp only [Sem.run_pure]
    rw [ba_append]
theorem sim_shift {op : BinOp} {k k2 : IntKind} {a b : Int} {v : Value} (t : TypeId) (hop : op = .shl \/ op = .shr) (h : shiftV op k a b = some v) (ι : Inj) :
  (∀ w, (binOp op t (.int k a) (.int k2 b)).run P w = .ok v w) /\ VR ι v v := by
 unfold shiftV at h
 split at h
 ·cases h
 rename_i hb
 rcases hop with rfl | rfl
 ·cases h; exact ⟨fun w => by simp [binOp, Op.shift, hb], by constructor⟩
 ·cases h; exact ⟨fun w => by simp [binOp, Op.shift, hb], by constructor⟩
theorem binOp_eql_eq (t : TypeId) {x y : Value} (h1 : ∀ k a k' b, x = .int k a -> y = .int k' b -> False) (h2 : ∀ k a k' b, x = .float k a -> y = .float k' b -> False)
  (h3 : ∀ k a c k' b d, x = .complex k a c -> y = .complex k' b d -> False) (h4 : ∀ a b, x = .string a -> y = .string b -> False) :
  binOp .eql t x y = (do pure (.bool (<- Op.equal t x y)) : Sem Value) := by
 unfold binOp
 split <;> first | rfl | (rename_i h; cases h; done) | (exact (h1 _ _ _ _ rfl rfl).elim) | (exact (h2 _ _ _ _ rfl rfl).elim) | (exact (h3 _ _ _ _ _ _ rfl rfl).elim) | (exact (h4 _ _ rfl rfl).elim) | (simp_all; done)
theorem binOp_neq_eq (t : TypeId) {x y : Value} (h1 : ∀ k a k' b, x = .int k a -> y = .int k' b -> False) (h2 : ∀ k a k' b, x = .float k a -> y = .float k' b -> False)
  (h3 : ∀ k a c k' b d, x = .complex k a c -> y = .complex k' b d -> False) (h4 : ∀ a b, x = .string a -> y = .string b -> False) :
  binOp .neq t x y = (do pure (.bool (!(<- Op.equal t x y))) : Sem Value) := by
 unfold binOp
 split <;> first | rfl | (rename_i h; cases h; done) | (exact (h1 _ _ _ _ rfl rfl).elim) | (exact (h2 _ _ _ _ rfl rfl).elim) | (exact (h3 _ _ _ _ _ _ rfl rfl).elim) | (exact (h4 _ _ rfl rfl).elim) | (simp_all; done)
theorem aEq_float {d t : Nat} {k k' : FloatKind} {a b : Nat} : aEq E d t (.float k a) (.float k' b) = none := by
 cases d with
 | zero => rfl
 | succ d => simp only [aEq]; split <;> first | rfl | (split <;> first | rfl | (rename_i h _; cases h))
theorem aEq_complex {d t : Nat} {k k' : FloatKind} {a b a' b' : Nat} : aEq E d t (.complex k a a') (.complex k' b b') = none := by
 cases d with
 | zero => rfl
 | succ d => simp only [aEq]; split <;> first | rfl | (split <;> first | rfl | (rename_i h _; cases h))
theorem VR.int_eq {x : Value} {k : IntKind} {n : Int} (h : VR ι x (.int k n)) : x = .int k n := by cases h; rfl
theorem VR.str_eq {x : Value} {s : ByteArray} (h : VR ι x (.string s)) : x = .string s := by cases h; rfl
theorem VR.float_eq {x : Value} {k : FloatKind} {n : Nat} (h : VR ι x (.float k n)) : x = .float k n := by cases h; rfl
theorem VR.complex_eq {x : Value} {k : FloatKind} {n n' : Nat} (h : VR ι x (.complex k n n')) : x = .complex k n n' := by cases h; rfl
theorem sim_bin (hE : EnvOk E P) {op : BinOp} {t : Nat} {x y x' y' v : Value} (h : binV E op t x y = some v) (hx : VR ι x x') (hy : VR ι y y') :
  (∀ w, (binOp op t x' y').run P w = .ok v w) /\ VR ι v v := by
 unfold binV at h
 split at h
 ·cases hx; cases hy; exact sim_shift t (.inl rfl) h ι
 ·cases hx; cases hy; exact sim_shift t (.inr rfl) h ι
 ·rename_i h1 h2
  cases hx; cases hy
  split at h
  ·rename_i hk; subst hk
   exact sim_intBin t (fun e => h1 e) (fun e => h2 e) h ι
  ·cases h
 ·cases hx; cases hy; exact sim_strBin t h ι
 ·rename_i h1 h2
  cases hq : aEq E 100 t x y with
  | none => rw [hq] at h; cases h
  | some r =>
   rw [hq] at h; cases h
   refine ⟨fun w => ?_, .bool _⟩
   rw [binOp_eql_eq t (fun k a k' b e1 e2 => by subst e1; subst e2; have ex := hx.int_eq; have ey := hy.int_eq; subst ex; subst ey; exact (h1 _ _ _ _ rfl rfl).elim)
    (fun k a k' b e1 e2 => by subst e1; subst e2; rw [hx.float_eq, hy.float_eq, aEq_float] at hq; cases hq)
    (fun k a c k' b d e1 e2 => by subst e1; subst e2; rw [hx.complex_eq, hy.complex_eq, aEq_complex] at hq; cases hq)
    (fun a b e1 e2 => by subst e1; subst e2; exact h2 _ _ hx.str_eq hy.str_eq)]
   simp [Op.equal, Op.maxDepth, sim_eq hE 100 (D := 10000) (by omega) hq hx hy]
 ·rename_i h1 h2
  cases hq : aEq E 100 t x y with
  | none => rw [hq] at h; cases h
  | some r =>
   rw [hq] at h; cases h
   refine ⟨fun w => ?_, .bool _⟩
   rw [binOp_neq_eq t (fun k a k' b e1 e2 => by subst e1; subst e2; exact h1 _ _ _ _ hx.int_eq hy.int_eq)
    (fun k a k' b e1 e2 => by subst e1; subst e2; rw [hx.float_eq, hy.float_eq, aEq_float] at hq; cases hq)
    (fun k a c k' b d e1 e2 => by subst e1; subst e2; rw [hx.complex_eq, hy.complex_eq, aEq_complex] at hq; cases hq)
    (fun a b e1 e2 => by subst e1; subst e2; exact h2 _ _ hx.str_eq hy.str_eq)]
   simp [Op.equal, Op.maxDepth, sim_eq hE 100 (D := 10000) (by omega) hq hx hy]
 ·cases h
theorem sim_guard (hE : EnvOk E P) {op : BinOp} {t : Nat} {cx cy : Operand} {x y x' y' : Value} (h : (op = .eql \/ op = .neq) -> eqFine E t (isConst cx) (isConst cy) x y = true) (hx : VR ι x x') (hy : VR ι y y') :
  (eqGuard op t cx cy x' y').run P w = .ok () w := by
 by_cases hop : op = .eql \/ op = .neq
 ·have h := h hop
  unfold eqGuard
  rw [if_neg (by rcases hop with rfl | rfl <;> simp)]
  cases hx <;> cases hy <;> simp only [eqFine] at h <;> first | rfl | skip
  ·cases cx <;> cases cy <;> first | rfl | cases h
  ·obtain ⟨h1, _⟩ := hE.plain t h
   simp [h1]
 ·unfold eqGuard
  cases op <;> first | rfl | (exact absurd (.inl rfl) hop) | (exact absurd (.inr rfl) hop)
theorem sim_un {op : UnOp} {x x' v : Value} (h : unV op x = some v) (hx : VR ι x x') : (∀ w, (Op.unary op x').run P w = .ok v w) /\ VR ι v v := by
 unfold unV at h
 split at h
 ·cases hx; cases h; exact ⟨fun w => by simp [Op.unary, Op.intArith], .int _ _⟩
 ·cases hx
  simp only [intBin, Option.some.injEq] at h; subst h
  exact ⟨fun w => by simp [Op.unary, Op.intBits], .int _ _⟩
 ·cases hx; cases h; exact ⟨fun w => by simp [Op.unary], .bool _⟩
 ·cases h
theorem asNat_spec {v v' : Value} {n : Nat} (h : asNat? v = some n) (hv : VR ι v v') : ∃ k i, v' = .int k i /\ 0 <= i /\ i.toNat = n := by
 unfold asNat? at h
 split at h
 ·cases hv
  split at h
  ·rename_i hi; cases h; exact ⟨_, _, rfl, hi, rfl⟩
  ·cases h
 ·cases h
theorem addOff_eq (b o n : Nat) : addOff ⟨b, o, none⟩ n = ⟨b, o + n, none⟩ := rfl
theorem sim_fieldAddr (hE : EnvOk E P) {s f : Nat} {x x' v : Value} (h : fieldAddrV E s x f = some v) (hx : VR ι x x') : ∃ v', (∀ w, (Instr.fieldAt s x' f).run P w = .ok v' w) /\ VR ι v v' := by
 unfold fieldAddrV at h
 split at h
 case h_2 => cases h
 rename_i y a hy
 split at h
 case h_2 => cases h
 rename_i fields hd
 split at h
 case h_2 => cases h
 rename_i fd hfd
 split at h
 case h_2 => cases h
 rename_i yf hyf
 cases hx with
 | @ptr b t o hb =>
 cases hz : Nat.beq yf.size 0 with
 | true => rw [hz] at h; cases h
 | false =>
  rw [hz] at h; simp only [cond_false, Option.some.injEq] at h; subst h
  have h0 : yf.size ≠ 0 := fun e => by rw [e] at hz; simp at hz
  have hfd' : fields[f]? = some fd := by simpa using hfd
  refine ⟨.pointer (some ⟨t.blk, t.dlt + (o + fd.offset), none⟩), fun w => ?_, .ptr _ hb⟩
  simp [Instr.fieldAt, hE.und hy, hd, hfd', Instr.sureAddr, fieldPlace, hE.size hyf, h0, add_eq, Nat.add_assoc]
theorem sim_field (hE : EnvOk E P) {s f : Nat} {x x' v : Value} (h : fieldV E s x f = some v) (hx : VR ι x x') : ∃ v', (∀ w, (Instr.field s x' f).run P w = .ok v' w) /\ VR ι v v' := by
 unfold fieldV at h
 split at h
 case h_2 => cases h
 rename_i y cs hy
 split at h
 case h_2 => cases h
 rename_i fields hd
 split at h
 case h_2 => cases h
 rename_i fd hfd
 cases hx with
 | agg hcs =>
 have hfd' : fields[f]? = some fd := by simpa using hfd
 obtain ⟨v', hp, hr⟩ := sim_part hE h hcs
 exact ⟨v', fun w => by simp [Instr.field, hE.und hy, hd, hfd', asAgg, hp], hr⟩
theorem sim_indexAddr (hE : EnvOk E P) {t : Nat} {x i x' i' v : Value} (h : indexAddrV E t x i = some v) (hx : VR ι x x') (hi : VR ι i i') :
  ∃ v', (∀ w, (Instr.indexAt t x' i').run P w = .ok v' w) /\ VR ι v v' := by
 unfold indexAddrV at h
 split at h
 case h_2 => cases h
 rename_i y n hy hn
 obtain ⟨k, q, rfl, hq0, hqn⟩ := asNat_spec hn hi
 split at h
 ·rename_i e a len c hd
  split at h
  case h_2 => cases h
  rename_i ye hye
  cases hb : Nat.blt n len with
  | false => rw [hb] at h; cases h
  | true =>
   rw [hb] at h; simp only [cond_true, Option.some.injEq] at h; subst h
   have hlt : n < len := by simpa using hb
   have hin : 0 <= q /\ q < (len : Int) := ⟨hq0, by omega⟩
   cases hx with
   | @sex b tg o _ _ hbl => exact ⟨.pointer (some ⟨tg.blk, tg.dlt + (o + n * ye.size), none⟩), fun w => by simp [Instr.indexAt, asIntOf, hE.und hy, hd, hin, hE.size hye, add_eq, hqn, Nat.add_assoc], .ptr _ hbl⟩
   | @slo b tg o _ _ _ hbl _ _ => exact ⟨.pointer (some ⟨tg.blk, tg.dlt + (o + n * ye.size), none⟩), fun w => by simp [Instr.indexAt, asIntOf, hE.und hy, hd, hin, hE.size hye, add_eq, hqn, Nat.add_assoc], .ptr _ hbl⟩
   | semp => omega
   | sem0 => omega
 ·rename_i len e a hd
  split at h
  case h_2 => cases h
  rename_i ye hye
  cases hb : Nat.blt n len with
  | false => rw [hb] at h; cases h
  | true =>
   rw [hb] at h; simp only [cond_true, Option.some.injEq] at h; subst h
   have hlt : n < len := by simpa using hb
   have hin : 0 <= q /\ q < (len : Int) := ⟨hq0, by omega⟩
   cases hx with
   | @ptr b tg o hbl => exact ⟨.pointer (some ⟨tg.blk, tg.dlt + (o + n * ye.size), none⟩), fun w => by simp [Instr.indexAt, Instr.sureAddr, asIntOf, hE.und hy, hd, hin, hE.size hye, add_eq, hqn, Nat.add_assoc], .ptr _ hbl⟩
 ·cases h
theorem sim_index (hE : EnvOk E P) {t : Nat} {x i x' i' v : Value} (h : indexV E t x i = some v) (hx : VR ι x x') (hi : VR ι i i') :
  ∃ v', (∀ w, (Instr.index t x' i').run P w = .ok v' w) /\ VR ι v v' := by
 unfold indexV at h
 split at h
 case h_2 => cases h
 rename_i y n hy hn
 obtain ⟨k, q, rfl, hq0, hqn⟩ := asNat_spec hn hi
 split at h
 ·rename_i len e cs hd
  split at h
  case h_2 => cases h
  rename_i ye hye
  cases hb : Nat.blt n len with
  | false => rw [hb] at h; cases h
  | true =>
   rw [hb] at h; simp only [cond_true] at h
   have hlt : n < len := by simpa using hb
   have hin : 0 <= q /\ q < (len : Int) := ⟨hq0, by omega⟩
   cases hx with
   | agg hcs =>
    obtain ⟨v', hp, hr⟩ := sim_part hE h hcs
    exact ⟨v', fun w => by simp [Instr.index, asIntOf, hE.und hy, hd, hin, hE.size hye, hqn, hp], hr⟩
 ·rename_i s hd
  cases hx
  split at h
  ·rename_i b hb
   cases h
   refine ⟨.int .u8 b.toNat, fun w => ?_, .int _ _⟩
   have hlt : n < s.data.toList.length := by
    rcases Nat.lt_or_ge n s.data.toList.length with hx | hx
    ·exact hx
    ·rw [List.getElem?_eq_none hx] at hb; cases hb
   have hs : s[n]? = some b := by
    have e1 : s.data.toList.length = s.size := Array.length_toList
    rw [getElem?_pos s n (by omega)]
    rw [List.getElem?_eq_getElem hlt] at hb
    injection hb with hb
    rw [<- hb]; rfl
   simp [Instr.index, asIntOf, hE.und hy, hd, hq0, hqn, hs]
  ·cases h
 ·cases h
theorem run_bound {v v' : Value} {n y : Nat} {code : BoundsCode} (h : asNat? v = some n) (hv : VR ι v v') (hy : n <= y) (w : World) : (Instr.sliceBound v' y code).run P w = .ok n w := by
 obtain ⟨k, i, rfl, h0, h1⟩ := asNat_spec h hv
 rw [run_sliceBound w k i y code h0 (by omega), h1]
inductive OptR (ι : Inj) : Option Value -> Option Value -> Prop where
 | none : OptR ι none none
 | some {v v' : Value} (h : VR ι v v') : OptR ι (some v) (some v')
theorem sim_bounds {isSlice : Bool} {len cap cap' l h x : Nat} {lo hi mx lo' hi' mx' : Option Value} (hb : boundsV len cap lo hi mx = some (l, h, x)) (h1 : OptR ι lo lo') (h2 : OptR ι hi hi') (h3 : OptR ι mx mx')
  (hc : cap <= cap') (hex : mx ≠ none -> True) (w : World) : l <= h /\ h <= x /\ x <= cap /\ (mx = none -> x = cap) ∧
   (Instr.sliceBounds isSlice len cap' lo' hi' mx').run P w = .ok (l, h, if mx = none then cap' else x) w := by
 unfold boundsV at hb
 cases h3 with
 | some h3 =>
  simp only at hb
  split at hb
  case h_2 => cases hb
  rename_i mxn hv hmx
  cases h2 with
  | some h2 =>
  split at hb
  case h_2 => cases hb
  rename_i hn hhn
  cases h1 with
  | none =>
   simp only at hb
   cases hcond : (Nat.ble mxn cap && Nat.ble hn mxn) with
   | false => rw [hcond] at hb; cases hb
   | true =>
    rw [hcond] at hb; simp only [cond_true, Option.some.injEq, Prod.mk.injEq] at hb
    obtain ⟨rfl, rfl, rfl⟩ := hb
    rw [Bool.and_eq_true] at hcond
    have c1 := Nat.le_of_ble_eq_true hcond.1
    have c2 := Nat.le_of_ble_eq_true hcond.2
    refine ⟨by omega, c2, c1, fun e => (by cases e), ?_⟩
    simp [Instr.sliceBounds, run_bound hmx h3 (show mxn <= cap' by omega), run_bound hhn h2 c2]
  | some h1 =>
   simp only at hb
   split at hb
   case h_2 => cases hb
   rename_i ln hln
   cases hcond : (Nat.ble mxn cap && Nat.ble hn mxn && Nat.ble ln hn) with
   | false => rw [hcond] at hb; cases hb
   | true =>
    rw [hcond] at hb; simp only [cond_true, Option.some.injEq, Prod.mk.injEq] at hb
    obtain ⟨rfl, rfl, rfl⟩ := hb
    rw [Bool.and_eq_true, Bool.and_eq_true] at hcond
    have c1 := Nat.le_of_ble_eq_true hcond.1.1
    have c2 := Nat.le_of_ble_eq_true hcond.1.2
    have c3 := Nat.le_of_ble_eq_true hcond.2
    refine ⟨c3, c2, c1, fun e => (by cases e), ?_⟩
    simp [Instr.sliceBounds, run_bound hmx h3 (show mxn <= cap' by omega), run_bound hhn h2 c2, run_bound hln h1 c3]
 | none =>
  simp only at hb
  split at hb
  case h_2 => cases hb
  rename_i hn hhn
  cases h1 with
  | none =>
   simp only at hb
   cases hcond : Nat.ble hn cap with
   | false => rw [hcond] at hb; cases hb
   | true =>
    rw [hcond] at hb; simp only [cond_true, Option.some.injEq, Prod.mk.injEq] at hb
    obtain ⟨rfl, rfl, rfl⟩ := hb
    have c1 := Nat.le_of_ble_eq_true hcond
    refine ⟨by omega, c1, Nat.le_refl _, fun _ => rfl, ?_⟩
    cases h2 with
    | none => simp only [Option.some.injEq] at hhn; subst hhn; simp [Instr.sliceBounds]
    | some h2 => simp [Instr.sliceBounds, run_bound hhn h2 (show hn <= cap' by omega)]
  | some h1 =>
   simp only at hb
   split at hb
   case h_2 => cases hb
   rename_i ln hln
   cases hcond : (Nat.ble hn cap && Nat.ble ln hn) with
   | false => rw [hcond] at hb; cases hb
   | true =>
    rw [hcond] at hb; simp only [cond_true, Option.some.injEq, Prod.mk.injEq] at hb
    obtain ⟨rfl, rfl, rfl⟩ := hb
    rw [Bool.and_eq_true] at hcond
    have c1 := Nat.le_of_ble_eq_true hcond.1
    have c3 := Nat.le_of_ble_eq_true hcond.2
    refine ⟨c3, c1, Nat.le_refl _, fun _ => rfl, ?_⟩
    cases h2 with
    | none => simp only [Option.some.injEq] at hhn; subst hhn; simp [Instr.sliceBounds, run_bound hln h1 c3]
    | some h2 => simp [Instr.sliceBounds, run_bound hhn h2 (show hn <= cap' by omega), run_bound hln h1 c3]
theorem capOf_even (c : Nat) : capOf (2 * c) = c := by unfold capOf; rw [show 2 * c % 2 = 0 by omega]; simp
theorem capOf_lo (c es : Nat) (h : es < 4096) : capOf (loCap c es) = c := by
 unfold capOf loCap
 rw [natBeqF (show (2 * (c * 4096 + es) + 1) % 2 ≠ 0 by omega)]
 simp only [cond_false]; omega
theorem esOf_lo (c es : Nat) (h : es < 4096) : esOf (loCap c es) = es := by unfold esOf loCap; omega
theorem odd_lo (c es : Nat) : Nat.beq (loCap c es % 2) 0 = false := natBeqF (by unfold loCap; omega)
theorem even_ex (c : Nat) : Nat.beq (2 * c % 2) 0 = true := by rw [show 2 * c % 2 = 0 by omega]; rfl
theorem sim_slice (hE : EnvOk E P) {t : Nat} {x x' v : Value} {lo hi mx lo' hi' mx' : Option Value} (h : sliceV E t x lo hi mx = some v) (hx : VR ι x x') (h1 : OptR ι lo lo') (h2 : OptR ι hi hi') (h3 : OptR ι mx mx') :
  ∃ v', (∀ w, (Instr.sliceAt t x' lo' hi' mx').run P w = .ok v' w) /\ VR ι v v' := by
 unfold sliceV at h
 split at h
 ·cases h
 rename_i y hy
 split at h
 ·-- a text
  rename_i s hd
  cases hx
  cases h3 with
  | some h3 => simp at h
  | none =>
   simp only at h
   cases hb : boundsV s.data.toList.length s.data.toList.length lo hi none with
   | none => rw [hb] at h; cases h
   | some r =>
    obtain ⟨l, hh, mm⟩ := r
    rw [hb] at h; cases h
    refine ⟨_, fun w => ?_, .str _⟩
    obtain ⟨hl, hm, hc, _, hr⟩ := sim_bounds (P := P) (isSlice := false) (cap' := s.size) hb h1 h2 OptR.none (Nat.le_of_eq Array.length_toList) (fun _ => trivial) w
    have hsz : s.data.toList.length = s.size := Array.length_toList
    rw [hsz] at hr
    simp only [Instr.sliceAt, Sem.run_bind, hE.und hy, hd, Result.andThen_ok, Instr.slice, Option.isSome_none, Bool.false_eq_true, if_false, hr, Sem.run_pure]
    rw [ba_extract]
 ·rename_i e a len k hd
  split at h
  case h_2 => cases h
  rename_i ye hye
  split at h
  case h_2 => cases h
  rename_i l hh mm hb
  cases hx with
  | snil _ c =>
   rw [capOf_even] at hb
   simp only [Option.some.injEq] at h; subst h
   refine ⟨.slice none (hh - l) ((if mx = none then c else mm) - l), fun w => ?_, ?_⟩
   ·obtain ⟨hl, hm, hc, hmx, hr⟩ := sim_bounds (P := P) (isSlice := true) (cap' := c) hb h1 h2 h3 (Nat.le_refl _) (fun _ => trivial) w
    simp [Instr.sliceAt, hE.und hy, hd, Instr.slice, hr, hE.size hye]
   ·obtain ⟨hl, hm, hc, hmx, hr⟩ := sim_bounds (P := P) (isSlice := true) (cap' := c) hb h1 h2 h3 (Nat.le_refl _) (fun _ => trivial) default
    by_cases hn : mx = none
    ·rw [if_pos hn, hmx hn]; exact .snil _ _
    ·rw [if_neg hn]; exact .snil _ _
  | @sex b tg o _ c hbl =>
   rw [capOf_even] at hb
   simp only [even_ex] at h
   have h' : some (Value.slice (some (bif Nat.beq mm l then ⟨b, o, none⟩ else addOff ⟨b, o, none⟩ (l * ye.size))) (hh - l) (2 * (mm - l))) = some v := by
    cases mx <;> exact h
   cases h'
   refine ⟨.slice (some (if (if mx = none then c else mm) = l then ⟨tg.blk, tg.dlt + o, none⟩ else (⟨tg.blk, tg.dlt + o, none⟩ : Addr).add (l * ye.size))) (hh - l) ((if mx = none then c else mm) - l), fun w => ?_, ?_⟩
   ·obtain ⟨hl, hm, hc, hmx, hr⟩ := sim_bounds (P := P) (isSlice := true) (cap' := c) hb h1 h2 h3 (Nat.le_refl _) (fun _ => trivial) w
    simp only [Instr.sliceAt, Sem.run_bind, hE.und hy, hd, Result.andThen_ok, Instr.slice, hr, hE.size hye, Sem.run_pure]
    congr 2
    exact (apply_ite some _ _ _).symm
   ·obtain ⟨hl, hm, hc, hmx, hr⟩ := sim_bounds (P := P) (isSlice := true) (cap' := c) hb h1 h2 h3 (Nat.le_refl _) (fun _ => trivial) default
    have hmm : (if mx = none then c else mm) = mm := by split <;> simp_all
    rw [hmm]
    by_cases hml : mm = l
    ·rw [if_pos hml]; subst hml; simp only [Nat.beq_refl, cond_true]; exact .sex _ _ _ hbl
    ·rw [if_neg hml, natBeqF hml, add_eq]; simp only [cond_false, addOff_eq, Nat.add_assoc]; exact .sex _ _ _ hbl
  | @slo b tg o _ c c' hbl hcc hrr hes =>
   rw [capOf_lo _ _ hes] at hb
   simp only [odd_lo, esOf_lo _ _ hes] at h
   obtain ⟨hl0, hm0, hc0, hmx0, _⟩ := sim_bounds (P := P) (isSlice := true) (cap' := c') hb h1 h2 h3 hcc (fun _ => trivial) default
   refine ⟨.slice (some (if (if mx = none then c' else mm) = l then ⟨tg.blk, tg.dlt + o, none⟩ else (⟨tg.blk, tg.dlt + o, none⟩ : Addr).add (l * ye.size))) (hh - l) ((if mx = none then c' else mm) - l), fun w => ?_, ?_⟩
   ·obtain ⟨hl, hm, hc, hmx, hr⟩ := sim_bounds (P := P) (isSlice := true) (cap' := c') hb h1 h2 h3 hcc (fun _ => trivial) w
    simp only [Instr.sliceAt, Sem.run_bind, hE.und hy, hd, Result.andThen_ok, Instr.slice, hr, hE.size hye, Sem.run_pure]
    congr 2
    exact (apply_ite some _ _ _).symm
   ·cases h3 with
    | some h3 =>
     simp only [Option.some.injEq] at h; subst h
     simp only [reduceCtorEq, if_false]
     by_cases hml : mm = l
     ·rw [if_pos hml]; subst hml; simp only [Nat.beq_refl, cond_true]; exact .sex _ _ _ hbl
     ·rw [if_neg hml, natBeqF hml, add_eq]; simp only [cond_false, addOff_eq, Nat.add_assoc]; exact .sex _ _ _ hbl
    | none =>
     cases hse : Nat.beq tg.es ye.size with
     | false => simp only [hse, cond_false] at h; cases h
     | true =>
     simp only [hse, cond_true, Option.some.injEq] at h; subst h
     have hse := Nat.eq_of_beq_eq_true hse
     have := hmx0 rfl; subst this
     simp only [if_true]
     by_cases hml : c' = l
     ·have hml2 : mm = l := by omega
      rw [if_pos hml, hml, hml2]
      have e1 : hh - l = 0 := by omega
      rw [e1, Nat.sub_self]; exact .semp _ _ _ (by omega)
     ·rw [if_neg hml, add_eq, addOff_eq, Nat.add_assoc, <- hse]
      refine .slo _ _ _ _ hbl (by omega) ?_ hes
      have : l * tg.es + (c' - l) * tg.es = c' * tg.es := by rw [<- Nat.add_mul]; congr 1; omega
      omega
  | semp a a' es hes =>
   rw [capOf_lo _ _ hes] at hb
   simp only [odd_lo, esOf_lo _ _ hes] at h
   obtain ⟨hl0, hm0, hc0, hmx0, _⟩ := sim_bounds (P := P) (isSlice := true) (cap' := 0) hb h1 h2 h3 (Nat.le_refl _) (fun _ => trivial) default
   have e1 : mm = 0 := by omega
   have e2 : hh = 0 := by omega
   have e3 : l = 0 := by omega
   subst e1; subst e2; subst e3
   refine ⟨.slice (some a') 0 0, fun w => ?_, ?_⟩
   ·obtain ⟨hl, hm, hc, hmx, hr⟩ := sim_bounds (P := P) (isSlice := true) (cap' := 0) hb h1 h2 h3 (Nat.le_refl _) (fun _ => trivial) w
    simp [Instr.sliceAt, hE.und hy, hd, Instr.slice, hr, hE.size hye]
   ·cases h3 with
    | some h3 => simp only [Nat.beq_refl, cond_true, Option.some.injEq] at h; subst h; exact .sem0 _ _
    | none =>
     cases hse : Nat.beq es ye.size with
     | false => simp only [hse, cond_false] at h; cases h
     | true =>
      have hse' := Nat.eq_of_beq_eq_true hse
      simp only [hse, cond_true, Option.some.injEq] at h; subst h; exact .semp _ _ _ (by omega)
  | sem0 a a' =>
   have hc0' : capOf 0 = 0 := rfl
   rw [hc0'] at hb
   have hev : Nat.beq (0 % 2) 0 = true := rfl
   simp only [hev] at h
   obtain ⟨hl0, hm0, hc0, hmx0, _⟩ := sim_bounds (P := P) (isSlice := true) (cap' := 0) hb h1 h2 h3 (Nat.le_refl _) (fun _ => trivial) default
   have e1 : mm = 0 := by omega
   have e2 : hh = 0 := by omega
   have e3 : l = 0 := by omega
   subst e1; subst e2; subst e3
   have h' : some (Value.slice (some a) 0 0) = some v := by cases mx <;> exact h
   cases h'
   refine ⟨.slice (some a') 0 0, fun w => ?_, .sem0 _ _⟩
   obtain ⟨hl, hm, hc, hmx, hr⟩ := sim_bounds (P := P) (isSlice := true) (cap' := 0) hb h1 h2 h3 (Nat.le_refl _) (fun _ => trivial) w
   simp [Instr.sliceAt, hE.und hy, hd, Instr.slice, hr, hE.size hye]
 ·rename_i n e a hd
  split at h
  case h_2 => cases h
  rename_i ye hye
  split at h
  case h_2 => cases h
  rename_i l hh mm hb
  cases hx with
  | @ptr b tg o hbl =>
   simp only [Option.some.injEq] at h; subst h
   refine ⟨.slice (some (if (if mx = none then n else mm) = l then ⟨tg.blk, tg.dlt + o, none⟩ else (⟨tg.blk, tg.dlt + o, none⟩ : Addr).add (l * ye.size))) (hh - l) ((if mx = none then n else mm) - l), fun w => ?_, ?_⟩
   ·obtain ⟨hl, hm, hc, hmx, hr⟩ := sim_bounds (P := P) (isSlice := false) (cap' := n) hb h1 h2 h3 (Nat.le_refl _) (fun _ => trivial) w
    simp only [Instr.sliceAt, Sem.run_bind, hE.und hy, hd, Result.andThen_ok, Instr.sureAddr, hr, hE.size hye, Sem.run_pure]
   ·obtain ⟨hl, hm, hc, hmx, hr⟩ := sim_bounds (P := P) (isSlice := false) (cap' := n) hb h1 h2 h3 (Nat.le_refl _) (fun _ => trivial) default
    have hmm : (if mx = none then n else mm) = mm := by split <;> simp_all
    rw [hmm]
    by_cases hml : mm = l
    ·rw [if_pos hml]; subst hml; simp only [Nat.beq_refl, cond_true]; exact .sex _ _ _ hbl
    ·rw [if_neg hml, natBeqF hml, add_eq]; simp only [cond_false, addOff_eq, Nat.add_assoc]; exact .sex _ _ _ hbl
 ·cases h
end
end Go.Am
namespace Go.Am
open Go.RowKit
section
variable {E : Env} {P : Program} {ι ι1 ι2 : Inj} {m m1 m2 : Mem} {w w1 w2 : World}
theorem byteCells_map : ∀ l : List UInt8, byteCells l = l.map fun b => Value.int .u8 b.toNat
 | [] => rfl
 | b :: r => by simp [byteCells, byteCells_map r]
theorem VRs.ints : ∀ l : List UInt8, VRs ι (byteCells l) (byteCells l)
 | [] => .nil
 | _ :: r => .cons (.int _ _) (VRs.ints r)
theorem byteCells_length (l : List UInt8) : (byteCells l).length = l.length := by rw [byteCells_map]; simp
theorem cellsBytes_spec : ∀ {cs cs' : List Value} {l : List UInt8}, cellsBytes cs = some l -> VRs ι cs cs' -> ∃ ns : List Int, cs' = ns.map (Value.int .u8) /\ l = ns.map fun n => UInt8.ofNat n.toNat
 | [], cs', l, h, hc => by cases hc; simp [cellsBytes] at h; subst h; exact ⟨[], rfl, rfl⟩
 | c :: r, cs', l, h, hc => by
  cases hc with
  | cons h1 h2 =>
  cases c with
  | int k n =>
   cases k <;> simp only [cellsBytes] at h
   all_goals first | (cases h; done) | skip
   cases hr : cellsBytes r with
   | none => rw [hr] at h; cases h
   | some l' =>
    rw [hr] at h; cases h
    cases h1
    obtain ⟨ns, e1, e2⟩ := cellsBytes_spec hr h2
    exact ⟨n :: ns, by simp [e1], by simp [e2]⟩
  | _ => simp [cellsBytes] at h
theorem foldl_push : ∀ (ns : List Int) (s : ByteArray), (ns.foldl (fun r n => r.push (UInt8.ofNat n.toNat)) s).data.toList = s.data.toList ++ ns.map fun n => UInt8.ofNat n.toNat
 | [], s => by simp
 | n :: r, s => by
  rw [List.foldl_cons, foldl_push r]
  simp [ByteArray.push]
theorem freeze_push (w : World) (c : Array Value) (el : TypeId) (n : Nat) :
    ((w.alloc (.cells c el)).freeze ⟨w.heap.size, n, none⟩ 1).heap = w.heap.push (.cells c el (n, n + 1)) := by
  have h1 : ((w.alloc (.cells c el)).freeze ⟨w.heap.size, n, none⟩ 1) = { (w.alloc (.cells c el)) with heap := (w.alloc (.cells c el)).heap.modify w.heap.size fun
      | .cells c elem (lo, hi) => .cells c elem (if lo == hi then (n, n + 1) else (min lo n, max hi (n + 1)))
      | o => o } := by
    unfold World.freeze; rw [if_neg (by omega)]; rfl
  rw [h1]
  apply Array.ext_getElem?
  intro i
  simp only [World.alloc, Array.getElem?_modify, Array.getElem?_push]
  by_cases hi : i = w.heap.size
  · subst hi; simp
  · rw [if_neg (Ne.symm hi)]
    simp [hi]
theorem sim_bytes_new (h : Rel E ι m w) (hd : w1.heap = w.heap) (h1 : w1.os = w.os) (h2 : w1.tape = w.tape) (h3 : w1.output = w.output) (l : List UInt8) (cap : Nat) (hc : l.length <= cap) (el : TypeId) (w2 : World)
  (hw2 : w2 = (w1.alloc (.cells ((byteCells l).toArray ++ Array.replicate (cap - l.length) (.int .u8 0)) el)).freeze ⟨w1.heap.size, cap, none⟩ 1) (h4 : w.drawn <= w1.drawn := by first | exact Nat.le_refl _ | exact Nat.le_succ _ | assumption) :
  Step E ι m w (ι.put m.size ⟨w.heap.size, 0, cap, 1⟩) (newRow m (byteCells l) 1).2 w2 /\ (ι.put m.size ⟨w.heap.size, 0, cap, 1⟩) m.size = some ⟨w.heap.size, 0, cap, 1⟩ := by
 have hs := Inj.put_sub (ι := ι) ⟨w.heap.size, 0, cap, 1⟩ h.none_of_size
 have hheap : w2.heap = w.heap.push (.cells ((byteCells l).toArray ++ Array.replicate (cap - l.length) (.int .u8 0)) el (cap, cap + 1)) := by
  rw [hw2, freeze_push, hd]
 have hst : w2.os = w.os /\ w2.tape = w.tape /\ w2.output = w.output /\ w.drawn <= w2.drawn := by
  rw [hw2]; unfold World.freeze; rw [if_neg (by omega)]; exact ⟨h1, h2, h3, h4⟩
 have hb : w2.heap[w.heap.size]? = some (.cells ((byteCells l).toArray ++ Array.replicate (cap - l.length) (.int .u8 0)) el (cap, cap + 1)) := by rw [hheap]; simp
 have hlen : ((byteCells l).toArray ++ Array.replicate (cap - l.length) (Value.int .u8 0)).size = cap := by simp [byteCells_length]; omega
 refine ⟨Step.new h hheap hst.1 hst.2.1 hst.2.2.1 rfl ?_ (fun _ _ _ _ e => by cases e) hst.2.2.2, by unfold Inj.put; rw [if_pos rfl]⟩
 refine ⟨fun j v e => ?_, fun _ => ⟨rfl, by simp [byteCells_length]; omega, _, el, _, hb, hlen, fun j hj => ?_⟩⟩
 ·refine ⟨v, ?_, ?_⟩
  ·rw [cell?_block hb]
   have hj : j < (byteCells l).length := by
    rcases Nat.lt_or_ge j (byteCells l).length with hx | hx
    ·exact hx
    ·rw [List.getElem?_eq_none hx] at e; cases e
   simp only [Nat.zero_add]
   rw [Array.getElem?_append_left (by simpa using hj)]
   simpa using e
  ·obtain ⟨v', e', hr⟩ := (VRs.ints (ι := ι.put m.size ⟨w.heap.size, 0, cap, 1⟩) l).get e
   rw [e] at e'; cases e'; exact hr
 ·have hj' : j < cap := by simpa [fzTo] using hj
  unfold World.frozen?; rw [hb]; simp; omega
theorem cells_zero {a : Addr} {cs : List Value} (h : m.cells a 0 = some cs) : cs = [] := by
 unfold Mem.cells at h
 split at h
 ·rename_i rs _ _ _ _
  cases hb : Nat.ble (a.off + 0) rs.length with
  | false => rw [hb] at h; cases h
  | true => rw [hb] at h; simp only [cond_true, Option.some.injEq] at h; rw [<- h]; rfl
 ·cases h
theorem sim_conv (hE : EnvOk E P) (h : Rel E ι m w) {src dst : Nat} {x x' v : Value} (hc : convV E m src dst x = some (v, m1)) (hx : VR ι x x') :
    ∃ ι1 w1 v', (convert src dst x').run P w = .ok v' w1 /\ VR ι1 v v' /\ Step E ι m w ι1 m1 w1 := by
  unfold convV at hc
  split at hc
  case h_2 => cases hc
  rename_i s d hs hd
  have us := hE.und hs
  have ud := hE.und hd
  split at hc
  · rename_i k k0 n hdd
    cases hx; cases hc
    rw [hdd] at ud
    refine ⟨ι, w, _, ?_, .int _ _, Step.refl h⟩
    simp only [convert, Sem.run_bind, us, ud, Result.andThen_ok]
    cases s.desc <;> rfl
  · rename_i st hdd
    cases hx; cases hc
    rw [hdd] at ud
    refine ⟨ι, w, _, ?_, .str _, Step.refl h⟩
    simp only [convert, Sem.run_bind, us, ud, Result.andThen_ok]
    cases s.desc <;> rfl
  · rename_i e st hdd
    cases hx
    rw [hdd] at ud
    split at hc
    case h_2 => cases hc
    rename_i ye hye
    have ue := hE.und hye
    split at hc
    case h_2 => cases hc
    rename_i hed
    rw [hed] at ue
    simp only [newRow, Option.some.injEq, Prod.mk.injEq] at hc
    obtain ⟨rfl, rfl⟩ := hc
    have hl : st.data.toList.length = st.size := Array.length_toList
    have hcap : st.size <= (Question.appendCap st.size 0 e).cut (w.tape w.drawn (Question.appendCap st.size 0 e)) := by simp [Question.cut]
    generalize hcg : (Question.appendCap st.size 0 e).cut (w.tape w.drawn (Question.appendCap st.size 0 e)) = cap at hcap
    have := sim_bytes_new h (w1 := w.drew) rfl rfl rfl rfl st.data.toList cap (by omega) e _ rfl
    obtain ⟨hstep, hput⟩ := this
    refine ⟨_, _, .slice (some ⟨w.heap.size, 0, none⟩) st.size cap, ?_, ?_, hstep⟩
    · have e1 : (st.data.map fun b => Value.int .u8 b.toNat) = (byteCells st.data.toList).toArray := by
        apply Array.ext'; rw [byteCells_map]; simp
      simp only [convert, Sem.run_bind, us, ud, Result.andThen_ok]
      have : ∀ d0 : TypeDesc, (match d0, TypeDesc.slice e, Value.string st with
          | _, _, _ => (do match <- underlying e with
                             | .int .u8 => Conv.stringToBytes e st
                             | .int .i32 => Conv.stringToRunes e st
                             | _ => stuck "Convert: string to a slice of what?" : Sem Value)).run P w = (Conv.stringToBytes e st).run P w := fun d0 => by simp [ue]
      have hrun : (Conv.stringToBytes e st).run P w = .ok (.slice (some ⟨w.heap.size, 0, none⟩) st.size cap)
          ((w.drew.alloc (.cells ((byteCells st.data.toList).toArray ++ Array.replicate (cap - st.data.toList.length) (.int .u8 0)) e)).freeze ⟨w.drew.heap.size, cap, none⟩ 1) := by
        have hsh : ∀ (c : Array Value) (el : TypeId), (w.drew.alloc (.cells c el)).shape? w.heap.size = some (el, c.size) := fun c el => by
          unfold World.shape?
          have : (w.drew.alloc (.cells c el)).heap[w.heap.size]? = some (.cells c el) := by show (w.heap.push _)[w.heap.size]? = _; simp
          rw [this]
        unfold Conv.stringToBytes
        simp only [Sem.run_bind, run_choose, Question.forced, Bool.false_eq_true, if_false, Result.andThen_ok, hcg, Go.newRow, run_newObj, World.drew_eq, World.alloc_eq, Sem.run_pure, e1, markStringish, run_shape]
        have hsz : w.drew.heap.size = w.heap.size := rfl
        rw [hsz, hsh]
        have hcs : ((byteCells st.data.toList).toArray ++ Array.replicate (cap - st.size) (Value.int .u8 0)).size = cap := by simp [byteCells_length]; omega
        simp only [run_freeze, Result.andThen_ok, hcs, hl]
      cases s.desc <;> simp only [ue, Result.andThen_ok] <;> exact hrun
    · rw [hl]
      exact VR.slo 0 st.size st.size cap hput hcap (by simp) (show (1 : Nat) < 4096 by omega)
  · rename_i e _ _ hsd hdd
    cases hx
    rw [hdd] at ud
    rw [hsd] at us
    split at hc
    case h_2 => cases hc
    rename_i ye hye
    have ue := hE.und hye
    split at hc
    case h_2 => cases hc
    rename_i hed
    rw [hed] at ue
    cases hc
    refine ⟨ι, w, _, ?_, .str _, Step.refl h⟩
    simp [convert, us, ud, ue, Conv.bytesToString]
    rfl
  · rename_i e a n k hsd hdd
    rw [hdd] at ud
    rw [hsd] at us
    split at hc
    case h_2 => cases hc
    rename_i ye hye
    have ue := hE.und hye
    split at hc
    case h_2 => cases hc
    rename_i hed
    rw [hed] at ue
    -- an empty slice reads nothing
    have hempty : ∀ (a' : Addr) (c : Nat), (convert src dst (.slice (some a') 0 c)).run P w = .ok (.string ⟨#[]⟩) w := fun a' c => by
      have hl : (loadCells a' 0).run P w = .ok (([] : List Int).map (Value.int .u8)).toArray w := by simp [loadCells, loadCellsFrom]
      have := run_bytesToString w a' 0 c [] hl
      simp only [convert, Sem.run_bind, us, ud, ue, Result.andThen_ok, this]
      rfl
    have hfull : ∀ (b o : Nat) (t : Tgt) (cs : List Value) (l : List UInt8) (c : Nat), ι b = some t -> m.cells ⟨b, o, none⟩ n = some cs -> cellsBytes cs = some l →
        (convert src dst (.slice (some ⟨t.blk, t.dlt + o, none⟩) n c)).run P w = .ok (.string ⟨l.toArray⟩) w := fun b o t cs l c hb hcs hl => by
      obtain ⟨hlen, cs', hr, hcell⟩ := load_cells h hb hcs
      obtain ⟨ns, e1, e2⟩ := cellsBytes_spec hl hr
      have hld := run_loadCells (P := P) (w := w) (b := t.blk) (o := t.dlt + o) (vs := cs') hcell
      rw [<- hr.length, hlen, e1] at hld
      have := run_bytesToString w ⟨t.blk, t.dlt + o, none⟩ n c ns hld
      simp only [convert, Sem.run_bind, us, ud, ue, Result.andThen_ok, this]
      congr 2
      apply ByteArray.ext
      apply Array.ext'
      rw [foldl_push, e2]; rfl
    split at hc
    · rename_i cs hcs
      cases hl : cellsBytes cs with
      | none => rw [hl] at hc; cases hc
      | some l =>
        rw [hl] at hc; cases hc
        cases hx with
        | @sex b t o _ _ hb => exact ⟨ι, w, _, hfull b o t cs l _ hb hcs hl, .str _, Step.refl h⟩
        | @slo b t o _ _ _ hb _ _ _ => exact ⟨ι, w, _, hfull b o t cs l _ hb hcs hl, .str _, Step.refl h⟩
        | semp _ a' es he =>
          have : cs = [] := cells_zero hcs
          subst this; simp [cellsBytes] at hl; subst hl
          exact ⟨ι, w, _, hempty _ _, .str _, Step.refl h⟩
        | sem0 _ a' =>
          have : cs = [] := cells_zero hcs
          subst this; simp [cellsBytes] at hl; subst hl
          exact ⟨ι, w, _, hempty _ _, .str _, Step.refl h⟩
    · cases hn : Nat.beq n 0 with
      | false => rw [hn] at hc; cases hc
      | true =>
        have := Nat.eq_of_beq_eq_true hn; subst this
        rw [hn] at hc; simp only [cond_true, Option.some.injEq, Prod.mk.injEq] at hc
        obtain ⟨rfl, rfl⟩ := hc
        cases hx with
        | sex => exact ⟨ι, w, _, hempty _ _, .str _, Step.refl h⟩
        | slo => exact ⟨ι, w, _, hempty _ _, .str _, Step.refl h⟩
        | semp => exact ⟨ι, w, _, hempty _ _, .str _, Step.refl h⟩
        | sem0 => exact ⟨ι, w, _, hempty _ _, .str _, Step.refl h⟩
  · cases hc
theorem wrap_small {n : Int} (h0 : 0 <= n) (h1 : n <= 4611686018427387904) : IntKind.i64.wrap n = n := by
 have e : n % (2 ^ 64 : Int) = n := Int.emod_eq_of_lt h0 (by omega)
 have h2 : ¬ n >= (2 ^ 63 : Int) := by omega
 show (if (true && decide (n % (2 ^ 64 : Int) >= (2 ^ 63 : Int))) = true then n % (2 ^ 64 : Int) - (2 ^ 64 : Int) else n % (2 ^ 64 : Int)) = n
 simp only [e, decide_eq_false h2, Bool.and_false, Bool.false_eq_true, if_false]
theorem sim_makeSlice (hE : EnvOk E P) (h : Rel E ι m w) {t : Nat} {l c l' c' v : Value} (hm : makeSliceV E m t l c = some (v, m1)) (hl : VR ι l l') (hc : VR ι c c') :
  ∃ ι1 w1 v', (Instr.makeSlice t l' c').run P w = .ok v' w1 /\ VR ι1 v v' /\ Step E ι m w ι1 m1 w1 := by
 unfold makeSliceV at hm
 split at hm
 case h_2 => cases hm
 rename_i y k1 l k2 c hy
 cases hl; cases hc
 split at hm
 case h_2 => cases hm
 rename_i e hd
 split at hm
 case h_2 => cases hm
 rename_i ye z hye hz
 split at hm
 case isFalse => cases hm
 rename_i hcond
 obtain ⟨hl0, hlc, hcm, hbytes, hzl⟩ := hcond
 simp only [newRow, Option.some.injEq, Prod.mk.injEq] at hm
 obtain ⟨rfl, rfl⟩ := hm
 obtain ⟨zv, hzr, hzc, _, hzV⟩ := hE.zero hz w
 obtain ⟨i, hi, _, hib, _⟩ := hE.infoR hye w
 obtain ⟨hst, hput⟩ := sim_new h ((hzV ι).repeat c.toNat) e ye.size
 have hu := hE.und hy
 rw [hd] at hu
 have hsz : zv.cells.size = ye.size := by
  have hq : zv.cells.toList.length = z.length := by rw [hzc]
  rw [Array.length_toList] at hq; omega
 refine ⟨_, _, .slice (some ⟨w.heap.size, 0, none⟩) l.toNat c.toNat, ?_, .sex 0 _ _ hput, hst⟩
 have w1e := wrap_small (n := l) hl0 (by omega)
 have w2e := wrap_small (n := c) (by omega) hcm
 have hbad : ((decide (c < 0) || decide ((i.bytes : Int) * c > 2 ^ 48)) || decide (l < 0) || decide (l > c)) = false := by
  simp only [Bool.or_eq_false_iff, decide_eq_false_iff_not]
  rw [hib]
  refine ⟨⟨⟨by omega, ?_⟩, by omega⟩, by omega⟩
  have : (2 : Int) ^ 48 = 281474976710656 := by decide
  omega
 have hcells : ((Array.range (c.toNat * ye.size)).map fun x => (if c.toNat * ye.size = 0 then (#[] : Array Value) else zv.cells)[x % (if c.toNat * ye.size = 0 then (#[] : Array Value) else zv.cells).size]!) = (repeatCells z c.toNat).toArray := by
  apply Array.ext'
  by_cases h0 : c.toNat * ye.size = 0
  ·rw [h0]
   have : repeatCells z c.toNat = [] := List.eq_nil_of_length_eq_zero (by rw [repeat_length, hzl]; exact h0)
   rw [this]; simp
  ·simp only [if_neg h0]
   have hne : ye.size ≠ 0 := fun e => h0 (by rw [e]; simp)
   rw [<- hsz, zeros_toList _ _ (by omega), hzc]
 simp only [Instr.makeSlice, Sem.run_bind, hu, Result.andThen_ok, asInt, asIntOf, Sem.run_pure, hi, w1e, w2e, Sem.run_ite]
 rw [if_neg (by rw [hbad]; decide)]
 simp only [run_askRoom, Result.andThen_ok, hE.size hye]
 by_cases h0 : c.toNat * ye.size = 0
 ·rw [if_pos h0]
  simp only [if_pos h0] at hcells
  rw [hcells]; rfl
 ·rw [if_neg h0, hzr]
  simp only [if_neg h0] at hcells
  simp only [Result.andThen_ok]
  rw [hcells]; rfl
theorem ERs.length {l l' : List MapEntry} (h : ERs ι l l') : l.length = l'.length := by induction h with | nil => rfl | cons _ _ ih => simp [ih]
theorem sim_len (hE : EnvOk E P) (h : Rel E ι m w) {t : Nat} {x x' v : Value} {ats : Array TypeId} {ty : TypeId} {args : Array Value} (hv : lenV E m t x = some v) (hx : VR ι x x') (h0 : ats[0]? = some t) (h1 : args[0]? = some x') :
  (Builtin.len_ ats ty args).run P w = .ok v w /\ VR ι v v := by
 unfold lenV at hv
 split at hv
 ·cases hv
 rename_i y hy
 have hu := hE.und hy
 split at hv
 ·rename_i s hd
  cases hx; cases hv; rw [hd] at hu
  have e1 : s.data.toList.length = s.size := Array.length_toList
  exact ⟨by simp only [Builtin.len_, h0, h1, Sem.run_bind, hu, Result.andThen_ok, Sem.run_pure, goInt, e1], .int _ _⟩
 ·rename_i n e hd
  cases hv; rw [hd] at hu
  exact ⟨by simp [Builtin.len_, h0, h1, hu, goInt], .int _ _⟩
 ·rename_i n a l k hd
  rw [hd] at hu; cases hv
  cases hx <;> exact ⟨by simp [Builtin.len_, h0, h1, hu, goInt], .int _ _⟩
 ·rename_i hd
  rw [hd] at hu; cases hv; cases hx
  exact ⟨by simp [Builtin.len_, h0, h1, hu, goInt], .int _ _⟩
 ·rename_i hd
  rw [hd] at hu
  split at hv
  ·rename_i es clock hg
   cases hv
   cases hx with
   | mp hb =>
    obtain ⟨es', hh, hes⟩ := h.obj _ _ _ hb hg
    have hl : es'.size = es.length := by have := hes.length; simpa using this.symm
    exact ⟨by simp [Builtin.len_, h0, h1, hu, goInt, getObj, Sem.run, hh, hl], .int _ _⟩
  ·cases hv
 ·cases hv
theorem sim_cap (hE : EnvOk E P) {t : Nat} {x x' v : Value} {ats : Array TypeId} {ty : TypeId} {args : Array Value} (hv : capV E t x = some v) (hx : VR ι x x') (h0 : ats[0]? = some t) (h1 : args[0]? = some x') :
  (Builtin.cap_ ats ty args).run P w = .ok v w /\ VR ι v v := by
 unfold capV at hv
 split at hv
 ·cases hv
 rename_i y hy
 have hu := hE.und hy
 split at hv
 ·rename_i n e hd
  cases hv; rw [hd] at hu
  exact ⟨by simp [Builtin.cap_, h0, h1, hu, goInt], .int _ _⟩
 ·rename_i n a l k hd
  rw [hd] at hu
  cases hev : Nat.beq (k % 2) 0 with
  | false => rw [hev] at hv; cases hv
  | true =>
   rw [hev] at hv; simp only [cond_true, Option.some.injEq] at hv; subst hv
   refine ⟨?_, .int _ _⟩
   cases hx with
   | snil _ c => rw [show 2 * c / 2 = c by omega]; simp [Builtin.cap_, h0, h1, hu, goInt]
   | sex _ _ c => rw [show 2 * c / 2 = c by omega]; simp [Builtin.cap_, h0, h1, hu, goInt]
   | slo _ _ c c' => rw [odd_lo] at hev; cases hev
   | semp => rw [odd_lo] at hev; cases hev
   | sem0 => simp [Builtin.cap_, h0, h1, hu, goInt]
 ·cases hv
theorem sim_max : ∀ {r r' : List Value} {x x' v : Value}, maxV x r = some v -> VR ι x x' -> VRs ι r r' -> ∃ v', (∀ w, (r'.foldlM Builtin.max2 x').run P w = .ok v' w) /\ VR ι v v'
 | [], _, x, x', v, h, hx, hr => by
  cases hr
  simp only [maxV, Option.some.injEq] at h; subst h
  exact ⟨x', fun w => by simp, hx⟩
 | y :: r, _, x, x', v, h, hx, hr => by
  cases hr with
  | cons hy hr =>
  unfold maxV at h
  split at h
  ·exact absurd ‹y :: r = []› (by simp)
  ·rename_i k a k' b r2 heq
   injection heq with e1 e2; subst e1; subst e2
   cases hx; cases hy
   split at h
   ·rename_i hk; subst hk
    obtain ⟨v', h1, h2⟩ := sim_max h (.int _ _) hr
    exact ⟨v', fun w => by simp [Builtin.max2, h1], h2⟩
   ·cases h
  ·cases h
theorem sim_min : ∀ {r r' : List Value} {x x' v : Value}, minV x r = some v -> VR ι x x' -> VRs ι r r' -> ∃ v', (∀ w, (r'.foldlM Builtin.min2 x').run P w = .ok v' w) /\ VR ι v v'
 | [], _, x, x', v, h, hx, hr => by
  cases hr
  simp only [minV, Option.some.injEq] at h; subst h
  exact ⟨x', fun w => by simp, hx⟩
 | y :: r, _, x, x', v, h, hx, hr => by
  cases hr with
  | cons hy hr =>
  unfold minV at h
  split at h
  ·exact absurd ‹y :: r = []› (by simp)
  ·rename_i k a k' b r2 heq
   injection heq with e1 e2; subst e1; subst e2
   cases hx; cases hy
   split at h
   ·rename_i hk; subst hk
    obtain ⟨v', h1, h2⟩ := sim_min h (.int _ _) hr
    exact ⟨v', fun w => by simp [Builtin.min2, h1], h2⟩
   ·cases h
  ·cases h
theorem growBy_le (n : Nat) : ∀ (r c : Nat), c <= n + (n + 768) / 4 -> Builtin.growBy n r c <= n + (n + 768) / 4
 | 0, c, h => by simp [Builtin.growBy]; exact h
 | r + 1, c, h => by
  simp only [Builtin.growBy]
  split
  ·exact h
  ·exact growBy_le n r _ (by omega)
theorem nextcap_le {need old : Nat} (h : old < need) : Builtin.nextslicecap need old <= 2 * need + 2000 := by
 unfold Builtin.nextslicecap
 split
 ·omega
 ·split
  ·omega
  ·have := growBy_le need 4 old (by omega); omega
theorem load_head (h : Rel E ι m w) {size n : Nat} {base base' : Option Addr} {k k' : Nat} {cs : List Value} (hc : headV m size base n = some cs) (hs : VR ι (.slice base n k) (.slice base' n k')) :
  cs.length = n * size /\ ∃ cs', VRs ι cs cs' /\ ∀ w1 : World, w1.heap = w.heap -> (Builtin.firstCells size n (.slice base' n k')).run P w1 = .ok cs'.toArray w1 := by
 unfold headV at hc
 have hzero : ∀ (b : Option Addr) (w1 : World), (Builtin.firstCells size 0 (.slice b 0 k')).run P w1 = .ok #[] w1 := fun b w1 => by
  cases b <;> simp [Builtin.firstCells, loadCells, loadCellsFrom]
 cases hn : Nat.beq n 0 with
 | true =>
  have := Nat.eq_of_beq_eq_true hn; subst this
  have : cs = [] := by cases base <;> simp at hc <;> first | exact hc | exact hc.symm
  subst this
  exact ⟨by simp, [], .nil, fun w1 _ => hzero _ w1⟩
 | false =>
  cases base with
  | none => simp only [hn, cond_false] at hc; cases hc
  | some a =>
   simp only [hn, cond_false] at hc
   have key : ∀ (b o : Nat) (t : Tgt), ι b = some t -> a = ⟨b, o, none⟩ -> base' = some ⟨t.blk, t.dlt + o, none⟩ →
     cs.length = n * size /\ ∃ cs', VRs ι cs cs' /\ ∀ w1 : World, w1.heap = w.heap -> (Builtin.firstCells size n (.slice base' n k')).run P w1 = .ok cs'.toArray w1 := by
    rintro b o t hb rfl rfl
    obtain ⟨h1, cs', h2, h3⟩ := load_cells h hb hc
    refine ⟨h1, cs', h2, fun w1 hw => ?_⟩
    have := run_loadCells (P := P) (w := w1) (b := t.blk) (o := t.dlt + o) (vs := cs') (fun j v e => by rw [cell?_congr hw]; exact h3 j v e)
    rw [<- h2.length, h1] at this
    simpa [Builtin.firstCells] using this
   cases hs with
   | @sex b t o _ _ hb => exact key b o t hb rfl rfl
   | @slo b t o _ _ _ hb _ _ _ => exact key b o t hb rfl rfl
   | semp => simp at hn
   | sem0 => simp at hn
theorem source_plain (h : Rel E ι m w) {size e n : Nat} {x x' : Value} {new : List Value} (hs : sourceV E m size false e x = some (new, n)) (hx : VR ι x x') :
  new.length = n * size /\ (∀ w1 : World, (Builtin.lenOf x').run P w1 = .ok n w1) /\ ∃ new', VRs ι new new' /\ ∀ w1 : World, w1.heap = w.heap -> (Builtin.firstCells size n x').run P w1 = .ok new'.toArray w1 := by
 unfold sourceV at hs
 simp only at hs
 split at hs
 ·rename_i n0 k
  cases hn : Nat.beq n0 0 with
  | false => rw [hn] at hs; cases hs
  | true =>
   have := Nat.eq_of_beq_eq_true hn; subst this
   rw [hn] at hs; cases hs
   cases hx
   exact ⟨by simp, fun w1 => by simp [Builtin.lenOf], [], .nil, fun w1 _ => by simp [Builtin.firstCells]⟩
 ·rename_i a n0 k
  cases hn : Nat.beq n0 0 with
  | true =>
   have := Nat.eq_of_beq_eq_true hn; subst this
   rw [hn] at hs; cases hs
   refine ⟨by simp, fun w1 => ?_, [], .nil, fun w1 _ => ?_⟩
   ·cases hx <;> simp [Builtin.lenOf]
   ·cases hx <;> simp [Builtin.firstCells, loadCells, loadCellsFrom]
  | false =>
   rw [hn] at hs; simp only [cond_false] at hs
   split at hs
   ·rename_i cs hc
    cases hs
    have hh : headV m size (some a) n = some new := by unfold headV; simp only [hn, cond_false]; exact hc
    cases hx with
    | sex o _ c hb =>
     obtain ⟨h1, cs', h2, h3⟩ := load_head (P := P) h hh (.sex o n c hb)
     exact ⟨h1, fun w1 => by simp [Builtin.lenOf], cs', h2, h3⟩
    | slo o _ c c' hb h4 h5 h6 =>
     obtain ⟨h1, cs', h2, h3⟩ := load_head (P := P) h hh (.slo o n c c' hb h4 h5 h6)
     exact ⟨h1, fun w1 => by simp [Builtin.lenOf], cs', h2, h3⟩
    | semp => simp at hn
    | sem0 => simp at hn
   ·cases hs
 ·rename_i s
  cases hsz : Nat.beq size 1 with
  | false => rw [hsz] at hs; cases hs
  | true =>
   have := Nat.eq_of_beq_eq_true hsz; subst this
   rw [hsz] at hs; cases hs
   cases hx
   have hl : s.data.toList.length = s.size := Array.length_toList
   refine ⟨by rw [byteCells_length]; simp, fun w1 => by simp only [Builtin.lenOf, Sem.run_pure, hl], byteCells s.data.toList, VRs.ints _, fun w1 _ => ?_⟩
   simp only [Builtin.firstCells, Sem.run_pure]
   congr 1
   apply Array.ext'
   rw [ba_extract]
   have : (s.data.toList.drop 0).take (s.data.toList.length - 0) = s.data.toList := by rw [List.drop_zero, Nat.sub_zero, List.take_length]
   rw [this, byteCells_map]; simp
 ·cases hs
theorem zeroCells_eq (z : Array Value) (n : Nat) (hz : z.size ≠ 0) : (Builtin.zeroCells z n).toList = repeatCells z.toList n := zeros_toList z n hz
theorem VR.slice_shape {base : Option Addr} {n k : Nat} {s' : Value} (h : VR ι (.slice base n k) s') : ∃ base' k', s' = .slice base' n k' /\ (base = none ↔ base' = none) /\ capOf k <= k' /\ (Nat.beq (k % 2) 0 = true -> capOf k = k') := by
 cases h with
 | snil _ c => exact ⟨none, c, rfl, by simp, by rw [capOf_even]; omega, fun _ => capOf_even c⟩
 | sex _ _ c => exact ⟨_, c, rfl, by simp, by rw [capOf_even]; omega, fun _ => capOf_even c⟩
 | slo _ _ c c' _ hc _ he => exact ⟨_, c', rfl, by simp, by rw [capOf_lo _ _ he]; exact hc, fun e => by rw [odd_lo] at e; cases e⟩
 | semp _ a' es he => exact ⟨some a', 0, rfl, by simp, by rw [capOf_lo _ _ he]; omega, fun e => by rw [odd_lo] at e; cases e⟩
 | sem0 _ a' => exact ⟨some a', 0, rfl, by simp, Nat.le_refl _, fun _ => rfl⟩
structure Grows (E : Env) (m : Mem) (e : Nat) (ye : Ty) (base : Option Addr) (len k n : Nat) (new : List Value) (v : Value) (m1 : Mem) where
 old : List Value
 z : List Value
 hold : headV m ye.size base len = some old
 hz : zeroOf E e = some z
 hzl : z.length = ye.size
 hone : allOne new = true
 hsz : ye.size < 4096
 hbytes : (2 * (len + n) + 2000) * ye.bytes <= 281474976710656
 hneed : len + n <= 4611686018427387904
 out : (Nat.beq (k % 2) 0 = true /\ v = .slice (some (addr m.size 0)) (len + n) (loCap (len + n) ye.size) /\ m1 = m.new (.row (old ++ new) .rw ye.size none)) ∨
  (Nat.beq (k % 2) 0 = false /\ ∃ a cs prev, base = some a /\ m.get a.block = some (.row cs .rw ye.size prev) /\ esOf k = ye.size /\ a.off + len * ye.size = cs.length ∧
   v = .slice (some (addr m.size 0)) (len + n) (loCap (len + n) ye.size) /\ m1 = (m.upd a.block (some (.row cs .cl ye.size prev))).new (.row (old ++ new) .rw ye.size (some a.block)))
theorem headV_drop {a : Addr} {cs old : List Value} {md : Md} {es len size : Nat} {q : Option Nat} (hg : m.get a.block = some (.row cs md es q)) (hl : a.off + len * size = cs.length)
  (h : headV m size (some a) len = some old) : old = cs.drop a.off := by
 unfold headV at h
 cases hn : Nat.beq len 0 with
 | true =>
  have := Nat.eq_of_beq_eq_true hn; subst this
  simp only [hn, cond_true, Option.some.injEq] at h; subst h
  rw [List.drop_eq_nil_of_le (by omega)]
 | false =>
  simp only [hn, cond_false] at h
  unfold Mem.cells at h
  rw [hg] at h
  simp only at h
  rw [bleT (by omega)] at h
  simp only [cond_true, Option.some.injEq] at h
  rw [<- h, List.take_of_length_le (by simp; omega)]
theorem grow_in (h : Rel E ι m w) {e : Nat} {ye : Ty} {base : Option Addr} {len k n : Nat} {new new' : List Value} {v : Value} {s' : Value} (G : Grows E m e ye base len k n new v m1) (hs : VR ι (.slice base len k) s')
  (hnew : VRs ι new new') (hnl : new.length = n * ye.size) (hcap : capOf k < len + n) {base' : Option Addr} {k' : Nat} (he : s' = .slice base' len k') (hin : len + n <= k') :
  ∃ a' ι1 w1, base' = some a' /\ (storeCells (a'.add (len * ye.size)) new').run P w = .ok () w1 /\ Step E ι m w ι1 m1 w1 /\ VR ι1 v (.slice base' (len + n) k') := by
 subst he
 rcases G.out with ⟨hev, _⟩ | ⟨hev, a, cs, prev, hbase, hg, hes, hlen, hv, hm1⟩
 ·obtain ⟨b2, k2, e2, _, _, hex⟩ := hs.slice_shape
  injection e2 with _ _ e2; subst e2
  have := hex hev; omega
 ·subst hbase
  cases hs with
  | sex => rw [even_ex] at hev; cases hev
  | sem0 => cases hev
  | semp => omega
  | @slo b t o _ c _ hb hcc hrr hes4 =>
   simp only at hg hlen
   rw [esOf_lo _ _ hes4] at hes
   obtain ⟨hst1, hno⟩ := claim_step h hg
   have hsame : (m.upd b (some (.row cs .cl ye.size prev))).get b = some (.row cs .cl ye.size prev) := Mem.get_upd_same (row_high h hg (by decide)) _
   have hobj := (h.obj b t _ hb hg).2 (by decide)
   have hold := headV_drop (a := ⟨b, o, none⟩) hg hlen G.hold
   have hnew1 : VRs ι new new' := hnew
   have hc1 : t.dlt + cs.length + new.length <= t.cap := by
    have : t.dlt + o + (len + n) * t.es <= t.cap := Nat.le_trans (by have := Nat.mul_le_mul_right t.es hin; omega) hrr
    rw [hnl, <- hlen, <- hes]
    rw [Nat.add_mul] at this
    omega
   have hst2 := grow_step (E := E) hst1.rel (off := o) hb hsame hno (by omega) hnew1 hc1
   refine ⟨⟨t.blk, t.dlt + o, none⟩, ι.put (m.upd b (some (.row cs .cl ye.size prev))).size ⟨t.blk, t.dlt + o, t.cap, ye.size⟩, setAll w t.blk (t.dlt + cs.length) new', rfl, ?_, ?_, ?_⟩
   ·rw [add_eq]
    obtain ⟨_, hcap2, c0, el, fz, hblk, hcs, hfz⟩ := hobj
    have hoff : t.dlt + o + len * ye.size = t.dlt + cs.length := by omega
    rw [hoff]
    have := run_storeCells (P := P) t.blk (t.dlt + cs.length) new' 0 w (hnew.allOne G.hone)
     (fun j hj => by
      rw [cell?_block hblk]
      have hl' := hnew.length
      have : t.dlt + cs.length + 0 + j < c0.size := by omega
      rw [Array.getElem?_eq_getElem this]; rfl)
     (fun j hj => hfz _ (fz_le (by have hl' := hnew.length; omega)))
    simpa using this
   ·rw [hm1, hold]
    exact hst1.trans (by simpa using hst2)
   ·rw [hv]
    have hput : (ι.put (m.upd b (some (.row cs .cl ye.size prev))).size ⟨t.blk, t.dlt + o, t.cap, ye.size⟩) m.size = some ⟨t.blk, t.dlt + o, t.cap, ye.size⟩ := by
     unfold Inj.put; exact if_pos rfl
    have := VR.slo (ι := ι.put (m.upd b (some (.row cs .cl ye.size prev))).size ⟨t.blk, t.dlt + o, t.cap, ye.size⟩) 0 (len + n) (len + n) k' hput hin (by simp only; rw [Nat.add_zero, <- hes]; exact hrr) G.hsz
    simpa [addr] using this
theorem grow_out (hE : EnvOk E P) (h : Rel E ι m w) {e : Nat} {ye : Ty} {base : Option Addr} {len k n : Nat} {new new' old' : List Value} {v : Value} (G : Grows E m e ye base len k n new v m1)
  (hnew : VRs ι new new') (hnl : new.length = n * ye.size) (hold : VRs ι G.old old') (hol : G.old.length = len * ye.size) (hye : E.ty e = some ye) (cap : Nat) (hc : len + n <= cap) {zv : Value} (hzv : zv.cells.toList = G.z) (el : TypeId) :
  ∃ ι1, Step E ι m w ι1 m1 (w.drew.alloc (.cells (old'.toArray ++ new'.toArray ++ Builtin.zeroCells zv.cells (cap - (len + n))) el)) /\ VR ι1 v (.slice (some ⟨w.heap.size, 0, none⟩) (len + n) cap) := by
 have hzs : zv.cells.size = ye.size := by
  have hq : zv.cells.toList.length = G.z.length := by rw [hzv]
  rw [Array.length_toList] at hq; rw [hq]; exact G.hzl
 have hlo := hold.length
 have hln := hnew.length
 have hsize : (old'.toArray ++ new'.toArray ++ Builtin.zeroCells zv.cells (cap - (len + n))).size = cap * ye.size := by
  have : (Builtin.zeroCells zv.cells (cap - (len + n))).size = (cap - (len + n)) * ye.size := by unfold Builtin.zeroCells; simp [hzs]
  simp only [Array.size_append, this, List.size_toArray]
  rw [<- hlo, <- hln, hol, hnl, <- Nat.add_mul, <- Nat.add_mul]
  congr 1; omega
 have hdrew := Step.drew h
 -- whichever way the old row goes, the new one is laid
 have lay : ∀ (m0 : Mem) (prev : Option Nat), Rel E ι m0 w.drew -> m0.size = m.size -> (∀ q, prev = some q -> q < m0.size /\ ∀ o', m0.get q = some o' -> ∃ cs es r, o' = .row cs .cl es r) →
   Step E ι m0 w.drew (ι.put m.size ⟨w.heap.size, 0, cap * ye.size, ye.size⟩) (m0.new (.row (G.old ++ new) .rw ye.size prev)) (w.drew.alloc (.cells (old'.toArray ++ new'.toArray ++ Builtin.zeroCells zv.cells (cap - (len + n))) el)) := by
  intro m0 prev hr hsz hp
  have hb : (w.drew.alloc (.cells (old'.toArray ++ new'.toArray ++ Builtin.zeroCells zv.cells (cap - (len + n))) el)).heap[w.heap.size]? = some (.cells (old'.toArray ++ new'.toArray ++ Builtin.zeroCells zv.cells (cap - (len + n))) el) := by
   show (w.heap.push _)[w.heap.size]? = _; simp
  rw [<- hsz]
  refine Step.new hr (O := .cells (old'.toArray ++ new'.toArray ++ Builtin.zeroCells zv.cells (cap - (len + n))) el) rfl rfl rfl rfl rfl ?_ (fun cs md es q e => by injection e with _ _ _ e; exact hp q e)
  have hs0 := Inj.put_sub (ι := ι) ⟨w.heap.size, 0, cap * ye.size, ye.size⟩ hr.none_of_size
  refine ⟨fun j v ev => ?_, fun _ => ⟨rfl, ?_, _, el, (0, 0), hb, hsize, fun j _ => ?_⟩⟩
  ·obtain ⟨v', e', hr'⟩ := (hold.append hnew).get ev
   refine ⟨v', ?_, hr'.mono hs0⟩
   rw [cell?_block hb]
   simp only [Nat.zero_add]
   have hj : j < (old'.toArray ++ new'.toArray).size := by
    have : j < (old' ++ new').length := by
     rcases Nat.lt_or_ge j (old' ++ new').length with hx | hx
     ·exact hx
     ·rw [List.getElem?_eq_none hx] at e'; cases e'
    simpa using this
   rw [Array.getElem?_append_left hj]
   simpa using e'
  ·simp only [Nat.zero_add, List.length_append]
   rw [hol, hnl, <- Nat.add_mul]; exact Nat.mul_le_mul_right _ hc
  ·unfold World.frozen?; rw [hb]; simp
 have hput : (ι.put m.size ⟨w.heap.size, 0, cap * ye.size, ye.size⟩) m.size = some ⟨w.heap.size, 0, cap * ye.size, ye.size⟩ := by unfold Inj.put; rw [if_pos rfl]
 have hVR : VR (ι.put m.size ⟨w.heap.size, 0, cap * ye.size, ye.size⟩) (.slice (some (addr m.size 0)) (len + n) (loCap (len + n) ye.size)) (.slice (some ⟨w.heap.size, 0, none⟩) (len + n) cap) := by
  have := VR.slo 0 (len + n) (len + n) cap hput hc (by simp) G.hsz
  simpa [addr] using this
 have _ := hE; have _ := hye
 rcases G.out with ⟨_, hv, hm1⟩ | ⟨_, a, cs, prev, hbase, hg, hes, hlen, hv, hm1⟩
 ·rw [hv, hm1]
  exact ⟨_, hdrew.trans (lay m none hdrew.rel rfl (fun q e => by cases e)), hVR⟩
 ·rw [hv, hm1]
  obtain ⟨hst1, hno⟩ := claim_step hdrew.rel hg
  have hsame : (m.upd a.block (some (.row cs .cl ye.size prev))).get a.block = some (.row cs .cl ye.size prev) := Mem.get_upd_same (row_high h hg (by decide)) _
  refine ⟨_, (hdrew.trans hst1).trans (lay _ (some a.block) hst1.rel rfl (fun q e => ?_)), hVR⟩
  injection e with e; subst e
  refine ⟨?_, fun o' e => by rw [hsame] at e; cases e; exact ⟨_, _, _, rfl⟩⟩
  show a.block < m.size
  rcases Nat.lt_or_ge a.block m.size with hx | hx
  ·exact hx
  ·rw [h.top _ hx] at hg; cases hg
theorem within (h : Rel E ι m w) {base : Option Addr} {len k n size : Nat} {new new' : List Value} {v s' : Value} {base' : Option Addr} {k' : Nat}
    (ha : (match base with
      | none => bif Nat.beq n 0 then some ((.slice none len k : Value), m) else none
      | some a => bif Nat.beq n 0 then some (.slice (some a) len k, m) else (m.storeCells (addOff a (len * size)) new).map fun m1 => (.slice (some a) (len + n) k, m1)) = some (v, m1))
    (hs : VR ι (.slice base len k) s') (he : s' = .slice base' len k') (hnew : VRs ι new new') (hnl : new.length = n * size) (hle : len + n <= capOf k) :
    (base' = none /\ n = 0 /\ v = .slice none len k /\ m1 = m) \/ ∃ a' w1, base' = some a' /\ (storeCells (a'.add (len * size)) new').run P w = .ok () w1 /\ Step E ι m w ι m1 w1 /\ VR ι v (.slice base' (len + n) k') := by
  subst he
  cases base with
  | none =>
    simp only at ha
    cases hn : Nat.beq n 0 with
    | false => rw [hn] at ha; cases ha
    | true =>
      rw [hn] at ha; cases ha
      cases hs; exact .inl ⟨rfl, Nat.eq_of_beq_eq_true hn, rfl, rfl⟩
  | some a =>
    simp only at ha
    cases hn : Nat.beq n 0 with
    | true =>
      have hn0 := Nat.eq_of_beq_eq_true hn; subst hn0
      rw [hn] at ha; cases ha
      have hnil : new' = [] := List.eq_nil_of_length_eq_zero (by rw [<- hnew.length, hnl]; simp)
      subst hnil
      obtain ⟨b2, k2, e2, hnone, _, _⟩ := hs.slice_shape
      injection e2 with e2 _ e3; subst e2; subst e3
      cases base' with
      | none => exact absurd (hnone.2 rfl) (by simp)
      | some a' => exact .inr ⟨a', w, rfl, by simp [storeCells], Step.refl h, hs⟩
    | false =>
      rw [hn] at ha; simp only [cond_false] at ha
      cases hst : m.storeCells (addOff a (len * size)) new with
      | none => rw [hst] at ha; cases ha
      | some m2 =>
        rw [hst] at ha; cases ha
        have key : ∀ (b o : Nat) (t : Tgt), ι b = some t -> a = ⟨b, o, none⟩ -> ∃ w1, (storeCells ((⟨t.blk, t.dlt + o, none⟩ : Addr).add (len * size)) new').run P w = .ok () w1 /\ Step E ι m w ι m1 w1 := by
          rintro b o t hb rfl
          rw [add_eq, Nat.add_assoc]
          exact store_cells h (VR.ptr (o + len * size) hb) hnew hst
        cases hs with
        | @sex b t o _ _ hb =>
          obtain ⟨w1, h1, h2⟩ := key b o t hb rfl
          exact .inr ⟨_, w1, rfl, h1, h2, .sex o _ _ hb⟩
        | @slo b t o _ _ _ hb h3 h4 h5 =>
          obtain ⟨w1, h1, h2⟩ := key b o t hb rfl
          exact .inr ⟨_, w1, rfl, h1, h2, .slo o _ _ _ hb h3 h4 h5⟩
        | semp _ a' es he4 => rw [capOf_lo _ _ he4] at hle; have : n = 0 := by omega
                              subst this; simp at hn
        | sem0 _ a' => have : n = 0 := by have e0 : capOf 0 = 0 := rfl
                                          omega
                       subst this; simp at hn
end
end Go.Am
namespace Go.Am
open Go.RowKit
section
variable {E : Env} {P : Program} {ι ι1 ι2 : Inj} {m m1 m2 : Mem} {w w1 w2 : World}
theorem append_opened {t : Nat} {t2 : Option Nat} {s x v : Value} (ha : appendV E m t t2 s x = some (v, m1)) :
    ∃ base len k e y ye zeros new n, s = .slice base len k /\ E.ty t = some y /\ y.desc = .slice e /\ E.ty e = some ye ∧
      (match t2 with | none => none | some u => match E.ty u with | some yu => zerosD yu.desc | none => none) = some zeros ∧
      sourceV E m ye.size zeros e x = some (new, n) ∧
      ((len + n <= capOf k /\ (match base with
        | none => bif Nat.beq n 0 then some ((.slice none len k : Value), m) else none
        | some a => bif Nat.beq n 0 then some (.slice (some a) len k, m) else (m.storeCells (addOff a (len * ye.size)) new).map fun m1 => (.slice (some a) (len + n) k, m1)) = some (v, m1)) ∨
       (capOf k < len + n /\ Nonempty (Grows E m e ye base len k n new v m1))) := by
  unfold appendV at ha
  split at ha
  case h_2 => cases ha
  rename_i y base len k hy
  split at ha
  case h_2 => cases ha
  rename_i e hd
  split at ha
  case h_2 => cases ha
  rename_i ye hye
  split at ha
  case h_1 => cases ha
  rename_i zeros hz
  split at ha
  case h_1 => cases ha
  rename_i new n hsrc
  refine ⟨base, len, k, e, y, ye, zeros, new, n, rfl, hy, hd, hye, hz, hsrc, ?_⟩
  cases hle : Nat.ble (len + n) (capOf k) with
  | true =>
    rw [hle] at ha
    exact .inl ⟨Nat.le_of_ble_eq_true hle, ha⟩
  | false =>
    rw [hle] at ha
    simp only [cond_false] at ha
    have hgt : capOf k < len + n := by
      rcases Nat.lt_or_ge (capOf k) (len + n) with hx | hx
      · exact hx
      · rw [bleT hx] at hle; cases hle
    refine .inr ⟨hgt, ?_⟩
    cases hb : (!(Nat.ble ((2 * (len + n) + 2000) * ye.bytes) 281474976710656 && Nat.ble (len + n) 4611686018427387904 && Nat.blt ye.size 4096)) with
    | true => rw [hb] at ha; cases ha
    | false =>
    rw [hb] at ha
    simp only [cond_false] at ha
    simp only [Bool.not_eq_false', Bool.and_eq_true] at hb
    obtain ⟨⟨hb1, hb2⟩, hb3⟩ := hb
    split at ha
    case h_2 => cases ha
    rename_i old z hold hz2
    cases hc : (!(Nat.beq z.length ye.size && allOne new)) with
    | true => rw [hc] at ha; cases ha
    | false =>
    rw [hc] at ha
    simp only [cond_false] at ha
    simp only [Bool.not_eq_false', Bool.and_eq_true] at hc
    cases hev : Nat.beq (k % 2) 0 with
    | true =>
      rw [hev] at ha
      simp only [cond_true, newRow, Option.some.injEq, Prod.mk.injEq] at ha
      exact ⟨⟨old, z, hold, hz2, Nat.eq_of_beq_eq_true hc.1, hc.2, by simpa using hb3, Nat.le_of_ble_eq_true hb1, Nat.le_of_ble_eq_true hb2, .inl ⟨hev, ha.1.symm, ha.2.symm⟩⟩⟩
    | false =>
      rw [hev] at ha
      simp only [cond_false] at ha
      split at ha
      · cases ha
      · rename_i a
        split at ha
        case h_2 => cases ha
        rename_i cs es prev hg
        cases hq : (Nat.beq (esOf k) ye.size && Nat.beq es ye.size && Nat.beq (a.off + len * ye.size) cs.length) with
        | false => rw [hq] at ha; cases ha
        | true =>
          rw [hq] at ha
          simp only [cond_true, Option.some.injEq, Prod.mk.injEq] at ha
          rw [Bool.and_eq_true, Bool.and_eq_true] at hq
          have q1 := Nat.eq_of_beq_eq_true hq.1.1
          have q2 := Nat.eq_of_beq_eq_true hq.1.2
          have q3 := Nat.eq_of_beq_eq_true hq.2
          subst q2
          exact ⟨⟨old, z, hold, hz2, Nat.eq_of_beq_eq_true hc.1, hc.2, by simpa using hb3, Nat.le_of_ble_eq_true hb1, Nat.le_of_ble_eq_true hb2, .inr ⟨hev, a, cs, prev, rfl, hg, q1, q3, ha.1.symm, ha.2.symm⟩⟩⟩
theorem sim_append (hE : EnvOk E P) (h : Rel E ι m w) {t : Nat} {t2 : Option Nat} {s x v s' x' : Value} {ats : Array TypeId} {ty : TypeId} {args : Array Value} (ha : appendV E m t t2 s x = some (v, m1)) (hs : VR ι s s') (hx : VR ι x x')
  (h0 : ats[0]? = some t) (h1 : ats[1]? = t2) (ha0 : args[0]? = some s') (ha1 : args[1]? = some x') :
  ∃ ι1 w1 v', (Builtin.append_ ats ty args).run P w = .ok v' w1 /\ VR ι1 v v' /\ Step E ι m w ι1 m1 w1 := by
 obtain ⟨base, len, k, e, y, ye, zeros, new, n, rfl, hy, hd, hye, hz, hsrc, hcase⟩ := append_opened ha
 obtain ⟨base', k', rfl, hnone, hck, hex⟩ := hs.slice_shape
 have hu := hE.und hy
 rw [hd] at hu
 obtain ⟨ii, hi, _, hib, _⟩ := hE.ty _ _ hye
 have hti : ∀ w, (typeInfo e).run P w = .ok ii w := fun w => by simp [typeInfo, hi]
 -- the two ends
 have fin : ∀ new' : List Value, VRs ι new new' -> new.length = n * ye.size →
   (len + n <= k' -> ∃ ι1 w1 v', (∀ (f : Addr -> Sem Unit), (∀ a, f a = storeCells (a.add (len * ye.size)) new') -> (match base' with
     | some a => f a | none => pure () : Sem Unit).run P w = .ok () w1) /\ v' = Value.slice base' (len + n) k' /\ VR ι1 v v' /\ Step E ι m w ι1 m1 w1) ∧
   (¬ len + n <= k' -> ∃ (old' : List Value) (zv : Value), (∀ w1 : World, w1.heap = w.heap -> (Builtin.firstCells ye.size len (.slice base' len k')).run P w1 = .ok old'.toArray w1) /\ (∀ w1, (zeroValue e).run P w1 = .ok zv w1) ∧
    Builtin.nextslicecap (len + n) k' * ii.bytes <= 281474976710656 /\ ((len + n : Nat) : Int) <= 4611686018427387904 ∧
    ∀ cap, len + n <= cap -> ∃ ι1, Step E ι m w ι1 m1 (w.drew.alloc (.cells (old'.toArray ++ new'.toArray ++ Builtin.zeroCells zv.cells (cap - (len + n))) e)) /\ VR ι1 v (.slice (some ⟨w.heap.size, 0, none⟩) (len + n) cap)) := by
  intro new' hnew hnl
  rcases hcase with ⟨hle, hw⟩ | ⟨hgt, ⟨G⟩⟩
  ·refine ⟨fun _ => ?_, fun hn => absurd (Nat.le_trans hle hck) hn⟩
   rcases within (P := P) h hw hs rfl hnew hnl hle with ⟨hb, hn, hv, hm⟩ | ⟨a', w1, hb, hr, hst, hvr⟩
   ·subst hn
    have hbase : base = none := hnone.2 hb
    subst hb; subst hbase
    rw [hv, hm]
    exact ⟨ι, w, _, fun f _ => rfl, rfl, hs, Step.refl h⟩
   ·subst hb
    exact ⟨ι, w1, _, fun f hf => by simp only [hf]; exact hr, rfl, hvr, hst⟩
  ·refine ⟨fun hin => ?_, fun hn => ?_⟩
   ·obtain ⟨a', ι1, w1, hb, hr, hst, hvr⟩ := grow_in (P := P) h G hs hnew hnl hgt rfl hin
    subst hb
    exact ⟨ι1, w1, _, fun f hf => by simp only [hf]; exact hr, rfl, hvr, hst⟩
   ·obtain ⟨hol, old', ho, hor⟩ := load_head (P := P) h G.hold hs
    obtain ⟨zv, hzr, hzc, _, _⟩ := hE.zero G.hz w
    have hzall : ∀ w1, (zeroValue e).run P w1 = .ok zv w1 := fun w1 => by
     obtain ⟨z2, hz2, _, _, _⟩ := hE.zero G.hz w1
     have e1 : z2 = zv := by
      simp [zeroValue, typeInfo, hi] at hzr hz2
      cases hz0 : ii.zero with
      | none => rw [hz0] at hzr; simp at hzr
      | some zz => rw [hz0] at hzr hz2; simp at hzr hz2; rw [<- hzr, <- hz2]
     rw [<- e1]; exact hz2
    refine ⟨old', zv, hor, hzall, ?_, by have := G.hneed; omega, fun cap hc => grow_out hE h G hnew hnl ho hol hye cap hc hzc e⟩
    have := nextcap_le (need := len + n) (old := k') (by omega)
    rw [hib]
    exact Nat.le_trans (Nat.mul_le_mul_right _ this) G.hbytes
 -- the type of what is appended
 obtain ⟨u, yu, ht2, hyu, hzd⟩ : ∃ u yu, t2 = some u /\ E.ty u = some yu /\ zerosD yu.desc = some zeros := by
  cases t2 with
  | none => cases hz
  | some u =>
   simp only at hz
   split at hz
   ·rename_i yu hyu; exact ⟨u, yu, rfl, hyu, hz⟩
   ·cases hz
 subst ht2
 have huu := hE.und hyu
 have hmax : IntKind.i64.max = 9223372036854775807 := by decide
 have hpow : (2 : Nat) ^ 48 = 281474976710656 := by decide
 have hd0 : ({ heap := w.heap, tape := w.tape, drawn := w.drawn + 1, os := w.os, output := w.output } : World) = w.drew := rfl
 have plain : zeros = false -> ∀ d, yu.desc = d -> (d = .string \/ ∃ e2, d = .slice e2) -> ∃ ι1 w1 v', (Builtin.append_ ats ty args).run P w = .ok v' w1 /\ VR ι1 v v' /\ Step E ι m w ι1 m1 w1 := by
  intro hzf d hdd hdk
  subst hzf
  obtain ⟨hnl, hnr, new', hnew, happ⟩ := source_plain (P := P) h hsrc hx
  obtain ⟨f1, f2⟩ := fin new' hnew hnl
  rw [hdd] at huu
  by_cases hin : len + n <= k'
  ·obtain ⟨ι1, w1, v', hr, rfl, hvr, hst⟩ := f1 hin
   refine ⟨ι1, w1, _, ?_, hvr, hst⟩
   have hr := hr (fun a => storeCells (a.add (len * ye.size)) new') (fun _ => rfl)
   rcases hdk with rfl | ⟨e2, rfl⟩ <;>
   ·unfold Builtin.append_
    rw [h0, ha0, ha1]
    simp only [Sem.run_bind, hu, Result.andThen_ok, hE.size hye]
    rw [h1]
    simp only [Sem.run_bind, huu, Sem.run_pure, Result.andThen_ok, Bool.false_eq_true, if_false, hnr, Bool.not_false, if_true, false_or, Sem.run_ite, happ w rfl, hti]
    rw [if_pos hin]
    cases base' with
    | none => simp only [Sem.run_pure, Result.ok.injEq, true_and] at hr; subst hr; rfl
    | some a => simp only at hr; simp only [Sem.run_bind, hr, Result.andThen_ok, Sem.run_pure]
  ·obtain ⟨old', zv, hor, hzr, hnc, hneed, hout⟩ := f2 hin
   have hq : len + n <= (Question.appendCap (len + n) k' e).cut (w.tape w.drawn (Question.appendCap (len + n) k' e)) := by simp [Question.cut]
   generalize hcg : (Question.appendCap (len + n) k' e).cut (w.tape w.drawn (Question.appendCap (len + n) k' e)) = cap at hq
   obtain ⟨ι1, hst, hvr⟩ := hout cap hq
   refine ⟨ι1, _, _, ?_, hvr, hst⟩
   have c1 : ¬ (((len + n : Nat) : Int) > IntKind.i64.max /\ ii.bytes = 0) := by rw [hmax]; omega
   have c2 : ¬ Builtin.nextslicecap (len + n) k' * ii.bytes > 2 ^ 48 := by rw [hpow]; omega
   rcases hdk with rfl | ⟨e2, rfl⟩ <;>
   ·unfold Builtin.append_
    rw [h0, ha0, ha1]
    simp only [Sem.run_bind, hu, Result.andThen_ok, hE.size hye]
    rw [h1]
    simp only [Sem.run_bind, huu, Sem.run_pure, Result.andThen_ok, Bool.false_eq_true, if_false, hnr, Bool.not_false, if_true, false_or, Sem.run_ite, hti]
    rw [if_neg hin, if_neg c1, if_neg c2]
    simp only [run_choose, Question.forced, Bool.false_eq_true, if_false, Result.andThen_ok, hcg, run_askRoom, hd0]
    rw [hor w.drew rfl]
    simp only [Result.andThen_ok]
    rw [happ w.drew rfl]
    simp only [Result.andThen_ok, hzr, Go.newRow, Sem.run_bind, run_newObj, Sem.run_pure, World.alloc_eq]
    rfl
 unfold zerosD at hzd
 split at hzd
 ·rename_i kk hdd
  cases hzd
  unfold sourceV at hsrc
  simp only at hsrc
  split at hsrc
  case h_2 => cases hsrc
  rename_i n0 z ye2 hn0 hzz hye2
  rw [hye] at hye2; cases hye2
  obtain ⟨ki, i, rfl, hi0, hin0⟩ := asNat_spec hn0 hx
  cases hcond : (Nat.ble n0 1048576 && Nat.beq z.length ye.size && Nat.ble (ye.bytes * n0) 281474976710656) with
  | false => rw [hcond] at hsrc; cases hsrc
  | true =>
  rw [hcond] at hsrc; cases hsrc
  rw [Bool.and_eq_true, Bool.and_eq_true] at hcond
  have hle := Nat.le_of_ble_eq_true hcond.1.1
  have hzl := Nat.eq_of_beq_eq_true hcond.1.2
  have hbn := Nat.le_of_ble_eq_true hcond.2
  obtain ⟨_, _, _, _, hzV⟩ := hE.zero hzz w
  have hnl : (repeatCells z n).length = n * ye.size := by rw [repeat_length, hzl]
  obtain ⟨f1, f2⟩ := fin (repeatCells z n) ((hzV ι).repeat n) hnl
  have happ : ∀ w1 : World, (if n * ye.size = 0 then pure #[] else do pure (Builtin.zeroCells (<- zeroValue e).cells n) : Sem (Array Value)).run P w1 = .ok (repeatCells z n).toArray w1 := fun w1 => by
   obtain ⟨zv, hzr, hzc, _, _⟩ := hE.zero hzz w1
   have hsz : zv.cells.size = ye.size := by
    have hq : zv.cells.toList.length = z.length := by rw [hzc]
    rw [Array.length_toList] at hq; omega
   by_cases h0 : n * ye.size = 0
   ·have : repeatCells z n = [] := List.eq_nil_of_length_eq_zero (by omega)
    rw [this, if_pos h0]; rfl
   ·have hne : ye.size ≠ 0 := fun e => h0 (by rw [e]; simp)
    rw [if_neg h0]
    simp only [Sem.run_bind, hzr, Result.andThen_ok, Sem.run_pure]
    congr 1
    apply Array.ext'
    rw [zeroCells_eq _ _ (by omega), hzc]
  have hw := wrap_small (n := i) hi0 (by omega)
  have hneg : ¬ i < 0 := by omega
  have hnb : ¬ i * (ii.bytes : Int) > 2 ^ 48 := by
   have e1 : i = (n : Int) := by omega
   rw [e1, hib]
   have h9 : n * ye.bytes <= 281474976710656 := by rw [Nat.mul_comm]; exact hbn
   have e2 : (2 : Int) ^ 48 = 281474976710656 := by decide
   rw [<- Int.natCast_mul, e2]
   omega
  rw [hdd] at huu
  by_cases hin : len + n <= k'
  ·obtain ⟨ι1, w1, v', hr, rfl, hvr, hst⟩ := f1 hin
   refine ⟨ι1, w1, _, ?_, hvr, hst⟩
   have hr := hr (fun a => storeCells (a.add (len * ye.size)) (repeatCells z n)) (fun _ => rfl)
   unfold Builtin.append_
   rw [h0, ha0, ha1]
   simp only [Sem.run_bind, hu, Result.andThen_ok, hE.size hye]
   rw [h1]
   simp only [Sem.run_bind, huu, Sem.run_pure, Result.andThen_ok, if_true, asInt, asIntOf, Sem.run_ite, hw, hti]
   rw [if_neg hneg, if_neg hnb]
   simp only [hin0]
   rw [if_pos hin]
   have happ' := happ w
   simp only [Sem.run_ite, Sem.run_pure, Sem.run_bind] at happ'
   by_cases hz0 : n * ye.size = 0
   ·have hnil : repeatCells z n = [] := List.eq_nil_of_length_eq_zero (by omega)
    rw [hnil] at hr
    simp only [Bool.not_true, Bool.false_eq_true, if_false, hz0, if_true, Sem.run_pure, Result.andThen_ok]
    cases base' with
    | none => simp only [Sem.run_pure, Result.ok.injEq, true_and] at hr; subst hr; rfl
    | some a => simp only at hr; simp only [Sem.run_bind, hr, Result.andThen_ok, Sem.run_pure]
   ·obtain ⟨zv, hzr, _, _, _⟩ := hE.zero hzz w
    rw [if_neg hz0, hzr] at happ'
    simp only [Result.andThen_ok, Result.ok.injEq, and_true] at happ'
    simp only [Bool.not_true, Bool.false_eq_true, if_false, hz0, hzr, Sem.run_bind, Sem.run_pure, Result.andThen_ok, happ']
    cases base' with
    | none => simp only [Sem.run_pure, Result.ok.injEq, true_and] at hr; subst hr; rfl
    | some a => simp only at hr; simp only [Sem.run_bind, hr, Result.andThen_ok, Sem.run_pure]
  ·obtain ⟨old', zv, hor, hzr, hnc, hneed, hout⟩ := f2 hin
   have hq : len + n <= (Question.appendCap (len + n) k' e).cut (w.tape w.drawn (Question.appendCap (len + n) k' e)) := by simp [Question.cut]
   generalize hcg : (Question.appendCap (len + n) k' e).cut (w.tape w.drawn (Question.appendCap (len + n) k' e)) = cap at hq
   obtain ⟨ι1, hst, hvr⟩ := hout cap hq
   refine ⟨ι1, _, _, ?_, hvr, hst⟩
   have c1 : ¬ (((len + n : Nat) : Int) > IntKind.i64.max /\ (True \/ ii.bytes = 0)) := by rw [hmax]; omega
   have c2 : ¬ Builtin.nextslicecap (len + n) k' * ii.bytes > 2 ^ 48 := by rw [hpow]; omega
   have happ' := happ w.drew
   simp only [Sem.run_ite, Sem.run_pure, Sem.run_bind, hzr, Result.andThen_ok] at happ'
   unfold Builtin.append_
   rw [h0, ha0, ha1]
   simp only [Sem.run_bind, hu, Result.andThen_ok, hE.size hye]
   rw [h1]
   simp only [Sem.run_bind, huu, Sem.run_pure, Result.andThen_ok, if_true, asInt, asIntOf, Sem.run_ite, hw, hti]
   rw [if_neg hneg, if_neg hnb]
   simp only [hin0]
   rw [if_neg hin, if_neg c1, if_neg c2]
   simp only [run_choose, Question.forced, Bool.false_eq_true, if_false, Result.andThen_ok, hcg, run_askRoom, hd0]
   rw [hor w.drew rfl]
   simp only [Result.andThen_ok, Bool.not_true, Bool.false_eq_true, if_false, Sem.run_ite, Sem.run_bind, hzr, Sem.run_pure, happ', Go.newRow, run_newObj, World.alloc_eq]
   rfl
 ·cases hzd; exact plain rfl _ ‹_› (.inr ⟨_, rfl⟩)
 ·cases hzd; exact plain rfl _ ‹_› (.inl rfl)
 ·cases hzd
end
end Go.Am
namespace Go.Am
open Go.RowKit
section
variable {E : Env} {P : Program} {ι : Inj} {m m1 : Mem} {w : World}
theorem ERs.get {l l' : List MapEntry} (h : ERs ι l l') : ∀ {i : Nat} {e : MapEntry}, l[i]? = some e -> ∃ e', l'[i]? = some e' /\ ER ι e e' := by
 induction h with
 | nil => intro i e h; simp at h
 | cons h _ ih =>
  intro i e hi
  cases i with
  | zero => simp at hi; subst hi; exact ⟨_, rfl, h⟩
  | succ i => simpa using ih (by simpa using hi)
theorem ERs.snoc {l l' : List MapEntry} (h : ERs ι l l') {e e' : MapEntry} (he : ER ι e e') : ERs ι (l ++ [e]) (l' ++ [e']) := by
 induction h with
 | nil => exact .cons he .nil
 | cons h _ ih => exact .cons h ih
theorem keyLeaf_bits {x y x' y' : Value} (h : keyLeaf x y = true) (hx : VR ι x x') (hy : VR ι y y') (n : Nat) : Instr.sameBits n x' y' = true := by
 unfold keyLeaf at h
 split at h
 ·split at h
  ·cases hx; cases hy; unfold Instr.sameBits; exact h
  ·cases h
 ·split at h
  ·split at h
   ·rename_i hk
    cases hx; cases hy
    have hk' := of_decide_eq_true hk
    subst hk'
    unfold Instr.sameBits
    simp only [BEq.rfl, Bool.true_and]
    exact h
   ·cases h
  ·cases h
 ·split at h
  ·cases hx; cases hy
   rw [bytesEq_eq] at h
   unfold Instr.sameBits
   rw [beq_toListBytes, ByteArray.toList_eq, ByteArray.toList_eq]
   exact h
  ·cases h
 ·cases h
theorem leavesEq_bits : ∀ {l r l' r' : List Value}, leavesEq l r = true -> VRs ι l l' -> VRs ι r r' -> ∀ n, l'.length = r'.length /\ (l'.zip r').all (fun (x, y) => Instr.sameBits n x y) = true
 | [], r, l', r', h, hl, hr, n => by
  unfold leavesEq at h
  split at h
  ·cases hl; cases hr; exact ⟨rfl, rfl⟩
  ·cases h
 | x :: l, r, l', r', h, hl, hr, n => by
  unfold leavesEq at h
  split at h
  ·rw [Bool.and_eq_true] at h
   cases hl with
   | cons h1 h2 =>
    cases hr with
    | cons h3 h4 =>
     obtain ⟨k1, k2⟩ := leavesEq_bits h.2 h2 h4 n
     refine ⟨by simp [k1], ?_⟩
     simp only [List.zip_cons_cons, List.all_cons, Bool.and_eq_true]
     exact ⟨keyLeaf_bits h.1 h1 h3 n, k2⟩
  ·cases h
theorem keySame_bits {x y x' y' : Value} (h : keySame x y = true) (hx : VR ι x x') (hy : VR ι y y') : Instr.sameBits 10000 x' y' = true := by
 unfold keySame at h
 split at h
 ·split at h
  ·cases hx with
   | agg hx =>
    cases hy with
    | agg hy =>
     obtain ⟨h1, h2⟩ := leavesEq_bits h hx hy 9999
     show Instr.sameBits (9999 + 1) _ _ = true
     unfold Instr.sameBits
     rw [Bool.and_eq_true]
     exact ⟨by simpa using h1, h2⟩
  ·cases h
 ·exact keyLeaf_bits h hx hy 10000
theorem checkKey_leaf (hE : EnvOk E P) {t : Nat} {v : Value} (h : leafKind E t = true) (b : Bool) (n : Nat) (w : World) : (Instr.checkKey b (n + 1) t v).run P w = .ok () w := by
 unfold leafKind at h
 split at h
 ·rename_i y hy
  have hu := hE.und hy w
  unfold Instr.checkKey
  simp only [Sem.run_bind, hu, Result.andThen_ok]
  split at h
  ·rename_i hd; rw [hd]; rfl
  ·rename_i hd; rw [hd]; rfl
  ·rename_i hd; rw [hd]; rfl
  ·cases h
 ·cases h
theorem checkKey_struct (hE : EnvOk E P) {t : Nat} {k k' : Value} {fine : Nat -> Value -> Bool} {b : Bool} {n : Nat} (hfine : ∀ t p p', fine t p = true -> VR ι p p' -> ∀ w, (Instr.checkKey b n t p').run P w = .ok () w)
  (h : keyStruct E fine t k = true) (hk : VR ι k k') (w : World) : (Instr.checkKey b (n + 1) t k').run P w = .ok () w := by
 unfold keyStruct at h
 split at h
 ·rename_i y hy
  have hu := hE.und hy w
  split at h
  ·rename_i fs arr hd
   cases hk with
   | agg hk =>
    rename_i arr'
    show (Instr.checkKey b (n + 1) t (.agg arr')).run P w = _
    unfold Instr.checkKey
    rw [hd] at hu
    simp only [Sem.run_bind, hu, Result.andThen_ok]
    have one : ∀ f : Field, (match partV E f.type arr.toList f.offset with | some p => fine f.type p | none => false) = true -> ∀ w, ((if f.name ≠ "_" then do
       let x <- part f.type arr' f.offset
       Instr.checkKey b n f.type x
       pure (ForInStep.yield PUnit.unit)
      else pure (ForInStep.yield PUnit.unit) : Sem (ForInStep PUnit))).run P w = .ok (.yield PUnit.unit) w := fun f h1 w => by
     split at h1
     ·rename_i p h2
      obtain ⟨p', hp', hpp⟩ := sim_part hE h2 hk
      by_cases hn : f.name = "_"
      ·simp [hn]
      ·simp only [ne_eq, hn, not_false_eq_true, if_true, Sem.run_bind, hp', Result.andThen_ok, hfine _ _ _ h1 hpp w, Sem.run_pure]
     ·cases h1
    have key : ∀ l : List Field, keyParts E fine arr.toList l = true -> ∀ w, (forIn l PUnit.unit (fun f _ => (if f.name ≠ "_" then do
       let x <- part f.type arr' f.offset
       Instr.checkKey b n f.type x
       pure (ForInStep.yield PUnit.unit)
      else pure (ForInStep.yield PUnit.unit) : Sem (ForInStep PUnit)))).run P w = .ok PUnit.unit w := by
     intro l
     induction l with
     | nil => intro _ w; rfl
     | cons f l ih =>
      intro hl w
      simp only [keyParts, Bool.and_eq_true] at hl
      obtain ⟨h1, h3⟩ := hl
      rw [List.forIn_cons, Sem.run_bind, one f h1 w, Result.andThen_ok]
      exact ih h3 w
    rw [<- Array.forIn_toList, key fs.toList h w]
    rfl
  ·cases h
 ·cases h
theorem checkKey_fine1 (hE : EnvOk E P) {t : Nat} {k k' : Value} (h : keyFine1 E t k = true) (hk : VR ι k k') (b : Bool) (n : Nat) (w : World) : (Instr.checkKey b (n + 2) t k').run P w = .ok () w := by
 unfold keyFine1 at h
 split at h
 ·rename_i hl; exact checkKey_leaf hE hl b (n + 1) w
 ·exact checkKey_struct (n := n + 1) hE (fun t p p' h _ w => checkKey_leaf hE h b n w) h hk w
theorem checkKey_ok (hE : EnvOk E P) {t : Nat} {k k' : Value} (h : keyFine E t k = true) (hk : VR ι k k') (b : Bool) (w : World) : (Instr.checkKey b 10000 t k').run P w = .ok () w := by
 unfold keyFine at h
 split at h
 ·rename_i hl; exact checkKey_leaf hE hl b 9999 w
 ·exact checkKey_struct (n := 9999) hE (fun t p p' h hp w => checkKey_fine1 hE h hp b 9997 w) h hk w
def FR (ι : Inj) : Option (Nat × Value) -> Option (Nat × Value) -> Prop
 | none, none => True
 | some (i, v), some (j, v') => i = j /\ VR ι v v'
 | _, _ => False
theorem findNow_ok {kt : Nat} {k k' : Value} {y : Ty} (hy : E.ty kt = some y) (hl : leafKind E kt = true) (hk : VR ι k k') : ∀ {es es' : List MapEntry} {i : Nat} {r : Option (Nat × Value)}, findM E kt k es i = some r -> ERs ι es es' →
  ∃ r', Instr.findNow y.desc k' es' i = some r' /\ FR ι r r'
 | [], _, i, r, h, .nil => by
  unfold findM at h; cases h; exact ⟨none, rfl, trivial⟩
 | e :: es, _, i, r, h, .cons (e' := e') he hs => by
  unfold findM at h
  have hq : ∀ b, aEq E 100 kt k e.key = some b -> Instr.sameNow y.desc k' e'.key = some b := fun b hb => by
   unfold leafKind at hl
   rw [hy] at hl
   unfold aEq at hb
   rw [hy] at hb
   have hek := he.1
   generalize e.key = q at hb hek
   generalize e'.key = q' at hek
   obtain ⟨d, _, _, _, _⟩ := y
   dsimp only at hl hb ⊢
   cases d <;> simp at hl
   ·cases k <;> cases q <;> simp at hb
    cases hk; cases hek; subst hb; rfl
   ·cases k <;> cases q <;> simp at hb
    cases hk; cases hek
    obtain ⟨rfl, rfl⟩ := hb
    simp [Instr.sameNow]
   ·cases k <;> cases q <;> simp at hb
    cases hk; cases hek; subst hb
    simp only [Instr.sameNow, bytesEq_eq]
    congr 1
    rw [beq_toListBytes, ByteArray.toList_eq, ByteArray.toList_eq]
  unfold Instr.findNow
  split at h
  ·rename_i hb
   cases h
   rw [hq _ hb]
   exact ⟨_, rfl, rfl, he.2.1⟩
  ·rename_i hb
   rw [hq _ hb]
   exact findNow_ok hy hl hk h hs
  ·cases h
theorem findAsking_ok (hE : EnvOk E P) {kt : Nat} {k k' : Value} (hk : VR ι k k') : ∀ {es es' : List MapEntry} {i : Nat} {r : Option (Nat × Value)}, findM E kt k es i = some r -> ERs ι es es' →
  ∃ r', (∀ w, (Instr.findAsking kt k' es' i).run P w = .ok r' w) /\ FR ι r r'
 | [], _, i, r, h, .nil => by
  unfold findM at h; cases h; exact ⟨none, fun w => rfl, trivial⟩
 | e :: es, _, i, r, h, .cons (e' := e') he hs => by
  unfold findM at h
  split at h
  ·rename_i hb
   cases h
   refine ⟨some (i, e'.val), fun w => ?_, rfl, he.2.1⟩
   unfold Instr.findAsking
   have := sim_eq (P := P) hE 100 (D := 10000) (by omega) hb hk he.1 w
   have h2 : (Op.equal kt k' e'.key).run P w = .ok true w := this
   simp [Sem.run_bind, h2]
  ·rename_i hb
   obtain ⟨r', h1, h2⟩ := findAsking_ok hE hk h hs
   refine ⟨r', fun w => ?_, h2⟩
   unfold Instr.findAsking
   have := sim_eq (P := P) hE 100 (D := 10000) (by omega) hb hk he.1 w
   have h3 : (Op.equal kt k' e'.key).run P w = .ok false w := this
   simp [Sem.run_bind, h3, h1]
  ·cases h
theorem find_ok (hE : EnvOk E P) {kt : Nat} {k k' : Value} (hf : keyFine E kt k = true) (hk : VR ι k k') {es es' : List MapEntry} {r : Option (Nat × Value)} (h : findM E kt k es 0 = some r) (hs : ERs ι es es') :
  ∃ r', (∀ w, (Instr.findKey kt k' es').run P w = .ok r' w) /\ FR ι r r' := by
 unfold keyFine at hf
 split at hf
 ·rename_i hl
  have : ∃ y, E.ty kt = some y := by
   unfold leafKind at hl
   split at hl
   ·exact ⟨_, by assumption⟩
   ·cases hl
  obtain ⟨y, hy⟩ := this
  obtain ⟨r', h1, h2⟩ := findNow_ok hy hl hk h hs
  refine ⟨r', fun w => ?_, h2⟩
  unfold Instr.findKey
  simp only [Sem.run_bind, hE.und hy w, Result.andThen_ok, h1]
  rfl
 ·unfold keyStruct at hf
  split at hf
  ·rename_i y hy
   split at hf
   ·rename_i fs arr hd
    obtain ⟨r', h1, h2⟩ := findAsking_ok hE hk h hs
    cases hs with
    | nil =>
     unfold findM at h; cases h
     refine ⟨none, fun w => ?_, trivial⟩
     unfold Instr.findKey
     simp only [Sem.run_bind, hE.und hy w, Result.andThen_ok, Instr.findNow]
     rfl
    | cons he hs =>
     refine ⟨r', fun w => ?_, h2⟩
     unfold Instr.findKey
     have hu := hE.und hy w
     rw [hd] at hu
     simp only [Sem.run_bind, hu, Result.andThen_ok, Instr.findNow, Instr.sameNow]
     exact h1 w
   ·cases hf
  ·cases hf
theorem map_run {x x' : Value} (h : Rel E ι m w) (hx : VR ι x x') {es : List MapEntry} (hm : mapOf m x = some es) :
  (x' = .map none /\ es = []) \/ ∃ r es' clock, x' = .map (some r) /\ (getObj r).run P w = .ok (.map es' clock) w /\ ERs ι es es'.toList := by
 unfold mapOf at hm
 split at hm
 ·cases hm; cases hx
  exact .inl ⟨rfl, rfl⟩
 ·rename_i b
  split at hm
  ·rename_i es0 clock hg
   cases hm
   cases hx with
   | mp hb =>
    obtain ⟨es', h1, h2⟩ := h.obj _ _ _ hb hg
    exact .inr ⟨_, es', clock, rfl, by simp [getObj, Sem.run, h1], h2⟩
  ·cases hm
 ·cases hm
theorem zeroVal_ok (hE : EnvOk E P) {t : Nat} {z : Value} (h : zeroVal E t = some z) (w : World) : (zeroValue t).run P w = .ok z w /\ closedV z = true := by
 unfold zeroVal at h
 split at h
 ·rename_i y hy
  obtain ⟨i, hi, _, _, hz, _⟩ := hE.ty t y hy
  obtain ⟨h1, h2⟩ := hz z h
  exact ⟨by simp [zeroValue, typeInfo, hi, h1], h2⟩
 ·cases h
theorem okPair_rel {v v' : Value} (h : VR ι v v') (ok b : Bool) : VR ι (okPair ok v b) (if ok then .tuple #[v', .bool b] else v') := by
 cases ok with
 | true => exact .tuple (.cons h (.cons (.bool _) .nil))
 | false => exact h
theorem sim_lookup (hE : EnvOk E P) (h : Rel E ι m w) {t : Nat} {x x' k k' v : Value} {ok : Bool} (hl : lookupV E m t x k ok = some v) (hx : VR ι x x') (hk : VR ι k k') :
  ∃ v', (Instr.lookup t x' k' ok).run P w = .ok v' w /\ VR ι v v' := by
 unfold lookupV at hl
 split at hl
 case h_2 => cases hl
 rename_i y hy
 have hu := hE.und hy w
 split at hl
 case h_2 => cases hl
 rename_i kt et hd
 rw [hd] at hu
 split at hl
 case h_2 => cases hl
 rename_i es hf hm
 have fin : ∀ (es' : Array MapEntry), ERs ι es es'.toList -> ∃ v', (do
   Instr.checkKey es'.isEmpty 10000 kt k'
   let (v, o) <- match <- Instr.findKey kt k' es'.toList with
    | some (_, v) => pure (v, true)
    | none => pure (<- zeroValue et, false)
   pure (if ok then .tuple #[v, .bool o] else v) : Sem Value).run P w = .ok v' w /\ VR ι v v' := fun es' hes => by
  have hck := checkKey_ok hE hf hk es'.isEmpty w
  split at hl
  ·rename_i i u hfind
   cases hl
   obtain ⟨r', h1, h2⟩ := find_ok hE hf hk hfind hes
   cases r' with
   | none => exact h2.elim
   | some q =>
    obtain ⟨j, u'⟩ := q
    refine ⟨_, ?_, okPair_rel h2.2 ok true⟩
    simp only [Sem.run_bind, hck, Result.andThen_ok, h1 w, Sem.run_pure]
  ·rename_i hfind
   simp only [Option.map_eq_some_iff] at hl
   obtain ⟨z, hz, rfl⟩ := hl
   obtain ⟨hz1, hz2⟩ := zeroVal_ok hE hz w
   obtain ⟨r', h1, h2⟩ := find_ok hE hf hk hfind hes
   cases r' with
   | some q => exact h2.elim
   | none =>
    refine ⟨_, ?_, okPair_rel (VR.closed hz2) ok false⟩
    simp only [Sem.run_bind, hck, Result.andThen_ok, h1 w, hz1, Sem.run_pure]
  ·cases hl
 unfold Instr.lookup
 rcases map_run (P := P) h hx hm with ⟨rfl, rfl⟩ | ⟨r, es', clock, rfl, hgo, hes⟩
 ·obtain ⟨v', h1, h2⟩ := fin #[] .nil
  refine ⟨v', ?_, h2⟩
  simp only [Sem.run_bind, hu, Result.andThen_ok, Sem.run_pure] at h1 ⊢
  exact h1
 ·obtain ⟨v', h1, h2⟩ := fin es' hes
  refine ⟨v', ?_, h2⟩
  simp only [Sem.run_bind, hu, hgo, Result.andThen_ok, Sem.run_pure] at h1 ⊢
  exact h1
theorem sim_makeMap (hE : EnvOk E P) (h : Rel E ι m w) {t : Nat} {r' : Option Value} (ht : isMapT E t = true) (hr : r' = none \/ ∃ k n, r' = some (.int k n)) :
  ∃ ι1 w1 v', (Instr.makeMap t r').run P w = .ok v' w1 /\ VR ι1 (.map (some m.size)) v' /\ Step E ι m w ι1 (m.new (.map [] 0)) w1 := by
 have hb : (w.alloc (.map #[] 0)).heap[w.heap.size]? = some (.map #[] 0) := by show (w.heap.push _)[w.heap.size]? = _; simp
 have hst : Step E ι m w (ι.put m.size ⟨w.heap.size, 0, 0, 0⟩) (m.new (.map [] 0)) (w.alloc (.map #[] 0)) :=
  Step.new h rfl rfl rfl rfl rfl ⟨#[], hb, .nil⟩ (fun _ _ _ _ e => by cases e)
 have hput : (ι.put m.size ⟨w.heap.size, 0, 0, 0⟩) m.size = some ⟨w.heap.size, 0, 0, 0⟩ := by unfold Inj.put; rw [if_pos rfl]
 refine ⟨_, _, .map (some w.heap.size), ?_, VR.mp hput, hst⟩
 unfold Instr.makeMap
 rcases hr with rfl | ⟨k, n, rfl⟩
 ·simp
 ·unfold isMapT at ht
  split at ht
  ·rename_i y hy
   have hu := hE.und hy w
   split at ht
   ·rename_i hd
    rw [hd] at hu
    simp [hu, asInt, asIntOf]
   ·cases ht
  ·cases ht
theorem setEntry_ok {k k' v v' : Value} (hk : VR ι k k') (hv : VR ι v v') : ∀ {es es' : List MapEntry} {i : Nat} {es1 : List MapEntry}, setEntry k v i es = some es1 -> ERs ι es es' →
  ERs ι es1 (es'.modify i fun e => { e with key := k', val := v' }) /\ ∃ e', es'[i]? = some e' /\ Instr.sameBits 10000 e'.key k' = true
 | [], _, i, es1, h, _ => by unfold setEntry at h; cases h
 | e :: r, _, 0, es1, h, .cons (e' := e') he hs => by
  unfold setEntry at h
  split at h
  ·rename_i hq
   cases h
   exact ⟨.cons ⟨hk, hv, he.2.2⟩ hs, e', rfl, keySame_bits hq he.1 hk⟩
  ·cases h
 | e :: r, _, i + 1, es1, h, .cons (e' := e') he hs => by
  unfold setEntry at h
  simp only [Option.map_eq_some_iff] at h
  obtain ⟨r1, h1, rfl⟩ := h
  obtain ⟨k1, k2⟩ := setEntry_ok hk hv h1 hs
  exact ⟨.cons he k1, by simpa using k2⟩
theorem sim_mapPut (hE : EnvOk E P) (h : Rel E ι m w) {t : Nat} {x x' k k' v v' : Value} (hl : mapPutV E m t x k v = some m1) (hx : VR ι x x') (hk : VR ι k k') (hv : VR ι v v') :
  ∃ w1, (Instr.mapUpdate t x' k' v').run P w = .ok () w1 /\ Step E ι m w ι m1 w1 := by
 unfold mapPutV at hl
 split at hl
 case h_2 => cases hl
 rename_i y b hy
 have hu := hE.und hy w
 split at hl
 case h_2 => cases hl
 rename_i kt et es clock hd hg
 rw [hd] at hu
 split at hl
 case h_2 => cases hl
 rename_i hc
 rw [Bool.and_eq_true] at hc
 obtain ⟨hf, hbar⟩ := hc
 cases hx with
 | @mp _ tg hb =>
  obtain ⟨es', h1, hes⟩ := h.obj _ _ _ hb hg
  have hgo : (getObj tg.blk).run P w = .ok (.map es' clock) w := by simp [getObj, Sem.run, h1]
  have htb := (h.dom _ _ hb).2
  have hck := checkKey_ok hE hf hk false w
  have hset : ∀ O : Obj, (setObj tg.blk O).run P w = .ok () (w.putObj tg.blk O) := fun O => by simp [setObj, Sem.run, h1, World.putObj]
  have hup : ∀ (es1 : List MapEntry) (es1' : Array MapEntry) (c1 : Nat), ERs ι es1 es1'.toList -> Step E ι m w ι (m.upd b (some (.map es1 c1))) (w.putObj tg.blk (.map es1' c1)) := fun es1 es1' c1 he =>
   Step.upd h hb hg (fun _ _ _ _ e => by cases e) (fun _ _ _ _ e => by cases e) (Nat.le_of_ble_eq_true hbar) (fun c hc => World.putObj_heap_other hc) World.putObj_size rfl rfl rfl
    ⟨es1', World.putObj_heap_same htb, he⟩
  split at hl
  ·rename_i i u hfind
   simp only [Option.map_eq_some_iff] at hl
   obtain ⟨es1, hs1, rfl⟩ := hl
   obtain ⟨r', g1, g2⟩ := find_ok hE hf hk hfind hes
   cases r' with
   | none => exact g2.elim
   | some q =>
    obtain ⟨j, u'⟩ := q
    have hj : i = j := g2.1
    subst hj
    obtain ⟨q1, e', q2, q3⟩ := setEntry_ok hk hv hs1 hes
    refine ⟨_, ?_, hup es1 (es'.modify i fun e => { e with key := k', val := v' }) clock (by rw [Array.toList_modify]; exact q1)⟩
    have hge : es'[i]? = some e' := by simpa using q2
    unfold Instr.mapUpdate
    simp only [Sem.run_bind, hu, hgo, Result.andThen_ok, hck, g1 w, hge, Option.map_some, Option.getD_some, Instr.keyThatStays, q3, if_true, Sem.run_pure]
    exact hset _
  ·rename_i hfind
   cases hl
   obtain ⟨r', g1, g2⟩ := find_ok hE hf hk hfind hes
   cases r' with
   | some q => exact g2.elim
   | none =>
    refine ⟨_, ?_, hup _ (es'.push { key := k', val := v', born := clock }) (clock + 1) (by rw [Array.toList_push]; exact hes.snoc ⟨hk, hv, rfl⟩)⟩
    unfold Instr.mapUpdate
    simp only [Sem.run_bind, hu, hgo, Result.andThen_ok, hck, g1 w]
    exact hset _
  ·cases hl
end
end Go.Am
namespace Go.Am
open Go.RowKit
section
variable {E : Env} {P : Program} {ι ι1 ι2 : Inj} {m m1 m2 : Mem} {w w1 w2 : World}
theorem ev_rel (h : Rel E ι m w) {tm : Tr Value} {nt : Nat} {a : Act} (hT : TR ι tm nt a.tmps) {x : Operand} (hx : opndOk E.ng x = true) : VR ι (ev tm x) (a.eval x) := by
 cases x with
 | tmp i => exact hT.2 i
 | const v => exact VR.closed hx
 | global g =>
  obtain ⟨t, e, hb, hd⟩ := h.glob g (by simpa [opndOk] using hx)
  have := VR.ptr (ι := ι) 0 e
  rw [hb, hd] at this
  exact this
 | func f => exact VR.fn f .nil .nil
theorem evs_rel (h : Rel E ι m w) {tm : Tr Value} {nt : Nat} {a : Act} (hT : TR ι tm nt a.tmps) : ∀ {l : List Operand}, opndsOk E.ng l = true -> VRs ι (l.map (ev tm)) (l.map a.eval)
 | [], _ => .nil
 | x :: r, hx => by
  simp only [opndsOk, Bool.and_eq_true] at hx
  exact .cons (ev_rel h hT hx.1) (evs_rel h hT hx.2)
theorem opt_rel (h : Rel E ι m w) {tm : Tr Value} {nt : Nat} {a : Act} (hT : TR ι tm nt a.tmps) {x : Option Operand} (hx : optOk E.ng x = true) : OptR ι (x.map (ev tm)) (x.map a.eval) := by
 cases x with
 | none => exact .none
 | some x => exact .some (ev_rel h hT hx)
theorem parts_rel (h : Rel E ι m w) {tm : Tr Value} {nt : Nat} {a : Act} (hT : TR ι tm nt a.tmps) : ∀ {l : List (Nat × Operand)}, opndsOk E.ng (l.map fun p => p.2) = true -> PRs ι (l.map fun p => (p.1, ev tm p.2)) (l.map fun p => (p.1, a.eval p.2))
 | [], _ => .nil
 | p :: r, hx => by
  simp only [List.map_cons, opndsOk, Bool.and_eq_true] at hx
  exact .cons (ev_rel h hT hx.1) (parts_rel h hT hx.2)
def OpEnd (E : Env) (P : Program) (ι : Inj) (m : Mem) (w : World) (o : Oper) (ρ : Operand -> Value) : ANext -> Prop
 | .val v m1 => ∃ ι1 w1 x v', (execOp ρ o).run P w = .ok x w1 /\ (x = .value v' \/ (x = .skip /\ v' = undef)) /\ VR ι1 v v' /\ Step E ι m w ι1 m1 w1
 | .enter f args => ∃ args', VRs ι args args' /\ (execOp ρ o).run P w = (callFunc f args'.toArray).run P w
 | .yield l args => ∃ t args', ι l = some t /\ VRs ι args args' /\ (execOp ρ o).run P w = (Instr.yield t.blk args'.toArray).run P w
theorem OpEnd.pure (h : Rel E ι m w) {o : Oper} {ρ : Operand -> Value} {v v' : Value} (hr : (execOp ρ o).run P w = .ok (.value v') w) (hv : VR ι v v') : OpEnd E P ι m w o ρ (.val v m) :=
 ⟨ι, w, _, v', hr, .inl rfl, hv, Step.refl h⟩
theorem sim_clear (hE : EnvOk E P) (h : Rel E ι m w) {t : Nat} {x x' v : Value} {ats : Array TypeId} {ty : TypeId} {args : Array Value} (hc : clearV E m t x = some (v, m1)) (hx : VR ι x x') (ht : ats[0]? = some t) (ha : args[0]? = some x') :
  ∃ w1 v', (Builtin.clear_ ats ty args).run P w = .ok v' w1 /\ VR ι v v' /\ Step E ι m w ι m1 w1 := by
 unfold clearV at hc
 split at hc
 case h_2 => cases hc
 rename_i y base n k hy
 split at hc
 case h_2 => cases hc
 rename_i e hd
 have hu := hE.und hy w
 rw [hd] at hu
 split at hc
 ·rename_i hn
  cases hc
  have hn0 := Nat.eq_of_beq_eq_true hn
  subst hn0
  refine ⟨w, .tuple #[], ?_, VR.undef, Step.refl h⟩
  unfold Builtin.clear_
  cases hx <;> simp only [ht, ha, Sem.run_bind, hu, Result.andThen_ok] <;> rfl
 ·rename_i hn
  have hn0 : n ≠ 0 := fun e => by subst e; cases hn
  split at hc
  case h_2 => cases hc
  rename_i a ye z hye hz
  simp only [Option.map_eq_some_iff] at hc
  obtain ⟨m2, hm, e2⟩ := hc
  cases e2
  obtain ⟨zv, hzr, hzc, _, hzV⟩ := hE.zero hz w
  have hcells : (Builtin.zeroCells zv.cells n).toList = repeatCells z n := by
   unfold Builtin.zeroCells
   by_cases h0 : zv.cells.size = 0
   ·have hz0 : z = [] := by rw [<- hzc]; exact List.eq_nil_of_length_eq_zero (by simpa using h0)
    rw [h0, hz0]
    have : ∀ n, repeatCells [] n = [] := fun n => by induction n with | zero => rfl | succ n ih => simp [repeatCells, ih]
    simp [this]
   ·rw [zeros_toList _ _ h0, hzc]
  have main : ∀ {bb o : Nat} {tg : Tgt} {c' : Nat}, ι bb = some tg -> m.storeCells ⟨bb, o, none⟩ (repeatCells z n) = some m1 -> x' = .slice (some ⟨tg.blk, tg.dlt + o, none⟩) n c' →
    ∃ w1 v', (Builtin.clear_ ats ty args).run P w = .ok v' w1 /\ VR ι undefV v' /\ Step E ι m w ι m1 w1 := fun {bb o tg c'} hb hm2 hx' => by
   obtain ⟨w1, h1, h2⟩ := store_cells (P := P) h (.ptr o hb) ((hzV ι).repeat n) hm2
   refine ⟨w1, .tuple #[], ?_, VR.undef, h2⟩
   subst hx'
   obtain ⟨n', rfl⟩ : ∃ n', n = n' + 1 := ⟨n - 1, by omega⟩
   unfold Builtin.clear_
   simp only [ht, ha, Sem.run_bind, hu, Result.andThen_ok, hzr, hcells, h1, Sem.run_pure]
  cases hx with
  | sex o _ c hb => exact main hb hm rfl
  | slo o _ c c' hb h4 h5 h6 => exact main hb hm rfl
  | semp => exact absurd rfl hn0
  | sem0 => exact absurd rfl hn0
theorem sim_copy (hE : EnvOk E P) (h : Rel E ι m w) {t : Nat} {d d' s s' v : Value} {ats : Array TypeId} {ty : TypeId} {args : Array Value} (hc : copyV E m t d s = some (v, m1)) (hd : VR ι d d') (hs : VR ι s s') (ht : ats[0]? = some t)
  (ha : args[0]? = some d') (ha1 : args[1]? = some s') : ∃ w1 v', (Builtin.copy_ ats ty args).run P w = .ok v' w1 /\ VR ι v v' /\ Step E ι m w ι m1 w1 := by
 unfold copyV at hc
 split at hc
 case h_2 => cases hc
 rename_i y base dl k sb sl k2 hy
 split at hc
 case h_2 => cases hc
 rename_i e hdd
 split at hc
 case h_2 => cases hc
 rename_i ye hye
 have hu := hE.und hy w
 rw [hdd] at hu
 have hsz := hE.size hye w
 obtain ⟨base', k', rfl⟩ : ∃ base' k', d' = .slice base' dl k' := by cases hd <;> exact ⟨_, _, rfl⟩
 obtain ⟨sb', k2', rfl⟩ : ∃ sb' k2', s' = .slice sb' sl k2' := by cases hs <;> exact ⟨_, _, rfl⟩
 have pre : ∀ (cells : Array Value) (w1 : World), (Builtin.firstCells ye.size (Nat.min sl dl) (.slice sb' sl k2')).run P w = .ok cells w -> (match base' with | some a => storeCells a cells.toList | none => pure () : Sem Unit).run P w = .ok () w1 →
   (Builtin.copy_ ats ty args).run P w = .ok (goInt (Nat.min sl dl : Nat)) w1 := fun cells w1 h1 h2 => by
  unfold Builtin.copy_
  simp only [ht, ha, ha1, Sem.run_bind, hu, Result.andThen_ok, Builtin.lenOf, Sem.run_pure, hsz, h1]
  cases base' with
  | none => simp only [Sem.run_pure] at h2 ⊢; cases h2; rfl
  | some a => simp only at h2 ⊢; rw [Sem.run_bind, h2]; rfl
 split at hc
 ·rename_i hn
  cases hc
  have hn0 := Nat.eq_of_beq_eq_true hn
  refine ⟨w, goInt (Nat.min sl dl : Nat), pre #[] w ?_ ?_, by rw [hn0]; exact .int _ _, Step.refl h⟩
  ·rw [hn0]
   cases sb' <;> simp [Builtin.firstCells, loadCells, loadCellsFrom]
  ·cases base' <;> rfl
 ·rename_i hn
  have hn0 : Nat.min sl dl ≠ 0 := fun e => by rw [e] at hn; cases hn
  have hsl : sl ≠ 0 := fun e => hn0 (by subst e; exact Nat.zero_min dl)
  have hdl : dl ≠ 0 := fun e => hn0 (by subst e; exact Nat.min_zero sl)
  split at hc
  case h_2 => cases hc
  rename_i a b
  split at hc
  case h_2 => cases hc
  rename_i cs hcs
  simp only [Option.map_eq_some_iff] at hc
  obtain ⟨m2, hm, e2⟩ := hc
  cases e2
  obtain ⟨bs, os, ts, hbs, rfl, rfl⟩ : ∃ bs os ts, ι bs = some ts /\ b = ⟨bs, os, none⟩ /\ sb' = some ⟨ts.blk, ts.dlt + os, none⟩ := by
   cases hs with
   | sex o _ c hb => exact ⟨_, _, _, hb, rfl, rfl⟩
   | slo o _ c c' hb h4 h5 h6 => exact ⟨_, _, _, hb, rfl, rfl⟩
   | semp => exact absurd rfl hsl
   | sem0 => exact absurd rfl hsl
  obtain ⟨bd, od, td, hbd, rfl, rfl⟩ : ∃ bd od td, ι bd = some td /\ a = ⟨bd, od, none⟩ /\ base' = some ⟨td.blk, td.dlt + od, none⟩ := by
   cases hd with
   | sex o _ c hb => exact ⟨_, _, _, hb, rfl, rfl⟩
   | slo o _ c c' hb h4 h5 h6 => exact ⟨_, _, _, hb, rfl, rfl⟩
   | semp => exact absurd rfl hdl
   | sem0 => exact absurd rfl hdl
  obtain ⟨hl, cs', hcv, hcell⟩ := load_cells h hbs hcs
  obtain ⟨w1, h1, h2⟩ := store_cells (P := P) h (.ptr od hbd) hcv hm
  refine ⟨w1, _, pre cs'.toArray w1 ?_ h1, .int _ _, h2⟩
  have hlen : cs'.length = Nat.min sl dl * ye.size := by rw [<- hcv.length]; exact hl
  show (loadCells _ (Nat.min sl dl * ye.size)).run P w = _
  rw [<- hlen]
  exact run_loadCells hcell
theorem builtin_sim (hE : EnvOk E P) (h : Rel E ι m w) {b : Builtin} {ats : Array TypeId} {ty : TypeId} {consts : Array Bool} {args : List Value} {args' : Array Value} {v : Value} (hb : builtinV E m b ats.toList args = some (v, m1)) (ha : VRs ι args args'.toList) :
  ∃ ι1 w1 v', (builtin b ats ty consts args').run P w = .ok (.value v') w1 /\ VR ι1 v v' /\ Step E ι m w ι1 m1 w1 := by
 have get0 : ∀ {x : Value} {r : List Value}, args = x :: r -> ∃ x', args'[0]? = some x' /\ VR ι x x' := fun {x r} e => by
  subst e
  obtain ⟨x', e', hr⟩ := ha.get (i := 0) rfl
  exact ⟨x', by simpa using e', hr⟩
 have tget0 : ∀ {t : Nat} {r : List Nat}, ats.toList = t :: r -> ats[0]? = some t := fun {t r} e => by
  have : ats.toList[0]? = some t := by rw [e]; rfl
  simpa using this
 unfold builtinV at hb
 split at hb
 ·rename_i t _ x _ e1
  cases hl : lenV E m t x with
  | none => rw [hl] at hb; cases hb
  | some u =>
   rw [hl] at hb; cases hb
   obtain ⟨x', ex, hx⟩ := get0 rfl
   obtain ⟨hr, hv⟩ := sim_len (P := P) (ty := ty) (args := args') hE h hl hx (tget0 e1) ex
   exact ⟨ι, w, v, by simp [builtin, hr], hv, Step.refl h⟩
 ·rename_i t _ x _ e1
  cases hl : capV E t x with
  | none => rw [hl] at hb; cases hb
  | some u =>
   rw [hl] at hb; cases hb
   obtain ⟨x', ex, hx⟩ := get0 rfl
   obtain ⟨hr, hv⟩ := sim_cap (P := P) (w := w) (ty := ty) (args := args') hE hl hx (tget0 e1) ex
   exact ⟨ι, w, v, by simp [builtin, hr], hv, Step.refl h⟩
 ·rename_i x r
  cases hl : maxV x r with
  | none => rw [hl] at hb; cases hb
  | some u =>
   rw [hl] at hb; cases hb
   cases hargs : args'.toList with
   | nil => rw [hargs] at ha; cases ha
   | cons x' r' =>
    rw [hargs] at ha
    cases ha with
    | cons hx hr =>
     obtain ⟨v', h1, h2⟩ := sim_max (P := P) hl hx hr
     exact ⟨ι, w, v', by simp [builtin, Builtin.max_, hargs, h1], h2, Step.refl h⟩
 ·rename_i x r
  cases hl : minV x r with
  | none => rw [hl] at hb; cases hb
  | some u =>
   rw [hl] at hb; cases hb
   cases hargs : args'.toList with
   | nil => rw [hargs] at ha; cases ha
   | cons x' r' =>
    rw [hargs] at ha
    cases ha with
    | cons hx hr =>
     obtain ⟨v', h1, h2⟩ := sim_min (P := P) hl hx hr
     exact ⟨ι, w, v', by simp [builtin, Builtin.min_, hargs, h1], h2, Step.refl h⟩
 ·rename_i t r s x _ e1
  obtain ⟨s', es, hs⟩ := get0 rfl
  obtain ⟨x', e', hx⟩ := ha.get (i := 1) rfl
  have h1 : ats[1]? = r.head? := by
   have : ats.toList[1]? = r.head? := by rw [e1]; cases r <;> rfl
   simpa using this
  obtain ⟨ι1, w1, v', hr, hv, hst⟩ := sim_append (P := P) (ty := ty) (args := args') hE h hb hs hx (tget0 e1) h1 es (by simpa using e')
  exact ⟨ι1, w1, v', by simp [builtin, hr], hv, hst⟩
 ·rename_i t r x _ e1
  obtain ⟨x', ex, hx⟩ := get0 rfl
  obtain ⟨w1, v', hr, hv, hst⟩ := sim_clear (P := P) (ty := ty) (args := args') hE h hb hx (tget0 e1) ex
  exact ⟨ι, w1, v', by simp [builtin, hr], hv, hst⟩
 ·rename_i t r d s _ e1
  obtain ⟨d', ed, hd⟩ := get0 rfl
  obtain ⟨s', es, hs⟩ := ha.get (i := 1) rfl
  obtain ⟨w1, v', hr, hv, hst⟩ := sim_copy (P := P) (ty := ty) (args := args') hE h hb hd hs (tget0 e1) ed (by simpa using es)
  exact ⟨ι, w1, v', by simp [builtin, hr], hv, hst⟩
 ·cases hb
theorem sim_range (hE : EnvOk E P) (h : Rel E ι m w) {t : Nat} {x x' v : Value} (hr : rangeV E m t x = some (v, m1)) (hx : VR ι x x') :
  ∃ ι1 w1 v', (Instr.range t x').run P w = .ok v' w1 /\ VR ι1 v v' /\ Step E ι m w ι1 m1 w1 := by
 unfold rangeV at hr
 split at hr
 case h_2 => cases hr
 rename_i y hy
 split at hr
 case h_2 => cases hr
 rename_i s hd
 cases hr; cases hx
 have hu := hE.und hy
 rw [hd] at hu
 have hb : (w.alloc (.stringIter s 0)).heap[w.heap.size]? = some (.stringIter s 0) := by show (w.heap.push _)[w.heap.size]? = _; simp
 have hst : Step E ι m w (ι.put m.size ⟨w.heap.size, 0, 0, 0⟩) (m.new (.str s 0)) (w.alloc (.stringIter s 0)) :=
  Step.new h rfl rfl rfl rfl rfl ⟨rfl, hb⟩ (fun _ _ _ _ e => by cases e)
 have hput : (ι.put m.size ⟨w.heap.size, 0, 0, 0⟩) m.size = some ⟨w.heap.size, 0, 0, 0⟩ := by unfold Inj.put; rw [if_pos rfl]
 refine ⟨_, _, .pointer (some ⟨w.heap.size, 0, none⟩), by simp [Instr.range, hu], ?_, hst⟩
 exact VR.ptr 0 hput
theorem sim_next (h : Rel E ι m w) {it it' v : Value} {str : Bool} {ty : TypeId} (hr : nextV m it str = some (v, m1)) (hx : VR ι it it') :
    ∃ w1 v', (Instr.next it' str ty).run P w = .ok v' w1 /\ VR ι v v' /\ Step E ι m w ι m1 w1 := by
  unfold nextV at hr
  split at hr
  case h_2 => cases hr
  rename_i a
  split at hr
  case h_2 => cases hr
  rename_i s pos hg
  cases h0 : (!(Nat.beq a.off 0)) with
  | true => rw [h0] at hr; cases hr
  | false =>
  rw [h0] at hr; simp only [cond_false] at hr
  have ha0 : a.off = 0 := Nat.eq_of_beq_eq_true (by simpa using h0)
  cases hx with
  | @ptr b t o hb =>
  simp only at ha0 hg; subst ha0
  obtain ⟨ht0, hh⟩ := h.obj b t _ hb hg
  have e1 : s.data.toList.length = s.size := Array.length_toList
  have hgo : (getObj t.blk).run P w = .ok (.stringIter s pos) w := by simp [getObj, Sem.run, hh]
  cases hlt : Nat.blt pos s.data.toList.length with
  | true =>
    rw [hlt] at hr; simp only [cond_true] at hr
    have hlt' : pos < s.size := by have : pos < s.data.toList.length := by simpa using hlt
                                   omega
    cases hbar : Nat.ble m.bar b with
    | false => rw [hbar] at hr; cases hr
    | true =>
      rw [hbar] at hr; simp only [cond_true, Option.some.injEq, Prod.mk.injEq] at hr
      obtain ⟨rfl, rfl⟩ := hr
      have hset : (setObj t.blk (.stringIter s (pos + (Utf8.decode s pos).2))).run P w = .ok () (w.putObj t.blk (.stringIter s (pos + (Utf8.decode s pos).2))) := by
        simp [setObj, Sem.run, hh, World.putObj]
      have htb := (h.dom _ _ hb).2
      refine ⟨w.putObj t.blk (.stringIter s (pos + (Utf8.decode s pos).2)), .tuple #[.bool true, goInt pos, .int .i32 (Utf8.decode s pos).1], ?_, ?_, ?_⟩
      · simp only [ht0, Nat.add_zero, Instr.next, Sem.run_bind, hgo, Result.andThen_ok, hlt', if_true, hset, Sem.run_pure]
      · exact .tuple (.cons (.bool _) (.cons (.int _ _) (.cons (.int _ _) .nil)))
      · exact Step.upd h hb hg (fun _ _ _ _ e => by cases e) (fun _ _ _ _ e => by cases e) (Nat.le_of_ble_eq_true hbar) (fun c hc => World.putObj_heap_other hc) World.putObj_size rfl rfl rfl
          ⟨ht0, World.putObj_heap_same htb⟩
  | false =>
    rw [hlt] at hr; simp only [cond_false, Option.some.injEq, Prod.mk.injEq] at hr
    obtain ⟨rfl, rfl⟩ := hr
    have hge : ¬ pos < s.size := by rw [<- e1]; exact of_bltF hlt
    refine ⟨w, .tuple #[.bool false], ?_, .tuple (.cons (.bool _) .nil), Step.refl h⟩
    simp only [ht0, Nat.add_zero, Instr.next, Sem.run_bind, hgo, Result.andThen_ok, hge, if_false, Sem.run_pure]
theorem int_arg' {k : IntKind} {n : Int} {v' : Value} (h : VR ι (.int k n) v') : v' = .int k n := by cases h; rfl
theorem aop_sim (hE : EnvOk E P) (h : Rel E ι m w) {tm : Tr Value} {nt : Nat} {a : Act} (hT : TR ι tm nt a.tmps) {o : Oper} {r : ANext} (ho : opOk E.ng o.op = true) (hr : aop E (ev tm) m o = some r) :
  OpEnd E P ι m w o a.eval r := by
 rw [aop_def] at hr
 cases hop : o.op with
 | move x =>
  rw [hop] at hr ho; cases hr
  exact OpEnd.pure h (by simp [execOp, hop]) (ev_rel h hT ho)
 | assign x =>
  rw [hop] at hr ho; cases hr
  exact OpEnd.pure h (by simp [execOp, hop]) (ev_rel h hT ho)
 | pick c x y =>
  rw [hop] at hr ho
  simp only [opOk, Bool.and_eq_true] at ho
  have hc := ev_rel h hT ho.1
  simp only at hr
  split at hr
  ·rename_i hcv; rw [hcv] at hc; cases hr
   have : a.eval c = .bool true := by cases hce : a.eval c <;> rw [hce] at hc <;> cases hc; rfl
   exact OpEnd.pure h (by simp [execOp, hop, this, asBool]) (ev_rel h hT ho.2.1)
  ·rename_i hcv; rw [hcv] at hc; cases hr
   have : a.eval c = .bool false := by cases hce : a.eval c <;> rw [hce] at hc <;> cases hc; rfl
   exact OpEnd.pure h (by simp [execOp, hop, this, asBool]) (ev_rel h hT ho.2.2)
  ·cases hr
 | alloc e =>
  rw [hop] at hr
  simp only at hr
  split at hr
  ·rename_i z hz
   simp only [newRow, Option.some.injEq] at hr
   subst hr
   obtain ⟨zv, hzr, hzc, _, hzV⟩ := hE.zero hz w
   obtain ⟨hst, hput⟩ := sim_new h (hzV ι) e 0
   refine ⟨_, _, _, .pointer (some ⟨w.heap.size, 0, none⟩), ?_, .inl rfl, VR.ptr 0 hput, hst⟩
   have : zv.cells = z.toArray := by apply Array.ext'; simpa using hzc
   simp [execOp, hop, Instr.alloc, hzr, newVar, Go.newRow, this]
  ·cases hr
 | box e x =>
  rw [hop] at hr ho
  simp only [newRow, Option.some.injEq] at hr
  subst hr
  have hx := (ev_rel h hT ho).cells
  obtain ⟨hst, hput⟩ := sim_new h hx e 0
  refine ⟨_, _, _, .pointer (some ⟨w.heap.size, 0, none⟩), ?_, .inl rfl, VR.ptr 0 hput, hst⟩
  simp [execOp, hop, Instr.box, newVar, Go.newRow]
 | build t parts =>
  rw [hop] at hr ho
  simp only at hr
  cases hb : buildV E t (parts.toList.map fun p => (p.1, ev tm p.2)) with
  | none => rw [hb] at hr; cases hr
  | some v =>
   rw [hb] at hr; cases hr
   obtain ⟨v', h1, h2⟩ := sim_build (P := P) hE hb (parts_rel h hT ho)
   have e1 : (parts.map fun (i, x) => (i, a.eval x)) = (parts.toList.map fun p => (p.1, a.eval p.2)).toArray := by apply Array.ext'; simp
   exact OpEnd.pure h (by simp [execOp, hop, e1, h1]) h2
 | buildSlice t len parts =>
  rw [hop] at hr ho
  simp only at hr
  cases hb : buildSliceV E m t len (parts.toList.map fun p => (p.1, ev tm p.2)) with
  | none => rw [hb] at hr; cases hr
  | some q =>
   obtain ⟨v, m1⟩ := q
   rw [hb] at hr; cases hr
   obtain ⟨ι1, w1, v', h1, h2, h3⟩ := sim_buildSlice (P := P) hE h hb (parts_rel h hT ho)
   have e1 : (parts.map fun (i, x) => (i, a.eval x)) = (parts.toList.map fun p => (p.1, a.eval p.2)).toArray := by apply Array.ext'; simp
   exact ⟨ι1, w1, _, v', by simp [execOp, hop, e1, h1], .inl rfl, h2, h3⟩
 | load t x =>
  rw [hop] at hr ho
  simp only at hr
  have hx := ev_rel h hT ho
  split at hr
  ·rename_i ad had
   rw [had] at hx
   cases hl : loadV E m t ad with
   | none => rw [hl] at hr; cases hr
   | some v =>
    rw [hl] at hr; cases hr
    cases hxe : a.eval x with
    | pointer p =>
     rw [hxe] at hx
     cases p with
     | none => cases hx
     | some a' =>
      obtain ⟨v', h1, h2⟩ := sim_loadVar (P := P) hE h hl hx
      exact OpEnd.pure h (by simp [execOp, hop, hxe, Instr.loadAt, Instr.sureAddr, h1]) h2
    | _ => rw [hxe] at hx; cases hx
  ·cases hr
 | store t x y =>
  rw [hop] at hr ho
  simp only [opOk, Bool.and_eq_true] at ho
  simp only at hr
  have hx := ev_rel h hT ho.1
  have hy := ev_rel h hT ho.2
  split at hr
  ·rename_i ad had
   rw [had] at hx
   cases hl : storeV E m t ad (ev tm y) with
   | none => rw [hl] at hr; cases hr
   | some m1 =>
    rw [hl] at hr; cases hr
    cases hxe : a.eval x with
    | pointer p =>
     rw [hxe] at hx
     cases p with
     | none => cases hx
     | some a' =>
      obtain ⟨w1, h1, h2⟩ := sim_storeVar (P := P) hE h hl hx hy
      exact ⟨ι, w1, _, undef, by simp [execOp, hop, hxe, Instr.storeAt, Instr.sureAddr, h1], .inr ⟨rfl, rfl⟩, VR.undef, h2⟩
    | _ => rw [hxe] at hx; cases hx
  ·cases hr
 | nilCheck x =>
  rw [hop] at hr ho
  simp only at hr
  have hx := ev_rel h hT ho
  split at hr
  ·cases hr
  ·cases hr
  ·cases hr
  ·cases hr
  ·rename_i h1 h2 h3 h4
   cases hr
   refine OpEnd.pure h ?_ hx
   generalize hev : ev tm x = v at *
   generalize hae : a.eval x = v' at *
   cases hx <;> first | (exact absurd rfl h1) | (exact absurd rfl h2) | (exact absurd rfl h3) | (simp [execOp, hop, hae])
 | binOp op t x y yt =>
  rw [hop] at hr ho
  simp only [opOk, Bool.and_eq_true] at ho
  have hx := ev_rel h hT ho.1
  have hy := ev_rel h hT ho.2
  have key : ∀ v, ((op = .eql \/ op = .neq) -> eqFine E t (isConst x) (isConst y) (ev tm x) (ev tm y) = true) -> binV E op t (ev tm x) (ev tm y) = some v -> OpEnd E P ι m w o a.eval (.val v m) := fun v hg hb => by
   obtain ⟨h1, h2⟩ := sim_bin (P := P) hE hb hx hy
   have h3 := sim_guard (P := P) (w := w) (cx := x) (cy := y) hE hg hx hy
   exact OpEnd.pure h (by simp [execOp, hop, h3, h1]) h2
  simp only at hr
  split at hr
  ·cases hg : eqFine E t (isConst x) (isConst y) (ev tm x) (ev tm y) with
   | false => rw [hg] at hr; cases hr
   | true =>
    rw [hg] at hr; simp only [cond_true] at hr
    cases hb : binV E .eql t (ev tm x) (ev tm y) with
    | none => rw [hb] at hr; cases hr
    | some v => rw [hb] at hr; cases hr; exact key v (fun _ => hg) hb
  ·cases hg : eqFine E t (isConst x) (isConst y) (ev tm x) (ev tm y) with
   | false => rw [hg] at hr; cases hr
   | true =>
    rw [hg] at hr; simp only [cond_true] at hr
    cases hb : binV E .neq t (ev tm x) (ev tm y) with
    | none => rw [hb] at hr; cases hr
    | some v => rw [hb] at hr; cases hr; exact key v (fun _ => hg) hb
  ·rename_i n1 n2
   cases hb : binV E op t (ev tm x) (ev tm y) with
   | none => rw [hb] at hr; cases hr
   | some v => rw [hb] at hr; cases hr; exact key v (fun e => (e.elim (fun e => (n1 e).elim) (fun e => (n2 e).elim))) hb
 | unOp op t x =>
  rw [hop] at hr ho
  simp only at hr
  cases hb : unV op (ev tm x) with
  | none => rw [hb] at hr; cases hr
  | some v =>
   rw [hb] at hr; cases hr
   obtain ⟨h1, h2⟩ := sim_un (P := P) hb (ev_rel h hT ho)
   exact OpEnd.pure h (by simp [execOp, hop, h1]) h2
 | convert s d x =>
  rw [hop] at hr ho
  simp only at hr
  cases hb : convV E m s d (ev tm x) with
  | none => rw [hb] at hr; cases hr
  | some q =>
   obtain ⟨v, m1⟩ := q
   rw [hb] at hr; cases hr
   obtain ⟨ι1, w1, v', h1, h2, h3⟩ := sim_conv (P := P) hE h hb (ev_rel h hT ho)
   exact ⟨ι1, w1, _, v', by simp [execOp, hop, h1], .inl rfl, h2, h3⟩
 | makeInterface t x =>
  rw [hop] at hr ho
  simp only at hr
  split at hr
  ·rename_i y hy
   have hu := hE.und hy
   split at hr
   ·cases hr
   ·rename_i hni
    cases hr
    refine OpEnd.pure (v' := .iface t (a.eval x)) h ?_ (.iface t (ev_rel h hT ho))
    simp only [execOp, hop, Instr.makeInterface, Sem.run_bind, hu, Result.andThen_ok]
    cases hd : y.desc <;> first | rfl | exact absurd hd (hni _)
  ·cases hr
 | makeFunc fn first captured =>
  rw [hop] at hr ho
  simp only [opOk, Bool.and_eq_true] at ho
  simp only at hr
  split at hr
  ·rename_i f
   cases hr
   refine OpEnd.pure (v' := .func (.func f) (first.map a.eval) (captured.map a.eval)) h (by simp [execOp, hop, Instr.makeFunc]) (.fn f ?_ ?_)
   ·simpa using evs_rel h hT ho.1
   ·simpa using evs_rel h hT ho.2
  ·cases hr
 | makeSlice t l c =>
  rw [hop] at hr ho
  simp only [opOk, Bool.and_eq_true] at ho
  simp only at hr
  cases hb : makeSliceV E m t (ev tm l) (ev tm c) with
  | none => rw [hb] at hr; cases hr
  | some q =>
   obtain ⟨v, m1⟩ := q
   rw [hb] at hr; cases hr
   obtain ⟨ι1, w1, v', h1, h2, h3⟩ := sim_makeSlice (P := P) hE h hb (ev_rel h hT ho.1) (ev_rel h hT ho.2)
   exact ⟨ι1, w1, _, v', by simp [execOp, hop, h1], .inl rfl, h2, h3⟩
 | slice t x l hi mx =>
  rw [hop] at hr ho
  simp only [opOk, Bool.and_eq_true] at ho
  simp only at hr
  cases hb : sliceV E t (ev tm x) (l.map (ev tm)) (hi.map (ev tm)) (mx.map (ev tm)) with
  | none => rw [hb] at hr; cases hr
  | some v =>
   rw [hb] at hr; cases hr
   obtain ⟨v', h1, h2⟩ := sim_slice (P := P) hE hb (ev_rel h hT ho.1) (opt_rel h hT ho.2.1) (opt_rel h hT ho.2.2.1) (opt_rel h hT ho.2.2.2)
   exact OpEnd.pure h (by simp [execOp, hop, h1]) h2
 | fieldAddr s x f =>
  rw [hop] at hr ho
  simp only at hr
  cases hb : fieldAddrV E s (ev tm x) f with
  | none => rw [hb] at hr; cases hr
  | some v =>
   rw [hb] at hr; cases hr
   obtain ⟨v', h1, h2⟩ := sim_fieldAddr (P := P) hE hb (ev_rel h hT ho)
   exact OpEnd.pure h (by simp [execOp, hop, h1]) h2
 | field s x f =>
  rw [hop] at hr ho
  simp only at hr
  cases hb : fieldV E s (ev tm x) f with
  | none => rw [hb] at hr; cases hr
  | some v =>
   rw [hb] at hr; cases hr
   obtain ⟨v', h1, h2⟩ := sim_field (P := P) hE hb (ev_rel h hT ho)
   exact OpEnd.pure h (by simp [execOp, hop, h1]) h2
 | indexAddr t x i =>
  rw [hop] at hr ho
  simp only [opOk, Bool.and_eq_true] at ho
  simp only at hr
  cases hb : indexAddrV E t (ev tm x) (ev tm i) with
  | none => rw [hb] at hr; cases hr
  | some v =>
   rw [hb] at hr; cases hr
   obtain ⟨v', h1, h2⟩ := sim_indexAddr (P := P) hE hb (ev_rel h hT ho.1) (ev_rel h hT ho.2)
   exact OpEnd.pure h (by simp [execOp, hop, h1]) h2
 | index t x i =>
  rw [hop] at hr ho
  simp only [opOk, Bool.and_eq_true] at ho
  simp only at hr
  cases hb : indexV E t (ev tm x) (ev tm i) with
  | none => rw [hb] at hr; cases hr
  | some v =>
   rw [hb] at hr; cases hr
   obtain ⟨v', h1, h2⟩ := sim_index (P := P) hE hb (ev_rel h hT ho.1) (ev_rel h hT ho.2)
   exact OpEnd.pure h (by simp [execOp, hop, h1]) h2
 | extract t i =>
  rw [hop] at hr ho
  simp only at hr
  have hx := ev_rel h hT ho
  split at hr
  ·rename_i vs hvs
   rw [hvs] at hx
   cases hg : vs.toList[i]? with
   | none => rw [hg] at hr; cases hr
   | some v =>
    rw [hg] at hr; cases hr
    cases hxe : a.eval t with
    | tuple vs' =>
     rw [hxe] at hx
     cases hx with
     | tuple hx =>
      obtain ⟨v', e', hr'⟩ := hx.get hg
      have e2 : vs'[i]? = some v' := by simpa using e'
      exact OpEnd.pure h (by simp [execOp, hop, hxe, Instr.extract, e2]) hr'
    | _ => rw [hxe] at hx; cases hx
  ·cases hr
 | range t x =>
  rw [hop] at hr ho
  simp only at hr
  cases hb : rangeV E m t (ev tm x) with
  | none => rw [hb] at hr; cases hr
  | some q =>
   obtain ⟨v, m1⟩ := q
   rw [hb] at hr; cases hr
   obtain ⟨ι1, w1, v', h1, h2, h3⟩ := sim_range (P := P) hE h hb (ev_rel h hT ho)
   exact ⟨ι1, w1, _, v', by simp [execOp, hop, h1], .inl rfl, h2, h3⟩
 | next it str =>
  rw [hop] at hr ho
  simp only at hr
  cases hb : nextV m (ev tm it) str with
  | none => rw [hb] at hr; cases hr
  | some q =>
   obtain ⟨v, m1⟩ := q
   rw [hb] at hr; cases hr
   obtain ⟨w1, v', h1, h2, h3⟩ := sim_next (P := P) (ty := o.type) h hb (ev_rel h hT ho)
   exact ⟨ι, w1, _, v', by simp [execOp, hop, h1], .inl rfl, h2, h3⟩
 | call c =>
  rw [hop] at hr ho
  simp only [opOk, Bool.and_eq_true] at ho
  have hargs := evs_rel h hT ho.1
  simp only at hr
  split at hr
  ·rename_i b hb
   cases hq : builtinV E m b c.argTypes.toList (c.args.toList.map (ev tm)) with
   | none => rw [hq] at hr; cases hr
   | some q =>
    obtain ⟨v, m1⟩ := q
    rw [hq] at hr; cases hr
    obtain ⟨ι1, w1, v', h1, h2, h3⟩ := builtin_sim (P := P) (ty := o.type) (consts := c.args.map fun | .const _ => true | _ => false) (args' := c.args.map a.eval) hE h hq (by simpa using hargs)
    refine ⟨ι1, w1, _, v', ?_, .inl rfl, h2, h3⟩
    simp only [execOp, hop, resolve, hb, Sem.run_bind, Sem.run_pure, Result.andThen_ok, invoke]
    exact h1
  ·rename_i f hf
   rw [hf] at ho
   have hfv := ev_rel h hT ho.2
   split at hr
   ·rename_i g first captured hev
    cases hr
    rw [hev] at hfv
    cases hfe : a.eval f with
    | func fn' first' captured' =>
     rw [hfe] at hfv
     cases hfv with
     | fn _ h1 h2 =>
      refine ⟨first'.toList ++ (c.args.toList.map a.eval ++ captured'.toList), h1.append (hargs.append h2), ?_⟩
      have e1 : first' ++ c.args.map a.eval ++ captured' = (first'.toList ++ (c.args.toList.map a.eval ++ captured'.toList)).toArray := by apply Array.ext'; simp
      simp only [execOp, hop, resolve, hf, Sem.run_bind, hfe, Deferred.ofValue, Sem.run_pure, Result.andThen_ok, invoke, e1]
    | _ => rw [hfe] at hfv; cases hfv
   ·rename_i l first captured hev
    cases hr
    rw [hev] at hfv
    cases hfe : a.eval f with
    | func fn' first' captured' =>
     rw [hfe] at hfv
     cases hfv with
     | @yld _ t hl =>
      refine ⟨t, c.args.toList.map a.eval, hl, by simpa using hargs, ?_⟩
      have e1 : #[] ++ c.args.map a.eval = (c.args.toList.map a.eval).toArray := by apply Array.ext'; simp
      simp only [execOp, hop, resolve, hf, Sem.run_bind, hfe, Deferred.ofValue, Sem.run_pure, Result.andThen_ok, invoke, e1]
    | _ => rw [hfe] at hfv; cases hfv
   ·cases hr
  ·cases hr
 | makeMap t r =>
  rw [hop] at hr ho
  simp only at hr
  split at hr
  ·rename_i ht
   have key : ∀ r' : Option Value, (r.map a.eval = r') -> (r' = none \/ ∃ k n, r' = some (.int k n)) -> OpEnd E P ι m w o a.eval (.val (.map (some m.size)) (m.new (.map [] 0))) := fun r' e hr' => by
    obtain ⟨ι1, w1, v', h1, h2, h3⟩ := sim_makeMap (P := P) hE h ht hr'
    exact ⟨ι1, w1, _, v', by simp [execOp, hop, e, h1], .inl rfl, h2, h3⟩
   split at hr
   ·cases hr; exact key none rfl (.inl rfl)
   ·rename_i x
    split at hr
    ·rename_i kk n he
     cases hr
     have hv := ev_rel h hT (x := x) ho
     rw [he] at hv
     exact key _ rfl (.inr ⟨kk, n, by simp [int_arg' hv]⟩)
    ·cases hr
  ·cases hr
 | lookup t x k ok =>
  rw [hop] at hr ho
  simp only [opOk, Bool.and_eq_true] at ho
  simp only at hr
  cases hb : lookupV E m t (ev tm x) (ev tm k) ok with
  | none => rw [hb] at hr; cases hr
  | some v =>
   rw [hb] at hr; cases hr
   obtain ⟨v', h1, h2⟩ := sim_lookup (P := P) hE h hb (ev_rel h hT ho.1) (ev_rel h hT ho.2)
   exact OpEnd.pure h (by simp [execOp, hop, h1]) h2
 | mapUpdate t x k v =>
  rw [hop] at hr ho
  simp only [opOk, Bool.and_eq_true] at ho
  simp only at hr
  cases hb : mapPutV E m t (ev tm x) (ev tm k) (ev tm v) with
  | none => rw [hb] at hr; cases hr
  | some m1 =>
   rw [hb] at hr; cases hr
   obtain ⟨w1, h1, h2⟩ := sim_mapPut (P := P) hE h hb (ev_rel h hT ho.1) (ev_rel h hT ho.2.1) (ev_rel h hT ho.2.2)
   exact ⟨ι, w1, _, undef, by simp [execOp, hop, h1], .inr ⟨rfl, rfl⟩, VR.undef, h2⟩
 | insert t x k v =>
  rw [hop] at hr ho
  simp only [opOk, Bool.and_eq_true] at ho
  simp only at hr
  cases hb : mapPutV E m t (ev tm x) (ev tm k) (ev tm v) with
  | none => rw [hb] at hr; cases hr
  | some m1 =>
   rw [hb] at hr; cases hr
   obtain ⟨w1, h1, h2⟩ := sim_mapPut (P := P) hE h hb (ev_rel h hT ho.1) (ev_rel h hT ho.2.1) (ev_rel h hT ho.2.2)
   exact ⟨ι, w1, _, undef, by simp [execOp, hop, h1], .inr ⟨rfl, rfl⟩, VR.undef, h2⟩
 | _ => rw [hop] at hr; cases hr
end
end Go.Am