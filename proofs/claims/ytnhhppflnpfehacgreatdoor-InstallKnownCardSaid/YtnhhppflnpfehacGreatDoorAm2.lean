/- The deterministic abstract machine: its memory, values and operations. Plain definitions; nothing is assumed. -/
import Derived.Test.YtnhhppflnpfehacGreatDoorAm1
set_option linter.unusedVariables false
namespace Go.Am

/-! ### Memory -/
/-- A row of cells may be: read only; written; claimed (another row may share its array: it is read, never written). -/
inductive Md where
  | ro | rw | cl
  deriving DecidableEq

inductive AObj where
  /-- 'es': the cells of an element, where slices of the row may grow; 'prev': the row that this one was appended to, while both may share one array -/
  | row (cells : List Value) (md : Md) (es : Nat) (prev : Option Nat)
  | loop (st : LoopState) (pending : Option Code) (tm : Tr Value) (nt : Nat) (params : List Tmp) (assign body : Code) (df : Nat)
  | mark
  | map (es : List MapEntry) (clock : Nat)
  | str (s : ByteArray) (pos : Nat)

structure Mem where
  base : Nat → Option AObj
  nb : Nat
  tree : Tr AObj
  size : Nat
  bar : Nat

noncomputable def Mem.get (m : Mem) (b : Nat) : Option AObj := match m with | ⟨base, nb, tree, _, _⟩ => bif Nat.blt b nb then base b else tree.at (Nat.sub b nb)
noncomputable def Mem.new (m : Mem) (o : AObj) : Mem := match m with | ⟨base, nb, tree, size, bar⟩ => ⟨base, nb, tree.put (Nat.sub size nb) (some o), Nat.succ size, bar⟩
noncomputable def Mem.upd (m : Mem) (b : Nat) (o : Option AObj) : Mem := match m with | ⟨base, nb, tree, size, bar⟩ => ⟨base, nb, tree.put (Nat.sub b nb) o, size, bar⟩
theorem Mem.get_def (m : Mem) (b : Nat) : m.get b = bif Nat.blt b m.nb then m.base b else m.tree.at (b - m.nb) := by cases m; rfl
theorem Mem.new_def (m : Mem) (o : AObj) : m.new o = { m with tree := m.tree.put (m.size - m.nb) (some o), size := m.size + 1 } := by cases m; rfl
theorem Mem.upd_def (m : Mem) (b : Nat) (o : Option AObj) : m.upd b o = { m with tree := m.tree.put (b - m.nb) o } := by cases m; rfl

/-! ### The program, as the machine looks it up -/
structure Ty where
  desc : TypeDesc
  size : Nat
  bytes : Nat
  zero : Option Value
  cmp : Bool

structure Fun where
  ntmps : Nat
  results : List ResultVar
  body : Code

structure Env where
  /-- how many package-level variables there are -/
  ng : Nat
  ty : Nat → Option Ty
  fn : Nat → Option Fun
  /-- functions that are not entered -/
  ext : Nat → Option (List Value → Mem → Option (Value × Mem))
  /-- may two values of this aggregate type be compared as they are? -/
  plainEq : Nat → Bool

/-! ### Cells -/
noncomputable def isAgg : TypeDesc → Bool
  | .struct _ | .array _ _ => true
  | _ => false

noncomputable def Mem.cells (m : Mem) (a : Addr) (n : Nat) : Option (List Value) :=
  match m.get a.block with
  | some (.row cs _ _ _) => bif Nat.ble (a.off + n) cs.length then some ((cs.drop a.off).take n) else none
  | _ => none

noncomputable def Mem.cell (m : Mem) (a : Addr) : Option Value :=
  match m.get a.block with
  | some (.row cs _ _ _) => cs[a.off]?
  | _ => none

noncomputable def Mem.kill : Nat → Mem → Option Nat → Option Mem
  | _, m, none => some m
  | 0, _, some _ => none
  | k + 1, m, some p =>
    match m.get p with
    | some (.row _ .cl _ q) => bif Nat.ble m.bar p then Mem.kill k (m.upd p none) q else none
    | none => some m
    | _ => none

noncomputable def overK (vs : List Value) : List Value → List Value :=
  List.rec (motive := fun _ => List Value → List Value) (fun cs => List.rec (motive := fun _ => List Value) [] (fun c t _ => c :: t) cs) (fun v _ ih cs => List.rec (motive := fun _ => List Value) [] (fun _ t _ => v :: ih t) cs) vs
/-- Cells from off on give way. -/
noncomputable def splice (cs : List Value) (off : Nat) (vs : List Value) : List Value :=
  Nat.rec (motive := fun _ => List Value → List Value) (fun cs => overK vs cs) (fun _ ih cs => List.rec (motive := fun _ => List Value) [] (fun c t _ => c :: ih t) cs) off cs
theorem overK_nil (cs : List Value) : overK [] cs = cs := by cases cs <;> rfl
theorem overK_cons (v c : Value) (vs cs : List Value) : overK (v :: vs) (c :: cs) = v :: overK vs cs := rfl
theorem splice_zero (cs vs : List Value) : splice cs 0 vs = overK vs cs := rfl
theorem splice_succ (c : Value) (cs : List Value) (off : Nat) (vs : List Value) : splice (c :: cs) (off + 1) vs = c :: splice cs off vs := rfl

noncomputable def allOne : List Value → Bool
  | [] => true
  | .agg _ :: _ => false
  | .tuple _ :: _ => false
  | _ :: r => allOne r

noncomputable def Mem.storeCells (m : Mem) (a : Addr) (vs : List Value) : Option Mem :=
  match m.get a.block with
  | some (.row cs .rw es prev) =>
    bif Nat.ble m.bar a.block && Nat.ble (a.off + vs.length) cs.length && allOne vs then
      (m.kill m.size prev).map fun m1 => m1.upd a.block (some (.row (splice cs a.off vs) .rw es none))
    else none
  | _ => none

noncomputable def addr (b : Nat) (o : Nat) : Addr := ⟨b, o, none⟩

noncomputable def loadV (E : Env) (m : Mem) (t : Nat) (a : Addr) : Option Value :=
  match E.ty t with
  | some y => match isAgg y.desc with
    | true => (m.cells a y.size).map fun cs => .agg cs.toArray
    | false => m.cell a
  | none => none

noncomputable def storeV (E : Env) (m : Mem) (t : Nat) (a : Addr) (v : Value) : Option Mem :=
  match E.ty t with
  | some y => bif Nat.beq v.cells.toList.length y.size then m.storeCells a v.cells.toList else none
  | none => none

/-- A capacity: known (2 c), or known from below, elements of es cells. -/
noncomputable def loCap (c es : Nat) : Nat := 2 * (c * 4096 + es) + 1
noncomputable def capOf (k : Nat) : Nat := bif Nat.beq (k % 2) 0 then k / 2 else k / 2 / 4096
noncomputable def esOf (k : Nat) : Nat := k / 2 % 4096

noncomputable def undefV : Value := .tuple #[]

noncomputable def ev (t : Tr Value) : Operand → Value
  | .tmp i => match t.at i with | some v => v | none => undefV
  | .const v => v
  | .global g => .pointer (some ⟨g, 0, none⟩)
  | .func f => .func (.func f) #[] #[]

/-! ### Operations -/
inductive ANext where
  | val (v : Value) (m : Mem)
  | enter (f : Nat) (args : List Value)
  | yield (l : Nat) (args : List Value)

noncomputable def zeroOf (E : Env) (t : Nat) : Option (List Value) :=
  match E.ty t with
  | some y => match y.zero with | some v => some v.cells.toList | none => none
  | none => none

/-- What a new row holds at first: the zero again and again. -/
noncomputable def repeatCells (z : List Value) : Nat → List Value
  | 0 => []
  | n + 1 => z ++ repeatCells z n

noncomputable def newRow (m : Mem) (cs : List Value) (es : Nat) : Addr × Mem := (addr m.size 0, m.new (.row cs .rw es none))

/-- List of the places of a struct's fields. -/
noncomputable def fieldPlaces (E : Env) : List Field → Option (List (Nat × Nat))
  | [] => some []
  | f :: r => match E.ty f.type, fieldPlaces E r with
    | some y, some l => some ((f.offset, y.size) :: l)
    | _, _ => none

noncomputable def setCells (cs : List Value) (off : Nat) : List Value → List Value
  | [] => cs
  | v :: r => setCells (cs.set off v) (off + 1) r

noncomputable def fillL (place : Nat → Option (Nat × Nat)) (cells : List Value) : List (Nat × Value) → Option (List Value)
  | [] => some cells
  | (i, v) :: rest =>
    match place i with
    | none => none
    | some (off, size) =>
      bif Nat.beq v.cells.toList.length size && Nat.ble (off + v.cells.toList.length) cells.length then
        fillL place (setCells cells off v.cells.toList) rest
      else none

noncomputable def buildV (E : Env) (t : Nat) (parts : List (Nat × Value)) : Option Value :=
  match E.ty t, zeroOf E t with
  | some y, some z =>
    match y.desc with
    | .struct fields => match fieldPlaces E fields.toList with
      | some ps => (fillL (fun i => ps[i]?) z parts).map fun cs => .agg cs.toArray
      | none => none
    | .array _ e => match E.ty e with
      | some ye => (fillL (fun i => some (i * ye.size, ye.size)) z parts).map fun cs => .agg cs.toArray
      | none => none
    | _ => none
  | _, _ => none

noncomputable def buildSliceV (E : Env) (m : Mem) (t len : Nat) (parts : List (Nat × Value)) : Option (Value × Mem) :=
  match E.ty t with
  | some y => match y.desc with
    | .slice e => match E.ty e, zeroOf E e with
      | some ye, some z =>
        bif Nat.ble (len * ye.size) 16777216 && Nat.beq z.length ye.size then
          match fillL (fun i => some (i * ye.size, ye.size)) (repeatCells z len) parts with
          | some cs => match newRow m cs ye.size with
            | (a, m1) => some (.slice (some a) len (2 * len), m1)
          | none => none
        else none
      | _, _ => none
    | _ => none
  | none => none

noncomputable def partV (E : Env) (t : Nat) (cs : List Value) (off : Nat) : Option Value :=
  match E.ty t with
  | some y => match isAgg y.desc with
    | true => some (.agg ((cs.drop off).take y.size).toArray)
    | false => cs[off]?
  | none => none

noncomputable def bytesEq : List UInt8 → List UInt8 → Bool
  | [], [] => true
  | a :: x, b :: y => Nat.beq a.toNat b.toNat && bytesEq x y
  | _, _ => false

noncomputable def bytesLt : List UInt8 → List UInt8 → Bool
  | _, [] => false
  | [], _ :: _ => true
  | a :: x, b :: y => Nat.blt a.toNat b.toNat || (Nat.beq a.toNat b.toNat && bytesLt x y)

/-- '==' field by field. -/
noncomputable def eqFields (E : Env) (eq : Nat → Value → Value → Option Bool) (xs ys : List Value) : List Field → Option Bool
  | [] => some true
  | f :: r =>
    if f.name = "_" then eqFields E eq xs ys r else
    match partV E f.type xs f.offset, partV E f.type ys f.offset with
    | some p, some q =>
      match eq f.type p q with
      | some true => eqFields E eq xs ys r
      | some false => some false
      | none => none
    | _, _ => none

/-- '==' of two values of a type. -/
noncomputable def aEq (E : Env) : Nat → Nat → Value → Value → Option Bool
  | 0, _, _, _ => none
  | d + 1, t, x, y =>
    match E.ty t with
    | none => none
    | some ty =>
      match ty.desc, x, y with
      | .bool, .bool a, .bool b => some (a == b)
      | .int _, .int k a, .int k' b => if k = k' then some (a == b) else none
      | .string, .string a, .string b => some (bytesEq a.data.toList b.data.toList)
      | .pointer _, .pointer none, .pointer b => some b.isNone
      | .pointer _, .pointer (some _), .pointer none => some false
      | .pointer e, .pointer (some a), .pointer (some b) =>
        match E.ty e with
        | some ye => bif !(Nat.beq ye.size 0) && Nat.beq a.block b.block then some (Nat.beq a.off b.off) else none
        | none => none
      | .interface _, .nilIface, .nilIface => some true
      | .interface _, .nilIface, .iface _ _ => some false
      | .interface _, .iface _ _, .nilIface => some false
      | .interface _, .iface tx vx, .iface ty2 vy =>
        bif Nat.beq tx ty2 then
          match E.ty tx with
          | some yx => match yx.cmp with
            | true => aEq E d tx vx vy
            | false => none
          | none => none
        else some false
      | .struct fields, .agg xs, .agg ys =>
        match E.plainEq t with
        | true => eqFields E (aEq E d) xs.toList ys.toList fields.toList
        | false => none
      | .slice _, .slice none _ _, .slice b _ _ => some b.isNone
      | .slice _, .slice (some _) _ _, .slice none _ _ => some false
      | .map _ _, .map none, .map b => some b.isNone
      | .map _ _, .map (some _), .map none => some false
      | .func _ _ _, .nilFunc, .nilFunc => some true
      | .func _ _ _, .nilFunc, .func _ _ _ => some false
      | .func _ _ _, .func _ _ _, .nilFunc => some false
      | _, _, _ => none

/-- The guard ahead of '==': values whose comparing the model does not speak of. -/
noncomputable def eqFine (E : Env) (t : Nat) (cx cy : Bool) : Value → Value → Bool
  | .nilIface, .nilIface => cx || cy
  | .agg _, .agg _ => E.plainEq t
  | _, _ => true

noncomputable def isConst : Operand → Bool
  | .const _ => true
  | _ => false

noncomputable def intBin (op : BinOp) (k : IntKind) (a b : Int) : Option Value :=
  match op with
  | .add => some (.int k (k.wrap (a + b)))
  | .sub => some (.int k (k.wrap (a - b)))
  | .mul => some (.int k (k.wrap (a * b)))
  | .quo => if b = 0 then none else some (.int k (k.wrap (a.tdiv b)))
  | .rem => if b = 0 then none else some (.int k (a.tmod b))
  | .and => some (.int k (k.wrap (BitVec.ofInt k.bits a &&& BitVec.ofInt k.bits b).toNat))
  | .or => some (.int k (k.wrap (BitVec.ofInt k.bits a ||| BitVec.ofInt k.bits b).toNat))
  | .xor => some (.int k (k.wrap (BitVec.ofInt k.bits a ^^^ BitVec.ofInt k.bits b).toNat))
  | .andNot => some (.int k (k.wrap (BitVec.ofInt k.bits a &&& ~~~BitVec.ofInt k.bits b).toNat))
  | .eql => some (.bool (a == b))
  | .neq => some (.bool (a != b))
  | .lss => some (.bool (decide (a < b)))
  | .leq => some (.bool (decide (a ≤ b)))
  | .gtr => some (.bool (decide (a > b)))
  | .geq => some (.bool (decide (a ≥ b)))
  | _ => none

noncomputable def strBin (op : BinOp) (a b : ByteArray) : Option Value :=
  match op with
  | .add => if ((a.data.toList.length + b.data.toList.length : Nat) : Int) > IntKind.i64.max then none else some (.string ⟨(a.data.toList ++ b.data.toList).toArray⟩)
  | .eql => some (.bool (bytesEq a.data.toList b.data.toList))
  | .neq => some (.bool (!bytesEq a.data.toList b.data.toList))
  | .lss => some (.bool (bytesLt a.data.toList b.data.toList))
  | .leq => some (.bool (bytesLt a.data.toList b.data.toList || bytesEq a.data.toList b.data.toList))
  | .gtr => some (.bool (!(bytesLt a.data.toList b.data.toList || bytesEq a.data.toList b.data.toList)))
  | .geq => some (.bool (!bytesLt a.data.toList b.data.toList))
  | _ => none

noncomputable def shiftV (op : BinOp) (k : IntKind) (a b : Int) : Option Value :=
  if b < 0 then none else
  match op with
  | .shl => some (.int k (k.wrap (a * 2 ^ min b.toNat k.bits)))
  | .shr => some (.int k (a.fdiv (2 ^ min b.toNat k.bits)))
  | _ => none

noncomputable def binV (E : Env) (op : BinOp) (t : Nat) (x y : Value) : Option Value :=
  match op, x, y with
  | .shl, .int k a, .int _ b => shiftV .shl k a b
  | .shr, .int k a, .int _ b => shiftV .shr k a b
  | op, .int k a, .int k' b => if k = k' then intBin op k a b else none
  | op, .string a, .string b => strBin op a b
  | .eql, x, y => (aEq E 100 t x y).map fun r => .bool r
  | .neq, x, y => (aEq E 100 t x y).map fun r => .bool (!r)
  | _, _, _ => none

noncomputable def unV (op : UnOp) (x : Value) : Option Value :=
  match op, x with
  | .neg, .int k n => some (.int k (k.wrap (0 - n)))
  | .xor, .int k n => intBin .xor k (if k.signed then -1 else k.max) n
  | .not, .bool b => some (.bool (!b))
  | _, _ => none

noncomputable def byteCells : List UInt8 → List Value
  | [] => []
  | b :: r => .int .u8 b.toNat :: byteCells r

noncomputable def cellsBytes : List Value → Option (List UInt8)
  | [] => some []
  | .int .u8 n :: r => (cellsBytes r).map fun l => UInt8.ofNat n.toNat :: l
  | _ :: _ => none

noncomputable def convV (E : Env) (m : Mem) (src dst : Nat) (x : Value) : Option (Value × Mem) :=
  match E.ty src, E.ty dst with
  | some s, some d =>
    match s.desc, d.desc, x with
    | _, .int k, .int _ n => some (.int k (k.wrap n), m)
    | _, .string, .string s => some (.string s, m)
    | _, .slice e, .string s => match E.ty e with
      | some ye => match ye.desc with
        | .int .u8 => match newRow m (byteCells s.data.toList) 1 with
          | (a, m1) => some (.slice (some a) s.data.toList.length (loCap s.data.toList.length 1), m1)
        | _ => none
      | none => none
    | .slice e, .string, .slice none _ _ => match E.ty e with
      | some ye => match ye.desc with
        | .int .u8 => some (.string ⟨#[]⟩, m)
        | _ => none
      | none => none
    | .slice e, .string, .slice (some a) n _ => match E.ty e with
      | some ye => match ye.desc with
        | .int .u8 => match m.cells a n with
          | some cs => (cellsBytes cs).map fun l => (.string ⟨l.toArray⟩, m)
          | none => bif Nat.beq n 0 then some (.string ⟨#[]⟩, m) else none
        | _ => none
      | none => none
    | _, _, _ => none
  | _, _ => none

noncomputable def asNat? : Value → Option Nat
  | .int _ n => if 0 ≤ n then some n.toNat else none
  | _ => none

noncomputable def makeSliceV (E : Env) (m : Mem) (t : Nat) (l c : Value) : Option (Value × Mem) :=
  match E.ty t, l, c with
  | some y, .int _ l, .int _ c => match y.desc with
    | .slice e => match E.ty e, zeroOf E e with
      | some ye, some z =>
        if 0 ≤ l ∧ l ≤ c ∧ c ≤ 4611686018427387904 ∧ (ye.bytes : Int) * c ≤ 281474976710656 ∧ z.length = ye.size then
          match newRow m (repeatCells z c.toNat) ye.size with
          | (a, m1) => some (.slice (some a) l.toNat (2 * c.toNat), m1)
        else none
      | _, _ => none
    | _ => none
  | _, _, _ => none

/-- low, high, max of a slice expression; lo: is the capacity just known from below? -/
noncomputable def boundsV (len cap : Nat) (low high max : Option Value) : Option (Nat × Nat × Nat) :=
  match max with
  | some mv => match asNat? mv, high with
    | some mx, some hv => match asNat? hv with
      | some h => match low with
        | some lv => match asNat? lv with
          | some l => bif Nat.ble mx cap && Nat.ble h mx && Nat.ble l h then some (l, h, mx) else none
          | none => none
        | none => bif Nat.ble mx cap && Nat.ble h mx then some (0, h, mx) else none
      | none => none
    | _, _ => none
  | none =>
    match (match high with | some hv => asNat? hv | none => some len) with
    | some h => match low with
      | some lv => match asNat? lv with
        | some l => bif Nat.ble h cap && Nat.ble l h then some (l, h, cap) else none
        | none => none
      | none => bif Nat.ble h cap then some (0, h, cap) else none
    | none => none

noncomputable def addOff (a : Addr) (n : Nat) : Addr := ⟨a.block, a.off + n, a.spot⟩

noncomputable def sliceV (E : Env) (t : Nat) (x : Value) (low high max : Option Value) : Option Value :=
  match E.ty t with
  | none => none
  | some y =>
    match y.desc, x with
    | .string, .string s => match max with
      | some _ => none
      | none => (boundsV s.data.toList.length s.data.toList.length low high none).map fun r => .string ⟨((s.data.toList.drop r.1).take (r.2.1 - r.1)).toArray⟩
    | .slice e, .slice a len k => match E.ty e with
      | some ye =>
        match boundsV len (capOf k) low high max with
        | some (l, h, mx) =>
          match a with
          | none => some (.slice none (h - l) (2 * (mx - l)))
          | some a =>
            match max, Nat.beq (k % 2) 0 with
            | none, false => bif Nat.beq (esOf k) ye.size then some (.slice (some (addOff a (l * ye.size))) (h - l) (loCap (mx - l) ye.size)) else none
            | _, _ => some (.slice (some (bif Nat.beq mx l then a else addOff a (l * ye.size))) (h - l) (2 * (mx - l)))
        | none => none
      | none => none
    | .array n e, .pointer (some a) => match E.ty e with
      | some ye =>
        match boundsV n n low high max with
        | some (l, h, mx) => some (.slice (some (bif Nat.beq mx l then a else addOff a (l * ye.size))) (h - l) (2 * (mx - l)))
        | none => none
      | none => none
    | _, _ => none

noncomputable def fieldAddrV (E : Env) (s : Nat) (x : Value) (f : Nat) : Option Value :=
  match E.ty s, x with
  | some y, .pointer (some a) => match y.desc with
    | .struct fields => match fields.toList[f]? with
      | some fd => match E.ty fd.type with
        | some yf => bif Nat.beq yf.size 0 then none else some (.pointer (some (addOff a fd.offset)))
        | none => none
      | none => none
    | _ => none
  | _, _ => none

noncomputable def fieldV (E : Env) (t : Nat) (x : Value) (f : Nat) : Option Value :=
  match E.ty t, x with
  | some y, .agg cs => match y.desc with
    | .struct fields => match fields.toList[f]? with
      | some fd => partV E fd.type cs.toList fd.offset
      | none => none
    | _ => none
  | _, _ => none

noncomputable def indexAddrV (E : Env) (t : Nat) (x i : Value) : Option Value :=
  match E.ty t, asNat? i with
  | some y, some i => match y.desc, x with
    | .slice e, .slice (some a) len _ => match E.ty e with
      | some ye => bif Nat.blt i len then some (.pointer (some (addOff a (i * ye.size)))) else none
      | none => none
    | .array n e, .pointer (some a) => match E.ty e with
      | some ye => bif Nat.blt i n then some (.pointer (some (addOff a (i * ye.size)))) else none
      | none => none
    | _, _ => none
  | _, _ => none

noncomputable def indexV (E : Env) (t : Nat) (x i : Value) : Option Value :=
  match E.ty t, asNat? i with
  | some y, some i => match y.desc, x with
    | .array n e, .agg cs => match E.ty e with
      | some ye => bif Nat.blt i n then partV E e cs.toList (i * ye.size) else none
      | none => none
    | .string, .string s => match s.data.toList[i]? with
      | some b => some (.int .u8 b.toNat)
      | none => none
    | _, _ => none
  | _, _ => none

/-! ### Built-in functions -/
noncomputable def lenV (E : Env) (m : Mem) (t : Nat) (x : Value) : Option Value :=
  match E.ty t with
  | none => none
  | some y =>
    match y.desc, x with
    | .string, .string s => some (.int .i64 s.data.toList.length)
    | .array n _, _ => some (.int .i64 n)
    | .slice _, .slice _ n _ => some (.int .i64 n)
    | .map _ _, .map none => some (.int .i64 0)
    | .map _ _, .map (some r) => match m.get r with
      | some (.map es _) => some (.int .i64 es.length)
      | _ => none
    | _, _ => none

noncomputable def capV (E : Env) (t : Nat) (x : Value) : Option Value :=
  match E.ty t with
  | none => none
  | some y =>
    match y.desc, x with
    | .array n _, _ => some (.int .i64 n)
    | .slice _, .slice _ _ k => bif Nat.beq (k % 2) 0 then some (.int .i64 (k / 2 : Nat)) else none
    | _, _ => none

noncomputable def maxV : Value → List Value → Option Value
  | x, [] => some x
  | .int k x, .int k' y :: r => if k = k' then maxV (.int k (if y > x then y else x)) r else none
  | _, _ => none

noncomputable def minV : Value → List Value → Option Value
  | x, [] => some x
  | .int k x, .int k' y :: r => if k = k' then minV (.int k (if y < x then y else x)) r else none
  | _, _ => none

/-- The cells of what is appended, and how many elements. -/
noncomputable def sourceV (E : Env) (m : Mem) (size : Nat) (zeros : Bool) (e : Nat) (x : Value) : Option (List Value × Nat) :=
  match zeros with
  | true => match asNat? x, zeroOf E e, E.ty e with
    | some n, some z, some ye => bif Nat.ble n 1048576 && Nat.beq z.length size && Nat.ble (ye.bytes * n) 281474976710656 then some (repeatCells z n, n) else none
    | _, _, _ => none
  | false => match x with
    | .slice none n _ => bif Nat.beq n 0 then some ([], 0) else none
    | .slice (some a) n _ => bif Nat.beq n 0 then some ([], 0) else match m.cells a (n * size) with
      | some cs => some (cs, n)
      | none => none
    | .string s => bif Nat.beq size 1 then some (byteCells s.data.toList, s.data.toList.length) else none
    | _ => none

noncomputable def headV (m : Mem) (size : Nat) : Option Addr → Nat → Option (List Value)
  | none, n => bif Nat.beq n 0 then some [] else none
  | some a, n => bif Nat.beq n 0 then some [] else m.cells a (n * size)

noncomputable def zerosD : TypeDesc → Option Bool
  | .int _ => some true
  | .slice _ => some false
  | .string => some false
  | _ => none

noncomputable def appendV (E : Env) (m : Mem) (t : Nat) (t2 : Option Nat) (s x : Value) : Option (Value × Mem) :=
  match E.ty t, s with
  | some y, .slice base len k => match y.desc with
    | .slice e => match E.ty e with
      | some ye =>
        match (match t2 with | none => none | some u => match E.ty u with | some yu => zerosD yu.desc | none => none) with
        | none => none
        | some zeros =>
        match sourceV E m ye.size zeros e x with
        | none => none
        | some (new, n) =>
          bif Nat.ble (len + n) (capOf k) then
            -- within the known capacity
            match base with
            | none => bif Nat.beq n 0 then some (.slice none len k, m) else none
            | some a => bif Nat.beq n 0 then some (.slice (some a) len k, m) else
              (m.storeCells (addOff a (len * ye.size)) new).map fun m1 => (.slice (some a) (len + n) k, m1)
          else bif !(Nat.ble ((2 * (len + n) + 2000) * ye.bytes) 281474976710656 && Nat.ble (len + n) 4611686018427387904 && Nat.blt ye.size 4096) then none else
          match headV m ye.size base len, zeroOf E e with
          | some old, some z =>
            bif !(Nat.beq z.length ye.size && allOne new) then none else
            bif Nat.beq (k % 2) 0 then
              match newRow m (old ++ new) ye.size with
              | (b, m1) => some (.slice (some b) (len + n) (loCap (len + n) ye.size), m1)
            else
              match base with
              | none => none
              | some a => match m.get a.block with
                | some (.row cs .rw es prev) =>
                  bif Nat.beq (esOf k) ye.size && Nat.beq es ye.size && Nat.beq (a.off + len * ye.size) cs.length then
                    let m1 := m.upd a.block (some (.row cs .cl es prev))
                    some (.slice (some (addr m1.size 0)) (len + n) (loCap (len + n) ye.size), m1.new (.row (old ++ new) .rw es (some a.block)))
                  else none
                | _ => none
          | _, _ => none
      | none => none
    | _ => none
  | _, _ => none

noncomputable def leafEq (x y : Value) : Bool :=
  match x with
  | .bool a => match y with
    | .bool b => a == b
    | _ => false
  | .int k a => match y with
    | .int k' b => match decide (k = k') with
      | true => a == b
      | false => false
    | _ => false
  | .string a => match y with
    | .string b => bytesEq a.data.toList b.data.toList
    | _ => false
  | .pointer none => match y with
    | .pointer none => true
    | _ => false
  | .slice none n c => match y with
    | .slice none n' c' => Nat.beq n 0 && (Nat.beq n' 0 && (Nat.beq c 0 && Nat.beq c' 0))
    | _ => false
  | .nilFunc => match y with
    | .nilFunc => true
    | _ => false
  | .nilIface => match y with
    | .nilIface => true
    | _ => false
  | _ => false

/-! ### Maps -/
noncomputable def findM (E : Env) (kt : Nat) (k : Value) : List MapEntry → Nat → Option (Option (Nat × Value))
  | [], _ => some none
  | e :: r, i => match aEq E 100 kt k e.key with
    | some true => some (some (i, e.val))
    | some false => findM E kt k r (i + 1)
    | none => none
noncomputable def leafKind (E : Env) (t : Nat) : Bool := match E.ty t with
  | some y => match y.desc with
    | .int _ => true
    | .string => true
    | .bool => true
    | _ => false
  | none => false
/-- Keys that the machine takes: whole numbers, texts, structs of such. -/
noncomputable def keyParts (E : Env) (fine : Nat → Value → Bool) (cs : List Value) : List Field → Bool
  | [] => true
  | f :: r => (match partV E f.type cs f.offset with
    | some p => fine f.type p
    | none => false) && keyParts E fine cs r
noncomputable def keyStruct (E : Env) (fine : Nat → Value → Bool) (t : Nat) (k : Value) : Bool := match E.ty t with
  | some y => match y.desc, k with
    | .struct fs, .agg arr => keyParts E fine arr.toList fs.toList
    | _, _ => false
  | none => false
noncomputable def keyFine1 (E : Env) (t : Nat) (k : Value) : Bool := match leafKind E t with
  | true => true
  | false => keyStruct E (fun t _ => leafKind E t) t k
noncomputable def keyFine (E : Env) (t : Nat) (k : Value) : Bool := match leafKind E t with
  | true => true
  | false => keyStruct E (keyFine1 E) t k
noncomputable def keyLeaf (x y : Value) : Bool :=
  match x with
  | .bool a => match y with
    | .bool b => a == b
    | _ => false
  | .int k a => match y with
    | .int k' b => match decide (k = k') with
      | true => a == b
      | false => false
    | _ => false
  | .string a => match y with
    | .string b => bytesEq a.data.toList b.data.toList
    | _ => false
  | _ => false
noncomputable def leavesEq : List Value → List Value → Bool
  | [], l => match l with
    | [] => true
    | _ => false
  | x :: r, l => match l with
    | y :: s => keyLeaf x y && leavesEq r s
    | [] => false
noncomputable def keySame (x y : Value) : Bool :=
  match x with
  | .agg a => match y with
    | .agg b => leavesEq a.toList b.toList
    | _ => false
  | x => keyLeaf x y
noncomputable def okPair (ok : Bool) (v : Value) (b : Bool) : Value := match ok with
  | true => .tuple #[v, .bool b]
  | false => v
noncomputable def mapOf (m : Mem) (x : Value) : Option (List MapEntry) := match x with
  | .map none => some []
  | .map (some b) => match m.get b with
    | some (.map es _) => some es
    | _ => none
  | _ => none
noncomputable def zeroVal (E : Env) (t : Nat) : Option Value := match E.ty t with
  | some y => y.zero
  | none => none
noncomputable def lookupV (E : Env) (m : Mem) (t : Nat) (x k : Value) (ok : Bool) : Option Value :=
  match E.ty t with
  | some y => match y.desc with
    | .map kt et => match keyFine E kt k, mapOf m x with
      | true, some es => match findM E kt k es 0 with
        | some (some (_, v)) => some (okPair ok v true)
        | some none => (zeroVal E et).map fun z => okPair ok z false
        | none => none
      | _, _ => none
    | _ => none
  | none => none
noncomputable def setEntry (k v : Value) : Nat → List MapEntry → Option (List MapEntry)
  | _, [] => none
  | 0, e :: r => match keySame e.key k with
    | true => some ({ e with key := k, val := v } :: r)
    | false => none
  | i + 1, e :: r => (setEntry k v i r).map fun r => e :: r
noncomputable def mapPutV (E : Env) (m : Mem) (t : Nat) (x k v : Value) : Option Mem :=
  match E.ty t, x with
  | some y, .map (some b) => match y.desc, m.get b with
    | .map kt _, some (.map es clock) => match keyFine E kt k && Nat.ble m.bar b with
      | true => match findM E kt k es 0 with
        | some (some (i, _)) => (setEntry k v i es).map fun es1 => m.upd b (some (.map es1 clock))
        | some none => some (m.upd b (some (.map (es ++ [{ key := k, val := v, born := clock }]) (clock + 1))))
        | none => none
      | false => none
    | _, _ => none
  | _, _ => none
noncomputable def isMapT (E : Env) (t : Nat) : Bool := match E.ty t with
  | some y => match y.desc with
    | .map _ _ => true
    | _ => false
  | none => false

noncomputable def clearV (E : Env) (m : Mem) (t : Nat) (x : Value) : Option (Value × Mem) :=
  match E.ty t, x with
  | some y, .slice base n _ => match y.desc with
    | .slice e => match Nat.beq n 0 with
      | true => some (undefV, m)
      | false => match base, E.ty e, zeroOf E e with
        | some a, some ye, some z => (m.storeCells a (repeatCells z n)).map fun m1 => (undefV, m1)
        | _, _, _ => none
    | _ => none
  | _, _ => none

noncomputable def copyV (E : Env) (m : Mem) (t : Nat) (d s : Value) : Option (Value × Mem) :=
  match E.ty t, d, s with
  | some y, .slice base dl _, .slice sb sl _ => match y.desc with
    | .slice e => match E.ty e with
      | some ye => match Nat.beq (Nat.min sl dl) 0 with
        | true => some (.int .i64 0, m)
        | false => match base, sb with
          | some a, some b => match m.cells b (Nat.min sl dl * ye.size) with
            | some cs => (m.storeCells a cs).map fun m1 => (.int .i64 (Nat.min sl dl : Nat), m1)
            | none => none
          | _, _ => none
      | none => none
    | _ => none
  | _, _, _ => none

noncomputable def builtinV (E : Env) (m : Mem) (b : Builtin) (ats : List Nat) (args : List Value) : Option (Value × Mem) :=
  match b, ats, args with
  | .len, t :: _, x :: _ => (lenV E m t x).map fun v => (v, m)
  | .cap, t :: _, x :: _ => (capV E t x).map fun v => (v, m)
  | .max, _, x :: r => (maxV x r).map fun v => (v, m)
  | .min, _, x :: r => (minV x r).map fun v => (v, m)
  | .append, t :: r, s :: x :: _ => appendV E m t r.head? s x
  | .clear, t :: _, x :: _ => clearV E m t x
  | .copy, t :: _, d :: s :: _ => copyV E m t d s
  | _, _, _ => none

noncomputable def rangeV (E : Env) (m : Mem) (t : Nat) (x : Value) : Option (Value × Mem) :=
  match E.ty t with
  | some y => match y.desc, x with
    | .string, .string s => some (.pointer (some (addr m.size 0)), m.new (.str s 0))
    | _, _ => none
  | none => none

noncomputable def nextV (m : Mem) (it : Value) (isString : Bool) : Option (Value × Mem) :=
  match it, isString with
  | .pointer (some a), true => match m.get a.block with
    | some (.str s pos) =>
      bif !(Nat.beq a.off 0) then none else bif Nat.blt pos s.data.toList.length then
        bif Nat.ble m.bar a.block then
          match Utf8.decode s pos with
          | (c, width) => some (.tuple #[.bool true, .int .i64 pos, .int .i32 c], m.upd a.block (some (.str s (pos + width))))
        else none
      else some (.tuple #[.bool false], m)
    | _ => none
  | _, _ => none

structure OpH where
  go : Env → (Operand → Value) → Mem → Option ANext

/-- What an operation does, found once for each. -/
noncomputable def opH (op : Op) : OpH :=
  match op with
  | .move x => ⟨fun E ρ m => some (.val (ρ x) m)⟩
  | .assign x => ⟨fun E ρ m => some (.val (ρ x) m)⟩
  | .pick c a b => ⟨fun E ρ m => match ρ c with
    | .bool true => some (.val (ρ a) m)
    | .bool false => some (.val (ρ b) m)
    | _ => none⟩
  | .alloc e => ⟨fun E ρ m => match zeroOf E e with
    | some z => match newRow m z 0 with | (a, m1) => some (.val (.pointer (some a)) m1)
    | none => none⟩
  | .box _ x => ⟨fun E ρ m => match newRow m (ρ x).cells.toList 0 with | (a, m1) => some (.val (.pointer (some a)) m1)⟩
  | .build t parts => ⟨fun E ρ m => (buildV E t (parts.toList.map fun p => (p.1, ρ p.2))).map fun v => .val v m⟩
  | .buildSlice t len parts => ⟨fun E ρ m => (buildSliceV E m t len (parts.toList.map fun p => (p.1, ρ p.2))).map fun r => .val r.1 r.2⟩
  | .load t a => ⟨fun E ρ m => match ρ a with
    | .pointer (some a) => (loadV E m t a).map fun v => .val v m
    | _ => none⟩
  | .store t a x => ⟨fun E ρ m => match ρ a with
    | .pointer (some a) => (storeV E m t a (ρ x)).map fun m1 => .val undefV m1
    | _ => none⟩
  | .nilCheck x => ⟨fun E ρ m => match ρ x with
    | .pointer none => none
    | .nilIface => none
    | .nilFunc => none
    | .func (.method _) _ _ => none
    | v => some (.val v m)⟩
  | .binOp op t x y _ => ⟨fun E ρ m => match op with
    | .eql => bif eqFine E t (isConst x) (isConst y) (ρ x) (ρ y) then (binV E .eql t (ρ x) (ρ y)).map fun v => .val v m else none
    | .neq => bif eqFine E t (isConst x) (isConst y) (ρ x) (ρ y) then (binV E .neq t (ρ x) (ρ y)).map fun v => .val v m else none
    | op => (binV E op t (ρ x) (ρ y)).map fun v => .val v m⟩
  | .unOp op _ x => ⟨fun E ρ m => (unV op (ρ x)).map fun v => .val v m⟩
  | .convert s d x => ⟨fun E ρ m => (convV E m s d (ρ x)).map fun r => .val r.1 r.2⟩
  | .makeInterface t x => ⟨fun E ρ m => match E.ty t with
    | some y => match y.desc with
      | .interface _ => none
      | _ => some (.val (.iface t (ρ x)) m)
    | none => none⟩
  | .makeFunc fn first captured => ⟨fun E ρ m => match fn with
    | .func f => some (.val (.func (.func f) (first.toList.map ρ).toArray (captured.toList.map ρ).toArray) m)
    | _ => none⟩
  | .makeSlice t l c => ⟨fun E ρ m => (makeSliceV E m t (ρ l) (ρ c)).map fun r => .val r.1 r.2⟩
  | .slice t x lo hi mx => ⟨fun E ρ m => (sliceV E t (ρ x) (lo.map ρ) (hi.map ρ) (mx.map ρ)).map fun v => .val v m⟩
  | .fieldAddr s x f => ⟨fun E ρ m => (fieldAddrV E s (ρ x) f).map fun v => .val v m⟩
  | .field t x f => ⟨fun E ρ m => (fieldV E t (ρ x) f).map fun v => .val v m⟩
  | .indexAddr t x i => ⟨fun E ρ m => (indexAddrV E t (ρ x) (ρ i)).map fun v => .val v m⟩
  | .index t x i => ⟨fun E ρ m => (indexV E t (ρ x) (ρ i)).map fun v => .val v m⟩
  | .range t x => ⟨fun E ρ m => (rangeV E m t (ρ x)).map fun r => .val r.1 r.2⟩
  | .next it str => ⟨fun E ρ m => (nextV m (ρ it) str).map fun r => .val r.1 r.2⟩
  | .extract t i => ⟨fun E ρ m => match ρ t with
    | .tuple vs => (vs.toList[i]?).map fun v => .val v m
    | _ => none⟩
  | .call c => ⟨fun E ρ m => match c.callee with
    | .builtin b => (builtinV E m b c.argTypes.toList (c.args.toList.map ρ)).map fun r => .val r.1 r.2
    | .value f => match ρ f with
      | .func (.func g) first captured => some (.enter g (first.toList ++ (c.args.toList.map ρ ++ captured.toList)))
      | .func (.yield l) first _ => some (.yield l (first.toList ++ c.args.toList.map ρ))
      | _ => none
    | _ => none⟩
  | .makeMap t r => ⟨fun E ρ m => match isMapT E t with
    | true => match r with
      | none => some (.val (.map (some m.size)) (m.new (.map [] 0)))
      | some x => match ρ x with
        | .int _ _ => some (.val (.map (some m.size)) (m.new (.map [] 0)))
        | _ => none
    | false => none⟩
  | .lookup t x k ok => ⟨fun E ρ m => (lookupV E m t (ρ x) (ρ k) ok).map fun v => .val v m⟩
  | .mapUpdate t x k v => ⟨fun E ρ m => (mapPutV E m t (ρ x) (ρ k) (ρ v)).map fun m1 => .val undefV m1⟩
  | .insert t x k v => ⟨fun E ρ m => (mapPutV E m t (ρ x) (ρ k) (ρ v)).map fun m1 => .val undefV m1⟩
  | _ => ⟨fun _ _ _ => none⟩

noncomputable def aop (E : Env) (ρ : Operand → Value) (m : Mem) (o : Oper) : Option ANext := (opH o.op).go E ρ m

theorem aop_def (E : Env) (ρ : Operand → Value) (m : Mem) (o : Oper) : aop E ρ m o =
  match o.op with
  | .move x => some (.val (ρ x) m)
  | .assign x => some (.val (ρ x) m)
  | .pick c a b => match ρ c with
    | .bool true => some (.val (ρ a) m)
    | .bool false => some (.val (ρ b) m)
    | _ => none
  | .alloc e => match zeroOf E e with
    | some z => match newRow m z 0 with | (a, m1) => some (.val (.pointer (some a)) m1)
    | none => none
  | .box _ x => match newRow m (ρ x).cells.toList 0 with | (a, m1) => some (.val (.pointer (some a)) m1)
  | .build t parts => (buildV E t (parts.toList.map fun p => (p.1, ρ p.2))).map fun v => .val v m
  | .buildSlice t len parts => (buildSliceV E m t len (parts.toList.map fun p => (p.1, ρ p.2))).map fun r => .val r.1 r.2
  | .load t a => match ρ a with
    | .pointer (some a) => (loadV E m t a).map fun v => .val v m
    | _ => none
  | .store t a x => match ρ a with
    | .pointer (some a) => (storeV E m t a (ρ x)).map fun m1 => .val undefV m1
    | _ => none
  | .nilCheck x => match ρ x with
    | .pointer none => none
    | .nilIface => none
    | .nilFunc => none
    | .func (.method _) _ _ => none
    | v => some (.val v m)
  | .binOp op t x y _ => match op with
    | .eql => bif eqFine E t (isConst x) (isConst y) (ρ x) (ρ y) then (binV E .eql t (ρ x) (ρ y)).map fun v => .val v m else none
    | .neq => bif eqFine E t (isConst x) (isConst y) (ρ x) (ρ y) then (binV E .neq t (ρ x) (ρ y)).map fun v => .val v m else none
    | op => (binV E op t (ρ x) (ρ y)).map fun v => .val v m
  | .unOp op _ x => (unV op (ρ x)).map fun v => .val v m
  | .convert s d x => (convV E m s d (ρ x)).map fun r => .val r.1 r.2
  | .makeInterface t x => match E.ty t with
    | some y => match y.desc with
      | .interface _ => none
      | _ => some (.val (.iface t (ρ x)) m)
    | none => none
  | .makeFunc fn first captured => match fn with
    | .func f => some (.val (.func (.func f) (first.toList.map ρ).toArray (captured.toList.map ρ).toArray) m)
    | _ => none
  | .makeSlice t l c => (makeSliceV E m t (ρ l) (ρ c)).map fun r => .val r.1 r.2
  | .slice t x lo hi mx => (sliceV E t (ρ x) (lo.map ρ) (hi.map ρ) (mx.map ρ)).map fun v => .val v m
  | .fieldAddr s x f => (fieldAddrV E s (ρ x) f).map fun v => .val v m
  | .field t x f => (fieldV E t (ρ x) f).map fun v => .val v m
  | .indexAddr t x i => (indexAddrV E t (ρ x) (ρ i)).map fun v => .val v m
  | .index t x i => (indexV E t (ρ x) (ρ i)).map fun v => .val v m
  | .range t x => (rangeV E m t (ρ x)).map fun r => .val r.1 r.2
  | .next it str => (nextV m (ρ it) str).map fun r => .val r.1 r.2
  | .extract t i => match ρ t with
    | .tuple vs => (vs.toList[i]?).map fun v => .val v m
    | _ => none
  | .call c => match c.callee with
    | .builtin b => (builtinV E m b c.argTypes.toList (c.args.toList.map ρ)).map fun r => .val r.1 r.2
    | .value f => match ρ f with
      | .func (.func g) first captured => some (.enter g (first.toList ++ (c.args.toList.map ρ ++ captured.toList)))
      | .func (.yield l) first _ => some (.yield l (first.toList ++ c.args.toList.map ρ))
      | _ => none
    | _ => none
  | .makeMap t r => match isMapT E t with
    | true => match r with
      | none => some (.val (.map (some m.size)) (m.new (.map [] 0)))
      | some x => match ρ x with
        | .int _ _ => some (.val (.map (some m.size)) (m.new (.map [] 0)))
        | _ => none
    | false => none
  | .lookup t x k ok => (lookupV E m t (ρ x) (ρ k) ok).map fun v => .val v m
  | .mapUpdate t x k v => (mapPutV E m t (ρ x) (ρ k) (ρ v)).map fun m1 => .val undefV m1
  | .insert t x k v => (mapPutV E m t (ρ x) (ρ k) (ρ v)).map fun m1 => .val undefV m1
  | _ => none := by
  unfold aop
  cases o.op <;> rfl
end Go.Am
