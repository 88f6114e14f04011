/- The deterministic abstract machine: code, calls, rounds. Plain definitions; nothing is assumed. -/
import Derived.Test.YtnhhppflnpfehacGreatDoorAm2
set_option linter.unusedVariables false
namespace Go.Am

inductive AExit where
  | normal
  | exit (id : Nat)
  | goto (l : Nat)
  | ret

structure St where
  tm : Tr Value
  nt : Nat
  df : List Nat
  m : Mem

inductive Task where
  | call (f : Nat) (args : List Value)
  | round (l : Nat) (args : List Value)

noncomputable def putT (tm : Tr Value) (nt : Nat) (dst : Option Nat) (v : Value) : Option (Tr Value) :=
  match dst with
  | none => some tm
  | some d => bif Nat.blt d nt then some (tm.put d (some v)) else none

/-- Has operation j of the region told this truth? -/
noncomputable def told (ops : List Oper) (tm : Tr Value) (j : Nat) : Option Bool :=
  match ops[j]? with
  | some o => match o.dst with
    | some d => match tm.at d with
      | some (.bool b) => some b
      | _ => none
    | none => none
  | none => none

noncomputable def wantedV (ops : List Oper) (tm : Tr Value) (o : Oper) : Bool :=
  match o.guard with
  | none => true
  | some (j, want) => match told ops tm j with
    | some b => b == want
    | none => false

/-- One operation, a call's work handed to K. -/
noncomputable def doOp (E : Env) (K : Task → Mem → Option (Value × Mem)) (o : Oper) (tm : Tr Value) (m : Mem) : Option (Value × Mem) :=
  match aop E (ev tm) m o with
  | some (.val v m1) => some (v, m1)
  | some (.enter f args) => K (.call f args) m
  | some (.yield l args) => K (.round l args) m
  | none => none

noncomputable def stepOp (E : Env) (K : Task → Mem → Option (Value × Mem)) (ops : List Oper) (o : Oper) (s : St) : Option St :=
  match s with
  | ⟨tm, nt, df, m⟩ => match wantedV ops tm o with
    | true => match doOp E K o tm m with
      | some (v, m1) => match putT tm nt o.dst v with
        | some tm1 => some ⟨tm1, nt, df, m1⟩
        | none => none
      | none => none
    | false => match putT tm nt o.dst undefV with
      | some tm1 => some ⟨tm1, nt, df, m⟩
      | none => none

theorem stepOp_def (E : Env) (K : Task → Mem → Option (Value × Mem)) (ops : List Oper) (o : Oper) (s : St) : stepOp E K ops o s =
  match wantedV ops s.tm o with
  | true => match doOp E K o s.tm s.m with
    | some (v, m1) => match putT s.tm s.nt o.dst v with
      | some tm1 => some { s with tm := tm1, m := m1 }
      | none => none
    | none => none
  | false => match putT s.tm s.nt o.dst undefV with
    | some tm1 => some { s with tm := tm1 }
    | none => none := by cases s; rfl

noncomputable def runOps (E : Env) (K : Task → Mem → Option (Value × Mem)) (ops : List Oper) : List Oper → St → Option St
  | [], s => some s
  | o :: r, s => match stepOp E K ops o s with
    | some s1 => runOps E K ops r s1
    | none => none

/-! ### Regions whose order is open -/
/-- What an operation does to memory: nothing; it reads; it lays a new row; it may change it. -/
inductive Cls where
  | pure | soft | fresh | hard

noncomputable def Cls.isPure : Cls → Bool
  | .pure => true
  | _ => false
noncomputable def Cls.isFresh : Cls → Bool
  | .fresh => true
  | _ => false
noncomputable def Cls.isHard : Cls → Bool
  | .hard => true
  | _ => false

noncomputable def clsConv (E : Env) (d : Nat) : Cls :=
  match E.ty d with
  | some y => match y.desc with
    | .slice _ => .fresh
    | _ => .soft
  | none => .hard

noncomputable def cls (E : Env) : Op → Cls
  | .move _ | .assign _ | .pick _ _ _ | .nilCheck _ | .unOp _ _ _ | .makeInterface _ _ | .makeFunc _ _ _ | .slice _ _ _ _ _ | .fieldAddr _ _ _ | .field _ _ _ | .indexAddr _ _ _
  | .index _ _ _ | .extract _ _ | .build _ _ | .binOp _ _ _ _ _ => .pure
  | .load _ _ => .soft
  | .alloc _ | .box _ _ | .buildSlice _ _ _ | .makeSlice _ _ _ => .fresh
  | .convert _ d _ => clsConv E d
  | .call c => match c.callee with
    | .builtin .len | .builtin .cap | .builtin .max | .builtin .min => .soft
    | _ => .hard
  | _ => .hard

noncomputable def clsAt (E : Env) (ops : List Oper) (i : Nat) : Cls :=
  match ops[i]? with
  | some o => cls E o.op
  | none => .pure

/-- The bits of the operations that must come ahead of each. -/
noncomputable def edgeBits (acc : List Nat) : List Edge → Nat
  | [] => 0
  | e :: r => match Region.binds .any e with
    | true => 2 ^ e.on ||| (acc.getD e.on 0 ||| edgeBits acc r)
    | false => edgeBits acc r
noncomputable def befores : List Oper → List Nat → List Nat
  | [], acc => acc
  | o :: r, acc => befores r (acc ++ [edgeBits acc o.after.toList])

noncomputable def bef (bs : List Nat) (j i : Nat) : Bool := (bs.getD j 0).testBit i
noncomputable def ordered (bs : List Nat) (i j : Nat) : Bool := bef bs i j || bef bs j i

noncomputable def allBelow : Nat → (Nat → Bool) → Bool
  | 0, _ => true
  | n + 1, p => allBelow n p && p n

/-- Is i ordered against each operation of a class other than 'pure' (but itself)? -/
noncomputable def alone (E : Env) (bs : List Nat) (ops : List Oper) (i : Nat) : Bool :=
  allBelow ops.length fun j => Nat.beq j i || (clsAt E ops j).isPure || ordered bs i j

noncomputable def edgesBack (i : Nat) : List Edge → Bool
  | [] => true
  | e :: r => (!(Region.binds .any e) || Nat.blt e.on i) && edgesBack i r

noncomputable def memN (d : Nat) : List Nat → Bool
  | [] => false
  | x :: r => Nat.beq d x || memN d r
noncomputable def tmpsOf : List Operand → List Nat
  | [] => []
  | .tmp t :: r => t :: tmpsOf r
  | _ :: r => tmpsOf r
noncomputable def readsOf (o : Oper) : List Nat := tmpsOf o.op.operands.toList

/-- x stands ahead of y; b: y is bound to come after x. -/
noncomputable def pairOk (E : Env) (b : Bool) (x y : Oper) : Bool :=
  (match x.dst with
    | some d => (match y.dst with | some d' => !(Nat.beq d d') | none => true) && (b || !(memN d (readsOf y)))
    | none => true) &&
  (match y.dst with
    | some d' => b || !(memN d' (readsOf x))
    | none => true) &&
  (b || !((cls E x.op).isHard && ((cls E y.op).isHard || (cls E y.op).isFresh)))

noncomputable def guardBack (bs : List Nat) (i : Nat) (o : Oper) : Bool :=
  match o.guard with
  | none => true
  | some (g, _) => bef bs i g

noncomputable def drawOk (E : Env) (bs : List Nat) (ops : List Oper) : Bool :=
  allBelow ops.length fun j => match ops[j]? with
    | some y => edgesBack j y.after.toList && guardBack bs j y && allBelow j fun i => match ops[i]? with
      | some x => pairOk E (bef bs j i) x y
      | none => false
    | none => false

/-! The order in which the machine does them: what lays new rows comes as early as may be. -/
noncomputable def edgesIn (done : List Nat) : List Edge → Bool
  | [] => true
  | e :: r => (!(Region.binds .any e) || memN e.on done) && edgesIn done r

noncomputable def pickOp (E : Env) (hard : Bool) (done : List Nat) : Nat → List Oper → Option Nat
  | _, [] => none
  | i, o :: r => match !(memN i done) && (edgesIn done o.after.toList && (cls E o.op).isHard == hard) with
    | true => some i
    | false => pickOp E hard done (i + 1) r

noncomputable def sched (E : Env) (ops : List Oper) : Nat → List Nat → List Nat
  | 0, done => done
  | n + 1, done => match pickOp E false done 0 ops with
    | some i => sched E ops n (done ++ [i])
    | none => match pickOp E true done 0 ops with
      | some i => sched E ops n (done ++ [i])
      | none => done

noncomputable def posOf (i : Nat) : List Nat → Nat
  | [] => 0
  | x :: r => bif Nat.beq i x then 0 else posOf i r + 1

noncomputable def guardIn (n : Nat) : Option (Nat × Bool) → Bool
  | none => true
  | some (g, _) => Nat.blt g n

noncomputable def permOk (ops : List Oper) (ord : List Nat) : Bool :=
  Nat.beq ord.length ops.length &&
  (allBelow ops.length fun p => Nat.blt (ord.getD p 0) ops.length && Nat.beq (posOf (ord.getD p 0) ord) p) &&
  (allBelow ops.length fun i => Nat.blt (posOf i ord) ops.length && Nat.beq (ord.getD (posOf i ord) 0) i) &&
  (ops.all fun o => guardIn ops.length o.guard)

noncomputable def moved (ord : List Nat) (o : Oper) : Oper :=
  { o with after := (o.after.toList.map fun e => { e with on := posOf e.on ord }).toArray
           guard := match o.guard with | some (g, b) => some (posOf g ord, b) | none => none }

noncomputable def permute (ops : List Oper) : List Nat → List Oper
  | [] => []
  | i :: r => match ops[i]? with
    | some o => o :: permute ops r
    | none => permute ops r

noncomputable def arranged (E : Env) (ops : List Oper) : Option (List Oper) :=
  let ord := sched E ops ops.length []
  match permOk ops ord with
  | true => some ((permute ops ord).map (moved ord))
  | false => none

/-- In a region whose order is open: an operation that may write and is not ordered against all that read or make memory must leave what was there alone. -/
noncomputable def stepDraw (E : Env) (K : Task → Mem → Option (Value × Mem)) (ops : List Oper) (free : Bool) (o : Oper) (s : St) : Option St :=
  match free with
  | true => stepOp E K ops o s
  | false => match stepOp E K ops o { s with m := { s.m with bar := s.m.size } } with
    | some s1 => some { s1 with m := { s1.m with bar := s.m.bar } }
    | none => none

/-- No load that is not ordered against i reads a row: each stands ahead of i, and its operand is as it was there. -/
noncomputable def loadOff (E : Env) (ops : List Oper) (bs : List Nat) (i : Nat) (tm : Tr Value) (blk : Nat) : Bool :=
  allBelow ops.length fun j => Nat.beq j i || ((clsAt E ops j).isPure || (ordered bs i j || (Nat.blt j i && match ops[j]? with
    | some y => (match y.op with
      | .load _ x => match ev tm x with
        | .pointer (some a) => !(Nat.beq a.block blk)
        | _ => true
      | _ => false) && allBelow i fun k => Nat.blt k j || (match ops[k]? with
        | some z => match z.dst with
          | some d => !(memN d (readsOf y))
          | none => true
        | none => true)
    | none => false)))
/-- A store that is not ordered against some loads, into a row that none of them reads. -/
noncomputable def stepStore (E : Env) (K : Task → Mem → Option (Value × Mem)) (ops : List Oper) (bs : List Nat) (i : Nat) (o : Oper) (s : St) : Option St :=
  match o.op with
  | .store _ a _ => match ev s.tm a with
    | .pointer (some ad) => match s.m.get ad.block with
      | some (.row _ .rw _ none) => match loadOff E ops bs i s.tm ad.block with
        | true => stepOp E K ops o s
        | false => none
      | _ => none
    | _ => none
  | _ => none
noncomputable def stepDrawI (E : Env) (K : Task → Mem → Option (Value × Mem)) (ops : List Oper) (bs : List Nat) (i : Nat) (o : Oper) (s : St) : Option St :=
  match stepDraw E K ops (!(cls E o.op).isHard || alone E bs ops i) o s with
  | some s1 => some s1
  | none => stepStore E K ops bs i o s

noncomputable def runDraw (E : Env) (K : Task → Mem → Option (Value × Mem)) (ops : List Oper) (bs : List Nat) : Nat → List Oper → St → Option St
  | _, [], s => some s
  | i, o :: r, s => match stepDrawI E K ops bs i o s with
    | some s1 => runDraw E K ops bs (i + 1) r s1
    | none => none

noncomputable def drawn (E : Env) (K : Task → Mem → Option (Value × Mem)) (ops : List Oper) (s : St) : Option St :=
  match arranged E ops with
  | some l => match drawOk E (befores l []) l with
    | true => runDraw E K l (befores l []) 0 l s
    | false => none
  | none => none

/-! ### Code -/
noncomputable def loopRun (ex : Code → St → Option (AExit × St)) (b : Code) : Nat → St → Option (AExit × St)
  | 0, _ => none
  | n + 1, s => match ex b s with
    | some (.normal, s1) => loopRun ex b n s1
    | r => r

noncomputable def scopeRun (ex : Code → St → Option (AExit × St)) (b : Code) : Nat → Code → St → Option (AExit × St)
  | 0, _, _ => none
  | n + 1, c, s => match ex c s with
    | some (.goto l, s1) => match findLabel b l with
      | some rest => scopeRun ex b n rest s1
      | none => some (.goto l, s1)
    | r => r

/-- The end of a loop over a function: the record is shut, the jump that a round has left is taken up. -/
noncomputable def endLoopV (m : Mem) (L : Nat) : Option (Option Code × Mem) :=
  match m.get L with
  | some (.loop st pend tm nt ps asg body D) => match st with
    | .busy => none
    | _ => bif Nat.ble m.bar L then some (pend, m.upd L (some (.loop .exhausted pend tm nt ps asg body D))) else none
  | _ => none

noncomputable def jumpOf : Code → Option AExit
  | .exit i => some (.exit i)
  | .goto l => some (.goto l)
  | .ret => some .ret
  | _ => none

/-- The loop's record is laid: its number, the marks, memory. -/
noncomputable def enterLoopV (s : St) (round : Option Nat) (ps : List Tmp) (asg body : Code) : Option (Nat × List Nat × Mem) :=
  match round with
  | none => some (s.m.size + 1, [s.m.size], (s.m.new .mark).new (.loop .ready none s.tm s.nt ps asg body s.m.size))
  | some l => match s.m.get l with
    | some (.loop _ _ _ _ _ _ _ D) => some (s.m.size, [], s.m.new (.loop .ready none s.tm s.nt ps asg body D))
    | _ => none

structure CodeH where
  go : Env → (Task → Mem → Option (Value × Mem)) → Option Nat → Nat → (Code → St → Option (AExit × St)) → St → Option (AExit × St)

/-- What a piece of code does, found once for each; 'ex': what its parts do. -/
noncomputable def codeH (c : Code) : CodeH :=
  match c with
  | .skip => ⟨fun E K round k ex s => some (.normal, s)⟩
  | .label _ => ⟨fun E K round k ex s => some (.normal, s)⟩
  | .region _ ops draw => ⟨fun E K round k ex s => match draw with
    | false => match runOps E K ops.toList ops.toList s with
      | some s1 => some (.normal, s1)
      | none => none
    | true => match drawn E K ops.toList s with
      | some s1 => some (.normal, s1)
      | none => none⟩
  | .seq a b => ⟨fun E K round k ex s => match ex a s with
    | some (.normal, s1) => ex b s1
    | r => r⟩
  | .cond c a b => ⟨fun E K round k ex s => match ev s.tm c with
    | .bool true => ex a s
    | .bool false => ex b s
    | _ => none⟩
  | .block id b => ⟨fun E K round k ex s => match ex b s with
    | some (.exit i, s1) => some (bif Nat.beq i id then .normal else .exit i, s1)
    | r => r⟩
  | .loop b => ⟨fun E K round k ex s => loopRun ex b k s⟩
  | .scope b => ⟨fun E K round k ex s => scopeRun ex b k b s⟩
  | .exit i => ⟨fun E K round k ex s => some (.exit i, s)⟩
  | .goto l => ⟨fun E K round k ex s => some (.goto l, s)⟩
  | .ret => ⟨fun E K round k ex s => some (.ret, s)⟩
  | .refuse _ => ⟨fun E K round k ex s => none⟩
  | .rangeFunc f ps asg body => ⟨fun E K round k ex s => 
    match ev s.tm f with
    | .func (.func g) first captured =>
      match E.fn g with
      | none => none
      | some _ =>
      match enterLoopV s round ps.toList asg body with
      | some (L, marks, m1) =>
        match K (.call g (first.toList ++ (.func (.yield L) #[] #[] :: captured.toList))) m1 with
        | some (_, m2) =>
          match endLoopV m2 L with
          | some (none, m3) => some (.normal, { s with df := marks ++ s.df, m := m3 })
          | some (some c, m3) => match jumpOf c with
            | some e => some (e, { s with df := marks ++ s.df, m := m3 })
            | none => none
          | none => none
        | none => none
      | none => none
    | _ => none⟩

noncomputable def exec (E : Env) (K : Task → Mem → Option (Value × Mem)) (round : Option Nat) (k : Nat) : Code → St → Option (AExit × St) :=
  Nat.rec (motive := fun _ => Code → St → Option (AExit × St)) (fun _ _ => none) (fun k ex c s => (codeH c).go E K round k ex s) k

theorem exec_zero (E : Env) (K : Task → Mem → Option (Value × Mem)) (round : Option Nat) (c : Code) (s : St) : exec E K round 0 c s = none := rfl
theorem exec_succ (E : Env) (K : Task → Mem → Option (Value × Mem)) (round : Option Nat) (k : Nat) (c : Code) (s : St) : exec E K round (k + 1) c s =
    match c with
    | .skip => some (.normal, s)
    | .label _ => some (.normal, s)
    | .region _ ops draw => match draw with
      | false => match runOps E K ops.toList ops.toList s with
        | some s1 => some (.normal, s1)
        | none => none
      | true => match drawn E K ops.toList s with
        | some s1 => some (.normal, s1)
        | none => none
    | .seq a b => match exec E K round k a s with
      | some (.normal, s1) => exec E K round k b s1
      | r => r
    | .cond c a b => match ev s.tm c with
      | .bool true => exec E K round k a s
      | .bool false => exec E K round k b s
      | _ => none
    | .block id b => match exec E K round k b s with
      | some (.exit i, s1) => some (bif Nat.beq i id then .normal else .exit i, s1)
      | r => r
    | .loop b => loopRun (exec E K round k) b k s
    | .scope b => scopeRun (exec E K round k) b k b s
    | .exit i => some (.exit i, s)
    | .goto l => some (.goto l, s)
    | .ret => some (.ret, s)
    | .refuse _ => none
    | .rangeFunc f ps asg body =>
      match ev s.tm f with
      | .func (.func g) first captured =>
        match E.fn g with
        | none => none
        | some _ =>
        match enterLoopV s round ps.toList asg body with
        | some (L, marks, m1) =>
          match K (.call g (first.toList ++ (.func (.yield L) #[] #[] :: captured.toList))) m1 with
          | some (_, m2) =>
            match endLoopV m2 L with
            | some (none, m3) => some (.normal, { s with df := marks ++ s.df, m := m3 })
            | some (some c, m3) => match jumpOf c with
              | some e => some (e, { s with df := marks ++ s.df, m := m3 })
              | none => none
            | none => none
          | none => none
        | none => none
      | _ => none := by
  show (codeH c).go E K round k (exec E K round k) s = _
  cases c <;> rfl

noncomputable def argsT : Nat → List Value → Tr Value → Tr Value
  | _, [], t => t
  | i, v :: r, t => argsT (i + 1) r (t.put i (some v))

noncomputable def takeMarks : List Nat → Mem → Option Mem
  | [], m => some m
  | D :: r, m => match m.get D with
    | some .mark => bif Nat.ble m.bar D then takeMarks r (m.upd D none) else none
    | _ => none

noncomputable def resultV (E : Env) (tm : Tr Value) (m : Mem) : ResultVar → Option Value
  | .tmp t => some (ev tm (.tmp t))
  | .cell a t => match ev tm (.tmp a) with
    | .pointer (some a) => loadV E m t a
    | _ => none

noncomputable def resultsV (E : Env) (tm : Tr Value) (m : Mem) : List ResultVar → Option (List Value)
  | [] => some []
  | r :: rs => match resultV E tm m r, resultsV E tm m rs with
    | some v, some vs => some (v :: vs)
    | _, _ => none

noncomputable def packV : List Value → Value
  | [v] => v
  | vs => .tuple vs.toArray

noncomputable def exitJump : AExit → Option Code
  | .normal => none
  | .exit i => some (.exit i)
  | .goto l => some (.goto l)
  | .ret => some .ret

noncomputable def paramsT : List Tmp → List Value → Tr Value → Nat → Option (Tr Value)
  | [], [], t, _ => some t
  | p :: ps, v :: vs, t, nt => bif Nat.blt p nt then paramsT ps vs (t.put p (some v)) nt else none
  | _, _, _, _ => none

noncomputable def callBody (E : Env) (K : Task → Mem → Option (Value × Mem)) (j : Nat) (fn : Fun) (args : List Value) (m : Mem) : Option (Value × Mem) :=
  bif Nat.ble args.length fn.ntmps then
    match exec E K none j fn.body { tm := argsT 0 args .nil, nt := fn.ntmps, df := [], m := m } with
    | some (e, s) => match e with
      | .exit _ => none
      | .goto _ => none
      | _ => match takeMarks s.df s.m with
        | some m1 => match resultsV E s.tm m1 fn.results with
          | some vs => some (packV vs, m1)
          | none => none
        | none => none
    | none => none
  else none

noncomputable def roundBody (E : Env) (K : Task → Mem → Option (Value × Mem)) (j : Nat) (l : Nat) (args : List Value) (m : Mem) : Option (Value × Mem) :=
  match m.get l with
  | some (.loop .ready pend tm nt ps asg body D) =>
    match paramsT ps args tm nt with
    | some tm1 => match exec E K (some l) j asg { tm := tm1, nt := nt, df := [], m := m } with
      | some (.normal, s1) =>
        match s1.m.get l with
        | some (.loop .ready pend2 tm2 nt2 ps2 asg2 body2 D2) =>
          bif Nat.ble s1.m.bar l then
            match exec E K (some l) j body { s1 with m := s1.m.upd l (some (.loop .busy pend2 tm2 nt2 ps2 asg2 body2 D2)) } with
            | some (e, s2) => match s2.m.get l with
              | some (.loop _ _ tm3 nt3 ps3 asg3 body3 D3) =>
                let jump := exitJump e
                bif Nat.ble s2.m.bar l then
                  some (.bool jump.isNone, s2.m.upd l (some (.loop (match jump with | none => .ready | some _ => .done) jump tm3 nt3 ps3 asg3 body3 D3)))
                else none
              | _ => none
            | none => none
          else none
        | _ => none
      | _ => none
    | none => none
  | _ => none

/-- The machine: j bounds the code's rounds, the first number the depth of calls. -/
noncomputable def run (E : Env) (j : Nat) : Nat → Task → Mem → Option (Value × Mem)
  | 0, _, _ => none
  | k + 1, t, m =>
    match t with
    | .call f args => match E.ext f with
      | some g => g args m
      | none => match E.fn f with
        | some fn => callBody E (run E j k) j fn args m
        | none => none
    | .round l args => roundBody E (run E j k) j l args m
end Go.Am
