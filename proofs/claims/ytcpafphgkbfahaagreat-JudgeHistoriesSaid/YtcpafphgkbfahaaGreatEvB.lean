/- An evaluator of closed runs: regions, codes, calls. -/
import Derived.Test.YtcpafphgkbfahaaGreatEvA
namespace Go.Proofs.YtcpafphgkbfahaaGreat
open Go
noncomputable section

/-- what a call makes of arguments and memory -/
abbrev Callee' := FuncId → List Value → AW → Option (Value × AW)
/-- what a round of a range over a function makes: the loop's block, yield's arguments -/
abbrev Rounder := Nat → List Value → AW → Option (Value × AW)

/-- calls that turn nothing, of arguments that are the same in every world: told ahead -/
abbrev Pt := FuncId → List Value → Option Value
def ptAt (pt : Pt) (g : FuncId) (args : List Value) : Option Value :=
  match pt g args with
  | some v => bif args.all (groundB 8) && groundB 8 v then some v else none
  | none => none
def callOp (pt : Pt) (call : Callee') (round : Rounder) (T : Tr Value) (W : AW) (f : Operand) (args : Array Operand) : Option (Value × AW) :=
  match aev T f, aevs T args.toList with
  | some (.func (.func g) first captured), some vs => match ptAt pt g (first.toList ++ vs ++ captured.toList) with
    | some v => some (v, W)
    | none => call g (first.toList ++ vs ++ captured.toList) W
  | some (.func (.yield l) _ _), some vs => round l vs W
  | _, _ => none
/-- does an operation act (write, make, call) -/
def actsB (pt : Pt) (T : Tr Value) (op : Op) : Bool :=
  bif isPure op || isRead op then false else
  match op with
  | .call { callee := .value f, args, .. } => match aev T f, aevs T args.toList with
    | some (.func (.func g) first captured), some vs => (ptAt pt g (first.toList ++ vs ++ captured.toList)).isNone
    | _, _ => true
  | _ => true
def withW (W : AW) : Option Value → Option (Value × AW)
  | some v => some (v, W)
  | none => none
def callAny (P : Program) (pt : Pt) (call : Callee') (round : Rounder) (T : Tr Value) (W : AW) (type : TypeId) (c : Call) : Option (Value × AW) :=
  match c.callee with
  | .value f => callOp pt call round T W f c.args
  | .builtin .len => withW W (rLen P T W c.args c.argTypes)
  | .builtin .cap => withW W (pCap P T c.args c.argTypes)
  | .builtin .min => withW W (pMinMax P T (Builtin.min_ c.argTypes type) c.args)
  | .builtin .max => withW W (pMinMax P T (Builtin.max_ c.argTypes type) c.args)
  | .builtin b => hBuiltin P T W b c.args c.argTypes
  | .invoke _ _ => none
def oneOpM (P : Program) (pt : Pt) (call : Callee') (round : Rounder) (T : Tr Value) (W : AW) (type : TypeId) : Op → Option (Value × AW)
  | .move x => withW W (aev T x)
  | .assign x => withW W (aev T x)
  | .load t x => withW W (rLoad P T W t x)
  | .pick c a b => withW W (pPick T c a b)
  | .nilCheck x => withW W (pNilCheck T x)
  | .binOp op t x y _ => withW W (pBin P T op t x y)
  | .unOp op _ x => withW W (pUn P T op x)
  | .convert src dst x => withW W (pConvert P T src dst x)
  | .makeInterface t x => withW W (pIface P T t x)
  | .makeFunc fn first captured => withW W (pFunc T fn first captured)
  | .field t x f => withW W (pField P T t x f)
  | .index t x i => withW W (pIndex P T t x i)
  | .fieldAddr s x f => withW W (pFieldAddr P T s x f)
  | .indexAddr t x i => withW W (pIndexAddr P T t x i)
  | .slice t x lo hi mx => withW W (pSlice P T t x lo hi mx)
  | .extract t ix => withW W (pExtract T t ix)
  | .build t parts => withW W (pBuild P T t parts)
  | .typeAssert x _ asserted ok => withW W (pAssert P T x asserted ok)
  | .lookup t m k ok => withW W (rLookup P T W t m k ok)
  | .call c => callAny P pt call round T W type c
  | .alloc t => hAlloc P W t
  | .box _ x => hBox T W x
  | .buildSlice t len parts => hBuildSlice P T W t len parts
  | .store t x y => hStore P T W t x y
  | .makeMap t r => hMakeMap P T W t r
  | .makeSlice t l c => hMakeSlice P T W t l c
  | .mapUpdate t m k x => hUpdate P T W t m k x
  | .insert t m k x => hUpdate P T W t m k x
  | .mapEntry t m k => hMapEntry P T W t m k
  | .entryStore _ m s x => hEntryStore T W m s x
  | .range t x => hRange P T W t x
  | .next x isString => hNext T W x isString
  | .entry x => hEntry T W x
  | _ => none
/-- what an operation needs to be carried out -/
abbrev OpEnv := Program → Pt → Callee' → Rounder → Tr Value → AW → TypeId → Option (Value × AW)
def opMove (x : Operand) : OpEnv := fun _ _ _ _ T W _ => withW W (aev T x)
def opAssign (x : Operand) : OpEnv := fun _ _ _ _ T W _ => withW W (aev T x)
def opPick (c : Operand) (a : Operand) (b : Operand) : OpEnv := fun _ _ _ _ T W _ => withW W (pPick T c a b)
def opAlloc (t : TypeId) : OpEnv := fun P _ _ _ _ W _ => hAlloc P W t
def opBox (_t : TypeId) (x : Operand) : OpEnv := fun _ _ _ _ T W _ => hBox T W x
def opBuild (t : TypeId) (parts : Array (Nat × Operand)) : OpEnv := fun P _ _ _ T W _ => withW W (pBuild P T t parts)
def opBuildSlice (t : TypeId) (len : Nat) (parts : Array (Nat × Operand)) : OpEnv := fun P _ _ _ T W _ => hBuildSlice P T W t len parts
def opInsert (t : TypeId) (m : Operand) (k : Operand) (x : Operand) : OpEnv := fun P _ _ _ T W _ => hUpdate P T W t m k x
def opLoad (t : TypeId) (x : Operand) : OpEnv := fun P _ _ _ T W _ => withW W (rLoad P T W t x)
def opStore (t : TypeId) (x : Operand) (y : Operand) : OpEnv := fun P _ _ _ T W _ => hStore P T W t x y
def opNilCheck (x : Operand) : OpEnv := fun _ _ _ _ T W _ => withW W (pNilCheck T x)
def opBinOp (op : BinOp) (t : TypeId) (x : Operand) (y : Operand) (_ty : TypeId) : OpEnv := fun P _ _ _ T W _ => withW W (pBin P T op t x y)
def opUnOp (op : UnOp) (_t : TypeId) (x : Operand) : OpEnv := fun P _ _ _ T W _ => withW W (pUn P T op x)
def opConvert (src : TypeId) (dst : TypeId) (x : Operand) : OpEnv := fun P _ _ _ T W _ => withW W (pConvert P T src dst x)
def opMakeInterface (t : TypeId) (x : Operand) : OpEnv := fun P _ _ _ T W _ => withW W (pIface P T t x)
def opMakeFunc (fn : Fn) (first : Array Operand) (captured : Array Operand) : OpEnv := fun _ _ _ _ T W _ => withW W (pFunc T fn first captured)
def opMakeMap (t : TypeId) (r : Option Operand) : OpEnv := fun P _ _ _ T W _ => hMakeMap P T W t r
def opMakeSlice (t : TypeId) (l : Operand) (c : Operand) : OpEnv := fun P _ _ _ T W _ => hMakeSlice P T W t l c
def opSlice (t : TypeId) (x : Operand) (lo : Option Operand) (hi : Option Operand) (mx : Option Operand) : OpEnv := fun P _ _ _ T W _ => withW W (pSlice P T t x lo hi mx)
def opFieldAddr (s : TypeId) (x : Operand) (f : Nat) : OpEnv := fun P _ _ _ T W _ => withW W (pFieldAddr P T s x f)
def opField (t : TypeId) (x : Operand) (f : Nat) : OpEnv := fun P _ _ _ T W _ => withW W (pField P T t x f)
def opIndexAddr (t : TypeId) (x : Operand) (i : Operand) : OpEnv := fun P _ _ _ T W _ => withW W (pIndexAddr P T t x i)
def opIndex (t : TypeId) (x : Operand) (i : Operand) : OpEnv := fun P _ _ _ T W _ => withW W (pIndex P T t x i)
def opLookup (t : TypeId) (m : Operand) (k : Operand) (ok : Bool) : OpEnv := fun P _ _ _ T W _ => withW W (rLookup P T W t m k ok)
def opMapUpdate (t : TypeId) (m : Operand) (k : Operand) (x : Operand) : OpEnv := fun P _ _ _ T W _ => hUpdate P T W t m k x
def opMapEntry (t : TypeId) (m : Operand) (k : Operand) : OpEnv := fun P _ _ _ T W _ => hMapEntry P T W t m k
def opEntryStore (_mt : TypeId) (m : Operand) (s : Operand) (x : Operand) : OpEnv := fun _ _ _ _ T W _ => hEntryStore T W m s x
def opRange (t : TypeId) (x : Operand) : OpEnv := fun P _ _ _ T W _ => hRange P T W t x
def opNext (x : Operand) (isString : Bool) : OpEnv := fun _ _ _ _ T W _ => hNext T W x isString
def opEntry (x : Operand) : OpEnv := fun _ _ _ _ T W _ => hEntry T W x
def opTypeAssert (x : Operand) (_xt : TypeId) (asserted : TypeId) (ok : Bool) : OpEnv := fun P _ _ _ T W _ => withW W (pAssert P T x asserted ok)
def opExtract (t : Operand) (ix : Nat) : OpEnv := fun _ _ _ _ T W _ => withW W (pExtract T t ix)
def opCall (c : Call) : OpEnv := fun P pt call round T W type => callAny P pt call round T W type c
def oneOp (P : Program) (pt : Pt) (call : Callee') (round : Rounder) (T : Tr Value) (W : AW) (type : TypeId) (op : Op) : Option (Value × AW) :=
  @Op.rec (fun _ => OpEnv) opMove opAssign opPick opAlloc opBox opBuild opBuildSlice opInsert opLoad opStore (fun _ => fun _ _ _ _ _ _ _ => none) (fun _ => fun _ _ _ _ _ _ _ => none) opNilCheck opBinOp opUnOp opConvert (fun _ _ => fun _ _ _ _ _ _ _ => none) opMakeInterface opMakeFunc opMakeMap (fun _ _ => fun _ _ _ _ _ _ _ => none) opMakeSlice opSlice opFieldAddr opField opIndexAddr opIndex opLookup opMapUpdate opMapEntry opEntryStore opRange opNext opEntry opTypeAssert opExtract opCall (fun _ => fun _ _ _ _ _ _ _ => none) (fun _ => fun _ _ _ _ _ _ _ => none) (fun _ => fun _ _ _ _ _ _ _ => none) (fun _ _ => fun _ _ _ _ _ _ _ => none) (fun _ _ _ => fun _ _ _ _ _ _ _ => none) (fun _ _ => fun _ _ _ _ _ _ _ => none) op P pt call round T W type
theorem oneOp_def (P : Program) (pt : Pt) (call : Callee') (round : Rounder) (T : Tr Value) (W : AW) (type : TypeId) (op : Op) : oneOp P pt call round T W type op = oneOpM P pt call round T W type op := by
  cases op <;> rfl
def putT (nt : Nat) (T : Tr Value) (dst : Option Tmp) (v : Value) : Option (Tr Value) :=
  match dst with
  | none => some T
  | some d => bif Nat.blt d nt then some (T.put d (some v)) else none
/-- is an operation wanted; none: that isn't known -/
def aWanted (ops : Array Oper) (T : Tr Value) (o : Oper) : Option Bool :=
  match o.guard with
  | none => some true
  | some (j, want) => match (ops[j]?).bind (·.dst) with
    | none => none
    | some d => match T.get d with
      | some (.bool b) => some (b == want)
      | some (.tuple _) => some false
      | _ => none
abbrev Row := Tr Value → AW → Option (Tr Value × AW)
def runDo (P : Program) (pt : Pt) (call : Callee') (round : Rounder) (nt : Nat) (o : Oper) (ih : Row) (T : Tr Value) (W : AW) : Option (Tr Value × AW) :=
  @Option.rec (Value × AW) (fun _ => Option (Tr Value × AW)) none
    (fun r => @Option.rec (Tr Value) (fun _ => Option (Tr Value × AW)) none (fun T' => ih T' r.2) (putT nt T o.dst r.1)) (oneOp P pt call round T W o.type o.op)
def runAsk (P : Program) (pt : Pt) (call : Callee') (round : Rounder) (nt : Nat) (ops : Array Oper) (o : Oper) (ih : Row) (T : Tr Value) (W : AW) : Option (Tr Value × AW) :=
  match aWanted ops T o with
  | some true => runDo P pt call round nt o ih T W
  | some false => match putT nt T o.dst undef with
    | some T' => ih T' W
    | none => none
  | none => none
def runStep (P : Program) (pt : Pt) (call : Callee') (round : Rounder) (nt : Nat) (ops : Array Oper) (o : Oper) (ih : Row) (T : Tr Value) (W : AW) : Option (Tr Value × AW) :=
  @Option.rec (Nat × Bool) (fun _ => Option (Tr Value × AW)) (runDo P pt call round nt o ih T W) (fun _ => runAsk P pt call round nt ops o ih T W) o.guard
/-- a row of operations, one after another -/
def runOps (P : Program) (pt : Pt) (call : Callee') (round : Rounder) (nt : Nat) (ops : Array Oper) (l : List Oper) : Row :=
  @List.rec Oper (fun _ => Row) (fun T W => some (T, W)) (fun o _ ih => runStep P pt call round nt ops o ih) l
theorem runOps_nil (P : Program) (pt : Pt) (call : Callee') (round : Rounder) (nt : Nat) (ops : Array Oper) (T : Tr Value) (W : AW) : runOps P pt call round nt ops [] T W = some (T, W) := rfl
theorem runOps_cons (P : Program) (pt : Pt) (call : Callee') (round : Rounder) (nt : Nat) (ops : Array Oper) (o : Oper) (rest : List Oper) (T : Tr Value) (W : AW) : runOps P pt call round nt ops (o :: rest) T W =
    match aWanted ops T o with
    | some true => match oneOp P pt call round T W o.type o.op with
      | some (v, W') => match putT nt T o.dst v with
        | some T' => runOps P pt call round nt ops rest T' W'
        | none => none
      | none => none
    | some false => match putT nt T o.dst undef with
      | some T' => runOps P pt call round nt ops rest T' W
      | none => none
    | none => none := by
  show runStep P pt call round nt ops o (runOps P pt call round nt ops rest) T W = _
  have e : runDo P pt call round nt o (runOps P pt call round nt ops rest) T W = match oneOp P pt call round T W o.type o.op with
      | some (v, W') => match putT nt T o.dst v with
        | some T' => runOps P pt call round nt ops rest T' W'
        | none => none
      | none => none := by
    unfold runDo
    cases oneOp P pt call round T W o.type o.op with
    | none => rfl
    | some r =>
      obtain ⟨v, W'⟩ := r
      simp only []
      cases putT nt T o.dst v <;> rfl
  unfold runStep
  cases h : o.guard with
  | none =>
    have : aWanted ops T o = some true := by unfold aWanted; rw [h]
    rw [this]; exact e
  | some g =>
    show runAsk P pt call round nt ops o (runOps P pt call round nt ops rest) T W = _
    unfold runAsk
    rw [e]

/-! ### A region that draws its order -/
def veq : Nat → Value → Value → Bool
  | _, .bool a, .bool b => a == b
  | _, .int j a, .int k b => j == k && ieq a b
  | _, .string a, .string b => a.data.toList == b.data.toList
  | _, .pointer a, .pointer b => a == b
  | _, .slice a l c, .slice b m d => a == b && Nat.beq l m && Nat.beq c d
  | _, .map a, .map b => a == b
  | _, .nilIface, .nilIface => true
  | _, .nilFunc, .nilFunc => true
  | n + 1, .iface t v, .iface u w => Nat.beq t u && veq n v w
  | n + 1, .func f a b, .func g c d => f == g && (a.size == c.size && (a.toList.zip c.toList).all fun (x, y) => veq n x y) && (b.size == d.size && (b.toList.zip d.toList).all fun (x, y) => veq n x y)
  | n + 1, .agg a, .agg b => a.size == b.size && (a.toList.zip b.toList).all fun (x, y) => veq n x y
  | n + 1, .tuple a, .tuple b => a.size == b.size && (a.toList.zip b.toList).all fun (x, y) => veq n x y
  | _, _, _ => false
/-- of each operation the operations that come ahead of it, whatever the order: a number of bits -/
def predsOf (ops : Array Oper) : List Oper → List Nat → List Nat
  | [], acc => acc.reverse
  | o :: rest, acc =>
    let arr := acc.reverse
    predsOf ops rest (o.after.toList.foldl (fun s e => bif Region.binds .any e then Nat.lor (Nat.lor s (Nat.shiftLeft 1 e.on)) (arr.getD e.on 0) else s) 0 :: acc)
def tmpsOf (o : Oper) : List Tmp := o.op.operands.toList.filterMap fun | .tmp t => some t | _ => none
/-- is the region such that its order does not matter for what it reads of its own: 'writers t': which operation writes a temporary -/
def writersOf (ops : List Oper) : Tr Nat := (ops.zipIdx).foldl (fun t (o, i) => match o.dst with | some d => t.put d (some i) | none => t) .nil
def drawStatic (ops : Array Oper) : Bool :=
  let l := ops.toList
  let ps := predsOf ops l []
  let ws := writersOf l
  -- edges lead back
  (l.zipIdx.all fun (o, i) => o.after.all fun e => !Region.binds .any e || Nat.blt e.on i) &&
  -- one writer for each temporary
  (l.zipIdx.all fun (o, i) => match o.dst with | some d => ws.get d == some i | none => true) &&
  -- what is read of the region's own is written ahead
  (l.zipIdx.all fun (o, i) => (tmpsOf o).all fun t => match ws.get t with | some j => Nat.testBit (ps.getD i 0) j || Nat.testBit (ps.getD j 0) i || Nat.beq i j | none => true) &&
  (l.zipIdx.all fun (o, i) => match o.guard with | some (j, _) => Nat.testBit (ps.getD i 0) j | none => true)
/-- what has been done at each operation, in the order of the text -/
structure Rec where
  want : Bool
  acts : Bool
  v : Value
  T : Tr Value
  W : AW
def runRec (P : Program) (pt : Pt) (call : Callee') (round : Rounder) (nt : Nat) (ops : Array Oper) : List Oper → Tr Value → AW → Option (Tr Value × AW × List Rec)
  | [], T, W => some (T, W, [])
  | o :: rest, T, W => match aWanted ops T o with
    | some true => match oneOp P pt call round T W o.type o.op with
      | some (v, W') => match putT nt T o.dst v with
        | some T' => match runRec P pt call round nt ops rest T' W' with
          | some (T'', W'', rs) => some (T'', W'', ⟨true, actsB pt T o.op, v, T, W⟩ :: rs)
          | none => none
        | none => none
      | none => none
    | some false => match putT nt T o.dst undef with
      | some T' => match runRec P pt call round nt ops rest T' W with
        | some (T'', W'', rs) => some (T'', W'', ⟨false, false, undef, T, W⟩ :: rs)
        | none => none
      | none => none
    | none => none
def countBits (p : Nat) : List Nat → Nat
  | [] => 0
  | h :: hs => (bif Nat.testBit p h then 1 else 0) + countBits p hs
/-- a reading reads the same at each of the memories at which it may come -/
def readsSame (P : Program) (T : Tr Value) (o : Oper) (u : Value) : List AW → Bool
  | [] => true
  | W :: ms => (match readOp P T W o.op with
    | some v => veq 8 u v
    | none => false) && readsSame P T o u ms
def actsOf : List Rec → Nat → List Nat
  | [], _ => []
  | r :: rs, i => bif r.acts then i :: actsOf rs (i + 1) else actsOf rs (i + 1)
def memsOf : List Rec → List AW
  | [] => []
  | r :: rs => bif r.acts then r.W :: memsOf rs else memsOf rs
def drawReads (P : Program) (ops : Array Oper) (W : AW) (rs : List Rec) : Bool :=
  let l := ops.toList
  let ps := predsOf ops l []
  let hs := actsOf rs 0
  bif hs.isEmpty then true else
  let ms := memsOf rs ++ [W]
  -- what acts is in one order
  ((hs.zip (hs.drop 1)).all fun (a, b) => Nat.testBit (ps.getD b 0) a) &&
  ((l.zip rs).zipIdx.all fun ((o, r), i) =>
    bif r.want && isRead o.op then
      let lo := countBits (ps.getD i 0) hs
      -- the first that acts and comes behind it, whatever the order
      let hi := (hs.takeWhile fun h => !Nat.testBit (ps.getD h 0) i).length
      readsSame P r.T o r.v ((ms.drop lo).take (hi + 1 - lo))
    else true)
def isMake : Op → Bool
  | .makeSlice .. => true
  | _ => false
def isStore : Op → Bool
  | .store .. => true
  | _ => false
def plainCells : Option AObj → Bool
  | some (.cells _ none) => true
  | _ => false
/-- a slice is made first, in the order of the text; what else acts are stores, in one order; a store may come ahead of it -/
def drawLate (P : Program) (ops : Array Oper) (W : AW) (rs : List Rec) : Bool :=
  let l := ops.toList
  let ps := predsOf ops l []
  match actsOf rs 0, memsOf rs ++ [W] with
  | f :: st, M0 :: ms =>
    (match ops[f]? with
      | some o => isMake o.op
      | none => false) &&
    (st.all fun h => match ops[h]?, rs[h]? with
      | some o, some r => isStore o.op && (Nat.testBit (ps.getD h 0) f || (heavyOp P r.T (r.W.set M0.size none) o.op).isSome)
      | _, _ => false) &&
    ((st.zip (st.drop 1)).all fun (a, b) => Nat.testBit (ps.getD b 0) a) &&
    (ms.all fun M => plainCells (M.heap.get M0.size)) &&
    ((l.zip rs).all fun (o, r) => bif r.want && isRead o.op then readsSame P r.T o r.v (ms ++ ms.map fun M => M.set M0.size none) else true)
  | _, _ => false
def runDraw (P : Program) (pt : Pt) (call : Callee') (round : Rounder) (nt : Nat) (ops : Array Oper) (T : Tr Value) (W : AW) : Option (Tr Value × AW) :=
  bif drawStatic ops then
    match runRec P pt call round nt ops ops.toList T W with
    | some (T', W', rs) => bif drawReads P ops W' rs || drawLate P ops W' rs then some (T', W') else none
    | none => none
  else none

/-! ### Codes -/
inductive AExit where
  | normal
  | exit (id : Nat)
  | goto (l : Nat)
  | ret
abbrev Res := Option (AExit × ASt)
/-- a loop's rounds -/
def iter (f : ASt → Res) : Nat → ASt → Res
  | 0, _ => none
  | n + 1, s => match f s with
    | some (.normal, s') => iter f n s'
    | r => r
def AW.loopAt (W : AW) (l : Nat) : Option AObj :=
  match W.heap.get l with
  | some (.loop st p T nt ps a b d) => some (.loop st p T nt ps a b d)
  | _ => none
/-- a range over a function: 'ro': the loop around, if this is a round's frame -/
def rangeF (call : Callee') (ro : Option Nat) (nt : Nat) (cont : Code → ASt → Res) (g : Operand) (params : Array Tmp) (assign body : Code) (s : ASt) : Res :=
  match (match ro with
    | some l => match s.W.heap.get l with
      | some (.loop _ _ _ _ _ _ _ d) => some (d, s.marks, s.W)
      | _ => none
    | none => some (s.W.size, s.W.size :: s.marks, s.W.alloc .marks)) with
  | none => none
  | some (d, marks, W) =>
    let l := W.size
    let W := W.alloc (.loop .ready none s.T nt params assign body d)
    match aev s.T g with
    | some (.func (.func f) first captured) => match call f (first.toList ++ [.func (.yield l) #[] #[]] ++ captured.toList) W with
      | some (_, W) => match W.heap.get l with
        | some (.loop st p T nt' ps a b d) => match st with
          | .busy => none
          | _ =>
            let W := W.set l (some (.loop .exhausted p T nt' ps a b d))
            match p with
            | none => some (.normal, ⟨s.T, marks, W⟩)
            | some c => cont c ⟨s.T, marks, W⟩
        | _ => none
      | none => none
    | _ => none
/-- what is pending behind a range over a function -/
def jump : Code → ASt → Res
  | .ret, s => some (.ret, s)
  | .exit id, s => some (.exit id, s)
  | .goto l, s => some (.goto l, s)
  | _, _ => none
abbrev CodeEnv := Program → Pt → Callee' → Rounder → Option Nat → Nat → Nat → ASt → Res
def afterRow (s : ASt) (r : Option (Tr Value × AW)) : Res :=
  @Option.rec (Tr Value × AW) (fun _ => Res) none (fun p => some (.normal, ⟨p.1, s.marks, p.2⟩)) r
def cExit (e : AExit) : CodeEnv := fun _ _ _ _ _ _ _ s => some (e, s)
def cRegion (_ : Nat) (ops : Array Oper) (draw : Bool) : CodeEnv := fun P pt call round _ nt _ s =>
  afterRow s (@Bool.rec (fun _ => Option (Tr Value × AW)) (runOps P pt call round nt ops ops.toList s.T s.W) (runDraw P pt call round nt ops s.T s.W) draw)
def thenRes (k : ASt → Res) (r : Res) : Res :=
  match r with
  | some (.normal, s') => k s'
  | r => r
def cSeq (_ _ : Code) (a b : CodeEnv) : CodeEnv := fun P pt call round ro nt lf s => thenRes (b P pt call round ro nt lf) (a P pt call round ro nt lf s)
def cCond (c : Operand) (_ _ : Code) (a b : CodeEnv) : CodeEnv := fun P pt call round ro nt lf s =>
  match aev s.T c with
  | some (.bool true) => a P pt call round ro nt lf s
  | some (.bool false) => b P pt call round ro nt lf s
  | _ => none
def blockRes (id : Nat) (r : Res) : Res :=
  match r with
  | some (.exit id', s') => bif Nat.beq id' id then some (.normal, s') else some (.exit id', s')
  | r => r
def cBlock (id : Nat) (_ : Code) (a : CodeEnv) : CodeEnv := fun P pt call round ro nt lf s => blockRes id (a P pt call round ro nt lf s)
def cLoop (_ : Code) (a : CodeEnv) : CodeEnv := fun P pt call round ro nt lf s => iter (a P pt call round ro nt lf) lf s
def cRange (g : Operand) (ps : Array Tmp) (assign body : Code) (_ _ : CodeEnv) : CodeEnv := fun _ _ call _ ro nt _ s => rangeF call ro nt jump g ps assign body s
def scopeRes (r : Res) : Res :=
  match r with
  | some (.goto _, _) => none
  | r => r
def cScope (_ : Code) (a : CodeEnv) : CodeEnv := fun P pt call round ro nt lf s => scopeRes (a P pt call round ro nt lf s)
def evCode (P : Program) (pt : Pt) (call : Callee') (round : Rounder) (ro : Option Nat) (nt lf : Nat) (c : Code) (s : ASt) : Res :=
  @Code.rec (fun _ => CodeEnv) (cExit .normal) cRegion cSeq cCond cBlock cLoop cRange (fun id => cExit (.exit id)) cScope (fun _ => cExit .normal) (fun l => cExit (.goto l)) (cExit .ret) (fun _ _ _ _ _ _ _ _ _ => none) c P pt call round ro nt lf s
section
variable (P : Program) (pt : Pt) (call : Callee') (round : Rounder) (ro : Option Nat) (nt lf : Nat) (s : ASt)
theorem evCode_skip : evCode P pt call round ro nt lf .skip s = some (.normal, s) := rfl
theorem evCode_label (l : Nat) : evCode P pt call round ro nt lf (.label l) s = some (.normal, s) := rfl
theorem evCode_regionF (id : Nat) (ops : Array Oper) : evCode P pt call round ro nt lf (.region id ops false) s = match runOps P pt call round nt ops ops.toList s.T s.W with
    | some (T, W) => some (.normal, ⟨T, s.marks, W⟩)
    | none => none := by
  show afterRow s (runOps P pt call round nt ops ops.toList s.T s.W) = _
  cases runOps P pt call round nt ops ops.toList s.T s.W <;> rfl
theorem evCode_regionT (id : Nat) (ops : Array Oper) : evCode P pt call round ro nt lf (.region id ops true) s = match runDraw P pt call round nt ops s.T s.W with
    | some (T, W) => some (.normal, ⟨T, s.marks, W⟩)
    | none => none := by
  show afterRow s (runDraw P pt call round nt ops s.T s.W) = _
  cases runDraw P pt call round nt ops s.T s.W <;> rfl
theorem evCode_seq (a b : Code) : evCode P pt call round ro nt lf (.seq a b) s = match evCode P pt call round ro nt lf a s with
    | some (.normal, s') => evCode P pt call round ro nt lf b s'
    | r => r := rfl
theorem evCode_cond (c : Operand) (a b : Code) : evCode P pt call round ro nt lf (.cond c a b) s = match aev s.T c with
    | some (.bool true) => evCode P pt call round ro nt lf a s
    | some (.bool false) => evCode P pt call round ro nt lf b s
    | _ => none := rfl
theorem evCode_block (id : Nat) (a : Code) : evCode P pt call round ro nt lf (.block id a) s = match evCode P pt call round ro nt lf a s with
    | some (.exit id', s') => bif Nat.beq id' id then some (.normal, s') else some (.exit id', s')
    | r => r := rfl
theorem evCode_loop (a : Code) : evCode P pt call round ro nt lf (.loop a) s = iter (evCode P pt call round ro nt lf a) lf s := rfl
theorem evCode_range (g : Operand) (ps : Array Tmp) (assign body : Code) : evCode P pt call round ro nt lf (.rangeFunc g ps assign body) s = rangeF call ro nt jump g ps assign body s := rfl
theorem evCode_exit (id : Nat) : evCode P pt call round ro nt lf (.exit id) s = some (.exit id, s) := rfl
theorem evCode_scope (a : Code) : evCode P pt call round ro nt lf (.scope a) s = match evCode P pt call round ro nt lf a s with
    | some (.goto _, _) => none
    | r => r := rfl
theorem evCode_goto (l : Nat) : evCode P pt call round ro nt lf (.goto l) s = some (.goto l, s) := rfl
theorem evCode_ret : evCode P pt call round ro nt lf .ret s = some (.ret, s) := rfl
theorem evCode_refuse (y : String) : evCode P pt call round ro nt lf (.refuse y) s = none := rfl
end
/-- a round: yield called -/
def evRound (P : Program) (pt : Pt) (call : Callee') (round : Rounder) (lf : Nat) (l : Nat) (args : List Value) (W : AW) : Option (Value × AW) :=
  match W.heap.get l with
  | some (.loop _ _ T nt ps assign body _) =>
    bif Nat.beq ps.size args.length && ps.all (fun t => Nat.blt t nt) then
      let T := (ps.toList.zip args).foldl (fun T (t, v) => T.put t (some v)) T
      match evCode P pt call round (some l) nt lf assign ⟨T, [], W⟩ with
      | some (.normal, s) => match s.W.heap.get l with
        | some (.loop .ready p T' nt' ps' a' b' d') =>
          match evCode P pt call round (some l) nt lf body ⟨s.T, s.marks, s.W.set l (some (.loop .busy p T' nt' ps' a' b' d'))⟩ with
          | some (e, s) => match s.W.heap.get l with
            | some (.loop _ _ T' nt' ps' a' b' d') =>
              let jmp : Option Code := match e with
                | .normal => none
                | .ret => some .ret
                | .exit id => some (.exit id)
                | .goto t => some (.goto t)
              some (.bool jmp.isNone, s.W.set l (some (.loop (bif jmp.isNone then .ready else .done) jmp T' nt' ps' a' b' d')))
            | _ => none
          | none => none
        | _ => none
      | _ => none
    else none
  | _ => none
/-- marks behind a range over a function, when the function leaves -/
def takeMarks (W : AW) : List Nat → Option AW
  | [] => some W
  | r :: rs => match W.heap.get r with
    | some .marks => takeMarks (W.set r none) rs
    | _ => none
def aResults (P : Program) (T : Tr Value) (W : AW) : List ResultVar → Option (List Value)
  | [] => some []
  | .tmp t :: rs => match T.get t, aResults P T W rs with
    | some v, some vs => some (v :: vs)
    | _, _ => none
  | .cell a t :: rs => match T.get a with
    | some (.pointer (some p)) => match W.loadVar P t p, aResults P T W rs with
      | some v, some vs => some (v :: vs)
      | _, _ => none
    | _ => none
def oneOf : List Value → Value
  | [v] => v
  | vs => .tuple vs.toArray
/-- what is told of calls ahead of all walking: contracts proved by hand -/
abbrev Told := FuncId → Option (List Value → AW → Option (Value × AW))
mutual
def evCall (P : Program) (pt : Pt) (told : Told) (lf : Nat) : Nat → Callee'
  | 0, _, _, _ => none
  | n + 1, f, args, W => match told f with
    | some c => c args W
    | none => match (Tr.ofL P.funcs.toList 0 .nil).get f with
      | none => none
      | some fn => match fn.body with
        | none => none
        | some c => bif Nat.ble args.length fn.ntmps then
            match evCode P pt (evCall P pt told lf n) (evRnd P pt told lf n) none fn.ntmps lf c ⟨Tr.ofL args 0 .nil, [], W⟩ with
            | some (.normal, s) | some (.ret, s) => match takeMarks s.W s.marks with
              | some W' => match aResults P s.T W' fn.results.toList with
                | some vs => some (oneOf vs, W')
                | none => none
              | none => none
            | _ => none
          else none
def evRnd (P : Program) (pt : Pt) (told : Told) (lf : Nat) : Nat → Rounder
  | 0, _, _, _ => none
  | n + 1, l, args, W => evRound P pt (evCall P pt told lf n) (evRnd P pt told lf n) lf l args W
end
def noTold : Told := fun _ => none
def noPt : Pt := fun _ _ => none
end
end Go.Proofs.YtcpafphgkbfahaaGreat
