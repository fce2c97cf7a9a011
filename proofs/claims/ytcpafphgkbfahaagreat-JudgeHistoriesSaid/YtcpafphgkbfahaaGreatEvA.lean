/- An evaluator of closed runs: its words. A state of names for blocks; what the blocks hold; what an operation, a code, a call makes of it. -/
import Derived.CallsIn
import Derived.OrdersIn
import Derived.RangeFuncLeaves
import Derived.KernelRfl
namespace Go.Proofs.YtcpafphgkbfahaaGreat
open Go
noncomputable section

/-! ### Tables by number -/
inductive Tr (α : Type) where
  | nil
  | node (v : Option α) (a b c d : Tr α)
/-- the recursors as they are: the kernel has less to unfold -/
noncomputable def Tr.get {α : Type} (t : Tr α) : Nat → Option α :=
  @Tr.rec α (fun _ => Nat → Option α) (fun _ => none)
    (fun v _ _ _ _ ga gb gc gd k => @Bool.rec (fun _ => Option α)
      ((fun m => @Bool.rec (fun _ => Option α)
        (@Bool.rec (fun _ => Option α) (gd (Nat.div m 4)) (gc (Nat.div m 4)) (Nat.beq (Nat.mod m 4) 2))
        (@Bool.rec (fun _ => Option α) (gb (Nat.div m 4)) (ga (Nat.div m 4)) (Nat.beq (Nat.mod m 4) 0)) (Nat.ble (Nat.mod m 4) 1)) (Nat.sub k 1))
      v (Nat.beq k 0)) t
noncomputable def Tr.putF {α : Type} (x : Option α) (f : Nat) : Tr α → Nat → Tr α :=
  @Nat.rec (fun _ => Tr α → Nat → Tr α) (fun t _ => t)
    (fun _ put t k => @Tr.rec α (fun _ => Tr α)
      (@Bool.rec (fun _ => Tr α)
        ((fun m => @Bool.rec (fun _ => Tr α)
          (@Bool.rec (fun _ => Tr α) (.node none .nil .nil .nil (put .nil (Nat.div m 4))) (.node none .nil .nil (put .nil (Nat.div m 4)) .nil) (Nat.beq (Nat.mod m 4) 2))
          (@Bool.rec (fun _ => Tr α) (.node none .nil (put .nil (Nat.div m 4)) .nil .nil) (.node none (put .nil (Nat.div m 4)) .nil .nil .nil) (Nat.beq (Nat.mod m 4) 0)) (Nat.ble (Nat.mod m 4) 1)) (Nat.sub k 1))
        (.node x .nil .nil .nil .nil) (Nat.beq k 0))
      (fun v a b c d _ _ _ _ => @Bool.rec (fun _ => Tr α)
        ((fun m => @Bool.rec (fun _ => Tr α)
          (@Bool.rec (fun _ => Tr α) (.node v a b c (put d (Nat.div m 4))) (.node v a b (put c (Nat.div m 4)) d) (Nat.beq (Nat.mod m 4) 2))
          (@Bool.rec (fun _ => Tr α) (.node v a (put b (Nat.div m 4)) c d) (.node v (put a (Nat.div m 4)) b c d) (Nat.beq (Nat.mod m 4) 0)) (Nat.ble (Nat.mod m 4) 1)) (Nat.sub k 1))
        (.node x a b c d) (Nat.beq k 0)) t) f
def Tr.put {α : Type} (t : Tr α) (k : Nat) (x : Option α) : Tr α := Tr.putF x (k + 1) t k
def Tr.ofL {α : Type} : List α → Nat → Tr α → Tr α
  | [], _, t => t
  | v :: vs, i, t => Tr.ofL vs (i + 1) (t.put i (some v))

/-! ### What a block holds; the blocks -/
inductive AObj where
  | cells (cs : Tr Value) (mate : Option Nat)
  | map (es : List MapEntry) (clock : Nat)
  | iter (m : Option Nat) (since : Nat) (seen : List Nat) (last : Nat)
  | loop (state : LoopState) (pending : Option Code) (T : Tr Value) (nt : Nat) (params : Array Tmp) (assign body : Code) (defers : Nat)
  | marks
structure AW where
  heap : Tr AObj
  size : Nat
structure ASt where
  T : Tr Value
  marks : List Nat
  W : AW
def AW.alloc (W : AW) (o : AObj) : AW := ⟨W.heap.put W.size (some o), W.size + 1⟩
def AW.set (W : AW) (b : Nat) (o : Option AObj) : AW := ⟨W.heap.put b o, W.size⟩

/-! ### Values -/
def groundB : Nat → Value → Bool
  | _, .bool _ => true
  | _, .int _ _ => true
  | _, .float _ _ => true
  | _, .complex _ _ _ => true
  | _, .string _ => true
  | _, .pointer none => true
  | _, .slice none _ _ => true
  | _, .map none => true
  | _, .chan none => true
  | _, .nilFunc => true
  | _, .nilIface => true
  | n + 1, .iface _ v => groundB n v
  | n + 1, .agg cs => cs.toList.all (groundB n)
  | n + 1, .tuple cs => cs.toList.all (groundB n)
  | _, _ => false
def runPure (P : Program) {α : Type} : Sem α → Option α
  | .pure a => some a
  | .program k => runPure P (k P)
  | _ => none
def runG (P : Program) (s : Sem Value) : Option Value :=
  match runPure P s with
  | some v => bif groundB 8 v then some v else none
  | none => none
def aev (T : Tr Value) : Operand → Option Value
  | .tmp t => T.get t
  | .const v => bif groundB 8 v then some v else none
  | .global _ => none
  | .func f => some (.func (.func f) #[] #[])
def aevs (T : Tr Value) : List Operand → Option (List Value)
  | [] => some []
  | x :: xs => match aev T x, aevs T xs with
    | some v, some vs => some (v :: vs)
    | _, _ => none
def aevo (T : Tr Value) : Option Operand → Option (Option Value)
  | none => some none
  | some x => match aev T x with
    | some v => some (some v)
    | none => none
def wrapF (k : IntKind) (n : Int) : Int :=
  match k, n with
  | .i64, .ofNat m => bif Nat.ble m 9223372036854775807 then .ofNat m else k.wrap (.ofNat m)
  | .i64, .negSucc m => bif Nat.ble m 9223372036854775807 then .negSucc m else k.wrap (.negSucc m)
  | k, n => k.wrap n
def ilt : Int → Int → Bool
  | .ofNat a, .ofNat b => Nat.blt a b
  | .ofNat _, .negSucc _ => false
  | .negSucc _, .ofNat _ => true
  | .negSucc a, .negSucc b => Nat.blt b a
def ieq : Int → Int → Bool
  | .ofNat a, .ofNat b => Nat.beq a b
  | .negSucc a, .negSucc b => Nat.beq a b
  | _, _ => false
def aIntBin (P : Program) (op : BinOp) (k : IntKind) (a b : Int) : Option Value :=
  match op with
  | .add => some (.int k (wrapF k (a + b)))
  | .sub => some (.int k (wrapF k (a - b)))
  | .mul => some (.int k (wrapF k (a * b)))
  | .eql => some (.bool (ieq a b))
  | .neq => some (.bool (!ieq a b))
  | .lss => some (.bool (ilt a b))
  | .leq => some (.bool (!ilt b a))
  | .gtr => some (.bool (ilt b a))
  | .geq => some (.bool (!ilt a b))
  | .quo | .rem => runG P (Op.intDiv op k a b)
  | .and | .or | .xor | .andNot => runG P (Op.intBits op k a b)
  | _ => none
/-- may two values of a type be compared, one of them none -/
def aNil (d : TypeDesc) (x y : Value) : Option Bool :=
  match d, x, y with
  | .pointer _, .pointer none, .pointer b => some b.isNone
  | .pointer _, .pointer (some _), .pointer none => some false
  | .slice _, .slice none _ _, .slice b _ _ => some b.isNone
  | .slice _, .slice (some _) _ _, .slice none _ _ => some false
  | .map _ _, .map none, .map b => some b.isNone
  | .map _ _, .map (some _), .map none => some false
  | .func _ _ _, .nilFunc, .func _ _ _ => some false
  | .func _ _ _, .func _ _ _, .nilFunc => some false
  | .interface _, .nilIface, .iface _ _ => some false
  | .interface _, .iface _ _, .nilIface => some false
  | _, _, _ => none
def isNilIface : Value → Bool
  | .nilIface => true
  | _ => false
def isAggV : Value → Bool
  | .agg _ => true
  | _ => false
def aBin (P : Program) (op : BinOp) (t : TypeId) (x y : Operand) (a b : Value) : Option Value :=
  match a, b with
  | .int k m, .int k' n =>
    match op with
    | .shl => runG P (Op.shift .shl k m k' n)
    | .shr => runG P (Op.shift .shr k m k' n)
    | _ => if k = k' then aIntBin P op k m n else none
  | a, b =>
    bif groundB 8 a && groundB 8 b then runG P (do eqGuard op t x y a b; binOp op t a b) else
    match P.underlying t with
    | some d => match op, aNil d a b with
      | .eql, some r => some (.bool r)
      | .neq, some r => some (.bool (!r))
      | _, _ => none
    | none => none
def aInt : Value → Option (IntKind × Int)
  | .int k n => some (k, n)
  | _ => none
/-- a number within 0 and a bound -/
def aBound (v : Value) (y : Nat) : Option Nat :=
  match v with
  | .int _ (.ofNat n) => bif Nat.ble n y then some n else none
  | _ => none
def aBounds (len cap : Nat) (low high max : Option Value) : Option (Nat × Nat × Nat) :=
  match (match max with
    | some v => aBound v cap
    | none => some cap) with
  | none => none
  | some m =>
    match (match high, max with
      | some v, some _ => aBound v m
      | some v, none => aBound v m
      | none, none => bif Nat.ble len m then some len else none
      | none, some _ => none) with
    | none => none
    | some h =>
      match low with
      | some v => match aBound v h with
        | some l => some (l, h, m)
        | none => none
      | none => some (0, h, m)
def aggB : TypeDesc → Bool
  | .struct _ => true
  | .array _ _ => true
  | _ => false
def apart' (P : Program) (t : TypeId) (cs : Array Value) (off : Nat) : Option Value :=
  match P.underlying t, P.info? t with
  | some d, some i => bif aggB d then some (.agg (cs.extract off (off + i.size))) else cs[off]?
  | _, _ => none
def addA (a : Addr) (n : Nat) : Addr := ⟨a.block, a.off + n, none⟩
def optG : Option Value → Bool
  | none => true
  | some v => groundB 8 v
def aSlice (P : Program) (t : TypeId) (x : Value) (lo hi mx : Option Value) : Option Value :=
  match P.underlying t, x with
  | some (.array n elem), .pointer (some a) =>
    match P.info? elem, aBounds n n lo hi mx with
    | some i, some (l, h, m) => some (.slice (some (addA a (bif Nat.beq m l then 0 else l * i.size))) (h - l) (m - l))
    | _, _ => none
  | some (.slice elem), .slice a len cap =>
    match P.info? elem, aBounds len cap lo hi mx with
    | some i, some (l, h, m) => match a with
      | none => some (.slice none (h - l) (m - l))
      | some a => match a.spot with
        | none => some (.slice (some (addA a (bif Nat.beq m l then 0 else l * i.size))) (h - l) (m - l))
        | some es => bif Nat.beq es i.size then
            some (.slice (some ⟨a.block, a.off + (bif Nat.beq m l then 0 else l * i.size), bif mx.isSome && !(Nat.beq cap 0) then none else some es⟩) (h - l) (m - l))
          else none
    | _, _ => none
  | some .string, .string s => bif optG lo && (optG hi && optG mx) then runG P (Instr.slice t (.string s) lo hi mx) else none
  | _, _ => none
def fnOk : Fn → Bool
  | .yield _ => false
  | _ => true
def aParts (T : Tr Value) : List (Nat × Operand) → Option (List (Nat × Value))
  | [] => some []
  | (i, x) :: r => match aev T x, aParts T r with
    | some v, some vs => some ((i, v) :: vs)
    | _, _ => none
def zeroOf (P : Program) (t : TypeId) : Option Value :=
  match P.info? t with
  | some i => match i.zero with
    | some z => bif groundB 8 z then some z else none
    | none => none
  | none => none
/-! operations that ask nothing of memory and turn nothing -/
def pPick (T : Tr Value) (c a b : Operand) : Option Value :=
  match aev T c with
  | some (.bool true) => aev T a
  | some (.bool false) => aev T b
  | _ => none
def pNilCheck (T : Tr Value) (x : Operand) : Option Value :=
  match aev T x with
  | some (.pointer (some a)) => some (.pointer (some a))
  | some (.map r) => some (.map r)
  | some (.slice a l c) => some (.slice a l c)
  | some (.func (.func f) first cap) => some (.func (.func f) first cap)
  | some (.func (.yield f) first cap) => some (.func (.yield f) first cap)
  | some (.iface t v) => some (.iface t v)
  | _ => none
def pBin (P : Program) (T : Tr Value) (op : BinOp) (t : TypeId) (x y : Operand) : Option Value :=
  match aev T x, aev T y with
  | some a, some b => aBin P op t x y a b
  | _, _ => none
def pUn (P : Program) (T : Tr Value) (op : UnOp) (x : Operand) : Option Value :=
  match op, aev T x with
  | .not, some (.bool b) => some (.bool (!b))
  | op, some (.int k n) => runG P (Op.unary op (.int k n))
  | _, _ => none
def pConvert (P : Program) (T : Tr Value) (src dst : TypeId) (x : Operand) : Option Value :=
  match aev T x with
  | some v => bif groundB 8 v then runG P (convert src dst v) else none
  | none => none
def pIface (P : Program) (T : Tr Value) (t : TypeId) (x : Operand) : Option Value :=
  match P.underlying t, aev T x with
  | some (.interface _), _ => none
  | some _, some v => some (.iface t v)
  | _, _ => none
def pFunc (T : Tr Value) (fn : Fn) (first captured : Array Operand) : Option Value :=
  match aevs T first.toList, aevs T captured.toList with
  | some a, some b => bif fnOk fn then some (.func fn a.toArray b.toArray) else none
  | _, _ => none
def pField (P : Program) (T : Tr Value) (t : TypeId) (x : Operand) (f : Nat) : Option Value :=
  match P.underlying t, aev T x with
  | some (.struct fields), some (.agg cs) => match fields[f]? with
    | some f => apart' P f.type cs f.offset
    | none => none
  | _, _ => none
def pIndex (P : Program) (T : Tr Value) (t : TypeId) (x i : Operand) : Option Value :=
  match P.underlying t, aev T x, aev T i with
  | some (.array len elem), some (.agg cs), some (.int _ (.ofNat n)) => match P.info? elem with
    | some e => bif Nat.blt n len then apart' P elem cs (n * e.size) else none
    | none => none
  | some .string, some (.string s), some (.int k n) => runG P (Instr.index t (.string s) (.int k n))
  | _, _, _ => none
def pFieldAddr (P : Program) (T : Tr Value) (s : TypeId) (x : Operand) (f : Nat) : Option Value :=
  match P.underlying s, aev T x with
  | some (.struct fields), some (.pointer (some a)) => match fields[f]? with
    | some f => match P.info? f.type with
      | some i => bif Nat.beq i.size 0 then none else some (.pointer (some (addA a f.offset)))
      | none => none
    | none => none
  | _, _ => none
def pIndexAddr (P : Program) (T : Tr Value) (t : TypeId) (x i : Operand) : Option Value :=
  match P.underlying t, aev T x, aev T i with
  | some (.array len elem), some (.pointer (some a)), some (.int _ (.ofNat n)) => match P.info? elem with
    | some e => bif Nat.blt n len then some (.pointer (some (addA a (n * e.size)))) else none
    | none => none
  | some (.slice elem), some (.slice (some a) len _), some (.int _ (.ofNat n)) => match P.info? elem with
    | some e => bif Nat.blt n len then some (.pointer (some (addA a (n * e.size)))) else none
    | none => none
  | _, _, _ => none
def pSlice (P : Program) (T : Tr Value) (t : TypeId) (x : Operand) (lo hi mx : Option Operand) : Option Value :=
  match aev T x, aevo T lo, aevo T hi, aevo T mx with
  | some v, some l, some h, some m => aSlice P t v l h m
  | _, _, _, _ => none
def pExtract (T : Tr Value) (t : Operand) (ix : Nat) : Option Value :=
  match aev T t with
  | some (.tuple vs) => vs[ix]?
  | _ => none
def pBuild (P : Program) (T : Tr Value) (t : TypeId) (parts : Array (Nat × Operand)) : Option Value :=
  match zeroOf P t, P.underlying t, aParts T parts.toList with
  | some z, some (.struct fields), some ps =>
    match runPure P (fields.mapM fun f => do pure (f.offset, ← sizeOf f.type)) with
    | some places => match Instr.fill (places[·]?) z.cells ps with
      | some cs => some (.agg cs)
      | none => none
    | none => none
  | some z, some (.array _ elem), some ps => match P.info? elem with
    | some e => match Instr.fill (fun i => some (i * e.size, e.size)) z.cells ps with
      | some cs => some (.agg cs)
      | none => none
    | none => none
  | _, _, _ => none
def pAssert (P : Program) (T : Tr Value) (x : Operand) (asserted : TypeId) (ok : Bool) : Option Value :=
  match P.underlying asserted, aev T x with
  | some (.interface _), _ => none
  | some _, some (.iface t v) =>
    bif Nat.beq t asserted then some (if ok then .tuple #[v, .bool true] else v)
    else bif ok then match zeroOf P asserted with
      | some z => some (.tuple #[z, .bool false])
      | none => none
    else none
  | some _, some .nilIface => bif ok then match zeroOf P asserted with
      | some z => some (.tuple #[z, .bool false])
      | none => none
    else none
  | _, _ => none
def pLen (P : Program) (T : Tr Value) (args : Array Operand) (argTypes : Array TypeId) : Option Value :=
  match (argTypes[0]?).bind P.underlying, args.toList with
  | some (.slice _), [x] => match aev T x with
    | some (.slice _ n _) => some (.int .i64 n)
    | _ => none
  | some .string, [x] => match aev T x with
    | some (.string s) => some (.int .i64 s.size)
    | _ => none
  | some (.array n _), [x] => match aev T x with
    | some _ => some (.int .i64 n)
    | _ => none
  | _, _ => none
def pCap (P : Program) (T : Tr Value) (args : Array Operand) (argTypes : Array TypeId) : Option Value :=
  match (argTypes[0]?).bind P.underlying, args.toList with
  | some (.slice _), [x] => match aev T x with
    | some (.slice none _ n) => some (.int .i64 n)
    | _ => none
  | _, _ => none
def pMinMax (P : Program) (T : Tr Value) (f : Array Value → Sem Value) (args : Array Operand) : Option Value :=
  match aevs T args.toList with
  | some vs => bif vs.all (groundB 8) then runG P (f vs.toArray) else none
  | none => none
def pCall (P : Program) (T : Tr Value) (type : TypeId) (c : Call) : Option Value :=
  match c.callee with
  | .builtin .cap => pCap P T c.args c.argTypes
  | .builtin .min => pMinMax P T (Builtin.min_ c.argTypes type) c.args
  | .builtin .max => pMinMax P T (Builtin.max_ c.argTypes type) c.args
  | _ => none
def pureOp (P : Program) (T : Tr Value) (type : TypeId) : Op → Option Value
  | .move x => aev T x
  | .assign x => aev T x
  | .pick c a b => pPick T c a b
  | .nilCheck x => pNilCheck T x
  | .binOp op t x y _ => pBin P T op t x y
  | .unOp op _ x => pUn P T op x
  | .convert src dst x => pConvert P T src dst x
  | .makeInterface t x => pIface P T t x
  | .makeFunc fn first captured => pFunc T fn first captured
  | .field t x f => pField P T t x f
  | .index t x i => pIndex P T t x i
  | .fieldAddr s x f => pFieldAddr P T s x f
  | .indexAddr t x i => pIndexAddr P T t x i
  | .slice t x lo hi mx => pSlice P T t x lo hi mx
  | .extract t ix => pExtract T t ix
  | .build t parts => pBuild P T t parts
  | .typeAssert x _ asserted ok => pAssert P T x asserted ok
  | .call c => pCall P T type c
  | _ => none
def isPure : Op → Bool
  | .move _ => true
  | .assign _ => true
  | .pick .. => true
  | .nilCheck _ => true
  | .binOp .. => true
  | .unOp .. => true
  | .convert .. => true
  | .makeInterface .. => true
  | .makeFunc .. => true
  | .field .. => true
  | .index .. => true
  | .fieldAddr .. => true
  | .indexAddr .. => true
  | .slice .. => true
  | .extract .. => true
  | .build .. => true
  | .typeAssert .. => true
  | .call c => match c.callee with
    | .builtin .min => true
    | .builtin .max => true
    | .builtin .cap => true
    | _ => false
  | _ => false

/-! ### Reading -/
def loadN (cs : Tr Value) : Nat → Nat → Option (List Value)
  | _, 0 => some []
  | o, n + 1 => match cs.get o, loadN cs (o + 1) n with
    | some v, some vs => some (v :: vs)
    | _, _ => none
def AW.cells (W : AW) (b : Nat) : Option (Tr Value) :=
  match W.heap.get b with
  | some (.cells cs _) => some cs
  | _ => none
def AW.load (W : AW) (a : Addr) (n : Nat) : Option (List Value) :=
  match W.cells a.block with
  | some cs => loadN cs a.off n
  | none => none
def AW.loadVar (P : Program) (W : AW) (t : TypeId) (a : Addr) : Option Value :=
  match P.underlying t, P.info? t with
  | some d, some i =>
    bif aggB d then match W.load a i.size with
      | some vs => some (.agg vs.toArray)
      | none => none
    else match W.load a 1 with
      | some [v] => some v
      | _ => none
  | _, _ => none
def AW.map (W : AW) (m : Option Nat) : Option (List MapEntry) :=
  match m with
  | none => some []
  | some r => match W.heap.get r with
    | some (.map es _) => some es
    | _ => none
def askKey (P : Program) (kt : TypeId) (k : Value) : List MapEntry → Nat → Option (Option (Nat × Value))
  | [], _ => some none
  | e :: es, i => match runPure P (Op.equal kt k e.key) with
    | some true => some (some (i, e.val))
    | some false => askKey P kt k es (i + 1)
    | none => none
def seekKey (P : Program) (kt : TypeId) (k : Value) (es : List MapEntry) : Option (Option (Nat × Value)) :=
  match P.underlying kt with
  | none => none
  | some d => match Instr.findNow d k es 0 with
    | some r => some r
    | none => askKey P kt k es 0
def keyOk (P : Program) (empty : Bool) (kt : TypeId) (k : Value) : Bool :=
  groundB 8 k && (runPure P (Instr.checkKey empty 10000 kt k)).isSome
def rLoad (P : Program) (T : Tr Value) (W : AW) (t : TypeId) (x : Operand) : Option Value :=
  match aev T x with
  | some (.pointer (some a)) => W.loadVar P t a
  | _ => none
def rLookup (P : Program) (T : Tr Value) (W : AW) (t : TypeId) (m k : Operand) (ok : Bool) : Option Value :=
  match P.underlying t, aev T m, aev T k with
  | some (.map kt et), some (.map r), some k => match W.map r with
    | some es => bif keyOk P es.isEmpty kt k then match seekKey P kt k es with
        | some (some (_, v)) => some (if ok then .tuple #[v, .bool true] else v)
        | some none => match zeroOf P et with
          | some z => some (if ok then .tuple #[z, .bool false] else z)
          | none => none
        | none => none
      else none
    | none => none
  | _, _, _ => none
def rLen (P : Program) (T : Tr Value) (W : AW) (args : Array Operand) (argTypes : Array TypeId) : Option Value :=
  match (argTypes[0]?).bind P.underlying, args.toList with
  | some (.map _ _), [x] => match aev T x with
    | some (.map r) => match W.map r with
      | some es => some (.int .i64 es.length)
      | none => none
    | _ => none
  | _, _ => pLen P T args argTypes
def rCall (P : Program) (T : Tr Value) (W : AW) (c : Call) : Option Value :=
  match c.callee with
  | .builtin .len => rLen P T W c.args c.argTypes
  | _ => none
def readOp (P : Program) (T : Tr Value) (W : AW) : Op → Option Value
  | .load t x => rLoad P T W t x
  | .lookup t m k ok => rLookup P T W t m k ok
  | .call c => rCall P T W c
  | _ => none
def isRead : Op → Bool
  | .load .. => true
  | .lookup .. => true
  | .call c => match c.callee with
    | .builtin .len => true
    | _ => false
  | _ => false

/-! ### Writing -/
def storeN (cs : Tr Value) : Nat → List Value → Option (Tr Value)
  | _, [] => some cs
  | o, v :: vs => match cs.get o with
    | some _ => bif v.oneCell' then storeN (cs.put o (some v)) (o + 1) vs else none
    | none => none
def AW.store (W : AW) (a : Addr) (vs : List Value) : Option AW :=
  match vs with
  | [] => some W
  | vs => match W.heap.get a.block with
    | some (.cells cs mate) => match storeN cs a.off vs with
      | some cs' => match mate with
        | none => some (W.set a.block (some (.cells cs' none)))
        | some m => some ((W.set m none).set a.block (some (.cells cs' none)))
      | none => none
    | _ => none
def newCells (W : AW) (vs : List Value) (mate : Option Nat) : AW := W.alloc (.cells (Tr.ofL vs 0 .nil) mate)
def zerosN (z : List Value) : Nat → List Value
  | 0 => []
  | n + 1 => z ++ zerosN z n
def noneFrom (cs : Tr Value) : Nat → Nat → Bool
  | _, 0 => true
  | o, n + 1 => (cs.get o).isNone && noneFrom cs (o + 1) n
def small : Nat := 1000000
def AW.unmate (W : AW) : Option Nat → AW
  | none => W
  | some m => W.set m none
/-- a slice that append made: its capacity is a lower bound; 'es': the size of its elements -/
def grown' (b len es : Nat) : Value := .slice (some ⟨b, 0, some es⟩) len len
/-- append of cells (m elements of size 'es') to a slice -/
def aAppend (W : AW) (es : Nat) (base : Option Addr) (len cap m : Nat) (new : List Value) : Option (Value × AW) :=
  let need := len + m
  bif Nat.ble need cap then
    match base with
    | none => some (.slice none need cap, W)
    | some a => match W.store (addA a (len * es)) new with
      | some W' => some (.slice (some a) need cap, W')
      | none => none
  else bif !(Nat.ble need small) then none else
    match base with
    | none => bif Nat.beq len 0 then some (grown' W.size need es, newCells W new none) else none
    | some a => match a.spot with
      | none => match (bif Nat.beq (len * es) 0 then some [] else W.load a (len * es)) with
        | some old => some (grown' W.size need es, newCells W (old ++ new) none)
        | none => none
      | some es' => bif Nat.beq es es' && new.all Value.oneCell' then
        match W.heap.get a.block with
        | some (.cells cs mate) =>
          let V := W.unmate mate
          bif Nat.beq cap 0 then
            bif Nat.beq len 0 then some (grown' W.size need es, newCells (V.set a.block none) new none) else none
          else bif noneFrom cs (a.off + len * es) (m * es) then
            match loadN cs a.off (len * es) with
            | some old => some (grown' W.size need es, newCells (V.set a.block (some (.cells cs (some W.size)))) (old ++ new) (some a.block))
            | none => none
          else none
        | _ => none
        else none
def lenOfV : Value → Option Nat
  | .slice _ n _ => some n
  | .string s => some s.size
  | _ => none
def firstN (W : AW) (es n : Nat) : Value → Option (List Value)
  | .slice (some a) _ _ => bif Nat.beq (n * es) 0 then some [] else W.load a (n * es)
  | .slice none _ _ => some []
  | .string s => some ((s.extract 0 n).data.map fun b => Value.int .u8 b.toNat).toList
  | _ => none
def intDesc : TypeDesc → Bool
  | .int _ => true
  | _ => false
def rowDesc : TypeDesc → Bool
  | .slice _ => true
  | .string => true
  | _ => false
def aClear (P : Program) (W : AW) (d : TypeDesc) : Value → Option (Value × AW)
  | .map none => some (.tuple #[], W)
  | .map (some r) => match W.heap.get r with
    | some (.map _ clock) => some (.tuple #[], W.set r (some (.map [] clock)))
    | _ => none
  | .slice base len _ => bif Nat.beq len 0 then some (.tuple #[], W) else match d, base with
    | .slice elem, some a => match zeroOf P elem with
      | some z => match W.store a (zerosN z.cells.toList len) with
        | some W' => some (.tuple #[], W')
        | none => none
      | none => none
    | _, _ => none
  | _ => none
def heavyBuiltin (P : Program) (W : AW) (b : Builtin) (argTypes : Array TypeId) (args : List Value) : Option (Value × AW) :=
  match b, args with
  | .append, [.slice base len cap, x] =>
    match argTypes[0]?, (argTypes[1]?).bind P.underlying with
    | some st, some xd => match P.underlying st with
      | some (.slice elem) => match P.info? elem, zeroOf P elem with
        | some i, some z =>
          bif !(Nat.beq z.cells.size i.size) then none else
          bif !(Nat.ble i.bytes small) then none else
          bif intDesc xd then
            match x with
            | .int _ (.ofNat n) => bif Nat.ble n small then aAppend W i.size base len cap n (zerosN z.cells.toList n) else none
            | _ => none
          else bif rowDesc xd then match lenOfV x with
            | some n => match firstN W i.size n x with
              | some new => bif Nat.beq new.length (n * i.size) then aAppend W i.size base len cap n new else none
              | none => none
            | none => none
          else none
        | _, _ => none
      | _ => none
    | _, _ => none
  | .copy, [.slice base dl _, x] =>
    match argTypes[0]? with
    | some st => match P.underlying st with
      | some (.slice elem) => match P.info? elem, lenOfV x with
        | some i, some n => match firstN W i.size (Nat.min n dl) x with
          | some cs => match base with
            | none => some (.int .i64 (Nat.min n dl), W)
            | some a => bif Nat.beq dl 0 then some (.int .i64 0, W) else match W.store a cs with
              | some W' => some (.int .i64 (Nat.min n dl), W')
              | none => none
          | none => none
        | _, _ => none
      | _ => none
    | none => none
  | .clear, [x] => match (argTypes[0]?).bind P.underlying with
    | some d => aClear P W d x
    | none => none
  | .delete, [.map r, k] =>
    match (argTypes[0]?).bind P.underlying with
    | some (.map kt _) => match r with
      | none => bif keyOk P true kt k then some (.tuple #[], W) else none
      | some r => match W.heap.get r with
        | some (.map es clock) => bif keyOk P es.isEmpty kt k then match seekKey P kt k es with
            | some (some (i, _)) => some (.tuple #[], W.set r (some (.map (es.eraseIdx i) clock)))
            | some none => some (.tuple #[], W.set r (some (.map es clock)))
            | none => none
          else none
        | _ => none
    | _ => none
  | _, _ => none
def setVal (es : List MapEntry) (i : Nat) (k v : Value) : List MapEntry := es.modify i fun e => { e with key := k, val := v }
def storable (v : Value) : Bool := v.cells.toList.all Value.oneCell'
def hAlloc (P : Program) (W : AW) (t : TypeId) : Option (Value × AW) :=
  match zeroOf P t, P.info? t with
  | some z, some _ => some (.pointer (some ⟨W.size, 0, none⟩), newCells W z.cells.toList none)
  | _, _ => none
def hBox (T : Tr Value) (W : AW) (x : Operand) : Option (Value × AW) :=
  match aev T x with
  | some v => some (.pointer (some ⟨W.size, 0, none⟩), newCells W v.cells.toList none)
  | none => none
def hBuildSlice (P : Program) (T : Tr Value) (W : AW) (t : TypeId) (len : Nat) (parts : Array (Nat × Operand)) : Option (Value × AW) :=
  match P.underlying t, aParts T parts.toList with
  | some (.slice elem), some ps => match P.info? elem, zeroOf P elem with
    | some i, some z => bif Nat.beq z.cells.size i.size && Nat.ble (len * i.size) small then
        match Instr.fill (fun j => some (j * i.size, i.size)) (zerosN z.cells.toList len).toArray ps with
        | some cs => some (.slice (some ⟨W.size, 0, none⟩) len len, newCells W cs.toList none)
        | none => none
      else none
    | _, _ => none
  | _, _ => none
def hStore (P : Program) (T : Tr Value) (W : AW) (t : TypeId) (x y : Operand) : Option (Value × AW) :=
  match aev T x, aev T y, P.info? t with
  | some (.pointer (some a)), some v, some i => bif Nat.beq v.cells.size i.size then match W.store a v.cells.toList with
      | some W' => some (undef, W')
      | none => none
    else none
  | _, _, _ => none
def hMakeMap (P : Program) (T : Tr Value) (W : AW) (t : TypeId) (r : Option Operand) : Option (Value × AW) :=
  match r with
  | none => some (.map (some W.size), W.alloc (.map [] 0))
  | some x => match P.underlying t, aev T x with
    | some (.map _ _), some (.int _ _) => some (.map (some W.size), W.alloc (.map [] 0))
    | _, _ => none
def hMakeSlice (P : Program) (T : Tr Value) (W : AW) (t : TypeId) (l c : Operand) : Option (Value × AW) :=
  match P.underlying t, aev T l, aev T c with
  | some (.slice elem), some (.int .i64 (.ofNat l)), some (.int .i64 (.ofNat c)) => match P.info? elem, zeroOf P elem with
    | some i, some z => bif Nat.beq z.cells.size i.size && Nat.ble l c && Nat.ble c small && Nat.ble i.bytes small then
        some (.slice (some ⟨W.size, 0, none⟩) l c, newCells W (zerosN z.cells.toList c) none)
      else none
    | _, _ => none
  | _, _, _ => none
def hUpdate (P : Program) (T : Tr Value) (W : AW) (t : TypeId) (m k x : Operand) : Option (Value × AW) :=
  match P.underlying t, aev T m, aev T k, aev T x with
  | some (.map kt _), some (.map (some r)), some k, some v => match W.heap.get r with
    | some (.map es clock) => bif keyOk P false kt k then match seekKey P kt k es with
        | some (some (i, _)) => bif Instr.sameBits 10000 (((es[i]?).map (·.key)).getD k) k then some (undef, W.set r (some (.map (setVal es i k v) clock))) else none
        | some none => some (undef, W.set r (some (.map (es ++ [{ key := k, val := v, born := clock }]) (clock + 1))))
        | none => none
      else none
    | _ => none
  | _, _, _, _ => none
def hMapEntry (P : Program) (T : Tr Value) (W : AW) (t : TypeId) (m k : Operand) : Option (Value × AW) :=
  match P.underlying t, aev T m, aev T k with
  | some (.map kt et), some (.map (some r)), some k => match W.heap.get r with
    | some (.map es clock) => bif keyOk P false kt k then match seekKey P kt k es with
        | some (some (i, v)) => bif Instr.sameBits 10000 (((es[i]?).map (·.key)).getD k) k then
            some (.tuple #[v, .int .i64 (((es[i]?).map (·.born)).getD 0)], W.set r (some (.map (es.modify i fun e => { e with key := k }) clock))) else none
        | some none => match zeroOf P et with
          | some z => some (.tuple #[z, .int .i64 clock], W.set r (some (.map (es ++ [{ key := k, val := z, born := clock }]) (clock + 1))))
          | none => none
        | none => none
      else none
    | _ => none
  | _, _, _ => none
def hEntryStore (T : Tr Value) (W : AW) (m s x : Operand) : Option (Value × AW) :=
  match aev T m, aev T s, aev T x with
  | some (.map (some r)), some (.int _ born), some v => match W.heap.get r with
    | some (.map es clock) => match es.findIdx? (fun e => (e.born : Int) == born) with
      | some i => some (undef, W.set r (some (.map (es.modify i fun e => { e with val := v }) clock)))
      | none => none
    | _ => none
  | _, _, _ => none
def hRange (P : Program) (T : Tr Value) (W : AW) (t : TypeId) (x : Operand) : Option (Value × AW) :=
  match P.underlying t, aev T x with
  | some (.map _ _), some (.map none) => some (.pointer (some ⟨W.size, 0, none⟩), W.alloc (.iter none 0 [] 0))
  | some (.map _ _), some (.map (some m)) => match W.heap.get m with
    | some (.map _ clock) => some (.pointer (some ⟨W.size, 0, none⟩), W.alloc (.iter (some m) clock [] clock))
    | _ => none
  | _, _ => none
def hNext (T : Tr Value) (W : AW) (x : Operand) (isString : Bool) : Option (Value × AW) :=
  bif isString then none else match aev T x with
  | some (.pointer (some ⟨r, 0, none⟩)) => match W.heap.get r with
    | some (.iter none _ _ _) => some (.tuple #[.bool false], W)
    | some (.iter (some m) since seen last) => match W.heap.get m with
      | some (.map es clock) =>
        bif !seen.isEmpty && !es.isEmpty && es.all (fun e => Nat.ble last e.born) then none else
        match es.filter fun e => !seen.contains e.born with
        | [] => some (.tuple #[.bool false], W)
        | [e] => bif Nat.blt e.born since then some (.tuple #[.bool true, e.key, e.val], W.set r (some (.iter (some m) since (seen ++ [e.born]) clock))) else none
        | _ => none
      | _ => none
    | _ => none
  | _ => none
def hEntry (T : Tr Value) (W : AW) (x : Operand) : Option (Value × AW) :=
  match aev T x with
  | some (.pointer (some ⟨r, 0, none⟩)) => match W.heap.get r with
    | some (.iter (some m) _ seen last) => match W.heap.get m, seen.getLast? with
      | some (.map es clock), some stamp => bif Nat.beq clock last then match es.find? (fun e => e.born == stamp) with
          | some e => some (.tuple #[e.key, e.val], W)
          | none => none
        else none
      | _, _ => none
    | _ => none
  | _ => none
def hBuiltin (P : Program) (T : Tr Value) (W : AW) (b : Builtin) (args : Array Operand) (argTypes : Array TypeId) : Option (Value × AW) :=
  match aevs T args.toList with
  | some vs => heavyBuiltin P W b argTypes vs
  | none => none
def hCall (P : Program) (T : Tr Value) (W : AW) (c : Call) : Option (Value × AW) :=
  match c.callee with
  | .builtin b => hBuiltin P T W b c.args c.argTypes
  | _ => none
def heavyOp (P : Program) (T : Tr Value) (W : AW) : Op → Option (Value × AW)
  | .alloc t => hAlloc P W t
  | .box _ x => hBox T W x
  | .buildSlice t len parts => hBuildSlice P T W t len parts
  | .store t x y => hStore P T W t x y
  | .makeMap t r => hMakeMap P T W t r
  | .makeSlice t l c => hMakeSlice P T W t l c
  | .mapUpdate t m k x => hUpdate P T W t m k x
  | .insert t m k x => hUpdate P T W t m k x
  | .mapEntry t m k => hMapEntry P T W t m k
  | .entryStore _ m s x => hEntryStore T W m s x
  | .range t x => hRange P T W t x
  | .next x isString => hNext T W x isString
  | .entry x => hEntry T W x
  | .call c => hCall P T W c
  | _ => none
end
end Go.Proofs.YtcpafphgkbfahaaGreat
