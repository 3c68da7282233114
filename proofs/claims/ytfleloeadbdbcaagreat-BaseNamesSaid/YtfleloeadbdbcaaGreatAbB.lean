/- The abstract machine's operations and code. -/
import Derived.Test.YtfleloeadbdbcaaGreatAbA
namespace Go.Ab

/-- What a run of the model's that touches no memory comes to. -/
def pureRun {α : Type} (p : Program) : Sem α → Option α
  | .pure a => some a
  | .program k => pureRun p (k p)
  | .mark _ k => pureRun p k
  | _ => none

/-- The same as the model's wrap, fast for the kernel. -/
noncomputable def wrapF (k : IntKind) (n : Int) : Int := match k with
  | .i64 => Int.rec (motive := fun _ => Int) (fun m => bite (Nat.blt m 9223372036854775808) (.ofNat m) (IntKind.i64.wrap (.ofNat m))) (fun m => bite (Nat.blt m 9223372036854775808) (.negSucc m) (IntKind.i64.wrap (.negSucc m))) n
  | .i32 => Int.rec (motive := fun _ => Int) (fun m => bite (Nat.blt m 2147483648) (.ofNat m) (IntKind.i32.wrap (.ofNat m))) (fun m => bite (Nat.blt m 2147483648) (.negSucc m) (IntKind.i32.wrap (.negSucc m))) n
  | .i16 => Int.rec (motive := fun _ => Int) (fun m => bite (Nat.blt m 32768) (.ofNat m) (IntKind.i16.wrap (.ofNat m))) (fun m => bite (Nat.blt m 32768) (.negSucc m) (IntKind.i16.wrap (.negSucc m))) n
  | .i8 => Int.rec (motive := fun _ => Int) (fun m => bite (Nat.blt m 128) (.ofNat m) (IntKind.i8.wrap (.ofNat m))) (fun m => bite (Nat.blt m 128) (.negSucc m) (IntKind.i8.wrap (.negSucc m))) n
  | .u64 => Int.rec (motive := fun _ => Int) (fun m => .ofNat (Nat.mod m 18446744073709551616)) (fun m => IntKind.u64.wrap (.negSucc m)) n
  | .u32 => Int.rec (motive := fun _ => Int) (fun m => .ofNat (Nat.mod m 4294967296)) (fun m => IntKind.u32.wrap (.negSucc m)) n
  | .u16 => Int.rec (motive := fun _ => Int) (fun m => .ofNat (Nat.mod m 65536)) (fun m => IntKind.u16.wrap (.negSucc m)) n
  | .u8 => Int.rec (motive := fun _ => Int) (fun m => .ofNat (Nat.mod m 256)) (fun m => IntKind.u8.wrap (.negSucc m)) n
def eqI : Int → Int → Bool
  | .ofNat a, .ofNat b => Nat.beq a b
  | .negSucc a, .negSucc b => Nat.beq a b
  | _, _ => false
def leI : Int → Int → Bool
  | .ofNat a, .ofNat b => Nat.ble a b
  | .negSucc a, .negSucc b => Nat.ble b a
  | .negSucc _, .ofNat _ => true
  | .ofNat _, .negSucc _ => false
/-- The operators on two whole numbers of one kind that need no memory; none: another road. -/
noncomputable def arith (op : BinOp) (k : IntKind) (a b : Int) : Option Value := match op with
  | .add => some (.int k (wrapF k (Int.add a b)))
  | .sub => some (.int k (wrapF k (Int.sub a b)))
  | .mul => some (.int k (wrapF k (Int.mul a b)))
  | .eql => some (.bool (eqI a b))
  | .neq => some (.bool (not (eqI a b)))
  | .lss => some (.bool (not (leI b a)))
  | .leq => some (.bool (leI a b))
  | .gtr => some (.bool (not (leI a b)))
  | .geq => some (.bool (leI b a))
  | _ => none

noncomputable def flatL (f : Value → Bool) (l : List Value) : Bool := List.rec (motive := fun _ => Bool) true (fun v _ ih => bite (f v) ih false) l
/-- No address in it. -/
noncomputable def flatD : Nat → Value → Bool
  | 0, _ => false
  | n + 1, v => match v with
    | .bool _ | .int _ _ | .float _ _ | .complex _ _ _ | .string _ | .pointer none | .map none | .chan none | .nilFunc | .nilIface => true
    | .slice none 0 0 => true
    | .iface _ v => flatD n v
    | .agg cs => flatL (flatD n) cs.toList
    | .tuple vs => flatL (flatD n) vs.toList
    | _ => false
noncomputable def flat (v : Value) : Bool := flatD 6 v

def ofOpt {α : Type} (o : Option α) : T α := match o with
  | some a => .ret a
  | none => .fail
/-- A value without an address. -/
noncomputable def ofFlat (o : Option Value) : T Value := match o with
  | some v => bite (flat v) (.ret v) .fail
  | none => .fail
/-- Go on if so. -/
noncomputable def whenT {α : Type} (b : Bool) (t : T α) : T α := bite b t .fail

section mem
noncomputable def blkAt (n : Nat) : T BI := (T.get (n, 0)).bind fun c => match c with
  | .blk b => match b.st with
    | .dead => .fail
    | _ => .ret b
  | _ => .fail
def getVal (l : Loc) : T Value := (T.get l).bind fun c => match c with
  | .val v => .ret v
  | _ => .fail
noncomputable def getVals (n : Nat) (k : Nat) : Nat → T (List Value) := Nat.rec (motive := fun _ => Nat → T (List Value)) (fun _ => .ret [])
  (fun _ ih off => (getVal (n, Nat.succ off)).bind fun v => (ih (Nat.succ off)).bind fun vs => .ret (v :: vs)) k
noncomputable def putVals (n : Nat) (vs : List Value) : Nat → T Unit := List.rec (motive := fun _ => Nat → T Unit) (fun _ => .ret ())
  (fun v _ ih off => (T.put (n, Nat.succ off) (.val v)).bind fun _ => ih (Nat.succ off)) vs
def atomic : Value → Bool
  | .agg _ | .tuple _ => false
  | _ => true
noncomputable def loadN (b o k : Nat) : T (List Value) := (blkAt b).bind fun bi => whenT (Nat.ble (Nat.add o k) bi.size) (getVals b k o)
noncomputable def load1 (b o : Nat) : T Value := (blkAt b).bind fun bi => whenT (Nat.blt o bi.size) (getVal (b, Nat.succ o))
def killAll : List Nat → T Unit
  | [] => .ret ()
  | n :: ns => (T.get (n, 0)).bind fun c => match c with
    | .blk b => (T.put (n, 0) (.blk { b with st := .dead })).bind fun _ => killAll ns
    | _ => .fail
noncomputable def ownBlk (n : Nat) : T BI := (blkAt n).bind fun b => match b.st with
  | .own => match b.olds with
    | [] => .ret b
    | o :: os => (killAll (o :: os)).bind fun _ => (T.put (n, 0) (.blk { b with olds := [] })).bind fun _ => .ret b
  | _ => .fail
noncomputable def storeN (b o : Nat) (vs : List Value) : T Unit := match vs with
  | [] => .ret ()
  | v :: vs => whenT (flatL atomic (v :: vs)) ((ownBlk b).bind fun bi => whenT (Nat.ble (Nat.add o (v :: vs).length) bi.size) (putVals b (v :: vs) o))
noncomputable def store1 (b o : Nat) (v : Value) : T Unit := whenT (atomic v) ((ownBlk b).bind fun bi => whenT (Nat.blt o bi.size) (T.put (b, Nat.succ o) (.val v)))
noncomputable def newBlk (elem esz : Nat) (vs : List Value) (olds : List Nat) : T Nat :=
  whenT (flatL atomic vs) (T.fresh.bind fun n =>
    (T.put (n, 0) (.blk { elem := elem, esz := esz, size := vs.length, st := .own, olds := olds })).bind fun _ => (putVals n vs 0).bind fun _ => .ret n)
end mem

section ops
variable (P : Program)
def szOf (t : TypeId) : Option Nat := (P.info? t).map (·.size)
def bytesOf' (t : TypeId) : Option Nat := (P.info? t).map (·.bytes)
noncomputable def zeroOf (t : TypeId) : Option Value := match (P.info? t).bind (·.zero) with
  | some z => bite (flat z) (some z) none
  | none => none
def cellsL (v : Value) : List Value := match v with
  | .agg cs => cs.toList
  | v => [v]
def isAgg' (t : TypeId) : Option Bool := match P.underlying t with
  | some (.struct _) | some (.array _ _) => some true
  | some _ => some false
  | none => none
noncomputable def loadVarT (t : TypeId) (b o : Nat) : T Value := match isAgg' P t with
  | some false => load1 b o
  | some true => match szOf P t with
    | some k => (loadN b o k).bind fun vs => .ret (.agg ⟨vs⟩)
    | none => .fail
  | none => .fail
noncomputable def storeVarT (t : TypeId) (b o : Nat) (v : Value) : T Unit := match szOf P t with
  | some k => whenT (Nat.beq (cellsL v).length k) (match cellsL v with
    | [v] => store1 b o v
    | vs => storeN b o vs)
  | none => .fail
noncomputable def newVarT (t : TypeId) (v : Value) : T Value := match szOf P t with
  | some k => (newBlk t k (cellsL v) []).bind fun n => .ret (.pointer (some ⟨n, 0, none⟩))
  | none => .fail
def elemOfSlice (t : TypeId) : Option TypeId := match P.underlying t with
  | some (.slice e) => some e
  | _ => none
noncomputable def rep (n : Nat) (l : List Value) : List Value := Nat.rec (motive := fun _ => List Value) [] (fun _ ih => l ++ ih) n
def splice (cells : List Value) (off : Nat) (vs : List Value) : List Value := cells.take off ++ (vs ++ cells.drop (Nat.add off vs.length))
noncomputable def fillL (place : Nat → Option (Nat × Nat)) : List (Nat × Value) → List Value → Option (List Value)
  | [], cells => some cells
  | (i, v) :: rest, cells => match place i with
    | none => none
    | some (off, size) => bite (Nat.beq (cellsL v).length size && Nat.ble (Nat.add off size) cells.length) (fillL place rest (splice cells off (cellsL v))) none
def placesOf (fields : Array Field) : Option (List (Nat × Nat)) := fields.toList.mapM fun f => (P.info? f.type).map fun i => (f.offset, i.size)
noncomputable def buildL (t : TypeId) (parts : List (Nat × Value)) : Option Value := match zeroOf P t with
  | some z => match P.underlying t with
    | some (.struct fields) => match placesOf P fields with
      | some ps => (fillL (fun i => ps[i]?) parts (cellsL z)).map fun cs => .agg ⟨cs⟩
      | none => none
    | some (.array _ e) => match szOf P e with
      | some s => (fillL (fun i => some (Nat.mul i s, s)) parts (cellsL z)).map fun cs => .agg ⟨cs⟩
      | none => none
    | _ => none
  | none => none
noncomputable def buildSliceL (t : TypeId) (len : Nat) (parts : List (Nat × Value)) : Option (TypeId × Nat × List Value) := match elemOfSlice P t with
  | some e => match szOf P e, zeroOf P e with
    | some size, some z => bite (Nat.ble (Nat.mul len size) 16777216 && Nat.ble 1 size && Nat.beq (cellsL z).length size)
      ((fillL (fun i => some (Nat.mul i size, size)) parts (rep len (cellsL z))).map fun cs => (e, size, cs)) none
    | _, _ => none
  | none => none
def natOf (v : Value) : Option Nat := match v with
  | .int _ (.ofNat n) => some n
  | _ => none
def small : Nat := 1099511627776
noncomputable def makeSliceT (t : TypeId) (l c : Value) : T Value := match elemOfSlice P t, natOf l, natOf c with
  | some e, some l, some c => match szOf P e, bytesOf' P e, zeroOf P e with
    | some size, some bytes, some z =>
      whenT (Nat.ble l c && Nat.ble (Nat.mul c bytes) small && Nat.ble c small && Nat.ble 1 size && Nat.beq (cellsL z).length size)
        ((newBlk e size (rep c (cellsL z)) []).bind fun n => .ret (.slice (some ⟨n, 0, none⟩) l c))
    | _, _, _ => .fail
  | _, _, _ => .fail
def optNat (d : Nat) (v : Option Value) : Option Nat := match v with
  | none => some d
  | some v => natOf v
noncomputable def optFlat (o : Option Value) : Bool := match o with
  | some v => flat v
  | none => true
noncomputable def slice1 (size : Nat) (a : Option Addr) (cap l h m : Nat) : T Value :=
  whenT (Nat.ble l h && Nat.ble h m && Nat.ble m cap && Nat.ble 1 size) (match a with
    | none => .ret (.slice none (Nat.sub h l) (Nat.sub m l))
    | some ⟨b, o, none⟩ => (blkAt b).bind fun bi => whenT (Nat.beq bi.esz size) (.ret (.slice (some ⟨b, Nat.add o (Nat.mul l size), none⟩) (Nat.sub h l) (Nat.sub m l)))
    | _ => .fail)
noncomputable def sliceT (t : TypeId) (x : Value) (lo hi mx : Option Value) : T Value := match P.underlying t with
  | some (.slice e) => match x with
    | .slice a len cap => match szOf P e, optNat 0 lo, hi, mx with
      | some size, some l, some h, some m => match natOf h, natOf m with
        | some h, some m => slice1 size a cap l h m
        | _, _ => .fail
      | some size, some l, some h, none => match natOf h with
        | some h => slice1 size a cap l h cap
        | none => .fail
      | some size, some l, none, none => slice1 size a cap l len cap
      | _, _, _, _ => .fail
    | _ => .fail
  | some .string => match x with
    | .string s => bite (optFlat lo && optFlat hi && optFlat mx) (ofFlat (pureRun P (Instr.slice t (.string s) lo hi mx))) .fail
    | _ => .fail
  | _ => .fail
noncomputable def fieldAddrT (s : TypeId) (x : Value) (f : Nat) : T Value := match x with
  | .pointer (some ⟨b, o, none⟩) => match P.underlying s with
    | some (.struct fields) => match fields[f]? with
      | some fd => match szOf P fd.type with
        | some k => whenT (Nat.ble 1 k) (.ret (.pointer (some ⟨b, Nat.add o fd.offset, none⟩)))
        | none => .fail
      | none => .fail
    | _ => .fail
  | _ => .fail
noncomputable def indexAddrT (t : TypeId) (x i : Value) : T Value := match natOf i with
  | some i => match P.underlying t with
    | some (.slice e) => match x with
      | .slice (some ⟨b, o, none⟩) len _ => match szOf P e with
        | some size => whenT (Nat.blt i len) (.ret (.pointer (some ⟨b, Nat.add o (Nat.mul i size), none⟩)))
        | none => .fail
      | _ => .fail
    | some (.array len e) => match x with
      | .pointer (some ⟨b, o, none⟩) => match szOf P e with
        | some size => whenT (Nat.blt i len) (.ret (.pointer (some ⟨b, Nat.add o (Nat.mul i size), none⟩)))
        | none => .fail
      | _ => .fail
    | _ => .fail
  | none => .fail
noncomputable def partL (t : TypeId) (cs : List Value) (off : Nat) : Option Value := match isAgg' P t with
  | some false => cs[off]?
  | some true => match szOf P t with
    | some k => some (.agg ⟨(cs.drop off).take k⟩)
    | none => none
  | none => none
noncomputable def fieldV (t : TypeId) (x : Value) (f : Nat) : Option Value := match x with
  | .agg cs => match P.underlying t with
    | some (.struct fields) => match fields[f]? with
      | some fd => partL P fd.type cs.toList fd.offset
      | none => none
    | _ => none
  | _ => none
def extractV (x : Value) (i : Nat) : Option Value := match x with
  | .tuple vs => vs.toList[i]?
  | _ => none
/-- Equal or not, where one of them is nil. -/
def nilEq (d : TypeDesc) (x y : Value) : Option Bool := match d, x, y with
  | .pointer _, .pointer none, .pointer b => some b.isNone
  | .pointer _, .pointer (some _), .pointer none => some false
  | .slice _, .slice none _ _, .slice b _ _ => some b.isNone
  | .slice _, .slice (some _) _ _, .slice none _ _ => some false
  | .map _ _, .map none, .map b => some b.isNone
  | .map _ _, .map (some _), .map none => some false
  | .func _ _ _, .nilFunc, .nilFunc => some true
  | .func _ _ _, .nilFunc, .func _ _ _ => some false
  | .func _ _ _, .func _ _ _, .nilFunc => some false
  | .interface _, .nilIface, .iface _ _ => some false
  | .interface _, .iface _ _, .nilIface => some false
  | _, _, _ => none
noncomputable def binOp2 (op : BinOp) (t : TypeId) (x y : Operand) (a b : Value) : T Value :=
  bite (flat a && flat b) (ofFlat (pureRun P (do eqGuard op t x y a b; binOp op t a b)))
    (match op, P.underlying t with
    | .eql, some d => (ofOpt (nilEq d a b)).bind fun r => .ret (.bool r)
    | .neq, some d => (ofOpt (nilEq d a b)).bind fun r => .ret (.bool (not r))
    | _, _ => .fail)
noncomputable def binOpT (op : BinOp) (t : TypeId) (x y : Operand) (a b : Value) : T Value := match a, b with
  | .int k m, .int k' n => bite (decide (k = k')) (match arith op k m n with
      | some v => .ret v
      | none => ofFlat (pureRun P (binOp op t (.int k m) (.int k' n))))
      (ofFlat (pureRun P (binOp op t (.int k m) (.int k' n))))
  | a, b => binOp2 P op t x y a b
/-- cap: known where there is no memory. -/
def capT (t : TypeId) (x : Value) : T Value := match P.underlying t, x with
  | some (.slice _), .slice none _ n => .ret (.int .i64 (.ofNat n))
  | _, _ => .fail
def lenT (t : TypeId) (x : Value) : T Value := match P.underlying t, x with
  | some .string, .string s => .ret (.int .i64 (.ofNat s.size))
  | some (.slice _), .slice _ n _ => .ret (.int .i64 (.ofNat n))
  | some (.array n _), _ => .ret (.int .i64 (.ofNat n))
  | some (.map _ _), .map none => .ret (.int .i64 0)
  | some (.map _ _), .map (some r) => (T.get (r, 0)).bind fun c => match c with
    | .map es _ => .ret (.int .i64 (.ofNat es.size))
    | _ => .fail
  | _, _ => .fail
/-- The cells of a slice's (or a string's) first k elements. -/
noncomputable def firstT (size k : Nat) (x : Value) : T (List Value) := match x with
  | .slice (some ⟨b, o, none⟩) n _ => whenT (Nat.ble k n) (loadN b o (Nat.mul k size))
  | .slice none _ _ => whenT (Nat.beq k 0) (.ret [])
  | .string s => whenT (Nat.beq size 1 && Nat.ble k s.data.toList.length) (.ret ((s.data.toList.take k).map fun b => .int .u8 (.ofNat b.toNat)))
  | _ => .fail
def lenOf' (v : Value) : Option Nat := match v with
  | .slice _ n _ => some n
  | .string s => some s.size
  | _ => none
/-- Behind the block's end: the block is superseded. -/
noncomputable def growT (e size b : Nat) (bi : BI) (front : Bool) (vs : List Value) : T Nat := match bi.st with
  | .own => bite front ((T.put (b, 0) (.blk { bi with st := .moved, olds := [] })).bind fun _ => newBlk e size vs (b :: bi.olds))
      ((killAll (b :: bi.olds)).bind fun _ => newBlk e size vs [])
  | _ => .fail
noncomputable def appendGrow (e size : Nat) (base : Option Addr) (len cap n : Nat) (items : T (List Value)) : T Value := match base with
  | none => whenT (Nat.beq len 0) (items.bind fun vs => (newBlk e size vs []).bind fun nb => .ret (.slice (some ⟨nb, 0, none⟩) n n))
  | some ⟨b, o, none⟩ => (loadN b o (Nat.mul len size)).bind fun old => items.bind fun vs => (blkAt b).bind fun bi =>
      whenT (Nat.beq bi.esz size && Nat.ble (Nat.add o (Nat.mul cap size)) bi.size)
        ((bite (Nat.blt (Nat.add o (Nat.mul cap size)) bi.size) (newBlk e size (old ++ vs) []) (growT e size b bi (Nat.beq len cap) (old ++ vs))).bind fun nb =>
          .ret (.slice (some ⟨nb, 0, none⟩) (Nat.add len n) (Nat.add len n)))
  | _ => .fail
noncomputable def appendIn (size : Nat) (base : Option Addr) (len cap n : Nat) (items : T (List Value)) : T Value := items.bind fun vs => match base with
  | some ⟨b, o, none⟩ => (storeN b (Nat.add o (Nat.mul len size)) vs).bind fun _ => .ret (.slice base (Nat.add len n) cap)
  | none => .ret (.slice base (Nat.add len n) cap)
  | _ => .fail
noncomputable def append1 (e size bytes : Nat) (base : Option Addr) (len cap n : Nat) (items : T (List Value)) : T Value :=
  whenT (Nat.ble (Nat.mul (Nat.add len n) bytes) small && Nat.ble (Nat.add len n) small && Nat.ble 1 size)
    (bite (Nat.ble (Nat.add len n) cap) (appendIn size base len cap n items) (appendGrow e size base len cap n items))
/-- Is it append(s, make([]E, n)...)? -/
def zerosOf (xts : List TypeId) : Option Bool := match xts with
  | [] => some false
  | xt :: _ => match P.underlying xt with
    | some (.int _) => some true
    | some _ => some false
    | none => none
noncomputable def appendT (argTypes : List TypeId) (args : List Value) : T Value := match argTypes, args with
  | st :: xts, [.slice base len cap, x] => match elemOfSlice P st with
    | some e => match szOf P e, bytesOf' P e, zeroOf P e, zerosOf P xts with
      | some size, some bytes, some z, some true => (match natOf x with
          | some n => whenT (Nat.beq (cellsL z).length size && Nat.ble n small) (append1 e size bytes base len cap n (.ret (rep n (cellsL z))))
          | none => .fail)
      | some size, some bytes, some z, some false => (match lenOf' x with
          | some n => whenT (Nat.beq (cellsL z).length size) (append1 e size bytes base len cap n (firstT size n x))
          | none => .fail)
      | _, _, _, _ => .fail
    | none => .fail
  | _, _ => .fail
noncomputable def copyT (argTypes : List TypeId) (args : List Value) : T Value := match argTypes, args with
  | dt :: _, [.slice base dlen _, x] => match elemOfSlice P dt, lenOf' x with
    | some e, some n => match szOf P e with
      | some size => whenT (Nat.ble 1 size) ((firstT size (bite (Nat.ble n dlen) n dlen) x).bind fun vs => match base with
        | some ⟨b, o, none⟩ => (storeN b o vs).bind fun _ => .ret (.int .i64 (.ofNat (bite (Nat.ble n dlen) n dlen)))
        | none => .ret (.int .i64 (.ofNat (bite (Nat.ble n dlen) n dlen)))
        | _ => .fail)
      | none => .fail
    | _, _ => .fail
  | _, _ => .fail
noncomputable def clearT (argTypes : List TypeId) (args : List Value) : T Value := match argTypes, args with
  | t :: _, [x] => match P.underlying t with
    | some (.slice e) => match x with
      | .slice (some ⟨b, o, none⟩) n _ => match szOf P e, zeroOf P e with
        | some size, some z => whenT (Nat.ble 1 size && Nat.beq (cellsL z).length size) ((storeN b o (rep n (cellsL z))).bind fun _ => .ret (.tuple #[]))
        | _, _ => .fail
      | .slice none _ _ => .ret (.tuple #[])
      | _ => .fail
    | _ => .fail
  | _, _ => .fail
/-- Keys that are looked up by their value alone. -/
def keyD (d : TypeDesc) : Bool := match d with
  | .int _ | .string | .bool => true
  | _ => false
/-- A map's key and element types. -/
def mapOf (t : TypeId) : Option (TypeDesc × TypeId) := match P.underlying t with
  | some (.map k e) => match P.underlying k with
    | some d => bif keyD d then some (d, e) else none
    | none => none
  | _ => none
noncomputable def mapAt (r : Nat) : T (Array MapEntry × Nat) := (T.get (r, 0)).bind fun c => match c with
  | .map es k => .ret (es, k)
  | _ => .fail
noncomputable def entriesT (x : Value) : T (List MapEntry) := match x with
  | .map none => .ret []
  | .map (some r) => (mapAt r).bind fun p => .ret p.1.toList
  | _ => .fail
def okBool (commaOk : Bool) (v : Value) (ok : Bool) : Value := bif commaOk then .tuple #[v, .bool ok] else v
noncomputable def lookupT (t : TypeId) (x k : Value) (commaOk : Bool) : T Value := match mapOf P t with
  | some (d, e) => whenT (flat k) ((entriesT x).bind fun es => match Instr.findNow d k es 0 with
    | some (some (_, v)) => .ret (okBool commaOk v true)
    | some none => match zeroOf P e with
      | some z => .ret (okBool commaOk z false)
      | none => .fail
    | none => .fail)
  | none => .fail
noncomputable def mapSetT (t : TypeId) (x k v : Value) : T Value := match mapOf P t, x with
  | some (d, _), .map (some r) => whenT (flat k) ((mapAt r).bind fun p => match Instr.findNow d k p.1.toList 0 with
    | some (some (i, _)) => (T.put (r, 0) (.map ⟨p.1.toList.modify i fun e => { e with key := k, val := v }⟩ p.2)).bind fun _ => .ret undef
    | some none => (T.put (r, 0) (.map ⟨p.1.toList ++ [{ key := k, val := v, born := p.2 }]⟩ (p.2 + 1))).bind fun _ => .ret undef
    | none => .fail)
  | _, _ => .fail
noncomputable def mapEntryT (t : TypeId) (x k : Value) : T Value := match mapOf P t, x with
  | some (d, e), .map (some r) => whenT (flat k) ((mapAt r).bind fun p => match Instr.findNow d k p.1.toList 0 with
    | some (some (i, v)) => (T.put (r, 0) (.map ⟨p.1.toList.modify i fun e => { e with key := k }⟩ p.2)).bind fun _ =>
        .ret (.tuple #[v, .int .i64 (.ofNat (((p.1.toList[i]?).map (·.born)).getD 0))])
    | some none => match zeroOf P e with
      | some z => (T.put (r, 0) (.map ⟨p.1.toList ++ [{ key := k, val := z, born := p.2 }]⟩ (p.2 + 1))).bind fun _ => .ret (.tuple #[z, .int .i64 (.ofNat p.2)])
      | none => .fail
    | none => .fail)
  | _, _ => .fail
def bornAt (n : Nat) : List MapEntry → Nat → Option Nat
  | [], _ => none
  | e :: es, i => bif Nat.beq e.born n then some i else bornAt n es (i + 1)
noncomputable def entryStoreT (x stamp v : Value) : T Value := match x, natOf stamp with
  | .map (some r), some n => (mapAt r).bind fun p => match bornAt n p.1.toList 0 with
    | some i => (T.put (r, 0) (.map ⟨p.1.toList.modify i fun e => { e with val := v }⟩ p.2)).bind fun _ => .ret undef
    | none => .fail
  | _, _ => .fail
noncomputable def deleteT (argTypes : List TypeId) (args : List Value) : T Value := match argTypes, args with
  | t :: _, [.map (some r), k] => match mapOf P t with
    | some (d, _) => whenT (flat k) ((mapAt r).bind fun p => match Instr.findNow d k p.1.toList 0 with
      | some (some (i, _)) => (T.put (r, 0) (.map ⟨p.1.toList.eraseIdx i⟩ p.2)).bind fun _ => .ret (.tuple #[])
      | some none => (T.put (r, 0) (.map ⟨p.1.toList⟩ p.2)).bind fun _ => .ret (.tuple #[])
      | none => .fail)
    | none => .fail
  | _, _ => .fail
noncomputable def builtinT (b : Builtin) (argTypes : Array TypeId) (type : TypeId) (args : List Value) : T Value := match b with
  | .append => appendT P argTypes.toList args
  | .copy => copyT P argTypes.toList args
  | .clear => clearT P argTypes.toList args
  | .delete => deleteT P argTypes.toList args
  | .cap => match argTypes.toList, args with
    | t :: _, [x] => capT P t x
    | _, _ => .fail
  | .len => match argTypes.toList, args with
    | t :: _, [x] => lenT P t x
    | _, _ => .fail
  | .min => whenT (flatL flat args) (ofFlat (pureRun P (Builtin.min_ argTypes type ⟨args⟩)))
  | .max => whenT (flatL flat args) (ofFlat (pureRun P (Builtin.max_ argTypes type ⟨args⟩)))
  | _ => .fail
/-- Whom a call may reach: a function, or the rest of a loop over a function. -/
inductive Tgt where
  | fn (f : FuncId)
  | yield (l : Nat)
  | dfn (f : FuncId)
def callValT (callF : Tgt → List Value → T Value) (f : Value) (args : List Value) : T Value := match f with
  | .func (.func f) first captured => callF (.fn f) (first.toList ++ (args ++ captured.toList))
  | .func (.yield l) _ _ => callF (.yield l) args
  | _ => .fail
noncomputable def callT (callF : Tgt → List Value → T Value) (ρ : Operand → Value) (c : Call) (type : TypeId) : T Value := match c.callee with
  | .builtin b => builtinT P b c.argTypes type (c.args.toList.map ρ)
  | .value f => callValT callF (ρ f) (c.args.toList.map ρ)
  | .invoke _ _ => .fail
def pickV (c a b : Value) : Option Value := match c with
  | .bool true => some a
  | .bool false => some b
  | _ => none
noncomputable def loadT (t : TypeId) (a : Value) : T Value := match a with
  | .pointer (some ⟨b, o, none⟩) => loadVarT P t b o
  | _ => .fail
noncomputable def storeT (t : TypeId) (a v : Value) : T Value := match a with
  | .pointer (some ⟨b, o, none⟩) => (storeVarT P t b o v).bind fun _ => .ret undef
  | _ => .fail
def nilCheckV (x : Value) : Option Value := match x with
  | .pointer (some a) => some (.pointer (some a))
  | .func (.func f) first captured => some (.func (.func f) first captured)
  | .iface t v => some (.iface t v)
  | _ => none
noncomputable def unOpT (op : UnOp) (x : Value) : T Value := match op, x with
  | .not, .bool b => .ret (.bool (not b))
  | op, x => whenT (flat x) (ofFlat (pureRun P (Op.unary op x)))
noncomputable def convertT (s d : TypeId) (x : Value) : T Value := match P.underlying d, P.underlying s, x with
  | some (.int k), some _, .int _ n => .ret (.int k (wrapF k n))
  | _, _, x => whenT (flat x) (ofFlat (pureRun P (convert s d x)))
/-- Is it a string's conversion into bytes? Its bytes. -/
def textOf (s d : TypeId) (x : Value) : Option (TypeId × List Value) := match P.underlying d, x with
  | some (.slice e), .string b => match P.underlying e, P.underlying s with
    | some (.int .u8), some _ => some (e, b.data.toList.map fun x => .int .u8 (.ofNat x.toNat))
    | _, _ => none
  | _, _ => none
/-- Bytes that are read alone. -/
noncomputable def textT (e : TypeId) (bs : List Value) : T Value := T.fresh.bind fun n =>
  (T.put (n, 0) (.blk { elem := e, esz := 1, size := bs.length, st := .moved, olds := [] })).bind fun _ => (putVals n bs 0).bind fun _ => .ret (.slice (some ⟨n, 0, none⟩) bs.length bs.length)
noncomputable def convT (s d : TypeId) (x : Value) : T Value := match textOf P s d x with
  | some (e, bs) => textT e bs
  | none => convertT P s d x
/-- A range over a map. -/
noncomputable def rangeT (t : TypeId) (x : Value) : T Value := match P.underlying t, x with
  | some (.map _ _), .map none => T.fresh.bind fun n => (T.put (n, 0) (.iter none 0 #[] 0)).bind fun _ => .ret (.pointer (some ⟨n, 0, none⟩))
  | some (.map _ _), .map (some r) => (mapAt r).bind fun p => T.fresh.bind fun n => (T.put (n, 0) (.iter (some r) p.2 #[] p.2)).bind fun _ => .ret (.pointer (some ⟨n, 0, none⟩))
  | _, _ => .fail
def hasNat (n : Nat) : List Nat → Bool
  | [] => false
  | x :: xs => bif Nat.beq x n then true else hasNat n xs
def leftOf (seen : List Nat) : List MapEntry → List MapEntry
  | [] => []
  | e :: es => bif hasNat e.born seen then leftOf seen es else e :: leftOf seen es
def allOld (since : Nat) : List MapEntry → Bool
  | [] => true
  | e :: es => bif Nat.blt e.born since then allOld since es else false
/-- The next entry, where there is but one left (or none), and none is new. -/
noncomputable def nextT (x : Value) (isString : Bool) : T Value := match x, isString with
  | .pointer (some ⟨r, 0, none⟩), false => (T.get (r, 0)).bind fun c => match c with
    | .iter none _ _ _ => .ret (.tuple #[.bool false])
    | .iter (some m) since seen last => (mapAt m).bind fun p => bif Nat.beq p.2 last && (Nat.beq p.2 since && allOld since p.1.toList) then (match leftOf seen.toList p.1.toList with
        | [] => .ret (.tuple #[.bool false])
        | [e] => (T.put (r, 0) (.iter (some m) since ⟨seen.toList ++ [e.born]⟩ p.2)).bind fun _ => .ret (.tuple #[.bool true, e.key, e.val])
        | _ => .fail) else .fail
    | _ => .fail
  | _, _ => .fail
noncomputable def entryT (x : Value) : T Value := match x with
  | .pointer (some ⟨r, 0, none⟩) => (T.get (r, 0)).bind fun c => match c with
    | .iter (some m) _ seen stepped => (mapAt m).bind fun p => match seen.toList.getLast? with
      | some stamp => bif Nat.beq p.2 stepped then (match bornAt stamp p.1.toList 0 with
        | some i => match p.1.toList[i]? with
          | some e => .ret (.tuple #[e.key, e.val])
          | none => .fail
        | none => .fail) else .fail
      | none => .fail
    | _ => .fail
  | _ => .fail
noncomputable def buildSliceT (t : TypeId) (len : Nat) (parts : List (Nat × Value)) : T Value := match buildSliceL P t len parts with
  | some (e, size, cs) => (newBlk e size cs []).bind fun n => .ret (.slice (some ⟨n, 0, none⟩) len len)
  | none => .fail
noncomputable def allocT (e : TypeId) : T Value := match zeroOf P e with
  | some z => newVarT P e z
  | none => .fail
def isIface (t : TypeId) : Option Bool := match P.underlying t with
  | some (.interface _) => some true
  | some _ => some false
  | none => none
def makeIfaceV (t : TypeId) (x : Value) : Option Value := match isIface P t with
  | some false => some (.iface t x)
  | _ => none
noncomputable def indexV (t : TypeId) (x i : Value) : Option Value := match natOf i, x with
  | some i, .string s => (match P.underlying t with
    | some .string => match s.data.toList[i]? with
      | some b => some (.int .u8 (.ofNat b.toNat))
      | none => none
    | _ => none)
  | some i, .agg cs => (match P.underlying t with
    | some (.array n e) => (match szOf P e with
      | some k => bite (Nat.blt i n) (partL P e cs.toList (Nat.mul i k)) none
      | none => none)
    | _ => none)
  | _, _ => none
def okFn (f : Fn) : Bool := match f with
  | .yield _ => false
  | _ => true
noncomputable def opT (callF : Tgt → List Value → T Value) (ρ : Operand → Value) (o : Oper) : T Value := match o.op with
  | .move x | .assign x => .ret (ρ x)
  | .pick c a b => ofOpt (pickV (ρ c) (ρ a) (ρ b))
  | .alloc e => allocT P e
  | .box e x => newVarT P e (ρ x)
  | .build t parts => ofOpt (buildL P t (parts.toList.map fun p => (p.1, ρ p.2)))
  | .buildSlice t len parts => buildSliceT P t len (parts.toList.map fun p => (p.1, ρ p.2))
  | .load t a => loadT P t (ρ a)
  | .store t a x => storeT P t (ρ a) (ρ x)
  | .nilCheck x => ofOpt (nilCheckV (ρ x))
  | .binOp op xt x y _ => binOpT P op xt x y (ρ x) (ρ y)
  | .unOp op _ x => unOpT P op (ρ x)
  | .convert s d x => convT P s d (ρ x)
  | .range t x => rangeT P t (ρ x)
  | .next x s => nextT (ρ x) s
  | .entry x => entryT (ρ x)
  | .makeInterface xt x => ofOpt (makeIfaceV P xt (ρ x))
  | .makeFunc fn first captured => bite (okFn fn) (.ret (.func fn ⟨first.toList.map ρ⟩ ⟨captured.toList.map ρ⟩)) .fail
  | .lookup t x k ok => lookupT P t (ρ x) (ρ k) ok
  | .mapUpdate t m k v | .insert t m k v => mapSetT P t (ρ m) (ρ k) (ρ v)
  | .mapEntry t m k => mapEntryT P t (ρ m) (ρ k)
  | .entryStore _ m s v => entryStoreT (ρ m) (ρ s) (ρ v)
  | .makeMap _ none => T.fresh.bind fun n => (T.put (n, 0) (.map #[] 0)).bind fun _ => .ret (.map (some n))
  | .makeSlice t l c => makeSliceT P t (ρ l) (ρ c)
  | .slice t x lo hi mx => sliceT P t (ρ x) (lo.map ρ) (hi.map ρ) (mx.map ρ)
  | .fieldAddr s x f => fieldAddrT P s (ρ x) f
  | .field t x f => ofOpt (fieldV P t (ρ x) f)
  | .indexAddr t x i => indexAddrT P t (ρ x) (ρ i)
  | .index t x i => ofOpt (indexV P t (ρ x) (ρ i))
  | .extract x i => ofOpt (extractV (ρ x) i)
  | .call c => callT P callF ρ c o.type
  | _ => .fail
end ops

structure Fr where
  t : Trie Value
  ds : List Deferred
noncomputable def Fr.get (fr : Fr) (k : Nat) : Value := Option.rec (motive := fun _ => Value) undef (fun v => v) (Fr.rec (motive := fun _ => Option Value) (fun t _ => t.get k) fr)
/-- n: how many temporaries there are. -/
noncomputable def Fr.put (n : Nat) (fr : Fr) (dst : Option Tmp) (v : Value) : Fr := match dst with
  | none => fr
  | some d => bite (Nat.blt d n) (Fr.rec (motive := fun _ => Fr) (fun t ds => ⟨t.set d v, ds⟩) fr) fr
noncomputable def Fr.eval (fr : Fr) (x : Operand) : Value := match x with
  | .tmp t => fr.get t
  | .const v => v
  | .global g => .pointer (some ⟨g, 0, none⟩)
  | .func f => .func (.func f) #[] #[]
noncomputable def yieldedF (ops : List Oper) (fr : Fr) (j : Nat) : Option Bool := match (ops[j]?).bind (·.dst) with
  | none => none
  | some t => match fr.get t with
    | .bool b => some b
    | _ => none
noncomputable def wantedF (ops : List Oper) (fr : Fr) (o : Oper) : Bool := match o.guard with
  | none => true
  | some (j, want) => match yieldedF ops fr j with
    | some b => b == want
    | none => false
inductive X where
  | normal | ret
  | exit (id : Nat)

section code
variable (P : Program) (callF : Tgt → List Value → T Value) (n : Nat)
/-- No constant that holds an address, no package-level variable. -/
noncomputable def okOperand (x : Operand) : Bool := match x with
  | .const v => flat v
  | .global _ => false
  | _ => true
noncomputable def okOp (o : Oper) : Bool := o.op.operands.toList.all okOperand
noncomputable def stepT (ops : List Oper) (o : Oper) (fr : Fr) : T Fr :=
  bite (wantedF ops fr o) (whenT (okOp o) ((opT P callF fr.eval o).bind fun v => .ret (fr.put n o.dst v))) (.ret (fr.put n o.dst undef))
/-- A deferred call is laid by. -/
noncomputable def deferT (o : Oper) (c : Call) (fr : Fr) : T Fr := match c.callee with
  | .value f => match fr.eval f with
    | .func (.func g) first captured => .ret ((Fr.mk fr.t ({ target := .fn (.func g) captured, args := ⟨first.toList ++ c.args.toList.map fr.eval⟩ } :: fr.ds)).put n o.dst undef)
    | _ => .fail
  | _ => .fail
noncomputable def stepS (rd : Bool) (ops : List Oper) (o : Oper) (fr : Fr) : T Fr := match o.op with
  | .defer c => bite (wantedF ops fr o) (whenT (not rd && okOp o) (deferT n o c fr)) .fail
  | _ => stepT P callF n ops o fr
noncomputable def seqT (rd : Bool) (ops : List Oper) (l : List Oper) : Fr → T Fr := List.rec (motive := fun _ => Fr → T Fr) (fun fr => .ret fr)
  (fun o _ ih fr => (stepS P callF n rd ops o fr).bind ih) l
noncomputable def clash1 (n i : Nat) (w : Bool) (lg : Log) : Bool := List.rec (motive := fun _ => Bool) false
  (fun e _ ih => bite (Nat.beq e.1.1 n && Nat.beq e.1.2 i && (w || e.2)) true ih) lg
noncomputable def clash (lg lg' : Log) : Bool := List.rec (motive := fun _ => Bool) false (fun e _ ih => bite (clash1 e.1.1 e.1.2 e.2 lg') true ih) lg
/-- Operation i (from there on) against the earlier ones' logs (the last first). -/
noncomputable def free (before : Nat) (ops : Array Oper) (o : Oper) (lg : Log) : List (Nat × Oper × Log) → Bool
  | [] => true
  | (j, oj, lgj) :: rest => (Nat.testBit before j || (not (clash lg lgj) && Oper.apart ops oj o)) && free before ops o lg rest
noncomputable def drawT (ops : List Oper) (bef : List Nat) : Nat → List Oper → List (Nat × Oper × Log) → Fr → T Fr
  | _, [], _, fr => .ret fr
  | i, o :: rest, done, fr => (T.logd (stepT P callF n ops o fr)).bind fun r =>
      whenT (free ((bef[i]?).getD 0) ⟨ops⟩ o r.2 done) (drawT ops bef (Nat.succ i) rest ((i, o, r.2) :: done) r.1)
/-- Every edge that binds leads back. -/
def fwdOK : Nat → List Oper → Bool
  | _, [] => true
  | i, o :: rest => o.after.toList.all (fun e => not (Region.binds .any e) || Nat.blt e.on i) && fwdOK (i + 1) rest
noncomputable def loopT (body : Fr → T (X × Fr)) (k : Nat) : Fr → T (X × Fr) := Nat.rec (motive := fun _ => Fr → T (X × Fr)) (fun _ => .fail)
  (fun _ ih fr => (body fr).bind fun r => match r.1 with
    | .normal => ih r.2
    | x => .ret (x, r.2)) k
noncomputable def endLoopT (l : Nat) : T (Option Code) := (T.get (l, 0)).bind fun c => match c with
  | .loop al => match al.state with
    | .busy => .fail
    | _ => (T.put (l, 0) (.loop { al with state := .exhausted })).bind fun _ => .ret al.pending
  | _ => .fail
/-- A loop over a function leaves its mark. -/
def Fr.mark (fr : Fr) : Fr := ⟨fr.t, { target := .collected 0, args := #[] } :: fr.ds⟩
def jumpT (j : Option Code) (fr : Fr) : T (X × Fr) := match j with
  | none => .ret (.normal, fr)
  | some .ret => .ret (.ret, fr)
  | some (.exit id) => .ret (.exit id, fr)
  | _ => .fail
/-- The call of the function that is ranged over. -/
def rangeCallT (f : Value) (l : Nat) : T Value := match f with
  | .func (.func g) first captured => callF (.fn g) (first.toList ++ (.func (.yield l) #[] #[] :: captured.toList))
  | _ => .fail
noncomputable def codeT (rd : Bool) (k : Nat) : Code → Fr → T (X × Fr)
  | .skip, fr => .ret (.normal, fr)
  | .label _, fr => .ret (.normal, fr)
  | .region _ ops draw, fr => bite draw (whenT (fwdOK 0 ops.toList) ((drawT P callF n ops.toList (Region.before ops).toList 0 ops.toList [] fr).bind fun fr => .ret (.normal, fr)))
      ((seqT P callF n rd ops.toList ops.toList fr).bind fun fr => .ret (.normal, fr))
  | .seq a b, fr => (codeT rd k a fr).bind fun r => match r.1 with
    | .normal => codeT rd k b r.2
    | x => .ret (x, r.2)
  | .cond c a b, fr => match fr.eval c with
    | .bool t => bite t (codeT rd k a fr) (codeT rd k b fr)
    | _ => .fail
  | .block id c, fr => (codeT rd k c fr).bind fun r => match r.1 with
    | .exit id' => bite (Nat.beq id' id) (.ret (.normal, r.2)) (.ret (.exit id', r.2))
    | x => .ret (x, r.2)
  | .loop c, fr => loopT (codeT rd k c) k fr
  | .exit id, fr => .ret (.exit id, fr)
  | .ret, fr => .ret (.ret, fr)
  | .rangeFunc f ps assign body, fr => whenT (not rd && okOperand f) (T.fresh.bind fun l =>
      (T.put (l, 0) (.loop ⟨.ready, none, n, fr.t, ps, assign, body⟩)).bind fun _ =>
      (rangeCallT callF (fr.eval f) l).bind fun _ => (endLoopT l).bind fun j => jumpT j fr.mark)
  | _, _ => .fail
noncomputable def resultT (fr : Fr) (r : ResultVar) : T Value := match r with
  | .tmp t => .ret (fr.get t)
  | .cell a t => loadT P t (fr.get a)
noncomputable def resultsT (fr : Fr) : List ResultVar → T (List Value)
  | [] => .ret []
  | r :: rs => (resultT P fr r).bind fun v => (resultsT fr rs).bind fun vs => .ret (v :: vs)
noncomputable def fill0 (vs : List Value) : Nat → Trie Value → Trie Value := List.rec (motive := fun _ => Nat → Trie Value → Trie Value) (fun _ t => t)
  (fun v _ ih i t => ih (Nat.succ i) (t.set i v)) vs
def one (vs : List Value) : Value := match vs with
  | [v] => v
  | vs => .tuple ⟨vs⟩
/-- A body that is entered as a deferred call: it defers nothing and has no loop over a function. -/
noncomputable def bodyDT (k : Nat) (f : FuncId) (args : List Value) : T Value := match P.funcs[f]? with
  | none => .fail
  | some fn => match fn.body with
    | none => .fail
    | some c => (codeT P callF (bite (Nat.ble args.length fn.ntmps) fn.ntmps args.length) false k c ⟨fill0 args 0 .leaf, []⟩).bind fun r => match r.1, r.2.ds with
      | .exit _, _ => .fail
      | _, [] => (resultsT P r.2 fn.results.toList).bind fun vs => .ret (one vs)
      | _, _ => .fail
/-- The deferred calls, one by one. -/
noncomputable def leaveT (ds : List Deferred) : T Unit := List.rec (motive := fun _ => T Unit) (.ret ())
  (fun d _ ih => match d.target with
    | .collected _ => ih
    | .fn (.func g) captured => (callF (.dfn g) (d.args.toList ++ captured.toList)).bind fun _ => ih
    | _ => .fail) ds
noncomputable def bodyT (k : Nat) (f : FuncId) (args : List Value) : T Value := match P.funcs[f]? with
  | none => .fail
  | some fn => match fn.body with
    | none => .fail
    | some c => (codeT P callF (bite (Nat.ble args.length fn.ntmps) fn.ntmps args.length) false k c ⟨fill0 args 0 .leaf, []⟩).bind fun r => match r.1 with
      | .exit _ => .fail
      | _ => (leaveT callF r.2.ds).bind fun _ => (resultsT P r.2 fn.results.toList).bind fun vs => .ret (one vs)
end code
noncomputable def setAll : List Tmp → List Value → Nat → Trie Value → Option (Trie Value)
  | [], [], _, t => some t
  | p :: ps, v :: vs, n, t => match Nat.blt p n with
    | true => setAll ps vs n (t.set p v)
    | false => none
  | _, _, _, _ => none
noncomputable def loopAt (l : Nat) : T ALoop := (T.get (l, 0)).bind fun c => match c with
  | .loop al => .ret al
  | _ => .fail
def isReady (s : LoopState) : Bool := match s with
  | .ready => true
  | _ => false
/-- How a round ends: the jump that is pending, and whether the loop goes on. -/
def xJump (x : X) : Option Code := match x with
  | .normal => none
  | .ret => some .ret
  | .exit id => some (.exit id)
def xState (x : X) : LoopState := match x with
  | .normal => .ready
  | _ => .done
def xGoes (x : X) : Bool := match x with
  | .normal => true
  | _ => false
/-- One round of a loop over a function: what its yield does. -/
noncomputable def roundT (P : Program) (callF : Tgt → List Value → T Value) (k l : Nat) (args : List Value) : T Value := (loopAt l).bind fun al =>
  match setAll al.params.toList args al.n al.t with
  | none => .fail
  | some t => (codeT P callF al.n true k al.assign ⟨t, []⟩).bind fun r => match r.1 with
    | .normal => (loopAt l).bind fun al1 => whenT (isReady al1.state) ((T.put (l, 0) (.loop { al1 with state := .busy })).bind fun _ =>
        (codeT P callF al.n true k al.body r.2).bind fun r2 => (loopAt l).bind fun al2 =>
          (T.put (l, 0) (.loop { al2 with state := xState r2.1, pending := xJump r2.1 })).bind fun _ => .ret (.bool (xGoes r2.1)))
    | _ => .fail
/-- Closed functions whose results are known. -/
noncomputable def memoOf (memo : List (Nat × Value)) (f : Nat) (args : List Value) : Option Value := List.rec (motive := fun _ => Option Value)
  (List.rec (motive := fun _ => Option Value) none (fun p _ ih => bite (Nat.beq p.1 f) (some p.2) ih) memo) (fun _ _ _ => none) args
/-- Functions that are not entered: what stands in for their bodies. -/
abbrev Ext := Nat → List Value → Option (T Value)
def noExt : Ext := fun _ _ => none
noncomputable def memoE (memo : List (Nat × Value)) : Ext := fun f args => Option.rec (motive := fun _ => Option (T Value)) none (fun v => some (.ret v)) (memoOf memo f args)
noncomputable def orExt (a b : Ext) : Ext := fun f args => Option.rec (motive := fun _ => Option (T Value)) (b f args) some (a f args)
noncomputable def callN (P : Program) (ext : Ext) (k : Nat) : Tgt → List Value → T Value := Nat.rec (motive := fun _ => Tgt → List Value → T Value) (fun _ _ => .fail)
  (fun k ih t args => match t with
    | .fn f => Option.rec (motive := fun _ => T Value) (bodyT P ih k f args) (fun t => t) (ext f args)
    | .dfn f => bodyDT P ih k f args
    | .yield l => roundT P ih k l args) k
def isTrue (r : R Value) : Bool := match r with
  | .ok (.bool true) _ _ _ => true
  | _ => false
end Go.Ab
