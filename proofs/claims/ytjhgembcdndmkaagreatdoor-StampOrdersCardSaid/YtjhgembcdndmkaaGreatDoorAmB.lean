import Derived.Laws.Sem
import Derived.Laws.Cells
import Derived.Laws.Entries
import Derived.Laws.World
import Derived.Test.YtjhgembcdndmkaaGreatDoorAmA
/- THE ABSTRACT MACHINE, part B: a machine over values without block numbers, and the proof that the model's machine does what it does. No condition. -/
set_option linter.unusedSimpArgs false
set_option linter.unusedVariables false
namespace Go.Proofs.YtjhgembcdndmkaaGreatDoor.Am
noncomputable def mapO {α β : Type} (f : α → Option β) : List α → Option (List β)
  | [] => some []
  | x :: l => match f x with
    | some y => match mapO f l with
      | some r => some (y :: r)
      | none => none
    | none => none
noncomputable def absV : Nat → Value → Option AV
  | 0, _ => none
  | n + 1, v => match v with
    | .bool b => some (.bool b)
    | .int k i => some (.int k i)
    | .string s => some (.str s.size (pack s.data.toList))
    | .pointer none => some .nilPtr
    | .slice none 0 0 => some .nilSl
    | .map none => some .nilMap
    | .nilFunc => some .nilFn
    | .nilIface => some .nilIfc
    | .iface t v => match absV n v with
      | some a => some (.ifc t a)
      | none => none
    | .func (.func f) first captured => match mapO (absV n) first.toList with
      | some a => match mapO (absV n) captured.toList with
        | some b => some (.fn (.func f) a b)
        | none => none
      | none => none
    | .agg cs => match mapO (absV n) cs.toList with
      | some l => some (.agg l)
      | none => none
    | .tuple cs => match mapO (absV n) cs.toList with
      | some l => some (.tup l)
      | none => none
    | _ => none
noncomputable def depthV : Nat := 8
noncomputable def globN (_ : Program) : Nat := 4
noncomputable def globSz (g : Nat) : Nat := bif Nat.beq g 3 then 20 else 1
noncomputable def compOpd (P : Program) (x : Operand) : Option Opd :=
  match x with
  | .tmp t => some (.tmp (Pos.ofNat t))
  | .const v => (absV depthV v).map .val
  | .global g => bif Nat.blt g (globN P) then some (.val (.ptr (Pos.ofNat g) 0 0)) else none
  | .func f => some (.val (.fn (.func f) [] []))
noncomputable def isAggT (P : Program) (t : TypeId) : Bool :=
  match P.underlying t with
  | some (.struct _) => true
  | some (.array _ _) => true
  | _ => false
noncomputable def zeroT (P : Program) (t : TypeId) : Option AV := ((P.info? t).bind (·.zero)).bind (absV depthV)
noncomputable def isConstO : Operand → Bool
  | .const _ => true
  | _ => false
noncomputable def nilOkT (P : Program) (t : TypeId) (x y : Operand) : Bool :=
  isConstO x || isConstO y || (match P.underlying t with | some (.interface ms) => ms.isEmpty | _ => false)
noncomputable def okT (P : Program) (t : TypeId) : Bool := (P.underlying t).isSome
noncomputable def flatFs (P : Program) (g : TypeId → Option (List LK)) : List Field → Nat → Option (List LK)
  | [], _ => some []
  | f :: fs, acc => bif f.name == "_" || !Nat.beq f.offset acc || !okT P f.type then none else match g f.type with
    | some ks => bif Nat.beq ks.length (P.cellsOf f.type) then (match flatFs P g fs (Nat.add acc ks.length) with
      | some r => some (ks ++ r)
      | none => none) else none
    | none => none
noncomputable def flatK (P : Program) : Nat → TypeId → Option (List LK)
  | 0, _ => none
  | n + 1, t => match P.underlying t with
    | some .bool => some [.bool]
    | some (.int _) => some [.int]
    | some .string => some [.str]
    | some (.struct fs) => bif P.stoodInHeld t then none else flatFs P (flatK P n) fs.toList 0
    | _ => none
noncomputable def ekT (P : Program) (t : TypeId) : EK :=
  match P.underlying t with
  | some .bool => .bool
  | some (.pointer e) => .ptr (okT P e && Nat.blt 0 (P.cellsOf e))
  | some (.slice _) => .slice
  | some (.map _ _) => .map
  | some (.func _ _ _) => .fn
  | some (.interface _) => .ifc
  | some (.struct _) => match flatK P 8 t with
    | some ks => bif P.eqGuardType P.depth t then .other else .flat ks
    | none => .other
  | _ => .other
noncomputable def elemOfSlice (P : Program) (t : TypeId) : Option TypeId :=
  match P.underlying t with
  | some (.slice e) => bif okT P e then some e else none
  | _ => none
noncomputable def arrayOf (P : Program) (t : TypeId) : Option (Nat × TypeId) :=
  match P.underlying t with
  | some (.array n e) => bif okT P e then some (n, e) else none
  | _ => none
noncomputable def fieldOf (P : Program) (t : TypeId) (f : Nat) : Option Field :=
  match P.underlying t with
  | some (.struct fs) => match fs[f]? with
    | some f => bif okT P f.type then some f else none
    | none => none
  | _ => none
noncomputable def compParts (P : Program) (size : Nat → Option (Nat × Nat)) : List (Nat × Operand) → Option (List (Nat × Nat × Opd))
  | [] => some []
  | (i, x) :: r => match size i, compOpd P x, compParts P size r with
    | some (off, n), some x, some r => some ((off, n, x) :: r)
    | _, _, _ => none
noncomputable def compOpdO (P : Program) (x : Option Operand) : Option (Option Opd) :=
  match x with
  | none => some none
  | some x => (compOpd P x).map some
noncomputable def compLen (P : Program) (x : Operand) (t : TypeId) : Option AOp :=
  match P.underlying t with
  | some .string => (compOpd P x).map .lenS
  | some (.slice _) => (compOpd P x).map .lenL
  | some (.map _ _) => (compOpd P x).map .lenM
  | some (.array n _) => some (.lenArr n)
  | some (.pointer a) => match P.underlying a with
    | some (.array n _) => some (.lenArr n)
    | _ => none
  | _ => none
noncomputable def compCap (P : Program) (x : Operand) (t : TypeId) : Option AOp :=
  match P.underlying t with
  | some (.slice _) => (compOpd P x).map .cap
  | _ => none
noncomputable def isIntT (P : Program) (t : TypeId) : Bool :=
  match P.underlying t with
  | some (.int _) => true
  | _ => false
noncomputable def byteT (P : Program) (e : TypeId) : Bool :=
  (match P.underlying e with
  | some (.int .u8) => true
  | _ => false) && Nat.beq (P.cellsOf e) 1 && Nat.beq (P.bytesOf e) 1
noncomputable def bytesN (P : Program) (e : TypeId) : Nat := bif byteT P e then 0 else P.bytesOf e
noncomputable def compAppend (P : Program) (s x : Operand) (t u : TypeId) : Option AOp :=
  match elemOfSlice P t, compOpd P s, compOpd P x with
  | some e, some s, some x => match zeroT P e with
    | some z => bif Nat.beq z.cells.length (P.cellsOf e) && okT P u && Nat.blt 0 (P.bytesOf e) then
        (bif isIntT P u then some (.appendZ (P.cellsOf e) (P.bytesOf e) z.cells s x) else some (.append (P.cellsOf e) (bytesN P e) s x)) else none
    | none => none
  | _, _, _ => none
noncomputable def compCopy (P : Program) (d s : Operand) (t : TypeId) : Option AOp :=
  match elemOfSlice P t, compOpd P d, compOpd P s with
  | some e, some d, some s => some (.copy (P.cellsOf e) d s)
  | _, _, _ => none
noncomputable def compClear (P : Program) (x : Operand) (t : TypeId) : Option AOp :=
  match elemOfSlice P t, compOpd P x with
  | some e, some x => match zeroT P e with
    | some z => bif Nat.beq z.cells.length (P.cellsOf e) then some (.clear (P.cellsOf e) z.cells x) else none
    | none => none
  | _, _ => none
noncomputable def kkT (P : Program) (t : TypeId) : Option KK :=
  match P.underlying t with
  | some .bool => some (.one .bool)
  | some (.int _) => some (.one .int)
  | some .string => some (.one .str)
  | some (.struct _) => (flatK P 8 t).map .flat
  | some (.interface _) => some .any
  | some (.pointer e) => bif okT P e && Nat.blt 0 (P.cellsOf e) then some .ptr else none
  | _ => none
noncomputable def keyT (P : Program) (t : TypeId) : Option KK :=
  match P.underlying t with
  | some (.map k _) => kkT P k
  | _ => none
noncomputable def valT (P : Program) (t : TypeId) : Option AV :=
  match P.underlying t with
  | some (.map _ e) => zeroT P e
  | _ => none
noncomputable def compBuiltin (P : Program) (b : Builtin) (args : List Operand) (types : List TypeId) : Option AOp :=
  match b, args, types with
  | .len, [x], [t] => compLen P x t
  | .cap, [x], [t] => compCap P x t
  | .append, [s, x], [t, u] => compAppend P s x t u
  | .copy, [d, s], t :: _ => compCopy P d s t
  | .clear, [x], [t] => compClear P x t
  | .delete, [m, k], t :: _ => (match keyT P t, compOpd P m, compOpd P k with
    | some kk, some m, some k => some (.delete kk m k)
    | _, _, _ => none)
  | .recover, [], _ => some .recover
  | .unsafeSliceData, [x], _ => (compOpd P x).map .sliceData
  | .unsafeString, [p, n], t :: _ => (match P.underlying t with
    | some (.pointer e) => bif byteT P e then (match compOpd P p, compOpd P n with
      | some p, some n => some (.unsafeStr p n)
      | _, _ => none) else none
    | _ => none)
  | .min, [x, y], _ => match compOpd P x, compOpd P y with
    | some x, some y => some (.bmin x y)
    | _, _ => none
  | .max, [x, y], _ => match compOpd P x, compOpd P y with
    | some x, some y => some (.bmax x y)
    | _, _ => none
  | _, _, _ => none
noncomputable def compBin (P : Program) (op : BinOp) (t : TypeId) (x y : Operand) (a b : Opd) : AOp :=
  match op with
  | .eql => (match ekT P t with
    | .ptr true => .eqPtr false a b
    | .ifc => .eqIfc false (nilOkT P t x y) a b
    | k => .bin op k (nilOkT P t x y) a b)
  | .neq => (match ekT P t with
    | .ptr true => .eqPtr true a b
    | .ifc => .eqIfc true (nilOkT P t x y) a b
    | k => .bin op k (nilOkT P t x y) a b)
  | op => .bin op (ekT P t) (nilOkT P t x y) a b
noncomputable def extName (fn : Func) : Nat :=
  bif fn.name == slash "internal" "abi.NoEscape" then 1 else
  bif fn.name == slash "internal" "bytealg.MakeNoZero" then 2 else
  bif fn.name == slash "internal" "bytealg.abigen_runtime_cmpstring" then 3 else
  bif fn.name == slash "internal" "bytealg.IndexByteString" then 4 else
  bif fn.name == slash "internal" "bytealg.CountString" then 5 else 0
noncomputable def extKind (P : Program) (f : FuncId) : Nat :=
  match P.funcs[f]? with
  | some fn => (match fn.body with
    | some _ => 0
    | none => bif fn.origin == "" then (match extName fn with
      | 2 => (match fn.resultTypes.toList with
        | t :: _ => (match elemOfSlice P t with
          | some e => bif byteT P e then 2 else 0
          | none => 0)
        | [] => 0)
      | k => k) else 0)
  | none => 0
noncomputable def compCall (P : Program) (c : Call) : Option AOp :=
  match c.callee with
  | .value (.func f) => (match mapO (compOpd P) c.args.toList with
    | some l => (match extKind P f with
      | 0 => some (.call (.value (.val (.fn (.func f) [] []))) l)
      | k + 1 => some (.ext (k + 1) l))
    | none => none)
  | .value f => match compOpd P f, mapO (compOpd P) c.args.toList with
    | some f, some l => some (.call (.value f) l)
    | _, _ => none
  | .invoke r name => match compOpd P r, mapO (compOpd P) c.args.toList with
    | some r, some l => some (.call (.invoke r name) l)
    | _, _ => none
  | .builtin b => compBuiltin P b c.args.toList c.argTypes.toList
noncomputable def isStrT (P : Program) (t : TypeId) : Bool :=
  match P.underlying t with
  | some .string => true
  | _ => false
noncomputable def isMapT (P : Program) (t : TypeId) : Bool :=
  match P.underlying t with
  | some (.map _ _) => true
  | _ => false
noncomputable def compSlice (P : Program) (t : TypeId) (x : Opd) (lo hi mx : Option Opd) : Option AOp :=
  bif mx.isSome && hi.isNone then none else
  bif isStrT P t then (match mx with | none => some (.sliceStr x lo hi) | some _ => none) else
  match elemOfSlice P t with
  | some e => some (.sliceSl (P.cellsOf e) x lo hi mx)
  | none => match arrayOf P t with
    | some (n, e) => some (.sliceArr n (P.cellsOf e) x lo hi mx)
    | none => none
noncomputable def compConv (P : Program) (s d : TypeId) (x : Opd) : Option AOp :=
  match P.underlying s, P.underlying d with
  | some (.int _), some (.int k) => some (.convInt k x)
  | some .string, some .string => some (.convStr x)
  | some .string, some (.slice e) => match P.underlying e with
    | some (.int .u8) => bif Nat.beq (P.cellsOf e) 1 && okT P e then some (.strBytes x) else none
    | _ => none
  | some (.slice e), some .string => match P.underlying e with
    | some (.int .u8) => some (.bytesStr x)
    | _ => none
  | some (.pointer t), some .unsafePointer => bif okT P t && Nat.blt 0 (P.cellsOf t) then some (.toUnsafe x) else none
  | some .unsafePointer, some (.pointer u) => bif okT P u && Nat.blt 0 (P.cellsOf u) then some (.fromUnsafe u x) else none
  | _, _ => none
noncomputable def compBuild (P : Program) (t : TypeId) (z : AV) (parts : List (Nat × Operand)) : Option AOp :=
  match P.underlying t with
  | some (.struct fs) => bif fs.toList.all fun f => okT P f.type then
      (compParts P (fun i => (fs[i]?).map fun f => (f.offset, P.cellsOf f.type)) parts).map (.build z.cells) else none
  | some (.array _ e) => bif okT P e then (compParts P (fun i => some (i * P.cellsOf e, P.cellsOf e)) parts).map (.build z.cells) else none
  | _ => none
noncomputable def selfT (P : Program) (t : TypeId) : Bool :=
  match P.underlying t with
  | some (.struct fs) => Nat.blt 0 (P.cellsOf t) && fs.toList.any fun f => (match P.underlying f.type with
    | some (.pointer u) => Nat.beq u t
    | _ => false)
  | _ => false
noncomputable def compAOp (P : Program) (o : Op) : Option AOp :=
  match o with
  | .move x | .assign x => (compOpd P x).map .mov
  | .pick c a b => match compOpd P c, compOpd P a, compOpd P b with
    | some c, some a, some b => some (.pick c a b)
    | _, _, _ => none
  | .alloc t => (zeroT P t).map fun z => bif selfT P t && Nat.beq z.cells.length (P.cellsOf t) then .newT t z.cells else .new z.cells
  | .box _ x => (compOpd P x).map .box
  | .build t parts => match zeroT P t with
    | none => none
    | some z => compBuild P t z parts.toList
  | .buildSlice t len parts => match elemOfSlice P t with
    | none => none
    | some e => match zeroT P e with
      | none => none
      | some z => bif Nat.ble (len * P.cellsOf e) 16777216 && Nat.beq z.cells.length (P.cellsOf e) then (compParts P (fun i => some (i * P.cellsOf e, P.cellsOf e)) parts.toList).map (.buildSl len (P.cellsOf e) z.cells) else none
  | .load t a => match compOpd P a, P.underlying t with
    | some a, some _ => bif okT P t then some (bif isAggT P t then .loadN (P.cellsOf t) a else .load1 a) else none
    | _, _ => none
  | .store t a x => match compOpd P a, compOpd P x with
    | some a, some x => bif okT P t then some (.store (P.cellsOf t) a x) else none
    | _, _ => none
  | .nilCheck x => (compOpd P x).map .nilCheck
  | .binOp op t x y _ => match compOpd P x, compOpd P y with
    | some a, some b => some (compBin P op t x y a b)
    | _, _ => none
  | .unOp op _ x => (compOpd P x).map (.un op)
  | .convert s d x => match compOpd P x with
    | some x => compConv P s d x
    | none => none
  | .makeInterface t x => match P.underlying t with
    | some (.interface _) => none
    | some _ => (compOpd P x).map (.mkIfc t)
    | none => none
  | .makeFunc f first captured => match mapO (compOpd P) first.toList, mapO (compOpd P) captured.toList with
    | some a, some b => some (.mkFn f a b)
    | _, _ => none
  | .makeSlice t l c => match elemOfSlice P t with
    | none => none
    | some e => match zeroT P e, compOpd P l, compOpd P c with
      | some z, some l, some c => bif Nat.beq z.cells.length (P.cellsOf e) then some (.mkSl (P.cellsOf e) (P.bytesOf e) z.cells l c) else none
      | _, _, _ => none
  | .slice t x lo hi mx => match compOpd P x, compOpdO P lo, compOpdO P hi, compOpdO P mx with
    | some x, some lo, some hi, some mx => compSlice P t x lo hi mx
    | _, _, _, _ => none
  | .fieldAddr s x f => match fieldOf P s f, compOpd P x with
    | some f, some x => bif Nat.blt 0 (P.cellsOf f.type) then some (.fieldAddr f.offset x) else none
    | _, _ => none
  | .field s x f => match fieldOf P s f, compOpd P x with
    | some f, some x => some (bif isAggT P f.type then .partN f.offset (P.cellsOf f.type) x else .part1 f.offset x)
    | _, _ => none
  | .indexAddr t x i => match compOpd P x, compOpd P i with
    | some x, some i => match arrayOf P t with
      | some (n, e) => some (.idxAddrArr n (P.cellsOf e) x i)
      | none => match elemOfSlice P t with
        | some e => some (.idxAddrSl (P.cellsOf e) x i)
        | none => none
    | _, _ => none
  | .index t x i => match compOpd P x, compOpd P i with
    | some x, some i => match arrayOf P t with
      | some (n, e) => some (.idxArr n (P.cellsOf e) (isAggT P e) x i)
      | none => bif isStrT P t then some (.idxStr x i) else none
    | _, _ => none
  | .typeAssert x _ t ok => match P.underlying t, zeroT P t, compOpd P x with
    | some (.interface _), _, _ => none
    | some _, some z, some x => some (.assertT t z ok x)
    | _, _, _ => none
  | .extract x i => (compOpd P x).map fun x => .extract x i
  | .call c => compCall P c
  | .makeMap t none => bif isMapT P t then some .mkMap else none
  | .makeMap t (some (.const (.int _ _))) => bif isMapT P t then some .mkMap else none
  | .lookup t m k ok => match keyT P t, valT P t, compOpd P m, compOpd P k with
    | some kk, some z, some m, some k => some (.lookup z ok kk m k)
    | _, _, _, _ => none
  | .mapUpdate t m k v | .insert t m k v => match keyT P t, compOpd P m, compOpd P k, compOpd P v with
    | some kk, some m, some k, some v => some (.update kk m k v)
    | _, _, _, _ => none
  | .range t x => match compOpd P x with
    | some x => bif isStrT P t then some (.rangeStr x) else bif isMapT P t then some (.rangeMap x) else none
    | none => none
  | .next x true => (compOpd P x).map .nextStr
  | .next x false => (compOpd P x).map .nextMap
  | .entry x => (compOpd P x).map .entry
  | .defer c => (match c.callee with
    | .value f => (match compOpd P f, mapO (compOpd P) c.args.toList with
      | some f, some l => some (.defer f l)
      | _, _ => none)
    | _ => none)
  | _ => none
noncomputable def opWhy (o : Oper) : String := o.pos
noncomputable def okDst (n : Nat) (d : Option Tmp) : Bool :=
  match d with
  | some d => Nat.blt d n
  | none => true
noncomputable def okGuard (ops : Array Oper) (g : Option (Nat × Bool)) : Bool :=
  match g with
  | some (j, _) => match ops[j]? with
    | some o => o.dst.isSome
    | none => false
  | none => true
noncomputable def compOper (P : Program) (n : Nat) (ops : Array Oper) (bef : Nat) (o : Oper) : O :=
  { dst := o.dst.map Pos.ofNat
    guard := o.guard.map fun x => ((((ops[x.1]?).bind (·.dst)).map Pos.ofNat).getD Pos.first, x.2)
    op := match compAOp P o.op with
      | some a => a
      | none => .bad (opWhy o)
    ok := okDst n o.dst && okGuard ops o.guard
    before := bef }
noncomputable def bit (m i : Nat) : Bool := Nat.beq (Nat.mod (Nat.div m (Nat.pow 2 i)) 2) 1
noncomputable def nthD (l : List Nat) (i : Nat) : Nat :=
  match nth l i with
  | some x => x
  | none => 0
noncomputable def maskOf (acc : List Nat) : List Edge → Nat → Nat
  | [], s => s
  | e :: l, s => maskOf acc l (bif Region.binds .any e then Nat.lor s (Nat.lor (Nat.pow 2 e.on) (nthD acc e.on)) else s)
noncomputable def masks : List Oper → List Nat → List Nat
  | [], acc => acc
  | o :: l, acc => masks l (acc ++ [maskOf acc o.after.toList 0])
noncomputable def isActor (o : AOp) : Bool :=
  match kindOf o with
  | .actor => true
  | _ => false
noncomputable def looks (o : O) : List Pos :=
  match o.guard with
  | some g => g.1 :: slotsOf o.op
  | none => slotsOf o.op
structure OI where
  i : Nat
  d : Nat
  l : Nat
  b : Nat
  act : Bool
noncomputable def maskL : List Pos → Nat
  | [] => 0
  | p :: l => Nat.lor (Nat.pow 2 p.num) (maskL l)
noncomputable def oiOf (i : Nat) (o : O) : OI := ⟨i, match o.dst with | some p => Nat.pow 2 p.num | none => 0, maskL (looks o), o.before, isActor o.op⟩
noncomputable def okTwo (y x : OI) : Bool :=
  bif Nat.beq (Nat.land x.d y.d) 0 then (bif bit x.b y.i then true else (bif Nat.beq (Nat.lor (Nat.land y.d x.l) (Nat.land x.d y.l)) 0 then (bif x.act then !y.act else true) else false)) else false
noncomputable def okAcc (l : List OI) : OI → Bool :=
  List.rec (motive := fun _ => OI → Bool) (fun _ => true) (fun y _ ih x => bif okTwo y x then ih x else false) l
noncomputable def okAll (l : List O) : Nat → List OI → Bool :=
  List.rec (motive := fun _ => Nat → List OI → Bool) (fun _ _ => true) (fun o _ ih i acc =>
    bif Nat.blt o.before (Nat.pow 2 i) && o.ok && Nat.beq (Nat.land (oiOf i o).d (oiOf i o).l) 0 && okAcc acc (oiOf i o) then ih (Nat.succ i) (oiOf i o :: acc) else false) l
noncomputable def okRegion (l : List O) : Bool := okAll l 0 []
noncomputable def zipO (P : Program) (n : Nat) (ops : Array Oper) : List Oper → List Nat → List O
  | o :: l, m :: r => compOper P n ops m o :: zipO P n ops l r
  | _, _ => []
noncomputable def edgesIn (md : Region.Mode) (m : Nat) : List Edge → Bool
  | [] => true
  | e :: l => (!Region.binds md e || bit m e.on) && edgesIn md m l
noncomputable def okRef (md : Region.Mode) (ops : Array Oper) : List Nat → Nat → Bool
  | [], m => Nat.beq m (Nat.sub (Nat.pow 2 ops.size) 1)
  | i :: r, m => (match ops[i]? with | some o => edgesIn md m o.after.toList | none => false) && (!bit m i && okRef md ops r (Nat.lor m (Nat.pow 2 i)))
noncomputable def okModes (P : Program) (ops : Array Oper) : Bool :=
  bif P.follows .mixedOrders || !Region.departs ops then okRef .any ops (List.range ops.size) 0
  else okRef .text ops (List.range ops.size) 0 && okRef .gc ops (Region.linearise .gc ops 0) 0
noncomputable def compDrawn (P : Program) (n : Nat) (ops : Array Oper) : C :=
  bif okModes P ops then
    (fun l => bif okRegion l then .drawn l else .bad "drawn order") (zipO P n ops ops.toList (masks ops.toList []))
  else .bad "drawn modes"
noncomputable def comp (P : Program) (n : Nat) : Code → C
  | .skip => .skip
  | .region _ ops false => .region (ops.toList.map (compOper P n ops 0))
  | .region _ ops true => compDrawn P n ops
  | .seq a b => .seq (comp P n a) (comp P n b)
  | .cond c a b => match compOpd P c with
    | some c => .cond c (comp P n a) (comp P n b)
    | none => .bad "cond"
  | .block id b => .block id (comp P n b)
  | .loop b => .loop (comp P n b)
  | .rangeFunc f params assign body => match compOpd P f with
    | some f => bif params.toList.all fun t => Nat.blt t n then .rangeFunc f (params.toList.map Pos.ofNat) (comp P n assign) (comp P n body) else .bad "params"
    | none => .bad "rangeFunc"
  | .exit id => .exit id
  | .scope b => .scope (comp P n b)
  | .label _ => .label
  | .goto _ => .bad "goto"
  | .ret => .ret
  | .refuse why => .bad why
noncomputable def compRV (P : Program) (r : ResultVar) : Option RV :=
  match r with
  | .tmp t => some (.tmp (Pos.ofNat t))
  | .cell a t => bif okT P t then some (bif isAggT P t then .cellN (Pos.ofNat a) (P.cellsOf t) else .cell1 (Pos.ofNat a)) else none
noncomputable def compFn (P : Program) (f : FuncId) : Option Fu :=
  match P.funcs[f]? with
  | none => none
  | some fn => match fn.body with
    | none => none
    | some b => match mapO (compRV P) fn.results.toList with
      | some r => some { results := r, nargs := fn.ntmps, body := comp P fn.ntmps b }
      | none => none
end Go.Proofs.YtjhgembcdndmkaaGreatDoor.Am

namespace Go.Proofs.YtjhgembcdndmkaaGreatDoor.Am
structure St where
  cur : Fr
  callers : List Fr
  hp : Hp
  deriving Inhabited
inductive Out where
  | next (s : St)
  | done (v : AV) (h : Hp)
  | fail (why : String)
  deriving Inhabited
noncomputable def exitA (id : Nat) : List Item → Option (List Item)
  | [] => none
  | x :: k => match x with
    | .inBlock id' => bif Nat.beq id' id then some k else exitA id k
    | _ => exitA id k
noncomputable def setArgs (env : T AV) : Nat → List AV → T AV
  | _, [] => env
  | i, v :: l => T.setK (Pos.ofNat i) (some v) env fun env => setArgs env (i + 1) l
noncomputable def setParams (env : T AV) : List Pos → List AV → Option (T AV)
  | p :: ps, v :: l => T.setK p (some v) env fun env => setParams env ps l
  | [], [] => some env
  | _, _ => none
noncomputable def beginFn (P : Program) (f : FuncId) (args : List AV) : Option Fr :=
  match compFn P f with
  | some fu => bif Nat.ble args.length fu.nargs then some ⟨f, setArgs .e 0 args, [.code fu.body], [], .run, false, none⟩ else none
  | none => none
noncomputable def beginRound (h : Hp) (l : Pos) (args : List AV) : Option Fr :=
  match T.get l h.heap with
  | some (.loop _ _ _ fn env params assign body _) => match setParams env params args with
    | some env => some ⟨fn, env, [.code assign, .beginRound, .code body], [], .run, false, some l⟩
    | none => none
  | _ => none
noncomputable def give (fr : Fr) (v : AV) (k : Fr → Out) : Out :=
  match fr.todo with
  | .ops (o :: rest) :: td => bif o.ok then (match o.dst with
    | some d => T.setK d (some v) fr.env fun env => k { fr with env := env, todo := .ops rest :: td }
    | none => k { fr with todo := .ops rest :: td }) else .fail "slot"
  | .inRange l :: td => k { fr with todo := .endRange l :: td }
  | _ => .fail "give"
noncomputable def backTo (v : AV) (callers : List Fr) (h : Hp) : Out :=
  match callers with
  | [] => .done v h
  | c :: cs => give c v fun c => .next ⟨c, cs, h⟩
noncomputable def result1 (env : T AV) (h : Hp) (r : RV) : Option AV :=
  match r with
  | .tmp p => some (ev env (.tmp p))
  | .cell1 p => match ev env (.tmp p) with
    | .ptr id g off => read1 h id g off
    | _ => none
  | .cellN p n => match ev env (.tmp p) with
    | .ptr id g off => match readN h id g off n with
      | some c => some (.agg c.toL)
      | none => none
    | _ => none
noncomputable def tupleA : List AV → AV
  | [v] => v
  | vs => .tup vs
noncomputable def setLoop (h : Hp) (l : Pos) (ok : LState → Bool) (st : LState) (pend : Option C → Option C) (k : Option C → Hp → Out) : Out :=
  match T.get l h.heap with
  | some (.loop ser st0 p fn env params assign body around) =>
    bif ok st0 then
      T.setK l (some (.loop ser st (pend p) fn env params assign body around)) h.heap fun t => k p ⟨t, h.next, h.ser, h.lim⟩
    else .fail "loop"
  | _ => .fail "no loop"
noncomputable def jumpState : Option C → LState
  | none => .ready
  | some _ => .done
noncomputable def jumpBool : Option C → Bool
  | none => true
  | some _ => false
noncomputable def leaveRound (s : St) (l : Pos) (jump : Option C) : Out :=
  setLoop s.hp l (fun _ => true) (jumpState jump) (fun _ => jump) fun _ h => backTo (.bool (jumpBool jump)) s.callers h
noncomputable def wantedA (o : O) (env : T AV) : Bool :=
  match o.guard with
  | none => true
  | some (p, want) => match T.get p env with
    | some (.bool b) => bif want then b else !b
    | _ => false
noncomputable def apply (P : Program) (s : St) (r : Res) : Out :=
  match r with
  | .val v h => give s.cur v fun fr => .next ⟨fr, s.callers, h⟩
  | .enter f args h => match beginFn P f args with
    | some fr => .next ⟨fr, s.cur :: s.callers, h⟩
    | none => .fail "no body"
  | .round l args => match beginRound s.hp l args with
    | some fr => .next ⟨fr, s.cur :: s.callers, s.hp⟩
    | none => .fail "yield"
  | .defer f args => (match s.cur.round with
    | none => give { s.cur with defers := .call f args :: s.cur.defers } .undef fun fr => .next ⟨fr, s.callers, s.hp⟩
    | some _ => .fail "defer in a round")
  | .recover => (match s.cur.round with
    | none => bif s.cur.dk then (match s.callers with
      | c :: _ => (match c.mode with
        | .ret => give s.cur .nilIfc fun fr => .next ⟨fr, s.callers, s.hp⟩
        | _ => .fail "recover of a panic")
      | [] => .fail "recover at the bottom") else give s.cur .nilIfc fun fr => .next ⟨fr, s.callers, s.hp⟩
    | some _ => .fail "recover in a round")
  | .panic _ => .fail "panic"
  | .fail why => .fail why
noncomputable def unwindA (P : Program) (s : St) : Out :=
  match s.cur.defers with
  | .mark id :: ds => match T.get id s.hp.heap with
    | some (.dfr _) => T.setK id none s.hp.heap fun t => .next ⟨{ s.cur with defers := ds }, s.callers, ⟨t, s.hp.next, s.hp.ser, s.hp.lim⟩⟩
    | _ => .fail "mark"
  | .call f args :: ds => (match enterA P s.hp f args with
    | .enter f args _ => (match beginFn P f args with
      | some fr => .next ⟨{ fr with dk := true }, { s.cur with defers := ds } :: s.callers, s.hp⟩
      | none => .fail "deferred call")
    | _ => .fail "deferred call of what")
  | [] => match compFn P s.cur.fn with
    | some fu => match mapO (result1 s.cur.env s.hp) fu.results with
      | some vs => (match s.cur.round with
        | none => bif s.cur.dk then (match s.callers with
          | c :: cs => (match c.mode with
            | .ret => .next ⟨c, cs, s.hp⟩
            | _ => .fail "behind a deferred call")
          | [] => .fail "a deferred call at the bottom") else backTo (tupleA vs) s.callers s.hp
        | some _ => .fail "a round that returns")
      | none => .fail "results"
    | none => .fail "ret"
structure Actor where
  i : Nat
  h : Hp
structure Ld where
  i : Nat
  op : AOp
  env : T AV
  v : AV
structure Al where
  i : Nat
  id : Pos
  b : Blk
noncomputable def insK (m : Nat) : List Al → T Blk → (T Blk → Out) → Out
  | [], t, k => k t
  | a :: l, t, k => bif bit m a.i then T.setK a.id (some a.b) t fun t => insK m l t k else insK m l t k
noncomputable def insAll : List Al → T Blk → (T Blk → Out) → Out
  | [], t, k => k t
  | a :: l, t, k => T.setK a.id (some a.b) t fun t => insAll l t k
noncomputable def remAl (m : Nat) : List Al → List Al
  | [] => []
  | a :: l => bif bit m a.i then remAl m l else a :: remAl m l
noncomputable def lookBack (P : Program) (op : AOp) (env : T AV) (v : AV) (m : Nat) : List Actor → Bool
  | [] => true
  | a :: l => (bit m a.i || (match evalOp P op env a.h with | .val u _ => eqAV 8 v u | _ => false)) && lookBack P op env v m l
noncomputable def lookAgain (P : Program) (h : Hp) (m : Nat) : List Ld → Bool
  | [] => true
  | d :: l => (bit m d.i || (match evalOp P d.op d.env h with | .val u _ => eqAV 8 d.v u | _ => false)) && lookAgain P h m l
noncomputable def setDst (env : T AV) (d : Option Pos) (v : AV) (k : T AV → Out) : Out :=
  match d with
  | some d => T.setK d (some v) env k
  | none => k env
noncomputable def actK (P : Program) (rec : St → Out) (op : AOp) (env : T AV) (h : Hp) (k : AV → Hp → Out) : Out :=
  match evalOp P op env h with
  | .val v h => k v h
  | .enter f args h => (match beginFn P f args with
    | some fr => (match rec ⟨fr, [], h⟩ with
      | .done v h => k v h
      | .next _ => .fail "drawn fuel"
      | .fail why => .fail why)
    | none => .fail "drawn no body")
  | .round l args => (match beginRound h l args with
    | some fr => (match rec ⟨fr, [], h⟩ with
      | .done v h => k v h
      | .next _ => .fail "drawn fuel"
      | .fail why => .fail why)
    | none => .fail "drawn yield")
  | .defer _ _ => .fail "drawn defer"
  | .recover => .fail "drawn recover"
  | .panic _ => .fail "drawn panic"
  | .fail why => .fail why
noncomputable def drawnGo (P : Program) (rec : St → Out) (k : T AV → Hp → Out) : Nat → List Actor → List Ld → List Al → Pos → T AV → Hp → List O → Out
  | _, _, _, als, _, env, h, [] => insAll als h.heap fun t => k env ⟨t, h.next, h.ser, h.lim⟩
  | i, acts, lds, als, rid, env, h, o :: rest =>
    match kindOf o.op with
    | .still => bif wantedA o env then (match evalOp P o.op env h with
      | .val v _ => setDst env o.dst v fun env => drawnGo P rec k (i + 1) acts lds als rid env h rest
      | _ => .fail "drawn still") else setDst env o.dst .undef fun env => drawnGo P rec k (i + 1) acts lds als rid env h rest
    | .load => bif wantedA o env then (match evalOp P o.op env h with
      | .val v _ => bif lookBack P o.op env v o.before acts then setDst env o.dst v fun env2 => drawnGo P rec k (i + 1) acts (⟨i, o.op, env, v⟩ :: lds) als rid env2 h rest else .fail "drawn a look back"
      | _ => .fail "drawn load") else setDst env o.dst .undef fun env => drawnGo P rec k (i + 1) acts lds als rid env h rest
    | .alloc => bif wantedA o env then (match evalOp P o.op env ⟨.e, rid, h.ser, rid.num + 1⟩ with
      | .val v h' => (match T.get rid h'.heap with
        | some b => setDst env o.dst v fun env => drawnGo P rec k (i + 1) acts lds (⟨i, rid, b⟩ :: als) rid.succ env h rest
        | none => setDst env o.dst v fun env => drawnGo P rec k (i + 1) acts lds als rid.succ env h rest)
      | _ => .fail "drawn alloc") else setDst env o.dst .undef fun env => drawnGo P rec k (i + 1) acts lds als rid.succ env h rest
    | .actor => bif wantedA o env then
        insK o.before als h.heap fun t => actK P rec o.op env ⟨t, h.next, h.ser, h.lim⟩ fun v h' =>
          bif lookAgain P h' o.before lds then setDst env o.dst v fun env => drawnGo P rec k (i + 1) (⟨i, h⟩ :: acts) lds (remAl o.before als) rid env h' rest else .fail "drawn a look again"
      else setDst env o.dst .undef fun env => drawnGo P rec k (i + 1) acts lds als rid env h rest
noncomputable def isAlloc (o : AOp) : Bool :=
  match kindOf o with
  | .alloc => true
  | _ => false
noncomputable def skipIds : List O → Pos → Pos
  | [], p => p
  | o :: l, p => bif isAlloc o.op then skipIds l p.succ else skipIds l p
noncomputable def step (P : Program) (rec : St → Out) (s : St) : Out :=
  let fr := s.cur
  let to (todo : List Item) : Out := .next ⟨{ fr with todo := todo }, s.callers, s.hp⟩
  let ret : Out := .next ⟨{ fr with mode := .ret }, s.callers, s.hp⟩
  match fr.mode with
  | .ret => unwindA P s
  | .pan _ _ => .fail "panic"
  | .run => match fr.todo with
  | [] => match fr.round with
    | none => ret
    | some l => leaveRound s l none
  | x :: k => match x with
    | .code c => match c with
      | .skip => to k
      | .label => to k
      | .ret => match fr.round with
        | none => ret
        | some l => leaveRound s l (some .ret)
      | .seq a b => to (.code a :: .code b :: k)
      | .cond c a b => match ev fr.env c with
        | .bool true => to (.code a :: k)
        | .bool false => to (.code b :: k)
        | _ => .fail "cond"
      | .block id b => to (.code b :: .inBlock id :: k)
      | .loop b => to (.code b :: .inLoop b :: k)
      | .scope b => to (.code b :: .inScope :: k)
      | .exit id => match exitA id k with
        | some k => to k
        | none => match fr.round with
          | none => .fail "exit"
          | some l => leaveRound s l (some (.exit id))
      | .region ops => to (.ops ops :: k)
      | .drawn ops => drawnGo P rec (fun env h => .next ⟨{ fr with env := env, todo := k }, s.callers, h⟩) 0 [] [] [] s.hp.next fr.env ⟨s.hp.heap, skipIds ops s.hp.next, s.hp.ser, s.hp.lim⟩ ops
      | .rangeFunc f params assign body =>
        let mk (defers : List AD) (around : Pos) (h : Hp) : Out :=
          newK h (fun ser => .loop ser .ready none fr.fn fr.env params assign body around) fun l h =>
            let s : St := ⟨{ fr with todo := .inRange l :: k, defers := defers }, s.callers, h⟩
            match ev fr.env f with
            | .fn (.func g) first captured => apply P s (enterA P h g (first ++ (.yield l :: captured)))
            | .yield l' => apply P s (.round l' [.yield l])
            | _ => .fail "rangeFunc what"
        match fr.round with
        | none => newK s.hp (fun ser => .dfr ser) fun r h => mk (.mark r :: fr.defers) r h
        | some l => match T.get l s.hp.heap with
          | some (.loop _ _ _ _ _ _ _ _ around) => mk fr.defers around s.hp
          | _ => .fail "rangeFunc no loop around"
      | .bad why => .fail why
    | .inBlock _ => to k
    | .inScope => to k
    | .inLoop b => to (.code b :: .inLoop b :: k)
    | .ops l => match l with
      | [] => to k
      | o :: _ => bif !o.ok then .fail "slot" else bif wantedA o fr.env then apply P s (evalOp P o.op fr.env s.hp)
        else give fr .undef fun fr => .next ⟨fr, s.callers, s.hp⟩
    | .beginRound => match fr.round with
      | some l => setLoop s.hp l (fun st => match st with | .ready => true | _ => false) .busy id fun _ h => .next ⟨{ fr with todo := k }, s.callers, h⟩
      | none => .fail "beginRound no round"
    | .inRange _ => .fail "inRange"
    | .endRange l => setLoop s.hp l (fun st => match st with | .busy => false | _ => true) .exhausted id fun pend h =>
        .next ⟨{ fr with todo := match pend with | some c => .code c :: k | none => k }, s.callers, h⟩
noncomputable def pow (st : St → Out) : Nat → St → Out
  | 0, s => st s
  | n + 1, s => match pow st n s with
    | .next s' => pow st n s'
    | r => r
noncomputable def run (P : Program) : Nat → St → Out
  | 0, _ => .fail "depth"
  | d + 1, s => pow (step P (run P d)) 30 s
noncomputable def start (P : Program) (f : FuncId) (g : Nat) : Option St :=
  match beginFn P f [] with
  | some fr => some ⟨fr, [], ⟨.e, Pos.ofNat g, 0, 0⟩⟩
  | none => none
noncomputable def isTrue : Out → Bool
  | .done (.bool true) _ => true
  | _ => false
noncomputable def closed (P : Program) (f : FuncId) (g : Nat) : Bool :=
  match start P f g with
  | some s => isTrue (run P 40 s)
  | none => false
end Go.Proofs.YtjhgembcdndmkaaGreatDoor.Am

namespace Go.Proofs.YtjhgembcdndmkaaGreatDoor.Am
abbrev Phi := Pos → Nat → Option (Nat × Int × Nat)
mutual
inductive Rel (φ : Phi) : AV → Value → Prop where
  | bool (b : Bool) : Rel φ (.bool b) (.bool b)
  | int (k : IntKind) (n : Int) : Rel φ (.int k n) (.int k n)
  | str {n v : Nat} {s : ByteArray} (h : s.data.toList = unpack n v) (hv : v < 256 ^ n) : Rel φ (.str n v) (.string s)
  | ptr {id : Pos} {g off b : Nat} {s : Int} {n : Nat} {a : Addr} (h : φ id g = some (b, s, n)) (hb : a.block = b) (ho : (a.off : Int) = off + s) (hs : a.spot = none) :
      Rel φ (.ptr id g off) (.pointer (some a))
  | nilPtr : Rel φ .nilPtr (.pointer none)
  | sl {id : Pos} {g off len cap : Nat} {ex : Bool} {es b : Nat} {s : Int} {n : Nat} {a : Addr} {c : Nat} (h : φ id g = some (b, s, n)) (hb : a.block = b) (hs : a.spot = none)
      (hl : len ≤ c) (hc : cap ≤ c) (hlc : len ≤ cap) (hx : ex = true → c = cap) (ho : 0 < c → (a.off : Int) = off + s ∧ a.off + c * es ≤ n) :
      Rel φ (.sl id g off len cap ex es) (.slice (some a) len c)
  | sl0 {id : Pos} {g off es : Nat} {a : Addr} : Rel φ (.sl id g off 0 0 true es) (.slice (some a) 0 0)
  | nilSl : Rel φ .nilSl (.slice none 0 0)
  | map {id : Pos} {b : Nat} (h : φ id 0 = some (b, 0, 0)) : Rel φ (.map id) (.map (some b))
  | nilMap : Rel φ .nilMap (.map none)
  | fn {f : Fn} {first captured : List AV} {first' captured' : Array Value} (h : RelL φ first first'.toList) (h' : RelL φ captured captured'.toList) :
      Rel φ (.fn f first captured) (.func f first' captured')
  | yield {id : Pos} {b : Nat} (h : φ id 0 = some (b, 0, 0)) : Rel φ (.yield id) (.func (.yield b) #[] #[])
  | nilFn : Rel φ .nilFn .nilFunc
  | ifc {t : TypeId} {v : AV} {x : Value} (h : Rel φ v x) : Rel φ (.ifc t v) (.iface t x)
  | nilIfc : Rel φ .nilIfc .nilIface
  | agg {l : List AV} {a : Array Value} (h : RelL φ l a.toList) : Rel φ (.agg l) (.agg a)
  | tup {l : List AV} {a : Array Value} (h : RelL φ l a.toList) : Rel φ (.tup l) (.tuple a)
inductive RelL (φ : Phi) : List AV → List Value → Prop where
  | nil : RelL φ [] []
  | cons {v : AV} {x : Value} {l : List AV} {r : List Value} (h : Rel φ v x) (t : RelL φ l r) : RelL φ (v :: l) (x :: r)
end
def Le (φ ψ : Phi) : Prop := ∀ id g r, φ id g = some r → ψ id g = some r
theorem Le.refl (φ : Phi) : Le φ φ := fun _ _ _ h => h
theorem Le.trans {φ ψ χ : Phi} (h : Le φ ψ) (k : Le ψ χ) : Le φ χ := fun _ _ _ e => k _ _ _ (h _ _ _ e)
mutual
theorem Rel.mono {φ ψ : Phi} (hle : Le φ ψ) {v : AV} {x : Value} : Rel φ v x → Rel ψ v x
  | .bool b => .bool b
  | .int k n => .int k n
  | .str h hv => .str h hv
  | .ptr h hb ho hs => .ptr (hle _ _ _ h) hb ho hs
  | .nilPtr => .nilPtr
  | .sl h hb hs hl hc hlc hx ho => .sl (hle _ _ _ h) hb hs hl hc hlc hx ho
  | .sl0 => .sl0
  | .nilSl => .nilSl
  | .map h => .map (hle _ _ _ h)
  | .nilMap => .nilMap
  | .fn h h' => .fn (RelL.mono hle h) (RelL.mono hle h')
  | .yield h => .yield (hle _ _ _ h)
  | .nilFn => .nilFn
  | .ifc h => .ifc (Rel.mono hle h)
  | .nilIfc => .nilIfc
  | .agg h => .agg (RelL.mono hle h)
  | .tup h => .tup (RelL.mono hle h)
theorem RelL.mono {φ ψ : Phi} (hle : Le φ ψ) {l : List AV} {r : List Value} : RelL φ l r → RelL ψ l r
  | .nil => .nil
  | .cons h t => .cons (Rel.mono hle h) (RelL.mono hle t)
end
theorem RelL.length {φ : Phi} {l : List AV} {r : List Value} (h : RelL φ l r) : l.length = r.length := by
  induction l generalizing r with
  | nil => cases h; rfl
  | cons v l ih => cases h with | cons h t => simp [ih t]
theorem RelL.get {φ : Phi} {l : List AV} {r : List Value} (h : RelL φ l r) {i : Nat} {v : AV} (hv : l[i]? = some v) : ∃ x, r[i]? = some x ∧ Rel φ v x := by
  induction l generalizing r i with
  | nil => simp at hv
  | cons u l ih =>
    cases h with
    | cons h t =>
      cases i with
      | zero => simp at hv; subst hv; exact ⟨_, rfl, h⟩
      | succ i => simpa using ih t (by simpa using hv)
theorem RelL.of_get {φ : Phi} {l : List AV} {r : List Value} (hl : l.length = r.length) (h : ∀ (i : Nat) (v : AV) (x : Value), l[i]? = some v → r[i]? = some x → Rel φ v x) : RelL φ l r := by
  induction l generalizing r with
  | nil => cases r with
    | nil => exact .nil
    | cons x r => simp at hl
  | cons v l ih => cases r with
    | nil => simp at hl
    | cons x r =>
      exact .cons (h 0 v x rfl rfl) (ih (by simpa using hl) fun i v x hv hx => h (i + 1) v x (by simpa using hv) (by simpa using hx))
theorem RelL.append {φ : Phi} {l m : List AV} {r s : List Value} (h : RelL φ l r) (k : RelL φ m s) : RelL φ (l ++ m) (r ++ s) := by
  induction l generalizing r with
  | nil => cases h; exact k
  | cons v l ih => cases h with | cons h t => exact .cons h (ih t)
theorem RelL.take {φ : Phi} {l : List AV} {r : List Value} (h : RelL φ l r) (n : Nat) : RelL φ (l.take n) (r.take n) := by
  induction l generalizing r n with
  | nil => cases h; simp; exact .nil
  | cons v l ih => cases h with
    | cons h t => cases n with
      | zero => exact .nil
      | succ n => exact .cons h (ih t n)
theorem RelL.drop {φ : Phi} {l : List AV} {r : List Value} (h : RelL φ l r) (n : Nat) : RelL φ (l.drop n) (r.drop n) := by
  induction l generalizing r n with
  | nil => cases h; simp; exact .nil
  | cons v l ih => cases h with
    | cons h t => cases n with
      | zero => exact .cons h t
      | succ n => exact ih t n
theorem Rel.cells {φ : Phi} {v : AV} {x : Value} (h : Rel φ v x) : RelL φ v.cells x.cells.toList := by
  cases h with
  | agg h => exact h
  | bool b => exact .cons (.bool b) .nil
  | int k n => exact .cons (.int k n) .nil
  | str h hv => exact .cons (.str h hv) .nil
  | ptr h hb ho hs => exact .cons (.ptr h hb ho hs) .nil
  | nilPtr => exact .cons .nilPtr .nil
  | sl h hb hs hl hc hlc hx ho => exact .cons (.sl h hb hs hl hc hlc hx ho) .nil
  | sl0 => exact .cons .sl0 .nil
  | nilSl => exact .cons .nilSl .nil
  | map h => exact .cons (.map h) .nil
  | nilMap => exact .cons .nilMap .nil
  | fn h h' => exact .cons (.fn h h') .nil
  | yield h => exact .cons (.yield h) .nil
  | nilFn => exact .cons .nilFn .nil
  | ifc h => exact .cons (.ifc h) .nil
  | nilIfc => exact .cons .nilIfc .nil
  | tup h => exact .cons (.tup h) .nil
theorem Rel.undef {φ : Phi} : Rel φ .undef Go.undef := .tup .nil
def EnvR (φ : Phi) (env : T AV) (tmps : Array Value) : Prop := ∀ t, Rel φ (ev env (.tmp (Pos.ofNat t))) (tmps.getD t Go.undef)
theorem EnvR.mono {φ ψ : Phi} (hle : Le φ ψ) {env : T AV} {tmps : Array Value} (h : EnvR φ env tmps) : EnvR ψ env tmps := fun t => (h t).mono hle
theorem ev_set (env : T AV) (p q : Pos) (v : AV) : ev (T.set p (some v) env) (.tmp q) = if q = p then v else ev env (.tmp q) := by
  simp only [ev, T.get_set]
  by_cases h : q = p <;> simp [h]
theorem EnvR.set {φ : Phi} {env : T AV} {tmps : Array Value} (h : EnvR φ env tmps) {d : Nat} {v : AV} {x : Value} (hv : Rel φ v x) (hd : d < tmps.size) :
    EnvR φ (T.set (Pos.ofNat d) (some v) env) (tmps.setIfInBounds d x) := by
  intro t
  rw [ev_set]
  by_cases e : t = d
  · subst e
    rw [if_pos rfl, Array.getD_eq_getD_getElem?, Array.getElem?_setIfInBounds_self_of_lt hd]
    exact hv
  · rw [if_neg fun c => e (Pos.ofNat_inj c), Array.getD_eq_getD_getElem?, Array.getElem?_setIfInBounds_ne (Ne.symm e), ← Array.getD_eq_getD_getElem?]
    exact h t
def numT (P : Program) (f : FuncId) : Nat := ((P.funcs[f]?).map (·.ntmps)).getD 0
def Thawed (fz : Bool) (C : Array Value) (fr : Nat × Nat) : Prop := if fz = true then C.size ≤ fr.1 ∨ fr.2 ≤ fr.1 else fr = (0, 0)
def PendR (P : Program) (n : Nat) : Option C → Option Code → Prop
  | none, none => True
  | some c, some k => ∀ m, n ≤ n + m → c = comp P m k
  | _, _ => False
def LSR : LState → LoopState → Prop
  | .ready, .ready | .busy, .busy | .done, .done | .exhausted, .exhausted => True
  | _, _ => False
def DefR (φ : Phi) (f : FuncId) (args : List AV) (d : Deferred) : Prop := ∃ Y : Array Value, d.target = .fn (.func f) Y ∧ RelL φ args (d.args ++ Y).toList
inductive EntsR (φ : Phi) : List (AV × AV × Nat) → List MapEntry → Prop where
  | nil : EntsR φ [] []
  | cons {k v : AV} {n : Nat} {x y : Value} {l : List (AV × AV × Nat)} {r : List MapEntry} (hk : Rel φ k x) (hv : Rel φ v y) (t : EntsR φ l r) : EntsR φ ((k, v, n) :: l) ({ key := x, val := y, born := n } :: r)
theorem EntsR.mono {φ ψ : Phi} (hle : Le φ ψ) {l : List (AV × AV × Nat)} {r : List MapEntry} (h : EntsR φ l r) : EntsR ψ l r := by
  induction h with
  | nil => exact .nil
  | cons hk hv _ ih => exact .cons (hk.mono hle) (hv.mono hle) ih
def NoteR (P : Program) (note : Nat) (s : Int) (n : Nat) (el : TypeId) : Prop :=
  note = 0 ∨ (note = 1 ∧ P.underlying el = some (.int .u8) ∧ P.cellsOf el = 1) ∨ ∃ u, note = u + 2 ∧ el = u ∧ s = 0 ∧ n = P.cellsOf u
def TyR (P : Program) (φ : Phi) (w : World) (id : Pos) (note m g : Nat) : Prop :=
  ∀ j b s n C el fr, m ≤ j → j ≤ g → φ id j = some (b, s, n) → w.heap[b]? = some (.cells C el fr) → NoteR P note s n el
def CelR (φ : Phi) (w : World) (id : Pos) (c : Cells) (lo hi g m : Nat) (ro fz : Bool) : Prop := c.wf ∧ m ≤ g ∧ (m < g → hi ≤ c.size) ∧ (∀ j, g < j → φ id j = none) ∧
      (∀ j j' b s n s' n', m ≤ j → j ≤ g → m ≤ j' → j' ≤ g → φ id j = some (b, s, n) → φ id j' = some (b, s', n') → s = s') ∧
      ∀ j, m ≤ j → j ≤ g → ∃ b s n C el fr, φ id j = some (b, s, n) ∧ w.heap[b]? = some (.cells C el fr) ∧ C.size = n ∧ (ro = false → Thawed fz C fr) ∧
        ∀ (i : Nat) (v : AV), lo ≤ i → i < (if j = g then c.size else hi) → c.toL[i]? = some v → ∃ (o : Nat) (x : Value), (o : Int) = i + s ∧ C[o]? = some x ∧ Rel φ v x
def BR (P : Program) (φ : Phi) (w : World) (id : Pos) : Blk → Prop
  | .cells note c lo hi g m ro fz => CelR φ w id c lo hi g m ro fz ∧ TyR P φ w id note m g
  | .sit _ n v pos => ∃ b s, φ id 0 = some (b, 0, 0) ∧ w.heap[b]? = some (.stringIter s pos) ∧ s.data.toList = unpack n v ∧ v < 256 ^ n
  | .mit _ m since seen last => ∃ b bm, φ id 0 = some (b, 0, 0) ∧ w.heap[b]? = some (.mapIter bm since seen.toArray last) ∧ (match m, bm with | none, none => True | some m, some c => φ m 0 = some (c, 0, 0) | _, _ => False)
  | .map _ es clock => ∃ b E, φ id 0 = some (b, 0, 0) ∧ w.heap[b]? = some (.map E clock) ∧ EntsR φ es E.toList
  | .loop _ st pending fn env params assign body around => ∃ b L, φ id 0 = some (b, 0, 0) ∧ w.heap[b]? = some (.loop L) ∧ LSR st L.state ∧ PendR P (numT P fn) pending L.pending ∧ L.fn = fn ∧
      EnvR φ env L.tmps ∧ numT P fn ≤ L.tmps.size ∧ L.params.toList.map Pos.ofNat = params ∧ (∀ t ∈ L.params.toList, t < numT P fn) ∧ assign = comp P (numT P fn) L.assign ∧ body = comp P (numT P fn) L.body ∧
      φ around 0 = some (L.defers, 0, 0)
  | .dfr _ => ∃ b, φ id 0 = some (b, 0, 0) ∧ w.heap[b]? = some (.deferred (some []))
def Old (n lim : Nat) (id : Pos) : Prop := id.num < n ∨ (lim ≠ 0 ∧ lim ≤ id.num)
def Room (h : Hp) : Prop := h.lim = 0 ∨ h.next.num < h.lim
def Nonro (h : Hp) (id : Pos) : Prop := ∃ b, T.get id h.heap = some b ∧ ∀ s c lo hi g m ro fz, b = .cells s c lo hi g m ro fz → ro = false
structure HR (P : Program) (φ : Phi) (h : Hp) (w : World) : Prop where
  blk : ∀ id b, T.get id h.heap = some b → BR P φ w id b
  used : ∀ id g r, φ id g = some r → Old h.next.num h.lim id
  dom : ∀ id b, T.get id h.heap = some b → Old h.next.num h.lim id
  sep : ∀ id g b s n id' g' s' n', φ id g = some (b, s, n) → φ id' g' = some (b, s', n') → id = id' ∨ (¬ Nonro h id ∧ ¬ Nonro h id')
  inb : ∀ id g b s n, φ id g = some (b, s, n) → b < w.heap.size
  glob : ∀ g, g < globN P → φ (Pos.ofNat g) 0 = some (g, 0, globSz g)
def Was (h h' : Hp) (id : Pos) : Prop := id.num < h.next.num ∨ h'.next.num ≤ id.num
structure Adv (h : Hp) (w : World) (φ : Phi) (h' : Hp) (w' : World) (φ' : Phi) : Prop where
  le : Le φ φ'
  os : w'.os = w.os
  output : w'.output = w.output
  tape : w'.tape = w.tape
  size : w.heap.size ≤ w'.heap.size
  next : h.next.num ≤ h'.next.num
  new : ∀ id g b s n, φ' id g = some (b, s, n) → b < w.heap.size → ∃ g₀ s₀ n₀, φ id g₀ = some (b, s₀, n₀)
  old : ∀ id, Was h h' id → Nonro h' id → Nonro h id
  keep : ∀ b, b < w.heap.size → (∀ id g s n, φ id g = some (b, s, n) → ¬ Nonro h id) → w'.heap[b]? = w.heap[b]?
  lim : h'.lim = h.lim
  hid : ∀ id, Was h h' id → T.get id h.heap = none → T.get id h'.heap = none
  same : ∀ id g r, Was h h' id → ¬ Nonro h id → φ' id g = some r → φ id g = some r
theorem Adv.refl (h : Hp) (w : World) (φ : Phi) : Adv h w φ h w φ :=
  ⟨Le.refl φ, rfl, rfl, rfl, Nat.le_refl _, Nat.le_refl _, fun _ g _ s n e _ => ⟨g, s, n, e⟩, fun _ _ k => k, fun _ _ _ => rfl, rfl, fun _ _ e => e, fun _ _ _ _ _ e => e⟩
theorem Was.left {h h₁ h₂ : Hp} {id : Pos} (w : Was h h₂ id) (b : h₁.next.num ≤ h₂.next.num) : Was h h₁ id := by
  rcases w with k | k
  · exact .inl k
  · exact .inr (by omega)
theorem Was.right {h h₁ h₂ : Hp} {id : Pos} (w : Was h h₂ id) (a : h.next.num ≤ h₁.next.num) : Was h₁ h₂ id := by
  rcases w with k | k
  · exact .inl (by omega)
  · exact .inr k
theorem Room.was {h h₂ : Hp} (hm : Room h) (hn : h₂.next.num ≤ h.next.num + 1) : ∀ id, Old h.next.num h.lim id → Was h h₂ id := by
  intro id ho
  rcases ho with k | ⟨k1, k2⟩
  · exact .inl k
  · rcases hm with hm | hm
    · exact absurd hm k1
    · exact .inr (by omega)
theorem Room.was0 {h h₂ : Hp} (hm : h.lim = 0) : ∀ id, Old h.next.num h.lim id → Was h h₂ id := by
  intro id ho
  rcases ho with k | ⟨k1, _⟩
  · exact .inl k
  · exact absurd hm k1
theorem Adv.trans {P : Program} {h h₁ h₂ : Hp} {w w₁ w₂ : World} {φ φ₁ φ₂ : Phi} (hR : HR P φ h w) (a : Adv h w φ h₁ w₁ φ₁) (b : Adv h₁ w₁ φ₁ h₂ w₂ φ₂) (hl : ∀ id, Old h.next.num h.lim id → Was h h₂ id) : Adv h w φ h₂ w₂ φ₂ where
  le := a.le.trans b.le
  os := b.os.trans a.os
  output := b.output.trans a.output
  tape := b.tape.trans a.tape
  size := Nat.le_trans a.size b.size
  next := Nat.le_trans a.next b.next
  new := fun id g x s n e hx =>
    let ⟨g₁, s₁, n₁, e₁⟩ := b.new id g x s n e (Nat.lt_of_lt_of_le hx a.size)
    a.new id g₁ x s₁ n₁ e₁ hx
  old := fun id hw k => a.old id (hw.left b.next) (b.old id (hw.right a.next) k)
  keep := fun x hx k => by
    rw [← a.keep x hx k]
    refine b.keep x (Nat.lt_of_lt_of_le hx a.size) fun id g s n e hn => ?_
    obtain ⟨g₀, s₀, n₀, e₀⟩ := a.new id g x s n e hx
    have hw := hl id (hR.used id g₀ _ e₀)
    exact k id g₀ s₀ n₀ e₀ (a.old id (hw.left b.next) hn)
  lim := b.lim.trans a.lim
  hid := fun id hw e => b.hid id (hw.right a.next) (a.hid id (hw.left b.next) e)
  same := fun id g r hw e k => a.same id g r (hw.left b.next) e (b.same id g r (hw.right a.next) (fun q => e (a.old id (hw.left b.next) q)) k)
end Go.Proofs.YtjhgembcdndmkaaGreatDoor.Am

namespace Go.Proofs.YtjhgembcdndmkaaGreatDoor.Am
theorem add_eq (a : Addr) (h : a.spot = none) (n : Nat) : a.add n = ⟨a.block, a.off + n, none⟩ := by
  obtain ⟨b, o, s⟩ := a
  simp only at h; subst h
  unfold Addr.add
  by_cases e : n = 0
  · subst e; simp
  · simp [e]
def spliceV (C : List Value) (k : Nat) (vs : List Value) : List Value := C.take k ++ (vs ++ C.drop (k + vs.length))
theorem spliceV_length {C : List Value} {k : Nat} {vs : List Value} (h : k + vs.length ≤ C.length) : (spliceV C k vs).length = C.length := by
  simp [spliceV]; omega
theorem spliceV_get {C : List Value} {k : Nat} {vs : List Value} (h : k + vs.length ≤ C.length) (i : Nat) :
    (spliceV C k vs)[i]? = if k ≤ i ∧ i < k + vs.length then vs[i - k]? else C[i]? := by
  unfold spliceV
  by_cases h1 : i < k
  · rw [List.getElem?_append_left (by simp; omega), List.getElem?_take_of_lt h1, if_neg (by omega)]
  · rw [List.getElem?_append_right (by simp; omega)]
    have hk : (C.take k).length = k := by simp; omega
    rw [hk]
    by_cases h2 : i < k + vs.length
    · rw [List.getElem?_append_left (by omega), if_pos ⟨by omega, h2⟩]
    · rw [List.getElem?_append_right (by omega), List.getElem?_drop, if_neg (by omega)]
      congr 1; omega
def putRow (w : World) (b : Nat) (C : Array Value) (el : TypeId) (fr : Nat × Nat) : World := { w with heap := w.heap.setIfInBounds b (.cells C el fr) }
theorem heap_lt {w : World} {b : Nat} {o : Obj} (h : w.heap[b]? = some o) : b < w.heap.size := by
  rcases Nat.lt_or_ge b w.heap.size with h' | h'
  · exact h'
  · rw [Array.getElem?_eq_none h'] at h; cases h
theorem putRow_heap_same {w : World} {b : Nat} (hb : b < w.heap.size) (C : Array Value) (el : TypeId) (fr : Nat × Nat) : (putRow w b C el fr).heap[b]? = some (.cells C el fr) := by
  simp [putRow, hb]
theorem putRow_heap_ne {w : World} {b c : Nat} (h : c ≠ b) (C : Array Value) (el : TypeId) (fr : Nat × Nat) : (putRow w b C el fr).heap[c]? = w.heap[c]? := by
  simp only [putRow]
  exact Array.getElem?_setIfInBounds_ne (Ne.symm h)
theorem setCell_eq {w : World} {b o : Nat} {C : Array Value} {el : TypeId} {fr : Nat × Nat} (h : w.heap[b]? = some (.cells C el fr)) (v : Value) :
    w.setCell ⟨b, o, none⟩ v = putRow w b (C.setIfInBounds o v) el fr := by
  unfold World.setCell putRow
  congr 1
  have hb := heap_lt h
  apply Array.ext_getElem?
  intro i
  rw [Array.getElem?_modify]
  by_cases e : b = i
  · subst e
    rw [if_pos rfl, h, Array.getElem?_setIfInBounds_self_of_lt hb]
    rfl
  · rw [if_neg e, Array.getElem?_setIfInBounds_ne e]
theorem cell_eq {w : World} {b o : Nat} {C : Array Value} {el : TypeId} {fr : Nat × Nat} (h : w.heap[b]? = some (.cells C el fr)) : w.cell? ⟨b, o, none⟩ = C[o]? := by
  simp [World.cell?, h]
theorem frozen_eq {w : World} {b o : Nat} {C : Array Value} {el : TypeId} {fr : Nat × Nat} (h : w.heap[b]? = some (.cells C el fr)) : w.frozen? ⟨b, o, none⟩ = (decide (fr.1 ≤ o) && decide (o < fr.2)) := by
  obtain ⟨lo, hi⟩ := fr
  simp [World.frozen?, h]
theorem run_storeCells_g (P : Program) (a : Addr) (ha : a.spot = none) (el : TypeId) (fr : Nat × Nat) : ∀ (vs : List Value) (i : Nat) (C : Array Value) (w : World), w.heap[a.block]? = some (.cells C el fr) →
    (∀ j, j < C.size → ¬ (fr.1 ≤ j ∧ j < fr.2)) → a.off + i + vs.length ≤ C.size → (∀ v ∈ vs, v.oneCell' = true) →
    (storeCells a vs i).run P w = .ok () (putRow w a.block (spliceV C.toList (a.off + i) vs).toArray el fr)
  | [], i, C, w, h, _, _, _ => by
    unfold storeCells
    simp only [Sem.run_pure, spliceV, List.nil_append, List.length_nil, Nat.add_zero, List.take_append_drop]
    congr 1
    have hb := heap_lt h
    have e : w.heap.setIfInBounds a.block (.cells C el fr) = w.heap := by
      apply Array.ext_getElem?
      intro k
      by_cases e : a.block = k
      · subst e; rw [h, Array.getElem?_setIfInBounds_self_of_lt hb]
      · rw [Array.getElem?_setIfInBounds_ne e]
    unfold putRow
    rw [Array.toArray_toList, e]
  | v :: rest, i, C, w, h, hf, hs, hv => by
    have hlen : a.off + i < C.size := by simp at hs; omega
    have hc : w.cell? (a.add i) = some C[a.off + i] := by rw [add_eq a ha, cell_eq h, Array.getElem?_eq_getElem hlen]
    have hz : w.frozen? (a.add i) = false := by
      rw [add_eq a ha, frozen_eq h]
      have := hf (a.off + i) hlen
      by_cases h1 : fr.1 ≤ a.off + i <;> by_cases h2 : a.off + i < fr.2 <;> simp [h1, h2] <;> omega
    unfold storeCells
    rw [Sem.run_bind, run_store P w (a.add i) v .plain (hv v (by simp)), hc]
    simp only [hz, Bool.false_eq_true, if_false, Result.andThen_ok]
    rw [add_eq a ha, setCell_eq h]
    have hb := heap_lt h
    have h' : (putRow w a.block (C.setIfInBounds (a.off + i) v) el fr).heap[a.block]? = some (.cells (C.setIfInBounds (a.off + i) v) el fr) := putRow_heap_same hb _ _ _
    rw [run_storeCells_g P a ha el fr rest (i + 1) _ _ h' (by simpa using hf) (by simp at hs ⊢; omega) (fun x hx => hv x (by simp [hx]))]
    congr 1
    unfold putRow
    simp only [Array.setIfInBounds_setIfInBounds]
    congr 3
    refine congrArg List.toArray ?_
    apply List.ext_getElem?
    intro k
    rw [spliceV_get (by simp at hs ⊢; omega), spliceV_get (by simp at hs ⊢; omega)]
    simp only [Array.toList_setIfInBounds, List.length_cons, List.getElem?_set]
    by_cases e : k = a.off + i
    · subst e
      rw [if_neg (by omega), if_pos rfl, if_pos (by simpa using hlen), if_pos ⟨by omega, by omega⟩, Nat.sub_self]
      rfl
    · by_cases e2 : a.off + (i + 1) ≤ k ∧ k < a.off + (i + 1) + rest.length
      · rw [if_pos e2, if_pos ⟨by omega, by omega⟩, show k - (a.off + i) = (k - (a.off + (i + 1))) + 1 by omega, List.getElem?_cons_succ]
      · rw [if_neg e2, if_neg (by omega), if_neg (by omega)]
end Go.Proofs.YtjhgembcdndmkaaGreatDoor.Am

namespace Go.Proofs.YtjhgembcdndmkaaGreatDoor.Am
theorem BR.mono {P : Program} {φ φ' : Phi} {w w' : World} {id : Pos} {b : Blk} (hle : Le φ φ') (hsame : ∀ g r, φ' id g = some r → φ id g = some r)
    (hheap : ∀ g b s n, φ id g = some (b, s, n) → w'.heap[b]? = w.heap[b]?) (h : BR P φ w id b) : BR P φ' w' id b := by
  cases b with
  | cells ser c lo hi g m ro fz =>
    obtain ⟨⟨h1, h2, h3, h4, h6, h5⟩, ty⟩ := h
    refine ⟨⟨h1, h2, h3, fun j hj => ?_, fun j j' b s n s' n' a1 a2 a3 a4 k k' => h6 j j' b s n s' n' a1 a2 a3 a4 (hsame _ _ k) (hsame _ _ k'), fun j hm hg => ?_⟩, fun j b s n C el fr a1 a2 k k' => ty j b s n C el fr a1 a2 (hsame _ _ k) (by rw [← hheap _ _ _ _ (hsame _ _ k)]; exact k')⟩
    · cases e : φ' id j with
      | none => rfl
      | some r => have := hsame j r e; rw [h4 j hj] at this; cases this
    · obtain ⟨b, s, n, C, el, fr, e1, e2, e3, e4, e5⟩ := h5 j hm hg
      refine ⟨b, s, n, C, el, fr, hle _ _ _ e1, by rw [hheap _ _ _ _ e1, e2], e3, e4, fun i v hi1 hi2 hv => ?_⟩
      obtain ⟨o, x, f1, f2, f3⟩ := e5 i v hi1 hi2 hv
      exact ⟨o, x, f1, f2, f3.mono hle⟩
  | sit ser n v pos =>
    obtain ⟨b, s, e1, e2, e3, e4⟩ := h
    exact ⟨b, s, hle _ _ _ e1, by rw [hheap _ _ _ _ e1, e2], e3, e4⟩
  | mit ser m since seen last =>
    obtain ⟨b, bm, e1, e2, e3⟩ := h
    refine ⟨b, bm, hle _ _ _ e1, by rw [hheap _ _ _ _ e1, e2], ?_⟩
    cases m <;> cases bm <;> first | exact e3 | exact hle _ _ _ e3
  | map ser es clock =>
    obtain ⟨b, E, e1, e2, e3⟩ := h
    exact ⟨b, E, hle _ _ _ e1, by rw [hheap _ _ _ _ e1, e2], e3.mono hle⟩
  | loop ser st pending fn env params assign body around =>
    obtain ⟨b, L, e1, e2, e3, e4, e5, e6, e7, e8, e9, e10, e11, e12⟩ := h
    exact ⟨b, L, hle _ _ _ e1, by rw [hheap _ _ _ _ e1, e2], e3, e4, e5, e6.mono hle, e7, e8, e9, e10, e11, hle _ _ _ e12⟩
  | dfr ser =>
    obtain ⟨b, e1, e2⟩ := h
    exact ⟨b, hle _ _ _ e1, by rw [hheap _ _ _ _ e1, e2]⟩
theorem Old.mono {n m lim : Nat} {id : Pos} (h : Old n lim id) (hle : n ≤ m) : Old m lim id := by
  rcases h with k | k
  · exact .inl (by omega)
  · exact .inr k
structure Upd (h : Hp) (w : World) (φ : Phi) (id : Pos) (nx : Pos) (w' : World) (φ' : Phi) : Prop where
  le : Le φ φ'
  only : ∀ id' g r, id' ≠ id → φ' id' g = some r → φ id' g = some r
  new : ∀ g b s n, φ' id g = some (b, s, n) → (∃ g₀ s₀ n₀, φ id g₀ = some (b, s₀, n₀)) ∨ w.heap.size ≤ b
  inb : ∀ g b s n, φ' id g = some (b, s, n) → b < w'.heap.size
  lt : Old nx.num h.lim id
  nx : h.next.num ≤ nx.num
  size : w.heap.size ≤ w'.heap.size
  keep : ∀ b, b < w.heap.size → (∀ g s n, φ id g ≠ some (b, s, n)) → w'.heap[b]? = w.heap[b]?
  os : w'.os = w.os
  output : w'.output = w.output
  tape : w'.tape = w.tape
theorem HR.alone {P : Program} {φ : Phi} {h : Hp} {w : World} (hR : HR P φ h w) {id id' nx : Pos} (hn : (h.next.num ≤ id.num ∧ id.num < nx.num ∧ ∀ g, φ id g = none) ∨ Nonro h id) (c : id' ≠ id) {g g' b s s' n n' : _}
    (k : φ id' g = some (b, s, n)) (k' : φ id g' = some (b, s', n')) : False := by
  rcases hn with ⟨_, _, q⟩ | q
  · rw [q] at k'; cases k'
  · rcases hR.sep _ _ _ _ _ _ _ _ _ k k' with e | e
    · exact c e
    · exact e.2 q
theorem HR.update {P : Program} {φ φ' : Phi} {h : Hp} {w w' : World} {id nx : Pos} {b : Option Blk} {ser : Nat} (hR : HR P φ h w) (u : Upd h w φ id nx w' φ')
    (hn : (h.next.num ≤ id.num ∧ id.num < nx.num ∧ ∀ g, φ id g = none) ∨ Nonro h id) (hb : ∀ x, b = some x → BR P φ' w' id x) : HR P φ' ⟨T.set id b h.heap, nx, ser, h.lim⟩ w' where
  blk := fun id' x e => by
    simp only [T.get_set] at e
    by_cases c : id' = id
    · subst c; rw [if_pos rfl] at e; exact hb x e
    · rw [if_neg c] at e
      refine BR.mono u.le (fun g r k => u.only id' g r c k) (fun g y s n k => ?_) (hR.blk id' x e)
      exact u.keep y (hR.inb _ _ _ _ _ k) fun g' s' n' k' => hR.alone hn c k k'
  used := fun id' g r e => by
    by_cases c : id' = id
    · subst c; exact u.lt
    · exact (hR.used id' g r (u.only id' g r c e)).mono u.nx
  dom := fun id' x e => by
    simp only [T.get_set] at e
    by_cases c : id' = id
    · subst c; exact u.lt
    · rw [if_neg c] at e; exact (hR.dom id' x e).mono u.nx
  sep := fun i g y s n i' g' s' n' e e' => by
    by_cases c : i = id
    · by_cases c' : i' = id
      · exact .inl (by rw [c, c'])
      · subst c
        have k' := u.only i' g' _ c' e'
        rcases u.new g y s n e with ⟨g₀, s₀, n₀, k⟩ | k
        · exact (hR.alone hn c' k' k).elim
        · have := hR.inb _ _ _ _ _ k'; omega
    · have k := u.only i g _ c e
      by_cases c' : i' = id
      · subst c'
        rcases u.new g' y s' n' e' with ⟨g₀, s₀, n₀, k'⟩ | k'
        · exact (hR.alone hn c k k').elim
        · have := hR.inb _ _ _ _ _ k; omega
      · have nr : ∀ {i : Pos}, i ≠ id → ¬ Nonro h i → ¬ Nonro ⟨T.set id b h.heap, nx, ser, h.lim⟩ i := fun {i} hi q ⟨b', e, q'⟩ => by
          simp only [T.get_set, if_neg hi] at e
          exact q ⟨b', e, q'⟩
        exact (hR.sep _ _ _ _ _ _ _ _ _ k (u.only i' g' _ c' e')).imp _root_.id fun q => ⟨nr c q.1, nr c' q.2⟩
  inb := fun i g y s n e => by
    by_cases c : i = id
    · subst c; exact u.inb g y s n e
    · exact Nat.lt_of_lt_of_le (hR.inb _ _ _ _ _ (u.only i g _ c e)) u.size
  glob := fun g hg => u.le _ _ _ (hR.glob g hg)
theorem Adv.update {P : Program} {φ φ' : Phi} {h : Hp} {w w' : World} {id nx : Pos} {b : Option Blk} {ser : Nat} (hR : HR P φ h w) (u : Upd h w φ id nx w' φ')
    (hn : (h.next.num ≤ id.num ∧ id.num < nx.num ∧ ∀ g, φ id g = none) ∨ Nonro h id) : Adv h w φ ⟨T.set id b h.heap, nx, ser, h.lim⟩ w' φ' where
  le := u.le
  os := u.os
  output := u.output
  tape := u.tape
  size := u.size
  next := u.nx
  new := fun i g y s n e hy => by
    by_cases c : i = id
    · subst c
      rcases u.new g y s n e with k | k
      · exact k
      · omega
    · exact ⟨g, s, n, u.only i g _ c e⟩
  old := fun i hi ⟨x, e, k⟩ => by
    simp only [T.get_set] at e
    by_cases c : i = id
    · subst c
      rcases hn with hn | hn
      · rcases hi with hi | hi
        · omega
        · have : nx.num ≤ i.num := hi
          omega
      · exact hn
    · rw [if_neg c] at e; exact ⟨x, e, k⟩
  keep := fun y hy k => by
    refine u.keep y hy fun g s n e => ?_
    rcases hn with hn | hn
    · rw [hn.2.2 g] at e; cases e
    · exact k id g s n e hn
  lim := rfl
  hid := fun i hi e => by
    simp only [T.get_set]
    by_cases c : i = id
    · subst c
      rcases hn with hn | ⟨y, e', _⟩
      · rcases hi with hi | hi
        · omega
        · have : nx.num ≤ i.num := hi
          omega
      · rw [e] at e'; cases e'
    · rw [if_neg c]; exact e
  same := fun i g r hi e k => by
    by_cases c : i = id
    · subst c
      rcases hn with hn | hn
      · rcases hi with hi | hi
        · omega
        · have : nx.num ≤ i.num := hi
          omega
      · exact absurd hn e
    · exact u.only i g r c k
def Phi.put (φ : Phi) (id : Pos) (g : Nat) (r : Nat × Int × Nat) : Phi := fun i j => if i = id ∧ j = g then some r else φ i j
theorem Phi.put_same (φ : Phi) (id : Pos) (g : Nat) (r : Nat × Int × Nat) : φ.put id g r id g = some r := by simp [Phi.put]
theorem Phi.put_id {φ : Phi} {id id' : Pos} (h : id' ≠ id) (g j : Nat) (r : Nat × Int × Nat) : φ.put id g r id' j = φ id' j := by simp [Phi.put, h]
theorem Phi.put_gen {φ : Phi} {id id' : Pos} {g j : Nat} (h : j ≠ g) (r : Nat × Int × Nat) : φ.put id g r id' j = φ id' j := by simp [Phi.put, h]
theorem Phi.le_put {φ : Phi} {id : Pos} {g : Nat} {r : Nat × Int × Nat} (h : φ id g = none) : Le φ (φ.put id g r) := by
  intro i j x e
  by_cases c : i = id ∧ j = g
  · obtain ⟨rfl, rfl⟩ := c; rw [h] at e; cases e
  · simp [Phi.put, c, e]
theorem alloc_new (w : World) (o : Obj) : (w.alloc o).heap[w.heap.size]? = some o := by
  unfold World.alloc; rw [Array.getElem?_push, if_pos rfl]
theorem alloc_old (w : World) (o : Obj) {b : Nat} (h : b < w.heap.size) : (w.alloc o).heap[b]? = w.heap[b]? := by
  unfold World.alloc; simp only [Array.getElem?_push]; rw [if_neg (by omega)]
theorem alloc_size (w : World) (o : Obj) : (w.alloc o).heap.size = w.heap.size + 1 := by unfold World.alloc; simp
theorem HR.next_none {P : Program} {φ : Phi} {h : Hp} {w : World} (hR : HR P φ h w) (hl : Room h) (g : Nat) : φ h.next g = none := by
  cases e : φ h.next g with
  | none => rfl
  | some r =>
    rcases hR.used _ _ _ e with k | ⟨k1, k2⟩
    · omega
    · rcases hl with hl | hl
      · exact absurd hl k1
      · omega
theorem Upd.alloc {P : Program} {φ : Phi} {h : Hp} {w : World} (hR : HR P φ h w) (hl : Room h) (o : Obj) (n : Nat) :
    Upd h w φ h.next h.next.succ (w.alloc o) (φ.put h.next 0 (w.heap.size, 0, n)) where
  le := Phi.le_put (hR.next_none hl 0)
  only := fun id' g r c e => by rwa [Phi.put_id c] at e
  new := fun g b s m e => by
    by_cases c : g = 0
    · subst c; rw [Phi.put_same] at e; cases e; exact .inr (Nat.le_refl _)
    · rw [Phi.put_gen c, hR.next_none hl] at e; cases e
  inb := fun g b s m e => by
    by_cases c : g = 0
    · subst c; rw [Phi.put_same] at e; cases e; rw [alloc_size]; omega
    · rw [Phi.put_gen c, hR.next_none hl] at e; cases e
  lt := .inl (by rw [Pos.num_succ]; omega)
  nx := by rw [Pos.num_succ]; omega
  size := by rw [alloc_size]; omega
  keep := fun b hb _ => alloc_old w o hb
  os := rfl
  output := rfl
  tape := rfl
theorem Upd.same {P : Program} {φ : Phi} {h : Hp} {w w' : World} {id : Pos} {b : Blk} (hR : HR P φ h w) (hid : T.get id h.heap = some b) (hs : w'.heap.size = w.heap.size)
    (hk : ∀ y, y < w.heap.size → (∀ g s n, φ id g ≠ some (y, s, n)) → w'.heap[y]? = w.heap[y]?) (ho : w'.os = w.os) (hp : w'.output = w.output) (ht : w'.tape = w.tape) :
    Upd h w φ id h.next w' φ where
  le := Le.refl φ
  only := fun _ _ _ _ e => e
  new := fun g b s n e => .inl ⟨g, s, n, e⟩
  inb := fun g b s n e => by rw [hs]; exact hR.inb _ _ _ _ _ e
  lt := hR.dom _ _ hid
  nx := Nat.le_refl _
  size := by rw [hs]; exact Nat.le_refl _
  keep := hk
  os := ho
  output := hp
  tape := ht
end Go.Proofs.YtjhgembcdndmkaaGreatDoor.Am

namespace Go.Proofs.YtjhgembcdndmkaaGreatDoor.Am
theorem seen {P : Program} {φ : Phi} {h : Hp} {w : World} (hR : HR P φ h w) {id : Pos} {ser lo hi g' m : Nat} {c : Cells} {ro fz : Bool}
    (hid : T.get id h.heap = some (.cells ser c lo hi g' m ro fz)) {g off k b : Nat} {s : Int} {n : Nat} (hφ : φ id g = some (b, s, n)) (hs : seeable c lo hi g' m g off k = true) :
    off + k ≤ c.size ∧ ∃ C el fr, w.heap[b]? = some (.cells C el fr) ∧ C.size = n ∧
      ∀ j, j < k → ∃ (o : Nat) (v : AV) (x : Value), (o : Int) = (off + j : Nat) + s ∧ c.toL[off + j]? = some v ∧ C[o]? = some x ∧ Rel φ v x := by
  obtain ⟨h1, h2, h3, h4, _, h5⟩ := (hR.blk _ _ hid).1
  unfold seeable at hs
  rw [Bool.and_eq_true] at hs
  obtain ⟨hlo, hs⟩ := hs
  have hlo := ble_iff.1 hlo
  by_cases e : g = g'
  · rw [beq_iff.2 e, cond_true] at hs
    have hs : off + k ≤ c.size := ble_iff.1 hs
    subst e
    obtain ⟨b', s', n', C, el, fr, e1, e2, e3, _, e5⟩ := h5 g h2 (Nat.le_refl _)
    rw [hφ] at e1; cases e1
    refine ⟨hs, C, el, fr, e2, e3, fun j hj => ?_⟩
    have hlt : off + j < c.toL.length := by rw [Cells.toL_length h1]; omega
    obtain ⟨o, x, f1, f2, f3⟩ := e5 (off + j) _ (by omega) (by rw [if_pos rfl]; omega) (List.getElem?_eq_getElem hlt)
    exact ⟨o, _, x, f1, List.getElem?_eq_getElem hlt, f2, f3⟩
  · rw [beq_false.2 e, cond_false, Bool.and_eq_true, Bool.and_eq_true] at hs
    obtain ⟨⟨hm, hg⟩, hs⟩ := hs
    have hm := ble_iff.1 hm
    have hg := blt_iff.1 hg
    have hs : off + k ≤ hi := ble_iff.1 hs
    have hh := h3 (by omega)
    obtain ⟨b', s', n', C, el, fr, e1, e2, e3, _, e5⟩ := h5 g hm (by omega)
    rw [hφ] at e1; cases e1
    refine ⟨by omega, C, el, fr, e2, e3, fun j hj => ?_⟩
    have hlt : off + j < c.toL.length := by rw [Cells.toL_length h1]; omega
    obtain ⟨o, x, f1, f2, f3⟩ := e5 (off + j) _ (by omega) (by rw [if_neg e]; omega) (List.getElem?_eq_getElem hlt)
    exact ⟨o, _, x, f1, List.getElem?_eq_getElem hlt, f2, f3⟩
theorem readN_run {P : Program} {φ : Phi} {h : Hp} {w : World} (hR : HR P φ h w) {id : Pos} {g off k b : Nat} {s : Int} {n : Nat} {c : Cells} {a : Addr}
    (hr : readN h id g off k = some c) (hφ : φ id g = some (b, s, n)) (hb : a.block = b) (hs : a.spot = none) (ho : 0 < k → (a.off : Int) = off + s) :
    ∃ xs : List Value, (loadCells a k).run P w = .ok xs.toArray w ∧ RelL φ c.toL xs ∧ c.wf ∧ c.size = k := by
  unfold readN at hr
  by_cases hk : k = 0
  · subst hk
    rw [beq_iff.2 rfl, cond_true] at hr
    cases hr
    exact ⟨[], run_loadCells_list w a [] (fun j v e => by simp at e), .nil, rfl, rfl⟩
  · rw [beq_false.2 hk, cond_false] at hr
    have ho := ho (by omega)
    split at hr
    · rename_i ser c' lo hi g' m ro fz hid
      cases hse : seeable c' lo hi g' m g off k with
      | false => rw [hse, cond_false] at hr; cases hr
      | true =>
        rw [hse, cond_true] at hr
        cases hr
        obtain ⟨hsz, C, el, fr, e2, e3, e5⟩ := seen hR hid hφ hse
        have hwf : c'.wf := (hR.blk _ _ hid).1.1
        obtain ⟨w1, t1, s1⟩ := Cells.sub_spec hwf hsz
        have hla : ∀ j, j < k → ∃ x, C[a.off + j]? = some x := fun j hj => by
          obtain ⟨o, v, x, f1, f2, f3, f4⟩ := e5 j hj
          have : o = a.off + j := by omega
          exact ⟨x, by rw [← this]; exact f3⟩
        have hlen : ((C.toList.drop a.off).take k).length = k := by
          rw [List.length_take, List.length_drop, Array.length_toList]
          have : a.off + k ≤ C.size := by
            obtain ⟨x, hx⟩ := hla (k - 1) (by omega)
            have := (Array.getElem?_eq_some_iff.1 hx).1
            omega
          omega
        refine ⟨(C.toList.drop a.off).take k, ?_, ?_, w1, s1⟩
        · have := run_loadCells_list (P := P) w a ((C.toList.drop a.off).take k) fun j v e => by
            rw [add_eq a hs, hb, cell_eq e2]
            have hj : j < k := by
              have := (List.getElem?_eq_some_iff.1 e).1; omega
            rw [List.getElem?_take_of_lt hj, List.getElem?_drop, Array.getElem?_toList] at e
            exact e
          rw [hlen] at this
          exact this
        · refine RelL.of_get (by rw [hlen, Cells.toL_length w1, s1]) fun i v x hv hx => ?_
          have hi : i < k := by have := (List.getElem?_eq_some_iff.1 hx).1; omega
          rw [t1, List.getElem?_take_of_lt hi, List.getElem?_drop] at hv
          rw [List.getElem?_take_of_lt hi, List.getElem?_drop, Array.getElem?_toList] at hx
          obtain ⟨o, v', x', f1, f2, f3, f4⟩ := e5 i hi
          have : o = a.off + i := by omega
          rw [this, hx] at f3
          rw [hv] at f2
          cases f2; cases f3; exact f4
    · cases hr
theorem read1_run {P : Program} {φ : Phi} {h : Hp} {w : World} (hR : HR P φ h w) {id : Pos} {g off b : Nat} {s : Int} {n : Nat} {v : AV} {a : Addr}
    (hr : read1 h id g off = some v) (hφ : φ id g = some (b, s, n)) (hb : a.block = b) (hs : a.spot = none) (ho : (a.off : Int) = off + s) :
    ∃ x, w.cell? a = some x ∧ Rel φ v x := by
  unfold read1 at hr
  split at hr
  · rename_i ser c' lo hi g' m ro fz hid
    cases hse : seeable c' lo hi g' m g off 1 with
    | false => rw [hse, cond_false] at hr; cases hr
    | true =>
      rw [hse, cond_true] at hr
      obtain ⟨hsz, C, el, fr, e2, e3, e5⟩ := seen hR hid hφ hse
      obtain ⟨o, v', x, f1, f2, f3, f4⟩ := e5 0 (by omega)
      have : o = a.off := by omega
      rw [Cells.get_eq (hR.blk _ _ hid).1.1] at hr
      rw [Nat.add_zero, hr] at f2
      cases f2
      refine ⟨x, ?_, f4⟩
      have e : a = ⟨a.block, a.off, none⟩ := by cases a; simp at hs ⊢; exact hs
      rw [e, hb, cell_eq e2, ← this]
      exact f3
  · cases hr
theorem atom_oneCell {φ : Phi} {v : AV} {x : Value} (h : Rel φ v x) (ha : v.atom = true) : x.oneCell' = true := by
  cases h <;> first | rfl | (simp [AV.atom] at ha)
theorem atoms_oneCell {φ : Phi} {c : Cells} {xs : List Value} (hc : c.atoms = true) (h : RelL φ c.toL xs) : ∀ x ∈ xs, x.oneCell' = true := by
  intro x hx
  obtain ⟨i, hi⟩ := List.getElem?_of_mem hx
  have hl : i < c.toL.length := by rw [h.length]; exact (List.getElem?_eq_some_iff.1 hi).1
  obtain ⟨y, hy, hr⟩ := h.get (List.getElem?_eq_getElem hl)
  rw [hi] at hy; cases hy
  refine atom_oneCell hr ?_
  cases c with
  | lst n l => exact List.all_eq_true.1 hc _ (List.getElem_mem _)
  | byt n v =>
    have e : (Cells.byt n v).toL[i]? = some ((Cells.byt n v).toL[i]) := List.getElem?_eq_getElem hl
    simp only [Cells.toL, bytesL_eq, List.getElem?_map] at e
    cases hu : (unpack n v)[i]? with
    | none => rw [hu] at e; cases e
    | some u =>
      rw [hu] at e
      simp only [Option.map_some, Option.some.injEq] at e
      have : (Cells.byt n v).toL[i] = byteV u.toNat := by
        simp only [Cells.toL, bytesL_eq]; exact e.symm
      rw [this]; rfl
theorem thawed {fz : Bool} {C : Array Value} {fr : Nat × Nat} (h : Thawed fz C fr) : ∀ j, j < C.size → ¬ (fr.1 ≤ j ∧ j < fr.2) := by
  intro j hj
  unfold Thawed at h
  split at h
  · omega
  · subst h; simp
theorem TyR.put {P : Program} {φ : Phi} {w : World} {id : Pos} {note m g m' b : Nat} {C C' : Array Value} {el : TypeId} {fr fr' : Nat × Nat} (ty : TyR P φ w id note m g) (hm : m ≤ m') (hb : w.heap[b]? = some (.cells C el fr)) : TyR P φ (putRow w b C' el fr') id note m' g :=
  fun j b' s n C2 el2 fr2 a1 a2 k k' => by
    by_cases e : b' = b
    · subst e
      rw [putRow_heap_same (heap_lt hb)] at k'
      cases k'
      exact ty j b' s n C el fr (by omega) a2 k hb
    · rw [putRow_heap_ne e] at k'
      exact ty j b' s n C2 el2 fr2 (by omega) a2 k k'
theorem put_run {P : Program} {φ : Phi} {h : Hp} {w : World} (hR : HR P φ h w) {id : Pos} {ser lo hi g m : Nat} {c c₂ seg : Cells} {fz : Bool} {off b : Nat} {s : Int} {n : Nat} {a : Addr} {xs : List Value}
    (hid : T.get id h.heap = some (.cells ser c lo hi g m false fz)) (hφ : φ id g = some (b, s, n)) (hb : a.block = b) (hs : a.spot = none) (ho : (a.off : Int) = off + s)
    (hoff : off ≤ c.size) (hroom : a.off + xs.length ≤ n) (hxs : RelL φ seg.toL xs) (hone : ∀ x ∈ xs, x.oneCell' = true)
    (hw : c₂.wf) (hl : c₂.toL = c.toL.take off ++ (seg.toL ++ c.toL.drop (off + xs.length))) (m' : Nat) (hm' : m' = g ∨ (m' = m ∧ hi ≤ off)) (ser' : Nat) :
    ∃ w', (storeCells a xs).run P w = .ok () w' ∧ HR P φ ⟨T.set id (some (.cells ser c₂ lo hi g m' false fz)) h.heap, h.next, ser', h.lim⟩ w' ∧
      Adv h w φ ⟨T.set id (some (.cells ser c₂ lo hi g m' false fz)) h.heap, h.next, ser', h.lim⟩ w' φ := by
  obtain ⟨⟨h1, h2, h3, h4, h6, h5⟩, ty⟩ := hR.blk _ _ hid
  obtain ⟨b', s', n', C, el, fr, e1, e2, e3, e4, e5⟩ := h5 g h2 (Nat.le_refl _)
  rw [hφ] at e1; cases e1
  have hbw := heap_lt e2
  have hC : (spliceV C.toList a.off xs).length = C.size := by rw [spliceV_length (by simp; omega)]; simp
  have hlen2 : c₂.toL.length = max c.size (off + xs.length) := by
    rw [hl]; simp only [List.length_append, List.length_take, List.length_drop, Cells.toL_length h1, hxs.length]; omega
  have hsz2 : c₂.size = max c.size (off + xs.length) := by rw [← hlen2, Cells.toL_length hw]
  have hget2 : ∀ i : Nat, c₂.toL[i]? = if off ≤ i ∧ i < off + xs.length then seg.toL[i - off]? else c.toL[i]? := by
    intro i
    rw [hl]
    by_cases h1' : i < off
    · rw [List.getElem?_append_left (by simp [Cells.toL_length h1]; omega), List.getElem?_take_of_lt h1', if_neg (by omega)]
    · rw [List.getElem?_append_right (by simp [Cells.toL_length h1]; omega)]
      have hk : (c.toL.take off).length = off := by simp [Cells.toL_length h1]; omega
      rw [hk]
      by_cases h2' : i < off + xs.length
      · rw [List.getElem?_append_left (by rw [hxs.length]; omega), if_pos ⟨by omega, h2'⟩]
      · rw [List.getElem?_append_right (by rw [hxs.length]; omega), List.getElem?_drop, if_neg (by omega), hxs.length]
        congr 1; omega
  refine ⟨putRow w a.block (spliceV C.toList a.off xs).toArray el fr, ?_, ?_⟩
  · have := run_storeCells_g P a hs el fr xs 0 C w (by rw [hb]; exact e2) (thawed (e4 rfl)) (by omega) hone
    rwa [Nat.add_zero] at this
  subst hb
  have u : Upd h w φ id h.next (putRow w a.block (spliceV C.toList a.off xs).toArray el fr) φ :=
    Upd.same hR hid (by simp [putRow]) (fun y hy k => putRow_heap_ne (fun c => k g s n (by rw [c]; exact hφ)) _ _ _) rfl rfl rfl
  refine ⟨hR.update u (.inr ⟨_, hid, fun _ _ _ _ _ _ _ _ k => by cases k; rfl⟩) fun x hx => ?_, Adv.update hR u (.inr ⟨_, hid, fun _ _ _ _ _ _ _ _ k => by cases k; rfl⟩)⟩
  cases hx
  refine ⟨⟨hw, by omega, fun hmg => by have := h3 (by omega); omega, h4, fun j j' y p q p' q' k1 k2 k3 k4 => h6 j j' y p q p' q' (by omega) k2 (by omega) k4, fun j hj1 hj2 => ?_⟩, ty.put (by omega) e2⟩
  obtain ⟨b', s', n', C', el', fr', f1, f2, f3, f4, f5⟩ := h5 j (by omega) hj2
  by_cases hbb : b' = a.block
  · subst hbb
    have hss : s' = s := h6 j g _ _ _ _ _ (by omega) hj2 h2 (Nat.le_refl _) f1 hφ
    subst hss
    rw [e2] at f2; cases f2
    refine ⟨a.block, s', n', (spliceV C.toList a.off xs).toArray, el, fr, f1, putRow_heap_same hbw _ _ _, by simp [hC, f3], fun hr => ?_, fun i v hi1 hi2 hv => ?_⟩
    · have := f4 hr
      unfold Thawed at this ⊢
      simpa [hC] using this
    · rw [hget2] at hv
      by_cases hin : off ≤ i ∧ i < off + xs.length
      · rw [if_pos hin] at hv
        obtain ⟨x, hx1, hx2⟩ := hxs.get hv
        refine ⟨a.off + (i - off), x, by omega, ?_, hx2⟩
        rw [List.getElem?_toArray, spliceV_get (by simp; omega), if_pos ⟨by omega, by omega⟩, show a.off + (i - off) - a.off = i - off by omega, hx1]
      · rw [if_neg hin] at hv
        have hic : i < c.size := by
          have := (List.getElem?_eq_some_iff.1 hv).1
          rwa [Cells.toL_length h1] at this
        obtain ⟨o, x, g1, g2, g3⟩ := f5 i v hi1 (by split at hi2 <;> rename_i hjg <;> simp only [hjg, if_true, if_false] <;> omega) hv
        refine ⟨o, x, g1, ?_, g3⟩
        rw [List.getElem?_toArray, spliceV_get (by simp; omega), if_neg (by omega), Array.getElem?_toList, g2]
  · refine ⟨b', s', n', C', el', fr', f1, by rw [putRow_heap_ne hbb]; exact f2, f3, f4, fun i v hi1 hi2 hv => ?_⟩
    have hjg : j ≠ g := fun c => by subst c; rw [hφ] at f1; cases f1; exact hbb rfl
    rw [if_neg hjg] at hi2
    have hm2 : hi ≤ off := by rcases hm' with k | k <;> omega
    rw [hget2, if_neg (by omega)] at hv
    exact f5 i v hi1 (by rw [if_neg hjg]; exact hi2) hv
end Go.Proofs.YtjhgembcdndmkaaGreatDoor.Am

namespace Go.Proofs.YtjhgembcdndmkaaGreatDoor.Am
theorem newK_eq {β : Type} (h : Hp) (mk : Nat → Blk) (k : Pos → Hp → β) : newK h mk k = k h.next ⟨T.set h.next (some (mk h.ser)) h.heap, h.next.succ, Nat.succ h.ser, h.lim⟩ := by
  simp only [newK, T.setK_eq, natK_eq]
theorem newCells_run {P : Program} {φ : Phi} {h : Hp} {w : World} (hR : HR P φ h w) (hl : Room h) {c : Cells} {xs spare : List Value} (hc : c.wf) (hxs : RelL φ c.toL xs) (el : TypeId) (fr : Nat × Nat) (fz : Bool)
    (hth : Thawed fz (xs ++ spare).toArray fr) (ser ser' : Nat) (hnote : NoteR P ser 0 (xs ++ spare).length el) :
    HR P (φ.put h.next 0 (w.heap.size, 0, (xs ++ spare).length)) ⟨T.set h.next (some (.cells ser c 0 0 0 0 false fz)) h.heap, h.next.succ, ser', h.lim⟩ (w.alloc (.cells (xs ++ spare).toArray el fr)) ∧
    Adv h w φ ⟨T.set h.next (some (.cells ser c 0 0 0 0 false fz)) h.heap, h.next.succ, ser', h.lim⟩ (w.alloc (.cells (xs ++ spare).toArray el fr)) (φ.put h.next 0 (w.heap.size, 0, (xs ++ spare).length)) := by
  have u := Upd.alloc hR hl (.cells (xs ++ spare).toArray el fr) (xs ++ spare).length
  refine ⟨hR.update u (.inl ⟨Nat.le_refl _, by rw [Pos.num_succ]; omega, hR.next_none hl⟩) fun x hx => ?_, Adv.update hR u (.inl ⟨Nat.le_refl _, by rw [Pos.num_succ]; omega, hR.next_none hl⟩)⟩
  cases hx
  refine ⟨⟨hc, Nat.le_refl _, fun k => by omega, fun j hj => ?_, fun j j' b s n s' n' a1 a2 a3 a4 k k' => ?_, fun j hj1 hj2 => ?_⟩, fun j b s n C el' fr' a1 a2 k k' => ?_⟩
  rotate_left 3
  · have e : j = 0 := by omega
    subst e
    rw [Phi.put_same] at k
    cases k
    rw [alloc_new] at k'
    cases k'
    exact hnote
  · rw [Phi.put_gen (by omega)]; exact hR.next_none hl j
  · have e : j = 0 := by omega
    have e' : j' = 0 := by omega
    subst e; subst e'; rw [k] at k'; cases k'; rfl
  · have e : j = 0 := by omega
    subst e
    refine ⟨w.heap.size, 0, _, _, el, fr, Phi.put_same _ _ _ _, alloc_new _ _, by simp, fun _ => hth, fun i v _ hi hv => ?_⟩
    obtain ⟨x, hx1, hx2⟩ := hxs.get hv
    refine ⟨i, x, by omega, ?_, hx2.mono u.le⟩
    rw [List.getElem?_toArray, List.getElem?_append_left (List.getElem?_eq_some_iff.1 hx1).1, hx1]
theorem Upd.gen {P : Program} {φ : Phi} {h : Hp} {w : World} (hR : HR P φ h w) {id : Pos} {b : Blk} (hid : T.get id h.heap = some b) {g : Nat} (hg : φ id (g + 1) = none)
    {y : Nat} {s : Int} {n : Nat} {w' : World} (hy : (∃ g₀ s₀ n₀, φ id g₀ = some (y, s₀, n₀)) ∨ w.heap.size ≤ y) (hin : y < w'.heap.size)
    (hs : w.heap.size ≤ w'.heap.size) (hk : ∀ y, y < w.heap.size → (∀ g s n, φ id g ≠ some (y, s, n)) → w'.heap[y]? = w.heap[y]?) (ho : w'.os = w.os) (hp : w'.output = w.output) (ht : w'.tape = w.tape) :
    Upd h w φ id h.next w' (φ.put id (g + 1) (y, s, n)) where
  le := Phi.le_put hg
  only := fun id' j r c e => by rwa [Phi.put_id c] at e
  new := fun j b s' n' e => by
    by_cases c : j = g + 1
    · subst c; rw [Phi.put_same] at e; cases e; exact hy
    · rw [Phi.put_gen c] at e; exact .inl ⟨_, _, _, e⟩
  inb := fun j b s' n' e => by
    by_cases c : j = g + 1
    · subst c; rw [Phi.put_same] at e; cases e; exact hin
    · rw [Phi.put_gen c] at e; exact Nat.lt_of_lt_of_le (hR.inb _ _ _ _ _ e) hs
  lt := hR.dom _ _ hid
  nx := Nat.le_refl _
  size := hs
  keep := hk
  os := ho
  output := hp
  tape := ht
section regen
variable {P : Program} {φ : Phi} {h : Hp} {w : World} {id : Pos} {ser lo hi g m : Nat} {c seg : Cells} {fz : Bool} {off top b : Nat} {s : Int} {n : Nat} {a : Addr} {xs : List Value}
noncomputable def regenC (c seg : Cells) (top : Nat) : Cells := (c.sub 0 top).app seg
theorem regenC_spec (h1 : c.wf) (hw : seg.wf) (ht : top ≤ c.size) :
    (regenC c seg top).wf ∧ (regenC c seg top).size = top + seg.size ∧ (∀ i : Nat, i < top → (regenC c seg top).toL[i]? = c.toL[i]?) ∧ ∀ i : Nat, top ≤ i → (regenC c seg top).toL[i]? = seg.toL[i - top]? := by
  obtain ⟨w1, t1, s1⟩ := Cells.sub_spec h1 (off := 0) (n := top) (by omega)
  obtain ⟨w2, t2, s2⟩ := Cells.app_spec w1 hw
  have hl : (c.sub 0 top).toL.length = top := by rw [Cells.toL_length w1, s1]
  refine ⟨w2, by show (Cells.app _ _).size = _; rw [s2, s1], fun i hi => ?_, fun i hi => ?_⟩
  · show (Cells.app _ _).toL[i]? = _
    rw [t2, List.getElem?_append_left (by omega), t1, List.getElem?_take_of_lt hi, List.drop_zero]
  · show (Cells.app _ _).toL[i]? = _
    rw [t2, List.getElem?_append_right (by omega), hl]
theorem regen_same (hR : HR P φ h w) (hid : T.get id h.heap = some (.cells ser c lo hi g m false fz)) (hφ : φ id g = some (b, s, n)) (hb : a.block = b) (hs : a.spot = none) (ho : (a.off : Int) = top + s)
    (hlo : lo ≤ off) (hot : off ≤ top) (htop : top ≤ c.size) (hroom : a.off + xs.length ≤ n) (hxs : RelL φ seg.toL xs) (hone : ∀ x ∈ xs, x.oneCell' = true) (hw : seg.wf)
    (hi' : Nat) (hhi : hi' ≤ top) (hhi2 : m < g → hi' ≤ hi) (ser' : Nat) (note : Nat) (hnote : note = 0 ∨ note = ser) :
    ∃ w', (storeCells a xs).run P w = .ok () w' ∧ HR P (φ.put id (g + 1) (b, s, n)) ⟨T.set id (some (.cells note (regenC c seg top) off hi' (g + 1) m false fz)) h.heap, h.next, ser', h.lim⟩ w' ∧
      Adv h w φ ⟨T.set id (some (.cells note (regenC c seg top) off hi' (g + 1) m false fz)) h.heap, h.next, ser', h.lim⟩ w' (φ.put id (g + 1) (b, s, n)) := by
  obtain ⟨⟨h1, h2, h3, h4, h6, h5⟩, ty⟩ := hR.blk _ _ hid
  obtain ⟨b', s', n', C, el, fr, e1, e2, e3, e4, e5⟩ := h5 g h2 (Nat.le_refl _)
  rw [hφ] at e1; cases e1
  have hbw := heap_lt e2
  have hC : (spliceV C.toList a.off xs).length = C.size := by rw [spliceV_length (by simp; omega)]; simp
  obtain ⟨r1, r2, r3, r4⟩ := regenC_spec h1 hw htop
  have hsl : seg.size = xs.length := by rw [← Cells.toL_length hw, hxs.length]
  refine ⟨putRow w a.block (spliceV C.toList a.off xs).toArray el fr, ?_, ?_⟩
  · have := run_storeCells_g P a hs el fr xs 0 C w (by rw [hb]; exact e2) (thawed (e4 rfl)) (by omega) hone
    rwa [Nat.add_zero] at this
  subst hb
  have u : Upd h w φ id h.next (putRow w a.block (spliceV C.toList a.off xs).toArray el fr) (φ.put id (g + 1) (a.block, s, n)) :=
    Upd.gen hR hid (h4 _ (by omega)) (.inl ⟨g, s, n, hφ⟩) (by simp [putRow]; exact hbw) (by simp [putRow]) (fun y hy k => putRow_heap_ne (fun c => k g s n (by rw [c]; exact hφ)) _ _ _) rfl rfl rfl
  refine ⟨hR.update u (.inr ⟨_, hid, fun _ _ _ _ _ _ _ _ k => by cases k; rfl⟩) fun x hx => ?_, Adv.update hR u (.inr ⟨_, hid, fun _ _ _ _ _ _ _ _ k => by cases k; rfl⟩)⟩
  cases hx
  have old : ∀ j, j ≤ g → (φ.put id (g + 1) (a.block, s, n)) id j = φ id j := fun j hj => Phi.put_gen (by omega) _
  refine ⟨⟨r1, by omega, fun _ => by omega, fun j hj => by rw [Phi.put_gen (by omega)]; exact h4 j (by omega), fun j j' y p q p' q' k1 k2 k3 k4 k5 k6 => ?_, fun j hj1 hj2 => ?_⟩, fun j b2 s2 n2 C2 el2 fr2 k1 k2 k3 k4 => ?_⟩
  rotate_left 2
  · rcases hnote with q | q
    · exact .inl q
    · subst q
      by_cases c1 : j = g + 1
      · subst c1
        rw [Phi.put_same] at k3
        cases k3
        rw [putRow_heap_same hbw] at k4
        cases k4
        exact ty g _ _ _ _ _ _ h2 (Nat.le_refl _) hφ e2
      · rw [old j (by omega)] at k3
        by_cases hbb : b2 = a.block
        · subst hbb
          rw [putRow_heap_same hbw] at k4
          cases k4
          exact ty j _ _ _ _ _ _ k1 (by omega) k3 e2
        · rw [putRow_heap_ne hbb] at k4
          exact ty j _ _ _ _ _ _ k1 (by omega) k3 k4
  · by_cases c1 : j = g + 1
    · subst c1; rw [Phi.put_same] at k5; cases k5
      by_cases c2 : j' = g + 1
      · subst c2; rw [Phi.put_same] at k6; cases k6; rfl
      · rw [old j' (by omega)] at k6
        exact h6 g j' _ _ _ _ _ h2 (Nat.le_refl _) k3 (by omega) hφ k6
    · rw [old j (by omega)] at k5
      by_cases c2 : j' = g + 1
      · subst c2; rw [Phi.put_same] at k6; cases k6
        exact h6 j g _ _ _ _ _ k1 (by omega) h2 (Nat.le_refl _) k5 hφ
      · rw [old j' (by omega)] at k6
        exact h6 j j' _ _ _ _ _ k1 (by omega) k3 (by omega) k5 k6
  · have same : ∀ i : Nat, ∀ v, lo ≤ i → i < top → c.toL[i]? = some v → ∃ (o : Nat) (x : Value), (o : Int) = i + s ∧ (spliceV C.toList a.off xs).toArray[o]? = some x ∧ Rel φ v x := by
      intro i v k1 k2 hv
      obtain ⟨o, x, g1, g2, g3⟩ := e5 i v k1 (by rw [if_pos rfl]; omega) hv
      refine ⟨o, x, g1, ?_, g3⟩
      rw [List.getElem?_toArray, spliceV_get (by simp; omega), if_neg (by omega), Array.getElem?_toList, g2]
    have hth : Thawed fz (spliceV C.toList a.off xs).toArray fr := by
      have := e4 rfl
      unfold Thawed at this ⊢
      simpa [hC] using this
    by_cases c1 : j = g + 1
    · subst c1
      refine ⟨a.block, s, n, _, el, fr, Phi.put_same _ _ _ _, putRow_heap_same hbw _ _ _, by simp [hC, e3], fun _ => hth, fun i v k1 k2 hv => ?_⟩
      by_cases hit : i < top
      · rw [r3 i hit] at hv
        obtain ⟨o, x, g1, g2, g3⟩ := same i v (by omega) hit hv
        exact ⟨o, x, g1, g2, g3.mono u.le⟩
      · rw [r4 i (by omega)] at hv
        obtain ⟨x, hx1, hx2⟩ := hxs.get hv
        have hlt := (List.getElem?_eq_some_iff.1 hx1).1
        refine ⟨a.off + (i - top), x, by omega, ?_, hx2.mono u.le⟩
        rw [List.getElem?_toArray, spliceV_get (by simp; omega), if_pos ⟨by omega, by omega⟩, show a.off + (i - top) - a.off = i - top by omega, hx1]
    · obtain ⟨b', s', n', C', el', fr', f1, f2, f3, f4, f5⟩ := h5 j hj1 (by omega)
      have hbnd : ∀ i, i < hi' → i < (if j = g then c.size else hi) := fun i k => by
        by_cases cj : j = g
        · rw [if_pos cj]; omega
        · rw [if_neg cj]; have := hhi2 (by omega); omega
      by_cases hbb : b' = a.block
      · subst hbb
        have hss : s' = s := h6 j g _ _ _ _ _ hj1 (by omega) h2 (Nat.le_refl _) f1 hφ
        subst hss
        rw [e2] at f2; cases f2
        refine ⟨a.block, s', n', _, el, fr, by rw [old j (by omega)]; exact f1, putRow_heap_same hbw _ _ _, by simp [hC, f3], fun _ => hth, fun i v k1 k2 hv => ?_⟩
        rw [if_neg c1] at k2
        rw [r3 i (by omega)] at hv
        obtain ⟨o, x, g1, g2, g3⟩ := same i v (by omega) (by omega) hv
        exact ⟨o, x, g1, g2, g3.mono u.le⟩
      · refine ⟨b', s', n', C', el', fr', by rw [old j (by omega)]; exact f1, by rw [putRow_heap_ne hbb]; exact f2, f3, f4, fun i v k1 k2 hv => ?_⟩
        rw [if_neg c1] at k2
        rw [r3 i (by omega)] at hv
        obtain ⟨o, x, g1, g2, g3⟩ := f5 i v (by omega) (hbnd i k2) hv
        exact ⟨o, x, g1, g2, g3.mono u.le⟩
theorem regen_new (hR : HR P φ h w) (hid : T.get id h.heap = some (.cells ser c lo hi g m false fz)) (hφ : φ id g = some (b, s, n))
    (hlo : lo ≤ off) (hot : off ≤ top) (htop : top ≤ c.size) {old spare : List Value} (hold : RelL φ ((c.toL.drop off).take (top - off)) old) (hxs : RelL φ seg.toL xs) (hw : seg.wf)
    (hi' : Nat) (hhi : hi' ≤ top) (hhi2 : m < g → hi' ≤ hi) (ser' : Nat) (el : TypeId) (note : Nat) (hnote : note = 0 ∨ (note = 1 ∧ ser = 1 ∧ P.underlying el = some (.int .u8) ∧ P.cellsOf el = 1)) :
    HR P (φ.put id (g + 1) (w.heap.size, -(off : Int), (old ++ xs ++ spare).length)) ⟨T.set id (some (.cells note (regenC c seg top) off hi' (g + 1) m false fz)) h.heap, h.next, ser', h.lim⟩
        (w.alloc (.cells (old ++ xs ++ spare).toArray el (0, 0))) ∧
      Adv h w φ ⟨T.set id (some (.cells note (regenC c seg top) off hi' (g + 1) m false fz)) h.heap, h.next, ser', h.lim⟩ (w.alloc (.cells (old ++ xs ++ spare).toArray el (0, 0)))
        (φ.put id (g + 1) (w.heap.size, -(off : Int), (old ++ xs ++ spare).length)) := by
  obtain ⟨⟨h1, h2, h3, h4, h6, h5⟩, ty⟩ := hR.blk _ _ hid
  obtain ⟨r1, r2, r3, r4⟩ := regenC_spec h1 hw htop
  have hol : old.length = top - off := by rw [← hold.length]; simp [Cells.toL_length h1]; omega
  have hsl : seg.size = xs.length := by rw [← Cells.toL_length hw, hxs.length]
  have u : Upd h w φ id h.next (w.alloc (.cells (old ++ xs ++ spare).toArray el (0, 0))) (φ.put id (g + 1) (w.heap.size, -(off : Int), (old ++ xs ++ spare).length)) :=
    Upd.gen hR hid (h4 _ (by omega)) (.inr (Nat.le_refl _)) (by rw [alloc_size]; omega) (by rw [alloc_size]; omega) (fun y hy _ => alloc_old _ _ hy) rfl rfl rfl
  refine ⟨hR.update u (.inr ⟨_, hid, fun _ _ _ _ _ _ _ _ k => by cases k; rfl⟩) fun x hx => ?_, Adv.update hR u (.inr ⟨_, hid, fun _ _ _ _ _ _ _ _ k => by cases k; rfl⟩)⟩
  cases hx
  have keepj : ∀ j, j ≤ g → (φ.put id (g + 1) (w.heap.size, -(off : Int), (old ++ xs ++ spare).length)) id j = φ id j := fun j hj => Phi.put_gen (by omega) _
  refine ⟨⟨r1, by omega, fun _ => by omega, fun j hj => by rw [Phi.put_gen (by omega)]; exact h4 j (by omega), fun j j' y p q p' q' k1 k2 k3 k4 k5 k6 => ?_, fun j hj1 hj2 => ?_⟩, fun j b2 s2 n2 C2 el2 fr2 k1 k2 k3 k4 => ?_⟩
  rotate_left 2
  · rcases hnote with q | ⟨q1, q2, q3, q4⟩
    · exact .inl q
    · subst q1 q2
      by_cases c1 : j = g + 1
      · subst c1
        rw [Phi.put_same] at k3
        cases k3
        rw [alloc_new] at k4
        cases k4
        exact .inr (.inl ⟨rfl, q3, q4⟩)
      · rw [keepj j (by omega)] at k3
        rw [alloc_old _ _ (hR.inb _ _ _ _ _ k3)] at k4
        exact ty j _ _ _ _ _ _ k1 (by omega) k3 k4
  · by_cases c1 : j = g + 1
    · subst c1; rw [Phi.put_same] at k5; cases k5
      by_cases c2 : j' = g + 1
      · subst c2; rw [Phi.put_same] at k6; cases k6; rfl
      · rw [keepj j' (by omega)] at k6
        have := hR.inb _ _ _ _ _ k6; omega
    · rw [keepj j (by omega)] at k5
      by_cases c2 : j' = g + 1
      · subst c2; rw [Phi.put_same] at k6; cases k6
        have := hR.inb _ _ _ _ _ k5; omega
      · rw [keepj j' (by omega)] at k6
        exact h6 j j' _ _ _ _ _ k1 (by omega) k3 (by omega) k5 k6
  · by_cases c1 : j = g + 1
    · subst c1
      refine ⟨w.heap.size, -(off : Int), _, _, el, (0, 0), Phi.put_same _ _ _ _, alloc_new _ _, by simp, fun _ => ?_, fun i v k1 k2 hv => ?_⟩
      · unfold Thawed; split
        · exact .inr (Nat.le_refl _)
        · rfl
      · by_cases hit : i < top
        · rw [r3 i hit] at hv
          have hv' : ((c.toL.drop off).take (top - off))[i - off]? = some v := by
            rw [List.getElem?_take_of_lt (by omega), List.getElem?_drop, show off + (i - off) = i by omega]; exact hv
          obtain ⟨x, hx1, hx2⟩ := hold.get hv'
          refine ⟨i - off, x, by omega, ?_, hx2.mono u.le⟩
          rw [List.getElem?_toArray, List.append_assoc, List.getElem?_append_left (List.getElem?_eq_some_iff.1 hx1).1, hx1]
        · rw [r4 i (by omega)] at hv
          obtain ⟨x, hx1, hx2⟩ := hxs.get hv
          have hlt := (List.getElem?_eq_some_iff.1 hx1).1
          refine ⟨i - off, x, by omega, ?_, hx2.mono u.le⟩
          rw [List.getElem?_toArray, List.append_assoc, List.getElem?_append_right (by omega), List.getElem?_append_left (by omega), hol, show i - off - (top - off) = i - top by omega, hx1]
    · obtain ⟨b', s', n', C', el', fr', f1, f2, f3, f4, f5⟩ := h5 j hj1 (by omega)
      have hbnd : ∀ i, i < hi' → i < (if j = g then c.size else hi) := fun i k => by
        by_cases cj : j = g
        · rw [if_pos cj]; omega
        · rw [if_neg cj]; have := hhi2 (by omega); omega
      refine ⟨b', s', n', C', el', fr', by rw [keepj j (by omega)]; exact f1, by rw [alloc_old _ _ (hR.inb _ _ _ _ _ f1)]; exact f2, f3, f4, fun i v k1 k2 hv => ?_⟩
      rw [if_neg c1] at k2
      rw [r3 i (by omega)] at hv
      obtain ⟨o, x, g1, g2, g3⟩ := f5 i v (by omega) (hbnd i k2) hv
      exact ⟨o, x, g1, g2, g3.mono u.le⟩
end regen
end Go.Proofs.YtjhgembcdndmkaaGreatDoor.Am
