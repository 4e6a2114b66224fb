import Derived.Test.YtialpccieggaoaaGreatDoorAmM
/- THE ABSTRACT MACHINE, part N: a machine over values without block numbers, run by the kernel, and the proof that the model's machine does what it does. No condition. -/
set_option linter.unusedSimpArgs false
set_option linter.unusedVariables false
namespace Go.Proofs.YtialpccieggaoaaGreatDoor.Am

noncomputable def newKF (h : Hp) (mk : Nat → Blk) (k : Pos → Hp → Res) : Res :=
  setR h.next (some (mk h.ser)) h.heap fun t => natK (Nat.succ h.ser) fun s => k h.next ⟨t, h.next.succ, s, h.lim⟩

theorem newKF_eq (h : Hp) (mk : Nat → Blk) (k : Pos → Hp → Res) : newKF h mk k = newK h mk k := by
  unfold newKF newK
  simp only [setR_eq, T.setK_eq]

noncomputable def newCellsNF (h : Hp) (note : Nat) (c : Cells) (k : Pos → Hp → Res) : Res := newKF h (fun _ => .cells note c 0 0 0 0 false false) k

theorem newCellsNF_eq : @newCellsNF = @newCellsN := by
  unfold newCellsNF newCellsN
  first | (simp only [newKF_eq]; done) | (simp only [newKF_eq]; rfl)

noncomputable def newCellsF (h : Hp) (c : Cells) (k : Pos → Hp → Res) : Res := newKF h (fun _ => .cells 0 c 0 0 0 0 false false) k

theorem newCellsF_eq : @newCellsF = @newCells := by
  unfold newCellsF newCells
  first | (simp only [newKF_eq]; done) | (simp only [newKF_eq]; rfl)

noncomputable def readNF (h : Hp) (id : Pos) (g off n : Nat) : Option Cells :=
  bif Nat.beq n 0 then some (.lst 0 []) else
  match getB id h.heap with
  | some (.cells _ c lo hi g' m _ _) => bif seeable c lo hi g' m g off n then some (c.sub off n) else none
  | _ => none

theorem readNF_eq : @readNF = @readN := by
  unfold readNF readN
  first | (simp only [getB_eq]; done) | (simp only [getB_eq]; rfl)

noncomputable def read1F (h : Hp) (id : Pos) (g off : Nat) : Option AV :=
  match getB id h.heap with
  | some (.cells _ c lo hi g' m _ _) => bif seeable c lo hi g' m g off 1 then c.get off else none
  | _ => none

theorem read1F_eq : @read1F = @read1 := by
  unfold read1F read1
  first | (simp only [getB_eq]; done) | (simp only [getB_eq]; rfl)

noncomputable def writeNF (h : Hp) (id : Pos) (g off : Nat) (seg : Cells) (k : Hp → Res) : Res :=
  bif Nat.beq seg.size 0 then k h else
  match getB id h.heap with
  | some (.cells s c lo hi g' m ro fz) =>
    bif !ro && Nat.beq g g' && Nat.ble lo off && Nat.ble (Nat.add off seg.size) c.size && seg.atoms then
      setR id (some (.cells s (c.splice off seg) lo hi g' (bif Nat.blt off hi then g' else m) ro fz)) h.heap fun t =>
        k ⟨t, h.next, h.ser, h.lim⟩
    else .fail "write"
  | _ => .fail "write no cells"

theorem writeNF_eq : @writeNF = @writeN := by
  unfold writeNF writeN
  first | (simp only [getB_eq, setR_eq, T.setK_eq]; done) | (simp only [getB_eq, setR_eq, T.setK_eq]; rfl)

noncomputable def extendNF (h : Hp) (id : Pos) (g off : Nat) (seg : Cells) (k : Hp → Res) : Res :=
  match getB id h.heap with
  | some (.cells s c lo hi g' m ro fz) =>
    bif !ro && Nat.beq g g' && Nat.ble lo off && Nat.ble off c.size && seg.atoms then
      setR id (some (.cells s (bif Nat.ble (Nat.add off seg.size) c.size then c.splice off seg else (c.sub 0 off).app seg) lo hi g' (bif Nat.blt off hi then g' else m) ro fz)) h.heap fun t =>
        k ⟨t, h.next, h.ser, h.lim⟩
    else .fail "extend"
  | _ => .fail "extend no cells"

theorem extendNF_eq : @extendNF = @extendN := by
  unfold extendNF extendN
  first | (simp only [getB_eq, setR_eq, T.setK_eq]; done) | (simp only [getB_eq, setR_eq, T.setK_eq]; rfl)

noncomputable def srcCellsF (h : Hp) (es n : Nat) (x : AV) : Option Cells :=
  match x with
  | .sl id g off _ _ _ _ => readNF h id g off (n * es)
  | .nilSl => some (.lst 0 [])
  | .str m v => bif Nat.beq es 1 && Nat.ble n m then some ((Cells.byt m v).sub 0 n) else none
  | _ => none

theorem srcCellsF_eq : @srcCellsF = @srcCells := by
  unfold srcCellsF srcCells
  first | (simp only [readNF_eq]; done) | (simp only [readNF_eq]; rfl)

noncomputable def appendSegF (h : Hp) (es bytes : Nat) (s : AV) (n : Nat) (seg : Cells) : Res :=
      match s with
      | .nilSl => bif okSize n bytes && Nat.blt 0 es then newCellsNF h (noteB bytes) seg fun id h => .val (.sl id 0 0 n n false es) h else .fail "append size"
      | .sl id g off len cap ex es' =>
        natK (Nat.add len n) fun need =>
        bif !(Nat.beq es es' && Nat.blt 0 es && okSize need bytes) then .fail "append size" else
        bif Nat.ble need cap then extendNF h id g (Nat.add off (Nat.mul len es)) seg fun h => .val (.sl id g off need cap ex es) h
        else bif ex then
          match readNF h id g off (Nat.mul len es) with
          | some old => newCellsNF h (noteB bytes) (old.app seg) fun id h => .val (.sl id 0 0 need need false es) h
          | none => .fail "append old"
        else
          match getB id h.heap with
          | some (.cells s c lo hi g' m ro fz) =>
            natK (Nat.add off (Nat.mul len es)) fun top =>
            natK (bif raiseM && Nat.beq g g' && Nat.blt hi top then g' else m) fun m2 =>
            bif !ro && seeable c lo hi g' m g off (Nat.mul len es) && seg.atoms then
              setR id (some (.cells (noteG bytes s) ((c.sub 0 top).app seg) off (bif Nat.blt m2 g' then (bif Nat.ble hi top then hi else top) else top) (Nat.succ g') m2 ro fz)) h.heap fun t =>
                .val (.sl id (Nat.succ g') off need need false es) ⟨t, h.next, h.ser, h.lim⟩
            else .fail "append generation"
          | _ => .fail "append no cells"
      | _ => .fail "append to what"

theorem appendSegF_eq : @appendSegF = @appendSeg := by
  unfold appendSegF appendSeg
  first | (simp only [getB_eq, setR_eq, T.setK_eq, newCellsNF_eq, readNF_eq, extendNF_eq]; done) | (simp only [getB_eq, setR_eq, T.setK_eq, newCellsNF_eq, readNF_eq, extendNF_eq]; rfl)

noncomputable def appendAF (h : Hp) (es bytes : Nat) (s x : AV) : Res :=
  match lenA x with
  | none => .fail "append what"
  | some n =>
    bif Nat.beq n 0 then (match s with | .sl id g off len cap ex es' => .val (.sl id g off len cap ex es') h | .nilSl => .val .nilSl h | _ => .fail "append") else
    match srcCellsF h es n x with
    | none => .fail "append source"
    | some seg => appendSegF h es bytes s n seg

theorem appendAF_eq : @appendAF = @appendA := by
  unfold appendAF appendA
  first | (simp only [srcCellsF_eq, appendSegF_eq]; done) | (simp only [srcCellsF_eq, appendSegF_eq]; rfl)

noncomputable def copyAF (h : Hp) (es : Nat) (d s : AV) : Res :=
  match d, lenA s with
  | .nilSl, some _ => .val (.int .i64 0) h
  | .sl id g off len _ _ es', some m =>
    natK (bif Nat.ble m len then m else len) fun n =>
    bif !(Nat.beq es es') then .fail "copy size" else
    match srcCellsF h es n s with
    | some seg => writeNF h id g off seg fun h => .val (.int .i64 (.ofNat n)) h
    | none => .fail "copy source"
  | _, _ => .fail "copy"

theorem copyAF_eq : @copyAF = @copyA := by
  unfold copyAF copyA
  first | (simp only [writeNF_eq, srcCellsF_eq]; done) | (simp only [writeNF_eq, srcCellsF_eq]; rfl)

noncomputable def evOF (env : T AV) (x : Option Opd) (d : Nat) : Option Nat :=
  match x with
  | none => some d
  | some x => match evE env x with
    | .int _ (.ofNat n) => some n
    | _ => none

theorem evOF_eq : @evOF = @evO := by
  unfold evOF evO
  first | (simp only [evE_eq]; done) | (simp only [evE_eq]; rfl)

noncomputable def fillAF (env : T AV) (cells : List AV) : List (Nat × Nat × Opd) → Option (List AV)
  | [] => some cells
  | (off, size, x) :: rest =>
    let v := (evE env x).cells
    bif Nat.beq v.length size && Nat.ble (Nat.add off size) cells.length then
      fillAF env (cells.take off ++ (v ++ cells.drop (Nat.add off size))) rest
    else none

theorem fillAF_eq (env : T AV) : ∀ (l : List (Nat × Nat × Opd)) (cells : List AV), fillAF env cells l = fillA env cells l
  | [], _ => rfl
  | (off, size, x) :: l, cells => by
    unfold fillAF fillA
    simp only [evE_eq, fillAF_eq env l]

noncomputable def samePF (h : Hp) (x y : AV) : Option Bool :=
  match x, y with
  | .nilPtr, .nilPtr => some true
  | .nilPtr, .ptr .. => some false
  | .ptr .., .nilPtr => some false
  | .ptr id g off, .ptr id' g' off' => bif samePos id id' then (bif Nat.beq g g' then some (Nat.beq off off') else none)
    else (match getB id h.heap, T.get id' h.heap with
      | some (.cells _ _ _ _ _ m ro fz), some (.cells _ _ _ _ _ m' ro' fz') => bif Nat.ble m g && Nat.ble m' g' && !(ro || fz || ro' || fz') then some false else none
      | _, _ => none)
  | _, _ => none

theorem samePF_eq : @samePF = @sameP := by
  unfold samePF sameP
  first | (simp only [getB_eq]; done) | (simp only [getB_eq]; rfl)

noncomputable def keyEqF (P : Program) (h : Hp) (kk : KK) (a b : AV) : Option Bool :=
  match kk, a, b with
  | .one k, a, b => sameK k a b
  | .ptr, a, b => samePF h a b
  | .flat ks, .agg l, .agg r => sameKs ks l r
  | .any, .ifc t x, .ifc u y => bif Nat.beq t u then (bif okPtrT P t then samePF h x y else (match lkI P t with
    | some k => sameK k x y
    | none => none)) else some false
  | _, _, _ => none

theorem keyEqF_eq : @keyEqF = @keyEq := by
  unfold keyEqF keyEq
  first | (simp only [samePF_eq]; done) | (simp only [samePF_eq]; rfl)

noncomputable def sameIF (P : Program) (h : Hp) (nilOk : Bool) (x y : AV) : Option Bool :=
  match x, y with
  | .nilIfc, .nilIfc => bif nilOk then some true else none
  | .nilIfc, .ifc .. => some false
  | .ifc .., .nilIfc => some false
  | .ifc .., .ifc .. => keyEqF P h .any x y
  | _, _ => none

theorem sameIF_eq : @sameIF = @sameI := by
  unfold sameIF sameI
  first | (simp only [keyEqF_eq]; done) | (simp only [keyEqF_eq]; rfl)

noncomputable def findAF (P : Program) (h : Hp) (kk : KK) (k : AV) : List (AV × AV × Nat) → Nat → Option (Option (Nat × AV))
  | [], _ => some none
  | (k', v, _) :: es, i => match keyEqF P h kk k k' with
    | some true => (match findAF P h kk k es (i + 1) with
      | some none => some (some (i, v))
      | _ => none)
    | some false => findAF P h kk k es (i + 1)
    | none => none

theorem findAF_eq (P : Program) (h : Hp) (kk : KK) (k : AV) : ∀ (l : List (AV × AV × Nat)) (i : Nat), findAF P h kk k l i = findA P h kk k l i
  | [], _ => rfl
  | (k', v, b) :: l, i => by
    unfold findAF findA
    simp only [keyEqF_eq, findAF_eq P h kk k l]
    rfl

noncomputable def extAF (h : Hp) (fn : Func) (args : List AV) : Res :=
  bif fn.name == "maps.clone" && fn.origin == "" then (match args with
    | [.ifc t (.map id)] => (match getB id h.heap with
      | some (.map _ es clock) => newKF h (fun _ => .map 0 es clock) fun id h => .val (.ifc t (.map id)) h
      | _ => .fail "maps.clone")
    | _ => .fail "maps.clone")
  else .fail fn.name

theorem extAF_eq : @extAF = @extA := by
  unfold extAF extA
  first | (simp only [getB_eq, newKF_eq]; done) | (simp only [getB_eq, newKF_eq]; rfl)

noncomputable def callAF (P : Program) (h : Hp) (f : FuncId) (args : List AV) : Res :=
  match P.funcs[f]? with
  | some fn => match fn.body with
    | some _ => enterA P h f args
    | none => bif fn.name == "runtime.NumGoroutine" then .fail "NumGoroutine" else extAF h fn args
  | none => .fail "no function"

theorem callAF_eq : @callAF = @callA := by
  unfold callAF callA
  first | (simp only [extAF_eq]; done) | (simp only [extAF_eq]; rfl)

noncomputable def extEF (h : Hp) (k : Nat) (args : List AV) : Res :=
  match k, args with
  | 1, [.ptr id g off] => .val (.ptr id g off) h
  | 1, [.nilPtr] => .val .nilPtr h
  | 2, [.int .i64 (.ofNat n)] => bif Nat.ble n 140737488355328 then newCellsNF h 1 (.byt 0 0) fun id h => .val (.sl id 0 0 n n false 1) h else .fail "MakeNoZero size"
  | 3, [.str n v, .str m u] => intK (cmpI (strCmp n v m u)) fun r => .val (.int .i64 r) h
  | 4, [.str n v, .int .u8 (.ofNat c)] => bif Nat.blt c 256 then intK (idxL c (unpack n v) 0) fun r => .val (.int .i64 r) h else .fail "IndexByteString"
  | 5, [.str n v, .int .u8 (.ofNat c)] => bif Nat.blt c 256 then natK (cntL c (unpack n v) 0) fun r => .val (.int .i64 (.ofNat r)) h else .fail "CountString"
  | 6, [.str n v, .str m u] => idxE h (read1F h (Pos.ofNat maxGlob) 0 0) n v m u
  | _, _ => .fail "ext"

theorem extEF_eq : @extEF = @extE := by
  unfold extEF extE
  first | (simp only [newCellsNF_eq, read1F_eq]; done) | (simp only [newCellsNF_eq, read1F_eq]; rfl)

noncomputable def ev_mov (_P : Program) (x : Opd) (env : T AV) (h : Hp) : Res := .val (evE env x) h

noncomputable def ev_pick (_P : Program) (c : Opd) (a : Opd) (b : Opd) (env : T AV) (h : Hp) : Res := match evE env c with
    | .bool true => .val (evE env a) h
    | .bool false => .val (evE env b) h
    | _ => .fail "pick"

noncomputable def ev_new (_P : Program) (cells : List AV) (_env : T AV) (h : Hp) : Res := newCellsF h (Cells.ofL cells) fun id h => .val (.ptr id 0 0) h

noncomputable def ev_newT (_P : Program) (u : TypeId) (cells : List AV) (_env : T AV) (h : Hp) : Res := newCellsNF h (Nat.succ (Nat.succ u)) (Cells.ofL cells) fun id h => .val (.ptr id 0 0) h

noncomputable def ev_box (_P : Program) (x : Opd) (env : T AV) (h : Hp) : Res := newCellsF h (Cells.ofL (evE env x).cells) fun id h => .val (.ptr id 0 0) h

noncomputable def ev_build (_P : Program) (zero : List AV) (parts : List (Nat × Nat × Opd)) (env : T AV) (h : Hp) : Res := match fillAF env zero parts with
    | some l => .val (.agg l) h
    | none => .fail "build"

noncomputable def ev_buildSl (_P : Program) (len : Nat) (es : Nat) (zero : List AV) (parts : List (Nat × Nat × Opd)) (env : T AV) (h : Hp) : Res := match fillAF env (replA len zero []) parts with
    | some l => bif Nat.blt 0 es then newCellsF h (Cells.ofL l) fun id h => .val (.sl id 0 0 len len true es) h else .fail "buildSl"
    | none => .fail "buildSl"

noncomputable def ev_load1 (_P : Program) (a : Opd) (env : T AV) (h : Hp) : Res := match evE env a with
    | .ptr id g off => opt h "load1" (read1F h id g off)
    | _ => .fail "load1 what"

noncomputable def ev_loadG (_P : Program) (a : Opd) (env : T AV) (h : Hp) : Res := match evE env a with
    | .ptr id g off => loadRng h id g off
    | _ => .fail "load what"

noncomputable def ev_loadN (_P : Program) (n : Nat) (a : Opd) (env : T AV) (h : Hp) : Res := match evE env a with
    | .ptr id g off => match readNF h id g off n with
      | some c => .val (.agg c.toL) h
      | none => .fail "loadN"
    | _ => .fail "loadN what"

noncomputable def ev_store (_P : Program) (n : Nat) (a : Opd) (x : Opd) (env : T AV) (h : Hp) : Res := match evE env a with
    | .ptr id g off =>
      let v := (evE env x).cells
      bif Nat.beq v.length n then writeNF h id g off (Cells.ofL v) fun h => .val .undef h else .fail "store size"
    | _ => .fail "store what"

noncomputable def ev_nilCheck (_P : Program) (x : Opd) (env : T AV) (h : Hp) : Res := match evE env x with
    | .ptr id g off => .val (.ptr id g off) h
    | .ifc t v => .val (.ifc t v) h
    | .yield l => .val (.yield l) h
    | .fn (.func f) a b => .val (.fn (.func f) a b) h
    | _ => .fail "nilCheck"

noncomputable def ev_bin (_P : Program) (op : BinOp) (kd : EK) (nilOk : Bool) (x : Opd) (y : Opd) (env : T AV) (h : Hp) : Res := opt h "bin" (binA op kd nilOk (evE env x) (evE env y))

noncomputable def ev_un (_P : Program) (op : UnOp) (x : Opd) (env : T AV) (h : Hp) : Res := opt h "un" (unA op (evE env x))

noncomputable def ev_convInt (_P : Program) (k : IntKind) (x : Opd) (env : T AV) (h : Hp) : Res := match evE env x with
    | .int _ n => intK (wrapA k n) fun r => .val (.int k r) h
    | _ => .fail "conv"

noncomputable def ev_convStr (_P : Program) (x : Opd) (env : T AV) (h : Hp) : Res := match evE env x with
    | .str n v => .val (.str n v) h
    | _ => .fail "conv str"

noncomputable def ev_strBytes (_P : Program) (x : Opd) (env : T AV) (h : Hp) : Res := match evE env x with
    | .str n v => bif Nat.ble n 1073741824 then newKF h (fun _ => .cells 0 (.byt n v) 0 0 0 0 false true) fun id h => .val (.sl id 0 0 n n false 1) h else .fail "strBytes"
    | _ => .fail "strBytes"

noncomputable def ev_bytesStr (_P : Program) (x : Opd) (env : T AV) (h : Hp) : Res := match evE env x with
    | .nilSl => .val (.str 0 0) h
    | .sl id g off len _ _ es => bif Nat.beq len 0 then .val (.str 0 0) h else
      bif Nat.beq es 1 then (match readNF h id g off len with
      | some (.byt n v) => natK v fun v => .val (.str n v) h
      | some (.lst _ l) => (match packAV l 0 0 with
        | some (n, v) => .val (.str n v) h
        | none => .fail "bytesStr bytes")
      | none => .fail "bytesStr") else .fail "bytesStr size"
    | _ => .fail "bytesStr what"

noncomputable def ev_mkIfc (_P : Program) (t : TypeId) (x : Opd) (env : T AV) (h : Hp) : Res := .val (.ifc t (evE env x)) h

noncomputable def ev_mkFn (_P : Program) (f : Fn) (first : List Opd) (captured : List Opd) (env : T AV) (h : Hp) : Res := .val (.fn f (first.map (evE env)) (captured.map (evE env))) h

noncomputable def ev_mkMap (_P : Program)  (_env : T AV) (h : Hp) : Res := newKF h (fun _ => .map 0 [] 0) fun id h => .val (.map id) h

noncomputable def ev_mkSl (_P : Program) (es : Nat) (bytes : Nat) (zero : List AV) (len : Opd) (cap : Opd) (env : T AV) (h : Hp) : Res := match evE env len, evE env cap with
    | .int _ (.ofNat l), .int _ (.ofNat c) =>
      bif Nat.ble l c && okSize c bytes && Nat.blt 0 es then newCellsNF h (noteB bytes) (Cells.ofL (replA c zero [])) fun id h => .val (.sl id 0 0 l c true es) h else .fail "mkSl size"
    | _, _ => .fail "mkSl"

noncomputable def ev_sliceStr (_P : Program) (x : Opd) (lo : Option Opd) (hi : Option Opd) (env : T AV) (h : Hp) : Res := match evE env x with
    | .str n v => match evOF env lo 0, evOF env hi n with
      | some l, some r => bif Nat.ble l r && Nat.ble r n then
          natK (Nat.sub r l) fun k => natK (Nat.mod (Nat.div v (Nat.pow 256 (Nat.sub n r))) (Nat.pow 256 k)) fun u => .val (.str k u) h else .fail "sliceStr bounds"
      | _, _ => .fail "sliceStr"
    | _ => .fail "sliceStr what"

noncomputable def ev_sliceSl (_P : Program) (es : Nat) (x : Opd) (lo : Option Opd) (hi : Option Opd) (mx : Option Opd) (env : T AV) (h : Hp) : Res := match evE env x with
    | .nilSl => (match evOF env lo 0, evOF env hi 0, evOF env mx 0 with
      | some 0, some 0, some 0 => .val .nilSl h
      | _, _, _ => .fail "sliceSl nil")
    | .sl id g off len cap ex es' =>
      (match evOF env lo 0, evOF env hi len, evOF env mx cap with
      | some l, some r, some m =>
        bif Nat.beq es es' && Nat.ble l r && Nat.ble r m && Nat.ble m cap then
          natK (Nat.sub r l) fun n => natK (Nat.sub m l) fun c => natK (Nat.add off (Nat.mul l es)) fun off' =>
            .val (.sl id g (bif Nat.beq l m && (bif ex then true else mx.isSome) then off else off') n c (bif ex then true else mx.isSome) es) h
        else .fail "sliceSl bounds"
      | _, _, _ => .fail "sliceSl")
    | _ => .fail "sliceSl what"

noncomputable def ev_sliceArr (_P : Program) (n : Nat) (es : Nat) (x : Opd) (lo : Option Opd) (hi : Option Opd) (mx : Option Opd) (env : T AV) (h : Hp) : Res := match evE env x with
    | .ptr id g off =>
      (match evOF env lo 0, evOF env hi n, evOF env mx n with
      | some l, some r, some m =>
        bif Nat.blt 0 (n * es) && (readNF h id g off (n * es)).isSome && Nat.ble l r && Nat.ble r m && Nat.ble m n then
          natK (Nat.sub r l) fun k => natK (Nat.sub m l) fun c => natK (Nat.add off (Nat.mul l es)) fun off' =>
            .val (.sl id g (bif Nat.beq l m then off else off') k c true es) h
        else .fail "sliceArr bounds"
      | _, _, _ => .fail "sliceArr")
    | _ => .fail "sliceArr what"

noncomputable def ev_fieldAddr (_P : Program) (off : Nat) (x : Opd) (env : T AV) (h : Hp) : Res := match evE env x with
    | .ptr id g o => natK (Nat.add o off) fun o => .val (.ptr id g o) h
    | _ => .fail "fieldAddr"

noncomputable def ev_part1 (_P : Program) (off : Nat) (x : Opd) (env : T AV) (h : Hp) : Res := match evE env x with
    | .agg l => opt h "part1" (nth l off)
    | _ => .fail "part1 what"

noncomputable def ev_partN (_P : Program) (off : Nat) (n : Nat) (x : Opd) (env : T AV) (h : Hp) : Res := match evE env x with
    | .agg l => .val (.agg ((l.drop off).take n)) h
    | _ => .fail "partN what"

noncomputable def ev_idxAddrArr (_P : Program) (len : Nat) (es : Nat) (x : Opd) (i : Opd) (env : T AV) (h : Hp) : Res := match evE env x, evE env i with
    | .ptr id g off, .int _ (.ofNat i) => bif Nat.blt i len then natK (Nat.add off (Nat.mul i es)) fun o => .val (.ptr id g o) h else .fail "idxAddrArr bounds"
    | _, _ => .fail "idxAddrArr"

noncomputable def ev_idxAddrSl (_P : Program) (es : Nat) (x : Opd) (i : Opd) (env : T AV) (h : Hp) : Res := match evE env x, evE env i with
    | .sl id g off len _ _ es', .int _ (.ofNat i) =>
      bif Nat.blt i len && Nat.beq es es' then natK (Nat.add off (Nat.mul i es)) fun o => .val (.ptr id g o) h else .fail "idxAddrSl bounds"
    | _, _ => .fail "idxAddrSl"

noncomputable def ev_idxArr (_P : Program) (len : Nat) (es : Nat) (isAgg : Bool) (x : Opd) (i : Opd) (env : T AV) (h : Hp) : Res := match evE env x, evE env i with
    | .agg l, .int _ (.ofNat i) => bif Nat.blt i len then
        (bif isAgg then .val (.agg ((l.drop (Nat.mul i es)).take es)) h else opt h "idxArr" (nth l (Nat.mul i es))) else .fail "idxArr bounds"
    | _, _ => .fail "idxArr"

noncomputable def ev_idxStr (_P : Program) (x : Opd) (i : Opd) (env : T AV) (h : Hp) : Res := match evE env x, evE env i with
    | .str n v, .int _ (.ofNat i) => bif Nat.blt i n then natK (byteAt n v i) fun b => .val (byteV b) h else .fail "idxStr bounds"
    | _, _ => .fail "idxStr"

noncomputable def ev_lookup (P : Program) (zero : AV) (ok : Bool) (kk : KK) (m : Opd) (k : Opd) (env : T AV) (h : Hp) : Res :=
    let give (v : AV) (b : Bool) : Res := .val (bif ok then .tup [v, .bool b] else v) h
    bif keyOk P kk (evE env k) then (match evE env m with
    | .nilMap => give zero false
    | .map id => (match getB id h.heap with
      | some (.map _ es _) => (match findAF P h kk (evE env k) es 0 with
        | some (some (_, v)) => give v true
        | some none => give zero false
        | none => .fail "lookup key")
      | _ => .fail "lookup no map")
    | _ => .fail "lookup what") else .fail "lookup key kind"

noncomputable def ev_update (P : Program) (kk : KK) (m : Opd) (k : Opd) (v : Opd) (env : T AV) (h : Hp) : Res := bif keyOk P kk (evE env k) then (match evE env m with
    | .map id => (match getB id h.heap with
      | some (.map s es clock) => bif Nat.beq s 0 then (match findAF P h kk (evE env k) es 0 with
        | some (some (i, _)) => setR id (some (.map s (setAt es i (evE env k) (evE env v)) clock)) h.heap fun t =>
            .val .undef ⟨t, h.next, h.ser, h.lim⟩
        | some none => natK (Nat.succ clock) fun c => setR id (some (.map s (es ++ [(evE env k, evE env v, clock)]) c)) h.heap fun t =>
            .val .undef ⟨t, h.next, h.ser, h.lim⟩
        | none => .fail "update key") else .fail "map held"
      | _ => .fail "update no map")
    | _ => .fail "update what") else .fail "update key kind"

noncomputable def ev_rangeStr (_P : Program) (x : Opd) (env : T AV) (h : Hp) : Res := match evE env x with
    | .str n v => newKF h (fun s => .sit s n v 0) fun id h => .val (.ptr id 0 0) h
    | _ => .fail "rangeStr"

noncomputable def ev_nextStr (_P : Program) (x : Opd) (env : T AV) (h : Hp) : Res := match evE env x with
    | .ptr id g off => bif Nat.beq g 0 && Nat.beq off 0 then (match getB id h.heap with
      | some (.sit s n v pos) => bif Nat.blt pos n then
          natK (byteAt n v pos) fun b => natK (runeA n v pos b).1 fun c => natK (Nat.add pos (runeA n v pos b).2) fun p =>
          setR id (some (.sit s n v p)) h.heap fun t => .val (.tup [.bool true, .int .i64 (.ofNat pos), .int .i32 (.ofNat c)]) ⟨t, h.next, h.ser, h.lim⟩
        else .val (.tup [.bool false]) h
      | _ => .fail "nextStr") else .fail "nextStr where"
    | _ => .fail "nextStr what"

noncomputable def ev_rangeMap (_P : Program) (x : Opd) (env : T AV) (h : Hp) : Res := match evE env x with
    | .nilMap => newKF h (fun s => .mit s none 0 [] 0) fun id h => .val (.ptr id 0 0) h
    | .map m => (match getB m h.heap with
      | some (.map _ _ clock) => newKF h (fun s => .mit s (some m) clock [] clock) fun id h => .val (.ptr id 0 0) h
      | _ => .fail "rangeMap")
    | _ => .fail "rangeMap what"

noncomputable def ev_nextMap (_P : Program) (x : Opd) (env : T AV) (h : Hp) : Res := match evE env x with
    | .ptr id g off => bif Nat.beq g 0 && Nat.beq off 0 then (match getB id h.heap with
      | some (.mit _ none _ _ _) => .val (.tup [.bool false]) h
      | some (.mit s (some m) since seen last) => (match getB m h.heap with
        | some (.map _ es clock) =>
          bif !seen.isEmpty && !es.isEmpty && es.all (fun e => Nat.ble last e.2.2) then .fail "nextMap gone" else
          (match es.filter fun e => !seen.contains e.2.2 with
          | [] => .val (.tup [.bool false]) h
          | [e] => bif Nat.blt e.2.2 since then setR id (some (.mit s (some m) since (seen ++ [e.2.2]) clock)) h.heap fun t =>
              .val (.tup [.bool true, e.1, e.2.1]) ⟨t, h.next, h.ser, h.lim⟩ else .fail "nextMap new"
          | l => bif l.all (fun e => Nat.blt e.2.2 since) then .fork (l.map fun e => (.tup [.bool true, e.1, e.2.1], ⟨T.set id (some (.mit s (some m) since (seen ++ [e.2.2]) clock)) h.heap, h.next, h.ser, h.lim⟩)) else .fail "nextMap order")
        | _ => .fail "nextMap no map")
      | _ => .fail "nextMap") else .fail "nextMap where"
    | _ => .fail "nextMap what"

noncomputable def ev_entry (_P : Program) (x : Opd) (env : T AV) (h : Hp) : Res := match evE env x with
    | .ptr id g off => bif Nat.beq g 0 && Nat.beq off 0 then (match getB id h.heap with
      | some (.mit _ (some m) _ seen stepped) => (match getB m h.heap, seen.getLast? with
        | some (.map _ es clock), some b => bif Nat.beq clock stepped then (match es.find? fun e => Nat.beq e.2.2 b with
          | some e => .val (.tup [e.1, e.2.1]) h
          | none => .fail "entry gone") else .fail "entry clock"
        | _, _ => .fail "entry")
      | _ => .fail "entry") else .fail "entry where"
    | _ => .fail "entry"

noncomputable def ev_delete (P : Program) (kk : KK) (m : Opd) (k : Opd) (env : T AV) (h : Hp) : Res := bif keyOk P kk (evE env k) then (match evE env m with
    | .nilMap => .val (.tup []) h
    | .map id => (match getB id h.heap with
      | some (.map s es clock) => bif Nat.beq s 0 then (match findAF P h kk (evE env k) es 0 with
        | some (some (i, _)) => setR id (some (.map s (es.eraseIdx i) clock)) h.heap fun t =>
            .val (.tup []) ⟨t, h.next, h.ser, h.lim⟩
        | some none => .val (.tup []) h
        | none => .fail "delete key") else .fail "map held"
      | _ => .fail "delete no map")
    | _ => .fail "delete what") else .fail "delete key kind"

noncomputable def ev_lenM (_P : Program) (x : Opd) (env : T AV) (h : Hp) : Res := match evE env x with
    | .nilMap => .val (.int .i64 (.ofNat 0)) h
    | .map id => (match getB id h.heap with
      | some (.map _ es _) => natK es.length fun n => .val (.int .i64 (.ofNat n)) h
      | _ => .fail "len of a map")
    | _ => .fail "len of a map what"

noncomputable def ev_eqPtr (_P : Program) (neg : Bool) (x : Opd) (y : Opd) (env : T AV) (h : Hp) : Res := opt h "eqPtr" (match samePF h (evE env x) (evE env y) with
    | some b => notIf neg b
    | none => none)

noncomputable def ev_clearSl (_P : Program) (es : Nat) (zero : List AV) (x : Opd) (env : T AV) (h : Hp) : Res := match evE env x with
    | .nilSl => .val (.tup []) h
    | .sl id g off len _ _ es' => bif Nat.beq len 0 then .val (.tup []) h else bif Nat.beq es es' then writeNF h id g off (Cells.ofL (replA len zero [])) fun h => .val (.tup []) h else .fail "clear"
    | _ => .fail "clear"

noncomputable def ev_eqIfc (P : Program) (neg : Bool) (nilOk : Bool) (x : Opd) (y : Opd) (env : T AV) (h : Hp) : Res := opt h "eqIfc" (match sameIF P h nilOk (evE env x) (evE env y) with
    | some b => notIf neg b
    | none => none)

noncomputable def ev_toUnsafe (_P : Program) (x : Opd) (env : T AV) (h : Hp) : Res := match evE env x with
    | .nilPtr => .val .nilPtr h
    | .ptr id g off => (match read1F h id g off with
      | some _ => .val (.ptr id g off) h
      | none => .fail "toUnsafe")
    | _ => .fail "toUnsafe what"

noncomputable def ev_fromUnsafe (_P : Program) (u : TypeId) (x : Opd) (env : T AV) (h : Hp) : Res := match evE env x with
    | .nilPtr => .val .nilPtr h
    | .ptr id g off => bif Nat.beq off 0 then (match getB id h.heap with
      | some (.cells s _ _ _ g' _ _ _) => bif Nat.beq s (Nat.succ (Nat.succ u)) && Nat.beq g g' then .val (.ptr id g off) h else .fail "fromUnsafe type"
      | _ => .fail "fromUnsafe cells") else .fail "fromUnsafe where"
    | _ => .fail "fromUnsafe what"

noncomputable def ev_sliceData (_P : Program) (x : Opd) (env : T AV) (h : Hp) : Res := match evE env x with
    | .nilSl => .val .nilPtr h
    | .sl id g off _ cap _ _ => bif Nat.blt 0 cap then .val (.ptr id g off) h else .fail "sliceData"
    | _ => .fail "sliceData"

noncomputable def ev_unsafeStr (_P : Program) (p : Opd) (n : Opd) (env : T AV) (h : Hp) : Res := match evE env n with
    | .int .i64 (.ofNat n) => bif Nat.beq n 0 then (match evE env p with
        | .nilPtr => .val (.str 0 0) h
        | .ptr _ _ _ => .val (.str 0 0) h
        | _ => .fail "unsafeStr what") else (match evE env p with
        | .ptr id g off => (match getB id h.heap with
          | some (.cells s c lo hi g' m ro fz) => bif !ro && Nat.beq s 1 && Nat.beq g g' && Nat.ble n i64max then (match readNF h id g off n with
            | some (.byt k v) => natK v fun v => setR id (some (.cells s c lo hi g' m true fz)) h.heap fun t => .val (.str k v) ⟨t, h.next, h.ser, h.lim⟩
            | _ => .fail "unsafeStr bytes") else .fail "unsafeStr row"
          | _ => .fail "unsafeStr")
        | _ => .fail "unsafeStr what")
    | _ => .fail "unsafeStr length"

noncomputable def ev_ext (_P : Program) (k : Nat) (args : List Opd) (env : T AV) (h : Hp) : Res := extEF h k (args.map (evE env))

noncomputable def ev_defer (_P : Program) (f : Opd) (args : List Opd) (env : T AV) (_h : Hp) : Res := match evE env f with
    | .fn (.func f) first captured => .defer f (first ++ (args.map (evE env) ++ captured))
    | _ => .fail "defer"

noncomputable def ev_recover (_P : Program)  (_env : T AV) (_h : Hp) : Res := .recover

noncomputable def ev_panic (_P : Program) (x : Opd) (env : T AV) (_h : Hp) : Res := match evE env x with
    | .ifc t v => .panic (.ifc t v)
    | _ => .fail "panic"

noncomputable def ev_assertT (_P : Program) (t : TypeId) (zero : AV) (ok : Bool) (x : Opd) (env : T AV) (h : Hp) : Res := match evE env x with
    | .ifc t' v => bif Nat.beq t t' then .val (bif ok then .tup [v, .bool true] else v) h
      else bif ok then .val (.tup [zero, .bool false]) h else .fail "assert"
    | .nilIfc => bif ok then .val (.tup [zero, .bool false]) h else .fail "assert nil"
    | _ => .fail "assert what"

noncomputable def ev_extract (_P : Program) (x : Opd) (i : Nat) (env : T AV) (h : Hp) : Res := match evE env x with
    | .tup l => opt h "extract" (nth l i)
    | _ => .fail "extract what"

noncomputable def ev_call (P : Program) (c : Cl) (args : List Opd) (env : T AV) (h : Hp) : Res := match c with
    | .value f => (match evE env f with
      | .fn (.func f) first captured => callAF P h f (first ++ (args.map (evE env) ++ captured))
      | .yield l => .round l (args.map (evE env))
      | _ => .fail "call what")
    | .invoke recv name => (match evE env recv with
      | .ifc t v => (match methodOf P t name with
        | some f => callAF P h f (v :: args.map (evE env))
        | none => .fail "invoke method")
      | _ => .fail "invoke what")

noncomputable def ev_lenS (_P : Program) (x : Opd) (env : T AV) (h : Hp) : Res := (match evE env x with
    | .str n _ => .val (.int .i64 (.ofNat n)) h
    | _ => .fail "len")

noncomputable def ev_lenL (_P : Program) (x : Opd) (env : T AV) (h : Hp) : Res := (match evE env x with
    | .sl _ _ _ len _ _ _ => .val (.int .i64 (.ofNat len)) h
    | .nilSl => .val (.int .i64 (.ofNat 0)) h
    | _ => .fail "len")

noncomputable def ev_lenArr (_P : Program) (n : Nat) (_env : T AV) (h : Hp) : Res := .val (.int .i64 (.ofNat n)) h

noncomputable def ev_append (_P : Program) (es : Nat) (bytes : Nat) (s : Opd) (x : Opd) (env : T AV) (h : Hp) : Res := appendAF h es bytes (evE env s) (evE env x)

noncomputable def ev_appendZ (_P : Program) (es : Nat) (bytes : Nat) (zero : List AV) (s : Opd) (x : Opd) (env : T AV) (h : Hp) : Res := (match evE env x with
    | .int _ (.ofNat n) =>
      bif Nat.ble n 1073741824 && Nat.ble bytes 4096 then
        (bif Nat.beq n 0 then (match evE env s with | .sl id g off len cap ex es' => .val (.sl id g off len cap ex es') h | .nilSl => .val .nilSl h | _ => .fail "append")
        else appendSegF h es bytes (evE env s) n (Cells.ofL (replA n zero [])))
      else .fail "appendZ size"
    | _ => .fail "appendZ")

noncomputable def ev_cap (_P : Program) (x : Opd) (env : T AV) (h : Hp) : Res := (match evE env x with
    | .nilSl => .val (.int .i64 (.ofNat 0)) h
    | .sl _ _ _ _ cap true _ => .val (.int .i64 (.ofNat cap)) h
    | _ => .fail "cap")

noncomputable def ev_copy (_P : Program) (es : Nat) (d : Opd) (s : Opd) (env : T AV) (h : Hp) : Res := copyAF h es (evE env d) (evE env s)

noncomputable def ev_bmin (_P : Program) (x : Opd) (y : Opd) (env : T AV) (h : Hp) : Res := (match evE env x, evE env y with
    | .int k a, .int _ b => .val (.int k (match cmpA b a with | .lt => b | _ => a)) h
    | _, _ => .fail "min")

noncomputable def ev_bmax (_P : Program) (x : Opd) (y : Opd) (env : T AV) (h : Hp) : Res := (match evE env x, evE env y with
    | .int k a, .int _ b => .val (.int k (match cmpA b a with | .gt => b | _ => a)) h
    | _, _ => .fail "max")

noncomputable def ev_bad (_P : Program) (why : String) (_env : T AV) (_h : Hp) : Res := .fail why

noncomputable def evalF (P : Program) (o : AOp) (env : T AV) (h : Hp) : Res :=
  AOp.rec (motive := fun _ => Program → T AV → Hp → Res)
    (fun x P env h => ev_mov P x env h)
    (fun c a b P env h => ev_pick P c a b env h)
    (fun cells P env h => ev_new P cells env h)
    (fun u cells P env h => ev_newT P u cells env h)
    (fun x P env h => ev_box P x env h)
    (fun zero parts P env h => ev_build P zero parts env h)
    (fun len es zero parts P env h => ev_buildSl P len es zero parts env h)
    (fun a P env h => ev_load1 P a env h)
    (fun n a P env h => ev_loadN P n a env h)
    (fun n a x P env h => ev_store P n a x env h)
    (fun x P env h => ev_nilCheck P x env h)
    (fun op kd nilOk x y P env h => ev_bin P op kd nilOk x y env h)
    (fun op x P env h => ev_un P op x env h)
    (fun k x P env h => ev_convInt P k x env h)
    (fun x P env h => ev_convStr P x env h)
    (fun x P env h => ev_strBytes P x env h)
    (fun x P env h => ev_bytesStr P x env h)
    (fun t x P env h => ev_mkIfc P t x env h)
    (fun f first captured P env h => ev_mkFn P f first captured env h)
    (fun P env h => ev_mkMap P env h)
    (fun es bytes zero len cap P env h => ev_mkSl P es bytes zero len cap env h)
    (fun x lo hi P env h => ev_sliceStr P x lo hi env h)
    (fun es x lo hi mx P env h => ev_sliceSl P es x lo hi mx env h)
    (fun n es x lo hi mx P env h => ev_sliceArr P n es x lo hi mx env h)
    (fun off x P env h => ev_fieldAddr P off x env h)
    (fun off x P env h => ev_part1 P off x env h)
    (fun off n x P env h => ev_partN P off n x env h)
    (fun len es x i P env h => ev_idxAddrArr P len es x i env h)
    (fun es x i P env h => ev_idxAddrSl P es x i env h)
    (fun len es isAgg x i P env h => ev_idxArr P len es isAgg x i env h)
    (fun x i P env h => ev_idxStr P x i env h)
    (fun zero ok kk m k P env h => ev_lookup P zero ok kk m k env h)
    (fun kk m k v P env h => ev_update P kk m k v env h)
    (fun x P env h => ev_rangeStr P x env h)
    (fun x P env h => ev_nextStr P x env h)
    (fun x P env h => ev_rangeMap P x env h)
    (fun x P env h => ev_nextMap P x env h)
    (fun x P env h => ev_entry P x env h)
    (fun kk m k P env h => ev_delete P kk m k env h)
    (fun x P env h => ev_lenM P x env h)
    (fun neg x y P env h => ev_eqPtr P neg x y env h)
    (fun es zero x P env h => ev_clearSl P es zero x env h)
    (fun neg nilOk x y P env h => ev_eqIfc P neg nilOk x y env h)
    (fun x P env h => ev_toUnsafe P x env h)
    (fun u x P env h => ev_fromUnsafe P u x env h)
    (fun x P env h => ev_sliceData P x env h)
    (fun p n P env h => ev_unsafeStr P p n env h)
    (fun k args P env h => ev_ext P k args env h)
    (fun f args P env h => ev_defer P f args env h)
    (fun P env h => ev_recover P env h)
    (fun x P env h => ev_panic P x env h)
    (fun a P env h => ev_loadG P a env h)
    (fun t zero ok x P env h => ev_assertT P t zero ok x env h)
    (fun x i P env h => ev_extract P x i env h)
    (fun c args P env h => ev_call P c args env h)
    (fun x P env h => ev_lenS P x env h)
    (fun x P env h => ev_lenL P x env h)
    (fun n P env h => ev_lenArr P n env h)
    (fun es bytes s x P env h => ev_append P es bytes s x env h)
    (fun es bytes zero s x P env h => ev_appendZ P es bytes zero s x env h)
    (fun x P env h => ev_cap P x env h)
    (fun es d s P env h => ev_copy P es d s env h)
    (fun x y P env h => ev_bmin P x y env h)
    (fun x y P env h => ev_bmax P x y env h)
    (fun why P env h => ev_bad P why env h)
    o P env h

theorem ev_mov_eq (P : Program) (x0 : Opd) (env : T AV) (h : Hp) : ev_mov P x0 env h = evalOp P (.mov x0) env h := by
  unfold ev_mov evalOp
  first | (simp only [evE_eq]; done) | (simp only [evE_eq]; rfl)

theorem ev_pick_eq (P : Program) (x0 : Opd) (x1 : Opd) (x2 : Opd) (env : T AV) (h : Hp) : ev_pick P x0 x1 x2 env h = evalOp P (.pick x0 x1 x2) env h := by
  unfold ev_pick evalOp
  first | (simp only [evE_eq]; done) | (simp only [evE_eq]; rfl)

theorem ev_new_eq (P : Program) (x0 : List AV) (env : T AV) (h : Hp) : ev_new P x0 env h = evalOp P (.new x0) env h := by
  unfold ev_new evalOp
  first | (simp only [newCellsF_eq]; done) | (simp only [newCellsF_eq]; rfl)

theorem ev_newT_eq (P : Program) (x0 : TypeId) (x1 : List AV) (env : T AV) (h : Hp) : ev_newT P x0 x1 env h = evalOp P (.newT x0 x1) env h := by
  unfold ev_newT evalOp
  first | (simp only [newCellsNF_eq]; done) | (simp only [newCellsNF_eq]; rfl)

theorem ev_box_eq (P : Program) (x0 : Opd) (env : T AV) (h : Hp) : ev_box P x0 env h = evalOp P (.box x0) env h := by
  unfold ev_box evalOp
  first | (simp only [evE_eq, newCellsF_eq]; done) | (simp only [evE_eq, newCellsF_eq]; rfl)

theorem ev_build_eq (P : Program) (x0 : List AV) (x1 : List (Nat × Nat × Opd)) (env : T AV) (h : Hp) : ev_build P x0 x1 env h = evalOp P (.build x0 x1) env h := by
  unfold ev_build evalOp
  first | (simp only [fillAF_eq]; done) | (simp only [fillAF_eq]; rfl)

theorem ev_buildSl_eq (P : Program) (x0 : Nat) (x1 : Nat) (x2 : List AV) (x3 : List (Nat × Nat × Opd)) (env : T AV) (h : Hp) : ev_buildSl P x0 x1 x2 x3 env h = evalOp P (.buildSl x0 x1 x2 x3) env h := by
  unfold ev_buildSl evalOp
  first | (simp only [newCellsF_eq, fillAF_eq]; done) | (simp only [newCellsF_eq, fillAF_eq]; rfl)

theorem ev_load1_eq (P : Program) (x0 : Opd) (env : T AV) (h : Hp) : ev_load1 P x0 env h = evalOp P (.load1 x0) env h := by
  unfold ev_load1 evalOp
  first | (simp only [evE_eq, read1F_eq]; done) | (simp only [evE_eq, read1F_eq]; rfl)

theorem ev_loadN_eq (P : Program) (x0 : Nat) (x1 : Opd) (env : T AV) (h : Hp) : ev_loadN P x0 x1 env h = evalOp P (.loadN x0 x1) env h := by
  unfold ev_loadN evalOp
  first | (simp only [evE_eq, readNF_eq]; done) | (simp only [evE_eq, readNF_eq]; rfl)

theorem ev_store_eq (P : Program) (x0 : Nat) (x1 : Opd) (x2 : Opd) (env : T AV) (h : Hp) : ev_store P x0 x1 x2 env h = evalOp P (.store x0 x1 x2) env h := by
  unfold ev_store evalOp
  first | (simp only [evE_eq, writeNF_eq]; done) | (simp only [evE_eq, writeNF_eq]; rfl)

theorem ev_nilCheck_eq (P : Program) (x0 : Opd) (env : T AV) (h : Hp) : ev_nilCheck P x0 env h = evalOp P (.nilCheck x0) env h := by
  unfold ev_nilCheck evalOp
  first | (simp only [evE_eq]; done) | (simp only [evE_eq]; rfl)

theorem ev_bin_eq (P : Program) (x0 : BinOp) (x1 : EK) (x2 : Bool) (x3 : Opd) (x4 : Opd) (env : T AV) (h : Hp) : ev_bin P x0 x1 x2 x3 x4 env h = evalOp P (.bin x0 x1 x2 x3 x4) env h := by
  unfold ev_bin evalOp
  first | (simp only [evE_eq]; done) | (simp only [evE_eq]; rfl)

theorem ev_un_eq (P : Program) (x0 : UnOp) (x1 : Opd) (env : T AV) (h : Hp) : ev_un P x0 x1 env h = evalOp P (.un x0 x1) env h := by
  unfold ev_un evalOp
  first | (simp only [evE_eq]; done) | (simp only [evE_eq]; rfl)

theorem ev_convInt_eq (P : Program) (x0 : IntKind) (x1 : Opd) (env : T AV) (h : Hp) : ev_convInt P x0 x1 env h = evalOp P (.convInt x0 x1) env h := by
  unfold ev_convInt evalOp
  first | (simp only [evE_eq]; done) | (simp only [evE_eq]; rfl)

theorem ev_convStr_eq (P : Program) (x0 : Opd) (env : T AV) (h : Hp) : ev_convStr P x0 env h = evalOp P (.convStr x0) env h := by
  unfold ev_convStr evalOp
  first | (simp only [evE_eq]; done) | (simp only [evE_eq]; rfl)

theorem ev_strBytes_eq (P : Program) (x0 : Opd) (env : T AV) (h : Hp) : ev_strBytes P x0 env h = evalOp P (.strBytes x0) env h := by
  unfold ev_strBytes evalOp
  first | (simp only [evE_eq, newKF_eq]; done) | (simp only [evE_eq, newKF_eq]; rfl)

theorem ev_bytesStr_eq (P : Program) (x0 : Opd) (env : T AV) (h : Hp) : ev_bytesStr P x0 env h = evalOp P (.bytesStr x0) env h := by
  unfold ev_bytesStr evalOp
  first | (simp only [evE_eq, readNF_eq]; done) | (simp only [evE_eq, readNF_eq]; rfl)

theorem ev_mkIfc_eq (P : Program) (x0 : TypeId) (x1 : Opd) (env : T AV) (h : Hp) : ev_mkIfc P x0 x1 env h = evalOp P (.mkIfc x0 x1) env h := by
  unfold ev_mkIfc evalOp
  first | (simp only [evE_eq]; done) | (simp only [evE_eq]; rfl)

theorem ev_mkFn_eq (P : Program) (x0 : Fn) (x1 : List Opd) (x2 : List Opd) (env : T AV) (h : Hp) : ev_mkFn P x0 x1 x2 env h = evalOp P (.mkFn x0 x1 x2) env h := by
  unfold ev_mkFn evalOp
  first | (simp only [evE_eq]; done) | (simp only [evE_eq]; rfl)

theorem ev_mkMap_eq (P : Program)  (env : T AV) (h : Hp) : ev_mkMap P  env h = evalOp P (.mkMap) env h := by
  unfold ev_mkMap evalOp
  first | (simp only [newKF_eq]; done) | (simp only [newKF_eq]; rfl)

theorem ev_mkSl_eq (P : Program) (x0 : Nat) (x1 : Nat) (x2 : List AV) (x3 : Opd) (x4 : Opd) (env : T AV) (h : Hp) : ev_mkSl P x0 x1 x2 x3 x4 env h = evalOp P (.mkSl x0 x1 x2 x3 x4) env h := by
  unfold ev_mkSl evalOp
  first | (simp only [evE_eq, newCellsNF_eq]; done) | (simp only [evE_eq, newCellsNF_eq]; rfl)

theorem ev_sliceStr_eq (P : Program) (x0 : Opd) (x1 : Option Opd) (x2 : Option Opd) (env : T AV) (h : Hp) : ev_sliceStr P x0 x1 x2 env h = evalOp P (.sliceStr x0 x1 x2) env h := by
  unfold ev_sliceStr evalOp
  first | (simp only [evE_eq, evOF_eq]; done) | (simp only [evE_eq, evOF_eq]; rfl)

theorem ev_sliceSl_eq (P : Program) (x0 : Nat) (x1 : Opd) (x2 : Option Opd) (x3 : Option Opd) (x4 : Option Opd) (env : T AV) (h : Hp) : ev_sliceSl P x0 x1 x2 x3 x4 env h = evalOp P (.sliceSl x0 x1 x2 x3 x4) env h := by
  unfold ev_sliceSl evalOp
  first | (simp only [evE_eq, evOF_eq]; done) | (simp only [evE_eq, evOF_eq]; rfl)

theorem ev_sliceArr_eq (P : Program) (x0 : Nat) (x1 : Nat) (x2 : Opd) (x3 : Option Opd) (x4 : Option Opd) (x5 : Option Opd) (env : T AV) (h : Hp) : ev_sliceArr P x0 x1 x2 x3 x4 x5 env h = evalOp P (.sliceArr x0 x1 x2 x3 x4 x5) env h := by
  unfold ev_sliceArr evalOp
  first | (simp only [evE_eq, readNF_eq, evOF_eq]; done) | (simp only [evE_eq, readNF_eq, evOF_eq]; rfl)

theorem ev_fieldAddr_eq (P : Program) (x0 : Nat) (x1 : Opd) (env : T AV) (h : Hp) : ev_fieldAddr P x0 x1 env h = evalOp P (.fieldAddr x0 x1) env h := by
  unfold ev_fieldAddr evalOp
  first | (simp only [evE_eq]; done) | (simp only [evE_eq]; rfl)

theorem ev_part1_eq (P : Program) (x0 : Nat) (x1 : Opd) (env : T AV) (h : Hp) : ev_part1 P x0 x1 env h = evalOp P (.part1 x0 x1) env h := by
  unfold ev_part1 evalOp
  first | (simp only [evE_eq]; done) | (simp only [evE_eq]; rfl)

theorem ev_partN_eq (P : Program) (x0 : Nat) (x1 : Nat) (x2 : Opd) (env : T AV) (h : Hp) : ev_partN P x0 x1 x2 env h = evalOp P (.partN x0 x1 x2) env h := by
  unfold ev_partN evalOp
  first | (simp only [evE_eq]; done) | (simp only [evE_eq]; rfl)

theorem ev_idxAddrArr_eq (P : Program) (x0 : Nat) (x1 : Nat) (x2 : Opd) (x3 : Opd) (env : T AV) (h : Hp) : ev_idxAddrArr P x0 x1 x2 x3 env h = evalOp P (.idxAddrArr x0 x1 x2 x3) env h := by
  unfold ev_idxAddrArr evalOp
  first | (simp only [evE_eq]; done) | (simp only [evE_eq]; rfl)

theorem ev_idxAddrSl_eq (P : Program) (x0 : Nat) (x1 : Opd) (x2 : Opd) (env : T AV) (h : Hp) : ev_idxAddrSl P x0 x1 x2 env h = evalOp P (.idxAddrSl x0 x1 x2) env h := by
  unfold ev_idxAddrSl evalOp
  first | (simp only [evE_eq]; done) | (simp only [evE_eq]; rfl)

theorem ev_idxArr_eq (P : Program) (x0 : Nat) (x1 : Nat) (x2 : Bool) (x3 : Opd) (x4 : Opd) (env : T AV) (h : Hp) : ev_idxArr P x0 x1 x2 x3 x4 env h = evalOp P (.idxArr x0 x1 x2 x3 x4) env h := by
  unfold ev_idxArr evalOp
  first | (simp only [evE_eq]; done) | (simp only [evE_eq]; rfl)

theorem ev_idxStr_eq (P : Program) (x0 : Opd) (x1 : Opd) (env : T AV) (h : Hp) : ev_idxStr P x0 x1 env h = evalOp P (.idxStr x0 x1) env h := by
  unfold ev_idxStr evalOp
  first | (simp only [evE_eq]; done) | (simp only [evE_eq]; rfl)

theorem ev_lookup_eq (P : Program) (x0 : AV) (x1 : Bool) (x2 : KK) (x3 : Opd) (x4 : Opd) (env : T AV) (h : Hp) : ev_lookup P x0 x1 x2 x3 x4 env h = evalOp P (.lookup x0 x1 x2 x3 x4) env h := by
  unfold ev_lookup evalOp
  first | (simp only [evE_eq, getB_eq, findAF_eq]; done) | (simp only [evE_eq, getB_eq, findAF_eq]; rfl)

theorem ev_update_eq (P : Program) (x0 : KK) (x1 : Opd) (x2 : Opd) (x3 : Opd) (env : T AV) (h : Hp) : ev_update P x0 x1 x2 x3 env h = evalOp P (.update x0 x1 x2 x3) env h := by
  unfold ev_update evalOp
  first | (simp only [evE_eq, getB_eq, setR_eq, T.setK_eq, findAF_eq]; done) | (simp only [evE_eq, getB_eq, setR_eq, T.setK_eq, findAF_eq]; rfl)

theorem ev_rangeStr_eq (P : Program) (x0 : Opd) (env : T AV) (h : Hp) : ev_rangeStr P x0 env h = evalOp P (.rangeStr x0) env h := by
  unfold ev_rangeStr evalOp
  first | (simp only [evE_eq, newKF_eq]; done) | (simp only [evE_eq, newKF_eq]; rfl)

theorem ev_nextStr_eq (P : Program) (x0 : Opd) (env : T AV) (h : Hp) : ev_nextStr P x0 env h = evalOp P (.nextStr x0) env h := by
  unfold ev_nextStr evalOp
  first | (simp only [evE_eq, getB_eq, setR_eq, T.setK_eq]; done) | (simp only [evE_eq, getB_eq, setR_eq, T.setK_eq]; rfl)

theorem ev_rangeMap_eq (P : Program) (x0 : Opd) (env : T AV) (h : Hp) : ev_rangeMap P x0 env h = evalOp P (.rangeMap x0) env h := by
  unfold ev_rangeMap evalOp
  first | (simp only [evE_eq, getB_eq, newKF_eq]; done) | (simp only [evE_eq, getB_eq, newKF_eq]; rfl)

theorem ev_nextMap_eq (P : Program) (x0 : Opd) (env : T AV) (h : Hp) : ev_nextMap P x0 env h = evalOp P (.nextMap x0) env h := by
  unfold ev_nextMap evalOp
  first | (simp only [evE_eq, getB_eq, setR_eq, T.setK_eq]; done) | (simp only [evE_eq, getB_eq, setR_eq, T.setK_eq]; rfl)

theorem ev_entry_eq (P : Program) (x0 : Opd) (env : T AV) (h : Hp) : ev_entry P x0 env h = evalOp P (.entry x0) env h := by
  unfold ev_entry evalOp
  first | (simp only [evE_eq, getB_eq]; done) | (simp only [evE_eq, getB_eq]; rfl)

theorem ev_delete_eq (P : Program) (x0 : KK) (x1 : Opd) (x2 : Opd) (env : T AV) (h : Hp) : ev_delete P x0 x1 x2 env h = evalOp P (.delete x0 x1 x2) env h := by
  unfold ev_delete evalOp
  first | (simp only [evE_eq, getB_eq, setR_eq, T.setK_eq, findAF_eq]; done) | (simp only [evE_eq, getB_eq, setR_eq, T.setK_eq, findAF_eq]; rfl)

theorem ev_lenM_eq (P : Program) (x0 : Opd) (env : T AV) (h : Hp) : ev_lenM P x0 env h = evalOp P (.lenM x0) env h := by
  unfold ev_lenM evalOp
  first | (simp only [evE_eq, getB_eq]; done) | (simp only [evE_eq, getB_eq]; rfl)

theorem ev_eqPtr_eq (P : Program) (x0 : Bool) (x1 : Opd) (x2 : Opd) (env : T AV) (h : Hp) : ev_eqPtr P x0 x1 x2 env h = evalOp P (.eqPtr x0 x1 x2) env h := by
  unfold ev_eqPtr evalOp
  first | (simp only [evE_eq, samePF_eq]; done) | (simp only [evE_eq, samePF_eq]; rfl)

theorem ev_clearSl_eq (P : Program) (x0 : Nat) (x1 : List AV) (x2 : Opd) (env : T AV) (h : Hp) : ev_clearSl P x0 x1 x2 env h = evalOp P (.clearSl x0 x1 x2) env h := by
  unfold ev_clearSl evalOp
  first | (simp only [evE_eq, writeNF_eq]; done) | (simp only [evE_eq, writeNF_eq]; rfl)

theorem ev_eqIfc_eq (P : Program) (x0 : Bool) (x1 : Bool) (x2 : Opd) (x3 : Opd) (env : T AV) (h : Hp) : ev_eqIfc P x0 x1 x2 x3 env h = evalOp P (.eqIfc x0 x1 x2 x3) env h := by
  unfold ev_eqIfc evalOp
  first | (simp only [evE_eq, sameIF_eq]; done) | (simp only [evE_eq, sameIF_eq]; rfl)

theorem ev_toUnsafe_eq (P : Program) (x0 : Opd) (env : T AV) (h : Hp) : ev_toUnsafe P x0 env h = evalOp P (.toUnsafe x0) env h := by
  unfold ev_toUnsafe evalOp
  first | (simp only [evE_eq, read1F_eq]; done) | (simp only [evE_eq, read1F_eq]; rfl)

theorem ev_fromUnsafe_eq (P : Program) (x0 : TypeId) (x1 : Opd) (env : T AV) (h : Hp) : ev_fromUnsafe P x0 x1 env h = evalOp P (.fromUnsafe x0 x1) env h := by
  unfold ev_fromUnsafe evalOp
  first | (simp only [evE_eq, getB_eq]; done) | (simp only [evE_eq, getB_eq]; rfl)

theorem ev_sliceData_eq (P : Program) (x0 : Opd) (env : T AV) (h : Hp) : ev_sliceData P x0 env h = evalOp P (.sliceData x0) env h := by
  unfold ev_sliceData evalOp
  first | (simp only [evE_eq]; done) | (simp only [evE_eq]; rfl)

theorem ev_unsafeStr_eq (P : Program) (x0 : Opd) (x1 : Opd) (env : T AV) (h : Hp) : ev_unsafeStr P x0 x1 env h = evalOp P (.unsafeStr x0 x1) env h := by
  unfold ev_unsafeStr evalOp
  first | (simp only [evE_eq, getB_eq, setR_eq, T.setK_eq, readNF_eq]; done) | (simp only [evE_eq, getB_eq, setR_eq, T.setK_eq, readNF_eq]; rfl)

theorem ev_ext_eq (P : Program) (x0 : Nat) (x1 : List Opd) (env : T AV) (h : Hp) : ev_ext P x0 x1 env h = evalOp P (.ext x0 x1) env h := by
  unfold ev_ext evalOp
  first | (simp only [evE_eq, extEF_eq]; done) | (simp only [evE_eq, extEF_eq]; rfl)

theorem ev_defer_eq (P : Program) (x0 : Opd) (x1 : List Opd) (env : T AV) (h : Hp) : ev_defer P x0 x1 env h = evalOp P (.defer x0 x1) env h := by
  unfold ev_defer evalOp
  first | (simp only [evE_eq]; done) | (simp only [evE_eq]; rfl)

theorem ev_recover_eq (P : Program)  (env : T AV) (h : Hp) : ev_recover P  env h = evalOp P (.recover) env h := by
  rfl

theorem ev_panic_eq (P : Program) (x0 : Opd) (env : T AV) (h : Hp) : ev_panic P x0 env h = evalOp P (.panic x0) env h := by
  unfold ev_panic evalOp
  first | (simp only [evE_eq]; done) | (simp only [evE_eq]; rfl)

theorem ev_loadG_eq (P : Program) (x0 : Opd) (env : T AV) (h : Hp) : ev_loadG P x0 env h = evalOp P (.loadG x0) env h := by
  unfold ev_loadG evalOp
  first | (simp only [evE_eq]; done) | (simp only [evE_eq]; rfl)

theorem ev_assertT_eq (P : Program) (x0 : TypeId) (x1 : AV) (x2 : Bool) (x3 : Opd) (env : T AV) (h : Hp) : ev_assertT P x0 x1 x2 x3 env h = evalOp P (.assertT x0 x1 x2 x3) env h := by
  unfold ev_assertT evalOp
  first | (simp only [evE_eq]; done) | (simp only [evE_eq]; rfl)

theorem ev_extract_eq (P : Program) (x0 : Opd) (x1 : Nat) (env : T AV) (h : Hp) : ev_extract P x0 x1 env h = evalOp P (.extract x0 x1) env h := by
  unfold ev_extract evalOp
  first | (simp only [evE_eq]; done) | (simp only [evE_eq]; rfl)

theorem ev_call_eq (P : Program) (x0 : Cl) (x1 : List Opd) (env : T AV) (h : Hp) : ev_call P x0 x1 env h = evalOp P (.call x0 x1) env h := by
  unfold ev_call evalOp
  first | (simp only [evE_eq, callAF_eq]; done) | (simp only [evE_eq, callAF_eq]; rfl)

theorem ev_lenS_eq (P : Program) (x0 : Opd) (env : T AV) (h : Hp) : ev_lenS P x0 env h = evalOp P (.lenS x0) env h := by
  unfold ev_lenS evalOp
  first | (simp only [evE_eq]; done) | (simp only [evE_eq]; rfl)

theorem ev_lenL_eq (P : Program) (x0 : Opd) (env : T AV) (h : Hp) : ev_lenL P x0 env h = evalOp P (.lenL x0) env h := by
  unfold ev_lenL evalOp
  first | (simp only [evE_eq]; done) | (simp only [evE_eq]; rfl)

theorem ev_lenArr_eq (P : Program) (x0 : Nat) (env : T AV) (h : Hp) : ev_lenArr P x0 env h = evalOp P (.lenArr x0) env h := by
  rfl

theorem ev_append_eq (P : Program) (x0 : Nat) (x1 : Nat) (x2 : Opd) (x3 : Opd) (env : T AV) (h : Hp) : ev_append P x0 x1 x2 x3 env h = evalOp P (.append x0 x1 x2 x3) env h := by
  unfold ev_append evalOp
  first | (simp only [evE_eq, appendAF_eq]; done) | (simp only [evE_eq, appendAF_eq]; rfl)

theorem ev_appendZ_eq (P : Program) (x0 : Nat) (x1 : Nat) (x2 : List AV) (x3 : Opd) (x4 : Opd) (env : T AV) (h : Hp) : ev_appendZ P x0 x1 x2 x3 x4 env h = evalOp P (.appendZ x0 x1 x2 x3 x4) env h := by
  unfold ev_appendZ evalOp
  first | (simp only [evE_eq, appendSegF_eq]; done) | (simp only [evE_eq, appendSegF_eq]; rfl)

theorem ev_cap_eq (P : Program) (x0 : Opd) (env : T AV) (h : Hp) : ev_cap P x0 env h = evalOp P (.cap x0) env h := by
  unfold ev_cap evalOp
  first | (simp only [evE_eq]; done) | (simp only [evE_eq]; rfl)

theorem ev_copy_eq (P : Program) (x0 : Nat) (x1 : Opd) (x2 : Opd) (env : T AV) (h : Hp) : ev_copy P x0 x1 x2 env h = evalOp P (.copy x0 x1 x2) env h := by
  unfold ev_copy evalOp
  first | (simp only [evE_eq, copyAF_eq]; done) | (simp only [evE_eq, copyAF_eq]; rfl)

theorem ev_bmin_eq (P : Program) (x0 : Opd) (x1 : Opd) (env : T AV) (h : Hp) : ev_bmin P x0 x1 env h = evalOp P (.bmin x0 x1) env h := by
  unfold ev_bmin evalOp
  first | (simp only [evE_eq]; done) | (simp only [evE_eq]; rfl)

theorem ev_bmax_eq (P : Program) (x0 : Opd) (x1 : Opd) (env : T AV) (h : Hp) : ev_bmax P x0 x1 env h = evalOp P (.bmax x0 x1) env h := by
  unfold ev_bmax evalOp
  first | (simp only [evE_eq]; done) | (simp only [evE_eq]; rfl)

theorem ev_bad_eq (P : Program) (x0 : String) (env : T AV) (h : Hp) : ev_bad P x0 env h = evalOp P (.bad x0) env h := by
  rfl

theorem evalF_eq (P : Program) (o : AOp) (env : T AV) (h : Hp) : evalF P o env h = evalOp P o env h := by
  cases o with
  | mov x0 => exact ev_mov_eq P _ env h
  | pick x0 x1 x2 => exact ev_pick_eq P _ _ _ env h
  | new x0 => exact ev_new_eq P _ env h
  | newT x0 x1 => exact ev_newT_eq P _ _ env h
  | box x0 => exact ev_box_eq P _ env h
  | build x0 x1 => exact ev_build_eq P _ _ env h
  | buildSl x0 x1 x2 x3 => exact ev_buildSl_eq P _ _ _ _ env h
  | load1 x0 => exact ev_load1_eq P _ env h
  | loadN x0 x1 => exact ev_loadN_eq P _ _ env h
  | store x0 x1 x2 => exact ev_store_eq P _ _ _ env h
  | nilCheck x0 => exact ev_nilCheck_eq P _ env h
  | bin x0 x1 x2 x3 x4 => exact ev_bin_eq P _ _ _ _ _ env h
  | un x0 x1 => exact ev_un_eq P _ _ env h
  | convInt x0 x1 => exact ev_convInt_eq P _ _ env h
  | convStr x0 => exact ev_convStr_eq P _ env h
  | strBytes x0 => exact ev_strBytes_eq P _ env h
  | bytesStr x0 => exact ev_bytesStr_eq P _ env h
  | mkIfc x0 x1 => exact ev_mkIfc_eq P _ _ env h
  | mkFn x0 x1 x2 => exact ev_mkFn_eq P _ _ _ env h
  | mkMap => exact ev_mkMap_eq P  env h
  | mkSl x0 x1 x2 x3 x4 => exact ev_mkSl_eq P _ _ _ _ _ env h
  | sliceStr x0 x1 x2 => exact ev_sliceStr_eq P _ _ _ env h
  | sliceSl x0 x1 x2 x3 x4 => exact ev_sliceSl_eq P _ _ _ _ _ env h
  | sliceArr x0 x1 x2 x3 x4 x5 => exact ev_sliceArr_eq P _ _ _ _ _ _ env h
  | fieldAddr x0 x1 => exact ev_fieldAddr_eq P _ _ env h
  | part1 x0 x1 => exact ev_part1_eq P _ _ env h
  | partN x0 x1 x2 => exact ev_partN_eq P _ _ _ env h
  | idxAddrArr x0 x1 x2 x3 => exact ev_idxAddrArr_eq P _ _ _ _ env h
  | idxAddrSl x0 x1 x2 => exact ev_idxAddrSl_eq P _ _ _ env h
  | idxArr x0 x1 x2 x3 x4 => exact ev_idxArr_eq P _ _ _ _ _ env h
  | idxStr x0 x1 => exact ev_idxStr_eq P _ _ env h
  | lookup x0 x1 x2 x3 x4 => exact ev_lookup_eq P _ _ _ _ _ env h
  | update x0 x1 x2 x3 => exact ev_update_eq P _ _ _ _ env h
  | rangeStr x0 => exact ev_rangeStr_eq P _ env h
  | nextStr x0 => exact ev_nextStr_eq P _ env h
  | rangeMap x0 => exact ev_rangeMap_eq P _ env h
  | nextMap x0 => exact ev_nextMap_eq P _ env h
  | entry x0 => exact ev_entry_eq P _ env h
  | delete x0 x1 x2 => exact ev_delete_eq P _ _ _ env h
  | lenM x0 => exact ev_lenM_eq P _ env h
  | eqPtr x0 x1 x2 => exact ev_eqPtr_eq P _ _ _ env h
  | clearSl x0 x1 x2 => exact ev_clearSl_eq P _ _ _ env h
  | eqIfc x0 x1 x2 x3 => exact ev_eqIfc_eq P _ _ _ _ env h
  | toUnsafe x0 => exact ev_toUnsafe_eq P _ env h
  | fromUnsafe x0 x1 => exact ev_fromUnsafe_eq P _ _ env h
  | sliceData x0 => exact ev_sliceData_eq P _ env h
  | unsafeStr x0 x1 => exact ev_unsafeStr_eq P _ _ env h
  | ext x0 x1 => exact ev_ext_eq P _ _ env h
  | defer x0 x1 => exact ev_defer_eq P _ _ env h
  | recover => exact ev_recover_eq P  env h
  | panic x0 => exact ev_panic_eq P _ env h
  | loadG x0 => exact ev_loadG_eq P _ env h
  | assertT x0 x1 x2 x3 => exact ev_assertT_eq P _ _ _ _ env h
  | extract x0 x1 => exact ev_extract_eq P _ _ env h
  | call x0 x1 => exact ev_call_eq P _ _ env h
  | lenS x0 => exact ev_lenS_eq P _ env h
  | lenL x0 => exact ev_lenL_eq P _ env h
  | lenArr x0 => exact ev_lenArr_eq P _ env h
  | append x0 x1 x2 x3 => exact ev_append_eq P _ _ _ _ env h
  | appendZ x0 x1 x2 x3 x4 => exact ev_appendZ_eq P _ _ _ _ _ env h
  | cap x0 => exact ev_cap_eq P _ env h
  | copy x0 x1 x2 => exact ev_copy_eq P _ _ _ env h
  | bmin x0 x1 => exact ev_bmin_eq P _ _ env h
  | bmax x0 x1 => exact ev_bmax_eq P _ _ env h
  | bad x0 => exact ev_bad_eq P _ env h

noncomputable def kindOfF (o : AOp) : DK :=
  AOp.rec (motive := fun _ => DK)
    (fun _ => .still)
    (fun _ _ _ => .still)
    (fun _ => .alloc)
    (fun _ _ => .alloc)
    (fun _ => .alloc)
    (fun _ _ => .still)
    (fun _ _ _ _ => .alloc)
    (fun _ => .load)
    (fun _ _ => .load)
    (fun _ _ _ => .actor)
    (fun _ => .still)
    (fun _ _ _ _ _ => .still)
    (fun _ _ => .still)
    (fun _ _ => .still)
    (fun _ => .still)
    (fun _ => .alloc)
    (fun _ => .load)
    (fun _ _ => .still)
    (fun _ _ _ => .still)
    (.actor)
    (fun _ _ _ _ _ => .alloc)
    (fun _ _ _ => .still)
    (fun _ _ _ _ _ => .still)
    (fun _ _ _ _ _ _ => .load)
    (fun _ _ => .still)
    (fun _ _ => .still)
    (fun _ _ _ => .still)
    (fun _ _ _ _ => .still)
    (fun _ _ _ => .still)
    (fun _ _ _ _ _ => .still)
    (fun _ _ => .still)
    (fun _ _ _ _ _ => .load)
    (fun _ _ _ _ => .actor)
    (fun _ => .actor)
    (fun _ => .actor)
    (fun _ => .actor)
    (fun _ => .actor)
    (fun _ => .actor)
    (fun _ _ _ => .actor)
    (fun _ => .load)
    (fun _ _ _ => .load)
    (fun _ _ _ => .actor)
    (fun _ _ _ _ => .load)
    (fun _ => .actor)
    (fun _ _ => .actor)
    (fun _ => .actor)
    (fun _ _ => .actor)
    (fun _ _ => .actor)
    (fun _ _ => .actor)
    (.actor)
    (fun _ => .actor)
    (fun _ => .actor)
    (fun _ _ _ _ => .still)
    (fun _ _ => .still)
    (fun _ _ => .actor)
    (fun _ => .still)
    (fun _ => .still)
    (fun _ => .still)
    (fun _ _ _ _ => .actor)
    (fun _ _ _ _ _ => .actor)
    (fun _ => .still)
    (fun _ _ _ => .actor)
    (fun _ _ => .still)
    (fun _ _ => .still)
    (fun _ => .actor)
    o

theorem kindOfF_eq (o : AOp) : kindOfF o = kindOf o := by cases o <;> rfl

noncomputable def wantedAF (o : O) (env : T AV) : Bool :=
  match o.guard with
  | none => true
  | some (p, want) => match getV p env with
    | some (.bool b) => bif want then b else !b
    | _ => false

theorem wantedAF_eq (o : O) (env : T AV) : wantedAF o env = wantedA o env := by
  unfold wantedAF wantedA
  simp only [getV_eq]
  rfl

noncomputable def insKF (m : Nat) : List Al → T Blk → (T Blk → Out) → Out
  | [], t, k => k t
  | a :: l, t, k => bif bit m a.i then setB a.id (some a.b) t fun t => insKF m l t k else insKF m l t k

theorem insKF_eq (m : Nat) (k : T Blk → Out) : ∀ (l : List Al) (t : T Blk), insKF m l t k = insK m l t k
  | [], _ => rfl
  | a :: l, t => by unfold insKF insK; simp only [setB_eq, T.setK_eq, insKF_eq m k l]

noncomputable def insAllF : List Al → T Blk → (T Blk → Out) → Out
  | [], t, k => k t
  | a :: l, t, k => setB a.id (some a.b) t fun t => insAllF l t k

theorem insAllF_eq (k : T Blk → Out) : ∀ (l : List Al) (t : T Blk), insAllF l t k = insAll l t k
  | [], _ => rfl
  | a :: l, t => by unfold insAllF insAll; simp only [setB_eq, T.setK_eq, insAllF_eq k l]

noncomputable def setDstF (env : T AV) (d : Option Pos) (v : AV) (k : T AV → Out) : Out :=
  match d with
  | some d => setV d (some v) env k
  | none => k env

theorem setDstF_eq (env : T AV) (d : Option Pos) (v : AV) (k : T AV → Out) : setDstF env d v k = setDst env d v k := by
  cases d <;> simp only [setDstF, setDst, setV_eq, T.setK_eq]

noncomputable def lookBackF (P : Program) (op : AOp) (env : T AV) (v : AV) (m : Nat) : List Actor → Bool
  | [] => true
  | a :: l => (bit m a.i || (match evalF P op env a.h with | .val u _ => eqAV 8 v u | _ => false)) && lookBackF P op env v m l

noncomputable def lookAgainF (P : Program) (h : Hp) (m : Nat) : List Ld → Bool
  | [] => true
  | d :: l => (bit m d.i || (match evalF P d.op d.env h with | .val u _ => eqAV 8 d.v u | _ => false)) && lookAgainF P h m l

noncomputable def actKF (P : Program) (rec : St → Out) (op : AOp) (env : T AV) (h : Hp) (k pk : AV → Hp → Out) : Out :=
  match evalF P op env h with
  | .val v h => k v h
  | .enter f args h => tryMemo P rec f args (fun v => k v h) (actE P rec f args h k pk)
  | .round l args => (match beginRound h l args with
    | some fr => (match rec ⟨fr, [], h⟩ with
      | .done v h => k v h
      | .pan v h => pk v h
      | .many _ => .fail "drawn many"
      | .next _ => .fail "drawn fuel"
      | .fail why => .fail why)
    | none => .fail "drawn yield")
  | .defer _ _ => .fail "drawn defer"
  | .recover => .fail "drawn recover"
  | .panic _ => .fail "drawn panic"
  | .fork _ => .fail "drawn fork"
  | .fail why => .fail why

noncomputable def drawnGoF (P : Program) (rec : St → Out) (k : T AV → Hp → Out) (pk : AV → Hp → Out) : Nat → List Actor → List Ld → List Al → Pos → T AV → Hp → List O → Out
  | _, _, _, als, _, env, h, [] => insAllF als h.heap fun t => k env ⟨t, h.next, h.ser, h.lim⟩
  | i, acts, lds, als, rid, env, h, o :: rest =>
    match kindOfF o.op with
    | .still => bif wantedAF o env then (match evalF P o.op env h with
      | .val v _ => setDstF env o.dst v fun env => drawnGoF P rec k pk (i + 1) acts lds als rid env h rest
      | _ => .fail "drawn still") else setDstF env o.dst .undef fun env => drawnGoF P rec k pk (i + 1) acts lds als rid env h rest
    | .load => bif wantedAF o env then (match evalF P o.op env h with
      | .val v _ => bif lookBackF P o.op env v o.before acts then setDstF env o.dst v fun env2 => drawnGoF P rec k pk (i + 1) acts (⟨i, o.op, env, v⟩ :: lds) als rid env2 h rest else .fail "drawn a look back"
      | _ => .fail "drawn load") else setDstF env o.dst .undef fun env => drawnGoF P rec k pk (i + 1) acts lds als rid env h rest
    | .alloc => bif wantedAF o env then (match evalF P o.op env ⟨.e, rid, h.ser, rid.num + 1⟩ with
      | .val v h' => (match getB rid h'.heap with
        | some b => setDstF env o.dst v fun env => drawnGoF P rec k pk (i + 1) acts lds (⟨i, rid, b⟩ :: als) rid.succ env h rest
        | none => setDstF env o.dst v fun env => drawnGoF P rec k pk (i + 1) acts lds als rid.succ env h rest)
      | _ => .fail "drawn alloc") else setDstF env o.dst .undef fun env => drawnGoF P rec k pk (i + 1) acts lds als rid.succ env h rest
    | .actor => bif wantedAF o env then
        insKF o.before als h.heap fun t => actKF P rec o.op env ⟨t, h.next, h.ser, h.lim⟩ (fun v h' =>
          bif lookAgainF P h' o.before lds then setDstF env o.dst v fun env => drawnGoF P rec k pk (i + 1) (⟨i, h⟩ :: acts) lds (remAl o.before als) rid env h' rest else .fail "drawn a look again") (fun v h' => setDstF env o.dst .undef fun env => drawnRest P i h acts (pk v h') env rest)
      else setDstF env o.dst .undef fun env => drawnGoF P rec k pk (i + 1) acts lds als rid env h rest

theorem lookBackF_eq (P : Program) (op : AOp) (env : T AV) (v : AV) (m : Nat) : ∀ l, lookBackF P op env v m l = lookBack P op env v m l
  | [] => rfl
  | a :: l => by unfold lookBackF lookBack; rw [evalF_eq, lookBackF_eq P op env v m l]; rfl

theorem lookAgainF_eq (P : Program) (h : Hp) (m : Nat) : ∀ l, lookAgainF P h m l = lookAgain P h m l
  | [] => rfl
  | a :: l => by unfold lookAgainF lookAgain; rw [evalF_eq, lookAgainF_eq P h m l]; rfl

theorem actKF_eq (P : Program) (rec : St → Out) (op : AOp) (env : T AV) (h : Hp) (k pk : AV → Hp → Out) : actKF P rec op env h k pk = actK P rec op env h k pk := by
  unfold actKF actK
  rw [evalF_eq]; rfl

theorem drawnGoF_eq (P : Program) (rec : St → Out) (k : T AV → Hp → Out) (pk : AV → Hp → Out) : ∀ (l : List O) (i : Nat) (acts : List Actor) (lds : List Ld) (als : List Al) (rid : Pos) (env : T AV) (h : Hp), drawnGoF P rec k pk i acts lds als rid env h l = drawnGo P rec k pk i acts lds als rid env h l
  | [], _, _, _, als, _, _, _ => by unfold drawnGoF drawnGo; rw [insAllF_eq]
  | o :: l, i, acts, lds, als, rid, env, h => by
    unfold drawnGoF drawnGo
    simp only [evalF_eq, lookBackF_eq, lookAgainF_eq, actKF_eq, drawnGoF_eq P rec k pk l, kindOfF_eq, wantedAF_eq, insKF_eq, setDstF_eq, getB_eq]
    rfl


end Go.Proofs.YtialpccieggaoaaGreatDoor.Am
