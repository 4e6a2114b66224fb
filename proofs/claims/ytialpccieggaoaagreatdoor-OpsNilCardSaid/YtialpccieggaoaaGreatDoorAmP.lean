import Derived.Test.YtialpccieggaoaaGreatDoorAmO
/- THE ABSTRACT MACHINE, part P: a machine over values without block numbers, run by the kernel, and the proof that the model's machine does what it does. No condition. -/
set_option linter.unusedSimpArgs false
set_option linter.unusedVariables false
namespace Go.Proofs.YtialpccieggaoaaGreatDoor.Am

/-- An argument and its slot. -/
structure SA where
  p : Pos
  x : Opd

/-- A frame but for what is to be done and its variables, and what goes on where the loop does not. -/
structure Cx where
  fall : St → Out
  fn : FuncId
  defers : List AD
  dk : Bool
  round : Option Pos
  callers : List Fr

abbrev NX := List Item → Hp → Cx → T AV → Out

inductive I where
  | slow
  | movT (d : Pos) (p : Pos) (t : List Item)
  | movV (d : Pos) (v : AV) (t : List Item)
  | bin (d : Pos) (op : BinOp) (x : Opd) (y : Opd) (t : List Item)
  | load1 (d : Pos) (x : Opd) (t : List Item)
  | store1 (a : Opd) (x : Opd) (t : List Item)
  | idxArr (d : Pos) (len : Nat) (es : Nat) (x : Opd) (i : Opd) (t : List Item)
  | idxSl (d : Pos) (es : Nat) (x : Opd) (i : Opd) (t : List Item)
  | fld (d : Pos) (o : Nat) (x : Opd) (t : List Item)
  | pick (d : Pos) (c : Opd) (a : Opd) (b : Opd) (t : List Item)
  | conv (d : Pos) (k : IntKind) (x : Opd) (t : List Item)
  | not (d : Pos) (x : Opd) (t : List Item)
  | lenL (d : Pos) (x : Opd) (t : List Item)
  | lenS (d : Pos) (x : Opd) (t : List Item)
  | ext (d : Pos) (x : Opd) (i : Nat) (t : List Item)
  | part (d : Pos) (o : Nat) (x : Opd) (t : List Item)
  | nilc (d : Pos) (x : Opd) (t : List Item)
  | idxStr (d : Pos) (x : Opd) (i : Opd) (t : List Item)
  | new (d : Pos) (s : Nat) (c : Cells) (t : List Item)
  | box (d : Pos) (x : Opd) (t : List Item)
  | grd (p : Pos) (w : Bool) (d : Option Pos) (skip : List Item) (i : I)
  | cond (x : Opd) (a : List Item) (b : List Item)
  | call (tdn : List Item) (f : FuncId) (body : C) (args : List SA)
  | ret (P : Program)

noncomputable def fallT (x : Cx) : List Item → Hp → T AV → Out :=
  Cx.rec (motive := fun _ => List Item → Hp → T AV → Out)
    (fun fall fn defers dk round callers td h env => fall ⟨⟨fn, env, td, defers, .run, dk, round⟩, callers, h⟩) x

noncomputable def outV (d : Pos) (env : T AV) (k : T AV → Out) (v : AV) : Out := setV d (some v) env k

noncomputable def outN (d : Pos) (env : T AV) (t : List Item) (nx : NX) (cx : Cx) (v : AV) (h : Hp) : Out := setV d (some v) env (nx t h cx)

noncomputable def outS (t : List Item) (nx : NX) (cx : Cx) (env : T AV) (h : Hp) : Out := nx t h cx env

noncomputable def putG (x : Option AV) : Pos → T AV → (T AV → Out) → Out :=
  Option.rec (motive := fun _ => Pos → T AV → (T AV → Out) → Out)
    (fun d env k => setV d (some .undef) env k)
    (fun v d env k => setV d (some v) env k) x

noncomputable def putX (x : Opd) : T AV → Pos → T AV → (T AV → Out) → Out :=
  Opd.rec (motive := fun _ => T AV → Pos → T AV → (T AV → Out) → Out)
    (fun p env0 d env k => putG (getV p env0) d env k)
    (fun v _ d env k => setV d (some v) env k) x

noncomputable def wbT (x : Bool) : Bool → Out → Out → Out :=
  Bool.rec (motive := fun _ => Bool → Out → Out → Out)
    (fun b run skip => ifT b run skip)
    (fun b run skip => ifT b skip run) x

noncomputable def grdV (x : AV) : Bool → Out → Out → Out :=
  AV.rec (motive_1 := fun _ => Bool → Out → Out → Out) (motive_2 := fun _ => Unit)
    (fun b w run skip => wbT w b run skip)
    (fun _ _ _ _ skip => skip)
    (fun _ _ _ _ skip => skip)
    (fun _ _ _ _ _ skip => skip)
    (fun _ _ skip => skip)
    (fun _ _ _ _ _ _ _ _ _ skip => skip)
    (fun _ _ skip => skip)
    (fun _ _ _ skip => skip)
    (fun _ _ skip => skip)
    (fun _ _ _ _ _ _ _ skip => skip)
    (fun _ _ _ skip => skip)
    (fun _ _ skip => skip)
    (fun _ _ _ _ _ skip => skip)
    (fun _ _ skip => skip)
    (fun _ _ _ _ skip => skip)
    (fun _ _ _ _ skip => skip)
    (fun _ _ skip => skip)
    (fun _ _ _ _ skip => skip)
    ()
    (fun _ _ _ _ => ()) x

noncomputable def grdT (x : Option AV) : Bool → Out → Out → Out :=
  Option.rec (motive := fun _ => Bool → Out → Out → Out)
    (fun _ _ skip => skip)
    (fun v w run skip => grdV v w run skip) x

noncomputable def skipT (x : Option Pos) : List Item → NX → Hp → Cx → T AV → Out :=
  Option.rec (motive := fun _ => List Item → NX → Hp → Cx → T AV → Out)
    (fun t nx h cx env => nx t h cx env)
    (fun d t nx h cx env => setV d (some .undef) env (nx t h cx)) x

noncomputable def argT (x : List SA) : T AV → (T AV → Out) → T AV → Out :=
  List.rec (motive := fun _ => T AV → (T AV → Out) → T AV → Out)
    (fun _ k env2 => k env2)
    (fun a _ ih env k env2 => SA.rec (motive := fun _ => (T AV → (T AV → Out) → T AV → Out) → T AV → (T AV → Out) → T AV → Out) (fun p x ih env k env2 => putX x env p env2 (ih env k)) a ih env k env2) x

noncomputable def pushC (x : Cx) : List Item → FuncId → T AV → (Cx → Out) → Out :=
  Cx.rec (motive := fun _ => List Item → FuncId → T AV → (Cx → Out) → Out)
    (fun fall fn defers dk round callers tdn f env k => k ⟨fall, f, [], false, none, ⟨fn, env, tdn, defers, .run, dk, round⟩ :: callers⟩) x

noncomputable def callC (t : List Item) (nx : NX) (h : Hp) (env2 : T AV) (cx : Cx) : Out := nx t h cx env2

noncomputable def callK (tdn : List Item) (f : FuncId) (body : C) (nx : NX) (h : Hp) (cx : Cx) (env env2 : T AV) : Out := pushC cx tdn f env (callC [.code body] nx h env2)

noncomputable def resOf (P : Program) (f : FuncId) : Option (List RV) :=
  match compFn P f with
  | some fu => some fu.results
  | none => none

noncomputable def consT (k : List AV → Out) (l : List AV) (v : AV) : Out := k (v :: l)

noncomputable def valT1 (x : RV) : T AV → Hp → Out → (AV → Out) → Out :=
  RV.rec (motive := fun _ => T AV → Hp → Out → (AV → Out) → Out)
    (fun p env _ no ok => Option.rec (motive := fun _ => (AV → Out) → Out) (fun _ => no) (fun v ok => ok v) (getV p env) ok)
    (fun p env h no ok => loadT (evM (.tmp p) env) h no ok)
    (fun _ _ _ _ no _ => no) x

noncomputable def restT (ih : T AV → Hp → Out → (List AV → Out) → Out) (env : T AV) (h : Hp) (no : Out) (k : List AV → Out) (v : AV) : Out := ih env h no (fun l => k (v :: l))

noncomputable def valsT (x : List RV) : T AV → Hp → Out → (List AV → Out) → Out :=
  List.rec (motive := fun _ => T AV → Hp → Out → (List AV → Out) → Out)
    (fun _ _ _ k => k [])
    (fun r _ ih env h no k => valT1 r env h no (restT ih env h no k)) x

noncomputable def tup2 (x : List AV) : AV → (AV → Out) → Out :=
  List.rec (motive := fun _ => AV → (AV → Out) → Out)
    (fun v ok => ok v)
    (fun x l _ v ok => ok (.tup (v :: x :: l))) x

noncomputable def tupT (x : List AV) : (AV → Out) → Out :=
  List.rec (motive := fun _ => (AV → Out) → Out)
    (fun ok => ok (.tup []))
    (fun x l _ ok => tup2 l x ok) x

noncomputable def giveD (x : Option Pos) : T AV → (T AV → Out) → AV → Out :=
  Option.rec (motive := fun _ => T AV → (T AV → Out) → AV → Out)
    (fun env k _ => k env)
    (fun d env k v => setV d (some v) env k) x

noncomputable def giveO (x : O) : T AV → (T AV → Out) → Out → AV → Out :=
  O.rec (motive := fun _ => T AV → (T AV → Out) → Out → AV → Out)
    (fun dst _ _ ok _ env k no v => ifT ok no (giveD dst env k v)) x

noncomputable def giveL (x : List O) : List Item → NX → Hp → Cx → T AV → Out → AV → Out :=
  List.rec (motive := fun _ => List Item → NX → Hp → Cx → T AV → Out → AV → Out)
    (fun _ _ _ _ _ no _ => no)
    (fun o rest _ td nx h cx env no v => giveO o env (nx (.ops rest :: td) h cx) no v) x

noncomputable def giveI (x : Item) : List Item → NX → Hp → Cx → T AV → Out → AV → Out :=
  Item.rec (motive := fun _ => List Item → NX → Hp → Cx → T AV → Out → AV → Out)
    (fun _ _ _ _ _ _ no _ => no)
    (fun _ _ _ _ _ _ no _ => no)
    (fun _ _ _ _ _ _ no _ => no)
    (fun _ _ _ _ _ _ no _ => no)
    (fun l td nx h cx env no v => giveL l td nx h cx env no v)
    (fun _ _ _ _ _ no _ => no)
    (fun _ _ _ _ _ _ no _ => no)
    (fun _ _ _ _ _ _ no _ => no) x

noncomputable def giveT (x : List Item) : NX → Hp → Cx → T AV → Out → AV → Out :=
  List.rec (motive := fun _ => NX → Hp → Cx → T AV → Out → AV → Out)
    (fun _ _ _ _ no _ => no)
    (fun x td _ nx h cx env no v => giveI x td nx h cx env no v) x

noncomputable def runMd (x : Md) : Out → Out → Out :=
  Md.rec (motive := fun _ => Out → Out → Out)
    (fun _ yes => yes)
    (fun no _ => no)
    (fun _ _ no _ => no) x

noncomputable def giveF (x : Fr) : (St → Out) → List Fr → NX → Hp → Out → AV → Out :=
  Fr.rec (motive := fun _ => (St → Out) → List Fr → NX → Hp → Out → AV → Out)
    (fun fn env todo defers mode dk round fall cs nx h no v => runMd mode no (giveT todo nx h ⟨fall, fn, defers, dk, round, cs⟩ env no v)) x

noncomputable def resT (x : Option (List RV)) : T AV → Hp → Out → (List AV → Out) → Out :=
  Option.rec (motive := fun _ => T AV → Hp → Out → (List AV → Out) → Out)
    (fun _ _ no _ => no)
    (fun l env h no k => valsT l env h no k) x

noncomputable def isNo (x : Option Pos) : Out → Out → Out :=
  Option.rec (motive := fun _ => Out → Out → Out)
    (fun _ yes => yes)
    (fun _ no _ => no) x

noncomputable def isNil (x : List AD) : Out → Out → Out :=
  List.rec (motive := fun _ => Out → Out → Out)
    (fun _ yes => yes)
    (fun _ _ _ no _ => no) x

noncomputable def tupK (ok : AV → Out) (l : List AV) : Out := tupT l ok

noncomputable def doneT (h : Hp) (v : AV) : Out := .done v h

noncomputable def retF (x : List Fr) : (St → Out) → FuncId → Program → NX → Hp → T AV → Out → Out :=
  List.rec (motive := fun _ => (St → Out) → FuncId → Program → NX → Hp → T AV → Out → Out)
    (fun _ fn P _ h env no => resT (resOf P fn) env h no (tupK (doneT h)))
    (fun c cs _ fall fn P nx h env no => resT (resOf P fn) env h no (tupK (giveF c fall cs nx h no))) x

noncomputable def retC (x : Cx) : Program → NX → Hp → T AV → Out → Out :=
  Cx.rec (motive := fun _ => Program → NX → Hp → T AV → Out → Out)
    (fun fall fn defers dk round callers P nx h env no => isNo round no (isNil defers no (notT dk no (retF callers fall fn P nx h env no)))) x

noncomputable def boxT (x : AV) : Hp → Out → (AV → Hp → Out) → Out :=
  AV.rec (motive_1 := fun _ => Hp → Out → (AV → Hp → Out) → Out) (motive_2 := fun _ => Unit)
    (fun b h _ ok => newT 0 (Cells.ofL [.bool b]) h ok)
    (fun k n h _ ok => newT 0 (Cells.ofL [.int k n]) h ok)
    (fun n v h _ ok => newT 0 (Cells.ofL [.str n v]) h ok)
    (fun id g off h _ ok => newT 0 (Cells.ofL [.ptr id g off]) h ok)
    (fun h _ ok => newT 0 (Cells.ofL [.nilPtr]) h ok)
    (fun id g off len cap ex es h _ ok => newT 0 (Cells.ofL [.sl id g off len cap ex es]) h ok)
    (fun h _ ok => newT 0 (Cells.ofL [.nilSl]) h ok)
    (fun id h _ ok => newT 0 (Cells.ofL [.map id]) h ok)
    (fun h _ ok => newT 0 (Cells.ofL [.nilMap]) h ok)
    (fun f first captured _ _ h _ ok => newT 0 (Cells.ofL [.fn f first captured]) h ok)
    (fun id h _ ok => newT 0 (Cells.ofL [.yield id]) h ok)
    (fun h _ ok => newT 0 (Cells.ofL [.nilFn]) h ok)
    (fun t v _ h _ ok => newT 0 (Cells.ofL [.ifc t v]) h ok)
    (fun h _ ok => newT 0 (Cells.ofL [.nilIfc]) h ok)
    (fun l _ h _ ok => newT 0 (Cells.ofL l) h ok)
    (fun _ _ _ no _ => no)
    (fun _ no _ => no)
    (fun _ _ _ no _ => no)
    ()
    (fun _ _ _ _ => ()) x

noncomputable def goI (x : I) : List Item → NX → Hp → Cx → T AV → Out :=
  I.rec (motive := fun _ => List Item → NX → Hp → Cx → T AV → Out)
    (fun td _ h cx env => fallT cx td h env)
    (fun d p t _ nx h cx env => putG (getV p env) d env (nx t h cx))
    (fun d v t _ nx h cx env => setV d (some v) env (nx t h cx))
    (fun d op x y t td nx h cx env => binT (evM x env) (evM y env) op (fallT cx td h env) (outV d env (nx t h cx)))
    (fun d x t td nx h cx env => loadT (evM x env) h (fallT cx td h env) (outV d env (nx t h cx)))
    (fun a x t td nx h cx env => storeT (evM a env) (evM x env) h (fallT cx td h env) (outS t nx cx env))
    (fun d len es x i t td nx h cx env => idxArrT (evM x env) (evM i env) len es (fallT cx td h env) (outV d env (nx t h cx)))
    (fun d es x i t td nx h cx env => idxSlT (evM x env) (evM i env) es (fallT cx td h env) (outV d env (nx t h cx)))
    (fun d o x t td nx h cx env => fldT (evM x env) o (fallT cx td h env) (outV d env (nx t h cx)))
    (fun d c a b t td nx h cx env => ifV (evM c env) (fallT cx td h env) (putX a env d env (nx t h cx)) (putX b env d env (nx t h cx)))
    (fun d k x t td nx h cx env => convT (evM x env) k (fallT cx td h env) (outV d env (nx t h cx)))
    (fun d x t td nx h cx env => notV (evM x env) (fallT cx td h env) (outV d env (nx t h cx)))
    (fun d x t td nx h cx env => lenLT (evM x env) (fallT cx td h env) (outV d env (nx t h cx)))
    (fun d x t td nx h cx env => lenST (evM x env) (fallT cx td h env) (outV d env (nx t h cx)))
    (fun d x i t td nx h cx env => extT (evM x env) i (fallT cx td h env) (outV d env (nx t h cx)))
    (fun d o x t td nx h cx env => partT (evM x env) o (fallT cx td h env) (outV d env (nx t h cx)))
    (fun d x t td nx h cx env => nilcT (evM x env) (fallT cx td h env) (outV d env (nx t h cx)))
    (fun d x i t td nx h cx env => idxST (evM x env) (evM i env) (fallT cx td h env) (outV d env (nx t h cx)))
    (fun d s c t _ nx h cx env => newT s c h (outN d env t nx cx))
    (fun d x t td nx h cx env => boxT (evM x env) h (fallT cx td h env) (outN d env t nx cx))
    (fun p w d skip _ ih td nx h cx env => grdT (getV p env) w (ih td nx h cx env) (skipT d skip nx h cx env))
    (fun x a b td nx h cx env => ifV (evM x env) (fallT cx td h env) (nx a h cx env) (nx b h cx env))
    (fun tdn f body args _ nx h cx env => argT args env (callK tdn f body nx h cx env) .e)
    (fun P td nx h cx env => retC cx P nx h env (fallT cx td h env)) x

noncomputable def normC (x : C) : List Item → (List Item → List Item) → List Item :=
  C.rec (motive := fun _ => List Item → (List Item → List Item) → List Item)
    (fun k go => go k)
    (fun ops k go => go (.ops ops :: k))
    (fun ops k _ => .code (.drawn ops) :: k)
    (fun a b _ _ k go => go (.code a :: .code b :: k))
    (fun c a b _ _ k _ => .code (.cond c a b) :: k)
    (fun id b _ k go => go (.code b :: .inBlock id :: k))
    (fun b _ k go => go (.code b :: .inLoop b :: k))
    (fun f params assign body _ _ k _ => .code (.rangeFunc f params assign body) :: k)
    (fun id k go => Option.rec (motive := fun _ => Nat → List Item → (List Item → List Item) → List Item) (fun id k _ => .code (.exit id) :: k) (fun k2 _ _ go => go k2) (exitA id k) id k go)
    (fun b _ k go => go (.code b :: .inScope b :: k))
    (fun _ k go => go k)
    (fun l k _ => .code (.goto l) :: k)
    (fun k _ => .code .ret :: k)
    (fun why k _ => .code (.bad why) :: k) x

noncomputable def normI (x : Item) : List Item → (List Item → List Item) → List Item :=
  Item.rec (motive := fun _ => List Item → (List Item → List Item) → List Item)
    (fun c k go => normC c k go)
    (fun _ k go => go k)
    (fun b k go => go (.code b :: .inLoop b :: k))
    (fun _ k go => go k)
    (fun l k go => List.rec (motive := fun _ => List Item → (List Item → List Item) → List Item) (fun k go => go k) (fun o l _ k _ => .ops (o :: l) :: k) l k go)
    (fun k _ => .beginRound :: k)
    (fun l k _ => .inRange l :: k)
    (fun l k _ => .endRange l :: k) x

noncomputable def normL (x : List Item) : (List Item → List Item) → List Item :=
  List.rec (motive := fun _ => (List Item → List Item) → List Item)
    (fun _ => [])
    (fun x k _ go => normI x k go) x

noncomputable def norm (n : Nat) : List Item → List Item := Nat.rec (motive := fun _ => List Item → List Item) (fun td => td) (fun _ ih td => normL td ih) n

noncomputable def slotArgs : Nat → List Opd → List SA
  | _, [] => []
  | i, x :: l => ⟨Pos.ofNat i, x⟩ :: slotArgs (i + 1) l

/-- A call of a function whose body is there. -/
noncomputable def instCall (P : Program) (tdn : List Item) (args : List Opd) (f : Opd) : I :=
  match f with
  | .val (.fn (.func f) first captured) => bif specAt f then .slow else (match P.funcs[f]? with
    | some fn => (match fn.body with
      | some _ => bif fn.name == "runtime.NumGoroutine" then .slow else (match compFn P f with
        | some fu => bif Nat.ble (first.length + (args.length + captured.length)) fu.nargs then .call tdn f fu.body (slotArgs 0 (first.map .val ++ (args ++ captured.map .val))) else .slow
        | none => .slow)
      | none => .slow)
    | none => .slow)
  | _ => .slow

noncomputable def inst1 (x : AOp) : Program → Option Pos → List Item → List Item → I :=
  AOp.rec (motive := fun _ => Program → Option Pos → List Item → List Item → I)
    (fun x _ dst _ t => Option.rec (motive := fun _ => I) .slow (fun d => Opd.rec (motive := fun _ => Pos → List Item → I) (fun p d t => .movT d p t) (fun v d t => .movV d v t) x d t) dst)
    (fun c a b _ dst _ t => Option.rec (motive := fun _ => I) .slow (fun d => .pick d c a b t) dst)
    (fun cells _ dst _ t => Option.rec (motive := fun _ => I) .slow (fun d => .new d 0 (Cells.ofL cells) t) dst)
    (fun u cells _ dst _ t => Option.rec (motive := fun _ => I) .slow (fun d => .new d (Nat.succ (Nat.succ u)) (Cells.ofL cells) t) dst)
    (fun x _ dst _ t => Option.rec (motive := fun _ => I) .slow (fun d => .box d x t) dst)
    (fun _ _ _ _ _ _ => .slow)
    (fun _ _ _ _ _ _ _ _ => .slow)
    (fun a _ dst _ t => Option.rec (motive := fun _ => I) .slow (fun d => .load1 d a t) dst)
    (fun _ _ _ _ _ _ => .slow)
    (fun n a x _ dst _ t => Bool.rec (motive := fun _ => I) .slow (Option.rec (motive := fun _ => I) (.store1 a x t) (fun _ => .slow) dst) (Nat.beq n 1))
    (fun x _ dst _ t => Option.rec (motive := fun _ => I) .slow (fun d => .nilc d x t) dst)
    (fun op _ _ x y _ dst _ t => Option.rec (motive := fun _ => I) .slow (fun d => .bin d op x y t) dst)
    (fun op x _ dst _ t => Option.rec (motive := fun _ => I) .slow (fun d => (match op with | .not => .not d x t | _ => .slow)) dst)
    (fun k x _ dst _ t => Option.rec (motive := fun _ => I) .slow (fun d => .conv d k x t) dst)
    (fun _ _ _ _ _ => .slow)
    (fun _ _ _ _ _ => .slow)
    (fun _ _ _ _ _ => .slow)
    (fun _ _ _ _ _ _ => .slow)
    (fun _ _ _ _ _ _ _ => .slow)
    (fun _ _ _ _ => .slow)
    (fun _ _ _ _ _ _ _ _ _ => .slow)
    (fun _ _ _ _ _ _ _ => .slow)
    (fun _ _ _ _ _ _ _ _ _ => .slow)
    (fun _ _ _ _ _ _ _ _ _ _ => .slow)
    (fun off x _ dst _ t => Option.rec (motive := fun _ => I) .slow (fun d => .fld d off x t) dst)
    (fun off x _ dst _ t => Option.rec (motive := fun _ => I) .slow (fun d => .part d off x t) dst)
    (fun _ _ _ _ _ _ _ => .slow)
    (fun len es x i _ dst _ t => Option.rec (motive := fun _ => I) .slow (fun d => .idxArr d len es x i t) dst)
    (fun es x i _ dst _ t => Option.rec (motive := fun _ => I) .slow (fun d => .idxSl d es x i t) dst)
    (fun _ _ _ _ _ _ _ _ _ => .slow)
    (fun x i _ dst _ t => Option.rec (motive := fun _ => I) .slow (fun d => .idxStr d x i t) dst)
    (fun _ _ _ _ _ _ _ _ _ => .slow)
    (fun _ _ _ _ _ _ _ _ => .slow)
    (fun _ _ _ _ _ => .slow)
    (fun _ _ _ _ _ => .slow)
    (fun _ _ _ _ _ => .slow)
    (fun _ _ _ _ _ => .slow)
    (fun _ _ _ _ _ => .slow)
    (fun _ _ _ _ _ _ _ => .slow)
    (fun _ _ _ _ _ => .slow)
    (fun _ _ _ _ _ _ _ => .slow)
    (fun _ _ _ _ _ _ _ => .slow)
    (fun _ _ _ _ _ _ _ _ => .slow)
    (fun _ _ _ _ _ => .slow)
    (fun _ _ _ _ _ _ => .slow)
    (fun _ _ _ _ _ => .slow)
    (fun _ _ _ _ _ _ => .slow)
    (fun _ _ _ _ _ _ => .slow)
    (fun _ _ _ _ _ _ => .slow)
    (fun _ _ _ _ => .slow)
    (fun _ _ _ _ _ => .slow)
    (fun _ _ _ _ _ => .slow)
    (fun _ _ _ _ _ _ _ _ => .slow)
    (fun x i _ dst _ t => Option.rec (motive := fun _ => I) .slow (fun d => .ext d x i t) dst)
    (fun c args P _ tdn _ => Cl.rec (motive := fun _ => I) (fun f => instCall P tdn args f) (fun _ _ => .slow) c)
    (fun x _ dst _ t => Option.rec (motive := fun _ => I) .slow (fun d => .lenS d x t) dst)
    (fun x _ dst _ t => Option.rec (motive := fun _ => I) .slow (fun d => .lenL d x t) dst)
    (fun _ _ _ _ _ => .slow)
    (fun _ _ _ _ _ _ _ _ => .slow)
    (fun _ _ _ _ _ _ _ _ _ => .slow)
    (fun _ _ _ _ _ => .slow)
    (fun _ _ _ _ _ _ _ => .slow)
    (fun _ _ _ _ _ _ => .slow)
    (fun _ _ _ _ _ _ => .slow)
    (fun _ _ _ _ _ => .slow) x

noncomputable def inst (x : O) : Program → List O → List Item → I :=
  O.rec (motive := fun _ => Program → List O → List Item → I)
    (fun dst guard op ok before P rest k => Bool.rec (motive := fun _ => I) .slow (Option.rec (motive := fun _ => I) (inst1 op P dst (.ops (⟨dst, guard, op, ok, before⟩ :: rest) :: k) (.ops rest :: k)) (fun g => .grd g.1 g.2 dst (.ops rest :: k) (inst1 op P dst (.ops (⟨dst, guard, op, ok, before⟩ :: rest) :: k) (.ops rest :: k))) guard) ok) x

noncomputable def progC (x : C) : Program → List Item → I :=
  C.rec (motive := fun _ => Program → List Item → I)
    (fun _ _ => .slow)
    (fun _ _ _ => .slow)
    (fun _ _ _ => .slow)
    (fun _ _ _ _ _ _ => .slow)
    (fun c a b _ _ _ k => .cond c (.code a :: k) (.code b :: k))
    (fun _ _ _ _ _ => .slow)
    (fun _ _ _ _ => .slow)
    (fun _ _ _ _ _ _ _ _ => .slow)
    (fun _ _ _ => .slow)
    (fun _ _ _ _ => .slow)
    (fun _ _ _ => .slow)
    (fun _ _ _ => .slow)
    (fun P _ => .ret P)
    (fun _ _ _ => .slow) x

noncomputable def progI (x : Item) : Program → List Item → I :=
  Item.rec (motive := fun _ => Program → List Item → I)
    (fun c P k => progC c P k)
    (fun _ _ _ => .slow)
    (fun _ _ _ => .slow)
    (fun _ _ _ => .slow)
    (fun l P k => List.rec (motive := fun _ => I) .slow (fun o rest _ => inst o P rest k) l)
    (fun _ _ => .slow)
    (fun _ _ _ => .slow)
    (fun _ _ _ => .slow) x

noncomputable def progL (x : List Item) : Program → I :=
  List.rec (motive := fun _ => Program → I)
    (fun _ => .slow)
    (fun x k _ P => progI x P k) x

noncomputable def fuelT : Nat := 100000000

noncomputable def goN (td : List Item) (P : Program) (ih : NX) (h : Hp) (cx : Cx) (env : T AV) : Out := goI (progL td P) td ih h cx env

noncomputable def goT (P : Program) (n : Nat) : NX :=
  Nat.rec (motive := fun _ => NX) (fun td h cx env => fallT cx td h env) (fun _ ih td h cx env => goN (norm 200 td) P ih h cx env) n

noncomputable def stepT (P : Program) (rec : St → Out) (s : St) : Out :=
  St.rec (motive := fun _ => Program → (St → Out) → Out) (fun cur callers hp P rec =>
    Fr.rec (motive := fun _ => List Fr → Hp → Program → (St → Out) → Out) (fun fn env todo defers mode dk round callers hp P rec =>
      Md.rec (motive := fun _ => FuncId → T AV → List Item → List AD → Bool → Option Pos → List Fr → Hp → Program → (St → Out) → Out)
        (fun fn env todo defers dk round callers hp P rec => goT P fuelT todo hp ⟨stepF P rec, fn, defers, dk, round, callers⟩ env)
        (fun fn env todo defers dk round callers hp P rec => stepF P rec ⟨⟨fn, env, todo, defers, .ret, dk, round⟩, callers, hp⟩)
        (fun v r fn env todo defers dk round callers hp P rec => stepF P rec ⟨⟨fn, env, todo, defers, .pan v r, dk, round⟩, callers, hp⟩)
        mode fn env todo defers dk round callers hp P rec) cur callers hp P rec) s P rec

/-- Steps, until there is an answer. -/
noncomputable def loopT (st : St → Out) (n : Nat) : St → Out :=
  Nat.rec (motive := fun _ => St → Out) st (fun _ ih s => Out.rec (motive := fun _ => (St → Out) → Out) (fun s ih => ih s) (fun v h _ => .done v h) (fun l _ => .many l) (fun v h _ => .pan v h) (fun why _ => .fail why) (st s) ih) n

noncomputable def runT (P : Program) : Nat → St → Out
  | 0, _ => .fail "depth"
  | d + 1, s => loopT (stepT P (runT P d)) fuelT s

end Go.Proofs.YtialpccieggaoaaGreatDoor.Am

namespace Go.Proofs.YtialpccieggaoaaGreatDoor.Am
open Go.RowKit

/-- A state of a frame that runs. -/
def sOf (cx : Cx) (td : List Item) (env : T AV) (h : Hp) : St := ⟨⟨cx.fn, env, td, cx.defers, .run, cx.dk, cx.round⟩, cx.callers, h⟩

/-- What is answered of a state is what the model does. -/
def Ans (P : Program) (s : St) (r : Out) : Prop :=
  ∀ (φ : Phi) (w : World) (g : Frame) (cs c0 : List Frame), HR P φ s.hp w → s.hp.lim = 0 → FrR P φ s.cur g → FrsR P φ s.callers cs → OutR P c0 φ s g cs w r

def GoodN (P : Program) (nx : NX) : Prop := ∀ (td : List Item) (h : Hp) (cx : Cx) (env : T AV), Sounds P cx.fall → Ans P (sOf cx td env h) (nx td h cx env)

theorem Ans.step {P : Program} {rec : St → Out} (hrec : Sound P rec) {s s' : St} {r : Out} (e : step P rec s = .next s') (h : Ans P s' r) : Ans P s r :=
  fun _ _ _ _ c0 hR hz hF hC => chain hrec hR hz hF hC e fun φ' w' g' cs' a b c d => h φ' w' g' cs' c0 a b c d

theorem ans_last {P : Program} {rec : St → Out} (hrec : Sound P rec) {s : St} {r : Out} (e : step P rec s = r) : Ans P s r :=
  fun φ w g cs c0 hR hz hF hC => by rw [← e]; exact step_sound hrec hR hz hF hC

theorem fallT_eq (cx : Cx) (td : List Item) (h : Hp) (env : T AV) : fallT cx td h env = cx.fall (sOf cx td env h) := by cases cx; rfl

theorem fall_ans {P : Program} {cx : Cx} {td : List Item} {h : Hp} {env : T AV} (hf : Sounds P cx.fall) : Ans P (sOf cx td env h) (fallT cx td h env) := by
  rw [fallT_eq]
  exact fun φ w g cs c0 a b c d => hf _ φ w g cs c0 a b c d

def Ctl1 (td td' : List Item) : Prop := ∀ (P : Program) (rec : St → Out) (cx : Cx) (env : T AV) (h : Hp), step P rec (sOf cx td env h) = .next (sOf cx td' env h)

inductive Ctl : List Item → List Item → Prop where
  | refl (td : List Item) : Ctl td td
  | more {td td' td'' : List Item} (h : Ctl1 td td') (t : Ctl td' td'') : Ctl td td''

theorem Ctl.ans {P : Program} {rec : St → Out} (hrec : Sound P rec) {cx : Cx} {env : T AV} {h : Hp} {r : Out} {td td' : List Item} (c : Ctl td td') : Ans P (sOf cx td' env h) r → Ans P (sOf cx td env h) r := by
  induction c with
  | refl => exact id
  | more h1 _ ih => exact fun q => Ans.step hrec (h1 P rec _ _ _) (ih q)

theorem normC_ctl {go : List Item → List Item} (hg : ∀ td, Ctl td (go td)) (c : C) (k : List Item) : Ctl (.code c :: k) (normC c k go) := by
  cases c with
  | skip => exact .more (fun _ _ _ _ _ => rfl) (hg _)
  | label l => exact .more (fun _ _ _ _ _ => rfl) (hg _)
  | seq a b => exact .more (fun _ _ _ _ _ => rfl) (hg _)
  | block id b => exact .more (fun _ _ _ _ _ => rfl) (hg _)
  | loop b => exact .more (fun _ _ _ _ _ => rfl) (hg _)
  | scope b => exact .more (fun _ _ _ _ _ => rfl) (hg _)
  | region l => exact .more (fun _ _ _ _ _ => rfl) (hg _)
  | exit id =>
    show Ctl _ (Option.rec (motive := fun _ => Nat → List Item → (List Item → List Item) → List Item) (fun id k _ => .code (.exit id) :: k) (fun k2 _ _ go => go k2) (exitA id k) id k go)
    cases e : exitA id k with
    | none => exact .refl _
    | some k2 => exact .more (fun P rec cx env h => by unfold step; simp only [sOf, e]) (hg _)
  | drawn _ => exact .refl _
  | cond _ _ _ => exact .refl _
  | rangeFunc _ _ _ _ => exact .refl _
  | goto _ => exact .refl _
  | ret => exact .refl _
  | bad _ => exact .refl _

theorem normI_ctl {go : List Item → List Item} (hg : ∀ td, Ctl td (go td)) (x : Item) (k : List Item) : Ctl (x :: k) (normI x k go) := by
  cases x with
  | code c => exact normC_ctl hg c k
  | inBlock id => exact .more (fun _ _ _ _ _ => rfl) (hg _)
  | inScope b => exact .more (fun _ _ _ _ _ => rfl) (hg _)
  | inLoop b => exact .more (fun _ _ _ _ _ => rfl) (hg _)
  | ops l => cases l with
    | nil => exact .more (fun _ _ _ _ _ => rfl) (hg _)
    | cons o l => exact .refl _
  | beginRound => exact .refl _
  | inRange l => exact .refl _
  | endRange l => exact .refl _

theorem norm_ctl : ∀ (n : Nat) (td : List Item), Ctl td (norm n td)
  | 0, td => .refl td
  | _ + 1, [] => .refl []
  | n + 1, x :: k => normI_ctl (go := norm n) (norm_ctl n) x k

theorem op_step {P : Program} {rec : St → Out} {cx : Cx} {o : O} {rest : List O} {k : List Item} {env : T AV} {h h' : Hp} {v : AV} (ho : o.ok = true) (hw : wantedA o env = true) (he : evalOp P o.op env h = .val v h') :
    step P rec (sOf cx (.ops (o :: rest) :: k) env h) = .next (sOf cx (.ops rest :: k) (setD env o.dst v) h') := by
  unfold step
  simp only [sOf, ho, hw, he, Bool.not_true, cond_false, cond_true, applyJ, apply, give]
  cases o.dst with
  | none => rfl
  | some d => simp only [T.setK_eq, setD]

theorem op_skip {P : Program} {rec : St → Out} {cx : Cx} {o : O} {rest : List O} {k : List Item} {env : T AV} {h : Hp} (ho : o.ok = true) (hw : wantedA o env = false) :
    step P rec (sOf cx (.ops (o :: rest) :: k) env h) = .next (sOf cx (.ops rest :: k) (setD env o.dst .undef) h) := by
  unfold step
  simp only [sOf, ho, hw, Bool.not_true, cond_false, cond_true, give]
  cases o.dst with
  | none => rfl
  | some d => simp only [T.setK_eq, setD]

theorem putG_eq (o : Option AV) (d : Pos) (env : T AV) (k : T AV → Out) : putG o d env k = k (T.set d (some (unO o)) env) := by
  cases o <;> exact setV_eq _ _ _ _

theorem putX_eq (x : Opd) (env0 : T AV) (d : Pos) (env : T AV) (k : T AV → Out) : putX x env0 d env k = k (T.set d (some (ev env0 x)) env) := by
  cases x with
  | tmp p => exact (putG_eq _ _ _ _).trans (by rw [unO_get])
  | val v => exact setV_eq _ _ _ _

/-- What an instruction does: nothing, or its operation. -/
def Does (P : Program) (op : AOp) (env : T AV) (h : Hp) (dst : Option Pos) (t : List Item) (nx : NX) (cx : Cx) (no f : Out) : Prop :=
  f = no ∨ ∃ v h', evalOp P op env h = .val v h' ∧ f = nx t h' cx (setD env dst v)

section
variable {P : Program} {op : AOp} {env : T AV} {h : Hp} {d : Pos} {t : List Item} {nx : NX} {cx : Cx} {no f : Out}

theorem Does.pv {r : Option AV} {why : String} (e : evalOp P op env h = opt h why r) (q : PV no (outV d env (nx t h cx)) r f) : Does P op env h (some d) t nx cx no f := by
  rcases q with q | ⟨v, q, q'⟩
  · exact .inl q
  · refine .inr ⟨v, h, by rw [e, q]; rfl, q'.trans (setV_eq _ _ _ _)⟩

theorem Does.val {v : AV} (e : evalOp P op env h = .val v h) (q : f = outV d env (nx t h cx) v) : Does P op env h (some d) t nx cx no f :=
  .inr ⟨v, h, e, q.trans (setV_eq _ _ _ _)⟩
end

/-- What a call enters. -/
def Calls1 (P : Program) (op : AOp) (env : T AV) (h : Hp) (tdn : List Item) (nx : NX) (cx : Cx) (f : Out) : Prop :=
  ∃ fn args body env2, specAt fn = false ∧ evalOp P op env h = .enter fn args h ∧ beginFn P fn args = some ⟨fn, env2, [.code body], [], .run, false, none⟩ ∧
    f = nx [.code body] h ⟨cx.fall, fn, [], false, none, ⟨cx.fn, env, tdn, cx.defers, .run, cx.dk, cx.round⟩ :: cx.callers⟩ env2

noncomputable def setSA (env : T AV) : List SA → T AV → T AV
  | [], e => e
  | a :: l, e => setSA env l (T.set a.p (some (ev env a.x)) e)

theorem argT_eq (env : T AV) (k : T AV → Out) : ∀ (l : List SA) (e : T AV), argT l env k e = k (setSA env l e)
  | [], _ => rfl
  | ⟨p, x⟩ :: l, e => (putX_eq x env p e (argT l env k)).trans (argT_eq env k l _)

theorem setSA_eq (env : T AV) : ∀ (xs : List Opd) (i : Nat) (e : T AV), setSA env (slotArgs i xs) e = setArgs e i (xs.map (ev env))
  | [], _, _ => rfl
  | x :: xs, i, e => by
    show setSA env (slotArgs (i + 1) xs) _ = T.setK (Pos.ofNat i) (some (ev env x)) e fun env' => setArgs env' (i + 1) (xs.map (ev env))
    rw [T.setK_eq]
    exact setSA_eq env xs (i + 1) _

theorem callK_eq (tdn : List Item) (f : FuncId) (body : C) (nx : NX) (h : Hp) (cx : Cx) (env env2 : T AV) :
    callK tdn f body nx h cx env env2 = nx [.code body] h ⟨cx.fall, f, [], false, none, ⟨cx.fn, env, tdn, cx.defers, .run, cx.dk, cx.round⟩ :: cx.callers⟩ env2 := by cases cx; rfl

theorem map_val (env : T AV) (l : List AV) : (l.map Opd.val).map (ev env) = l := by
  induction l with
  | nil => rfl
  | cons x l ih => simp only [List.map_cons, ih]; rfl

theorem instCall_or {P : Program} {f : Opd} {args : List Opd} {env : T AV} {h : Hp} {tdn td : List Item} {nx : NX} {cx : Cx} :
    goI (instCall P tdn args f) td nx h cx env = fallT cx td h env ∨ Calls1 P (.call (.value f) args) env h tdn nx cx (goI (instCall P tdn args f) td nx h cx env) := by
  unfold instCall
  split
  · rename_i f first captured
    cases hj : specAt f with
    | true => exact .inl rfl
    | false =>
    simp only [cond_false]
    split
    · rename_i fn hfn
      split
      · rename_i b hb
        cases hn : fn.name == "runtime.NumGoroutine" with
        | true => exact .inl rfl
        | false =>
          simp only [cond_false]
          split
          · rename_i fu hfu
            cases hl : Nat.ble (first.length + (args.length + captured.length)) fu.nargs with
            | false => exact .inl rfl
            | true =>
              simp only [cond_true]
              have em : (first.map Opd.val ++ (args ++ captured.map Opd.val)).map (ev env) = first ++ (args.map (ev env) ++ captured) := by
                rw [List.map_append, List.map_append, map_val, map_val]
              refine .inr ⟨f, first ++ (args.map (ev env) ++ captured), fu.body, setArgs .e 0 (first ++ (args.map (ev env) ++ captured)), hj, ?_, ?_, ?_⟩
              · show callA P h f _ = _
                unfold callA
                simp only [hfn, hb]
                unfold enterA
                simp only [hfn, hb, hn, cond_false]
              · unfold beginFn
                simp only [hfu, List.length_append, List.length_map, hl, cond_true]
              · show argT (slotArgs 0 _) env (callK tdn f fu.body nx h cx env) .e = _
                rw [argT_eq, callK_eq, setSA_eq, em]
          · exact .inl rfl
      · exact .inl rfl
    · exact .inl rfl
  · exact .inl rfl

theorem boxT_or (P : Program) {x : AV} {env : T AV} {h : Hp} {no : Out} {ok : AV → Hp → Out} {ox : Opd} (hx : ev env ox = x) : PH no ok (evalOp P (.box ox) env h) (boxT x h no ok) := by
  have key : ∀ c, (Cells.ofL (ev env ox).cells) = c → PH no ok (evalOp P (.box ox) env h) (newT 0 c h ok) := fun c e => by
    obtain ⟨h', q1, q2⟩ := newT_eq h 0 c ok
    refine .inr ⟨_, h', ?_, q2⟩
    show newCells h (Cells.ofL (ev env ox).cells) _ = _
    rw [e]; exact q1
  cases x <;> first | exact .inl rfl | exact key _ (by rw [hx]; rfl)

theorem inst1_or {P : Program} (op : AOp) {dst : Option Pos} {tdn t td : List Item} {nx : NX} {h : Hp} {cx : Cx} {env : T AV} :
    Does P op env h dst t nx cx (fallT cx td h env) (goI (inst1 op P dst tdn t) td nx h cx env) ∨ Calls1 P op env h tdn nx cx (goI (inst1 op P dst tdn t) td nx h cx env) := by
  cases op with
  | call c args => cases c with
    | value f =>
      rcases instCall_or (P := P) (f := f) (args := args) (env := env) (h := h) (tdn := tdn) (td := td) (nx := nx) (cx := cx) with q | q
      · exact .inl (.inl q)
      · exact .inr q
    | invoke r n => exact .inl (.inl rfl)
  | store n a x =>
    left
    show Does P _ env h dst t nx cx _ (goI (Bool.rec (motive := fun _ => I) .slow (Option.rec (motive := fun _ => I) (.store1 a x t) (fun _ => .slow) dst) (Nat.beq n 1)) td nx h cx env)
    cases hn : Nat.beq n 1 with
    | false => exact .inl rfl
    | true =>
      have hn := beq_iff.1 hn
      subst hn
      cases dst with
      | some d => exact .inl rfl
      | none =>
        show Does P _ env h none t nx cx _ (storeT (evM a env) (evM x env) h (fallT cx td h env) (outS t nx cx env))
        have q := storeT_or P (evM a env) (evM x env) env h (fallT cx td h env) (fun _ h' => outS t nx cx env h') (evM_eq a env).symm (evM_eq x env).symm
        rcases q with q | ⟨v, h', q1, q2⟩
        · exact .inl q
        · exact .inr ⟨v, h', q1, q2⟩
  | mov x => cases dst with
    | none => exact .inl (.inl rfl)
    | some d => cases x with
      | tmp p =>
        left; right
        refine ⟨_, _, rfl, ?_⟩
        show putG (getV p env) d env (nx t h cx) = _
        rw [putG_eq, unO_get]; rfl
      | val v => exact .inl (.inr ⟨_, _, rfl, setV_eq _ _ _ _⟩)
  | pick c a b => cases dst with
    | none => exact .inl (.inl rfl)
    | some d =>
      left
      show Does P _ env h (some d) t nx cx _ (ifV (evM c env) (fallT cx td h env) (putX a env d env (nx t h cx)) (putX b env d env (nx t h cx)))
      rw [evM_eq, putX_eq, putX_eq]
      cases e : ev env c with
      | bool x => cases x with
        | true => exact .inr ⟨ev env a, h, by unfold evalOp; simp only [e], rfl⟩
        | false => exact .inr ⟨ev env b, h, by unfold evalOp; simp only [e], rfl⟩
      | _ => exact .inl rfl
  | new cells => cases dst with
    | none => exact .inl (.inl rfl)
    | some d =>
      left; right
      obtain ⟨h', q1, q2⟩ := newT_eq h 0 (Cells.ofL cells) (outN d env t nx cx)
      exact ⟨_, h', q1, q2.trans (setV_eq _ _ _ _)⟩
  | newT u cells => cases dst with
    | none => exact .inl (.inl rfl)
    | some d =>
      left; right
      obtain ⟨h', q1, q2⟩ := newT_eq h (Nat.succ (Nat.succ u)) (Cells.ofL cells) (outN d env t nx cx)
      exact ⟨_, h', q1, q2.trans (setV_eq _ _ _ _)⟩
  | box x => cases dst with
    | none => exact .inl (.inl rfl)
    | some d =>
      left
      have q := boxT_or P (no := fallT cx td h env) (ok := outN d env t nx cx) (h := h) (evM_eq x env).symm
      rcases q with q | ⟨v, h', q1, q2⟩
      · exact .inl q
      · exact .inr ⟨v, h', q1, q2.trans (setV_eq _ _ _ _)⟩
  | load1 x => cases dst with
    | none => exact .inl (.inl rfl)
    | some d =>
      left
      have q := loadT_or (ev env x) h (fallT cx td h env) (outV d env (nx t h cx))
      have g1 : goI (inst1 (.load1 x) P (some d) tdn t) td nx h cx env = loadT (evM x env) h (fallT cx td h env) (outV d env (nx t h cx)) := rfl
      rw [g1, evM_eq]
      cases e : ev env x with
      | ptr id g off =>
        rw [e] at q
        exact Does.pv (why := "load1") (by unfold evalOp; simp only [e]) q
      | _ => exact .inl rfl
  | nilCheck x => cases dst with
    | none => exact .inl (.inl rfl)
    | some d =>
      left
      have g1 : goI (inst1 (.nilCheck x) P (some d) tdn t) td nx h cx env = nilcT (evM x env) (fallT cx td h env) (outV d env (nx t h cx)) := rfl
      rw [g1, evM_eq]
      cases e : ev env x with
      | ptr id g off => exact Does.val (by unfold evalOp; simp only [e]) rfl
      | ifc t v => exact Does.val (by unfold evalOp; simp only [e]) rfl
      | _ => exact .inl rfl
  | bin op kd nilOk x y => cases dst with
    | none => exact .inl (.inl rfl)
    | some d =>
      left
      have g1 : goI (inst1 (.bin op kd nilOk x y) P (some d) tdn t) td nx h cx env = binT (evM x env) (evM y env) op (fallT cx td h env) (outV d env (nx t h cx)) := rfl
      rw [g1, evM_eq, evM_eq]
      exact Does.pv (why := "bin") rfl (binT_or op kd nilOk _ _ _ _)
  | un op x => cases dst with
    | none => exact .inl (.inl rfl)
    | some d =>
      left
      cases op with
      | not =>
        have g1 : goI (inst1 (.un .not x) P (some d) tdn t) td nx h cx env = notV (evM x env) (fallT cx td h env) (outV d env (nx t h cx)) := rfl
        rw [g1, evM_eq]
        cases e : ev env x with
        | bool b => exact Does.val (v := .bool (!b)) (by unfold evalOp; simp only [e]; cases b <;> rfl) (boolN_eq _ _)
        | _ => exact .inl rfl
      | _ => exact .inl rfl
  | convInt k x => cases dst with
    | none => exact .inl (.inl rfl)
    | some d =>
      left
      have g1 : goI (inst1 (.convInt k x) P (some d) tdn t) td nx h cx env = convT (evM x env) k (fallT cx td h env) (outV d env (nx t h cx)) := rfl
      rw [g1, evM_eq]
      cases e : ev env x with
      | int k' n => cases n with
        | ofNat n =>
          rcases wrapT_or k n (fallT cx td h env) (outV d env (nx t h cx)) with q | q
          · exact .inl q
          · exact Does.val (v := .int k (wrapA k (.ofNat n))) (by unfold evalOp; simp only [e, intK_eq]) q
        | negSucc n => exact .inl rfl
      | _ => exact .inl rfl
  | fieldAddr off x => cases dst with
    | none => exact .inl (.inl rfl)
    | some d =>
      left
      have g1 : goI (inst1 (.fieldAddr off x) P (some d) tdn t) td nx h cx env = fldT (evM x env) off (fallT cx td h env) (outV d env (nx t h cx)) := rfl
      rw [g1, evM_eq]
      cases e : ev env x with
      | ptr id g o => exact Does.val (v := .ptr id g (Nat.add o off)) (by unfold evalOp; simp only [e, natK_eq]) (natP_eq _ _ _ _)
      | _ => exact .inl rfl
  | part1 off x => cases dst with
    | none => exact .inl (.inl rfl)
    | some d =>
      left
      have g1 : goI (inst1 (.part1 off x) P (some d) tdn t) td nx h cx env = partT (evM x env) off (fallT cx td h env) (outV d env (nx t h cx)) := rfl
      rw [g1, evM_eq]
      cases e : ev env x with
      | agg l => exact Does.pv (why := "part1") (by unfold evalOp; simp only [e]) (nthT_or _ _ l off)
      | _ => exact .inl rfl
  | idxAddrArr len es x i => cases dst with
    | none => exact .inl (.inl rfl)
    | some d =>
      left
      have g1 : goI (inst1 (.idxAddrArr len es x i) P (some d) tdn t) td nx h cx env = idxArrT (evM x env) (evM i env) len es (fallT cx td h env) (outV d env (nx t h cx)) := rfl
      rw [g1, evM_eq, evM_eq]
      cases e : ev env x with
      | ptr id g off =>
        have q := idxV_or (i := ev env i) (id := id) (g := g) (off := off) (len := len) (es := es) (no := fallT cx td h env) (ok := outV d env (nx t h cx))
        rcases q with q | ⟨v, q, q'⟩
        · exact .inl q
        · refine Does.val (v := v) ?_ q'
          unfold evalOp
          simp only [e]
          revert q
          cases ev env i with
          | int k n => cases n with
            | ofNat n =>
              simp only [natK_eq]
              cases Nat.blt n len with
              | true => intro q; cases q; rfl
              | false => intro q; cases q
            | negSucc n => intro q; cases q
          | _ => intro q; cases q
      | _ => exact .inl rfl
  | idxAddrSl es x i => cases dst with
    | none => exact .inl (.inl rfl)
    | some d =>
      left
      have g1 : goI (inst1 (.idxAddrSl es x i) P (some d) tdn t) td nx h cx env = idxSlT (evM x env) (evM i env) es (fallT cx td h env) (outV d env (nx t h cx)) := rfl
      rw [g1, evM_eq, evM_eq]
      cases e : ev env x with
      | sl id g off len cap ex es' =>
        show Does P _ env h (some d) t nx cx _ (ifT (Nat.beq es es') (fallT cx td h env) (idxV (ev env i) id g off len es (fallT cx td h env) (outV d env (nx t h cx))))
        rcases ifT_or (Nat.beq es es') (fallT cx td h env) (idxV (ev env i) id g off len es (fallT cx td h env) (outV d env (nx t h cx))) with q0 | ⟨q0, q0'⟩
        · exact .inl q0
        rw [q0']
        have q := idxV_or (i := ev env i) (id := id) (g := g) (off := off) (len := len) (es := es) (no := fallT cx td h env) (ok := outV d env (nx t h cx))
        rcases q with q | ⟨v, q, q'⟩
        · exact .inl q
        · refine Does.val (v := v) ?_ q'
          unfold evalOp
          simp only [e]
          revert q
          cases ev env i with
          | int k n => cases n with
            | ofNat n =>
              simp only [natK_eq, q0, Bool.and_true]
              cases Nat.blt n len with
              | true => intro q; cases q; rfl
              | false => intro q; cases q
            | negSucc n => intro q; cases q
          | _ => intro q; cases q
      | _ => exact .inl rfl
  | idxStr x i => cases dst with
    | none => exact .inl (.inl rfl)
    | some d =>
      left
      have g1 : goI (inst1 (.idxStr x i) P (some d) tdn t) td nx h cx env = idxST (evM x env) (evM i env) (fallT cx td h env) (outV d env (nx t h cx)) := rfl
      rw [g1, evM_eq, evM_eq]
      cases e : ev env x with
      | str n v => cases e2 : ev env i with
        | int k m => cases m with
          | ofNat m =>
            show Does P _ env h (some d) t nx cx _ (ifT (Nat.ble (Nat.succ m) n) (fallT cx td h env) (natI (byteAt n v m) .u8 (outV d env (nx t h cx))))
            rcases ifT_or (Nat.ble (Nat.succ m) n) (fallT cx td h env) (natI (byteAt n v m) .u8 (outV d env (nx t h cx))) with q | ⟨q, q'⟩
            · exact .inl q
            · rw [q', natI_eq]
              have q : Nat.blt m n = true := q
              exact Does.val (v := byteV (byteAt n v m)) (by unfold evalOp; simp only [e, e2, q, cond_true, natK_eq]) rfl
          | negSucc m => exact .inl rfl
        | _ => exact .inl rfl
      | _ => exact .inl rfl
  | extract x i => cases dst with
    | none => exact .inl (.inl rfl)
    | some d =>
      left
      have g1 : goI (inst1 (.extract x i) P (some d) tdn t) td nx h cx env = extT (evM x env) i (fallT cx td h env) (outV d env (nx t h cx)) := rfl
      rw [g1, evM_eq]
      cases e : ev env x with
      | tup l => exact Does.pv (why := "extract") (by unfold evalOp; simp only [e]) (nthT_or _ _ l i)
      | _ => exact .inl rfl
  | lenS x => cases dst with
    | none => exact .inl (.inl rfl)
    | some d =>
      left
      have g1 : goI (inst1 (.lenS x) P (some d) tdn t) td nx h cx env = lenST (evM x env) (fallT cx td h env) (outV d env (nx t h cx)) := rfl
      rw [g1, evM_eq]
      cases e : ev env x with
      | str n v => exact Does.val (by unfold evalOp; simp only [e]) rfl
      | _ => exact .inl rfl
  | lenL x => cases dst with
    | none => exact .inl (.inl rfl)
    | some d =>
      left
      have g1 : goI (inst1 (.lenL x) P (some d) tdn t) td nx h cx env = lenLT (evM x env) (fallT cx td h env) (outV d env (nx t h cx)) := rfl
      rw [g1, evM_eq]
      cases e : ev env x with
      | sl id g off len cap ex es => exact Does.val (by unfold evalOp; simp only [e]) rfl
      | nilSl => exact Does.val (by unfold evalOp; simp only [e]) rfl
      | _ => exact .inl rfl
  | _ => exact .inl (.inl rfl)

theorem does_ans {P : Program} {rec : St → Out} (hrec : Sound P rec) {nx : NX} (hn : GoodN P nx) {cx : Cx} (hf : Sounds P cx.fall) {o : O} {rest : List O} {k : List Item} {env : T AV} {h : Hp} {f : Out}
    (ho : o.ok = true) (hw : wantedA o env = true) (q : Does P o.op env h o.dst (.ops rest :: k) nx cx (fallT cx (.ops (o :: rest) :: k) h env) f) : Ans P (sOf cx (.ops (o :: rest) :: k) env h) f := by
  rcases q with q | ⟨v, h', q1, q2⟩
  · rw [q]; exact fall_ans hf
  · rw [q2]; exact Ans.step hrec (op_step ho hw q1) (hn _ _ _ _ hf)

theorem calls_ans {P : Program} {rec : St → Out} (hrec : Sound P rec) {nx : NX} (hn : GoodN P nx) {cx : Cx} (hf : Sounds P cx.fall) {o : O} {rest : List O} {k : List Item} {env : T AV} {h : Hp} {f : Out}
    (ho : o.ok = true) (hw : wantedA o env = true) (q : Calls1 P o.op env h (.ops (o :: rest) :: k) nx cx f) : Ans P (sOf cx (.ops (o :: rest) :: k) env h) f := by
  obtain ⟨fn, args, body, env2, q0, q1, q2, q3⟩ := q
  rw [q3]
  refine Ans.step hrec (s' := sOf ⟨cx.fall, fn, [], false, none, ⟨cx.fn, env, .ops (o :: rest) :: k, cx.defers, .run, cx.dk, cx.round⟩ :: cx.callers⟩ [.code body] env2 h) ?_ (hn _ _ _ _ hf)
  unfold step
  simp only [sOf, ho, hw, q1, Bool.not_true, cond_false, cond_true, applyJ, q0, apply, q2]

/-- An operation without its guard. -/
theorem inst1_ans {P : Program} {rec : St → Out} (hrec : Sound P rec) {nx : NX} (hn : GoodN P nx) {cx : Cx} (hf : Sounds P cx.fall) {o : O} {rest : List O} {k : List Item} {env : T AV} {h : Hp}
    (ho : o.ok = true) (hw : wantedA o env = true) : Ans P (sOf cx (.ops (o :: rest) :: k) env h) (goI (inst1 o.op P o.dst (.ops (o :: rest) :: k) (.ops rest :: k)) (.ops (o :: rest) :: k) nx h cx env) := by
  rcases inst1_or (P := P) o.op (dst := o.dst) (tdn := .ops (o :: rest) :: k) (t := .ops rest :: k) (td := .ops (o :: rest) :: k) (nx := nx) (h := h) (cx := cx) (env := env) with q | q
  · exact does_ans hrec hn hf ho hw q
  · exact calls_ans hrec hn hf ho hw q

theorem skipT_eq (d : Option Pos) (t : List Item) (nx : NX) (h : Hp) (cx : Cx) (env : T AV) : skipT d t nx h cx env = nx t h cx (setD env d .undef) := by
  cases d with
  | none => rfl
  | some d => exact setV_eq _ _ _ _

theorem grdT_eq (o : Option AV) (w : Bool) (run skip : Out) : grdT o w run skip = bif (match o with | some (.bool b) => bif w then b else !b | _ => false) then run else skip := by
  cases o with
  | none => rfl
  | some v => cases v with
    | bool b => cases w <;> cases b <;> rfl
    | _ => rfl

theorem inst_ans {P : Program} {rec : St → Out} (hrec : Sound P rec) {nx : NX} (hn : GoodN P nx) {cx : Cx} (hf : Sounds P cx.fall) {o : O} {rest : List O} {k : List Item} {env : T AV} {h : Hp} :
    Ans P (sOf cx (.ops (o :: rest) :: k) env h) (goI (inst o P rest k) (.ops (o :: rest) :: k) nx h cx env) := by
  obtain ⟨dst, guard, op, ok, before⟩ := o
  cases ok with
  | false => exact fall_ans hf
  | true => cases guard with
    | none => exact inst1_ans hrec hn hf (o := ⟨dst, none, op, true, before⟩) rfl rfl
    | some g =>
      obtain ⟨p, w⟩ := g
      have e : goI (inst ⟨dst, some (p, w), op, true, before⟩ P rest k) (.ops (⟨dst, some (p, w), op, true, before⟩ :: rest) :: k) nx h cx env =
          grdT (getV p env) w (goI (inst1 op P dst (.ops (⟨dst, some (p, w), op, true, before⟩ :: rest) :: k) (.ops rest :: k)) (.ops (⟨dst, some (p, w), op, true, before⟩ :: rest) :: k) nx h cx env)
            (skipT dst (.ops rest :: k) nx h cx env) := rfl
      rw [e, grdT_eq, getV_eq, skipT_eq]
      have ew : wantedA ⟨dst, some (p, w), op, true, before⟩ env = (match T.get p env with | some (.bool b) => bif w then b else !b | _ => false) := rfl
      rw [← ew]
      cases hw : wantedA ⟨dst, some (p, w), op, true, before⟩ env with
      | true => exact inst1_ans hrec hn hf (o := ⟨dst, some (p, w), op, true, before⟩) rfl hw
      | false => exact Ans.step hrec (op_skip (o := ⟨dst, some (p, w), op, true, before⟩) rfl hw) (hn _ _ _ _ hf)

theorem cond_ans {P : Program} {rec : St → Out} (hrec : Sound P rec) {nx : NX} (hn : GoodN P nx) {cx : Cx} (hf : Sounds P cx.fall) {c : Opd} {a b : C} {k : List Item} {env : T AV} {h : Hp} :
    Ans P (sOf cx (.code (.cond c a b) :: k) env h) (ifV (evM c env) (fallT cx (.code (.cond c a b) :: k) h env) (nx (.code a :: k) h cx env) (nx (.code b :: k) h cx env)) := by
  rw [evM_eq]
  cases e : ev env c with
  | bool x => cases x with
    | true => exact Ans.step hrec (by unfold step; simp only [sOf, e]) (hn _ _ _ _ hf)
    | false => exact Ans.step hrec (by unfold step; simp only [sOf, e]) (hn _ _ _ _ hf)
  | _ => exact fall_ans hf

theorem valT1_or (r : RV) (env : T AV) (h : Hp) (no : Out) (ok : AV → Out) : valT1 r env h no ok = no ∨ ∃ v, result1 env h r = some v ∧ valT1 r env h no ok = ok v := by
  cases r with
  | tmp p =>
    show Option.rec (motive := fun _ => (AV → Out) → Out) (fun _ => no) (fun v ok => ok v) (getV p env) ok = no ∨ ∃ v, T.get p env = some v ∧ Option.rec (motive := fun _ => (AV → Out) → Out) (fun _ => no) (fun v ok => ok v) (getV p env) ok = ok v
    rw [getV_eq]
    cases T.get p env with
    | none => exact .inl rfl
    | some v => exact .inr ⟨v, rfl, rfl⟩
  | cell1 p =>
    have q := loadT_or (evM (.tmp p) env) h no ok
    rw [evM_eq] at q
    have e : valT1 (.cell1 p) env h no ok = loadT (evM (.tmp p) env) h no ok := rfl
    rw [e, evM_eq]
    rcases q with q | ⟨v, q, q'⟩
    · exact .inl q
    · exact .inr ⟨v, q, q'⟩
  | cellN p n => exact .inl rfl

theorem valsT_or (env : T AV) (h : Hp) (no : Out) : ∀ (l : List RV) (k : List AV → Out), valsT l env h no k = no ∨ ∃ vs, mapO (result1 env h) l = some vs ∧ valsT l env h no k = k vs
  | [], k => .inr ⟨[], rfl, rfl⟩
  | r :: l, k => by
    have e : valsT (r :: l) env h no k = valT1 r env h no (restT (valsT l) env h no k) := rfl
    rw [e]
    rcases valT1_or r env h no (restT (valsT l) env h no k) with q | ⟨v, q, q'⟩
    · exact .inl q
    · rw [q']
      rcases valsT_or env h no l (fun l => k (v :: l)) with p | ⟨vs, p, p'⟩
      · exact .inl p
      · exact .inr ⟨v :: vs, by unfold mapO; simp only [q, p], p'⟩

theorem tupT_eq (l : List AV) (ok : AV → Out) : tupT l ok = ok (tupleA l) := by
  match l with
  | [] => rfl
  | [x] => rfl
  | x :: y :: l => rfl

theorem giveF_or (c : Fr) (fall : St → Out) (cs : List Fr) (nx : NX) (h : Hp) (no : Out) (v : AV) : giveF c fall cs nx h no v = no ∨
    ∃ o rest td, c.mode = .run ∧ c.todo = .ops (o :: rest) :: td ∧ o.ok = true ∧ giveF c fall cs nx h no v = nx (.ops rest :: td) h ⟨fall, c.fn, c.defers, c.dk, c.round, cs⟩ (setD c.env o.dst v) := by
  obtain ⟨fn, env, todo, defers, mode, dk, round⟩ := c
  cases mode with
  | run => cases todo with
    | nil => exact .inl rfl
    | cons x td => cases x with
      | ops l => cases l with
        | nil => exact .inl rfl
        | cons o rest =>
          obtain ⟨dst, guard, op, ok, before⟩ := o
          cases ok with
          | false => exact .inl rfl
          | true =>
            refine .inr ⟨_, _, _, rfl, rfl, rfl, ?_⟩
            cases dst with
            | none => rfl
            | some d => exact setV_eq _ _ _ _
      | _ => exact .inl rfl
  | _ => exact .inl rfl

theorem ret_ans {P : Program} {rec : St → Out} (hrec : Sound P rec) {nx : NX} (hn : GoodN P nx) {cx : Cx} (hf : Sounds P cx.fall) {k : List Item} {env : T AV} {h : Hp} :
    Ans P (sOf cx (.code .ret :: k) env h) (retC cx P nx h env (fallT cx (.code .ret :: k) h env)) := by
  have hno := fall_ans (P := P) (cx := cx) (td := .code .ret :: k) (h := h) (env := env) hf
  obtain ⟨fall, fn, defers, dk, round, callers⟩ := cx
  generalize fallT ⟨fall, fn, defers, dk, round, callers⟩ (.code .ret :: k) h env = no at hno ⊢
  cases round with
  | some l => exact hno
  | none => cases defers with
    | cons d ds => exact hno
    | nil => cases dk with
      | true => exact hno
      | false => cases callers with
        | nil =>
          show Ans P _ (resT (resOf P fn) env h no (tupK (doneT h)))
          unfold resOf
          cases hc : compFn P fn with
          | none => exact hno
          | some fu =>
            show Ans P _ (valsT fu.results env h no (tupK (doneT h)))
            rcases valsT_or env h no fu.results (tupK (doneT h)) with q | ⟨vs, q, q'⟩
            · rw [q]; exact hno
            · rw [q']
              show Ans P _ (tupT vs (doneT h))
              rw [tupT_eq]
              refine Ans.step hrec (s' := ⟨⟨fn, env, .code .ret :: k, [], .ret, false, none⟩, [], h⟩) rfl (ans_last hrec ?_)
              unfold step
              simp only [unwindA, hc, q, cond_false, backTo, doneT]
        | cons c cs =>
          show Ans P _ (resT (resOf P fn) env h no (tupK (giveF c fall cs nx h no)))
          unfold resOf
          cases hc : compFn P fn with
          | none => exact hno
          | some fu =>
            show Ans P _ (valsT fu.results env h no (tupK (giveF c fall cs nx h no)))
            rcases valsT_or env h no fu.results (tupK (giveF c fall cs nx h no)) with q | ⟨vs, q, q'⟩
            · rw [q]; exact hno
            · rw [q']
              show Ans P _ (tupT vs (giveF c fall cs nx h no))
              rw [tupT_eq]
              rcases giveF_or c fall cs nx h no (tupleA vs) with p | ⟨o, rest, td, p1, p2, p3, p4⟩
              · rw [p]; exact hno
              · rw [p4]
                refine Ans.step hrec (s' := ⟨⟨fn, env, .code .ret :: k, [], .ret, false, none⟩, c :: cs, h⟩) rfl ?_
                refine Ans.step hrec (s' := sOf ⟨fall, c.fn, c.defers, c.dk, c.round, cs⟩ (.ops rest :: td) (setD c.env o.dst (tupleA vs)) h) ?_ (hn _ _ _ _ hf)
                obtain ⟨cfn, cenv, ctodo, cdefers, cmode, cdk, cround⟩ := c
                cases p1
                cases p2
                unfold step
                simp only [unwindA, hc, q, cond_false, backTo, give, p3, cond_true]
                cases o.dst with
                | none => rfl
                | some d => simp only [T.setK_eq, setD]; rfl

theorem goN_ans {P : Program} {rec : St → Out} (hrec : Sound P rec) {nx : NX} (hn : GoodN P nx) {cx : Cx} (hf : Sounds P cx.fall) (td : List Item) {env : T AV} {h : Hp} : Ans P (sOf cx td env h) (goN td P nx h cx env) := by
  cases td with
  | nil => exact fall_ans hf
  | cons x k => cases x with
    | code c => cases c with
      | cond c a b => exact cond_ans hrec hn hf
      | ret => exact ret_ans hrec hn hf
      | _ => exact fall_ans hf
    | ops l => cases l with
      | nil => exact fall_ans hf
      | cons o rest => exact inst_ans hrec hn hf
    | _ => exact fall_ans hf

theorem goT_good {P : Program} {rec : St → Out} (hrec : Sound P rec) : ∀ n, GoodN P (goT P n)
  | 0 => fun _ _ _ _ hf => fall_ans hf
  | n + 1 => fun td _ _ _ hf => (norm_ctl 200 td).ans hrec (goN_ans hrec (goT_good hrec n) hf (norm 200 td))

theorem stepF_sounds {P : Program} {rec : St → Out} (hrec : Sound P rec) : Sounds P (stepF P rec) := fun s φ w g cs c0 a b c d => by
  rw [stepF_eq]
  exact step_sound hrec a b c d

theorem stepT_sounds {P : Program} {rec : St → Out} (hrec : Sound P rec) : Sounds P (stepT P rec) := by
  intro s φ w g cs c0 hR hz hF hC
  obtain ⟨⟨fn, env, todo, defers, mode, dk, round⟩, callers, hp⟩ := s
  cases mode with
  | run => exact goT_good hrec fuelT todo hp ⟨stepF P rec, fn, defers, dk, round, callers⟩ env (stepF_sounds hrec) φ w g cs c0 hR hz hF hC
  | ret => exact stepF_sounds hrec _ φ w g cs c0 hR hz hF hC
  | pan v r => exact stepF_sounds hrec _ φ w g cs c0 hR hz hF hC

theorem loopT_sounds {P : Program} {st : St → Out} (hs : Sounds P st) : ∀ n, Sounds P (loopT st n)
  | 0 => hs
  | n + 1 => fun s φ w g cs c0 hR hz hF hC => by
    have q := hs s φ w g cs c0 hR hz hF hC
    have e : loopT st (n + 1) s = (match st s with | .next s' => loopT st n s' | .done v h => .done v h | .many l => .many l | .pan v h => .pan v h | .fail why => .fail why) := by
      show Out.rec (motive := fun _ => (St → Out) → Out) _ _ _ _ _ (st s) (loopT st n) = _
      cases st s <;> rfl
    rw [e]
    cases e2 : st s with
    | next s' =>
      rw [e2] at q
      obtain ⟨g', cs', w', φ', q1, q2, q3, q4, q5, q6, q7⟩ := q
      exact OutR.then hR hz q1 q5 q6 q7 (loopT_sounds hs n s' φ' w' g' cs' c0 q2 (q5.lim.trans hz) q3 q4)
    | done v h => rw [e2] at q; exact q
    | many l => rw [e2] at q; exact q
    | pan v h => rw [e2] at q; exact q
    | fail why => rw [e2] at q; exact q

theorem runT_sounds (P : Program) (d : Nat) : Sounds P (runT P d) := by
  induction d with
  | zero => exact fun _ _ _ _ _ _ _ _ _ _ => trivial
  | succ d ih =>
    have q : Sounds P (loopT (stepT P (runT P d)) fuelT) := loopT_sounds (stepT_sounds ih.sound) fuelT
    intro s φ w g cs c0 hR hz hF hC
    have e : runT P (d + 1) s = loopT (stepT P (runT P d)) fuelT s := by rw [runT]
    rw [e]
    exact q s φ w g cs c0 hR hz hF hC

end Go.Proofs.YtialpccieggaoaaGreatDoor.Am

namespace Go.Proofs.YtialpccieggaoaaGreatDoor.Am
open Go.RowKit

noncomputable def mkV : List (Pos × AV) → T AV
  | [] => .e
  | x :: l => T.set x.1 (some x.2) (mkV l)

/-- A piece of a function's code by the way to it. -/
noncomputable def cAt (c : C) : List Nat → C
  | [] => c
  | i :: p => match c, i with
    | .seq a _, 0 => cAt a p
    | .seq _ b, _ => cAt b p
    | .cond _ a _, 0 => cAt a p
    | .cond _ _ b, _ => cAt b p
    | .block _ b, _ => cAt b p
    | .loop b, _ => cAt b p
    | .scope b, _ => cAt b p
    | .rangeFunc _ _ a _, 0 => cAt a p
    | .rangeFunc _ _ _ b, _ => cAt b p
    | _, _ => .skip

noncomputable def bodyC (P : Program) (f : FuncId) : C :=
  match compFn P f with
  | some fu => fu.body
  | none => .skip

noncomputable def dropL {A : Type} : Nat → List A → List A
  | 0, l => l
  | _ + 1, [] => []
  | n + 1, _ :: l => dropL n l

/-- A region's operations from some one on. -/
noncomputable def oAt (c : C) (n : Nat) : List O :=
  match c with
  | .region l => dropL n l
  | .drawn l => dropL n l
  | _ => []

/-- What is seen of a state: of its memory some blocks. -/
structure Seen where
  cur : Fr
  callers : List Fr
  next : Pos
  ser : Nat
  lim : Nat
  bs : List (Option Blk)

noncomputable def seeO (ids : List Pos) : Out → Option Seen
  | .next s => some ⟨s.cur, s.callers, s.hp.next, s.hp.ser, s.hp.lim, ids.map fun p => T.get p s.hp.heap⟩
  | _ => none

/-- A state that is written out. -/
structure Ck where
  cur : Fr
  callers : List Fr
  next : Pos
  ser : Nat
  bs : List (Pos × Blk)

noncomputable def Ck.st (c : Ck) : St := ⟨c.cur, c.callers, ⟨mkB c.bs, c.next, c.ser, 0⟩⟩

noncomputable def Ck.seen (c : Ck) : Option Seen := some ⟨c.cur, c.callers, c.next, c.ser, 0, c.bs.map fun x => some x.2⟩

noncomputable def Ck.ids (c : Ck) : List Pos := c.bs.map fun x => x.1

/-- A piece of a run. -/
noncomputable def chunk (P : Program) (n : Nat) (s : St) : Out := loopT (stepT P (runT P 39)) n s

noncomputable def i64 (n : Nat) : AV := .int .i64 (.ofNat n)
noncomputable def i32 (n : Nat) : AV := .int .i32 (.ofNat n)
noncomputable def u8 (n : Nat) : AV := .int .u8 (.ofNat n)
noncomputable def u32 (n : Nat) : AV := .int .u32 (.ofNat n)
noncomputable def u64 (n : Nat) : AV := .int .u64 (.ofNat n)

/-- The state that a call begins with. -/
noncomputable def startS (P : Program) (f : FuncId) (vs : List (Nat × Cells)) : St :=
  match startW P f vs with
  | some s => s
  | none => default

theorem startS_lim (P : Program) (f : FuncId) (vs : List (Nat × Cells)) : (startS P f vs).hp.lim = 0 := by
  unfold startS startW
  cases beginFn P f [] <;> rfl

theorem Ck.lim (c : Ck) : c.st.hp.lim = 0 := rfl

theorem seen_get {t : T Blk} : ∀ {bs : List (Pos × Blk)}, ((bs.map fun x => x.1).map fun p => T.get p t) = (bs.map fun x => some x.2) → ∀ x ∈ bs, T.get x.1 t = some x.2
  | [], _, x, m => by cases m
  | y :: l, e, x, m => by
    simp only [List.map_cons, List.cons.injEq] at e
    rcases List.mem_cons.1 m with rfl | m
    · exact e.1
    · exact seen_get e.2 x m

section
variable {P : Program} {φ : Phi} {w : World}

/-- Less of the memory is known. -/
theorem HR.less {h h' : Hp} (hR : HR P φ h w) (hn : h'.next = h.next) (hl : h'.lim = h.lim) (hs : ∀ id b, T.get id h'.heap = some b → T.get id h.heap = some b) : HR P φ h' w where
  blk := fun id b e => hR.blk id b (hs _ _ e)
  used := fun id g r e => by rw [hn, hl]; exact hR.used id g r e
  dom := fun id b e => by rw [hn, hl]; exact hR.dom id b (hs _ _ e)
  sep := fun id g b s n id' g' s' n' e e' => (hR.sep id g b s n id' g' s' n' e e').imp _root_.id fun q => ⟨fun ⟨b, k, f⟩ => q.1 ⟨b, hs _ _ k, f⟩, fun ⟨b, k, f⟩ => q.2 ⟨b, hs _ _ k, f⟩⟩
  inb := hR.inb
  glob := hR.glob

theorem Adv.less {h0 h h' : Hp} {w0 : World} {φ0 : Phi} (A : Adv h0 w0 φ0 h w φ) (hn : h'.next = h.next) (hl : h'.lim = h.lim) (hs : ∀ id b, T.get id h'.heap = some b → T.get id h.heap = some b) : Adv h0 w0 φ0 h' w φ where
  le := A.le
  os := A.os
  output := A.output
  tape := A.tape
  size := A.size
  next := by rw [hn]; exact A.next
  new := A.new
  old := fun id hw ⟨b, e, f⟩ => A.old id (by rcases hw with k | k; exact .inl k; exact .inr (by rw [← hn]; exact k)) ⟨b, hs _ _ e, f⟩
  keep := A.keep
  lim := by rw [hl]; exact A.lim
  hid := fun id hw e => by
    have := A.hid id (by rcases hw with k | k; exact .inl k; exact .inr (by rw [← hn]; exact k)) e
    cases q : T.get id h'.heap with
    | none => rfl
    | some b => rw [hs _ _ q] at this; cases this
  same := fun id g r hw e k => A.same id g r (by rcases hw with q | q; exact .inl q; exact .inr (by rw [← hn]; exact q)) e k

variable {φ0 : Phi} {s0 : St} {g0 : Frame} {c0 : List Frame} {w0 : World}

/-- One piece behind another. -/
theorem ck_next (hR : HR P φ0 s0.hp w0) (hz : s0.hp.lim = 0) {s : St} (hs : s.hp.lim = 0) (h : OutR P c0 φ0 s0 g0 [] w0 (.next s)) {n : Nat} {b : Ck} (e : seeO b.ids (chunk P n s) = b.seen) : OutR P c0 φ0 s0 g0 [] w0 (.next b.st) := by
  have q : OutR P c0 φ0 s0 g0 [] w0 (chunk P n s) := by
    obtain ⟨g', cs', w', φ', q1, q2, q3, q4, q5, q6, q7⟩ := h
    exact OutR.then hR hz q1 q5 q6 q7 (loopT_sounds (stepT_sounds (runT_sounds P 39).sound) n s φ' w' g' cs' c0 q2 hs q3 q4)
  generalize chunk P n s = r at q e
  cases r with
  | next s' =>
    obtain ⟨cur, callers, heap, nx, ser, lim⟩ := s'
    simp only [seeO, Ck.seen, Option.some.injEq, Seen.mk.injEq] at e
    obtain ⟨e1, e2, e3, e4, e5, e6⟩ := e
    subst e1; subst e2; subst e3; subst e4; subst e5
    have sub : ∀ id x, T.get id (mkB b.bs) = some x → T.get id heap = some x := fun id x k => seen_get e6 _ (mkB_get k)
    obtain ⟨g', cs', w', φ', q1, q2, q3, q4, q5, q6, q7⟩ := q
    exact ⟨g', cs', w', φ', q1, q2.less rfl rfl sub, q3, q4, q5.less rfl rfl sub, q6, q7⟩
  | done v h => cases e
  | many l => cases e
  | pan v h => cases e
  | fail why => cases e

/-- All that may come is true. -/
noncomputable def allTrue : Out → Bool
  | .done (.bool true) _ => true
  | .many l => l.all fun x => match x.1 with | .bool b => b | _ => false
  | _ => false

theorem allTrue_done {r : Out} (h : allTrue r = true) (ho : OutR P c0 φ0 s0 g0 [] w0 r) : ∃ h', DoneR P c0 φ0 s0 g0 [] w0 (.bool true) h' := by
  cases r with
  | done v h' =>
    unfold allTrue at h
    split at h
    · rename_i e; cases e; exact ⟨_, ho⟩
    · rename_i e; cases e
    · cases h
  | many l =>
    obtain ⟨v, h', hm, q⟩ := ho
    have := List.all_eq_true.1 h _ hm
    cases v with
    | bool b => simp only at this; subst this; exact ⟨h', q⟩
    | _ => cases this
  | next s => cases h
  | pan v h => cases h
  | fail why => cases h

/-- What is known of the variables, is so. -/
def VarsR (w : World) (vs : List (Nat × Cells)) : Prop := ∀ x ∈ vs, globOk x.1 = true ∧ VarR w x.1 x.2

/-- ████ What a closed run in pieces says: the call returns true, and what was there stays. ████ -/
theorem pieces_calls {f : FuncId} {vs : List (Nat × Cells)} {s : St} (hs : startW P f vs = some s) (hg : (globIds.all fun g => vs.any fun x => Nat.beq g x.1) = true) (last : St) (hl : last.hp.lim = 0)
    (hway : ∀ (φ : Phi) (g : Frame) (c0 : List Frame) (w : World), HR P φ s.hp w → OutR P c0 φ s g [] w (.next s) → OutR P c0 φ s g [] w (.next last)) {n : Nat} (h : allTrue (chunk P n last) = true) (w : World) (hw : VarsR w vs) :
    Calls P f #[] w fun e w' => e = .returned (.bool true) ∧ Below w.heap.size w w' := by
  intro cs
  have hall : ∀ g, globOk g = true → ∃ c, (g, c) ∈ vs := fun g q => by
    obtain ⟨g', m, e⟩ := List.any_eq_true.1 q
    have := Nat.eq_of_beq_eq_true e
    subst this
    obtain ⟨x, m', e'⟩ := List.any_eq_true.1 (List.all_eq_true.1 hg _ m)
    have := Nat.eq_of_beq_eq_true e'
    subst this
    exact ⟨x.2, m'⟩
  unfold startW at hs
  split at hs
  · rename_i fr hb
    cases hs
    obtain ⟨q1, q2, q3, _⟩ := begin_run (φ := phi0 w) (xs := #[]) hb .nil
    have hR := start_rel (P := P) hall hw
    have h0 : OutR P cs (phi0 w) ⟨fr, [], heap0 vs⟩ _ [] w (.next ⟨fr, [], heap0 vs⟩) := ⟨_, [], w, phi0 w, .refl _ _, hR, q1, .nil, Adv.refl _ _ _, rfl, rfl⟩
    obtain ⟨g', cs', w', φ', p1, p2, p3, p4, p5, p6, p7⟩ := hway _ _ _ _ hR h0
    have ho := OutR.then hR rfl p1 p5 p6 p7 (loopT_sounds (stepT_sounds (runT_sounds P 39).sound) n last φ' w' g' cs' cs p2 hl p3 p4)
    obtain ⟨h', w', φ', x, r1, r2, r3, _, r5⟩ := allTrue_done h ho
    obtain ⟨g', s1, s2, s3⟩ := r5 q3
    cases r3
    exact ⟨.returned (.bool true), w', g', ⟨rfl, r2.os, r2.tape, r2.output, r2.size, fun k hk => r2.keep k hk fun id g s n _ => heap0_nonro vs id⟩, s1, s2.trans q2, s3⟩
  · cases hs
end
/-! Short words for what stands often in a state that is written out. -/
namespace W
noncomputable def q (n : Nat) : Pos := Pos.ofNat n
noncomputable def v (l : List (Nat × AV)) : T AV := mkV (l.map fun x => (q x.1, x.2))
noncomputable def w (l : List (Nat × Blk)) : List (Pos × Blk) := l.map fun x => (q x.1, x.2)
noncomputable def o : AV := .int .i64 (.ofNat 0)
noncomputable def i (n : Nat) : AV := .int .i64 (.ofNat n)
noncomputable def s (n v : Nat) : AV := .str n v
noncomputable def e : AV := .str 0 0
noncomputable def t : AV := .bool true
noncomputable def f : AV := .bool false
noncomputable def N : AV := .nilSl
noncomputable def M : AV := .nilPtr
noncomputable def P (n : Nat) : AV := .ptr (Pos.ofNat n) 0 0
noncomputable def p (n g off : Nat) : AV := .ptr (Pos.ofNat n) g off
noncomputable def S (n g off len cap es : Nat) : AV := .sl (Pos.ofNat n) g off len cap false es
noncomputable def m (n : Nat) : AV := .map (Pos.ofNat n)
noncomputable def a (l : List AV) : AV := .agg l
noncomputable def B (n v : Nat) : Blk := .cells 1 (.byt n v) 0 0 0 0 false false
noncomputable def L (n : Nat) (l : List AV) : Blk := .cells 0 (.lst n l) 0 0 0 0 false false
end W

end Go.Proofs.YtialpccieggaoaaGreatDoor.Am
