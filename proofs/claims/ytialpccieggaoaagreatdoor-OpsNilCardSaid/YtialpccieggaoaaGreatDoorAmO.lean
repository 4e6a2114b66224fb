import Derived.Test.YtialpccieggaoaaGreatDoorAmN
/- THE ABSTRACT MACHINE, part O: a machine over values without block numbers, run by the kernel, and the proof that the model's machine does what it does. No condition. -/
set_option linter.unusedSimpArgs false
set_option linter.unusedVariables false
namespace Go.Proofs.YtialpccieggaoaaGreatDoor.Am

noncomputable def nextT (fn : FuncId) (td : List Item) (defers : List AD) (dk : Bool) (round : Option Pos) (callers : List Fr) (hp : Hp) (env : T AV) : Out := .next ⟨⟨fn, env, td, defers, .run, dk, round⟩, callers, hp⟩

noncomputable def ifW (x : AV) : Out → Out → Out → Out :=
  AV.rec (motive_1 := fun _ => Out → Out → Out → Out) (motive_2 := fun _ => Unit)
    (fun t _ a b => Bool.rec (motive := fun _ => Out → Out → Out) (fun _ b => b) (fun a _ => a) t a b)
    (fun _ _ no _ _ => no)
    (fun _ _ no _ _ => no)
    (fun _ _ _ no _ _ => no)
    (fun no _ _ => no)
    (fun _ _ _ _ _ _ _ no _ _ => no)
    (fun no _ _ => no)
    (fun _ no _ _ => no)
    (fun no _ _ => no)
    (fun _ _ _ _ _ no _ _ => no)
    (fun _ no _ _ => no)
    (fun no _ _ => no)
    (fun _ _ _ no _ _ => no)
    (fun no _ _ => no)
    (fun _ _ no _ _ => no)
    (fun _ _ no _ _ => no)
    (fun no _ _ => no)
    (fun _ _ no _ _ => no)
    ()
    (fun _ _ _ _ => ()) x

noncomputable def backG (fn : FuncId) (env : T AV) (td : List Item) (defers : List AD) (dk : Bool) (round : Option Pos) (callers : List Fr) (hp : Hp) (j : Option C) : Out :=
  Option.rec (motive := fun _ => FuncId → T AV → List Item → List AD → Bool → List Fr → Hp → Option C → Out) (fun fn env td defers dk callers hp _ => .next ⟨⟨fn, env, td, defers, .ret, dk, none⟩, callers, hp⟩)
    (fun l fn env td defers dk callers hp j => leaveRound ⟨⟨fn, env, td, defers, .run, dk, some l⟩, callers, hp⟩ l j) round fn env td defers dk callers hp j

noncomputable def exitG (x : Option (List Item)) : Nat → List Item → FuncId → T AV → List AD → Bool → Option Pos → List Fr → Hp → Out :=
  Option.rec (motive := fun _ => Nat → List Item → FuncId → T AV → List AD → Bool → Option Pos → List Fr → Hp → Out)
    (fun id k fn env defers dk round callers hp => (match round with | none => .fail "exit" | some l => leaveRound ⟨⟨fn, env, .code (.exit id) :: k, defers, .run, dk, round⟩, callers, hp⟩ l (some (.exit id))))
    (fun k2 _ _ fn env defers dk round callers hp => nextT fn k2 defers dk round callers hp env) x

noncomputable def codeG (x : C) : List Item → FuncId → T AV → List AD → Bool → Option Pos → List Fr → Hp → Program → (St → Out) → Out :=
  C.rec (motive := fun _ => List Item → FuncId → T AV → List AD → Bool → Option Pos → List Fr → Hp → Program → (St → Out) → Out)
    (fun k fn env defers dk round callers hp _ _ => nextT fn (k) defers dk round callers hp env)
    (fun ops k fn env defers dk round callers hp _ _ => nextT fn (.ops ops :: k) defers dk round callers hp env)
    (fun ops k fn env defers dk round callers hp P rec => drawnGoF P (recJ P rec) (fun env h => nextT fn k defers dk round callers h env) (fun v h => dropD env ops fun env => .next ⟨⟨fn, env, .code (.bad "panic") :: k, defers, .pan v false, dk, round⟩, callers, h⟩) 0 [] [] [] hp.next env ⟨hp.heap, skipIds ops hp.next, hp.ser, hp.lim⟩ ops)
    (fun a b _ _ k fn env defers dk round callers hp _ _ => nextT fn (.code a :: .code b :: k) defers dk round callers hp env)
    (fun c a b _ _ k fn env defers dk round callers hp _ _ => ifW (evM c env) (.fail "cond") (nextT fn (.code a :: k) defers dk round callers hp env) (nextT fn (.code b :: k) defers dk round callers hp env))
    (fun id b _ k fn env defers dk round callers hp _ _ => nextT fn (.code b :: .inBlock id :: k) defers dk round callers hp env)
    (fun b _ k fn env defers dk round callers hp _ _ => nextT fn (.code b :: .inLoop b :: k) defers dk round callers hp env)
    (fun f params assign body _ _ k fn env defers dk round callers hp P rec => step P rec ⟨⟨fn, env, .code (.rangeFunc f params assign body) :: k, defers, .run, dk, round⟩, callers, hp⟩)
    (fun id k fn env defers dk round callers hp _ _ => exitG (exitA id k) id k fn env defers dk round callers hp)
    (fun b _ k fn env defers dk round callers hp _ _ => nextT fn (.code b :: .inScope b :: k) defers dk round callers hp env)
    (fun _ k fn env defers dk round callers hp _ _ => nextT fn (k) defers dk round callers hp env)
    (fun l k fn env defers dk round callers hp P rec => step P rec ⟨⟨fn, env, .code (.goto l) :: k, defers, .run, dk, round⟩, callers, hp⟩)
    (fun k fn env defers dk round callers hp _ _ => backG fn env (.code .ret :: k) defers dk round callers hp (some .ret))
    (fun why _ _ _ _ _ _ _ _ _ _ => .fail why) x

noncomputable def giveG (x : Option Pos) : AV → List Item → FuncId → T AV → List AD → Bool → Option Pos → List Fr → Hp → Out :=
  Option.rec (motive := fun _ => AV → List Item → FuncId → T AV → List AD → Bool → Option Pos → List Fr → Hp → Out)
    (fun _ td fn env defers dk round callers hp => nextT fn td defers dk round callers hp env)
    (fun d v td fn env defers dk round callers hp => setV d (some v) env (nextT fn td defers dk round callers hp)) x

noncomputable def applyG (x : Res) : O → List O → List Item → FuncId → T AV → List AD → Bool → Option Pos → List Fr → Hp → Program → (St → Out) → Out :=
  Res.rec (motive := fun _ => O → List O → List Item → FuncId → T AV → List AD → Bool → Option Pos → List Fr → Hp → Program → (St → Out) → Out)
    (fun v h o rest k fn env defers dk round callers _ _ _ => giveG o.dst v (.ops rest :: k) fn env defers dk round callers h)
    (fun f args h o rest k fn env defers dk round callers hp P rec => applyJ P rec ⟨⟨fn, env, .ops (o :: rest) :: k, defers, .run, dk, round⟩, callers, hp⟩ (.enter f args h))
    (fun l args o rest k fn env defers dk round callers hp P _ => apply P ⟨⟨fn, env, .ops (o :: rest) :: k, defers, .run, dk, round⟩, callers, hp⟩ (.round l args))
    (fun f args o rest k fn env defers dk round callers hp P _ => apply P ⟨⟨fn, env, .ops (o :: rest) :: k, defers, .run, dk, round⟩, callers, hp⟩ (.defer f args))
    (fun o rest k fn env defers dk round callers hp P _ => apply P ⟨⟨fn, env, .ops (o :: rest) :: k, defers, .run, dk, round⟩, callers, hp⟩ .recover)
    (fun v o rest k fn env defers dk round callers hp P _ => apply P ⟨⟨fn, env, .ops (o :: rest) :: k, defers, .run, dk, round⟩, callers, hp⟩ (.panic v))
    (fun l o rest k fn env defers dk round callers hp _ rec => forkA rec ⟨⟨fn, env, .ops (o :: rest) :: k, defers, .run, dk, round⟩, callers, hp⟩ l)
    (fun why _ _ _ _ _ _ _ _ _ _ _ _ => .fail why) x

noncomputable def wantG (x : Bool) : O → List O → List Item → FuncId → T AV → List AD → Bool → Option Pos → List Fr → Hp → Program → (St → Out) → Out :=
  Bool.rec (motive := fun _ => O → List O → List Item → FuncId → T AV → List AD → Bool → Option Pos → List Fr → Hp → Program → (St → Out) → Out)
    (fun o rest k fn env defers dk round callers hp _ _ => giveG o.dst .undef (.ops rest :: k) fn env defers dk round callers hp)
    (fun o rest k fn env defers dk round callers hp P rec => applyG (evalF P o.op env hp) o rest k fn env defers dk round callers hp P rec) x

noncomputable def okG (x : Bool) : O → List O → List Item → FuncId → T AV → List AD → Bool → Option Pos → List Fr → Hp → Program → (St → Out) → Out :=
  Bool.rec (motive := fun _ => O → List O → List Item → FuncId → T AV → List AD → Bool → Option Pos → List Fr → Hp → Program → (St → Out) → Out)
    (fun _ _ _ _ _ _ _ _ _ _ _ _ => .fail "slot")
    (fun o rest k fn env defers dk round callers hp P rec => wantG (wantedAF o env) o rest k fn env defers dk round callers hp P rec) x

noncomputable def opsG (x : List O) : List Item → FuncId → T AV → List AD → Bool → Option Pos → List Fr → Hp → Program → (St → Out) → Out :=
  List.rec (motive := fun _ => List Item → FuncId → T AV → List AD → Bool → Option Pos → List Fr → Hp → Program → (St → Out) → Out)
    (fun k fn env defers dk round callers hp _ _ => nextT fn (k) defers dk round callers hp env)
    (fun o rest _ k fn env defers dk round callers hp P rec => okG o.ok o rest k fn env defers dk round callers hp P rec) x

noncomputable def itemG (x : Item) : List Item → FuncId → T AV → List AD → Bool → Option Pos → List Fr → Hp → Program → (St → Out) → Out :=
  Item.rec (motive := fun _ => List Item → FuncId → T AV → List AD → Bool → Option Pos → List Fr → Hp → Program → (St → Out) → Out)
    (fun c k fn env defers dk round callers hp P rec => codeG c k fn env defers dk round callers hp P rec)
    (fun _ k fn env defers dk round callers hp _ _ => nextT fn (k) defers dk round callers hp env)
    (fun b k fn env defers dk round callers hp _ _ => nextT fn (.code b :: .inLoop b :: k) defers dk round callers hp env)
    (fun _ k fn env defers dk round callers hp _ _ => nextT fn (k) defers dk round callers hp env)
    (fun l k fn env defers dk round callers hp P rec => opsG l k fn env defers dk round callers hp P rec)
    (fun k fn env defers dk round callers hp P rec => step P rec ⟨⟨fn, env, .beginRound :: k, defers, .run, dk, round⟩, callers, hp⟩)
    (fun _ _ _ _ _ _ _ _ _ _ _ => .fail "inRange")
    (fun l k fn env defers dk round callers hp P rec => step P rec ⟨⟨fn, env, .endRange l :: k, defers, .run, dk, round⟩, callers, hp⟩) x

noncomputable def runG (x : List Item) : FuncId → T AV → List AD → Bool → Option Pos → List Fr → Hp → Program → (St → Out) → Out :=
  List.rec (motive := fun _ => FuncId → T AV → List AD → Bool → Option Pos → List Fr → Hp → Program → (St → Out) → Out)
    (fun fn env defers dk round callers hp _ _ => backG fn env [] defers dk round callers hp none)
    (fun x k _ fn env defers dk round callers hp P rec => itemG x k fn env defers dk round callers hp P rec) x

noncomputable def noneG (x : Option Pos) : Out → Out → Out :=
  Option.rec (motive := fun _ => Out → Out → Out)
    (fun _ yes => yes)
    (fun _ no _ => no) x

noncomputable def resG (fn : FuncId) (P : Program) (env : T AV) (hp : Hp) : Option (List AV) :=
  match compFn P fn with
  | some fu => mapO (result1 env hp) fu.results
  | none => none

noncomputable def valsG (x : Option (List AV)) : Out → List Fr → Hp → Out :=
  Option.rec (motive := fun _ => Out → List Fr → Hp → Out)
    (fun no _ _ => no)
    (fun vs _ callers hp => backTo (tupleA vs) callers hp) x

noncomputable def dkG (x : Bool) : Out → Out → Out :=
  Bool.rec (motive := fun _ => Out → Out → Out)
    (fun _ yes => yes)
    (fun no _ => no) x

noncomputable def defG (x : List AD) : Out → Out → Out :=
  List.rec (motive := fun _ => Out → Out → Out)
    (fun _ yes => yes)
    (fun _ _ _ no _ => no) x

noncomputable def unwindG (P : Program) (fn : FuncId) (env : T AV) (todo : List Item) (defers : List AD) (dk : Bool) (round : Option Pos) (callers : List Fr) (hp : Hp) : Out :=
  defG defers (unwindA P ⟨⟨fn, env, todo, defers, .ret, dk, round⟩, callers, hp⟩) (noneG round (unwindA P ⟨⟨fn, env, todo, defers, .ret, dk, round⟩, callers, hp⟩)
    (dkG dk (unwindA P ⟨⟨fn, env, todo, defers, .ret, dk, round⟩, callers, hp⟩) (valsG (resG fn P env hp) (unwindA P ⟨⟨fn, env, todo, defers, .ret, dk, round⟩, callers, hp⟩) callers hp)))

noncomputable def stepF (P : Program) (rec : St → Out) (s : St) : Out :=
  St.rec (motive := fun _ => Program → (St → Out) → Out) (fun cur callers hp P rec =>
    Fr.rec (motive := fun _ => List Fr → Hp → Program → (St → Out) → Out) (fun fn env todo defers mode dk round callers hp P rec =>
      Md.rec (motive := fun _ => FuncId → T AV → List Item → List AD → Bool → Option Pos → List Fr → Hp → Program → (St → Out) → Out)
        (fun fn env todo defers dk round callers hp P rec => runG todo fn env defers dk round callers hp P rec)
        (fun fn env todo defers dk round callers hp P _ => unwindG P fn env todo defers dk round callers hp)
        (fun v r fn env todo defers dk round callers hp P _ => panA P ⟨⟨fn, env, todo, defers, .pan v r, dk, round⟩, callers, hp⟩ v r)
        mode fn env todo defers dk round callers hp P rec) cur callers hp P rec) s P rec

theorem unwindG_eq (P : Program) (fn : FuncId) (env : T AV) (todo : List Item) (defers : List AD) (dk : Bool) (round : Option Pos) (callers : List Fr) (hp : Hp) :
    unwindG P fn env todo defers dk round callers hp = unwindA P ⟨⟨fn, env, todo, defers, .ret, dk, round⟩, callers, hp⟩ := by
  unfold unwindG
  cases defers with
  | cons d ds => rfl
  | nil => cases round with
    | some l => rfl
    | none => cases dk with
      | true => rfl
      | false =>
        show valsG (resG fn P env hp) _ callers hp = _
        generalize e0 : unwindA P ⟨⟨fn, env, todo, [], .ret, false, none⟩, callers, hp⟩ = r
        unfold unwindA at e0
        simp only at e0
        unfold resG
        cases hc : compFn P fn with
        | none => rfl
        | some fu =>
          rw [hc] at e0
          simp only at e0 ⊢
          cases hm : mapO (result1 env hp) fu.results with
          | none => rfl
          | some vs => rw [hm] at e0; exact e0

theorem giveG_eq (d : Option Pos) (v : AV) (td : List Item) (fn : FuncId) (env : T AV) (defers : List AD) (dk : Bool) (round : Option Pos) (callers : List Fr) (hp : Hp) :
    giveG d v td fn env defers dk round callers hp = (match d with | some d => T.setK d (some v) env fun env => .next ⟨⟨fn, env, td, defers, .run, dk, round⟩, callers, hp⟩ | none => .next ⟨⟨fn, env, td, defers, .run, dk, round⟩, callers, hp⟩) := by
  cases d with
  | none => rfl
  | some d => exact (setV_eq _ _ _ _).trans (T.setK_eq _ _ _ _).symm

theorem stepF_eq (P : Program) (rec : St → Out) (s : St) : stepF P rec s = step P rec s := by
  obtain ⟨⟨fn, env, todo, defers, mode, dk, round⟩, callers, hp⟩ := s
  cases mode with
  | ret => exact unwindG_eq P fn env todo defers dk round callers hp
  | pan v r => rfl
  | run =>
    cases todo with
    | nil => cases round <;> rfl
    | cons x k =>
      cases x with
      | code c =>
        cases c with
        | drawn ops =>
          show drawnGoF P (recJ P rec) _ _ 0 [] [] [] hp.next env ⟨hp.heap, skipIds ops hp.next, hp.ser, hp.lim⟩ ops = _
          rw [drawnGoF_eq]
          rfl
        | ret => cases round <;> rfl
        | cond c a b =>
          show ifW (evM c env) _ _ _ = (match ev env c with | .bool true => _ | .bool false => _ | _ => .fail "cond")
          rw [evM_eq]
          cases ev env c with
          | bool t => cases t <;> rfl
          | _ => rfl
        | exit id =>
          show exitG (exitA id k) id k fn env defers dk round callers hp = (match exitA id k with | some k => _ | none => _)
          cases exitA id k with
          | some k2 => rfl
          | none => cases round <;> rfl
        | _ => rfl
      | ops l =>
        cases l with
        | nil => rfl
        | cons o l =>
          show okG o.ok o l k fn env defers dk round callers hp P rec = (bif !o.ok then .fail "slot" else _)
          cases ho : o.ok with
          | false => rfl
          | true =>
            show wantG (wantedAF o env) o l k fn env defers dk round callers hp P rec = _
            rw [wantedAF_eq]
            cases hw : wantedA o env with
            | false =>
              show giveG o.dst .undef (.ops l :: k) fn env defers dk round callers hp = _
              rw [giveG_eq]
              simp only [cond_true, cond_false, Bool.not_true, give, ho]
              cases o.dst <;> rfl
            | true =>
              show applyG (evalF P o.op env hp) o l k fn env defers dk round callers hp P rec = _
              rw [evalF_eq]
              simp only [cond_true, cond_false, Bool.not_true]
              cases evalOp P o.op env hp with
              | val v h =>
                show giveG o.dst v (.ops l :: k) fn env defers dk round callers h = _
                rw [giveG_eq]
                simp only [applyJ, apply, give, ho, cond_true]
                cases o.dst <;> rfl
              | _ => rfl
      | _ => rfl
end Go.Proofs.YtialpccieggaoaaGreatDoor.Am

namespace Go.Proofs.YtialpccieggaoaaGreatDoor.Am
open Go.RowKit

/-- Steps that turn what is to be done, and nothing else. -/
noncomputable def ctl (env : T AV) (kont : List Item → Out) : Nat → List Item → Out
  | 0, td => kont td
  | _ + 1, [] => kont []
  | n + 1, x :: k => match x with
    | .inBlock _ => ctl env kont n k
    | .inScope _ => ctl env kont n k
    | .inLoop b => ctl env kont n (.code b :: .inLoop b :: k)
    | .ops [] => ctl env kont n k
    | .code c => (match c with
      | .skip => ctl env kont n k
      | .label _ => ctl env kont n k
      | .seq a b => ctl env kont n (.code a :: .code b :: k)
      | .cond c a b => (match ev env c with
        | .bool true => ctl env kont n (.code a :: k)
        | .bool false => ctl env kont n (.code b :: k)
        | _ => .fail "cond")
      | .block id b => ctl env kont n (.code b :: .inBlock id :: k)
      | .loop b => ctl env kont n (.code b :: .inLoop b :: k)
      | .scope b => ctl env kont n (.code b :: .inScope b :: k)
      | .exit id => (match exitA id k with
        | some k => ctl env kont n k
        | none => kont (.code (.exit id) :: k))
      | .region ops => ctl env kont n (.ops ops :: k)
      | c => kont (.code c :: k))
    | x => kont (x :: k)

noncomputable def stepM (P : Program) (rec : St → Out) (s : St) : Out :=
  match s with
  | ⟨⟨fn, env, todo, defers, .run, dk, round⟩, callers, h⟩ => ctl env (fun td => stepF P rec ⟨⟨fn, env, td, defers, .run, dk, round⟩, callers, h⟩) 200 todo
  | s => stepF P rec s

theorem chain {P : Program} {rec : St → Out} (hrec : Sound P rec) {φ : Phi} {w : World} {g : Frame} {cs c0 : List Frame} {s s' : St} {r : Out} (hR : HR P φ s.hp w) (hz : s.hp.lim = 0) (hF : FrR P φ s.cur g) (hC : FrsR P φ s.callers cs)
    (e : step P rec s = .next s') (hn : ∀ (φ' : Phi) (w' : World) (g' : Frame) (cs' : List Frame), HR P φ' s'.hp w' → s'.hp.lim = 0 → FrR P φ' s'.cur g' → FrsR P φ' s'.callers cs' → OutR P c0 φ' s' g' cs' w' r) : OutR P c0 φ s g cs w r := by
  have q := step_sound (c0 := c0) hrec hR hz hF hC
  rw [e] at q
  obtain ⟨g', cs', w', φ', q1, q2, q3, q4, q5, q6, q7⟩ := q
  exact OutR.then hR hz q1 q5 q6 q7 (hn φ' w' g' cs' q2 (q5.lim.trans hz) q3 q4)

theorem ctl_sound {P : Program} {rec : St → Out} (hrec : Sound P rec) {st : St → Out} (hst : Sounds P st) {fn : FuncId} {env : T AV} {defers : List AD} {dk : Bool} {round : Option Pos} {callers : List Fr} {h : Hp} {c0 : List Frame} :
    ∀ (n : Nat) (td : List Item) (φ : Phi) (w : World) (g : Frame) (cs : List Frame), HR P φ h w → h.lim = 0 → FrR P φ ⟨fn, env, td, defers, .run, dk, round⟩ g → FrsR P φ callers cs →
      OutR P c0 φ ⟨⟨fn, env, td, defers, .run, dk, round⟩, callers, h⟩ g cs w (ctl env (fun td => st ⟨⟨fn, env, td, defers, .run, dk, round⟩, callers, h⟩) n td)
  | 0, td, φ, w, g, cs, hR, hz, hF, hC => hst _ φ w g cs c0 hR hz hF hC
  | n + 1, [], φ, w, g, cs, hR, hz, hF, hC => hst _ φ w g cs c0 hR hz hF hC
  | n + 1, x :: k, φ, w, g, cs, hR, hz, hF, hC => by
    have stop : OutR P c0 φ ⟨⟨fn, env, x :: k, defers, .run, dk, round⟩, callers, h⟩ g cs w (st ⟨⟨fn, env, x :: k, defers, .run, dk, round⟩, callers, h⟩) := hst _ φ w g cs c0 hR hz hF hC
    have go : ∀ td', step P rec ⟨⟨fn, env, x :: k, defers, .run, dk, round⟩, callers, h⟩ = .next ⟨⟨fn, env, td', defers, .run, dk, round⟩, callers, h⟩ →
        OutR P c0 φ ⟨⟨fn, env, x :: k, defers, .run, dk, round⟩, callers, h⟩ g cs w (ctl env (fun td => st ⟨⟨fn, env, td, defers, .run, dk, round⟩, callers, h⟩) n td') := by
      intro td' e
      exact chain (s := ⟨⟨fn, env, x :: k, defers, .run, dk, round⟩, callers, h⟩) hrec hR hz hF hC e fun φ' w' g' cs' r1 r2 r3 r4 => ctl_sound hrec hst n td' φ' w' g' cs' r1 r2 r3 r4
    unfold ctl
    cases x with
    | inBlock i => exact go k rfl
    | inScope b => exact go k rfl
    | inLoop b => exact go _ rfl
    | ops l => cases l with
      | nil => exact go k rfl
      | cons o l => exact stop
    | code c =>
      cases c with
      | skip => exact go k rfl
      | label l => exact go k rfl
      | seq a b => exact go _ rfl
      | block id b => exact go _ rfl
      | loop b => exact go _ rfl
      | scope b => exact go _ rfl
      | region ops => exact go _ rfl
      | cond c a b =>
        simp only
        split
        · rename_i e; exact go _ (by unfold step; simp only [e])
        · rename_i e; exact go _ (by unfold step; simp only [e])
        · trivial
      | exit id =>
        simp only
        split
        · rename_i k' e; exact go _ (by unfold step; simp only [e])
        · exact stop
      | _ => exact stop
    | _ => exact stop

theorem stepM_sounds {P : Program} {rec : St → Out} (hrec : Sound P rec) : Sounds P (stepM P rec) := by
  have hF : Sounds P (stepF P rec) := fun s φ w g cs c0 a b c d => by
    rw [stepF_eq]
    exact step_sound hrec a b c d
  intro s φ w g cs c0 hR hz hFr hC
  unfold stepM
  split
  · exact ctl_sound hrec hF _ _ _ _ _ _ hR hz hFr hC
  · exact hF s φ w g cs c0 hR hz hFr hC

noncomputable def runM (P : Program) : Nat → St → Out
  | 0, _ => .fail "depth"
  | d + 1, s => pow (stepM P (runM P d)) 30 s

theorem runM_sounds (P : Program) : ∀ d, Sounds P (runM P d)
  | 0 => fun _ _ _ _ _ _ _ _ _ _ => trivial
  | d + 1 => pow_sounds (stepM_sounds (runM_sounds P d).sound) 30

end Go.Proofs.YtialpccieggaoaaGreatDoor.Am

namespace Go.Proofs.YtialpccieggaoaaGreatDoor.Am

noncomputable def ifT (x : Bool) : Out → Out → Out :=
  Bool.rec (motive := fun _ => Out → Out → Out)
    (fun no _ => no)
    (fun _ yes => yes) x

noncomputable def boolT (x : Bool) : (AV → Out) → Out :=
  Bool.rec (motive := fun _ => (AV → Out) → Out)
    (fun ok => ok (.bool false))
    (fun ok => ok (.bool true)) x

noncomputable def boolN (x : Bool) : (AV → Out) → Out :=
  Bool.rec (motive := fun _ => (AV → Out) → Out)
    (fun ok => ok (.bool true))
    (fun ok => ok (.bool false)) x

noncomputable def natI (x : Nat) : IntKind → (AV → Out) → Out :=
  Nat.rec (motive := fun _ => IntKind → (AV → Out) → Out)
    (fun k ok => ok (.int k (.ofNat 0)))
    (fun n _ k ok => ok (.int k (.ofNat (Nat.succ n)))) x

noncomputable def natP (x : Nat) : Pos → Nat → (AV → Out) → Out :=
  Nat.rec (motive := fun _ => Pos → Nat → (AV → Out) → Out)
    (fun id g ok => ok (.ptr id g 0))
    (fun n _ id g ok => ok (.ptr id g (Nat.succ n))) x

noncomputable def natC (x : Nat) : (Nat → Out) → Out :=
  Nat.rec (motive := fun _ => (Nat → Out) → Out)
    (fun k => k 0)
    (fun n _ k => k (Nat.succ n)) x

noncomputable def sameT (x : IntKind) : IntKind → Out → Out → Out :=
  IntKind.rec (motive := fun _ => IntKind → Out → Out → Out)
    (fun k2 no yes => IntKind.rec (motive := fun _ => Out → Out → Out) (fun _ yes => yes) (fun no _ => no) (fun no _ => no) (fun no _ => no) (fun no _ => no) (fun no _ => no) (fun no _ => no) (fun no _ => no) k2 no yes)
    (fun k2 no yes => IntKind.rec (motive := fun _ => Out → Out → Out) (fun no _ => no) (fun _ yes => yes) (fun no _ => no) (fun no _ => no) (fun no _ => no) (fun no _ => no) (fun no _ => no) (fun no _ => no) k2 no yes)
    (fun k2 no yes => IntKind.rec (motive := fun _ => Out → Out → Out) (fun no _ => no) (fun no _ => no) (fun _ yes => yes) (fun no _ => no) (fun no _ => no) (fun no _ => no) (fun no _ => no) (fun no _ => no) k2 no yes)
    (fun k2 no yes => IntKind.rec (motive := fun _ => Out → Out → Out) (fun no _ => no) (fun no _ => no) (fun no _ => no) (fun _ yes => yes) (fun no _ => no) (fun no _ => no) (fun no _ => no) (fun no _ => no) k2 no yes)
    (fun k2 no yes => IntKind.rec (motive := fun _ => Out → Out → Out) (fun no _ => no) (fun no _ => no) (fun no _ => no) (fun no _ => no) (fun _ yes => yes) (fun no _ => no) (fun no _ => no) (fun no _ => no) k2 no yes)
    (fun k2 no yes => IntKind.rec (motive := fun _ => Out → Out → Out) (fun no _ => no) (fun no _ => no) (fun no _ => no) (fun no _ => no) (fun no _ => no) (fun _ yes => yes) (fun no _ => no) (fun no _ => no) k2 no yes)
    (fun k2 no yes => IntKind.rec (motive := fun _ => Out → Out → Out) (fun no _ => no) (fun no _ => no) (fun no _ => no) (fun no _ => no) (fun no _ => no) (fun no _ => no) (fun _ yes => yes) (fun no _ => no) k2 no yes)
    (fun k2 no yes => IntKind.rec (motive := fun _ => Out → Out → Out) (fun no _ => no) (fun no _ => no) (fun no _ => no) (fun no _ => no) (fun no _ => no) (fun no _ => no) (fun no _ => no) (fun _ yes => yes) k2 no yes) x

noncomputable def wrapT (x : IntKind) : Nat → Out → (AV → Out) → Out :=
  IntKind.rec (motive := fun _ => Nat → Out → (AV → Out) → Out)
    (fun _ no _ => no)
    (fun _ no _ => no)
    (fun _ no _ => no)
    (fun s no ok => ifT (Nat.ble s i64max) no (natI s .i64 ok))
    (fun s _ ok => natI (Nat.mod s 256) .u8 ok)
    (fun _ no _ => no)
    (fun s _ ok => natI (Nat.mod s 4294967296) .u32 ok)
    (fun s _ ok => natI (Nat.mod s 18446744073709551616) .u64 ok) x

noncomputable def topT (x : IntKind) : Nat → Nat → Out → Out → Out :=
  IntKind.rec (motive := fun _ => Nat → Nat → Out → Out → Out)
    (fun _ _ no _ => no)
    (fun _ _ no _ => no)
    (fun m n no yes => ifT (Nat.ble m 2147483647) no (ifT (Nat.ble n 2147483647) no yes))
    (fun m n no yes => ifT (Nat.ble m 9223372036854775807) no (ifT (Nat.ble n 9223372036854775807) no yes))
    (fun m n no yes => ifT (Nat.ble m 255) no (ifT (Nat.ble n 255) no yes))
    (fun _ _ no _ => no)
    (fun m n no yes => ifT (Nat.ble m 4294967295) no (ifT (Nat.ble n 4294967295) no yes))
    (fun m n no yes => ifT (Nat.ble m 18446744073709551615) no (ifT (Nat.ble n 18446744073709551615) no yes)) x

noncomputable def bitsT (x : IntKind) : Nat :=
  IntKind.rec (motive := fun _ => Nat)
    (8)
    (16)
    (32)
    (64)
    (8)
    (16)
    (32)
    (64) x

noncomputable def binO (x : BinOp) : IntKind → IntKind → Nat → Nat → Out → (AV → Out) → Out :=
  BinOp.rec (motive := fun _ => IntKind → IntKind → Nat → Nat → Out → (AV → Out) → Out)
    (fun k k2 m n no ok => sameT k k2 no (wrapT k (Nat.add m n) no ok))
    (fun k k2 m n no ok => sameT k k2 no (ifT (Nat.ble n m) no (wrapT k (Nat.sub m n) no ok)))
    (fun k k2 m n no ok => sameT k k2 no (wrapT k (Nat.mul m n) no ok))
    (fun k k2 m n no ok => sameT k k2 no (ifT (Nat.ble 1 n) no (wrapT k (Nat.div m n) no ok)))
    (fun k k2 m n no ok => sameT k k2 no (ifT (Nat.ble 1 n) no (natI (Nat.mod m n) k ok)))
    (fun k k2 m n no ok => sameT k k2 no (topT k m n no (natI (Nat.land m n) k ok)))
    (fun k k2 m n no ok => sameT k k2 no (topT k m n no (natI (Nat.lor m n) k ok)))
    (fun k k2 m n no ok => sameT k k2 no (topT k m n no (natI (Nat.xor m n) k ok)))
    (fun k _ m n no ok => ifT (Nat.ble n (bitsT k)) no (wrapT k (Nat.mul m (Nat.pow 2 n)) no ok))
    (fun k _ m n no ok => ifT (Nat.ble n (bitsT k)) no (natI (Nat.div m (Nat.pow 2 n)) k ok))
    (fun _ _ _ _ no _ => no)
    (fun k k2 m n no ok => sameT k k2 no (boolT (Nat.beq m n) ok))
    (fun k k2 m n no ok => sameT k k2 no (boolN (Nat.beq m n) ok))
    (fun k k2 m n no ok => sameT k k2 no (boolT (Nat.ble (Nat.succ m) n) ok))
    (fun k k2 m n no ok => sameT k k2 no (boolT (Nat.ble m n) ok))
    (fun k k2 m n no ok => sameT k k2 no (boolT (Nat.ble (Nat.succ n) m) ok))
    (fun k k2 m n no ok => sameT k k2 no (boolT (Nat.ble n m) ok)) x

noncomputable def binN2 (x : Int) : BinOp → IntKind → IntKind → Nat → Out → (AV → Out) → Out :=
  Int.rec (motive := fun _ => BinOp → IntKind → IntKind → Nat → Out → (AV → Out) → Out)
    (fun n op k k2 m no ok => binO op k k2 m n no ok)
    (fun _ _ _ _ _ no _ => no) x

noncomputable def binN (x : Int) : Int → BinOp → IntKind → IntKind → Out → (AV → Out) → Out :=
  Int.rec (motive := fun _ => Int → BinOp → IntKind → IntKind → Out → (AV → Out) → Out)
    (fun n b op k k2 no ok => binN2 b op k k2 n no ok)
    (fun _ _ _ _ _ no _ => no) x

noncomputable def binI (x : AV) : BinOp → IntKind → Int → Out → (AV → Out) → Out :=
  AV.rec (motive_1 := fun _ => BinOp → IntKind → Int → Out → (AV → Out) → Out) (motive_2 := fun _ => Unit)
    (fun _ _ _ _ no _ => no)
    (fun k2 b op k a no ok => binN a b op k k2 no ok)
    (fun _ _ _ _ _ no _ => no)
    (fun _ _ _ _ _ _ no _ => no)
    (fun _ _ _ no _ => no)
    (fun _ _ _ _ _ _ _ _ _ _ no _ => no)
    (fun _ _ _ no _ => no)
    (fun _ _ _ _ no _ => no)
    (fun _ _ _ no _ => no)
    (fun _ _ _ _ _ _ _ _ no _ => no)
    (fun _ _ _ _ no _ => no)
    (fun _ _ _ no _ => no)
    (fun _ _ _ _ _ _ no _ => no)
    (fun _ _ _ no _ => no)
    (fun _ _ _ _ _ no _ => no)
    (fun _ _ _ _ _ no _ => no)
    (fun _ _ _ no _ => no)
    (fun _ _ _ _ _ no _ => no)
    ()
    (fun _ _ _ _ => ()) x

noncomputable def natS (x : Nat) : Nat → (AV → Out) → Out :=
  Nat.rec (motive := fun _ => Nat → (AV → Out) → Out)
    (fun l ok => ok (.str l 0))
    (fun n _ l ok => ok (.str l (Nat.succ n))) x

noncomputable def natL (x : Nat) : Nat → (AV → Out) → Out :=
  Nat.rec (motive := fun _ => Nat → (AV → Out) → Out)
    (fun r ok => natS r 0 ok)
    (fun n _ r ok => natS r (Nat.succ n) ok) x

noncomputable def strO (x : BinOp) : Nat → Nat → Nat → Nat → Out → (AV → Out) → Out :=
  BinOp.rec (motive := fun _ => Nat → Nat → Nat → Nat → Out → (AV → Out) → Out)
    (fun n v m u no ok => ifT (Nat.ble (Nat.add n m) i64max) no (natL (Nat.add n m) (Nat.add (Nat.mul v (Nat.pow 256 m)) u) ok))
    (fun _ _ _ _ no _ => no)
    (fun _ _ _ _ no _ => no)
    (fun _ _ _ _ no _ => no)
    (fun _ _ _ _ no _ => no)
    (fun _ _ _ _ no _ => no)
    (fun _ _ _ _ no _ => no)
    (fun _ _ _ _ no _ => no)
    (fun _ _ _ _ no _ => no)
    (fun _ _ _ _ no _ => no)
    (fun _ _ _ _ no _ => no)
    (fun n v m u _ ok => ifT (Nat.beq n m) (ok (.bool false)) (boolT (Nat.beq v u) ok))
    (fun n v m u _ ok => ifT (Nat.beq n m) (ok (.bool true)) (boolN (Nat.beq v u) ok))
    (fun _ _ _ _ no _ => no)
    (fun _ _ _ _ no _ => no)
    (fun _ _ _ _ no _ => no)
    (fun _ _ _ _ no _ => no) x

noncomputable def binS (x : AV) : BinOp → Nat → Nat → Out → (AV → Out) → Out :=
  AV.rec (motive_1 := fun _ => BinOp → Nat → Nat → Out → (AV → Out) → Out) (motive_2 := fun _ => Unit)
    (fun _ _ _ _ no _ => no)
    (fun _ _ _ _ _ no _ => no)
    (fun m u op n v no ok => strO op n v m u no ok)
    (fun _ _ _ _ _ _ no _ => no)
    (fun _ _ _ no _ => no)
    (fun _ _ _ _ _ _ _ _ _ _ no _ => no)
    (fun _ _ _ no _ => no)
    (fun _ _ _ _ no _ => no)
    (fun _ _ _ no _ => no)
    (fun _ _ _ _ _ _ _ _ no _ => no)
    (fun _ _ _ _ no _ => no)
    (fun _ _ _ no _ => no)
    (fun _ _ _ _ _ _ no _ => no)
    (fun _ _ _ no _ => no)
    (fun _ _ _ _ _ no _ => no)
    (fun _ _ _ _ _ no _ => no)
    (fun _ _ _ no _ => no)
    (fun _ _ _ _ _ no _ => no)
    ()
    (fun _ _ _ _ => ()) x

noncomputable def binT (x : AV) : AV → BinOp → Out → (AV → Out) → Out :=
  AV.rec (motive_1 := fun _ => AV → BinOp → Out → (AV → Out) → Out) (motive_2 := fun _ => Unit)
    (fun _ _ _ no _ => no)
    (fun k n y op no ok => binI y op k n no ok)
    (fun n v y op no ok => binS y op n v no ok)
    (fun _ _ _ _ _ no _ => no)
    (fun _ _ no _ => no)
    (fun _ _ _ _ _ _ _ _ _ no _ => no)
    (fun _ _ no _ => no)
    (fun _ _ _ no _ => no)
    (fun _ _ no _ => no)
    (fun _ _ _ _ _ _ _ no _ => no)
    (fun _ _ _ no _ => no)
    (fun _ _ no _ => no)
    (fun _ _ _ _ _ no _ => no)
    (fun _ _ no _ => no)
    (fun _ _ _ _ no _ => no)
    (fun _ _ _ _ no _ => no)
    (fun _ _ no _ => no)
    (fun _ _ _ _ no _ => no)
    ()
    (fun _ _ _ _ => ()) x

noncomputable def nthT (x : List AV) : Nat → Out → (AV → Out) → Out :=
  List.rec (motive := fun _ => Nat → Out → (AV → Out) → Out)
    (fun _ no _ => no)
    (fun x _ ih off no ok => Nat.rec (motive := fun _ => AV → (Nat → Out → (AV → Out) → Out) → Out → (AV → Out) → Out) (fun x _ _ ok => ok x) (fun j _ _ ih no ok => ih j no ok) off x ih no ok) x

noncomputable def cellT (x : Cells) : Nat → Out → (AV → Out) → Out :=
  Cells.rec (motive := fun _ => Nat → Out → (AV → Out) → Out)
    (fun n l off no ok => ifT (Nat.ble (Nat.succ off) n) no (nthT l off no ok))
    (fun n v off no ok => ifT (Nat.ble (Nat.succ off) n) no (natI (byteAt n v off) .u8 ok)) x

noncomputable def cellsT (x : Blk) : Nat → Nat → Out → (AV → Out) → Out :=
  Blk.rec (motive := fun _ => Nat → Nat → Out → (AV → Out) → Out)
    (fun _ c lo _ g _ _ _ gg off no ok => ifT (Nat.beq gg g) no (ifT (Nat.ble lo off) no (cellT c off no ok)))
    (fun _ _ _ _ _ _ no _ => no)
    (fun _ _ _ _ _ _ _ no _ => no)
    (fun _ _ _ _ _ no _ => no)
    (fun _ _ _ _ _ _ _ _ _ _ _ no _ => no)
    (fun _ _ _ no _ => no) x

noncomputable def blkT (x : Option Blk) : Nat → Nat → Out → (AV → Out) → Out :=
  Option.rec (motive := fun _ => Nat → Nat → Out → (AV → Out) → Out)
    (fun _ _ no _ => no)
    (fun v g off no ok => cellsT v g off no ok) x

noncomputable def loadT (x : AV) : Hp → Out → (AV → Out) → Out :=
  AV.rec (motive_1 := fun _ => Hp → Out → (AV → Out) → Out) (motive_2 := fun _ => Unit)
    (fun _ _ no _ => no)
    (fun _ _ _ no _ => no)
    (fun _ _ _ no _ => no)
    (fun id g off h no ok => blkT (getB id h.heap) g off no ok)
    (fun _ no _ => no)
    (fun _ _ _ _ _ _ _ _ no _ => no)
    (fun _ no _ => no)
    (fun _ _ no _ => no)
    (fun _ no _ => no)
    (fun _ _ _ _ _ _ no _ => no)
    (fun _ _ no _ => no)
    (fun _ no _ => no)
    (fun _ _ _ _ no _ => no)
    (fun _ no _ => no)
    (fun _ _ _ no _ => no)
    (fun _ _ _ no _ => no)
    (fun _ no _ => no)
    (fun _ _ _ no _ => no)
    ()
    (fun _ _ _ _ => ()) x

noncomputable def atomT (x : AV) : Out → Out → Out :=
  AV.rec (motive_1 := fun _ => Out → Out → Out) (motive_2 := fun _ => Unit)
    (fun _ _ yes => yes)
    (fun _ _ _ yes => yes)
    (fun _ _ _ yes => yes)
    (fun _ _ _ _ yes => yes)
    (fun _ yes => yes)
    (fun _ _ _ _ _ _ _ _ yes => yes)
    (fun _ yes => yes)
    (fun _ _ yes => yes)
    (fun _ yes => yes)
    (fun _ _ _ _ _ _ yes => yes)
    (fun _ _ yes => yes)
    (fun _ yes => yes)
    (fun _ _ _ _ yes => yes)
    (fun _ yes => yes)
    (fun _ _ no _ => no)
    (fun _ _ no _ => no)
    (fun _ yes => yes)
    (fun _ _ _ yes => yes)
    ()
    (fun _ _ _ _ => ()) x

noncomputable def hpK (h : Hp) (ok : Hp → Out) (t : T Blk) : Out := ok ⟨t, h.next, h.ser, h.lim⟩

noncomputable def size1 (x : Cells) : Out → Out → Out :=
  Cells.rec (motive := fun _ => Out → Out → Out)
    (fun n _ no yes => ifT (Nat.beq n 1) no yes)
    (fun n _ no yes => ifT (Nat.beq n 1) no yes) x

noncomputable def notT (x : Bool) : Out → Out → Out :=
  Bool.rec (motive := fun _ => Out → Out → Out)
    (fun _ yes => yes)
    (fun no _ => no) x

noncomputable def cellsS (x : Blk) : Pos → Nat → Nat → AV → Hp → Out → (Hp → Out) → Out :=
  Blk.rec (motive := fun _ => Pos → Nat → Nat → AV → Hp → Out → (Hp → Out) → Out)
    (fun ser c lo hi g m ro fz id gg off x h no ok => notT ro no (ifT (Nat.beq gg g) no (ifT (Nat.beq lo 0) no (ifT (Nat.beq off 0) no (ifT (Nat.beq hi 0) no (size1 c no (atomT x no (setB id (some (.cells ser (Cells.ofL [x]) lo hi g m ro fz)) h.heap (hpK h ok)))))))))
    (fun _ _ _ _ _ _ _ _ _ no _ => no)
    (fun _ _ _ _ _ _ _ _ _ _ no _ => no)
    (fun _ _ _ _ _ _ _ _ no _ => no)
    (fun _ _ _ _ _ _ _ _ _ _ _ _ _ _ no _ => no)
    (fun _ _ _ _ _ _ no _ => no) x

noncomputable def blkS (x : Option Blk) : Pos → Nat → Nat → AV → Hp → Out → (Hp → Out) → Out :=
  Option.rec (motive := fun _ => Pos → Nat → Nat → AV → Hp → Out → (Hp → Out) → Out)
    (fun _ _ _ _ _ no _ => no)
    (fun v id g off x h no ok => cellsS v id g off x h no ok) x

noncomputable def storeT (x : AV) : AV → Hp → Out → (Hp → Out) → Out :=
  AV.rec (motive_1 := fun _ => AV → Hp → Out → (Hp → Out) → Out) (motive_2 := fun _ => Unit)
    (fun _ _ _ no _ => no)
    (fun _ _ _ _ no _ => no)
    (fun _ _ _ _ no _ => no)
    (fun id g off x h no ok => blkS (getB id h.heap) id g off x h no ok)
    (fun _ _ no _ => no)
    (fun _ _ _ _ _ _ _ _ _ no _ => no)
    (fun _ _ no _ => no)
    (fun _ _ _ no _ => no)
    (fun _ _ no _ => no)
    (fun _ _ _ _ _ _ _ no _ => no)
    (fun _ _ _ no _ => no)
    (fun _ _ no _ => no)
    (fun _ _ _ _ _ no _ => no)
    (fun _ _ no _ => no)
    (fun _ _ _ _ no _ => no)
    (fun _ _ _ _ no _ => no)
    (fun _ _ no _ => no)
    (fun _ _ _ _ no _ => no)
    ()
    (fun _ _ _ _ => ()) x

noncomputable def natX (x : Nat) : (Nat → Out) → Out :=
  Nat.rec (motive := fun _ => (Nat → Out) → Out)
    (fun k => k 0)
    (fun n _ k => k (Nat.succ n)) x

noncomputable def hpN (h : Hp) (ok : AV → Hp → Out) (t : T Blk) (s : Nat) : Out := ok (.ptr h.next 0 0) ⟨t, h.next.succ, s, h.lim⟩

noncomputable def hpM (h : Hp) (ok : AV → Hp → Out) (t : T Blk) : Out := natX (Nat.succ h.ser) (hpN h ok t)

noncomputable def newT (s : Nat) (c : Cells) (h : Hp) (ok : AV → Hp → Out) : Out := setB h.next (some (.cells s c 0 0 0 0 false false)) h.heap (hpM h ok)

noncomputable def idxI (x : Int) : Pos → Nat → Nat → Nat → Nat → Out → (AV → Out) → Out :=
  Int.rec (motive := fun _ => Pos → Nat → Nat → Nat → Nat → Out → (AV → Out) → Out)
    (fun n id g off len es no ok => ifT (Nat.ble (Nat.succ n) len) no (natP (Nat.add off (Nat.mul n es)) id g ok))
    (fun _ _ _ _ _ _ no _ => no) x

noncomputable def idxV (x : AV) : Pos → Nat → Nat → Nat → Nat → Out → (AV → Out) → Out :=
  AV.rec (motive_1 := fun _ => Pos → Nat → Nat → Nat → Nat → Out → (AV → Out) → Out) (motive_2 := fun _ => Unit)
    (fun _ _ _ _ _ _ no _ => no)
    (fun _ n id g off len es no ok => idxI n id g off len es no ok)
    (fun _ _ _ _ _ _ _ no _ => no)
    (fun _ _ _ _ _ _ _ _ no _ => no)
    (fun _ _ _ _ _ no _ => no)
    (fun _ _ _ _ _ _ _ _ _ _ _ _ no _ => no)
    (fun _ _ _ _ _ no _ => no)
    (fun _ _ _ _ _ _ no _ => no)
    (fun _ _ _ _ _ no _ => no)
    (fun _ _ _ _ _ _ _ _ _ _ no _ => no)
    (fun _ _ _ _ _ _ no _ => no)
    (fun _ _ _ _ _ no _ => no)
    (fun _ _ _ _ _ _ _ _ no _ => no)
    (fun _ _ _ _ _ no _ => no)
    (fun _ _ _ _ _ _ _ no _ => no)
    (fun _ _ _ _ _ _ _ no _ => no)
    (fun _ _ _ _ _ no _ => no)
    (fun _ _ _ _ _ _ _ no _ => no)
    ()
    (fun _ _ _ _ => ()) x

noncomputable def idxArrT (x : AV) : AV → Nat → Nat → Out → (AV → Out) → Out :=
  AV.rec (motive_1 := fun _ => AV → Nat → Nat → Out → (AV → Out) → Out) (motive_2 := fun _ => Unit)
    (fun _ _ _ _ no _ => no)
    (fun _ _ _ _ _ no _ => no)
    (fun _ _ _ _ _ no _ => no)
    (fun id g off i len es no ok => idxV i id g off len es no ok)
    (fun _ _ _ no _ => no)
    (fun _ _ _ _ _ _ _ _ _ _ no _ => no)
    (fun _ _ _ no _ => no)
    (fun _ _ _ _ no _ => no)
    (fun _ _ _ no _ => no)
    (fun _ _ _ _ _ _ _ _ no _ => no)
    (fun _ _ _ _ no _ => no)
    (fun _ _ _ no _ => no)
    (fun _ _ _ _ _ _ no _ => no)
    (fun _ _ _ no _ => no)
    (fun _ _ _ _ _ no _ => no)
    (fun _ _ _ _ _ no _ => no)
    (fun _ _ _ no _ => no)
    (fun _ _ _ _ _ no _ => no)
    ()
    (fun _ _ _ _ => ()) x

noncomputable def idxSlT (x : AV) : AV → Nat → Out → (AV → Out) → Out :=
  AV.rec (motive_1 := fun _ => AV → Nat → Out → (AV → Out) → Out) (motive_2 := fun _ => Unit)
    (fun _ _ _ no _ => no)
    (fun _ _ _ _ no _ => no)
    (fun _ _ _ _ no _ => no)
    (fun _ _ _ _ _ no _ => no)
    (fun _ _ no _ => no)
    (fun id g off len _ _ es i es0 no ok => ifT (Nat.beq es0 es) no (idxV i id g off len es0 no ok))
    (fun _ _ no _ => no)
    (fun _ _ _ no _ => no)
    (fun _ _ no _ => no)
    (fun _ _ _ _ _ _ _ no _ => no)
    (fun _ _ _ no _ => no)
    (fun _ _ no _ => no)
    (fun _ _ _ _ _ no _ => no)
    (fun _ _ no _ => no)
    (fun _ _ _ _ no _ => no)
    (fun _ _ _ _ no _ => no)
    (fun _ _ no _ => no)
    (fun _ _ _ _ no _ => no)
    ()
    (fun _ _ _ _ => ()) x

noncomputable def fldT (x : AV) : Nat → Out → (AV → Out) → Out :=
  AV.rec (motive_1 := fun _ => Nat → Out → (AV → Out) → Out) (motive_2 := fun _ => Unit)
    (fun _ _ no _ => no)
    (fun _ _ _ no _ => no)
    (fun _ _ _ no _ => no)
    (fun id g off o _ ok => natP (Nat.add off o) id g ok)
    (fun _ no _ => no)
    (fun _ _ _ _ _ _ _ _ no _ => no)
    (fun _ no _ => no)
    (fun _ _ no _ => no)
    (fun _ no _ => no)
    (fun _ _ _ _ _ _ no _ => no)
    (fun _ _ no _ => no)
    (fun _ no _ => no)
    (fun _ _ _ _ no _ => no)
    (fun _ no _ => no)
    (fun _ _ _ no _ => no)
    (fun _ _ _ no _ => no)
    (fun _ no _ => no)
    (fun _ _ _ no _ => no)
    ()
    (fun _ _ _ _ => ()) x

noncomputable def convI (x : Int) : IntKind → Out → (AV → Out) → Out :=
  Int.rec (motive := fun _ => IntKind → Out → (AV → Out) → Out)
    (fun n k no ok => wrapT k n no ok)
    (fun _ _ no _ => no) x

noncomputable def convT (x : AV) : IntKind → Out → (AV → Out) → Out :=
  AV.rec (motive_1 := fun _ => IntKind → Out → (AV → Out) → Out) (motive_2 := fun _ => Unit)
    (fun _ _ no _ => no)
    (fun _ n k no ok => convI n k no ok)
    (fun _ _ _ no _ => no)
    (fun _ _ _ _ no _ => no)
    (fun _ no _ => no)
    (fun _ _ _ _ _ _ _ _ no _ => no)
    (fun _ no _ => no)
    (fun _ _ no _ => no)
    (fun _ no _ => no)
    (fun _ _ _ _ _ _ no _ => no)
    (fun _ _ no _ => no)
    (fun _ no _ => no)
    (fun _ _ _ _ no _ => no)
    (fun _ no _ => no)
    (fun _ _ _ no _ => no)
    (fun _ _ _ no _ => no)
    (fun _ no _ => no)
    (fun _ _ _ no _ => no)
    ()
    (fun _ _ _ _ => ()) x

noncomputable def notV (x : AV) : Out → (AV → Out) → Out :=
  AV.rec (motive_1 := fun _ => Out → (AV → Out) → Out) (motive_2 := fun _ => Unit)
    (fun b _ ok => boolN b ok)
    (fun _ _ no _ => no)
    (fun _ _ no _ => no)
    (fun _ _ _ no _ => no)
    (fun no _ => no)
    (fun _ _ _ _ _ _ _ no _ => no)
    (fun no _ => no)
    (fun _ no _ => no)
    (fun no _ => no)
    (fun _ _ _ _ _ no _ => no)
    (fun _ no _ => no)
    (fun no _ => no)
    (fun _ _ _ no _ => no)
    (fun no _ => no)
    (fun _ _ no _ => no)
    (fun _ _ no _ => no)
    (fun no _ => no)
    (fun _ _ no _ => no)
    ()
    (fun _ _ _ _ => ()) x

noncomputable def lenLT (x : AV) : Out → (AV → Out) → Out :=
  AV.rec (motive_1 := fun _ => Out → (AV → Out) → Out) (motive_2 := fun _ => Unit)
    (fun _ no _ => no)
    (fun _ _ no _ => no)
    (fun _ _ no _ => no)
    (fun _ _ _ no _ => no)
    (fun no _ => no)
    (fun _ _ _ len _ _ _ _ ok => ok (.int .i64 (.ofNat len)))
    (fun _ ok => ok (.int .i64 (.ofNat 0)))
    (fun _ no _ => no)
    (fun no _ => no)
    (fun _ _ _ _ _ no _ => no)
    (fun _ no _ => no)
    (fun no _ => no)
    (fun _ _ _ no _ => no)
    (fun no _ => no)
    (fun _ _ no _ => no)
    (fun _ _ no _ => no)
    (fun no _ => no)
    (fun _ _ no _ => no)
    ()
    (fun _ _ _ _ => ()) x

noncomputable def lenST (x : AV) : Out → (AV → Out) → Out :=
  AV.rec (motive_1 := fun _ => Out → (AV → Out) → Out) (motive_2 := fun _ => Unit)
    (fun _ no _ => no)
    (fun _ _ no _ => no)
    (fun n _ _ ok => ok (.int .i64 (.ofNat n)))
    (fun _ _ _ no _ => no)
    (fun no _ => no)
    (fun _ _ _ _ _ _ _ no _ => no)
    (fun no _ => no)
    (fun _ no _ => no)
    (fun no _ => no)
    (fun _ _ _ _ _ no _ => no)
    (fun _ no _ => no)
    (fun no _ => no)
    (fun _ _ _ no _ => no)
    (fun no _ => no)
    (fun _ _ no _ => no)
    (fun _ _ no _ => no)
    (fun no _ => no)
    (fun _ _ no _ => no)
    ()
    (fun _ _ _ _ => ()) x

noncomputable def extT (x : AV) : Nat → Out → (AV → Out) → Out :=
  AV.rec (motive_1 := fun _ => Nat → Out → (AV → Out) → Out) (motive_2 := fun _ => Unit)
    (fun _ _ no _ => no)
    (fun _ _ _ no _ => no)
    (fun _ _ _ no _ => no)
    (fun _ _ _ _ no _ => no)
    (fun _ no _ => no)
    (fun _ _ _ _ _ _ _ _ no _ => no)
    (fun _ no _ => no)
    (fun _ _ no _ => no)
    (fun _ no _ => no)
    (fun _ _ _ _ _ _ no _ => no)
    (fun _ _ no _ => no)
    (fun _ no _ => no)
    (fun _ _ _ _ no _ => no)
    (fun _ no _ => no)
    (fun _ _ _ no _ => no)
    (fun l _ i no ok => nthT l i no ok)
    (fun _ no _ => no)
    (fun _ _ _ no _ => no)
    ()
    (fun _ _ _ _ => ()) x

noncomputable def partT (x : AV) : Nat → Out → (AV → Out) → Out :=
  AV.rec (motive_1 := fun _ => Nat → Out → (AV → Out) → Out) (motive_2 := fun _ => Unit)
    (fun _ _ no _ => no)
    (fun _ _ _ no _ => no)
    (fun _ _ _ no _ => no)
    (fun _ _ _ _ no _ => no)
    (fun _ no _ => no)
    (fun _ _ _ _ _ _ _ _ no _ => no)
    (fun _ no _ => no)
    (fun _ _ no _ => no)
    (fun _ no _ => no)
    (fun _ _ _ _ _ _ no _ => no)
    (fun _ _ no _ => no)
    (fun _ no _ => no)
    (fun _ _ _ _ no _ => no)
    (fun _ no _ => no)
    (fun l _ i no ok => nthT l i no ok)
    (fun _ _ _ no _ => no)
    (fun _ no _ => no)
    (fun _ _ _ no _ => no)
    ()
    (fun _ _ _ _ => ()) x

noncomputable def nilcT (x : AV) : Out → (AV → Out) → Out :=
  AV.rec (motive_1 := fun _ => Out → (AV → Out) → Out) (motive_2 := fun _ => Unit)
    (fun _ no _ => no)
    (fun _ _ no _ => no)
    (fun _ _ no _ => no)
    (fun id g off _ ok => ok (.ptr id g off))
    (fun no _ => no)
    (fun _ _ _ _ _ _ _ no _ => no)
    (fun no _ => no)
    (fun _ no _ => no)
    (fun no _ => no)
    (fun _ _ _ _ _ no _ => no)
    (fun _ no _ => no)
    (fun no _ => no)
    (fun t v _ _ ok => ok (.ifc t v))
    (fun no _ => no)
    (fun _ _ no _ => no)
    (fun _ _ no _ => no)
    (fun no _ => no)
    (fun _ _ no _ => no)
    ()
    (fun _ _ _ _ => ()) x

noncomputable def idxSI (x : Int) : Nat → Nat → Out → (AV → Out) → Out :=
  Int.rec (motive := fun _ => Nat → Nat → Out → (AV → Out) → Out)
    (fun i n v no ok => ifT (Nat.ble (Nat.succ i) n) no (natI (byteAt n v i) .u8 ok))
    (fun _ _ _ no _ => no) x

noncomputable def idxSV (x : AV) : Nat → Nat → Out → (AV → Out) → Out :=
  AV.rec (motive_1 := fun _ => Nat → Nat → Out → (AV → Out) → Out) (motive_2 := fun _ => Unit)
    (fun _ _ _ no _ => no)
    (fun _ i n v no ok => idxSI i n v no ok)
    (fun _ _ _ _ no _ => no)
    (fun _ _ _ _ _ no _ => no)
    (fun _ _ no _ => no)
    (fun _ _ _ _ _ _ _ _ _ no _ => no)
    (fun _ _ no _ => no)
    (fun _ _ _ no _ => no)
    (fun _ _ no _ => no)
    (fun _ _ _ _ _ _ _ no _ => no)
    (fun _ _ _ no _ => no)
    (fun _ _ no _ => no)
    (fun _ _ _ _ _ no _ => no)
    (fun _ _ no _ => no)
    (fun _ _ _ _ no _ => no)
    (fun _ _ _ _ no _ => no)
    (fun _ _ no _ => no)
    (fun _ _ _ _ no _ => no)
    ()
    (fun _ _ _ _ => ()) x

noncomputable def idxST (x : AV) : AV → Out → (AV → Out) → Out :=
  AV.rec (motive_1 := fun _ => AV → Out → (AV → Out) → Out) (motive_2 := fun _ => Unit)
    (fun _ _ no _ => no)
    (fun _ _ _ no _ => no)
    (fun n v i no ok => idxSV i n v no ok)
    (fun _ _ _ _ no _ => no)
    (fun _ no _ => no)
    (fun _ _ _ _ _ _ _ _ no _ => no)
    (fun _ no _ => no)
    (fun _ _ no _ => no)
    (fun _ no _ => no)
    (fun _ _ _ _ _ _ no _ => no)
    (fun _ _ no _ => no)
    (fun _ no _ => no)
    (fun _ _ _ _ no _ => no)
    (fun _ no _ => no)
    (fun _ _ _ no _ => no)
    (fun _ _ _ no _ => no)
    (fun _ no _ => no)
    (fun _ _ _ no _ => no)
    ()
    (fun _ _ _ _ => ()) x

/-- By a truth value: the first one if it is true. -/
noncomputable def ifV (x : AV) : Out → Out → Out → Out :=
  AV.rec (motive_1 := fun _ => Out → Out → Out → Out) (motive_2 := fun _ => Unit)
    (fun t _ a b => ifT t b a)
    (fun _ _ no _ _ => no)
    (fun _ _ no _ _ => no)
    (fun _ _ _ no _ _ => no)
    (fun no _ _ => no)
    (fun _ _ _ _ _ _ _ no _ _ => no)
    (fun no _ _ => no)
    (fun _ no _ _ => no)
    (fun no _ _ => no)
    (fun _ _ _ _ _ no _ _ => no)
    (fun _ no _ _ => no)
    (fun no _ _ => no)
    (fun _ _ _ no _ _ => no)
    (fun no _ _ => no)
    (fun _ _ no _ _ => no)
    (fun _ _ no _ _ => no)
    (fun no _ _ => no)
    (fun _ _ no _ _ => no)
    ()
    (fun _ _ _ _ => ()) x

end Go.Proofs.YtialpccieggaoaaGreatDoor.Am

namespace Go.Proofs.YtialpccieggaoaaGreatDoor.Am

theorem ifT_or (b : Bool) (no yes : Out) : ifT b no yes = no ∨ (b = true ∧ ifT b no yes = yes) := by
  cases b
  · exact .inl rfl
  · exact .inr ⟨rfl, rfl⟩

theorem notT_or (b : Bool) (no yes : Out) : notT b no yes = no ∨ (b = false ∧ notT b no yes = yes) := by
  cases b
  · exact .inr ⟨rfl, rfl⟩
  · exact .inl rfl

theorem boolT_eq (b : Bool) (ok : AV → Out) : boolT b ok = ok (.bool b) := by cases b <;> rfl
theorem boolN_eq (b : Bool) (ok : AV → Out) : boolN b ok = ok (.bool (!b)) := by cases b <;> rfl
theorem natI_eq (n : Nat) (k : IntKind) (ok : AV → Out) : natI n k ok = ok (.int k (.ofNat n)) := by cases n <;> rfl
theorem natP_eq (n : Nat) (id : Pos) (g : Nat) (ok : AV → Out) : natP n id g ok = ok (.ptr id g n) := by cases n <;> rfl
theorem natS_eq (n l : Nat) (ok : AV → Out) : natS n l ok = ok (.str l n) := by cases n <;> rfl
theorem natL_eq (n r : Nat) (ok : AV → Out) : natL n r ok = ok (.str n r) := by cases n <;> exact natS_eq _ _ _
theorem natX_eq (n : Nat) (k : Nat → Out) : natX n k = k n := by cases n <;> rfl
theorem bitsT_eq (k : IntKind) : bitsT k = k.bits := by cases k <;> rfl

theorem sameT_or (k k2 : IntKind) (no yes : Out) : sameT k k2 no yes = no ∨ (k = k2 ∧ sameT k k2 no yes = yes) := by
  cases k <;> cases k2 <;> first | exact .inl rfl | exact .inr ⟨rfl, rfl⟩

theorem wrapT_or (k : IntKind) (s : Nat) (no : Out) (ok : AV → Out) : wrapT k s no ok = no ∨ wrapT k s no ok = ok (.int k (wrapA k (.ofNat s))) := by
  cases k with
  | i64 =>
    rcases ifT_or (Nat.ble s i64max) no (natI s .i64 ok) with h | ⟨h, h'⟩
    · exact .inl h
    · refine .inr (h'.trans ?_)
      rw [natI_eq, show wrapA .i64 (.ofNat s) = (bif Nat.ble s i64max then .ofNat s else IntKind.wrap .i64 (.ofNat s)) from rfl, h]; rfl
  | u8 => exact .inr (natI_eq _ _ _)
  | u32 => exact .inr (natI_eq _ _ _)
  | u64 => exact .inr (natI_eq _ _ _)
  | _ => exact .inl rfl

theorem topT_or (k : IntKind) (m n : Nat) (no yes : Out) : topT k m n no yes = no ∨ (Nat.blt m (Nat.pow 2 (topBits k)) = true ∧ Nat.blt n (Nat.pow 2 (topBits k)) = true ∧ topT k m n no yes = yes) := by
  have key : ∀ t : Nat, t + 1 = Nat.pow 2 (topBits k) → ifT (Nat.ble m t) no (ifT (Nat.ble n t) no yes) = no ∨ (Nat.blt m (Nat.pow 2 (topBits k)) = true ∧ Nat.blt n (Nat.pow 2 (topBits k)) = true ∧ ifT (Nat.ble m t) no (ifT (Nat.ble n t) no yes) = yes) := by
    intro t ht
    rcases ifT_or (Nat.ble m t) no (ifT (Nat.ble n t) no yes) with h | ⟨h, h'⟩
    · exact .inl h
    · rcases ifT_or (Nat.ble n t) no yes with q | ⟨q, q'⟩
      · exact .inl (h'.trans q)
      · have a := ble_iff.1 h
        have b := ble_iff.1 q
        exact .inr ⟨blt_iff.2 (by omega), blt_iff.2 (by omega), h'.trans q'⟩
  cases k with
  | i64 => exact key _ (by decide)
  | u8 => exact key _ (by decide)
  | u32 => exact key _ (by decide)
  | u64 => exact key _ (by decide)
  | i32 => exact key _ (by decide)
  | _ => exact .inl rfl

theorem cmpA_nat (m n : Nat) : cmpA (.ofNat m) (.ofNat n) = if m < n then .lt else if m = n then .eq else .gt := by
  unfold cmpA
  simp only [Nat.blt_eq, cond_eq_ite, beq_iff]

theorem ord_lss (m n : Nat) : ordOp .lss (cmpA (.ofNat m) (.ofNat n)) = some (Nat.ble (Nat.succ m) n) := by
  rw [cmpA_nat]
  by_cases h : m < n
  · rw [if_pos h, ble_iff.2 (show Nat.succ m ≤ n from h)]; rfl
  · rw [if_neg h, ble_false.2 (by omega)]; split <;> rfl

theorem ord_leq (m n : Nat) : ordOp .leq (cmpA (.ofNat m) (.ofNat n)) = some (Nat.ble m n) := by
  rw [cmpA_nat]
  by_cases h : m < n
  · rw [if_pos h, ble_iff.2 (by omega)]; rfl
  · rw [if_neg h]
    by_cases e : m = n
    · rw [if_pos e, ble_iff.2 (by omega)]; rfl
    · rw [if_neg e, ble_false.2 (by omega)]; rfl

theorem ord_gtr (m n : Nat) : ordOp .gtr (cmpA (.ofNat m) (.ofNat n)) = some (Nat.ble (Nat.succ n) m) := by
  rw [cmpA_nat]
  by_cases h : m < n
  · rw [if_pos h, ble_false.2 (by omega)]; rfl
  · rw [if_neg h]
    by_cases e : m = n
    · rw [if_pos e, ble_false.2 (by omega)]; rfl
    · rw [if_neg e, ble_iff.2 (by omega)]; rfl

theorem ord_geq (m n : Nat) : ordOp .geq (cmpA (.ofNat m) (.ofNat n)) = some (Nat.ble n m) := by
  rw [cmpA_nat]
  by_cases h : m < n
  · rw [if_pos h, ble_false.2 (by omega)]; rfl
  · rw [if_neg h, ble_iff.2 (by omega)]; split <;> rfl

theorem ord_eql (m n : Nat) : ordOp .eql (cmpA (.ofNat m) (.ofNat n)) = some (Nat.beq m n) := by
  rw [cmpA_nat]
  by_cases h : m < n
  · rw [if_pos h, beq_false.2 (by omega)]; rfl
  · rw [if_neg h]
    by_cases e : m = n
    · rw [if_pos e, beq_iff.2 e]; rfl
    · rw [if_neg e, beq_false.2 e]; rfl

theorem ord_neq (m n : Nat) : ordOp .neq (cmpA (.ofNat m) (.ofNat n)) = some (!Nat.beq m n) := by
  rw [cmpA_nat]
  by_cases h : m < n
  · rw [if_pos h, beq_false.2 (by omega)]; rfl
  · rw [if_neg h]
    by_cases e : m = n
    · rw [if_pos e, beq_iff.2 e]; rfl
    · rw [if_neg e, beq_false.2 e]; rfl

/-- As an operation says it, or nothing. -/
def PV (no : Out) (ok : AV → Out) (r : Option AV) (f : Out) : Prop := f = no ∨ ∃ v, r = some v ∧ f = ok v

theorem PV.if {no : Out} {ok : AV → Out} {r : Option AV} {b : Bool} {f : Out} (h : b = true → PV no ok r f) : PV no ok r (ifT b no f) := by
  cases b
  · exact .inl rfl
  · exact h rfl

theorem PV.same {no : Out} {ok : AV → Out} {k k2 : IntKind} {op : BinOp} {x y : Int} {f : Out} (h : PV no ok (intBin op k x y) f) : PV no ok (if k = k2 then intBin op k x y else none) (sameT k k2 no f) := by
  rcases sameT_or k k2 no f with q | ⟨q, q'⟩
  · exact .inl q
  · rw [q', if_pos q]; exact h

theorem PV.wrap {no : Out} {ok : AV → Out} {k : IntKind} {s : Nat} {x : Int} (h : x = .ofNat s) : PV no ok (intK (wrapA k x) fun r => some (.int k r)) (wrapT k s no ok) := by
  rw [intK_eq, h]
  rcases wrapT_or k s no ok with q | q
  · exact .inl q
  · exact .inr ⟨_, rfl, q⟩

theorem binO_or (op : BinOp) (kd : EK) (nilOk : Bool) (k k2 : IntKind) (m n : Nat) (no : Out) (ok : AV → Out) : PV no ok (binA op kd nilOk (.int k (.ofNat m)) (.int k2 (.ofNat n))) (binO op k k2 m n no ok) := by
  cases op with
  | add => exact PV.same (PV.wrap rfl)
  | sub =>
    exact PV.same (PV.if fun h => PV.wrap (by
      have h := ble_iff.1 h
      show Int.ofNat m - Int.ofNat n = Int.ofNat (m - n)
      simp only [Int.ofNat_eq_natCast]; omega))
  | mul => exact PV.same (PV.wrap (by show Int.ofNat m * Int.ofNat n = Int.ofNat (m * n); simp))
  | quo =>
    refine PV.same (PV.if fun h => ?_)
    have h := ble_iff.1 h
    match n, h with
    | n + 1, _ => exact PV.wrap rfl
  | rem =>
    refine PV.same (PV.if fun h => ?_)
    have h := ble_iff.1 h
    match n, h with
    | n + 1, _ => exact .inr ⟨.int k (.ofNat (Nat.mod m (n + 1))), (intK_eq ((Int.ofNat m).tmod (Int.ofNat (n + 1))) fun r => some (AV.int k r) : intBin .rem k (.ofNat m) (.ofNat (n + 1)) = _), natI_eq _ _ _⟩
  | and =>
    refine PV.same ?_
    rcases topT_or k m n no (natI (Nat.land m n) k ok) with q | ⟨q1, q2, q3⟩
    · exact .inl q
    · refine .inr ⟨.int k (.ofNat (Nat.land m n)), ?_, q3.trans (natI_eq _ _ _)⟩
      show (match bitsF .and k (.ofNat m) (.ofNat n) with | some r => intK r fun r => some (AV.int k r) | none => none) = _
      unfold bitsF
      simp only [q1, q2, Bool.and_self, cond_true, intK_eq]
  | or =>
    refine PV.same ?_
    rcases topT_or k m n no (natI (Nat.lor m n) k ok) with q | ⟨q1, q2, q3⟩
    · exact .inl q
    · refine .inr ⟨.int k (.ofNat (Nat.lor m n)), ?_, q3.trans (natI_eq _ _ _)⟩
      show (match bitsF .or k (.ofNat m) (.ofNat n) with | some r => intK r fun r => some (AV.int k r) | none => none) = _
      unfold bitsF
      simp only [q1, q2, Bool.and_self, cond_true, intK_eq]
  | xor =>
    refine PV.same ?_
    rcases topT_or k m n no (natI (Nat.xor m n) k ok) with q | ⟨q1, q2, q3⟩
    · exact .inl q
    · refine .inr ⟨.int k (.ofNat (Nat.xor m n)), ?_, q3.trans (natI_eq _ _ _)⟩
      show (match bitsF .xor k (.ofNat m) (.ofNat n) with | some r => intK r fun r => some (AV.int k r) | none => none) = _
      unfold bitsF
      simp only [q1, q2, Bool.and_self, cond_true, intK_eq]
  | shl =>
    refine PV.if fun h => ?_
    rw [bitsT_eq] at h
    show PV no ok (shiftA .shl k (.ofNat m) (.ofNat n)) _
    unfold shiftA
    simp only [h, cond_true]
    exact PV.wrap (by show Int.ofNat m * Int.ofNat (Nat.pow 2 n) = Int.ofNat (m * 2 ^ n); simp)
  | shr =>
    refine PV.if fun h => ?_
    rw [bitsT_eq] at h
    show PV no ok (shiftA .shr k (.ofNat m) (.ofNat n)) _
    unfold shiftA
    simp only [h, cond_true]
    exact .inr ⟨_, rfl, natI_eq _ _ _⟩
  | andNot => exact .inl rfl
  | eql =>
    refine PV.same ?_
    unfold intBin
    simp only [ord_eql]
    exact .inr ⟨_, rfl, boolT_eq _ _⟩
  | neq =>
    refine PV.same ?_
    unfold intBin
    simp only [ord_neq]
    exact .inr ⟨_, rfl, boolN_eq _ _⟩
  | lss =>
    refine PV.same ?_
    unfold intBin
    simp only [ord_lss]
    exact .inr ⟨_, rfl, boolT_eq _ _⟩
  | leq =>
    refine PV.same ?_
    unfold intBin
    simp only [ord_leq]
    exact .inr ⟨_, rfl, boolT_eq _ _⟩
  | gtr =>
    refine PV.same ?_
    unfold intBin
    simp only [ord_gtr]
    exact .inr ⟨_, rfl, boolT_eq _ _⟩
  | geq =>
    refine PV.same ?_
    unfold intBin
    simp only [ord_geq]
    exact .inr ⟨_, rfl, boolT_eq _ _⟩

theorem strCmp_same {n v m u : Nat} : strCmp n v m u = .eq ↔ n = m ∧ v = u := by
  have e : strCmp n v m u = (fun a b => bif Nat.blt a b then Ordering.lt else bif Nat.beq a b then (bif Nat.blt n m then .lt else bif Nat.beq n m then .eq else .gt) else .gt)
    (bif Nat.ble m n then v else Nat.mul v (Nat.pow 256 (Nat.sub m n))) (bif Nat.ble n m then u else Nat.mul u (Nat.pow 256 (Nat.sub n m))) := rfl
  rw [e]
  constructor
  · generalize ha : (bif Nat.ble m n then v else Nat.mul v (Nat.pow 256 (Nat.sub m n))) = a
    generalize hb : (bif Nat.ble n m then u else Nat.mul u (Nat.pow 256 (Nat.sub n m))) = b
    intro h
    simp only [cond_eq_ite, blt_iff, beq_iff] at h
    split at h
    · cases h
    · split at h
      · rename_i h1 h2
        split at h
        · cases h
        · split at h
          · rename_i h3 h4
            subst h4
            rw [ble_iff.2 (Nat.le_refl n)] at ha hb
            exact ⟨rfl, ha.trans (h2.trans hb.symm)⟩
          · cases h
      · cases h
  · rintro ⟨rfl, rfl⟩
    simp only [ble_iff.2 (Nat.le_refl n), cond_true, blt_false.2 (Nat.le_refl _), cond_false, beq_iff.2 rfl]

theorem ord_str_eql (n v m u : Nat) : ordOp .eql (strCmp n v m u) = some (Nat.beq n m && Nat.beq v u) := by
  by_cases h : n = m ∧ v = u
  · rw [strCmp_same.2 h, beq_iff.2 h.1, beq_iff.2 h.2]; rfl
  · have : (Nat.beq n m && Nat.beq v u) = false := by
      cases e : Nat.beq n m && Nat.beq v u with
      | false => rfl
      | true => simp only [Bool.and_eq_true, beq_iff] at e; exact absurd e h
    rw [this]
    have q : strCmp n v m u ≠ .eq := fun c => h (strCmp_same.1 c)
    revert q
    cases strCmp n v m u <;> intro q <;> first | rfl | exact absurd rfl q

theorem ord_str_neq (n v m u : Nat) : ordOp .neq (strCmp n v m u) = some (!(Nat.beq n m && Nat.beq v u)) := by
  have := ord_str_eql n v m u
  generalize (Nat.beq n m && Nat.beq v u) = b at this ⊢
  revert this
  cases strCmp n v m u <;> intro h <;> cases h <;> rfl

theorem strO_or (op : BinOp) (kd : EK) (nilOk : Bool) (n v m u : Nat) (no : Out) (ok : AV → Out) : PV no ok (binA op kd nilOk (.str n v) (.str m u)) (strO op n v m u no ok) := by
  cases op with
  | add =>
    refine PV.if fun h => ?_
    refine .inr ⟨.str (Nat.add n m) (Nat.add (Nat.mul v (Nat.pow 256 m)) u), ?_, natL_eq _ _ _⟩
    show (natK (Nat.add n m) fun l => bif Nat.ble l i64max then natK (Nat.add (Nat.mul v (Nat.pow 256 m)) u) fun r => some (AV.str l r) else none) = _
    simp only [natK_eq, h, cond_true]
  | eql =>
    refine .inr ⟨.bool (Nat.beq n m && Nat.beq v u), ?_, ?_⟩
    · show (match ordOp .eql (strCmp n v m u) with | some b => some (AV.bool b) | none => none) = _
      rw [ord_str_eql]
    · show ifT (Nat.beq n m) (ok (.bool false)) (boolT (Nat.beq v u) ok) = _
      rw [boolT_eq]
      cases Nat.beq n m <;> rfl
  | neq =>
    refine .inr ⟨.bool (!(Nat.beq n m && Nat.beq v u)), ?_, ?_⟩
    · show (match ordOp .neq (strCmp n v m u) with | some b => some (AV.bool b) | none => none) = _
      rw [ord_str_neq]
    · show ifT (Nat.beq n m) (ok (.bool true)) (boolN (Nat.beq v u) ok) = _
      rw [boolN_eq]
      cases Nat.beq n m <;> rfl
  | _ => exact .inl rfl

theorem binT_or (op : BinOp) (kd : EK) (nilOk : Bool) (x y : AV) (no : Out) (ok : AV → Out) : PV no ok (binA op kd nilOk x y) (binT x y op no ok) := by
  cases x with
  | int k a => cases y with
    | int k2 b => cases a with
      | ofNat m => cases b with
        | ofNat n => exact binO_or op kd nilOk k k2 m n no ok
        | negSucc n => exact .inl rfl
      | negSucc m => exact .inl rfl
    | _ => exact .inl rfl
  | str n v => cases y with
    | str m u => exact strO_or op kd nilOk n v m u no ok
    | _ => exact .inl rfl
  | _ => exact .inl rfl

theorem nthT_or (no : Out) (ok : AV → Out) : ∀ (l : List AV) (i : Nat), PV no ok (nth l i) (nthT l i no ok)
  | [], _ => .inl rfl
  | x :: _, 0 => .inr ⟨x, rfl, rfl⟩
  | _ :: l, i + 1 => nthT_or no ok l i

theorem loadT_or (x : AV) (h : Hp) (no : Out) (ok : AV → Out) : PV no ok (match x with | .ptr id g off => read1 h id g off | _ => none) (loadT x h no ok) := by
  cases x with
  | ptr id g off =>
    show PV no ok (read1 h id g off) (blkT (getB id h.heap) g off no ok)
    rw [getB_eq]
    unfold read1
    cases T.get id h.heap with
    | none => exact .inl rfl
    | some b => cases b with
      | cells ser c lo hi g' m ro fz =>
        refine PV.if fun h1 => PV.if fun h2 => ?_
        cases c with
        | lst n l =>
          refine PV.if fun h3 => ?_
          have e : seeable (.lst n l) lo hi g' m g off 1 = true := by unfold seeable; rw [h2, h1]; exact h3
          simp only [e, cond_true]
          exact nthT_or no ok l off
        | byt n v =>
          refine PV.if fun h3 => ?_
          have e : seeable (.byt n v) lo hi g' m g off 1 = true := by unfold seeable; rw [h2, h1]; exact h3
          simp only [e, cond_true]
          have h4 : Nat.blt off n = true := h3
          refine .inr ⟨_, ?_, natI_eq _ _ _⟩
          rw [show (Cells.byt n v).get off = (bif Nat.blt off n then some (byteV (byteAt n v off)) else none) from rfl, h4]; rfl
      | _ => exact .inl rfl
  | _ => exact .inl rfl

/-- As an operation that changes the heap says it, or nothing. -/
def PH (no : Out) (ok : AV → Hp → Out) (r : Res) (f : Out) : Prop := f = no ∨ ∃ v h, r = .val v h ∧ f = ok v h

theorem PV.ph {no : Out} {ok : AV → Hp → Out} {r : Option AV} {f : Out} {h : Hp} {why : String} (q : PV no (fun v => ok v h) r f) : PH no ok (opt h why r) f := by
  rcases q with q | ⟨v, q, q'⟩
  · exact .inl q
  · exact .inr ⟨v, h, by rw [q]; rfl, q'⟩

theorem PH.if {no : Out} {ok : AV → Hp → Out} {r : Res} {b : Bool} {f : Out} (h : b = true → PH no ok r f) : PH no ok r (ifT b no f) := by
  cases b
  · exact .inl rfl
  · exact h rfl

theorem PH.not {no : Out} {ok : AV → Hp → Out} {r : Res} {b : Bool} {f : Out} (h : b = false → PH no ok r f) : PH no ok r (notT b no f) := by
  cases b
  · exact h rfl
  · exact .inl rfl

theorem size1_or {no : Out} {ok : AV → Hp → Out} {r : Res} {f : Out} {c : Cells} (h : c.size = 1 → PH no ok r f) : PH no ok r (size1 c no f) := by
  cases c <;> exact PH.if fun e => h (beq_iff.1 e)

theorem atomT_or {no : Out} {ok : AV → Hp → Out} {r : Res} {f : Out} {x : AV} (h : x.atom = true → x.cells = [x] → PH no ok r f) : PH no ok r (atomT x no f) := by
  cases x <;> first | exact .inl rfl | exact h rfl rfl

theorem ofL_size1 (x : AV) : (Cells.ofL [x]).size = 1 := by
  unfold Cells.ofL
  split
  · rename_i b l e
    cases e
    unfold packAV
    cases Nat.blt b 256 with
    | true => rfl
    | false => rfl
  · rfl

theorem ofL_atoms {x : AV} (h : x.atom = true) : (Cells.ofL [x]).atoms = true := by
  unfold Cells.ofL
  split
  · rename_i b l e
    cases e
    unfold packAV
    cases Nat.blt b 256 with
    | true => rfl
    | false => rfl
  · show List.all _ _ = true
    simp [h]

theorem splice1 {c s : Cells} (hc : c.size = 1) (hs : s.size = 1) : c.splice 0 s = s := by
  unfold Cells.splice
  have e0 : (c.sub 0 0).size = 0 := by cases c <;> rfl
  have e1 : (c.sub (0 + s.size) (c.size - (0 + s.size))).size = 0 := by rw [hs, hc]; cases c <;> rfl
  have e2 : (c.sub 0 0).app s = s := by unfold Cells.app; rw [e0]; rfl
  rw [e2]
  unfold Cells.app
  rw [e1, hs]; rfl

theorem storeT_or (P : Program) (a x : AV) (env : T AV) (h : Hp) (no : Out) (ok : AV → Hp → Out) {oa ox : Opd} (ha : ev env oa = a) (hx : ev env ox = x) :
    PH no ok (evalOp P (.store 1 oa ox) env h) (storeT a x h no (ok .undef)) := by
  cases a with
  | ptr id g off =>
    show PH no ok _ (blkS (getB id h.heap) id g off x h no (ok .undef))
    rw [getB_eq]
    unfold evalOp
    simp only [ha, hx]
    cases e : T.get id h.heap with
    | none => exact .inl rfl
    | some b => cases b with
      | cells ser c lo hi g' m ro fz =>
        refine PH.not fun h1 => PH.if fun h2 => PH.if fun h3 => PH.if fun h4 => PH.if fun h5 => size1_or fun h6 => atomT_or fun h7 h8 => ?_
        have h3 := beq_iff.1 h3
        have h4 := beq_iff.1 h4
        have h5 := beq_iff.1 h5
        subst h1 h3 h4 h5
        rw [setB_eq]
        refine .inr ⟨.undef, ⟨T.set id (some (.cells ser (Cells.ofL [x]) 0 0 g' m false fz)) h.heap, h.next, h.ser, h.lim⟩, ?_, rfl⟩
        rw [h8]
        unfold writeN
        simp only [e, ofL_size1, h2, h6, ofL_atoms h7, List.length_cons, List.length_nil, T.setK_eq, splice1 h6 (ofL_size1 x)]
        simp only [beq_iff.2 rfl, cond_true, beq_false.2 (show 1 ≠ 0 by decide), cond_false, Bool.not_false, Bool.and_true, show Nat.ble 0 0 = true from rfl, show Nat.ble (Nat.add 0 1) 1 = true from rfl, Bool.true_and,
          show Nat.blt 0 0 = false from rfl]
      | _ => exact .inl rfl
  | _ => exact .inl rfl

theorem newT_eq (h : Hp) (note : Nat) (c : Cells) (ok : AV → Hp → Out) : ∃ h', (newCellsN h note c fun id h => .val (.ptr id 0 0) h) = .val (.ptr h.next 0 0) h' ∧ newT note c h ok = ok (.ptr h.next 0 0) h' := by
  refine ⟨⟨T.set h.next (some (.cells note c 0 0 0 0 false false)) h.heap, h.next.succ, Nat.succ h.ser, h.lim⟩, ?_, ?_⟩
  · unfold newCellsN newK
    rw [T.setK_eq, natK_eq]
  · unfold newT
    rw [setB_eq]
    unfold hpM
    rw [natX_eq]
    rfl

theorem idxV_or {i : AV} {id : Pos} {g off len es : Nat} {no : Out} {ok : AV → Out} : PV no ok (match i with | .int _ (.ofNat i) => bif Nat.blt i len then some (.ptr id g (Nat.add off (Nat.mul i es))) else none | _ => none) (idxV i id g off len es no ok) := by
  cases i with
  | int k n => cases n with
    | ofNat n =>
      refine PV.if fun h => ?_
      refine .inr ⟨.ptr id g (Nat.add off (Nat.mul n es)), ?_, natP_eq _ _ _ _⟩
      have h : Nat.blt n len = true := h
      simp only [h, cond_true]
    | negSucc n => exact .inl rfl
  | _ => exact .inl rfl

theorem convT_or (P : Program) {x : AV} {k : IntKind} {env : T AV} {h : Hp} {no : Out} {ok : AV → Out} {ox : Opd} (hx : ev env ox = x) : PH no (fun v _ => ok v) (evalOp P (.convInt k ox) env h) (convT x k no ok) := by
  unfold evalOp
  simp only [hx]
  cases x with
  | int k' n => cases n with
    | ofNat n =>
      show PH no (fun v _ => ok v) (intK (wrapA k (.ofNat n)) fun r => .val (.int k r) h) (wrapT k n no ok)
      rw [intK_eq]
      rcases wrapT_or k n no ok with q | q
      · exact .inl q
      · exact .inr ⟨_, _, rfl, q⟩
    | negSucc n => exact .inl rfl
  | _ => exact .inl rfl
end Go.Proofs.YtialpccieggaoaaGreatDoor.Am
