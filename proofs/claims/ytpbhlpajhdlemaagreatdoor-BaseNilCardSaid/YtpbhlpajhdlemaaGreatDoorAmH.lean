import Derived.AtR
import Derived.RangeFuncLeaves
import Derived.RangeFuncIn
import Derived.Test.YtpbhlpajhdlemaaGreatDoorAmG
/- THE ABSTRACT MACHINE, part H: a machine over values without block numbers, run by the kernel, and the proof that the model's machine does what it does. No condition. -/
set_option linter.unusedSimpArgs false
set_option linter.unusedVariables false
namespace Go.Proofs.YtpbhlpajhdlemaaGreatDoor.Am

section
variable {P : Program} {φ : Phi} {h : Hp} {w : World} {env : T AV} {a : Act} {o : Oper}

theorem builtin_run (hR : HR P φ h w) (hE : EnvR φ env a.tmps) (hm : Room h) {c : Call} {b : Builtin} {ao : AOp} (hc : c.callee = .builtin b) (h1 : compBuiltin P b c.args.toList c.argTypes.toList = some ao) (ho : o.op = .call c) :
    ResR P φ h w (evalOp P ao env h) ((execOp a.eval o).run P w) := by
  generalize hal : c.args.toList = al at h1
  generalize htl : c.argTypes.toList = tl at h1
  unfold compBuiltin at h1
  split at h1
  · rename_i x t
    unfold compLen at h1
    split at h1
    · rename_i hd
      cases hx : compOpd P x with
      | none => rw [hx] at h1; cases h1
      | some x' => rw [hx] at h1; cases h1; exact op_lenS hR hE hx hd hc hal htl ho
    · rename_i e hd
      cases hx : compOpd P x with
      | none => rw [hx] at h1; cases h1
      | some x' => rw [hx] at h1; cases h1; exact op_lenL hR hE hx hd hc hal htl ho
    · rename_i kt e hd
      cases hx : compOpd P x with
      | none => rw [hx] at h1; cases h1
      | some x' => rw [hx] at h1; cases h1; exact op_lenM hR hE hx hd hc hal htl ho
    · rename_i n e hd
      cases h1
      exact op_lenArr hR hE (.inl ⟨e, hd⟩) hc hal htl ho
    · rename_i b' hd
      split at h1
      · rename_i n e hb
        cases h1
        exact op_lenArr hR hE (.inr ⟨b', e, hd, hb⟩) hc hal htl ho
      · cases h1
    · cases h1
  · rename_i x t
    unfold compCap at h1
    split at h1
    · rename_i e hd
      cases hx : compOpd P x with
      | none => rw [hx] at h1; cases h1
      | some x' => rw [hx] at h1; cases h1; exact op_cap hR hE hx hd hc hal htl ho
    · cases h1
  · rename_i s x t u
    unfold compAppend at h1
    split at h1
    · rename_i e s' x' he hs hx
      split at h1
      · rename_i z hz
        cases hb : (Nat.beq z.cells.length (P.cellsOf e) && okT P u && Nat.blt 0 (P.bytesOf e)) with
        | false => rw [hb] at h1; cases h1
        | true =>
          rw [hb, cond_true] at h1
          rw [Bool.and_eq_true, Bool.and_eq_true] at hb
          have h0 := blt_iff.1 hb.2
          cases hi : isIntT P u with
          | true => rw [hi] at h1; cases h1; exact op_appendZ hR hE hm he hs hx hz (beq_iff.1 hb.1.1) hb.1.2 h0 hi hc hal htl ho
          | false => rw [hi] at h1; cases h1; exact op_append hR hE hm he hs hx hz (beq_iff.1 hb.1.1) hb.1.2 h0 hi hc hal htl ho
      · cases h1
    · cases h1
  · rename_i d s t r
    unfold compCopy at h1
    split at h1
    · rename_i e d' s' he hd hs
      cases h1
      exact op_copy hR hE he hd hs hc hal htl ho
    · cases h1
  · rename_i m k t r
    split at h1
    · rename_i kk m' k' hkk hm' hk'
      cases h1
      exact op_delete hR hE hkk hm' hk' hc hal htl ho
    · cases h1
  · cases h1
    rename_i hnil
    show (execOp a.eval o).run P w = .ok .recover w
    rw [exec_builtin ho hc]
    rfl
  · rename_i x t r
    split at h1
    · rename_i e he
      split at h1
      · rename_i z x' hz hx
        cases hb : Nat.beq z.cells.length (P.cellsOf e) with
        | false => rw [hb] at h1; cases h1
        | true => rw [hb] at h1; cases h1; exact op_clearSl hR hE he hz (beq_iff.1 hb) hx hc hal htl ho
      · cases h1
    · cases h1
  · rename_i x
    cases hx : compOpd P x with
    | none => rw [hx] at h1; cases h1
    | some x' => rw [hx] at h1; cases h1; exact op_sliceData hR hE hx hc hal ho
  · rename_i p n t r
    split at h1
    · rename_i e hd
      cases hb : byteT P e with
      | false => rw [hb] at h1; cases h1
      | true =>
        rw [hb, cond_true] at h1
        split at h1
        · rename_i p' n' hp hn
          cases h1
          exact op_unsafeStr hR hE hp hn hc hal htl hd hb ho
        · cases h1
    · cases h1
  · rename_i x y
    split at h1
    · rename_i x' y' hx hy
      cases h1
      exact op_minmax hR hE false hx hy hc hal ho
    · cases h1
  · rename_i x y
    split at h1
    · rename_i x' y' hx hy
      cases h1
      exact op_minmax hR hE true hx hy hc hal ho
    · cases h1
  · cases h1

theorem ekT_ptr {t : TypeId} (e : ekT P t = .ptr true) : ∃ el, P.underlying t = some (.pointer el) ∧ okT P el = true ∧ 0 < P.cellsOf el := by
  unfold ekT at e
  split at e <;> first | (cases e; done) | skip
  · rename_i el hd
    injection e with e
    rw [Bool.and_eq_true] at e
    exact ⟨el, hd, e.1, blt_iff.1 e.2⟩
  · split at e
    · rename_i ks hf
      cases hg : P.eqGuardType P.depth t <;> rw [hg] at e <;> cases e
    · cases e

theorem ekT_ifc {t : TypeId} (e : ekT P t = .ifc) : ∃ ms, P.underlying t = some (.interface ms) := by
  unfold ekT at e
  split at e <;> first | (cases e; done) | (exact ⟨_, by assumption⟩) | skip
  split at e
  · rename_i ks hf
    cases hg : P.eqGuardType P.depth t <;> rw [hg] at e <;> cases e
  · cases e

theorem evalOp_run (hR : HR P φ h w) (hE : EnvR φ env a.tmps) (hm : Room h) {ao : AOp} (hc : compAOp P o.op = some ao) : ResR P φ h w (evalOp P ao env h) ((execOp a.eval o).run P w) := by
  generalize ho : o.op = op at hc
  unfold compAOp at hc
  split at hc
  all_goals first | (cases hc; done) | skip
  · rename_i x
    cases hx : compOpd P x with
    | none => rw [hx] at hc; cases hc
    | some x' => rw [hx] at hc; cases hc; exact op_move hR hE hx (.inl ho)
  · rename_i x
    cases hx : compOpd P x with
    | none => rw [hx] at hc; cases hc
    | some x' => rw [hx] at hc; cases hc; exact op_move hR hE hx (.inr ho)
  · rename_i c x y
    split at hc
    · rename_i c' x' y' h1 h2 h3; cases hc; exact op_pick hR hE h1 h2 h3 ho
    · cases hc
  · rename_i t
    cases hz : zeroT P t with
    | none => rw [hz] at hc; cases hc
    | some z =>
      rw [hz] at hc
      simp only [Option.map] at hc
      cases hs : (selfT P t && Nat.beq z.cells.length (P.cellsOf t)) with
      | true =>
        rw [hs] at hc
        cases hc
        rw [Bool.and_eq_true] at hs
        exact op_allocT hR hm hz (beq_iff.1 hs.2) ho
      | false => rw [hs] at hc; cases hc; exact op_alloc hR hm hz ho
  · rename_i t x
    cases hx : compOpd P x with
    | none => rw [hx] at hc; cases hc
    | some x' => rw [hx] at hc; cases hc; exact op_box hR hE hm hx ho
  · rename_i t parts
    split at hc
    · cases hc
    · rename_i z hz; exact op_build hR hE hz hc ho
  · rename_i t len parts
    split at hc
    · cases hc
    · rename_i e he
      split at hc
      · cases hc
      · rename_i z hz
        cases hb : (Nat.ble (len * P.cellsOf e) 16777216 && Nat.beq z.cells.length (P.cellsOf e)) with
        | false => rw [hb] at hc; cases hc
        | true =>
          rw [hb, cond_true] at hc
          rw [Bool.and_eq_true] at hb
          cases hp : compParts P (fun i => some (i * P.cellsOf e, P.cellsOf e)) parts.toList with
          | none => rw [hp] at hc; cases hc
          | some parts' => rw [hp] at hc; cases hc; exact op_buildSl hR hE hm he hz (ble_iff.1 hb.1) (beq_iff.1 hb.2) hp ho
  · rename_i t x
    split at hc
    · rename_i x' d hx hd
      cases hk : okT P t with
      | false => rw [hk] at hc; cases hc
      | true =>
        rw [hk, cond_true, Option.some.injEq] at hc
        subst hc
        cases hg : isAggT P t with
        | true => exact op_loadN hR hE hx hd hk hg ho
        | false => exact op_load1 hR hE hx hd hg ho
    · cases hc
  · rename_i t x y
    split at hc
    · rename_i x' y' hx hy
      cases hk : okT P t with
      | false => rw [hk] at hc; cases hc
      | true => rw [hk, cond_true, Option.some.injEq] at hc; subst hc; exact op_store hR hE hx hy hk ho
    · cases hc
  · rename_i x
    cases hx : compOpd P x with
    | none => rw [hx] at hc; cases hc
    | some x' => rw [hx] at hc; cases hc; exact op_nilCheck hR hE hx ho
  · rename_i op t x y yt
    split at hc
    · rename_i x' y' hx hy
      cases hc
      have ptr : ∀ neg, ((op = .eql ∧ neg = false) ∨ (op = .neq ∧ neg = true)) → ekT P t = .ptr true → ResR P φ h w (evalOp P (.eqPtr neg x' y') env h) ((execOp a.eval o).run P w) := by
        intro neg hop hk
        obtain ⟨el, h1, h2, h3⟩ := ekT_ptr hk
        exact op_eqPtr hR hE hop hx hy h1 h2 h3 ho
      unfold compBin
      cases op <;> first | exact op_bin hR hE hx hy ho | skip
      · simp only
        split
        · rename_i hk; exact ptr false (.inl ⟨rfl, rfl⟩) hk
        · rename_i hk; obtain ⟨ms, hk⟩ := ekT_ifc hk; exact op_eqIfc hR hE (.inl ⟨rfl, rfl⟩) hx hy hk ho
        · exact op_bin hR hE hx hy ho
      · simp only
        split
        · rename_i hk; exact ptr true (.inr ⟨rfl, rfl⟩) hk
        · rename_i hk; obtain ⟨ms, hk⟩ := ekT_ifc hk; exact op_eqIfc hR hE (.inr ⟨rfl, rfl⟩) hx hy hk ho
        · exact op_bin hR hE hx hy ho
    · cases hc
  · rename_i op t x
    cases hx : compOpd P x with
    | none => rw [hx] at hc; cases hc
    | some x' => rw [hx] at hc; cases hc; exact op_un hR hE hx ho
  · rename_i s d x
    split at hc
    · rename_i x' hx; exact op_conv hR hE hm hx hc ho
    · cases hc
  · rename_i t x
    split at hc
    · cases hc
    · rename_i d hno hd
      cases hx : compOpd P x with
      | none => rw [hx] at hc; cases hc
      | some x' =>
        rw [hx] at hc; cases hc
        exact op_mkIfc hR hE hx hd (fun ms q => hno ms q) ho
    · cases hc
  · rename_i f x y
    split at hc
    · rename_i x' y' hx hy; cases hc; exact op_mkFn hR hE hx hy ho
    · cases hc
  · rename_i t l c
    split at hc
    · cases hc
    · rename_i e he
      split at hc
      · rename_i z l' c' hz hl hcc
        cases hb : Nat.beq z.cells.length (P.cellsOf e) with
        | false => rw [hb] at hc; cases hc
        | true => rw [hb, cond_true, Option.some.injEq] at hc; subst hc; exact op_mkSl hR hE hm he hz (beq_iff.1 hb) hl hcc ho
      · cases hc
  · rename_i t x lo hi mx
    split at hc
    · rename_i x' lo' hi' mx' hx hlo hhi hmx
      unfold compSlice at hc
      cases hb : (mx'.isSome && hi'.isNone) with
      | true => rw [hb] at hc; cases hc
      | false =>
        rw [hb, cond_false] at hc
        have h4 : mx.isSome = true → hi.isSome = true := by
          intro q
          rw [← compOpdO_some hmx] at q
          rw [q, Bool.true_and] at hb
          rw [← compOpdO_some hhi]
          cases hi' <;> simp_all
        cases hst : isStrT P t with
        | true =>
          rw [hst, cond_true] at hc
          split at hc
          · cases hc
            have : mx = none := by
              have := compOpdO_some hmx
              cases mx with
              | none => rfl
              | some m => simp at this
            subst this
            exact op_sliceStr hR hE hx hlo hhi hst ho
          · cases hc
        | false =>
          rw [hst, cond_false] at hc
          split at hc
          · rename_i e he; cases hc; exact op_sliceSl hR hE hx hlo hhi hmx h4 he ho
          · split at hc
            · rename_i n e he; cases hc; exact op_sliceArr hR hE hx hlo hhi hmx h4 he ho
            · cases hc
    · cases hc
  · rename_i t x f
    split at hc
    · rename_i fd x' hf hx
      cases hb : Nat.blt 0 (P.cellsOf fd.type) with
      | false => rw [hb] at hc; cases hc
      | true => rw [hb, cond_true, Option.some.injEq] at hc; subst hc; exact op_fieldAddr hR hE hx hf (blt_iff.1 hb) ho
    · cases hc
  · rename_i t x f
    split at hc
    · rename_i fd x' hf hx
      cases hc
      cases hg : isAggT P fd.type with
      | true => exact op_partN hR hE hx hf hg ho
      | false => exact op_part1 hR hE hx hf hg ho
    · cases hc
  · rename_i t x i
    split at hc
    · rename_i x' i' hx hi
      split at hc
      · rename_i n e he; cases hc; exact op_idxAddrArr hR hE hx hi he ho
      · split at hc
        · rename_i e he; cases hc; exact op_idxAddrSl hR hE hx hi he ho
        · cases hc
    · cases hc
  · rename_i t x i
    split at hc
    · rename_i x' i' hx hi
      split at hc
      · rename_i n e he; cases hc; exact op_idxArr hR hE hx hi he ho
      · cases hst : isStrT P t with
        | false => rw [hst] at hc; cases hc
        | true => rw [hst, cond_true, Option.some.injEq] at hc; subst hc; exact op_idxStr hR hE hx hi hst ho
    · cases hc
  · rename_i x xt t ok
    split at hc
    · cases hc
    · rename_i d z x' hno hd hz hx
      cases hc
      exact op_assertT hR hE hx hd (fun ms q => hno ms q) hz ho
    · cases hc
  · rename_i x i
    cases hx : compOpd P x with
    | none => rw [hx] at hc; cases hc
    | some x' => rw [hx] at hc; cases hc; exact op_extract hR hE hx ho
  · rename_i c
    unfold compCall at hc
    split at hc
    · rename_i f hcl
      split at hc
      · rename_i l hl
        split at hc
        · cases hc; exact op_callV hR hE hm (f := .func f) rfl hl hcl ho
        · rename_i k hk; cases hc; exact op_ext hR hE hm hk hl hcl ho
      · cases hc
    · rename_i f _ hcl
      split at hc
      · rename_i f' l hf hl; cases hc; exact op_callV hR hE hm hf hl hcl ho
      · cases hc
    · rename_i r name hcl
      split at hc
      · rename_i r' l hr hl; cases hc; exact op_invoke hR hE hm hr hl hcl ho
      · cases hc
    · rename_i b hcl
      exact builtin_run hR hE hm hcl hc ho
  · rename_i t
    cases hd : isMapT P t with
    | false => rw [hd] at hc; cases hc
    | true => rw [hd] at hc; cases hc; exact op_mkMap hR hm hd (.inl rfl) ho
  · rename_i t k n
    cases hd : isMapT P t with
    | false => rw [hd] at hc; cases hc
    | true => rw [hd] at hc; cases hc; exact op_mkMap hR hm hd (.inr ⟨k, n, rfl⟩) ho
  · rename_i t m k ok
    split at hc
    · rename_i kk z m' k' hkk hz hm' hk'; cases hc; exact op_lookup hR hE hkk hz hm' hk' ho
    · cases hc
  · rename_i t m k v
    split at hc
    · rename_i kk m' k' v' hkk hm' hk' hv'; cases hc; exact op_update hR hE hkk hm' hk' hv' (.inl ho)
    · cases hc
  · rename_i t m k v
    split at hc
    · rename_i kk m' k' v' hkk hm' hk' hv'; cases hc; exact op_update hR hE hkk hm' hk' hv' (.inr ho)
    · cases hc
  · rename_i t x
    split at hc
    · rename_i x' hx
      cases hst : isStrT P t with
      | true => rw [hst] at hc; cases hc; exact op_rangeStr hR hE hm hx (isStr_underlying hst) ho
      | false =>
        rw [hst, cond_false] at hc
        cases hmt : isMapT P t with
        | true => rw [hmt] at hc; cases hc; exact op_rangeMap hR hE hm hx hmt ho
        | false => rw [hmt] at hc; cases hc
    · cases hc
  · rename_i x
    cases hx : compOpd P x with
    | none => rw [hx] at hc; cases hc
    | some x' => rw [hx] at hc; cases hc; exact op_nextStr hR hE hx ho
  · rename_i x
    cases hx : compOpd P x with
    | none => rw [hx] at hc; cases hc
    | some x' => rw [hx] at hc; cases hc; exact op_nextMap hR hE hx ho
  · rename_i x
    cases hx : compOpd P x with
    | none => rw [hx] at hc; cases hc
    | some x' => rw [hx] at hc; cases hc; exact op_entry hR hE hx ho
  · rename_i c
    split at hc
    · rename_i f hcl
      split at hc
      · rename_i f' l hf hl; cases hc; exact op_defer hR hE hf hl hcl ho
      · cases hc
    · cases hc

end

end Go.Proofs.YtpbhlpajhdlemaaGreatDoor.Am

namespace Go.Proofs.YtpbhlpajhdlemaaGreatDoor.Am

def ItemR (P : Program) (φ : Phi) (n : Nat) : Item → Go.Item → Prop
  | .code c, .code k => c = comp P n k
  | .inBlock i, .inBlock j => i = j
  | .inLoop c, .inLoop k => c = comp P n k
  | .inScope, .inScope _ => True
  | .ops l, .inRegion ops idx => l = idx.map (fun i => compOper P n ops 0 (ops.getD i default)) ∧ ∀ i ∈ idx, i < ops.size
  | .beginRound, .beginRound => True
  | .inRange l, .inRangeFunc b => φ l 0 = some (b, 0, 0)
  | .endRange l, .endRangeFunc b => φ l 0 = some (b, 0, 0)
  | _, _ => False

inductive ItemsR (P : Program) (φ : Phi) (n : Nat) : List Item → List Go.Item → Prop where
  | nil : ItemsR P φ n [] []
  | cons {x : Item} {y : Go.Item} {l : List Item} {r : List Go.Item} (h : ItemR P φ n x y) (t : ItemsR P φ n l r) : ItemsR P φ n (x :: l) (y :: r)

inductive DefsR (φ : Phi) : List AD → List Deferred → Prop where
  | nil : DefsR φ [] []
  | mark {id : Pos} {b : Nat} {l : List AD} {r : List Deferred} (h : φ id 0 = some (b, 0, 0)) (t : DefsR φ l r) : DefsR φ (.mark id :: l) ({ target := .collected b, args := #[] } :: r)
  | call {f : FuncId} {args : List AV} {d : Deferred} {l : List AD} {r : List Deferred} (h : DefR φ f args d) (t : DefsR φ l r) : DefsR φ (.call f args :: l) (d :: r)

def ModeR : Md → FrameMode → Prop
  | .run, .run => True
  | .ret, .returning => True
  | _, _ => False

def RoundR (φ : Phi) : Option Pos → Option Nat → Prop
  | none, none => True
  | some l, some b => φ l 0 = some (b, 0, 0)
  | _, _ => False

structure FrR (P : Program) (φ : Phi) (fr : Fr) (g : Frame) : Prop where
  fn : g.fn = fr.fn
  env : EnvR φ fr.env g.tmps
  size : numT P fr.fn ≤ g.tmps.size
  todo : ItemsR P φ (numT P fr.fn) fr.todo g.todo
  defers : DefsR φ fr.defers g.defers
  mode : ModeR fr.mode g.mode
  kind : g.kind = if fr.dk = true ∧ fr.round = none then .deferred else .normal
  round : RoundR φ fr.round g.roundOf

inductive FrsR (P : Program) (φ : Phi) : List Fr → List Frame → Prop where
  | nil : FrsR P φ [] []
  | cons {x : Fr} {y : Frame} {l : List Fr} {r : List Frame} (h : FrR P φ x y) (t : FrsR P φ l r) : FrsR P φ (x :: l) (y :: r)

theorem ItemR.mono {P : Program} {φ ψ : Phi} (hle : Le φ ψ) {n : Nat} {x : Item} {y : Go.Item} (h : ItemR P φ n x y) : ItemR P ψ n x y := by
  cases x <;> cases y <;> first | exact h | (exact hle _ _ _ h)

theorem ItemsR.mono {P : Program} {φ ψ : Phi} (hle : Le φ ψ) {n : Nat} {l : List Item} {r : List Go.Item} (h : ItemsR P φ n l r) : ItemsR P ψ n l r := by
  induction h with
  | nil => exact .nil
  | cons h _ ih => exact .cons (h.mono hle) ih

theorem DefR.mono {φ ψ : Phi} (hle : Le φ ψ) {f : FuncId} {args : List AV} {d : Deferred} (h : DefR φ f args d) : DefR ψ f args d :=
  let ⟨Y, h1, h2⟩ := h
  ⟨Y, h1, h2.mono hle⟩

theorem DefsR.mono {φ ψ : Phi} (hle : Le φ ψ) {l : List AD} {r : List Deferred} (h : DefsR φ l r) : DefsR ψ l r := by
  induction h with
  | nil => exact .nil
  | mark h _ ih => exact .mark (hle _ _ _ h) ih
  | call h _ ih => exact .call (h.mono hle) ih

theorem RoundR.mono {φ ψ : Phi} (hle : Le φ ψ) {x : Option Pos} {y : Option Nat} (h : RoundR φ x y) : RoundR ψ x y := by
  cases x <;> cases y <;> first | exact h | (exact hle _ _ _ h)

theorem FrR.mono {P : Program} {φ ψ : Phi} (hle : Le φ ψ) {fr : Fr} {g : Frame} (h : FrR P φ fr g) : FrR P ψ fr g :=
  ⟨h.fn, h.env.mono hle, h.size, h.todo.mono hle, h.defers.mono hle, h.mode, h.kind, h.round.mono hle⟩

theorem FrsR.mono {P : Program} {φ ψ : Phi} (hle : Le φ ψ) {l : List Fr} {r : List Frame} (h : FrsR P φ l r) : FrsR P ψ l r := by
  induction h with
  | nil => exact .nil
  | cons h _ ih => exact .cons (h.mono hle) ih

/-- The bottom frame. -/
def bot (s : St) : Fr := (s.callers.getLast?).getD s.cur

/-- What the end of a run says of the model's machine. -/
def DoneR (P : Program) (c0 : List Frame) (φ : Phi) (s : St) (g : Frame) (cs : List Frame) (w : World) (v : AV) (h' : Hp) : Prop :=
  ∃ w' φ' x, HR P φ' h' w' ∧ Adv s.hp w φ h' w' φ' ∧ Rel φ' v x ∧
      (∀ c cs1, c0 = c :: cs1 → Steps P (lone g (cs ++ c0) w) (lone (c.finish x) cs1 w')) ∧
      ((bot s).round = none → ∃ g', Steps P (lone g (cs ++ c0) w) (lone g' c0 w') ∧ g'.fn = (bot s).fn ∧ g'.leaving P w' (.returned x))

/-- What a step, or many, says of the model's machine, whose frames lie over the frames c0. -/
def OutR (P : Program) (c0 : List Frame) (φ : Phi) (s : St) (g : Frame) (cs : List Frame) (w : World) : Out → Prop
  | .next s' => ∃ g' cs' w' φ', Steps P (lone g (cs ++ c0) w) (lone g' (cs' ++ c0) w') ∧ HR P φ' s'.hp w' ∧ FrR P φ' s'.cur g' ∧ FrsR P φ' s'.callers cs' ∧ Adv s.hp w φ s'.hp w' φ' ∧
      (bot s').fn = (bot s).fn ∧ (bot s').round = (bot s).round
  | .done v h' => DoneR P c0 φ s g cs w v h'
  | .many l => ∃ v h', (v, h') ∈ l ∧ DoneR P c0 φ s g cs w v h'
  | .fail _ => True

/-- A run that was made before says what the model's machine does. -/
def Sound (P : Program) (rec : St → Out) : Prop :=
  ∀ (s : St) (φ : Phi) (w : World) (g : Frame) (cs c0 : List Frame), HR P φ s.hp w → s.hp.lim = 0 → FrR P φ s.cur g → FrsR P φ s.callers cs → OutR P c0 φ s g cs w (rec s)

/-- A frame that runs, as the step lemmas spell it. -/
theorem frame_run {g : Frame} (h : g.mode = .run) : g = g.atR ⟨g.tmps, g.defers⟩ g.todo := by
  cases g; simp only at h; subst h; rfl

theorem bot_cons (c : Fr) (cs : List Fr) (x : Fr) (h : Hp) (h' : Hp) : bot ⟨x, c :: cs, h⟩ = bot ⟨c, cs, h'⟩ := by
  cases cs with
  | nil => rfl
  | cons d ds =>
    simp only [bot, List.getLast?_cons_cons]
    cases hq : (d :: ds).getLast? with
    | none => simp at hq
    | some y => rfl

section
variable {P : Program} {φ : Phi} {h : Hp} {w : World} {fr : Fr} {cs' : List Fr} {g : Frame} {cs c0 : List Frame}

/-- One step of the model's machine, the heap as it was. -/
theorem OutR.plain {fr' : Fr} {g' : Frame} (hR : HR P φ h w) (hF : FrR P φ fr' g') (hC : FrsR P φ cs' cs) (hs : Steps P (lone g (cs ++ c0) w) (lone g' (cs ++ c0) w)) (hfn : fr'.fn = fr.fn) (hro : fr'.round = fr.round) :
    OutR P c0 φ ⟨fr, cs', h⟩ g cs w (.next ⟨fr', cs', h⟩) := by
  refine ⟨g', cs, w, φ, hs, hR, hF, hC, Adv.refl h w φ, ?_, ?_⟩
  · cases cs' with
    | nil => exact hfn
    | cons c l => simp [bot, List.getLast?_cons]
  · cases cs' with
    | nil => exact hro
    | cons c l => simp [bot, List.getLast?_cons]

theorem FrR.setTodo {k : List Item} {k' : List Go.Item} (hF : FrR P φ fr g) (ht : ItemsR P φ (numT P fr.fn) k k') (hm : fr.mode = .run) : FrR P φ { fr with todo := k } (g.atR ⟨g.tmps, g.defers⟩ k') :=
  ⟨hF.fn, hF.env, hF.size, ht, hF.defers, by show ModeR fr.mode .run; rw [hm]; trivial, hF.kind, hF.round⟩

/-- A step that turns what is to be done, and nothing else. -/
theorem OutR.to {x : Go.Item} {k0 : List Go.Item} {k : List Item} {k' : List Go.Item} (hR : HR P φ h w) (hF : FrR P φ fr g) (hC : FrsR P φ cs' cs) (hm : fr.mode = .run) (hg : g.todo = x :: k0)
    (ht : ItemsR P φ (numT P fr.fn) k k') (hs : ∀ (b : Frame) (a : Act) (cs : List Frame), b = g → a = ⟨g.tmps, g.defers⟩ → Go.step P (lone (b.atR a (x :: k0)) cs w) = .next (lone (b.atR a k') cs w)) :
    OutR P c0 φ ⟨fr, cs', h⟩ g cs w (.next ⟨{ fr with todo := k }, cs', h⟩) := by
  have hmode : g.mode = .run := by
    have := hF.mode
    rw [hm] at this
    cases hgm : g.mode <;> rw [hgm] at this <;> first | rfl | (cases this)
  refine OutR.plain hR (hF.setTodo ht hm) hC ?_ rfl rfl
  have e := frame_run hmode
  rw [hg] at e
  have := hs g ⟨g.tmps, g.defers⟩ (cs ++ c0) rfl rfl
  rw [← e] at this
  exact .one this

theorem exitA_spec {n : Nat} {k : List Item} {k' : List Go.Item} (h : ItemsR P φ n k k') (id : Nat) :
    (∀ r, exitA id k = some r → ∃ r', exitTo id k' = some r' ∧ ItemsR P φ n r r') ∧ (exitA id k = none → exitTo id k' = none) := by
  induction h with
  | nil => exact ⟨fun r e => (by cases e), fun _ => rfl⟩
  | @cons x y l r hx ht ih =>
    cases x <;> cases y <;> first | (cases hx; done) | skip
    case inBlock.inBlock i j =>
      have hij : i = j := hx
      subst hij
      unfold exitA exitTo
      by_cases e : i = id
      · subst e
        simp only [beq_iff.2 rfl, cond_true, BEq.rfl, if_true]
        exact ⟨fun r e => (by cases e; exact ⟨_, rfl, ht⟩), fun e => (by cases e)⟩
      · have e' : (i == id) = false := by simpa using e
        simp only [beq_false.2 e, cond_false, e', Bool.false_eq_true, if_false]
        exact ih
    all_goals (unfold exitA exitTo; exact ih)
end

section
variable {P : Program} {φ φ' : Phi} {w w' : World} {g g' : Frame} {cs cs' c0 : List Frame} {s s' : St}

theorem DoneR.then {v : AV} {h'' : Hp} (hR : HR P φ s.hp w) (hz : s.hp.lim = 0) (hs : Steps P (lone g (cs ++ c0) w) (lone g' (cs' ++ c0) w')) (hA : Adv s.hp w φ s'.hp w' φ') (b1 : (bot s').fn = (bot s).fn) (b2 : (bot s').round = (bot s).round)
    (h : DoneR P c0 φ' s' g' cs' w' v h'') : DoneR P c0 φ s g cs w v h'' := by
  obtain ⟨w'', φ'', x, q1, q2, q3, q4, q5⟩ := h
  refine ⟨w'', φ'', x, q1, hA.trans hR q2 (Room.was0 hz), q3, fun c cs1 e => hs.trans (q4 c cs1 e), fun e => ?_⟩
  obtain ⟨g'', r1, r2, r3⟩ := q5 (b2.trans e)
  exact ⟨g'', hs.trans r1, r2.trans b1, r3⟩

/-- One run behind another. -/
theorem OutR.then {r : Out} (hR : HR P φ s.hp w) (hz : s.hp.lim = 0) (hs : Steps P (lone g (cs ++ c0) w) (lone g' (cs' ++ c0) w')) (hA : Adv s.hp w φ s'.hp w' φ') (b1 : (bot s').fn = (bot s).fn) (b2 : (bot s').round = (bot s).round)
    (h : OutR P c0 φ' s' g' cs' w' r) : OutR P c0 φ s g cs w r := by
  cases r with
  | fail why => trivial
  | next s'' =>
    obtain ⟨g'', cs'', w'', φ'', q1, q2, q3, q4, q5, q6, q7⟩ := h
    exact ⟨g'', cs'', w'', φ'', hs.trans q1, q2, q3, q4, hA.trans hR q5 (Room.was0 hz), q6.trans b1, q7.trans b2⟩
  | done v h'' => exact DoneR.then hR hz hs hA b1 b2 h
  | many l =>
    obtain ⟨v, h'', hm, q⟩ := h
    exact ⟨v, h'', hm, DoneR.then hR hz hs hA b1 b2 q⟩
end

end Go.Proofs.YtpbhlpajhdlemaaGreatDoor.Am

namespace Go.Proofs.YtpbhlpajhdlemaaGreatDoor.Am

theorem compFn_spec {P : Program} {f : FuncId} {fu : Fu} (h : compFn P f = some fu) :
    ∃ fn b, P.funcs[f]? = some fn ∧ fn.body = some b ∧ mapO (compRV P) fn.results.toList = some fu.results ∧ fu.nargs = fn.ntmps ∧ fu.body = comp P fn.ntmps b ∧ numT P f = fn.ntmps := by
  unfold compFn at h
  split at h
  · cases h
  · rename_i fn hf
    split at h
    · cases h
    · rename_i b hb
      split at h
      · rename_i r hr
        cases h
        exact ⟨fn, b, hf, hb, hr, rfl, rfl, by simp [numT, hf]⟩
      · cases h

theorem ev_setArgs (l : List AV) (env : T AV) (i t : Nat) : ev (setArgs env i l) (.tmp (Pos.ofNat t)) = if i ≤ t ∧ t < i + l.length then l.getD (t - i) .undef else ev env (.tmp (Pos.ofNat t)) := by
  induction l generalizing env i with
  | nil => rw [setArgs, if_neg (by simp only [List.length_nil]; omega)]
  | cons v l ih =>
    unfold setArgs
    rw [T.setK_eq, ih, ev_set]
    by_cases h1 : i + 1 ≤ t ∧ t < i + 1 + l.length
    · rw [if_pos h1, if_pos ⟨by omega, by simp; omega⟩, show t - i = (t - (i + 1)) + 1 by omega]; rfl
    · rw [if_neg h1]
      by_cases h2 : t = i
      · subst h2
        rw [if_pos rfl, if_pos ⟨Nat.le_refl _, by simp⟩, Nat.sub_self]; rfl
      · rw [if_neg (fun q => h2 (Pos.ofNat_inj q)), if_neg (by simp; omega)]

theorem ev_empty (x : Pos) : ev .e (.tmp x) = .undef := by simp [ev, T.get_e]

theorem begin_run {P : Program} {φ : Phi} {f : FuncId} {args : List AV} {xs : Array Value} {fr : Fr} (h : beginFn P f args = some fr) (hx : RelL φ args xs.toList) :
    FrR P φ fr (Frame.enter P f xs .normal) ∧ fr.fn = f ∧ fr.round = none ∧ ∃ fn b, P.funcs[f]? = some fn ∧ fn.body = some b := by
  unfold beginFn at h
  split at h
  · rename_i fu hfu
    obtain ⟨fn, b, h1, h2, h3, h4, h5, h6⟩ := compFn_spec hfu
    cases hb : Nat.ble args.length fu.nargs with
    | false => rw [hb] at h; cases h
    | true =>
      rw [hb, cond_true, Option.some.injEq] at h
      have hb := ble_iff.1 hb
      rw [h4] at hb
      have hl : args.length = xs.size := by rw [hx.length, Array.length_toList]
      subst h
      have ht : (Frame.enter P f xs .normal).tmps = xs ++ Array.replicate (fn.ntmps - xs.size) Go.undef := by simp [Frame.enter, h1]
      refine ⟨⟨rfl, ?_, ?_, ?_, .nil, trivial, rfl, trivial⟩, rfl, rfl, fn, b, h1, h2⟩
      · intro t
        rw [ev_setArgs, ht, Array.getD_eq_getD_getElem?, Array.getElem?_append, ev_empty]
        by_cases c : t < args.length
        · rw [if_pos ⟨Nat.zero_le _, by omega⟩, if_pos (by omega), Nat.sub_zero, List.getD_eq_getElem?_getD]
          obtain ⟨x, e1, e2⟩ := hx.get (List.getElem?_eq_getElem c)
          rw [Array.getElem?_toList] at e1
          rw [e1, List.getElem?_eq_getElem c]
          exact e2
        · rw [if_neg (by omega), if_neg (by omega), Array.getElem?_replicate]
          by_cases c2 : t - xs.size < fn.ntmps - xs.size
          · rw [if_pos c2]; exact Rel.undef
          · rw [if_neg c2]; exact Rel.undef
      · rw [ht, h6]; simp; omega
      · have e : (Frame.enter P f xs .normal).todo = [.code b] := by simp [Frame.enter, h1, h2]
        rw [e]
        exact .cons (by show fu.body = _; rw [h5, h6]) .nil
  · cases h

theorem okDst_lt {n d : Nat} (h : okDst n (some d) = true) : d < n := blt_iff.1 h

section
variable {P : Program} {φ : Phi} {fr : Fr} {g : Frame}

/-- A value handed to a frame. -/
theorem give_run {v : AV} {x : Value} (k : Fr → Out) (hF : FrR P φ fr g) (hv : Rel φ v x) :
    (∃ why, give fr v k = .fail why) ∨ ∃ fr', give fr v k = k fr' ∧ FrR P φ fr' (g.finish x) ∧ fr'.fn = fr.fn ∧ fr'.round = fr.round := by
  have ht := hF.todo
  unfold give
  split
  · rename_i o rest td e
    rw [e] at ht
    cases hok : o.ok with
    | false => exact .inl ⟨_, rfl⟩
    | true =>
      rw [cond_true]
      generalize hg : g.todo = gt at ht
      cases ht with
      | @cons x1 y l r hx ht =>
        cases y <;> first | (cases hx; done) | skip
        rename_i ops idx
        obtain ⟨h1, h2⟩ := hx
        cases idx with
        | nil => cases h1
        | cons i idx =>
          rw [List.map_cons, List.cons.injEq] at h1
          obtain ⟨h1, h3⟩ := h1
          have hi := h2 i (by simp)
          have hoi : ops[i]? = some (ops.getD i default) := by rw [Array.getD_eq_getD_getElem?, Array.getElem?_eq_getElem hi]; rfl
          have hitem : ItemR P φ (numT P fr.fn) (.ops rest) (.inRegion ops idx) := ⟨h3, fun j hj => h2 j (by simp [hj])⟩
          have hfin : g.finish x = { g with tmps := (match (ops.getD i default).dst with | some d => g.tmps.setIfInBounds d x | none => g.tmps), todo := .inRegion ops idx :: r } := by
            simp only [Frame.finish, hg, hoi, Option.bind_some]
            cases (ops.getD i default).dst <;> rfl
          have hdst : o.dst = (ops.getD i default).dst.map Pos.ofNat := by rw [h1]; rfl
          have hokd : okDst (numT P fr.fn) (ops.getD i default).dst = true := by
            rw [h1] at hok
            simp only [compOper, Bool.and_eq_true] at hok
            exact hok.1
          rw [hfin]
          cases hd : (ops.getD i default).dst with
          | none =>
            rw [hd, Option.map_none] at hdst
            rw [hdst]
            exact .inr ⟨_, rfl, ⟨hF.fn, hF.env, hF.size, .cons hitem ht, hF.defers, hF.mode, hF.kind, hF.round⟩, rfl, rfl⟩
          | some d =>
            rw [hd, Option.map_some] at hdst
            rw [hdst]
            simp only [T.setK_eq]
            rw [hd] at hokd
            have hdl := okDst_lt hokd
            have := hF.size
            refine .inr ⟨_, rfl, ⟨hF.fn, hF.env.set hv (by omega), ?_, .cons hitem ht, hF.defers, hF.mode, hF.kind, hF.round⟩, rfl, rfl⟩
            simpa using hF.size
  · rename_i l td e
    rw [e] at ht
    generalize hg : g.todo = gt at ht
    cases ht with
    | @cons x1 y l r hx ht =>
      cases y <;> first | (cases hx; done) | skip
      rename_i b
      have hfin : g.finish x = { g with todo := .endRangeFunc b :: r } := by simp only [Frame.finish, hg]
      rw [hfin]
      exact .inr ⟨_, rfl, ⟨hF.fn, hF.env, hF.size, .cons hx ht, hF.defers, hF.mode, hF.kind, hF.round⟩, rfl, rfl⟩
  · exact .inl ⟨_, rfl⟩

theorem result_run {h : Hp} {w : World} (hR : HR P φ h w) {env : T AV} {tmps : Array Value} (hE : EnvR φ env tmps) {r : ResultVar} {rv : RV} {v : AV} (hc : compRV P r = some rv) (hv : result1 env h rv = some v) :
    ∃ x, ((match r with | .tmp t => pure (tmps.getD t Go.undef) | .cell a t => do loadVar t (← asAddr (tmps.getD a Go.undef)) : Sem Value)).run P w = .ok x w ∧ Rel φ v x := by
  cases r with
  | tmp t =>
    simp only [compRV, Option.some.injEq] at hc
    subst hc
    simp only [result1, Option.some.injEq] at hv
    subst hv
    exact ⟨_, rfl, hE t⟩
  | cell a t =>
    simp only [compRV] at hc
    cases hk : okT P t with
    | false => rw [hk] at hc; cases hc
    | true =>
      rw [hk, cond_true, Option.some.injEq] at hc
      subst hc
      obtain ⟨d, hd⟩ := okT_desc hk
      have ha := hE a
      cases hg : isAggT P t with
      | true =>
        rw [hg, cond_true] at hv
        simp only [result1] at hv
        split at hv
        · rename_i id gg off e
          rw [e] at ha
          obtain ⟨ad, b, s, n, hX, k1, k2, k3, k4⟩ := rel_ptr ha
          split at hv
          · rename_i c hc
            cases hv
            obtain ⟨xs, e1, e2, e3, e4⟩ := readN_run hR hc k1 k2 k3 (fun _ => k4)
            refine ⟨.agg xs.toArray, ?_, .agg (by simpa using e2)⟩
            simp only [hX, asAddr, loadVar, Sem.run_bind, Sem.run_pure, Result.andThen_ok, run_isAgg' hd, hg, if_true, run_sizeOf' hk, e1]
          · cases hv
        · cases hv
      | false =>
        rw [hg, cond_false] at hv
        simp only [result1] at hv
        split at hv
        · rename_i id gg off e
          rw [e] at ha
          obtain ⟨ad, b, s, n, hX, k1, k2, k3, k4⟩ := rel_ptr ha
          obtain ⟨y, e1, e2⟩ := read1_run hR hv k1 k2 k3 k4
          refine ⟨y, ?_, e2⟩
          simp only [hX, asAddr, loadVar, Sem.run_bind, Sem.run_pure, Result.andThen_ok, run_isAgg' hd, hg, Bool.false_eq_true, if_false, run_load, e1]
        · cases hv

theorem results_run {h : Hp} {w : World} (hR : HR P φ h w) {env : T AV} {tmps : Array Value} (hE : EnvR φ env tmps) {fn : Func} {rvs : List RV} {vs : List AV} (hc : mapO (compRV P) fn.results.toList = some rvs)
    (hv : mapO (result1 env h) rvs = some vs) : ∃ x, (results fn tmps).run P w = .ok x w ∧ Rel φ (tupleA vs) x := by
  have key : ∀ (rs : List ResultVar) (rvs : List RV) (vs : List AV), mapO (compRV P) rs = some rvs → mapO (result1 env h) rvs = some vs →
      ∃ xs, (rs.mapM (m := Sem) fun | .tmp t => pure (tmps.getD t Go.undef) | .cell a t => do loadVar t (← asAddr (tmps.getD a Go.undef))).run P w = .ok xs w ∧ RelL φ vs xs := by
    intro rs
    induction rs with
    | nil =>
      intro rvs vs h1 h2
      simp only [mapO, Option.some.injEq] at h1
      subst h1
      simp only [mapO, Option.some.injEq] at h2
      subst h2
      exact ⟨[], by simp, .nil⟩
    | cons r rs ih =>
      intro rvs vs h1 h2
      unfold mapO at h1
      split at h1
      · rename_i rv hrv
        split at h1
        · rename_i rvs' hrs
          cases h1
          unfold mapO at h2
          split at h2
          · rename_i v hv1
            split at h2
            · rename_i vs' hvs
              cases h2
              obtain ⟨x, e1, e2⟩ := result_run hR hE hrv hv1
              obtain ⟨xs, e3, e4⟩ := ih rvs' vs' hrs hvs
              refine ⟨x :: xs, ?_, .cons e2 e4⟩
              rw [List.mapM_cons, Sem.run_bind]
              refine (congrArg (fun q => Result.andThen q _) e1).trans ?_
              rw [Result.andThen_ok, Sem.run_bind]
              refine (congrArg (fun q => Result.andThen q _) e3).trans ?_
              rfl
            · cases h2
          · cases h2
        · cases h1
      · cases h1
  obtain ⟨xs, e1, e2⟩ := key fn.results.toList rvs vs hc hv
  unfold results
  rw [Sem.run_bind, Array.mapM_eq_mapM_toList, Sem.run_map]
  have e1' := congrArg (fun q => Result.andThen q fun a w' => Result.ok (List.toArray a) w') e1
  refine ⟨if h : xs.toArray.size = 1 then xs.toArray[0] else .tuple xs.toArray, ?_, ?_⟩
  · refine (congrArg (fun q => Result.andThen q _) e1').trans ?_
    rfl
  · cases e2 with
    | nil => exact .tup .nil
    | cons h t =>
      cases t with
      | nil => exact h
      | cons h2 t2 =>
        rw [dif_neg (by simp)]
        exact .tup (.cons h (.cons h2 t2))
end

end Go.Proofs.YtpbhlpajhdlemaaGreatDoor.Am

namespace Go.Proofs.YtpbhlpajhdlemaaGreatDoor.Am

theorem run_getLoop {P : Program} {w : World} {b : Nat} {L : Loop} (h : w.heap[b]? = some (.loop L)) : (Instr.getLoop b).run P w = .ok L w := by
  simp [Instr.getLoop, getObj, Sem.run, h, Bind.bind, Sem.bind, Pure.pure]

theorem run_setLoop {P : Program} {w : World} {b : Nat} {L : Loop} (h : w.heap[b]? = some (.loop L)) (o : Obj) : (setObj b o).run P w = .ok () (putO w b o) := by
  simp [setObj, Sem.run, h, putO]

section
variable {P : Program} {φ : Phi} {h : Hp} {w : World}

/-- A loop's state is changed. -/
theorem setLoop_run (hR : HR P φ h w) {l : Pos} {b : Nat} (hφ : φ l 0 = some (b, 0, 0)) (ok : LState → Bool) (st : LState) (pend : Option C → Option C) (k : Option C → Hp → Out) :
    (∃ why, setLoop h l ok st pend k = .fail why) ∨ ∃ p h' L st0, setLoop h l ok st pend k = k p h' ∧ w.heap[b]? = some (.loop L) ∧ ok st0 = true ∧ LSR st0 L.state ∧ PendR P (numT P L.fn) p L.pending ∧
      h'.next = h.next ∧ ∀ L' : Loop, L'.fn = L.fn → L'.tmps = L.tmps → L'.params = L.params → L'.assign = L.assign → L'.body = L.body → L'.defers = L.defers → LSR st L'.state → PendR P (numT P L.fn) (pend p) L'.pending →
        HR P φ h' (putO w b (.loop L')) ∧ Adv h w φ h' (putO w b (.loop L')) φ := by
  unfold setLoop
  split
  · rename_i ser st0 p fn env params assign body around hid
    cases hc : ok st0 with
    | false => exact .inl ⟨_, rfl⟩
    | true =>
      rw [cond_true, T.setK_eq]
      obtain ⟨b', L, e1, e2, e3, e4, e5, e6, e7, e8, e9, e10, e11, e12⟩ := hR.blk _ _ hid
      rw [hφ, Option.some.injEq, Prod.mk.injEq] at e1
      obtain ⟨rfl, _⟩ := e1
      subst e5
      refine .inr ⟨p, _, L, st0, rfl, e2, hc, e3, e4, rfl, fun L' q1 q2 q3 q4 q5 q6 q7 q8 => ?_⟩
      have u : Upd h w φ l h.next (putO w b (.loop L')) φ := Upd.same hR hid (by simp [putO]) (fun y hy kk => putO_ne (fun c => kk 0 0 0 (by rw [c]; exact hφ))) rfl rfl rfl
      refine ⟨hR.update u (.inr ⟨_, hid, trivial⟩) fun x hx => ?_, Adv.update hR u (.inr ⟨_, hid, trivial⟩)⟩
      cases hx
      exact ⟨b, L', hφ, putO_same e2, q7, by rw [q1] at *; exact q8, q1, by rw [q2]; exact e6, by rw [q2]; exact e7, by rw [q3]; exact e8, e9 |> fun z => by rw [q3]; exact z, by rw [q4]; exact e10, by rw [q5]; exact e11, by rw [q6]; exact e12⟩
  · exact .inl ⟨_, rfl⟩

theorem setParams_run {env env' : T AV} {tmps : Array Value} (hE : EnvR φ env tmps) : ∀ (ts : List Tmp) (l : List AV) (xs : List Value) (env : T AV) (tmps : Array Value), EnvR φ env tmps → RelL φ l xs → (∀ t ∈ ts, t < tmps.size) →
    setParams env (ts.map Pos.ofNat) l = some env' → ts.length = xs.length ∧ EnvR φ env' ((ts.zip xs).foldl (fun tmps p => tmps.setIfInBounds p.1 p.2) tmps) ∧ ((ts.zip xs).foldl (fun tmps p => tmps.setIfInBounds p.1 p.2) tmps).size = tmps.size := by
  clear hE
  intro ts
  induction ts with
  | nil =>
    intro l xs env tmps hE hx _ h
    cases l with
    | nil =>
      simp only [List.map_nil, setParams, Option.some.injEq] at h
      cases hx; subst h
      exact ⟨rfl, hE, rfl⟩
    | cons v l => simp [setParams] at h
  | cons t ts ih =>
    intro l xs env tmps hE hx hlt h
    cases hx with
    | nil => simp [setParams] at h
    | @cons v x l xs hv hx =>
      simp only [List.map_cons, setParams, T.setK_eq] at h
      have := hE.set hv (hlt t (by simp))
      obtain ⟨r1, r2, r3⟩ := ih l xs _ _ this hx (fun u hu => by have := hlt u (by simp [hu]); simpa using this) h
      exact ⟨by simp [r1], r2, by simpa using r3⟩

/-- A round begins. -/
theorem round_run (hR : HR P φ h w) {l : Pos} {b : Nat} (hφ : φ l 0 = some (b, 0, 0)) {args : List AV} {xs : Array Value} (hx : RelL φ args xs.toList) {fr : Fr} (hb : beginRound h l args = some fr) :
    ∃ f tmps assign body, (Instr.yield b xs).run P w = .ok (.round b f tmps assign body) w ∧ FrR P φ fr (Frame.round b f tmps assign body .normal) ∧ fr.round = some l := by
  unfold beginRound at hb
  split at hb
  · rename_i ser st p fn env params assign body around hid
    split at hb
    · rename_i env' he
      cases hb
      obtain ⟨b', L, e1, e2, e3, e4, e5, e6, e7, e8, e9, e10, e11, e12⟩ := hR.blk _ _ hid
      rw [hφ, Option.some.injEq, Prod.mk.injEq] at e1
      obtain ⟨rfl, _⟩ := e1
      rw [← e8] at he
      obtain ⟨r1, r2, r3⟩ := setParams_run e6 L.params.toList args xs.toList env L.tmps e6 hx (fun t ht => Nat.lt_of_lt_of_le (e9 t ht) e7) he
      have hsz : ¬ (xs.size ≠ L.params.size) := by
        rw [Array.length_toList, Array.length_toList] at r1; simp [r1]
      have hfold : (L.params.zip xs).foldl (fun tmps (x : Tmp × Value) => tmps.setIfInBounds x.1 x.2) L.tmps = (L.params.toList.zip xs.toList).foldl (fun tmps p => tmps.setIfInBounds p.1 p.2) L.tmps := by
        rw [← Array.foldl_toList, Array.toList_zip]
      refine ⟨L.fn, (L.params.zip xs).foldl (fun tmps (x : Tmp × Value) => tmps.setIfInBounds x.1 x.2) L.tmps, L.assign, L.body, ?_, ⟨e5, ?_, ?_, ?_, .nil, trivial, rfl, hφ⟩, rfl⟩
      · unfold Instr.yield
        rw [Sem.run_bind, run_getLoop e2, Result.andThen_ok]
        rw [if_neg hsz]
        rfl
      · show EnvR φ env' ((L.params.zip xs).foldl (fun tmps (x : Tmp × Value) => tmps.setIfInBounds x.1 x.2) L.tmps)
        rw [hfold]; exact r2
      · show numT P fn ≤ ((L.params.zip xs).foldl (fun tmps (x : Tmp × Value) => tmps.setIfInBounds x.1 x.2) L.tmps).size
        rw [hfold, r3]; exact e7
      · exact .cons e10 (.cons trivial (.cons e11 .nil))
    · cases hb
  · cases hb
end

section
variable {P : Program} {φ : Phi} {h : Hp} {w : World} {fr : Fr} {g : Frame}

/-- What is handed back at a frame's end, where the model's machine takes one step. -/
theorem backTo_run {v : AV} {x : Value} {callers : List Fr} {cs c0 : List Frame} {φ0 : Phi} {h0 : Hp} {w0 : World} (hR : HR P φ h w) (hC : FrsR P φ callers cs) (hv : Rel φ v x) (hA : Adv h0 w0 φ0 h w φ)
    (hs : ∀ c cs1, cs ++ c0 = c :: cs1 → Steps P (lone g (cs ++ c0) w0) (lone (c.finish x) cs1 w))
    (hl : fr.round = none → callers = [] → ∃ g', Steps P (lone g (cs ++ c0) w0) (lone g' c0 w) ∧ g'.fn = fr.fn ∧ g'.leaving P w (.returned x)) :
    OutR P c0 φ0 ⟨fr, callers, h0⟩ g cs w0 (backTo v callers h) := by
  cases hC with
  | nil =>
    refine ⟨w, φ, x, hR, hA, hv, fun c cs1 e => hs c cs1 (by simpa using e), fun hr => ?_⟩
    have := hl hr rfl
    simpa [bot] using this
  | @cons c y l r hc ht =>
    unfold backTo
    simp only
    have hstep := hs y (r ++ c0) rfl
    rcases give_run (fun c => Out.next ⟨c, l, h⟩) hc hv with ⟨why, e⟩ | ⟨fr', e, e1, e2, e3⟩
    · rw [e]; trivial
    · rw [e]
      refine ⟨y.finish x, r, w, φ, hstep, hR, e1, ht, hA, ?_, ?_⟩
      · rw [bot_cons c l fr h0 h]
        cases l with
        | nil => exact e2
        | cons d ds => simp [bot, List.getLast?_cons]
      · rw [bot_cons c l fr h0 h]
        cases l with
        | nil => exact e3
        | cons d ds => simp [bot, List.getLast?_cons]

/-- Behind a function's body. -/
theorem unwind_run {callers : List Fr} {cs c0 : List Frame} (hR : HR P φ h w) (hF : FrR P φ fr g) (hC : FrsR P φ callers cs) (hm : fr.mode = .ret) : OutR P c0 φ ⟨fr, callers, h⟩ g cs w (unwindA P ⟨fr, callers, h⟩) := by
  have hgm : g.mode = .returning := by
    have := hF.mode
    rw [hm] at this
    cases hq : g.mode <;> rw [hq] at this <;> first | rfl | (cases this)
  have hd := hF.defers
  unfold unwindA
  simp only
  split
  · rename_i id ds hds
    rw [hds] at hd
    generalize hgd : g.defers = gd at hd
    cases hd with
    | @mark _ b _ r hφ ht =>
      split
      · rename_i ser hid
        rw [T.setK_eq]
        obtain ⟨b', e1, e2⟩ := hR.blk _ _ hid
        rw [hφ, Option.some.injEq, Prod.mk.injEq] at e1
        obtain ⟨rfl, _⟩ := e1
        have u : Upd h w φ id h.next (putO w b (.deferred none)) φ := Upd.same hR hid (by simp [putO]) (fun y hy kk => putO_ne (fun c => kk 0 0 0 (by rw [c]; exact hφ))) rfl rfl rfl
        have hrun : (Instr.takeDeferred b).run P w = .ok [] (putO w b (.deferred none)) := by
          simp [Instr.takeDeferred, getObj, setObj, Sem.run, e2, Bind.bind, Sem.bind, Pure.pure, putO]
        have hst := step_collected (P := P) (fr := g) (cs := cs ++ c0) (w := w) (w' := putO w b (.deferred none)) (d := { target := .collected b, args := #[] }) (r := b) (ds := r) (calls := [])
          (by rw [hgm]; simp) hgd rfl hrun
        refine ⟨_, cs, _, φ, .one hst, hR.update u (.inr ⟨_, hid, trivial⟩) fun x hx => (by cases hx), ⟨hF.fn, hF.env, hF.size, hF.todo, ?_, hF.mode, hF.kind, hF.round⟩, hC,
          Adv.update hR u (.inr ⟨_, hid, trivial⟩), ?_, ?_⟩
        · exact ht
        · cases callers with
          | nil => rfl
          | cons c l => simp [bot, List.getLast?_cons]
        · cases callers with
          | nil => rfl
          | cons c l => simp [bot, List.getLast?_cons]
      · trivial
  · rename_i f args ds hds
    rw [hds] at hd
    generalize hgd : g.defers = gd at hd
    cases hd with
    | @call _ _ d _ r hdef ht =>
      obtain ⟨Y, d1, d2⟩ := hdef
      obtain ⟨tg, ag⟩ := d
      simp only at d1 d2
      subst d1
      split
      · rename_i f' args' h' hent
        have he := enter_run (P := P) (φ := φ) (h := h) (w := w) (f := f) d2
        rw [hent] at he
        obtain ⟨_, xs, fn, c, e1, e2, e3, e4⟩ := he
        split
        · rename_i fr' hb
          obtain ⟨q1, q2, q3, _⟩ := begin_run hb e4
          have hinv : (invoke (.fn (.func f) Y) ag).run P w = .ok (.enter f' xs) w := e1
          have hst : ∀ cs0, Go.step P (lone g cs0 w) = .next (lone (Frame.enter P f' xs .deferred) ({ g with defers := r } :: cs0) w) := by
            intro cs0
            refine step_lone_go ?_
            simp [stepG, unwind, hgm, hgd, callDeferred, Sem.runT_eq, hinv, GStep.bare_after]
          have hF' : FrR P φ { fr' with dk := true } (Frame.enter P f' xs .deferred) :=
            ⟨q1.fn, q1.env, q1.size, q1.todo, q1.defers, q1.mode, by rw [if_pos ⟨rfl, q3⟩]; rfl, q1.round⟩
          have hF2 : FrR P φ { fr with defers := ds } { g with defers := r } := ⟨hF.fn, hF.env, hF.size, hF.todo, ht, hF.mode, hF.kind, hF.round⟩
          refine ⟨_, { g with defers := r } :: cs, w, φ, .one (hst _), hR, hF', .cons hF2 hC, Adv.refl h w φ, ?_, ?_⟩
          · rw [bot_cons { fr with defers := ds } callers { fr' with dk := true } h h]
            cases callers with
            | nil => rfl
            | cons c l => simp [bot, List.getLast?_cons]
          · rw [bot_cons { fr with defers := ds } callers { fr' with dk := true } h h]
            cases callers with
            | nil => rfl
            | cons c l => simp [bot, List.getLast?_cons]
        · trivial
      · trivial
  · rename_i hds
    rw [hds] at hd
    have hgd : g.defers = [] := by cases hq : g.defers <;> rw [hq] at hd <;> first | rfl | (cases hd)
    split
    · rename_i fu hfu
      split
      · rename_i vs hvs
        obtain ⟨fn, b, h1, h2, h3, h4, h5, h6⟩ := compFn_spec hfu
        obtain ⟨x, e1, e2⟩ := results_run hR hF.env h3 hvs
        have hkind := hF.kind
        split
        · rename_i hro
          cases hdk : fr.dk with
          | false =>
            rw [hdk] at hkind
            have hlv : g.leaving P w (.returned x) := ⟨hgm, hgd, by simpa using hkind, fn, by rw [hF.fn]; exact h1, e1⟩
            rw [cond_false]
            refine backTo_run hR hC e2 (Adv.refl h w φ) (fun c cs1 e => ?_) (fun _ hcl => ⟨g, ?_, hF.fn, hlv⟩)
            · rw [e]; exact .one (step_leave_returned hlv)
            · subst hcl; cases hC; exact Steps.refl _ _
          | true =>
            rw [hdk, hro] at hkind
            have hkind : g.kind = .deferred := by simpa using hkind
            rw [cond_true]
            cases hC with
            | nil => trivial
            | @cons c y l r hc ht =>
              simp only
              cases hmode : c.mode with
              | run => trivial
              | pan v rec => trivial
              | ret =>
                have hym : y.mode = .returning := by
                  have := hc.mode
                  rw [hmode] at this
                  cases hq : y.mode <;> rw [hq] at this <;> first | rfl | (cases this)
                have hfn : P.funcs[g.fn]? = some fn := by rw [hF.fn]; exact h1
                have hst : ∀ cs0, Go.step P (lone g (y :: cs0) w) = .next (lone y cs0 w) := by
                  intro cs0
                  refine step_lone_go ?_
                  simp [stepG, unwind, hgm, hgd, doReturn, Sem.runT_eq, hfn, e1, hkind, hym, GStep.bare_after]
                refine ⟨y, r, w, φ, .one (hst _), hR, hc, ht, Adv.refl h w φ, ?_, ?_⟩
                · rw [bot_cons c l fr h h]
                · rw [bot_cons c l fr h h]
        · trivial
      · trivial
    · trivial

/-- A round is left. -/
theorem leave_run {callers : List Fr} {cs c0 : List Frame} {l : Pos} {b : Nat} {jump : Option C} {jump' : Option Code} (hR : HR P φ h w) (hC : FrsR P φ callers cs) (hφ : φ l 0 = some (b, 0, 0)) (hro : fr.round = some l)
    (hj : ∀ L : Loop, w.heap[b]? = some (.loop L) → PendR P (numT P L.fn) jump jump')
    (hs : ∀ (v : Value) (w' : World) (c : Frame) (cs1 : List Frame), (Instr.endRound b jump').run P w = .ok v w' → Go.step P (lone g (c :: cs1) w) = .next (lone (c.finish v) cs1 w')) :
    OutR P c0 φ ⟨fr, callers, h⟩ g cs w (leaveRound ⟨fr, callers, h⟩ l jump) := by
  unfold leaveRound
  rcases setLoop_run hR hφ (fun _ => true) (jumpState jump) (fun _ => jump) (fun _ h => backTo (.bool (jumpBool jump)) callers h) with
    ⟨why, e⟩ | ⟨p, h', L, st0, e, e1, e2, e3, e4, e5, e6⟩
  · rw [e]; trivial
  · rw [e]
    have hjl := hj L e1
    have hn : jump'.isNone = jumpBool jump := by
      cases jump <;> cases jump' <;> first | rfl | (cases hjl)
    obtain ⟨q1, q2⟩ := e6 { L with state := if jump'.isNone then .ready else .done, pending := jump' } rfl rfl rfl rfl rfl rfl (by
      cases jump <;> cases jump' <;> first | trivial | (cases hjl)) hjl
    have hrun : (Instr.endRound b jump').run P w = .ok (.bool jump'.isNone) (putO w b (.loop { L with state := if jump'.isNone then .ready else .done, pending := jump' })) := by
      unfold Instr.endRound
      rw [Sem.run_bind, run_getLoop e1, Result.andThen_ok, Sem.run_bind, run_setLoop e1, Result.andThen_ok]
      rfl
    refine backTo_run q1 (hC.mono q2.le) (x := .bool jump'.isNone) (by rw [hn]; exact .bool _) q2 (fun c cs1 ee => ?_) (fun hr => ?_)
    · rw [ee]; exact .one (hs _ _ c cs1 hrun)
    · rw [hro] at hr; cases hr
end

section
variable {P : Program} {φ : Phi} {h : Hp} {w : World} {fr : Fr} {g : Frame}

theorem bot_push (x : Fr) (c : Fr) (cs : List Fr) (h h' : Hp) : bot ⟨x, c :: cs, h⟩ = bot ⟨c, cs, h'⟩ := bot_cons c cs x h h'

/-- An operation's result is taken over. -/
theorem apply_run {callers : List Fr} {cs c0 : List Frame} {res : Res} {R : Result Next} (hR : HR P φ h w) (hF : FrR P φ fr g) (hC : FrsR P φ callers cs) (hres : ResR P φ h w res R)
    (hval : ∀ nx x w', NV nx x → R = .ok nx w' → ∀ cs0, Go.step P (lone g cs0 w) = .next (lone (g.finish x) cs0 w'))
    (hent : ∀ f xs, R = .ok (.enter f xs) w → ∀ cs0, Go.step P (lone g cs0 w) = .next (lone (Frame.enter P f xs .normal) (g :: cs0) w))
    (hrnd : ∀ b f tmps assign body, R = .ok (.round b f tmps assign body) w → ∀ cs0, Go.step P (lone g cs0 w) = .next (lone (Frame.round b f tmps assign body .normal) (g :: cs0) w))
    (hdef : fr.round = none → ∀ d, R = .ok (.defer d) w → ∀ cs0, Go.step P (lone g cs0 w) = .next (lone ({ g with defers := d :: g.defers }.finish Go.undef) cs0 w))
    (hrcv : fr.round = none → R = .ok .recover w → ∀ cs0, tryRecover g cs0 = none → Go.step P (lone g cs0 w) = .next (lone (g.finish .nilIface) cs0 w)) :
    OutR P c0 φ ⟨fr, callers, h⟩ g cs w (apply P ⟨fr, callers, h⟩ res) := by
  unfold apply
  cases res with
  | val v h' =>
    obtain ⟨nx, x, w', φ', rfl, hn, hR', hA, hv⟩ := hres
    simp only
    rcases give_run (fun fr => Out.next ⟨fr, callers, h'⟩) (hF.mono hA.le) hv with ⟨why, e⟩ | ⟨fr', e, e1, e2, e3⟩
    · rw [e]; trivial
    · rw [e]
      refine ⟨g.finish x, cs, w', φ', .one (hval nx x w' hn rfl _), hR', e1, hC.mono hA.le, hA, ?_, ?_⟩
      · cases callers with
        | nil => exact e2
        | cons c l => simp [bot, List.getLast?_cons]
      · cases callers with
        | nil => exact e3
        | cons c l => simp [bot, List.getLast?_cons]
  | enter f args h' =>
    obtain ⟨rfl, xs, fn, c, rfl, h1, h2, h3⟩ := hres
    simp only
    split
    · rename_i fr' hb
      obtain ⟨q1, q2, q3, _⟩ := begin_run hb h3
      refine ⟨_, g :: cs, w, φ, .one (hent f xs rfl _), hR, q1, .cons hF hC, Adv.refl h' w φ, ?_, ?_⟩
      · rw [bot_push fr' fr callers h' h']
      · rw [bot_push fr' fr callers h' h']
    · trivial
  | round l args =>
    obtain ⟨b, xs, hφ, hx, rfl⟩ := hres
    simp only
    split
    · rename_i fr' hb
      obtain ⟨f, tmps, assign, body, e1, e2, e3⟩ := round_run hR hφ hx hb
      refine ⟨_, g :: cs, w, φ, .one (hrnd b f tmps assign body e1 _), hR, e2, .cons hF hC, Adv.refl h w φ, ?_, ?_⟩
      · rw [bot_push fr' fr callers h h]
      · rw [bot_push fr' fr callers h h]
    · trivial
  | defer f args =>
    obtain ⟨d, rfl, hd⟩ := hres
    simp only
    split
    · rename_i hro
      have hF' : FrR P φ { fr with defers := .call f args :: fr.defers } { g with defers := d :: g.defers } := ⟨hF.fn, hF.env, hF.size, hF.todo, .call hd hF.defers, hF.mode, hF.kind, hF.round⟩
      rcases give_run (fun fr => Out.next ⟨fr, callers, h⟩) hF' (v := .undef) (x := Go.undef) Rel.undef with ⟨why, e⟩ | ⟨fr', e, e1, e2, e3⟩
      · rw [e]; trivial
      · rw [e]
        refine ⟨_, cs, w, φ, .one (hdef hro d rfl _), hR, e1, hC, Adv.refl h w φ, ?_, ?_⟩
        · cases callers with
          | nil => exact e2
          | cons c l => simp [bot, List.getLast?_cons]
        · cases callers with
          | nil => exact e3
          | cons c l => simp [bot, List.getLast?_cons]
    · trivial
  | fork l => trivial
  | recover =>
    have hres : R = .ok .recover w := hres
    subst hres
    simp only
    split
    · rename_i hro
      have fin : tryRecover g (cs ++ c0) = none → OutR P c0 φ ⟨fr, callers, h⟩ g cs w (give fr .nilIfc fun fr => .next ⟨fr, callers, h⟩) := by
        intro htr
        rcases give_run (fun fr => Out.next ⟨fr, callers, h⟩) hF (v := .nilIfc) (x := .nilIface) .nilIfc with ⟨why, e⟩ | ⟨fr', e, e1, e2, e3⟩
        · rw [e]; trivial
        · rw [e]
          exact OutR.plain hR e1 hC (.one (hrcv hro rfl _ htr)) e2 e3
      have hkind := hF.kind
      cases hdk : fr.dk with
      | false =>
        rw [hdk] at hkind
        have hkind : g.kind = .normal := by simpa using hkind
        rw [cond_false]
        refine fin ?_
        unfold tryRecover
        rw [hkind]
      | true =>
        rw [hdk, hro] at hkind
        have hkind : g.kind = .deferred := by simpa using hkind
        rw [cond_true]
        cases hC with
        | nil => trivial
        | @cons c y l r hc ht =>
          simp only
          cases hmode : c.mode with
          | run => trivial
          | pan v rec => trivial
          | ret =>
            have hym : y.mode = .returning := by
              have := hc.mode
              rw [hmode] at this
              cases hq : y.mode <;> rw [hq] at this <;> first | rfl | (cases this)
            refine fin ?_
            unfold tryRecover
            rw [hkind]
            simp only [List.cons_append, hym]
    · trivial
  | panic v => trivial
  | fail why => trivial

theorem recJ_sound {rec : St → Out} (hrec : Sound P rec) : Sound P (recJ P rec) := by
  intro s φ w g cs c0 hR hz hF hC
  unfold recJ
  cases hj : joinAt s.cur.fn with
  | false => exact hrec s φ w g cs c0 hR hz hF hC
  | true =>
    rw [cond_true]
    obtain ⟨cur, callers, hp⟩ := s
    cases callers with
    | cons c l => trivial
    | nil =>
      simp only
      have ho := hrec ⟨cur, [], holdH hp⟩ φ w g cs c0 (hold_hr hR) hz hF hC
      have fin : ∀ l v h1, (v, h1) ∈ l → DoneR P c0 φ ⟨cur, [], holdH hp⟩ g cs w v h1 → OutR P c0 φ ⟨cur, [], hp⟩ g cs w (joinK hp l) := by
        intro l v h1 hm ⟨w', φ', x, q1, q2, q3, q4, q5⟩
        unfold joinK
        split
        · rename_i y e
          obtain ⟨φ'', r1, r2, r3⟩ := joinP_sound hR q1 q2 hz q3 hm (v' := y.1) (h' := y.2) e
          exact ⟨w', φ'', x, r1, r2, r3, q4, q5⟩
        · trivial
      split
      · rename_i v h1 e; rw [e] at ho; exact fin _ v h1 (List.mem_singleton.2 rfl) ho
      · rename_i l e; rw [e] at ho; obtain ⟨v, h1, hm, q⟩ := ho; exact fin _ v h1 hm q
      · trivial
      · trivial

theorem addOut_left {s : St} {cs c0 : List Frame} {a b : Out} (q : OutR P c0 φ s g cs w a) : OutR P c0 φ s g cs w (addOut a b) := by
  unfold addOut
  split
  · split
    · exact ⟨_, _, List.mem_cons_self, q⟩
    · obtain ⟨v, h1, hm, q⟩ := q; exact ⟨v, h1, List.mem_append_left _ hm, q⟩
    · trivial
    · trivial
  · trivial
  · trivial

theorem addOut_right {s : St} {cs c0 : List Frame} {a b : Out} (q : OutR P c0 φ s g cs w b) : OutR P c0 φ s g cs w (addOut a b) := by
  unfold addOut
  split
  · obtain ⟨v, h1, hm, q⟩ := q
    split
    · exact ⟨v, h1, List.mem_cons_of_mem _ hm, q⟩
    · exact ⟨v, h1, List.mem_append_right _ hm, q⟩
    · trivial
    · trivial
  · trivial
  · trivial

theorem forkA_run {rec : St → Out} (hrec : Sound P rec) {callers : List Fr} {cs c0 : List Frame} (hR : HR P φ h w) (hz : h.lim = 0) (hF : FrR P φ fr g) (hC : FrsR P φ callers cs) {v : AV} {h' : Hp} {w' : World} {φ' : Phi} {x : Value}
    (hR' : HR P φ' h' w') (hA : Adv h w φ h' w' φ') (hv : Rel φ' v x) (hs : Steps P (lone g (cs ++ c0) w) (lone (g.finish x) (cs ++ c0) w')) :
    ∀ {l : List (AV × Hp)}, (v, h') ∈ l → OutR P c0 φ ⟨fr, callers, h⟩ g cs w (forkA rec ⟨fr, callers, h⟩ l)
  | [], hm => by cases hm
  | y :: l, hm => by
    unfold forkA
    rcases List.mem_cons.1 hm with e | hm
    · subst e
      simp only
      rcases give_run (fun fr => Out.next ⟨fr, callers, h'⟩) (hF.mono hA.le) hv with ⟨why, e⟩ | ⟨fr', e, e1, e2, e3⟩
      · rw [e]; trivial
      · rw [e]
        refine addOut_left ?_
        have ho := hrec ⟨fr', callers, h'⟩ φ' w' (g.finish x) cs c0 hR' (hA.lim.trans hz) e1 (hC.mono hA.le)
        refine OutR.then (s' := ⟨fr', callers, h'⟩) hR hz hs hA ?_ ?_ ho
        · cases callers with
          | nil => exact e2
          | cons c l => simp [bot, List.getLast?_cons]
        · cases callers with
          | nil => exact e3
          | cons c l => simp [bot, List.getLast?_cons]
    · split
      · exact addOut_right (forkA_run hrec hR hz hF hC hR' hA hv hs hm)
      · trivial

/-- The same, where the functions at whose ends orders are joined are run by themselves. -/
theorem applyJ_run {rec : St → Out} (hrec : Sound P rec) {callers : List Fr} {cs c0 : List Frame} {res : Res} {R : Result Next} (hR : HR P φ h w) (hz : h.lim = 0) (hF : FrR P φ fr g) (hC : FrsR P φ callers cs) (hres : ResR P φ h w res R)
    (hval : ∀ nx x w', NV nx x → R = .ok nx w' → ∀ cs0, Go.step P (lone g cs0 w) = .next (lone (g.finish x) cs0 w'))
    (hent : ∀ f xs, R = .ok (.enter f xs) w → ∀ cs0, Go.step P (lone g cs0 w) = .next (lone (Frame.enter P f xs .normal) (g :: cs0) w))
    (hrnd : ∀ b f tmps assign body, R = .ok (.round b f tmps assign body) w → ∀ cs0, Go.step P (lone g cs0 w) = .next (lone (Frame.round b f tmps assign body .normal) (g :: cs0) w))
    (hdef : fr.round = none → ∀ d, R = .ok (.defer d) w → ∀ cs0, Go.step P (lone g cs0 w) = .next (lone ({ g with defers := d :: g.defers }.finish Go.undef) cs0 w))
    (hrcv : fr.round = none → R = .ok .recover w → ∀ cs0, tryRecover g cs0 = none → Go.step P (lone g cs0 w) = .next (lone (g.finish .nilIface) cs0 w)) :
    OutR P c0 φ ⟨fr, callers, h⟩ g cs w (applyJ P rec ⟨fr, callers, h⟩ res) := by
  have plain := apply_run (c0 := c0) hR hF hC hres hval hent hrnd hdef hrcv
  cases res with
  | fork l =>
    obtain ⟨v, h', hm, nx, x, w', φ', rfl, hn, hR', hA, hv⟩ := hres
    exact forkA_run hrec hR hz hF hC hR' hA hv (.one (hval nx x w' hn rfl _)) hm
  | enter f args h' =>
    unfold applyJ
    simp only
    cases hj : joinAt f with
    | false => exact plain
    | true =>
      rw [cond_true]
      obtain ⟨rfl, xs, fn, c, rfl, h1, h2, h3⟩ := hres
      split
      · rename_i fr' hb
        obtain ⟨q1, q2, q3, _⟩ := begin_run hb h3
        have ho := recJ_sound hrec ⟨fr', [], h'⟩ φ w _ [] (g :: (cs ++ c0)) hR hz q1 .nil
        split
        · rename_i v h1' e
          rw [e] at ho
          obtain ⟨w', φ', x, r1, r2, r3, r4, _⟩ := ho
          have st := (Steps.one (hent f xs rfl (cs ++ c0))).trans (r4 g (cs ++ c0) rfl)
          rcases give_run (fun fr => Out.next ⟨fr, callers, h1'⟩) (hF.mono r2.le) r3 with ⟨why, e⟩ | ⟨fr'', e, e1, e2, e3⟩
          · rw [e]; trivial
          · rw [e]
            refine ⟨g.finish x, cs, w', φ', st, r1, e1, hC.mono r2.le, r2, ?_, ?_⟩
            · cases callers with
              | nil => exact e2
              | cons c l => simp [bot, List.getLast?_cons]
            · cases callers with
              | nil => exact e3
              | cons c l => simp [bot, List.getLast?_cons]
        · trivial
        · trivial
        · trivial
      · trivial
  | _ => exact plain
end

end Go.Proofs.YtpbhlpajhdlemaaGreatDoor.Am

namespace Go.Proofs.YtpbhlpajhdlemaaGreatDoor.Am

theorem stepR_scope {P : Program} {b : Frame} {a : Act} {k : List Go.Item} {cs : List Frame} {w : World} {c : Code} :
    Go.step P (lone (b.atR a (.code (.scope c) :: k)) cs w) = .next (lone (b.atR a (.code c :: .inScope c :: k)) cs w) :=
  step_lone_go (by simp [stepG, stepG.exec, Frame.atR])

theorem stepR_inScope {P : Program} {b : Frame} {a : Act} {k : List Go.Item} {cs : List Frame} {w : World} {c : Code} :
    Go.step P (lone (b.atR a (.inScope c :: k)) cs w) = .next (lone (b.atR a k) cs w) :=
  step_lone_go (by simp [stepG, stepG.exec, Frame.atR])

/-- A new loop's record. -/
theorem newDfr_run {P : Program} {φ : Phi} {h : Hp} {w : World} (hR : HR P φ h w) (hm : Room h) (ser ser' : Nat) :
    HR P (φ.put h.next 0 (w.heap.size, 0, 0)) ⟨T.set h.next (some (.dfr ser)) h.heap, h.next.succ, ser', h.lim⟩ (w.alloc (.deferred (some []))) ∧
    Adv h w φ ⟨T.set h.next (some (.dfr ser)) h.heap, h.next.succ, ser', h.lim⟩ (w.alloc (.deferred (some []))) (φ.put h.next 0 (w.heap.size, 0, 0)) := by
  have u := Upd.alloc hR hm (.deferred (some [])) 0
  refine ⟨hR.update u (.inl ⟨Nat.le_refl _, by rw [Pos.num_succ]; omega, hR.next_none hm⟩) fun x hx => ?_, Adv.update hR u (.inl ⟨Nat.le_refl _, by rw [Pos.num_succ]; omega, hR.next_none hm⟩)⟩
  cases hx
  exact ⟨w.heap.size, Phi.put_same _ _ _ _, alloc_new _ _⟩

theorem newLoop_run {P : Program} {φ : Phi} {h : Hp} {w : World} (hR : HR P φ h w) (hm : Room h) (ser ser' : Nat) {fn : FuncId} {env : T AV} {params : List Pos} {assign body : C} {around : Pos} {L : Loop}
    (h1 : L.state = .ready) (h2 : L.pending = none) (h3 : L.fn = fn) (h4 : EnvR φ env L.tmps) (h5 : numT P fn ≤ L.tmps.size) (h6 : L.params.toList.map Pos.ofNat = params) (h7 : ∀ t ∈ L.params.toList, t < numT P fn)
    (h8 : assign = comp P (numT P fn) L.assign) (h9 : body = comp P (numT P fn) L.body) (h10 : φ around 0 = some (L.defers, 0, 0)) :
    HR P (φ.put h.next 0 (w.heap.size, 0, 0)) ⟨T.set h.next (some (.loop ser .ready none fn env params assign body around)) h.heap, h.next.succ, ser', h.lim⟩ (w.alloc (.loop L)) ∧
    Adv h w φ ⟨T.set h.next (some (.loop ser .ready none fn env params assign body around)) h.heap, h.next.succ, ser', h.lim⟩ (w.alloc (.loop L)) (φ.put h.next 0 (w.heap.size, 0, 0)) := by
  have u := Upd.alloc hR hm (.loop L) 0
  refine ⟨hR.update u (.inl ⟨Nat.le_refl _, by rw [Pos.num_succ]; omega, hR.next_none hm⟩) fun x hx => ?_, Adv.update hR u (.inl ⟨Nat.le_refl _, by rw [Pos.num_succ]; omega, hR.next_none hm⟩)⟩
  cases hx
  exact ⟨w.heap.size, L, Phi.put_same _ _ _ _, alloc_new _ _, by rw [h1]; trivial, by rw [h2]; trivial, h3, h4.mono u.le, h5, h6, h7, h8, h9, u.le _ _ _ h10⟩

section
variable {P : Program} {φ : Phi} {h : Hp} {w : World} {fr : Fr} {callers : List Fr} {g : Frame} {cs c0 : List Frame}

theorem bot_eq {fr fr' : Fr} (f1 : fr'.fn = fr.fn) (f2 : fr'.round = fr.round) (callers : List Fr) (h h' : Hp) : (bot ⟨fr', callers, h'⟩).fn = (bot ⟨fr, callers, h⟩).fn ∧ (bot ⟨fr', callers, h'⟩).round = (bot ⟨fr, callers, h⟩).round := by
  cases callers with
  | nil => exact ⟨f1, f2⟩
  | cons c l => simp [bot, List.getLast?_cons]

/-- A frame is begun. -/
theorem enter_out {φ0 : Phi} {h0 : Hp} {w0 : World} {fr0 fr' : Fr} {g0 g' : Frame} (hA : Adv h0 w0 φ0 h w φ) (hR : HR P φ h w) (hF : FrR P φ fr g) (hC : FrsR P φ0 callers cs) (f1 : fr.fn = fr0.fn) (f2 : fr.round = fr0.round)
    (hF' : FrR P φ fr' g') (hs : Go.step P (lone g0 (cs ++ c0) w0) = .next (lone g' (g :: (cs ++ c0)) w)) : OutR P c0 φ0 ⟨fr0, callers, h0⟩ g0 cs w0 (.next ⟨fr', fr :: callers, h⟩) := by
  obtain ⟨q1, q2⟩ := bot_eq f1 f2 callers h0 h0
  refine ⟨g', g :: cs, w, φ, .one hs, hR, hF', .cons hF (hC.mono hA.le), hA, ?_, ?_⟩
  · rw [bot_push fr' fr callers h h0]; exact q1
  · rw [bot_push fr' fr callers h h0]; exact q2

theorem FrR.run_mode (hF : FrR P φ fr g) (hm : fr.mode = .run) : g.mode = .run := by
  have := hF.mode
  rw [hm] at this
  cases hgm : g.mode <;> rw [hgm] at this <;> first | rfl | (cases this)

/-- A step of the frame as it stands. -/
theorem step_at (hF : FrR P φ fr g) (hm : fr.mode = .run) {td : List Go.Item} (hg : g.todo = td) {m : Machine} {cs : List Frame} (hs : Go.step P (lone (g.atR ⟨g.tmps, g.defers⟩ td) cs w) = .next m) : Go.step P (lone g cs w) = .next m := by
  have e := frame_run (hF.run_mode hm)
  rw [hg] at e
  rw [e]; exact hs

theorem ret_out (hR : HR P φ h w) (hF : FrR P φ fr g) (hC : FrsR P φ callers cs) (hro : fr.round = none) (hs : ∀ cs0, Go.step P (lone g cs0 w) = .next (lone { g with mode := .returning } cs0 w)) :
    OutR P c0 φ ⟨fr, callers, h⟩ g cs w (.next ⟨{ fr with mode := .ret }, callers, h⟩) :=
  OutR.plain (g' := { g with mode := .returning }) hR (FrR.mk (fr := { fr with mode := .ret }) (g := { g with mode := .returning }) hF.fn hF.env hF.size hF.todo hF.defers trivial hF.kind hF.round) hC (.one (hs _)) rfl rfl

theorem kind_round (hF : FrR P φ fr g) {l : Pos} (hr : fr.round = some l) : g.kind = .normal := by
  rw [hF.kind, if_neg (fun q => by rw [hr] at q; cases q.2)]

theorem roundOf_none (hF : FrR P φ fr g) (hr : fr.round = none) : g.roundOf = none := by
  have := hF.round
  rw [hr] at this
  cases hq : g.roundOf <;> rw [hq] at this <;> first | rfl | (cases this)

theorem evalOp_defer (P : Program) (f : Opd) (l : List Opd) (env : T AV) (h : Hp) : (∃ f' args, evalOp P (.defer f l) env h = .defer f' args) ∨ ∃ why, evalOp P (.defer f l) env h = .fail why := by
  unfold evalOp
  simp only
  split
  · exact .inl ⟨_, _, rfl⟩
  · exact .inr ⟨_, rfl⟩

theorem wanted_eq {n : Nat} {ops : Array Oper} {o : Oper} {env : T AV} {tmps : Array Value} {bef : Nat} (hE : EnvR φ env tmps) (hk : (compOper P n ops bef o).ok = true) :
    Region.wanted o (yielded ops tmps) = wantedA (compOper P n ops bef o) env := by
  unfold wantedA Region.wanted
  simp only [compOper, Bool.and_eq_true] at hk ⊢
  cases hgd : o.guard with
  | none => rfl
  | some x =>
    obtain ⟨j, want⟩ := x
    have hg := hk.2
    rw [hgd] at hg
    simp only [okGuard] at hg
    split at hg
    · rename_i oj hj
      cases hd : oj.dst with
      | none => rw [hd] at hg; cases hg
      | some d =>
        simp only [Option.map_some, hj, Option.bind_some, hd, Option.getD_some, yielded]
        have hr := hE d
        rw [Array.getD_eq_getD_getElem?] at hr
        unfold ev at hr
        simp only at hr
        cases hv : T.get (Pos.ofNat d) env with
        | none =>
          rw [hv] at hr
          simp only at hr
          cases hx : tmps[d]? with
          | none => rfl
          | some x => rw [hx] at hr; cases hr; rfl
        | some v =>
          rw [hv] at hr
          simp only at hr
          cases hx : tmps[d]? with
          | none => rw [hx] at hr; cases hr; rfl
          | some x =>
            rw [hx] at hr
            simp only [Option.getD_some] at hr
            cases hr <;> first | rfl | skip
            rename_i b
            cases b <;> cases want <;> rfl
    · cases hg
end
end Go.Proofs.YtpbhlpajhdlemaaGreatDoor.Am
