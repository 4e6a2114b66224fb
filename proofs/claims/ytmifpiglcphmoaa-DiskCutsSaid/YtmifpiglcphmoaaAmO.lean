import Derived.Test.YtmifpiglcphmoaaAmN
/- THE ABSTRACT MACHINE, part O: a machine over values without block numbers, run by the kernel, and the proof that the model's machine does what it does. No condition. -/
set_option linter.unusedSimpArgs false
set_option linter.unusedVariables false
namespace Go.Proofs.Ytmifpiglcphmoaa.Am
open Go.RowKit

theorem AmFn.calls {P : Program} {f : FuncId} {args : List AV} {h h' : Hp} {v : AV} {xs : Array Value} {φ : Phi} {w : World} (hf : AmFn P f args h v h') (hR : HR P φ h w) (hz : h.lim = 0) (ha : RelL φ args xs.toList) :
    Calls P f xs w fun e w' => ∃ φ' x, e = .returned x ∧ Rel φ' v x ∧ HR P φ' h' w' ∧ Adv h w φ h' w' φ' := by
  intro cs
  obtain ⟨fr, hb, an⟩ := hf.ans
  obtain ⟨q1, q2, q3, _⟩ := begin_run (φ := φ) (xs := xs) hb ha
  obtain ⟨w', φ', x, r1, r2, r3, _, r5⟩ := an φ w _ [] cs hR hz q1 .nil
  obtain ⟨g', s1, s2, s3⟩ := r5 q3
  exact ⟨.returned x, w', g', ⟨φ', x, rfl, r3, r1, r2⟩, s1, s2.trans q2, s3⟩

/-- Where nothing may be written, what was there stays. -/
theorem Adv.below {h h' : Hp} {w w' : World} {φ φ' : Phi} (a : Adv h w φ h' w' φ') (hn : ∀ id, ¬ Nonro h id) : Below w.heap.size w w' :=
  ⟨a.os, a.tape, a.output, a.size, fun k hk => a.keep k hk fun id _ _ _ _ => hn id⟩

/-- The heap of one row that is read only. -/
noncomputable def rowH (n : Nat) (l : List AV) : Hp := ⟨T.set Pos.first (some (.cells 0 (.lst n l) 0 0 0 0 true false)) .e, Pos.first.succ, 0, 0⟩

noncomputable def rowPhi (b off n : Nat) : Phi := fun id g => if id = Pos.first ∧ g = 0 then some (b, (off : Int), n) else none

theorem rowH_get (n : Nat) (l : List AV) (id : Pos) : T.get id (rowH n l).heap = if id = Pos.first then some (.cells 0 (.lst n l) 0 0 0 0 true false) else none := by
  show T.get id (T.set Pos.first _ .e) = _
  rw [T.get_set, T.get_e]

theorem rowH_ro (n : Nat) (l : List AV) : ∀ id, ¬ Nonro (rowH n l) id := by
  intro id ⟨b, e, q⟩
  rw [rowH_get] at e
  split at e
  · cases e
    have := q _ _ _ _ _ _ _ _ rfl
    cases this
  · cases e

theorem rowH_rel {P : Program} {w : World} {b off : Nat} {C : Array Value} {el : TypeId} {fr : Nat × Nat} {l : List AV} {ys : List Value} (hb : w.heap[b]? = some (.cells C el fr)) (hl : l.length = ys.length)
    (hC : ∀ i, i < ys.length → C[off + i]? = ys[i]?) (hr : ∀ φ, RelL φ l ys) : HR P (rowPhi b off C.size) (rowH l.length l) w := by
  have blt : b < w.heap.size := by
    rcases Nat.lt_or_ge b w.heap.size with h | h
    · exact h
    · rw [Array.getElem?_eq_none h] at hb; cases hb
  have phi : ∀ {id g r}, rowPhi b off C.size id g = some r → id = Pos.first ∧ g = 0 ∧ r = (b, (off : Int), C.size) := fun {id g r} e => by
    unfold rowPhi at e
    split at e
    · rename_i c
      cases e
      exact ⟨c.1, c.2, rfl⟩
    · cases e
  have nx : (rowH l.length l).next.num = 2 := rfl
  have n1 : Pos.first.num = 1 := rfl
  refine ⟨fun id x e => ?_, fun id g r e => ?_, fun id x e => ?_, fun id g b' s n id' g' s' n' e e' => ?_, fun id g b' s n e => ?_, fun g hg => absurd hg (Nat.not_lt_zero _)⟩
  · rw [rowH_get] at e
    split at e
    · rename_i c
      cases e
      subst c
      refine ⟨rfl, Nat.le_refl _, fun h => absurd h (Nat.lt_irrefl _), fun j hj => ?_, fun j j' b1 s1 n1 s2 n2 h1 h2 h3 h4 e1 e2 => ?_, fun j h1 h2 => ?_⟩
      · unfold rowPhi
        rw [if_neg fun c => by omega]
      · obtain ⟨_, _, q1⟩ := phi e1
        obtain ⟨_, _, q2⟩ := phi e2
        cases q1; cases q2; rfl
      · have : j = 0 := by omega
        subst this
        refine ⟨b, off, C.size, C, el, fr, by unfold rowPhi; rw [if_pos ⟨rfl, rfl⟩], hb, rfl, fun c => (by cases c), fun i v hi1 hi2 hv => ?_⟩
        have hv : l[i]? = some v := hv
        have hil : i < l.length := by
          rcases Nat.lt_or_ge i l.length with h | h
          · exact h
          · rw [List.getElem?_eq_none h] at hv; cases hv
        obtain ⟨x, hx, rx⟩ := (hr (rowPhi b off C.size)).get hv
        exact ⟨off + i, x, by omega, by rw [hC i (by omega), hx], rx⟩
    · cases e
  · obtain ⟨q, _, _⟩ := phi e
    subst q
    exact .inl (by rw [nx, n1]; omega)
  · rw [rowH_get] at e
    split at e
    · rename_i c
      subst c
      exact .inl (by rw [nx, n1]; omega)
    · cases e
  · exact .inl (by rw [(phi e).1, (phi e').1])
  · obtain ⟨_, _, q⟩ := phi e
    cases q
    exact blt

theorem rowH_slice {l : List AV} {b off cap n : Nat} (h : l.length ≤ cap) (hn : 0 < cap → off + cap ≤ n) : Rel (rowPhi b off n) (.sl Pos.first 0 0 l.length l.length false 1) (.slice (some ⟨b, off, none⟩) l.length cap) := by
  refine .sl (b := b) (s := off) (n := n) (by unfold rowPhi; rw [if_pos ⟨rfl, rfl⟩]) rfl rfl h h (Nat.le_refl _) (fun c => by cases c) fun hc => ⟨by simp, ?_⟩
  have := hn hc
  show off + cap * 1 ≤ n
  omega

theorem rowH_row {l : List AV} : SlR (rowH l.length l) (.sl Pos.first 0 0 l.length l.length false 1) l := by
  refine .mk rfl ?_
  have q := Row.of_block (h := rowH l.length l) (id := Pos.first) (ser := 0) (lo := 0) (hh := 0) (g := 0) (m := 0) (off := 0) (n := l.length) (c := .lst l.length l) (ro := true) (fz := false) (by rw [rowH_get, if_pos rfl]) rfl (by show 1 < 2; omega) (Nat.le_refl _) (by show 0 + l.length ≤ l.length; omega)
  rw [List.drop_zero] at q
  have e : (Cells.lst l.length l).toL.take l.length = l := List.take_length
  rw [e] at q
  exact q

/-! ### Calls within a region that draws its order -/

open Classical in
/-- Answers that are known, by the function that is asked. -/
noncomputable def recF : List KC → (KC → Fr) → St → Out
  | [], _, _ => .fail ""
  | a :: A, fr, s => if a.f = s.cur.fn then (if s = ⟨fr a, [], a.h⟩ then .done a.v a.h' else .fail "") else recF A fr s

theorem recF_sound {P : Program} {fr : KC → Fr} : ∀ {A : List KC}, (∀ a ∈ A, AmFn P a.f a.args a.h a.v a.h' ∧ beginFn P a.f a.args = some (fr a)) → Sound P (recF A fr)
  | [], _ => fun _ _ _ _ _ _ _ _ _ => trivial
  | a :: A, h => fun s φ w g c0 hs hR hz hF => by
    unfold recF
    split
    · split
      · rename_i e
        subst e
        obtain ⟨q1, q2⟩ := h a (by simp)
        obtain ⟨fr', e1, e2⟩ := q1.ans
        rw [q2] at e1
        cases e1
        exact e2 φ w g [] c0 hR hz hF .nil
      · trivial
    · exact recF_sound (fun y hy => h y (List.mem_cons_of_mem _ hy)) s φ w g c0 hs hR hz hF

/-- The frame that a call begins. -/
noncomputable def frOf (P : Program) (f : FuncId) (args : List AV) : Fr :=
  match beginFn P f args with
  | some fr => fr
  | none => default

theorem AmFn.begins {P : Program} {f : FuncId} {args : List AV} {h h' : Hp} {v : AV} (hf : AmFn P f args h v h') : beginFn P f args = some (frOf P f args) ∧ (frOf P f args).fn = f := by
  obtain ⟨fr, e, _⟩ := hf
  have q : frOf P f args = fr := by unfold frOf; rw [e]
  refine ⟨by rw [q]; exact e, ?_⟩
  rw [q]
  unfold beginFn at e
  split at e
  · rename_i fu _
    cases hl : Nat.ble args.length fu.nargs with
    | true => rw [hl] at e; cases e; rfl
    | false => rw [hl] at e; cases e
  · cases e

theorem eqAV_int (n : Nat) (k : IntKind) (a : Int) : eqAV (n + 1) (.int k a) (.int k a) = true := by
  unfold eqAV
  simp only [Bool.and_eq_true]
  exact ⟨eqK_iff.2 rfl, eqI_iff.2 rfl⟩

noncomputable def idxA2 (len es : Nat) (x i : AV) (h : Hp) : Res :=
  match x, i with
  | .ptr id g off, .int _ (.ofNat i) => bif Nat.blt i len then natK (Nat.add off (Nat.mul i es)) fun o => .val (.ptr id g o) h else .fail "idxAddrArr bounds"
  | _, _ => .fail "idxAddrArr"

theorem idxA2_ptr (len es : Nat) (id : Pos) (g off : Nat) (k : IntKind) (z : Int) (h : Hp) :
    idxA2 len es (.ptr id g off) (.int k z) h = if 0 ≤ z ∧ z < (len : Int) then .val (.ptr id g (off + z.toNat * es)) h else .fail (if 0 ≤ z then "idxAddrArr bounds" else "idxAddrArr") := by
  cases z with
  | ofNat n =>
    unfold idxA2
    simp only [natK_eq]
    by_cases c : n < len
    · rw [blt_iff.2 c, if_pos ⟨by simp, by simpa using c⟩]; rfl
    · rw [blt_false.2 (by omega), if_neg fun q => c (by simpa using q.2)]; simp
  | negSucc n =>
    rw [if_neg (by simp), if_neg (by simp)]
    rfl

theorem qev_idxArr (P : Program) (env : T AV) (h : Hp) (len es : Nat) (x i : Opd) : evalOp P (.idxAddrArr len es x i) env h = idxA2 len es (ev env x) (ev env i) h := rfl


/-! ### A region that draws its order, operation by operation -/

/-- What an actor's own run answers. -/
noncomputable def actO (P : Program) (rec : St → Out) (op : AOp) (env : T AV) (h : Hp) : Option (AV × Hp) :=
  match evalOp P op env h with
  | .val v h => some (v, h)
  | .enter f args h => (match beginFn P f args with
    | some fr => (match rec ⟨fr, [], h⟩ with
      | .done v h => some (v, h)
      | _ => none)
    | none => none)
  | _ => none

theorem actO_K {P : Program} {rec : St → Out} {op : AOp} {env : T AV} {h h' : Hp} {v : AV} (e : actO P rec op env h = some (v, h')) (k : AV → Hp → Out) : actK P rec op env h k = k v h' := by
  unfold actO at e
  unfold actK
  split at e
  · rename_i v1 h1 he
    cases e
    rw [he]
  · rename_i f args h1 he
    rw [he]
    split at e
    · rename_i fr hb
      simp only [hb]
      split at e
      · rename_i v1 h2 hr
        cases e
        rw [hr]
      · cases e
    · cases e
  · cases e

noncomputable def stepD (P : Program) (rec : St → Out) (i : Nat) (s : DS) (o : O) : Option DS :=
  if wantedA o s.env = true then
    match kindOf o.op with
    | .still => (match evalOp P o.op s.env s.h with
      | .val v _ => some ⟨s.acts, s.lds, s.als, s.rid, setD s.env o.dst v, s.h⟩
      | _ => none)
    | .load => (match evalOp P o.op s.env s.h with
      | .val v _ => if lookBack P o.op s.env v o.before s.acts = true then some ⟨s.acts, ⟨i, o.op, s.env, v⟩ :: s.lds, s.als, s.rid, setD s.env o.dst v, s.h⟩ else none
      | _ => none)
    | .alloc => none
    | .actor => (match actO P rec o.op s.env ⟨insT o.before s.als s.h.heap, s.h.next, s.h.ser, s.h.lim⟩ with
      | some (v, h') => if lookAgain P h' o.before s.lds = true then some ⟨⟨i, s.h⟩ :: s.acts, s.lds, remAl o.before s.als, s.rid, setD s.env o.dst v, h'⟩ else none
      | none => none)
  else match kindOf o.op with
    | .alloc => none
    | _ => some ⟨s.acts, s.lds, s.als, s.rid, setD s.env o.dst .undef, s.h⟩

noncomputable def runD (P : Program) (rec : St → Out) : Nat → List O → DS → Option DS
  | _, [], s => some s
  | i, o :: l, s => match stepD P rec i s o with
    | some s' => runD P rec (i + 1) l s'
    | none => none

theorem stepD_go {P : Program} {rec : St → Out} {K : T AV → Hp → Out} {i : Nat} {s s' : DS} {o : O} (e : stepD P rec i s o = some s') (rest : List O) :
    drawnGo P rec K i s.acts s.lds s.als s.rid s.env s.h (o :: rest) = drawnGo P rec K (i + 1) s'.acts s'.lds s'.als s'.rid s'.env s'.h rest := by
  unfold stepD at e
  rw [show drawnGo P rec K i s.acts s.lds s.als s.rid s.env s.h (o :: rest) = _ from by unfold drawnGo; rfl]
  split at e
  · rename_i hw
    rw [hw]
    cases hk : kindOf o.op with
    | still =>
      rw [hk] at e
      simp only at e
      split at e
      · rename_i v h1 he
        cases e
        simp only [cond_true, he, setDst_eq]
      · cases e
    | load =>
      rw [hk] at e
      simp only at e
      split at e
      · rename_i v h1 he
        split at e
        · rename_i hl
          cases e
          simp only [cond_true, he, hl, setDst_eq]
        · cases e
      · cases e
    | alloc => rw [hk] at e; cases e
    | actor =>
      rw [hk] at e
      simp only at e
      split at e
      · rename_i v h1 he
        split at e
        · rename_i hl
          cases e
          simp only [cond_true, insK_eq, actO_K he, hl, setDst_eq]
        · cases e
      · cases e
  · rename_i hw
    have hw : wantedA o s.env = false := by simpa using hw
    rw [hw]
    cases hk : kindOf o.op with
    | alloc => rw [hk] at e; cases e
    | _ =>
      rw [hk] at e
      cases e
      simp only [cond_false, setDst_eq]

theorem runD_go {P : Program} {rec : St → Out} {K : T AV → Hp → Out} {rest : List O} : ∀ {l : List O} {i : Nat} {s s' : DS}, runD P rec i l s = some s' →
    drawnGo P rec K i s.acts s.lds s.als s.rid s.env s.h (l ++ rest) = drawnGo P rec K (i + l.length) s'.acts s'.lds s'.als s'.rid s'.env s'.h rest
  | [], i, s, s', e => by cases e; rfl
  | o :: l, i, s, s', e => by
    unfold runD at e
    split at e
    · rename_i s1 he
      rw [List.cons_append, stepD_go he, runD_go e, List.length_cons, show i + 1 + l.length = i + (l.length + 1) by omega]
    · cases e

theorem runD_app {P : Program} {rec : St → Out} : ∀ {l r : List O} {i : Nat} {s s1 : DS}, runD P rec i l s = some s1 → runD P rec i (l ++ r) s = runD P rec (i + l.length) r s1
  | [], r, i, s, s1, e => by cases e; rfl
  | o :: l, r, i, s, s1, e => by
    unfold runD at e
    show runD P rec i (o :: (l ++ r)) s = _
    rw [runD]
    split at e
    · rename_i s2 he
      rw [runD_app e, List.length_cons, show i + 1 + l.length = i + (l.length + 1) by omega]
    · cases e

/-- A region that draws its order and makes no new blocks of its own. -/
theorem runDrawn_of {P : Program} {rec : St → Out} {l : List O} {env env' : T AV} {h h' : Hp} {acts : List Actor} {lds : List Ld} (hs : skipIds l h.next = h.next) (e : runD P rec 0 l ⟨[], [], [], h.next, env, h⟩ = some ⟨acts, lds, [], h.next, env', h'⟩) :
    runDrawn P rec l env h = some (env', h') := by
  unfold runDrawn
  rw [hs]
  have q := runD_go (K := kD) (rest := []) e
  rw [List.append_nil] at q
  have q : drawnGo P rec kD 0 [] [] [] h.next env h l = drawnGo P rec kD (0 + l.length) acts lds [] h.next env' h' [] := q
  rw [show (⟨h.heap, h.next, h.ser, h.lim⟩ : Hp) = h from rfl, q]
  rfl

theorem lookAgain_all {P : Program} {h : Hp} {m : Nat} : ∀ {l : List Ld}, (∀ d ∈ l, bit m d.i = true) → lookAgain P h m l = true
  | [], _ => rfl
  | d :: l, hd => by
    unfold lookAgain
    rw [hd d (by simp), lookAgain_all fun x hx => hd x (List.mem_cons_of_mem _ hx)]
    rfl

theorem eqAV_int8 (k : IntKind) (a : Int) : eqAV 8 (.int k a) (.int k a) = true := eqAV_int 7 k a

theorem again_ones {P : Program} {h : Hp} {n m : Nat} {l : List Ld} (hm : m = 2 ^ n - 1) (hl : ∀ d ∈ l, d.i < n) : lookAgain P h m l = true :=
  lookAgain_all fun d hd => by rw [bit_eq, hm, Nat.testBit_two_pow_sub_one]; simpa using hl d hd

/-! ### Parts of rows -/

theorem Gro.front {h : Hp} {id : Pos} {g : Nat} {l l2 : List AV} (b : Gro h id g (l ++ l2)) : Row h id g 0 l := by
  obtain ⟨ser, c, hi, m, fz, e, hw, hl⟩ := b.mem
  have hs : c.size = l.length + l2.length := by rw [← Cells.toL_length hw, hl, List.length_append]
  have q := Row.of_block (off := 0) (n := l.length) e hw b.old (Nat.le_refl _) (by omega)
  rw [List.drop_zero, hl, List.take_left'  rfl] at q
  exact q

theorem slice_to (P : Program) {env : T AV} {h : Hp} {x y : Opd} {id : Pos} {g len cap n : Nat} (hx : ev env x = .sl id g 0 len cap false 1) (hy : ev env y = int64 n) (hn : n ≤ cap) :
    evalOp P (.sliceSl 1 x none (some y) none) env h = .val (.sl id g 0 n cap false 1) h := by
  have e : evalOp P (.sliceSl 1 x none (some y) none) env h = (match ev env x with
    | .nilSl => (match evO env none 0, evO env (some y) 0, evO env none 0 with
      | some 0, some 0, some 0 => .val .nilSl h
      | _, _, _ => .fail "sliceSl nil")
    | .sl id g off len cap ex es' =>
      (match evO env none 0, evO env (some y) len, evO env none cap with
      | some l, some r, some m =>
        bif Nat.beq 1 es' && Nat.ble l r && Nat.ble r m && Nat.ble m cap then
          natK (Nat.sub r l) fun n => natK (Nat.sub m l) fun c => natK (Nat.add off (Nat.mul l 1)) fun off' =>
            .val (.sl id g (bif Nat.beq l m && (bif ex then true else (none : Option Opd).isSome) then off else off') n c (bif ex then true else (none : Option Opd).isSome) 1) h
        else .fail "sliceSl bounds"
      | _, _, _ => .fail "sliceSl")
    | _ => .fail "sliceSl what") := rfl
  have ey : evO env (some y) len = some n := by
    show (match ev env y with | .int _ (.ofNat n) => some n | _ => none) = _
    rw [hy]
  rw [e, hx]
  simp only [ey, show evO env none 0 = some 0 from rfl, show evO env none cap = some cap from rfl, natK_eq, show Nat.ble 0 n = true from ble_iff.2 (Nat.zero_le n), ble_iff.2 hn, ble_iff.2 (Nat.le_refl cap)]
  simp

end Go.Proofs.Ytmifpiglcphmoaa.Am

namespace Go.Proofs.Ytmifpiglcphmoaa.Am
open Go.RowKit

inductive Sg where
  | go
  | exit (i : Nat)
  | ret

/-- With more marks to be undone at the end. -/
def Cx.add (M : List AD) (cx : Cx) : Cx := ⟨cx.fall, cx.fn, M ++ cx.defers, cx.dk, cx.round, cx.callers⟩

/-- What a piece of code does: how it is left, the marks that it leaves, the variables and the heap behind it. -/
def Dos (P : Program) (F : FuncId) (c : C) (env : T AV) (h : Hp) (o : Sg) (M : List AD) (env' : T AV) (h' : Hp) : Prop :=
  ∀ (cx : Cx) (k : List Item), M = [] ∨ (cx.round = none ∧ cx.fn = F) → match o with
    | .go => Leads P (sOf cx (.code c :: k) env h) (sOf (cx.add M) k env' h')
    | .exit i => ∃ k', exitA i k' = exitA i k ∧ Leads P (sOf cx (.code c :: k) env h) (sOf (cx.add M) (.code (.exit i) :: k') env' h')
    | .ret => ∃ k', Leads P (sOf cx (.code c :: k) env h) (sOf (cx.add M) (.code .ret :: k') env' h')

section
variable {P : Program} {F : FuncId} {env env' env1 : T AV} {h h' h1 : Hp} {a b c : C} {o : Sg} {M M1 : List AD}

theorem exitA_cons {i : Nat} {x : Item} {k k' : List Item} (hx : ∀ j, x ≠ .inBlock j) (e : exitA i k' = exitA i (x :: k)) : exitA i k' = exitA i k := by
  rw [e]
  cases x with
  | inBlock j => exact absurd rfl (hx j)
  | _ => rfl

theorem dos_go (hl : ∀ cx k, Leads P (sOf cx (.code c :: k) env h) (sOf cx k env' h')) : Dos P F c env h .go [] env' h' := fun cx k _ => hl cx k

theorem Dos.skip : Dos P F .skip env h .go [] env h := dos_go fun _ _ => leads_skip
theorem Dos.label : Dos P F .label env h .go [] env h := dos_go fun _ _ => leads_label
theorem Dos.ret : Dos P F .ret env h .ret [] env h := fun _ k _ => ⟨k, .refl _⟩
theorem Dos.exit {i : Nat} : Dos P F (.exit i) env h (.exit i) [] env h := fun _ k _ => ⟨k, rfl, .refl _⟩
theorem Dos.region {l : List O} (e : runOps P l env h = some (env', h')) : Dos P F (.region l) env h .go [] env' h' := dos_go fun _ _ => leads_region e
theorem Dos.regionC {l : List O} (A : List KC) (hA : ∀ a ∈ A, AmFn P a.f a.args a.h a.v a.h') (e : runC P A l env h = some (env', h')) : Dos P F (.region l) env h .go [] env' h' := dos_go fun _ _ => leads_regionC A hA e
theorem Dos.drawn {rec : St → Out} (hrec : Sound P rec) {l : List O} (e : runDrawn P rec l env h = some (env', h')) : Dos P F (.drawn l) env h .go [] env' h' := dos_go fun _ _ => leads_drawn hrec e

theorem add_add (M M1 : List AD) (cx : Cx) : (cx.add M1).add M = cx.add (M ++ M1) := by
  unfold Cx.add
  simp

theorem Dos.seq (ha : Dos P F a env h .go M1 env1 h1) (hb : Dos P F b env1 h1 o M env' h') : Dos P F (.seq a b) env h o (M ++ M1) env' h' := by
  intro cx k hr
  have hr1 : M1 = [] ∨ (cx.round = none ∧ cx.fn = F) := hr.imp (fun e => (List.append_eq_nil_iff.1 e).2) id
  have hr2 : M = [] ∨ ((cx.add M1).round = none ∧ (cx.add M1).fn = F) := hr.imp (fun e => (List.append_eq_nil_iff.1 e).1) id
  have l1 := leads_seq.trans (ha cx (.code b :: k) hr1)
  have q := hb (cx.add M1) k hr2
  cases o with
  | go => have q := l1.trans q; rw [add_add] at q; exact q
  | exit i =>
    obtain ⟨k', e, q⟩ := q
    have q := l1.trans q
    rw [add_add] at q
    exact ⟨k', e, q⟩
  | ret =>
    obtain ⟨k', q⟩ := q
    have q := l1.trans q
    rw [add_add] at q
    exact ⟨k', q⟩

/-- A piece that is left ahead of its second part. -/
theorem Dos.left (ha : Dos P F a env h o M env' h') (ho : o ≠ .go) : Dos P F (.seq a b) env h o M env' h' := by
  intro cx k hr
  have q := ha cx (.code b :: k) hr
  cases o with
  | go => exact absurd rfl ho
  | exit i =>
    obtain ⟨k', e, q⟩ := q
    exact ⟨k', exitA_cons (fun _ => by simp) e, leads_seq.trans q⟩
  | ret =>
    obtain ⟨k', q⟩ := q
    exact ⟨k', leads_seq.trans q⟩

theorem Dos.pre {a : C} (hl : ∀ cx k, Leads P (sOf cx (.code c :: k) env h) (sOf cx (.code a :: k) env1 h1)) (ha : Dos P F a env1 h1 o M env' h') : Dos P F c env h o M env' h' := by
  intro cx k hr
  have q := ha cx k hr
  cases o with
  | go => exact (hl cx k).trans q
  | exit i => obtain ⟨k', e, q⟩ := q; exact ⟨k', e, (hl cx k).trans q⟩
  | ret => obtain ⟨k', q⟩ := q; exact ⟨k', (hl cx k).trans q⟩

theorem Dos.cond {x : Opd} {t : Bool} (e : ev env x = .bool t) (ha : Dos P F (if t = true then a else b) env h o M env' h') : Dos P F (.cond x a b) env h o M env' h' := .pre (fun _ _ => leads_cond e) ha

/-- Within something that is only passed on the way out. -/
theorem Dos.within {x : Item} (hx : ∀ j, x ≠ .inBlock j) (h1 : ∀ cx k, Leads P (sOf cx (.code c :: k) env h) (sOf cx (.code a :: x :: k) env h)) (h2 : ∀ cx k, Leads P (sOf cx (x :: k) env' h') (sOf cx k env' h'))
    (ha : Dos P F a env h o M env' h') : Dos P F c env h o M env' h' := by
  intro cx k hr
  have q := ha cx (x :: k) hr
  cases o with
  | go => exact (h1 cx k).trans (q.trans (h2 _ k))
  | exit i => obtain ⟨k', e, q⟩ := q; exact ⟨k', exitA_cons hx e, (h1 cx k).trans q⟩
  | ret => obtain ⟨k', q⟩ := q; exact ⟨k', (h1 cx k).trans q⟩

theorem Dos.scope (ha : Dos P F a env h o M env' h') : Dos P F (.scope a) env h o M env' h' := .within (x := .inScope) (fun _ => by simp) (fun _ _ => leads_scope) (fun _ _ => leads_inScope) ha

def Sg.blk (i : Nat) : Sg → Sg
  | .exit j => if j = i then .go else .exit j
  | o => o

theorem Dos.block {i : Nat} (ha : Dos P F a env h o M env' h') : Dos P F (.block i a) env h (o.blk i) M env' h' := by
  intro cx k hr
  have q := ha cx (.inBlock i :: k) hr
  cases o with
  | go => exact leads_block.trans (q.trans leads_inBlock)
  | exit j =>
    obtain ⟨k', e, q⟩ := q
    by_cases c : j = i
    · subst c
      rw [show Sg.blk j (.exit j) = .go from if_pos rfl]
      have e : exitA j k' = some k := by
        rw [e]
        show (bif Nat.beq j j then some k else exitA j k) = _
        rw [beq_iff.2 rfl]; rfl
      exact leads_block.trans (q.trans (leads_exit e))
    · rw [show Sg.blk i (.exit j) = .exit j from if_neg c]
      have e : exitA j k' = exitA j k := by
        rw [e]
        show (bif Nat.beq i j then some k else exitA j k) = _
        rw [beq_false.2 fun x => c x.symm]; rfl
      exact ⟨k', e, leads_block.trans q⟩
  | ret => obtain ⟨k', q⟩ := q; exact ⟨k', leads_block.trans q⟩

/-- What a loop does. -/
def Loops (P : Program) (F : FuncId) (a : C) (env : T AV) (h : Hp) (o : Sg) (M : List AD) (env' : T AV) (h' : Hp) : Prop :=
  ∀ (cx : Cx) (k : List Item), M = [] ∨ (cx.round = none ∧ cx.fn = F) → match o with
    | .go => False
    | .exit i => ∃ k', exitA i k' = exitA i k ∧ Leads P (sOf cx (.code a :: .inLoop a :: k) env h) (sOf (cx.add M) (.code (.exit i) :: k') env' h')
    | .ret => ∃ k', Leads P (sOf cx (.code a :: .inLoop a :: k) env h) (sOf (cx.add M) (.code .ret :: k') env' h')

theorem Dos.loop (hl : Loops P F a env h o M env' h') : Dos P F (.loop a) env h o M env' h' := by
  intro cx k hr
  have q := hl cx k hr
  cases o with
  | go => exact q.elim
  | exit i => obtain ⟨k', e, q⟩ := q; exact ⟨k', e, leads_loop.trans q⟩
  | ret => obtain ⟨k', q⟩ := q; exact ⟨k', leads_loop.trans q⟩

theorem Loops.more (ha : Dos P F a env h .go M1 env1 h1) (hb : Loops P F a env1 h1 o M env' h') : Loops P F a env h o (M ++ M1) env' h' := by
  intro cx k hr
  have hr1 : M1 = [] ∨ (cx.round = none ∧ cx.fn = F) := hr.imp (fun e => (List.append_eq_nil_iff.1 e).2) id
  have hr2 : M = [] ∨ ((cx.add M1).round = none ∧ (cx.add M1).fn = F) := hr.imp (fun e => (List.append_eq_nil_iff.1 e).1) id
  have l1 := (ha cx (.inLoop a :: k) hr1).trans leads_inLoop
  have q := hb (cx.add M1) k hr2
  cases o with
  | go => exact q.elim
  | exit i =>
    obtain ⟨k', e, q⟩ := q
    have q := l1.trans q
    rw [add_add] at q
    exact ⟨k', e, q⟩
  | ret =>
    obtain ⟨k', q⟩ := q
    have q := l1.trans q
    rw [add_add] at q
    exact ⟨k', q⟩

theorem Loops.out (ha : Dos P F a env h o M env' h') (ho : o ≠ .go) : Loops P F a env h o M env' h' := by
  intro cx k hr
  have q := ha cx (.inLoop a :: k) hr
  cases o with
  | go => exact absurd rfl ho
  | exit i => obtain ⟨k', e, q⟩ := q; exact ⟨k', exitA_cons (fun _ => by simp) e, q⟩
  | ret => exact q

open Classical in
/-- Operations one behind another, some of which call: what of the known answers is left over. -/
noncomputable def runR (P : Program) : List KC → List O → T AV → Hp → Option (List KC × T AV × Hp)
  | A, [], env, h => some (A, env, h)
  | A, o :: l, env, h => if o.ok = true then (if wantedA o env = true then (match evalOp P o.op env h with
    | .val v h' => runR P A l (setD env o.dst v) h'
    | .enter f args h0 => (match A with
      | a :: A' => if f = a.f ∧ args = a.args ∧ h0 = a.h ∧ h0 = h then runR P A' l (setD env o.dst a.v) a.h' else none
      | [] => none)
    | _ => none) else runR P A l (setD env o.dst .undef) h) else none

theorem leads_runR {cx : Cx} {k : List Item} {A1 : List KC} : ∀ {l : List O} {A : List KC} {env : T AV} {h : Hp}, (∀ a ∈ A, AmFn P a.f a.args a.h a.v a.h') → runR P A l env h = some (A1, env', h') →
    Leads P (sOf cx (.ops l :: k) env h) (sOf cx (.ops [] :: k) env' h') ∧ ∀ a ∈ A1, a ∈ A
  | [], A, env, h, _, e => by unfold runR at e; cases e; exact ⟨.refl _, fun _ q => q⟩
  | o :: l, A, env, h, hA, e => by
    unfold runR at e
    split at e
    · rename_i ho
      split at e
      · rename_i hw
        split at e
        · rename_i v h1 he
          obtain ⟨q1, q2⟩ := leads_runR hA e
          exact ⟨(leads_step (noRec_sound P) (op_step ho hw he)).trans q1, q2⟩
        · rename_i f args h0 he
          split at e
          · rename_i a A'
            split at e
            · rename_i c
              obtain ⟨c1, c2, c3, c4⟩ := c
              subst c1 c2 c4
              have q := hA a (by simp)
              rw [← c3] at q
              obtain ⟨q1, q2⟩ := leads_runR (fun x hx => hA x (List.mem_cons_of_mem _ hx)) e
              exact ⟨(leads_call ho hw he q).trans q1, fun x hx => List.mem_cons_of_mem _ (q2 x hx)⟩
            · cases e
          · cases e
        · cases e
      · rename_i hw
        obtain ⟨q1, q2⟩ := leads_runR hA e
        exact ⟨(leads_step (noRec_sound P) (op_skip ho (by simpa using hw))).trans q1, q2⟩
    · cases e

/-- Pieces without loops: what they do is reckoned out. -/
noncomputable def runX (P : Program) : C → List KC → T AV → Hp → Option (Sg × List KC × T AV × Hp)
  | .skip, A, env, h => some (.go, A, env, h)
  | .label, A, env, h => some (.go, A, env, h)
  | .region l, A, env, h => match runR P A l env h with
    | some (A', env', h') => some (.go, A', env', h')
    | none => none
  | .drawn l, A, env, h => match runDrawn P noRec l env h with
    | some (env', h') => some (.go, A, env', h')
    | none => none
  | .seq a b, A, env, h => match runX P a A env h with
    | some (.go, A', env', h') => runX P b A' env' h'
    | r => r
  | .cond x a b, A, env, h => match ev env x with
    | .bool true => runX P a A env h
    | .bool false => runX P b A env h
    | _ => none
  | .block i b, A, env, h => match runX P b A env h with
    | some (o, A', env', h') => some (o.blk i, A', env', h')
    | none => none
  | .scope b, A, env, h => runX P b A env h
  | .exit i, A, env, h => some (.exit i, A, env, h)
  | .ret, A, env, h => some (.ret, A, env, h)
  | _, _, _, _ => none

theorem dos_runX : ∀ {c : C} {A A1 : List KC} {env env' : T AV} {h h' : Hp} {o : Sg}, (∀ a ∈ A, AmFn P a.f a.args a.h a.v a.h') → runX P c A env h = some (o, A1, env', h') → Dos P F c env h o [] env' h' ∧ ∀ a ∈ A1, a ∈ A
  | .skip, _, _, _, _, _, _, _, _, e => by cases e; exact ⟨.skip, fun _ q => q⟩
  | .label, _, _, _, _, _, _, _, _, e => by cases e; exact ⟨.label, fun _ q => q⟩
  | .ret, _, _, _, _, _, _, _, _, e => by cases e; exact ⟨.ret, fun _ q => q⟩
  | .exit _, _, _, _, _, _, _, _, _, e => by cases e; exact ⟨.exit, fun _ q => q⟩
  | .bad _, _, _, _, _, _, _, _, _, e => by cases e
  | .loop _, _, _, _, _, _, _, _, _, e => by cases e
  | .rangeFunc _ _ _ _, _, _, _, _, _, _, _, _, e => by cases e
  | .region l, A, _, env, _, h, _, _, hA, e => by
    unfold runX at e
    split at e
    · rename_i A1 e1 h1 he
      cases e
      exact ⟨dos_go fun cx k => leads_enter.trans ((leads_runR hA he).1.trans leads_opsNil), (leads_runR (cx := cxF 0 []) (k := []) hA he).2⟩
    · cases e
  | .drawn l, A, _, env, _, h, _, _, hA, e => by
    unfold runX at e
    split at e
    · rename_i e1 h1 he
      cases e; exact ⟨.drawn (noRec_sound P) he, fun _ q => q⟩
    · cases e
  | .seq a b, A, A1, env, env', h, h', o, hA, e => by
    unfold runX at e
    split at e
    · rename_i A2 e1 h1 he
      obtain ⟨q1, q2⟩ := dos_runX hA he
      obtain ⟨r1, r2⟩ := dos_runX (fun a ha => hA a (q2 a ha)) e
      exact ⟨Dos.seq (M := []) (M1 := []) q1 r1, fun a ha => q2 a (r2 a ha)⟩
    · rename_i r hne
      obtain ⟨q1, q2⟩ := dos_runX hA e
      exact ⟨Dos.left q1 fun c => by
        subst c
        exact hne _ _ _ e, q2⟩
  | .cond x a b, A, A1, env, env', h, h', o, hA, e => by
    unfold runX at e
    split at e
    · rename_i hx
      obtain ⟨q1, q2⟩ := dos_runX hA e
      exact ⟨Dos.cond (t := true) hx q1, q2⟩
    · rename_i hx
      obtain ⟨q1, q2⟩ := dos_runX hA e
      exact ⟨Dos.cond (t := false) hx (by rw [if_neg (by simp)]; exact q1), q2⟩
    · cases e
  | .block i b, A, A1, env, env', h, h', o, hA, e => by
    unfold runX at e
    split at e
    · rename_i o1 A2 e1 h1 he
      cases e
      obtain ⟨q1, q2⟩ := dos_runX hA he
      exact ⟨.block q1, q2⟩
    · cases e
  | .scope b, A, A1, env, env', h, h', o, hA, e => by
    unfold runX at e
    obtain ⟨q1, q2⟩ := dos_runX hA e
    exact ⟨.scope q1, q2⟩

theorem dosX {A1 : List KC} (e : runX P c [] env h = some (o, A1, env', h')) : Dos P F c env h o [] env' h' := (dos_runX (by simp) e).1
theorem dosC {A1 : List KC} (A : List KC) (hA : ∀ a ∈ A, AmFn P a.f a.args a.h a.v a.h') (e : runX P c A env h = some (o, A1, env', h')) : Dos P F c env h o [] env' h' := (dos_runX hA e).1

/-- What a function comes to: by what its body does. -/
theorem AmFn.dos {f : FuncId} {args : List AV} {v : AV} {res : List RV} {n : Nat} {b : C} {vs : List AV} (hc : compFn P f = some ⟨res, n, b⟩) (hl : args.length ≤ n) (hb : Dos P f b (setArgs .e 0 args) h .ret [] env' h')
    (hm : mapO (result1 env' h') res = some vs) (hv : tupleA vs = v) : AmFn P f args h v h' := by
  refine AmFn.ends hc hl fun callers => ?_
  obtain ⟨k', q⟩ := hb (cxF f callers) [] (.inl rfl)
  exact Leads.ends q (ends_ret hc hm hv)

/-- The same for a function without results. -/
theorem AmFn.dos0 {f : FuncId} {args : List AV} {n : Nat} {b : C} (hc : compFn P f = some ⟨[], n, b⟩) (hl : args.length ≤ n) (ho : o ≠ .exit 0 → o = .go ∨ o = .ret) (hn : o ≠ .exit 0) (hb : Dos P f b (setArgs .e 0 args) h o [] env' h') : AmFn P f args h (.tup []) h' := by
  refine AmFn.ends hc hl fun callers => ?_
  have q := hb (cxF f callers) [] (.inl rfl)
  rcases ho hn with e | e
  · subst e
    exact Leads.ends q (ends_nil hc (vs := []) rfl rfl)
  · subst e
    obtain ⟨k', q⟩ := q
    exact Leads.ends q (ends_ret hc (vs := []) rfl rfl)

/-! ### Rounds and goings over -/

/-- A loop that is to be left by a jump. -/
structure LoopJ (h : Hp) (l : Pos) (st : LState) (j : C) : Prop where
  old : l.num < h.next.num
  mem : ∃ ser fn env params assign body around, T.get l h.heap = some (.loop ser st (some j) fn env params assign body around)

theorem LoopJ.only {S : List Pos} {l : Pos} {st : LState} {j : C} (a : LoopJ h l st j) (m : Only S h h') (hs : l ∉ S) : LoopJ h' l st j :=
  ⟨Nat.lt_of_lt_of_le a.old m.next, by rw [m.same l a.old hs]; exact a.mem⟩

noncomputable def putJ (h : Hp) (l : Pos) (j : C) : Hp :=
  ⟨T.set l ((T.get l h.heap).map fun b => match b with | .loop ser _ _ fn env params assign body around => .loop ser .done (some j) fn env params assign body around | b => b) h.heap, h.next, h.ser, h.lim⟩

theorem putJ_only (h : Hp) (l : Pos) (j : C) : Only [l] h (putJ h l j) := ⟨Nat.le_refl _, rfl, fun i _ q => by
  show T.get i (T.set l _ h.heap) = _
  rw [T.get_set, if_neg (by simpa using q)]⟩

section
variable {l : Pos} {fn : FuncId} {params : List Pos} {assign body : C} {st : LState}

theorem LoopAt.jump {env : T AV} (x : LoopAt h l st fn env params assign body) (j : C) : LoopJ (putJ h l j) l .done j := by
  obtain ⟨ser, ar, e⟩ := x.mem
  refine ⟨x.old, ser, fn, env, params, assign, body, ar, ?_⟩
  show T.get l (T.set l _ h.heap) = _
  rw [T.get_set, if_pos rfl, e]; rfl

/-- A round of a loop. -/
theorem RoundFn.dos {args : List AV} {envS env0 env1 env2 : T AV} {h1 h2 : Hp} (x : LoopAt h l .ready fn envS params assign body) (hs : setParams envS params args = some env0)
    (d1 : Dos P F assign env0 h .go [] env1 h1) (x1 : LoopAt h1 l .ready fn envS params assign body) (d2 : Dos P F body env1 (putL h1 l .busy) .go [] env2 h2) (x2 : LoopAt h2 l .busy fn envS params assign body) :
    RoundFn P l args h (.bool true) (putL h2 l .ready) :=
  RoundFn.intro x hs fun callers => ⟨env1, h1, env2, h2, d1 (cxR fn l callers) _ (.inl rfl), x1, d2 (cxR fn l callers) _ (.inl rfl), x2, rfl⟩

/-- A round that is left by a jump: .ret, or out of a block around the loop. -/
theorem RoundFn.jumps {args : List AV} {envS env0 env1 env2 : T AV} {h1 h2 : Hp} {j : C} (hj : (o = .ret ∧ j = .ret) ∨ ∃ i, o = .exit i ∧ j = .exit i) (x : LoopAt h l .ready fn envS params assign body) (hs : setParams envS params args = some env0)
    (d1 : Dos P F assign env0 h .go [] env1 h1) (x1 : LoopAt h1 l .ready fn envS params assign body) (d2 : Dos P F body env1 (putL h1 l .busy) o [] env2 h2) (x2 : LoopAt h2 l .busy fn envS params assign body) :
    RoundFn P l args h (.bool false) (putJ h2 l j) := by
  refine ⟨⟨fn, env0, [.code assign, .beginRound, .code body], [], .run, false, some l⟩, ?_, fun callers r q => ?_⟩
  · obtain ⟨ser, ar, e⟩ := x.mem
    unfold beginRound
    simp only [e, hs]
  · obtain ⟨ser, ar, e2⟩ := x2.mem
    have hset : ∀ k : Option C → Hp → Out, setLoop h2 l (fun _ => true) .done (fun _ => some j) k = k none (putJ h2 l j) := fun k => by
      unfold setLoop putJ
      simp only [e2, cond_true, T.setK_eq]
      rfl
    refine d1 (cxR fn l callers) [.beginRound, .code body] (.inl rfl) r (Ans.step (noRec_sound P) (s' := sOf (cxR fn l callers) [.code body] env1 (putL h1 l .busy)) ?_ ?_)
    · unfold step
      simp only [sOf, cxR, Cx.add]
      rw [setLoop_at x1 rfl _ rfl]
      rfl
    · have q2 := d2 (cxR fn l callers) [] (.inl rfl)
      rcases hj with ⟨ho, hj⟩ | ⟨i, ho, hj⟩
      · subst ho hj
        obtain ⟨k', q2⟩ := q2
        refine q2 r (ans_out (noRec_sound P) ?_)
        have e : step P noRec (sOf ((cxR fn l callers).add []) (.code .ret :: k') env2 h2) = backTo (.bool false) callers (putJ h2 l .ret) := by
          unfold step
          simp only [sOf, cxR, Cx.add, leaveRound, jumpState, jumpBool]
          rw [hset]
        rw [e]; exact q
      · subst ho hj
        obtain ⟨k', ek, q2⟩ := q2
        refine q2 r (ans_out (noRec_sound P) ?_)
        have ek : exitA i k' = none := ek
        have e : step P noRec (sOf ((cxR fn l callers).add []) (.code (.exit i) :: k') env2 h2) = backTo (.bool false) callers (putJ h2 l (.exit i)) := by
          unfold step
          simp only [sOf, cxR, Cx.add, ek, leaveRound, jumpState, jumpBool]
          rw [hset]
        rw [e]; exact q

/-- A going over by a function that comes to its end. -/
theorem Dos.range {f : Opd} {h3 : Hp} {g : FuncId} {first captured : List AV} {v : AV} (hk : okCall P g = true) (hf : ev env f = .fn (.func g) first captured)
    (hg : AmFn P g (first ++ (.yield (dfrH h).next :: captured)) (loopH (dfrH h) F env params assign body h.next) v h3) (ha : LoopAt h3 (dfrH h).next .ready F env params assign body) :
    Dos P F (.rangeFunc f params assign body) env h .go [.mark h.next] env (putL h3 (dfrH h).next .exhausted) := by
  intro cx k hr
  obtain ⟨h1, h2⟩ := hr.resolve_left (by simp)
  subst h2
  exact leads_range h1 hk hf hg ha

def Sg.ofC : C → Sg
  | .exit i => .exit i
  | _ => .ret

/-- A going over that is left by a jump. -/
theorem Dos.rangeJ {f : Opd} {h3 : Hp} {g : FuncId} {first captured : List AV} {v : AV} {j : C} (hj : j = .ret ∨ ∃ i, j = .exit i) (hk : okCall P g = true) (hf : ev env f = .fn (.func g) first captured)
    (hg : AmFn P g (first ++ (.yield (dfrH h).next :: captured)) (loopH (dfrH h) F env params assign body h.next) v h3) (ha : LoopJ h3 (dfrH h).next .done j) :
    Dos P F (.rangeFunc f params assign body) env h (Sg.ofC j) [.mark h.next] env (putL h3 (dfrH h).next .exhausted) := by
  intro cx k hr
  obtain ⟨hcr, hfn⟩ := hr.resolve_left (by simp)
  subst hfn
  have L : Leads P (sOf cx (.code (.rangeFunc f params assign body) :: k) env h) (sOf (cx.add [.mark h.next]) (.code j :: k) env (putL h3 (dfrH h).next .exhausted)) := by
    obtain ⟨fr, e1, e2⟩ := hg
    intro r q
    have en : enterA P (loopH (dfrH h) cx.fn env params assign body h.next) g (first ++ (.yield (dfrH h).next :: captured)) = .enter g (first ++ (.yield (dfrH h).next :: captured)) (loopH (dfrH h) cx.fn env params assign body h.next) := by
      unfold okCall at hk
      split at hk
      · rename_i fn hfn
        simp only [Bool.and_eq_true, Bool.not_eq_true'] at hk
        unfold enterA
        cases hb : fn.body with
        | none => rw [hb] at hk; cases hk.1
        | some b => simp only [hfn, hb, hk.2, cond_false]
      · cases hk
    refine Ans.step (noRec_sound P) (s' := ⟨fr, ⟨cx.fn, env, .inRange (dfrH h).next :: k, .mark h.next :: cx.defers, .run, cx.dk, cx.round⟩ :: cx.callers, loopH (dfrH h) cx.fn env params assign body h.next⟩) ?_ (e2 _ r ?_)
    · unfold step
      simp only [sOf, hcr, newK_newH, hf]
      have en' := en
      unfold dfrH loopH at en'
      simp only [en', apply]
      unfold dfrH at e1
      simp only [e1]
      rfl
    · show Ans P (sOf (cx.add [.mark h.next]) (.endRange (dfrH h).next :: k) env h3) r
      refine Ans.step (noRec_sound P) (s' := sOf (cx.add [.mark h.next]) (.code j :: k) env (putL h3 (dfrH h).next .exhausted)) ?_ q
      obtain ⟨ser, fn, envS, ps, as, bd, ar, el⟩ := ha.mem
      unfold step
      simp only [sOf]
      unfold setLoop putL
      simp only [el, cond_true, T.setK_eq, id]
      rfl
  rcases hj with e | ⟨i, e⟩
  · subst e
    exact ⟨k, L⟩
  · subst e
    exact ⟨k, rfl, L⟩
end

noncomputable def remMs (h : Hp) : List Pos → Hp
  | [] => h
  | r :: rs => remMs (remH h r) rs

theorem remMs_only : ∀ (rs : List Pos) (h : Hp), Only rs h (remMs h rs)
  | [], h => .refl _ _
  | r :: rs, h => ((remH_only h r).mono fun id hid => .inl (by simp at hid; simp [hid])).trans ((remMs_only rs (remH h r)).mono fun id hid => .inl (by simp [hid]))

/-- What a function comes to that went over something. -/
theorem AmFn.dosM {f : FuncId} {args : List AV} {v : AV} {res : List RV} {n : Nat} {b : C} {vs : List AV} {rs : List Pos} (hc : compFn P f = some ⟨res, n, b⟩) (hl : args.length ≤ n)
    (hb : Dos P f b (setArgs .e 0 args) h .ret (rs.map AD.mark) env' h') (hd : ∀ r ∈ rs, ∃ s, T.get r h'.heap = some (.dfr s)) (hn : rs.Nodup)
    (hm : mapO (result1 env' (remMs h' rs)) res = some vs) (hv : tupleA vs = v) : AmFn P f args h v (remMs h' rs) := by
  refine AmFn.ends hc hl fun callers => ?_
  obtain ⟨k', q⟩ := hb (cxF f callers) [] (.inr ⟨rfl, rfl⟩)
  refine Leads.ends q ?_
  intro x qx
  refine Ans.step (noRec_sound P) (s' := ⟨⟨f, env', .code .ret :: k', rs.map AD.mark ++ [], .ret, false, none⟩, callers, h'⟩) rfl ?_
  clear q hb
  induction rs generalizing h' with
  | nil =>
    refine ans_out (noRec_sound P) ?_
    have e : step P noRec ⟨⟨f, env', .code .ret :: k', [], .ret, false, none⟩, callers, h'⟩ = backTo (tupleA vs) callers h' := by
      unfold step
      simp only [unwindA, hc, show mapO (result1 env' h') res = some vs from hm, cond_false]
    rw [show (([] : List Pos).map AD.mark ++ []) = [] from rfl, e, hv]; exact qx
  | cons r rs ih =>
    obtain ⟨s, hs⟩ := hd r (by simp)
    have hn' := List.nodup_cons.1 hn
    refine Ans.step (noRec_sound P) (s' := ⟨⟨f, env', .code .ret :: k', rs.map AD.mark ++ [], .ret, false, none⟩, callers, remH h' r⟩) ?_ (ih (fun r' hr' => ?_) hn'.2 hm qx)
    · show step P noRec ⟨⟨f, env', .code .ret :: k', AD.mark r :: (rs.map AD.mark ++ []), .ret, false, none⟩, callers, h'⟩ = _
      unfold step
      simp only [unwindA, hs, T.setK_eq]
      rfl
    · obtain ⟨s', hs'⟩ := hd r' (by simp [hr'])
      refine ⟨s', ?_⟩
      show T.get r' (T.set r none h'.heap) = _
      rw [T.get_set, if_neg (show ¬ r' = r from fun c => hn'.1 (by rw [← c]; exact hr'))]
      exact hs'
end
end Go.Proofs.Ytmifpiglcphmoaa.Am

namespace Go.Proofs.Ytmifpiglcphmoaa.Am
open Go.RowKit

/-- What a list of things to do does. -/
def DosL (P : Program) (F : FuncId) (l : List Item) (env : T AV) (h : Hp) (o : Sg) (M : List AD) (env' : T AV) (h' : Hp) : Prop :=
  ∀ (cx : Cx) (k : List Item), M = [] ∨ (cx.round = none ∧ cx.fn = F) → match o with
    | .go => Leads P (sOf cx (l ++ k) env h) (sOf (cx.add M) k env' h')
    | .exit i => ∃ k', exitA i k' = exitA i k ∧ Leads P (sOf cx (l ++ k) env h) (sOf (cx.add M) (.code (.exit i) :: k') env' h')
    | .ret => ∃ k', Leads P (sOf cx (l ++ k) env h) (sOf (cx.add M) (.code .ret :: k') env' h')

section
variable {P : Program} {F : FuncId} {env env' env1 env2 : T AV} {h h' h1 h2 : Hp} {a b c c' : C} {o : Sg} {M M1 : List AD} {l l' : List Item}

theorem DosL.dos (d : DosL P F [.code c] env h o M env' h') : Dos P F c env h o M env' h' := d
theorem Dos.one (d : Dos P F c env h o M env' h') : DosL P F [.code c] env h o M env' h' := d
theorem DosL.nil : DosL P F [] env h .go [] env h := fun _ _ _ => .refl _

theorem DosL.after (hl : ∀ cx k, M1 = [] ∨ (cx.round = none ∧ cx.fn = F) → Leads P (sOf cx (l ++ k) env h) (sOf (cx.add M1) (l' ++ k) env1 h1)) (d : DosL P F l' env1 h1 o M env' h') : DosL P F l env h o (M ++ M1) env' h' := by
  intro cx k hr
  have hr1 : M1 = [] ∨ (cx.round = none ∧ cx.fn = F) := hr.imp (fun e => (List.append_eq_nil_iff.1 e).2) id
  have hr2 : M = [] ∨ ((cx.add M1).round = none ∧ (cx.add M1).fn = F) := hr.imp (fun e => (List.append_eq_nil_iff.1 e).1) id
  have q := d (cx.add M1) k hr2
  have l1 := hl cx k hr1
  cases o with
  | go => have q := l1.trans q; rw [add_add] at q; exact q
  | exit i =>
    obtain ⟨k', e, q⟩ := q
    have q := l1.trans q
    rw [add_add] at q
    exact ⟨k', e, q⟩
  | ret =>
    obtain ⟨k', q⟩ := q
    have q := l1.trans q
    rw [add_add] at q
    exact ⟨k', q⟩

theorem exitA_app {i : Nat} : ∀ {l l' : List Item}, exitA i l = some l' → ∀ k, exitA i (l ++ k) = some (l' ++ k)
  | [], _, e, _ => by cases e
  | x :: l, l', e, k => by
    cases x with
    | inBlock j =>
      have e : (bif Nat.beq j i then some l else exitA i l) = some l' := e
      show (bif Nat.beq j i then some (l ++ k) else exitA i (l ++ k)) = _
      cases hb : Nat.beq j i with
      | true => rw [hb] at e; cases e; rfl
      | false => rw [hb] at e; exact exitA_app e k
    | _ => exact exitA_app (l := l) e k

theorem exitA_none {i : Nat} : ∀ {l : List Item}, exitA i l = none → ∀ k, exitA i (l ++ k) = exitA i k
  | [], _, _ => rfl
  | x :: l, e, k => by
    cases x with
    | inBlock j =>
      have e : (bif Nat.beq j i then some l else exitA i l) = none := e
      show (bif Nat.beq j i then some (l ++ k) else exitA i (l ++ k)) = _
      cases hb : Nat.beq j i with
      | true => rw [hb] at e; cases e
      | false => rw [hb] at e; exact exitA_none e k
    | _ => exact exitA_none (l := l) e k

/-- The first thing goes on. -/
theorem DosL.more (d : Dos P F c env h .go M1 env1 h1) (r : DosL P F l env1 h1 o M env' h') : DosL P F (.code c :: l) env h o (M ++ M1) env' h' :=
  .after (l' := l) (fun cx k hr => d cx (l ++ k) hr) r

/-- The first thing leaves a block. -/
theorem DosL.leave {i : Nat} (d : Dos P F c env h (.exit i) M1 env1 h1) (e : exitA i l = some l') (r : DosL P F l' env1 h1 o M env' h') : DosL P F (.code c :: l) env h o (M ++ M1) env' h' :=
  .after (l' := l') (fun cx k hr => by
    obtain ⟨k', ek, q⟩ := d cx (l ++ k) hr
    exact q.trans (leads_exit (ek.trans (exitA_app e k)))) r

/-- The first thing leaves the whole list. -/
theorem DosL.out {i : Nat} (d : Dos P F c env h (.exit i) M env' h') (hl : exitA i l = none) : DosL P F (.code c :: l) env h (.exit i) M env' h' := fun cx k hr => by
  obtain ⟨k', ek, q⟩ := d cx (l ++ k) hr
  exact ⟨k', ek.trans (exitA_none hl k), q⟩

theorem DosL.ret (d : Dos P F c env h .ret M env' h') : DosL P F (.code c :: l) env h .ret M env' h' := fun cx k hr => d cx (l ++ k) hr

theorem DosL.inBlock {i : Nat} (r : DosL P F l env h o M env' h') : DosL P F (.inBlock i :: l) env h o M env' h' := by
  have q := DosL.after (M1 := []) (l := .inBlock i :: l) (l' := l) (fun _ _ _ => leads_inBlock) r
  rw [List.append_nil] at q
  exact q

/-- How far a piece of code was run: to a list of things to do, or it was left. -/
inductive Rs where
  | upt (l : List Item)
  | exit (i : Nat)
  | ret

def Upto (P : Program) (c : C) (env : T AV) (h : Hp) (r : Rs) (env' : T AV) (h' : Hp) : Prop :=
  ∀ (cx : Cx) (k : List Item), match r with
    | .upt l => Leads P (sOf cx (.code c :: k) env h) (sOf cx (l ++ k) env' h')
    | .exit i => ∃ k', exitA i k' = exitA i k ∧ Leads P (sOf cx (.code c :: k) env h) (sOf cx (.code (.exit i) :: k') env' h')
    | .ret => ∃ k', Leads P (sOf cx (.code c :: k) env h) (sOf cx (.code .ret :: k') env' h')

noncomputable def Rs.seq (b : C) : Rs → Rs
  | .upt l => .upt (l ++ [.code b])
  | r => r

noncomputable def Rs.block (i : Nat) : Rs → Rs
  | .upt [] => .upt []
  | .upt (x :: l) => .upt (x :: l ++ [.inBlock i])
  | .exit j => if j = i then .upt [] else .exit j
  | .ret => .ret

/-- Code is run up to its next loop (or, as one wishes, to the next region that draws its order). -/
noncomputable def runS (P : Program) (dr : Bool) : C → List KC → T AV → Hp → Option (Rs × List KC × T AV × Hp)
  | .skip, A, env, h => some (.upt [], A, env, h)
  | .label, A, env, h => some (.upt [], A, env, h)
  | .region l, A, env, h => match runR P A l env h with
    | some (A', env', h') => some (.upt [], A', env', h')
    | none => none
  | .drawn l, A, env, h => if dr = true then (match runDrawn P noRec l env h with
    | some (env', h') => some (.upt [], A, env', h')
    | none => none) else some (.upt [.code (.drawn l)], A, env, h)
  | .seq a b, A, env, h => match runS P dr a A env h with
    | some (.upt [], A', env', h') => runS P dr b A' env' h'
    | some (r, A', env', h') => some (r.seq b, A', env', h')
    | none => none
  | .cond x a b, A, env, h => match ev env x with
    | .bool true => runS P dr a A env h
    | .bool false => runS P dr b A env h
    | _ => none
  | .block i b, A, env, h => match runS P dr b A env h with
    | some (r, A', env', h') => some (r.block i, A', env', h')
    | none => none
  | .exit i, A, env, h => some (.exit i, A, env, h)
  | .ret, A, env, h => some (.ret, A, env, h)
  | c, A, env, h => some (.upt [.code c], A, env, h)

theorem Upto.pre {r : Rs} (u : Upto P a env1 h1 r env' h') (hl : ∀ cx k, Leads P (sOf cx (.code c :: k) env h) (sOf cx (.code a :: k) env1 h1)) : Upto P c env h r env' h' := fun cx k => by
  have q := u cx k
  cases r with
  | upt l => exact (hl cx k).trans q
  | ret => obtain ⟨k', q⟩ := q; exact ⟨k', (hl cx k).trans q⟩
  | exit i => obtain ⟨k', e, q⟩ := q; exact ⟨k', e, (hl cx k).trans q⟩

theorem Upto.self : Upto P c env h (.upt [.code c]) env h := fun _ _ => .refl _

theorem upto_run {dr : Bool} : ∀ {c : C} {A A1 : List KC} {env env' : T AV} {h h' : Hp} {r : Rs}, (∀ a ∈ A, AmFn P a.f a.args a.h a.v a.h') → runS P dr c A env h = some (r, A1, env', h') → Upto P c env h r env' h' ∧ ∀ a ∈ A1, a ∈ A
  | .skip, _, _, _, _, _, _, _, _, e => by cases e; exact ⟨fun _ _ => leads_skip, fun _ q => q⟩
  | .label, _, _, _, _, _, _, _, _, e => by cases e; exact ⟨fun _ _ => leads_label, fun _ q => q⟩
  | .ret, _, _, _, _, _, _, _, _, e => by cases e; exact ⟨fun _ k => ⟨k, .refl _⟩, fun _ q => q⟩
  | .exit _, _, _, _, _, _, _, _, _, e => by cases e; exact ⟨fun _ k => ⟨k, rfl, .refl _⟩, fun _ q => q⟩
  | .bad _, _, _, _, _, _, _, _, _, e => by cases e; exact ⟨.self, fun _ q => q⟩
  | .loop _, _, _, _, _, _, _, _, _, e => by cases e; exact ⟨.self, fun _ q => q⟩
  | .scope _, _, _, _, _, _, _, _, _, e => by cases e; exact ⟨.self, fun _ q => q⟩
  | .rangeFunc _ _ _ _, _, _, _, _, _, _, _, _, e => by cases e; exact ⟨.self, fun _ q => q⟩
  | .region l, A, _, env, _, h, _, _, hA, e => by
    unfold runS at e
    split at e
    · rename_i A1 e1 h1 he
      cases e
      exact ⟨fun cx k => leads_enter.trans ((leads_runR hA he).1.trans leads_opsNil), (leads_runR (cx := cxF 0 []) (k := []) hA he).2⟩
    · cases e
  | .drawn l, A, _, env, _, h, _, _, hA, e => by
    unfold runS at e
    split at e
    · split at e
      · rename_i e1 h1 he
        cases e; exact ⟨fun _ _ => leads_drawn (noRec_sound P) he, fun _ q => q⟩
      · cases e
    · cases e; exact ⟨.self, fun _ q => q⟩
  | .seq a b, A, A1, env, env', h, h', r, hA, e => by
    unfold runS at e
    split at e
    · rename_i A2 e1 h1 he
      obtain ⟨q1, q2⟩ := upto_run hA he
      obtain ⟨r1, r2⟩ := upto_run (fun a ha => hA a (q2 a ha)) e
      refine ⟨fun cx k => ?_, fun a ha => q2 a (r2 a ha)⟩
      have l1 := leads_seq.trans (q1 cx (.code b :: k))
      have x := r1 cx k
      cases r with
      | upt l => exact l1.trans x
      | ret => obtain ⟨k', x⟩ := x; exact ⟨k', l1.trans x⟩
      | exit i => obtain ⟨k', e, x⟩ := x; exact ⟨k', e, l1.trans x⟩
    · rename_i r1 A2 e1 h1 hne he
      cases e
      obtain ⟨q1, q2⟩ := upto_run hA he
      refine ⟨fun cx k => ?_, q2⟩
      have x := q1 cx (.code b :: k)
      cases r1 with
      | upt l =>
        show Leads P _ (sOf cx ((l ++ [.code b]) ++ k) _ _)
        rw [List.append_assoc]
        exact leads_seq.trans x
      | ret => obtain ⟨k', x⟩ := x; exact ⟨k', leads_seq.trans x⟩
      | exit i => obtain ⟨k', e, x⟩ := x; exact ⟨k', exitA_cons (fun _ => by simp) e, leads_seq.trans x⟩
    · cases e
  | .cond x a b, A, A1, env, env', h, h', r, hA, e => by
    unfold runS at e
    split at e
    · rename_i hx
      obtain ⟨q1, q2⟩ := upto_run hA e
      exact ⟨q1.pre fun _ _ => leads_cond (t := true) hx, q2⟩
    · rename_i hx
      obtain ⟨q1, q2⟩ := upto_run hA e
      exact ⟨q1.pre fun _ _ => (leads_cond (t := false) hx).trans (by rw [if_neg (by simp)]; exact .refl _), q2⟩
    · cases e
  | .block i b, A, A1, env, env', h, h', r, hA, e => by
    unfold runS at e
    split at e
    · rename_i r1 A2 e1 h1 he
      cases e
      obtain ⟨q1, q2⟩ := upto_run hA he
      refine ⟨fun cx k => ?_, q2⟩
      have x := q1 cx (.inBlock i :: k)
      cases r1 with
      | upt l =>
        cases l with
        | nil => exact leads_block.trans (Leads.trans x leads_inBlock)
        | cons y l =>
          show Leads P _ (sOf cx ((y :: l ++ [.inBlock i]) ++ k) _ _)
          rw [List.append_assoc]
          exact leads_block.trans x
      | ret => obtain ⟨k', x⟩ := x; exact ⟨k', leads_block.trans x⟩
      | exit j =>
        obtain ⟨k', e, x⟩ := x
        by_cases c : j = i
        · subst c
          rw [show Rs.block j (.exit j) = .upt [] from if_pos rfl]
          have e : exitA j k' = some k := by
            rw [e]
            show (bif Nat.beq j j then some k else exitA j k) = _
            rw [beq_iff.2 rfl]; rfl
          exact leads_block.trans (x.trans (leads_exit e))
        · rw [show Rs.block i (.exit j) = .exit j from if_neg c]
          have e : exitA j k' = exitA j k := by
            rw [e]
            show (bif Nat.beq i j then some k else exitA j k) = _
            rw [beq_false.2 fun x => c x.symm]; rfl
          exact ⟨k', e, leads_block.trans x⟩
    · cases e

/-- Code that is run up to its next loop, and what is done from there. -/
theorem Dos.run {dr : Bool} {A1 : List KC} (A : List KC) (hA : ∀ a ∈ A, AmFn P a.f a.args a.h a.v a.h') (e : runS P dr c A env h = some (.upt l, A1, env1, h1)) (d : DosL P F l env1 h1 o M env' h') : Dos P F c env h o M env' h' := by
  have q := DosL.after (M1 := []) (l := [.code c]) (l' := l) (fun cx k _ => (upto_run hA e).1 cx k) d
  rw [List.append_nil] at q
  exact q
theorem Dos.runGo {dr : Bool} {A1 : List KC} (A : List KC) (hA : ∀ a ∈ A, AmFn P a.f a.args a.h a.v a.h') (e : runS P dr c A env h = some (.upt [], A1, env', h')) : Dos P F c env h .go [] env' h' := fun cx k _ => (upto_run hA e).1 cx k
theorem Dos.runRet {dr : Bool} {A1 : List KC} (A : List KC) (hA : ∀ a ∈ A, AmFn P a.f a.args a.h a.v a.h') (e : runS P dr c A env h = some (.ret, A1, env', h')) : Dos P F c env h .ret [] env' h' := fun cx k _ => (upto_run hA e).1 cx k
theorem Dos.runExit {dr : Bool} {A1 : List KC} {i : Nat} (A : List KC) (hA : ∀ a ∈ A, AmFn P a.f a.args a.h a.v a.h') (e : runS P dr c A env h = some (.exit i, A1, env', h')) : Dos P F c env h (.exit i) [] env' h' := fun cx k _ => (upto_run hA e).1 cx k
end

/-! ### Slices that are handed in -/

/-- A block that is read. -/
structure Fix (h : Hp) (id : Pos) (l : List AV) : Prop where
  old : id.num < h.next.num
  mem : ∃ ser c hi m ro fz, T.get id h.heap = some (.cells ser c 0 hi 0 m ro fz) ∧ c.wf ∧ c.toL = l

theorem Fix.only {S : List Pos} {h h' : Hp} {id : Pos} {l : List AV} (b : Fix h id l) (m : Only S h h') (hs : id ∉ S) : Fix h' id l :=
  ⟨Nat.lt_of_lt_of_le b.old m.next, by rw [m.same id b.old hs]; exact b.mem⟩

theorem Fix.part {h : Hp} {id : Pos} {l : List AV} (b : Fix h id l) {off n : Nat} (hn : off + n ≤ l.length) : Row h id 0 off ((l.drop off).take n) := by
  obtain ⟨ser, c, hi, m, ro, fz, e, hw, hl⟩ := b.mem
  have hs : c.size = l.length := by rw [← Cells.toL_length hw, hl]
  have q := Row.of_block (off := off) (n := n) e hw b.old (Nat.zero_le _) (by omega)
  rw [hl] at q
  exact q

/-- A slice of elements of one cell, within a block that is read. -/
def ArgS (h : Hp) (v : AV) (l : List AV) : Prop :=
  (v = .nilSl ∧ l = []) ∨ ∃ id off cap ex L, v = .sl id 0 off l.length cap ex 1 ∧ l.length ≤ cap ∧ Fix h id L ∧ (L.drop off).take l.length = l ∧ off + l.length ≤ L.length

theorem ArgS.sl {h : Hp} {v : AV} {l : List AV} (a : ArgS h v l) : SlR h v l := by
  rcases a with ⟨q1, q2⟩ | ⟨id, off, cap, ex, L, q1, q2, q3, q4, q5⟩
  · subst q1 q2; exact .nil
  · subst q1
    have r := q3.part q5
    rw [q4] at r
    exact .mk rfl r

theorem ArgS.only {S : List Pos} {h h' : Hp} {v : AV} {l : List AV} (a : ArgS h v l) (m : Only S h h') {N : Nat} (hS : ∀ id ∈ S, N ≤ id.num) (hv : ∀ id g off n cap ex, v = .sl id g off n cap ex 1 → id.num < N) : ArgS h' v l := by
  rcases a with q | ⟨id, off, cap, ex, L, q1, q2, q3, q4, q5⟩
  · exact .inl q
  · exact .inr ⟨id, off, cap, ex, L, q1, q2, q3.only m fun c => by have := hS _ c; have := hv _ _ _ _ _ _ q1; omega, q4, q5⟩

theorem ArgS.more {h h' : Hp} {v : AV} {l : List AV} (a : ArgS h v l) (m : Only [] h h') : ArgS h' v l := by
  rcases a with q | ⟨id, off, cap, ex, L, q1, q2, q3, q4, q5⟩
  · exact .inl q
  · exact .inr ⟨id, off, cap, ex, L, q1, q2, q3.only m (by simp), q4, q5⟩

theorem ArgS.old {h : Hp} {v : AV} {l : List AV} (a : ArgS h v l) : ∀ id g off n cap ex, v = .sl id g off n cap ex 1 → id.num < h.next.num := by
  intro id g off n cap ex e
  rcases a with ⟨q1, _⟩ | ⟨id', off', cap', ex', L, q1, q2, q3, q4, q5⟩
  · rw [e] at q1; cases q1
  · rw [e] at q1; cases q1; exact q3.old

/-- The first n of a slice. -/
theorem ArgS.front {h : Hp} {v : AV} {l : List AV} (a : ArgS h v l) (P : Program) {n : Nat} (h0 : 0 < n) (hn : n ≤ l.length) :
    ∃ w, (∀ env x y, ev env x = v → ev env y = int64 n → evalOp P (.sliceSl 1 x none (some y) none) env h = .val w h) ∧ SlR h w (l.take n) := by
  rcases a with ⟨q1, q2⟩ | ⟨id, off, cap, ex, L, q1, q2, q3, q4, q5⟩
  · subst q2; simp at hn; omega
  · subst q1
    refine ⟨.sl id 0 off n cap ex 1, fun env x y hx hy => ?_, .mk (by simp; omega) ?_⟩
    · have e : evalOp P (.sliceSl 1 x none (some y) none) env h = (match ev env x with
        | .nilSl => (match evO env none 0, evO env (some y) 0, evO env none 0 with
          | some 0, some 0, some 0 => .val .nilSl h
          | _, _, _ => .fail "sliceSl nil")
        | .sl id g off len cap ex es' =>
          (match evO env none 0, evO env (some y) len, evO env none cap with
          | some l, some r, some m =>
            bif Nat.beq 1 es' && Nat.ble l r && Nat.ble r m && Nat.ble m cap then
              natK (Nat.sub r l) fun n => natK (Nat.sub m l) fun c => natK (Nat.add off (Nat.mul l 1)) fun off' =>
                .val (.sl id g (bif Nat.beq l m && (bif ex then true else (none : Option Opd).isSome) then off else off') n c (bif ex then true else (none : Option Opd).isSome) 1) h
            else .fail "sliceSl bounds"
          | _, _, _ => .fail "sliceSl")
        | _ => .fail "sliceSl what") := rfl
      have ey : ∀ d, evO env (some y) d = some n := fun d => by
        show (match ev env y with | .int _ (.ofNat n) => some n | _ => none) = _
        rw [hy]
      rw [e, hx]
      simp only [ey, show evO env none 0 = some 0 from rfl, show evO env none cap = some cap from rfl, natK_eq, show Nat.ble 0 n = true from ble_iff.2 (Nat.zero_le n), ble_iff.2 (show n ≤ cap by omega), ble_iff.2 (Nat.le_refl cap)]
      cases ex <;> simp
    · have r := q3.part (off := off) (n := n) (by omega)
      have : (L.drop off).take n = l.take n := by
        rw [← q4, List.take_take, Nat.min_eq_left hn]
      rw [this] at r
      exact r
end Go.Proofs.Ytmifpiglcphmoaa.Am

namespace Go.Proofs.Ytmifpiglcphmoaa.Am
open Go.RowKit

/-- One more block that is only read. -/
noncomputable def addRow (h : Hp) (l : List AV) : Hp := ⟨T.set h.next (some (.cells 0 (.lst l.length l) 0 0 0 0 true false)) h.heap, h.next.succ, h.ser, h.lim⟩

/-- Nothing may be written. -/
def AllRo (h : Hp) : Prop := ∀ id, ¬ Nonro h id

section
variable {P : Program} {φ : Phi} {h : Hp} {w : World} {l : List AV} {ys : List Value} {b off : Nat} {C : Array Value} {el : TypeId} {fr : Nat × Nat}

theorem addRow_get (id : Pos) : T.get id (addRow h l).heap = if id = h.next then some (.cells 0 (.lst l.length l) 0 0 0 0 true false) else T.get id h.heap := by
  show T.get id (T.set h.next _ h.heap) = _
  rw [T.get_set]

theorem addRow_only : Only [] h (addRow h l) := by
  refine ⟨by show h.next.num ≤ h.next.succ.num; rw [Pos.num_succ]; omega, rfl, fun id hid _ => ?_⟩
  rw [addRow_get, if_neg fun c => by subst c; omega]

theorem addRow_ro (hr : AllRo h) : AllRo (addRow h l) := fun id ⟨x, e, q⟩ => by
  rw [addRow_get] at e
  split at e
  · cases e
    have := q _ _ _ _ _ _ _ _ rfl
    cases this
  · exact hr id ⟨x, e, q⟩

theorem addRow_rel (hR : HR P φ h w) (hz : h.lim = 0) (hro : AllRo h) (hb : w.heap[b]? = some (.cells C el fr)) (hl : l.length = ys.length) (hC : ∀ i, i < ys.length → C[off + i]? = ys[i]?) (hr : ∀ φ, RelL φ l ys) :
    HR P (φ.put h.next 0 (b, (off : Int), C.size)) (addRow h l) w := by
  have blt : b < w.heap.size := by
    rcases Nat.lt_or_ge b w.heap.size with q | q
    · exact q
    · rw [Array.getElem?_eq_none q] at hb; cases hb
  have nn := hR.next_none (.inl hz)
  have hle : Le φ (φ.put h.next 0 (b, (off : Int), C.size)) := Phi.le_put (nn 0)
  have hin : ∀ {id g r}, φ.put h.next 0 (b, (off : Int), C.size) id g = some r → (id = h.next ∧ g = 0 ∧ r = (b, (off : Int), C.size)) ∨ (id ≠ h.next ∧ φ id g = some r) := fun {id g r} e => by
    by_cases c : id = h.next
    · subst c
      by_cases c : g = 0
      · subst c; rw [Phi.put_same] at e; cases e; exact .inl ⟨rfl, rfl, rfl⟩
      · rw [Phi.put_gen c, nn] at e; cases e
    · rw [Phi.put_id c] at e; exact .inr ⟨c, e⟩
  have old : ∀ {id}, Old h.next.num h.lim id → Old (addRow h l).next.num (addRow h l).lim id := fun {id} o => o.mono addRow_only.next
  have new : Old (addRow h l).next.num (addRow h l).lim h.next := .inl (by show h.next.num < h.next.succ.num; rw [Pos.num_succ]; omega)
  refine ⟨fun id x e => ?_, fun id g r e => ?_, fun id x e => ?_, fun id g y s n id' g' s' n' _ _ => .inr ⟨addRow_ro hro _, addRow_ro hro _⟩, fun id g y s n e => ?_, fun g hg => let ⟨n, e⟩ := hR.glob g hg; ⟨n, hle _ _ _ e⟩⟩
  · rw [addRow_get] at e
    split at e
    · rename_i c
      cases e
      subst c
      refine ⟨rfl, Nat.le_refl _, fun q => absurd q (Nat.lt_irrefl _), fun j hj => ?_, fun j j' b1 s1 n1 s2 n2 k1 k2 k3 k4 e1 e2 => ?_, fun j k1 k2 => ?_⟩
      · rw [Phi.put_gen (by omega)]; exact nn j
      · rcases hin e1 with ⟨_, _, q1⟩ | ⟨q, _⟩
        · rcases hin e2 with ⟨_, _, q2⟩ | ⟨q, _⟩
          · cases q1; cases q2; rfl
          · exact absurd rfl q
        · exact absurd rfl q
      · have : j = 0 := by omega
        subst this
        refine ⟨b, off, C.size, C, el, fr, Phi.put_same _ _ _ _, hb, rfl, fun c => (by cases c), fun i v _ hi2 hv => ?_⟩
        have hv : l[i]? = some v := hv
        have hil : i < l.length := by
          rcases Nat.lt_or_ge i l.length with q | q
          · exact q
          · rw [List.getElem?_eq_none q] at hv; cases hv
        obtain ⟨x, hx, rx⟩ := (hr (φ.put h.next 0 (b, (off : Int), C.size))).get hv
        exact ⟨off + i, x, by omega, by rw [hC i (by omega), hx], rx⟩
    · rename_i c
      exact BR.mono hle (fun g r k => by rwa [Phi.put_id c] at k) (fun _ _ _ _ _ => rfl) (hR.blk id x e)
  · rcases hin e with ⟨q, _, _⟩ | ⟨_, q⟩
    · subst q; exact new
    · exact old (hR.used _ _ _ q)
  · rw [addRow_get] at e
    split at e
    · rename_i c; subst c; exact new
    · exact old (hR.dom _ _ e)
  · rcases hin e with ⟨_, _, q⟩ | ⟨_, q⟩
    · cases q; exact blt
    · exact hR.inb _ _ _ _ _ q

theorem addRow_slice {cap n : Nat} (h1 : l.length ≤ cap) (hn : 0 < cap → off + cap ≤ n) : Rel (φ.put h.next 0 (b, (off : Int), n)) (.sl h.next 0 0 l.length l.length false 1) (.slice (some ⟨b, off, none⟩) l.length cap) := by
  refine .sl (b := b) (s := off) (n := n) (Phi.put_same _ _ _ _) rfl rfl h1 h1 (Nat.le_refl _) (fun c => by cases c) fun hc => ⟨by simp, ?_⟩
  have := hn hc
  show off + cap * 1 ≤ n
  omega

theorem addRow_arg : ArgS (addRow h l) (.sl h.next 0 0 l.length l.length false 1) l :=
  .inr ⟨h.next, 0, l.length, false, l, rfl, Nat.le_refl _, ⟨by show h.next.num < h.next.succ.num; rw [Pos.num_succ]; omega, 0, .lst l.length l, 0, 0, true, false, by rw [addRow_get, if_pos rfl], rfl, rfl⟩, by simp, by simp⟩
end

/-- Nothing handed in yet. -/
theorem start_ro (P : Program) : AllRo ⟨.e, Pos.ofNat (globN P), 0, 0⟩ := fun id ⟨b, e, _⟩ => by
  rw [T.get_e] at e
  cases e

/-- A slice of elements of one cell, handed in: from a heap in which nothing may be written to one in which it reads as it does. -/
theorem handed {P : Program} {φ : Phi} {h : Hp} {w : World} {a : Option Addr} {len cap : Nat} {l : List AV} (hR : HR P φ h w) (hz : h.lim = 0) (hro : AllRo h)
    (hs : (a = none ∧ len = 0 ∧ cap = 0 ∧ l = []) ∨ ∃ b off C el fr, a = some ⟨b, off, none⟩ ∧ w.heap[b]? = some (.cells C el fr) ∧ l.length = len ∧ len ≤ cap ∧ (0 < cap → off + cap ≤ C.size) ∧ ∃ ys : List Value, ys.length = len ∧ (∀ i, i < len → C[off + i]? = ys[i]?) ∧ ∀ φ, RelL φ l ys) :
    ∃ φ' h' v, HR P φ' h' w ∧ h'.lim = 0 ∧ AllRo h' ∧ Le φ φ' ∧ Only [] h h' ∧ Rel φ' v (.slice a len cap) ∧ ArgS h' v l := by
  rcases hs with ⟨rfl, rfl, rfl, rfl⟩ | ⟨b, off, C, el, fr, rfl, hb, rfl, hle, hn, ys, hy, hC, hr⟩
  · exact ⟨φ, h, .nilSl, hR, hz, hro, Le.refl φ, .refl _ _, .nilSl, .inl ⟨rfl, rfl⟩⟩
  · exact ⟨_, addRow h l, .sl h.next 0 0 l.length l.length false 1, addRow_rel hR hz hro hb hy.symm (fun i hi => hC i (by omega)) hr, hz, addRow_ro hro, Phi.le_put (hR.next_none (.inl hz) 0), addRow_only, addRow_slice hle hn, addRow_arg⟩
end Go.Proofs.Ytmifpiglcphmoaa.Am

namespace Go.Proofs.Ytmifpiglcphmoaa.Am
open Go.RowKit

/-- The world has more behind it, and is as it was. -/
theorem HR.grown {P : Program} {φ : Phi} {h : Hp} {w w' : World} (hR : HR P φ h w) (hs : w.heap.size ≤ w'.heap.size) (hk : ∀ b, b < w.heap.size → w'.heap[b]? = w.heap[b]?) : HR P φ h w' :=
  ⟨fun id b e => BR.mono (Le.refl φ) (fun _ _ e => e) (fun g b' s n e' => hk b' (hR.inb _ _ _ _ _ e')) (hR.blk id b e), hR.used, hR.dom, hR.sep, fun id g b s n e => Nat.lt_of_lt_of_le (hR.inb _ _ _ _ _ e) hs, hR.glob⟩

theorem Adv.grown {h : Hp} {w w' : World} {φ : Phi} (os : w'.os = w.os) (output : w'.output = w.output) (tape : w'.tape = w.tape) (hs : w.heap.size ≤ w'.heap.size) (hk : ∀ b, b < w.heap.size → w'.heap[b]? = w.heap[b]?) : Adv h w φ h w' φ :=
  ⟨Le.refl φ, os, output, tape, hs, Nat.le_refl _, fun id g b s n e _ => ⟨g, s, n, e⟩, fun _ _ k => k, fun b hb _ => hk b hb, rfl, fun _ _ e => e, fun _ _ _ _ _ e => e⟩

/-- A function that returns true when it is run by itself, called from anywhere. -/
theorem closed_fn {P : Program} {f : FuncId} (hc : closedT P f = true) (h : Hp) : AmFn P f [] h (.bool true) h := by
  unfold closedT at hc
  split at hc
  · rename_i s hs
    unfold start at hs
    split at hs
    · rename_i fr hb
      cases hs
      refine ⟨fr, hb, fun callers r q φ w g cs c0 hR hz hF hC => ?_⟩
      have hfr : ∃ fu : Fu, fr = ⟨f, .e, [.code fu.body], [], .run, false, none⟩ := by
        unfold beginFn at hb
        split at hb
        · rename_i fu _
          refine ⟨fu, ?_⟩
          cases hl : Nat.ble ([] : List AV).length fu.nargs with
          | true => rw [hl] at hb; cases hb; rfl
          | false => rw [hl] at hb; cases hb
        · cases hb
      obtain ⟨fu, hfr⟩ := hfr
      have hF0 : FrR P (phi0 P) fr g := by
        subst hfr
        have htodo : ItemsR P (phi0 P) (numT P f) [.code fu.body] g.todo := by
          have := hF.todo
          generalize g.todo = td at this ⊢
          cases this with
          | @cons _ y _ r h1 h2 =>
            cases h2
            refine .cons ?_ .nil
            cases y <;> exact h1
        have hdef : DefsR (phi0 P) [] g.defers := by
          have := hF.defers
          generalize g.defers = ds at this ⊢
          cases this
          exact .nil
        have hround : RoundR (phi0 P) none g.roundOf := by
          have := hF.round
          generalize g.roundOf = ro at this ⊢
          cases ro with
          | none => trivial
          | some b => exact this.elim
        refine ⟨hF.fn, fun t => ?_, hF.size, htodo, hdef, hF.mode, hF.kind, hround⟩
        have e : Rel φ (ev (.e : T AV) (.tmp (Pos.ofNat t))) (g.tmps.getD t Go.undef) := hF.env t
        have u : ev (.e : T AV) (.tmp (Pos.ofNat t)) = .undef := sv_undef t
        show Rel (phi0 P) (ev (.e : T AV) (.tmp (Pos.ofNat t))) (g.tmps.getD t Go.undef)
        rw [u] at e ⊢
        revert e
        generalize g.tmps.getD t Go.undef = X
        intro e
        cases e with
        | @tup _ a hl =>
          refine .tup ?_
          generalize a.toList = L at hl ⊢
          cases hl
          exact .nil
      have hR0 := start_rel (P := P) (w := w) (Nat.zero_le _)
      have ho := runT_sounds P 40 ⟨fr, [], ⟨.e, Pos.ofNat 0, 0, 0⟩⟩ (phi0 P) w g [] (cs ++ c0) hR0 rfl hF0 .nil
      generalize runT P 40 ⟨fr, [], ⟨.e, Pos.ofNat 0, 0, 0⟩⟩ = o at hc ho
      unfold isTrue at hc
      split at hc
      · rename_i h'
        obtain ⟨w', φ', x, r1, r2, r3, r4, r5⟩ := ho
        cases r3
        have hk : ∀ b, b < w.heap.size → w'.heap[b]? = w.heap[b]? := fun b hb => r2.keep b hb fun id g s n _ ⟨b, e, _⟩ => by
          rw [T.get_e] at e
          cases e
        have hR' := hR.grown r2.size hk
        have hA' : Adv h w φ h w' φ := Adv.grown r2.os r2.output r2.tape r2.size hk
        have back := backTo_run (fr := fr) (c0 := c0) (v := .bool true) (x := .bool true) (callers := callers) hR' hC (.bool true) hA' (fun c cs1 e => r4 c cs1 e) (fun hr hcl => by
          subst hcl
          cases hC
          obtain ⟨g', s1, s2, s3⟩ := r5 hr
          exact ⟨g', s1, s2, s3⟩)
        unfold AnsO at q
        cases hb : backTo (.bool true) callers h with
        | next s' =>
          rw [hb] at q back
          obtain ⟨g', cs', w2, φ2, q1, q2, q3, q4, q5, q6, q7⟩ := back
          exact OutR.then hR hz q1 q5 q6 q7 (q φ2 w2 g' cs' c0 q2 (q5.lim.trans hz) q3 q4)
        | done v h2 =>
          rw [hb] at q back
          rw [q]
          exact back
        | fail why => rw [hb] at q; exact q.elim
      · cases hc
    · cases hs
  · cases hc
end Go.Proofs.Ytmifpiglcphmoaa.Am
