import Derived.Test.YtpcddenijmhbfaaAmN
/- THE ABSTRACT MACHINE, part O: a machine over values without block numbers, run by the kernel, and the proof that the model's machine does what it does. No condition. -/
set_option linter.unusedSimpArgs false
set_option linter.unusedVariables false
namespace Go.Proofs.Ytpcddenijmhbfaa.Am
open Go.RowKit

theorem AmFn.calls {P : Program} {f : FuncId} {args : List AV} {h h' : Hp} {v : AV} {xs : Array Value} {φ : Phi} {w : World} (hf : AmFn P f args h v h') (hR : HR P φ h w) (hz : h.lim = 0) (ha : RelL φ args xs.toList) :
    Calls P f xs w fun e w' => ∃ φ' x, e = .returned x ∧ Rel φ' v x ∧ HR P φ' h' w' ∧ Adv h w φ h' w' φ' := by
  intro cs
  obtain ⟨fr, hb, an⟩ := hf.ans
  obtain ⟨q1, q2, q3, _⟩ := begin_run (φ := φ) (xs := xs) hb ha
  obtain ⟨w', φ', x, r1, r2, r3, _, r5⟩ := an φ w _ [] cs hR hz q1 .nil
  obtain ⟨g', s1, s2, s3⟩ := r5 q3
  exact ⟨.returned x, w', g', ⟨φ', x, rfl, r3, r1, r2⟩, s1, s2.trans q2, s3⟩

/-- Where nothing may be written, what was there stays. -/
theorem Adv.below {h h' : Hp} {w w' : World} {φ φ' : Phi} (a : Adv h w φ h' w' φ') (hn : ∀ id, ¬ Nonro h id) : Below w.heap.size w w' :=
  ⟨a.os, a.tape, a.output, a.size, fun k hk => a.keep k hk fun id _ _ _ _ => hn id⟩

/-- The heap of one row that is read only. -/
noncomputable def rowH (n : Nat) (l : List AV) : Hp := ⟨T.set Pos.first (some (.cells 0 (.lst n l) 0 0 0 0 true false)) .e, Pos.first.succ, 0, 0⟩

noncomputable def rowPhi (b off n : Nat) : Phi := fun id g => if id = Pos.first ∧ g = 0 then some (b, (off : Int), n) else none

theorem rowH_get (n : Nat) (l : List AV) (id : Pos) : T.get id (rowH n l).heap = if id = Pos.first then some (.cells 0 (.lst n l) 0 0 0 0 true false) else none := by
  show T.get id (T.set Pos.first _ .e) = _
  rw [T.get_set, T.get_e]

theorem rowH_ro (n : Nat) (l : List AV) : ∀ id, ¬ Nonro (rowH n l) id := by
  intro id ⟨b, e, q⟩
  rw [rowH_get] at e
  split at e
  · cases e
    have := q _ _ _ _ _ _ _ _ rfl
    cases this
  · cases e

theorem rowH_rel {P : Program} {w : World} {b off : Nat} {C : Array Value} {el : TypeId} {fr : Nat × Nat} {l : List AV} {ys : List Value} (hb : w.heap[b]? = some (.cells C el fr)) (hl : l.length = ys.length)
    (hC : ∀ i, i < ys.length → C[off + i]? = ys[i]?) (hr : ∀ φ, RelL φ l ys) : HR P (rowPhi b off C.size) (rowH l.length l) w := by
  have blt : b < w.heap.size := by
    rcases Nat.lt_or_ge b w.heap.size with h | h
    · exact h
    · rw [Array.getElem?_eq_none h] at hb; cases hb
  have phi : ∀ {id g r}, rowPhi b off C.size id g = some r → id = Pos.first ∧ g = 0 ∧ r = (b, (off : Int), C.size) := fun {id g r} e => by
    unfold rowPhi at e
    split at e
    · rename_i c
      cases e
      exact ⟨c.1, c.2, rfl⟩
    · cases e
  have nx : (rowH l.length l).next.num = 2 := rfl
  have n1 : Pos.first.num = 1 := rfl
  refine ⟨fun id x e => ?_, fun id g r e => ?_, fun id x e => ?_, fun id g b' s n id' g' s' n' e e' => ?_, fun id g b' s n e => ?_, fun g hg => absurd hg (Nat.not_lt_zero _)⟩
  · rw [rowH_get] at e
    split at e
    · rename_i c
      cases e
      subst c
      refine ⟨rfl, Nat.le_refl _, fun h => absurd h (Nat.lt_irrefl _), fun j hj => ?_, fun j j' b1 s1 n1 s2 n2 h1 h2 h3 h4 e1 e2 => ?_, fun j h1 h2 => ?_⟩
      · unfold rowPhi
        rw [if_neg fun c => by omega]
      · obtain ⟨_, _, q1⟩ := phi e1
        obtain ⟨_, _, q2⟩ := phi e2
        cases q1; cases q2; rfl
      · have : j = 0 := by omega
        subst this
        refine ⟨b, off, C.size, C, el, fr, by unfold rowPhi; rw [if_pos ⟨rfl, rfl⟩], hb, rfl, fun c => (by cases c), fun i v hi1 hi2 hv => ?_⟩
        have hv : l[i]? = some v := hv
        have hil : i < l.length := by
          rcases Nat.lt_or_ge i l.length with h | h
          · exact h
          · rw [List.getElem?_eq_none h] at hv; cases hv
        obtain ⟨x, hx, rx⟩ := (hr (rowPhi b off C.size)).get hv
        exact ⟨off + i, x, by omega, by rw [hC i (by omega), hx], rx⟩
    · cases e
  · obtain ⟨q, _, _⟩ := phi e
    subst q
    exact .inl (by rw [nx, n1]; omega)
  · rw [rowH_get] at e
    split at e
    · rename_i c
      subst c
      exact .inl (by rw [nx, n1]; omega)
    · cases e
  · rw [(phi e).1, (phi e').1]
  · obtain ⟨_, _, q⟩ := phi e
    cases q
    exact blt

theorem rowH_slice {l : List AV} {b off cap n : Nat} (h : l.length ≤ cap) (hn : 0 < cap → off + cap ≤ n) : Rel (rowPhi b off n) (.sl Pos.first 0 0 l.length l.length false 1) (.slice (some ⟨b, off, none⟩) l.length cap) := by
  refine .sl (b := b) (s := off) (n := n) (by unfold rowPhi; rw [if_pos ⟨rfl, rfl⟩]) rfl rfl h h (Nat.le_refl _) (fun c => by cases c) fun hc => ⟨by simp, ?_⟩
  have := hn hc
  show off + cap * 1 ≤ n
  omega

theorem rowH_row {l : List AV} : SlR (rowH l.length l) (.sl Pos.first 0 0 l.length l.length false 1) l := by
  refine .mk rfl ?_
  have q := Row.of_block (h := rowH l.length l) (id := Pos.first) (ser := 0) (lo := 0) (hh := 0) (g := 0) (m := 0) (off := 0) (n := l.length) (c := .lst l.length l) (ro := true) (fz := false) (by rw [rowH_get, if_pos rfl]) rfl (by show 1 < 2; omega) (Nat.le_refl _) (by show 0 + l.length ≤ l.length; omega)
  rw [List.drop_zero] at q
  have e : (Cells.lst l.length l).toL.take l.length = l := List.take_length
  rw [e] at q
  exact q

/-! ### Calls within a region that draws its order -/

open Classical in
/-- Answers that are known, by the function that is asked. -/
noncomputable def recF : List KC → (KC → Fr) → St → Out
  | [], _, _ => .fail ""
  | a :: A, fr, s => if a.f = s.cur.fn then (if s = ⟨fr a, [], a.h⟩ then .done a.v a.h' else .fail "") else recF A fr s

theorem recF_sound {P : Program} {fr : KC → Fr} : ∀ {A : List KC}, (∀ a ∈ A, AmFn P a.f a.args a.h a.v a.h' ∧ beginFn P a.f a.args = some (fr a)) → Sound P (recF A fr)
  | [], _ => fun _ _ _ _ _ _ _ _ _ => trivial
  | a :: A, h => fun s φ w g c0 hs hR hz hF => by
    unfold recF
    split
    · split
      · rename_i e
        subst e
        obtain ⟨q1, q2⟩ := h a (by simp)
        obtain ⟨fr', e1, e2⟩ := q1.ans
        rw [q2] at e1
        cases e1
        exact e2 φ w g [] c0 hR hz hF .nil
      · trivial
    · exact recF_sound (fun y hy => h y (List.mem_cons_of_mem _ hy)) s φ w g c0 hs hR hz hF

/-- The frame that a call begins. -/
noncomputable def frOf (P : Program) (f : FuncId) (args : List AV) : Fr :=
  match beginFn P f args with
  | some fr => fr
  | none => default

theorem AmFn.begins {P : Program} {f : FuncId} {args : List AV} {h h' : Hp} {v : AV} (hf : AmFn P f args h v h') : beginFn P f args = some (frOf P f args) ∧ (frOf P f args).fn = f := by
  obtain ⟨fr, e, _⟩ := hf
  have q : frOf P f args = fr := by unfold frOf; rw [e]
  refine ⟨by rw [q]; exact e, ?_⟩
  rw [q]
  unfold beginFn at e
  split at e
  · rename_i fu _
    cases hl : Nat.ble args.length fu.nargs with
    | true => rw [hl] at e; cases e; rfl
    | false => rw [hl] at e; cases e
  · cases e

theorem eqAV_int (n : Nat) (k : IntKind) (a : Int) : eqAV (n + 1) (.int k a) (.int k a) = true := by
  unfold eqAV
  simp only [Bool.and_eq_true]
  exact ⟨eqK_iff.2 rfl, eqI_iff.2 rfl⟩

noncomputable def idxA2 (len es : Nat) (x i : AV) (h : Hp) : Res :=
  match x, i with
  | .ptr id g off, .int _ (.ofNat i) => bif Nat.blt i len then natK (Nat.add off (Nat.mul i es)) fun o => .val (.ptr id g o) h else .fail "idxAddrArr bounds"
  | _, _ => .fail "idxAddrArr"

theorem idxA2_ptr (len es : Nat) (id : Pos) (g off : Nat) (k : IntKind) (z : Int) (h : Hp) :
    idxA2 len es (.ptr id g off) (.int k z) h = if 0 ≤ z ∧ z < (len : Int) then .val (.ptr id g (off + z.toNat * es)) h else .fail (if 0 ≤ z then "idxAddrArr bounds" else "idxAddrArr") := by
  cases z with
  | ofNat n =>
    unfold idxA2
    simp only [natK_eq]
    by_cases c : n < len
    · rw [blt_iff.2 c, if_pos ⟨by simp, by simpa using c⟩]; rfl
    · rw [blt_false.2 (by omega), if_neg fun q => c (by simpa using q.2)]; simp
  | negSucc n =>
    rw [if_neg (by simp), if_neg (by simp)]
    rfl

theorem qev_idxArr (P : Program) (env : T AV) (h : Hp) (len es : Nat) (x i : Opd) : evalOp P (.idxAddrArr len es x i) env h = idxA2 len es (ev env x) (ev env i) h := rfl


/-! ### A region that draws its order, operation by operation -/

/-- What an actor's own run answers. -/
noncomputable def actO (P : Program) (rec : St → Out) (op : AOp) (env : T AV) (h : Hp) : Option (AV × Hp) :=
  match evalOp P op env h with
  | .val v h => some (v, h)
  | .enter f args h => (match beginFn P f args with
    | some fr => (match rec ⟨fr, [], h⟩ with
      | .done v h => some (v, h)
      | _ => none)
    | none => none)
  | _ => none

theorem actO_K {P : Program} {rec : St → Out} {op : AOp} {env : T AV} {h h' : Hp} {v : AV} (e : actO P rec op env h = some (v, h')) (k : AV → Hp → Out) : actK P rec op env h k = k v h' := by
  unfold actO at e
  unfold actK
  split at e
  · rename_i v1 h1 he
    cases e
    rw [he]
  · rename_i f args h1 he
    rw [he]
    split at e
    · rename_i fr hb
      simp only [hb]
      split at e
      · rename_i v1 h2 hr
        cases e
        rw [hr]
      · cases e
    · cases e
  · cases e

noncomputable def stepD (P : Program) (rec : St → Out) (i : Nat) (s : DS) (o : O) : Option DS :=
  if wantedA o s.env = true then
    match kindOf o.op with
    | .still => (match evalOp P o.op s.env s.h with
      | .val v _ => some ⟨s.acts, s.lds, s.als, s.rid, setD s.env o.dst v, s.h⟩
      | _ => none)
    | .load => (match evalOp P o.op s.env s.h with
      | .val v _ => if lookBack P o.op s.env v o.before s.acts = true then some ⟨s.acts, ⟨i, o.op, s.env, v⟩ :: s.lds, s.als, s.rid, setD s.env o.dst v, s.h⟩ else none
      | _ => none)
    | .alloc => none
    | .actor => (match actO P rec o.op s.env ⟨insT o.before s.als s.h.heap, s.h.next, s.h.ser, s.h.lim⟩ with
      | some (v, h') => if lookAgain P h' o.before s.lds = true then some ⟨⟨i, s.h⟩ :: s.acts, s.lds, remAl o.before s.als, s.rid, setD s.env o.dst v, h'⟩ else none
      | none => none)
  else match kindOf o.op with
    | .alloc => none
    | _ => some ⟨s.acts, s.lds, s.als, s.rid, setD s.env o.dst .undef, s.h⟩

noncomputable def runD (P : Program) (rec : St → Out) : Nat → List O → DS → Option DS
  | _, [], s => some s
  | i, o :: l, s => match stepD P rec i s o with
    | some s' => runD P rec (i + 1) l s'
    | none => none

theorem stepD_go {P : Program} {rec : St → Out} {K : T AV → Hp → Out} {i : Nat} {s s' : DS} {o : O} (e : stepD P rec i s o = some s') (rest : List O) :
    drawnGo P rec K i s.acts s.lds s.als s.rid s.env s.h (o :: rest) = drawnGo P rec K (i + 1) s'.acts s'.lds s'.als s'.rid s'.env s'.h rest := by
  unfold stepD at e
  rw [show drawnGo P rec K i s.acts s.lds s.als s.rid s.env s.h (o :: rest) = _ from by unfold drawnGo; rfl]
  split at e
  · rename_i hw
    rw [hw]
    cases hk : kindOf o.op with
    | still =>
      rw [hk] at e
      simp only at e
      split at e
      · rename_i v h1 he
        cases e
        simp only [cond_true, he, setDst_eq]
      · cases e
    | load =>
      rw [hk] at e
      simp only at e
      split at e
      · rename_i v h1 he
        split at e
        · rename_i hl
          cases e
          simp only [cond_true, he, hl, setDst_eq]
        · cases e
      · cases e
    | alloc => rw [hk] at e; cases e
    | actor =>
      rw [hk] at e
      simp only at e
      split at e
      · rename_i v h1 he
        split at e
        · rename_i hl
          cases e
          simp only [cond_true, insK_eq, actO_K he, hl, setDst_eq]
        · cases e
      · cases e
  · rename_i hw
    have hw : wantedA o s.env = false := by simpa using hw
    rw [hw]
    cases hk : kindOf o.op with
    | alloc => rw [hk] at e; cases e
    | _ =>
      rw [hk] at e
      cases e
      simp only [cond_false, setDst_eq]

theorem runD_go {P : Program} {rec : St → Out} {K : T AV → Hp → Out} {rest : List O} : ∀ {l : List O} {i : Nat} {s s' : DS}, runD P rec i l s = some s' →
    drawnGo P rec K i s.acts s.lds s.als s.rid s.env s.h (l ++ rest) = drawnGo P rec K (i + l.length) s'.acts s'.lds s'.als s'.rid s'.env s'.h rest
  | [], i, s, s', e => by cases e; rfl
  | o :: l, i, s, s', e => by
    unfold runD at e
    split at e
    · rename_i s1 he
      rw [List.cons_append, stepD_go he, runD_go e, List.length_cons, show i + 1 + l.length = i + (l.length + 1) by omega]
    · cases e

theorem runD_app {P : Program} {rec : St → Out} : ∀ {l r : List O} {i : Nat} {s s1 : DS}, runD P rec i l s = some s1 → runD P rec i (l ++ r) s = runD P rec (i + l.length) r s1
  | [], r, i, s, s1, e => by cases e; rfl
  | o :: l, r, i, s, s1, e => by
    unfold runD at e
    show runD P rec i (o :: (l ++ r)) s = _
    rw [runD]
    split at e
    · rename_i s2 he
      rw [runD_app e, List.length_cons, show i + 1 + l.length = i + (l.length + 1) by omega]
    · cases e

/-- A region that draws its order and makes no new blocks of its own. -/
theorem runDrawn_of {P : Program} {rec : St → Out} {l : List O} {env env' : T AV} {h h' : Hp} {acts : List Actor} {lds : List Ld} (hs : skipIds l h.next = h.next) (e : runD P rec 0 l ⟨[], [], [], h.next, env, h⟩ = some ⟨acts, lds, [], h.next, env', h'⟩) :
    runDrawn P rec l env h = some (env', h') := by
  unfold runDrawn
  rw [hs]
  have q := runD_go (K := kD) (rest := []) e
  rw [List.append_nil] at q
  have q : drawnGo P rec kD 0 [] [] [] h.next env h l = drawnGo P rec kD (0 + l.length) acts lds [] h.next env' h' [] := q
  rw [show (⟨h.heap, h.next, h.ser, h.lim⟩ : Hp) = h from rfl, q]
  rfl

theorem lookAgain_all {P : Program} {h : Hp} {m : Nat} : ∀ {l : List Ld}, (∀ d ∈ l, bit m d.i = true) → lookAgain P h m l = true
  | [], _ => rfl
  | d :: l, hd => by
    unfold lookAgain
    rw [hd d (by simp), lookAgain_all fun x hx => hd x (List.mem_cons_of_mem _ hx)]
    rfl

theorem eqAV_int8 (k : IntKind) (a : Int) : eqAV 8 (.int k a) (.int k a) = true := eqAV_int 7 k a

theorem again_ones {P : Program} {h : Hp} {n m : Nat} {l : List Ld} (hm : m = 2 ^ n - 1) (hl : ∀ d ∈ l, d.i < n) : lookAgain P h m l = true :=
  lookAgain_all fun d hd => by rw [bit_eq, hm, Nat.testBit_two_pow_sub_one]; simpa using hl d hd

/-! ### Parts of rows -/

theorem Gro.front {h : Hp} {id : Pos} {g : Nat} {l l2 : List AV} (b : Gro h id g (l ++ l2)) : Row h id g 0 l := by
  obtain ⟨ser, c, hi, m, fz, e, hw, hl⟩ := b.mem
  have hs : c.size = l.length + l2.length := by rw [← Cells.toL_length hw, hl, List.length_append]
  have q := Row.of_block (off := 0) (n := l.length) e hw b.old (Nat.le_refl _) (by omega)
  rw [List.drop_zero, hl, List.take_left'  rfl] at q
  exact q

theorem slice_to (P : Program) {env : T AV} {h : Hp} {x y : Opd} {id : Pos} {g len cap n : Nat} (hx : ev env x = .sl id g 0 len cap false 1) (hy : ev env y = int64 n) (hn : n ≤ cap) :
    evalOp P (.sliceSl 1 x none (some y) none) env h = .val (.sl id g 0 n cap false 1) h := by
  have e : evalOp P (.sliceSl 1 x none (some y) none) env h = (match ev env x with
    | .nilSl => (match evO env none 0, evO env (some y) 0, evO env none 0 with
      | some 0, some 0, some 0 => .val .nilSl h
      | _, _, _ => .fail "sliceSl nil")
    | .sl id g off len cap ex es' =>
      (match evO env none 0, evO env (some y) len, evO env none cap with
      | some l, some r, some m =>
        bif Nat.beq 1 es' && Nat.ble l r && Nat.ble r m && Nat.ble m cap then
          natK (Nat.sub r l) fun n => natK (Nat.sub m l) fun c => natK (Nat.add off (Nat.mul l 1)) fun off' =>
            .val (.sl id g (bif Nat.beq l m && (bif ex then true else (none : Option Opd).isSome) then off else off') n c (bif ex then true else (none : Option Opd).isSome) 1) h
        else .fail "sliceSl bounds"
      | _, _, _ => .fail "sliceSl")
    | _ => .fail "sliceSl what") := rfl
  have ey : evO env (some y) len = some n := by
    show (match ev env y with | .int _ (.ofNat n) => some n | _ => none) = _
    rw [hy]
  rw [e, hx]
  simp only [ey, show evO env none 0 = some 0 from rfl, show evO env none cap = some cap from rfl, natK_eq, show Nat.ble 0 n = true from ble_iff.2 (Nat.zero_le n), ble_iff.2 hn, ble_iff.2 (Nat.le_refl cap)]
  simp

end Go.Proofs.Ytpcddenijmhbfaa.Am
