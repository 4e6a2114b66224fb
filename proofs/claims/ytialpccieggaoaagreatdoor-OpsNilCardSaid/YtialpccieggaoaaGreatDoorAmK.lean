import Derived.Test.YtialpccieggaoaaGreatDoorAmJ
/- THE ABSTRACT MACHINE, part K: a machine over values without block numbers, run by the kernel, and the proof that the model's machine does what it does. No condition. -/
set_option linter.unusedSimpArgs false
set_option linter.unusedVariables false
namespace Go.Proofs.YtialpccieggaoaaGreatDoor.Am

structure DS where
  acts : List Actor
  lds : List Ld
  als : List Al
  rid : Pos
  env : T AV
  h : Hp

noncomputable def setD (env : T AV) (d : Option Pos) (v : AV) : T AV :=
  match d with
  | some d => T.set d (some v) env
  | none => env

noncomputable def putT (p : Al → Bool) : List Al → T Blk → T Blk
  | [], t => t
  | a :: l, t => putT p l (if p a = true then T.set a.id (some a.b) t else t)

noncomputable abbrev insT (m : Nat) (l : List Al) (t : T Blk) : T Blk := putT (fun a => m.testBit a.i) l t

noncomputable abbrev allT (l : List Al) (t : T Blk) : T Blk := putT (fun _ => true) l t

theorem putT_other {p : Al → Bool} {id : Pos} : ∀ {l : List Al} {t : T Blk}, (∀ a ∈ l, p a = true → a.id ≠ id) → T.get id (putT p l t) = T.get id t
  | [], t, _ => rfl
  | a :: l, t, h => by
    unfold putT
    rw [putT_other fun x hx => h x (List.mem_cons_of_mem _ hx)]
    split
    · rename_i hp
      rw [T.get_set, if_neg fun e => h a (by simp) hp e.symm]
    · rfl

theorem putT_mem {p : Al → Bool} {id : Pos} {b : Blk} : ∀ {l : List Al} {t : T Blk}, (∀ a ∈ l, p a = true → a.id = id → a.b = b) → ((∃ a ∈ l, p a = true ∧ a.id = id) ∨ T.get id t = some b) → T.get id (putT p l t) = some b
  | [], t, _, h => by
    rcases h with ⟨a, h, _⟩ | h
    · simp at h
    · exact h
  | a :: l, t, h, h' => by
    unfold putT
    refine putT_mem (fun x hx => h x (List.mem_cons_of_mem _ hx)) ?_
    by_cases c : p a = true ∧ a.id = id
    · rw [if_pos c.1, T.get_set, if_pos c.2.symm, h a (by simp) c.1 c.2]
      exact .inr rfl
    · rcases h' with ⟨a', q1, q2⟩ | h'
      · rcases List.mem_cons.1 q1 with q | q
        · subst q; exact absurd q2 c
        · exact .inl ⟨a', q, q2⟩
      · right
        split
        · rename_i hp
          rw [T.get_set, if_neg fun e => c ⟨hp, e.symm⟩]; exact h'
        · exact h'

theorem setDst_eq (env : T AV) (d : Option Pos) (v : AV) (k : T AV → Out) : setDst env d v k = k (setD env d v) := by
  cases d with
  | none => rfl
  | some d => exact T.setK_eq _ _ _ _

theorem insK_eq (m : Nat) : ∀ (l : List Al) (t : T Blk) (k : T Blk → Out), insK m l t k = k (insT m l t)
  | [], t, k => rfl
  | a :: l, t, k => by
    unfold insK insT putT
    rw [bit_eq]
    cases hb : m.testBit a.i with
    | true => rw [cond_true, T.setK_eq, insK_eq m l, if_pos rfl]
    | false => rw [cond_false, insK_eq m l, if_neg (by simp)]

theorem insAll_eq : ∀ (l : List Al) (t : T Blk) (k : T Blk → Out), insAll l t k = k (allT l t)
  | [], t, k => rfl
  | a :: l, t, k => by
    unfold insAll allT putT
    rw [T.setK_eq, insAll_eq l, if_pos rfl]

/-- An actor's run, to its end. -/
inductive Acts (P : Program) (rec : St → Out) (op : AOp) (env : T AV) (h : Hp) (v : AV) (h' : Hp) : Prop where
  | val (e : evalOp P op env h = .val v h')
  | memo {f : FuncId} {args : List AV} (e : evalOp P op env h = .enter f args h') (hp : plainL args = true) (hm : memoV P rec f args = some v)
  | enter {f : FuncId} {args : List AV} {h1 : Hp} {fr : Fr} (e : evalOp P op env h = .enter f args h1) (hb : beginFn P f args = some fr) (hr : rec ⟨fr, [], h1⟩ = .done v h')
  | round {l : Pos} {args : List AV} {fr : Fr} (e : evalOp P op env h = .round l args) (hb : beginRound h l args = some fr) (hr : rec ⟨fr, [], h⟩ = .done v h')

/-- An actor's run that ends by a panic. -/
inductive ActsP (P : Program) (rec : St → Out) (op : AOp) (env : T AV) (h : Hp) (v : AV) (h' : Hp) : Prop where
  | enter {f : FuncId} {args : List AV} {h1 : Hp} {fr : Fr} (e : evalOp P op env h = .enter f args h1) (hb : beginFn P f args = some fr) (hr : rec ⟨fr, [], h1⟩ = .pan v h')
  | round {l : Pos} {args : List AV} {fr : Fr} (e : evalOp P op env h = .round l args) (hb : beginRound h l args = some fr) (hr : rec ⟨fr, [], h⟩ = .pan v h')

theorem actK_eq (P : Program) (rec : St → Out) (op : AOp) (env : T AV) (h : Hp) (k pk : AV → Hp → Out) :
    (∃ why, actK P rec op env h k pk = .fail why) ∨ (∃ v h', Acts P rec op env h v h' ∧ actK P rec op env h k pk = k v h') ∨ ∃ v h', ActsP P rec op env h v h' ∧ actK P rec op env h k pk = pk v h' := by
  unfold actK
  split
  · rename_i v h' e
    exact .inr (.inl ⟨v, h', .val e, rfl⟩)
  · rename_i f args h1 e
    rcases tryMemo_or P rec f args (fun v => k v h1) (actE P rec f args h1 k pk) with q | ⟨v, m1, m2, m3⟩
    rotate_left
    · exact .inr (.inl ⟨v, h1, .memo e m1 m2, m3⟩)
    rw [q]
    unfold actE
    split
    · rename_i fr hb
      split
      · rename_i v h' hr
        exact .inr (.inl ⟨v, h', .enter e hb hr, rfl⟩)
      · rename_i v h' hr
        exact .inr (.inr ⟨v, h', .enter e hb hr, rfl⟩)
      · exact .inl ⟨_, rfl⟩
      · exact .inl ⟨_, rfl⟩
      · exact .inl ⟨_, rfl⟩
    · exact .inl ⟨_, rfl⟩
  · rename_i l args e
    split
    · rename_i fr hb
      split
      · rename_i v h' hr
        exact .inr (.inl ⟨v, h', .round e hb hr, rfl⟩)
      · rename_i v h' hr
        exact .inr (.inr ⟨v, h', .round e hb hr, rfl⟩)
      · exact .inl ⟨_, rfl⟩
      · exact .inl ⟨_, rfl⟩
      · exact .inl ⟨_, rfl⟩
    · exact .inl ⟨_, rfl⟩
  all_goals exact .inl ⟨_, rfl⟩

/-- The operation that panics, and those that must come behind it, say nothing. -/
noncomputable def mute (i0 y : Nat) (o : O) : O := if y = i0 ∨ (i0 < y ∧ o.before.testBit i0 = true) then { o with op := .mov (.val .undef), guard := none } else o

noncomputable def muteF (i0 : Nat) : Nat → List O → List O
  | _, [] => []
  | j, o :: l => mute i0 j o :: muteF i0 (j + 1) l

theorem muteF_get {i0 : Nat} : ∀ {l : List O} {j y : Nat}, (muteF i0 j l)[y]? = (l[y]?).map (mute i0 (j + y))
  | [], j, y => by simp [muteF]
  | o :: l, j, 0 => by simp [muteF]
  | o :: l, j, y + 1 => by
    simp only [muteF, List.getElem?_cons_succ]
    rw [muteF_get, show j + 1 + y = j + (y + 1) by omega]

theorem muteF_len {i0 : Nat} : ∀ {l : List O} {j : Nat}, (muteF i0 j l).length = l.length
  | [], j => rfl
  | o :: l, j => by simp [muteF, muteF_len]

theorem mute_dst (i0 y : Nat) (o : O) : (mute i0 y o).dst = o.dst ∧ (mute i0 y o).before = o.before ∧ (mute i0 y o).ok = o.ok := by
  unfold mute
  split <;> exact ⟨rfl, rfl, rfl⟩

theorem mute_else {i0 y : Nat} {o : O} (h : ¬ (y = i0 ∨ (i0 < y ∧ o.before.testBit i0 = true))) : mute i0 y o = o := by unfold mute; rw [if_neg h]

theorem mute_then {i0 y : Nat} {o : O} (h : y = i0 ∨ (i0 < y ∧ o.before.testBit i0 = true)) : mute i0 y o = { o with op := .mov (.val .undef), guard := none } := by unfold mute; rw [if_pos h]

inductive Turn (P : Program) (rec : St → Out) (i : Nat) (o : O) (s : DS) : AV → DS → Prop where
  | skip (hw : wantedA o s.env = false) : Turn P rec i o s .undef ⟨s.acts, s.lds, s.als, if isAlloc o.op = true then s.rid.succ else s.rid, setD s.env o.dst .undef, s.h⟩
  | still {v : AV} {h' : Hp} (hk : kindOf o.op = .still) (hw : wantedA o s.env = true) (e : evalOp P o.op s.env s.h = .val v h') :
      Turn P rec i o s v ⟨s.acts, s.lds, s.als, s.rid, setD s.env o.dst v, s.h⟩
  | load {v : AV} {h' : Hp} (hk : kindOf o.op = .load) (hw : wantedA o s.env = true) (e : evalOp P o.op s.env s.h = .val v h') (hb : lookBack P o.op s.env v o.before s.acts = true) :
      Turn P rec i o s v ⟨s.acts, ⟨i, o.op, s.env, v⟩ :: s.lds, s.als, s.rid, setD s.env o.dst v, s.h⟩
  | alloc {v : AV} {h' : Hp} {b : Blk} (hk : kindOf o.op = .alloc) (hw : wantedA o s.env = true) (e : evalOp P o.op s.env ⟨.e, s.rid, s.h.ser, s.rid.num + 1⟩ = .val v h') (hb : T.get s.rid h'.heap = some b) :
      Turn P rec i o s v ⟨s.acts, s.lds, ⟨i, s.rid, b⟩ :: s.als, s.rid.succ, setD s.env o.dst v, s.h⟩
  | actor {v : AV} {h' : Hp} (hk : kindOf o.op = .actor) (hw : wantedA o s.env = true) (e : Acts P rec o.op s.env ⟨insT o.before s.als s.h.heap, s.h.next, s.h.ser, s.h.lim⟩ v h')
      (hl : lookAgain P h' o.before s.lds = true) : Turn P rec i o s v ⟨⟨i, s.h⟩ :: s.acts, s.lds, remAl o.before s.als, s.rid, setD s.env o.dst v, h'⟩

/-- A call that panics. -/
structure PanAt (P : Program) (rec : St → Out) (o : O) (s : DS) (v : AV) (h' : Hp) : Prop where
  kind : kindOf o.op = .actor
  want : wantedA o s.env = true
  acts : ActsP P rec o.op s.env ⟨insT o.before s.als s.h.heap, s.h.next, s.h.ser, s.h.lim⟩ v h'

theorem drawnGo_one (P : Program) (rec : St → Out) (k : T AV → Hp → Out) (pk : AV → Hp → Out) (i : Nat) (s : DS) (o : O) (rest : List O) {X : Out} (hX : X = drawnGo P rec k pk i s.acts s.lds s.als s.rid s.env s.h (o :: rest)) :
    (∃ why, X = .fail why) ∨
    (∃ v s', Turn P rec i o s v s' ∧ X = drawnGo P rec k pk (i + 1) s'.acts s'.lds s'.als s'.rid s'.env s'.h rest) ∨
    ∃ v h', PanAt P rec o s v h' ∧ X = drawnRest P i s.h s.acts (pk v h') (setD s.env o.dst .undef) rest := by
  unfold drawnGo at hX
  have hsk : ∀ q, isAlloc o.op = false → wantedA o s.env = false → X = drawnGo P rec k pk (i + 1) s.acts s.lds s.als q (setD s.env o.dst .undef) s.h rest → q = s.rid → 
      (∃ why, X = .fail why) ∨ (∃ v s', Turn P rec i o s v s' ∧ X = drawnGo P rec k pk (i + 1) s'.acts s'.lds s'.als s'.rid s'.env s'.h rest) ∨
    ∃ v h', PanAt P rec o s v h' ∧ X = drawnRest P i s.h s.acts (pk v h') (setD s.env o.dst .undef) rest := by
    intro q ia hw hX e
    subst e
    have q := Turn.skip (P := P) (rec := rec) (i := i) hw
    rw [ia] at q
    exact .inr (.inl ⟨_, _, q, hX⟩)
  split at hX
  · rename_i hk
    cases hw : wantedA o s.env with
    | false =>
      rw [hw, cond_false, setDst_eq] at hX
      exact hsk _ (by unfold isAlloc; rw [hk]) hw hX rfl
    | true =>
      rw [hw, cond_true] at hX
      split at hX
      · rename_i v h' e
        rw [setDst_eq] at hX
        exact .inr (.inl ⟨_, _, .still hk hw e, hX⟩)
      · exact .inl ⟨_, hX⟩
  · rename_i hk
    cases hw : wantedA o s.env with
    | false =>
      rw [hw, cond_false, setDst_eq] at hX
      exact hsk _ (by unfold isAlloc; rw [hk]) hw hX rfl
    | true =>
      rw [hw, cond_true] at hX
      split at hX
      · rename_i v h' e
        cases hb : lookBack P o.op s.env v o.before s.acts with
        | false => rw [hb] at hX; exact .inl ⟨_, hX⟩
        | true => rw [hb, cond_true, setDst_eq] at hX; exact .inr (.inl ⟨_, _, .load hk hw e hb, hX⟩)
      · exact .inl ⟨_, hX⟩
  · rename_i hk
    cases hw : wantedA o s.env with
    | false =>
      rw [hw, cond_false, setDst_eq] at hX
      have q := Turn.skip (P := P) (rec := rec) (i := i) hw
      have ia : isAlloc o.op = true := by unfold isAlloc; rw [hk]
      rw [ia] at q
      exact .inr (.inl ⟨_, _, q, hX⟩)
    | true =>
      rw [hw, cond_true] at hX
      split at hX
      · rename_i v h' e
        split at hX
        · rename_i b hb
          rw [setDst_eq] at hX
          exact .inr (.inl ⟨_, _, .alloc hk hw e hb, hX⟩)
        · rename_i hb
          obtain ⟨b, q⟩ := alloc_shape hk e
          rw [q] at hb
          simp only at hb
          rw [T.get_set, if_pos rfl] at hb
          cases hb
      · exact .inl ⟨_, hX⟩
  · rename_i hk
    cases hw : wantedA o s.env with
    | false =>
      rw [hw, cond_false, setDst_eq] at hX
      exact hsk _ (by unfold isAlloc; rw [hk]) hw hX rfl
    | true =>
      rw [hw, cond_true, insK_eq] at hX
      rcases actK_eq P rec o.op s.env ⟨insT o.before s.als s.h.heap, s.h.next, s.h.ser, s.h.lim⟩ (fun v h' =>
          bif lookAgain P h' o.before s.lds then setDst s.env o.dst v fun env => drawnGo P rec k pk (i + 1) (⟨i, s.h⟩ :: s.acts) s.lds (remAl o.before s.als) s.rid env h' rest else .fail "drawn a look again")
          (fun v h' => setDst s.env o.dst .undef fun env => drawnRest P i s.h s.acts (pk v h') env rest) with ⟨why, q⟩ | ⟨v, h', q1, q2⟩ | ⟨v, h', q1, q2⟩
      · exact .inl ⟨why, hX.trans q⟩
      · have hX := hX.trans q2
        cases hl : lookAgain P h' o.before s.lds with
        | false => rw [hl] at hX; exact .inl ⟨_, hX⟩
        | true => rw [hl, cond_true, setDst_eq] at hX; exact .inr (.inl ⟨_, _, .actor hk hw q1 hl, hX⟩)
      · rw [setDst_eq] at q2
        exact .inr (.inr ⟨v, h', ⟨hk, hw, q1⟩, hX.trans q2⟩)

theorem drawnRest_trace (P : Program) (rec : St → Out) (i0 : Nat) (x : Out) : ∀ (rest : List O) (j : Nat) (s : DS), i0 < j →
    (∃ why, drawnRest P i0 s.h s.acts x s.env rest = .fail why) ∨
    ∃ (S : Nat → DS) (v : Nat → AV), S j = s ∧ (∀ (y : Nat) (o : O), rest[y]? = some o → Turn P rec (j + y) (mute i0 (j + y) o) (S (j + y)) (v (j + y)) (S (j + y + 1))) ∧ drawnRest P i0 s.h s.acts x s.env rest = x
  | [], j, s, _ => .inr ⟨fun _ => s, fun _ => .undef, rfl, fun y o e => by simp at e, rfl⟩
  | o :: rest, j, s, hj => by
    have go : ∀ (v : AV) (s' : DS), s'.h = s.h → s'.acts = s.acts → Turn P rec j (mute i0 j o) s v s' → drawnRest P i0 s.h s.acts x s.env (o :: rest) = drawnRest P i0 s.h s.acts x s'.env rest →
        ((∃ why, drawnRest P i0 s.h s.acts x s.env (o :: rest) = .fail why) ∨
    ∃ (S : Nat → DS) (v : Nat → AV), S j = s ∧ (∀ (y : Nat) (o' : O), (o :: rest)[y]? = some o' → Turn P rec (j + y) (mute i0 (j + y) o') (S (j + y)) (v (j + y)) (S (j + y + 1))) ∧ drawnRest P i0 s.h s.acts x s.env (o :: rest) = x) := by
      intro v s' e1 e2 ht hq
      rw [hq]
      have ih := drawnRest_trace P rec i0 x rest (j + 1) s' (by omega)
      rw [e1, e2] at ih
      rcases ih with q | ⟨S, V, r1, r2, r3⟩
      · exact .inl q
      · refine .inr ⟨fun y => if y = j then s else S y, fun y => if y = j then v else V y, by simp, fun y o' e => ?_, r3⟩
        cases y with
        | zero =>
          simp at e; subst e
          have n1 : ¬ j + 0 + 1 = j := by omega
          simp only [Nat.add_zero, if_true] at n1 ⊢
          rw [if_neg n1, r1]
          exact ht
        | succ y =>
          have := r2 y o' (by simpa using e)
          have n1 : ¬ j + (y + 1) = j := by omega
          have n2 : ¬ j + (y + 1) + 1 = j := by omega
          simp only [if_neg n1, if_neg n2]
          rw [show j + (y + 1) = j + 1 + y by omega]
          exact this
    cases hb : o.before.testBit i0 with
    | true =>
      have hm := mute_then (y := j) (o := o) (i0 := i0) (.inr ⟨hj, hb⟩)
      refine go .undef ⟨s.acts, s.lds, s.als, s.rid, setD s.env o.dst .undef, s.h⟩ rfl rfl ?_ ?_
      · rw [hm]
        exact Turn.still (o := { o with op := .mov (.val .undef), guard := none }) (h' := s.h) rfl rfl rfl
      · conv => lhs; unfold drawnRest
        rw [bit_eq, hb, cond_true, setDst_eq]
    | false =>
      have hm := mute_else (y := j) (o := o) (i0 := i0) (by rw [hb]; rintro (q | q); omega; cases q.2)
      have hun : drawnRest P i0 s.h s.acts x s.env (o :: rest) = (bif wantedA o s.env then (match kindOf o.op with
    | .still => (match evalOp P o.op s.env s.h with
      | .val v _ => setDst s.env o.dst v fun env => drawnRest P i0 s.h s.acts x env rest
      | _ => .fail "drawn still behind a panic")
    | .load => (match evalOp P o.op s.env s.h with
      | .val v _ => bif lookBack P o.op s.env v o.before s.acts then setDst s.env o.dst v fun env => drawnRest P i0 s.h s.acts x env rest else .fail "drawn a look back"
      | _ => .fail "drawn load behind a panic")
    | _ => .fail "drawn panic") else .fail "drawn guard behind a panic") := by
        conv => lhs; unfold drawnRest
        rw [bit_eq, hb, cond_false]
        rfl
      cases hw : wantedA o s.env with
      | false => rw [hw, cond_false] at hun; rw [hun]; exact .inl ⟨_, rfl⟩
      | true =>
        rw [hw, cond_true] at hun
        cases hk : kindOf o.op with
        | alloc => rw [hk] at hun; exact .inl ⟨_, hun⟩
        | actor => rw [hk] at hun; exact .inl ⟨_, hun⟩
        | still =>
          rw [hk] at hun
          simp only at hun
          cases ev : evalOp P o.op s.env s.h with
          | val v h' =>
            rw [ev] at hun
            simp only [setDst_eq] at hun
            exact go v ⟨s.acts, s.lds, s.als, s.rid, setD s.env o.dst v, s.h⟩ rfl rfl (by rw [hm]; exact .still hk hw ev) hun
          | _ => rw [ev] at hun; exact .inl ⟨_, hun⟩
        | load =>
          rw [hk] at hun
          simp only at hun
          cases ev : evalOp P o.op s.env s.h with
          | val v h' =>
            rw [ev] at hun
            simp only at hun
            cases hl : lookBack P o.op s.env v o.before s.acts with
            | false => rw [hl] at hun; exact .inl ⟨_, hun⟩
            | true =>
              rw [hl, cond_true, setDst_eq] at hun
              exact go v ⟨s.acts, ⟨j, o.op, s.env, v⟩ :: s.lds, s.als, s.rid, setD s.env o.dst v, s.h⟩ rfl rfl (by rw [hm]; exact .load hk hw ev hl) hun
          | _ => rw [ev] at hun; exact .inl ⟨_, hun⟩

/-- A run in the order of the text up to a call that panics. -/
def PanTr (P : Program) (rec : St → Out) (pk : AV → Hp → Out) (X : Out) (i : Nat) (s : DS) (rest : List O) : Prop :=
  ∃ (y0 : Nat) (o0 : O) (pv : AV) (h' : Hp) (S : Nat → DS) (v : Nat → AV), rest[y0]? = some o0 ∧ PanAt P rec o0 (S (i + y0)) pv h' ∧ S i = s ∧
    (∀ (y : Nat) (o : O), rest[y]? = some o → Turn P rec (i + y) (mute (i + y0) (i + y) o) (S (i + y)) (v (i + y)) (S (i + y + 1))) ∧ X = pk pv h'

theorem drawnGo_trace (P : Program) (rec : St → Out) (k : T AV → Hp → Out) (pk : AV → Hp → Out) : ∀ (rest : List O) (i : Nat) (s : DS),
    (∃ why, drawnGo P rec k pk i s.acts s.lds s.als s.rid s.env s.h rest = .fail why) ∨
    (∃ (S : Nat → DS) (v : Nat → AV), S i = s ∧ (∀ (y : Nat) (o : O), rest[y]? = some o → Turn P rec (i + y) o (S (i + y)) (v (i + y)) (S (i + y + 1))) ∧
      drawnGo P rec k pk i s.acts s.lds s.als s.rid s.env s.h rest = k (S (i + rest.length)).env ⟨allT (S (i + rest.length)).als (S (i + rest.length)).h.heap, (S (i + rest.length)).h.next, (S (i + rest.length)).h.ser, (S (i + rest.length)).h.lim⟩) ∨
    PanTr P rec pk (drawnGo P rec k pk i s.acts s.lds s.als s.rid s.env s.h rest) i s rest
  | [], i, s => by
    refine .inr (.inl ⟨fun _ => s, fun _ => .undef, rfl, fun y o e => by simp at e, ?_⟩)
    unfold drawnGo
    rw [insAll_eq]
  | o :: rest, i, s => by
    rcases drawnGo_one P rec k pk i s o rest rfl with q | ⟨v, s', q1, q2⟩ | ⟨pv, h', q1, q2⟩
    · exact .inl q
    · rw [q2]
      rcases drawnGo_trace P rec k pk rest (i + 1) s' with q | ⟨S, V, r1, r2, r3⟩ | ⟨y0, o0, pv, h', S, V, z1, z4, z5, z6, z7⟩
      · exact .inl q
      · refine .inr (.inl ⟨fun y => if y = i then s else S y, fun y => if y = i then v else V y, by simp, fun y o' e => ?_, ?_⟩)
        · cases y with
          | zero =>
            simp at e; subst e
            have n1 : ¬ i + 0 + 1 = i := by omega
            simp only [Nat.add_zero, if_true] at n1 ⊢
            rw [if_neg n1, r1]
            exact q1
          | succ y =>
            have := r2 y o' (by simpa using e)
            have n1 : ¬ i + (y + 1) = i := by omega
            have n2 : ¬ i + (y + 1) + 1 = i := by omega
            simp only [if_neg n1, if_neg n2]
            rw [show i + (y + 1) = i + 1 + y by omega]
            exact this
        · rw [r3]
          have n1 : ¬ i + (o :: rest).length = i := by simp
          simp only [if_neg n1]
          rw [show i + (o :: rest).length = i + 1 + rest.length by simp; omega]
      · have n0 : ¬ i + (y0 + 1) = i := by omega
        have en : i + (y0 + 1) = i + 1 + y0 := by omega
        refine .inr (.inr ⟨y0 + 1, o0, pv, h', fun y => if y = i then s else S y, fun y => if y = i then v else V y, by simpa using z1, ?_, by simp, fun y o' e => ?_, z7⟩)
        · simp only [if_neg n0]; rw [en]; exact z4
        · cases y with
          | zero =>
            simp at e; subst e
            have n1 : ¬ i + 0 + 1 = i := by omega
            simp only [Nat.add_zero, if_true] at n1 ⊢
            rw [if_neg n1, z5, mute_else (by rintro (q | q); omega; omega)]
            exact q1
          | succ y =>
            have := z6 y o' (by simpa using e)
            have n1 : ¬ i + (y + 1) = i := by omega
            have n2 : ¬ i + (y + 1) + 1 = i := by omega
            simp only [if_neg n1, if_neg n2]
            rw [show i + (y + 1) = i + 1 + y by omega, en]
            exact this
    · have hd := drawnRest_trace P rec i (pk pv h') rest (i + 1) ⟨s.acts, s.lds, s.als, s.rid, setD s.env o.dst .undef, s.h⟩ (by omega)
      simp only at hd
      rw [q2]
      rcases hd with q | ⟨S, V, r1, r2, r3⟩
      · exact .inl q
      · refine .inr (.inr ⟨0, o, pv, h', fun y => if y = i then s else S y, fun y => if y = i then .undef else V y, by simp, ?_, by simp, fun y o' e => ?_, r3⟩)
        · simp only [Nat.add_zero, if_true]; exact q1
        · cases y with
          | zero =>
            simp at e; subst e
            have n1 : ¬ i + 0 + 1 = i := by omega
            simp only [Nat.add_zero, if_true] at n1 ⊢
            rw [if_neg n1, r1, mute_then (.inl rfl)]
            exact Turn.still (o := { o with op := .mov (.val .undef), guard := none }) (h' := s.h) rfl rfl rfl
          | succ y =>
            have := r2 y o' (by simpa using e)
            have n1 : ¬ i + (y + 1) = i := by omega
            have n2 : ¬ i + (y + 1) + 1 = i := by omega
            simp only [if_neg n1, if_neg n2]
            rw [show i + (y + 1) = i + 1 + y by omega, Nat.add_zero]
            exact this
end Go.Proofs.YtialpccieggaoaaGreatDoor.Am

namespace Go.Proofs.YtialpccieggaoaaGreatDoor.Am

/-- A run in the order of the text: S y is the state ahead of the operation y, v y what the operation gives. -/
structure Tr (P : Program) (rec : St → Out) (L : List O) (S : Nat → DS) (v : Nat → AV) : Prop where
  ok : OkL L
  turn : ∀ (y : Nat) (o : O), L[y]? = some o → Turn P rec y o (S y) (v y) (S (y + 1))
  acts0 : (S 0).acts = []
  lds0 : (S 0).lds = []
  als0 : (S 0).als = []

/-- The operation y, which is wanted, and of the kind. -/
def IsK (L : List O) (S : Nat → DS) (kd : DK) (y : Nat) (o : O) : Prop := L[y]? = some o ∧ kindOf o.op = kd ∧ wantedA o (S y).env = true

/-- The slots behind the operations of D. -/
def EnvAt (L : List O) (v : Nat → AV) (env0 : T AV) (D : Nat → Prop) (env : T AV) : Prop :=
  (∀ (j : Nat) (o : O) (p : Pos), D j → L[j]? = some o → o.dst = some p → ev env (.tmp p) = v j) ∧
  (∀ p, (∀ (j : Nat) (o : O), D j → L[j]? = some o → o.dst ≠ some p) → ev env (.tmp p) = ev env0 (.tmp p))

def IsAl (P : Program) (L : List O) (S : Nat → DS) (v : Nat → AV) (i : Nat) (id : Pos) (b : Blk) : Prop :=
  ∃ (o : O) (h' : Hp), IsK L S .alloc i o ∧ id = (S i).rid ∧ evalOp P o.op (S i).env ⟨.e, id, (S i).h.ser, id.num + 1⟩ = .val (v i) h' ∧ T.get id h'.heap = some b

section
variable {P : Program} {rec : St → Out} {L : List O} {S : Nat → DS} {v : Nat → AV} {env0 : T AV}

theorem EnvAt.step (ok : OkL L) {D : Nat → Prop} {env : T AV} (h : EnvAt L v env0 D env) {i : Nat} {o : O} (e : L[i]? = some o) {D' : Nat → Prop} (hD : ∀ j, D' j ↔ D j ∨ j = i) : EnvAt L v env0 D' (setD env o.dst (v i)) := by
  obtain ⟨h1, h2⟩ := h
  cases hd : o.dst with
  | none =>
    refine ⟨fun j oj p hj ej dj => ?_, fun p hp => h2 p fun j oj hj => hp j oj ((hD j).2 (.inl hj))⟩
    rcases (hD j).1 hj with q | q
    · exact h1 j oj p q ej dj
    · subst q; rw [e] at ej; cases ej; rw [hd] at dj; cases dj
  | some d =>
    simp only [setD]
    refine ⟨fun j oj p hj ej dj => ?_, fun p hp => ?_⟩
    · rw [ev_set]
      by_cases c : p = d
      · subst c
        rw [if_pos rfl, ok.dst i j o oj p e ej hd dj]
      · rw [if_neg c]
        rcases (hD j).1 hj with q | q
        · exact h1 j oj p q ej dj
        · subst q; rw [e] at ej; cases ej; rw [hd] at dj; cases dj; exact absurd rfl c
    · rw [ev_set, if_neg fun c => hp i o ((hD i).2 (.inr rfl)) e (by rw [c]; exact hd)]
      exact h2 p fun j oj hj => hp j oj ((hD j).2 (.inl hj))

theorem EnvAt.same (ok : OkL L) {D D' : Nat → Prop} {env env' : T AV} (h : EnvAt L v env0 D env) (h' : EnvAt L v env0 D' env') {i : Nat} {o : O} (e : L[i]? = some o)
    (hb : ∀ k, o.before.testBit k = true → D k ∧ D' k) (ha : ∀ (k : Nat) (ok : O), L[k]? = some ok → ok.before.testBit i = true → ¬ D k ∧ ¬ D' k) : Same (looks o) env env' := by
  intro p hp
  by_cases c : ∃ (j : Nat) (oj : O), L[j]? = some oj ∧ oj.dst = some p
  · obtain ⟨j, oj, ej, dj⟩ := c
    rcases ok.look i j o oj p e ej dj hp with q | q
    · have q := hb j q
      rw [h.1 j oj p q.1 ej dj, h'.1 j oj p q.2 ej dj]
    · have q := ha j oj ej q
      have only : ∀ (D : Nat → Prop), ¬ D j → ∀ (k : Nat) (ok : O), D k → L[k]? = some ok → ok.dst ≠ some p := fun D nd k ok' dk ek dk' => by
        have := ok.dst k j ok' oj p ek ej dk' dj
        subst this
        exact nd dk
      rw [h.2 p (only D q.1), h'.2 p (only D' q.2)]
  · have c' : ∀ (D : Nat → Prop) (j : Nat) (o : O), D j → L[j]? = some o → o.dst ≠ some p := fun D j oj _ ej dj => c ⟨j, oj, ej, dj⟩
    rw [h.2 p (c' D), h'.2 p (c' D')]

theorem Turn.of_still {i : Nat} {o : O} {s s' : DS} {x : AV} (q : Turn P rec i o s x s') (hk : kindOf o.op = .still) (hw : wantedA o s.env = true) :
    ∃ h', evalOp P o.op s.env s.h = .val x h' := by
  cases q <;> simp_all

theorem Turn.of_load {i : Nat} {o : O} {s s' : DS} {x : AV} (q : Turn P rec i o s x s') (hk : kindOf o.op = .load) (hw : wantedA o s.env = true) :
    (∃ h', evalOp P o.op s.env s.h = .val x h') ∧ lookBack P o.op s.env x o.before s.acts = true ∧ s'.lds = ⟨i, o.op, s.env, x⟩ :: s.lds := by
  cases q <;> simp_all

theorem Turn.of_alloc {i : Nat} {o : O} {s s' : DS} {x : AV} (q : Turn P rec i o s x s') (hk : kindOf o.op = .alloc) (hw : wantedA o s.env = true) :
    ∃ h' b, evalOp P o.op s.env ⟨.e, s.rid, s.h.ser, s.rid.num + 1⟩ = .val x h' ∧ T.get s.rid h'.heap = some b ∧ s'.als = ⟨i, s.rid, b⟩ :: s.als := by
  cases q <;> simp_all

theorem Turn.of_actor {i : Nat} {o : O} {s s' : DS} {x : AV} (q : Turn P rec i o s x s') (hk : kindOf o.op = .actor) (hw : wantedA o s.env = true) :
    Acts P rec o.op s.env ⟨insT o.before s.als s.h.heap, s.h.next, s.h.ser, s.h.lim⟩ x s'.h ∧ lookAgain P s'.h o.before s.lds = true ∧ s'.als = remAl o.before s.als ∧ s'.acts = ⟨i, s.h⟩ :: s.acts := by
  cases q <;> simp_all

/-- What one operation does to the state. -/
theorem Tr.env1 (t : Tr P rec L S v) {y : Nat} {o : O} (e : L[y]? = some o) : (S (y + 1)).env = setD (S y).env o.dst (v y) := by
  have q := t.turn y o e
  generalize S (y + 1) = s' at q ⊢
  generalize v y = vy at q ⊢
  cases q <;> rfl

theorem Tr.hstay (t : Tr P rec L S v) {y : Nat} {o : O} (e : L[y]? = some o) (na : ∀ o', ¬ IsK L S .actor y o') : (S (y + 1)).h = (S y).h := by
  have q := t.turn y o e
  generalize S (y + 1) = s' at q ⊢
  generalize v y = vy at q ⊢
  cases q <;> first | rfl | skip
  rename_i hk hw _ _
  exact absurd ⟨e, hk, hw⟩ (na o)

theorem Tr.ex (t : Tr P rec L S v) {y : Nat} (h : y < L.length) : ∃ o, L[y]? = some o := ⟨_, List.getElem?_eq_getElem h⟩

theorem Tr.hstays (t : Tr P rec L S v) {x : Nat} : ∀ (z : Nat), x ≤ z → z ≤ L.length → (∀ y, x ≤ y → y < z → ∀ o', ¬ IsK L S .actor y o') → (S z).h = (S x).h := by
  intro z
  induction z with
  | zero => intro h _ _; rw [show x = 0 by omega]
  | succ z ih =>
    intro h1 h2 h3
    by_cases c : x = z + 1
    · rw [c]
    · obtain ⟨o, e⟩ := t.ex (show z < L.length by omega)
      rw [t.hstay e (h3 z (by omega) (by omega))]
      exact ih (by omega) (by omega) fun y a b => h3 y a (by omega)

theorem Tr.env (t : Tr P rec L S v) : ∀ y, y ≤ L.length → EnvAt L v (S 0).env (· < y) (S y).env := by
  intro y
  induction y with
  | zero => exact fun _ => ⟨fun j o p hj _ _ => absurd hj (by omega), fun p _ => rfl⟩
  | succ y ih =>
    intro h
    obtain ⟨o, e⟩ := t.ex (show y < L.length by omega)
    rw [t.env1 e]
    exact (ih (by omega)).step t.ok e fun j => by omega

theorem Tr.rid1 (t : Tr P rec L S v) {y : Nat} {o : O} (e : L[y]? = some o) : (S (y + 1)).rid = if isAlloc o.op = true then (S y).rid.succ else (S y).rid := by
  have q := t.turn y o e
  generalize S (y + 1) = s' at q ⊢
  generalize v y = vy at q ⊢
  cases q <;> first | rfl | (rename_i hk _ _ _; simp [isAlloc, hk]) | (rename_i hk _ _; simp [isAlloc, hk])

theorem Tr.rid_mono (t : Tr P rec L S v) {x : Nat} : ∀ (z : Nat), x ≤ z → z ≤ L.length → (S x).rid.num ≤ (S z).rid.num := by
  intro z
  induction z with
  | zero => intro h _; rw [show x = 0 by omega]; exact Nat.le_refl _
  | succ z ih =>
    intro h1 h2
    by_cases c : x = z + 1
    · rw [c]; exact Nat.le_refl _
    · obtain ⟨o, e⟩ := t.ex (show z < L.length by omega)
      refine Nat.le_trans (ih (by omega) (by omega)) ?_
      rw [t.rid1 e]
      split
      · rw [Pos.num_succ]; omega
      · exact Nat.le_refl _

theorem Tr.rid_lt (t : Tr P rec L S v) {i : Nat} {o : O} (e : L[i]? = some o) (ha : isAlloc o.op = true) {z : Nat} (h : i < z) (hz : z ≤ L.length) : (S i).rid.num < (S z).rid.num := by
  have := t.rid_mono (x := i + 1) z (by omega) hz
  rw [t.rid1 e, if_pos ha, Pos.num_succ] at this
  omega

theorem Tr.rid_end (t : Tr P rec L S v) : ∀ (y : Nat), y ≤ L.length → skipIds (L.drop y) (S y).rid = skipIds L (S 0).rid := by
  intro y
  induction y with
  | zero => intro _; rfl
  | succ y ih =>
    intro h
    rw [← ih (by omega)]
    obtain ⟨o, e⟩ := t.ex (show y < L.length by omega)
    have hd : L.drop y = o :: L.drop (y + 1) := by
      rw [List.drop_eq_getElem_cons (by omega)]
      rw [List.getElem?_eq_getElem (by omega)] at e
      cases e; rfl
    rw [hd, t.rid1 e, show skipIds (o :: L.drop (y + 1)) (S y).rid = bif isAlloc o.op then skipIds (L.drop (y + 1)) (S y).rid.succ else skipIds (L.drop (y + 1)) (S y).rid from rfl]
    cases isAlloc o.op with
    | true => rw [cond_true, if_pos rfl]
    | false => rw [cond_false, if_neg (by decide)]

theorem Tr.rid_last (t : Tr P rec L S v) : (S L.length).rid = skipIds L (S 0).rid := by
  have := t.rid_end L.length (Nat.le_refl _)
  rw [List.drop_length] at this
  exact this

theorem Tr.acts (t : Tr P rec L S v) {i : Nat} {o : O} (hi : IsK L S .actor i o) : ∀ (y : Nat), i < y → y ≤ L.length → (⟨i, (S i).h⟩ : Actor) ∈ (S y).acts := by
  intro y
  induction y with
  | zero => intro h; omega
  | succ y ih =>
    intro h1 h2
    obtain ⟨o', e⟩ := t.ex (show y < L.length by omega)
    by_cases c : i = y
    · subst c
      have q := t.turn i o hi.1
      have r := q.of_actor hi.2.1 hi.2.2
      rw [r.2.2.2]
      simp
    · have m := ih (by omega) (by omega)
      have q := t.turn y o' e
      generalize S (y + 1) = s' at q ⊢
      generalize v y = vy at q ⊢
      cases q <;> first | exact m | exact List.mem_cons_of_mem _ m

theorem Tr.lds (t : Tr P rec L S v) {i : Nat} {o : O} (hi : IsK L S .load i o) : ∀ (y : Nat), i < y → y ≤ L.length → (⟨i, o.op, (S i).env, v i⟩ : Ld) ∈ (S y).lds := by
  intro y
  induction y with
  | zero => intro h; omega
  | succ y ih =>
    intro h1 h2
    obtain ⟨o', e⟩ := t.ex (show y < L.length by omega)
    by_cases c : i = y
    · subst c
      have q := t.turn i o hi.1
      have r := q.of_load hi.2.1 hi.2.2
      rw [r.2.2]
      simp
    · have m := ih (by omega) (by omega)
      have q := t.turn y o' e
      generalize S (y + 1) = s' at q ⊢
      generalize v y = vy at q ⊢
      cases q <;> first | exact m | exact List.mem_cons_of_mem _ m

theorem remAl_mem {m : Nat} {a : Al} : ∀ {l : List Al}, a ∈ remAl m l ↔ a ∈ l ∧ m.testBit a.i = false
  | [] => by simp [remAl]
  | x :: l => by
    unfold remAl
    rw [bit_eq]
    cases hb : m.testBit x.i with
    | true =>
      rw [cond_true, remAl_mem, List.mem_cons]
      refine ⟨fun h => ⟨.inr h.1, h.2⟩, fun h => ⟨h.1.resolve_left fun e => ?_, h.2⟩⟩
      subst e; rw [hb] at h; exact absurd h.2 (by decide)
    | false =>
      rw [cond_false, List.mem_cons, List.mem_cons, remAl_mem]
      refine ⟨fun h => ?_, fun h => ?_⟩
      · rcases h with e | h
        · subst e; exact ⟨.inl rfl, hb⟩
        · exact ⟨.inr h.1, h.2⟩
      · rcases h.1 with e | h'
        · exact .inl e
        · exact .inr ⟨h', h.2⟩

theorem IsAl.inj {i : Nat} {id id' : Pos} {b b' : Blk} (h : IsAl P L S v i id b) (h' : IsAl P L S v i id' b') : id = id' ∧ b = b' := by
  obtain ⟨o, h1, k, e, q, g⟩ := h
  obtain ⟨o', h1', k', e', q', g'⟩ := h'
  have e1 := k.1; rw [k'.1] at e1; cases e1
  subst e; subst e'
  rw [q] at q'; cases q'
  rw [g] at g'; cases g'
  exact ⟨rfl, rfl⟩

theorem isAlloc_of {o : AOp} (h : kindOf o = .alloc) : isAlloc o = true := by unfold isAlloc; rw [h]

theorem IsAl.lt (t : Tr P rec L S v) {i j : Nat} {id id' : Pos} {b b' : Blk} (h : IsAl P L S v i id b) (h' : IsAl P L S v j id' b') (hij : i < j) : id.num < id'.num := by
  obtain ⟨o, h1, k, e, q, g⟩ := h
  obtain ⟨o', h1', k', e', q', g'⟩ := h'
  subst e; subst e'
  exact t.rid_lt k.1 (isAlloc_of k.2.1) hij (Nat.le_of_lt (List.getElem?_eq_some_iff.1 k'.1).1)

/-- One id is one new block's. -/
theorem IsAl.same (t : Tr P rec L S v) {i j : Nat} {id : Pos} {b b' : Blk} (h : IsAl P L S v i id b) (h' : IsAl P L S v j id b') : i = j ∧ b = b' := by
  by_cases c : i < j
  · have := IsAl.lt t h h' c; omega
  · by_cases c' : j < i
    · have := IsAl.lt t h' h c'; omega
    · have : i = j := by omega
      subst this
      exact ⟨rfl, (IsAl.inj h h').2⟩

theorem IsAl.range (t : Tr P rec L S v) {i : Nat} {id : Pos} {b : Blk} (h : IsAl P L S v i id b) : (S 0).rid.num ≤ id.num ∧ id.num < (S L.length).rid.num := by
  obtain ⟨o, h1, k, e, q, g⟩ := h
  have hl := (List.getElem?_eq_some_iff.1 k.1).1
  subst e
  exact ⟨t.rid_mono i (by omega) (by omega), t.rid_lt k.1 (isAlloc_of k.2.1) hl (Nat.le_refl _)⟩

theorem Tr.als (t : Tr P rec L S v) : ∀ (y : Nat), y ≤ L.length → ∀ a : Al, a ∈ (S y).als ↔ a.i < y ∧ IsAl P L S v a.i a.id a.b ∧ ∀ (j : Nat) (oj : O), j < y → IsK L S .actor j oj → oj.before.testBit a.i = false := by
  intro y
  induction y with
  | zero => intro _ a; rw [t.als0]; simp
  | succ y ih =>
    intro h a
    obtain ⟨o, e⟩ := t.ex (show y < L.length by omega)
    have q := t.turn y o e
    have ih := ih (by omega) a
    have plain : (S (y + 1)).als = (S y).als → (∀ id b, ¬ IsAl P L S v y id b) → (∀ oj, ¬ IsK L S .actor y oj) → (a ∈ (S (y + 1)).als ↔ a.i < y + 1 ∧ IsAl P L S v a.i a.id a.b ∧ ∀ (j : Nat) (oj : O), j < y + 1 → IsK L S .actor j oj → oj.before.testBit a.i = false) := by
      intro e1 na nk
      rw [e1, ih]
      refine ⟨fun ⟨h1, h2, h3⟩ => ⟨by omega, h2, fun j oj hj k => ?_⟩, fun ⟨h1, h2, h3⟩ => ⟨?_, h2, fun j oj hj k => h3 j oj (by omega) k⟩⟩
      · by_cases c : j = y
        · subst c; exact absurd k (nk oj)
        · exact h3 j oj (by omega) k
      · by_cases c : a.i = y
        · rw [c] at h2; exact absurd h2 (na _ _)
        · omega
    cases hw : wantedA o (S y).env with
    | false =>
      refine plain ?_ (fun id b hA => ?_) fun oj hK => ?_
      · generalize S (y + 1) = s' at q ⊢
        generalize v y = vy at q ⊢
        cases q <;> simp_all
      · obtain ⟨o', _, k, _⟩ := hA
        have := k.1; rw [e] at this; cases this
        rw [k.2.2] at hw; cases hw
      · have := hK.1; rw [e] at this; cases this
        rw [hK.2.2] at hw; cases hw
    | true =>
      have hk : ∀ kd, kindOf o.op = kd → kd ≠ .alloc → kd ≠ .actor → (S (y + 1)).als = (S y).als → (a ∈ (S (y + 1)).als ↔ a.i < y + 1 ∧ IsAl P L S v a.i a.id a.b ∧ ∀ (j : Nat) (oj : O), j < y + 1 → IsK L S .actor j oj → oj.before.testBit a.i = false) := by
        intro kd hk n1 n2 e1
        refine plain e1 (fun id b hA => ?_) fun oj hK => ?_
        · obtain ⟨o', _, k, _⟩ := hA
          have := k.1; rw [e] at this; cases this
          exact n1 (hk.symm.trans k.2.1)
        · have := hK.1; rw [e] at this; cases this
          exact n2 (hk.symm.trans hK.2.1)
      cases hkd : kindOf o.op with
      | still =>
        refine hk .still hkd (fun h => by cases h) (fun h => by cases h) ?_
        generalize S (y + 1) = s' at q ⊢
        generalize v y = vy at q ⊢
        cases q <;> simp_all
      | load =>
        refine hk .load hkd (fun h => by cases h) (fun h => by cases h) ?_
        generalize S (y + 1) = s' at q ⊢
        generalize v y = vy at q ⊢
        cases q <;> simp_all
      | alloc =>
        obtain ⟨h', b, e1, e2, e3⟩ := q.of_alloc hkd hw
        have hA : IsAl P L S v y (S y).rid b := ⟨o, h', ⟨e, hkd, hw⟩, rfl, e1, e2⟩
        rw [e3, List.mem_cons, ih]
        have nk : ∀ oj, ¬ IsK L S .actor y oj := fun oj hK => by
          have := hK.1; rw [e] at this; cases this
          have := hK.2.1; rw [hkd] at this; cases this
        constructor
        · rintro (e4 | ⟨h1, h2, h3⟩)
          · subst e4
            refine ⟨by simp, hA, fun j oj hj k => ?_⟩
            simp only
            cases hb : oj.before.testBit y with
            | false => rfl
            | true =>
              have := t.ok.less k.1 hb
              exact absurd this (by omega)
          · refine ⟨by omega, h2, fun j oj hj k => ?_⟩
            by_cases c : j = y
            · subst c; exact absurd k (nk oj)
            · exact h3 j oj (by omega) k
        · intro ⟨h1, h2, h3⟩
          by_cases c : a.i = y
          · left
            obtain ⟨i, id, b'⟩ := a
            simp only at c h2
            subst c
            obtain ⟨q1, q2⟩ := IsAl.inj h2 hA
            rw [q1, q2]
          · exact .inr ⟨by omega, h2, fun j oj hj k => h3 j oj (by omega) k⟩
      | actor =>
        obtain ⟨_, _, e3, _⟩ := q.of_actor hkd hw
        have hK : IsK L S .actor y o := ⟨e, hkd, hw⟩
        rw [e3, remAl_mem, ih]
        constructor
        · intro ⟨⟨h1, h2, h3⟩, h4⟩
          refine ⟨by omega, h2, fun j oj hj k => ?_⟩
          by_cases c : j = y
          · subst c
            have := k.1; rw [e] at this; cases this
            exact h4
          · exact h3 j oj (by omega) k
        · intro ⟨h1, h2, h3⟩
          refine ⟨⟨?_, h2, fun j oj hj k => h3 j oj (by omega) k⟩, h3 y o (by omega) hK⟩
          by_cases c : a.i = y
          · rw [c] at h2
            obtain ⟨o', _, k, _⟩ := h2
            have := k.1; rw [e] at this; cases this
            have := k.2.1; rw [hkd] at this; cases this
          · omega

theorem lookBack_get {op : AOp} {env : T AV} {x : AV} {m : Nat} : ∀ {l : List Actor}, lookBack P op env x m l = true → ∀ a ∈ l, m.testBit a.i = true ∨ ∃ h', evalOp P op env a.h = .val x h'
  | [], _, a, ha => by simp at ha
  | c :: l, h, a, ha => by
    unfold lookBack at h
    rw [bit_eq] at h
    simp only [Bool.or_eq_true, Bool.and_eq_true] at h
    rcases List.mem_cons.1 ha with e | ha
    · subst e
      rcases h.1 with h | h
      · exact .inl h
      · right
        split at h
        · rename_i u h' e
          rw [eqAV_sound _ h]
          exact ⟨h', e⟩
        · cases h
    · exact lookBack_get h.2 a ha

theorem lookAgain_get {h0 : Hp} {m : Nat} : ∀ {l : List Ld}, lookAgain P h0 m l = true → ∀ d ∈ l, m.testBit d.i = true ∨ ∃ h', evalOp P d.op d.env h0 = .val d.v h'
  | [], _, a, ha => by simp at ha
  | c :: l, h, a, ha => by
    unfold lookAgain at h
    rw [bit_eq] at h
    simp only [Bool.or_eq_true, Bool.and_eq_true] at h
    rcases List.mem_cons.1 ha with e | ha
    · subst e
      rcases h.1 with h | h
      · exact .inl h
      · right
        split at h
        · rename_i u h' e
          rw [eqAV_sound _ h]
          exact ⟨h', e⟩
        · cases h
    · exact lookAgain_get h.2 a ha

/-- A look gives the same wherever it may stand. -/
theorem Tr.window (t : Tr P rec L S v) {i : Nat} {o : O} (hi : IsK L S .load i o) (y : Nat) (hy : y ≤ L.length) (h1 : ∀ (j : Nat) (oj : O), IsK L S .actor j oj → o.before.testBit j = true → j < y)
    (h2 : ∀ (j : Nat) (oj : O), IsK L S .actor j oj → j < y → oj.before.testBit i = false) : ∃ h', evalOp P o.op (S i).env (S y).h = .val (v i) h' := by
  have hl := (List.getElem?_eq_some_iff.1 hi.1).1
  have q := (t.turn i o hi.1).of_load hi.2.1 hi.2.2
  have down : ∀ (d y : Nat), y + d = i → (∀ (j : Nat) (oj : O), IsK L S .actor j oj → o.before.testBit j = true → j < y) → ∃ h', evalOp P o.op (S i).env (S y).h = .val (v i) h' := by
    intro d
    induction d with
    | zero => intro y e _; rw [show y = i by omega]; exact q.1
    | succ d ih =>
      intro y e h1
      by_cases c : ∃ oj, IsK L S .actor y oj
      · obtain ⟨oj, c⟩ := c
        rcases lookBack_get q.2.1 _ (t.acts c i (by omega) (by omega)) with k | k
        · have := h1 y oj c k
          omega
        · exact k
      · obtain ⟨oy, ey⟩ := t.ex (show y < L.length by omega)
        rw [← t.hstay ey fun o' k => c ⟨o', k⟩]
        exact ih (y + 1) (by omega) fun j oj k b => by have := h1 j oj k b; omega
  by_cases c : y ≤ i
  · exact down (i - y) y (by omega) h1
  · have up : ∀ (d : Nat), i + 1 + d ≤ L.length → (∀ (j : Nat) (oj : O), IsK L S .actor j oj → j < i + 1 + d → oj.before.testBit i = false) → ∃ h', evalOp P o.op (S i).env (S (i + 1 + d)).h = .val (v i) h' := by
      intro d
      induction d with
      | zero =>
        intro _ _
        rw [Nat.add_zero, t.hstay hi.1 fun o' k => ?_]
        · exact q.1
        · have := k.1; rw [hi.1] at this; cases this
          have := k.2.1; rw [hi.2.1] at this; cases this
      | succ d ih =>
        intro hd h2
        obtain ⟨oy, ey⟩ := t.ex (show i + 1 + d < L.length by omega)
        by_cases c : ∃ oj, IsK L S .actor (i + 1 + d) oj
        · obtain ⟨oj, c⟩ := c
          have r := (t.turn _ oj c.1).of_actor c.2.1 c.2.2
          rcases lookAgain_get r.2.1 _ (t.lds hi (i + 1 + d) (by omega) (by omega)) with k | k
          · have := h2 _ oj c (by omega)
            simp only at k
            rw [this] at k; cases k
          · exact k
        · rw [show i + 1 + (d + 1) = i + 1 + d + 1 by omega, t.hstay ey fun o' k => c ⟨o', k⟩]
          exact ih (by omega) fun j oj k hj => h2 j oj k (by omega)
    have := up (y - (i + 1)) (by omega) (by rw [show i + 1 + (y - (i + 1)) = y by omega]; exact h2)
    rw [show i + 1 + (y - (i + 1)) = y by omega] at this
    exact this
end
end Go.Proofs.YtialpccieggaoaaGreatDoor.Am

namespace Go.Proofs.YtialpccieggaoaaGreatDoor.Am

section
variable {P : Program} {rec : St → Out} {L : List O} {S : Nat → DS} {v : Nat → AV}

/-- New blocks that were made and are not yet in the heap of the actors. -/
def Pend (P : Program) (L : List O) (S : Nat → DS) (v : Nat → AV) (D : List Nat) (x : Nat) (id : Pos) (b : Blk) : Prop :=
  ∃ i, i ∈ D ∧ IsAl P L S v i id b ∧ ∀ (j : Nat) (oj : O), j < x → IsK L S .actor j oj → oj.before.testBit i = false

open Classical in
noncomputable def putF (Q : Pos → Blk → Prop) (t : T Blk) (id : Pos) : Option Blk := if h : ∃ b, Q id b then some (Classical.choose h) else T.get id t

/-- The heap when the operations of D are done, the actors ahead of x among them. -/
noncomputable def FD (P : Program) (L : List O) (S : Nat → DS) (v : Nat → AV) (D : List Nat) (x : Nat) : Pos → Option Blk := putF (Pend P L S v D x) (S x).h.heap

theorem Pend.inj (t : Tr P rec L S v) {D : List Nat} {x : Nat} {id : Pos} {b b' : Blk} (h : Pend P L S v D x id b) (h' : Pend P L S v D x id b') : b = b' := by
  obtain ⟨i, _, h, _⟩ := h
  obtain ⟨j, _, h', _⟩ := h'
  exact (IsAl.same t h h').2

theorem FD_pend (t : Tr P rec L S v) {D : List Nat} {x : Nat} {id : Pos} {b : Blk} (h : Pend P L S v D x id b) : FD P L S v D x id = some b := by
  unfold FD putF
  have hex : ∃ b, Pend P L S v D x id b := ⟨b, h⟩
  rw [dif_pos hex, Pend.inj t (Classical.choose_spec hex) h]

theorem FD_else {D : List Nat} {x : Nat} {id : Pos} (h : ∀ b, ¬ Pend P L S v D x id b) : FD P L S v D x id = T.get id (S x).h.heap := by
  unfold FD putF
  rw [dif_neg fun ⟨b, q⟩ => h b q]

theorem FD_same {D D' : List Nat} {x x' : Nat} (h : ∀ id b, Pend P L S v D x id b ↔ Pend P L S v D' x' id b) (e : (S x').h.heap = (S x).h.heap) : FD P L S v D' x' = FD P L S v D x := by
  unfold FD
  have : Pend P L S v D x = Pend P L S v D' x' := by funext id b; exact propext (h id b)
  rw [this, e]

structure Inv (P : Program) (L : List O) (S : Nat → DS) (v : Nat → AV) (h0 : Hp) (w0 : World) (φ0 : Phi) (env0 : T AV) (D : List Nat) (x : Nat) (φ : Phi) (w : World) (env : T AV) : Prop where
  hx : x ≤ L.length
  acts : ∀ (i : Nat) (o : O), IsK L S .actor i o → (i ∈ D ↔ i < x)
  down : ∀ j ∈ D, ∀ (c : O) (k : Nat), L[j]? = some c → c.before.testBit k = true → k ∈ D
  heap : HRF P φ (FD P L S v D x) (S x).h.next.num 0 w
  adv : AdvF h0 w0 φ0 (FD P L S v D x) (S x).h.next.num w φ
  room : (S L.length).rid.num ≤ (S x).h.next.num
  lim : (S x).h.lim = 0
  free : ∀ i id b, IsAl P L S v i id b → (∀ (j : Nat) (oj : O), j < x → IsK L S .actor j oj → oj.before.testBit i = false) → T.get id (S x).h.heap = none
  later : ∀ i id b, IsAl P L S v i id b → i ∉ D → ∀ g, φ id g = none
  env : EnvAt L v env0 (· ∈ D) env

variable {h0 : Hp} {w0 : World} {φ0 : Phi} {env0 : T AV} {D : List Nat} {x : Nat} {φ : Phi} {w : World} {env : T AV}

theorem Inv.sub (I : Inv P L S v h0 w0 φ0 env0 D x φ w env) : ∀ id b, T.get id (S x).h.heap = some b → FD P L S v D x id = some b := by
  intro id b e
  rw [FD_else]
  · exact e
  · intro b' ⟨i, _, hA, hj⟩
    rw [I.free i id b' hA hj] at e
    cases e

/-- A new block that was not made is in no actor's heap. -/
theorem Inv.notyet (I : Inv P L S v h0 w0 φ0 env0 D x φ w env) {i : Nat} (hi : i ∉ D) : ∀ (j : Nat) (oj : O), j < x → IsK L S .actor j oj → oj.before.testBit i = false := by
  intro j oj hj k
  cases hb : oj.before.testBit i with
  | false => rfl
  | true => exact absurd (I.down j ((I.acts j oj k).2 hj) oj i k.1 hb) hi

theorem Inv.move (t : Tr P rec L S v) (I : Inv P L S v h0 w0 φ0 env0 D x φ w env) {x' : Nat} (hx' : x' ≤ L.length) (ha : ∀ (i : Nat) (o : O), IsK L S .actor i o → (i ∈ D ↔ i < x')) :
    Inv P L S v h0 w0 φ0 env0 D x' φ w env := by
  have hlt : ∀ (i : Nat) (o : O), IsK L S .actor i o → (i < x ↔ i < x') := fun i o k => (I.acts i o k).symm.trans (ha i o k)
  have hh : (S x').h = (S x).h := by
    by_cases c : x ≤ x'
    · exact t.hstays x' c hx' fun y a b o' k => by have := hlt y o' k; omega
    · exact (t.hstays x (by omega) I.hx fun y a b o' k => by have := hlt y o' k; omega).symm
  have hF : FD P L S v D x' = FD P L S v D x := FD_same (fun id b => by
    refine ⟨fun ⟨i, q1, q2, q3⟩ => ⟨i, q1, q2, fun j oj hj k => q3 j oj ((hlt j oj k).2 hj) k⟩, fun ⟨i, q1, q2, q3⟩ => ⟨i, q1, q2, fun j oj hj k => q3 j oj ((hlt j oj k).1 hj) k⟩⟩) (by rw [hh])
  refine ⟨hx', ha, I.down, ?_, ?_, ?_, ?_, fun i id b hA hj => ?_, I.later, I.env⟩
  · rw [hF, hh]; exact I.heap
  · rw [hF, hh]; exact I.adv
  · rw [hh]; exact I.room
  · rw [hh]; exact I.lim
  · rw [hh]; exact I.free i id b hA fun j oj hj' k => hj j oj ((hlt j oj k).1 hj') k

theorem Inv.grow (t : Tr P rec L S v) (h0u : ∀ id g r, φ0 id g = some r → id.num < h0.next.num) (I : Inv P L S v h0 w0 φ0 env0 D x φ w env) {i : Nat} {c : O} (e : L[i]? = some c) (hb : ∀ k, c.before.testBit k = true → k ∈ D)
    {x' : Nat} (hx' : x' ≤ L.length) (ha : ∀ (j : Nat) (o : O), IsK L S .actor j o → (j ∈ i :: D ↔ j < x')) {V V' : Hp} {φ' : Phi} {w' : World} (hR' : HR P φ' V' w') (a : Adv V w φ V' w' φ')
    (sub : ∀ id b, T.get id V.heap = some b → FD P L S v D x id = some b) (n1 : h0.next.num ≤ V.next.num) (n2 : V'.next.num ≤ (S x').h.next.num) (n3 : (S x).h.next.num ≤ (S x').h.next.num)
    (fresh : ∀ id, V.next.num ≤ id.num → id.num < V'.next.num → FD P L S v D x id = none)
    (spec : ∀ id b, FD P L S v (i :: D) x' id = some b → T.get id V'.heap = some b ∨ (T.get id V.heap = none ∧ FD P L S v D x id = some b)) (lim : (S x').h.lim = 0)
    (free : ∀ i id b, IsAl P L S v i id b → (∀ (j : Nat) (oj : O), j < x' → IsK L S .actor j oj → oj.before.testBit i = false) → T.get id (S x').h.heap = none)
    (was : ∀ i' id b, IsAl P L S v i' id b → i' ≠ i → i' ∉ D → Was V V' id ∧ T.get id V.heap = none) : Inv P L S v h0 w0 φ0 env0 (i :: D) x' φ' w' (setD env c.dst (v i)) := by
  obtain ⟨m1, m2⟩ := merge (nx' := (S x').h.next.num) I.heap I.adv h0u hR' a sub n1 n2 n3 fresh spec
  refine ⟨hx', ha, fun j hj c' k ej hk => ?_, m1, m2, Nat.le_trans I.room n3, lim, free, fun i' id b hA hi' g => ?_, I.env.step t.ok e fun j => by rw [List.mem_cons, or_comm]⟩
  · rcases List.mem_cons.1 hj with q | q
    · subst q; rw [e] at ej; cases ej
      exact List.mem_cons_of_mem _ (hb k hk)
    · exact List.mem_cons_of_mem _ (I.down j q c' k ej hk)
  · rw [List.mem_cons, not_or] at hi'
    obtain ⟨q1, q2⟩ := was i' id b hA hi'.1 hi'.2
    cases hg : φ' id g with
    | none => rfl
    | some r =>
      have := a.same id g r q1 (fun ⟨b', q, _⟩ => by rw [q2] at q; cases q) hg
      rw [I.later i' id b hA hi'.2] at this
      cases this

/-- An operation that makes no block and is no actor. -/
theorem Inv.calm (t : Tr P rec L S v) (h0n : h0.next.num ≤ (S 0).rid.num) (h0u : ∀ id g r, φ0 id g = some r → id.num < h0.next.num) (I : Inv P L S v h0 w0 φ0 env0 D x φ w env) {i : Nat} {c : O} (e : L[i]? = some c)
    (hb : ∀ k, c.before.testBit k = true → k ∈ D) (na : ∀ id b, ¬ IsAl P L S v i id b) (nk : ∀ oj, ¬ IsK L S .actor i oj) {φ' : Phi} {w' : World} (hR' : HR P φ' (S x).h w') (a : Adv (S x).h w φ (S x).h w' φ') :
    Inv P L S v h0 w0 φ0 env0 (i :: D) x φ' w' (setD env c.dst (v i)) := by
  have hF : FD P L S v (i :: D) x = FD P L S v D x := FD_same (fun id b => by
    refine ⟨fun ⟨j, q1, q2⟩ => ⟨j, List.mem_cons_of_mem _ q1, q2⟩, fun ⟨j, q1, q2, q3⟩ => ⟨j, ?_, q2, q3⟩⟩
    rcases List.mem_cons.1 q1 with q | q
    · subst q; exact absurd q2 (na _ _)
    · exact q) rfl
  have hr := t.rid_mono (x := 0) L.length (Nat.zero_le _) (Nat.le_refl _)
  refine I.grow t h0u e hb I.hx (fun j o k => ?_) hR' a I.sub ?_ (Nat.le_refl _) (Nat.le_refl _) (fun id k1 k2 => by omega) (fun id b k => ?_) I.lim I.free fun i' id b hA h1 h2 => ⟨?_, I.free i' id b hA (I.notyet h2)⟩
  · rw [List.mem_cons, ← I.acts j o k]
    refine ⟨fun q => q.resolve_left fun e => ?_, .inr⟩
    subst e; exact nk o k
  · have := I.room; omega
  · rw [hF] at k
    cases q : T.get id (S x).h.heap with
    | none => exact .inr ⟨rfl, k⟩
    | some b' => rw [I.sub id b' q] at k; exact .inl k
  · have := (IsAl.range t hA).2
    exact .inl (by have := I.room; omega)

/-- A new block. -/
theorem Inv.alloc (t : Tr P rec L S v) (h0n : h0.next.num ≤ (S 0).rid.num) (h0u : ∀ id g r, φ0 id g = some r → id.num < h0.next.num) (I : Inv P L S v h0 w0 φ0 env0 D x φ w env) {i : Nat} {c : O} (e : L[i]? = some c) (hi : i ∉ D)
    (hb : ∀ k, c.before.testBit k = true → k ∈ D) {id : Pos} {b : Blk} (hA : IsAl P L S v i id b) {ser : Nat} {V' : Hp} {φ' : Phi} {w' : World} (hV : V'.heap = T.set id (some b) .e) (hn : V'.next = id.succ)
    (hR' : HR P φ' V' w') (a : Adv ⟨.e, id, ser, id.num + 1⟩ w φ V' w' φ') :
    Inv P L S v h0 w0 φ0 env0 (i :: D) x φ' w' (setD env c.dst (v i)) := by
  have hr := t.rid_mono (x := 0) L.length (Nat.zero_le _) (Nat.le_refl _)
  have hg := IsAl.range t hA
  have hn' : V'.next.num = id.num + 1 := by rw [hn, Pos.num_succ]
  have hnp : ∀ b, ¬ Pend P L S v D x id b := fun b' ⟨j, q1, q2, _⟩ => by
    rw [(IsAl.same t q2 hA).1] at q1; exact hi q1
  have room := I.room
  refine I.grow t h0u e hb I.hx (fun j o k => ?_) hR' a (fun id' b' q => ?_) ?_ ?_ (Nat.le_refl _) (fun id' k1 k2 => ?_) (fun id' b' k => ?_) I.lim I.free fun i' id' b' hA' h1 h2 => ⟨?_, T.get_e _⟩
  · rw [List.mem_cons, ← I.acts j o k]
    refine ⟨fun q => q.resolve_left fun e => ?_, .inr⟩
    subst e
    obtain ⟨o', _, k', _⟩ := hA
    have := k.1; rw [k'.1] at this; cases this
    have := k.2.1; rw [k'.2.1] at this; cases this
  · rw [T.get_e] at q; cases q
  · show h0.next.num ≤ id.num; omega
  · omega
  · have k1 : id.num ≤ id'.num := k1
    have : id' = id := Pos.num_inj (by omega)
    subst this
    rw [FD_else hnp]
    exact I.free i id' b hA (I.notyet hi)
  · by_cases c : id' = id
    · subst c
      left
      rw [hV, T.get_set, if_pos rfl]
      rw [FD_pend t ⟨i, by simp, hA, I.notyet hi⟩] at k
      exact k
    · right
      refine ⟨T.get_e _, ?_⟩
      rw [← k]
      have hp : ∀ b, Pend P L S v (i :: D) x id' b ↔ Pend P L S v D x id' b := fun b'' => by
        refine ⟨fun ⟨j, q1, q2, q3⟩ => ⟨j, ?_, q2, q3⟩, fun ⟨j, q1, q2⟩ => ⟨j, List.mem_cons_of_mem _ q1, q2⟩⟩
        rcases List.mem_cons.1 q1 with q | q
        · subst q; exact absurd (IsAl.inj q2 hA).1 c
        · exact q
      by_cases hq : ∃ b, Pend P L S v D x id' b
      · obtain ⟨b'', hq⟩ := hq
        rw [FD_pend t hq, FD_pend t ((hp b'').2 hq)]
      · rw [FD_else fun b q => hq ⟨b, q⟩, FD_else fun b q => hq ⟨b, (hp b).1 q⟩]
  · by_cases q : id'.num < id.num
    · exact .inl q
    · right
      rw [hn']
      have : id'.num ≠ id.num := fun q => h1 (by have e := Pos.num_inj q; subst e; exact (IsAl.same t hA' hA).1)
      omega

/-- An actor. -/
theorem Inv.actor (t : Tr P rec L S v) (h0n : h0.next.num ≤ (S 0).rid.num) (h0u : ∀ id g r, φ0 id g = some r → id.num < h0.next.num) {i : Nat} {c : O} (I : Inv P L S v h0 w0 φ0 env0 D i φ w env) (hk : IsK L S .actor i c) (hi : i ∉ D)
    (hb : ∀ k, c.before.testBit k = true → k ∈ D) {φ' : Phi} {w' : World}
    (hR' : HR P φ' (S (i + 1)).h w') (a : Adv ⟨insT c.before (S i).als (S i).h.heap, (S i).h.next, (S i).h.ser, (S i).h.lim⟩ w φ (S (i + 1)).h w' φ') :
    Inv P L S v h0 w0 φ0 env0 (i :: D) (i + 1) φ' w' (setD env c.dst (v i)) := by
  have hl := (List.getElem?_eq_some_iff.1 hk.1).1
  have hr := t.rid_mono (x := 0) L.length (Nat.zero_le _) (Nat.le_refl _)
  have room := I.room
  have hals := t.als i I.hx
  -- what the actor sees
  have v1 : ∀ id, (∀ b, ¬ ∃ j, IsAl P L S v j id b ∧ c.before.testBit j = true ∧ ∀ (j' : Nat) (oj : O), j' < i → IsK L S .actor j' oj → oj.before.testBit j = false) →
      T.get id (insT c.before (S i).als (S i).h.heap) = T.get id (S i).h.heap := by
    intro id h
    refine putT_other fun al ha hbit he => h al.b ⟨al.i, ?_⟩
    obtain ⟨q1, q2, q3⟩ := (hals al).1 ha
    subst he
    exact ⟨q2, hbit, q3⟩
  have v2 : ∀ j id b, IsAl P L S v j id b → c.before.testBit j = true → (∀ (j' : Nat) (oj : O), j' < i → IsK L S .actor j' oj → oj.before.testBit j = false) →
      T.get id (insT c.before (S i).als (S i).h.heap) = some b := by
    intro j id b hA hbit hj
    refine putT_mem (fun al ha _ he => ?_) (.inl ⟨⟨j, id, b⟩, (hals _).2 ⟨t.ok.less hk.1 hbit, hA, hj⟩, hbit, rfl⟩)
    have := ((hals al).1 ha).2.1
    subst he
    exact (IsAl.same t this hA).2
  have v3 : ∀ j id b, IsAl P L S v j id b → c.before.testBit j = false → (∀ (j' : Nat) (oj : O), j' < i → IsK L S .actor j' oj → oj.before.testBit j = false) →
      T.get id (insT c.before (S i).als (S i).h.heap) = none := by
    intro j id b hA hbit hj
    rw [v1, I.free j id b hA hj]
    intro b' ⟨j', q1, q2, _⟩
    rw [(IsAl.same t q1 hA).1, hbit] at q2
    cases q2
  have hlim : (S (i + 1)).h.lim = 0 := a.lim.trans I.lim
  have hnx : (S i).h.next.num ≤ (S (i + 1)).h.next.num := a.next
  have hstep : ∀ j, (∀ (j' : Nat) (oj : O), j' < i + 1 → IsK L S .actor j' oj → oj.before.testBit j = false) → c.before.testBit j = false ∧ ∀ (j' : Nat) (oj : O), j' < i → IsK L S .actor j' oj → oj.before.testBit j = false :=
    fun j h => ⟨h i c (by omega) hk, fun j' oj q => h j' oj (by omega)⟩
  refine I.grow t h0u hk.1 hb (by omega) (fun j o k => ?_) hR' a (fun id b q => ?_) ?_ (Nat.le_refl _) hnx (fun id k1 k2 => ?_) (fun id b k => ?_) hlim (fun j id b hA hj => ?_) fun j id b hA h1 h2 => ?_
  · rw [List.mem_cons, I.acts j o k]; omega
  · have q : T.get id (insT c.before (S i).als (S i).h.heap) = some b := q
    by_cases hp : ∃ b j, IsAl P L S v j id b ∧ c.before.testBit j = true ∧ ∀ (j' : Nat) (oj : O), j' < i → IsK L S .actor j' oj → oj.before.testBit j = false
    · obtain ⟨b', j, q1, q2, q3⟩ := hp
      rw [v2 j id b' q1 q2 q3] at q
      cases q
      exact FD_pend t ⟨j, hb j q2, q1, q3⟩
    · rw [v1 id fun b ⟨j, q⟩ => hp ⟨b, j, q⟩] at q
      exact I.sub id b q
  · show h0.next.num ≤ (S i).h.next.num; omega
  · have k1 : (S i).h.next.num ≤ id.num := k1
    cases q : FD P L S v D i id with
    | none => rfl
    | some b =>
      have := I.heap.dom id b q
      rcases this with q | q
      · omega
      · exact absurd rfl q.1
  · by_cases hp : ∃ b, Pend P L S v (i :: D) (i + 1) id b
    · obtain ⟨b', hp⟩ := hp
      rw [FD_pend t hp] at k
      cases k
      obtain ⟨j, q1, q2, q3⟩ := hp
      obtain ⟨s1, s2⟩ := hstep j q3
      right
      refine ⟨v3 j id b q2 s1 s2, FD_pend t ⟨j, ?_, q2, s2⟩⟩
      rcases List.mem_cons.1 q1 with q | q
      · subst q
        obtain ⟨o', _, k', _⟩ := q2
        have := k'.1; rw [hk.1] at this; cases this
        have := k'.2.1; rw [hk.2.1] at this; cases this
      · exact q
    · rw [FD_else fun b q => hp ⟨b, q⟩] at k
      exact .inl k
  · obtain ⟨s1, s2⟩ := hstep j hj
    have := (IsAl.range t hA).2
    exact a.hid id (.inl (show id.num < (S i).h.next.num by omega)) (v3 j id b hA s1 s2)
  · have := (IsAl.range t hA).2
    refine ⟨.inl (show id.num < (S i).h.next.num by omega), v3 j id b hA ?_ (I.notyet h2)⟩
    cases hbit : c.before.testBit j with
    | false => rfl
    | true => exact absurd (hb j hbit) h2
end
end Go.Proofs.YtialpccieggaoaaGreatDoor.Am
