import Derived.Test.YtmifpiglcphmoaaAmL
/- THE ABSTRACT MACHINE, part M: a machine over values without block numbers, run by the kernel, and the proof that the model's machine does what it does. No condition. -/
set_option linter.unusedSimpArgs false
set_option linter.unusedVariables false
namespace Go.Proofs.Ytmifpiglcphmoaa.Am
open Go.RowKit

/-! ### Bytes -/

noncomputable def byt (b : List UInt8) : List AV := b.map fun x => byteV x.toNat

theorem byt_length (b : List UInt8) : (byt b).length = b.length := List.length_map _

theorem byt_append (a b : List UInt8) : byt (a ++ b) = byt a ++ byt b := List.map_append

theorem byt_atom (b : List UInt8) : ∀ y ∈ byt b, y.atom = true := fun y hy => by
  obtain ⟨x, _, rfl⟩ := List.mem_map.1 hy
  rfl

theorem byt_inj : ∀ {a b : List UInt8}, byt a = byt b → a = b
  | [], [], _ => rfl
  | [], _ :: _, e => by cases e
  | _ :: _, [], e => by cases e
  | x :: a, y :: b, e => by
    have e : byteV x.toNat :: byt a = byteV y.toNat :: byt b := e
    obtain ⟨e1, e2⟩ := List.cons.inj e
    have e3 : x.toNat = y.toNat := by
      unfold byteV at e1
      injection e1 with _ e1
      exact Int.ofNat.inj e1
    rw [byt_inj e2, UInt8.toNat_inj.1 e3]

theorem packAV_byt : ∀ (b : List UInt8) (n v : Nat), packAV (byt b) n v = some (n + b.length, b.foldl (fun a b => a * 256 + b.toNat) v)
  | [], n, v => rfl
  | x :: b, n, v => by
    have e : packAV (byt (x :: b)) n v = bif Nat.blt x.toNat 256 then packAV (byt b) (n + 1) (v * 256 + x.toNat) else none := rfl
    rw [e, blt_iff.2 x.toNat_lt, cond_true, packAV_byt b, List.length_cons, List.foldl_cons]
    congr 2
    omega

/-- The text of bytes. -/
theorem SlN.str {P : Program} {h : Hp} {v : AV} {n : Nat} {b : List UInt8} (r : SlN h 1 v n (byt b)) : ∀ env x, ev env x = v → evalOp P (.bytesStr x) env h = .val (strOf b) h := by
  intro env x hx
  have hn : n = b.length := by have := r.length; rw [byt_length] at this; omega
  have e : evalOp P (.bytesStr x) env h = (match ev env x with
    | .nilSl => .val (.str 0 0) h
    | .sl id g off len _ _ es => bif Nat.beq len 0 then .val (.str 0 0) h else
      bif Nat.beq es 1 then (match readN h id g off len with
      | some (.byt n v) => natK v fun v => .val (.str n v) h
      | some (.lst _ l) => (match packAV l 0 0 with
        | some (n, v) => .val (.str n v) h
        | none => .fail "bytesStr bytes")
      | none => .fail "bytesStr") else .fail "bytesStr size"
    | _ => .fail "bytesStr what") := rfl
  rw [e, hx]
  generalize hq : byt b = q at r
  cases r with
  | nil =>
    have : b = [] := List.length_eq_zero_iff.1 hn.symm
    subst this; rfl
  | emp =>
    have : b = [] := List.length_eq_zero_iff.1 hn.symm
    subst this; rfl
  | mk hl r =>
    by_cases h0 : n = 0
    · subst h0
      have : b = [] := List.length_eq_zero_iff.1 hn.symm
      subst this; rfl
    · obtain ⟨c, c1, c2, c3⟩ := r.all
      rw [hl, Nat.mul_one] at c1
      simp only [beq_false.2 h0, cond_false, show Nat.beq 1 1 = true from rfl, cond_true, c1]
      subst hq
      cases c with
      | byt m u =>
        have hm : m = b.length := by
          have := Cells.toL_length c2
          rw [c3, byt_length] at this
          exact this.symm
        subst hm
        have e2 : bytesL b.length u = byt b := c3
        rw [bytesL_eq] at e2
        have e3 : unpack b.length u = b := byt_inj e2
        have hu : u = pack b := by
          have := pack_unpack b.length u
          rw [e3, Nat.mod_eq_of_lt c2] at this
          exact this.symm
        subst hu
        simp only [natK_eq]
        rfl
      | lst m l =>
        have e2 : l = byt b := c3
        subst e2
        show (match packAV (byt b) 0 0 with
          | some (n, v) => Res.val (.str n v) h
          | none => Res.fail "bytesStr bytes") = _
        rw [packAV_byt]
        show Res.val (.str (0 + b.length) _) h = _
        rw [Nat.zero_add]
        rfl

/-- Nothing, in new memory. -/
theorem emptySl (P : Program) (es : Nat) (z : List AV) (hes : 0 < es) (h : Hp) : ∃ h', (∀ env, evalOp P (.buildSl 0 es z []) env h = .val (.sl h.next 0 0 0 0 true es) h') ∧ Only [] h h' ∧ h'.next.num = h.next.num + 1 := by
  refine ⟨newH h fun s => .cells s (Cells.ofL []) 0 0 0 0 false false, fun env => ?_, newH_only _ _ _, newH_next _ _⟩
  have e : evalOp P (.buildSl 0 es z []) env h = bif Nat.blt 0 es then newCells h (Cells.ofL []) fun id h => .val (.sl id 0 0 0 0 true es) h else .fail "buildSl" := rfl
  rw [e, blt_iff.2 hes, cond_true]
  unfold newCells
  rw [newK_newH]

/-- One record, in new memory. -/
theorem oneSl (P : Program) {es : Nat} {z l : List AV} (hes : 0 < es) (hz : z.length = es) (hl : l.length = es) (h : Hp) : ∃ h', (∀ env x, (ev env x).cells = l → evalOp P (.buildSl 1 es z [(0, es, x)]) env h = .val (.sl h.next 0 0 1 1 true es) h') ∧ Arr h' h.next l ∧ Only [] h h' ∧ h'.next.num = h.next.num + 1 := by
  refine ⟨newH h fun s => .cells s (Cells.ofL l) 0 0 0 0 false false, fun env x hx => ?_, newH_arr h l, newH_only _ _ _, newH_next _ _⟩
  have e : evalOp P (.buildSl 1 es z [(0, es, x)]) env h = (match fillA env (replA 1 z []) [(0, es, x)] with
    | some l => bif Nat.blt 0 es then newCells h (Cells.ofL l) fun id h => .val (.sl id 0 0 1 1 true es) h else .fail "buildSl"
    | none => .fail "buildSl") := rfl
  have f : fillA env (replA 1 z []) [(0, es, x)] = some l := by
    have r : replA 1 z [] = z := by show z ++ [] = z; simp
    rw [r]
    unfold fillA
    simp only [hx, hl, hz, beq_iff.2 (rfl : es = es), show Nat.ble (Nat.add 0 es) es = true from ble_iff.2 (by show 0 + es ≤ es; omega), Bool.and_self, cond_true]
    unfold fillA
    simp [show Nat.add 0 es = z.length from by show 0 + es = _; omega, hz]
  rw [e, f]
  show (bif Nat.blt 0 es then newCells h (Cells.ofL l) fun id h => Res.val (.sl id 0 0 1 1 true es) h else .fail "buildSl") = _
  rw [blt_iff.2 hes, cond_true]
  unfold newCells
  rw [newK_newH]

/-- A slice is compared with nil. -/
theorem SlN.eqlNil {P : Program} {h : Hp} {es n : Nat} {v : AV} {l : List AV} (r : SlN h es v n l) : ∀ env x, ev env x = v → evalOp P (.bin .eql .slice true x (vl .nilSl)) env h = .val (.bool v.isNil) h := by
  intro env x hx
  rw [qev_bin, hx]
  cases r <;> rfl

/-! ### Who holds which memory -/

/-- What is changed of what was there is of the kinds K. -/
def Chg (κ : Pos → Nat) (K : Nat → Prop) (h h' : Hp) : Prop := ∃ S, Only S h h' ∧ ∀ id ∈ S, id.num < h.next.num → K (κ id)

/-- The kinds of what was there stay. -/
def Agr (h : Hp) (κ κ' : Pos → Nat) : Prop := ∀ id, id.num < h.next.num → κ' id = κ id

/-- New memory is of the kind k. -/
noncomputable def newK' (κ : Pos → Nat) (h : Hp) (k : Nat) : Pos → Nat := fun id => if id.num < h.next.num then κ id else k

theorem newK'_agr (κ : Pos → Nat) (h : Hp) (k : Nat) : Agr h κ (newK' κ h k) := fun id q => by unfold newK'; rw [if_pos q]

theorem newK'_new (κ : Pos → Nat) {h : Hp} (k : Nat) {id : Pos} (q : h.next.num ≤ id.num) : newK' κ h k id = k := by unfold newK'; rw [if_neg (by omega)]

section
variable {κ κ' κ'' : Pos → Nat} {K K' : Nat → Prop} {h h' h'' : Hp} {k : Nat}

theorem Agr.refl : Agr h κ κ := fun _ _ => rfl

theorem Agr.trans (a : Agr h κ κ') (b : Agr h' κ' κ'') (n : h.next.num ≤ h'.next.num) : Agr h κ κ'' := fun id q => (b id (by omega)).trans (a id q)

theorem Chg.next (a : Chg κ K h h') : h.next.num ≤ h'.next.num := let ⟨_, o, _⟩ := a; o.next

theorem Chg.of (o : Only [] h h') : Chg κ K h h' := ⟨[], o, by simp⟩

theorem Chg.refl : Chg κ K h h := .of (.refl _ _)

theorem Chg.only {S : List Pos} (o : Only S h h') (hS : ∀ id ∈ S, id.num < h.next.num → K (κ id)) : Chg κ K h h' := ⟨S, o, hS⟩

theorem Chg.mono (a : Chg κ K h h') (q : ∀ k, K k → K' k) : Chg κ K' h h' := let ⟨S, o, c⟩ := a; ⟨S, o, fun id m n => q _ (c id m n)⟩

theorem Chg.trans (a : Chg κ K h h') (g : Agr h κ κ') (b : Chg κ' K h' h'') : Chg κ K h h'' := by
  obtain ⟨S, o, c⟩ := a
  obtain ⟨S', o', c'⟩ := b
  refine ⟨S ++ S', (o.mono fun id q => .inl (by simp [q])).trans (o'.mono fun id q => .inl (by simp [q])), fun id m n => ?_⟩
  rcases List.mem_append.1 m with q | q
  · exact c id q n
  · rw [← g id n]; exact c' id q (by have := o.next; omega)

/-- Nothing of the kinds is there yet: it is as if nothing had changed. -/
theorem Chg.fresh (a : Chg κ K h h') (q : ∀ id, id.num < h.next.num → ¬ K (κ id)) : Only [] h h' := by
  obtain ⟨S, o, c⟩ := a
  exact o.mono fun id m => .inr (by rcases Nat.lt_or_ge id.num h.next.num with n | n; exact absurd (c id m n) (q id n); exact n)

/-- A slice that is of one kind. -/
structure KSl (κ : Pos → Nat) (k : Nat) (h : Hp) (es : Nat) (v : AV) (n : Nat) (l : List AV) : Prop where
  sl : SlN h es v n l
  k : ∀ id, InN es v id → κ id = k ∧ id.num < h.next.num

/-- A list that grows and is of one kind. -/
structure KHd (κ : Pos → Nat) (k : Nat) (h : Hp) (es : Nat) (v : AV) (n : Nat) (l : List AV) : Prop where
  hd : Held 0 h es v n l
  k : ∀ id, InN es v id → κ id = k

/-- A block that is of one kind. -/
structure KArr (κ : Pos → Nat) (k : Nat) (h : Hp) (p : Pos) (l : List AV) : Prop where
  arr : Arr h p l
  k : κ p = k

variable {es n : Nat} {v : AV} {l : List AV} {p : Pos}

theorem KHd.sl (a : KHd κ k h es v n l) : KSl κ k h es v n l := ⟨a.hd.sl, fun id q => ⟨a.k id q, (a.hd.old q).2⟩⟩

theorem KSl.chg (a : KSl κ k h es v n l) (c : Chg κ K h h') (g : Agr h κ κ') (hk : ¬ K k) : KSl κ' k h' es v n l := by
  obtain ⟨S, o, c⟩ := c
  refine ⟨a.sl.only o fun id q m => ?_, fun id q => ?_⟩
  · obtain ⟨k1, k2⟩ := a.k id q
    have := c id m k2
    rw [k1] at this
    exact hk this
  · obtain ⟨k1, k2⟩ := a.k id q
    exact ⟨(g id k2).trans k1, Nat.lt_of_lt_of_le k2 o.next⟩

theorem KHd.chg (a : KHd κ k h es v n l) (c : Chg κ K h h') (g : Agr h κ κ') (hk : ¬ K k) : KHd κ' k h' es v n l := by
  obtain ⟨S, o, c⟩ := c
  refine ⟨a.hd.only o fun id q m => ?_, fun id q => (g id (a.hd.old q).2).trans (a.k id q)⟩
  have := c id m (a.hd.old q).2
  rw [a.k id q] at this
  exact hk this

theorem KArr.chg (a : KArr κ k h p l) (c : Chg κ K h h') (g : Agr h κ κ') (hk : ¬ K k) : KArr κ' k h' p l := by
  obtain ⟨S, o, c⟩ := c
  refine ⟨a.arr.only o fun m => ?_, (g p a.arr.old).trans a.k⟩
  have := c p m a.arr.old
  rw [a.k] at this
  exact hk this

theorem KHd.nil : KHd κ k h es .nilSl 0 [] := ⟨.nil, fun id ⟨_, _, _, _, _, e⟩ => by cases e⟩
theorem KSl.nil : KSl κ k h es .nilSl 0 [] := ⟨.nil, fun id ⟨_, _, _, _, _, e⟩ => by cases e⟩

/-- More is appended. -/
theorem KHd.push (a : KHd κ k h es v n l) (P : Program) {v2 : AV} {n2 : Nat} {l2 : List AV} {bytes : Nat} (hv : SlN h es v2 n2 l2) (hy : ∀ y ∈ l2, y.atom = true) (hes : 0 < es) (ok : okSize (n + n2) bytes = true) :
    ∃ v' h', (∀ env s x, ev env s = v → ev env x = v2 → evalOp P (.append es bytes s x) env h = .val v' h') ∧ KHd (newK' κ h k) k h' es v' (n + n2) (l ++ l2) ∧ Chg κ (fun j => j = k) h h' := by
  obtain ⟨v', h', S, e, o, m, hS, hv'⟩ := a.hd.push P hv hy hes ok (Nat.zero_le _)
  refine ⟨v', h', e, ⟨o, fun id q => ?_⟩, ⟨S, m, fun id q _ => a.k id (hS id q)⟩⟩
  rcases Nat.lt_or_ge id.num h.next.num with c | c
  · rw [newK'_agr κ h k id c]
    rcases hv' id q with q | q
    · exact a.k id q
    · omega
  · exact newK'_new κ k c

/-- A block is written. -/
theorem KArr.put (a : KArr κ k h p l) {i : Nat} (hi : i < l.length) (y : AV) : KArr κ k (putA h p i y) p (l.set i y) ∧ Chg κ (fun j => j = k) h (putA h p i y) :=
  ⟨⟨putA_arr a.arr hi y, a.k⟩, ⟨[p], putA_only _ _ _ _, fun id q _ => by simp at q; subst q; exact a.k⟩⟩

/-- New memory takes its kind. -/
theorem Held.new (a : Held h.next.num h' es v n l) (κ : Pos → Nat) (k : Nat) : KHd (newK' κ h k) k h' es v n l := ⟨a.weak (Nat.zero_le _), fun id q => newK'_new κ k (a.old q).1⟩

theorem Arr.new (a : Arr h' p l) (q : h.next.num ≤ p.num) (κ : Pos → Nat) (k : Nat) : KArr (newK' κ h k) k h' p l := ⟨a, newK'_new κ k q⟩
end
end Go.Proofs.Ytmifpiglcphmoaa.Am

namespace Go.Proofs.Ytmifpiglcphmoaa.Am
open Go.RowKit

open Classical in
/-- Answers that are known, by the call. -/
noncomputable def recG (P : Program) : List KC → St → Out
  | [], _ => .fail ""
  | a :: A, s => if s = ⟨frOf P a.f a.args, [], a.h⟩ then .done a.v a.h' else recG P A s

theorem recG_sound {P : Program} : ∀ {A : List KC}, (∀ a ∈ A, AmFn P a.f a.args a.h a.v a.h') → Sound P (recG P A)
  | [], _ => fun _ _ _ _ _ _ _ _ _ => trivial
  | a :: A, h => fun s φ w g c0 hs hR hz hF => by
    unfold recG
    split
    · rename_i e
      subst e
      have q1 := h a (by simp)
      have q2 := q1.begins.1
      obtain ⟨fr', e1, e2⟩ := q1.ans
      rw [q2] at e1
      cases e1
      exact e2 φ w g [] c0 hR hz hF .nil
    · exact recG_sound (fun y hy => h y (List.mem_cons_of_mem _ hy)) s φ w g c0 hs hR hz hF

theorem recG_hit {P : Program} (f : FuncId) (args : List AV) (h : Hp) (v : AV) (h' : Hp) (A : List KC) : recG P (⟨f, args, h, v, h'⟩ :: A) ⟨frOf P f args, [], h⟩ = .done v h' := by
  unfold recG
  rw [if_pos rfl]

/-- A call with another answer ahead of it: it is another call, or the answer is the same. -/
theorem recG_next {P : Program} {a : KC} {A : List KC} {f : FuncId} {args : List AV} {h : Hp} {o : Out} (e : recG P A ⟨frOf P f args, [], h⟩ = o) (q : frOf P f args = frOf P a.f a.args → h = a.h → o = .done a.v a.h') : recG P (a :: A) ⟨frOf P f args, [], h⟩ = o := by
  unfold recG
  split
  · rename_i c
    injection c with c1 _ c2
    exact (q c1 c2).symm
  · exact e

theorem frOf_fn {P : Program} {f f' : FuncId} {args args' : List AV} {h h' h1 h1' : Hp} {v v' : AV} (a : AmFn P f args h v h') (b : AmFn P f' args' h1 v' h1') (e : frOf P f args = frOf P f' args') : f = f' := by
  rw [← a.begins.2, ← b.begins.2, e]

theorem frOf_env {P : Program} {f : FuncId} {args : List AV} {h h' : Hp} {v : AV} (a : AmFn P f args h v h') : (frOf P f args).env = setArgs .e 0 args := by
  obtain ⟨e, _⟩ := a.begins
  have e0 := e
  unfold beginFn at e
  split at e
  · rename_i fu _
    cases hl : Nat.ble args.length fu.nargs with
    | true => rw [hl] at e; have := Option.some.inj e; rw [← this]
    | false => rw [hl] at e; cases e
  · cases e

/-- One record, laid within a region. -/
theorem oneSl_resv (P : Program) {es : Nat} {z l : List AV} (hes : 0 < es) (hz : z.length = es) (hl : l.length = es) {env : T AV} {id : Pos} {ser lim : Nat} {x : Opd} (hx : (ev env x).cells = l) :
    evalOp P (.buildSl 1 es z [(0, es, x)]) env ⟨.e, id, ser, lim⟩ = .val (.sl id 0 0 1 1 true es) ⟨T.set id (some (.cells ser (Cells.ofL l) 0 0 0 0 false false)) .e, id.succ, Nat.succ ser, lim⟩ := by
  have e : evalOp P (.buildSl 1 es z [(0, es, x)]) env ⟨.e, id, ser, lim⟩ = (match fillA env (replA 1 z []) [(0, es, x)] with
    | some l => bif Nat.blt 0 es then newCells ⟨.e, id, ser, lim⟩ (Cells.ofL l) fun id h => .val (.sl id 0 0 1 1 true es) h else .fail "buildSl"
    | none => .fail "buildSl") := rfl
  have f : fillA env (replA 1 z []) [(0, es, x)] = some l := by
    have r : replA 1 z [] = z := by show z ++ [] = z; simp
    rw [r]
    unfold fillA
    simp only [hx, hl, hz, beq_iff.2 (rfl : es = es), show Nat.ble (Nat.add 0 es) es = true from ble_iff.2 (by show 0 + es ≤ es; omega), Bool.and_self, cond_true]
    unfold fillA
    simp [show Nat.add 0 es = z.length from by show 0 + es = _; omega, hz]
  rw [e, f]
  show (bif Nat.blt 0 es then newCells _ (Cells.ofL l) fun id h => Res.val (.sl id 0 0 1 1 true es) h else .fail "buildSl") = _
  rw [blt_iff.2 hes, cond_true]
  unfold newCells
  rw [newK_newH]
  rfl

theorem resvH_arr (h : Hp) (ser : Nat) (l : List AV) : Arr (resvH h (.cells ser (Cells.ofL l) 0 0 0 0 false false)) h.next l :=
  ⟨by rw [resvH_next]; omega, ser, Cells.ofL l, false, by show T.get h.next (T.set h.next _ h.heap) = _; rw [T.get_set, if_pos rfl], (Cells.ofL_spec l).1, (Cells.ofL_spec l).2.1⟩

theorem eqLs_refl {f : AV → AV → Bool} : ∀ {l : List AV}, (∀ x ∈ l, f x x = true) → eqLs f l l = true
  | [], _ => rfl
  | x :: l, h => by
    unfold eqLs
    rw [h x (by simp), eqLs_refl fun y hy => h y (List.mem_cons_of_mem _ hy)]
    rfl

theorem eqAV_agg (n : Nat) {l : List AV} (h : ∀ x ∈ l, eqAV n x x = true) : eqAV (n + 1) (.agg l) (.agg l) = true := by
  unfold eqAV
  exact eqLs_refl h

theorem SlN.eqv {h : Hp} {es n : Nat} {v : AV} {l : List AV} (r : SlN h es v n l) (k : Nat) : eqAV (k + 1) v v = true := by
  cases r
  · rfl
  · unfold eqAV
    simp only [eqP_iff.2 (rfl), beq_iff.2 (rfl : _ = _), eqB_iff.2 (rfl), Bool.and_self]
  · unfold eqAV
    simp only [eqP_iff.2 (rfl), beq_iff.2 (rfl : _ = _), eqB_iff.2 (rfl), Bool.and_self]

/-- A record of a list of one's own. -/
theorem Held.record {N : Nat} {h : Hp} {es n : Nat} {v : AV} {l : List AV} (o : Held N h es v n l) {i : Nat} (hi : i < n) : ∃ id g c, v = .sl id g 0 n n false es ∧ readN h id g (i * es) es = some c ∧ c.toL = (l.drop (i * es)).take es := by
  rcases o with ⟨q, _⟩ | ⟨id, g, _, q2, q3, q4⟩
  · omega
  · have hle : (i + 1) * es ≤ l.length := by rw [q4]; exact Nat.mul_le_mul_right _ hi
    rw [Nat.add_mul, Nat.one_mul] at hle
    obtain ⟨c, c1, _, c3⟩ := (q3.part (off := i * es) (n := es) hle).all
    rw [List.length_take, List.length_drop, Nat.min_eq_left (by omega)] at c1
    exact ⟨id, g, c, q2, c1, c3⟩

/-- A whole block is read. -/
theorem Arr.whole {h : Hp} {id : Pos} {l : List AV} (a : Arr h id l) (P : Program) {n : Nat} (hn : l.length = n) : ∀ env x, ev env x = .ptr id 0 0 → evalOp P (.loadN n x) env h = .val (.agg l) h := by
  intro env x hx
  obtain ⟨c, c1, _, c3⟩ := a.row.all
  rw [hn] at c1
  rw [qev_loadN P hx c1, c3]

theorem Arr.slN {h : Hp} {id : Pos} {l : List AV} (a : Arr h id l) {es n cap : Nat} {ex : Bool} (hl : l.length = n * es) : SlN h es (.sl id 0 0 n cap ex es) n l := .mk hl a.row

/-- The blocks of a stretch. -/
theorem stretch (a : Nat) : ∀ b : Nat, ∃ S : List Pos, ∀ id : Pos, id ∈ S ↔ a ≤ id.num ∧ id.num < b
  | 0 => ⟨[], fun id => by simp⟩
  | b + 1 => by
    obtain ⟨S, hS⟩ := stretch a b
    by_cases c : ∃ id : Pos, id.num = b ∧ a ≤ b
    · obtain ⟨id0, e, hab⟩ := c
      refine ⟨id0 :: S, fun id => ?_⟩
      rw [List.mem_cons, hS]
      refine ⟨fun q => ?_, fun q => ?_⟩
      · rcases q with q | q
        · subst q; omega
        · omega
      · by_cases e2 : id.num = b
        · exact .inl (Pos.num_inj (by omega))
        · exact .inr (by omega)
    · refine ⟨S, fun id => ?_⟩
      rw [hS]
      refine ⟨fun q => by omega, fun q => ⟨q.1, ?_⟩⟩
      by_cases e2 : id.num = b
      · exact absurd ⟨id, e2, by omega⟩ c
      · omega

/-- A block of one cell, laid within a region. -/
theorem new_resv (P : Program) {env : T AV} {id : Pos} {ser lim : Nat} (x : AV) :
    evalOp P (.new [x]) env ⟨.e, id, ser, lim⟩ = .val (.ptr id 0 0) ⟨T.set id (some (.cells ser (Cells.ofL [x]) 0 0 0 0 false false)) .e, id.succ, Nat.succ ser, lim⟩ := by
  rw [qev_newL]
  rfl

theorem Box.arr {h : Hp} {id : Pos} {x : AV} (b : Box h id x) : Arr h id [x] :=
  let ⟨ser, fz, e⟩ := b.mem
  ⟨b.old, ser, Cells.ofL [x], fz, e, (Cells.ofL_spec [x]).1, (Cells.ofL_spec [x]).2.1⟩

theorem Arr.load {h : Hp} {id : Pos} {x : AV} (b : Arr h id [x]) : read1 h id 0 0 = some x := b.one (i := 0) (by simp)

/-- A record of a slice that is handed in, cell by cell. -/
theorem Tree.recordOne {P : Program} {h : Hp} {d : Nat} {t e : TypeId} {v : AV} (hd : P.underlying t = some (.slice e)) (a : Tree P h (d + 1) t [v]) {i : Nat} (hi : i < lenOf v) :
    ∃ id cap l, v = .sl id 0 0 (lenOf v) cap true (P.cellsOf e) ∧ Tree P h d e l ∧ ∀ h', Only [] h h' → ∀ k, k < l.length → read1 h' id 0 (i * P.cellsOf e + k) = l[k]? := by
  rcases a.of_slice hd with q | ⟨id, g, off, q⟩ | ⟨id, n, cap, L, q, hn, hw, fx, hL, hx⟩
  · cases q; cases hi
  · cases q; cases hi
  · cases q
    have hi : i < n := hi
    have hle : (i + 1) * P.cellsOf e ≤ L.length := by rw [hL]; exact Nat.mul_le_mul_right _ (by omega)
    rw [Nat.add_mul, Nat.one_mul] at hle
    exact ⟨id, cap, _, rfl, hx i (by omega), fun h' m k hk => ((fx.only m (by simp)).part (off := i * P.cellsOf e) (n := P.cellsOf e) hle).one k hk⟩

theorem u8_of {n : Int} (h : (Lit.int .u8 n).wf = true) : ∃ b : UInt8, n = (b.toNat : Int) := by
  have : 0 ≤ n ∧ n < 256 := by
    simp [Lit.wf, IntKind.min, IntKind.max, IntKind.bits, IntKind.signed] at h
    omega
  refine ⟨UInt8.ofNat n.toNat, ?_⟩
  rw [UInt8.toNat_ofNat']
  omega

/-- A slice of bytes that is handed in. -/
theorem Tree.bytes {P : Program} {h : Hp} {d : Nat} {t e : TypeId} {v : AV} (hd : P.underlying t = some (.slice e)) (he : P.underlying e = some (.int .u8)) (hc : P.cellsOf e = 1) (hb : 1 ≤ P.bytesOf e ∧ P.bytesOf e ≤ 4096) (a : Tree P h (d + 2) t [v]) :
    ∃ b : List UInt8, SlN h 1 v b.length (byt b) ∧ okSize b.length (P.bytesOf e) = true := by
  obtain ⟨ys, r, _, ok⟩ := Tree.ones (d := d + 1) hd hc hb a (fun x : UInt8 => byteV x.toNat) (fun x hx => by
    obtain ⟨n, e1, wf⟩ := hx.of_int (d := d) he
    obtain ⟨b, e2⟩ := u8_of wf
    cases e1
    subst e2
    exact ⟨b, rfl⟩)
  have hy : (ys.map fun x : UInt8 => byteV x.toNat) = byt ys := rfl
  rw [hy] at r
  refine ⟨ys, ?_, ok⟩
  have hlen : (byt ys).length = ys.length := byt_length ys
  generalize hq : byt ys = L at r hlen
  cases r with
  | nil =>
    have : ys.length = 0 := by rw [← hlen]; rfl
    rw [this]; exact .nil
  | emp =>
    have : ys.length = 0 := by rw [← hlen]; rfl
    rw [this]; exact .emp
  | mk hn r =>
    rw [hlen] at hn
    subst hn
    exact .mk (by rw [hlen, Nat.mul_one]) r
end Go.Proofs.Ytmifpiglcphmoaa.Am

namespace Go.Proofs.Ytmifpiglcphmoaa.Am
open Go.RowKit

/-- A cell of a row that grew is written. -/
noncomputable def putG (h : Hp) (id : Pos) (i : Nat) (x : AV) : Hp :=
  ⟨T.set id ((T.get id h.heap).map fun b => match b with | .cells ser c lo hi g m ro fz => .cells ser (c.splice i (Cells.ofL [x])) lo hi g (bif Nat.blt i hi then g else m) ro fz | b => b) h.heap, h.next, h.ser, h.lim⟩

theorem putG_only (h : Hp) (id : Pos) (i : Nat) (x : AV) : Only [id] h (putG h id i x) := ⟨Nat.le_refl _, rfl, fun j _ q => by
  show T.get j (T.set id _ h.heap) = _
  rw [T.get_set, if_neg (by simpa using q)]⟩

theorem putG_gro {h : Hp} {id : Pos} {g : Nat} {l : List AV} (b : Gro h id g l) {i : Nat} (hi : i < l.length) (y : AV) : Gro (putG h id i y) id g (l.set i y) := by
  obtain ⟨ser, c, hh, m, fz, e, hw, hl⟩ := b.mem
  have hc : c.size = l.length := by rw [← Cells.toL_length hw, hl]
  obtain ⟨p1, p2, p3⟩ := Cells.ofL_spec [y]
  have hsz : i + (Cells.ofL [y]).size ≤ c.size := by rw [p3, hc]; simp; omega
  obtain ⟨q1, q2, q3⟩ := Cells.splice_spec hw p1 hsz
  refine ⟨b.old, ser, c.splice i (Cells.ofL [y]), hh, (bif Nat.blt i hh then g else m), fz, ?_, q1, ?_⟩
  · show T.get id (T.set id _ h.heap) = _
    rw [T.get_set, if_pos rfl, e]; rfl
  · rw [q2, p2, p3, hl, List.set_eq_take_append_cons_drop, if_pos hi]
    rfl

theorem storeR_gro {h : Hp} {id : Pos} {g : Nat} {l : List AV} (b : Gro h id g l) {i : Nat} (hi : i < l.length) (y : AV) (ha : y.atom = true) (hc : y.cells = [y]) : storeR (.ptr id g i) y h = .val .undef (putG h id i y) := by
  obtain ⟨ser, c, hh, m, fz, e, hw, hl⟩ := b.mem
  have hz : c.size = l.length := by rw [← Cells.toL_length hw, hl]
  unfold storeR
  simp only [hc]
  unfold writeN putG
  have h1 : Nat.ble (Nat.add i 1) c.size = true := ble_iff.2 (by show i + 1 ≤ _; omega)
  have h2 : Nat.ble 0 i = true := ble_iff.2 (by omega)
  have h3 : Nat.beq g g = true := by simp
  simp only [e, h1, h2, h3, ofL_size1, ofL_atoms ha, T.setK_eq]
  rfl

/-- A cell of a row that grew is read. -/
theorem Gro.one {h : Hp} {id : Pos} {g : Nat} {l : List AV} (b : Gro h id g l) {i : Nat} (hi : i < l.length) : read1 h id g i = some l[i] := by
  have := b.row.one i hi
  rw [Nat.zero_add, List.getElem?_eq_getElem hi] at this
  exact this

/-- The first n of a row that grew, as records of one cell. -/
theorem Gro.sl {h : Hp} {id : Pos} {g : Nat} {l : List AV} (b : Gro h id g l) {n cap : Nat} {ex : Bool} (hn : n ≤ l.length) : SlN h 1 (.sl id g 0 n cap ex 1) n (l.take n) := by
  refine .mk (by simp; omega) ?_
  have := b.part (off := 0) (n := n) (by omega)
  simpa using this
/-! ### Guards that are known -/

section
variable {d : Option Pos} {n : Nat} {op : AOp} {ok : Bool} {b : Nat} {env : T AV} {h : Hp} {P : Program}

theorem wanted_tt (q : sv env n = .bool true) : wantedA ⟨d, some (Pos.ofNat n, true), op, ok, b⟩ env = true := by rw [wanted_sv, q]; rfl
theorem wanted_tf (q : sv env n = .bool false) : wantedA ⟨d, some (Pos.ofNat n, true), op, ok, b⟩ env = false := by rw [wanted_sv, q]; rfl
theorem wanted_ft (q : sv env n = .bool true) : wantedA ⟨d, some (Pos.ofNat n, false), op, ok, b⟩ env = false := by rw [wanted_sv, q]; rfl
theorem wanted_ff (q : sv env n = .bool false) : wantedA ⟨d, some (Pos.ofNat n, false), op, ok, b⟩ env = true := by rw [wanted_sv, q]; rfl

theorem pick_t {x y : Opd} (q : sv env n = .bool true) : evalOp P (.pick (tm n) x y) env h = .val (ev env x) h := by rw [qev_pick, ev_tm, q]
theorem pick_f {x y : Opd} (q : sv env n = .bool false) : evalOp P (.pick (tm n) x y) env h = .val (ev env y) h := by rw [qev_pick, ev_tm, q]

theorem fld0 {id : Pos} {g o : Nat} : fldA 0 (.ptr id g o) h = .val (.ptr id g o) h := (fldA_ptr _ _ _ _ _).trans (by rw [Nat.add_zero])
theorem fldN {off : Nat} (hn : off ≠ 0) {id : Pos} {g o : Nat} : fldA off (.ptr id g o) h = .val (.ptr id g (o + off)) h := fldA_ptr _ _ _ _ _
end
end Go.Proofs.Ytmifpiglcphmoaa.Am
