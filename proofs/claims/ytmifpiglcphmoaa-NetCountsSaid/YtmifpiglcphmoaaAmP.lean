import Derived.Test.YtmifpiglcphmoaaAmO
/- THE ABSTRACT MACHINE, part P: a machine over values without block numbers, run by the kernel, and the proof that the model's machine does what it does. No condition. -/
set_option linter.unusedSimpArgs false
set_option linter.unusedVariables false
namespace Go.Proofs.Ytmifpiglcphmoaa.Am
open Go.RowKit

section
variable (P : Program) (env : T AV) (h : Hp)
noncomputable def nilC (x : AV) (h : Hp) : Res := match x with
  | .ptr id g off => .val (.ptr id g off) h
  | .ifc t v => .val (.ifc t v) h
  | .yield l => .val (.yield l) h
  | .fn (.func f) a b => .val (.fn (.func f) a b) h
  | _ => .fail "nilCheck"
theorem qev_nilC (x : Opd) : evalOp P (.nilCheck x) env h = nilC (ev env x) h := rfl
theorem nilC_ptr (id : Pos) (g off : Nat) : nilC (.ptr id g off) h = .val (.ptr id g off) h := rfl
noncomputable def fldA (off : Nat) (x : AV) (h : Hp) : Res := match x with
  | .ptr id g o => .val (.ptr id g (o + off)) h
  | _ => .fail "fieldAddr"
theorem qev_fld (off : Nat) (x : Opd) : evalOp P (.fieldAddr off x) env h = fldA off (ev env x) h := by
  show (match ev env x with
    | .ptr id g o => natK (Nat.add o off) fun o => Res.val (.ptr id g o) h
    | _ => .fail "fieldAddr") = _
  unfold fldA
  cases ev env x <;> simp only [natK_eq] <;> rfl
theorem fldA_ptr (off : Nat) (id : Pos) (g o : Nat) : fldA off (.ptr id g o) h = .val (.ptr id g (o + off)) h := rfl
theorem qev_extract (x : Opd) (i : Nat) : evalOp P (.extract x i) env h = (match ev env x with
  | .tup l => opt h "extract" (nth l i)
  | _ => .fail "extract what") := rfl
theorem qev_eqPtr (neg : Bool) (x y : Opd) : evalOp P (.eqPtr neg x y) env h = opt h "eqPtr" (match sameP h (ev env x) (ev env y) with
  | some b => notIf neg b
  | none => none) := rfl
theorem sameP_nil (id : Pos) (g off : Nat) : sameP h (.ptr id g off) .nilPtr = some false := rfl
theorem qev_build (zero : List AV) (parts : List (Nat × Nat × Opd)) : evalOp P (.build zero parts) env h = (match fillA env zero parts with
  | some l => .val (.agg l) h
  | none => .fail "build") := rfl
end

theorem Gro.part {h : Hp} {id : Pos} {g : Nat} {l : List AV} (b : Gro h id g l) {off n : Nat} (hn : off + n ≤ l.length) : Row h id g off ((l.drop off).take n) := by
  obtain ⟨ser, c, hi, m, fz, e, hw, hl⟩ := b.mem
  have hs : c.size = l.length := by rw [← Cells.toL_length hw, hl]
  have q := Row.of_block (off := off) (n := n) e hw b.old (Nat.zero_le _) (by omega)
  rw [hl] at q
  exact q

noncomputable def slcA (x : AV) (l r : Nat) (h : Hp) : Res := match x with
  | .sl id g off _ cap _ _ => .val (.sl id g (off + l) (r - l) (cap - l) false 1) h
  | _ => .fail "slcA"

/-- What a slice expression without a third number comes to. -/
theorem slice_ev (P : Program) {env : T AV} {h : Hp} {x : Opd} {lo hi : Option Opd} {id : Pos} {g off len cap l r : Nat} (hx : ev env x = .sl id g off len cap false 1) (hl : evO env lo 0 = some l) (hr : evO env hi len = some r) (h1 : l ≤ r) (h2 : r ≤ cap) :
    evalOp P (.sliceSl 1 x lo hi none) env h = .val (.sl id g (off + l) (r - l) (cap - l) false 1) h := by
  have e : evalOp P (.sliceSl 1 x lo hi none) env h = (match ev env x with
    | .nilSl => (match evO env lo 0, evO env hi 0, evO env none 0 with
      | some 0, some 0, some 0 => .val .nilSl h
      | _, _, _ => .fail "sliceSl nil")
    | .sl id g off len cap ex es' =>
      (match evO env lo 0, evO env hi len, evO env none cap with
      | some l, some r, some m =>
        bif Nat.beq 1 es' && Nat.ble l r && Nat.ble r m && Nat.ble m cap then
          natK (Nat.sub r l) fun n => natK (Nat.sub m l) fun c => natK (Nat.add off (Nat.mul l 1)) fun off' =>
            .val (.sl id g (bif Nat.beq l m && (bif ex then true else (none : Option Opd).isSome) then off else off') n c (bif ex then true else (none : Option Opd).isSome) 1) h
        else .fail "sliceSl bounds"
      | _, _, _ => .fail "sliceSl")
    | _ => .fail "sliceSl what") := rfl
  rw [e, hx]
  simp only [hl, hr, show evO env none cap = some cap from rfl, natK_eq, ble_iff.2 h1, ble_iff.2 h2, ble_iff.2 (Nat.le_refl cap)]
  simp

theorem evO_int {env : T AV} {y : Opd} {n d : Nat} (h : ev env y = int64 (n : Int)) : evO env (some y) d = some n := by
  show (match ev env y with | .int _ (.ofNat n) => some n | _ => none) = _
  rw [h]

/-- So many zeros, appended to nothing. -/
theorem appendZ_new (P : Program) {env : T AV} {h : Hp} {s x : Opd} {n bytes : Nat} {z : AV} (hs : ev env s = .nilSl) (hx : ev env x = int64 n) (h0 : 0 < n) (hl : n ≤ 1073741824) (hb : bytes ≤ 4096) :
    evalOp P (.appendZ 1 bytes [z] s x) env h = .val (.sl h.next 0 0 n n false 1) (newH h fun s => .cells s (Cells.ofL (List.replicate n z)) 0 0 0 0 false false) := by
  have e : evalOp P (.appendZ 1 bytes [z] s x) env h = (match ev env x with
    | .int _ (.ofNat n) =>
      bif Nat.ble n 1073741824 && Nat.ble bytes 4096 then
        (bif Nat.beq n 0 then (match ev env s with | .sl id g off len cap ex es' => .val (.sl id g off len cap ex es') h | .nilSl => .val .nilSl h | _ => .fail "append")
        else appendSeg h 1 bytes (ev env s) n (Cells.ofL (replA n [z] [])))
      else .fail "appendZ size"
    | _ => .fail "appendZ") := rfl
  rw [e, hx, hs]
  have ok : okSize n bytes = true := by
    unfold okSize
    rw [ble_iff.2 hl, ble_iff.2 hb]; rfl
  show (bif Nat.ble n 1073741824 && Nat.ble bytes 4096 then (bif Nat.beq n 0 then Res.val .nilSl h else appendSeg h 1 bytes .nilSl n (Cells.ofL (replA n [z] []))) else .fail "appendZ size") = _
  rw [ble_iff.2 hl, ble_iff.2 hb, beq_false.2 (show n ≠ 0 by omega)]
  simp only [Bool.and_self, cond_true, cond_false]
  unfold appendSeg
  simp only [ok, show Nat.blt 0 1 = true from rfl, Bool.and_true, cond_true]
  unfold newCells
  rw [newK_newH, replA_one, List.append_nil]

/-- Appended within the room that is there. -/
theorem append_room (P : Program) {h : Hp} {v : AV} {id : Pos} {g k cap : Nat} {L l2 : List AV} {bytes : Nat} (ha : Gro h id g L) (hv : SlR h v l2) (hk : k + l2.length ≤ cap) (hL : k + l2.length ≤ L.length) (hl : k + l2.length ≤ 1073741824) (hb : bytes ≤ 4096) (hat : ∀ y ∈ l2, y.atom = true) :
    ∃ h', (∀ env s x, ev env s = .sl id g 0 k cap false 1 → ev env x = v → evalOp P (.append 1 bytes s x) env h = .val (.sl id g 0 (k + l2.length) cap false 1) h') ∧ Gro h' id g (L.take k ++ l2 ++ L.drop (k + l2.length)) ∧ Only [id] h h' ∧ h'.next = h.next := by
  by_cases h0 : l2 = []
  · subst h0
    refine ⟨h, fun env s x hs hx => ?_, by simpa using ha, .refl _ _, rfl⟩
    show appendA h 1 bytes (ev env s) (ev env x) = _
    rw [hs, hx]
    generalize hq : ([] : List AV) = l0 at hv
    cases hv with
    | nil => rfl
    | mk hn r =>
      subst hq
      simp at hn
      subst hn
      rfl
  · cases hv with
    | nil => exact absurd rfl h0
    | mk hn r =>
      rename_i id2 g2 off2 n2 cap2 ex2
      subst hn
      have hpos : 0 < l2.length := List.length_pos_iff.2 h0
      obtain ⟨seg, c1, c2, c3⟩ := r.all
      have hseg : seg.size = l2.length := by rw [← Cells.toL_length c2, c3]
      have src : srcCells h 1 l2.length (.sl id2 g2 off2 l2.length cap2 ex2 1) = some seg := by
        show readN h id2 g2 off2 (l2.length * 1) = some seg
        rw [Nat.mul_one]; exact c1
      have ok : okSize (Nat.add k l2.length) bytes = true := by
        unfold okSize
        rw [ble_iff.2 (show Nat.add k l2.length ≤ _ from hl), ble_iff.2 hb]; rfl
      obtain ⟨ser, c, hi, m, fz, eb, hw, hcl⟩ := ha.mem
      have hcs : c.size = L.length := by rw [← Cells.toL_length hw, hcl]
      have ats : seg.atoms = true := by
        cases seg with
        | byt n v => rfl
        | lst n L =>
          have : L = l2 := c3
          subst this
          show List.all _ _ = true
          rw [List.all_eq_true]
          exact hat
      obtain ⟨q1, q2, q3⟩ := Cells.splice_spec hw c2 (off := k) (by omega)
      refine ⟨⟨T.set id (some (.cells ser (c.splice k seg) 0 hi g (bif Nat.blt k hi then g else m) false fz)) h.heap, h.next, h.ser, h.lim⟩, fun env s x hs hx => ?_, ⟨ha.old, ser, c.splice k seg, hi, (bif Nat.blt k hi then g else m), fz, ?_, q1, ?_⟩, ⟨Nat.le_refl _, rfl, fun j _ q => ?_⟩, rfl⟩
      · show appendA h 1 bytes (ev env s) (ev env x) = _
        rw [hs, hx]
        unfold appendA
        simp only [lenA, beq_false.2 (show l2.length ≠ 0 by omega), cond_false, src]
        unfold appendSeg
        have ht : Nat.add 0 (Nat.mul k 1) = k := by show 0 + k * 1 = _; omega
        have hfit : Nat.ble (Nat.add k seg.size) c.size = true := ble_iff.2 (show k + seg.size ≤ c.size by omega)
        simp only [natK_eq, ok, show Nat.beq 1 1 = true from rfl, show Nat.blt 0 1 = true from rfl, Bool.and_true, Bool.and_self, Bool.not_true, cond_false, cond_true, show Nat.ble (Nat.add k l2.length) cap = true from ble_iff.2 hk, ht]
        unfold extendN
        simp only [eb, beq_iff.2 (rfl : g = g), show Nat.ble 0 k = true from ble_iff.2 (Nat.zero_le k), show Nat.ble k c.size = true from ble_iff.2 (by omega), ats, hfit, Bool.not_false, Bool.and_self, Bool.and_true, cond_true, T.setK_eq]
        rfl
      · show T.get id (T.set id _ h.heap) = _
        rw [T.get_set, if_pos rfl]
      · rw [q2, c3, hcl, hseg, List.append_assoc]
      · show T.get j (T.set id _ h.heap) = _
        rw [T.get_set, if_neg (by simpa using q)]

/-! ### Lists of one's own, that grow -/

def Own (N : Nat) (h : Hp) (v : AV) (l : List AV) : Prop :=
  (l = [] ∧ v = .nilSl) ∨ ∃ id g, N ≤ id.num ∧ v = .sl id g 0 l.length l.length false 1 ∧ Gro h id g l

theorem Own.sl {N : Nat} {h : Hp} {v : AV} {l : List AV} (o : Own N h v l) : SlR h v l := by
  rcases o with ⟨q1, q2⟩ | ⟨id, g, _, q2, q3⟩
  · subst q1 q2; exact .nil
  · subst q2; exact .mk rfl q3.row

theorem Own.only {N : Nat} {h h' : Hp} {v : AV} {l : List AV} {S : List Pos} (o : Own N h v l) (m : Only S h h') (hS : ∀ id g, v = .sl id g 0 l.length l.length false 1 → id ∉ S) : Own N h' v l :=
  o.imp id fun ⟨id, g, q0, q2, q3⟩ => ⟨id, g, q0, q2, q3.only m (hS id g q2)⟩

theorem Own.more {N : Nat} {h h' : Hp} {v : AV} {l : List AV} (o : Own N h v l) (m : Only [] h h') : Own N h' v l := o.only m fun _ _ _ => by simp

theorem Own.old {N : Nat} {h : Hp} {v : AV} {l : List AV} (o : Own N h v l) : ∀ id g off n cap ex, v = .sl id g off n cap ex 1 → N ≤ id.num ∧ id.num < h.next.num := by
  intro id g off n cap ex e
  rcases o with ⟨_, q⟩ | ⟨id', g', q0, q, q3⟩
  · rw [q] at e; cases e
  · rw [q] at e; cases e; exact ⟨q0, q3.old⟩

theorem append_env (P : Program) {env env' : T AV} {h : Hp} {s s' x x' : Opd} {n bytes : Nat} (hs : ev env s = ev env' s') (hx : ev env x = ev env' x') : evalOp P (.append n bytes s x) env h = evalOp P (.append n bytes s' x') env' h := by
  show appendA h n bytes (ev env s) (ev env x) = appendA h n bytes (ev env' s') (ev env' x')
  rw [hs, hx]

/-- More is appended. -/
theorem Own.push {N : Nat} {h : Hp} {v : AV} {l l2 : List AV} (o : Own N h v l) (P : Program) {v2 : AV} {bytes : Nat} (hv : SlR h v2 l2) (hy : ∀ y ∈ l2, y.atom = true) (hl : l.length + l2.length ≤ 1073741824) (hb : bytes ≤ 4096) (hN : N ≤ h.next.num) :
    ∃ v' h' S, (∀ env s x, ev env s = v → ev env x = v2 → evalOp P (.append 1 bytes s x) env h = .val v' h') ∧ Own N h' v' (l ++ l2) ∧ Only S h h' ∧ (∀ id ∈ S, N ≤ id.num ∧ ∃ g off n cap ex, v = .sl id g off n cap ex 1) ∧
      ∀ id g off n cap ex, v' = .sl id g off n cap ex 1 → (∃ g off n cap ex, v = .sl id g off n cap ex 1) ∨ h.next.num ≤ id.num := by
  by_cases h0 : l2 = []
  · subst h0
    refine ⟨v, h, [], fun env s x hs hx => ?_, by simpa using o, .refl _ _, by simp, fun id g off n cap ex e => .inl ⟨g, off, n, cap, ex, e⟩⟩
    show appendA h 1 bytes (ev env s) (ev env x) = _
    rw [hs, hx]
    generalize hq : ([] : List AV) = l0 at hv
    have hl0 : lenA v2 = some 0 := by
      cases hv with
      | nil => rfl
      | mk hn r => subst hq; simp at hn; subst hn; rfl
    unfold appendA
    rw [hl0]
    rcases o with ⟨_, q⟩ | ⟨id, g, _, q, _⟩ <;> subst q <;> rfl
  · rcases o with ⟨q1, q2⟩ | ⟨id, g, q0, q2, q3⟩
    · subst q1 q2
      obtain ⟨h', e, a, o, n⟩ := append_new' P (env := .e) (h := h) (s := vl .nilSl) (x := vl v2) (bytes := bytes) rfl hv h0 (by simpa using hl) hb (.inl rfl)
      exact ⟨_, h', [], fun env s x hs hx => (append_env P (env := env) (env' := .e) (s := s) (s' := vl .nilSl) (x := x) (x' := vl v2) hs hx).trans e, .inr ⟨h.next, 0, hN, rfl, a.gro⟩, o, by simp, fun id g off n cap ex e => by cases e; exact .inr (Nat.le_refl _)⟩
    · subst q2
      obtain ⟨h', e, a, o, n⟩ := append_gro P (env := .e) (h := h) (s := vl (.sl id g 0 l.length l.length false 1)) (x := vl v2) (bytes := bytes) (l2 := l2) rfl q3 rfl hv h0 hl hb hy
      exact ⟨_, h', [id], fun env s x hs hx => (append_env P (env := env) (env' := .e) (s := s) (s' := vl (.sl id g 0 l.length l.length false 1)) (x := x) (x' := vl v2) hs hx).trans e, .inr ⟨id, g + 1, q0, by simp, a⟩, o,
        fun id' hid => by simp at hid; subst hid; exact ⟨q0, _, _, _, _, _, rfl⟩, fun id' g' off n cap ex e => by cases e; exact .inl ⟨_, _, _, _, _, rfl⟩⟩

/-- A list of one, made. -/
theorem build1' (P : Program) (h : Hp) (z y : AV) (hc : y.cells = [y]) : ∃ h', (∀ env x, ev env x = y → evalOp P (.buildSl 1 1 [z] [(0, 1, x)]) env h = .val (.sl h.next 0 0 1 1 true 1) h') ∧ SlR h' (.sl h.next 0 0 1 1 true 1) [y] ∧ Only [] h h' ∧ h'.next.num = h.next.num + 1 := by
  refine ⟨newH h fun s => .cells s (Cells.ofL [y]) 0 0 0 0 false false, fun env x hx => ?_, ?_, newH_only _ _ _, newH_next _ _⟩
  · have e : evalOp P (.buildSl 1 1 [z] [(0, 1, x)]) env h = (match fillA env (replA 1 [z] []) [(0, 1, x)] with
      | some l => bif Nat.blt 0 1 then newCells h (Cells.ofL l) fun id h => .val (.sl id 0 0 1 1 true 1) h else .fail "buildSl"
      | none => .fail "buildSl") := rfl
    have f : fillA env (replA 1 [z] []) [(0, 1, x)] = some [y] := by simp [fillA, replA, hx, hc]; rfl
    rw [e, f]
    show (bif Nat.blt 0 1 then newCells h (Cells.ofL _) fun id h => Res.val (.sl id 0 0 1 1 true 1) h else .fail "buildSl") = _
    rw [show Nat.blt 0 1 = true from rfl, cond_true]
    unfold newCells
    rw [newK_newH]
  · have q := newH_row (h := h) (c := Cells.ofL [y]) (Cells.ofL_spec _).1 (ser := fun s => s) (fz := false)
    rw [(Cells.ofL_spec _).2.1] at q
    exact .mk rfl q

/-! ### A region that draws its order and makes one block -/

noncomputable def resvH (h : Hp) (b : Blk) : Hp := ⟨T.set h.next (some b) h.heap, h.next.succ, h.ser, h.lim⟩

theorem resvH_only (h : Hp) (b : Blk) : Only [] h (resvH h b) :=
  ⟨by show h.next.num ≤ h.next.succ.num; rw [Pos.num_succ]; omega, rfl, fun id hid _ => by
    show T.get id (T.set h.next _ h.heap) = _
    rw [T.get_set, if_neg fun c => by subst c; omega]⟩

theorem resvH_next (h : Hp) (b : Blk) : (resvH h b).next.num = h.next.num + 1 := Pos.num_succ _

theorem resvH_row (h : Hp) (ser : Nat) (l : List AV) : SlR (resvH h (.cells ser (Cells.ofL l) 0 0 0 0 false false)) (.sl h.next 0 0 l.length l.length true 1) l := by
  refine .mk rfl ?_
  have hw := (Cells.ofL_spec l).1
  have hl := (Cells.ofL_spec l).2.1
  have hs : (Cells.ofL l).size = l.length := by rw [← Cells.toL_length hw, hl]
  have q := Row.of_block (h := resvH h (.cells ser (Cells.ofL l) 0 0 0 0 false false)) (id := h.next) (off := 0) (n := l.length) (c := Cells.ofL l) (by show T.get h.next (T.set h.next _ h.heap) = _; rw [T.get_set, if_pos rfl]) hw (by rw [resvH_next]; omega) (Nat.le_refl _) (by omega)
  rw [List.drop_zero, hl, List.take_length] at q
  exact q

/-- A list of two, made in its own small heap. -/
theorem build2_resv (P : Program) {env : T AV} {id : Pos} {ser lim : Nat} {z x y : AV} {a b : Opd} (ha : ev env a = x) (hb : ev env b = y) (cx : x.cells = [x]) (cy : y.cells = [y]) :
    evalOp P (.buildSl 2 1 [z] [(0, 1, a), (1, 1, b)]) env ⟨.e, id, ser, lim⟩ = .val (.sl id 0 0 2 2 true 1) ⟨T.set id (some (.cells ser (Cells.ofL [x, y]) 0 0 0 0 false false)) .e, id.succ, Nat.succ ser, lim⟩ := by
  have e : evalOp P (.buildSl 2 1 [z] [(0, 1, a), (1, 1, b)]) env ⟨.e, id, ser, lim⟩ = (match fillA env (replA 2 [z] []) [(0, 1, a), (1, 1, b)] with
    | some l => bif Nat.blt 0 1 then newCells ⟨.e, id, ser, lim⟩ (Cells.ofL l) fun id h => .val (.sl id 0 0 2 2 true 1) h else .fail "buildSl"
    | none => .fail "buildSl") := rfl
  have f : fillA env (replA 2 [z] []) [(0, 1, a), (1, 1, b)] = some [x, y] := by simp [fillA, replA, ha, hb, cx, cy]; rfl
  rw [e, f]
  show (bif Nat.blt 0 1 then newCells _ (Cells.ofL _) fun id h => Res.val (.sl id 0 0 2 2 true 1) h else .fail "buildSl") = _
  rw [show Nat.blt 0 1 = true from rfl, cond_true]
  unfold newCells
  rw [newK_newH]
  rfl

/-- As stepD, new blocks too. -/
noncomputable def stepE (P : Program) (rec : St → Out) (i : Nat) (s : DS) (o : O) : Option DS :=
  match kindOf o.op with
  | .alloc => if wantedA o s.env = true then (match evalOp P o.op s.env ⟨.e, s.rid, s.h.ser, s.rid.num + 1⟩ with
    | .val v h' => (match T.get s.rid h'.heap with
      | some b => some ⟨s.acts, s.lds, ⟨i, s.rid, b⟩ :: s.als, s.rid.succ, setD s.env o.dst v, s.h⟩
      | none => none)
    | _ => none) else some ⟨s.acts, s.lds, s.als, s.rid.succ, setD s.env o.dst .undef, s.h⟩
  | _ => stepD P rec i s o

noncomputable def runE (P : Program) (rec : St → Out) : Nat → List O → DS → Option DS
  | _, [], s => some s
  | i, o :: l, s => match stepE P rec i s o with
    | some s' => runE P rec (i + 1) l s'
    | none => none

theorem stepE_go {P : Program} {rec : St → Out} {K : T AV → Hp → Out} {i : Nat} {s s' : DS} {o : O} (e : stepE P rec i s o = some s') (rest : List O) :
    drawnGo P rec K i s.acts s.lds s.als s.rid s.env s.h (o :: rest) = drawnGo P rec K (i + 1) s'.acts s'.lds s'.als s'.rid s'.env s'.h rest := by
  unfold stepE at e
  split at e
  · rename_i hk
    rw [show drawnGo P rec K i s.acts s.lds s.als s.rid s.env s.h (o :: rest) = _ from by unfold drawnGo; rfl]
    rw [hk]
    split at e
    · rename_i hw
      rw [hw]
      split at e
      · rename_i v h1 he
        split at e
        · rename_i b hb
          cases e
          simp only [cond_true, he, hb, setDst_eq]
        · cases e
      · cases e
    · rename_i hw
      have hw : wantedA o s.env = false := by simpa using hw
      rw [hw]
      cases e
      simp only [cond_false, setDst_eq]
  · exact stepD_go e rest

theorem runE_go {P : Program} {rec : St → Out} {K : T AV → Hp → Out} {rest : List O} : ∀ {l : List O} {i : Nat} {s s' : DS}, runE P rec i l s = some s' →
    drawnGo P rec K i s.acts s.lds s.als s.rid s.env s.h (l ++ rest) = drawnGo P rec K (i + l.length) s'.acts s'.lds s'.als s'.rid s'.env s'.h rest
  | [], i, s, s', e => by cases e; rfl
  | o :: l, i, s, s', e => by
    unfold runE at e
    split at e
    · rename_i s1 he
      rw [List.cons_append, stepE_go he, runE_go e, List.length_cons, show i + 1 + l.length = i + (l.length + 1) by omega]
    · cases e

theorem runE_app {P : Program} {rec : St → Out} : ∀ {l r : List O} {i : Nat} {s s1 : DS}, runE P rec i l s = some s1 → runE P rec i (l ++ r) s = runE P rec (i + l.length) r s1
  | [], r, i, s, s1, e => by cases e; rfl
  | o :: l, r, i, s, s1, e => by
    unfold runE at e
    show runE P rec i (o :: (l ++ r)) s = _
    rw [runE]
    split at e
    · rename_i s2 he
      rw [runE_app e, List.length_cons, show i + 1 + l.length = i + (l.length + 1) by omega]
    · cases e

/-- A region that draws its order: all that it made has been seen. -/
theorem runDrawn_ofE {P : Program} {rec : St → Out} {l : List O} {env env' : T AV} {h h' : Hp} {acts : List Actor} {lds : List Ld} {rid : Pos} (e : runE P rec 0 l ⟨[], [], [], h.next, env, ⟨h.heap, skipIds l h.next, h.ser, h.lim⟩⟩ = some ⟨acts, lds, [], rid, env', h'⟩) :
    runDrawn P rec l env h = some (env', h') := by
  unfold runDrawn
  have q := runE_go (K := kD) (rest := []) e
  rw [List.append_nil] at q
  have q : drawnGo P rec kD 0 [] [] [] h.next env ⟨h.heap, skipIds l h.next, h.ser, h.lim⟩ l = drawnGo P rec kD (0 + l.length) acts lds [] rid env' h' [] := q
  rw [q]
  rfl

theorem nth0 (x : AV) (l : List AV) : nth (x :: l) 0 = some x := rfl
theorem nth1 (x y : AV) (l : List AV) : nth (x :: y :: l) 1 = some y := rfl
theorem nth2 (x y z : AV) (l : List AV) : nth (x :: y :: z :: l) 2 = some z := rfl

/-! ### Operations that the machine does not do, by their place -/

noncomputable def badsO : List O → List String
  | [] => []
  | o :: l => match o.op with
    | .bad w => w :: badsO l
    | _ => badsO l

noncomputable def badsC : C → List String
  | .region l => badsO l
  | .drawn l => badsO l
  | .seq a b => badsC a ++ badsC b
  | .cond _ a b => badsC a ++ badsC b
  | .block _ b => badsC b
  | .loop b => badsC b
  | .scope b => badsC b
  | .rangeFunc _ _ a b => badsC a ++ badsC b
  | .bad w => [w]
  | _ => []

noncomputable def badN (P : Program) (f : FuncId) (i : Nat) : String := match compFn P f with
  | some fu => (badsC fu.body).getD i ""
  | none => ""
end Go.Proofs.Ytmifpiglcphmoaa.Am
