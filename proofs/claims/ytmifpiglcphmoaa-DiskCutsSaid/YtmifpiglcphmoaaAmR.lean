import Derived.Test.YtmifpiglcphmoaaAmQ
/- THE ABSTRACT MACHINE, part R: a machine over values without block numbers, run by the kernel, and the proof that the model's machine does what it does. No condition. -/
set_option linter.unusedSimpArgs false
set_option linter.unusedVariables false
namespace Go.Proofs.Ytmifpiglcphmoaa.Am
open Go.RowKit

open Classical in
/-- Answers that are known, by the call. -/
noncomputable def recG (P : Program) : List KC → St → Out
  | [], _ => .fail ""
  | a :: A, s => if s = ⟨frOf P a.f a.args, [], a.h⟩ then .done a.v a.h' else recG P A s

theorem recG_sound {P : Program} : ∀ {A : List KC}, (∀ a ∈ A, AmFn P a.f a.args a.h a.v a.h') → Sound P (recG P A)
  | [], _ => fun _ _ _ _ _ _ _ _ _ => trivial
  | a :: A, h => fun s φ w g c0 hs hR hz hF => by
    unfold recG
    split
    · rename_i e
      subst e
      have q1 := h a (by simp)
      have q2 := q1.begins.1
      obtain ⟨fr', e1, e2⟩ := q1.ans
      rw [q2] at e1
      cases e1
      exact e2 φ w g [] c0 hR hz hF .nil
    · exact recG_sound (fun y hy => h y (List.mem_cons_of_mem _ hy)) s φ w g c0 hs hR hz hF

theorem recG_hit {P : Program} (f : FuncId) (args : List AV) (h : Hp) (v : AV) (h' : Hp) (A : List KC) : recG P (⟨f, args, h, v, h'⟩ :: A) ⟨frOf P f args, [], h⟩ = .done v h' := by
  unfold recG
  rw [if_pos rfl]

/-- A call with another answer ahead of it: it is another call, or the answer is the same. -/
theorem recG_next {P : Program} {a : KC} {A : List KC} {f : FuncId} {args : List AV} {h : Hp} {o : Out} (e : recG P A ⟨frOf P f args, [], h⟩ = o) (q : frOf P f args = frOf P a.f a.args → h = a.h → o = .done a.v a.h') : recG P (a :: A) ⟨frOf P f args, [], h⟩ = o := by
  unfold recG
  split
  · rename_i c
    injection c with c1 _ c2
    exact (q c1 c2).symm
  · exact e

theorem frOf_fn {P : Program} {f f' : FuncId} {args args' : List AV} {h h' h1 h1' : Hp} {v v' : AV} (a : AmFn P f args h v h') (b : AmFn P f' args' h1 v' h1') (e : frOf P f args = frOf P f' args') : f = f' := by
  rw [← a.begins.2, ← b.begins.2, e]

theorem frOf_env {P : Program} {f : FuncId} {args : List AV} {h h' : Hp} {v : AV} (a : AmFn P f args h v h') : (frOf P f args).env = setArgs .e 0 args := by
  obtain ⟨e, _⟩ := a.begins
  have e0 := e
  unfold beginFn at e
  split at e
  · rename_i fu _
    cases hl : Nat.ble args.length fu.nargs with
    | true => rw [hl] at e; have := Option.some.inj e; rw [← this]
    | false => rw [hl] at e; cases e
  · cases e

/-- One record, laid within a region. -/
theorem oneSl_resv (P : Program) {es : Nat} {z l : List AV} (hes : 0 < es) (hz : z.length = es) (hl : l.length = es) {env : T AV} {id : Pos} {ser lim : Nat} {x : Opd} (hx : (ev env x).cells = l) :
    evalOp P (.buildSl 1 es z [(0, es, x)]) env ⟨.e, id, ser, lim⟩ = .val (.sl id 0 0 1 1 true es) ⟨T.set id (some (.cells ser (Cells.ofL l) 0 0 0 0 false false)) .e, id.succ, Nat.succ ser, lim⟩ := by
  have e : evalOp P (.buildSl 1 es z [(0, es, x)]) env ⟨.e, id, ser, lim⟩ = (match fillA env (replA 1 z []) [(0, es, x)] with
    | some l => bif Nat.blt 0 es then newCells ⟨.e, id, ser, lim⟩ (Cells.ofL l) fun id h => .val (.sl id 0 0 1 1 true es) h else .fail "buildSl"
    | none => .fail "buildSl") := rfl
  have f : fillA env (replA 1 z []) [(0, es, x)] = some l := by
    have r : replA 1 z [] = z := by show z ++ [] = z; simp
    rw [r]
    unfold fillA
    simp only [hx, hl, hz, beq_iff.2 (rfl : es = es), show Nat.ble (Nat.add 0 es) es = true from ble_iff.2 (by show 0 + es ≤ es; omega), Bool.and_self, cond_true]
    unfold fillA
    simp [show Nat.add 0 es = z.length from by show 0 + es = _; omega, hz]
  rw [e, f]
  show (bif Nat.blt 0 es then newCells _ (Cells.ofL l) fun id h => Res.val (.sl id 0 0 1 1 true es) h else .fail "buildSl") = _
  rw [blt_iff.2 hes, cond_true]
  unfold newCells
  rw [newK_newH]
  rfl

theorem resvH_arr (h : Hp) (ser : Nat) (l : List AV) : Arr (resvH h (.cells ser (Cells.ofL l) 0 0 0 0 false false)) h.next l :=
  ⟨by rw [resvH_next]; omega, ser, Cells.ofL l, false, by show T.get h.next (T.set h.next _ h.heap) = _; rw [T.get_set, if_pos rfl], (Cells.ofL_spec l).1, (Cells.ofL_spec l).2.1⟩

theorem eqLs_refl {f : AV → AV → Bool} : ∀ {l : List AV}, (∀ x ∈ l, f x x = true) → eqLs f l l = true
  | [], _ => rfl
  | x :: l, h => by
    unfold eqLs
    rw [h x (by simp), eqLs_refl fun y hy => h y (List.mem_cons_of_mem _ hy)]
    rfl

theorem eqAV_agg (n : Nat) {l : List AV} (h : ∀ x ∈ l, eqAV n x x = true) : eqAV (n + 1) (.agg l) (.agg l) = true := by
  unfold eqAV
  exact eqLs_refl h

theorem SlN.eqv {h : Hp} {es n : Nat} {v : AV} {l : List AV} (r : SlN h es v n l) (k : Nat) : eqAV (k + 1) v v = true := by
  cases r
  · rfl
  · unfold eqAV
    simp only [eqP_iff.2 (rfl), beq_iff.2 (rfl : _ = _), eqB_iff.2 (rfl), Bool.and_self]
  · unfold eqAV
    simp only [eqP_iff.2 (rfl), beq_iff.2 (rfl : _ = _), eqB_iff.2 (rfl), Bool.and_self]

/-- A record of a list of one's own. -/
theorem Held.record {N : Nat} {h : Hp} {es n : Nat} {v : AV} {l : List AV} (o : Held N h es v n l) {i : Nat} (hi : i < n) : ∃ id g c, v = .sl id g 0 n n false es ∧ readN h id g (i * es) es = some c ∧ c.toL = (l.drop (i * es)).take es := by
  rcases o with ⟨q, _⟩ | ⟨id, g, _, q2, q3, q4⟩
  · omega
  · have hle : (i + 1) * es ≤ l.length := by rw [q4]; exact Nat.mul_le_mul_right _ hi
    rw [Nat.add_mul, Nat.one_mul] at hle
    obtain ⟨c, c1, _, c3⟩ := (q3.part (off := i * es) (n := es) hle).all
    rw [List.length_take, List.length_drop, Nat.min_eq_left (by omega)] at c1
    exact ⟨id, g, c, q2, c1, c3⟩

/-- A whole block is read. -/
theorem Arr.whole {h : Hp} {id : Pos} {l : List AV} (a : Arr h id l) (P : Program) {n : Nat} (hn : l.length = n) : ∀ env x, ev env x = .ptr id 0 0 → evalOp P (.loadN n x) env h = .val (.agg l) h := by
  intro env x hx
  obtain ⟨c, c1, _, c3⟩ := a.row.all
  rw [hn] at c1
  rw [qev_loadN P hx c1, c3]

theorem Arr.slN {h : Hp} {id : Pos} {l : List AV} (a : Arr h id l) {es n cap : Nat} {ex : Bool} (hl : l.length = n * es) : SlN h es (.sl id 0 0 n cap ex es) n l := .mk hl a.row

/-- The blocks of a stretch. -/
theorem stretch (a : Nat) : ∀ b : Nat, ∃ S : List Pos, ∀ id : Pos, id ∈ S ↔ a ≤ id.num ∧ id.num < b
  | 0 => ⟨[], fun id => by simp⟩
  | b + 1 => by
    obtain ⟨S, hS⟩ := stretch a b
    by_cases c : ∃ id : Pos, id.num = b ∧ a ≤ b
    · obtain ⟨id0, e, hab⟩ := c
      refine ⟨id0 :: S, fun id => ?_⟩
      rw [List.mem_cons, hS]
      refine ⟨fun q => ?_, fun q => ?_⟩
      · rcases q with q | q
        · subst q; omega
        · omega
      · by_cases e2 : id.num = b
        · exact .inl (Pos.num_inj (by omega))
        · exact .inr (by omega)
    · refine ⟨S, fun id => ?_⟩
      rw [hS]
      refine ⟨fun q => by omega, fun q => ⟨q.1, ?_⟩⟩
      by_cases e2 : id.num = b
      · exact absurd ⟨id, e2, by omega⟩ c
      · omega

/-- A block of one cell, laid within a region. -/
theorem new_resv (P : Program) {env : T AV} {id : Pos} {ser lim : Nat} (x : AV) :
    evalOp P (.new [x]) env ⟨.e, id, ser, lim⟩ = .val (.ptr id 0 0) ⟨T.set id (some (.cells ser (Cells.ofL [x]) 0 0 0 0 false false)) .e, id.succ, Nat.succ ser, lim⟩ := by
  rw [qev_newL]
  rfl

theorem Box.arr {h : Hp} {id : Pos} {x : AV} (b : Box h id x) : Arr h id [x] :=
  let ⟨ser, fz, e⟩ := b.mem
  ⟨b.old, ser, Cells.ofL [x], fz, e, (Cells.ofL_spec [x]).1, (Cells.ofL_spec [x]).2.1⟩

theorem Arr.load {h : Hp} {id : Pos} {x : AV} (b : Arr h id [x]) : read1 h id 0 0 = some x := b.one (i := 0) (by simp)

/-- A record of a slice that is handed in, cell by cell. -/
theorem Tree.recordOne {P : Program} {h : Hp} {d : Nat} {t e : TypeId} {v : AV} (hd : P.underlying t = some (.slice e)) (a : Tree P h (d + 1) t [v]) {i : Nat} (hi : i < lenOf v) :
    ∃ id cap l, v = .sl id 0 0 (lenOf v) cap true (P.cellsOf e) ∧ Tree P h d e l ∧ ∀ h', Only [] h h' → ∀ k, k < l.length → read1 h' id 0 (i * P.cellsOf e + k) = l[k]? := by
  rcases a.of_slice hd with q | ⟨id, g, off, q⟩ | ⟨id, n, cap, L, q, hn, hw, fx, hL, hx⟩
  · cases q; cases hi
  · cases q; cases hi
  · cases q
    have hi : i < n := hi
    have hle : (i + 1) * P.cellsOf e ≤ L.length := by rw [hL]; exact Nat.mul_le_mul_right _ (by omega)
    rw [Nat.add_mul, Nat.one_mul] at hle
    exact ⟨id, cap, _, rfl, hx i (by omega), fun h' m k hk => ((fx.only m (by simp)).part (off := i * P.cellsOf e) (n := P.cellsOf e) hle).one k hk⟩

theorem u8_of {n : Int} (h : (Lit.int .u8 n).wf = true) : ∃ b : UInt8, n = (b.toNat : Int) := by
  have : 0 ≤ n ∧ n < 256 := by
    simp [Lit.wf, IntKind.min, IntKind.max, IntKind.bits, IntKind.signed] at h
    omega
  refine ⟨UInt8.ofNat n.toNat, ?_⟩
  rw [UInt8.toNat_ofNat']
  omega

/-- A slice of bytes that is handed in. -/
theorem Tree.bytes {P : Program} {h : Hp} {d : Nat} {t e : TypeId} {v : AV} (hd : P.underlying t = some (.slice e)) (he : P.underlying e = some (.int .u8)) (hc : P.cellsOf e = 1) (hb : 1 ≤ P.bytesOf e ∧ P.bytesOf e ≤ 4096) (a : Tree P h (d + 2) t [v]) :
    ∃ b : List UInt8, SlN h 1 v b.length (byt b) ∧ okSize b.length (P.bytesOf e) = true := by
  obtain ⟨ys, r, _, ok⟩ := Tree.ones (d := d + 1) hd hc hb a (fun x : UInt8 => byteV x.toNat) (fun x hx => by
    obtain ⟨n, e1, wf⟩ := hx.of_int (d := d) he
    obtain ⟨b, e2⟩ := u8_of wf
    cases e1
    subst e2
    exact ⟨b, rfl⟩)
  have hy : (ys.map fun x : UInt8 => byteV x.toNat) = byt ys := rfl
  rw [hy] at r
  refine ⟨ys, ?_, ok⟩
  have hlen : (byt ys).length = ys.length := byt_length ys
  generalize hq : byt ys = L at r hlen
  cases r with
  | nil =>
    have : ys.length = 0 := by rw [← hlen]; rfl
    rw [this]; exact .nil
  | emp =>
    have : ys.length = 0 := by rw [← hlen]; rfl
    rw [this]; exact .emp
  | mk hn r =>
    rw [hlen] at hn
    subst hn
    exact .mk (by rw [hlen, Nat.mul_one]) r
end Go.Proofs.Ytmifpiglcphmoaa.Am
