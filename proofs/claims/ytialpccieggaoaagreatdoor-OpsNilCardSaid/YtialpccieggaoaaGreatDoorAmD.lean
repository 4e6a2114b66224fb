import Derived.Test.YtialpccieggaoaaGreatDoorAmC
/- THE ABSTRACT MACHINE, part D: a machine over values without block numbers, run by the kernel, and the proof that the model's machine does what it does. No condition. -/
set_option linter.unusedSimpArgs false
set_option linter.unusedVariables false
namespace Go.Proofs.YtialpccieggaoaaGreatDoor.Am

theorem zeroT_run {P : Program} {t : TypeId} {z : AV} (h : zeroT P t = some z) (φ : Phi) (w : World) : ∃ x, (zeroValue t).run P w = .ok x w ∧ Rel φ z x := by
  unfold zeroT at h
  cases e : P.info? t with
  | none => rw [e] at h; cases h
  | some i =>
    rw [e, Option.bind_some] at h
    cases ez : i.zero with
    | none => rw [ez] at h; cases h
    | some x =>
      rw [ez, Option.bind_some] at h
      refine ⟨x, ?_, absV_rel φ _ x z h⟩
      unfold zeroValue
      rw [Sem.run_bind, run_typeInfo w e, Result.andThen_ok, ez]; rfl

theorem elem_underlying {P : Program} {t e : TypeId} (h : elemOfSlice P t = some e) : P.underlying t = some (.slice e) ∧ okT P e = true := by
  unfold elemOfSlice at h
  split at h
  · rename_i e' hd
    cases ho : okT P e' with
    | false => rw [ho] at h; cases h
    | true => rw [ho] at h; cases h; exact ⟨hd, ho⟩
  · cases h

theorem array_underlying {P : Program} {t e : TypeId} {n : Nat} (h : arrayOf P t = some (n, e)) : P.underlying t = some (.array n e) ∧ okT P e = true := by
  unfold arrayOf at h
  split at h
  · rename_i n' e' hd
    cases ho : okT P e' with
    | false => rw [ho] at h; cases h
    | true => rw [ho] at h; cases h; exact ⟨hd, ho⟩
  · cases h

theorem field_underlying {P : Program} {t : TypeId} {f : Nat} {fd : Field} (h : fieldOf P t f = some fd) : ∃ fs, P.underlying t = some (.struct fs) ∧ fs[f]? = some fd ∧ okT P fd.type = true := by
  unfold fieldOf at h
  split at h
  · rename_i fs hd
    split at h
    · rename_i fd' hf
      cases ho : okT P fd'.type with
      | false => rw [ho] at h; cases h
      | true => rw [ho] at h; cases h; exact ⟨fs, hd, hf, ho⟩
    · cases h
  · cases h

section
variable {P : Program} {φ : Phi} {h : Hp} {w : World} {env : T AV} {a : Act} {o : Oper}

/-- A row made of a value's cells. -/
theorem ResR.new (hR : HR P φ h w) (hm : Room h) {l : List AV} {xs : List Value} (hl : RelL φ l xs) (el : TypeId) {R : Result Next} (e : R = .ok (.value (.pointer (some ⟨w.heap.size, 0, none⟩))) (w.alloc (.cells xs.toArray el (0, 0)))) :
    ResR P φ h w (newCells h (Cells.ofL l) fun id h => .val (.ptr id 0 0) h) R := by
  obtain ⟨w1, t1, _⟩ := Cells.ofL_spec l
  have hl' : RelL φ (Cells.ofL l).toL xs := by rw [t1]; exact hl
  obtain ⟨n1, n2⟩ := newCells_run hR hm w1 hl' (spare := []) el (0, 0) false rfl 0 (Nat.succ h.ser) (.inl rfl)
  simp only [List.append_nil] at n1 n2
  unfold newCells
  rw [newK_eq]
  exact ⟨_, _, _, _, e, .inl rfl, n1, n2, .ptr (Phi.put_same _ _ _ _) rfl rfl rfl⟩

/-- The same, of a type that is kept in mind. -/
theorem ResR.newT (hR : HR P φ h w) (hm : Room h) {l : List AV} {xs : List Value} (el : TypeId) (hc : l.length = P.cellsOf el) (hl : RelL φ l xs) {R : Result Next} (e : R = .ok (.value (.pointer (some ⟨w.heap.size, 0, none⟩))) (w.alloc (.cells xs.toArray el (0, 0)))) :
    ResR P φ h w (newCellsN h (Nat.succ (Nat.succ el)) (Cells.ofL l) fun id h => .val (.ptr id 0 0) h) R := by
  obtain ⟨w1, t1, _⟩ := Cells.ofL_spec l
  have hl' : RelL φ (Cells.ofL l).toL xs := by rw [t1]; exact hl
  obtain ⟨n1, n2⟩ := newCells_run hR hm w1 hl' (spare := []) el (0, 0) false rfl (Nat.succ (Nat.succ el)) (Nat.succ h.ser) (.inr (.inr ⟨el, rfl, rfl, rfl, by rw [List.append_nil, ← hl.length, hc]⟩))
  simp only [List.append_nil] at n1 n2
  unfold newCellsN
  rw [newK_eq]
  exact ⟨_, _, _, _, e, .inl rfl, n1, n2, .ptr (Phi.put_same _ _ _ _) rfl rfl rfl⟩

theorem op_alloc (hR : HR P φ h w) (hm : Room h) {t : TypeId} {z : AV} (hz : zeroT P t = some z) (ho : o.op = .alloc t) : ResR P φ h w (evalOp P (.new z.cells) env h) ((execOp a.eval o).run P w) := by
  obtain ⟨x, e1, e2⟩ := zeroT_run hz φ w
  refine ResR.new hR hm e2.cells t ?_
  simp only [execOp, ho, Instr.alloc]
  simp only [Sem.run_bind, e1, Result.andThen_ok, newVar, newRow, run_newObj, Sem.run_pure]
  simp only [Array.toArray_toList]
  rfl

theorem op_allocT (hR : HR P φ h w) (hm : Room h) {t : TypeId} {z : AV} (hz : zeroT P t = some z) (hc : z.cells.length = P.cellsOf t) (ho : o.op = .alloc t) : ResR P φ h w (evalOp P (.newT t z.cells) env h) ((execOp a.eval o).run P w) := by
  obtain ⟨x, e1, e2⟩ := zeroT_run hz φ w
  refine ResR.newT hR hm t hc e2.cells ?_
  simp only [execOp, ho, Instr.alloc]
  simp only [Sem.run_bind, e1, Result.andThen_ok, newVar, newRow, run_newObj, Sem.run_pure]
  simp only [Array.toArray_toList]
  rfl

theorem op_box (hR : HR P φ h w) (hE : EnvR φ env a.tmps) (hm : Room h) {t : TypeId} {x : Operand} {x' : Opd} (hx : compOpd P x = some x') (ho : o.op = .box t x) : ResR P φ h w (evalOp P (.box x') env h) ((execOp a.eval o).run P w) := by
  refine ResR.new hR hm (opd_rel hR hE hx).cells t ?_
  simp only [execOp, ho, Instr.box]
  simp only [Sem.run_bind, Result.andThen_ok, newVar, newRow, run_newObj, Sem.run_pure]
  simp only [Array.toArray_toList]
  rfl

theorem op_load1 (hR : HR P φ h w) (hE : EnvR φ env a.tmps) {t : TypeId} {d : TypeDesc} {x : Operand} {x' : Opd} (hx : compOpd P x = some x') (hd : P.underlying t = some d) (hg : isAggT P t = false) (ho : o.op = .load t x) :
    ResR P φ h w (evalOp P (.load1 x') env h) ((execOp a.eval o).run P w) := by
  have rx := opd_rel hR hE hx
  unfold evalOp
  simp only
  generalize hX : a.eval x = X at *
  split
  · rename_i id g off e
    rw [e] at rx
    refine ResR.opt hR fun v ev => ?_
    cases rx with
    | ptr k1 k2 k3 k4 =>
      obtain ⟨y, e1, e2⟩ := read1_run hR ev k1 k2 k4 k3
      refine ⟨y, ?_, e2⟩
      simp only [execOp, ho, hX, Instr.loadAt, Instr.sureAddr, loadVar]
      simp only [Sem.run_bind, Sem.run_pure, Result.andThen_ok, run_isAgg' hd, hg, Bool.false_eq_true, if_false, run_load, e1]
  · trivial

/-- A number's bound is learnt. -/
theorem rng_hr (hR : HR P φ h w) {id : Pos} {s n lo hi g m c' : Nat} {fz : Bool} (hid : T.get id h.heap = some (.cells s (.lst 1 [.rng 0 n]) lo hi g m true fz)) (hm : m = g) (hlo : lo = 0)
    (hc : ∀ b s' n' C el fr x, φ id g = some (b, s', n') → w.heap[b]? = some (.cells C el fr) → (∃ o : Nat, (o : Int) = s' ∧ C[o]? = some (.int .i64 x)) → rngOk c' n x) :
    HR P φ ⟨T.set id (some (.cells s (.lst 1 [.rng c' n]) lo hi g m true fz)) h.heap, h.next, h.ser, h.lim⟩ w ∧ Adv h w φ ⟨T.set id (some (.cells s (.lst 1 [.rng c' n]) lo hi g m true fz)) h.heap, h.next, h.ser, h.lim⟩ w φ := by
  subst hm; subst hlo
  have hnr : ∀ j, Nonro ⟨T.set id (some (.cells s (.lst 1 [.rng c' n]) 0 hi m m true fz)) h.heap, h.next, h.ser, h.lim⟩ j → Nonro h j := fun j ⟨b, e, f⟩ => by
    simp only at e
    rw [T.get_set] at e
    by_cases c : j = id
    · rw [if_pos c] at e; cases e; cases f
    · rw [if_neg c] at e; exact ⟨b, e, f⟩
  refine ⟨⟨fun j b e => ?_, hR.used, fun j b e => ?_, fun id1 g1 b s1 n1 id' g' s' n' k k' => (hR.sep id1 g1 b s1 n1 id' g' s' n' k k').imp _root_.id fun q => ⟨fun z => q.1 (hnr _ z), fun z => q.2 (hnr _ z)⟩, hR.inb, hR.glob⟩,
    ⟨Le.refl φ, rfl, rfl, rfl, Nat.le_refl _, Nat.le_refl _, fun _ g0 _ s0 n0 e _ => ⟨g0, s0, n0, e⟩, fun j _ z => hnr j z, fun _ _ _ => rfl, rfl, fun j _ e => ?_, fun _ _ _ _ _ e => e⟩⟩
  · simp only at e
    rw [T.get_set] at e
    by_cases c : j = id
    · subst c
      rw [if_pos rfl] at e
      cases e
      obtain ⟨⟨h1, h2, h3, h4, h6, h5⟩, ty⟩ := hR.blk _ _ hid
      refine ⟨⟨rfl, h2, fun q => absurd q (Nat.lt_irrefl _), h4, h6, fun j hj1 hj2 => ?_⟩, ty⟩
      obtain ⟨b, s', n', C, el, fr, e1, e2, e3, e4, e5⟩ := h5 j hj1 hj2
      have hj : j = m := by omega
      subst hj
      refine ⟨b, s', n', C, el, fr, e1, e2, e3, (fun q => by cases q), fun i v k1 k2 hv => ?_⟩
      rw [if_pos rfl] at k2
      have k2 : i < 1 := k2
      have hi0 : i = 0 := by omega
      subst hi0
      obtain ⟨o, x, q1, q2, q3⟩ := e5 0 (.rng 0 n) (Nat.le_refl _) (by rw [if_pos rfl]; exact Nat.one_pos) rfl
      have hv : AV.rng c' n = v := Option.some.inj hv
      subst hv
      cases q3
      rename_i x _
      exact ⟨o, _, q1, q2, .rng (hc b s' n' C el fr x e1 e2 ⟨o, by omega, q2⟩)⟩
    · rw [if_neg c] at e; exact hR.blk _ _ e
  · simp only at e
    rw [T.get_set] at e
    by_cases c : j = id
    · subst c; exact hR.dom _ _ hid
    · rw [if_neg c] at e; exact hR.dom _ _ e
  · simp only
    rw [T.get_set]
    by_cases c : j = id
    · subst c; rw [hid] at e; cases e
    · rw [if_neg c]; exact e

theorem op_loadG (hR : HR P φ h w) (hE : EnvR φ env a.tmps) {t : TypeId} {d : TypeDesc} {x : Operand} {x' : Opd} (hx : compOpd P x = some x') (hd : P.underlying t = some d) (hg : isAggT P t = false) (ho : o.op = .load t x) :
    ResR P φ h w (evalOp P (.loadG x') env h) ((execOp a.eval o).run P w) := by
  have rx := opd_rel hR hE hx
  unfold evalOp
  simp only
  generalize hX : a.eval x = X at *
  split
  · rename_i id g off e
    rw [e] at rx
    cases rx with
    | ptr k1 k2 k3 k4 =>
      have plain : ResR P φ h w (opt h "load" (read1 h id g off)) ((execOp a.eval o).run P w) := by
        refine ResR.opt hR fun v ev => ?_
        obtain ⟨y, e1, e2⟩ := read1_run hR ev k1 k2 k4 k3
        refine ⟨y, ?_, e2⟩
        simp only [execOp, ho, hX, Instr.loadAt, Instr.sureAddr, loadVar]
        simp only [Sem.run_bind, Sem.run_pure, Result.andThen_ok, run_isAgg' hd, hg, Bool.false_eq_true, if_false, run_load, e1]
      unfold loadRng
      split
      · rename_i s k c n lo hi g' m ro fz hid
        cases hq : (Nat.beq off 0 && Nat.beq g g' && Nat.beq m g' && Nat.beq lo 0 && Nat.beq k 1 && Nat.beq c 0 && ro) with
        | false => exact plain
        | true =>
          rw [cond_true]
          simp only [Bool.and_eq_true] at hq
          obtain ⟨⟨⟨⟨⟨⟨q1, q2⟩, q3⟩, q4⟩, q5⟩, q6⟩, q7⟩ := hq
          have q1 := beq_iff.1 q1
          have q2 := beq_iff.1 q2
          have q3 := beq_iff.1 q3
          have q4 := beq_iff.1 q4
          have q5 := beq_iff.1 q5
          have q6 := beq_iff.1 q6
          subst q1; subst q2; subst q3; subst q4; subst q5; subst q6; subst q7
          obtain ⟨⟨h1, h2, h3, h4, h6, h5⟩, ty⟩ := hR.blk _ _ hid
          obtain ⟨b, s', n', C, el, fr, e1, e2, e3, e4, e5⟩ := h5 m (Nat.le_refl _) (Nat.le_refl _)
          obtain ⟨o', x0, p1, p2, p3⟩ := e5 0 (.rng 0 n) (Nat.le_refl _) (by rw [if_pos rfl]; exact Nat.one_pos) rfl
          cases p3
          rename_i x0 _
          have key : ∀ c' : Nat, rngOk c' n x0 → ∃ y, HR P φ ⟨T.set id (some (.cells s (.lst 1 [.rng c' n]) 0 hi m m true fz)) h.heap, h.next, h.ser, h.lim⟩ w ∧ Adv h w φ ⟨T.set id (some (.cells s (.lst 1 [.rng c' n]) 0 hi m m true fz)) h.heap, h.next, h.ser, h.lim⟩ w φ ∧
              (execOp a.eval o).run P w = .ok (.value y) w ∧ Rel φ (.rng c' n) y := by
            intro c' hc'
            obtain ⟨z1, z2⟩ := rng_hr hR hid rfl rfl (c' := c') fun b1 s1 n1 C1 el1 fr1 x1 u1 u2 ⟨o1, u3, u4⟩ => by
              rw [e1] at u1; cases u1
              rw [e2] at u2; cases u2
              have : o1 = o' := by omega
              subst this
              rw [p2] at u4
              cases u4
              exact hc'
            have hrd : read1 ⟨T.set id (some (.cells s (.lst 1 [.rng c' n]) 0 hi m m true fz)) h.heap, h.next, h.ser, h.lim⟩ id m 0 = some (.rng c' n) := by
              unfold read1
              simp only
              rw [T.get_set, if_pos rfl]
              simp only [seeable, beq_iff.2 rfl, cond_true]
              rfl
            obtain ⟨y, r1, r2⟩ := read1_run z1 hrd k1 k2 k4 k3
            refine ⟨y, z1, z2, ?_, r2⟩
            simp only [execOp, ho, hX, Instr.loadAt, Instr.sureAddr, loadVar]
            simp only [Sem.run_bind, Sem.run_pure, Result.andThen_ok, run_isAgg' hd, hg, Bool.false_eq_true, if_false, run_load, r1]
          by_cases hlt : (n : Int) ≤ x0
          · obtain ⟨y, z1, z2, z3, z4⟩ := key 1 hlt
            exact ⟨.rng 1 n, _, List.mem_cons_self, .value y, y, w, φ, z3, .inl rfl, z1, z2, z4⟩
          · obtain ⟨y, z1, z2, z3, z4⟩ := key 2 (by show x0 < (n : Int); omega)
            exact ⟨.rng 2 n, _, List.mem_cons_of_mem _ List.mem_cons_self, .value y, y, w, φ, z3, .inl rfl, z1, z2, z4⟩
      · exact plain
  · trivial

theorem op_loadN (hR : HR P φ h w) (hE : EnvR φ env a.tmps) {t : TypeId} {d : TypeDesc} {x : Operand} {x' : Opd} (hx : compOpd P x = some x') (hd : P.underlying t = some d) (hk : okT P t = true) (hg : isAggT P t = true) (ho : o.op = .load t x) :
    ResR P φ h w (evalOp P (.loadN (P.cellsOf t) x') env h) ((execOp a.eval o).run P w) := by
  have rx := opd_rel hR hE hx
  unfold evalOp
  simp only
  generalize hX : a.eval x = X at *
  split
  · rename_i id g off e
    rw [e] at rx
    split
    · rename_i c hc
      cases rx with
      | ptr k1 k2 k3 k4 =>
        obtain ⟨xs, e1, e2, e3, e4⟩ := readN_run hR hc k1 k2 k4 (fun _ => k3)
        refine ResR.pure hR (x := .agg xs.toArray) (.agg (by simpa using e2)) ?_
        simp only [execOp, ho, hX, Instr.loadAt, Instr.sureAddr, loadVar]
        simp only [Sem.run_bind, Sem.run_pure, Result.andThen_ok, run_isAgg' hd, hg, if_true, run_sizeOf' hk, e1]
    · trivial
  · trivial

theorem rel_ptr {id : Pos} {g off : Nat} {X : Value} (h : Rel φ (.ptr id g off) X) : ∃ a b s n, X = .pointer (some a) ∧ φ id g = some (b, s, n) ∧ a.block = b ∧ a.spot = none ∧ (a.off : Int) = off + s := by
  cases h with
  | ptr k1 k2 k3 k4 => exact ⟨_, _, _, _, rfl, k1, k2, k4, k3⟩

/-- A slice's block, unless the slice has no room at all. -/
theorem rel_sl {id : Pos} {g off len cap es : Nat} {ex : Bool} {X : Value} (h : Rel φ (.sl id g off len cap ex es) X) :
    (∃ a c b s n, X = .slice (some a) len c ∧ φ id g = some (b, s, n) ∧ a.block = b ∧ a.spot = none ∧ len ≤ c ∧ cap ≤ c ∧ len ≤ cap ∧ (ex = true → c = cap) ∧
      (0 < c → (a.off : Int) = off + s ∧ a.off + c * es ≤ n)) ∨ ∃ a, X = .slice (some a) 0 0 ∧ len = 0 ∧ cap = 0 ∧ ex = true := by
  cases h with
  | sl k1 k2 k3 k4 k5 k6 k7 k8 => exact .inl ⟨_, _, _, _, _, rfl, k1, k2, k3, k4, k5, k6, k7, k8⟩
  | sl0 => exact .inr ⟨_, rfl, rfl, rfl, rfl⟩

theorem rel_slS {id : Pos} {g off len cap es : Nat} {ex : Bool} {X : Value} (h : Rel φ (.sl id g off len cap ex es) X) : ∃ a c, X = .slice (some a) len c ∧ len ≤ c ∧ cap ≤ c ∧ len ≤ cap ∧ (ex = true → c = cap) := by
  rcases rel_sl h with ⟨a, c, b, s, n, h1, _, _, _, h4, h5, h6, h7, _⟩ | ⟨a, rfl, rfl, rfl, _⟩
  · exact ⟨a, c, h1, h4, h5, h6, h7⟩
  · exact ⟨a, 0, rfl, Nat.le_refl _, Nat.le_refl _, Nat.le_refl _, fun _ => rfl⟩

/-- Cells written where cells are. -/
theorem writeN_run (hR : HR P φ h w) {id : Pos} {g off : Nat} {seg : Cells} {k : Hp → Res} {b : Nat} {s : Int} {n : Nat} {ad : Addr} {xs : List Value} (hφ : φ id g = some (b, s, n)) (hb : ad.block = b) (hs : ad.spot = none)
    (ho : 0 < seg.size → (ad.off : Int) = off + s) (hw : seg.wf) (hxs : RelL φ seg.toL xs) :
    (∃ why, writeN h id g off seg k = .fail why) ∨
      ∃ h' w', writeN h id g off seg k = k h' ∧ (storeCells ad xs).run P w = .ok () w' ∧ HR P φ h' w' ∧ Adv h w φ h' w' φ := by
  have hl : xs.length = seg.size := by rw [← hxs.length, Cells.toL_length hw]
  unfold writeN
  cases hz : Nat.beq seg.size 0 with
  | true =>
    rw [cond_true]
    have : xs = [] := List.length_eq_zero_iff.1 (by rw [hl]; exact beq_iff.1 hz)
    subst this
    exact .inr ⟨h, w, rfl, rfl, hR, Adv.refl h w φ⟩
  | false =>
    rw [cond_false]
    split
    · rename_i ser c lo hi g' m ro fz hid
      cases hc : (!ro && Nat.beq g g' && Nat.ble lo off && Nat.ble (Nat.add off seg.size) c.size && seg.atoms) with
      | false => exact .inl ⟨_, rfl⟩
      | true =>
        rw [cond_true, T.setK_eq]
        simp only [Bool.and_eq_true, Bool.not_eq_true'] at hc
        obtain ⟨⟨⟨⟨c1, c2⟩, c3⟩, c4⟩, c5⟩ := hc
        subst c1
        have c2 := beq_iff.1 c2
        subst c2
        have c3 := ble_iff.1 c3
        have c4 : off + seg.size ≤ c.size := ble_iff.1 c4
        obtain ⟨⟨h1, h2, h3, h4, h6, h5⟩, _⟩ := hR.blk _ _ hid
        obtain ⟨q1, q2, q3⟩ := Cells.splice_spec h1 hw (off := off) (by omega)
        have hpos : 0 < seg.size := Nat.pos_of_ne_zero (beq_false.1 hz)
        have ho := ho hpos
        obtain ⟨b', s', n', C, el, fr, e1, e2, e3, e4, e5⟩ := h5 g h2 (Nat.le_refl _)
        rw [hφ, Option.some.injEq, Prod.mk.injEq, Prod.mk.injEq] at e1
        obtain ⟨rfl, rfl, rfl⟩ := e1
        have hroom : ad.off + xs.length ≤ n := by
          have hlt : off + seg.size - 1 < c.toL.length := by rw [Cells.toL_length h1]; omega
          obtain ⟨o', x', f1, f2, f3⟩ := e5 (off + seg.size - 1) _ (by omega) (by rw [if_pos rfl]; omega) (List.getElem?_eq_getElem hlt)
          have := (Array.getElem?_eq_some_iff.1 f2).1
          omega
        obtain ⟨w', p1, p2, p3⟩ := put_run hR hid hφ hb hs ho (by omega) hroom hxs (atoms_oneCell c5 hxs) q1 (by rw [hl]; exact q2)
          (bif Nat.blt off hi then g else m) (by
            by_cases hb : off < hi
            · rw [blt_iff.2 hb]; exact .inl rfl
            · rw [blt_false.2 (by omega)]; exact .inr ⟨rfl, by omega⟩) h.ser
        exact .inr ⟨_, w', rfl, p1, p2, p3⟩
    · exact .inl ⟨_, rfl⟩

theorem op_store (hR : HR P φ h w) (hE : EnvR φ env a.tmps) {t : TypeId} {x y : Operand} {x' y' : Opd} (hx : compOpd P x = some x') (hy : compOpd P y = some y') (hk : okT P t = true) (ho : o.op = .store t x y) :
    ResR P φ h w (evalOp P (.store (P.cellsOf t) x' y') env h) ((execOp a.eval o).run P w) := by
  have rx := opd_rel hR hE hx
  have ry := opd_rel hR hE hy
  unfold evalOp
  simp only
  split
  · rename_i id g off e
    rw [e] at rx
    have rl := ry.cells
    cases hn : Nat.beq (ev env y').cells.length (P.cellsOf t) with
    | false => trivial
    | true =>
      rw [cond_true]
      have hn := beq_iff.1 hn
      obtain ⟨w1, t1, s1⟩ := Cells.ofL_spec (ev env y').cells
      have hlen : (a.eval y).cells.size = P.cellsOf t := by rw [← hn, rl.length, Array.length_toList]
      obtain ⟨ad, b, s, n, hX, k1, k2, k3, k4⟩ := rel_ptr rx
      rcases writeN_run hR (seg := Cells.ofL (ev env y').cells) (k := fun h => .val .undef h) k1 k2 k3 (fun _ => k4) w1 (by rw [t1]; exact rl) with ⟨why, e⟩ | ⟨h', w', e, p1, p2, p3⟩
      · rw [e]; trivial
      · rw [e]
        refine ⟨.skip, Go.undef, w', φ, ?_, .inr ⟨rfl, rfl⟩, p2, p3, Rel.undef⟩
        simp only [execOp, ho, hX, Instr.storeAt, Instr.sureAddr, storeVar]
        simp only [Sem.run_bind, Sem.run_pure, Result.andThen_ok, run_sizeOf' hk, hlen, ne_eq, not_true_eq_false, if_false, p1]
  · trivial

end

end Go.Proofs.YtialpccieggaoaaGreatDoor.Am

namespace Go.Proofs.YtialpccieggaoaaGreatDoor.Am

section
variable {P : Program} {φ : Phi} {h : Hp} {w : World} {env : T AV} {a : Act} {o : Oper}

theorem op_fieldAddr (hR : HR P φ h w) (hE : EnvR φ env a.tmps) {t : TypeId} {f : Nat} {fd : Field} {x : Operand} {x' : Opd} (hx : compOpd P x = some x') (hf : fieldOf P t f = some fd) (hz : 0 < P.cellsOf fd.type) (ho : o.op = .fieldAddr t x f) :
    ResR P φ h w (evalOp P (.fieldAddr fd.offset x') env h) ((execOp a.eval o).run P w) := by
  have rx := opd_rel hR hE hx
  obtain ⟨fs, hd, hfs, hk⟩ := field_underlying hf
  unfold evalOp
  simp only
  split
  · rename_i id g off e
    rw [e] at rx
    obtain ⟨ad, b, s, n, hX, k1, k2, k3, k4⟩ := rel_ptr rx
    rw [natK_eq]
    refine ResR.pure hR (x := .pointer (some (ad.add fd.offset))) (.ptr k1 ?_ ?_ ?_) ?_
    · rw [add_eq ad k3]; exact k2
    · rw [add_eq ad k3]; show ((ad.off + fd.offset : Nat) : Int) = ((off + fd.offset : Nat) : Int) + s; omega
    · rw [add_eq ad k3]
    · simp only [execOp, ho, hX, Instr.fieldAt, Instr.sureAddr, fieldPlace]
      simp only [Sem.run_bind, Sem.run_pure, Result.andThen_ok, run_underlying hd, hfs, run_sizeOf' hk, Nat.ne_of_gt hz, if_false]
  · trivial

theorem op_part1 (hR : HR P φ h w) (hE : EnvR φ env a.tmps) {t : TypeId} {f : Nat} {fd : Field} {x : Operand} {x' : Opd} (hx : compOpd P x = some x') (hf : fieldOf P t f = some fd) (hg : isAggT P fd.type = false) (ho : o.op = .field t x f) :
    ResR P φ h w (evalOp P (.part1 fd.offset x') env h) ((execOp a.eval o).run P w) := by
  have rx := opd_rel hR hE hx
  obtain ⟨fs, hd, hfs, hk⟩ := field_underlying hf
  unfold evalOp
  simp only
  generalize hX : a.eval x = X at *
  split
  · rename_i l e
    rw [e] at rx
    refine ResR.opt hR fun v ev => ?_
    cases rx with
    | agg hl =>
      rename_i arr
      rw [nth_eq] at ev
      obtain ⟨z, e1, e2⟩ := hl.get ev
      rw [Array.getElem?_toList] at e1
      refine ⟨z, ?_, e2⟩
      simp only [execOp, ho, hX, Instr.field, asAgg]
      simp only [Sem.run_bind, Sem.run_pure, Result.andThen_ok, run_underlying hd, hfs, part_one hk hg e1]
  · trivial

theorem op_partN (hR : HR P φ h w) (hE : EnvR φ env a.tmps) {t : TypeId} {f : Nat} {fd : Field} {x : Operand} {x' : Opd} (hx : compOpd P x = some x') (hf : fieldOf P t f = some fd) (hg : isAggT P fd.type = true) (ho : o.op = .field t x f) :
    ResR P φ h w (evalOp P (.partN fd.offset (P.cellsOf fd.type) x') env h) ((execOp a.eval o).run P w) := by
  have rx := opd_rel hR hE hx
  obtain ⟨fs, hd, hfs, hk⟩ := field_underlying hf
  unfold evalOp
  simp only
  generalize hX : a.eval x = X at *
  split
  · rename_i l e
    rw [e] at rx
    cases rx with
    | agg hl =>
      rename_i arr
      refine ResR.pure hR (x := .agg (arr.extract fd.offset (fd.offset + P.cellsOf fd.type))) (.agg (extract_rel hl _ _)) ?_
      simp only [execOp, ho, hX, Instr.field, asAgg]
      simp only [Sem.run_bind, Sem.run_pure, Result.andThen_ok, run_underlying hd, hfs, part_agg hk hg]
  · trivial

theorem op_idxAddrArr (hR : HR P φ h w) (hE : EnvR φ env a.tmps) {t e : TypeId} {n : Nat} {x i : Operand} {x' i' : Opd} (hx : compOpd P x = some x') (hi : compOpd P i = some i') (ht : arrayOf P t = some (n, e)) (ho : o.op = .indexAddr t x i) :
    ResR P φ h w (evalOp P (.idxAddrArr n (P.cellsOf e) x' i') env h) ((execOp a.eval o).run P w) := by
  have rx := opd_rel hR hE hx
  have ri := opd_rel hR hE hi
  obtain ⟨hd, hk⟩ := array_underlying ht
  unfold evalOp
  simp only
  generalize hI : a.eval i = I at *
  split
  · rename_i id g off k j e1 e2
    rw [e1] at rx
    rw [e2] at ri
    cases hb : Nat.blt j n with
    | false => trivial
    | true =>
      have hb := blt_iff.1 hb
      rw [cond_true, natK_eq]
      obtain ⟨ad, b, s, m, hX, k1, k2, k3, k4⟩ := rel_ptr rx
      cases ri
      refine ResR.pure hR (x := .pointer (some (ad.add (j * P.cellsOf e)))) (.ptr k1 ?_ ?_ ?_) ?_
      · rw [add_eq ad k3]; exact k2
      · rw [add_eq ad k3]; show ((ad.off + j * P.cellsOf e : Nat) : Int) = ((off + j * P.cellsOf e : Nat) : Int) + s; omega
      · rw [add_eq ad k3]
      · simp only [execOp, ho, hX, hI, Instr.indexAt, Instr.sureAddr, asIntOf]
        simp only [Sem.run_bind, Sem.run_pure, Result.andThen_ok, run_underlying hd]
        have : (0 : Int) ≤ Int.ofNat j ∧ Int.ofNat j < (n : Int) := ⟨by simp, by simpa using hb⟩
        simp only [this, and_self, if_true, Sem.run_bind, run_sizeOf' hk, Result.andThen_ok, Sem.run_pure]
        rfl
  · trivial

theorem op_idxAddrSl (hR : HR P φ h w) (hE : EnvR φ env a.tmps) {t e : TypeId} {x i : Operand} {x' i' : Opd} (hx : compOpd P x = some x') (hi : compOpd P i = some i') (ht : elemOfSlice P t = some e) (ho : o.op = .indexAddr t x i) :
    ResR P φ h w (evalOp P (.idxAddrSl (P.cellsOf e) x' i') env h) ((execOp a.eval o).run P w) := by
  have rx := opd_rel hR hE hx
  have ri := opd_rel hR hE hi
  obtain ⟨hd, hk⟩ := elem_underlying ht
  unfold evalOp
  simp only
  generalize hI : a.eval i = I at *
  split
  · rename_i id g off len cap ex es k j e1 e2
    rw [e1] at rx
    rw [e2] at ri
    cases hb : (Nat.blt j len && Nat.beq (P.cellsOf e) es) with
    | false => trivial
    | true =>
      rw [Bool.and_eq_true] at hb
      have he := beq_iff.1 hb.2
      have hb := blt_iff.1 hb.1
      rw [cond_true, natK_eq]
      rcases rel_sl rx with ⟨ad, c, b, s, m, hX, k1, k2, k3, k4, k5, k6, k7, k8⟩ | ⟨_, _, z, _, _⟩
      case inr => omega
      obtain ⟨k8, _⟩ := k8 (by omega)
      cases ri
      refine ResR.pure hR (x := .pointer (some (ad.add (j * P.cellsOf e)))) (.ptr k1 ?_ ?_ ?_) ?_
      · rw [add_eq ad k3]; exact k2
      · rw [add_eq ad k3]; show ((ad.off + j * P.cellsOf e : Nat) : Int) = ((off + j * P.cellsOf e : Nat) : Int) + s; omega
      · rw [add_eq ad k3]
      · simp only [execOp, ho, hX, hI, Instr.indexAt, asIntOf]
        simp only [Sem.run_bind, Sem.run_pure, Result.andThen_ok, run_underlying hd]
        have : (0 : Int) ≤ Int.ofNat j ∧ Int.ofNat j < (len : Int) := ⟨by simp, by simpa using hb⟩
        simp only [this, and_self, if_true, Sem.run_bind, run_sizeOf' hk, Result.andThen_ok, Sem.run_pure]
        rfl
  · trivial

theorem op_idxArr (hR : HR P φ h w) (hE : EnvR φ env a.tmps) {t e : TypeId} {n : Nat} {x i : Operand} {x' i' : Opd} (hx : compOpd P x = some x') (hi : compOpd P i = some i') (ht : arrayOf P t = some (n, e)) (ho : o.op = .index t x i) :
    ResR P φ h w (evalOp P (.idxArr n (P.cellsOf e) (isAggT P e) x' i') env h) ((execOp a.eval o).run P w) := by
  have rx := opd_rel hR hE hx
  have ri := opd_rel hR hE hi
  obtain ⟨hd, hk⟩ := array_underlying ht
  unfold evalOp
  simp only
  generalize hI : a.eval i = I at *
  generalize hX : a.eval x = X at *
  split
  · rename_i l k j e1 e2
    rw [e1] at rx
    rw [e2] at ri
    cases ri
    cases hb : Nat.blt j n with
    | false => trivial
    | true =>
      have hb := blt_iff.1 hb
      rw [cond_true]
      have hin : (0 : Int) ≤ Int.ofNat j ∧ Int.ofNat j < (n : Int) := ⟨by simp, by simpa using hb⟩
      cases rx with
      | agg hl =>
        rename_i arr
        cases hg : isAggT P e with
        | true =>
          rw [cond_true]
          refine ResR.pure hR (x := .agg (arr.extract (j * P.cellsOf e) (j * P.cellsOf e + P.cellsOf e))) (.agg (extract_rel hl _ _)) ?_
          simp only [execOp, ho, hX, hI, Instr.index, asIntOf]
          simp only [Sem.run_bind, Sem.run_pure, Result.andThen_ok, run_underlying hd]
          simp only [hin, and_self, if_true, Sem.run_bind, run_sizeOf' hk, Result.andThen_ok]
          rw [show (Int.ofNat j).toNat = j from rfl, part_agg hk hg]
          rfl
        | false =>
          rw [cond_false]
          refine ResR.opt hR fun v ev => ?_
          rw [nth_eq] at ev
          obtain ⟨z, f1, f2⟩ := hl.get ev
          rw [Array.getElem?_toList] at f1
          have f1 : arr[j * P.cellsOf e]? = some z := f1
          refine ⟨z, ?_, f2⟩
          simp only [execOp, ho, hX, hI, Instr.index, asIntOf]
          simp only [Sem.run_bind, Sem.run_pure, Result.andThen_ok, run_underlying hd]
          simp only [hin, and_self, if_true, Sem.run_bind, run_sizeOf' hk, Result.andThen_ok]
          rw [show (Int.ofNat j).toNat = j from rfl, part_one hk hg f1]
          rfl
  · trivial

theorem isStr_underlying {t : TypeId} (h : isStrT P t = true) : P.underlying t = some .string := by
  unfold isStrT at h
  split at h
  · assumption
  · cases h

theorem rel_str {n v : Nat} {X : Value} (h : Rel φ (.str n v) X) : ∃ s, X = .string s ∧ s.data.toList = unpack n v ∧ v < 256 ^ n ∧ s.size = n := by
  cases h with
  | str h hv => exact ⟨_, rfl, h, hv, by rw [← unpack_length n v, ← h]; simp⟩

theorem op_idxStr (hR : HR P φ h w) (hE : EnvR φ env a.tmps) {t : TypeId} {x i : Operand} {x' i' : Opd} (hx : compOpd P x = some x') (hi : compOpd P i = some i') (ht : isStrT P t = true) (ho : o.op = .index t x i) :
    ResR P φ h w (evalOp P (.idxStr x' i') env h) ((execOp a.eval o).run P w) := by
  have rx := opd_rel hR hE hx
  have ri := opd_rel hR hE hi
  have hd := isStr_underlying ht
  unfold evalOp
  simp only
  generalize hI : a.eval i = I at *
  generalize hX : a.eval x = X at *
  split
  · rename_i n v k j e1 e2
    rw [e1] at rx
    rw [e2] at ri
    cases ri
    obtain ⟨s, rfl, hs, hv, hn⟩ := rel_str rx
    cases hb : Nat.blt j n with
    | false => trivial
    | true =>
      have hb := blt_iff.1 hb
      rw [cond_true, natK_eq]
      have hj : s.data.toList[j]? = some (UInt8.ofNat (v / 256 ^ (n - 1 - j))) := by rw [hs, unpack_get n v j hb]
      have hj' : s[j]? = some (UInt8.ofNat (v / 256 ^ (n - 1 - j))) := by
        rw [← hj, Array.getElem?_toList]
        rfl
      refine ResR.pure hR (x := .int .u8 ((UInt8.ofNat (v / 256 ^ (n - 1 - j))).toNat : Int)) ?_ ?_
      · have : byteV (byteAt n v j) = .int .u8 ((UInt8.ofNat (v / 256 ^ (n - 1 - j))).toNat : Int) := by
          unfold byteV
          congr 1
          show ((v / 256 ^ (n - (j + 1)) % 256 : Nat) : Int) = _
          rw [show n - (j + 1) = n - 1 - j by omega]
          simp
        rw [this]
        exact .int _ _
      · simp only [execOp, ho, hX, hI, Instr.index, asIntOf]
        simp only [Sem.run_bind, Sem.run_pure, Result.andThen_ok, run_underlying hd]
        rw [if_pos (by simp), show (Int.ofNat j).toNat = j from rfl, hj']
        rfl
  · trivial
end

end Go.Proofs.YtialpccieggaoaaGreatDoor.Am

namespace Go.Proofs.YtialpccieggaoaaGreatDoor.Am

/-- A bound of a slice expression. -/
def Bnd (ρ : Operand → Value) (x : Option Operand) (n d : Nat) : Prop := (x = none ∧ n = d) ∨ ∃ y k, x = some y ∧ ρ y = .int k (Int.ofNat n)

theorem sliceBound_run {P : Program} {w : World} {k : IntKind} {n y : Nat} (h : n ≤ y) (code : BoundsCode) : (Instr.sliceBound (.int k (Int.ofNat n)) y code).run P w = .ok n w := by
  unfold Instr.sliceBound
  simp only [asIntOf, Sem.run_bind, Sem.run_pure, Result.andThen_ok]
  rw [if_pos ⟨by simp, by simpa using h⟩]
  rfl

theorem sliceBounds_run {P : Program} {w : World} {ρ : Operand → Value} {lo hi mx : Option Operand} {l r m len cap : Nat} (isSlice : Bool) (hl : Bnd ρ lo l 0) (hh : Bnd ρ hi r len) (hm : Bnd ρ mx m cap)
    (h1 : l ≤ r) (h2 : r ≤ m) (h3 : m ≤ cap) (h4 : mx.isSome = true → hi.isSome = true) : (Instr.sliceBounds isSlice len cap (lo.map ρ) (hi.map ρ) (mx.map ρ)).run P w = .ok (l, r, m) w := by
  unfold Instr.sliceBounds
  rcases hm with ⟨rfl, rfl⟩ | ⟨mo, mk, rfl, em⟩
  · rcases hh with ⟨rfl, rfl⟩ | ⟨ho, hk, rfl, eh⟩
    · rcases hl with ⟨rfl, rfl⟩ | ⟨lo, lk, rfl, el⟩
      · simp only [Option.map_none, Sem.run_bind, Sem.run_pure, Result.andThen_ok]
      · simp only [Option.map_none, Option.map_some, Sem.run_bind, Sem.run_pure, Result.andThen_ok, el, sliceBound_run h1]
    · rcases hl with ⟨rfl, rfl⟩ | ⟨lo, lk, rfl, el⟩
      · simp only [Option.map_none, Option.map_some, Sem.run_bind, Sem.run_pure, Result.andThen_ok, eh, sliceBound_run h2]
      · simp only [Option.map_none, Option.map_some, Sem.run_bind, Sem.run_pure, Result.andThen_ok, eh, el, sliceBound_run h2, sliceBound_run h1]
  · rcases hh with ⟨rfl, rfl⟩ | ⟨ho, hk, rfl, eh⟩
    · simp at h4
    · rcases hl with ⟨rfl, rfl⟩ | ⟨lo, lk, rfl, el⟩
      · simp only [Option.map_none, Option.map_some, Sem.run_bind, Sem.run_pure, Result.andThen_ok, eh, em, sliceBound_run h3, sliceBound_run h2]
      · simp only [Option.map_some, Sem.run_bind, Sem.run_pure, Result.andThen_ok, eh, em, el, sliceBound_run h3, sliceBound_run h2, sliceBound_run h1]

section
variable {P : Program} {φ : Phi} {h : Hp} {w : World} {env : T AV} {a : Act} {o : Oper}

theorem evO_bnd (hR : HR P φ h w) (hE : EnvR φ env a.tmps) {x : Option Operand} {x' : Option Opd} (hx : compOpdO P x = some x') {d n : Nat} (he : evO env x' d = some n) : Bnd a.eval x n d := by
  cases x with
  | none =>
    simp only [compOpdO, Option.some.injEq] at hx
    subst hx
    simp only [evO, Option.some.injEq] at he
    exact .inl ⟨rfl, he.symm⟩
  | some x =>
    simp only [compOpdO] at hx
    cases hc : compOpd P x with
    | none => rw [hc] at hx; cases hx
    | some y =>
      rw [hc, Option.map_some, Option.some.injEq] at hx
      subst hx
      have rx := opd_rel hR hE hc
      simp only [evO] at he
      split at he
      · rename_i k j e
        cases he
        rw [e] at rx
        generalize hv : a.eval x = X at rx
        cases rx
        exact .inr ⟨x, k, rfl, hv⟩
      · cases he

theorem compOpdO_some {x : Option Operand} {x' : Option Opd} (hx : compOpdO P x = some x') : x'.isSome = x.isSome := by
  cases x with
  | none => simp only [compOpdO, Option.some.injEq] at hx; subst hx; rfl
  | some x =>
    simp only [compOpdO] at hx
    cases hc : compOpd P x with
    | none => rw [hc] at hx; cases hx
    | some y => rw [hc, Option.map_some, Option.some.injEq] at hx; subst hx; rfl

theorem op_sliceStr (hR : HR P φ h w) (hE : EnvR φ env a.tmps) {t : TypeId} {x : Operand} {lo hi : Option Operand} {x' : Opd} {lo' hi' : Option Opd} (hx : compOpd P x = some x') (hlo : compOpdO P lo = some lo') (hhi : compOpdO P hi = some hi')
    (ht : isStrT P t = true) (ho : o.op = .slice t x lo hi none) : ResR P φ h w (evalOp P (.sliceStr x' lo' hi') env h) ((execOp a.eval o).run P w) := by
  have rx := opd_rel hR hE hx
  have hd := isStr_underlying ht
  unfold evalOp
  simp only
  generalize hX : a.eval x = X at *
  split
  · rename_i n v e
    rw [e] at rx
    obtain ⟨s, rfl, hs, hv, hn⟩ := rel_str rx
    split
    · rename_i l r el er
      cases hb : (Nat.ble l r && Nat.ble r n) with
      | false => trivial
      | true =>
        rw [Bool.and_eq_true] at hb
        have h1 := ble_iff.1 hb.1
        have h2 := ble_iff.1 hb.2
        rw [cond_true, natK_eq, natK_eq]
        have bl := evO_bnd hR hE hlo el
        have br := evO_bnd hR hE hhi er
        have hrun := sliceBounds_run (P := P) (w := w) (mx := none) (m := s.size) (len := s.size) (cap := s.size) false bl (by rw [hn]; exact br) (.inl ⟨rfl, rfl⟩) h1 (by omega) (Nat.le_refl _) (by simp)
        refine ResR.pure hR (x := .string (s.extract l r)) (.str ?_ ?_) ?_
        · show (s.extract l r).data.toList = unpack (r - l) (v / 256 ^ (n - r) % 256 ^ (r - l))
          have := unpack_sub n v l (r - l) (by omega)
          rw [show l + (r - l) = r by omega] at this
          rw [← this, ← hs, ByteArray.data_extract, Array.toList_extract, List.extract_eq_take_drop]
        · exact Nat.mod_lt _ (Nat.pow_pos (by omega))
        · simp only [execOp, ho, hX, Instr.sliceAt, Instr.slice]
          simp only [Sem.run_bind, Sem.run_pure, Result.andThen_ok, run_underlying hd]
          simp only [Option.map_none, Option.isSome_none, Bool.false_eq_true, if_false, Sem.run_bind, Sem.run_pure, Result.andThen_ok] at hrun ⊢
          rw [hrun]
          rfl
    · trivial
  · trivial

theorem op_sliceSl (hR : HR P φ h w) (hE : EnvR φ env a.tmps) {t e : TypeId} {x : Operand} {lo hi mx : Option Operand} {x' : Opd} {lo' hi' mx' : Option Opd} (hx : compOpd P x = some x') (hlo : compOpdO P lo = some lo') (hhi : compOpdO P hi = some hi')
    (hmx : compOpdO P mx = some mx') (h4 : mx.isSome = true → hi.isSome = true) (ht : elemOfSlice P t = some e) (ho : o.op = .slice t x lo hi mx) :
    ResR P φ h w (evalOp P (.sliceSl (P.cellsOf e) x' lo' hi' mx') env h) ((execOp a.eval o).run P w) := by
  have rx := opd_rel hR hE hx
  obtain ⟨hd, hk⟩ := elem_underlying ht
  unfold evalOp
  simp only
  split
  · rename_i e0
    rw [e0] at rx
    split
    · rename_i e1 e2 e3
      generalize hX : a.eval x = X at *
      cases rx
      have hrun := sliceBounds_run (P := P) (w := w) true (evO_bnd hR hE hlo e1) (evO_bnd hR hE hhi e2) (evO_bnd hR hE hmx e3) (Nat.le_refl _) (Nat.le_refl _) (Nat.le_refl _) h4
      refine ResR.pure hR (x := .slice none 0 0) .nilSl ?_
      simp only [execOp, ho, hX, Instr.sliceAt, Instr.slice]
      simp only [Sem.run_bind, Sem.run_pure, Result.andThen_ok, run_underlying hd, hrun, run_sizeOf' hk, if_true]
    · trivial
  · rename_i id g off len cap ex es e0
    rw [e0] at rx
    obtain ⟨ad, c, hX, k4, k5, k6, k7⟩ := rel_slS rx
    split
    · rename_i l r m e1 e2 e3
      cases hb : (Nat.beq (P.cellsOf e) es && Nat.ble l r && Nat.ble r m && Nat.ble m cap) with
      | false => trivial
      | true =>
        simp only [Bool.and_eq_true] at hb
        obtain ⟨⟨⟨b1, b2⟩, b3⟩, b4⟩ := hb
        have b1 : P.cellsOf e = es := beq_iff.1 b1
        have b2 := ble_iff.1 b2
        have b3 := ble_iff.1 b3
        have b4 := ble_iff.1 b4
        subst b1
        simp only [cond_true, natK_eq]
        have bm := evO_bnd hR hE hmx e3
        have hms := compOpdO_some hmx
        -- the model's own bound
        obtain ⟨mc, hbm, hmc1, hmc2, hmc3⟩ : ∃ mc, Bnd a.eval mx mc c ∧ m ≤ mc ∧ mc ≤ c ∧ ((ex = true ∨ mx'.isSome = true) → mc = m) := by
          rcases bm with ⟨rfl, rfl⟩ | ⟨y, k, rfl, ey⟩
          · exact ⟨c, .inl ⟨rfl, rfl⟩, k5, Nat.le_refl _, fun q => by
              rcases q with q | q
              · exact k7 q
              · rw [hms] at q; cases q⟩
          · exact ⟨m, .inr ⟨y, k, rfl, ey⟩, Nat.le_refl _, by omega, fun _ => rfl⟩
        have hrun := sliceBounds_run (P := P) (w := w) true (evO_bnd hR hE hlo e1) (evO_bnd hR hE hhi e2) hbm b2 (by omega) hmc2 h4
        have hbl : ∀ q : Bool, (bif q then true else mx'.isSome) = true → q = true ∨ mx'.isSome = true := fun q z => by cases q <;> simp_all
        refine ResR.pure hR (x := .slice (some (if mc = l then ad else ad.add (l * P.cellsOf e))) (r - l) (mc - l)) ?_ ?_
        · rcases rel_sl rx with ⟨ad', c2, b, s, n, hX', k1, k2, k3, _, _, _, _, k8⟩ | ⟨ad', hX', z1, z2, z3⟩
          case inr =>
            rw [hX] at hX'
            cases hX'
            have zl : l = 0 := by omega
            have zr : r = 0 := by omega
            have zm : m = 0 := by omega
            have zc : mc = 0 := by omega
            subst zl zr zm zc
            rw [z3, if_pos rfl]
            exact .sl0
          rw [hX] at hX'
          cases hX'
          refine .sl k1 ?_ ?_ ?_ ?_ ?_ ?_ ?_
          · split
            · exact k2
            · rw [add_eq ad k3]; exact k2
          · split
            · exact k3
            · rw [add_eq ad k3]
          · exact Nat.sub_le_sub_right (by omega) _
          · exact Nat.sub_le_sub_right hmc1 _
          · exact Nat.sub_le_sub_right b3 _
          · intro q
            rw [hmc3 (hbl ex q)]
            rfl
          · intro hpos
            have hml : mc ≠ l := by omega
            rw [if_neg hml, add_eq ad k3]
            obtain ⟨q1, q2⟩ := k8 (by omega)
            have hno : (bif (Nat.beq l m && (bif ex then true else mx'.isSome)) then off else off.add (l.mul (P.cellsOf e))) = off + l * P.cellsOf e := by
              cases hq : (Nat.beq l m && (bif ex then true else mx'.isSome)) with
              | false => rfl
              | true =>
                rw [Bool.and_eq_true] at hq
                have := hmc3 (hbl ex hq.2)
                have := beq_iff.1 hq.1
                omega
            rw [hno]
            refine ⟨by push_cast; omega, ?_⟩
            show ad.off + l * P.cellsOf e + (mc - l) * P.cellsOf e ≤ n
            rw [Nat.add_assoc, ← Nat.add_mul, show l + (mc - l) = mc by omega]
            have := Nat.mul_le_mul_right (P.cellsOf e) hmc2
            omega
        · simp only [execOp, ho, hX, Instr.sliceAt, Instr.slice]
          simp only [Sem.run_bind, Sem.run_pure, Result.andThen_ok, run_underlying hd, hrun, run_sizeOf' hk, Option.map_some]
          split <;> rfl
    · trivial
  · trivial

theorem op_sliceArr (hR : HR P φ h w) (hE : EnvR φ env a.tmps) {t e : TypeId} {n : Nat} {x : Operand} {lo hi mx : Option Operand} {x' : Opd} {lo' hi' mx' : Option Opd} (hx : compOpd P x = some x') (hlo : compOpdO P lo = some lo') (hhi : compOpdO P hi = some hi')
    (hmx : compOpdO P mx = some mx') (h4 : mx.isSome = true → hi.isSome = true) (ht : arrayOf P t = some (n, e)) (ho : o.op = .slice t x lo hi mx) :
    ResR P φ h w (evalOp P (.sliceArr n (P.cellsOf e) x' lo' hi' mx') env h) ((execOp a.eval o).run P w) := by
  have rx := opd_rel hR hE hx
  obtain ⟨hd, hk⟩ := array_underlying ht
  unfold evalOp
  simp only
  split
  · rename_i id g off e0
    rw [e0] at rx
    obtain ⟨ad, b, s, N, hX, k1, k2, k3, k4⟩ := rel_ptr rx
    split
    · rename_i l r m e1 e2 e3
      cases hb : (Nat.blt 0 (n * P.cellsOf e) && (readN h id g off (n * P.cellsOf e)).isSome && Nat.ble l r && Nat.ble r m && Nat.ble m n) with
      | false => trivial
      | true =>
        simp only [Bool.and_eq_true] at hb
        obtain ⟨⟨⟨⟨b0, bs⟩, b2⟩, b3⟩, b4⟩ := hb
        have b0 : 0 < n * P.cellsOf e := blt_iff.1 b0
        have b2 := ble_iff.1 b2
        have b3 := ble_iff.1 b3
        have b4 := ble_iff.1 b4
        simp only [cond_true, natK_eq]
        have hroom : ad.off + n * P.cellsOf e ≤ N := by
          cases hr : readN h id g off (n * P.cellsOf e) with
          | none => rw [hr] at bs; cases bs
          | some c =>
            unfold readN at hr
            rw [beq_false.2 (by omega), cond_false] at hr
            split at hr
            · rename_i ser c' lo2 hi2 g' m2 ro fz hid
              cases hse : seeable c' lo2 hi2 g' m2 g off (n * P.cellsOf e) with
              | false => rw [hse] at hr; cases hr
              | true =>
                obtain ⟨_, C, el, fr, f2, f3, f5⟩ := seen hR hid k1 hse
                obtain ⟨o', v', x', g1, g2, g3, _⟩ := f5 (n * P.cellsOf e - 1) (by omega)
                have := (Array.getElem?_eq_some_iff.1 g3).1
                omega
            · cases hr
        have hrun := sliceBounds_run (P := P) (w := w) false (evO_bnd hR hE hlo e1) (evO_bnd hR hE hhi e2) (evO_bnd hR hE hmx e3) b2 b3 b4 h4
        refine ResR.pure hR (x := .slice (some (if m = l then ad else ad.add (l * P.cellsOf e))) (r - l) (m - l)) (.sl k1 ?_ ?_ ?_ (Nat.le_refl _) ?_ (fun _ => rfl) ?_) ?_
        · split
          · exact k2
          · rw [add_eq ad k3]; exact k2
        · split
          · exact k3
          · rw [add_eq ad k3]
        · exact Nat.sub_le_sub_right b3 _
        · exact Nat.sub_le_sub_right b3 _
        · intro hpos
          have hml : m ≠ l := by omega
          rw [if_neg hml, add_eq ad k3, beq_false.2 (Ne.symm hml), cond_false]
          refine ⟨by show ((ad.off + l * P.cellsOf e : Nat) : Int) = ((off + l * P.cellsOf e : Nat) : Int) + s; omega, ?_⟩
          show ad.off + l * P.cellsOf e + (m - l) * P.cellsOf e ≤ N
          rw [Nat.add_assoc, ← Nat.add_mul, show l + (m - l) = m by omega]
          have := Nat.mul_le_mul_right (P.cellsOf e) b4
          omega
        · simp only [execOp, ho, hX, Instr.sliceAt, Instr.sureAddr]
          simp only [Sem.run_bind, Sem.run_pure, Result.andThen_ok, run_underlying hd, hrun, run_sizeOf' hk]
    · trivial
  · trivial

theorem op_lenS (hR : HR P φ h w) (hE : EnvR φ env a.tmps) {c : Call} {x : Operand} {t : TypeId} {x' : Opd} (hx : compOpd P x = some x') (hd : P.underlying t = some .string) (hc : c.callee = .builtin .len) (ha : c.args.toList = [x]) (htt : c.argTypes.toList = [t])
    (ho : o.op = .call c) : ResR P φ h w (evalOp P (.lenS x') env h) ((execOp a.eval o).run P w) := by
  have rx := opd_rel hR hE hx
  have ha : c.args = #[x] := by rw [← Array.toArray_toList (xs := c.args), ha]
  have htt : c.argTypes = #[t] := by rw [← Array.toArray_toList (xs := c.argTypes), htt]
  unfold evalOp
  simp only
  generalize hX : a.eval x = X at *
  split
  · rename_i n v e
    rw [e] at rx
    obtain ⟨s, rfl, hs, hv, hn⟩ := rel_str rx
    refine ResR.pure hR (x := goInt s.size) (by rw [hn]; exact .int _ _) ?_
    simp [execOp, ho, resolve, hc, ha, htt, hX, invoke, builtin, Builtin.len_, run_underlying hd]
  · trivial

theorem op_lenL (hR : HR P φ h w) (hE : EnvR φ env a.tmps) {c : Call} {x : Operand} {t e : TypeId} {x' : Opd} (hx : compOpd P x = some x') (hd : P.underlying t = some (.slice e)) (hc : c.callee = .builtin .len) (ha : c.args.toList = [x]) (htt : c.argTypes.toList = [t])
    (ho : o.op = .call c) : ResR P φ h w (evalOp P (.lenL x') env h) ((execOp a.eval o).run P w) := by
  have rx := opd_rel hR hE hx
  have ha : c.args = #[x] := by rw [← Array.toArray_toList (xs := c.args), ha]
  have htt : c.argTypes = #[t] := by rw [← Array.toArray_toList (xs := c.argTypes), htt]
  unfold evalOp
  simp only
  split
  · rename_i id g off len cap ex es e0
    rw [e0] at rx
    obtain ⟨ad, c', hX, _⟩ := rel_slS rx
    refine ResR.pure hR (x := goInt len) (.int _ _) ?_
    simp [execOp, ho, resolve, hc, ha, htt, hX, invoke, builtin, Builtin.len_, run_underlying hd]
  · rename_i e0
    rw [e0] at rx
    generalize hX : a.eval x = X at *
    cases rx
    refine ResR.pure hR (x := goInt 0) (.int _ _) ?_
    simp [execOp, ho, resolve, hc, ha, htt, hX, invoke, builtin, Builtin.len_, run_underlying hd]
  · trivial

end

end Go.Proofs.YtialpccieggaoaaGreatDoor.Am

namespace Go.Proofs.YtialpccieggaoaaGreatDoor.Am

theorem HR.drew {P : Program} {φ : Phi} {h : Hp} {w : World} (hR : HR P φ h w) (d : Nat) : HR P φ h { w with drawn := d } :=
  ⟨fun id b e => BR.mono (Le.refl φ) (fun _ _ e => e) (fun _ _ _ _ _ => rfl) (hR.blk id b e), hR.used, hR.dom, hR.sep, hR.inb, hR.glob⟩

theorem Adv.drew (h : Hp) (w : World) (φ : Phi) (d : Nat) : Adv h w φ h { w with drawn := d } φ :=
  ⟨Le.refl φ, rfl, rfl, rfl, Nat.le_refl _, Nat.le_refl _, fun _ g _ s n e _ => ⟨g, s, n, e⟩, fun _ _ k => k, fun _ _ _ => rfl, rfl, fun _ _ e => e, fun _ _ _ _ _ e => e⟩

theorem appendCap_run {P : Program} {w : World} (need old : Nat) (e : TypeId) : ∃ c, need ≤ c ∧ (choose (.appendCap need old e)).run P w = .ok c { w with drawn := w.drawn + 1 } := by
  refine ⟨_, ?_, by rw [run_choose]; rfl⟩
  exact Nat.le_add_right _ _

theorem foldl_set (l : List Value) (off k : Nat) (cs : Array Value) (h : off + k + l.length ≤ cs.size) :
    ((l.zipIdx k).foldl (fun cs (p : Value × Nat) => cs.setIfInBounds (off + p.2) p.1) cs).toList = spliceV cs.toList (off + k) l := by
  induction l generalizing k cs with
  | nil => simp [spliceV]
  | cons v l ih =>
    simp only [List.zipIdx_cons, List.foldl_cons, List.length_cons] at *
    rw [ih (k + 1) _ (by simp; omega)]
    apply List.ext_getElem?
    intro i
    rw [spliceV_get (by simp; omega), spliceV_get (by simp; omega), Array.toList_setIfInBounds, List.getElem?_set]
    simp only [List.length_cons]
    by_cases c1 : i = off + k
    · subst c1
      rw [if_neg (by omega), if_pos rfl, if_pos (by simp; omega), if_pos ⟨by omega, by omega⟩, Nat.sub_self]
      rfl
    · by_cases c2 : off + (k + 1) ≤ i ∧ i < off + (k + 1) + l.length
      · rw [if_pos c2, if_pos ⟨by omega, by omega⟩, show i - (off + k) = (i - (off + (k + 1))) + 1 by omega, List.getElem?_cons_succ]
      · rw [if_neg c2, if_neg (by omega), if_neg (by omega)]

theorem foldl_setA (vs : Array Value) (off : Nat) (cs : Array Value) (h : off + vs.size ≤ cs.size) :
    (vs.zipIdx.foldl (fun cs (p : Value × Nat) => cs.setIfInBounds (off + p.2) p.1) cs).toList = spliceV cs.toList off vs.toList := by
  rw [← Array.foldl_toList, Array.toList_zipIdx]
  exact foldl_set vs.toList off 0 cs (by simpa using h)

theorem RelL.splice {φ : Phi} {l v : List AV} {cs vs : List Value} (h : RelL φ l cs) (k : RelL φ v vs) (off : Nat) : RelL φ (l.take off ++ (v ++ l.drop (off + v.length))) (spliceV cs off vs) := by
  unfold spliceV
  rw [k.length]
  exact (h.take off).append (k.append (h.drop _))

theorem replA_eq {α : Type} (n : Nat) (z acc : List α) : replA n z acc = (List.replicate n z).flatten ++ acc := by
  induction n generalizing acc with
  | zero => simp [replA]
  | succ n ih =>
    rw [replA, ih, List.replicate_succ', List.flatten_append]
    simp

theorem flatten_get {α : Type} (n : Nat) (z : List α) (i : Nat) (hi : i < n * z.length) : ((List.replicate n z).flatten)[i]? = z[i % z.length]? := by
  induction n generalizing i with
  | zero => omega
  | succ n ih =>
    rw [List.replicate_succ, List.flatten_cons]
    by_cases c : i < z.length
    · rw [List.getElem?_append_left c, Nat.mod_eq_of_lt c]
    · rw [List.getElem?_append_right (by omega), ih (i - z.length) (by rw [Nat.add_mul, Nat.one_mul] at hi; omega), ← Nat.mod_eq_sub_mod (by omega)]

theorem repl_rel {φ : Phi} {z : List AV} {Z : Array Value} (h : RelL φ z Z.toList) (n : Nat) :
    RelL φ (replA n z []) ((Array.range (n * Z.size)).map (Z[· % Z.size]!)).toList := by
  have hl : z.length = Z.size := by rw [h.length, Array.length_toList]
  have hlen : (replA n z []).length = n * Z.size := by rw [replA_eq]; simp [hl]
  refine RelL.of_get (by rw [hlen]; simp) fun i v x hv hx => ?_
  have hi : i < n * Z.size := by rw [← hlen]; exact (List.getElem?_eq_some_iff.1 hv).1
  rw [replA_eq, List.append_nil, flatten_get n z i (by rw [hl]; exact hi)] at hv
  obtain ⟨y, e1, e2⟩ := h.get hv
  rw [Array.toList_map, List.getElem?_map, Array.toList_range, List.getElem?_range hi, Option.map_some, Option.some.injEq] at hx
  rw [Array.getElem?_toList, hl] at e1
  have : Z[i % Z.size]! = y := by rw [getElem!_def, e1]
  rw [← hx, this]
  exact e2

section
variable {P : Program} {φ : Phi} {h : Hp} {w : World} {env : T AV} {a : Act} {o : Oper}

theorem fill_run (hR : HR P φ h w) (hE : EnvR φ env a.tmps) {sz place : Nat → Option (Nat × Nat)} (hp : ∀ i, place i = sz i) : ∀ (parts : List (Nat × Operand)) (parts' : List (Nat × Nat × Opd)) (l r : List AV) (cells : Array Value),
    compParts P sz parts = some parts' → RelL φ l cells.toList → fillA env l parts' = some r → ∃ cells', Instr.fill place cells (parts.map fun p => (p.1, a.eval p.2)) = some cells' ∧ RelL φ r cells'.toList
  | [], parts', l, r, cells, hc, hl, hf => by
    simp only [compParts, Option.some.injEq] at hc
    subst hc
    simp only [fillA, Option.some.injEq] at hf
    subst hf
    exact ⟨cells, rfl, hl⟩
  | (i, x) :: rest, parts', l, r, cells, hc, hl, hf => by
    unfold compParts at hc
    split at hc
    · rename_i off n x' rest' h1 h2 h3
      simp only [Option.some.injEq] at hc
      subst hc
      have rx := (opd_rel hR hE h2).cells
      unfold fillA at hf
      simp only at hf
      cases hb : (Nat.beq (ev env x').cells.length n && Nat.ble (Nat.add off n) l.length) with
      | false => rw [hb] at hf; cases hf
      | true =>
        rw [hb, cond_true] at hf
        rw [Bool.and_eq_true] at hb
        have b1 : (ev env x').cells.length = n := beq_iff.1 hb.1
        have b2 : off + n ≤ l.length := ble_iff.1 hb.2
        have hs : (a.eval x).cells.size = n := by rw [← b1, rx.length, Array.length_toList]
        have hcl : l.length = cells.size := by rw [hl.length, Array.length_toList]
        have step : RelL φ (l.take off ++ ((ev env x').cells ++ l.drop (Nat.add off n))) ((a.eval x).cells.zipIdx.foldl (fun cs (p : Value × Nat) => cs.setIfInBounds (off + p.2) p.1) cells).toList := by
          rw [foldl_setA _ _ _ (by omega)]
          have := hl.splice rx off
          rwa [b1] at this
        obtain ⟨cells', e1, e2⟩ := fill_run hR hE hp rest rest' _ r _ h3 step hf
        refine ⟨cells', ?_, e2⟩
        rw [List.map_cons]
        unfold Instr.fill
        simp only [hp, h1]
        rw [if_neg (by simp [hs]; omega)]
        exact e1
    · cases hc

theorem places_run {fs : Array Field} (hk : fs.toList.all (fun f => okT P f.type) = true) (w : World) : (fs.mapM (m := Sem) fun f => do pure (f.offset, ← sizeOf f.type)).run P w = .ok (fs.map fun f => (f.offset, P.cellsOf f.type)) w := by
  rw [Array.mapM_eq_mapM_toList]
  have : ∀ l : List Field, l.all (fun f => okT P f.type) = true → (l.mapM (m := Sem) fun f => do pure (f.offset, ← sizeOf f.type)).run P w = .ok (l.map fun f => (f.offset, P.cellsOf f.type)) w := by
    intro l
    induction l with
    | nil => intro _; simp
    | cons f l ih =>
      intro hl
      rw [List.all_cons, Bool.and_eq_true] at hl
      rw [List.mapM_cons]
      simp only [Sem.run_bind, run_sizeOf' hl.1, Result.andThen_ok, Sem.run_pure, ih hl.2, List.map_cons]
  rw [Sem.run_map, this fs.toList hk, Result.andThen_ok, ← Array.toList_map, Array.toArray_toList]

theorem op_build (hR : HR P φ h w) (hE : EnvR φ env a.tmps) {t : TypeId} {z : AV} {parts : Array (Nat × Operand)} {ao : AOp} (hz : zeroT P t = some z) (hc : compBuild P t z parts.toList = some ao) (ho : o.op = .build t parts) :
    ResR P φ h w (evalOp P ao env h) ((execOp a.eval o).run P w) := by
  obtain ⟨Z, z1, z2⟩ := zeroT_run hz φ w
  unfold compBuild at hc
  split at hc
  · rename_i fs hd
    cases hk : fs.toList.all (fun f => okT P f.type) with
    | false => rw [hk] at hc; cases hc
    | true =>
      rw [hk, cond_true] at hc
      cases hp : compParts P (fun i => (fs[i]?).map fun f => (f.offset, P.cellsOf f.type)) parts.toList with
      | none => rw [hp] at hc; cases hc
      | some parts' =>
        rw [hp, Option.map_some, Option.some.injEq] at hc
        subst hc
        unfold evalOp
        simp only
        split
        · rename_i l hf
          obtain ⟨cells', e1, e2⟩ := fill_run hR hE (place := fun i => (fs.map fun f => (f.offset, P.cellsOf f.type))[i]?) (fun i => by simp) parts.toList parts' _ l _ hp z2.cells hf
          refine ResR.pure hR (x := .agg cells') (.agg e2) ?_
          simp only [execOp, ho, Instr.build]
          have e1' : Instr.fill (fun i => (fs.map fun f => (f.offset, P.cellsOf f.type))[i]?) Z.cells (parts.map fun p => (p.1, a.eval p.2)).toList = some cells' := by
            rw [Array.toList_map]; exact e1
          simp only [Sem.run_bind, z1, Result.andThen_ok, run_underlying hd, places_run hk w]
          simp only [e1', Sem.run_pure, Result.andThen_ok]
        · trivial
  · rename_i n e hd
    cases hk : okT P e with
    | false => rw [hk] at hc; cases hc
    | true =>
      rw [hk, cond_true] at hc
      cases hp : compParts P (fun i => some (i * P.cellsOf e, P.cellsOf e)) parts.toList with
      | none => rw [hp] at hc; cases hc
      | some parts' =>
        rw [hp, Option.map_some, Option.some.injEq] at hc
        subst hc
        unfold evalOp
        simp only
        split
        · rename_i l hf
          obtain ⟨cells', e1, e2⟩ := fill_run hR hE (place := fun i => some (i * P.cellsOf e, P.cellsOf e)) (fun i => rfl) parts.toList parts' _ l _ hp z2.cells hf
          refine ResR.pure hR (x := .agg cells') (.agg e2) ?_
          simp only [execOp, ho, Instr.build]
          have e1' : Instr.fill (fun i => some (i * P.cellsOf e, P.cellsOf e)) Z.cells (parts.map fun p => (p.1, a.eval p.2)).toList = some cells' := by
            rw [Array.toList_map]; exact e1
          simp only [Sem.run_bind, z1, Result.andThen_ok, run_underlying hd, run_sizeOf' hk]
          simp only [e1', Sem.run_pure, Result.andThen_ok]
        · trivial
  · cases hc

/-- A slice over a new row of which something is known. -/
theorem ResR.newSlN (note : Nat) (hR : HR P φ h w) (hm : Room h) {l : List AV} {xs : List Value} (hl : RelL φ l xs) (el : TypeId) (hnote : NoteR P note 0 xs.length el) {len cap es : Nat} (hlc : len ≤ cap) (hsz : cap * es = xs.length) {R : Result Next}
    (e : R = .ok (.value (.slice (some ⟨w.heap.size, 0, none⟩) len cap)) (w.alloc (.cells xs.toArray el (0, 0)))) :
    ResR P φ h w (newCellsN h note (Cells.ofL l) fun id h => .val (.sl id 0 0 len cap true es) h) R := by
  obtain ⟨w1, t1, _⟩ := Cells.ofL_spec l
  have hl' : RelL φ (Cells.ofL l).toL xs := by rw [t1]; exact hl
  obtain ⟨n1, n2⟩ := newCells_run hR hm w1 hl' (spare := []) el (0, 0) false rfl note (Nat.succ h.ser) (by rw [List.append_nil]; exact hnote)
  simp only [List.append_nil] at n1 n2
  unfold newCellsN
  rw [newK_eq]
  exact ⟨_, _, _, _, e, .inl rfl, n1, n2, .sl (Phi.put_same _ _ _ _) rfl rfl hlc (Nat.le_refl _) hlc (fun _ => rfl) fun _ => ⟨rfl, by show 0 + cap * es ≤ _; omega⟩⟩

/-- A slice over a new row. -/
theorem ResR.newSl (hR : HR P φ h w) (hm : Room h) {l : List AV} {xs : List Value} (hl : RelL φ l xs) (el : TypeId) {len cap es : Nat} (hlc : len ≤ cap) (hsz : cap * es = xs.length) {R : Result Next}
    (e : R = .ok (.value (.slice (some ⟨w.heap.size, 0, none⟩) len cap)) (w.alloc (.cells xs.toArray el (0, 0)))) :
    ResR P φ h w (newCells h (Cells.ofL l) fun id h => .val (.sl id 0 0 len cap true es) h) R := by
  obtain ⟨w1, t1, _⟩ := Cells.ofL_spec l
  have hl' : RelL φ (Cells.ofL l).toL xs := by rw [t1]; exact hl
  obtain ⟨n1, n2⟩ := newCells_run hR hm w1 hl' (spare := []) el (0, 0) false rfl 0 (Nat.succ h.ser) (.inl rfl)
  simp only [List.append_nil] at n1 n2
  unfold newCells
  rw [newK_eq]
  exact ⟨_, _, _, _, e, .inl rfl, n1, n2, .sl (Phi.put_same _ _ _ _) rfl rfl hlc (Nat.le_refl _) hlc (fun _ => rfl) fun _ => ⟨rfl, by show 0 + cap * es ≤ _; omega⟩⟩

theorem op_buildSl (hR : HR P φ h w) (hE : EnvR φ env a.tmps) (hm : Room h) {t e : TypeId} {len : Nat} {z : AV} {parts : Array (Nat × Operand)} {parts' : List (Nat × Nat × Opd)} (ht : elemOfSlice P t = some e) (hz : zeroT P e = some z)
    (hsz : len * P.cellsOf e ≤ 16777216) (hzl : z.cells.length = P.cellsOf e) (hp : compParts P (fun i => some (i * P.cellsOf e, P.cellsOf e)) parts.toList = some parts') (ho : o.op = .buildSlice t len parts) :
    ResR P φ h w (evalOp P (.buildSl len (P.cellsOf e) z.cells parts') env h) ((execOp a.eval o).run P w) := by
  obtain ⟨hd, hk⟩ := elem_underlying ht
  obtain ⟨Z, z1, z2⟩ := zeroT_run hz φ w
  have hZ : Z.cells.size = P.cellsOf e := by rw [← hzl, z2.cells.length, Array.length_toList]
  unfold evalOp
  simp only
  split
  · rename_i l hf
    cases hb : Nat.blt 0 (P.cellsOf e) with
    | false => trivial
    | true =>
      have hb := blt_iff.1 hb
      rw [cond_true]
      have hrep := repl_rel z2.cells len
      rw [hZ] at hrep
      obtain ⟨cells', e1, e2⟩ := fill_run hR hE (place := fun i => some (i * P.cellsOf e, P.cellsOf e)) (fun i => rfl) parts.toList parts' _ l _ hp hrep hf
      have e1' : Instr.fill (fun i => some (i * P.cellsOf e, P.cellsOf e)) ((Array.range (len * P.cellsOf e)).map (Z.cells[· % P.cellsOf e]!)) (parts.map fun p => (p.1, a.eval p.2)).toList = some cells' := by
        rw [Array.toList_map]; exact e1
      have hfl : l.length = len * P.cellsOf e := by
        have : ∀ (ps : List (Nat × Nat × Opd)) (l r : List AV), fillA env l ps = some r → r.length = l.length := by
          intro ps
          induction ps with
          | nil => intro l r k; simp only [fillA, Option.some.injEq] at k; rw [k]
          | cons p ps ih =>
            intro l r k
            obtain ⟨off, n, x⟩ := p
            unfold fillA at k
            simp only at k
            cases hb : (Nat.beq (ev env x).cells.length n && Nat.ble (Nat.add off n) l.length) with
            | false => rw [hb] at k; cases k
            | true =>
              rw [hb, cond_true] at k
              rw [Bool.and_eq_true] at hb
              have b1 : (ev env x).cells.length = n := beq_iff.1 hb.1
              have b2 : off + n ≤ l.length := ble_iff.1 hb.2
              rw [ih _ _ k]
              simp only [List.length_append, List.length_take, List.length_drop, b1]
              show min off l.length + (n + (l.length - (off + n))) = l.length
              omega
        rw [this _ _ _ hf, replA_eq]; simp [hzl]
      have hcl : len * P.cellsOf e = cells'.toList.length := by rw [← e2.length, hfl]
      refine ResR.newSl hR hm e2 e (Nat.le_refl len) hcl ?_
      simp only [execOp, ho, Instr.buildSlice]
      simp only [Sem.run_bind, Sem.run_pure, Result.andThen_ok, run_underlying hd, run_sizeOf' hk]
      by_cases h0 : len * P.cellsOf e = 0
      · have hl0 : len = 0 := by
          rcases Nat.mul_eq_zero.1 h0 with q | q
          · exact q
          · omega
        subst hl0
        simp only [Nat.zero_mul, gt_iff_lt, Nat.not_lt_zero, if_false, if_true] at e1' ⊢
        have e1'' : Instr.fill (fun i => some (i * P.cellsOf e, P.cellsOf e)) ((Array.range 0).map fun i => (#[] : Array Value)[i % (#[] : Array Value).size]!) (parts.map fun p => (p.1, a.eval p.2)).toList = some cells' := by
          have hr : ∀ f : Nat → Value, (Array.range 0).map f = #[] := fun f => by simp
          rw [hr] at e1' ⊢
          exact e1'
        simp only [e1'', Sem.run_bind, newRow, run_newObj, Sem.run_pure, Result.andThen_ok, Array.toArray_toList]
        rfl
      · rw [if_neg (show ¬ (len * P.cellsOf e > 2 ^ 24) by omega), if_neg h0]
        simp only [Sem.run_bind, Sem.run_pure, z1, Result.andThen_ok, hZ, e1', newRow, run_newObj, Array.toArray_toList]
        rfl
  · trivial

end

end Go.Proofs.YtialpccieggaoaaGreatDoor.Am
