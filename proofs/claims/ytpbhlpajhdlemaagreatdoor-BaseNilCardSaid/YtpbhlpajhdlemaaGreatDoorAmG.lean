import Derived.Lib.Bytealg
import Derived.Lib.MakeNoZero
import Derived.Lib.Builder
import Derived.Test.YtpbhlpajhdlemaaGreatDoorAmF
/- THE ABSTRACT MACHINE, part G: a machine over values without block numbers, run by the kernel, and the proof that the model's machine does what it does. No condition. -/
set_option linter.unusedSimpArgs false
set_option linter.unusedVariables false
namespace Go.Proofs.YtpbhlpajhdlemaaGreatDoor.Am

section
variable {P : Program} {φ : Phi} {h : Hp} {w : World} {env : T AV} {a : Act} {o : Oper}

theorem op_sliceData (hR : HR P φ h w) (hE : EnvR φ env a.tmps) {c : Call} {x : Operand} {x' : Opd} (hx : compOpd P x = some x') (hc : c.callee = .builtin .unsafeSliceData) (ha : c.args.toList = [x]) (ho : o.op = .call c) :
    ResR P φ h w (evalOp P (.sliceData x') env h) ((execOp a.eval o).run P w) := by
  have rx := opd_rel hR hE hx
  have ha : c.args = #[x] := by rw [← Array.toArray_toList (xs := c.args), ha]
  have hrun : (execOp a.eval o).run P w = (do pure (Next.value (← Builtin.unsafeSliceData_ c.argTypes o.type #[a.eval x])) : Sem Next).run P w := by
    rw [exec_builtin ho hc, ha, show #[x].map a.eval = #[a.eval x] by simp]; rfl
  rw [hrun]
  unfold evalOp
  simp only
  generalize hX : a.eval x = X at *
  split
  · rename_i e
    rw [e] at rx
    cases rx
    exact ResR.pure hR .nilPtr rfl
  · rename_i id g off len cap ex es e
    rw [e] at rx
    cases hb : Nat.blt 0 cap with
    | false => trivial
    | true =>
      have hb := blt_iff.1 hb
      rw [cond_true]
      rcases rel_sl rx with ⟨ad, cc, b, s, n, rfl, k1, k2, k3, k4, k5, k6, k7, k8⟩ | ⟨_, _, _, q, _⟩
      · obtain ⟨q1, _⟩ := k8 (by omega)
        refine ResR.pure hR (x := .pointer (some ad)) (.ptr k1 k2 q1 k3) ?_
        rw [Sem.run_bind, Lib.run_unsafeSliceData_row (P := P) w c.argTypes o.type ad len cc (by omega)]
        rfl
      · omega
  · trivial

theorem op_clearSl (hR : HR P φ h w) (hE : EnvR φ env a.tmps) {c : Call} {x : Operand} {x' : Opd} {t e : TypeId} {r : List TypeId} {z : AV} (ht : elemOfSlice P t = some e) (hz : zeroT P e = some z) (hzl : z.cells.length = P.cellsOf e) (hx : compOpd P x = some x')
    (hc : c.callee = .builtin .clear) (ha : c.args.toList = [x]) (htt : c.argTypes.toList = t :: r) (ho : o.op = .call c) : ResR P φ h w (evalOp P (.clearSl (P.cellsOf e) z.cells x') env h) ((execOp a.eval o).run P w) := by
  have rx := opd_rel hR hE hx
  have ha : c.args = #[x] := by rw [← Array.toArray_toList (xs := c.args), ha]
  have hts : c.argTypes[0]? = some t := by rw [← Array.toArray_toList (xs := c.argTypes), htt]; rfl
  obtain ⟨hd, hk⟩ := elem_underlying ht
  obtain ⟨Z, z1, z2⟩ := zeroT_run hz φ w
  have hZ : Z.cells.size = P.cellsOf e := by rw [← hzl, z2.cells.length, Array.length_toList]
  have hrun : (execOp a.eval o).run P w = (do pure (Next.value (← Builtin.clear_ c.argTypes o.type #[a.eval x])) : Sem Next).run P w := by
    rw [exec_builtin ho hc, ha, show #[x].map a.eval = #[a.eval x] by simp]; rfl
  rw [hrun]
  unfold evalOp
  simp only
  generalize hX : a.eval x = X at *
  split
  · rename_i e0
    rw [e0] at rx
    cases rx
    exact ResR.pure hR (x := .tuple #[]) (.tup .nil) (by simp [Builtin.clear_, hts, run_underlying hd])
  · rename_i id g off len cap ex es e0
    rw [e0] at rx
    cases hb : Nat.beq len 0 with
    | true =>
      have hb := beq_iff.1 hb
      subst hb
      obtain ⟨ad, c', rfl, _⟩ := rel_slS rx
      exact ResR.pure hR (x := .tuple #[]) (.tup .nil) (by simp [Builtin.clear_, hts, run_underlying hd])
    | false =>
      have hb := beq_false.1 hb
      rw [cond_false]
      cases he : Nat.beq (P.cellsOf e) es with
      | false => trivial
      | true =>
        have he := beq_iff.1 he
        subst he
        rw [cond_true]
        rcases rel_sl rx with ⟨ad, cc, b, s, n, rfl, k1, k2, k3, k4, k5, k6, k7, k8⟩ | ⟨_, _, q, _⟩
        · obtain ⟨w1, t1, s1⟩ := Cells.ofL_spec (replA len z.cells [])
          have hr := repl_rel z2.cells len
          have hrel : RelL φ (Cells.ofL (replA len z.cells [])).toL (Builtin.zeroCells Z.cells len).toList := by rw [t1]; exact hr
          obtain ⟨m, rfl⟩ : ∃ m, len = m + 1 := ⟨len - 1, by omega⟩
          rcases writeN_run hR (k := fun h => .val (.tup []) h) k1 k2 k3 (fun _ => (k8 (by omega)).1) w1 hrel with ⟨why, e1⟩ | ⟨h', w', e1, p1, p2, p3⟩
          · rw [e1]; trivial
          · rw [e1]
            refine ⟨_, .tuple #[], w', φ, ?_, .inl rfl, p2, p3, .tup .nil⟩
            simp only [Builtin.clear_, Sem.run_bind, hts, List.getElem?_toArray, List.getElem?_cons_zero, run_underlying hd, Result.andThen_ok, z1, p1, Sem.run_pure]
        · omega
  · trivial

/-- So many bytes lie side by side in a row of bytes. -/
theorem liesAt_row {e u : TypeId} (hc : P.cellsOf e = 1) (he : P.underlying e = some (.int .u8)) (hu : P.underlying u = some (.int .u8)) {count off n : Nat} (hn : off + n ≤ count) : liesAt P P.depth e count off u n = true := by
  have hd : P.depth = (2 * (P.types.size + Made.depth) + 1) + 1 := rfl
  rw [hd]
  simp only [liesAt, Bool.or_eq_true]
  left
  rw [hd]
  have : off % 1 = 0 := by omega
  simp [rowAt, hc, hn, sameLayout, he, hu, this]

theorem run_unsafeStr {ts : Array TypeId} {pt ty pe el : TypeId} {ad : Addr} {cells : Nat} (hts : ts[0]? = some pt) (hp : P.underlying pt = some (.pointer pe)) (hpe : P.underlying pe = some (.int .u8)) (hc : P.cellsOf el = 1) (he : P.underlying el = some (.int .u8)) (hsh : w.shape? ad.block = some (el, cells)) (l : List UInt8) (h0 : l ≠ []) (hn : ad.off + l.length ≤ cells) (h63 : l.length ≤ 9223372036854775807)
    (hcell : ∀ j x, l[j]? = some x → w.cell? (ad.add j) = some (.int .u8 x.toNat)) :
    (Builtin.unsafeString_ ts ty #[.pointer (some ad), .int .i64 l.length]).run P w = .ok (.string ⟨l.toArray⟩) (w.freeze ad l.length) := by
  have hl : l.length ≠ 0 := by simpa using h0
  have hlb := Lib.run_loadBytes (P := P) w l ad .empty hcell
  have hlies : liesAt P P.depth el (cells / P.cellsOf el) ad.off pe l.length = true := liesAt_row hc he hpe (by rw [hc]; simpa using hn)
  have h63' : ¬ (9223372036854775807 : Int) < (l.length : Int) := by omega
  have hdef : Builtin.unsafeString_ ts ty #[.pointer (some ad), .int .i64 l.length] =
      (do
        let n ← asInt (.int .i64 l.length)
        let some pt := ts[0]? | stuck _
        if n < 0 then runtimePanic (.error _)
        if n > IntKind.i64.max then unsupported (.unsafePointer _)
        if n = 0 then pure (.string .empty)
        else if ← variablesAt ad (← elemOf pt) n.toNat then do
          let s ← loadBytes ad .empty n.toNat
          freeze ad n.toNat
          pure (.string s)
        else unsupported (.unsafePointer _)) := rfl
  rw [hdef]
  have hmax : IntKind.i64.max = 9223372036854775807 := rfl
  have hneg : ¬ (l.length : Int) < 0 := by omega
  simp [asInt, asIntOf, hmax, h63', hneg, hl, variablesAt, hsh, elemOf, run_underlying hp, hlies, hlb, hts]

theorem run_unsafeStr0 {ts : Array TypeId} {pt ty : TypeId} (hts : ts[0]? = some pt) (p : Option Addr) : (Builtin.unsafeString_ ts ty #[.pointer p, .int .i64 0]).run P w = .ok (.string .empty) w := by
  have hmax : IntKind.i64.max = 9223372036854775807 := rfl
  cases p with
  | none =>
    obtain ⟨s1, s2, s3, s4, hdef⟩ : ∃ s1 s2 s3 s4 : String, Builtin.unsafeString_ ts ty #[.pointer none, .int .i64 0] =
        (do
          let n ← asInt (.int .i64 0)
          let some pt := ts[0]? | stuck s1
          if n < 0 then runtimePanic (.error s2)
          if n > IntKind.i64.max then unsupported (.unsafePointer s3)
          if n = 0 then pure (.string .empty)
          else runtimePanic (.error s4)) := ⟨_, _, _, _, rfl⟩
    rw [hdef]
    simp [asInt, asIntOf, hmax, hts]
  | some a =>
    have hdef : Builtin.unsafeString_ ts ty #[.pointer (some a), .int .i64 0] =
        (do
          let n ← asInt (.int .i64 0)
          let some pt := ts[0]? | stuck _
          if n < 0 then runtimePanic (.error _)
          if n > IntKind.i64.max then unsupported (.unsafePointer _)
          if n = 0 then pure (.string .empty)
          else if ← variablesAt a (← elemOf pt) n.toNat then do
            let s ← loadBytes a .empty n.toNat
            freeze a n.toNat
            pure (.string s)
          else unsupported (.unsafePointer _)) := rfl
    rw [hdef]
    simp [asInt, asIntOf, hmax, hts]

theorem freeze_same {C : Array Value} {el : TypeId} {fr : Nat × Nat} {ad : Addr} {n : Nat} (hn : n ≠ 0) (hb : w.heap[ad.block]? = some (.cells C el fr)) : ∃ fr', (w.freeze ad n).heap[ad.block]? = some (.cells C el fr') := by
  obtain ⟨lo, hi⟩ := fr
  unfold World.freeze
  rw [if_neg hn]
  exact ⟨_, by simp only [Array.getElem?_modify, if_pos, hb]; rfl⟩

theorem freeze_else {ad : Addr} {n b : Nat} (hb : b ≠ ad.block) : (w.freeze ad n).heap[b]? = w.heap[b]? := by
  unfold World.freeze
  split
  · rfl
  · simp only [Array.getElem?_modify]
    rw [if_neg (Ne.symm hb)]

/-- A row is read by a text for good: nothing of it may be written any more. -/
theorem freeze_hr (hR : HR P φ h w) {id : Pos} {note lo hi g m : Nat} {c : Cells} {fz : Bool} (hid : T.get id h.heap = some (.cells note c lo hi g m false fz)) {b : Nat} {s : Int} {n : Nat} (hφ : φ id g = some (b, s, n)) {ad : Addr} (hb : ad.block = b) (k ser : Nat) :
    HR P φ ⟨T.set id (some (.cells note c lo hi g m true fz)) h.heap, h.next, ser, h.lim⟩ (w.freeze ad k) ∧ Adv h w φ ⟨T.set id (some (.cells note c lo hi g m true fz)) h.heap, h.next, ser, h.lim⟩ (w.freeze ad k) φ := by
  obtain ⟨⟨h1, h2, h3, h4, h6, h5⟩, ty⟩ := hR.blk _ _ hid
  have hsz : (w.freeze ad k).heap.size = w.heap.size := by unfold World.freeze; split <;> simp
  have u : Upd h w φ id h.next (w.freeze ad k) φ :=
    Upd.same hR hid hsz (fun y hy q => freeze_else fun c => q g s n (by rw [c, hb]; exact hφ)) (by unfold World.freeze; split <;> rfl) (by unfold World.freeze; split <;> rfl) (by unfold World.freeze; split <;> rfl)
  refine ⟨hR.update u (.inr ⟨_, hid, rfl⟩) fun x hx => ?_, Adv.update hR u (.inr ⟨_, hid, rfl⟩)⟩
  cases hx
  have same : ∀ {b' : Nat} {C : Array Value} {el : TypeId} {fr : Nat × Nat}, w.heap[b']? = some (.cells C el fr) → ∃ fr', (w.freeze ad k).heap[b']? = some (.cells C el fr') := fun {b' C el fr} e => by
    by_cases hk : k = 0
    · refine ⟨fr, ?_⟩
      unfold World.freeze
      rw [if_pos hk]; exact e
    · by_cases hbb : b' = ad.block
      · subst hbb; exact freeze_same hk e
      · exact ⟨fr, by rw [freeze_else hbb]; exact e⟩
  refine ⟨⟨h1, h2, h3, h4, h6, fun j hj1 hj2 => ?_⟩, fun j b' s' n' C el fr a1 a2 q1 q2 => ?_⟩
  · obtain ⟨b', s', n', C', el', fr', f1, f2, f3, f4, f5⟩ := h5 j hj1 hj2
    obtain ⟨fr2, e2⟩ := same f2
    exact ⟨b', s', n', C', el', fr2, f1, e2, f3, (fun q => by cases q), f5⟩
  · obtain ⟨b2, s2, n2, C2, el2, fr2, f1, f2, _⟩ := h5 j a1 a2
    rw [q1] at f1
    cases f1
    obtain ⟨fr3, e3⟩ := same f2
    rw [e3] at q2
    cases q2
    exact ty j _ _ _ _ _ _ a1 a2 q1 f2

theorem op_unsafeStr (hR : HR P φ h w) (hE : EnvR φ env a.tmps) {c : Call} {p n : Operand} {p' n' : Opd} {t e : TypeId} {r : List TypeId} (hp : compOpd P p = some p') (hn : compOpd P n = some n') (hc : c.callee = .builtin .unsafeString) (ha : c.args.toList = [p, n]) (htt : c.argTypes.toList = t :: r)
    (hd : P.underlying t = some (.pointer e)) (he : byteT P e = true) (ho : o.op = .call c) : ResR P φ h w (evalOp P (.unsafeStr p' n') env h) ((execOp a.eval o).run P w) := by
  have rp := opd_rel hR hE hp
  have rn := opd_rel hR hE hn
  have ha : c.args = #[p, n] := by rw [← Array.toArray_toList (xs := c.args), ha]
  have hts : c.argTypes[0]? = some t := by rw [← Array.toArray_toList (xs := c.argTypes), htt]; rfl
  have hu8 : P.underlying e = some (.int .u8) := by
    unfold byteT at he
    rw [Bool.and_eq_true, Bool.and_eq_true] at he
    have := he.1.1
    split at this
    · rename_i q; exact q
    · cases this
  have hrun : (execOp a.eval o).run P w = (do pure (Next.value (← Builtin.unsafeString_ c.argTypes o.type #[a.eval p, a.eval n])) : Sem Next).run P w := by
    rw [exec_builtin ho hc, ha, show #[p, n].map a.eval = #[a.eval p, a.eval n] by simp]; rfl
  rw [hrun]
  unfold evalOp
  simp only
  generalize hX : a.eval p = X at *
  generalize hY : a.eval n = Y at *
  split
  · rename_i k ek
    rw [ek] at rn
    cases rn
    have hempty : ∀ (q : Option Addr), (do pure (Next.value (← Builtin.unsafeString_ c.argTypes o.type #[.pointer q, .int .i64 0])) : Sem Next).run P w = .ok (.value (.string .empty)) w := fun q => by
      rw [Sem.run_bind, run_unsafeStr0 hts q]; rfl
    cases hk : Nat.beq k 0 with
    | true =>
      have hk := beq_iff.1 hk
      subst hk
      rw [cond_true]
      split
      · rename_i ep
        rw [ep] at rp
        cases rp
        exact ResR.pure hR (x := .string .empty) (.str rfl (by simp)) (hempty none)
      · rename_i id g off ep
        rw [ep] at rp
        obtain ⟨ad, b, s, N, rfl, _⟩ := rel_ptr rp
        exact ResR.pure hR (x := .string .empty) (.str rfl (by simp)) (hempty (some ad))
      · trivial
    | false =>
      rw [cond_false]
      have hk := beq_false.1 hk
      split
      · rename_i id g off ep
        rw [ep] at rp
        obtain ⟨ad, b, s, N, rfl, k1, k2, k3, k4⟩ := rel_ptr rp
        split
        · rename_i note cc lo hi g' m ro fz hid
          cases hb : (!ro && Nat.beq note 1 && Nat.beq g g' && Nat.ble k i64max) with
          | false => trivial
          | true =>
            simp only [Bool.and_eq_true, Bool.not_eq_true'] at hb
            obtain ⟨⟨⟨f1, f2⟩, f3⟩, f4⟩ := hb
            subst f1
            have f2 := beq_iff.1 f2
            have f3 := beq_iff.1 f3
            subst f2 f3
            have f4 := ble_iff.1 f4
            rw [cond_true]
            cases hr : readN h id g off k with
            | none => trivial
            | some c' =>
              obtain ⟨xs, r1, r2, r3, r4⟩ := readN_run hR hr k1 k2 k3 (fun _ => k4)
              cases c' with
              | lst _ _ => trivial
              | byt k2' v =>
                have hkk : k2' = k := r4
                subst hkk
                simp only [natK_eq, T.setK_eq]
                obtain ⟨⟨_, c2, _, _, _, c5⟩, ty⟩ := hR.blk _ _ hid
                obtain ⟨b', s2, n2, C, el, fr, e1, e2, e3, _, _⟩ := c5 g c2 (Nat.le_refl _)
                rw [k1] at e1
                cases e1
                have hty : P.underlying el = some (.int .u8) ∧ P.cellsOf el = 1 := by
                  rcases ty g _ _ _ _ _ _ c2 (Nat.le_refl _) k1 e2 with q | ⟨_, q⟩ | ⟨u, q, _⟩
                  · cases q
                  · exact q
                  · have : 1 = u + 2 := q; omega
                -- the cells
                have hrd : ∃ hs : seeable cc lo hi g m g off k2' = true, True := by
                  unfold readN at hr
                  rw [show Nat.beq k2' 0 = false from beq_false.2 hk, cond_false, hid] at hr
                  simp only at hr
                  cases hs : seeable cc lo hi g m g off k2' with
                  | false => rw [hs] at hr; cases hr
                  | true => exact ⟨rfl, trivial⟩
                obtain ⟨hs, _⟩ := hrd
                have hcc : cc.sub off k2' = .byt k2' v := by
                  unfold readN at hr
                  rw [show Nat.beq k2' 0 = false from beq_false.2 hk, cond_false, hid] at hr
                  simp only [hs, cond_true, Option.some.injEq] at hr
                  exact hr
                obtain ⟨hle, C', el', fr', g1, g2, g3⟩ := seen hR hid k1 hs
                rw [e2] at g1
                cases g1
                have hwf := (hR.blk _ _ hid).1.1
                have htl : (cc.toL.drop off).take k2' = bytesL k2' v := by
                  have := (Cells.sub_spec hwf (off := off) (n := k2') hle).2.1
                  rw [hcc] at this
                  exact this.symm
                have hcell : ∀ j x, (unpack k2' v)[j]? = some x → w.cell? (ad.add j) = some (.int .u8 x.toNat) := fun j x hj => by
                  have hjl : j < k2' := by have := (List.getElem?_eq_some_iff.1 hj).1; rwa [unpack_length] at this
                  obtain ⟨o, av, xv, o1, o2, o3, o4⟩ := g3 j hjl
                  have : (bytesL k2' v)[j]? = some (byteV x.toNat) := by rw [bytesL_eq, List.getElem?_map, hj]; rfl
                  rw [← htl, List.getElem?_take_of_lt hjl, List.getElem?_drop, o2] at this
                  cases this
                  cases o4
                  rw [add_eq ad k3, k2, cell_eq e2, show ad.off + j = o by omega, o3]
                  rfl
                have hlen : (unpack k2' v).length = k2' := unpack_length _ _
                have hlast : ad.off + k2' ≤ C.size := by
                  obtain ⟨o, av, xv, o1, o2, o3, o4⟩ := g3 (k2' - 1) (by omega)
                  have := (Array.getElem?_eq_some_iff.1 o3).1
                  omega
                have run := run_unsafeStr (P := P) (w := w) (ts := c.argTypes) (ty := o.type) (ad := ad) (cells := C.size) hts hd hu8 hty.2 hty.1 (by unfold World.shape?; rw [k2, e2]) (unpack k2' v) (by intro q; rw [q] at hlen; simp at hlen; omega) (by rw [hlen]; exact hlast) (by rw [hlen]; exact f4) hcell
                rw [hlen] at run
                obtain ⟨n1, n2⟩ := freeze_hr hR hid k1 k2 k2' h.ser
                refine ⟨_, .string ⟨(unpack k2' v).toArray⟩, w.freeze ad k2', φ, ?_, .inl rfl, n1, n2, .str (by simp) r3⟩
                have run' : (Builtin.unsafeString_ c.argTypes o.type #[.pointer (some ad), .int .i64 (Int.ofNat k2')]).run P w = _ := run
                rw [Sem.run_bind, run']
                rfl
        · trivial
      · trivial
  · trivial

theorem idxL_eq (c : Nat) (hc : c < 256) : ∀ (l : List UInt8) (i : Nat), idxL c l i = if Lib.indexByte l (UInt8.ofNat c) == -1 then -1 else Lib.indexByte l (UInt8.ofNat c) + i
  | [], i => by simp [idxL, Lib.indexByte]
  | b :: l, i => by
    have ge := Lib.indexByte_ge l (UInt8.ofNat c)
    unfold idxL Lib.indexByte
    by_cases hb : b.toNat = c
    · have e : b = UInt8.ofNat c := by apply UInt8.toNat_inj.1; rw [hb]; simp; omega
      rw [show Nat.beq b.toNat c = true from beq_iff.2 hb, cond_true, e]
      simp
    · have e : ¬ b = UInt8.ofNat c := fun q => hb (by rw [q]; simp; omega)
      rw [show Nat.beq b.toNat c = false from beq_false.2 hb, cond_false, idxL_eq c hc l (Nat.succ i)]
      have e' : (b == UInt8.ofNat c) = false := by simpa using e
      rw [e']
      simp only [Bool.false_eq_true, if_false]
      by_cases q : Lib.indexByte l (UInt8.ofNat c) = -1
      · simp [q]
      · have q1 : (Lib.indexByte l (UInt8.ofNat c) == -1) = false := by simpa using q
        have q2 : (Lib.indexByte l (UInt8.ofNat c) + 1 == -1) = false := by rw [beq_eq_false_iff_ne]; omega
        simp only [q1, q2, Bool.false_eq_true, if_false]
        show _ + ((i + 1 : Nat) : Int) = _
        omega

theorem cntL_eq (c : Nat) (hc : c < 256) : ∀ (l : List UInt8) (n : Nat), cntL c l n = n + Lib.countByte l (UInt8.ofNat c)
  | [], n => by simp [cntL, Lib.countByte]
  | b :: l, n => by
    unfold cntL Lib.countByte
    rw [List.count_cons]
    by_cases hb : b.toNat = c
    · have e : b = UInt8.ofNat c := by apply UInt8.toNat_inj.1; rw [hb]; simp; omega
      rw [show Nat.beq b.toNat c = true from beq_iff.2 hb, cond_true, e, cntL_eq c hc]
      simp [Lib.countByte]; omega
    · have e : ¬ b = UInt8.ofNat c := fun q => hb (by rw [q]; simp; omega)
      rw [show Nat.beq b.toNat c = false from beq_false.2 hb, cond_false, cntL_eq c hc]
      simp [Lib.countByte, e]

theorem cmpI_eq : ∀ (l m : List UInt8), cmpI (cmpL l m) = Lib.compareBytes l m
  | [], [] => rfl
  | [], _ :: _ => rfl
  | _ :: _, [] => rfl
  | a :: l, b :: m => by
    have ih := cmpI_eq l m
    unfold cmpL Lib.compareBytes
    by_cases h1 : a < b
    · have h1' := UInt8.lt_iff_toNat_lt.1 h1
      simp [h1, h1', cmpI]
    · by_cases h2 : b < a
      · have : ¬ a = b := fun q => by subst q; exact UInt8.lt_irrefl a h2
        have h2' := UInt8.lt_iff_toNat_lt.1 h2
        have h3 : ¬ a.toNat < b.toNat := by omega
        have h4 : ¬ a.toNat = b.toNat := by omega
        simp [h1, h2, h3, h4, cmpI]
      · have : a = b := UInt8.le_antisymm (UInt8.not_lt.1 h2) (UInt8.not_lt.1 h1)
        simp [h1, h2, this, ih]

theorem ext_find {fn : Func} (ho : fn.origin = "") {k : Nat} (hk : extName fn = k + 1) :
    Extern.findNext fn = none ∧ ∃ e, Extern.find fn = some e ∧ (k = 0 → e = Extern.AbiNoEscape.same) ∧ (k = 1 → e = Extern.BytealgMakeNoZero.makeNoZero fn.params fn.resultTypes) ∧ (k = 2 → e = Extern.BytealgCompare.compare) ∧ (k = 3 → e = Extern.BytealgIndexByte.indexByte) ∧ (k = 4 → e = Extern.BytealgCount.count) := by
  unfold extName at hk
  cases h1 : fn.name == slash "internal" "abi.NoEscape" with
  | true =>
    rw [h1, cond_true] at hk
    cases hk
    unfold Extern.findNext Extern.find
    rw [eq_of_beq h1, ho]
    exact ⟨rfl, _, rfl, fun _ => rfl, (by intro q; cases q), (by intro q; cases q), (by intro q; cases q), (by intro q; cases q)⟩
  | false =>
  rw [h1, cond_false] at hk
  cases h1 : fn.name == slash "internal" "bytealg.MakeNoZero" with
  | true =>
    rw [h1, cond_true] at hk
    cases hk
    unfold Extern.findNext Extern.find
    rw [eq_of_beq h1, ho]
    exact ⟨rfl, _, rfl, (by intro q; cases q), fun _ => rfl, (by intro q; cases q), (by intro q; cases q), (by intro q; cases q)⟩
  | false =>
  rw [h1, cond_false] at hk
  cases h1 : fn.name == slash "internal" "bytealg.abigen_runtime_cmpstring" with
  | true =>
    rw [h1, cond_true] at hk
    cases hk
    unfold Extern.findNext Extern.find
    rw [eq_of_beq h1, ho]
    exact ⟨rfl, _, rfl, (by intro q; cases q), (by intro q; cases q), fun _ => rfl, (by intro q; cases q), (by intro q; cases q)⟩
  | false =>
  rw [h1, cond_false] at hk
  cases h1 : fn.name == slash "internal" "bytealg.IndexByteString" with
  | true =>
    rw [h1, cond_true] at hk
    cases hk
    unfold Extern.findNext Extern.find
    rw [eq_of_beq h1, ho]
    exact ⟨rfl, _, rfl, (by intro q; cases q), (by intro q; cases q), (by intro q; cases q), fun _ => rfl, (by intro q; cases q)⟩
  | false =>
  rw [h1, cond_false] at hk
  cases h1 : fn.name == slash "internal" "bytealg.CountString" with
  | true =>
    rw [h1, cond_true] at hk
    cases hk
    unfold Extern.findNext Extern.find
    rw [eq_of_beq h1, ho]
    exact ⟨rfl, _, rfl, (by intro q; cases q), (by intro q; cases q), (by intro q; cases q), (by intro q; cases q), fun _ => rfl⟩
  | false => rw [h1, cond_false] at hk; cases hk

theorem ext_name {fn : Func} {k : Nat} (hk : extName fn = k + 1) : (fn.name == "runtime.NumGoroutine") = false := by
  cases hn : fn.name == "runtime.NumGoroutine" with
  | false => rfl
  | true =>
    exfalso
    have hn := eq_of_beq hn
    unfold extName at hk
    rw [hn] at hk
    revert hk
    simp only [slash]
    intro hk
    have e : (0 : Nat) = k + 1 := hk
    cases e

theorem byteT_ok {e : TypeId} (hb : byteT P e = true) : P.underlying e = some (.int .u8) ∧ P.cellsOf e = 1 := by
  unfold byteT at hb
  rw [Bool.and_eq_true, Bool.and_eq_true] at hb
  refine ⟨?_, beq_iff.1 hb.1.2⟩
  have := hb.1.1
  split at this
  · assumption
  · cases this

theorem extKind_ok {f : FuncId} {k : Nat} (hk : extKind P f = k + 1) : ∃ fn, P.funcs[f]? = some fn ∧ fn.body = none ∧ fn.origin = "" ∧ extName fn = k + 1 ∧
    (k = 1 → ∃ t r e, fn.resultTypes.toList = t :: r ∧ P.underlying t = some (.slice e) ∧ P.underlying e = some (.int .u8) ∧ P.cellsOf e = 1) := by
  unfold extKind at hk
  split at hk
  · rename_i fn hf
    split at hk
    · cases hk
    · rename_i hb
      cases ho : fn.origin == "" with
      | false => rw [ho] at hk; cases hk
      | true =>
        rw [ho, cond_true] at hk
        refine ⟨fn, hf, hb, eq_of_beq ho, ?_⟩
        split at hk
        · rename_i hx
          split at hk
          · rename_i t r hrt
            split at hk
            · rename_i e he
              cases hbt : byteT P e with
              | false => rw [hbt] at hk; cases hk
              | true =>
                rw [hbt] at hk
                cases hk
                exact ⟨hx, fun _ => ⟨t, r, e, hrt, (elem_underlying he).1, byteT_ok hbt⟩⟩
            · cases hk
          · cases hk
        · rename_i hx
          refine ⟨hk, fun q => ?_⟩
          subst q
          exact absurd hk hx
  · cases hk

theorem op_ext (hR : HR P φ h w) (hE : EnvR φ env a.tmps) (hm : Room h) {c : Call} {f : FuncId} {k : Nat} {l : List Opd} (hk : extKind P f = k + 1) (hl : mapO (compOpd P) c.args.toList = some l) (hc : c.callee = .value (.func f)) (ho : o.op = .call c) :
    ResR P φ h w (evalOp P (.ext (k + 1) l) env h) ((execOp a.eval o).run P w) := by
  have rl := opds_rel hR hE hl
  obtain ⟨fn, hf, hb, hor, hx, hres⟩ := extKind_ok hk
  obtain ⟨f1, e, f2, f3⟩ := ext_find hor hx
  have hrun : (execOp a.eval o).run P w = ((e (c.args.map a.eval)).run P w).andThen fun v w' => .ok (.value v) w' := by
    rw [← callExt_run hf hb (ext_name hx) f1 f2]
    simp only [execOp, ho, resolve, hc]
    show (callFunc f ((#[] ++ c.args.map a.eval) ++ #[])).run P w = _
    rw [Array.empty_append, Array.append_empty]
  rw [hrun]
  show ResR P φ h w (extE h (k + 1) (l.map (ev env))) _
  generalize hA : c.args.map a.eval = A
  have rl : RelL φ (l.map (ev env)) A.toList := by rw [← hA]; simpa using rl
  generalize l.map (ev env) = al at rl
  obtain ⟨A⟩ := A
  unfold extE
  split
  · rename_i hk1
    cases hk1
    cases rl with
    | cons r1 r2 =>
      cases r2
      rw [(f3.1 rfl)]
      exact ResR.pure hR r1 (by rw [Lib.run_noEscape]; rfl)
  · rename_i hk1
    cases hk1
    cases rl with
    | cons r1 r2 =>
      cases r2
      rw [(f3.1 rfl)]
      exact ResR.pure hR r1 (by rw [Lib.run_noEscape]; rfl)
  · rename_i n hk1
    cases hk1
    cases rl with
    | cons r1 r2 =>
      cases r2
      cases r1
      cases hb1 : Nat.ble n 140737488355328 with
      | false => trivial
      | true =>
        have hb1 := ble_iff.1 hb1
        rw [cond_true, newCellsN_eq, f3.2.1 rfl]
        obtain ⟨t, r, el, q1, q2, q3, q4⟩ := hres rfl
        have hmk : Extern.BytealgMakeNoZero.makeNoZero fn.params fn.resultTypes #[.int .i64 (Int.ofNat n)] = Extern.BytealgMakeNoZero.makeNoZero fn.params #[t] #[.int .i64 (Int.ofNat n)] := by
          have q : fn.resultTypes[0]? = some t := by rw [← Array.getElem?_toList, q1]; rfl
          have hdef : ∀ rs : Array TypeId, Extern.BytealgMakeNoZero.makeNoZero fn.params rs #[.int .i64 (Int.ofNat n)] =
              (do
                let some t := rs[0]? | stuck _
                let .slice elem ← underlying t | stuck _
                if Int.ofNat n < 0 || Int.ofNat n > 2 ^ 48 then runtimePanic (.error _)
                let cap ← choose (.appendCap (Int.ofNat n).toNat 0 elem)
                askRoom cap
                let bytes ← choose _
                let a ← newRow elem (Extern.BytealgMakeNoZero.digits cap bytes #[])
                pure (.slice (some a) (Int.ofNat n).toNat cap)) := fun _ => rfl
          rw [hdef, hdef, q]
          rfl
        obtain ⟨cs, e1, e2, _⟩ := Lib.run_makeNoZero (P := P) w fn.params t el q2 n (by omega)
        have e1 : (Extern.BytealgMakeNoZero.makeNoZero fn.params #[t] #[.int .i64 (Int.ofNat n)]).run P w = _ := e1
        have hR1 := hR.drew (w.drawn + 2)
        have hA1 := Adv.drew h w φ (w.drawn + 2)
        obtain ⟨n1, n2⟩ := newCells_run hR1 hm (c := .byt 0 0) (xs := []) (spare := cs.toList) (by simp [Cells.wf]) .nil el (0, 0) false rfl 1 (Nat.succ h.ser) (.inr (.inl ⟨rfl, q3, q4⟩))
        simp only [List.nil_append, Array.toArray_toList] at n1 n2
        refine ⟨.value (.slice (some ⟨w.heap.size, 0, none⟩) n cs.size), .slice (some ⟨w.heap.size, 0, none⟩) n cs.size, _, _, ?_, .inl rfl, n1, hA1.trans hR n2 (hm.was (by simp only [Pos.num_succ]; omega)), ?_⟩
        · show Result.andThen ((Extern.BytealgMakeNoZero.makeNoZero fn.params fn.resultTypes #[.int .i64 (Int.ofNat n)]).run P w) _ = _
          rw [hmk, e1]
          rfl
        · exact .sl (Phi.put_same _ _ _ _) rfl rfl e2 e2 (Nat.le_refl _) (fun q => by cases q) fun _ => ⟨rfl, by simp⟩
  · rename_i n v m u hk1
    cases hk1
    cases rl with
    | cons r1 r2 =>
      cases r2 with
      | cons r2 r3 =>
        cases r3
        obtain ⟨s, rfl, s1, s2, s3⟩ := rel_str r1
        obtain ⟨s', rfl, s1', s2', s3'⟩ := rel_str r2
        rw [intK_eq, f3.2.2.1 rfl, strCmp_eq _ _ _ _ s2 s2', ← s1, ← s1', cmpI_eq]
        exact ResR.pure hR (.int _ _) (by show Result.andThen ((Extern.BytealgCompare.compare #[.string s, .string s']).run P w) _ = _; rw [Lib.run_compareString]; rfl)
  · rename_i n v b hk1
    cases hk1
    cases rl with
    | cons r1 r2 =>
      cases r2 with
      | cons r2 r3 =>
        cases r3
        obtain ⟨s, rfl, s1, s2, s3⟩ := rel_str r1
        cases r2
        cases hb1 : Nat.blt b 256 with
        | false => trivial
        | true =>
          have hb1 := blt_iff.1 hb1
          rw [cond_true, intK_eq, f3.2.2.2.1 rfl, ← s1, idxL_eq b hb1]
          have ge := Lib.indexByte_ge s.data.toList (UInt8.ofNat b)
          have e0 : (if Lib.indexByte s.data.toList (UInt8.ofNat b) == -1 then -1 else Lib.indexByte s.data.toList (UInt8.ofNat b) + ((0 : Nat) : Int)) = Lib.indexByte s.data.toList (UInt8.ofNat b) := by
            by_cases q : Lib.indexByte s.data.toList (UInt8.ofNat b) = -1
            · simp [q]
            · simp [q]
          rw [e0]
          exact ResR.pure hR (.int _ _) (by show Result.andThen ((Extern.BytealgIndexByte.indexByte #[.string s, .int .u8 (Int.ofNat b)]).run P w) _ = _; rw [Lib.run_indexByteString]; rfl)
  · rename_i n v b hk1
    cases hk1
    cases rl with
    | cons r1 r2 =>
      cases r2 with
      | cons r2 r3 =>
        cases r3
        obtain ⟨s, rfl, s1, s2, s3⟩ := rel_str r1
        cases r2
        cases hb1 : Nat.blt b 256 with
        | false => trivial
        | true =>
          have hb1 := blt_iff.1 hb1
          rw [cond_true, natK_eq, f3.2.2.2.2 rfl, ← s1, cntL_eq b hb1, Nat.zero_add]
          exact ResR.pure hR (.int _ _) (by show Result.andThen ((Extern.BytealgCount.count #[.string s, .int .u8 (Int.ofNat b)]).run P w) _ = _; rw [Lib.run_countString]; rfl)
  · trivial

end
end Go.Proofs.YtpbhlpajhdlemaaGreatDoor.Am

namespace Go.Proofs.YtpbhlpajhdlemaaGreatDoor.Am

theorem eqP_iff {p q : Pos} : eqP p q = true ↔ p = q := samePos_iff

theorem eqB_iff {a b : Bool} : eqB a b = true ↔ a = b := by cases a <;> cases b <;> decide
theorem eqI_iff {a b : Int} : eqI a b = true ↔ a = b := by
  cases a <;> cases b
  · show Nat.beq _ _ = true ↔ _
    rw [beq_iff]; exact ⟨fun h => by rw [h], fun h => by cases h; rfl⟩
  · exact ⟨fun h => (by cases h), fun h => (by cases h)⟩
  · exact ⟨fun h => (by cases h), fun h => (by cases h)⟩
  · show Nat.beq _ _ = true ↔ _
    rw [beq_iff]; exact ⟨fun h => by rw [h], fun h => by cases h; rfl⟩
theorem eqK_iff {a b : IntKind} : eqK a b = true ↔ a = b := by simp [eqK]

theorem eqLs_sound {f : AV → AV → Bool} (h : ∀ x y, f x y = true → x = y) : ∀ {l r : List AV}, eqLs f l r = true → l = r
  | [], [], _ => rfl
  | [], _ :: _, e => by cases e
  | _ :: _, [], e => by cases e
  | x :: l, y :: r, e => by
    simp only [eqLs, Bool.and_eq_true] at e
    rw [h x y e.1, eqLs_sound h e.2]

theorem eqAV_sound : ∀ (n : Nat) {x y : AV}, eqAV n x y = true → x = y
  | 0, _, _, e => by cases e
  | n + 1, x, y, e => by
    have ih := fun x y => eqAV_sound n (x := x) (y := y)
    unfold eqAV at e
    split at e <;> (try simp only [Bool.and_eq_true, eqB_iff, eqI_iff, eqK_iff, eqP_iff, beq_iff] at e)
    all_goals first
      | rfl
      | (cases e; done)
      | (subst e; rfl)
      | (obtain ⟨rfl, rfl⟩ := e; rfl)
      | (obtain ⟨⟨rfl, rfl⟩, rfl⟩ := e; rfl)
      | (obtain ⟨⟨⟨⟨⟨⟨rfl, rfl⟩, rfl⟩, rfl⟩, rfl⟩, rfl⟩, rfl⟩ := e; rfl)
      | (obtain ⟨⟨rfl, e1⟩, e2⟩ := e; rw [eqLs_sound ih e1, eqLs_sound ih e2])
      | (obtain ⟨rfl, e1⟩ := e; rw [ih _ _ e1])
      | (rw [eqLs_sound ih e])

end Go.Proofs.YtpbhlpajhdlemaaGreatDoor.Am

namespace Go.Proofs.YtpbhlpajhdlemaaGreatDoor.Am

theorem N8.get_map {A B : Type} (f : A → B) (n : N8 A) (d : D8) : (N8.map f n).get d = f (n.get d) := by cases d <;> rfl

theorem BT.get_map {A : Type} {f : Option A → Option A} (hf : f none = none) (p : Bin) (t : BT A) : BT.get p (BT.map f t) = f (BT.get p t) := by
  induction t generalizing p with
  | e => rw [show BT.map f BT.e = BT.e from rfl, BT.get_e, hf]
  | n l v r ihl ihr => cases p with
    | h => rfl
    | o p => exact ihl p
    | i p => exact ihr p

theorem T.get_map {A : Type} {f : Option A → Option A} (hf : f none = none) (p : Pos) (t : T A) : T.get p (T.map f t) = f (T.get p t) := by
  cases p <;> simp only [T.get, T.map, N8.get_map, BT.get_map hf]

theorem get_hold (h : Hp) (id : Pos) : T.get id (holdH h).heap = holdB (T.get id h.heap) := T.get_map rfl _ _

theorem hold_some {o : Option Blk} {b : Blk} (e : holdB o = some b) : (∃ s c lo hi g m ro fz, o = some (.cells s c lo hi g m ro fz) ∧ b = .cells s c lo hi g m true fz) ∨ ∃ s es cl, o = some (.map s es cl) ∧ b = .map 1 es cl := by
  unfold holdB at e
  split at e
  · cases e; exact .inl ⟨_, _, _, _, _, _, _, _, rfl, rfl⟩
  · cases e; exact .inr ⟨_, _, _, rfl, rfl⟩
  · cases e

theorem hold_nonro (h : Hp) (id : Pos) : ¬ Nonro (holdH h) id := by
  rintro ⟨b, e, f⟩
  rw [get_hold] at e
  rcases hold_some e with ⟨s, c, lo, hi, g, m, ro, fz, _, rfl⟩ | ⟨s, es, cl, _, rfl⟩
  · cases f
  · cases f

section
variable {P : Program} {φ φ0 φ1 : Phi} {h h1 : Hp} {w w0 w1 : World}

theorem hold_hr (hR : HR P φ h w) : HR P φ (holdH h) w := by
  refine ⟨fun id b e => ?_, hR.used, fun id b e => ?_, fun id g b s n id' g' s' n' k k' => .inr ⟨hold_nonro h id, hold_nonro h id'⟩, hR.inb, hR.glob⟩
  · rw [get_hold] at e
    rcases hold_some e with ⟨s, c, lo, hi, g, m, ro, fz, q, rfl⟩ | ⟨s, es, cl, q, rfl⟩
    · obtain ⟨⟨a1, a2, a3, a4, a5, a6⟩, ty⟩ := hR.blk _ _ q
      refine ⟨⟨a1, a2, a3, a4, a5, fun j k1 k2 => ?_⟩, ty⟩
      obtain ⟨b, s, n, C, el, fr, r1, r2, r3, _, r5⟩ := a6 j k1 k2
      exact ⟨b, s, n, C, el, fr, r1, r2, r3, (fun q => by cases q), r5⟩
    · have q' := hR.blk _ _ q
      exact q'
  · rw [get_hold] at e
    rcases hold_some e with ⟨s, c, lo, hi, g, m, ro, fz, q, _⟩ | ⟨s, es, cl, q, _⟩
    · exact hR.dom _ _ q
    · exact hR.dom _ _ q

theorem numP_mem : ∀ (l : List Pos) (q : Pos) (x : Pos × Pos), x ∈ numP q l → q.num ≤ x.2.num ∧ x.2.num < (nextP q l).num
  | [], _, _, k => by cases k
  | p :: l, q, x, k => by
    have hn : ∀ (l : List Pos) (q : Pos), q.num ≤ (nextP q l).num := by
      intro l
      induction l with
      | nil => exact fun q => Nat.le_refl _
      | cons p l ih => intro q; have := ih q.succ; rw [Pos.num_succ] at this; show q.num ≤ (nextP q.succ l).num; omega
    rcases List.mem_cons.1 k with rfl | k
    · have := hn l q.succ
      rw [Pos.num_succ] at this
      exact ⟨Nat.le_refl _, by show q.num < (nextP q.succ l).num; omega⟩
    · have := numP_mem l q.succ x k
      rw [Pos.num_succ] at this
      exact ⟨by omega, this.2⟩

theorem nextP_le (l : List Pos) (q : Pos) : q.num ≤ (nextP q l).num := by
  induction l generalizing q with
  | nil => exact Nat.le_refl _
  | cons p l ih => have := ih q.succ; rw [Pos.num_succ] at this; show q.num ≤ (nextP q.succ l).num; omega

noncomputable def invP (q : Pos) : List (Pos × Pos) → Option Pos
  | [] => none
  | x :: l => bif samePos q x.2 then some x.1 else invP q l

theorem invP_mem {q p : Pos} : ∀ {tb : List (Pos × Pos)}, invP q tb = some p → (p, q) ∈ tb
  | [], e => by cases e
  | x :: l, e => by
    unfold invP at e
    cases hs : samePos q x.2 with
    | true =>
      rw [hs] at e; cases e
      have := samePos_iff.1 hs
      subst this
      exact List.mem_cons_self
    | false => rw [hs, cond_false] at e; exact List.mem_cons_of_mem _ (invP_mem e)

theorem lookP_mem {p q : Pos} : ∀ {tb : List (Pos × Pos)}, lookP p tb = some q → (p, q) ∈ tb
  | [], e => by cases e
  | x :: l, e => by
    unfold lookP at e
    cases hs : samePos p x.1 with
    | true =>
      rw [hs] at e; cases e
      have := samePos_iff.1 hs
      subst this
      exact List.mem_cons_self
    | false => rw [hs, cond_false] at e; exact List.mem_cons_of_mem _ (lookP_mem e)

theorem lookP_inv {p q : Pos} : ∀ (l : List Pos) (b : Pos), lookP p (numP b l) = some q → invP q (numP b l) = some p
  | [], _, e => by cases e
  | x :: l, b, e => by
    unfold numP lookP at e
    unfold numP invP
    cases hs : samePos p x with
    | true =>
      rw [hs] at e; cases e
      have := samePos_iff.1 hs
      subst this
      simp only [samePos_iff.2 rfl, cond_true]
    | false =>
      rw [hs, cond_false] at e
      have hm := numP_mem l b.succ _ (lookP_mem e)
      rw [Pos.num_succ] at hm
      have : samePos q b = false := by
        cases hq : samePos q b with
        | false => rfl
        | true => have := samePos_iff.1 hq; subst this; exact absurd hm.1 (by show ¬ (q.num + 1 ≤ q.num); omega)
      simp only [this, cond_false]
      exact lookP_inv l b.succ e

theorem mapO_mem {α β : Type} {f : α → Option β} : ∀ {l : List α} {r : List β}, mapO f l = some r → (∀ x ∈ l, ∃ y ∈ r, f x = some y) ∧ ∀ y ∈ r, ∃ x ∈ l, f x = some y
  | [], r, e => by unfold mapO at e; cases e; exact ⟨fun x k => (by cases k), fun y k => (by cases k)⟩
  | a :: l, r, e => by
    unfold mapO at e
    split at e
    · rename_i y hy
      split at e
      · rename_i r' hr
        cases e
        obtain ⟨i1, i2⟩ := mapO_mem hr
        refine ⟨fun x k => ?_, fun z k => ?_⟩
        · rcases List.mem_cons.1 k with rfl | k
          · exact ⟨y, List.mem_cons_self, hy⟩
          · obtain ⟨z, z1, z2⟩ := i1 x k; exact ⟨z, List.mem_cons_of_mem _ z1, z2⟩
        · rcases List.mem_cons.1 k with rfl | k
          · exact ⟨a, List.mem_cons_self, hy⟩
          · obtain ⟨x, x1, x2⟩ := i2 z k; exact ⟨x, List.mem_cons_of_mem _ x1, x2⟩
      · cases e
    · cases e

theorem get_put : ∀ (bs : List (Pos × Blk)) (t : T Blk) (id : Pos) (b : Blk), T.get id (putAll bs t) = some b → (∃ x ∈ bs, x.1 = id ∧ x.2 = b) ∨ (T.get id t = some b ∧ ∀ x ∈ bs, x.1 ≠ id)
  | [], t, id, b, e => .inr ⟨e, fun x k => by cases k⟩
  | y :: l, t, id, b, e => by
    unfold putAll at e
    rw [T.setK_eq] at e
    rcases get_put l _ id b e with ⟨x, x1, x2⟩ | ⟨q, k⟩
    · exact .inl ⟨x, List.mem_cons_of_mem _ x1, x2⟩
    · rw [T.get_set] at q
      by_cases c : id = y.1
      · rw [if_pos c] at q
        cases q
        exact .inl ⟨y, List.mem_cons_self, c.symm, rfl⟩
      · rw [if_neg c] at q
        refine .inr ⟨q, fun x k' => ?_⟩
        rcases List.mem_cons.1 k' with rfl | k'
        · exact fun e => c e.symm
        · exact k x k'

theorem get_put_none (bs : List (Pos × Blk)) (t : T Blk) (id : Pos) (hn : ∀ x ∈ bs, x.1 ≠ id) (e : T.get id t = none) : T.get id (putAll bs t) = none := by
  cases q : T.get id (putAll bs t) with
  | none => rfl
  | some b =>
    rcases get_put bs t id b q with ⟨x, x1, x2, _⟩ | ⟨q, _⟩
    · exact absurd x2 (hn x x1)
    · rw [e] at q; cases q

/-- The packed heap's names. -/
noncomputable def phiP (φ0 φ1 : Phi) (tb : List (Pos × Pos)) : Phi := fun id g =>
  match invP id tb with
  | some p => φ1 p g
  | none => φ0 id g

/-- What is known of a table of new names. -/
structure TbOk (h h1 : Hp) (tb : List (Pos × Pos)) (φ0 φ1 : Phi) (nx : Pos) : Prop where
  inv : ∀ p q, lookP p tb = some q → invP q tb = some p
  new : ∀ p q, (p, q) ∈ tb → h.next.num ≤ p.num
  at_ : ∀ p q, (p, q) ∈ tb → h.next.num ≤ q.num ∧ q.num < nx.num
  look : ∀ p q, (p, q) ∈ tb → lookP p tb = some q
  old : ∀ id g r, φ0 id g = some r → id.num < h.next.num
  le : Le φ0 φ1

theorem TbOk.phi_old {tb : List (Pos × Pos)} {nx : Pos} (k : TbOk h h1 tb φ0 φ1 nx) {id : Pos} {g : Nat} {r : Nat × Int × Nat} (e : φ0 id g = some r) : phiP φ0 φ1 tb id g = some r := by
  unfold phiP
  cases q : invP id tb with
  | none => exact e
  | some p =>
    have := (k.at_ _ _ (invP_mem q)).1
    have := k.old _ _ _ e
    omega

theorem TbOk.phi_new {tb : List (Pos × Pos)} {nx : Pos} (k : TbOk h h1 tb φ0 φ1 nx) {p q : Pos} (e : lookP p tb = some q) (g : Nat) : phiP φ0 φ1 tb q g = φ1 p g := by
  unfold phiP
  rw [k.inv _ _ e]

theorem oldP_phi (hR : HR P φ0 h w0) {id : Pos} {g : Nat} (e : oldP h id g = true) : ∃ r, φ0 id g = some r := by
  unfold oldP at e
  split at e
  · rename_i hid
    rw [Bool.and_eq_true] at e
    obtain ⟨⟨_, _, _, _, _, a6⟩, _⟩ := hR.blk _ _ hid
    obtain ⟨b, s, n, _, _, _, r1, _⟩ := a6 g (ble_iff.1 e.1) (ble_iff.1 e.2)
    exact ⟨_, r1⟩
  · cases e

theorem oldM_phi (hR : HR P φ0 h w0) {id : Pos} (e : oldM h id = true) : ∃ r, φ0 id 0 = some r := by
  unfold oldM at e
  split at e
  · rename_i hid
    obtain ⟨b, E, r1, _⟩ := hR.blk _ _ hid
    exact ⟨_, r1⟩
  · cases e

theorem ren_rel (hR : HR P φ0 h w0) {tb : List (Pos × Pos)} {nx : Pos} (k : TbOk h h1 tb φ0 φ1 nx) : ∀ (n : Nat) (v v' : AV) (x : Value), renAV h tb n v = some v' → Rel φ1 v x → Rel (phiP φ0 φ1 tb) v' x
  | 0, _, _, _, e, _ => by cases e
  | n + 1, v, v', x, e, r => by
    have ih := ren_rel hR k n
    have lst : ∀ (l l' : List AV) (xs : List Value), mapO (renAV h tb n) l = some l' → RelL φ1 l xs → RelL (phiP φ0 φ1 tb) l' xs := by
      intro l l' xs e r
      obtain ⟨h1, h2⟩ := mapO_get e
      refine RelL.of_get (by rw [← h1, r.length]) fun i v x hv hx => ?_
      have hi : i < l.length := by rw [h1]; exact (List.getElem?_eq_some_iff.1 hv).1
      obtain ⟨y, y1, y2⟩ := h2 i l[i] (List.getElem?_eq_getElem hi)
      rw [hv] at y1; cases y1
      obtain ⟨x', x1, x2⟩ := r.get (List.getElem?_eq_getElem hi)
      rw [hx] at x1; cases x1
      exact ih _ _ _ y2 x2
    have hold : ∀ {id : Pos} {g : Nat} {r : Nat × Int × Nat}, oldP h id g = true → φ1 id g = some r → phiP φ0 φ1 tb id g = some r := by
      intro id g r o e
      obtain ⟨r', q⟩ := oldP_phi hR o
      have := k.le _ _ _ q
      rw [e] at this; cases this
      exact k.phi_old q
    unfold renAV at e
    cases r with
    | bool b => cases e; exact .bool b
    | int kd i => cases e; exact .int kd i
    | str hs hv => cases e; exact .str hs hv
    | nilPtr => cases e; exact .nilPtr
    | nilSl => cases e; exact .nilSl
    | nilMap => cases e; exact .nilMap
    | nilFn => cases e; exact .nilFn
    | nilIfc => cases e; exact .nilIfc
    | yield hφ => cases e
    | @ptr id g off b s n' a hφ hb ho hs =>
      simp only at e
      split at e
      · rename_i q hq
        cases e
        exact .ptr (by rw [k.phi_new hq]; exact hφ) hb ho hs
      · cases o : oldP h id g with
        | false => rw [o] at e; cases e
        | true => rw [o] at e; cases e; exact .ptr (hold o hφ) hb ho hs
    | @sl id g off len cap ex es b s n' a c hφ hb hs hl hc hlc hx ho =>
      simp only at e
      split at e
      · rename_i q hq
        cases e
        exact .sl (by rw [k.phi_new hq]; exact hφ) hb hs hl hc hlc hx ho
      · cases o : oldP h id g with
        | false => rw [o] at e; cases e
        | true => rw [o] at e; cases e; exact .sl (hold o hφ) hb hs hl hc hlc hx ho
    | @sl0 id g off es a =>
      simp only at e
      split at e
      · cases e; exact .sl0
      · cases o : oldP h id g with
        | false => rw [o] at e; cases e
        | true => rw [o] at e; cases e; exact .sl0
    | @map id b hφ =>
      simp only at e
      split at e
      · rename_i q hq
        cases e
        exact .map (by rw [k.phi_new hq]; exact hφ)
      · cases o : oldM h id with
        | false => rw [o] at e; cases e
        | true =>
          rw [o] at e; cases e
          obtain ⟨r', q⟩ := oldM_phi hR o
          have := k.le _ _ _ q
          rw [hφ] at this; cases this
          exact .map (k.phi_old q)
    | fn ha hb =>
      simp only at e
      split at e
      · rename_i a b e1 e2
        cases e
        exact .fn (lst _ _ _ e1 ha) (lst _ _ _ e2 hb)
      · cases e
    | ifc hv =>
      simp only at e
      split at e
      · rename_i v e1
        cases e
        exact .ifc (ih _ _ _ e1 hv)
      · cases e
    | agg hl =>
      simp only at e
      split at e
      · rename_i l e1
        cases e
        exact .agg (lst _ _ _ e1 hl)
      · cases e
    | tup hl =>
      simp only at e
      split at e
      · rename_i l e1
        cases e
        exact .tup (lst _ _ _ e1 hl)
      · cases e


theorem renC_spec (hR : HR P φ0 h w0) {tb : List (Pos × Pos)} {nx : Pos} (k : TbOk h h1 tb φ0 φ1 nx) {c c' : Cells} (e : renC h tb c = some c') (hw : c.wf) :
    c'.wf ∧ c'.size = c.size ∧ ∀ (i : Nat) (v' : AV), c'.toL[i]? = some v' → ∃ v, c.toL[i]? = some v ∧ ∀ x, Rel φ1 v x → Rel (phiP φ0 φ1 tb) v' x := by
  unfold renC at e
  split at e
  · cases e
    refine ⟨hw, rfl, fun i v' hv => ⟨v', hv, fun x r => ?_⟩⟩
    have : (bytesL _ _)[i]? = some v' := hv
    rw [bytesL_eq, List.getElem?_map] at this
    cases hu : (unpack _ _)[i]? with
    | none => rw [hu] at this; cases this
    | some b =>
      rw [hu] at this
      cases this
      cases r
      exact .int _ _
  · rename_i n l
    split at e
    · rename_i l' hl
      cases e
      obtain ⟨s1, s2, s3⟩ := Cells.ofL_spec l'
      obtain ⟨h1, h2⟩ := mapO_get hl
      refine ⟨s1, by rw [s3, ← h1]; exact hw.symm, fun i v' hv => ?_⟩
      rw [s2] at hv
      have hi : i < l.length := by rw [h1]; exact (List.getElem?_eq_some_iff.1 hv).1
      obtain ⟨y, y1, y2⟩ := h2 i l[i] (List.getElem?_eq_getElem hi)
      rw [hv] at y1; cases y1
      exact ⟨l[i], List.getElem?_eq_getElem hi, fun x r => ren_rel hR k 12 _ _ _ y2 r⟩
    · cases e

theorem renE_spec (hR : HR P φ0 h w0) {tb : List (Pos × Pos)} {nx : Pos} (k : TbOk h h1 tb φ0 φ1 nx) : ∀ {es es' : List (AV × AV × Nat)} {E : List MapEntry}, mapO (renE h tb) es = some es' → EntsR φ1 es E → EntsR (phiP φ0 φ1 tb) es' E
  | [], es', E, e, r => by unfold mapO at e; cases e; cases r; exact .nil
  | a :: l, es', E, e, r => by
    unfold mapO at e
    split at e
    · rename_i y hy
      split at e
      · rename_i r' hr
        cases e
        cases r with
        | cons hk hv t =>
          unfold renE at hy
          split at hy
          · rename_i k' v' e1 e2
            cases hy
            exact .cons (ren_rel hR k 12 _ _ _ e1 hk) (ren_rel hR k 12 _ _ _ e2 hv) (renE_spec hR k hr t)
          · cases hy
      · cases e
    · cases e

theorem ren_blk (hR : HR P φ0 h w0) {tb : List (Pos × Pos)} {nx : Pos} (k : TbOk h h1 tb φ0 φ1 nx) {p q : Pos} (hl : lookP p tb = some q) {b b' : Blk} (e : renB h tb b = some b') (r : BR P φ1 w1 p b) : BR P (phiP φ0 φ1 tb) w1 q b' := by
  have hp := k.phi_new hl
  unfold renB at e
  split at e
  · rename_i s c lo hi g m ro fz
    split at e
    · rename_i c' hc
      cases e
      obtain ⟨⟨a1, a2, a3, a4, a5, a6⟩, ty⟩ := r
      obtain ⟨c1, c2, c3⟩ := renC_spec hR k hc a1
      refine ⟨⟨c1, Nat.le_refl _, fun q => absurd q (Nat.lt_irrefl _), fun j hj => by rw [hp]; exact a4 j hj, fun j j' b s n s' n' q1 q2 q3 q4 e1 e2 => ?_, fun j q1 q2 => ?_⟩, fun j b s n C el fr q1 q2 e1 e2 => ?_⟩
      · rw [hp] at e1 e2
        exact a5 j j' b s n s' n' (by omega) q2 (by omega) q4 e1 e2
      · have : j = g := by omega
        subst this
        obtain ⟨b, s, n, C, el, fr, r1, r2, r3, r4, r5⟩ := a6 j a2 (Nat.le_refl _)
        refine ⟨b, s, n, C, el, fr, by rw [hp]; exact r1, r2, r3, r4, fun i v' i1 i2 i3 => ?_⟩
        obtain ⟨v, v1, v2⟩ := c3 i v' i3
        rw [if_pos rfl] at i2
        obtain ⟨o, x, o1, o2, o3⟩ := r5 i v i1 (by rw [if_pos rfl, ← c2]; exact i2) v1
        exact ⟨o, x, o1, o2, v2 x o3⟩
      · rw [hp] at e1
        exact ty j b s n C el fr (by omega) q2 e1 e2
    · cases e
  · split at e
    · rename_i es' hes
      cases e
      obtain ⟨b, E, r1, r2, r3⟩ := r
      exact ⟨b, E, by rw [hp]; exact r1, r2, renE_spec hR k hes r3⟩
    · cases e
  · cases e

theorem renB_free {tb : List (Pos × Pos)} {b b' : Blk} (e : renB h tb b = some b') : b'.free ↔ b.free := by
  unfold renB at e
  split at e
  · split at e
    · cases e; exact Iff.rfl
    · cases e
  · split at e
    · cases e; exact Iff.rfl
    · cases e
  · cases e

/-- ████ What a call over the heap held fast leaves, may be packed. ████ -/
theorem packL_sound (hR : HR P φ0 h w0) (hR1 : HR P φ1 h1 w1) (A : Adv (holdH h) w0 φ0 h1 w1 φ1) (hz : h.lim = 0) {v : AV} {x : Value} (r : Rel φ1 v x) {l : List Pos} {k : Pk} (e : packL h h1 v l = some k) :
    ∃ φ', HR P φ' (unpackH h k) w1 ∧ Adv h w0 φ0 (unpackH h k) w1 φ' ∧ Rel φ' k.v x := by
  unfold packL at e
  split at e
  · rename_i v' bs hv hbs
    cases e
    obtain ⟨m1, m2⟩ := mapO_mem hbs
    have fact : ∀ p q y, (p, q) ∈ numP h.next l → packB h h1 (numP h.next l) (p, q) = some y → holdB (T.get p h.heap) = none ∧ lookP p (numP h.next l) = some q ∧ ∃ b b', T.get p h1.heap = some b ∧ renB h (numP h.next l) b = some b' ∧ y = (q, b') := by
      intro p q y hm e
      unfold packB at e
      split at e
      · rename_i q' b n1 n2 n3
        cases hs : samePos q' q with
        | false => rw [hs] at e; cases e
        | true =>
          rw [hs, cond_true] at e
          have := samePos_iff.1 hs
          subst this
          split at e
          · rename_i b' hb'
            cases e
            exact ⟨n1, n2, b, b', n3, hb', rfl⟩
          · cases e
      · cases e
    have oldn : ∀ id g r, φ0 id g = some r → id.num < h.next.num := fun id g r e => by
      rcases hR.used id g r e with q | ⟨q, _⟩
      · exact q
      · exact absurd hz q
    have ok : TbOk h h1 (numP h.next l) φ0 φ1 (nextP h.next l) := by
      refine ⟨fun p q e => lookP_inv l _ e, fun p q hm => ?_, fun p q hm => numP_mem l _ _ hm, fun p q hm => ?_, oldn, A.le⟩
      · obtain ⟨y, _, hy⟩ := m1 _ hm
        obtain ⟨n1, n2, b, b', n3, _, _⟩ := fact p q y hm hy
        rcases Nat.lt_or_ge p.num h.next.num with c | c
        · exfalso
          have := A.hid p (.inl c) (by rw [get_hold]; exact n1)
          rw [n3] at this; cases this
        · exact c
      · obtain ⟨y, _, hy⟩ := m1 _ hm
        exact (fact p q y hm hy).2.1
    have kept : ∀ b, b < w0.heap.size → w1.heap[b]? = w0.heap[b]? := fun b hb => A.keep b hb fun id g s n _ => hold_nonro h id
    -- a block of the packed heap
    have blk : ∀ id b, T.get id (unpackH h ⟨v', bs, nextP h.next l⟩).heap = some b → (∃ p b0, (p, id) ∈ numP h.next l ∧ lookP p (numP h.next l) = some id ∧ T.get p h1.heap = some b0 ∧ renB h (numP h.next l) b0 = some b) ∨ (T.get id h.heap = some b ∧ ∀ y ∈ bs, y.1 ≠ id) := by
      intro id b e
      rcases get_put bs h.heap id b e with ⟨y, y1, rfl, rfl⟩ | q
      · obtain ⟨⟨p, q⟩, x1, x2⟩ := m2 y y1
        obtain ⟨n1, n2, b0, b', n3, n4, n5⟩ := fact p q y x1 x2
        subst n5
        exact .inl ⟨p, b0, x1, n2, n3, n4⟩
      · exact .inr q
    have hle : Le φ0 (phiP φ0 φ1 (numP h.next l)) := fun id g r e => ok.phi_old e
    have old_phi : ∀ {id : Pos} {g : Nat} {r : Nat × Int × Nat}, phiP φ0 φ1 (numP h.next l) id g = some r → (∃ p, (p, id) ∈ numP h.next l ∧ φ1 p g = some r) ∨ φ0 id g = some r := by
      intro id g r e
      unfold phiP at e
      split at e
      · rename_i p hp; exact .inl ⟨p, invP_mem hp, e⟩
      · exact .inr e
    have notq : ∀ {id : Pos}, id.num < h.next.num → ∀ y ∈ bs, y.1 ≠ id := by
      intro id hid y hy c
      obtain ⟨⟨p, q⟩, x1, x2⟩ := m2 y hy
      obtain ⟨_, _, b0, b', _, _, n5⟩ := fact p q y x1 x2
      subst n5
      have := (ok.at_ p q x1).1
      rw [show q = id from c] at this
      omega
    have notq' : ∀ {id : Pos}, (nextP h.next l).num ≤ id.num → ∀ y ∈ bs, y.1 ≠ id := by
      intro id hid y hy c
      obtain ⟨⟨p, q⟩, x1, x2⟩ := m2 y hy
      obtain ⟨_, _, b0, b', _, _, n5⟩ := fact p q y x1 x2
      subst n5
      have := (ok.at_ p q x1).2
      rw [show q = id from c] at this
      omega
    have oldB : ∀ {id : Pos} {b : Blk}, T.get id h.heap = some b → id.num < h.next.num := fun e => by
      rcases hR.dom _ _ e with q | ⟨q, _⟩
      · exact q
      · exact absurd hz q
    have freshB : ∀ {p : Pos} {g b s n}, h.next.num ≤ p.num → φ1 p g = some (b, s, n) → w0.heap.size ≤ b := by
      intro p g b s n hp e
      rcases Nat.lt_or_ge b w0.heap.size with c | c
      · obtain ⟨g0, s0, n0, q⟩ := A.new p g b s n e c
        have := oldn _ _ _ q
        omega
      · exact c
    refine ⟨phiP φ0 φ1 (numP h.next l), ⟨fun id b e => ?_, fun id g r e => ?_, fun id b e => ?_, fun id g b s n id' g' s' n' e e' => ?_, fun id g b s n e => ?_, fun g hg => ?_⟩, ⟨hle, A.os, A.output, A.tape, A.size, nextP_le l _, fun id g b s n e hb => ?_, fun id hw e => ?_, fun b hb _ => kept b hb, rfl, fun id hw e => ?_, fun id g r hw _ e => ?_⟩, ren_rel hR ok 12 _ _ _ hv r⟩
    · rcases blk id b e with ⟨p, b0, x1, x2, x3, x4⟩ | ⟨q, _⟩
      · exact ren_blk hR ok x2 x4 (hR1.blk _ _ x3)
      · refine BR.mono hle (fun g r e => ?_) (fun g b s n e => kept b (hR.inb _ _ _ _ _ e)) (hR.blk _ _ q)
        rcases old_phi e with ⟨p, x1, _⟩ | q'
        · have := (ok.at_ _ _ x1).1
          have := oldB q
          omega
        · exact q'
    · rcases old_phi e with ⟨p, x1, _⟩ | q
      · exact .inl (ok.at_ _ _ x1).2
      · have := oldn _ _ _ q
        have := nextP_le l h.next
        exact .inl (by show id.num < (nextP h.next l).num; omega)
    · rcases blk id b e with ⟨p, b0, x1, _⟩ | ⟨q, _⟩
      · exact .inl (ok.at_ _ _ x1).2
      · have := oldB q
        have := nextP_le l h.next
        exact .inl (by show id.num < (nextP h.next l).num; omega)
    · have nonro : ∀ {p id : Pos}, (p, id) ∈ numP h.next l → ¬ Nonro h1 p → ¬ Nonro (unpackH h ⟨v', bs, nextP h.next l⟩) id := by
        rintro p id hm hn ⟨b, e, f⟩
        rcases blk id b e with ⟨p', b0, x1, x2, x3, x4⟩ | ⟨q, _⟩
        · have i1 := ok.inv _ _ (ok.look _ _ hm)
          have i2 := ok.inv _ _ x2
          rw [i1] at i2
          cases i2
          exact hn ⟨b0, x3, (renB_free x4).1 f⟩
        · have := (ok.at_ _ _ hm).1
          have := oldB q
          omega
      have nonro0 : ∀ {id : Pos}, id.num < h.next.num → ¬ Nonro h id → ¬ Nonro (unpackH h ⟨v', bs, nextP h.next l⟩) id := by
        rintro id hid hn ⟨b, e, f⟩
        rcases blk id b e with ⟨p', b0, x1, _⟩ | ⟨q, _⟩
        · have := (ok.at_ _ _ x1).1
          omega
        · exact hn ⟨b, q, f⟩
      rcases old_phi e with ⟨p, x1, x2⟩ | q
      · rcases old_phi e' with ⟨p', y1, y2⟩ | q'
        · rcases hR1.sep _ _ _ _ _ _ _ _ _ x2 y2 with rfl | ⟨c1, c2⟩
          · have i1 := ok.look _ _ x1
            have i2 := ok.look _ _ y1
            rw [i1] at i2
            cases i2
            exact .inl rfl
          · exact .inr ⟨nonro x1 c1, nonro y1 c2⟩
        · have := freshB (ok.new _ _ x1) x2
          have := hR.inb _ _ _ _ _ q'
          omega
      · rcases old_phi e' with ⟨p', y1, y2⟩ | q'
        · have := freshB (ok.new _ _ y1) y2
          have := hR.inb _ _ _ _ _ q
          omega
        · rcases hR.sep _ _ _ _ _ _ _ _ _ q q' with c | ⟨c1, c2⟩
          · exact .inl c
          · exact .inr ⟨nonro0 (oldn _ _ _ q) c1, nonro0 (oldn _ _ _ q') c2⟩
    · rcases old_phi e with ⟨p, x1, x2⟩ | q
      · exact hR1.inb _ _ _ _ _ x2
      · have := hR.inb _ _ _ _ _ q
        have := A.size
        omega
    · obtain ⟨n, q⟩ := hR.glob g hg
      exact ⟨n, hle _ _ _ q⟩
    · rcases old_phi e with ⟨p, x1, x2⟩ | q
      · have := freshB (ok.new _ _ x1) x2
        omega
      · exact ⟨g, s, n, q⟩
    · obtain ⟨b, e, f⟩ := e
      rcases blk id b e with ⟨p, b0, x1, _⟩ | ⟨q, _⟩
      · have := ok.at_ _ _ x1
        rcases hw with c | c
        · omega
        · have c : (nextP h.next l).num ≤ id.num := c
          omega
      · exact ⟨b, q, f⟩
    · refine get_put_none bs h.heap id ?_ e
      rcases hw with c | c
      · exact notq c
      · exact notq' c
    · rcases old_phi e with ⟨p, x1, _⟩ | q
      · have := ok.at_ _ _ x1
        rcases hw with c | c
        · omega
        · have c : (nextP h.next l).num ≤ id.num := c
          omega
      · exact q
  · cases e


theorem sameC_sound {a b : Cells} (e : sameC a b = true) : a = b := by
  unfold sameC at e
  split at e
  · rw [Bool.and_eq_true, beq_iff, beq_iff] at e
    rw [e.1, e.2]
  · rw [Bool.and_eq_true, beq_iff] at e
    rw [e.1, eqLs_sound (fun x y q => eqAV_sound 12 q) e.2]
  · cases e

theorem sameEs_sound : ∀ {l r : List (AV × AV × Nat)}, sameEs l r = true → l = r
  | [], [], _ => rfl
  | [], _ :: _, e => by cases e
  | _ :: _, [], e => by cases e
  | (a, b, c) :: l, (a', b', c') :: r, e => by
    simp only [sameEs, Bool.and_eq_true, beq_iff] at e
    obtain ⟨⟨⟨e1, e2⟩, e3⟩, e4⟩ := e
    rw [eqAV_sound 12 e1, eqAV_sound 12 e2, e3, sameEs_sound e4]

theorem sameB_sound {a b : Blk} (e : sameB a b = true) : a = b := by
  unfold sameB at e
  split at e
  · simp only [Bool.and_eq_true, beq_iff, eqB_iff] at e
    obtain ⟨⟨⟨⟨⟨⟨⟨e1, e2⟩, e3⟩, e4⟩, e5⟩, e6⟩, e7⟩, e8⟩ := e
    rw [e1, sameC_sound e2, e3, e4, e5, e6, e7, e8]
  · simp only [Bool.and_eq_true, beq_iff] at e
    rw [e.1.1, sameEs_sound e.1.2, e.2]
  · cases e

theorem sameBs_sound : ∀ {l r : List (Pos × Blk)}, sameBs l r = true → l = r
  | [], [], _ => rfl
  | [], _ :: _, e => by cases e
  | _ :: _, [], e => by cases e
  | (a, b) :: l, (a', b') :: r, e => by
    simp only [sameBs, Bool.and_eq_true] at e
    have e1 := samePos_iff.1 e.1.1
    subst e1
    rw [sameB_sound e.1.2, sameBs_sound e.2]

theorem samePk_sound {a b : Pk} (e : samePk a b = true) : a = b := by
  obtain ⟨v, bs, n⟩ := a
  obtain ⟨v', bs', n'⟩ := b
  simp only [samePk, Bool.and_eq_true] at e
  have e3 := samePos_iff.1 e.2
  subst e3
  rw [eqAV_sound 12 e.1.1, sameBs_sound e.1.2]

theorem allPk_mem {k : Pk} : ∀ {l : List (AV × Hp)}, allPk h k l = true → ∀ x ∈ l, packV h x.2 x.1 = some k
  | [], _, x, q => by cases q
  | y :: l, e, x, q => by
    unfold allPk at e
    rw [Bool.and_eq_true] at e
    rcases List.mem_cons.1 q with rfl | q
    · have e1 := e.1
      split at e1
      · rename_i k' hk
        rw [hk, samePk_sound e1]
      · cases e1
    · exact allPk_mem e.2 x q

theorem joinP_mem {l : List (AV × Hp)} {v' : AV} {h' : Hp} (e : joinP h l = some (v', h')) : ∃ k, v' = k.v ∧ h' = unpackH h k ∧ ∀ x ∈ l, packV h x.2 x.1 = some k := by
  unfold joinP at e
  split at e
  · cases e
  · rename_i y r
    split at e
    · rename_i k hk
      cases ha : allPk h k r with
      | false => rw [ha] at e; cases e
      | true =>
        rw [ha] at e
        cases e
        refine ⟨k, rfl, rfl, fun x q => ?_⟩
        rcases List.mem_cons.1 q with rfl | q
        · exact hk
        · exact allPk_mem ha x q
    · cases e

/-- ████ One of all that a call may leave. ████ -/
theorem joinP_sound (hR : HR P φ0 h w0) (hR1 : HR P φ1 h1 w1) (A : Adv (holdH h) w0 φ0 h1 w1 φ1) (hz : h.lim = 0) {v : AV} {x : Value} (r : Rel φ1 v x) {l : List (AV × Hp)} (hm : (v, h1) ∈ l) {v' : AV} {h' : Hp} (e : joinP h l = some (v', h')) :
    ∃ φ', HR P φ' h' w1 ∧ Adv h w0 φ0 h' w1 φ' ∧ Rel φ' v' x := by
  obtain ⟨k, rfl, rfl, hk⟩ := joinP_mem e
  exact packL_sound hR hR1 A hz r (hk _ hm)

end
end Go.Proofs.YtpbhlpajhdlemaaGreatDoor.Am
