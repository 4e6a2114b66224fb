import Derived.AtR
import Derived.RangeFuncLeaves
import Derived.RangeFuncIn
import Derived.Test.YtmifpiglcphmoaaAmD
/- THE ABSTRACT MACHINE, part E: a machine over values without block numbers, run by the kernel, and the proof that the model's machine does what it does. No condition. -/
namespace Go.Proofs.Ytmifpiglcphmoaa.Am

theorem freeze_push (w : World) (C : Array Value) (el : TypeId) (n : Nat) (hn : C.size = n) :
    ({ w with heap := w.heap.push (.cells C el) } : World).freeze { block := w.heap.size, off := n } 1 = w.alloc (.cells C el (n, n + 1)) := by
  unfold World.freeze World.alloc
  rw [if_neg (by decide)]
  congr 1
  apply Array.ext_getElem?
  intro i
  simp only [Array.getElem?_modify, Array.getElem?_push]
  by_cases e : w.heap.size = i
  · subst e
    simp
  · have e' : ¬ i = w.heap.size := fun q => e q.symm
    rw [if_neg e, if_neg e', if_neg e']

theorem pushAll (ls : List UInt8) (s : ByteArray) : (ls.foldl (fun s b => s.push b) s).data.toList = s.data.toList ++ ls := by
  induction ls generalizing s with
  | nil => simp
  | cons b l ih => rw [List.foldl_cons, ih]; simp [ByteArray.push]

theorem bytes_loop {P : Program} (w : World) (why : String) (ls : List UInt8) (s : ByteArray) :
    (forIn (m := Sem) (ls.map fun b => Value.int .u8 b.toNat) s fun c s => do
      match c with
      | Value.int IntKind.u8 n => pure (ForInStep.yield (s.push (UInt8.ofNat n.toNat)))
      | _ => do
        stuck why
        pure (ForInStep.yield s)).run P w = .ok (ls.foldl (fun s b => s.push b) s) w := by
  induction ls generalizing s with
  | nil => simp
  | cons b l ih =>
    simp only [List.map_cons, List.forIn_cons, Sem.run_bind, Sem.run_pure, Result.andThen_ok, List.foldl_cons]
    rw [show UInt8.ofNat ((b.toNat : Int)).toNat = b by simp]
    exact ih (s.push b)

theorem bytes_run {P : Program} {w : World} {ad : Addr} {len c : Nat} {xs : List Value} {ls : List UInt8} (h : (loadCells ad len).run P w = .ok xs.toArray w) (hx : xs = ls.map fun b => Value.int .u8 b.toNat) :
    (Conv.bytesToString (.slice (some ad) len c)).run P w = .ok (.string ⟨ls.toArray⟩) w := by
  subst hx
  unfold Conv.bytesToString
  simp only [Sem.run_bind, h, Result.andThen_ok]
  rw [← Array.forIn_toList, show (List.map (fun b => Value.int IntKind.u8 (b.toNat : Int)) ls).toArray.toList = List.map (fun b => Value.int IntKind.u8 (b.toNat : Int)) ls by simp]
  refine (congrArg (fun r => Result.andThen r fun a w' => Sem.run P (pure (Value.string a)) w') (bytes_loop (P := P) w _ ls .empty)).trans ?_
  simp only [Result.andThen_ok, Sem.run_pure]
  congr 2
  have := pushAll ls .empty
  apply ByteArray.ext
  apply Array.toList_inj.1
  rw [this]
  simp

theorem relL_bytes {φ : Phi} {ls : List UInt8} {xs : List Value} (h : RelL φ (ls.map fun b => byteV b.toNat) xs) : xs = ls.map fun b => Value.int .u8 b.toNat := by
  induction ls generalizing xs with
  | nil => cases h; rfl
  | cons b l ih =>
    cases h with
    | cons h t =>
      cases h
      rw [ih t]; rfl

section
variable {P : Program} {φ : Phi} {h : Hp} {w : World} {env : T AV} {a : Act} {o : Oper}

theorem op_mkSl (hR : HR P φ h w) (hE : EnvR φ env a.tmps) (hm : Room h) {t e : TypeId} {z : AV} {l c : Operand} {l' c' : Opd} (ht : elemOfSlice P t = some e) (hz : zeroT P e = some z) (hzl : z.cells.length = P.cellsOf e) (hl : compOpd P l = some l') (hc : compOpd P c = some c')
    (ho : o.op = .makeSlice t l c) : ResR P φ h w (evalOp P (.mkSl (P.cellsOf e) (P.bytesOf e) z.cells l' c') env h) ((execOp a.eval o).run P w) := by
  have rl := opd_rel hR hE hl
  have rc := opd_rel hR hE hc
  obtain ⟨hd, hk⟩ := elem_underlying ht
  obtain ⟨i, hi, hi1, hi2⟩ := okT_info hk
  obtain ⟨Z, z1, z2⟩ := zeroT_run hz φ w
  have hZ : Z.cells.size = P.cellsOf e := by rw [← hzl, z2.cells.length, Array.length_toList]
  have hrun : (execOp a.eval o).run P w = (do pure (Next.value (← Instr.makeSlice t (a.eval l) (a.eval c))) : Sem Next).run P w := by
    simp only [execOp, ho]
  rw [hrun]
  unfold evalOp
  simp only
  generalize hL : a.eval l = L at *
  generalize hC : a.eval c = Cc at *
  split
  · rename_i k m k' n e1 e2
    rw [e1] at rl; rw [e2] at rc
    cases rl; cases rc
    cases hb : (Nat.ble m n && okSize n (P.bytesOf e) && Nat.blt 0 (P.cellsOf e)) with
    | false => trivial
    | true =>
      simp only [Bool.and_eq_true, okSize] at hb
      obtain ⟨⟨b1, b2, b3⟩, b4⟩ := hb
      have b1 := ble_iff.1 b1
      have b2 := ble_iff.1 b2
      have b3 := ble_iff.1 b3
      have b4 := blt_iff.1 b4
      rw [cond_true]
      have hrep := repl_rel z2.cells n
      rw [hZ] at hrep
      refine ResR.newSl hR hm hrep e b1 (by simp) ?_
      have hw1 : IntKind.i64.wrap (Int.ofNat m) = (m : Int) := wrap_i64 (n := (m : Int)) (by omega) (by omega)
      have hw2 : IntKind.i64.wrap (Int.ofNat n) = (n : Int) := wrap_i64 (n := (n : Int)) (by omega) (by omega)
      have hbytes : ¬ ((i.bytes : Int) * (n : Int) > 2 ^ 48) := by
        rw [hi2]
        have h3 : P.bytesOf e * n ≤ 4096 * 1073741824 := Nat.mul_le_mul b3 b2
        have h4 : ((P.bytesOf e * n : Nat) : Int) ≤ ((4096 * 1073741824 : Nat) : Int) := Int.ofNat_le.2 h3
        rw [Int.natCast_mul] at h4
        omega
      have hcond : (((n : Int) < 0 || (i.bytes : Int) * (n : Int) > 2 ^ 48) || (m : Int) < 0 || (m : Int) > (n : Int)) = false := by
        simp only [Bool.or_eq_false_iff, decide_eq_false_iff_not]
        exact ⟨⟨⟨by omega, hbytes⟩, by omega⟩, by omega⟩
      unfold Instr.makeSlice
      simp only [asInt, asIntOf, Sem.run_bind, Sem.run_pure, Result.andThen_ok, run_underlying hd, run_typeInfo w hi, hw1, hw2, hcond, Bool.false_eq_true, if_false, run_askRoom, Int.toNat_natCast, run_sizeOf' hk]
      by_cases h0 : n * P.cellsOf e = 0
      · rw [if_pos h0]
        have hr : ∀ f : Nat → Value, (Array.range 0).map f = #[] := fun f => by simp
        simp only [Sem.run_pure, Result.andThen_ok, h0, hr, newRow, Sem.run_bind, run_newObj, Array.toArray_toList]
        rfl
      · rw [if_neg h0]
        simp only [Sem.run_bind, Sem.run_pure, z1, Result.andThen_ok, hZ, newRow, run_newObj, Array.toArray_toList]
        rfl
  · trivial

theorem op_conv (hR : HR P φ h w) (hE : EnvR φ env a.tmps) (hm : Room h) {s d : TypeId} {x : Operand} {x' : Opd} {ao : AOp} (hx : compOpd P x = some x') (hc : compConv P s d x' = some ao) (ho : o.op = .convert s d x) :
    ResR P φ h w (evalOp P ao env h) ((execOp a.eval o).run P w) := by
  have rx := opd_rel hR hE hx
  have hrun : (execOp a.eval o).run P w = (do pure (Next.value (← convert s d (a.eval x))) : Sem Next).run P w := by
    simp only [execOp, ho]
  rw [hrun]
  generalize hX : a.eval x = X at *
  unfold compConv at hc
  split at hc
  · rename_i k0 k hs hd
    cases hc
    unfold evalOp
    simp only
    split
    · rename_i k' n e
      rw [e] at rx
      cases rx
      rw [intK_eq, wrapA_eq]
      exact ResR.pure hR (.int _ _) (by simp [convert, run_underlying hs, run_underlying hd, Conv.intToInt])
    · trivial
  · rename_i hs hd
    cases hc
    unfold evalOp
    simp only
    split
    · rename_i n v e
      rw [e] at rx
      obtain ⟨str, rfl, q1, q2, q3⟩ := rel_str rx
      exact ResR.pure hR rx (by simp [convert, run_underlying hs, run_underlying hd])
    · trivial
  · rename_i e hs hd
    split at hc
    · rename_i he
      cases hb : (Nat.beq (P.cellsOf e) 1 && okT P e) with
      | false => rw [hb] at hc; cases hc
      | true =>
        rw [hb, cond_true, Option.some.injEq] at hc
        subst hc
        unfold evalOp
        simp only
        split
        · rename_i n v ev
          rw [ev] at rx
          obtain ⟨str, rfl, q1, q2, q3⟩ := rel_str rx
          cases hn : Nat.ble n 1073741824 with
          | false => trivial
          | true =>
            rw [cond_true, newK_eq]
            obtain ⟨cp, hcp, hcr⟩ := appendCap_run (P := P) (w := w) str.size 0 e
            have hxs : RelL φ (bytesL n v) (str.data.toList.map fun b => Value.int .u8 b.toNat) := by
              rw [bytesL_eq, q1]
              refine RelL.of_get (by simp) fun i v x hv hx => ?_
              rw [List.getElem?_map] at hv hx
              cases hu : (unpack n _)[i]? with
              | none => rw [hu] at hv; cases hv
              | some u =>
                rw [hu, Option.map_some, Option.some.injEq] at hv hx
                subst hv; subst hx
                exact .int _ _
            obtain ⟨n1, n2⟩ := newCells_run (hR.drew (w.drawn + 1)) hm (c := .byt n v) (xs := str.data.toList.map fun b => Value.int .u8 b.toNat) (spare := List.replicate (cp - str.size) (.int .u8 0)) q2 hxs e
              (cp, cp + 1) true (by unfold Thawed; rw [if_pos rfl]; left; simp; omega) h.ser (Nat.succ h.ser)
            refine ⟨_, .slice (some ⟨w.heap.size, 0, none⟩) str.size cp, _, _, ?_, .inl rfl, n1, (Adv.drew h w φ _).trans hR n2 (hm.was (by simp only [Pos.num_succ]; omega)), ?_⟩
            · simp only [convert, Sem.run_bind, run_underlying hs, run_underlying hd, Result.andThen_ok, run_underlying he, Conv.stringToBytes, hcr, newRow, run_newObj, Sem.run_pure, markStringish, run_shape]
              have hsz : (str.data.map (fun b => Value.int .u8 b.toNat) ++ Array.replicate (cp - str.size) (Value.int .u8 0)).size = cp := by
                simp; omega
              simp only [World.shape?, Array.getElem?_push_size, hsz, run_freeze, Result.andThen_ok]
              have hfz := freeze_push { w with drawn := w.drawn + 1 } (str.data.map (fun b => Value.int .u8 b.toNat) ++ Array.replicate (cp - str.size) (Value.int .u8 0)) e cp hsz
              have e3 : (str.data.toList.map (fun b => Value.int .u8 b.toNat) ++ List.replicate (cp - str.size) (Value.int .u8 0)).toArray = str.data.map (fun b => Value.int .u8 b.toNat) ++ Array.replicate (cp - str.size) (Value.int .u8 0) := by
                simp
              rw [e3]
              exact congrArg _ hfz
            · have e4 : n = str.size := q3.symm
              rw [e4]
              refine .sl (Phi.put_same _ _ _ _) rfl rfl hcp hcp (Nat.le_refl _) (fun q => by cases q) fun _ => ⟨rfl, ?_⟩
              simp only [List.length_append, List.length_map, List.length_replicate, Array.length_toList]
              show 0 + cp * 1 ≤ str.size + (cp - str.size)
              omega
        · trivial
    · cases hc
  · rename_i e hs hd
    split at hc
    · rename_i he
      cases hc
      unfold evalOp
      simp only
      split
      · rename_i ev
        rw [ev] at rx
        cases rx
        refine ResR.pure hR (x := .string .empty) (.str rfl (by simp)) ?_
        simp [convert, run_underlying hs, run_underlying hd, run_underlying he, Conv.bytesToString]
      · rename_i id g off len cap ex es ev
        rw [ev] at rx
        obtain ⟨ad, c', b, s0, N, rfl, k1, k2, k3, k4, k5, k6, k7, k8⟩ := rel_sl rx
        have hcv : (convert s d (.slice (some ad) len c')).run P w = (Conv.bytesToString (.slice (some ad) len c')).run P w := by
          simp [convert, run_underlying hs, run_underlying hd, run_underlying he]
        have hdo : ∀ str, (Conv.bytesToString (.slice (some ad) len c')).run P w = .ok (.string str) w →
            (do pure (Next.value (← convert s d (.slice (some ad) len c'))) : Sem Next).run P w = .ok (.value (.string str)) w := by
          intro str q
          rw [Sem.run_bind, hcv, q]; rfl
        cases hl0 : Nat.beq len 0 with
        | true =>
          have hl0 := beq_iff.1 hl0
          subst hl0
          rw [cond_true]
          refine ResR.pure hR (x := .string .empty) (.str rfl (by simp)) (hdo _ ?_)
          have := run_loadCells_list (P := P) w ad [] (fun j v e => by simp at e)
          exact bytes_run (ls := []) this rfl
        | false =>
          rw [cond_false]
          have hl0 := beq_false.1 hl0
          obtain ⟨q1, _⟩ := k8 (by omega)
          cases hes : Nat.beq es 1 with
          | false => trivial
          | true =>
            rw [cond_true]
            cases hr : readN h id g off len with
            | none => trivial
            | some c =>
              obtain ⟨xs, r1, r2, r3, r4⟩ := readN_run hR hr k1 k2 k3 (fun _ => q1)
              have key : ∀ n v, v < 256 ^ n → bytesL n v = c.toL → (Conv.bytesToString (.slice (some ad) len c')).run P w = .ok (.string ⟨(unpack n v).toArray⟩) w := by
                intro n v hv he2
                rw [← he2] at r2
                refine bytes_run r1 ?_
                rw [bytesL_eq] at r2
                exact relL_bytes r2
              cases c with
              | byt n v =>
                simp only [natK_eq]
                exact ResR.pure hR (x := .string ⟨(unpack n v).toArray⟩) (.str (by simp) r3) (hdo _ (key n v r3 rfl))
              | lst n l =>
                simp only
                cases hp : packAV l 0 0 with
                | none => trivial
                | some r =>
                  obtain ⟨m, u⟩ := r
                  obtain ⟨p1, p2, p3⟩ := packAV_spec l 0 0 m u hp (by simp)
                  exact ResR.pure hR (x := .string ⟨(unpack m u).toArray⟩) (.str (by simp) p1) (hdo _ (key m u p1 (by rw [p3]; rfl)))
      · trivial
    · cases hc
  · cases hc

end

end Go.Proofs.Ytmifpiglcphmoaa.Am

namespace Go.Proofs.Ytmifpiglcphmoaa.Am

section
variable {P : Program} {φ : Phi} {h : Hp} {w : World} {env : T AV} {a : Act} {o : Oper}

theorem builtin_run (hR : HR P φ h w) (hE : EnvR φ env a.tmps) (hm : Room h) {c : Call} {b : Builtin} {ao : AOp} (hc : c.callee = .builtin b) (h1 : compBuiltin P b c.args.toList c.argTypes.toList = some ao) (ho : o.op = .call c) :
    ResR P φ h w (evalOp P ao env h) ((execOp a.eval o).run P w) := by
  generalize hal : c.args.toList = al at h1
  generalize htl : c.argTypes.toList = tl at h1
  unfold compBuiltin at h1
  split at h1
  · rename_i x t
    unfold compLen at h1
    split at h1
    · rename_i hd
      cases hx : compOpd P x with
      | none => rw [hx] at h1; cases h1
      | some x' => rw [hx] at h1; cases h1; exact op_lenS hR hE hx hd hc hal htl ho
    · rename_i e hd
      cases hx : compOpd P x with
      | none => rw [hx] at h1; cases h1
      | some x' => rw [hx] at h1; cases h1; exact op_lenL hR hE hx hd hc hal htl ho
    · rename_i n e hd
      cases h1
      exact op_lenArr hR hE (.inl ⟨e, hd⟩) hc hal htl ho
    · rename_i b' hd
      split at h1
      · rename_i n e hb
        cases h1
        exact op_lenArr hR hE (.inr ⟨b', e, hd, hb⟩) hc hal htl ho
      · cases h1
    · cases h1
  · rename_i x t
    unfold compCap at h1
    split at h1
    · rename_i e hd
      cases hx : compOpd P x with
      | none => rw [hx] at h1; cases h1
      | some x' => rw [hx] at h1; cases h1; exact op_cap hR hE hx hd hc hal htl ho
    · cases h1
  · rename_i s x t u
    unfold compAppend at h1
    split at h1
    · rename_i e s' x' he hs hx
      split at h1
      · rename_i z hz
        cases hb : (Nat.beq z.cells.length (P.cellsOf e) && okT P u) with
        | false => rw [hb] at h1; cases h1
        | true =>
          rw [hb, cond_true] at h1
          rw [Bool.and_eq_true] at hb
          cases hi : isIntT P u with
          | true => rw [hi] at h1; cases h1; exact op_appendZ hR hE hm he hs hx hz (beq_iff.1 hb.1) hb.2 hi hc hal htl ho
          | false => rw [hi] at h1; cases h1; exact op_append hR hE hm he hs hx hz (beq_iff.1 hb.1) hb.2 hi hc hal htl ho
      · cases h1
    · cases h1
  · rename_i d s t r
    unfold compCopy at h1
    split at h1
    · rename_i e d' s' he hd hs
      cases h1
      exact op_copy hR hE he hd hs hc hal htl ho
    · cases h1
  · rename_i x y
    split at h1
    · rename_i x' y' hx hy
      cases h1
      exact op_minmax hR hE false hx hy hc hal ho
    · cases h1
  · rename_i x y
    split at h1
    · rename_i x' y' hx hy
      cases h1
      exact op_minmax hR hE true hx hy hc hal ho
    · cases h1
  · cases h1

theorem evalOp_run (hR : HR P φ h w) (hE : EnvR φ env a.tmps) (hm : Room h) {ao : AOp} (hc : compAOp P o.op = some ao) : ResR P φ h w (evalOp P ao env h) ((execOp a.eval o).run P w) := by
  generalize ho : o.op = op at hc
  unfold compAOp at hc
  split at hc
  all_goals first | (cases hc; done) | skip
  · rename_i x
    cases hx : compOpd P x with
    | none => rw [hx] at hc; cases hc
    | some x' => rw [hx] at hc; cases hc; exact op_move hR hE hx (.inl ho)
  · rename_i x
    cases hx : compOpd P x with
    | none => rw [hx] at hc; cases hc
    | some x' => rw [hx] at hc; cases hc; exact op_move hR hE hx (.inr ho)
  · rename_i c x y
    split at hc
    · rename_i c' x' y' h1 h2 h3; cases hc; exact op_pick hR hE h1 h2 h3 ho
    · cases hc
  · rename_i t
    cases hz : zeroT P t with
    | none => rw [hz] at hc; cases hc
    | some z => rw [hz] at hc; cases hc; exact op_alloc hR hm hz ho
  · rename_i t x
    cases hx : compOpd P x with
    | none => rw [hx] at hc; cases hc
    | some x' => rw [hx] at hc; cases hc; exact op_box hR hE hm hx ho
  · rename_i t parts
    split at hc
    · cases hc
    · rename_i z hz; exact op_build hR hE hz hc ho
  · rename_i t len parts
    split at hc
    · cases hc
    · rename_i e he
      split at hc
      · cases hc
      · rename_i z hz
        cases hb : (Nat.ble (len * P.cellsOf e) 16777216 && Nat.beq z.cells.length (P.cellsOf e)) with
        | false => rw [hb] at hc; cases hc
        | true =>
          rw [hb, cond_true] at hc
          rw [Bool.and_eq_true] at hb
          cases hp : compParts P (fun i => some (i * P.cellsOf e, P.cellsOf e)) parts.toList with
          | none => rw [hp] at hc; cases hc
          | some parts' => rw [hp] at hc; cases hc; exact op_buildSl hR hE hm he hz (ble_iff.1 hb.1) (beq_iff.1 hb.2) hp ho
  · rename_i t x
    split at hc
    · rename_i x' d hx hd
      cases hk : okT P t with
      | false => rw [hk] at hc; cases hc
      | true =>
        rw [hk, cond_true, Option.some.injEq] at hc
        subst hc
        cases hg : isAggT P t with
        | true => exact op_loadN hR hE hx hd hk hg ho
        | false => exact op_load1 hR hE hx hd hg ho
    · cases hc
  · rename_i t x y
    split at hc
    · rename_i x' y' hx hy
      cases hk : okT P t with
      | false => rw [hk] at hc; cases hc
      | true => rw [hk, cond_true, Option.some.injEq] at hc; subst hc; exact op_store hR hE hx hy hk ho
    · cases hc
  · rename_i x
    cases hx : compOpd P x with
    | none => rw [hx] at hc; cases hc
    | some x' => rw [hx] at hc; cases hc; exact op_nilCheck hR hE hx ho
  · rename_i op t x y yt
    split at hc
    · rename_i x' y' hx hy; cases hc; exact op_bin hR hE hx hy ho
    · cases hc
  · rename_i op t x
    cases hx : compOpd P x with
    | none => rw [hx] at hc; cases hc
    | some x' => rw [hx] at hc; cases hc; exact op_un hR hE hx ho
  · rename_i s d x
    split at hc
    · rename_i x' hx; exact op_conv hR hE hm hx hc ho
    · cases hc
  · rename_i t x
    split at hc
    · cases hc
    · rename_i d hno hd
      cases hx : compOpd P x with
      | none => rw [hx] at hc; cases hc
      | some x' =>
        rw [hx] at hc; cases hc
        exact op_mkIfc hR hE hx hd (fun ms q => hno ms q) ho
    · cases hc
  · rename_i f x y
    split at hc
    · rename_i x' y' hx hy; cases hc; exact op_mkFn hR hE hx hy ho
    · cases hc
  · rename_i t l c
    split at hc
    · cases hc
    · rename_i e he
      split at hc
      · rename_i z l' c' hz hl hcc
        cases hb : Nat.beq z.cells.length (P.cellsOf e) with
        | false => rw [hb] at hc; cases hc
        | true => rw [hb, cond_true, Option.some.injEq] at hc; subst hc; exact op_mkSl hR hE hm he hz (beq_iff.1 hb) hl hcc ho
      · cases hc
  · rename_i t x lo hi mx
    split at hc
    · rename_i x' lo' hi' mx' hx hlo hhi hmx
      unfold compSlice at hc
      cases hb : (mx'.isSome && hi'.isNone) with
      | true => rw [hb] at hc; cases hc
      | false =>
        rw [hb, cond_false] at hc
        have h4 : mx.isSome = true → hi.isSome = true := by
          intro q
          rw [← compOpdO_some hmx] at q
          rw [q, Bool.true_and] at hb
          rw [← compOpdO_some hhi]
          cases hi' <;> simp_all
        cases hst : isStrT P t with
        | true =>
          rw [hst, cond_true] at hc
          split at hc
          · cases hc
            have : mx = none := by
              have := compOpdO_some hmx
              cases mx with
              | none => rfl
              | some m => simp at this
            subst this
            exact op_sliceStr hR hE hx hlo hhi hst ho
          · cases hc
        | false =>
          rw [hst, cond_false] at hc
          split at hc
          · rename_i e he; cases hc; exact op_sliceSl hR hE hx hlo hhi hmx h4 he ho
          · split at hc
            · rename_i n e he; cases hc; exact op_sliceArr hR hE hx hlo hhi hmx h4 he ho
            · cases hc
    · cases hc
  · rename_i t x f
    split at hc
    · rename_i fd x' hf hx
      cases hb : Nat.blt 0 (P.cellsOf fd.type) with
      | false => rw [hb] at hc; cases hc
      | true => rw [hb, cond_true, Option.some.injEq] at hc; subst hc; exact op_fieldAddr hR hE hx hf (blt_iff.1 hb) ho
    · cases hc
  · rename_i t x f
    split at hc
    · rename_i fd x' hf hx
      cases hc
      cases hg : isAggT P fd.type with
      | true => exact op_partN hR hE hx hf hg ho
      | false => exact op_part1 hR hE hx hf hg ho
    · cases hc
  · rename_i t x i
    split at hc
    · rename_i x' i' hx hi
      split at hc
      · rename_i n e he; cases hc; exact op_idxAddrArr hR hE hx hi he ho
      · split at hc
        · rename_i e he; cases hc; exact op_idxAddrSl hR hE hx hi he ho
        · cases hc
    · cases hc
  · rename_i t x i
    split at hc
    · rename_i x' i' hx hi
      split at hc
      · rename_i n e he; cases hc; exact op_idxArr hR hE hx hi he ho
      · cases hst : isStrT P t with
        | false => rw [hst] at hc; cases hc
        | true => rw [hst, cond_true, Option.some.injEq] at hc; subst hc; exact op_idxStr hR hE hx hi hst ho
    · cases hc
  · rename_i x xt t ok
    split at hc
    · cases hc
    · rename_i d z x' hno hd hz hx
      cases hc
      exact op_assertT hR hE hx hd (fun ms q => hno ms q) hz ho
    · cases hc
  · rename_i x i
    cases hx : compOpd P x with
    | none => rw [hx] at hc; cases hc
    | some x' => rw [hx] at hc; cases hc; exact op_extract hR hE hx ho
  · rename_i c
    unfold compCall at hc
    split at hc
    · rename_i f hcl
      split at hc
      · rename_i f' l hf hl; cases hc; exact op_callV hR hE hf hl hcl ho
      · cases hc
    · rename_i r name hcl
      split at hc
      · rename_i r' l hr hl; cases hc; exact op_invoke hR hE hr hl hcl ho
      · cases hc
    · rename_i b hcl
      exact builtin_run hR hE hm hcl hc ho

end

end Go.Proofs.Ytmifpiglcphmoaa.Am

namespace Go.Proofs.Ytmifpiglcphmoaa.Am

def ItemR (P : Program) (φ : Phi) (n : Nat) : Item → Go.Item → Prop
  | .code c, .code k => c = comp P n k
  | .inBlock i, .inBlock j => i = j
  | .inLoop c, .inLoop k => c = comp P n k
  | .inScope, .inScope _ => True
  | .ops l, .inRegion ops idx => l = idx.map (fun i => compOper P n ops 0 (ops.getD i default)) ∧ ∀ i ∈ idx, i < ops.size
  | .beginRound, .beginRound => True
  | .inRange l, .inRangeFunc b => φ l 0 = some (b, 0, 0)
  | .endRange l, .endRangeFunc b => φ l 0 = some (b, 0, 0)
  | _, _ => False

inductive ItemsR (P : Program) (φ : Phi) (n : Nat) : List Item → List Go.Item → Prop where
  | nil : ItemsR P φ n [] []
  | cons {x : Item} {y : Go.Item} {l : List Item} {r : List Go.Item} (h : ItemR P φ n x y) (t : ItemsR P φ n l r) : ItemsR P φ n (x :: l) (y :: r)

inductive DefsR (φ : Phi) : List AD → List Deferred → Prop where
  | nil : DefsR φ [] []
  | mark {id : Pos} {b : Nat} {l : List AD} {r : List Deferred} (h : φ id 0 = some (b, 0, 0)) (t : DefsR φ l r) : DefsR φ (.mark id :: l) ({ target := .collected b, args := #[] } :: r)

def ModeR : Md → FrameMode → Prop
  | .run, .run => True
  | .ret, .returning => True
  | _, _ => False

def RoundR (φ : Phi) : Option Pos → Option Nat → Prop
  | none, none => True
  | some l, some b => φ l 0 = some (b, 0, 0)
  | _, _ => False

structure FrR (P : Program) (φ : Phi) (fr : Fr) (g : Frame) : Prop where
  fn : g.fn = fr.fn
  env : EnvR φ fr.env g.tmps
  size : numT P fr.fn ≤ g.tmps.size
  todo : ItemsR P φ (numT P fr.fn) fr.todo g.todo
  defers : DefsR φ fr.defers g.defers
  mode : ModeR fr.mode g.mode
  kind : g.kind = .normal
  round : RoundR φ fr.round g.roundOf

inductive FrsR (P : Program) (φ : Phi) : List Fr → List Frame → Prop where
  | nil : FrsR P φ [] []
  | cons {x : Fr} {y : Frame} {l : List Fr} {r : List Frame} (h : FrR P φ x y) (t : FrsR P φ l r) : FrsR P φ (x :: l) (y :: r)

theorem ItemR.mono {P : Program} {φ ψ : Phi} (hle : Le φ ψ) {n : Nat} {x : Item} {y : Go.Item} (h : ItemR P φ n x y) : ItemR P ψ n x y := by
  cases x <;> cases y <;> first | exact h | (exact hle _ _ _ h)

theorem ItemsR.mono {P : Program} {φ ψ : Phi} (hle : Le φ ψ) {n : Nat} {l : List Item} {r : List Go.Item} (h : ItemsR P φ n l r) : ItemsR P ψ n l r := by
  induction h with
  | nil => exact .nil
  | cons h _ ih => exact .cons (h.mono hle) ih

theorem DefsR.mono {φ ψ : Phi} (hle : Le φ ψ) {l : List AD} {r : List Deferred} (h : DefsR φ l r) : DefsR ψ l r := by
  induction h with
  | nil => exact .nil
  | mark h _ ih => exact .mark (hle _ _ _ h) ih

theorem RoundR.mono {φ ψ : Phi} (hle : Le φ ψ) {x : Option Pos} {y : Option Nat} (h : RoundR φ x y) : RoundR ψ x y := by
  cases x <;> cases y <;> first | exact h | (exact hle _ _ _ h)

theorem FrR.mono {P : Program} {φ ψ : Phi} (hle : Le φ ψ) {fr : Fr} {g : Frame} (h : FrR P φ fr g) : FrR P ψ fr g :=
  ⟨h.fn, h.env.mono hle, h.size, h.todo.mono hle, h.defers.mono hle, h.mode, h.kind, h.round.mono hle⟩

theorem FrsR.mono {P : Program} {φ ψ : Phi} (hle : Le φ ψ) {l : List Fr} {r : List Frame} (h : FrsR P φ l r) : FrsR P ψ l r := by
  induction h with
  | nil => exact .nil
  | cons h _ ih => exact .cons (h.mono hle) ih

/-- The bottom frame. -/
def bot (s : St) : Fr := (s.callers.getLast?).getD s.cur

/-- What a step, or many, says of the model's machine, whose frames lie over the frames c0. -/
def OutR (P : Program) (c0 : List Frame) (φ : Phi) (s : St) (g : Frame) (cs : List Frame) (w : World) : Out → Prop
  | .next s' => ∃ g' cs' w' φ', Steps P (lone g (cs ++ c0) w) (lone g' (cs' ++ c0) w') ∧ HR P φ' s'.hp w' ∧ FrR P φ' s'.cur g' ∧ FrsR P φ' s'.callers cs' ∧ Adv s.hp w φ s'.hp w' φ' ∧
      (bot s').fn = (bot s).fn ∧ (bot s').round = (bot s).round
  | .done v h' => ∃ w' φ' x, HR P φ' h' w' ∧ Adv s.hp w φ h' w' φ' ∧ Rel φ' v x ∧
      (∀ c cs1, c0 = c :: cs1 → Steps P (lone g (cs ++ c0) w) (lone (c.finish x) cs1 w')) ∧
      ((bot s).round = none → ∃ g', Steps P (lone g (cs ++ c0) w) (lone g' c0 w') ∧ g'.fn = (bot s).fn ∧ g'.leaving P w' (.returned x))
  | .fail _ => True

/-- A frame that runs, as the step lemmas spell it. -/
theorem frame_run {g : Frame} (h : g.mode = .run) : g = g.atR ⟨g.tmps, g.defers⟩ g.todo := by
  cases g; simp only at h; subst h; rfl

theorem bot_cons (c : Fr) (cs : List Fr) (x : Fr) (h : Hp) (h' : Hp) : bot ⟨x, c :: cs, h⟩ = bot ⟨c, cs, h'⟩ := by
  cases cs with
  | nil => rfl
  | cons d ds =>
    simp only [bot, List.getLast?_cons_cons]
    cases hq : (d :: ds).getLast? with
    | none => simp at hq
    | some y => rfl

section
variable {P : Program} {φ : Phi} {h : Hp} {w : World} {fr : Fr} {cs' : List Fr} {g : Frame} {cs c0 : List Frame}

/-- One step of the model's machine, the heap as it was. -/
theorem OutR.plain {fr' : Fr} {g' : Frame} (hR : HR P φ h w) (hF : FrR P φ fr' g') (hC : FrsR P φ cs' cs) (hs : Steps P (lone g (cs ++ c0) w) (lone g' (cs ++ c0) w)) (hfn : fr'.fn = fr.fn) (hro : fr'.round = fr.round) :
    OutR P c0 φ ⟨fr, cs', h⟩ g cs w (.next ⟨fr', cs', h⟩) := by
  refine ⟨g', cs, w, φ, hs, hR, hF, hC, Adv.refl h w φ, ?_, ?_⟩
  · cases cs' with
    | nil => exact hfn
    | cons c l => simp [bot, List.getLast?_cons]
  · cases cs' with
    | nil => exact hro
    | cons c l => simp [bot, List.getLast?_cons]

theorem FrR.setTodo {k : List Item} {k' : List Go.Item} (hF : FrR P φ fr g) (ht : ItemsR P φ (numT P fr.fn) k k') (hm : fr.mode = .run) : FrR P φ { fr with todo := k } (g.atR ⟨g.tmps, g.defers⟩ k') :=
  ⟨hF.fn, hF.env, hF.size, ht, hF.defers, by show ModeR fr.mode .run; rw [hm]; trivial, hF.kind, hF.round⟩

/-- A step that turns what is to be done, and nothing else. -/
theorem OutR.to {x : Go.Item} {k0 : List Go.Item} {k : List Item} {k' : List Go.Item} (hR : HR P φ h w) (hF : FrR P φ fr g) (hC : FrsR P φ cs' cs) (hm : fr.mode = .run) (hg : g.todo = x :: k0)
    (ht : ItemsR P φ (numT P fr.fn) k k') (hs : ∀ (b : Frame) (a : Act) (cs : List Frame), b = g → a = ⟨g.tmps, g.defers⟩ → Go.step P (lone (b.atR a (x :: k0)) cs w) = .next (lone (b.atR a k') cs w)) :
    OutR P c0 φ ⟨fr, cs', h⟩ g cs w (.next ⟨{ fr with todo := k }, cs', h⟩) := by
  have hmode : g.mode = .run := by
    have := hF.mode
    rw [hm] at this
    cases hgm : g.mode <;> rw [hgm] at this <;> first | rfl | (cases this)
  refine OutR.plain hR (hF.setTodo ht hm) hC ?_ rfl rfl
  have e := frame_run hmode
  rw [hg] at e
  have := hs g ⟨g.tmps, g.defers⟩ (cs ++ c0) rfl rfl
  rw [← e] at this
  exact .one this

theorem exitA_spec {n : Nat} {k : List Item} {k' : List Go.Item} (h : ItemsR P φ n k k') (id : Nat) :
    (∀ r, exitA id k = some r → ∃ r', exitTo id k' = some r' ∧ ItemsR P φ n r r') ∧ (exitA id k = none → exitTo id k' = none) := by
  induction h with
  | nil => exact ⟨fun r e => (by cases e), fun _ => rfl⟩
  | @cons x y l r hx ht ih =>
    cases x <;> cases y <;> first | (cases hx; done) | skip
    case inBlock.inBlock i j =>
      have hij : i = j := hx
      subst hij
      unfold exitA exitTo
      by_cases e : i = id
      · subst e
        simp only [beq_iff.2 rfl, cond_true, BEq.rfl, if_true]
        exact ⟨fun r e => (by cases e; exact ⟨_, rfl, ht⟩), fun e => (by cases e)⟩
      · have e' : (i == id) = false := by simpa using e
        simp only [beq_false.2 e, cond_false, e', Bool.false_eq_true, if_false]
        exact ih
    all_goals (unfold exitA exitTo; exact ih)
end

end Go.Proofs.Ytmifpiglcphmoaa.Am

namespace Go.Proofs.Ytmifpiglcphmoaa.Am

theorem compFn_spec {P : Program} {f : FuncId} {fu : Fu} (h : compFn P f = some fu) :
    ∃ fn b, P.funcs[f]? = some fn ∧ fn.body = some b ∧ mapO (compRV P) fn.results.toList = some fu.results ∧ fu.nargs = fn.ntmps ∧ fu.body = comp P fn.ntmps b ∧ numT P f = fn.ntmps := by
  unfold compFn at h
  split at h
  · cases h
  · rename_i fn hf
    split at h
    · cases h
    · rename_i b hb
      split at h
      · rename_i r hr
        cases h
        exact ⟨fn, b, hf, hb, hr, rfl, rfl, by simp [numT, hf]⟩
      · cases h

theorem ev_setArgs (l : List AV) (env : T AV) (i t : Nat) : ev (setArgs env i l) (.tmp (Pos.ofNat t)) = if i ≤ t ∧ t < i + l.length then l.getD (t - i) .undef else ev env (.tmp (Pos.ofNat t)) := by
  induction l generalizing env i with
  | nil => rw [setArgs, if_neg (by simp only [List.length_nil]; omega)]
  | cons v l ih =>
    unfold setArgs
    rw [T.setK_eq, ih, ev_set]
    by_cases h1 : i + 1 ≤ t ∧ t < i + 1 + l.length
    · rw [if_pos h1, if_pos ⟨by omega, by simp; omega⟩, show t - i = (t - (i + 1)) + 1 by omega]; rfl
    · rw [if_neg h1]
      by_cases h2 : t = i
      · subst h2
        rw [if_pos rfl, if_pos ⟨Nat.le_refl _, by simp⟩, Nat.sub_self]; rfl
      · rw [if_neg (fun q => h2 (Pos.ofNat_inj q)), if_neg (by simp; omega)]

theorem ev_empty (x : Pos) : ev .e (.tmp x) = .undef := by simp [ev, T.get_e]

theorem begin_run {P : Program} {φ : Phi} {f : FuncId} {args : List AV} {xs : Array Value} {fr : Fr} (h : beginFn P f args = some fr) (hx : RelL φ args xs.toList) :
    FrR P φ fr (Frame.enter P f xs .normal) ∧ fr.fn = f ∧ fr.round = none ∧ ∃ fn b, P.funcs[f]? = some fn ∧ fn.body = some b := by
  unfold beginFn at h
  split at h
  · rename_i fu hfu
    obtain ⟨fn, b, h1, h2, h3, h4, h5, h6⟩ := compFn_spec hfu
    cases hb : Nat.ble args.length fu.nargs with
    | false => rw [hb] at h; cases h
    | true =>
      rw [hb, cond_true, Option.some.injEq] at h
      have hb := ble_iff.1 hb
      rw [h4] at hb
      have hl : args.length = xs.size := by rw [hx.length, Array.length_toList]
      subst h
      have ht : (Frame.enter P f xs .normal).tmps = xs ++ Array.replicate (fn.ntmps - xs.size) Go.undef := by simp [Frame.enter, h1]
      refine ⟨⟨rfl, ?_, ?_, ?_, .nil, trivial, rfl, trivial⟩, rfl, rfl, fn, b, h1, h2⟩
      · intro t
        rw [ev_setArgs, ht, Array.getD_eq_getD_getElem?, Array.getElem?_append, ev_empty]
        by_cases c : t < args.length
        · rw [if_pos ⟨Nat.zero_le _, by omega⟩, if_pos (by omega), Nat.sub_zero, List.getD_eq_getElem?_getD]
          obtain ⟨x, e1, e2⟩ := hx.get (List.getElem?_eq_getElem c)
          rw [Array.getElem?_toList] at e1
          rw [e1, List.getElem?_eq_getElem c]
          exact e2
        · rw [if_neg (by omega), if_neg (by omega), Array.getElem?_replicate]
          by_cases c2 : t - xs.size < fn.ntmps - xs.size
          · rw [if_pos c2]; exact Rel.undef
          · rw [if_neg c2]; exact Rel.undef
      · rw [ht, h6]; simp; omega
      · have e : (Frame.enter P f xs .normal).todo = [.code b] := by simp [Frame.enter, h1, h2]
        rw [e]
        exact .cons (by show fu.body = _; rw [h5, h6]) .nil
  · cases h

theorem okDst_lt {n d : Nat} (h : okDst n (some d) = true) : d < n := blt_iff.1 h

section
variable {P : Program} {φ : Phi} {fr : Fr} {g : Frame}

/-- A value handed to a frame. -/
theorem give_run {v : AV} {x : Value} (k : Fr → Out) (hF : FrR P φ fr g) (hv : Rel φ v x) :
    (∃ why, give fr v k = .fail why) ∨ ∃ fr', give fr v k = k fr' ∧ FrR P φ fr' (g.finish x) ∧ fr'.fn = fr.fn ∧ fr'.round = fr.round := by
  have ht := hF.todo
  unfold give
  split
  · rename_i o rest td e
    rw [e] at ht
    cases hok : o.ok with
    | false => exact .inl ⟨_, rfl⟩
    | true =>
      rw [cond_true]
      generalize hg : g.todo = gt at ht
      cases ht with
      | @cons x1 y l r hx ht =>
        cases y <;> first | (cases hx; done) | skip
        rename_i ops idx
        obtain ⟨h1, h2⟩ := hx
        cases idx with
        | nil => cases h1
        | cons i idx =>
          rw [List.map_cons, List.cons.injEq] at h1
          obtain ⟨h1, h3⟩ := h1
          have hi := h2 i (by simp)
          have hoi : ops[i]? = some (ops.getD i default) := by rw [Array.getD_eq_getD_getElem?, Array.getElem?_eq_getElem hi]; rfl
          have hitem : ItemR P φ (numT P fr.fn) (.ops rest) (.inRegion ops idx) := ⟨h3, fun j hj => h2 j (by simp [hj])⟩
          have hfin : g.finish x = { g with tmps := (match (ops.getD i default).dst with | some d => g.tmps.setIfInBounds d x | none => g.tmps), todo := .inRegion ops idx :: r } := by
            simp only [Frame.finish, hg, hoi, Option.bind_some]
            cases (ops.getD i default).dst <;> rfl
          have hdst : o.dst = (ops.getD i default).dst.map Pos.ofNat := by rw [h1]; rfl
          have hokd : okDst (numT P fr.fn) (ops.getD i default).dst = true := by
            rw [h1] at hok
            simp only [compOper, Bool.and_eq_true] at hok
            exact hok.1
          rw [hfin]
          cases hd : (ops.getD i default).dst with
          | none =>
            rw [hd, Option.map_none] at hdst
            rw [hdst]
            exact .inr ⟨_, rfl, ⟨hF.fn, hF.env, hF.size, .cons hitem ht, hF.defers, hF.mode, hF.kind, hF.round⟩, rfl, rfl⟩
          | some d =>
            rw [hd, Option.map_some] at hdst
            rw [hdst]
            simp only [T.setK_eq]
            rw [hd] at hokd
            have hdl := okDst_lt hokd
            have := hF.size
            refine .inr ⟨_, rfl, ⟨hF.fn, hF.env.set hv (by omega), ?_, .cons hitem ht, hF.defers, hF.mode, hF.kind, hF.round⟩, rfl, rfl⟩
            simpa using hF.size
  · rename_i l td e
    rw [e] at ht
    generalize hg : g.todo = gt at ht
    cases ht with
    | @cons x1 y l r hx ht =>
      cases y <;> first | (cases hx; done) | skip
      rename_i b
      have hfin : g.finish x = { g with todo := .endRangeFunc b :: r } := by simp only [Frame.finish, hg]
      rw [hfin]
      exact .inr ⟨_, rfl, ⟨hF.fn, hF.env, hF.size, .cons hx ht, hF.defers, hF.mode, hF.kind, hF.round⟩, rfl, rfl⟩
  · exact .inl ⟨_, rfl⟩

theorem result_run {h : Hp} {w : World} (hR : HR P φ h w) {env : T AV} {tmps : Array Value} (hE : EnvR φ env tmps) {r : ResultVar} {rv : RV} {v : AV} (hc : compRV P r = some rv) (hv : result1 env h rv = some v) :
    ∃ x, ((match r with | .tmp t => pure (tmps.getD t Go.undef) | .cell a t => do loadVar t (← asAddr (tmps.getD a Go.undef)) : Sem Value)).run P w = .ok x w ∧ Rel φ v x := by
  cases r with
  | tmp t =>
    simp only [compRV, Option.some.injEq] at hc
    subst hc
    simp only [result1, Option.some.injEq] at hv
    subst hv
    exact ⟨_, rfl, hE t⟩
  | cell a t =>
    simp only [compRV] at hc
    cases hk : okT P t with
    | false => rw [hk] at hc; cases hc
    | true =>
      rw [hk, cond_true, Option.some.injEq] at hc
      subst hc
      obtain ⟨d, hd⟩ := okT_desc hk
      have ha := hE a
      cases hg : isAggT P t with
      | true =>
        rw [hg, cond_true] at hv
        simp only [result1] at hv
        split at hv
        · rename_i id gg off e
          rw [e] at ha
          obtain ⟨ad, b, s, n, hX, k1, k2, k3, k4⟩ := rel_ptr ha
          split at hv
          · rename_i c hc
            cases hv
            obtain ⟨xs, e1, e2, e3, e4⟩ := readN_run hR hc k1 k2 k3 (fun _ => k4)
            refine ⟨.agg xs.toArray, ?_, .agg (by simpa using e2)⟩
            simp only [hX, asAddr, loadVar, Sem.run_bind, Sem.run_pure, Result.andThen_ok, run_isAgg' hd, hg, if_true, run_sizeOf' hk, e1]
          · cases hv
        · cases hv
      | false =>
        rw [hg, cond_false] at hv
        simp only [result1] at hv
        split at hv
        · rename_i id gg off e
          rw [e] at ha
          obtain ⟨ad, b, s, n, hX, k1, k2, k3, k4⟩ := rel_ptr ha
          obtain ⟨y, e1, e2⟩ := read1_run hR hv k1 k2 k3 k4
          refine ⟨y, ?_, e2⟩
          simp only [hX, asAddr, loadVar, Sem.run_bind, Sem.run_pure, Result.andThen_ok, run_isAgg' hd, hg, Bool.false_eq_true, if_false, run_load, e1]
        · cases hv

theorem results_run {h : Hp} {w : World} (hR : HR P φ h w) {env : T AV} {tmps : Array Value} (hE : EnvR φ env tmps) {fn : Func} {rvs : List RV} {vs : List AV} (hc : mapO (compRV P) fn.results.toList = some rvs)
    (hv : mapO (result1 env h) rvs = some vs) : ∃ x, (results fn tmps).run P w = .ok x w ∧ Rel φ (tupleA vs) x := by
  have key : ∀ (rs : List ResultVar) (rvs : List RV) (vs : List AV), mapO (compRV P) rs = some rvs → mapO (result1 env h) rvs = some vs →
      ∃ xs, (rs.mapM (m := Sem) fun | .tmp t => pure (tmps.getD t Go.undef) | .cell a t => do loadVar t (← asAddr (tmps.getD a Go.undef))).run P w = .ok xs w ∧ RelL φ vs xs := by
    intro rs
    induction rs with
    | nil =>
      intro rvs vs h1 h2
      simp only [mapO, Option.some.injEq] at h1
      subst h1
      simp only [mapO, Option.some.injEq] at h2
      subst h2
      exact ⟨[], by simp, .nil⟩
    | cons r rs ih =>
      intro rvs vs h1 h2
      unfold mapO at h1
      split at h1
      · rename_i rv hrv
        split at h1
        · rename_i rvs' hrs
          cases h1
          unfold mapO at h2
          split at h2
          · rename_i v hv1
            split at h2
            · rename_i vs' hvs
              cases h2
              obtain ⟨x, e1, e2⟩ := result_run hR hE hrv hv1
              obtain ⟨xs, e3, e4⟩ := ih rvs' vs' hrs hvs
              refine ⟨x :: xs, ?_, .cons e2 e4⟩
              rw [List.mapM_cons, Sem.run_bind]
              refine (congrArg (fun q => Result.andThen q _) e1).trans ?_
              rw [Result.andThen_ok, Sem.run_bind]
              refine (congrArg (fun q => Result.andThen q _) e3).trans ?_
              rfl
            · cases h2
          · cases h2
        · cases h1
      · cases h1
  obtain ⟨xs, e1, e2⟩ := key fn.results.toList rvs vs hc hv
  unfold results
  rw [Sem.run_bind, Array.mapM_eq_mapM_toList, Sem.run_map]
  have e1' := congrArg (fun q => Result.andThen q fun a w' => Result.ok (List.toArray a) w') e1
  refine ⟨if h : xs.toArray.size = 1 then xs.toArray[0] else .tuple xs.toArray, ?_, ?_⟩
  · refine (congrArg (fun q => Result.andThen q _) e1').trans ?_
    rfl
  · cases e2 with
    | nil => exact .tup .nil
    | cons h t =>
      cases t with
      | nil => exact h
      | cons h2 t2 =>
        rw [dif_neg (by simp)]
        exact .tup (.cons h (.cons h2 t2))
end

end Go.Proofs.Ytmifpiglcphmoaa.Am

namespace Go.Proofs.Ytmifpiglcphmoaa.Am

def putO (w : World) (b : Nat) (o : Obj) : World := { w with heap := w.heap.setIfInBounds b o }

theorem putO_same {w : World} {b : Nat} {o o' : Obj} (h : w.heap[b]? = some o) : (putO w b o').heap[b]? = some o' := by
  have := heap_lt h
  simp [putO, this]

theorem putO_ne {w : World} {b c : Nat} {o' : Obj} (h : c ≠ b) : (putO w b o').heap[c]? = w.heap[c]? := Array.getElem?_setIfInBounds_ne (Ne.symm h)

theorem run_getLoop {P : Program} {w : World} {b : Nat} {L : Loop} (h : w.heap[b]? = some (.loop L)) : (Instr.getLoop b).run P w = .ok L w := by
  simp [Instr.getLoop, getObj, Sem.run, h, Bind.bind, Sem.bind, Pure.pure]

theorem run_setLoop {P : Program} {w : World} {b : Nat} {L : Loop} (h : w.heap[b]? = some (.loop L)) (o : Obj) : (setObj b o).run P w = .ok () (putO w b o) := by
  simp [setObj, Sem.run, h, putO]

section
variable {P : Program} {φ : Phi} {h : Hp} {w : World}

/-- A loop's state is changed. -/
theorem setLoop_run (hR : HR P φ h w) {l : Pos} {b : Nat} (hφ : φ l 0 = some (b, 0, 0)) (ok : LState → Bool) (st : LState) (pend : Option C → Option C) (k : Option C → Hp → Out) :
    (∃ why, setLoop h l ok st pend k = .fail why) ∨ ∃ p h' L st0, setLoop h l ok st pend k = k p h' ∧ w.heap[b]? = some (.loop L) ∧ ok st0 = true ∧ LSR st0 L.state ∧ PendR P (numT P L.fn) p L.pending ∧
      h'.next = h.next ∧ ∀ L' : Loop, L'.fn = L.fn → L'.tmps = L.tmps → L'.params = L.params → L'.assign = L.assign → L'.body = L.body → L'.defers = L.defers → LSR st L'.state → PendR P (numT P L.fn) (pend p) L'.pending →
        HR P φ h' (putO w b (.loop L')) ∧ Adv h w φ h' (putO w b (.loop L')) φ := by
  unfold setLoop
  split
  · rename_i ser st0 p fn env params assign body around hid
    cases hc : ok st0 with
    | false => exact .inl ⟨_, rfl⟩
    | true =>
      rw [cond_true, T.setK_eq]
      obtain ⟨b', L, e1, e2, e3, e4, e5, e6, e7, e8, e9, e10, e11, e12⟩ := hR.blk _ _ hid
      rw [hφ, Option.some.injEq, Prod.mk.injEq] at e1
      obtain ⟨rfl, _⟩ := e1
      subst e5
      refine .inr ⟨p, _, L, st0, rfl, e2, hc, e3, e4, rfl, fun L' q1 q2 q3 q4 q5 q6 q7 q8 => ?_⟩
      have u : Upd h w φ l h.next (putO w b (.loop L')) φ := Upd.same hR hid (by simp [putO]) (fun y hy kk => putO_ne (fun c => kk 0 0 0 (by rw [c]; exact hφ))) rfl rfl rfl
      refine ⟨hR.update u fun x hx => ?_, Adv.update hR u (.inr ⟨_, hid, fun _ _ _ _ _ _ _ _ kk => by cases kk⟩)⟩
      cases hx
      exact ⟨b, L', hφ, putO_same e2, q7, by rw [q1] at *; exact q8, q1, by rw [q2]; exact e6, by rw [q2]; exact e7, by rw [q3]; exact e8, e9 |> fun z => by rw [q3]; exact z, by rw [q4]; exact e10, by rw [q5]; exact e11, by rw [q6]; exact e12⟩
  · exact .inl ⟨_, rfl⟩

theorem setParams_run {env env' : T AV} {tmps : Array Value} (hE : EnvR φ env tmps) : ∀ (ts : List Tmp) (l : List AV) (xs : List Value) (env : T AV) (tmps : Array Value), EnvR φ env tmps → RelL φ l xs → (∀ t ∈ ts, t < tmps.size) →
    setParams env (ts.map Pos.ofNat) l = some env' → ts.length = xs.length ∧ EnvR φ env' ((ts.zip xs).foldl (fun tmps p => tmps.setIfInBounds p.1 p.2) tmps) ∧ ((ts.zip xs).foldl (fun tmps p => tmps.setIfInBounds p.1 p.2) tmps).size = tmps.size := by
  clear hE
  intro ts
  induction ts with
  | nil =>
    intro l xs env tmps hE hx _ h
    cases l with
    | nil =>
      simp only [List.map_nil, setParams, Option.some.injEq] at h
      cases hx; subst h
      exact ⟨rfl, hE, rfl⟩
    | cons v l => simp [setParams] at h
  | cons t ts ih =>
    intro l xs env tmps hE hx hlt h
    cases hx with
    | nil => simp [setParams] at h
    | @cons v x l xs hv hx =>
      simp only [List.map_cons, setParams, T.setK_eq] at h
      have := hE.set hv (hlt t (by simp))
      obtain ⟨r1, r2, r3⟩ := ih l xs _ _ this hx (fun u hu => by have := hlt u (by simp [hu]); simpa using this) h
      exact ⟨by simp [r1], r2, by simpa using r3⟩

/-- A round begins. -/
theorem round_run (hR : HR P φ h w) {l : Pos} {b : Nat} (hφ : φ l 0 = some (b, 0, 0)) {args : List AV} {xs : Array Value} (hx : RelL φ args xs.toList) {fr : Fr} (hb : beginRound h l args = some fr) :
    ∃ f tmps assign body, (Instr.yield b xs).run P w = .ok (.round b f tmps assign body) w ∧ FrR P φ fr (Frame.round b f tmps assign body .normal) ∧ fr.round = some l := by
  unfold beginRound at hb
  split at hb
  · rename_i ser st p fn env params assign body around hid
    split at hb
    · rename_i env' he
      cases hb
      obtain ⟨b', L, e1, e2, e3, e4, e5, e6, e7, e8, e9, e10, e11, e12⟩ := hR.blk _ _ hid
      rw [hφ, Option.some.injEq, Prod.mk.injEq] at e1
      obtain ⟨rfl, _⟩ := e1
      rw [← e8] at he
      obtain ⟨r1, r2, r3⟩ := setParams_run e6 L.params.toList args xs.toList env L.tmps e6 hx (fun t ht => Nat.lt_of_lt_of_le (e9 t ht) e7) he
      have hsz : ¬ (xs.size ≠ L.params.size) := by
        rw [Array.length_toList, Array.length_toList] at r1; simp [r1]
      have hfold : (L.params.zip xs).foldl (fun tmps (x : Tmp × Value) => tmps.setIfInBounds x.1 x.2) L.tmps = (L.params.toList.zip xs.toList).foldl (fun tmps p => tmps.setIfInBounds p.1 p.2) L.tmps := by
        rw [← Array.foldl_toList, Array.toList_zip]
      refine ⟨L.fn, (L.params.zip xs).foldl (fun tmps (x : Tmp × Value) => tmps.setIfInBounds x.1 x.2) L.tmps, L.assign, L.body, ?_, ⟨e5, ?_, ?_, ?_, .nil, trivial, rfl, hφ⟩, rfl⟩
      · unfold Instr.yield
        rw [Sem.run_bind, run_getLoop e2, Result.andThen_ok]
        rw [if_neg hsz]
        rfl
      · show EnvR φ env' ((L.params.zip xs).foldl (fun tmps (x : Tmp × Value) => tmps.setIfInBounds x.1 x.2) L.tmps)
        rw [hfold]; exact r2
      · show numT P fn ≤ ((L.params.zip xs).foldl (fun tmps (x : Tmp × Value) => tmps.setIfInBounds x.1 x.2) L.tmps).size
        rw [hfold, r3]; exact e7
      · exact .cons e10 (.cons trivial (.cons e11 .nil))
    · cases hb
  · cases hb
end

section
variable {P : Program} {φ : Phi} {h : Hp} {w : World} {fr : Fr} {g : Frame}

/-- What is handed back at a frame's end, where the model's machine takes one step. -/
theorem backTo_run {v : AV} {x : Value} {callers : List Fr} {cs c0 : List Frame} {φ0 : Phi} {h0 : Hp} {w0 : World} (hR : HR P φ h w) (hC : FrsR P φ callers cs) (hv : Rel φ v x) (hA : Adv h0 w0 φ0 h w φ)
    (hs : ∀ c cs1, cs ++ c0 = c :: cs1 → Steps P (lone g (cs ++ c0) w0) (lone (c.finish x) cs1 w))
    (hl : fr.round = none → callers = [] → ∃ g', Steps P (lone g (cs ++ c0) w0) (lone g' c0 w) ∧ g'.fn = fr.fn ∧ g'.leaving P w (.returned x)) :
    OutR P c0 φ0 ⟨fr, callers, h0⟩ g cs w0 (backTo v callers h) := by
  cases hC with
  | nil =>
    refine ⟨w, φ, x, hR, hA, hv, fun c cs1 e => hs c cs1 (by simpa using e), fun hr => ?_⟩
    have := hl hr rfl
    simpa [bot] using this
  | @cons c y l r hc ht =>
    unfold backTo
    simp only
    have hstep := hs y (r ++ c0) rfl
    rcases give_run (fun c => Out.next ⟨c, l, h⟩) hc hv with ⟨why, e⟩ | ⟨fr', e, e1, e2, e3⟩
    · rw [e]; trivial
    · rw [e]
      refine ⟨y.finish x, r, w, φ, hstep, hR, e1, ht, hA, ?_, ?_⟩
      · rw [bot_cons c l fr h0 h]
        cases l with
        | nil => exact e2
        | cons d ds => simp [bot, List.getLast?_cons]
      · rw [bot_cons c l fr h0 h]
        cases l with
        | nil => exact e3
        | cons d ds => simp [bot, List.getLast?_cons]

/-- Behind a function's body. -/
theorem unwind_run {callers : List Fr} {cs c0 : List Frame} (hR : HR P φ h w) (hF : FrR P φ fr g) (hC : FrsR P φ callers cs) (hm : fr.mode = .ret) : OutR P c0 φ ⟨fr, callers, h⟩ g cs w (unwindA P ⟨fr, callers, h⟩) := by
  have hgm : g.mode = .returning := by
    have := hF.mode
    rw [hm] at this
    cases hq : g.mode <;> rw [hq] at this <;> first | rfl | (cases this)
  have hd := hF.defers
  unfold unwindA
  simp only
  split
  · rename_i id ds hds
    rw [hds] at hd
    generalize hgd : g.defers = gd at hd
    cases hd with
    | @mark _ b _ r hφ ht =>
      split
      · rename_i ser hid
        rw [T.setK_eq]
        obtain ⟨b', e1, e2⟩ := hR.blk _ _ hid
        rw [hφ, Option.some.injEq, Prod.mk.injEq] at e1
        obtain ⟨rfl, _⟩ := e1
        have u : Upd h w φ id h.next (putO w b (.deferred none)) φ := Upd.same hR hid (by simp [putO]) (fun y hy kk => putO_ne (fun c => kk 0 0 0 (by rw [c]; exact hφ))) rfl rfl rfl
        have hrun : (Instr.takeDeferred b).run P w = .ok [] (putO w b (.deferred none)) := by
          simp [Instr.takeDeferred, getObj, setObj, Sem.run, e2, Bind.bind, Sem.bind, Pure.pure, putO]
        have hst := step_collected (P := P) (fr := g) (cs := cs ++ c0) (w := w) (w' := putO w b (.deferred none)) (d := { target := .collected b, args := #[] }) (r := b) (ds := r) (calls := [])
          (by rw [hgm]; simp) hgd rfl hrun
        refine ⟨_, cs, _, φ, .one hst, hR.update u fun x hx => (by cases hx), ⟨hF.fn, hF.env, hF.size, hF.todo, ?_, hF.mode, hF.kind, hF.round⟩, hC,
          Adv.update hR u (.inr ⟨_, hid, fun _ _ _ _ _ _ _ _ kk => (by cases kk)⟩), ?_, ?_⟩
        · exact ht
        · cases callers with
          | nil => rfl
          | cons c l => simp [bot, List.getLast?_cons]
        · cases callers with
          | nil => rfl
          | cons c l => simp [bot, List.getLast?_cons]
      · trivial
  · trivial
  · rename_i hds
    rw [hds] at hd
    have hgd : g.defers = [] := by cases hq : g.defers <;> rw [hq] at hd <;> first | rfl | (cases hd)
    split
    · rename_i fu hfu
      split
      · rename_i vs hvs
        obtain ⟨fn, b, h1, h2, h3, h4, h5, h6⟩ := compFn_spec hfu
        obtain ⟨x, e1, e2⟩ := results_run hR hF.env h3 hvs
        have hlv : g.leaving P w (.returned x) := ⟨hgm, hgd, hF.kind, fn, by rw [hF.fn]; exact h1, e1⟩
        refine backTo_run hR hC e2 (Adv.refl h w φ) (fun c cs1 e => ?_) (fun _ hcl => ⟨g, ?_, hF.fn, hlv⟩)
        · rw [e]; exact .one (step_leave_returned hlv)
        · subst hcl; cases hC; exact Steps.refl _ _
      · trivial
    · trivial

/-- A round is left. -/
theorem leave_run {callers : List Fr} {cs c0 : List Frame} {l : Pos} {b : Nat} {jump : Option C} {jump' : Option Code} (hR : HR P φ h w) (hC : FrsR P φ callers cs) (hφ : φ l 0 = some (b, 0, 0)) (hro : fr.round = some l)
    (hj : ∀ L : Loop, w.heap[b]? = some (.loop L) → PendR P (numT P L.fn) jump jump')
    (hs : ∀ (v : Value) (w' : World) (c : Frame) (cs1 : List Frame), (Instr.endRound b jump').run P w = .ok v w' → Go.step P (lone g (c :: cs1) w) = .next (lone (c.finish v) cs1 w')) :
    OutR P c0 φ ⟨fr, callers, h⟩ g cs w (leaveRound ⟨fr, callers, h⟩ l jump) := by
  unfold leaveRound
  rcases setLoop_run hR hφ (fun _ => true) (jumpState jump) (fun _ => jump) (fun _ h => backTo (.bool (jumpBool jump)) callers h) with
    ⟨why, e⟩ | ⟨p, h', L, st0, e, e1, e2, e3, e4, e5, e6⟩
  · rw [e]; trivial
  · rw [e]
    have hjl := hj L e1
    have hn : jump'.isNone = jumpBool jump := by
      cases jump <;> cases jump' <;> first | rfl | (cases hjl)
    obtain ⟨q1, q2⟩ := e6 { L with state := if jump'.isNone then .ready else .done, pending := jump' } rfl rfl rfl rfl rfl rfl (by
      cases jump <;> cases jump' <;> first | trivial | (cases hjl)) hjl
    have hrun : (Instr.endRound b jump').run P w = .ok (.bool jump'.isNone) (putO w b (.loop { L with state := if jump'.isNone then .ready else .done, pending := jump' })) := by
      unfold Instr.endRound
      rw [Sem.run_bind, run_getLoop e1, Result.andThen_ok, Sem.run_bind, run_setLoop e1, Result.andThen_ok]
      rfl
    refine backTo_run q1 (hC.mono q2.le) (x := .bool jump'.isNone) (by rw [hn]; exact .bool _) q2 (fun c cs1 ee => ?_) (fun hr => ?_)
    · rw [ee]; exact .one (hs _ _ c cs1 hrun)
    · rw [hro] at hr; cases hr
end

section
variable {P : Program} {φ : Phi} {h : Hp} {w : World} {fr : Fr} {g : Frame}

theorem bot_push (x : Fr) (c : Fr) (cs : List Fr) (h h' : Hp) : bot ⟨x, c :: cs, h⟩ = bot ⟨c, cs, h'⟩ := bot_cons c cs x h h'

/-- An operation's result is taken over. -/
theorem apply_run {callers : List Fr} {cs c0 : List Frame} {res : Res} {R : Result Next} (hR : HR P φ h w) (hF : FrR P φ fr g) (hC : FrsR P φ callers cs) (hres : ResR P φ h w res R)
    (hval : ∀ nx x w', NV nx x → R = .ok nx w' → ∀ cs0, Go.step P (lone g cs0 w) = .next (lone (g.finish x) cs0 w'))
    (hent : ∀ f xs, R = .ok (.enter f xs) w → ∀ cs0, Go.step P (lone g cs0 w) = .next (lone (Frame.enter P f xs .normal) (g :: cs0) w))
    (hrnd : ∀ b f tmps assign body, R = .ok (.round b f tmps assign body) w → ∀ cs0, Go.step P (lone g cs0 w) = .next (lone (Frame.round b f tmps assign body .normal) (g :: cs0) w)) :
    OutR P c0 φ ⟨fr, callers, h⟩ g cs w (apply P ⟨fr, callers, h⟩ res) := by
  unfold apply
  cases res with
  | val v h' =>
    obtain ⟨nx, x, w', φ', rfl, hn, hR', hA, hv⟩ := hres
    simp only
    rcases give_run (fun fr => Out.next ⟨fr, callers, h'⟩) (hF.mono hA.le) hv with ⟨why, e⟩ | ⟨fr', e, e1, e2, e3⟩
    · rw [e]; trivial
    · rw [e]
      refine ⟨g.finish x, cs, w', φ', .one (hval nx x w' hn rfl _), hR', e1, hC.mono hA.le, hA, ?_, ?_⟩
      · cases callers with
        | nil => exact e2
        | cons c l => simp [bot, List.getLast?_cons]
      · cases callers with
        | nil => exact e3
        | cons c l => simp [bot, List.getLast?_cons]
  | enter f args h' =>
    obtain ⟨rfl, xs, fn, c, rfl, h1, h2, h3⟩ := hres
    simp only
    split
    · rename_i fr' hb
      obtain ⟨q1, q2, q3, _⟩ := begin_run hb h3
      refine ⟨_, g :: cs, w, φ, .one (hent f xs rfl _), hR, q1, .cons hF hC, Adv.refl h' w φ, ?_, ?_⟩
      · rw [bot_push fr' fr callers h' h']
      · rw [bot_push fr' fr callers h' h']
    · trivial
  | round l args =>
    obtain ⟨b, xs, hφ, hx, rfl⟩ := hres
    simp only
    split
    · rename_i fr' hb
      obtain ⟨f, tmps, assign, body, e1, e2, e3⟩ := round_run hR hφ hx hb
      refine ⟨_, g :: cs, w, φ, .one (hrnd b f tmps assign body e1 _), hR, e2, .cons hF hC, Adv.refl h w φ, ?_, ?_⟩
      · rw [bot_push fr' fr callers h h]
      · rw [bot_push fr' fr callers h h]
    · trivial
  | defer f args => trivial
  | recover => trivial
  | panic v => trivial
  | fail why => trivial
end

end Go.Proofs.Ytmifpiglcphmoaa.Am

namespace Go.Proofs.Ytmifpiglcphmoaa.Am

theorem stepR_scope {P : Program} {b : Frame} {a : Act} {k : List Go.Item} {cs : List Frame} {w : World} {c : Code} :
    Go.step P (lone (b.atR a (.code (.scope c) :: k)) cs w) = .next (lone (b.atR a (.code c :: .inScope c :: k)) cs w) :=
  step_lone_go (by simp [stepG, stepG.exec, Frame.atR])

theorem stepR_inScope {P : Program} {b : Frame} {a : Act} {k : List Go.Item} {cs : List Frame} {w : World} {c : Code} :
    Go.step P (lone (b.atR a (.inScope c :: k)) cs w) = .next (lone (b.atR a k) cs w) :=
  step_lone_go (by simp [stepG, stepG.exec, Frame.atR])

/-- A new loop's record. -/
theorem newDfr_run {P : Program} {φ : Phi} {h : Hp} {w : World} (hR : HR P φ h w) (hm : Room h) (ser ser' : Nat) :
    HR P (φ.put h.next 0 (w.heap.size, 0, 0)) ⟨T.set h.next (some (.dfr ser)) h.heap, h.next.succ, ser', h.lim⟩ (w.alloc (.deferred (some []))) ∧
    Adv h w φ ⟨T.set h.next (some (.dfr ser)) h.heap, h.next.succ, ser', h.lim⟩ (w.alloc (.deferred (some []))) (φ.put h.next 0 (w.heap.size, 0, 0)) := by
  have u := Upd.alloc hR hm (.deferred (some [])) 0
  refine ⟨hR.update u fun x hx => ?_, Adv.update hR u (.inl ⟨Nat.le_refl _, by rw [Pos.num_succ]; omega, hR.next_none hm⟩)⟩
  cases hx
  exact ⟨w.heap.size, Phi.put_same _ _ _ _, alloc_new _ _⟩

theorem newLoop_run {P : Program} {φ : Phi} {h : Hp} {w : World} (hR : HR P φ h w) (hm : Room h) (ser ser' : Nat) {fn : FuncId} {env : T AV} {params : List Pos} {assign body : C} {around : Pos} {L : Loop}
    (h1 : L.state = .ready) (h2 : L.pending = none) (h3 : L.fn = fn) (h4 : EnvR φ env L.tmps) (h5 : numT P fn ≤ L.tmps.size) (h6 : L.params.toList.map Pos.ofNat = params) (h7 : ∀ t ∈ L.params.toList, t < numT P fn)
    (h8 : assign = comp P (numT P fn) L.assign) (h9 : body = comp P (numT P fn) L.body) (h10 : φ around 0 = some (L.defers, 0, 0)) :
    HR P (φ.put h.next 0 (w.heap.size, 0, 0)) ⟨T.set h.next (some (.loop ser .ready none fn env params assign body around)) h.heap, h.next.succ, ser', h.lim⟩ (w.alloc (.loop L)) ∧
    Adv h w φ ⟨T.set h.next (some (.loop ser .ready none fn env params assign body around)) h.heap, h.next.succ, ser', h.lim⟩ (w.alloc (.loop L)) (φ.put h.next 0 (w.heap.size, 0, 0)) := by
  have u := Upd.alloc hR hm (.loop L) 0
  refine ⟨hR.update u fun x hx => ?_, Adv.update hR u (.inl ⟨Nat.le_refl _, by rw [Pos.num_succ]; omega, hR.next_none hm⟩)⟩
  cases hx
  exact ⟨w.heap.size, L, Phi.put_same _ _ _ _, alloc_new _ _, by rw [h1]; trivial, by rw [h2]; trivial, h3, h4.mono u.le, h5, h6, h7, h8, h9, u.le _ _ _ h10⟩

section
variable {P : Program} {φ : Phi} {h : Hp} {w : World} {fr : Fr} {callers : List Fr} {g : Frame} {cs c0 : List Frame}

theorem bot_eq {fr fr' : Fr} (f1 : fr'.fn = fr.fn) (f2 : fr'.round = fr.round) (callers : List Fr) (h h' : Hp) : (bot ⟨fr', callers, h'⟩).fn = (bot ⟨fr, callers, h⟩).fn ∧ (bot ⟨fr', callers, h'⟩).round = (bot ⟨fr, callers, h⟩).round := by
  cases callers with
  | nil => exact ⟨f1, f2⟩
  | cons c l => simp [bot, List.getLast?_cons]

/-- A frame is begun. -/
theorem enter_out {φ0 : Phi} {h0 : Hp} {w0 : World} {fr0 fr' : Fr} {g0 g' : Frame} (hA : Adv h0 w0 φ0 h w φ) (hR : HR P φ h w) (hF : FrR P φ fr g) (hC : FrsR P φ0 callers cs) (f1 : fr.fn = fr0.fn) (f2 : fr.round = fr0.round)
    (hF' : FrR P φ fr' g') (hs : Go.step P (lone g0 (cs ++ c0) w0) = .next (lone g' (g :: (cs ++ c0)) w)) : OutR P c0 φ0 ⟨fr0, callers, h0⟩ g0 cs w0 (.next ⟨fr', fr :: callers, h⟩) := by
  obtain ⟨q1, q2⟩ := bot_eq f1 f2 callers h0 h0
  refine ⟨g', g :: cs, w, φ, .one hs, hR, hF', .cons hF (hC.mono hA.le), hA, ?_, ?_⟩
  · rw [bot_push fr' fr callers h h0]; exact q1
  · rw [bot_push fr' fr callers h h0]; exact q2

theorem FrR.run_mode (hF : FrR P φ fr g) (hm : fr.mode = .run) : g.mode = .run := by
  have := hF.mode
  rw [hm] at this
  cases hgm : g.mode <;> rw [hgm] at this <;> first | rfl | (cases this)

/-- A step of the frame as it stands. -/
theorem step_at (hF : FrR P φ fr g) (hm : fr.mode = .run) {td : List Go.Item} (hg : g.todo = td) {m : Machine} {cs : List Frame} (hs : Go.step P (lone (g.atR ⟨g.tmps, g.defers⟩ td) cs w) = .next m) : Go.step P (lone g cs w) = .next m := by
  have e := frame_run (hF.run_mode hm)
  rw [hg] at e
  rw [e]; exact hs

theorem ret_out (hR : HR P φ h w) (hF : FrR P φ fr g) (hC : FrsR P φ callers cs) (hro : fr.round = none) (hs : ∀ cs0, Go.step P (lone g cs0 w) = .next (lone { g with mode := .returning } cs0 w)) :
    OutR P c0 φ ⟨fr, callers, h⟩ g cs w (.next ⟨{ fr with mode := .ret }, callers, h⟩) :=
  OutR.plain (g' := { g with mode := .returning }) hR (FrR.mk (fr := { fr with mode := .ret }) (g := { g with mode := .returning }) hF.fn hF.env hF.size hF.todo hF.defers trivial hF.kind hF.round) hC (.one (hs _)) rfl rfl

theorem wanted_eq {n : Nat} {ops : Array Oper} {o : Oper} {env : T AV} {tmps : Array Value} {bef : Nat} (hE : EnvR φ env tmps) (hk : (compOper P n ops bef o).ok = true) :
    Region.wanted o (yielded ops tmps) = wantedA (compOper P n ops bef o) env := by
  unfold wantedA Region.wanted
  simp only [compOper, Bool.and_eq_true] at hk ⊢
  cases hgd : o.guard with
  | none => rfl
  | some x =>
    obtain ⟨j, want⟩ := x
    have hg := hk.2
    rw [hgd] at hg
    simp only [okGuard] at hg
    split at hg
    · rename_i oj hj
      cases hd : oj.dst with
      | none => rw [hd] at hg; cases hg
      | some d =>
        simp only [Option.map_some, hj, Option.bind_some, hd, Option.getD_some, yielded]
        have hr := hE d
        rw [Array.getD_eq_getD_getElem?] at hr
        unfold ev at hr
        simp only at hr
        cases hv : T.get (Pos.ofNat d) env with
        | none =>
          rw [hv] at hr
          simp only at hr
          cases hx : tmps[d]? with
          | none => rfl
          | some x => rw [hx] at hr; cases hr; rfl
        | some v =>
          rw [hv] at hr
          simp only at hr
          cases hx : tmps[d]? with
          | none => rw [hx] at hr; cases hr; rfl
          | some x =>
            rw [hx] at hr
            simp only [Option.getD_some] at hr
            cases hr <;> first | rfl | skip
            rename_i b
            cases b <;> cases want <;> rfl
    · cases hg
end
end Go.Proofs.Ytmifpiglcphmoaa.Am

namespace Go.Proofs.Ytmifpiglcphmoaa.Am

section
variable {P : Program} {φ : Phi} {h : Hp} {w : World} {fr : Fr} {callers : List Fr} {g : Frame} {cs c0 : List Frame}

theorem cond_run {c : Operand} {c' : Opd} {a : Act} (hR : HR P φ h w) {env : T AV} (hE : EnvR φ env a.tmps) (hc : compOpd P c = some c') {b : Bool} (hv : ev env c' = .bool b) : a.eval c = .bool b := by
  have := opd_rel hR hE hc
  rw [hv] at this
  cases hx : a.eval c <;> rw [hx] at this <;> cases this
  rfl

/-- The operations of a region that does not draw. -/
theorem ops_run (hR : HR P φ h w) (hz : h.lim = 0) (hF : FrR P φ fr g) (hC : FrsR P φ callers cs) (hm : fr.mode = .run) {l : List O} {k : List Item} (ht : fr.todo = .ops l :: k) (rec : St → Out) :
    OutR P c0 φ ⟨fr, callers, h⟩ g cs w (step P rec ⟨fr, callers, h⟩) := by
  obtain ⟨fn, env, todo, defers, mode, dk, round⟩ := fr
  simp only at hm ht
  subst hm
  subst ht
  have htd := hF.todo
  generalize hg : g.todo = gt at htd
  cases htd with
  | @cons x1 y l1 r hx htr =>
    cases y <;> first | (cases hx; done) | skip
    rename_i ops idx
    obtain ⟨h1, h2⟩ := hx
    have hm : (⟨fn, env, .ops l :: k, defers, .run, dk, round⟩ : Fr).mode = .run := rfl
    cases idx with
    | nil =>
      rw [List.map_nil] at h1
      subst h1
      exact OutR.to hR hF hC rfl hg htr (fun b a cs _ _ => stepR_region_end)
    | cons i idx =>
      rw [List.map_cons] at h1
      change l = compOper P (numT P fn) ops 0 (ops.getD i default) :: idx.map (fun i => compOper P (numT P fn) ops 0 (ops.getD i default)) at h1
      subst h1
      have hi := h2 i (by simp)
      have hoi : ops[i]? = some (ops.getD i default) := by rw [Array.getD_eq_getD_getElem?, Array.getElem?_eq_getElem hi]; rfl
      generalize hoo : ops.getD i default = o at *
      unfold step
      simp only
      cases hok : (compOper P (numT P fn) ops 0 o).ok with
      | false => trivial
      | true =>
        simp only [Bool.not_true, cond_false]
        have hw := wanted_eq hF.env hok
        cases hwa : wantedA (compOper P (numT P fn) ops 0 o) env with
        | false =>
          rw [hwa] at hw
          rw [cond_false]
          rcases give_run (fun fr => Out.next ⟨fr, callers, h⟩) hF (v := .undef) (x := Go.undef) Rel.undef with ⟨why, e⟩ | ⟨fr', e, e1, e2, e3⟩
          · rw [e]; trivial
          · rw [e]
            have hfin : g.finish Go.undef = g.atR (Act.put ⟨g.tmps, g.defers⟩ ((ops[i]?).bind (·.dst)) Go.undef) (.inRegion ops idx :: r) := by
              rw [← Frame.finish_atR, ← hg, ← frame_run (hF.run_mode hm)]
            refine OutR.plain hR e1 hC (.one ?_) e2 e3
            rw [hfin]
            refine step_at hF hm hg (stepR_op_skip ?_)
            rw [hoi]; exact hw
        | true =>
          rw [hwa] at hw
          rw [cond_true]
          cases hco : compAOp P o.op with
          | none =>
            have : (compOper P (numT P fn) ops 0 o).op = .bad (opWhy o) := by simp [compOper, hco]
            rw [this]
            trivial
          | some ao =>
            have : (compOper P (numT P fn) ops 0 o).op = ao := by simp [compOper, hco]
            rw [this]
            have hres := evalOp_run (a := ⟨g.tmps, g.defers⟩) hR hF.env (.inl hz) hco
            have hnd : ∀ c, o.op ≠ .defer c := fun c hc => by rw [hc] at hco; simp [compAOp] at hco
            have hst : ∀ cs0, stepG P true { frame := g, callers := cs0, status := .running, dying := none } w = stepG.apply P true g cs0 none (execOp (Act.mk g.tmps g.defers).eval o) w := by
              intro cs0
              have e := frame_run (hF.run_mode hm)
              rw [hg] at e
              rw [e]
              have q := stepGR_op (P := P) (b := g) (a := ⟨g.tmps, g.defers⟩) (k := r) (cs := cs0) (w := w) (rest := idx) hoi hw
              rw [Oper.semAt_eq _ _ _ hnd] at q
              exact q
            have hkd : (match g.todo with | .call _ true _ _ :: _ => CallKind.wrapped | _ => CallKind.normal) = .normal := by rw [hg]
            refine apply_run hR hF hC hres ?_ ?_ ?_
            · intro nx x w' hn he cs0
              refine step_lone_go ?_
              rw [hst]
              rcases hn with rfl | ⟨rfl, rfl⟩
              · simp [stepG.apply, Sem.runT_eq, he, GStep.bare_after]
              · simp [stepG.apply, Sem.runT_eq, he, GStep.bare_after]
            · intro f xs he cs0
              refine step_lone_go ?_
              rw [hst]
              simp [stepG.apply, Sem.runT_eq, he, GStep.bare_after, hg]
            · intro b f tmps assign body he cs0
              refine step_lone_go ?_
              rw [hst]
              simp [stepG.apply, Sem.runT_eq, he, GStep.bare_after]
end
end Go.Proofs.Ytmifpiglcphmoaa.Am

namespace Go.Proofs.Ytmifpiglcphmoaa.Am

/-- The step where what is ranged over is another loop's yield. -/
theorem stepR_rangeFunc_round {P : Program} {b : Frame} {a : Act} {k : List Go.Item} {cs : List Frame} {w : World} {g : Operand} {ps : Array Tmp} {assign body : Code} {l : Nat} {mark : List Deferred} {w₁ w₁' w₂ : World} {d : Deferred}
    {l' : Nat} {f : FuncId} {tmps : Array Value} {assign' body' : Code}
    (he : (Instr.enterLoop b.fn a.tmps ps assign body b.roundOf).run P w = .ok (l, mark) w₁)
    (hres : (resolve a.eval (rangeCall g l) 0).run P w₁ = .ok d w₁') (hinv : (invoke d.target d.args).run P w₁' = .ok (.round l' f tmps assign' body') w₂) :
    Go.step P (lone (b.atR a (.code (.rangeFunc g ps assign body) :: k)) cs w) =
      .next (lone (Frame.round l' f tmps assign' body' .normal) (b.atR { a with defers := mark ++ a.defers } (.inRangeFunc l :: k) :: cs) w₂) :=
  step_lone_go (by
    have hev := Frame.eval_atR b { a with defers := mark ++ a.defers } (.inRangeFunc l :: k)
    simp only [Frame.atR] at hev
    have hres' : Sem.run P (resolve ({ tmps := a.tmps, defers := mark ++ a.defers } : Act).eval { callee := .value g, args := #[.const (.func (.yield l) #[] #[])], argTypes := #[] } 0) w₁ = .ok d w₁' := hres
    simp [stepG, stepG.exec, Frame.atR, Sem.runT_eq, he, GStep.bare_after, stepG.apply, hev, Sem.run_bind, hres', hinv, Result.andThen])

section
variable {P : Program} {φ : Phi} {h : Hp} {w : World} {fr : Fr} {callers : List Fr} {g : Frame} {cs c0 : List Frame}

theorem roundOf_none (hF : FrR P φ fr g) (hr : fr.round = none) : g.roundOf = none := by
  have := hF.round
  rw [hr] at this
  cases hq : g.roundOf <;> rw [hq] at this <;> first | rfl | (cases this)

theorem roundOf_some (hF : FrR P φ fr g) {l : Pos} (hr : fr.round = some l) : ∃ b, g.roundOf = some b ∧ φ l 0 = some (b, 0, 0) := by
  have := hF.round
  rw [hr] at this
  cases hq : g.roundOf <;> rw [hq] at this <;> first | exact ⟨_, rfl, this⟩ | (cases this)

/-- A range over a function begins. -/
theorem range_run (hR : HR P φ h w) (hz : h.lim = 0) (hF : FrR P φ fr g) (hC : FrsR P φ callers cs) (hm : fr.mode = .run) {f : Operand} {f' : Opd} {ps : Array Tmp} {assign body : Code} {k : List Item} {k' : List Go.Item}
    (hg : g.todo = .code (.rangeFunc f ps assign body) :: k') (hk : ItemsR P φ (numT P fr.fn) k k') (hf : compOpd P f = some f') (hps : ∀ t ∈ ps.toList, t < numT P fr.fn)
    {φ1 : Phi} {h1 : Hp} {w1 : World} {around : Pos} {dfr : Nat} {mark : List Deferred} {defers : List AD} (hR1 : HR P φ1 h1 w1) (hA1 : Adv h w φ h1 w1 φ1) (har : φ1 around 0 = some (dfr, 0, 0)) (hd : DefsR φ1 defers (mark ++ g.defers))
    (hrun : (Instr.enterLoop g.fn g.tmps ps assign body g.roundOf).run P w = .ok (w1.heap.size, mark) (w1.alloc (.loop { state := .ready, pending := none, fn := g.fn, tmps := g.tmps, params := ps, assign := assign, body := body, defers := dfr }))) :
    OutR P c0 φ ⟨fr, callers, h⟩ g cs w
      (newK h1 (fun ser => .loop ser .ready none fr.fn fr.env (ps.toList.map Pos.ofNat) (comp P (numT P fr.fn) assign) (comp P (numT P fr.fn) body) around) fun l h =>
            let s : St := ⟨{ fr with todo := .inRange l :: k, defers := defers }, callers, h⟩
            match ev fr.env f' with
            | .fn (.func g) first captured => apply P s (enterA P h g (first ++ (.yield l :: captured)))
            | .yield l' => apply P s (.round l' [.yield l])
            | _ => .fail "rangeFunc what") := by
  rw [newK_eq]
  simp only
  obtain ⟨q1, q2⟩ := newLoop_run (fn := fr.fn) (env := fr.env) (around := around) hR1 (.inl (hA1.lim.trans hz)) h1.ser (Nat.succ h1.ser)
    (L := { state := .ready, pending := none, fn := g.fn, tmps := g.tmps, params := ps, assign := assign, body := body, defers := dfr }) rfl rfl hF.fn (hF.env.mono hA1.le) hF.size rfl hps rfl rfl har
  generalize hw2 : w1.alloc _ = w2 at *
  generalize hφ2 : φ1.put h1.next 0 (w1.heap.size, 0, 0) = φ2 at *
  have hl : φ2 h1.next 0 = some (w1.heap.size, 0, 0) := by rw [← hφ2]; exact Phi.put_same _ _ _ _
  generalize hh2 : (⟨_, _, _, _⟩ : Hp) = h2 at *
  have hA : Adv h w φ h2 w2 φ2 := hA1.trans hR q2 (Room.was0 hz)
  have hF2 : FrR P φ2 { fr with todo := .inRange h1.next :: k, defers := defers } (g.atR ⟨g.tmps, mark ++ g.defers⟩ (.inRangeFunc w1.heap.size :: k')) :=
    ⟨hF.fn, hF.env.mono hA.le, hF.size, .cons hl (hk.mono hA.le), hd.mono q2.le, by show ModeR fr.mode .run; rw [hm]; trivial, hF.kind, hF.round.mono hA.le⟩
  have rf : Rel φ2 (ev fr.env f') ((Act.mk g.tmps g.defers).eval f) := opd_rel (P := P) (h := h2) (w := w2) q1 (a := ⟨g.tmps, g.defers⟩) (hF.env.mono hA.le) hf
  generalize hX : (Act.mk g.tmps g.defers).eval f = X at rf
  split
  · rename_i gg first captured e
    rw [e] at rf
    cases rf with
    | @fn _ _ _ X Y k1 k2 =>
    have hres : (resolve (Act.mk g.tmps g.defers).eval (rangeCall f w1.heap.size) 0).run P w2 = .ok { target := .fn (.func gg) Y, args := X ++ #[Value.func (.yield w1.heap.size) #[] #[]] } w2 := by
      simp only [resolve, hX, rangeCall, List.map_toArray, List.map_cons, List.map_nil]
      rfl
    have hxs : RelL φ2 (first ++ (.yield h1.next :: captured)) ((X ++ #[Value.func (.yield w1.heap.size) #[] #[]]) ++ Y).toList := by
      simp only [Array.toList_append, List.append_assoc]
      exact k1.append (.cons (.yield hl) k2)
    have hen := enter_run (P := P) (φ := φ2) (h := h2) (w := w2) (f := gg) hxs
    unfold apply
    cases hent : enterA P h2 gg (first ++ (.yield h1.next :: captured)) with
    | enter f3 args3 h3 =>
      rw [hent] at hen
      obtain ⟨rfl, xs, fn3, c3, r1, r2, r3, r4⟩ := hen
      simp only
      split
      · rename_i fr' hb
        obtain ⟨z1, z2, z3, _⟩ := begin_run hb r4
        refine enter_out hA q1 hF2 hC rfl rfl z1 ?_
        exact step_at hF hm hg (stepR_rangeFunc hrun hres r1)
      · trivial
    | val v h' => unfold enterA at hent; split at hent <;> (try split at hent) <;> first | (cases hent; done) | (cases hq : (Func.name _ == "runtime.NumGoroutine") <;> rw [hq] at hent <;> cases hent)
    | round => unfold enterA at hent; split at hent <;> (try split at hent) <;> first | (cases hent; done) | (cases hq : (Func.name _ == "runtime.NumGoroutine") <;> rw [hq] at hent <;> cases hent)
    | defer => trivial
    | recover => trivial
    | panic => trivial
    | fail => trivial
  · rename_i l' e
    rw [e] at rf
    cases rf with
    | @yield _ b' k1 =>
    have hres : (resolve (Act.mk g.tmps g.defers).eval (rangeCall f w1.heap.size) 0).run P w2 = .ok { target := .fn (.yield b') #[], args := #[] ++ #[Value.func (.yield w1.heap.size) #[] #[]] } w2 := by
      simp only [resolve, hX, rangeCall, List.map_toArray, List.map_cons, List.map_nil]
      rfl
    unfold apply
    simp only
    split
    · rename_i fr' hb
      obtain ⟨f4, tmps4, assign4, body4, e1, e2, e3⟩ := round_run (xs := #[] ++ #[Value.func (.yield w1.heap.size) #[] #[]]) q1 k1 (.cons (.yield hl) .nil) hb
      refine enter_out hA q1 hF2 hC rfl rfl e2 ?_
      exact step_at hF hm hg (stepR_rangeFunc_round hrun hres e1)
    · trivial
  · trivial
end
end Go.Proofs.Ytmifpiglcphmoaa.Am
