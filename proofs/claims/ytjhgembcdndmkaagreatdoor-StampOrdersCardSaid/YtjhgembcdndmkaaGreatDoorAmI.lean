import Derived.Test.YtjhgembcdndmkaaGreatDoorAmH
/- THE ABSTRACT MACHINE, part I: a machine over values without block numbers, and the proof that the model's machine does what it does. No condition. -/
set_option linter.unusedSimpArgs false
set_option linter.unusedVariables false
namespace Go.Proofs.YtjhgembcdndmkaaGreatDoor.Am
open Go.RowKit
structure XS where
  n : Nat
  X : List XB
noncomputable def XS.add (b : Pos) (s : XS) (l : List AV) : XS := ⟨s.n + 1, ⟨adv b s.n, 0, true, l⟩ :: s.X⟩
noncomputable def XS.adds (b : Pos) (s : XS) : List (List AV) → XS
  | [] => s
  | l :: ls => XS.adds b (s.add b l) ls
structure XI (b : Pos) (W : List Pos) (h0 : Hp) (s : XS) (h : Hp) : Prop where
  next : h.next = adv b s.n
  all : AllH s.X h
  apart : s.X.Pairwise fun x y => x.id ≠ y.id
  own : ∀ x ∈ s.X, x.own = true → x.id ∈ W ∨ b.num ≤ x.id.num
  only : Only W h0 h
  base : h0.next = b
section
variable {b : Pos} {W : List Pos} {h0 : Hp} {s : XS} {h h' : Hp}
theorem XI.old (v : XI b W h0 s h) {x : XB} (m : x ∈ s.X) : x.id.num < h.next.num := (v.all x m).old
theorem XI.add (v : XI b W h0 s h) {l : List AV} (g : Gro h' h.next 0 l) (o : Only [] h h') (hn : h'.next = h.next.succ) : XI b W h0 (s.add b l) h' where
  next := by rw [hn, v.next]; rfl
  all x m := by
    rcases List.mem_cons.1 m with e | m
    · subst e; rw [← v.next]; exact .of_gro g _
    · exact (v.all x m).only o (by simp)
  apart := List.pairwise_cons.2 ⟨fun y m e => by have := v.old m; rw [← e, ← v.next] at this; exact absurd this (Nat.lt_irrefl _), v.apart⟩
  own x m hx := by
    rcases List.mem_cons.1 m with e | m
    · subst e; right; show _ ≤ (adv b s.n).num; rw [adv_num]; omega
    · exact v.own x m hx
  only := v.only.trans (o.mono (by simp))
  base := v.base
theorem XI.ins (v : XI b W h0 s h) {x : XB} {ser hi m : Nat} {fz : Bool} {c : Cells} (hw : c.wf) (hl : c.toL = x.l) (h1 : b.num ≤ x.id.num) (h2 : x.id.num < h.next.num) (h3 : ∀ y ∈ s.X, y.id ≠ x.id) :
    XI b W h0 ⟨s.n, x :: s.X⟩ ⟨T.set x.id (some (.cells ser c 0 hi x.g m false fz)) h.heap, h.next, h.ser, h.lim⟩ where
  next := v.next
  all y k := by
    rcases List.mem_cons.1 k with e | k
    · subst e; exact ⟨h2, ser, c, hi, m, false, fz, by show T.get _ (T.set _ _ _) = _; rw [T.get_set, if_pos rfl], hw, hl, fun _ => rfl⟩
    · exact (v.all y k).only (S := [x.id]) ⟨Nat.le_refl _, rfl, fun j _ q => by show T.get j (T.set _ _ _) = _; rw [T.get_set, if_neg (by simpa using q)]⟩ (by simpa using h3 y k)
  apart := List.pairwise_cons.2 ⟨fun y k e => h3 y k e.symm, v.apart⟩
  own y k hy := by
    rcases List.mem_cons.1 k with e | k
    · subst e; exact .inr h1
    · exact v.own y k hy
  only := ⟨v.only.next, v.only.lim, fun j q1 q2 => by
    show T.get j (T.set _ _ _) = _
    rw [T.get_set, if_neg fun e => by subst e; rw [v.base] at q1; omega]
    exact v.only.same j q1 q2⟩
  base := v.base
end
open Classical in
noncomputable def unstr (v : AV) : Option (List UInt8) := if q : ∃ s, v = strOf s then some q.choose else none
theorem unstr_strOf (s : List UInt8) : unstr (strOf s) = some s := by
  unfold unstr
  have q : ∃ u, strOf s = strOf u := ⟨s, rfl⟩
  rw [dif_pos q]
  exact congrArg some (strOf_inj q.choose_spec).symm
theorem unstr_ok {v : AV} {s : List UInt8} (e : unstr v = some s) : v = strOf s := by
  unfold unstr at e
  split at e
  · rename_i q
    cases e
    exact q.choose_spec
  · cases e
open Classical in
noncomputable def unbyt (l : List AV) : Option (List UInt8) := if q : ∃ s, l = byt s then some q.choose else none
theorem unbyt_ok {l : List AV} {s : List UInt8} (e : unbyt l = some s) : l = byt s := by
  unfold unbyt at e
  split at e
  · rename_i q
    cases e
    exact q.choose_spec
  · cases e
section
variable {P : Program} {X : List XB} {env : T AV} {h : Hp}
noncomputable def xld (X : List XB) (env : T AV) : AOp → Option AV
  | .load1 a => match ev env a with
    | .ptr id g off => (xget X id g).bind fun l => l[off]?
    | _ => none
  | .loadN n a => match ev env a with
    | .ptr id g off => (xget X id g).bind fun l => if off + n ≤ l.length then some (.agg ((l.drop off).take n)) else none
    | _ => none
  | .bytesStr x => match ev env x with
    | .nilSl => some (.str 0 0)
    | .sl id g off n _ _ es => if es = 1 then (xget X id g).bind fun l => if off + n ≤ l.length then (unbyt ((l.drop off).take n)).map strOf else none else none
    | _ => none
  | .eqPtr neg x y => match ev env x, ev env y with
    | .ptr _ _ _, .nilPtr => some (.bool neg)
    | .nilPtr, .nilPtr => some (.bool (!neg))
    | _, _ => none
  | .eqIfc neg nilOk x y => if nilOk = true then (match ev env x, ev env y with
    | .ifc _ _, .nilIfc => some (.bool neg)
    | .nilIfc, .nilIfc => some (.bool (!neg))
    | _, _ => none) else none
  | _ => none
theorem xld_ok (hX : AllH X h) {o : AOp} {v : AV} (e : xld X env o = some v) : evalOp P o env h = .val v h := by
  cases o <;> first | (change none = some v at e; cases e; done) | skip
  case load1 a =>
    simp only [xld] at e
    split at e
    · rename_i id g off ha
      cases q : xget X id g with
      | none => rw [q] at e; cases e
      | some l =>
        rw [q, Option.bind_some] at e
        have hlt : off < l.length := (List.getElem?_eq_some_iff.1 e).1
        have r := (xget_part hX q (off := off) (n := 1) (by omega)).one 0 (by simp; omega)
        rw [qev_load1, ha]
        simp only
        rw [show off = off + 0 from rfl, r, List.getElem?_take_of_lt (by omega), List.getElem?_drop, Nat.add_zero, e]
        rfl
    · cases e
  case loadN n a =>
    simp only [xld] at e
    split at e
    · rename_i id g off ha
      cases q : xget X id g with
      | none => rw [q] at e; cases e
      | some l =>
        rw [q, Option.bind_some] at e
        split at e
        · rename_i hn
          cases e
          obtain ⟨c, c1, _, c3⟩ := (xget_part hX q hn).all
          rw [List.length_take, List.length_drop, Nat.min_eq_left (by omega)] at c1
          rw [qev_loadN P ha c1, c3]
        · cases e
    · cases e
  case bytesStr x =>
    simp only [xld] at e
    split at e
    · rename_i ha
      cases e
      exact SlN.str (b := []) (P := P) (.nil : SlN h 1 .nilSl 0 (byt [])) env x ha
    · rename_i id g off n cap ex es ha
      split at e
      · rename_i he
        subst he
        cases q : xget X id g with
        | none => rw [q] at e; cases e
        | some l =>
          rw [q, Option.bind_some] at e
          split at e
          · rename_i hn
            cases u : unbyt ((l.drop off).take n) with
            | none => rw [u] at e; cases e
            | some s =>
              rw [u] at e
              cases e
              have r := xget_part hX q hn
              have u := unbyt_ok u
              rw [u] at r
              have hl : (byt s).length = n * 1 := by rw [← u, List.length_take, List.length_drop]; omega
              exact SlN.str (P := P) (.mk (cap := cap) (ex := ex) hl r : SlN h 1 (.sl id g off n cap ex 1) n (byt s)) env x ha
          · cases e
      · cases e
    · cases e
  case eqPtr neg x y =>
    simp only [xld] at e
    split at e
    · rename_i hx hy
      cases e
      rw [qev_eqPtr, hx, hy, sameP_nil]
      cases neg <;> rfl
    · rename_i hx hy
      cases e
      rw [qev_eqPtr, hx, hy]
      cases neg <;> rfl
    · cases e
  case eqIfc neg nilOk x y =>
    simp only [xld] at e
    split at e
    · rename_i hn
      subst hn
      have q : evalOp P (.eqIfc neg true x y) env h = opt h "eqIfc" (match sameI P h true (ev env x) (ev env y) with
        | some b => notIf neg b
        | none => none) := rfl
      split at e
      · rename_i hx hy
        cases e
        rw [q, hx, hy]
        cases neg <;> rfl
      · rename_i hx hy
        cases e
        rw [q, hx, hy]
        cases neg <;> rfl
      · cases e
    · cases e
noncomputable def xal (env : T AV) (id : Pos) : AOp → Option (AV × List AV)
  | .new l => some (.ptr id 0 0, l)
  | .box x => some (.ptr id 0 0, (ev env x).cells)
  | .buildSl n es zero parts => if 0 < es then (fillA env (replA n zero []) parts).map fun l => (.sl id 0 0 n n true es, l) else none
  | .strBytes x => match unstr (ev env x) with
    | some u => if u.length ≤ 1000000 then some (.sl id 0 0 u.length u.length false 1, byt u) else none
    | none => none
  | .mkSl es bytes zero l c => match ev env l, ev env c with
    | .int _ a, .int _ d => if 0 ≤ a ∧ a ≤ d ∧ d ≤ 1073741824 ∧ bytes ≤ 4096 ∧ 0 < es then some (.sl id 0 0 a.toNat d.toNat true es, replA d.toNat zero []) else none
    | _, _ => none
  | _ => none
theorem newCells_at (h : Hp) (c : Cells) (k : Pos → Hp → Res) : newCells h c k = k h.next ⟨T.set h.next (some (.cells 0 c 0 0 0 0 false false)) h.heap, h.next.succ, Nat.succ h.ser, h.lim⟩ := by
  unfold newCells; rw [newK_newH]; rfl
theorem xal_ok {o : AOp} {id : Pos} {v : AV} {l : List AV} (e : xal env id o = some (v, l)) : ∃ c fz, c.wf ∧ c.toL = l ∧ ∀ h : Hp, h.next = id → evalOp P o env h = .val v ⟨T.set id (some (.cells 0 c 0 0 0 0 false fz)) h.heap, id.succ, Nat.succ h.ser, h.lim⟩ := by
  cases o <;> first | (change none = some (v, l) at e; cases e; done) | skip
  case new cs =>
    cases e
    refine ⟨Cells.ofL l, false, (Cells.ofL_spec _).1, (Cells.ofL_spec _).2.1, fun h hn => ?_⟩
    subst hn
    exact newCells_at h _ _
  case box x =>
    cases e
    refine ⟨Cells.ofL (ev env x).cells, false, (Cells.ofL_spec _).1, (Cells.ofL_spec _).2.1, fun h hn => ?_⟩
    subst hn
    exact newCells_at h _ _
  case buildSl n es zero parts =>
    simp only [xal] at e
    split at e
    · rename_i hes
      cases q : fillA env (replA n zero []) parts with
      | none => rw [q] at e; cases e
      | some L =>
        rw [q] at e
        cases e
        refine ⟨Cells.ofL l, false, (Cells.ofL_spec _).1, (Cells.ofL_spec _).2.1, fun h hn => ?_⟩
        subst hn
        have e : evalOp P (.buildSl n es zero parts) env h = (match fillA env (replA n zero []) parts with
          | some l => bif Nat.blt 0 es then newCells h (Cells.ofL l) fun id h => .val (.sl id 0 0 n n true es) h else .fail "buildSl"
          | none => .fail "buildSl") := rfl
        rw [e, q]
        show (bif Nat.blt 0 es then newCells h (Cells.ofL l) fun id h => Res.val (.sl id 0 0 n n true es) h else .fail "buildSl") = _
        rw [blt_iff.2 hes, cond_true, newCells_at]
    · cases e
  case mkSl es bytes zero lx cx =>
    simp only [xal] at e
    split at e
    · rename_i k1 a k2 d hl hc
      split at e
      · rename_i q
        obtain ⟨q1, q2, q3, q4, q5⟩ := q
        cases e
        obtain ⟨a, rfl⟩ := Int.eq_ofNat_of_zero_le q1
        obtain ⟨d, rfl⟩ := Int.eq_ofNat_of_zero_le (show (0 : Int) ≤ d by omega)
        refine ⟨Cells.ofL (replA d zero []), false, (Cells.ofL_spec _).1, (Cells.ofL_spec _).2.1, fun h hn => ?_⟩
        subst hn
        have e : evalOp P (.mkSl es bytes zero lx cx) env h = (match ev env lx, ev env cx with
          | .int _ (.ofNat l), .int _ (.ofNat c) =>
            bif Nat.ble l c && okSize c bytes && Nat.blt 0 es then newCells h (Cells.ofL (replA c zero [])) fun id h => .val (.sl id 0 0 l c true es) h else .fail "mkSl size"
          | _, _ => .fail "mkSl") := rfl
        rw [e, hl, hc]
        show (bif Nat.ble a d && okSize d bytes && Nat.blt 0 es then newCells h (Cells.ofL (replA d zero [])) fun id h => Res.val (.sl id 0 0 a d true es) h else .fail "mkSl size") = _
        rw [ble_iff.2 (show a ≤ d by omega), okSize_small (show d ≤ 1073741824 by omega) q4, blt_iff.2 q5]
        show newCells h (Cells.ofL (replA d zero [])) _ = _
        rw [newCells_at]
        rfl
      · cases e
    · cases e
  case strBytes x =>
    simp only [xal] at e
    split at e
    · rename_i u hu
      split at e
      · rename_i hb
        cases e
        refine ⟨.byt u.length (pack u), true, ?_, byt_toL u, fun h hn => ?_⟩
        · exact pack_lt u
        · subst hn
          have e : evalOp P (.strBytes x) env h = (match ev env x with
            | .str n v => bif Nat.ble n 1073741824 then newK h (fun _ => .cells 0 (.byt n v) 0 0 0 0 false true) fun id h => .val (.sl id 0 0 n n false 1) h else .fail "strBytes"
            | _ => .fail "strBytes") := rfl
          rw [e, unstr_ok hu]
          show (bif Nat.ble u.length 1073741824 then newK h (fun _ => .cells 0 (.byt u.length (pack u)) 0 0 0 0 false true) fun id h => Res.val (.sl id 0 0 u.length u.length false 1) h else .fail "strBytes") = _
          rw [ble_iff.2 (show u.length ≤ 1073741824 by omega), cond_true, newK_newH]
          rfl
      · cases e
    · cases e
end
end Go.Proofs.YtjhgembcdndmkaaGreatDoor.Am

namespace Go.Proofs.YtjhgembcdndmkaaGreatDoor.Am
open Go.RowKit
theorem appendN_newS (P : Program) {h : Hp} {v : AV} {es n : Nat} {l : List AV} {bytes : Nat} (hv : SlN h es v n l) (h0 : n ≠ 0) (hes : 0 < es) (ok : okSize n bytes = true) :
    ∃ h', (∀ env s x, (ev env s = .nilSl ∨ ∃ id g off, ev env s = .sl id g off 0 0 true es) → ev env x = v → evalOp P (.append es bytes s x) env h = .val (.sl h.next 0 0 n n false es) h') ∧ Arr h' h.next l ∧ Only [] h h' ∧ h'.next = h.next.succ := by
  cases hv with
  | nil => exact absurd rfl h0
  | emp => exact absurd rfl h0
  | mk hn r =>
    rename_i id g off cap ex
    obtain ⟨c, c1, c2, c3⟩ := r.all
    rw [hn] at c1
    have src : srcCells h es n (.sl id g off n cap ex es) = some c := c1
    refine ⟨newH h fun _ => .cells (noteB bytes) c 0 0 0 0 false false, fun env s x hs hx => ?_, ⟨by rw [newH_next]; omega, _, _, _, newH_get _ _, c2, c3⟩, newH_only _ _ _, rfl⟩
    show appendA h es bytes (ev env s) (ev env x) = _
    rw [hx]
    unfold appendA
    simp only [lenA, beq_false.2 h0, cond_false, src]
    rcases hs with hs | ⟨id', g', off', hs⟩
    · rw [hs]
      unfold appendSeg
      simp only [ok, blt_iff.2 hes, Bool.and_true, cond_true]
      unfold newCellsN
      rw [newK_newH]
    · rw [hs]
      unfold appendSeg
      simp only [natK_eq, show Nat.add 0 n = n from Nat.zero_add _, ok, beq_iff.2 (rfl : es = es), blt_iff.2 hes, Bool.and_true, Bool.and_self, Bool.not_true, cond_false, cond_true,
        ble_false.2 (show 0 < n by omega), show Nat.mul 0 es = 0 from Nat.zero_mul _, show readN h id' g' off' 0 = some (.lst 0 []) from rfl]
      unfold newCellsN
      rw [newK_newH]
      have ea : (Cells.lst 0 []).app c = c := by unfold Cells.app; rfl
      rw [ea]
theorem append_overS (P : Program) {h : Hp} {v : AV} {id : Pos} {g k cap : Nat} {L l2 : List AV} {bytes : Nat} (ha : Gro h id g L) (hv : SlR h v l2) (hk : cap < k + l2.length) (hL : k ≤ L.length) (h0 : l2 ≠ []) (hl : k + l2.length ≤ 1073741824) (hb : bytes ≤ 4096) :
    ∃ h', (∀ env s x, ev env s = .sl id g 0 k cap true 1 → ev env x = v → evalOp P (.append 1 bytes s x) env h = .val (.sl h.next 0 0 (k + l2.length) (k + l2.length) false 1) h') ∧ Gro h' h.next 0 (L.take k ++ l2) ∧ Only [] h h' ∧ h'.next = h.next.succ := by
  cases hv with
  | nil => exact absurd rfl h0
  | emp => exact absurd rfl h0
  | mk hn r =>
    rename_i id2 g2 off2 n2 cap2 ex2
    subst hn
    have hpos : 0 < l2.length := List.length_pos_iff.2 h0
    obtain ⟨seg, c1, c2, c3⟩ := r.all
    have src : srcCells h 1 l2.length (.sl id2 g2 off2 l2.length cap2 ex2 1) = some seg := by
      show readN h id2 g2 off2 (l2.length * 1) = some seg
      rw [Nat.mul_one]; exact c1
    have ok : okSize (Nat.add k l2.length) bytes = true := by
      exact okSize_small (show Nat.add k l2.length ≤ _ from hl) hb
    obtain ⟨old, o1, o2, o3⟩ := (ha.part (off := 0) (n := k) (by omega)).all
    rw [List.length_take, List.drop_zero, Nat.min_eq_left hL] at o1
    rw [List.drop_zero] at o3
    obtain ⟨p1, p2, p3⟩ := Cells.app_spec o2 c2
    have q := (⟨by rw [newH_next]; omega, _, _, _, newH_get h (fun _ => .cells (noteB bytes) (old.app seg) 0 0 0 0 false false), p1, rfl⟩ : Arr (newH h fun _ => .cells (noteB bytes) (old.app seg) 0 0 0 0 false false) h.next (old.app seg).toL)
    refine ⟨newH h fun _ => .cells (noteB bytes) (old.app seg) 0 0 0 0 false false, fun env s x hs hx => ?_, ?_, newH_only _ _ _, rfl⟩
    · show appendA h 1 bytes (ev env s) (ev env x) = _
      rw [hs, hx]
      unfold appendA
      simp only [lenA, beq_false.2 (show l2.length ≠ 0 by omega), cond_false, src]
      unfold appendSeg
      have hm : Nat.mul k 1 = k := Nat.mul_one k
      simp only [natK_eq, ok, show Nat.beq 1 1 = true from rfl, show Nat.blt 0 1 = true from rfl, Bool.and_true, Bool.and_self, Bool.not_true, cond_false, cond_true, show Nat.ble (Nat.add k l2.length) cap = false from ble_false.2 hk, hm, o1]
      unfold newCellsN
      rw [newK_newH]
      rfl
    · have := q.gro
      rw [p2, o3, c3] at this
      exact this
def xset : List XB → Pos → Nat → List AV → List XB
  | [], _, _, _ => []
  | x :: X, id, g, l => if x.id = id then ⟨id, g, true, l⟩ :: X else x :: xset X id g l
def xown : List XB → Pos → Nat → Option (List AV)
  | [], _, _ => none
  | x :: X, id, g => if x.id = id then (if x.g = g ∧ x.own = true then some x.l else none) else xown X id g
theorem xown_mem : ∀ {X : List XB} {id : Pos} {g : Nat} {l : List AV}, xown X id g = some l → ∃ x ∈ X, x.id = id ∧ x.g = g ∧ x.own = true ∧ x.l = l
  | [], _, _, _, e => by cases e
  | x :: X, id, g, l, e => by
    unfold xown at e
    split at e
    · split at e
      · rename_i c; cases e; exact ⟨x, by simp, by assumption, c.1, c.2, rfl⟩
      · cases e
    · obtain ⟨y, h1, h2⟩ := xown_mem e
      exact ⟨y, List.mem_cons_of_mem _ h1, h2⟩
theorem xset_ids : ∀ (X : List XB) (id : Pos) (g : Nat) (l : List AV), (xset X id g l).map (·.id) = X.map (·.id)
  | [], _, _, _ => rfl
  | x :: X, id, g, l => by
    unfold xset
    split
    · rename_i c; simp [c]
    · simp [xset_ids X id g l]
theorem xset_mem : ∀ {X : List XB} {id : Pos} {g : Nat} {l : List AV}, (X.Pairwise fun x y => x.id ≠ y.id) → ∀ y ∈ xset X id g l, (y ∈ X ∧ y.id ≠ id) ∨ y = ⟨id, g, true, l⟩
  | [], _, _, _, _, y, m => by cases m
  | x :: X, id, g, l, p, y, m => by
    rw [List.pairwise_cons] at p
    unfold xset at m
    split at m
    · rename_i c
      rcases List.mem_cons.1 m with e | m
      · exact .inr e
      · exact .inl ⟨List.mem_cons_of_mem _ m, fun e => p.1 y m (c.trans e.symm)⟩
    · rename_i c
      rcases List.mem_cons.1 m with e | m
      · subst e; exact .inl ⟨by simp, c⟩
      · rcases xset_mem p.2 y m with ⟨h1, h2⟩ | e
        · exact .inl ⟨List.mem_cons_of_mem _ h1, h2⟩
        · exact .inr e
section
variable {P : Program} {b : Pos} {W : List Pos} {h0 h h' : Hp} {s s' : XS}
theorem XI.set (i : XI b W h0 s h) {x : XB} (m : x ∈ s.X) (ho : x.own = true) {g : Nat} {l : List AV} (hg : Gro h' x.id g l) (o : Only [x.id] h h') (hn : h'.next = h.next) : XI b W h0 ⟨s.n, xset s.X x.id g l⟩ h' where
  next := by rw [hn]; exact i.next
  all y my := by
    rcases xset_mem i.apart y my with ⟨h1, h2⟩ | e
    · exact (i.all y h1).only o (by simpa using h2)
    · subst e; exact .of_gro hg _
  apart := by
    have : ((xset s.X x.id g l).map (·.id)).Nodup := by rw [xset_ids]; exact List.pairwise_map.2 i.apart
    exact List.pairwise_map.1 this
  own y my hy := by
    rcases xset_mem i.apart y my with ⟨h1, _⟩ | e
    · exact i.own y h1 hy
    · subst e; exact i.own x m ho
  only := ⟨by rw [hn]; exact i.only.next, o.lim.trans i.only.lim, fun j j1 j2 => by
    have hj : j ≠ x.id := fun c => by
      subst c
      rcases i.own x m ho with k | k
      · exact j2 k
      · rw [i.base] at j1; omega
    rw [o.same j (Nat.lt_of_lt_of_le j1 i.only.next) (by simpa using hj)]
    exact i.only.same j j1 j2⟩
  base := i.base
noncomputable def xsrc (X : List XB) (es : Nat) (v : AV) : Option (Nat × List AV) :=
  match v with
  | .nilSl => some (0, [])
  | .sl id g off n _ _ es' => if es' = es then (xget X id g).bind fun l => if off + n * es ≤ l.length then some (n, (l.drop off).take (n * es)) else none else none
  | _ => none
theorem xsrc_ok {X : List XB} (hX : AllH X h) {es n : Nat} {v : AV} {c : List AV} (e : xsrc X es v = some (n, c)) : SlN h es v n c := by
  unfold xsrc at e
  split at e
  · cases e; exact .nil
  · rename_i id g off n' cap ex es'
    split at e
    · rename_i he
      subst he
      cases q : xget X id g with
      | none => rw [q] at e; cases e
      | some l =>
        rw [q, Option.bind_some] at e
        split at e
        · rename_i hn
          cases e
          exact .mk (by rw [List.length_take, List.length_drop]; omega) (xget_part hX q hn)
        · cases e
    · cases e
  · cases e
noncomputable def xapp (b : Pos) (s : XS) (es bytes : Nat) (sv : AV) (n : Nat) (c : List AV) : Option (AV × XS) :=
  if 0 < es ∧ bytes ≤ 4096 ∧ c.all AV.atom = true then
    (if n = 0 then (match sv with
      | .nilSl => some (.nilSl, s)
      | .sl id g off k cap ex es' => (if off + k * es ≤ 0 ∨ es' = es then (xsrc s.X es (.sl id g off k cap ex es')).map fun _ => (.sl id g off k cap ex es', s) else none)
      | _ => none)
    else match sv with
      | .nilSl => if n ≤ 1073741824 then some (.sl (adv b s.n) 0 0 n n false es, s.add b c) else none
      | .sl id g 0 k k' false es' => if k' = k ∧ es' = es ∧ k + n ≤ 1073741824 then (xown s.X id g).bind fun l => if l.length = k * es then some (.sl id (g + 1) 0 (k + n) (k + n) false es, ⟨s.n, xset s.X id (g + 1) (l ++ c)⟩) else none else none
      | .sl id 0 0 k cap true 1 => if es = 1 ∧ c.length = n ∧ k + n ≤ 1073741824 then (xown s.X id 0).bind fun l =>
          if k + n ≤ cap then (if k + n ≤ l.length then some (.sl id 0 0 (k + n) cap true 1, ⟨s.n, xset s.X id 0 (l.take k ++ c ++ l.drop (k + n))⟩) else none)
          else if k ≤ l.length then some (.sl (adv b s.n) 0 0 (k + n) (k + n) false 1, s.add b (l.take k ++ c)) else none
        else none
      | .sl _ _ _ 0 0 true es' => if es' = es ∧ n ≤ 1073741824 then some (.sl (adv b s.n) 0 0 n n false es, s.add b c) else none
      | _ => none)
  else none
theorem slN_slR {v : AV} {n : Nat} {c : List AV} (r : SlN h 1 v n c) : SlR h v c := by
  cases r with
  | nil => exact .nil
  | emp => exact .emp
  | mk hn r => rw [Nat.mul_one] at hn; exact .mk hn.symm r
theorem xapp_ok {env : T AV} {es bytes n : Nat} {x y : Opd} {c : List AV} {v : AV} (i : XI b W h0 s h) (hs : SlN h es (ev env y) n c) (e : xapp b s es bytes (ev env x) n c = some (v, s')) :
    ∃ h', XI b W h0 s' h' ∧ evalOp P (.append es bytes x y) env h = .val v h' := by
  unfold xapp at e
  split at e
  · rename_i q
    obtain ⟨hes, hb, hat⟩ := q
    have hat := List.all_eq_true.1 hat
    split at e
    · rename_i hn
      subst hn
      split at e
      · rename_i hx
        cases e
        exact ⟨h, i, appendN_none P (.nil : SlN h es .nilSl 0 []) hs env x y hx rfl⟩
      · rename_i id g off k cap ex es' hx
        split at e
        · cases w : xsrc s.X es (.sl id g off k cap ex es') with
          | none => rw [w] at e; cases e
          | some p =>
            rw [w] at e
            cases e
            obtain ⟨n', c'⟩ := p
            exact ⟨h, i, appendN_none P (xsrc_ok i.all w) hs env x y hx rfl⟩
        · cases e
      · cases e
    · rename_i hn
      split at e
      · rename_i hx
        split at e
        · rename_i hle
          cases e
          obtain ⟨h', q1, q2, q3, q4⟩ := appendN_newS P (bytes := bytes) hs hn hes (okSize_small hle hb)
          refine ⟨h', i.add q2.gro q3 q4, ?_⟩
          rw [q1 env x y (.inl hx) rfl, i.next]
        · cases e
      · rename_i id g k k' es' hx
        split at e
        · rename_i q
          obtain ⟨rfl, rfl, hle⟩ := q
          cases w : xown s.X id g with
          | none => rw [w] at e; cases e
          | some l =>
            rw [w, Option.bind_some] at e
            split at e
            · rename_i hl
              cases e
              obtain ⟨z, m, rfl, rfl, zo, rfl⟩ := xown_mem w
              obtain ⟨h', q1, q2, q3, q4⟩ := appendN_gro P (bytes := bytes) ((i.all z m).gro zo) hl hs hn hes (okSize_small hle hb) hat
              exact ⟨h', i.set m zo q2 q3 q4, q1 env x y hx rfl⟩
            · cases e
        · cases e
      · rename_i id k cap hx
        split at e
        · rename_i q
          obtain ⟨rfl, hcl, hle⟩ := q
          subst hcl
          cases w : xown s.X id 0 with
          | none => rw [w] at e; cases e
          | some l =>
            rw [w, Option.bind_some] at e
            obtain ⟨z, m, rfl, z0, zo, rfl⟩ := xown_mem w
            have zg := (i.all z m).gro zo
            rw [z0] at zg
            split at e
            · rename_i hfit
              split at e
              · rename_i hL
                cases e
                obtain ⟨h', q1, q2, q3, q4⟩ := append_room P (ex := true) zg (slN_slR hs) hfit hL hle hb hat
                exact ⟨h', i.set m zo q2 q3 q4, q1 env x y hx rfl⟩
              · cases e
            · rename_i hfit
              split at e
              · rename_i hL
                cases e
                obtain ⟨h', q1, q2, q3, q4⟩ := append_overS P (cap := cap) zg (slN_slR hs) (by omega) hL (fun c0 => hn (by rw [c0]; rfl)) hle hb
                refine ⟨h', i.add q2 q3 q4, ?_⟩
                rw [q1 env x y hx rfl, i.next]
              · cases e
        · cases e
      · rename_i id g off es' _ hx
        split at e
        · rename_i q
          obtain ⟨rfl, hle⟩ := q
          cases e
          obtain ⟨h', q1, q2, q3, q4⟩ := appendN_newS P (bytes := bytes) hs hn hes (okSize_small hle hb)
          refine ⟨h', i.add q2.gro q3 q4, ?_⟩
          rw [q1 env x y (.inr ⟨_, _, _, hx⟩) rfl, i.next]
        · cases e
      · cases e
  · cases e
noncomputable def xapS (s : XS) (es bytes : Nat) (sv yv : AV) : Option (AV × XS) :=
  match unstr yv, sv with
  | some u, .sl id g 0 k k' false 1 => if es = 1 ∧ k' = k ∧ bytes ≤ 4096 ∧ 0 < u.length ∧ k + u.length ≤ 1073741824 then (xown s.X id g).bind fun l => if l.length = k then some (.sl id (g + 1) 0 (k + u.length) (k + u.length) false 1, ⟨s.n, xset s.X id (g + 1) (l ++ byt u)⟩) else none else none
  | _, _ => none
theorem xapS_ok {env : T AV} {es bytes : Nat} {x y : Opd} {v : AV} (i : XI b W h0 s h) (e : xapS s es bytes (ev env x) (ev env y) = some (v, s')) :
    ∃ h', XI b W h0 s' h' ∧ evalOp P (.append es bytes x y) env h = .val v h' := by
  unfold xapS at e
  split at e
  · rename_i u id g k k' hu hx
    split at e
    · rename_i q
      obtain ⟨rfl, rfl, hb, hpos, hle⟩ := q
      cases w : xown s.X id g with
      | none => rw [w] at e; cases e
      | some l =>
        rw [w, Option.bind_some] at e
        split at e
        · rename_i hl
          cases e
          obtain ⟨z, m, rfl, rfl, zo, rfl⟩ := xown_mem w
          subst hl
          obtain ⟨h', q1, q2, q3, q4⟩ := append_groS P (bytes := bytes) ((i.all z m).gro zo) (fun c => by rw [c] at hpos; simp at hpos) hle hb
          exact ⟨h', i.set m zo q2 q3 q4, q1 env x y hx (unstr_ok hu)⟩
        · cases e
    · cases e
  · cases e
noncomputable def xap (b : Pos) (s : XS) (es bytes : Nat) (sv yv : AV) : Option (AV × XS) :=
  match xsrc s.X es yv with
  | some p => xapp b s es bytes sv p.1 p.2
  | none => xapS s es bytes sv yv
theorem xap_ok {env : T AV} {es bytes : Nat} {x y : Opd} {v : AV} (i : XI b W h0 s h) (e : xap b s es bytes (ev env x) (ev env y) = some (v, s')) :
    ∃ h', XI b W h0 s' h' ∧ evalOp P (.append es bytes x y) env h = .val v h' := by
  unfold xap at e
  split at e
  · rename_i p q
    exact xapp_ok i (xsrc_ok i.all q) e
  · exact xapS_ok i e
theorem xap_ids {es bytes : Nat} {sv yv v : AV} (e : xap b s es bytes sv yv = some (v, s')) : (s'.X.map (·.id) = s.X.map (·.id) ∧ s'.n = s.n) ∨ ∃ c, s' = s.add b c := by
  unfold xap at e
  split at e
  · unfold xapp at e
    repeat' split at e
    all_goals first
      | cases e; done
      | (cases e; exact .inl ⟨rfl, rfl⟩)
      | (cases e; exact .inr ⟨_, rfl⟩)
      | (obtain ⟨w, w1, w2⟩ := Option.bind_eq_some_iff.1 e
         repeat' split at w2
         all_goals first
           | cases w2; done
           | (cases w2; exact .inl ⟨xset_ids _ _ _ _, rfl⟩)
           | (cases w2; exact .inr ⟨_, rfl⟩))
      | (obtain ⟨w, w1, w2⟩ := Option.map_eq_some_iff.1 e
         cases w2; exact .inl ⟨rfl, rfl⟩)
  · unfold xapS at e
    repeat' split at e
    all_goals first
      | cases e; done
      | (obtain ⟨w, w1, w2⟩ := Option.bind_eq_some_iff.1 e
         repeat' split at w2
         all_goals first
           | cases w2; done
           | (cases w2; exact .inl ⟨xset_ids _ _ _ _, rfl⟩))
noncomputable def xapF (s : XS) (es : Nat) (yv : AV) (s' : XS) : Bool := !(Nat.beq s'.n s.n) || (match xsrc s.X es yv with
  | some (0, _) => true
  | _ => false)
theorem xap_keep {es bytes : Nat} {sv yv v : AV} (e : xap b s es bytes sv yv = some (v, s')) (k : xapF s es yv s' = true) : ∀ x ∈ s.X, x ∈ s'.X := by
  rcases xap_ids e with ⟨_, hn⟩ | ⟨c, rfl⟩
  · unfold xapF at k
    rw [hn, beq_iff.2 rfl] at k
    simp only [Bool.not_true, Bool.false_or] at k
    split at k
    · rename_i c q
      unfold xap at e
      rw [q] at e
      change xapp b s es bytes sv 0 c = _ at e
      unfold xapp at e
      split at e
      · rw [if_pos rfl] at e
        split at e
        · cases e; exact fun x m => m
        · split at e
          · obtain ⟨w, w1, w2⟩ := Option.map_eq_some_iff.1 e
            cases w2; exact fun x m => m
          · cases e
        · cases e
      · cases e
    · cases k
  · exact fun x m => List.mem_cons_of_mem _ m
end
end Go.Proofs.YtjhgembcdndmkaaGreatDoor.Am

namespace Go.Proofs.YtjhgembcdndmkaaGreatDoor.Am
open Go.RowKit
noncomputable def hp0 : Hp := ⟨.e, Pos.first, 0, 0⟩
noncomputable def xst0 (P : Program) (env : T AV) (o : AOp) : Option AV := match evalOp P o env hp0 with
  | .val v _ => some v
  | _ => none
theorem xst0_ok {P : Program} {env : T AV} {o : AOp} {v : AV} (hk : kindOf o = .still) (e : xst0 P env o = some v) (h : Hp) : evalOp P o env h = .val v h := by
  unfold xst0 at e
  split at e
  · rename_i v' h' q
    cases e
    exact (still_same hk q).2 h
  · cases e
noncomputable def xbd (env : T AV) (x : Option Opd) (d : Nat) : Option Nat := match x with
  | none => some d
  | some y => match ev env y with
    | .int _ z => if 0 ≤ z then some z.toNat else none
    | _ => none
theorem xbd_ok {env : T AV} {x : Option Opd} {d n : Nat} (e : xbd env x d = some n) : evO env x d = some n := by
  cases x with
  | none => exact e
  | some y =>
    simp only [xbd] at e
    unfold evO
    split at e
    · rename_i k z hy
      split at e
      · rename_i h0
        obtain ⟨m, rfl⟩ := Int.eq_ofNat_of_zero_le h0
        cases e
        simp only [hy]
        rfl
      · cases e
    · cases e
theorem pack_slice (a m c : List UInt8) : pack (a ++ (m ++ c)) / 256 ^ c.length % 256 ^ m.length = pack m := by
  have h1 := pack_lt c
  have h2 := pack_lt m
  rw [← List.append_assoc, pack_append, pack_append]
  rw [Nat.mul_comm (pack a * 256 ^ m.length + pack m), Nat.mul_add_div (Nat.pow_pos (by omega)), Nat.div_eq_of_lt h1, Nat.add_zero, Nat.mul_comm (pack a), Nat.mul_add_mod, Nat.mod_eq_of_lt h2]
noncomputable def xst (P : Program) (env : T AV) (o : AOp) : Option AV := match o with
  | .sliceStr x lo hi => match unstr (ev env x) with
    | some u => match xbd env lo 0, xbd env hi u.length with
      | some l, some r => if l ≤ r ∧ r ≤ u.length then some (strOf ((u.drop l).take (r - l))) else none
      | _, _ => none
    | none => none
  | .idxStr x y => match unstr (ev env x), ev env y with
    | some u, .int _ z => if h : 0 ≤ z ∧ z.toNat < u.length then some (.int .u8 ((u[z.toNat]'h.2).toNat : Int)) else none
    | _, _ => none
  | .idxAddrSl es x y => match ev env x, ev env y with
    | .sl id g off n _ _ es', .int _ z => if 0 ≤ z ∧ z < (n : Int) ∧ es = es' then some (.ptr id g (off + z.toNat * es)) else none
    | _, _ => none
  | o => xst0 P env o
theorem xst_ok {P : Program} {env : T AV} {o : AOp} {v : AV} (hk : kindOf o = .still) (e : xst P env o = some v) (h : Hp) : evalOp P o env h = .val v h := by
  cases o <;> first | exact xst0_ok hk e h | skip
  case sliceStr x lo hi =>
    simp only [xst] at e
    split at e
    · rename_i u hu
      split at e
      · rename_i l r hl hr
        split at e
        · rename_i c
          obtain ⟨c1, c2⟩ := c
          cases e
          have q : evalOp P (.sliceStr x lo hi) env h = (match ev env x with
            | .str n v => match evO env lo 0, evO env hi n with
              | some l, some r => bif Nat.ble l r && Nat.ble r n then
                  natK (Nat.sub r l) fun k => natK (Nat.mod (Nat.div v (Nat.pow 256 (Nat.sub n r))) (Nat.pow 256 k)) fun u => .val (.str k u) h else .fail "sliceStr bounds"
              | _, _ => .fail "sliceStr"
            | _ => .fail "sliceStr what") := rfl
          rw [q, unstr_ok hu]
          show (match evO env lo 0, evO env hi u.length with
              | some l, some r => bif Nat.ble l r && Nat.ble r u.length then
                  natK (Nat.sub r l) fun k => natK (Nat.mod (Nat.div (pack u) (Nat.pow 256 (Nat.sub u.length r))) (Nat.pow 256 k)) fun u => Res.val (.str k u) h else .fail "sliceStr bounds"
              | _, _ => .fail "sliceStr") = _
          rw [xbd_ok hl, xbd_ok hr]
          simp only [ble_iff.2 c1, ble_iff.2 c2, Bool.and_self, cond_true, natK_eq]
          have hm : ((u.drop l).take (r - l)).length = r - l := by rw [List.length_take, List.length_drop]; omega
          have hc : (u.drop r).length = u.length - r := by simp
          have hs : u = u.take l ++ ((u.drop l).take (r - l) ++ u.drop r) := by
            have e1 : u.drop r = (u.drop l).drop (r - l) := by rw [List.drop_drop]; congr 1; omega
            rw [e1, List.take_append_drop, List.take_append_drop]
          have hp := pack_slice (u.take l) ((u.drop l).take (r - l)) (u.drop r)
          rw [← hs, hm, hc] at hp
          show Res.val (.str (r - l) (pack u / 256 ^ (u.length - r) % 256 ^ (r - l))) h = Res.val (strOf ((u.drop l).take (r - l))) h
          rw [hp]
          unfold strOf
          rw [hm]
        · cases e
      · cases e
    · cases e
  case idxStr x y =>
    simp only [xst] at e
    split at e
    · rename_i u k z hu hy
      split at e
      · rename_i c
        cases e
        obtain ⟨n, rfl⟩ := Int.eq_ofNat_of_zero_le c.1
        have h1 : n < u.length := c.2
        have q : evalOp P (.idxStr x y) env h = (match ev env x, ev env y with
          | .str n v, .int _ (.ofNat i) => bif Nat.blt i n then natK (byteAt n v i) fun b => .val (byteV b) h else .fail "idxStr bounds"
          | _, _ => .fail "idxStr") := rfl
        rw [q, unstr_ok hu, hy]
        show (bif Nat.blt n u.length then natK (byteAt u.length (pack u) n) fun b => Res.val (byteV b) h else .fail "idxStr bounds") = _
        rw [blt_iff.2 h1, cond_true, natK_eq, byteAt_pack h1]
        rfl
      · cases e
    · cases e
  case idxAddrSl es x y =>
    simp only [xst] at e
    split at e
    · rename_i id g off n cap ex es' k z hx hy
      split at e
      · rename_i c
        cases e
        rw [qev_idxSl, hx, hy, idx2_sl]
        obtain ⟨c1, c2, c3⟩ := c
        simp [c1, c2, c3]
      · cases e
    · cases e
noncomputable def xcall (U : List Ent) (b : Pos) (f : FuncId) (args : List AV) (s : XS) : Option (AV × XS) :=
  (tget U f).bind fun e => if args.length = e.np then (xqs s.X args e.qs).bind fun cs => (e.spec args cs).bind fun r => match r with
    | .plain v => some (v, s)
    | .row l v => some (v (adv b s.n), s.add b l)
    | .blind v => some (v (adv b s.n), ⟨s.n + 1, s.X⟩)
    | _ => none else none
def xsets (X : List XB) : List (Pos × List AV) → List XB
  | [] => X
  | x :: u => xset (xsets X u) x.1 0 x.2
theorem xset_own : ∀ {X : List XB} {id : Pos} {g : Nat} {l : List AV} {z : XB}, z ∈ X → z.own = true → ∃ y ∈ xset X id g l, y.id = z.id ∧ y.own = true
  | [], _, _, _, _, m, _ => by cases m
  | x :: X, id, g, l, z, m, ho => by
    unfold xset
    by_cases c : x.id = id
    · rw [if_pos c]
      rcases List.mem_cons.1 m with e | m
      · subst e; exact ⟨⟨id, g, true, l⟩, by simp, c.symm, rfl⟩
      · exact ⟨z, List.mem_cons_of_mem _ m, rfl, ho⟩
    · rw [if_neg c]
      rcases List.mem_cons.1 m with e | m
      · subst e; exact ⟨z, by simp, rfl, ho⟩
      · obtain ⟨y, m1, m2⟩ := xset_own (id := id) (g := g) (l := l) m ho
        exact ⟨y, List.mem_cons_of_mem _ m1, m2⟩
theorem xsets_own {X : List XB} {z : XB} (m : z ∈ X) (ho : z.own = true) : ∀ u, ∃ y ∈ xsets X u, y.id = z.id ∧ y.own = true
  | [] => ⟨z, m, rfl, ho⟩
  | x :: u => by
    obtain ⟨y, m1, m2, m3⟩ := xsets_own m ho u
    obtain ⟨y', k1, k2, k3⟩ := xset_own (id := x.1) (g := 0) (l := x.2) m1 m3
    exact ⟨y', k1, k2.trans m2, k3⟩
theorem XI.sets {b : Pos} {W : List Pos} {h0 h : Hp} {s : XS} (i : XI b W h0 s h) : ∀ u : List (Pos × List AV), (u.all fun x => (xown s.X x.1 0).isSome) = true → XI b W h0 ⟨s.n, xsets s.X u⟩ (updsH h u)
  | [], _ => i
  | x :: u, hs => by
    rw [List.all_cons, Bool.and_eq_true] at hs
    have i' := i.sets u hs.2
    obtain ⟨l0, w⟩ := Option.isSome_iff_exists.1 hs.1
    obtain ⟨z, m, z1, _, zo, _⟩ := xown_mem w
    obtain ⟨y, my, y1, yo⟩ := xsets_own m zo u
    have hold := i'.old my
    have e : y.id = x.1 := y1.trans z1
    have r := i'.set my yo (updH_gro (l := x.2) hold) (updH_only _ y.id x.2) rfl
    rw [e] at r
    exact r
noncomputable def xupd (U : List Ent) (b : Pos) (f : FuncId) (args : List AV) (s : XS) : Option (AV × XS) :=
  (tget U f).bind fun e => if args.length = e.np then (xqs s.X args e.qs).bind fun cs => (e.spec args cs).bind fun r => match r with
    | .upd u v => if (u.all fun x => (xown s.X x.1 0).isSome) = true then some (v, ⟨s.n, xsets s.X u⟩) else none
    | .updRow u row v => if (u.all fun x => (xown s.X x.1 0).isSome) = true then some (v (adv b s.n), XS.add b ⟨s.n, xsets s.X u⟩ row) else none
    | .outs u rows v => if ((atP u (adv b s.n)).all fun x => (xown s.X x.1 0).isSome) = true then some (v (adv b s.n), XS.adds b ⟨s.n, xsets s.X (atP u (adv b s.n))⟩ (rows (adv b s.n))) else none
    | _ => none else none
def orU {α : Type} : Option α → Option α → Option α
  | some p, _ => some p
  | none, q => q
theorem orU_some {α : Type} (p : α) (q : Option α) : orU (some p) q = some p := rfl
theorem orU_none {α : Type} (q : Option α) : orU none q = q := rfl
theorem XI.skip {b : Pos} {W : List Pos} {h0 h : Hp} {s : XS} (v : XI b W h0 s h) : XI b W h0 ⟨s.n + 1, s.X⟩ ⟨h.heap, h.next.succ, h.ser, h.lim⟩ :=
  have hlt : h.next.num ≤ h.next.succ.num := by rw [Pos.num_succ]; omega
  ⟨by show h.next.succ = (adv b s.n).succ; rw [v.next], fun x m => ⟨Nat.lt_of_lt_of_le (v.old m) hlt, (v.all x m).mem⟩, v.apart, v.own, ⟨Nat.le_trans v.only.next hlt, v.only.lim, v.only.same⟩, v.base⟩
theorem XI.adds {b : Pos} {W : List Pos} {h0 : Hp} : ∀ (ls : List (List AV)) {s : XS} {h : Hp}, XI b W h0 s h → XI b W h0 (XS.adds b s ls) (rowsN h ls)
  | [], _, _, i => i
  | l :: ls, _, h, i => XI.adds ls (i.add (rowN_gro h l) (rowN_only h l) (rowN_next h l))
section
variable {P : Program} {G : Hp → Prop} {U : List Ent} {b : Pos} {W : List Pos} {h0 h : Hp} {s s' : XS}
theorem xcall_ok (hG : ∀ h, Only W h0 h → G h) {f : FuncId} {args : List AV} {v : AV} (i : XI b W h0 s h) (e : xcall U b f args s = some (v, s')) : ∃ h', TabFn G U f args h v h' ∧ XI b W h0 s' h' ∧ Only [] h h' ∧ (∀ x ∈ s.X, x ∈ s'.X) ∧ ∀ x ∈ s'.X, x ∈ s.X ∨ x.id = adv b s.n := by
  unfold xcall at e
  cases q1 : tget U f with
  | none => rw [q1] at e; cases e
  | some en =>
    rw [q1, Option.bind_some] at e
    split at e
    · rename_i q2
      cases q3 : xqs s.X args en.qs with
      | none => rw [q3] at e; cases e
      | some cs =>
        rw [q3, Option.bind_some] at e
        cases q4 : en.spec args cs with
        | none => rw [q4] at e; cases e
        | some r =>
          rw [q4, Option.bind_some] at e
          have t : TabFn G U f args h (r.res h).1 (r.res h).2 := ⟨hG h i.only, en, cs, r, q1, q2, q4, xqs_ok i.all q3, rfl⟩
          cases r with
          | plain u =>
            cases e
            exact ⟨h, t, i, .refl _ _, fun _ m => m, fun _ m => .inl m⟩
          | row l u =>
            cases e
            refine ⟨rowN h l, ?_, i.add (rowN_gro h l) (rowN_only h l) (rowN_next h l), rowN_only h l, fun x m => List.mem_cons_of_mem _ m, fun x m => ?_⟩
            · rw [← i.next]; exact t
            · rcases List.mem_cons.1 m with e | m
              · subst e; exact .inr rfl
              · exact .inl m
          | blind u =>
            cases e
            refine ⟨⟨h.heap, h.next.succ, h.ser, h.lim⟩, ?_, i.skip, ⟨by show _ ≤ h.next.succ.num; rw [Pos.num_succ]; omega, rfl, fun _ _ _ => rfl⟩, fun _ m => m, fun _ m => .inl m⟩
            rw [← i.next]; exact t
          | upd _ _ => cases e
          | updRow _ _ _ => cases e
          | outs _ _ _ => cases e
    · cases e
theorem xupd_ok (hG : ∀ h, Only W h0 h → G h) {f : FuncId} {args : List AV} {v : AV} (i : XI b W h0 s h) (e : xupd U b f args s = some (v, s')) : ∃ h', TabFn G U f args h v h' ∧ XI b W h0 s' h' := by
  unfold xupd at e
  cases q1 : tget U f with
  | none => rw [q1] at e; cases e
  | some en =>
    rw [q1, Option.bind_some] at e
    split at e
    · rename_i q2
      cases q3 : xqs s.X args en.qs with
      | none => rw [q3] at e; cases e
      | some cs =>
        rw [q3, Option.bind_some] at e
        cases q4 : en.spec args cs with
        | none => rw [q4] at e; cases e
        | some r =>
          rw [q4, Option.bind_some] at e
          have t : TabFn G U f args h (r.res h).1 (r.res h).2 := ⟨hG h i.only, en, cs, r, q1, q2, q4, xqs_ok i.all q3, rfl⟩
          cases r with
          | upd u v' =>
            change (if (u.all fun x => (xown s.X x.1 0).isSome) = true then some (v', (⟨s.n, xsets s.X u⟩ : XS)) else none) = _ at e
            split at e
            · rename_i hs
              cases e
              exact ⟨_, t, i.sets u hs⟩
            · cases e
          | updRow u row v' =>
            change (if (u.all fun x => (xown s.X x.1 0).isSome) = true then some (v' (adv b s.n), XS.add b ⟨s.n, xsets s.X u⟩ row) else none) = _ at e
            split at e
            · rename_i hs
              cases e
              refine ⟨rowN (updsH h u) row, ?_, (i.sets u hs).add (rowN_gro _ row) (rowN_only _ row) (rowN_next _ row)⟩
              rw [← i.next]; exact t
            · cases e
          | outs u rows v' =>
            change (if ((atP u (adv b s.n)).all fun x => (xown s.X x.1 0).isSome) = true then some (v' (adv b s.n), XS.adds b ⟨s.n, xsets s.X (atP u (adv b s.n))⟩ (rows (adv b s.n))) else none) = _ at e
            split at e
            · rename_i hs
              cases e
              refine ⟨rowsN (updsH h (atP u (adv b s.n))) (rows (adv b s.n)), ?_, (i.sets _ hs).adds _⟩
              rw [← i.next]; exact t
            · cases e
          | plain _ => cases e
          | row _ _ => cases e
          | blind _ => cases e
    · cases e
def xput : List XB → Pos → Nat → List AV → Option (List XB)
  | [], _, _, _ => none
  | x :: X, id, off, c => if x.id = id then (if x.g = 0 ∧ x.own = true ∧ off + c.length ≤ x.l.length then some (⟨id, 0, true, x.l.take off ++ (c ++ x.l.drop (off + c.length))⟩ :: X) else none) else (xput X id off c).map (x :: ·)
theorem xput_ids : ∀ {X X' : List XB} {id : Pos} {off : Nat} {c : List AV}, xput X id off c = some X' → X'.map (·.id) = X.map (·.id) ∧ (∃ x ∈ X, x.id = id ∧ x.g = 0 ∧ x.own = true ∧ off + c.length ≤ x.l.length ∧ ⟨id, 0, true, x.l.take off ++ (c ++ x.l.drop (off + c.length))⟩ ∈ X') ∧
    ∀ y ∈ X', (y ∈ X ∧ y.id ≠ id) ∨ (∃ x ∈ X, x.id = id ∧ x.g = 0 ∧ x.own = true ∧ y = ⟨id, 0, true, x.l.take off ++ (c ++ x.l.drop (off + c.length))⟩) ∨ ∃ x ∈ X, y = x ∧ ∃ z ∈ X, z.id = id
  | [], _, _, _, _, e => by cases e
  | x :: X, X', id, off, c, e => by
    unfold xput at e
    split at e
    · rename_i q
      split at e
      · rename_i k
        cases e
        refine ⟨by simp [q], ⟨x, by simp, q, k.1, k.2.1, k.2.2, by simp⟩, fun y m => ?_⟩
        rcases List.mem_cons.1 m with e | m
        · exact .inr (.inl ⟨x, by simp, q, k.1, k.2.1, e⟩)
        · exact .inr (.inr ⟨y, List.mem_cons_of_mem _ m, rfl, x, by simp, q⟩)
      · cases e
    · rename_i q
      cases w : xput X id off c with
      | none => rw [w] at e; cases e
      | some X1 =>
        rw [w] at e
        cases e
        obtain ⟨a1, ⟨z, a2, a3⟩, a4⟩ := xput_ids w
        refine ⟨by simp [a1], ⟨z, List.mem_cons_of_mem _ a2, a3.1, a3.2.1, a3.2.2.1, a3.2.2.2.1, List.mem_cons_of_mem _ a3.2.2.2.2⟩, fun y m => ?_⟩
        rcases List.mem_cons.1 m with e | m
        · subst e; exact .inl ⟨by simp, q⟩
        · rcases a4 y m with ⟨b1, b2⟩ | ⟨u, b1, b2⟩ | ⟨u, b1, b2, w, b3, b4⟩
          · exact .inl ⟨List.mem_cons_of_mem _ b1, b2⟩
          · exact .inr (.inl ⟨u, List.mem_cons_of_mem _ b1, b2⟩)
          · exact .inr (.inr ⟨u, List.mem_cons_of_mem _ b1, b2, w, List.mem_cons_of_mem _ b3, b4⟩)
theorem xput_keep : ∀ {X X' : List XB} {id : Pos} {off : Nat} {c : List AV}, xput X id off c = some X' → ∀ y ∈ X, y.id ≠ id → y ∈ X'
  | [], _, _, _, _, e => by cases e
  | x :: X, X', id, off, c, e => fun y m q => by
    unfold xput at e
    split at e
    · rename_i k
      split at e
      · cases e
        rcases List.mem_cons.1 m with r | r
        · subst r; exact absurd k q
        · exact List.mem_cons_of_mem _ r
      · cases e
    · obtain ⟨X1, w, e⟩ := Option.map_eq_some_iff.1 e
      subst e
      rcases List.mem_cons.1 m with r | r
      · subst r; simp
      · exact List.mem_cons_of_mem _ (xput_keep w y r q)
theorem ofL_ats {xs : List AV} (hat : ∀ x ∈ xs, x.atom = true) : (Cells.ofL xs).atoms = true := by
  have hall : xs.all AV.atom = true := List.all_eq_true.2 hat
  unfold Cells.ofL
  split
  · split
    · rfl
    · exact hall
  · exact hall
theorem apart_eq : ∀ {X : List XB}, (X.Pairwise fun x y => x.id ≠ y.id) → ∀ y ∈ X, ∀ z ∈ X, y.id = z.id → y = z
  | [], _, y, m, _, _, _ => by cases m
  | a :: X, p, y, my, z, mz, e => by
    rw [List.pairwise_cons] at p
    rcases List.mem_cons.1 my with c | c
    · rcases List.mem_cons.1 mz with d | d
      · rw [c, d]
      · rw [c] at e; exact absurd e (p.1 z d)
    · rcases List.mem_cons.1 mz with d | d
      · rw [d] at e; exact absurd e.symm (p.1 y c)
      · exact apart_eq p.2 y c z d e
theorem xput_ok {X' : List XB} {id : Pos} {off : Nat} {c : List AV} (i : XI b W h0 s h) (e : xput s.X id off c = some X') (hc : 0 < c.length) (hat : ∀ x ∈ c, x.atom = true) :
    ∃ h', (∀ k : Hp → Res, writeN h id 0 off (Cells.ofL c) k = k h') ∧ XI b W h0 ⟨s.n, X'⟩ h' := by
  obtain ⟨e1, ⟨x, m, q1, q2, q3, q4, q5⟩, e3⟩ := xput_ids e
  obtain ⟨ser, cc, hi, mm, ro, fz, ex, hw, hl, hr⟩ := (i.all x m).mem
  obtain rfl := hr q3
  rw [q1, q2] at ex
  obtain ⟨p1, p2, p3⟩ := Cells.ofL_spec c
  have hz : cc.size = x.l.length := by rw [← Cells.toL_length hw, hl]
  have hsz : off + (Cells.ofL c).size ≤ cc.size := by omega
  obtain ⟨r1, r2, r3⟩ := Cells.splice_spec hw p1 hsz
  have hold : id.num < h.next.num := by rw [← q1]; exact i.old m
  have hap := apart_eq i.apart
  refine ⟨⟨T.set id (some (.cells ser (cc.splice off (Cells.ofL c)) 0 hi 0 (bif Nat.blt off hi then 0 else mm) false fz)) h.heap, h.next, h.ser, h.lim⟩, fun k => ?_, ?_⟩
  · unfold writeN
    have hne : Nat.beq (Cells.ofL c).size 0 = false := beq_false.2 (by omega)
    have hfit : Nat.ble (Nat.add off (Cells.ofL c).size) cc.size = true := ble_iff.2 hsz
    simp only [hne, cond_false, ex, hfit, ofL_ats hat, show Nat.beq 0 0 = true from rfl, show Nat.ble 0 off = true from ble_iff.2 (Nat.zero_le _), Bool.not_false, Bool.and_self, cond_true, T.setK_eq]
  · have same : ∀ j, j ≠ id → T.get j (T.set id (some (.cells ser (cc.splice off (Cells.ofL c)) 0 hi 0 (bif Nat.blt off hi then 0 else mm) false fz)) h.heap) = T.get j h.heap := fun j q => by rw [T.get_set, if_neg q]
    refine ⟨i.next, fun y hy => ?_, ?_, fun y hy hyo => ?_, ⟨i.only.next, i.only.lim, fun j j1 j2 => ?_⟩, i.base⟩
    · rcases e3 y hy with ⟨c1, c2⟩ | ⟨z, c1, c2, c3, c4, c5⟩ | ⟨z, c1, c2, u, c3, c4⟩
      · exact (i.all y c1).only (S := [id]) ⟨Nat.le_refl _, rfl, fun j _ q => same j (by simpa using q)⟩ (by simpa using c2)
      · have : z = x := hap z c1 x m (c2.trans q1.symm)
        subst this
        subst c5
        exact ⟨hold, ser, _, hi, _, false, fz, by show T.get id (T.set id _ _) = _; rw [T.get_set, if_pos rfl], r1, by rw [r2, p2, p3, hl], fun _ => rfl⟩
      · by_cases c5 : y.id = id
        · have hpw : (X'.map (·.id)).Nodup := by rw [e1]; exact List.pairwise_map.2 i.apart
          have hX' : X'.Pairwise fun x y => x.id ≠ y.id := List.pairwise_map.1 hpw
          have hap' := apart_eq hX'
          have := hap' y hy _ q5 c5
          subst this
          exact ⟨hold, ser, _, hi, _, false, fz, by show T.get id (T.set id _ _) = _; rw [T.get_set, if_pos rfl], r1, by rw [r2, p2, p3, hl], fun _ => rfl⟩
        · subst c2
          exact (i.all y c1).only (S := [id]) ⟨Nat.le_refl _, rfl, fun j _ q => same j (by simpa using q)⟩ (by simpa using c5)
    · have hpw : (X'.map (·.id)).Nodup := by rw [e1]; exact List.pairwise_map.2 i.apart
      exact List.pairwise_map.1 hpw
    · have : y.id ∈ s.X.map (·.id) := by rw [← e1]; exact List.mem_map_of_mem hy
      obtain ⟨z, z1, z2⟩ := List.mem_map.1 this
      by_cases c5 : y.id = id
      · rw [c5, ← q1]; exact i.own x m q3
      · rcases e3 y hy with ⟨c1, c2⟩ | ⟨_, _, _, _, _, c5'⟩ | ⟨u, c1, c2, _⟩
        · exact i.own y c1 hyo
        · subst c5'; exact absurd rfl c5
        · subst c2; exact i.own y c1 hyo
    · show T.get j (T.set id _ _) = _
      rw [same j fun c => by
        subst c
        rcases i.own x m q3 with k | k
        · rw [q1] at k; exact j2 k
        · rw [q1] at k; rw [i.base] at j1; omega]
      exact i.only.same j j1 j2
noncomputable def xact (U : List Ent) (b : Pos) (env : T AV) (s : XS) : AOp → Option (AV × XS)
  | .store n a x => if (ev env x).cells.length = n ∧ 0 < n ∧ (ev env x).cells.all AV.atom = true then (match ev env a with
    | .ptr id 0 off => (xput s.X id off (ev env x).cells).map fun X => (.undef, ⟨s.n, X⟩)
    | _ => none) else none
  | .call (.value f) args => match ev env f with
    | .fn (.func g) fi ca => xcall U b g (fi ++ (args.map (ev env) ++ ca)) s
    | _ => none
  | .append es bytes x y => xap b s es bytes (ev env x) (ev env y)
  | _ => none
noncomputable def xcmp : Option (List UInt8) → Option (List UInt8) → Option AV
  | some u, some v => some (.int .i64 (cmpI (cmpL u v)))
  | _, _ => none
theorem xcmp_some (u v : List UInt8) : xcmp (some u) (some v) = some (.int .i64 (cmpI (cmpL u v))) := rfl
noncomputable def xclr (s : XS) (es : Nat) (zero : List AV) : AV → Option (AV × XS)
  | .nilSl => some (.tup [], s)
  | .sl id 0 off n _ _ es' => if es = es' ∧ zero.length = es ∧ zero.all AV.atom = true ∧ 0 < es then (if n = 0 then some (.tup [], s) else (xput s.X id off (List.replicate n zero).flatten).map fun X => (.tup [], ⟨s.n, X⟩)) else none
  | _ => none
theorem xclr_ok {es : Nat} {zero : List AV} {x v : AV} (i : XI b W h0 s h) (e : xclr s es zero x = some (v, s')) : ∃ h', XI b W h0 s' h' ∧ clearA h es zero x = .val v h' := by
  unfold xclr at e
  split at e
  · cases e; exact ⟨h, i, rfl⟩
  · rename_i id off n cap ex es'
    split at e
    · rename_i c
      obtain ⟨rfl, c2, c3, c4⟩ := c
      have fl : (List.replicate n zero).flatten.length = n * es := by simp [c2]
      have step : ∀ k : Hp → Res, clearA h es zero (.sl id 0 off n cap ex es) = writeN h id 0 off (Cells.ofL (List.replicate n zero).flatten) fun h => .val (.tup []) h := fun _ => by
        show (bif Nat.beq es es then writeN h id 0 off (Cells.ofL (replA n zero [])) (fun h => Res.val (.tup []) h) else .fail "clear size") = _
        rw [beq_iff.2 rfl, cond_true, replA_eq, List.append_nil]
      split at e
      · rename_i q
        subst q
        cases e
        refine ⟨h, i, ?_⟩
        rw [step fun _ => .fail ""]
        unfold writeN
        rw [beq_iff.2 (by rw [(Cells.ofL_spec _).2.2, fl, Nat.zero_mul])]
        rfl
      · rename_i q
        cases w : xput s.X id off (List.replicate n zero).flatten with
        | none => rw [w] at e; cases e
        | some X' =>
          rw [w] at e
          cases e
          obtain ⟨h', k, i'⟩ := xput_ok i w (by rw [fl]; exact Nat.mul_pos (by omega) c4) (fun x m => by
            obtain ⟨l, ml, mx⟩ := List.mem_flatten.1 m
            rw [List.eq_of_mem_replicate ml] at mx
            exact List.all_eq_true.1 c3 x mx)
          exact ⟨h', i', by rw [step fun _ => .fail "", k]⟩
    · cases e
  · cases e
noncomputable def xactM (U : List Ent) (b : Pos) (env : T AV) (s : XS) : AOp → Option (AV × XS)
  | .call (.value f) args => match ev env f with
    | .fn (.func g) fi ca => orU (xcall U b g (fi ++ (args.map (ev env) ++ ca)) s) (xupd U b g (fi ++ (args.map (ev env) ++ ca)) s)
    | _ => none
  | .ext k args => match k, args with
    | 3, [x, y] => (xcmp (unstr (ev env x)) (unstr (ev env y))).map fun v => (v, s)
    | _, _ => none
  | .clear es zero x => xclr s es zero (ev env x)
  | o => xact U b env s o
noncomputable def xop (P : Program) (U : List Ent) (b : Pos) (env : T AV) (s : XS) (o : AOp) : Option (AV × XS) :=
  match kindOf o with
  | .still => (xst P env o).map fun v => (v, s)
  | .load => (xld s.X env o).map fun v => (v, s)
  | .alloc => (xal env (adv b s.n) o).map fun p => (p.1, s.add b p.2)
  | .actor => xactM U b env s o
theorem qev_store (P : Program) (n : Nat) (a x : Opd) (env : T AV) (h : Hp) : evalOp P (.store n a x) env h = (match ev env a with
    | .ptr id g off => bif Nat.beq (ev env x).cells.length n then writeN h id g off (Cells.ofL (ev env x).cells) fun h => .val .undef h else .fail "store size"
    | _ => .fail "store what") := rfl
theorem xact_ok (hG : ∀ h, Only W h0 h → G h) (hT : ∀ e ∈ U, EntK P G e) {env : T AV} {o : AOp} {v : AV} (i : XI b W h0 s h) (e : xact U b env s o = some (v, s')) :
    ∃ h', XI b W h0 s' h' ∧ (evalOp P o env h = .val v h' ∨ ∃ f args, evalOp P o env h = .enter f args h ∧ TabFn G U f args h v h') := by
  cases o <;> first | (change none = some _ at e; cases e; done) | skip
  case append es bytes x y =>
    obtain ⟨h', i', w⟩ := xap_ok (P := P) i e
    exact ⟨h', i', .inl w⟩
  case store n a x =>
    simp only [xact] at e
    split at e
    · rename_i c
      obtain ⟨c1, c2, c3⟩ := c
      split at e
      · rename_i id off ha
        cases q : xput s.X id off (ev env x).cells with
        | none => rw [q] at e; cases e
        | some X' =>
          rw [q] at e
          cases e
          obtain ⟨h', w, i'⟩ := xput_ok i q (by omega) (List.all_eq_true.1 c3)
          refine ⟨h', i', .inl ?_⟩
          rw [qev_store, ha]
          show (bif Nat.beq (ev env x).cells.length n then writeN h id 0 off (Cells.ofL (ev env x).cells) fun h => Res.val .undef h else .fail "store size") = _
          rw [beq_iff.2 c1, cond_true, w]
      · cases e
    · cases e
  case call w args =>
    cases w <;> first | (change none = some _ at e; cases e; done) | skip
    rename_i f
    simp only [xact] at e
    split at e
    · rename_i g fi ca hf
      obtain ⟨h', t, i', _⟩ := xcall_ok hG i e
      refine ⟨h', i', .inr ⟨g, _, ?_, t⟩⟩
      have ok : okCall P g = true := by
        obtain ⟨_, en, _, _, t1, _⟩ := t
        obtain ⟨m, rfl⟩ := tget_mem t1
        exact (hT en m).1
      rw [qev_callv, hf]
      exact callA_ok ok h _
    · cases e
theorem xactM_ok (hG : ∀ h, Only W h0 h → G h) (hT : ∀ e ∈ U, EntK P G e) {env : T AV} {o : AOp} {v : AV} (i : XI b W h0 s h) (e : xactM U b env s o = some (v, s')) :
    ∃ h', XI b W h0 s' h' ∧ (evalOp P o env h = .val v h' ∨ ∃ f args, evalOp P o env h = .enter f args h ∧ TabFn G U f args h v h') := by
  cases o <;> first | exact xact_ok hG hT i e | skip
  case call w args =>
    cases w <;> first | exact xact_ok hG hT i e | skip
    rename_i f
    simp only [xactM] at e
    split at e
    · rename_i g fi ca hf
      have key : ∃ h', TabFn G U g (fi ++ (args.map (ev env) ++ ca)) h v h' ∧ XI b W h0 s' h' := by
        cases q : xcall U b g (fi ++ (args.map (ev env) ++ ca)) s with
        | some p =>
          rw [q, orU_some] at e
          cases e
          obtain ⟨h', t, i', _⟩ := xcall_ok hG i q
          exact ⟨h', t, i'⟩
        | none =>
          rw [q, orU_none] at e
          exact xupd_ok hG i e
      obtain ⟨h', t, i'⟩ := key
      refine ⟨h', i', .inr ⟨g, _, ?_, t⟩⟩
      have ok : okCall P g = true := by
        obtain ⟨_, en, _, _, t1, _⟩ := t
        obtain ⟨m, rfl⟩ := tget_mem t1
        exact (hT en m).1
      rw [qev_callv, hf]
      exact callA_ok ok h _
    · cases e
  case clear es zero x =>
    obtain ⟨h', i', w⟩ := xclr_ok i e
    exact ⟨h', i', .inl w⟩
  case ext k args =>
    simp only [xactM] at e
    split at e
    · rename_i x y
      obtain ⟨u, q, e⟩ := Option.map_eq_some_iff.1 e
      cases e
      refine ⟨h, i, .inl ?_⟩
      unfold xcmp at q
      split at q
      · rename_i u w q1 q2
        cases q
        show extE h 3 [ev env x, ev env y] = _
        rw [unstr_ok q1, unstr_ok q2]
        show intK (cmpI (strCmp u.length (pack u) w.length (pack w))) (fun r => Res.val (.int .i64 r) h) = _
        rw [intK_eq, cmp_str]
      · cases q
    · cases e
theorem xop_ok (hG : ∀ h, Only W h0 h → G h) (hT : ∀ e ∈ U, EntK P G e) {env : T AV} {o : AOp} {v : AV} (i : XI b W h0 s h) (e : xop P U b env s o = some (v, s')) :
    ∃ h', XI b W h0 s' h' ∧ (evalOp P o env h = .val v h' ∨ ∃ f args, evalOp P o env h = .enter f args h ∧ TabFn G U f args h v h') := by
  unfold xop at e
  split at e
  · rename_i hk
    cases q : xst P env o with
    | none => rw [q] at e; cases e
    | some u => rw [q] at e; cases e; exact ⟨h, i, .inl (xst_ok hk q h)⟩
  · cases q : xld s.X env o with
    | none => rw [q] at e; cases e
    | some u => rw [q] at e; cases e; exact ⟨h, i, .inl (xld_ok i.all q)⟩
  · cases q : xal env (adv b s.n) o with
    | none => rw [q] at e; cases e
    | some p =>
      obtain ⟨u, l⟩ := p
      rw [q] at e
      cases e
      obtain ⟨c, fz, c1, c2, c3⟩ := xal_ok (P := P) q
      have hn := i.next
      refine ⟨⟨T.set (adv b s.n) (some (.cells 0 c 0 0 0 0 false fz)) h.heap, (adv b s.n).succ, Nat.succ h.ser, h.lim⟩, i.add (l := l) ⟨?_, 0, c, 0, 0, fz, ?_, c1, c2⟩ ⟨?_, rfl, fun j q1 _ => ?_⟩ ?_, .inl (c3 h hn)⟩
      · show h.next.num < (adv b s.n).succ.num; rw [Pos.num_succ, ← hn]; omega
      · show T.get h.next (T.set (adv b s.n) _ _) = _; rw [T.get_set, if_pos hn]
      · show _ ≤ (adv b s.n).succ.num; rw [Pos.num_succ, ← hn]; omega
      · show T.get j (T.set (adv b s.n) _ _) = _; rw [T.get_set, if_neg fun c => by rw [c, ← hn] at q1; omega]
      · show (adv b s.n).succ = _; rw [hn]
  · exact xactM_ok hG hT i e
noncomputable def xrun (P : Program) (U : List Ent) (b : Pos) : List O → T AV → XS → Option (T AV × XS)
  | [], env, s => some (env, s)
  | o :: l, env, s => if o.ok = true then (if wantedA o env = true then (match xop P U b env s o.op with
    | some p => xrun P U b l (setD env o.dst p.1) p.2
    | none => none) else xrun P U b l (setD env o.dst .undef) s) else none
theorem leads_xrun (hG : ∀ h, Only W h0 h → G h) (hT : ∀ e ∈ U, EntK P G e) : ∀ {l : List O} {env env' : T AV} {s s' : XS} {h : Hp}, XI b W h0 s h → xrun P U b l env s = some (env', s') →
    ∃ h', XI b W h0 s' h' ∧ ∀ (cx : Cx) (k : List Item), Leads P (sOf cx (.ops l :: k) env h) (sOf cx (.ops [] :: k) env' h')
  | [], _, _, _, _, h, i, e => by cases e; exact ⟨h, i, fun _ _ => .refl _⟩
  | o :: l, env, env', s, s', h, i, e => by
    unfold xrun at e
    split at e
    · rename_i ho
      split at e
      · rename_i hw
        split at e
        · rename_i p q
          obtain ⟨v, s1⟩ := p
          obtain ⟨h1, i1, w⟩ := xop_ok hG hT i q
          obtain ⟨h', i', L⟩ := leads_xrun hG hT i1 e
          refine ⟨h', i', fun cx k => ?_⟩
          rcases w with w | ⟨f, args, w, t⟩
          · exact (leads_step (noRec_sound P) (op_step ho hw w)).trans (L cx k)
          · exact (leads_kitH ho hw w (t.kit hT)).trans (L cx k)
        · cases e
      · rename_i hw
        obtain ⟨h', i', L⟩ := leads_xrun hG hT i e
        exact ⟨h', i', fun cx k => (leads_step (noRec_sound P) (op_skip ho (by simpa using hw))).trans (L cx k)⟩
    · cases e
end
end Go.Proofs.YtjhgembcdndmkaaGreatDoor.Am

namespace Go.Proofs.YtjhgembcdndmkaaGreatDoor.Am
open Go.RowKit
structure XQ where
  env : T AV
  s : XS
  pend : List (Nat × XB)
  rid : Nat
  am : Nat
  fin : Bool
def xins (m : Nat) : List (Nat × XB) → List XB → List XB
  | [], X => X
  | p :: l, X => xins m l (if m.testBit p.1 = true then p.2 :: X else X)
def xrem (m : Nat) : List (Nat × XB) → List (Nat × XB)
  | [] => []
  | p :: l => if m.testBit p.1 = true then xrem m l else p :: xrem m l
def xall : List (Nat × XB) → List XB → List XB
  | [], X => X
  | p :: l, X => xall l (p.2 :: X)
def xfresh (pend : List (Nat × XB)) : AV → Bool
  | .ptr id _ _ => pend.any fun p => decide (p.2.id = id)
  | _ => false
noncomputable def xdr (P : Program) (U : List Ent) (b : Pos) (X0 : List XB) (i : Nat) (q : XQ) (o : O) : Option XQ :=
  match kindOf o.op with
  | .still => if wantedA o q.env = true then (xst P q.env o.op).map fun v => { q with env := setD q.env o.dst v } else some { q with env := setD q.env o.dst .undef }
  | .load => if wantedA o q.env = true then (if q.fin = true then none else match xld X0 q.env o.op with
      | some v => if eqAV 8 v v = true then some { q with env := setD q.env o.dst v } else none
      | none => if q.am &&& o.before = q.am then (match xld q.s.X q.env o.op with
        | some v => if eqAV 8 v v = true then some { q with env := setD q.env o.dst v } else none
        | none => none) else none) else some { q with env := setD q.env o.dst .undef }
  | .alloc => if wantedA o q.env = true then (match xal q.env (adv b q.rid) o.op with
      | some p => some { q with env := setD q.env o.dst p.1, pend := (i, ⟨adv b q.rid, 0, true, p.2⟩) :: q.pend, rid := q.rid + 1 }
      | none => none) else some { q with env := setD q.env o.dst .undef, rid := q.rid + 1 }
  | .actor => if wantedA o q.env = true then (match o.op with
      | .call w args => if q.fin = true then none else (match xact U b q.env ⟨q.s.n, xins o.before q.pend q.s.X⟩ (.call w args) with
        | some p => some ⟨setD q.env o.dst p.1, p.2, xrem o.before q.pend, q.rid, q.am ||| 2 ^ i, false⟩
        | none => none)
      | .store n a x => if (2 ^ i - 1) &&& o.before = 2 ^ i - 1 then (match xact U b q.env ⟨q.s.n, xins o.before q.pend q.s.X⟩ (.store n a x) with
        | some p => some ⟨setD q.env o.dst p.1, p.2, xrem o.before q.pend, q.rid, q.am ||| 2 ^ i, true⟩
        | none => none) else if q.fin = false ∧ xfresh q.pend (ev q.env a) = true then (match xact U b q.env ⟨q.s.n, xins o.before q.pend q.s.X⟩ (.store n a x) with
        | some p => some ⟨setD q.env o.dst p.1, p.2, xrem o.before q.pend, q.rid, q.am ||| 2 ^ i, false⟩
        | none => none) else none
      | .append es bytes x y => if (2 ^ i - 1) &&& o.before = 2 ^ i - 1 then (match xact U b q.env ⟨q.s.n, xins o.before q.pend q.s.X⟩ (.append es bytes x y) with
        | some p => some ⟨setD q.env o.dst p.1, p.2, xrem o.before q.pend, q.rid, q.am ||| 2 ^ i, !(!q.fin && xapF ⟨q.s.n, xins o.before q.pend q.s.X⟩ es (ev q.env y) p.2)⟩
        | none => none) else none
      | _ => none) else some { q with env := setD q.env o.dst .undef }
noncomputable def xdrs (P : Program) (U : List Ent) (b : Pos) (X0 : List XB) : Nat → List O → XQ → Option XQ
  | _, [], q => some q
  | i, o :: l, q => match xdr P U b X0 i q o with
    | some q' => xdrs P U b X0 (i + 1) l q'
    | none => none
noncomputable def allocs : List O → Nat
  | [] => 0
  | o :: l => (if isAlloc o.op = true then 1 else 0) + allocs l
noncomputable def xdrawn (P : Program) (U : List Ent) (b : Pos) (l : List O) (env : T AV) (s : XS) : Option (T AV × XS) :=
  (xdrs P U b s.X 0 l ⟨env, ⟨s.n + allocs l, s.X⟩, [], s.n, 0, false⟩).map fun q => (q.env, ⟨q.s.n, xall q.pend q.s.X⟩)
theorem skipIds_adv (b : Pos) : ∀ (l : List O) (n : Nat), skipIds l (adv b n) = adv b (n + allocs l)
  | [], n => rfl
  | o :: l, n => by
    unfold skipIds allocs
    cases h : isAlloc o.op with
    | true => rw [cond_true, if_pos rfl, show (adv b n).succ = adv b (n + 1) from rfl, skipIds_adv b l, Nat.add_assoc]
    | false => rw [cond_false, if_neg (by simp), skipIds_adv b l, Nat.zero_add]
section
variable {P : Program} {U : List Ent} {b : Pos} {W : List Pos} {h0 h : Hp}
def PR (a : Al) (p : Nat × XB) : Prop := a.i = p.1 ∧ a.id = p.2.id ∧ ∃ ser c hi m fz, a.b = .cells ser c 0 hi p.2.g m false fz ∧ c.wf ∧ c.toL = p.2.l
inductive PRs : List Al → List (Nat × XB) → Prop where
  | nil : PRs [] []
  | cons {a : Al} {p : Nat × XB} {l : List Al} {r : List (Nat × XB)} (h : PR a p) (t : PRs l r) : PRs (a :: l) (p :: r)
structure PL (b : Pos) (X : List XB) (N M : Nat) (pend : List (Nat × XB)) : Prop where
  lo : ∀ p ∈ pend, b.num ≤ p.2.id.num
  hi : ∀ p ∈ pend, p.2.id.num < N
  hiM : ∀ p ∈ pend, p.2.id.num < M
  ne : ∀ p ∈ pend, ∀ y ∈ X, y.id ≠ p.2.id
  ap : pend.Pairwise fun p q => p.2.id ≠ q.2.id
theorem ins_ok (m : Nat) : ∀ {als : List Al} {pend : List (Nat × XB)} {X : List XB} {n N : Nat} {h : Hp}, PRs als pend → XI b W h0 ⟨n, X⟩ h → PL b X N h.next.num pend →
    XI b W h0 ⟨n, xins m pend X⟩ ⟨insT m als h.heap, h.next, h.ser, h.lim⟩ ∧ PRs (remAl m als) (xrem m pend) ∧ (∀ x ∈ X, x ∈ xins m pend X) ∧ (∀ x ∈ xins m pend X, x ∈ X ∨ ∃ p ∈ pend, m.testBit p.1 = true ∧ x = p.2) ∧ ∀ p ∈ xrem m pend, p ∈ pend ∧ m.testBit p.1 = false := by
  intro als
  induction als with
  | nil =>
    intro pend X n N h r i _
    cases r
    exact ⟨i, .nil, fun _ k => k, fun _ k => .inl k, fun p k => by cases k⟩
  | cons a als ih =>
    intro pend X n N h r i pl
    cases r with
    | @cons _ p _ pend hp t =>
      obtain ⟨p1, p2, ser, c, hi, mm, fz, p3, p4, p5⟩ := hp
      obtain ⟨l1, l2, lM, l3, l4⟩ := pl
      rw [List.pairwise_cons] at l4
      have rest : ∀ (X' : List XB), (∀ x ∈ X', x ∈ X ∨ x = p.2) → PL b X' N h.next.num pend := fun X' hX' =>
        ⟨fun q m => l1 q (List.mem_cons_of_mem _ m), fun q m => l2 q (List.mem_cons_of_mem _ m), fun q m => lM q (List.mem_cons_of_mem _ m), fun q m y my => by
          rcases hX' y my with k | k
          · exact l3 q (List.mem_cons_of_mem _ m) y k
          · subst k; exact l4.1 q m, l4.2⟩
      cases hb : m.testBit p.1 with
      | true =>
        have i' := i.ins (x := p.2) (ser := ser) (hi := hi) (m := mm) (fz := fz) p4 p5 (l1 p (by simp)) (lM p (by simp)) (l3 p (by simp))
        obtain ⟨k1, k2, k3, k4, k5⟩ := ih t i' (rest (p.2 :: X) fun x hx => by
          rcases List.mem_cons.1 hx with e | e
          · exact .inr e
          · exact .inl e)
        refine ⟨?_, ?_, ?_, ?_, ?_⟩
        · have e1 : xins m (p :: pend) X = xins m pend (p.2 :: X) := by rw [xins, hb, if_pos rfl]
          have e2 : insT m (a :: als) h.heap = insT m als (T.set p.2.id (some (.cells ser c 0 hi p.2.g mm false fz)) h.heap) := by
            show putT _ (a :: als) _ = putT _ als _
            rw [putT, p1, hb, if_pos rfl, p2, p3]
          rw [e1, e2]; exact k1
        · have e1 : xrem m (p :: pend) = xrem m pend := by rw [xrem, hb, if_pos rfl]
          have e2 : remAl m (a :: als) = remAl m als := by rw [remAl, p1, bit_eq, hb]; rfl
          rw [e1, e2]; exact k2
        · intro x hx
          rw [xins, hb, if_pos rfl]
          exact k3 x (List.mem_cons_of_mem _ hx)
        · intro x hx
          rw [xins, hb, if_pos rfl] at hx
          rcases k4 x hx with e | ⟨q, q1, q2⟩
          · rcases List.mem_cons.1 e with e | e
            · exact .inr ⟨p, by simp, hb, e⟩
            · exact .inl e
          · exact .inr ⟨q, List.mem_cons_of_mem _ q1, q2⟩
        · intro q hq
          rw [xrem, hb, if_pos rfl] at hq
          obtain ⟨q1, q2⟩ := k5 q hq
          exact ⟨List.mem_cons_of_mem _ q1, q2⟩
      | false =>
        obtain ⟨k1, k2, k3, k4, k5⟩ := ih t i (rest X fun x hx => .inl hx)
        refine ⟨?_, ?_, ?_, ?_, ?_⟩
        · have e1 : xins m (p :: pend) X = xins m pend X := by rw [xins, hb, if_neg (by simp)]
          have e2 : insT m (a :: als) h.heap = insT m als h.heap := by
            show putT _ (a :: als) _ = putT _ als _
            rw [putT, p1, hb, if_neg (by simp)]
          rw [e1, e2]; exact k1
        · have e1 : xrem m (p :: pend) = p :: xrem m pend := by rw [xrem, hb, if_neg (by simp)]
          have e2 : remAl m (a :: als) = a :: remAl m als := by rw [remAl, p1, bit_eq, hb]; rfl
          rw [e1, e2]; exact .cons ⟨p1, p2, ser, c, hi, mm, fz, p3, p4, p5⟩ k2
        · intro x hx
          rw [xins, hb, if_neg (by simp)]
          exact k3 x hx
        · intro x hx
          rw [xins, hb, if_neg (by simp)] at hx
          rcases k4 x hx with e | ⟨q, q1, q2⟩
          · exact .inl e
          · exact .inr ⟨q, List.mem_cons_of_mem _ q1, q2⟩
        · intro q hq
          rw [xrem, hb, if_neg (by simp)] at hq
          rcases List.mem_cons.1 hq with e | e
          · subst e; exact ⟨by simp, hb⟩
          · obtain ⟨q1, q2⟩ := k5 q e
            exact ⟨List.mem_cons_of_mem _ q1, q2⟩
theorem all_ok : ∀ {als : List Al} {pend : List (Nat × XB)} {X : List XB} {n N : Nat} {h : Hp}, PRs als pend → XI b W h0 ⟨n, X⟩ h → PL b X N h.next.num pend → XI b W h0 ⟨n, xall pend X⟩ ⟨allT als h.heap, h.next, h.ser, h.lim⟩ := by
  intro als
  induction als with
  | nil => intro pend X n N h r i _; cases r; exact i
  | cons a als ih =>
    intro pend X n N h r i pl
    cases r with
    | @cons _ p _ pend hp t =>
      obtain ⟨p1, p2, ser, c, hi, mm, fz, p3, p4, p5⟩ := hp
      obtain ⟨l1, l2, lM, l3, l4⟩ := pl
      rw [List.pairwise_cons] at l4
      have i' := i.ins (x := p.2) (ser := ser) (hi := hi) (m := mm) (fz := fz) p4 p5 (l1 p (by simp)) (lM p (by simp)) (l3 p (by simp))
      have k := ih (N := N) t i' ⟨fun q m => l1 q (List.mem_cons_of_mem _ m), fun q m => l2 q (List.mem_cons_of_mem _ m), fun q m => lM q (List.mem_cons_of_mem _ m), fun q m y my => by
          rcases List.mem_cons.1 my with k | k
          · subst k; exact l4.1 q m
          · exact l3 q (List.mem_cons_of_mem _ m) y k, l4.2⟩
      have e2 : allT (a :: als) h.heap = allT als (T.set p.2.id (some (.cells ser c 0 hi p.2.g mm false fz)) h.heap) := by
        show putT _ (a :: als) _ = putT _ als _
        rw [putT, if_pos rfl, p2, p3]
      rw [xall, e2]; exact k
end
end Go.Proofs.YtjhgembcdndmkaaGreatDoor.Am

namespace Go.Proofs.YtjhgembcdndmkaaGreatDoor.Am
open Go.RowKit
section
variable {P : Program} {G : Hp → Prop} {U : List Ent} {b : Pos} {W : List Pos} {h0 h : Hp} {s s' : XS}
theorem xact_call (hG : ∀ h, Only W h0 h → G h) (hT : ∀ e ∈ U, EntOK P G e) {env : T AV} {w : Cl} {args : List Opd} {v : AV} (i : XI b W h0 s h) (e : xact U b env s (.call w args) = some (v, s')) :
    ∃ h' f xs, evalOp P (.call w args) env h = .enter f xs h ∧ TabFn G U f xs h v h' ∧ XI b W h0 s' h' ∧ Only [] h h' ∧ (∀ x ∈ s.X, x ∈ s'.X) ∧ ∀ x ∈ s'.X, x ∈ s.X ∨ x.id = adv b s.n := by
  cases w <;> first | (change none = some _ at e; cases e; done) | skip
  rename_i f
  simp only [xact] at e
  split at e
  · rename_i g fi ca hf
    obtain ⟨h', t, i', q⟩ := xcall_ok hG i e
    refine ⟨h', g, _, ?_, t, i', q⟩
    have ok : okCall P g = true := by
      obtain ⟨_, en, _, _, t1, _⟩ := t
      obtain ⟨m, rfl⟩ := tget_mem t1
      exact (hT en m).1
    rw [qev_callv, hf]
    exact callA_ok ok h _
  · cases e
theorem xact_store {env : T AV} {n : Nat} {a x : Opd} {v : AV} (i : XI b W h0 s h) (e : xact U b env s (.store n a x) = some (v, s')) :
    ∃ h', evalOp P (.store n a x) env h = .val v h' ∧ XI b W h0 s' h' ∧ s'.X.map (·.id) = s.X.map (·.id) ∧ s'.n = s.n := by
  simp only [xact] at e
  split at e
  · rename_i c
    obtain ⟨c1, c2, c3⟩ := c
    split at e
    · rename_i id off ha
      cases q : xput s.X id off (ev env x).cells with
      | none => rw [q] at e; cases e
      | some X' =>
        rw [q] at e
        cases e
        obtain ⟨h', w, i'⟩ := xput_ok i q (by omega) (List.all_eq_true.1 c3)
        refine ⟨h', ?_, i', (xput_ids q).1, rfl⟩
        rw [qev_store, ha]
        show (bif Nat.beq (ev env x).cells.length n then writeN h id 0 off (Cells.ofL (ev env x).cells) fun h => Res.val .undef h else .fail "store size") = _
        rw [beq_iff.2 c1, cond_true, w]
    · cases e
  · cases e
theorem xact_store_keep {env : T AV} {n : Nat} {a x : Opd} {v : AV} {id : Pos} {g off : Nat} (e : xact U b env s (.store n a x) = some (v, s')) (ha : ev env a = .ptr id g off) : ∀ y ∈ s.X, y.id ≠ id → y ∈ s'.X := by
  simp only [xact] at e
  split at e
  · rw [ha] at e
    split at e
    · rename_i id' off' q
      cases q
      cases q : xput s.X id off (ev env x).cells with
      | none => rw [q] at e; cases e
      | some X' =>
        rw [q] at e
        cases e
        exact fun y m c => xput_keep q y m c
    · cases e
  · cases e
structure DR (P : Program) (b : Pos) (W : List Pos) (h0 : Hp) (X0 : List XB) (M i : Nat) (q : XQ) (d : DS) : Prop where
  env : d.env = q.env
  rid : d.rid = adv b q.rid
  inv : XI b W h0 q.s d.h
  als : PRs d.als q.pend
  pl : PL b q.s.X (adv b q.rid).num d.h.next.num q.pend
  far : ∀ x ∈ q.s.X, x.id.num < (adv b q.rid).num ∨ b.num + M ≤ x.id.num
  acts : ∀ a ∈ d.acts, a.i < i ∧ q.am.testBit a.i = true ∧ (q.fin = false → AllH X0 a.h)
  lds : ∀ l ∈ d.lds, l.i < i ∧ (q.fin = false → eqAV 8 l.v l.v = true ∧ ∃ Y, (∀ y ∈ Y, y ∈ q.s.X) ∧ ∀ h, AllH Y h → evalOp P l.op l.env h = .val l.v h)
  x0 : q.fin = false → ∀ x ∈ X0, x ∈ q.s.X
  big : b.num + M ≤ d.h.next.num
theorem look_again {m : Nat} {h' : Hp} : ∀ {l : List Ld}, (∀ d ∈ l, m.testBit d.i = true ∨ (evalOp P d.op d.env h' = .val d.v h' ∧ eqAV 8 d.v d.v = true)) → lookAgain P h' m l = true
  | [], _ => rfl
  | d :: l, hd => by
    unfold lookAgain
    rw [look_again fun x hx => hd x (List.mem_cons_of_mem _ hx), bit_eq]
    rcases hd d (by simp) with q | ⟨q1, q2⟩
    · rw [q]; rfl
    · rw [q1]; simp only [q2, Bool.or_true, Bool.and_true]
theorem look_back {op : AOp} {env : T AV} {v : AV} {m : Nat} (hv : eqAV 8 v v = true) : ∀ {l : List Actor}, (∀ a ∈ l, m.testBit a.i = true ∨ evalOp P op env a.h = .val v a.h) → lookBack P op env v m l = true
  | [], _ => rfl
  | a :: l, ha => by
    unfold lookBack
    rw [look_back hv fun x hx => ha x (List.mem_cons_of_mem _ hx), bit_eq]
    rcases ha a (by simp) with q | q
    · rw [q]; rfl
    · rw [q]; simp only [hv, Bool.or_true, Bool.and_true]
theorem DR.put {X0 : List XB} {M i : Nat} {q : XQ} {d : DS} (r : DR P b W h0 X0 M i q d) (env : T AV) : DR P b W h0 X0 M (i + 1) { q with env := env } { d with env := env } :=
  ⟨rfl, r.rid, r.inv, r.als, r.pl, r.far, fun a m => let ⟨p1, p2⟩ := r.acts a m; ⟨by omega, p2⟩, fun l m => let ⟨p1, p2⟩ := r.lds l m; ⟨by omega, p2⟩, r.x0, r.big⟩
theorem xrem_sub (m : Nat) : ∀ l, (xrem m l).Sublist l
  | [] => .slnil
  | p :: l => by
    unfold xrem
    split
    · exact (xrem_sub m l).cons _
    · exact (xrem_sub m l).cons_cons _
theorem pend_eq : ∀ {l : List (Nat × XB)}, (l.Pairwise fun p q => p.2.id ≠ q.2.id) → ∀ y ∈ l, ∀ z ∈ l, y.2.id = z.2.id → y = z
  | [], _, y, m, _, _, _ => by cases m
  | a :: X, p, y, my, z, mz, e => by
    rw [List.pairwise_cons] at p
    rcases List.mem_cons.1 my with c | c
    · rcases List.mem_cons.1 mz with d | d
      · rw [c, d]
      · rw [c] at e; exact absurd e (p.1 z d)
    · rcases List.mem_cons.1 mz with d | d
      · rw [d] at e; exact absurd e.symm (p.1 y c)
      · exact pend_eq p.2 y c z d e
theorem cover {i m j : Nat} (h : (2 ^ i - 1) &&& m = 2 ^ i - 1) (hj : j < i) : m.testBit j = true := by
  have := congrArg (·.testBit j) h
  simp only [Nat.testBit_and, Nat.testBit_two_pow_sub_one] at this
  simpa [hj] using this
theorem cover_am {a m j : Nat} (h : a &&& m = a) (hj : a.testBit j = true) : m.testBit j = true := by
  have := congrArg (·.testBit j) h
  simp only [Nat.testBit_and, hj] at this
  simpa using this
theorem DR.actor {X0 : List XB} {M i m : Nat} {q : XQ} {d : DS} {s' : XS} {h' : Hp} {env : T AV} {fin : Bool} (r : DR P b W h0 X0 M i q d)
    (k1 : XI b W h0 s' h') (kn : d.h.next.num ≤ h'.next.num) (kids : ∀ x ∈ s'.X, (∃ y ∈ xins m q.pend q.s.X, y.id = x.id) ∨ x.id = d.h.next)
    (p2 : PRs (remAl m d.als) (xrem m q.pend)) (p4 : ∀ x ∈ xins m q.pend q.s.X, x ∈ q.s.X ∨ ∃ p ∈ q.pend, m.testBit p.1 = true ∧ x = p.2) (p5 : ∀ p ∈ xrem m q.pend, p ∈ q.pend ∧ m.testBit p.1 = false)
    (hf : fin = false → q.fin = false ∧ ∀ x ∈ q.s.X, x ∈ s'.X) : DR P b W h0 X0 M (i + 1) ⟨env, s', xrem m q.pend, q.rid, q.am ||| 2 ^ i, fin⟩ ⟨⟨i, d.h⟩ :: d.acts, d.lds, remAl m d.als, d.rid, env, h'⟩ := by
  obtain ⟨l1, l2, lM, l3, l4⟩ := r.pl
  refine ⟨rfl, r.rid, k1, p2, ⟨fun p hp => l1 p (p5 p hp).1, fun p hp => l2 p (p5 p hp).1, fun p hp => Nat.lt_of_lt_of_le (lM p (p5 p hp).1) kn, fun p hp y hy => ?_, l4.sublist (xrem_sub m _)⟩, fun x hx => ?_, fun a ha => ?_, fun l hl => ?_, fun c x hx => ?_, Nat.le_trans r.big kn⟩
  · rcases kids y hy with ⟨z, z1, z2⟩ | e
    · rw [← z2]
      rcases p4 z z1 with c | ⟨p', c1, c2, c3⟩
      · exact l3 p (p5 p hp).1 z c
      · subst c3
        intro e
        have := pend_eq l4 p' c1 p (p5 p hp).1 e
        subst this
        rw [(p5 _ hp).2] at c2; cases c2
    · rw [e]
      intro c
      have := lM p (p5 p hp).1
      rw [← c] at this
      exact absurd this (Nat.lt_irrefl _)
  · rcases kids x hx with ⟨z, z1, z2⟩ | e
    · rw [← z2]
      rcases p4 z z1 with c | ⟨p', c1, _, c3⟩
      · exact r.far z c
      · subst c3; exact .inl (l2 p' c1)
    · rw [e]; exact .inr r.big
  · rcases List.mem_cons.1 ha with e | ha
    · subst e
      refine ⟨by simp, by simp [Nat.testBit_or], fun c x hx => r.inv.all x (r.x0 (hf c).1 x hx)⟩
    · obtain ⟨c1, c2, c3⟩ := r.acts a ha
      exact ⟨by omega, by rw [Nat.testBit_or, c2]; rfl, fun c => c3 (hf c).1⟩
  · obtain ⟨c1, c2⟩ := r.lds l hl
    refine ⟨by omega, fun c => ?_⟩
    obtain ⟨d1, Y, d2, d3⟩ := c2 (hf c).1
    exact ⟨d1, Y, fun y hy => (hf c).2 y (d2 y hy), d3⟩
  · exact (hf c).2 x (r.x0 (hf c).1 x hx)
theorem isAlloc_kind {o : AOp} : isAlloc o = true ↔ kindOf o = .alloc := by
  unfold isAlloc
  cases kindOf o <;> simp
theorem xdr_ok (hG : ∀ h, Only W h0 h → G h) (hT : ∀ e ∈ U, EntOK P G e) {X0 : List XB} {M i : Nat} {q q' : XQ} {d : DS} {o : O} (r : DR P b W h0 X0 M i q d) (hM : q.rid + (if isAlloc o.op = true then 1 else 0) ≤ M) (e : xdr P U b X0 i q o = some q') :
    ∃ d', stepE P (recT P G U) i d o = some d' ∧ DR P b W h0 X0 M (i + 1) q' d' ∧ q'.rid = q.rid + (if isAlloc o.op = true then 1 else 0) := by
  have hw : wantedA o d.env = wantedA o q.env := by rw [r.env]
  unfold xdr at e
  split at e
  · rename_i hk
    have ha : isAlloc o.op = false := by unfold isAlloc; rw [hk]
    rw [ha]
    have se : stepE P (recT P G U) i d o = stepD P (recT P G U) i d o := by unfold stepE; rw [hk]
    rw [se]
    unfold stepD
    rw [hw, hk]
    split at e
    · rename_i w
      cases x : xst P q.env o.op with
      | none => rw [x] at e; cases e
      | some v =>
        rw [x] at e
        cases e
        rw [if_pos w]
        simp only [r.env, xst_ok hk x d.h]
        exact ⟨_, rfl, by rw [show d = { d with env := q.env } from by rw [← r.env]]; exact r.put _, by simp⟩
    · rename_i w
      cases e
      rw [if_neg w]
      simp only [r.env]
      exact ⟨_, rfl, by rw [show d = { d with env := q.env } from by rw [← r.env]]; exact r.put _, by simp⟩
  · rename_i hk
    have ha : isAlloc o.op = false := by unfold isAlloc; rw [hk]
    rw [ha]
    have se : stepE P (recT P G U) i d o = stepD P (recT P G U) i d o := by unfold stepE; rw [hk]
    rw [se]
    unfold stepD
    rw [hw, hk]
    split at e
    · rename_i w
      rw [if_pos w]
      split at e
      · cases e
      · rename_i hfin
        have hfin : q.fin = false := by simpa using hfin
        have go : ∀ (v : AV) (Y : List XB), (∀ y ∈ Y, y ∈ q.s.X) → xld Y q.env o.op = some v → eqAV 8 v v = true → (∀ a ∈ d.acts, o.before.testBit a.i = true ∨ evalOp P o.op q.env a.h = .val v a.h) →
            ∃ d', (match evalOp P o.op d.env d.h with
              | .val v _ => if lookBack P o.op d.env v o.before d.acts = true then some (⟨d.acts, ⟨i, o.op, d.env, v⟩ :: d.lds, d.als, d.rid, setD d.env o.dst v, d.h⟩ : DS) else none
              | _ => none) = some d' ∧ DR P b W h0 X0 M (i + 1) { q with env := setD q.env o.dst v } d' ∧ q.rid = q.rid + 0 := fun v Y hY x hv hb => by
          have al : AllH Y d.h := fun y hy => r.inv.all y (hY y hy)
          rw [r.env]
          simp only [xld_ok al x, look_back hv hb, if_pos]
          refine ⟨_, rfl, ?_, rfl⟩
          have r' := r.put (setD q.env o.dst v)
          exact ⟨r'.env, r'.rid, r'.inv, r'.als, r'.pl, r'.far, r'.acts, fun l hl => by
            rcases List.mem_cons.1 hl with c | c
            · subst c; exact ⟨by simp, fun _ => ⟨hv, Y, hY, fun h hh => xld_ok hh x⟩⟩
            · exact r'.lds l c, r'.x0, r'.big⟩
        split at e
        · rename_i v x
          split at e
          · rename_i hv
            cases e
            exact go v X0 (r.x0 hfin) x hv fun a ha => .inr (xld_ok ((r.acts a ha).2.2 hfin) x)
          · cases e
        · split at e
          · rename_i hcov
            split at e
            · rename_i v x
              split at e
              · rename_i hv
                cases e
                exact go v q.s.X (fun _ m => m) x hv fun a ha => .inl (cover_am hcov (r.acts a ha).2.1)
              · cases e
            · cases e
          · cases e
    · rename_i w
      cases e
      rw [if_neg w]
      simp only [r.env]
      exact ⟨_, rfl, by rw [show d = { d with env := q.env } from by rw [← r.env]]; exact r.put _, by simp⟩
  · rename_i hk
    have ha : isAlloc o.op = true := isAlloc_kind.2 hk
    rw [ha, if_pos rfl] at hM
    rw [ha]
    unfold stepE
    rw [hk, hw]
    have n1 : (adv b q.rid).num = b.num + q.rid := adv_num _ _
    have n2 : (adv b (q.rid + 1)).num = b.num + (q.rid + 1) := adv_num _ _
    split at e
    · rename_i w
      rw [if_pos w]
      cases x : xal q.env (adv b q.rid) o.op with
      | none => rw [x] at e; cases e
      | some p =>
        obtain ⟨v, l⟩ := p
        rw [x] at e
        cases e
        obtain ⟨c, fz, c1, c2, c3⟩ := xal_ok (P := P) x
        simp only [r.env, c3 ⟨.e, d.rid, d.h.ser, d.rid.num + 1⟩ r.rid]
        rw [r.rid, show T.get (adv b q.rid) (T.set (adv b q.rid) (some (Blk.cells 0 c 0 0 0 0 false fz)) (T.e)) = some (Blk.cells 0 c 0 0 0 0 false fz) from by rw [T.get_set, if_pos rfl]]
        refine ⟨_, rfl, ?_, by simp⟩
        have r' := r.put (setD q.env o.dst v)
        obtain ⟨l1, l2, lM, l3, l4⟩ := r.pl
        refine ⟨rfl, rfl, r'.inv, .cons ⟨rfl, rfl, 0, c, 0, 0, fz, rfl, c1, c2⟩ r.als, ⟨fun p hp => ?_, fun p hp => ?_, fun p hp => ?_, fun p hp y hy => ?_, List.pairwise_cons.2 ⟨fun p hp => ?_, l4⟩⟩, fun x hx => ?_, r'.acts, r'.lds, r'.x0, r'.big⟩
        · rcases List.mem_cons.1 hp with e | hp
          · subst e; show _ ≤ (adv b q.rid).num; omega
          · exact l1 p hp
        · rcases List.mem_cons.1 hp with e | hp
          · subst e; show (adv b q.rid).num < (adv b (q.rid + 1)).num; omega
          · have := l2 p hp; show _ < (adv b (q.rid + 1)).num; omega
        · rcases List.mem_cons.1 hp with e | hp
          · subst e; show (adv b q.rid).num < d.h.next.num; have := r.big; omega
          · exact lM p hp
        · rcases List.mem_cons.1 hp with e | hp
          · subst e
            intro c
            have c : y.id = adv b q.rid := c
            rcases r.far y hy with f | f <;> rw [c] at f <;> omega
          · exact l3 p hp y hy
        · intro c
          have c : adv b q.rid = p.2.id := c
          have := l2 p hp
          rw [← c] at this
          exact absurd this (Nat.lt_irrefl _)
        · rcases r.far x hx with f | f
          · left; show _ < (adv b (q.rid + 1)).num; omega
          · exact .inr f
    · rename_i w
      cases e
      rw [if_neg w]
      simp only [r.env]
      refine ⟨_, rfl, ?_, by simp⟩
      have r' := r.put (setD q.env o.dst .undef)
      refine ⟨rfl, by show d.rid.succ = (adv b q.rid).succ; rw [r.rid], r'.inv, r.als, ⟨r.pl.lo, fun p hp => by have := r.pl.hi p hp; show _ < (adv b (q.rid + 1)).num; omega, r.pl.hiM, r.pl.ne, r.pl.ap⟩, fun x hx => ?_, r'.acts, r'.lds, r'.x0, r'.big⟩
      rcases r.far x hx with f | f
      · left; show _ < (adv b (q.rid + 1)).num; omega
      · exact .inr f
  · rename_i hk
    have ha : isAlloc o.op = false := by unfold isAlloc; rw [hk]
    rw [ha]
    have se : stepE P (recT P G U) i d o = stepD P (recT P G U) i d o := by unfold stepE; rw [hk]
    rw [se]
    unfold stepD
    rw [hw, hk]
    split at e
    · rename_i w
      rw [if_pos w]
      obtain ⟨i1, i2, i3, i4, i5⟩ := ins_ok o.before r.als (X := q.s.X) (n := q.s.n) r.inv r.pl
      split at e
      · rename_i cl args hop
        split at e
        · cases e
        · rename_i hfin
          have hfin : q.fin = false := by simpa using hfin
          split at e
          · rename_i p x
            obtain ⟨v, s'⟩ := p
            cases e
            obtain ⟨h', f, xs, e1, t, k1, k2, k3, k4⟩ := xact_call hG hT i1 x
            have ac : actO P (recT P G U) (.call cl args) d.env ⟨insT o.before d.als d.h.heap, d.h.next, d.h.ser, d.h.lim⟩ = some (v, h') := by
              rw [r.env]
              unfold actO
              simp only [e1, (t.fn hT).begins.1, recT_hit hT t]
            rw [hop] at hk ⊢
            simp only [ac]
            have la : lookAgain P h' o.before d.lds = true := look_again fun l hl => by
              obtain ⟨_, c2⟩ := r.lds l hl
              obtain ⟨d1, Y, d2, d3⟩ := c2 hfin
              exact .inr ⟨d3 h' fun y hy => k1.all y (k3 y (i3 y (d2 y hy))), d1⟩
            rw [if_pos la, r.env]
            refine ⟨_, rfl, r.actor k1 k2.next (fun y hy => ?_) i2 i4 i5 fun _ => ⟨hfin, fun y hy => k3 y (i3 y hy)⟩, by simp⟩
            rcases k4 y hy with c | c
            · exact .inl ⟨y, c, rfl⟩
            · exact .inr (by rw [c]; exact r.inv.next.symm)
          · cases e
      · rename_i n a x hop
        split at e
        · rename_i hcov
          split at e
          · rename_i p x'
            obtain ⟨v, s'⟩ := p
            cases e
            obtain ⟨h', e1, k1, k2, k3⟩ := xact_store (P := P) i1 x'
            have ac : actO P (recT P G U) (.store n a x) d.env ⟨insT o.before d.als d.h.heap, d.h.next, d.h.ser, d.h.lim⟩ = some (v, h') := by
              rw [r.env]
              unfold actO
              simp only [e1]
            rw [hop] at hk ⊢
            simp only [ac]
            have la : lookAgain P h' o.before d.lds = true := look_again fun l hl => .inl (cover hcov (r.lds l hl).1)
            rw [if_pos la, r.env]
            refine ⟨_, rfl, r.actor k1 (by rw [k1.next, k3, r.inv.next]; exact Nat.le_refl _) (fun y hy => ?_) i2 i4 i5 (fun c => by cases c), by simp⟩
            have : y.id ∈ (xins o.before q.pend q.s.X).map (·.id) := by rw [← k2]; exact List.mem_map_of_mem hy
            obtain ⟨z, z1, z2⟩ := List.mem_map.1 this
            exact .inl ⟨z, z1, z2⟩
          · cases e
        · split at e
          · rename_i hfr
            obtain ⟨hfin, hfr⟩ := hfr
            split at e
            · rename_i p x'
              obtain ⟨v, s'⟩ := p
              cases e
              obtain ⟨h', e1, k1, k2, k3⟩ := xact_store (P := P) i1 x'
              have ac : actO P (recT P G U) (.store n a x) d.env ⟨insT o.before d.als d.h.heap, d.h.next, d.h.ser, d.h.lim⟩ = some (v, h') := by
                rw [r.env]
                unfold actO
                simp only [e1]
              rw [hop] at hk ⊢
              simp only [ac]
              have keep : ∀ y ∈ q.s.X, y ∈ s'.X := fun y hy => by
                unfold xfresh at hfr
                split at hfr
                · rename_i id g off ha
                  obtain ⟨p, mp, hp⟩ := List.any_eq_true.1 hfr
                  have hp := of_decide_eq_true hp
                  refine xact_store_keep x' ha y (i3 y hy) fun c => ?_
                  obtain ⟨_, _, _, l3, _⟩ := r.pl
                  have l3 := l3 p mp y hy
                  first | exact l3 (by rw [c, hp]) | exact l3 (by rw [hp, c])
                · cases hfr
              have la : lookAgain P h' o.before d.lds = true := look_again fun l hl => by
                obtain ⟨_, c2⟩ := r.lds l hl
                obtain ⟨d1, Y, d2, d3⟩ := c2 hfin
                exact .inr ⟨d3 h' fun y hy => k1.all y (keep y (d2 y hy)), d1⟩
              rw [if_pos la, r.env]
              refine ⟨_, rfl, r.actor k1 (by rw [k1.next, k3, r.inv.next]; exact Nat.le_refl _) (fun y hy => ?_) i2 i4 i5 (fun _ => ⟨hfin, keep⟩), by simp⟩
              have : y.id ∈ (xins o.before q.pend q.s.X).map (·.id) := by rw [← k2]; exact List.mem_map_of_mem hy
              obtain ⟨z, z1, z2⟩ := List.mem_map.1 this
              exact .inl ⟨z, z1, z2⟩
            · cases e
          · cases e
      · rename_i es bytes x y hop
        split at e
        · rename_i hcov
          split at e
          · rename_i p x'
            obtain ⟨v, s'⟩ := p
            cases e
            obtain ⟨h', k1, e1⟩ := xap_ok (P := P) i1 x'
            have ac : actO P (recT P G U) (.append es bytes x y) d.env ⟨insT o.before d.als d.h.heap, d.h.next, d.h.ser, d.h.lim⟩ = some (v, h') := by
              rw [r.env]
              unfold actO
              simp only [e1]
            rw [hop] at hk ⊢
            simp only [ac]
            have la : lookAgain P h' o.before d.lds = true := look_again fun l hl => .inl (cover hcov (r.lds l hl).1)
            rw [if_pos la, r.env]
            have hF : (!(!q.fin && xapF ⟨q.s.n, xins o.before q.pend q.s.X⟩ es (ev q.env y) s')) = false → q.fin = false ∧ ∀ x ∈ q.s.X, x ∈ s'.X := fun c => by
              simp only [Bool.not_eq_false', Bool.and_eq_true, Bool.not_eq_true'] at c
              exact ⟨c.1, fun x m => xap_keep x' c.2 x (i3 x m)⟩
            rcases xap_ids x' with ⟨j1, j2⟩ | ⟨c, rfl⟩
            · refine ⟨_, rfl, r.actor k1 (by rw [k1.next, j2, r.inv.next]; exact Nat.le_refl _) (fun y hy => ?_) i2 i4 i5 hF, by simp⟩
              have : y.id ∈ (xins o.before q.pend q.s.X).map (·.id) := by rw [← j1]; exact List.mem_map_of_mem hy
              obtain ⟨z, z1, z2⟩ := List.mem_map.1 this
              exact .inl ⟨z, z1, z2⟩
            · refine ⟨_, rfl, r.actor k1 (by rw [k1.next, r.inv.next]; show (adv b q.s.n).num ≤ (adv b (q.s.n + 1)).num; rw [adv_num, adv_num]; omega) (fun y hy => ?_) i2 i4 i5 hF, by simp⟩
              rcases List.mem_cons.1 hy with c | c
              · exact .inr (by rw [c]; exact r.inv.next.symm)
              · exact .inl ⟨y, c, rfl⟩
          · cases e
        · cases e
      · cases e
    · rename_i w
      cases e
      rw [if_neg w]
      simp only [r.env]
      exact ⟨_, rfl, by rw [show d = { d with env := q.env } from by rw [← r.env]]; exact r.put _, by simp⟩
theorem xdrs_ok (hG : ∀ h, Only W h0 h → G h) (hT : ∀ e ∈ U, EntOK P G e) {X0 : List XB} {M : Nat} : ∀ {l : List O} {i : Nat} {q q' : XQ} {d : DS}, DR P b W h0 X0 M i q d → q.rid + allocs l ≤ M → xdrs P U b X0 i l q = some q' →
    ∃ d', runE P (recT P G U) i l d = some d' ∧ DR P b W h0 X0 M (i + l.length) q' d'
  | [], i, q, q', d, r, _, e => by cases e; exact ⟨d, rfl, r⟩
  | o :: l, i, q, q', d, r, hM, e => by
    unfold xdrs at e
    split at e
    · rename_i q1 e1
      unfold allocs at hM
      obtain ⟨d1, f1, r1, g1⟩ := xdr_ok hG hT r (by omega) e1
      obtain ⟨d', f2, r2⟩ := xdrs_ok hG hT r1 (by omega) e
      refine ⟨d', ?_, by rw [List.length_cons, show i + (l.length + 1) = i + 1 + l.length by omega]; exact r2⟩
      unfold runE
      rw [f1]; exact f2
    · cases e
theorem xdrawn_ok (hG : ∀ h, Only W h0 h → G h) (hT : ∀ e ∈ U, EntOK P G e) {l : List O} {env env' : T AV} (i : XI b W h0 s h) (e : xdrawn P U b l env s = some (env', s')) :
    ∃ h', XI b W h0 s' h' ∧ runDrawn P (recT P G U) l env h = some (env', h') := by
  unfold xdrawn at e
  cases q : xdrs P U b s.X 0 l ⟨env, ⟨s.n + allocs l, s.X⟩, [], s.n, 0, false⟩ with
  | none => rw [q] at e; cases e
  | some q' =>
    rw [q] at e
    cases e
    have hn : skipIds l h.next = adv b (s.n + allocs l) := by rw [i.next, skipIds_adv]
    have hlt : h.next.num ≤ (skipIds l h.next).num := by rw [hn, i.next, adv_num, adv_num]; omega
    have i0 : XI b W h0 ⟨s.n + allocs l, s.X⟩ ⟨h.heap, skipIds l h.next, h.ser, h.lim⟩ :=
      ⟨hn, fun x m => ⟨Nat.lt_of_lt_of_le (i.old m) hlt, (i.all x m).mem⟩, i.apart, i.own, ⟨Nat.le_trans i.only.next hlt, i.only.lim, i.only.same⟩, i.base⟩
    have d0 : DR P b W h0 s.X (s.n + allocs l) 0 ⟨env, ⟨s.n + allocs l, s.X⟩, [], s.n, 0, false⟩ ⟨[], [], [], h.next, env, ⟨h.heap, skipIds l h.next, h.ser, h.lim⟩⟩ :=
      ⟨rfl, i.next, i0, .nil, ⟨fun p m => (by cases m), fun p m => (by cases m), fun p m => (by cases m), fun p m => (by cases m), .nil⟩, fun x m => .inl (by rw [← i.next]; exact i.old m), fun a m => (by cases m), fun a m => (by cases m), fun _ x m => m,
        by show _ ≤ (skipIds l h.next).num; rw [hn, adv_num]; omega⟩
    obtain ⟨d', f, r⟩ := xdrs_ok hG hT d0 (Nat.le_refl _) q
    refine ⟨_, all_ok r.als r.inv r.pl, ?_⟩
    unfold runDrawn
    have w := runE_go (K := kD) (rest := []) f
    rw [List.append_nil] at w
    have w : drawnGo P (recT P G U) kD 0 [] [] [] h.next env ⟨h.heap, skipIds l h.next, h.ser, h.lim⟩ l = drawnGo P (recT P G U) kD (0 + l.length) d'.acts d'.lds d'.als d'.rid d'.env d'.h [] := w
    rw [w]
    show outD (insAll d'.als d'.h.heap fun t => kD d'.env ⟨t, d'.h.next, d'.h.ser, d'.h.lim⟩) = _
    rw [insAll_eq, r.env]
    rfl
end
end Go.Proofs.YtjhgembcdndmkaaGreatDoor.Am
