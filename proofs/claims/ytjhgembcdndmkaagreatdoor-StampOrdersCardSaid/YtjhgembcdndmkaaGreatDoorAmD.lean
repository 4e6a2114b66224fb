import Derived.Lib.Builder
import Derived.Lib.UnsafeStr
import Derived.Lib.MakeNoZero
import Derived.Test.YtjhgembcdndmkaaGreatDoorAmC
/- THE ABSTRACT MACHINE, part D: a machine over values without block numbers, and the proof that the model's machine does what it does. No condition. -/
set_option linter.unusedSimpArgs false
set_option linter.unusedVariables false
namespace Go.Proofs.YtjhgembcdndmkaaGreatDoor.Am
theorem okSize_iff {n b : Nat} : okSize n b = true ↔ n ≤ 140737488355328 ∧ n * b ≤ 140737488355328 ∧ b ≤ 4096 := by
  unfold okSize
  rw [Bool.and_eq_true, Bool.and_eq_true, ble_iff, ble_iff, ble_iff, and_assoc]
  exact Iff.rfl
theorem okSize_small {n b : Nat} (h : n ≤ 1073741824) (hb : b ≤ 4096) : okSize n b = true := okSize_iff.2 ⟨by omega, by
  have : n * b ≤ 1073741824 * 4096 := Nat.mul_le_mul h hb
  omega, hb⟩
theorem growBy_le (newLen : Nat) : ∀ r c, c ≤ newLen + (newLen + 768) / 4 → Builtin.growBy newLen r c ≤ newLen + (newLen + 768) / 4
  | 0, c, h => h
  | r + 1, c, h => by
    unfold Builtin.growBy
    split
    · exact h
    · exact growBy_le newLen r _ (by omega)
theorem nextcap_le {need old : Nat} (h : old < need) : Builtin.nextslicecap need old ≤ need + (need + 768) / 4 + 256 := by
  unfold Builtin.nextslicecap
  split
  · omega
  · split
    · omega
    · have := growBy_le need 4 old (by omega)
      omega
section
variable {P : Program} {φ : Phi} {h : Hp} {w : World}
structure Apps (P : Program) (w : World) (elem : TypeId) (size : Nat) (s : Value) (base : Option Addr) (sLen sCap n : Nat) (appended : Sem (Array Value)) (R : Result Value) : Prop where
  room : ∀ (a : Addr) (xs : List Value) (w' : World), sLen + n ≤ sCap → base = some a → appended.run P w = .ok xs.toArray w → (storeCells (a.add (sLen * size)) xs).run P w = .ok () w' →
    R = .ok (.slice (some a) (sLen + n) sCap) w'
  zero : n = 0 → sLen ≤ sCap → appended.run P w = .ok #[] w → R = .ok (.slice base sLen sCap) w
  grow : ∀ (old xs : List Value) (Z : Value), sCap < sLen + n → okT P elem = true → sLen + n ≤ 140737488355328 → (sLen + n) * P.bytesOf elem ≤ 140737488355328 ∧ P.bytesOf elem ≤ 4096 →
    (Builtin.firstCells size sLen s).run P { w with drawn := w.drawn + 1 } = .ok old.toArray { w with drawn := w.drawn + 1 } → appended.run P { w with drawn := w.drawn + 1 } = .ok xs.toArray { w with drawn := w.drawn + 1 } →
    (zeroValue elem).run P { w with drawn := w.drawn + 1 } = .ok Z { w with drawn := w.drawn + 1 } → Z.cells.size = size → old.length = sLen * size → xs.length = n * size →
    ∃ c spare, sLen + n ≤ c ∧ (old ++ xs ++ spare).length = c * size ∧
      R = .ok (.slice (some ⟨w.heap.size, 0, none⟩) (sLen + n) c) ({ w with drawn := w.drawn + 1 }.alloc (.cells (old ++ xs ++ spare).toArray elem (0, 0)))
theorem spare_len {old xs : List Value} {Z : Value} {size sLen n c : Nat} (hc : sLen + n ≤ c) (hzl : Z.cells.size = size) (hol : old.length = sLen * size) (hxl : xs.length = n * size) :
    (old ++ xs ++ (Builtin.zeroCells Z.cells (c - (sLen + n))).toList).length = c * size := by
  unfold Builtin.zeroCells
  simp only [List.length_append, hol, hxl, Array.length_toList, Array.size_map, Array.size_range, hzl]
  rw [← Nat.add_mul, ← Nat.add_mul]
  congr 1
  omega
theorem grow_le {need sCap b : Nat} (hn : sCap < need) (hb1 : need ≤ 140737488355328) (hb2 : need * b ≤ 140737488355328 ∧ b ≤ 4096) : ¬ (Builtin.nextslicecap need sCap * b > 2 ^ 48) := by
  have hnc := nextcap_le hn
  have : Builtin.nextslicecap need sCap * b ≤ 2 ^ 48 := by
    have h1 : Builtin.nextslicecap need sCap * b * 4 ≤ (need * 5 + 1792) * b := by
      rw [Nat.mul_right_comm]
      exact Nat.mul_le_mul_right b (by omega)
    have h2 : (need * 5 + 1792) * b = 5 * (need * b) + 1792 * b := by rw [Nat.add_mul, Nat.mul_right_comm, Nat.mul_comm (need * b) 5]
    obtain ⟨h3, h4⟩ := hb2
    omega
  omega
def ValR (P : Program) (φ : Phi) (h : Hp) (w : World) (r : Res) (R : Result Value) : Prop :=
  match r with
  | .val v h' => ∃ x w' φ', R = .ok x w' ∧ HR P φ' h' w' ∧ Adv h w φ h' w' φ' ∧ Rel φ' v x
  | .fail _ => True
  | _ => False
theorem newCellsN_eq (note : Nat) (c : Cells) (k : Pos → Hp → Res) : newCellsN h note c k = k h.next ⟨T.set h.next (some (.cells note c 0 0 0 0 false false)) h.heap, h.next.succ, Nat.succ h.ser, h.lim⟩ := by
  unfold newCellsN; rw [newK_eq]
def BytesOk (P : Program) (elem : TypeId) (bytes : Nat) : Prop := bytes = P.bytesOf elem ∧ bytes ≠ 0 ∨ bytes = 0 ∧ P.bytesOf elem = 1 ∧ P.underlying elem = some (.int .u8) ∧ P.cellsOf elem = 1
theorem BytesOk.size {elem : TypeId} {bytes n : Nat} (b : BytesOk P elem bytes) (ok : okSize n bytes = true) : n ≤ 140737488355328 ∧ n * P.bytesOf elem ≤ 140737488355328 ∧ P.bytesOf elem ≤ 4096 := by
  obtain ⟨h1, h2, h3⟩ := okSize_iff.1 ok
  rcases b with ⟨e, _⟩ | ⟨_, e, _⟩
  · rw [← e]; exact ⟨h1, h2, h3⟩
  · rw [e, Nat.mul_one]; exact ⟨h1, h1, by omega⟩
theorem BytesOk.noteB {elem : TypeId} {bytes n : Nat} (b : BytesOk P elem bytes) : NoteR P (noteB bytes) 0 n elem := by
  unfold Am.noteB
  rcases b with ⟨_, e⟩ | ⟨e, _, e2, e3⟩
  · have : Nat.beq bytes 0 = false := by cases h : Nat.beq bytes 0 with
      | false => rfl
      | true => exact absurd (beq_iff.1 h) e
    rw [this]; exact .inl rfl
  · rw [e]; exact .inr (.inl ⟨rfl, e2, e3⟩)
theorem noteG_or (bytes s : Nat) : noteG bytes s = 0 ∨ noteG bytes s = s := by
  unfold noteG
  cases h : (Nat.beq bytes 0 && Nat.beq s 1) with
  | false => exact .inl rfl
  | true => rw [Bool.and_eq_true] at h; exact .inr (beq_iff.1 h.2).symm
theorem BytesOk.noteG {elem : TypeId} {bytes s : Nat} (b : BytesOk P elem bytes) : noteG bytes s = 0 ∨ (noteG bytes s = 1 ∧ s = 1 ∧ P.underlying elem = some (.int .u8) ∧ P.cellsOf elem = 1) := by
  unfold Am.noteG
  cases h : (Nat.beq bytes 0 && Nat.beq s 1) with
  | false => exact .inl rfl
  | true =>
    rw [Bool.and_eq_true] at h
    rcases b with ⟨_, e⟩ | ⟨e, _, e2, e3⟩
    · exact absurd (beq_iff.1 h.1) e
    · exact .inr ⟨rfl, beq_iff.1 h.2, e2, e3⟩
theorem appendSeg_run (hR : HR P φ h w) (hm : Room h) {elem : TypeId} {sv : AV} {S : Value} {n : Nat} {appended : Sem (Array Value)} {R : Result Value} (hA : ∀ base sLen sCap, S = .slice base sLen sCap → Apps P w elem (P.cellsOf elem) S base sLen sCap n appended R) {seg : Cells} {z : AV} (hS : Rel φ sv S) (hw : seg.wf) (hn : 0 < n)
    (hsz : seg.size = n * P.cellsOf elem) (happ : ∀ d, ∃ xs, appended.run P { w with drawn := d } = .ok xs.toArray { w with drawn := d } ∧ RelL φ seg.toL xs) (hk : okT P elem = true) (hz : zeroT P elem = some z)
    (hzl : z.cells.length = P.cellsOf elem) {bytes : Nat} (hB : BytesOk P elem bytes) :
    ValR P φ h w (appendSeg h (P.cellsOf elem) bytes sv n seg) R := by
  have hR1 := hR.drew (w.drawn + 1)
  have hA1 := Adv.drew h w φ (w.drawn + 1)
  obtain ⟨xs, a1, a2⟩ := happ w.drawn
  obtain ⟨xs1, b1, b2⟩ := happ (w.drawn + 1)
  obtain ⟨Z, z1, z2⟩ := zeroT_run hz φ { w with drawn := w.drawn + 1 }
  have hZ : Z.cells.size = P.cellsOf elem := by rw [← hzl, z2.cells.length, Array.length_toList]
  have l1 : xs.length = n * P.cellsOf elem := by rw [← a2.length, Cells.toL_length hw, hsz]
  have l2 : xs1.length = n * P.cellsOf elem := by rw [← b2.length, Cells.toL_length hw, hsz]
  unfold appendSeg
  split
  · -- a nil slice
    cases hS
    cases hb : (okSize n bytes && Nat.blt 0 (P.cellsOf elem)) with
    | false => trivial
    | true =>
      rw [Bool.and_eq_true] at hb
      obtain ⟨c1, c2⟩ := hB.size hb.1
      rw [cond_true, newCellsN_eq]
      obtain ⟨c, spare, e1, e2, e3⟩ := (hA _ _ _ rfl).grow [] xs1 Z (by omega) hk (by omega) (by rw [Nat.zero_add]; exact c2) rfl b1 z1 hZ (by simp) l2
      simp only [List.nil_append] at e2 e3
      rw [Nat.zero_add] at e1 e3
      obtain ⟨n1, n2⟩ := newCells_run hR1 hm (xs := xs1) (spare := spare) hw b2 elem (0, 0) false rfl (noteB bytes) (Nat.succ h.ser) hB.noteB
      refine ⟨_, _, _, e3, n1, hA1.trans hR n2 (hm.was (by simp only [Pos.num_succ]; omega)), ?_⟩
      exact .sl (Phi.put_same _ _ _ _) rfl rfl e1 e1 (Nat.le_refl _) (fun q => by cases q) fun _ => ⟨rfl, by show 0 + c * P.cellsOf elem ≤ _; omega⟩
  · rename_i id g off len cap ex es
    rcases rel_sl hS with ⟨ad, c, b, s, N, rfl, k1, k2, k3, k4, k5, k6, k7, k8⟩ | ⟨ad, rfl, rfl, rfl, rfl⟩
    case inr =>
      -- a slice without room: a new row
      simp only [natK_eq]
      cases hb : (!(Nat.beq (P.cellsOf elem) es && Nat.blt 0 (P.cellsOf elem) && okSize (Nat.add 0 n) bytes)) with
      | true => trivial
      | false =>
        rw [cond_false]
        simp only [Bool.not_eq_false', Bool.and_eq_true] at hb
        obtain ⟨⟨b0, b00⟩, b01⟩ := hb
        have b0 : P.cellsOf elem = es := beq_iff.1 b0
        subst b0
        have b00 := blt_iff.1 b00
        obtain ⟨c1, c2⟩ := hB.size b01
        have c1 : 0 + n ≤ 140737488355328 := c1
        have c2 : (0 + n) * P.bytesOf elem ≤ 140737488355328 ∧ P.bytesOf elem ≤ 4096 := c2
        have hc : Nat.ble (Nat.add 0 n) 0 = false := ble_false.2 (by show 0 < 0 + n; omega)
        simp only [hc, cond_false, cond_true]
        have hr : readN h id g off (Nat.mul 0 (P.cellsOf elem)) = some (.lst 0 []) := by
          rw [show Nat.mul 0 (P.cellsOf elem) = 0 from Nat.zero_mul _]; rfl
        simp only [hr]
        rw [newCellsN_eq]
        obtain ⟨v1, v2, _⟩ := Cells.app_spec (a := .lst 0 []) rfl hw
        obtain ⟨c', spare, e1, e2, e3⟩ := (hA _ _ _ rfl).grow [] xs1 Z (by omega) hk c1 c2 (by
          simp only [Builtin.firstCells, Nat.zero_mul]
          exact run_loadCells_list _ ad [] (fun j v e => by simp at e)) b1 z1 hZ (by simp) l2
        obtain ⟨n1, n2⟩ := newCells_run hR1 hm (xs := [] ++ xs1) (spare := spare) v1 (by rw [v2]; exact b2) elem (0, 0) false rfl (noteB bytes) (Nat.succ h.ser) hB.noteB
        refine ⟨_, _, _, e3, n1, hA1.trans hR n2 (hm.was (by simp only [Pos.num_succ]; omega)), ?_⟩
        exact .sl (Phi.put_same _ _ _ _) rfl rfl e1 e1 (Nat.le_refl _) (fun q => by cases q) fun _ => ⟨rfl, by show 0 + c' * P.cellsOf elem ≤ _; omega⟩
    simp only [natK_eq]
    cases hb : (!(Nat.beq (P.cellsOf elem) es && Nat.blt 0 (P.cellsOf elem) && okSize (Nat.add len n) bytes)) with
    | true => trivial
    | false =>
      rw [cond_false]
      simp only [Bool.not_eq_false', Bool.and_eq_true] at hb
      obtain ⟨⟨b0, b00⟩, b01⟩ := hb
      have b0 : P.cellsOf elem = es := beq_iff.1 b0
      subst b0
      have b00 := blt_iff.1 b00
      obtain ⟨c1, c2⟩ := hB.size b01
      have c1 : len + n ≤ 140737488355328 := c1
      have c2 : (len + n) * P.bytesOf elem ≤ 140737488355328 ∧ P.bytesOf elem ≤ 4096 := c2
      cases hc : Nat.ble (Nat.add len n) cap with
      | true =>
        have hc : len + n ≤ cap := ble_iff.1 hc
        rw [cond_true]
        obtain ⟨q1, q2⟩ := k8 (by omega)
        have hadd := add_eq ad k3 (len * P.cellsOf elem)
        have hmul := Nat.mul_le_mul_right (P.cellsOf elem) (show len + n ≤ c by omega)
        rw [Nat.add_mul] at hmul
        unfold extendN
        split
        · rename_i ser cc lo hi g' m ro fz hid
          cases hcc : (!ro && Nat.beq g g' && Nat.ble lo (Nat.add off (Nat.mul len (P.cellsOf elem))) && Nat.ble (Nat.add off (Nat.mul len (P.cellsOf elem))) cc.size && seg.atoms) with
          | false => trivial
          | true =>
            simp only [Bool.and_eq_true, Bool.not_eq_true'] at hcc
            obtain ⟨⟨⟨⟨f1, f2⟩, f3⟩, f4⟩, f5⟩ := hcc
            subst f1
            have f2 := beq_iff.1 f2
            subst f2
            have f4 : off + len * P.cellsOf elem ≤ cc.size := ble_iff.1 f4
            rw [cond_true, T.setK_eq]
            have hwf := (hR.blk _ _ hid).1.1
            have hc2 : ∃ c₂ : Cells, (bif Nat.ble (Nat.add (Nat.add off (Nat.mul len (P.cellsOf elem))) seg.size) cc.size then cc.splice (Nat.add off (Nat.mul len (P.cellsOf elem))) seg else (cc.sub 0 (Nat.add off (Nat.mul len (P.cellsOf elem)))).app seg) = c₂ ∧ c₂.wf ∧
                c₂.toL = cc.toL.take (off + len * P.cellsOf elem) ++ (seg.toL ++ cc.toL.drop (off + len * P.cellsOf elem + xs.length)) := by
              refine ⟨_, rfl, ?_⟩
              cases hsp : Nat.ble (Nat.add (Nat.add off (Nat.mul len (P.cellsOf elem))) seg.size) cc.size with
              | true =>
                have hsp : off + len * P.cellsOf elem + seg.size ≤ cc.size := ble_iff.1 hsp
                rw [cond_true]
                obtain ⟨r1, r2, _⟩ := Cells.splice_spec hwf hw hsp
                exact ⟨r1, by rw [l1, ← hsz]; exact r2⟩
              | false =>
                have hsp : cc.size < off + len * P.cellsOf elem + seg.size := ble_false.1 hsp
                rw [cond_false]
                obtain ⟨w1, t1, s1⟩ := Cells.sub_spec hwf (off := 0) (n := off + len * P.cellsOf elem) (by omega)
                obtain ⟨w2, t2, _⟩ := Cells.app_spec w1 hw
                refine ⟨w2, ?_⟩
                show ((cc.sub 0 (off + len * P.cellsOf elem)).app seg).toL = _
                rw [t2, t1, List.drop_zero, List.drop_eq_nil_of_le (by rw [Cells.toL_length hwf]; omega), List.append_nil]
            obtain ⟨c₂, g1, g2, g3⟩ := hc2
            rw [g1]
            obtain ⟨w', p1, p2, p3⟩ := put_run hR hid k1 (a := ad.add (len * P.cellsOf elem)) (off := off + len * P.cellsOf elem) (xs := xs) (by rw [hadd]; exact k2) (by rw [hadd])
              (by rw [hadd]; show ((ad.off + len * P.cellsOf elem : Nat) : Int) = ((off + len * P.cellsOf elem : Nat) : Int) + s; omega) f4 (by rw [hadd]; show ad.off + len * P.cellsOf elem + xs.length ≤ N; omega)
              a2 (atoms_oneCell f5 a2) g2 g3 (bif Nat.blt (Nat.add off (Nat.mul len (P.cellsOf elem))) hi then g else m) (by
                by_cases hb : off + len * P.cellsOf elem < hi
                · rw [show Nat.blt (Nat.add off (Nat.mul len (P.cellsOf elem))) hi = true from blt_iff.2 hb]; exact .inl rfl
                · rw [show Nat.blt (Nat.add off (Nat.mul len (P.cellsOf elem))) hi = false from blt_false.2 (by show hi ≤ off + len * P.cellsOf elem; omega)]; exact .inr ⟨rfl, by omega⟩) h.ser
            refine ⟨_, w', φ, (hA _ _ _ rfl).room _ _ _ (by omega) rfl a1 p1, p2, p3, ?_⟩
            exact .sl k1 k2 k3 (by show len + n ≤ c; omega) k5 hc k7 k8
        · trivial
      | false =>
        have hc : cap < len + n := ble_false.1 hc
        rw [cond_false]
        cases hex : ex with
        | true =>
          have hcap := k7 hex
          rw [cond_true]
          cases hr : readN h id g off (Nat.mul len (P.cellsOf elem)) with
          | none => trivial
          | some oldc =>
            obtain ⟨ys, o1, o2, o3, o4⟩ := readN_run hR1 hr k1 k2 k3 (fun hp => (k8 (by
              rcases Nat.eq_zero_or_pos len with q | q
              · rw [q] at hp; simp at hp
              · omega)).1)
            simp only
            rw [newCellsN_eq]
            obtain ⟨v1, v2, _⟩ := Cells.app_spec o3 hw
            obtain ⟨c', spare, e1, e2, e3⟩ := (hA _ _ _ rfl).grow ys xs1 Z (by omega) hk c1 c2 o1 b1 z1 hZ (by rw [← o2.length, Cells.toL_length o3, o4]; rfl) l2
            obtain ⟨n1, n2⟩ := newCells_run hR1 hm (xs := ys ++ xs1) (spare := spare) v1 (by rw [v2]; exact o2.append b2) elem (0, 0) false rfl (noteB bytes) (Nat.succ h.ser) hB.noteB
            refine ⟨_, _, _, e3, n1, hA1.trans hR n2 (hm.was (by simp only [Pos.num_succ]; omega)), ?_⟩
            exact .sl (Phi.put_same _ _ _ _) rfl rfl e1 e1 (Nat.le_refl _) (fun q => by cases q) fun _ => ⟨rfl, by show 0 + c' * P.cellsOf elem ≤ _; omega⟩
        | false =>
          rw [cond_false]
          split
          · rename_i ser cc lo hi g' m ro fz hid
            cases hcc : (!ro && Nat.beq g g' && Nat.ble lo off && Nat.ble (Nat.add off (Nat.mul len (P.cellsOf elem))) cc.size && seg.atoms) with
            | false => trivial
            | true =>
              simp only [Bool.and_eq_true, Bool.not_eq_true'] at hcc
              obtain ⟨⟨⟨⟨f1, f2⟩, f3⟩, f4⟩, f5⟩ := hcc
              subst f1
              have f2 := beq_iff.1 f2
              subst f2
              have f3 := ble_iff.1 f3
              have f4 : off + len * P.cellsOf elem ≤ cc.size := ble_iff.1 f4
              rw [cond_true, T.setK_eq]
              have hhi : (bif Nat.blt m g then (bif Nat.ble hi (Nat.add off (Nat.mul len (P.cellsOf elem))) then hi else (Nat.add off (Nat.mul len (P.cellsOf elem)))) else (Nat.add off (Nat.mul len (P.cellsOf elem)))) ≤ off + len * P.cellsOf elem ∧
                  (m < g → (bif Nat.blt m g then (bif Nat.ble hi (Nat.add off (Nat.mul len (P.cellsOf elem))) then hi else (Nat.add off (Nat.mul len (P.cellsOf elem)))) else (Nat.add off (Nat.mul len (P.cellsOf elem)))) ≤ hi) := by
                by_cases hmg : m < g
                · rw [blt_iff.2 hmg, cond_true]
                  by_cases hh : hi ≤ off + len * P.cellsOf elem
                  · rw [show Nat.ble hi (Nat.add off (Nat.mul len (P.cellsOf elem))) = true from ble_iff.2 hh, cond_true]; exact ⟨hh, fun _ => Nat.le_refl _⟩
                  · rw [show Nat.ble hi (Nat.add off (Nat.mul len (P.cellsOf elem))) = false from ble_false.2 (by show off + len * P.cellsOf elem < hi; omega), cond_false]; exact ⟨Nat.le_refl _, fun _ => by show off + len * P.cellsOf elem ≤ hi; omega⟩
                · rw [blt_false.2 (by omega), cond_false]; exact ⟨Nat.le_refl _, fun q => absurd q hmg⟩
              generalize (bif Nat.blt m g then (bif Nat.ble hi (Nat.add off (Nat.mul len (P.cellsOf elem))) then hi else (Nat.add off (Nat.mul len (P.cellsOf elem)))) else (Nat.add off (Nat.mul len (P.cellsOf elem)))) = hi' at hhi
              by_cases hin : len + n ≤ c
              · obtain ⟨q1, q2⟩ := k8 (by omega)
                have hadd := add_eq ad k3 (len * P.cellsOf elem)
                have hmul := Nat.mul_le_mul_right (P.cellsOf elem) hin
                rw [Nat.add_mul] at hmul
                obtain ⟨w', p1, p2, p3⟩ := regen_same hR hid k1 (a := ad.add (len * P.cellsOf elem)) (off := off) (top := off + len * P.cellsOf elem) (seg := seg) (xs := xs) (by rw [hadd]; exact k2) (by rw [hadd])
                  (by rw [hadd]; show ((ad.off + len * P.cellsOf elem : Nat) : Int) = ((off + len * P.cellsOf elem : Nat) : Int) + s; omega) f3 (by omega) f4 (by rw [hadd]; show ad.off + len * P.cellsOf elem + xs.length ≤ N; omega)
                  a2 (atoms_oneCell f5 a2) hw hi' hhi.1 hhi.2 h.ser _ (noteG_or bytes ser)
                refine ⟨_, w', _, (hA _ _ _ rfl).room _ _ _ hin rfl a1 p1, p2, p3, ?_⟩
                exact .sl (Phi.put_same _ _ _ _) k2 k3 hin hin (Nat.le_refl _) (fun q => by cases q) fun _ => ⟨q1, q2⟩
              · have hrd : readN h id g off (len * P.cellsOf elem) = some (bif Nat.beq (len * P.cellsOf elem) 0 then .lst 0 [] else cc.sub off (len * P.cellsOf elem)) := by
                  unfold readN
                  cases hz0 : Nat.beq (len * P.cellsOf elem) 0 with
                  | true => rfl
                  | false =>
                    rw [cond_false, hid]
                    simp only
                    have : seeable cc lo hi g m g off (len * P.cellsOf elem) = true := by
                      unfold seeable
                      rw [beq_iff.2 rfl, cond_true, Bool.and_eq_true]
                      exact ⟨ble_iff.2 f3, ble_iff.2 f4⟩
                    rw [this]; rfl
                obtain ⟨ys, o1, o2, o3, o4⟩ := readN_run hR1 hrd k1 k2 k3 (fun hp => (k8 (by
                  rcases Nat.eq_zero_or_pos len with q | q
                  · rw [q] at hp; simp at hp
                  · omega)).1)
                have hwf := (hR.blk _ _ hid).1.1
                have hoo : RelL φ ((cc.toL.drop off).take (off + len * P.cellsOf elem - off)) ys := by
                  rw [show off + len * P.cellsOf elem - off = len * P.cellsOf elem by omega]
                  cases hz0 : Nat.beq (len * P.cellsOf elem) 0 with
                  | true =>
                    rw [hz0, cond_true] at o2
                    rw [beq_iff.1 hz0, List.take_zero]
                    exact o2
                  | false =>
                    rw [hz0, cond_false, (Cells.sub_spec hwf f4).2.1] at o2
                    exact o2
                obtain ⟨c', spare, e1, e2, e3⟩ := (hA _ _ _ rfl).grow ys xs1 Z (by omega) hk c1 c2 o1 b1 z1 hZ (by rw [← o2.length, Cells.toL_length o3, o4]) l2
                obtain ⟨n1, n2⟩ := regen_new hR1 hid k1 (off := off) (top := off + len * P.cellsOf elem) f3 (by omega) f4 (old := ys) (spare := spare) (xs := xs1) hoo b2 hw hi' hhi.1 hhi.2 h.ser elem _ hB.noteG
                refine ⟨_, _, _, e3, n1, hA1.trans hR n2 (hm.was (by simp only [Pos.num_succ]; omega)), ?_⟩
                exact .sl (Phi.put_same _ _ _ _) rfl rfl e1 e1 (Nat.le_refl _) (fun q => by cases q) fun _ => ⟨by show ((0 : Nat) : Int) = (off : Int) + -(off : Int); omega, by show 0 + c' * P.cellsOf elem ≤ _; omega⟩
          · trivial
  · cases sv <;> first | trivial | skip
    all_goals rename_i h1 h2
    all_goals first | (exact absurd rfl h1) | (exact absurd rfl (h2 _ _ _ _ _ _ _)) | trivial
end
end Go.Proofs.YtjhgembcdndmkaaGreatDoor.Am

namespace Go.Proofs.YtjhgembcdndmkaaGreatDoor.Am
theorem intT_iff {P : Program} {u : TypeId} {d : TypeDesc} (h : P.underlying u = some d) : (match (generalizing := false) d with | .int _ => true | _ => false) = isIntT P u := by
  unfold isIntT
  rw [h]
  cases d <;> rfl
theorem exec_builtin {ρ : Operand → Value} {o : Oper} {c : Call} {b : Builtin} (ho : o.op = .call c) (hc : c.callee = .builtin b) :
    execOp ρ o = builtin b c.argTypes o.type (c.args.map fun | .const _ => true | _ => false) (c.args.map ρ) := by
  simp only [execOp, ho, resolve, hc]
  rfl
def zerosOf (e : TypeId) (size n : Nat) : Sem (Array Value) := if n * size = 0 then pure #[] else do pure (Builtin.zeroCells (← zeroValue e).cells n)
theorem append_says {P : Program} {w : World} {t u ty e : TypeId} {du : TypeDesc} (hd : P.underlying t = some (.slice e)) (hk : okT P e = true) (hdu : P.underlying u = some du)
    {base : Option Addr} {sLen sCap n : Nat} {X : Value} {appended : Sem (Array Value)}
    (hcase : (isIntT P u = false ∧ (Builtin.lenOf X).run P w = .ok n w ∧ appended = Builtin.firstCells (P.cellsOf e) n X) ∨
      (isIntT P u = true ∧ (∃ k, X = .int k (Int.ofNat n)) ∧ n ≤ 1073741824 ∧ P.bytesOf e ≤ 4096 ∧ appended = zerosOf e (P.cellsOf e) n)) :
    Apps P w e (P.cellsOf e) (.slice base sLen sCap) base sLen sCap n appended ((Builtin.append_ #[t, u] ty #[.slice base sLen sCap, X]).run P w) := by
  obtain ⟨i, hinf, hi1, hi2⟩ := okT_info hk
  unfold isIntT at hcase
  rw [hdu] at hcase
  generalize hR : (Builtin.append_ #[t, u] ty #[.slice base sLen sCap, X]).run P w = R
  unfold Builtin.append_ at hR
  simp only [List.getElem?_toArray, List.getElem?_cons_zero, List.getElem?_cons_succ] at hR
  rw [Sem.run_bind, run_underlying hd, Result.andThen_ok] at hR
  simp only [] at hR
  rw [Sem.run_bind, run_sizeOf' hk, Result.andThen_ok, Sem.run_bind, run_underlying hdu, Result.andThen_ok, Sem.run_bind, Sem.run_pure, Result.andThen_ok] at hR
  rcases hcase with ⟨hi, hl, rfl⟩ | ⟨hi, ⟨k, rfl⟩, h1, h2, rfl⟩
  · split at hR
    · cases hi
    · simp only [Bool.false_eq_true, if_false, Bool.not_false, if_true, false_or] at hR
      rw [Sem.run_bind, hl, Result.andThen_ok] at hR
      refine ⟨fun a xs w' hn hb ha hs => ?_, fun h0 hn ha => ?_, fun old xs Z hn hk' hb1 hb2 ho ha hz hzl hol hxl => ?_⟩
      · rw [← hR, hb]
        simp only [hn, if_true, Sem.run_bind, ha, Result.andThen_ok, hs, Sem.run_pure]
      · subst h0
        rw [← hR]
        simp only [Nat.add_zero, hn, if_true, Sem.run_bind, ha, Result.andThen_ok]
        cases base <;> simp [storeCells]
      · obtain ⟨c, hc, hcr⟩ := appendCap_run (P := P) (w := w) (sLen + n) sCap e
        refine ⟨c, (Builtin.zeroCells Z.cells (c - (sLen + n))).toList, hc, spare_len hc hzl hol hxl, ?_⟩
        rw [← hR]
        simp only [Nat.not_le.2 hn, if_false, Sem.run_bind, run_typeInfo w hinf, Result.andThen_ok]
        have g1 : ¬ (((sLen + n : Nat) : Int) > IntKind.i64.max ∧ i.bytes = 0) := by
          rw [i64_max]; omega
        have g2 := grow_le hn hb1 (b := i.bytes) (by rw [hi2]; exact hb2)
        simp only [g1, g2, if_false, Sem.run_pure, Result.andThen_ok, Sem.run_bind, run_typeInfo w hinf, hcr]
        simp only [run_typeInfo _ hinf, Result.andThen_ok, run_askRoom, ho, ha, hz, newRow, run_newObj, Sem.run_bind, Sem.run_pure]
        rw [show (old ++ xs ++ (Builtin.zeroCells Z.cells (c - (sLen + n))).toList).toArray = old.toArray ++ xs.toArray ++ Builtin.zeroCells Z.cells (c - (sLen + n)) by simp]
        rfl
  · split at hR
    · have hw : IntKind.i64.wrap (Int.ofNat n) = (n : Int) := wrap_i64 (n := (n : Int)) (by omega) (by omega)
      have hbytes : ¬ ((n : Int) * (i.bytes : Int) > 2 ^ 48) := by
        rw [hi2]
        have h3 : n * P.bytesOf e ≤ 1073741824 * 4096 := Nat.mul_le_mul h1 h2
        have h4 : ((n * P.bytesOf e : Nat) : Int) ≤ ((1073741824 * 4096 : Nat) : Int) := Int.ofNat_le.2 h3
        rw [Int.natCast_mul] at h4
        omega
      simp only [if_true, Bool.not_true, Bool.false_eq_true, if_false, true_or, and_true] at hR
      have hint : (asInt (.int k (Int.ofNat n))).run P w = .ok (Int.ofNat n) w := rfl
      rw [Sem.run_bind, hint, Result.andThen_ok, hw, if_neg (by omega)] at hR
      simp only [Sem.run_bind, Sem.run_pure, Result.andThen_ok, run_typeInfo w hinf, hbytes, if_false, Int.toNat_natCast] at hR
      refine ⟨fun a xs w' hn hb ha hs => ?_, fun h0 hn ha => ?_, fun old xs Z hn hk' hb1 hb2 ho ha hz hzl hol hxl => ?_⟩
      · unfold zerosOf at ha
        rw [← hR, hb]
        simp only [hn, if_true, Sem.run_bind, ha, Result.andThen_ok, hs, Sem.run_pure]
      · subst h0
        rw [← hR]
        simp only [Nat.add_zero, hn, if_true, Nat.zero_mul, Sem.run_bind, Sem.run_pure, Result.andThen_ok]
        cases base <;> simp [storeCells]
      · obtain ⟨c, hc, hcr⟩ := appendCap_run (P := P) (w := w) (sLen + n) sCap e
        refine ⟨c, (Builtin.zeroCells Z.cells (c - (sLen + n))).toList, hc, spare_len hc hzl hol hxl, ?_⟩
        unfold zerosOf at ha
        rw [← hR]
        simp only [Nat.not_le.2 hn, if_false, Sem.run_bind, run_typeInfo w hinf, Result.andThen_ok]
        have g1 : ¬ (((sLen + n : Nat) : Int) > IntKind.i64.max) := by
          rw [i64_max]; omega
        have g2 := grow_le hn hb1 (b := i.bytes) (by rw [hi2]; exact hb2)
        simp only [g1, g2, if_false, Sem.run_pure, Result.andThen_ok, Sem.run_bind, run_typeInfo w hinf, hcr]
        simp only [run_typeInfo _ hinf, Result.andThen_ok, run_askRoom, ho, ha, hz, newRow, run_newObj, Sem.run_bind, Sem.run_pure]
        rw [show (old ++ xs ++ (Builtin.zeroCells Z.cells (c - (sLen + n))).toList).toArray = old.toArray ++ xs.toArray ++ Builtin.zeroCells Z.cells (c - (sLen + n)) by simp]
        rfl
    · rename_i hne
      split at hi
      · rename_i kk e1
        exact (hne kk (by simpa using e1)).elim
      · cases hi
section
variable {P : Program} {φ : Phi} {h : Hp} {w : World} {env : T AV} {a : Act} {o : Oper}
theorem ValR.res {r : Res} {R : Result Value} (hv : ValR P φ h w r R) : ResR P φ h w r (R.andThen fun x w' => .ok (.value x) w') := by
  unfold ValR at hv
  split at hv
  · obtain ⟨x, w', φ', rfl, h1, h2, h3⟩ := hv
    exact ⟨_, x, w', φ', rfl, .inl rfl, h1, h2, h3⟩
  · trivial
  · exact hv.elim
theorem src_run (hR : HR P φ h w) {es n : Nat} {xv : AV} {X : Value} {seg : Cells} (hX : Rel φ xv X) (hs : srcCells h es n xv = some seg) (hl : ∃ m, lenA xv = some m ∧ n ≤ m) :
    ∃ xs, (Builtin.firstCells es n X).run P w = .ok xs.toArray w ∧ RelL φ seg.toL xs ∧ seg.wf ∧ (seg.size = n * es ∨ xv = .nilSl) := by
  obtain ⟨m, hm, hnm⟩ := hl
  unfold srcCells at hs
  split at hs
  · rename_i id g off len cap ex es'
    rcases rel_sl hX with ⟨ad, c, b, s, N, rfl, k1, k2, k3, k4, k5, k6, k7, k8⟩ | ⟨ad, rfl, rfl, rfl, rfl⟩
    case inr =>
      simp only [lenA, Option.some.injEq] at hm
      subst hm
      have hn : n = 0 := by omega
      subst hn
      rw [Nat.zero_mul] at hs
      have hs : some (Cells.lst 0 []) = some seg := hs
      cases hs
      refine ⟨[], ?_, .nil, rfl, .inl (by simp [Cells.size])⟩
      simp only [Builtin.firstCells, Nat.zero_mul]
      exact run_loadCells_list w ad [] (fun j v e => by simp at e)
    simp only [lenA, Option.some.injEq] at hm
    subst hm
    obtain ⟨xs, e1, e2, e3, e4⟩ := readN_run hR hs k1 k2 k3 (fun hp => (k8 (by
      rcases Nat.eq_zero_or_pos n with q | q
      · rw [q] at hp; simp at hp
      · omega)).1)
    exact ⟨xs, e1, e2, e3, .inl e4⟩
  · cases hs
    cases hX
    exact ⟨[], rfl, .nil, rfl, .inr rfl⟩
  · rename_i m' v
    obtain ⟨s, rfl, h1, h2, h3⟩ := rel_str hX
    cases hb : (Nat.beq es 1 && Nat.ble n m') with
    | false => rw [hb] at hs; cases hs
    | true =>
      rw [hb, cond_true, Option.some.injEq] at hs
      rw [Bool.and_eq_true] at hb
      have b1 : es = 1 := beq_iff.1 hb.1
      have b2 : n ≤ m' := ble_iff.1 hb.2
      subst b1; subst hs
      obtain ⟨q1, q2, q3⟩ := Cells.sub_spec (c := .byt m' v) h2 (off := 0) (n := n) (by show 0 + n ≤ m'; omega)
      refine ⟨((s.extract 0 n).data.map fun b => Value.int .u8 b.toNat).toList, by rw [Array.toArray_toList]; rfl, ?_, q1, .inl (by rw [q3]; omega)⟩
      rw [q2, List.drop_zero]
      have : RelL φ (bytesL m' v) (s.data.toList.map fun b => Value.int .u8 b.toNat) := by
        rw [bytesL_eq, h1]
        refine RelL.of_get (by simp) fun i v x hv hx => ?_
        rw [List.getElem?_map] at hv hx
        cases hu : (unpack m' _)[i]? with
        | none => rw [hu] at hv; cases hv
        | some u =>
          rw [hu, Option.map_some, Option.some.injEq] at hv hx
          subst hv; subst hx
          exact .int _ _
      have := this.take n
      rw [ByteArray.data_extract, Array.toList_map, Array.toList_extract, List.extract_eq_take_drop, List.drop_zero, Nat.sub_zero, List.map_take]
      exact this
  · cases hs
theorem bytesN_ok {P : Program} {e : TypeId} (h : 0 < P.bytesOf e) : BytesOk P e (bytesN P e) := by
  unfold bytesN
  cases hb : byteT P e with
  | false => exact .inl ⟨rfl, by rw [cond_false]; omega⟩
  | true =>
    unfold byteT at hb
    rw [Bool.and_eq_true, Bool.and_eq_true] at hb
    refine .inr ⟨rfl, beq_iff.1 hb.2, ?_, beq_iff.1 hb.1.2⟩
    have := hb.1.1
    split at this
    · rename_i q; exact q
    · cases this
theorem op_append (hR : HR P φ h w) (hE : EnvR φ env a.tmps) (hm : Room h) {c : Call} {s x : Operand} {t u e : TypeId} {s' x' : Opd} {z : AV} (ht : elemOfSlice P t = some e) (hs : compOpd P s = some s') (hx : compOpd P x = some x') (hz : zeroT P e = some z)
    (hzl : z.cells.length = P.cellsOf e) (hu : okT P u = true) (h0 : 0 < P.bytesOf e) (hi : isIntT P u = false) (hc : c.callee = .builtin .append) (ha : c.args.toList = [s, x]) (htt : c.argTypes.toList = [t, u]) (ho : o.op = .call c) :
    ResR P φ h w (evalOp P (.append (P.cellsOf e) (bytesN P e) s' x') env h) ((execOp a.eval o).run P w) := by
  have rs := opd_rel hR hE hs
  have rx := opd_rel hR hE hx
  obtain ⟨hd, hk⟩ := elem_underlying ht
  obtain ⟨du, hdu⟩ := okT_desc hu
  have ha : c.args = #[s, x] := by rw [← Array.toArray_toList (xs := c.args), ha]
  have htt : c.argTypes = #[t, u] := by rw [← Array.toArray_toList (xs := c.argTypes), htt]
  have hint := intT_iff hdu
  rw [hi] at hint
  generalize hS : a.eval s = S at *
  generalize hX : a.eval x = X at *
  -- the model's call
  have hrun : (execOp a.eval o).run P w = ((Builtin.append_ #[t, u] o.type #[S, X]).run P w).andThen fun v w' => .ok (.value v) w' := by
    rw [exec_builtin ho hc, ha, htt, show #[s, x].map a.eval = #[a.eval s, a.eval x] by simp]
    show (do pure (Next.value (← Builtin.append_ #[t, u] o.type #[a.eval s, a.eval x])) : Sem Next).run P w = _
    rw [Sem.run_bind, hS, hX]
    rfl
  show ResR P φ h w (appendA h (P.cellsOf e) (bytesN P e) (ev env s') (ev env x')) _
  unfold appendA
  generalize hsv : ev env s' = sv at *
  generalize hxv : ev env x' = xv at *
  cases hl : lenA xv with
  | none => trivial
  | some n =>
    simp only
    have hlr : (Builtin.lenOf X).run P w = .ok n w := by
      unfold lenA at hl
      split at hl
      · cases hl
        obtain ⟨ad, c', rfl, _⟩ := rel_slS rx
        rfl
      · cases hl; cases rx; rfl
      · cases hl
        obtain ⟨s0, rfl, _, _, hn⟩ := rel_str rx
        rw [← hn]; rfl
      · cases hl
    have says : ∀ base sLen sCap, S = .slice base sLen sCap → Apps P w e (P.cellsOf e) S base sLen sCap n (Builtin.firstCells (P.cellsOf e) n X) ((Builtin.append_ #[t, u] o.type #[S, X]).run P w) := fun base sLen sCap q => by
      subst q; exact append_says hd hk hdu (.inl ⟨hi, hlr, rfl⟩)
    cases hn0 : Nat.beq n 0 with
    | true =>
      have hn0 := beq_iff.1 hn0
      subst hn0
      rw [cond_true]
      have happ : (Builtin.firstCells (P.cellsOf e) 0 X).run P w = .ok #[] w := by
        unfold lenA at hl
        split at hl
        · obtain ⟨ad, c', rfl, _⟩ := rel_slS rx
          simp only [Builtin.firstCells, Nat.zero_mul]
          exact run_loadCells_list w ad [] (fun j v e => by simp at e)
        · cases rx; rfl
        · obtain ⟨s0, rfl, _⟩ := rel_str rx
          simp [Builtin.firstCells]
        · cases hl
      split
      · rename_i id g off len cap ex es
        obtain ⟨ad, c', rfl, k4, _⟩ := rel_slS rs
        rw [hrun, (says _ _ _ rfl).zero rfl k4 happ]
        exact ResR.pure hR (x := .slice (some ad) len c') rs rfl
      · cases rs
        rw [hrun, (says _ _ _ rfl).zero rfl (Nat.le_refl _) happ]
        exact ResR.pure hR .nilSl rfl
      · trivial
    | false =>
      rw [cond_false]
      have hn0 := beq_false.1 hn0
      cases hsrc : srcCells h (P.cellsOf e) n xv with
      | none => trivial
      | some seg =>
        simp only
        obtain ⟨xs, _, q2, q3, q4⟩ := src_run hR rx hsrc ⟨n, hl, Nat.le_refl _⟩
        have hsz : seg.size = n * P.cellsOf e := by
          rcases q4 with q | q
          · exact q
          · subst q; simp only [lenA, Option.some.injEq] at hl; omega
        have hv := appendSeg_run hR hm says rs q3 (by omega) hsz (fun d => by
            obtain ⟨xs, r1, r2, _⟩ := src_run (hR.drew d) rx hsrc ⟨n, hl, Nat.le_refl _⟩
            exact ⟨xs, r1, r2⟩) hk hz hzl (bytesN_ok h0)
        rw [hrun]
        exact hv.res
theorem op_appendZ (hR : HR P φ h w) (hE : EnvR φ env a.tmps) (hm : Room h) {c : Call} {s x : Operand} {t u e : TypeId} {s' x' : Opd} {z : AV} (ht : elemOfSlice P t = some e) (hs : compOpd P s = some s') (hx : compOpd P x = some x') (hz : zeroT P e = some z)
    (hzl : z.cells.length = P.cellsOf e) (hu : okT P u = true) (h0 : 0 < P.bytesOf e) (hi : isIntT P u = true) (hc : c.callee = .builtin .append) (ha : c.args.toList = [s, x]) (htt : c.argTypes.toList = [t, u]) (ho : o.op = .call c) :
    ResR P φ h w (evalOp P (.appendZ (P.cellsOf e) (P.bytesOf e) z.cells s' x') env h) ((execOp a.eval o).run P w) := by
  have rs := opd_rel hR hE hs
  have rx := opd_rel hR hE hx
  obtain ⟨hd, hk⟩ := elem_underlying ht
  obtain ⟨du, hdu⟩ := okT_desc hu
  obtain ⟨i, hinf, hi1, hi2⟩ := okT_info hk
  have ha : c.args = #[s, x] := by rw [← Array.toArray_toList (xs := c.args), ha]
  have htt : c.argTypes = #[t, u] := by rw [← Array.toArray_toList (xs := c.argTypes), htt]
  have hint := intT_iff hdu
  rw [hi] at hint
  generalize hS : a.eval s = S at *
  generalize hX : a.eval x = X at *
  generalize hsv : ev env s' = sv at *
  generalize hxv : ev env x' = xv at *
  unfold evalOp
  simp only [hsv, hxv]
  split
  · rename_i k n
    cases rx
    have hrun : (execOp a.eval o).run P w = ((Builtin.append_ #[t, u] o.type #[S, .int k (Int.ofNat n)]).run P w).andThen fun v w' => .ok (.value v) w' := by
      rw [exec_builtin ho hc, ha, htt, show #[s, x].map a.eval = #[a.eval s, a.eval x] by simp]
      show (do pure (Next.value (← Builtin.append_ #[t, u] o.type #[a.eval s, a.eval x])) : Sem Next).run P w = _
      rw [Sem.run_bind, hS, hX]
      rfl
    cases hb : (Nat.ble n 1073741824 && Nat.ble (P.bytesOf e) 4096) with
    | false => trivial
    | true =>
      rw [Bool.and_eq_true] at hb
      have g1 := ble_iff.1 hb.1
      have g2 := ble_iff.1 hb.2
      rw [cond_true]
      have says : ∀ base sLen sCap, S = .slice base sLen sCap → Apps P w e (P.cellsOf e) S base sLen sCap n (zerosOf e (P.cellsOf e) n) ((Builtin.append_ #[t, u] o.type #[S, .int k (Int.ofNat n)]).run P w) := fun base sLen sCap q => by
        subst q; exact append_says hd hk hdu (.inr ⟨hi, ⟨k, rfl⟩, g1, g2, rfl⟩)
      cases hn0 : Nat.beq n 0 with
      | true =>
        have hn0 := beq_iff.1 hn0
        subst hn0
        rw [cond_true]
        have happ : (zerosOf e (P.cellsOf e) 0).run P w = .ok #[] w := by
          unfold zerosOf
          rw [if_pos (Nat.zero_mul _)]; rfl
        split
        · rename_i id g off len cap ex es
          obtain ⟨ad, c', rfl, k4, _⟩ := rel_slS rs
          rw [hrun, (says _ _ _ rfl).zero rfl k4 happ]
          exact ResR.pure hR (x := .slice (some ad) len c') rs rfl
        · cases rs
          rw [hrun, (says _ _ _ rfl).zero rfl (Nat.le_refl _) happ]
          exact ResR.pure hR .nilSl rfl
        · trivial
      | false =>
        rw [cond_false]
        have hn0 := beq_false.1 hn0
        obtain ⟨w1, t1, s1⟩ := Cells.ofL_spec (replA n z.cells [])
        have hsz : (Cells.ofL (replA n z.cells [])).size = n * P.cellsOf e := by rw [s1, replA_eq]; simp [hzl]
        have hv := appendSeg_run hR hm says rs w1 (by omega) hsz (fun d => by
            obtain ⟨Z, z1, z2⟩ := zeroT_run hz φ { w with drawn := d }
            have hZ : Z.cells.size = P.cellsOf e := by rw [← hzl, z2.cells.length, Array.length_toList]
            have hr := repl_rel z2.cells n
            rw [hZ] at hr
            refine ⟨((Array.range (n * P.cellsOf e)).map (Z.cells[· % P.cellsOf e]!)).toList, ?_, by rw [t1]; exact hr⟩
            unfold zerosOf
            by_cases h00 : n * P.cellsOf e = 0
            · rw [if_pos h00, h00]
              simp
            · rw [if_neg h00, Sem.run_bind, z1, Result.andThen_ok, Array.toArray_toList]
              unfold Builtin.zeroCells
              rw [hZ]; rfl) hk hz hzl (.inl ⟨rfl, by omega⟩)
        rw [hrun]
        exact hv.res
  · trivial
end
end Go.Proofs.YtjhgembcdndmkaaGreatDoor.Am

namespace Go.Proofs.YtjhgembcdndmkaaGreatDoor.Am
theorem fieldPtr_depth (P : Program) : P.types.size + Made.depth = (P.types.size + 99) + 1 := rfl
section
variable {P : Program} {φ : Phi} {h : Hp} {w : World} {env : T AV} {a : Act} {o : Oper}
theorem op_lenArr (hR : HR P φ h w) (hE : EnvR φ env a.tmps) {c : Call} {x : Operand} {t : TypeId} {n : Nat} (hd : (∃ e, P.underlying t = some (.array n e)) ∨ ∃ b e, P.underlying t = some (.pointer b) ∧ P.underlying b = some (.array n e))
    (hc : c.callee = .builtin .len) (ha : c.args.toList = [x]) (htt : c.argTypes.toList = [t]) (ho : o.op = .call c) : ResR P φ h w (evalOp P (.lenArr n) env h) ((execOp a.eval o).run P w) := by
  have ha : c.args = #[x] := by rw [← Array.toArray_toList (xs := c.args), ha]
  have htt : c.argTypes = #[t] := by rw [← Array.toArray_toList (xs := c.argTypes), htt]
  refine ResR.pure hR (x := goInt n) (.int _ _) ?_
  rw [exec_builtin ho hc, ha, htt, show #[x].map a.eval = #[a.eval x] by simp]
  show (do pure (Next.value (← Builtin.len_ #[t] o.type #[a.eval x])) : Sem Next).run P w = _
  rcases hd with ⟨e, hd⟩ | ⟨b, e, hd, hb⟩
  · simp [Builtin.len_, run_underlying hd]
  · simp [Builtin.len_, run_underlying hd, run_underlying hb]
theorem op_cap (hR : HR P φ h w) (hE : EnvR φ env a.tmps) {c : Call} {x : Operand} {t e : TypeId} {x' : Opd} (hx : compOpd P x = some x') (hd : P.underlying t = some (.slice e)) (hc : c.callee = .builtin .cap) (ha : c.args.toList = [x]) (htt : c.argTypes.toList = [t])
    (ho : o.op = .call c) : ResR P φ h w (evalOp P (.cap x') env h) ((execOp a.eval o).run P w) := by
  have rx := opd_rel hR hE hx
  have ha : c.args = #[x] := by rw [← Array.toArray_toList (xs := c.args), ha]
  have htt : c.argTypes = #[t] := by rw [← Array.toArray_toList (xs := c.argTypes), htt]
  have hrun : (execOp a.eval o).run P w = (do pure (Next.value (← Builtin.cap_ #[t] o.type #[a.eval x])) : Sem Next).run P w := by
    rw [exec_builtin ho hc, ha, htt, show #[x].map a.eval = #[a.eval x] by simp]; rfl
  rw [hrun]
  unfold evalOp
  simp only
  split
  · rename_i e0
    rw [e0] at rx
    generalize hX : a.eval x = X at *
    cases rx
    exact ResR.pure hR (x := goInt 0) (.int _ _) (by simp [Builtin.cap_, run_underlying hd])
  · rename_i id g off len cap es e0
    rw [e0] at rx
    obtain ⟨ad, c', hX, _, _, _, k7⟩ := rel_slS rx
    have := k7 rfl
    subst this
    exact ResR.pure hR (x := goInt c') (.int _ _) (by simp [Builtin.cap_, run_underlying hd, hX])
  · trivial
theorem op_copy (hR : HR P φ h w) (hE : EnvR φ env a.tmps) {c : Call} {d s : Operand} {t e : TypeId} {r : List TypeId} {d' s' : Opd} (ht : elemOfSlice P t = some e) (hd : compOpd P d = some d') (hs : compOpd P s = some s')
    (hc : c.callee = .builtin .copy) (ha : c.args.toList = [d, s]) (htt : c.argTypes.toList = t :: r) (ho : o.op = .call c) :
    ResR P φ h w (evalOp P (.copy (P.cellsOf e) d' s') env h) ((execOp a.eval o).run P w) := by
  have rd := opd_rel hR hE hd
  have rs := opd_rel hR hE hs
  obtain ⟨hde, hk⟩ := elem_underlying ht
  have ha : c.args = #[d, s] := by rw [← Array.toArray_toList (xs := c.args), ha]
  have htt : c.argTypes = (t :: r).toArray := by rw [← Array.toArray_toList (xs := c.argTypes), htt]
  have hrun : (execOp a.eval o).run P w = (do pure (Next.value (← Builtin.copy_ (t :: r).toArray o.type #[a.eval d, a.eval s])) : Sem Next).run P w := by
    rw [exec_builtin ho hc, ha, htt, show #[d, s].map a.eval = #[a.eval d, a.eval s] by simp]; rfl
  rw [hrun]
  show ResR P φ h w (copyA h (P.cellsOf e) (ev env d') (ev env s')) _
  generalize hD : a.eval d = D at *
  generalize hS : a.eval s = S at *
  generalize ev env d' = dv at *
  generalize ev env s' = sv at *
  have hcopy : ∀ base dLen c0 m cells w', D = .slice base dLen c0 → (Builtin.lenOf S).run P w = .ok m w → (Builtin.firstCells (P.cellsOf e) (Nat.min m dLen) S).run P w = .ok cells w →
      (match base with | some ad => (storeCells ad cells.toList).run P w = .ok () w' | none => w' = w) →
      (do pure (Next.value (← Builtin.copy_ (t :: r).toArray o.type #[D, S])) : Sem Next).run P w = .ok (.value (goInt (Nat.min m dLen : Nat))) w' := by
    intro base dLen c0 m cells w' hDe hm hf hst
    subst hDe
    have h0 : (t :: r).toArray[0]? = some t := by simp
    simp only [Builtin.copy_, h0]
    simp only [Sem.run_bind, run_underlying hde, Result.andThen_ok, List.getElem?_toArray, List.getElem?_cons_zero, List.getElem?_cons_succ, hm, run_sizeOf' hk, hf]
    cases base with
    | none => simp only at hst; subst hst; simp
    | some ad => simp only at hst; simp [hst]
  unfold copyA
  split
  · rename_i m hm
    cases rd
    have hmr : ∃ m', (Builtin.lenOf S).run P w = .ok m' w := by
      unfold lenA at hm
      split at hm
      · obtain ⟨ad, c', rfl, _⟩ := rel_slS rs; exact ⟨_, rfl⟩
      · cases rs; exact ⟨_, rfl⟩
      · obtain ⟨s0, rfl, _⟩ := rel_str rs; exact ⟨_, rfl⟩
      · cases hm
    obtain ⟨m', hmr⟩ := hmr
    have hf : (Builtin.firstCells (P.cellsOf e) 0 S).run P w = .ok #[] w := by
      unfold lenA at hm
      split at hm
      · obtain ⟨ad, c', rfl, _⟩ := rel_slS rs
        simp only [Builtin.firstCells, Nat.zero_mul]
        exact run_loadCells_list w ad [] (fun j v e => by simp at e)
      · cases rs; rfl
      · obtain ⟨s0, rfl, _⟩ := rel_str rs
        simp [Builtin.firstCells]
      · cases hm
    have h0 : Nat.min m' 0 = 0 := Nat.min_zero m'
    refine ResR.pure hR (x := goInt 0) (.int _ _) ?_
    rw [hcopy none 0 0 m' #[] w rfl hmr (by rw [h0]; exact hf) rfl, h0]
    rfl
  · rename_i id g off len cap ex es' m hm
    obtain ⟨ad, c', rfl, k4, k5, k6, k7⟩ := rel_slS rd
    simp only [natK_eq]
    have hmin : (bif Nat.ble m len then m else len) = Nat.min m len := by
      by_cases q : m ≤ len
      · rw [ble_iff.2 q, cond_true]; exact (Nat.min_eq_left q).symm
      · rw [ble_false.2 (by omega), cond_false]; exact (Nat.min_eq_right (by omega)).symm
    rw [hmin]
    cases hb : (!(Nat.beq (P.cellsOf e) es')) with
    | true => trivial
    | false =>
      rw [cond_false]
      have hb : P.cellsOf e = es' := beq_iff.1 (by simpa using hb)
      subst hb
      cases hsrc : srcCells h (P.cellsOf e) (Nat.min m len) sv with
      | none => trivial
      | some seg =>
        simp only
        have hmr : (Builtin.lenOf S).run P w = .ok m w := by
          unfold lenA at hm
          split at hm
          · cases hm; obtain ⟨ad, c', rfl, _⟩ := rel_slS rs; rfl
          · cases hm; cases rs; rfl
          · cases hm; obtain ⟨s0, rfl, _, _, hn⟩ := rel_str rs; rw [← hn]; rfl
          · cases hm
        obtain ⟨xs, q1, q2, q3, q4⟩ := src_run hR rs hsrc ⟨m, hm, Nat.min_le_left _ _⟩
        have hlen : 0 < seg.size → 0 < len := by
          intro hp
          rcases q4 with q | q
          · rw [q] at hp
            rcases Nat.eq_zero_or_pos len with z | z
            · rw [z, show Nat.min m 0 = 0 from Nat.min_zero m] at hp; simp at hp
            · exact z
          · subst q
            simp only [srcCells, Option.some.injEq] at hsrc
            subst hsrc
            simp [Cells.size] at hp
        rcases rel_sl rd with ⟨ad', c2, b, s0, N, hX', k1, k2, k3, _, _, _, _, k8⟩ | ⟨ad', hX', z1, z2, z3⟩
        case inr =>
          have hz : seg.size = 0 := by
            rcases Nat.eq_zero_or_pos seg.size with q | q
            · exact q
            · have := hlen q; omega
          have hxs : xs = [] := by
            have : seg.toL.length = 0 := by rw [Cells.toL_length q3, hz]
            have := q2.length
            exact List.length_eq_zero_iff.1 (by omega)
          have e1 : writeN h id g off seg (fun h => Res.val (.int .i64 (.ofNat (Nat.min m len))) h) = .val (.int .i64 (.ofNat (Nat.min m len))) h := by
            unfold writeN
            rw [beq_iff.2 hz]; rfl
          rw [e1]
          subst hxs
          exact ⟨_, goInt (Nat.min m len : Nat), w, φ, hcopy (some ad) len c' m (([] : List Value).toArray) w rfl hmr q1 (by show (storeCells ad []).run P w = _; unfold storeCells; rfl), .inl rfl, hR, Adv.refl h w φ, .int _ _⟩
        cases hX'
        rcases writeN_run hR (k := fun h => .val (.int .i64 (.ofNat (Nat.min m len))) h) k1 k2 k3 (fun hp => (k8 (by have := hlen hp; omega)).1) q3 q2 with ⟨why, e1⟩ | ⟨h', w', e1, p1, p2, p3⟩
        · rw [e1]; trivial
        · rw [e1]
          exact ⟨_, goInt (Nat.min m len : Nat), w', φ, hcopy (some ad) len c' m xs.toArray w' rfl hmr q1 (by simpa using p1), .inl rfl, p2, p3, .int _ _⟩
  · trivial
theorem op_clear (hR : HR P φ h w) (hE : EnvR φ env a.tmps) {c : Call} {x : Operand} {t e : TypeId} {x' : Opd} {z : AV} (ht : elemOfSlice P t = some e) (hx : compOpd P x = some x') (hz : zeroT P e = some z) (hzl : z.cells.length = P.cellsOf e)
    (hc : c.callee = .builtin .clear) (ha : c.args.toList = [x]) (htt : c.argTypes.toList = [t]) (ho : o.op = .call c) :
    ResR P φ h w (evalOp P (.clear (P.cellsOf e) z.cells x') env h) ((execOp a.eval o).run P w) := by
  have rx := opd_rel hR hE hx
  obtain ⟨hde, hk⟩ := elem_underlying ht
  have ha : c.args = #[x] := by rw [← Array.toArray_toList (xs := c.args), ha]
  have htt : c.argTypes = #[t] := by rw [← Array.toArray_toList (xs := c.argTypes), htt]
  have hrun : (execOp a.eval o).run P w = (do pure (Next.value (← Builtin.clear_ #[t] o.type #[a.eval x])) : Sem Next).run P w := by
    rw [exec_builtin ho hc, ha, htt, show #[x].map a.eval = #[a.eval x] by simp]; rfl
  rw [hrun]
  show ResR P φ h w (clearA h (P.cellsOf e) z.cells (ev env x')) _
  generalize hX : a.eval x = X at *
  generalize ev env x' = xv at *
  unfold clearA
  split
  · cases rx
    exact ResR.pure hR (x := .tuple #[]) (.tup .nil) (by simp [Builtin.clear_, run_underlying hde])
  · rename_i id g off len cap ex es'
    cases hb : Nat.beq (P.cellsOf e) es' with
    | false => trivial
    | true =>
      rw [cond_true]
      obtain rfl := beq_iff.1 hb
      obtain ⟨p1, p2, p3⟩ := Cells.ofL_spec (replA len z.cells [])
      obtain ⟨Z, z1, z2⟩ := zeroT_run hz φ w
      have hZ : Z.cells.size = P.cellsOf e := by rw [← hzl, z2.cells.length, Array.length_toList]
      have hr := repl_rel z2.cells len
      have hsz : (Cells.ofL (replA len z.cells [])).size = len * P.cellsOf e := by rw [p3, replA_eq]; simp [hzl]
      have hlen : 0 < (Cells.ofL (replA len z.cells [])).size → 0 < len := by
        intro hp
        rw [hsz] at hp
        rcases Nat.eq_zero_or_pos len with q | q
        · subst q; simp at hp
        · exact q
      rcases Nat.eq_zero_or_pos len with q0 | q0
      · subst q0
        obtain ⟨ad, c', rfl, k4, k5, k6, k7⟩ := rel_slS rx
        have e1 : writeN h id g off (Cells.ofL (replA 0 z.cells [])) (fun h => Res.val (.tup []) h) = .val (.tup []) h := by
          unfold writeN
          rw [beq_iff.2 (by rw [hsz]; simp)]; rfl
        rw [e1]
        exact ResR.pure hR (x := .tuple #[]) (.tup .nil) (by simp [Builtin.clear_, run_underlying hde])
      · rcases rel_sl rx with ⟨ad', c2, b, s0, N, hX', k1, k2, k3, _, _, _, _, k8⟩ | ⟨ad', hX', z1', z2', z3'⟩
        case inr => omega
        subst hX'
        have hcl : ∀ w', (storeCells ad' (Builtin.zeroCells Z.cells len).toList).run P w = .ok () w' → (do pure (Next.value (← Builtin.clear_ #[t] o.type #[.slice (some ad') len c2])) : Sem Next).run P w = .ok (.value (.tuple #[])) w' := fun w' q => by
          obtain ⟨l', rfl⟩ : ∃ l', len = l' + 1 := ⟨len - 1, by omega⟩
          simp [Builtin.clear_, run_underlying hde, z1, q]
        rcases writeN_run hR (k := fun h => .val (.tup []) h) k1 k2 k3 (fun hp => (k8 (by have := hlen hp; omega)).1) p1 (xs := (Builtin.zeroCells Z.cells len).toList) (by rw [p2]; exact hr) with ⟨why, e1⟩ | ⟨h', w', e1, r1, r2, r3⟩
        · rw [e1]; trivial
        · rw [e1]
          exact ⟨_, .tuple #[], w', φ, hcl w' r1, .inl rfl, r2, r3, .tup .nil⟩
  · trivial
theorem op_minmax (hR : HR P φ h w) (hE : EnvR φ env a.tmps) {c : Call} {x y : Operand} {x' y' : Opd} (mx : Bool) (hx : compOpd P x = some x') (hy : compOpd P y = some y') (hc : c.callee = .builtin (if mx then .max else .min)) (ha : c.args.toList = [x, y]) (ho : o.op = .call c) :
    ResR P φ h w (evalOp P (if mx then .bmax x' y' else .bmin x' y') env h) ((execOp a.eval o).run P w) := by
  have rx := opd_rel hR hE hx
  have ry := opd_rel hR hE hy
  have ha : c.args = #[x, y] := by rw [← Array.toArray_toList (xs := c.args), ha]
  have hrun : (execOp a.eval o).run P w = (do pure (Next.value (← (if mx then Builtin.max_ c.argTypes o.type #[a.eval x, a.eval y] else Builtin.min_ c.argTypes o.type #[a.eval x, a.eval y]))) : Sem Next).run P w := by
    rw [exec_builtin ho hc, ha, show #[x, y].map a.eval = #[a.eval x, a.eval y] by simp]
    cases mx <;> rfl
  rw [hrun]
  generalize hX : a.eval x = X at *
  generalize hY : a.eval y = Y at *
  cases mx
  · unfold evalOp
    simp only [Bool.false_eq_true, if_false]
    split
    · rename_i k u k' v e1 e2
      rw [e1] at rx; rw [e2] at ry
      cases rx; cases ry
      refine ResR.pure hR (x := .int k (if v < u then v else u)) ?_ (by simp [Builtin.min_, Builtin.min2])
      rw [cmpA_eq]
      by_cases c1 : v < u
      · rw [if_pos c1, if_pos c1]; exact .int _ _
      · rw [if_neg c1, if_neg c1]
        by_cases c2 : v = u <;> simp only [c2, if_true, if_false] <;> exact .int _ _
    · trivial
  · unfold evalOp
    simp only [if_true]
    split
    · rename_i k u k' v e1 e2
      rw [e1] at rx; rw [e2] at ry
      cases rx; cases ry
      refine ResR.pure hR (x := .int k (if v > u then v else u)) ?_ (by simp [Builtin.max_, Builtin.max2])
      rw [cmpA_eq]
      by_cases c1 : v < u
      · rw [if_pos c1, if_neg (by omega)]; exact .int _ _
      · rw [if_neg c1]
        by_cases c2 : v = u
        · rw [if_pos c2, if_neg (by omega)]; exact .int _ _
        · rw [if_neg c2, if_pos (by omega)]; exact .int _ _
    · trivial
theorem op_assertT (hR : HR P φ h w) (hE : EnvR φ env a.tmps) {t xt : TypeId} {d : TypeDesc} {z : AV} {ok : Bool} {x : Operand} {x' : Opd} (hx : compOpd P x = some x') (hd : P.underlying t = some d) (hi : ∀ ms, d ≠ .interface ms) (hz : zeroT P t = some z)
    (ho : o.op = .typeAssert x xt t ok) : ResR P φ h w (evalOp P (.assertT t z ok x') env h) ((execOp a.eval o).run P w) := by
  have rx := opd_rel hR hE hx
  obtain ⟨Z, z1, z2⟩ := zeroT_run hz φ w
  have hrun : (execOp a.eval o).run P w = (do pure (Next.value (← Instr.typeAssert (a.eval x) xt t ok)) : Sem Next).run P w := by
    simp only [execOp, ho]
  rw [hrun]
  generalize hX : a.eval x = X at *
  unfold evalOp
  simp only
  split
  · rename_i t' v e
    rw [e] at rx
    cases rx with
    | ifc hv =>
      rename_i xv
      cases hb : Nat.beq t t' with
      | true =>
        have hb := beq_iff.1 hb
        subst hb
        rw [cond_true]
        cases ok
        · refine ResR.pure hR hv ?_
          cases d <;> first | (exact absurd rfl (hi _)) | simp [Instr.typeAssert, run_underlying hd]
        · refine ResR.pure hR (x := .tuple #[xv, .bool true]) (.tup (.cons hv (.cons (.bool true) .nil))) ?_
          cases d <;> first | (exact absurd rfl (hi _)) | simp [Instr.typeAssert, run_underlying hd]
      | false =>
        have hb : ¬ t' = t := fun q => beq_false.1 hb q.symm
        rw [cond_false]
        cases ok
        · trivial
        · refine ResR.pure hR (x := .tuple #[Z, .bool false]) (.tup (.cons z2 (.cons (.bool false) .nil))) ?_
          cases d <;> first | (exact absurd rfl (hi _)) | simp [Instr.typeAssert, run_underlying hd, hb, z1]
  · rename_i e
    rw [e] at rx
    cases rx
    cases ok
    · trivial
    · refine ResR.pure hR (x := .tuple #[Z, .bool false]) (.tup (.cons z2 (.cons (.bool false) .nil))) ?_
      cases d <;> first | (exact absurd rfl (hi _)) | simp [Instr.typeAssert, run_underlying hd, z1]
  · trivial
theorem callFunc_run {f : FuncId} {fn : Func} {c : Code} (hf : P.funcs[f]? = some fn) (hb : fn.body = some c) (hn : (fn.name == "runtime.NumGoroutine") = false) (xs : Array Value) :
    (callFunc f xs).run P w = .ok (.enter f xs) w := by
  unfold callFunc
  simp only [Sem.run_bind, run_program, Result.andThen_ok, hf, hn, hb, Bool.false_eq_true, if_false, Option.isNone_some, Sem.run_pure]
theorem enter_run {f : FuncId} {args : List AV} {xs : Array Value} (hxs : RelL φ args xs.toList) : ResR P φ h w (enterA P h f args) ((callFunc f xs).run P w) := by
  unfold enterA
  split
  · rename_i fn hf
    split
    · rename_i c hc
      cases hn : (fn.name == "runtime.NumGoroutine") with
      | true => trivial
      | false =>
        rw [cond_false, callFunc_run hf hc hn]
        exact ⟨rfl, xs, fn, c, rfl, hf, hc, hxs⟩
    · trivial
  · trivial
theorem callExt_run {f : FuncId} {fn : Func} (hf : P.funcs[f]? = some fn) (hb : fn.body = none) (hn : (fn.name == "runtime.NumGoroutine") = false) {e : Array Value → Sem Value} (h1 : Extern.findNext fn = none) (h2 : Extern.find fn = some e) (xs : Array Value) :
    (callFunc f xs).run P w = ((e xs).run P w).andThen fun v w' => .ok (.value v) w' := by
  unfold callFunc
  simp only [Sem.run_bind, run_program, Result.andThen_ok, hf, hn, hb, Bool.false_eq_true, if_false, Option.isNone_none, if_true, run_mark, h1, h2]
  rfl
theorem find_clone {fn : Func} (h : fn.name = "maps.clone") (ho : fn.origin = "") : Extern.findNext fn = none ∧ Extern.find fn = some Extern.MapsClone.clone := by
  unfold Extern.findNext Extern.find
  rw [h, ho]
  exact ⟨rfl, rfl⟩
theorem call_run (hR : HR P φ h w) (hm : Room h) {f : FuncId} {args : List AV} {xs : Array Value} (hxs : RelL φ args xs.toList) : ResR P φ h w (callA P h f args) ((callFunc f xs).run P w) := by
  unfold callA
  split
  · rename_i fn hf
    split
    · exact enter_run hxs
    · rename_i hb
      cases hn : (fn.name == "runtime.NumGoroutine") with
      | true => trivial
      | false =>
        rw [cond_false]
        unfold extA
        cases hc : (fn.name == "maps.clone" && fn.origin == "") with
        | false => trivial
        | true =>
          rw [cond_true]
          rw [Bool.and_eq_true] at hc
          obtain ⟨h1, h2⟩ := find_clone (eq_of_beq hc.1) (eq_of_beq hc.2)
          rw [callExt_run hf hb hn h1 h2]
          split
          · rename_i t id
            split
            · rename_i ser es clock hid
              obtain ⟨b, E, e1, e2, e3⟩ := hR.blk _ _ hid
              have hx : xs = #[.iface t (.map (some b))] := by
                obtain ⟨l⟩ := xs
                cases hxs with
                | cons hx ht =>
                  cases ht
                  cases hx with
                  | ifc hx => cases hx with
                    | map hφ => rw [e1] at hφ; cases hφ; rfl
              subst hx
              rw [newK_eq]
              have u := Upd.alloc hR hm (.map E clock) 0
              refine ⟨_, .iface t (.map (some w.heap.size)), w.alloc (.map E clock), _, ?_, .inl rfl, hR.update (ser := Nat.succ h.ser) u (.inl ⟨Nat.le_refl _, by rw [Pos.num_succ]; omega, hR.next_none hm⟩) fun x hx => ?_, Adv.update hR u (.inl ⟨Nat.le_refl _, by rw [Pos.num_succ]; omega, hR.next_none hm⟩), .ifc (.map (Phi.put_same _ _ _ _))⟩
              · have hg : (getObj b).run P w = .ok (.map E clock) w := by simp only [getObj, Sem.run, e2]
                have key : (Extern.MapsClone.clone #[.iface t (.map (some b))]).run P w = .ok (.iface t (.map (some w.heap.size))) (w.alloc (.map E clock)) := by
                  show Sem.run P (getObj b >>= _) w = _
                  rw [Sem.run_bind, hg, Result.andThen_ok]
                  rfl
                rw [key]; rfl
              · cases hx
                exact ⟨w.heap.size, E, Phi.put_same _ _ _ _, alloc_new _ _, e3.mono u.le⟩
            · trivial
          · trivial
  · trivial
theorem op_callV (hR : HR P φ h w) (hE : EnvR φ env a.tmps) (hm : Room h) {c : Call} {f : Operand} {f' : Opd} {l : List Opd} (hf : compOpd P f = some f') (hl : mapO (compOpd P) c.args.toList = some l) (hc : c.callee = .value f) (ho : o.op = .call c) :
    ResR P φ h w (evalOp P (.call (.value f') l) env h) ((execOp a.eval o).run P w) := by
  have rf := opd_rel hR hE hf
  have rl := opds_rel hR hE hl
  have hrun : (execOp a.eval o).run P w = (do let d ← Deferred.ofValue (a.eval f) (c.args.map a.eval); invoke d.target d.args : Sem Next).run P w := by
    simp only [execOp, ho, resolve, hc]
  rw [hrun]
  unfold evalOp
  simp only
  generalize hF : a.eval f = F at *
  split
  · rename_i g first captured e
    rw [e] at rf
    cases rf with
    | fn h1 h2 =>
      rename_i X Y
      show ResR P φ h w _ ((callFunc g ((X ++ c.args.map a.eval) ++ Y)).run P w)
      refine call_run hR hm ?_
      simp only [Array.toList_append, Array.toList_map, List.append_assoc]
      exact h1.append (rl.append h2)
  · rename_i id e
    rw [e] at rf
    cases rf with
    | yield hφ =>
      refine ⟨_, c.args.map a.eval, hφ, by simpa using rl, ?_⟩
      show (Instr.yield _ (#[] ++ c.args.map a.eval)).run P w = _
      rw [Array.empty_append]
  · trivial
theorem recv_run {t : TypeId} {ptr : Bool} {xv : Value} {wr : Option String} (hr : recvOk (P.underlying t) ptr = true) : (receiverAt t (.val xv) ptr wr).run P w = .ok xv w := by
  cases hd : P.underlying t with
  | none => rw [hd] at hr; cases hr
  | some d =>
    rw [hd] at hr
    unfold receiverAt
    cases d <;> cases ptr <;> first | (cases hr; done) | simp [run_underlying hd, Place.get]
theorem op_invoke (hR : HR P φ h w) (hE : EnvR φ env a.tmps) (hroom : Room h) {c : Call} {r : Operand} {name : String} {r' : Opd} {l : List Opd} (hr : compOpd P r = some r') (hl : mapO (compOpd P) c.args.toList = some l) (hc : c.callee = .invoke r name) (ho : o.op = .call c) :
    ResR P φ h w (evalOp P (.call (.invoke r' name) l) env h) ((execOp a.eval o).run P w) := by
  have rr := opd_rel hR hE hr
  have rl := opds_rel hR hE hl
  unfold evalOp
  simp only
  split
  · rename_i t v e
    rw [e] at rr
    generalize hX : a.eval r = X at *
    cases rr with
    | ifc hv =>
      rename_i xv
      cases hm : methodOf P t name with
      | none => trivial
      | some f =>
        simp only
        have hmr : (method (P.types.size + Made.depth) t xv name).run P w = .ok (f, xv) w := by
          unfold methodOf at hm
          split at hm
          · rename_i i hi
            split at hm
            · rename_i m hfind
              cases hp : m.path.isEmpty with
              | false => rw [hp] at hm; cases hm
              | true =>
                rw [hp, cond_true] at hm
                have hpl : m.path.toList = [] := by simpa using hp
                split at hm
                · rename_i g ptr hg
                  cases hrc : recvOk (P.underlying t) ptr with
                  | false => rw [hrc] at hm; cases hm
                  | true =>
                    rw [hrc, cond_true, Option.some.injEq] at hm
                    subst hm
                    rw [fieldPtr_depth]
                    unfold method
                    simp only [Sem.run_bind, run_typeInfo w hi, Result.andThen_ok, hfind, hpl, follow, Sem.run_pure, hg, recv_run hrc]
                · cases hm
            · cases hm
          · cases hm
        have hrun : (execOp a.eval o).run P w = (callFunc f (#[xv] ++ c.args.map a.eval)).run P w := by
          have h0 : (#[Value.iface t xv] ++ c.args.map a.eval)[0]? = some (.iface t xv) := by simp [Array.getElem?_append]
          have he : (#[Value.iface t xv] ++ c.args.map a.eval).extract 1 (#[Value.iface t xv] ++ c.args.map a.eval).size = c.args.map a.eval := by
            apply Array.toList_inj.1
            simp only [Array.toList_extract, List.extract_eq_take_drop, Array.toList_append, Array.toList_map, Array.size_append, Array.size_map]
            exact List.take_of_length_le (by simp)
          simp only [execOp, ho, resolve, hc, hX, Sem.run_bind, Sem.run_pure, Result.andThen_ok, invoke, h0, he, callMethod, run_program, hmr]
        rw [hrun]
        refine call_run hR hroom ?_
        simp only [Array.toList_append, Array.toList_map, List.singleton_append]
        exact .cons hv rl
  · trivial
end
end Go.Proofs.YtjhgembcdndmkaaGreatDoor.Am

namespace Go.Proofs.YtjhgembcdndmkaaGreatDoor.Am
section
variable {P : Program} {φ : Phi} {h : Hp} {w : World} {X : Value} {v : AV}
theorem read1_row (hR : HR P φ h w) {id : Pos} {g off b : Nat} {s : Int} {n : Nat} {v : AV} {a : Addr} (hr : read1 h id g off = some v) (hφ : φ id g = some (b, s, n)) (hb : a.block = b) (ho : (a.off : Int) = off + s) :
    ∃ el cells, w.shape? a.block = some (el, cells) ∧ a.off < cells := by
  unfold read1 at hr
  split at hr
  · rename_i ser c' lo hi g' m ro fz hid
    cases hse : seeable c' lo hi g' m g off 1 with
    | false => rw [hse] at hr; cases hr
    | true =>
      obtain ⟨_, C, el, fr, e1, e2, e3⟩ := seen hR hid hφ hse
      obtain ⟨o, _, x, q1, _, q3, _⟩ := e3 0 (by omega)
      have hlt := (Array.getElem?_eq_some_iff.1 q3).1
      refine ⟨el, C.size, by unfold World.shape?; rw [hb, e1], ?_⟩
      have : a.off = o := by omega
      omega
  · cases hr
theorem toUnsafe_run (hR : HR P φ h w) {env : T AV} {x' : Opd} (rx : Rel φ (ev env x') X) {s d t : TypeId} (hs : P.underlying s = some (.pointer t)) (hd : P.underlying d = some .unsafePointer) (hk : okT P t = true) (h0 : 0 < P.cellsOf t) :
    ResR P φ h w (evalOp P (.toUnsafe x') env h) ((do pure (Next.value (← convert s d X)) : Sem Next).run P w) := by
  obtain ⟨i, hi, hi1, _⟩ := okT_info hk
  unfold evalOp
  simp only
  split
  · rename_i e
    rw [e] at rx
    cases rx
    exact ResR.pure hR .nilPtr (by simp [convert, run_underlying hs, run_underlying hd, Conv.unsafePointer])
  · rename_i id g off e
    rw [e] at rx
    split
    · rename_i v hr
      obtain ⟨a, b, s', n, rfl, k1, k2, k3, k4⟩ := rel_ptr rx
      obtain ⟨el, cells, q1, q2⟩ := read1_row hR hr k1 k2 k4
      refine ResR.pure hR rx ?_
      have := Lib.run_to_unsafe (P := P) w a hs hd hi (by omega) q1 q2
      rw [Sem.run_bind, this]
      rfl
    · trivial
  · trivial
theorem liesAt_self {u : TypeId} (h0 : 0 < P.cellsOf u) : liesAt P P.depth u 1 0 u 1 = true := by
  have hd : P.depth = (2 * (P.types.size + Made.depth) + 1) + 1 := rfl
  rw [hd]
  simp only [liesAt, Bool.or_eq_true]
  left
  rw [hd]
  have : P.cellsOf u ≠ 0 := by omega
  simp [rowAt, this, sameLayout]
theorem fromUnsafe_run (hR : HR P φ h w) {env : T AV} {x' : Opd} (rx : Rel φ (ev env x') X) {s d u : TypeId} (hs : P.underlying s = some .unsafePointer) (hd : P.underlying d = some (.pointer u)) (hk : okT P u = true) (h0 : 0 < P.cellsOf u) :
    ResR P φ h w (evalOp P (.fromUnsafe u x') env h) ((do pure (Next.value (← convert s d X)) : Sem Next).run P w) := by
  obtain ⟨i, hi, hi1, _⟩ := okT_info hk
  unfold evalOp
  simp only
  split
  · rename_i e
    rw [e] at rx
    cases rx
    exact ResR.pure hR .nilPtr (by simp [convert, run_underlying hs, run_underlying hd, Conv.unsafePointer])
  · rename_i id g off e
    rw [e] at rx
    cases ho : Nat.beq off 0 with
    | false => trivial
    | true =>
      have ho := beq_iff.1 ho
      subst ho
      rw [cond_true]
      split
      · rename_i note c lo hi g' m ro fz hid
        cases hb : (Nat.beq note (Nat.succ (Nat.succ u)) && Nat.beq g g') with
        | false => trivial
        | true =>
          rw [Bool.and_eq_true] at hb
          have h1 := beq_iff.1 hb.1
          have h2 := beq_iff.1 hb.2
          subst h1 h2
          obtain ⟨a, b, s', n, rfl, k1, k2, k3, k4⟩ := rel_ptr rx
          obtain ⟨⟨_, c2, _, _, _, c5⟩, ty⟩ := hR.blk _ _ hid
          obtain ⟨b', s2, n2, C, el, fr, e1, e2, e3, _, _⟩ := c5 g c2 (Nat.le_refl _)
          rw [k1] at e1
          cases e1
          rcases ty g _ _ _ _ _ _ c2 (Nat.le_refl _) k1 e2 with q | ⟨q, _⟩ | ⟨u', q1, q2, q3, q4⟩
          · cases q
          · cases q
          · have : u' = u := by have : u + 2 = u' + 2 := q1; omega
            subst this
            subst q2
            refine ResR.pure hR rx ?_
            have hoff : a.off = 0 := by omega
            have hsz : C.size / P.cellsOf el = 1 := by rw [e3, q4]; exact Nat.div_self h0
            have := Lib.run_from_unsafe (P := P) w a hs hd hi (e := el) (cells := C.size) (by unfold World.shape?; rw [k2, e2]) (by rw [hsz, hoff]; exact liesAt_self h0)
            rw [Sem.run_bind, this]
            rfl
      · trivial
  · trivial
end
end Go.Proofs.YtjhgembcdndmkaaGreatDoor.Am

namespace Go.Proofs.YtjhgembcdndmkaaGreatDoor.Am
theorem freeze_push (w : World) (C : Array Value) (el : TypeId) (n : Nat) (hn : C.size = n) :
    ({ w with heap := w.heap.push (.cells C el) } : World).freeze { block := w.heap.size, off := n } 1 = w.alloc (.cells C el (n, n + 1)) := by
  unfold World.freeze World.alloc
  rw [if_neg (by decide)]
  congr 1
  apply Array.ext_getElem?
  intro i
  simp only [Array.getElem?_modify, Array.getElem?_push]
  by_cases e : w.heap.size = i
  · subst e
    simp
  · have e' : ¬ i = w.heap.size := fun q => e q.symm
    rw [if_neg e, if_neg e', if_neg e']
theorem pushAll (ls : List UInt8) (s : ByteArray) : (ls.foldl (fun s b => s.push b) s).data.toList = s.data.toList ++ ls := by
  induction ls generalizing s with
  | nil => simp
  | cons b l ih => rw [List.foldl_cons, ih]; simp [ByteArray.push]
theorem bytes_loop {P : Program} (w : World) (why : String) (ls : List UInt8) (s : ByteArray) :
    (forIn (m := Sem) (ls.map fun b => Value.int .u8 b.toNat) s fun c s => do
      match c with
      | Value.int IntKind.u8 n => pure (ForInStep.yield (s.push (UInt8.ofNat n.toNat)))
      | _ => do
        stuck why
        pure (ForInStep.yield s)).run P w = .ok (ls.foldl (fun s b => s.push b) s) w := by
  induction ls generalizing s with
  | nil => simp
  | cons b l ih =>
    simp only [List.map_cons, List.forIn_cons, Sem.run_bind, Sem.run_pure, Result.andThen_ok, List.foldl_cons]
    rw [show UInt8.ofNat ((b.toNat : Int)).toNat = b by simp]
    exact ih (s.push b)
theorem bytes_run {P : Program} {w : World} {ad : Addr} {len c : Nat} {xs : List Value} {ls : List UInt8} (h : (loadCells ad len).run P w = .ok xs.toArray w) (hx : xs = ls.map fun b => Value.int .u8 b.toNat) :
    (Conv.bytesToString (.slice (some ad) len c)).run P w = .ok (.string ⟨ls.toArray⟩) w := by
  subst hx
  unfold Conv.bytesToString
  simp only [Sem.run_bind, h, Result.andThen_ok]
  rw [← Array.forIn_toList, show (List.map (fun b => Value.int IntKind.u8 (b.toNat : Int)) ls).toArray.toList = List.map (fun b => Value.int IntKind.u8 (b.toNat : Int)) ls by simp]
  refine (congrArg (fun r => Result.andThen r fun a w' => Sem.run P (pure (Value.string a)) w') (bytes_loop (P := P) w _ ls .empty)).trans ?_
  simp only [Result.andThen_ok, Sem.run_pure]
  congr 2
  have := pushAll ls .empty
  apply ByteArray.ext
  apply Array.toList_inj.1
  rw [this]
  simp
theorem relL_bytes {φ : Phi} {ls : List UInt8} {xs : List Value} (h : RelL φ (ls.map fun b => byteV b.toNat) xs) : xs = ls.map fun b => Value.int .u8 b.toNat := by
  induction ls generalizing xs with
  | nil => cases h; rfl
  | cons b l ih =>
    cases h with
    | cons h t =>
      cases h
      rw [ih t]; rfl
section
variable {P : Program} {φ : Phi} {h : Hp} {w : World} {env : T AV} {a : Act} {o : Oper}
theorem op_mkSl (hR : HR P φ h w) (hE : EnvR φ env a.tmps) (hm : Room h) {t e : TypeId} {z : AV} {l c : Operand} {l' c' : Opd} (ht : elemOfSlice P t = some e) (hz : zeroT P e = some z) (hzl : z.cells.length = P.cellsOf e) (hl : compOpd P l = some l') (hc : compOpd P c = some c')
    (ho : o.op = .makeSlice t l c) : ResR P φ h w (evalOp P (.mkSl (P.cellsOf e) (P.bytesOf e) z.cells l' c') env h) ((execOp a.eval o).run P w) := by
  have rl := opd_rel hR hE hl
  have rc := opd_rel hR hE hc
  obtain ⟨hd, hk⟩ := elem_underlying ht
  obtain ⟨i, hi, hi1, hi2⟩ := okT_info hk
  obtain ⟨Z, z1, z2⟩ := zeroT_run hz φ w
  have hZ : Z.cells.size = P.cellsOf e := by rw [← hzl, z2.cells.length, Array.length_toList]
  have hrun : (execOp a.eval o).run P w = (do pure (Next.value (← Instr.makeSlice t (a.eval l) (a.eval c))) : Sem Next).run P w := by
    simp only [execOp, ho]
  rw [hrun]
  unfold evalOp
  simp only
  generalize hL : a.eval l = L at *
  generalize hC : a.eval c = Cc at *
  split
  · rename_i k m k' n e1 e2
    rw [e1] at rl; rw [e2] at rc
    cases rl; cases rc
    cases hb : (Nat.ble m n && okSize n (P.bytesOf e) && Nat.blt 0 (P.cellsOf e)) with
    | false => trivial
    | true =>
      simp only [Bool.and_eq_true, okSize_iff] at hb
      obtain ⟨⟨b1, b2, b3, b3'⟩, b4⟩ := hb
      have b1 := ble_iff.1 b1
      have b4 := blt_iff.1 b4
      rw [cond_true]
      have hrep := repl_rel z2.cells n
      rw [hZ] at hrep
      refine ResR.newSl hR hm hrep e b1 (by simp) ?_
      have hw1 : IntKind.i64.wrap (Int.ofNat m) = (m : Int) := wrap_i64 (n := (m : Int)) (by omega) (by omega)
      have hw2 : IntKind.i64.wrap (Int.ofNat n) = (n : Int) := wrap_i64 (n := (n : Int)) (by omega) (by omega)
      have hbytes : ¬ ((i.bytes : Int) * (n : Int) > 2 ^ 48) := by
        rw [hi2]
        have h3 : P.bytesOf e * n ≤ 140737488355328 := by rw [Nat.mul_comm]; exact b3
        have h4 : ((P.bytesOf e * n : Nat) : Int) ≤ ((140737488355328 : Nat) : Int) := Int.ofNat_le.2 h3
        rw [Int.natCast_mul] at h4
        omega
      have hcond : (((n : Int) < 0 || (i.bytes : Int) * (n : Int) > 2 ^ 48) || (m : Int) < 0 || (m : Int) > (n : Int)) = false := by
        simp only [Bool.or_eq_false_iff, decide_eq_false_iff_not]
        exact ⟨⟨⟨by omega, hbytes⟩, by omega⟩, by omega⟩
      unfold Instr.makeSlice
      simp only [asInt, asIntOf, Sem.run_bind, Sem.run_pure, Result.andThen_ok, run_underlying hd, run_typeInfo w hi, hw1, hw2, hcond, Bool.false_eq_true, if_false, run_askRoom, Int.toNat_natCast, run_sizeOf' hk]
      by_cases h0 : n * P.cellsOf e = 0
      · rw [if_pos h0]
        have hr : ∀ f : Nat → Value, (Array.range 0).map f = #[] := fun f => by simp
        simp only [Sem.run_pure, Result.andThen_ok, h0, hr, newRow, Sem.run_bind, run_newObj, Array.toArray_toList]
        rfl
      · rw [if_neg h0]
        simp only [Sem.run_bind, Sem.run_pure, z1, Result.andThen_ok, hZ, newRow, run_newObj, Array.toArray_toList]
        rfl
  · trivial
theorem op_conv (hR : HR P φ h w) (hE : EnvR φ env a.tmps) (hm : Room h) {s d : TypeId} {x : Operand} {x' : Opd} {ao : AOp} (hx : compOpd P x = some x') (hc : compConv P s d x' = some ao) (ho : o.op = .convert s d x) :
    ResR P φ h w (evalOp P ao env h) ((execOp a.eval o).run P w) := by
  have rx := opd_rel hR hE hx
  have hrun : (execOp a.eval o).run P w = (do pure (Next.value (← convert s d (a.eval x))) : Sem Next).run P w := by
    simp only [execOp, ho]
  rw [hrun]
  generalize hX : a.eval x = X at *
  unfold compConv at hc
  split at hc
  · rename_i k0 k hs hd
    cases hc
    unfold evalOp
    simp only
    split
    · rename_i k' n e
      rw [e] at rx
      cases rx
      rw [intK_eq, wrapA_eq]
      exact ResR.pure hR (.int _ _) (by simp [convert, run_underlying hs, run_underlying hd, Conv.intToInt])
    · trivial
  · rename_i hs hd
    cases hc
    unfold evalOp
    simp only
    split
    · rename_i n v e
      rw [e] at rx
      obtain ⟨str, rfl, q1, q2, q3⟩ := rel_str rx
      exact ResR.pure hR rx (by simp [convert, run_underlying hs, run_underlying hd])
    · trivial
  · rename_i e hs hd
    split at hc
    · rename_i he
      cases hb : (Nat.beq (P.cellsOf e) 1 && okT P e) with
      | false => rw [hb] at hc; cases hc
      | true =>
        rw [hb, cond_true, Option.some.injEq] at hc
        subst hc
        unfold evalOp
        simp only
        split
        · rename_i n v ev
          rw [ev] at rx
          obtain ⟨str, rfl, q1, q2, q3⟩ := rel_str rx
          cases hn : Nat.ble n 1073741824 with
          | false => trivial
          | true =>
            rw [cond_true, newK_eq]
            obtain ⟨cp, hcp, hcr⟩ := appendCap_run (P := P) (w := w) str.size 0 e
            have hxs : RelL φ (bytesL n v) (str.data.toList.map fun b => Value.int .u8 b.toNat) := by
              rw [bytesL_eq, q1]
              refine RelL.of_get (by simp) fun i v x hv hx => ?_
              rw [List.getElem?_map] at hv hx
              cases hu : (unpack n _)[i]? with
              | none => rw [hu] at hv; cases hv
              | some u =>
                rw [hu, Option.map_some, Option.some.injEq] at hv hx
                subst hv; subst hx
                exact .int _ _
            obtain ⟨n1, n2⟩ := newCells_run (hR.drew (w.drawn + 1)) hm (c := .byt n v) (xs := str.data.toList.map fun b => Value.int .u8 b.toNat) (spare := List.replicate (cp - str.size) (.int .u8 0)) q2 hxs e
              (cp, cp + 1) true (by unfold Thawed; rw [if_pos rfl]; left; simp; omega) 0 (Nat.succ h.ser) (.inl rfl)
            refine ⟨_, .slice (some ⟨w.heap.size, 0, none⟩) str.size cp, _, _, ?_, .inl rfl, n1, (Adv.drew h w φ _).trans hR n2 (hm.was (by simp only [Pos.num_succ]; omega)), ?_⟩
            · simp only [convert, Sem.run_bind, run_underlying hs, run_underlying hd, Result.andThen_ok, run_underlying he, Conv.stringToBytes, hcr, newRow, run_newObj, Sem.run_pure, markStringish, run_shape]
              have hsz : (str.data.map (fun b => Value.int .u8 b.toNat) ++ Array.replicate (cp - str.size) (Value.int .u8 0)).size = cp := by
                simp; omega
              simp only [World.shape?, Array.getElem?_push_size, hsz, run_freeze, Result.andThen_ok]
              have hfz := freeze_push { w with drawn := w.drawn + 1 } (str.data.map (fun b => Value.int .u8 b.toNat) ++ Array.replicate (cp - str.size) (Value.int .u8 0)) e cp hsz
              have e3 : (str.data.toList.map (fun b => Value.int .u8 b.toNat) ++ List.replicate (cp - str.size) (Value.int .u8 0)).toArray = str.data.map (fun b => Value.int .u8 b.toNat) ++ Array.replicate (cp - str.size) (Value.int .u8 0) := by
                simp
              rw [e3]
              exact congrArg _ hfz
            · have e4 : n = str.size := q3.symm
              rw [e4]
              refine .sl (Phi.put_same _ _ _ _) rfl rfl hcp hcp (Nat.le_refl _) (fun q => by cases q) fun _ => ⟨rfl, ?_⟩
              simp only [List.length_append, List.length_map, List.length_replicate, Array.length_toList]
              show 0 + cp * 1 ≤ str.size + (cp - str.size)
              omega
        · trivial
    · cases hc
  · rename_i e hs hd
    split at hc
    · rename_i he
      cases hc
      unfold evalOp
      simp only
      split
      · rename_i ev
        rw [ev] at rx
        cases rx
        refine ResR.pure hR (x := .string .empty) (.str rfl (by simp)) ?_
        simp [convert, run_underlying hs, run_underlying hd, run_underlying he, Conv.bytesToString]
      · rename_i id g off len cap ex es ev
        rw [ev] at rx
        obtain ⟨ad, c', rfl, k4, _⟩ := rel_slS rx
        have hcv : (convert s d (.slice (some ad) len c')).run P w = (Conv.bytesToString (.slice (some ad) len c')).run P w := by
          simp [convert, run_underlying hs, run_underlying hd, run_underlying he]
        have hdo : ∀ str, (Conv.bytesToString (.slice (some ad) len c')).run P w = .ok (.string str) w →
            (do pure (Next.value (← convert s d (.slice (some ad) len c'))) : Sem Next).run P w = .ok (.value (.string str)) w := by
          intro str q
          rw [Sem.run_bind, hcv, q]; rfl
        cases hl0 : Nat.beq len 0 with
        | true =>
          have hl0 := beq_iff.1 hl0
          subst hl0
          rw [cond_true]
          refine ResR.pure hR (x := .string .empty) (.str rfl (by simp)) (hdo _ ?_)
          have := run_loadCells_list (P := P) w ad [] (fun j v e => by simp at e)
          exact bytes_run (ls := []) this rfl
        | false =>
          rw [cond_false]
          have hl0 := beq_false.1 hl0
          rcases rel_sl rx with ⟨ad', c2, b, s0, N, hX', k1, k2, k3, _, _, _, _, k8⟩ | ⟨_, _, z, _, _⟩
          case inr => exact absurd z hl0
          cases hX'
          obtain ⟨q1, _⟩ := k8 (by omega)
          cases hes : Nat.beq es 1 with
          | false => trivial
          | true =>
            rw [cond_true]
            cases hr : readN h id g off len with
            | none => trivial
            | some c =>
              obtain ⟨xs, r1, r2, r3, r4⟩ := readN_run hR hr k1 k2 k3 (fun _ => q1)
              have key : ∀ n v, v < 256 ^ n → bytesL n v = c.toL → (Conv.bytesToString (.slice (some ad) len c')).run P w = .ok (.string ⟨(unpack n v).toArray⟩) w := by
                intro n v hv he2
                rw [← he2] at r2
                refine bytes_run r1 ?_
                rw [bytesL_eq] at r2
                exact relL_bytes r2
              cases c with
              | byt n v =>
                simp only [natK_eq]
                exact ResR.pure hR (x := .string ⟨(unpack n v).toArray⟩) (.str (by simp) r3) (hdo _ (key n v r3 rfl))
              | lst n l =>
                simp only
                cases hp : packAV l 0 0 with
                | none => trivial
                | some r =>
                  obtain ⟨m, u⟩ := r
                  obtain ⟨p1, p2, p3⟩ := packAV_spec l 0 0 m u hp (by simp)
                  exact ResR.pure hR (x := .string ⟨(unpack m u).toArray⟩) (.str (by simp) p1) (hdo _ (key m u p1 (by rw [p3]; rfl)))
      · trivial
    · cases hc
  · rename_i t hs hd
    cases hb : (okT P t && Nat.blt 0 (P.cellsOf t)) with
    | false => rw [hb] at hc; cases hc
    | true =>
      rw [hb] at hc
      cases hc
      rw [Bool.and_eq_true] at hb
      exact toUnsafe_run hR rx hs hd hb.1 (blt_iff.1 hb.2)
  · rename_i u hs hd
    cases hb : (okT P u && Nat.blt 0 (P.cellsOf u)) with
    | false => rw [hb] at hc; cases hc
    | true =>
      rw [hb] at hc
      cases hc
      rw [Bool.and_eq_true] at hb
      exact fromUnsafe_run hR rx hs hd hb.1 (blt_iff.1 hb.2)
  · cases hc
end
end Go.Proofs.YtjhgembcdndmkaaGreatDoor.Am

namespace Go.Proofs.YtjhgembcdndmkaaGreatDoor.Am
def putO (w : World) (b : Nat) (o : Obj) : World := { w with heap := w.heap.setIfInBounds b o }
theorem putO_same {w : World} {b : Nat} {o o' : Obj} (h : w.heap[b]? = some o) : (putO w b o').heap[b]? = some o' := by
  have := heap_lt h
  simp [putO, this]
theorem putO_ne {w : World} {b c : Nat} {o' : Obj} (h : c ≠ b) : (putO w b o').heap[c]? = w.heap[c]? := Array.getElem?_setIfInBounds_ne (Ne.symm h)
theorem run_getObj {P : Program} {w : World} {b : Nat} {o : Obj} (h : w.heap[b]? = some o) (hc : ∀ c e f, o ≠ .cells c e f) : (getObj b).run P w = .ok o w := by
  simp only [getObj, Sem.run, h]
theorem run_setObj {P : Program} {w : World} {b : Nat} {o : Obj} (h : w.heap[b]? = some o) (hc : ∀ c e f, o ≠ .cells c e f) (o' : Obj) : (setObj b o').run P w = .ok () (putO w b o') := by
  simp only [setObj, Sem.run, h, putO]
theorem sameD_iff {x y : D8} : sameD x y = true ↔ x = y := by cases x <;> cases y <;> simp [sameD]
theorem sameBin_iff {p q : Bin} : sameBin p q = true ↔ p = q := by
  induction p generalizing q with
  | h => cases q <;> simp [sameBin]
  | o p ih => cases q <;> simp [sameBin, ih]
  | i p ih => cases q <;> simp [sameBin, ih]
theorem samePos_iff {p q : Pos} : samePos p q = true ↔ p = q := by
  cases p <;> cases q <;> simp [samePos, sameD_iff, sameBin_iff, and_comm, and_left_comm]
section
variable {P : Program} {φ : Phi} {h : Hp} {w : World}
theorem addr_beq {a b : Addr} (h1 : a.block = b.block) (s1 : a.spot = none) (s2 : b.spot = none) : (a == b) = Nat.beq a.off b.off := by
  obtain ⟨ab, ao, as⟩ := a
  obtain ⟨bb, bo, bs⟩ := b
  simp only at h1 s1 s2
  subst h1; subst s1; subst s2
  by_cases c : ao = bo
  · subst c
    rw [show (({ block := ab, off := ao, spot := none } : Addr) == { block := ab, off := ao, spot := none }) = true from beq_self_eq_true _]
    simp
  · have h1 : (({ block := ab, off := ao, spot := none } : Addr) == { block := ab, off := bo, spot := none }) = false := by
      cases h : (({ block := ab, off := ao, spot := none } : Addr) == { block := ab, off := bo, spot := none }) with
      | false => rfl
      | true => have := eq_of_beq h; simp at this; exact absurd this c
    rw [h1]
    cases h : Nat.beq ao bo with
    | false => rfl
    | true => exact absurd (Nat.eq_of_beq_eq_true h) c
theorem plain_facts (hR : HR P φ h w) {id : Pos} {ser : Nat} {c : Cells} {lo hi g m gg : Nat} {b n : Nat} {s : Int} (hid : T.get id h.heap = some (.cells ser c lo hi g m false false)) (hφ : φ id gg = some (b, s, n)) (hm : m ≤ gg) :
    ∃ C el, w.heap[b]? = some (.cells C el (0, 0)) := by
  obtain ⟨⟨_, _, _, h4, _, h5⟩, _⟩ := hR.blk _ _ hid
  have hg : gg ≤ g := by
    by_cases q : g < gg
    · rw [h4 gg q] at hφ; cases hφ
    · omega
  obtain ⟨b', s', n', C, el, fr, e1, e2, e3, e4, _⟩ := h5 gg hm hg
  rw [hφ] at e1
  cases e1
  have := e4 rfl
  unfold Thawed at this
  simp only [Bool.false_eq_true, if_false] at this
  subst this
  exact ⟨C, el, e2⟩
theorem sameP_run (hR : HR P φ h w) {a b : AV} {x y : Value} {r : Bool} (hx : Rel φ a x) (hy : Rel φ b y) (hs : sameP h a b = some r) {t e : TypeId} (ht : P.underlying t = some (.pointer e)) (hk : okT P e = true) (hz : 0 < P.cellsOf e) (d : Nat) :
    (Op.equalIn (d + 1) t x y).run P w = .ok r w := by
  unfold sameP at hs
  split at hs
  · cases hx; cases hy; cases hs; exact eq_ptr0 d ht none
  · cases hx; cases hy; cases hs; exact eq_ptr0 d ht _
  · cases hx; cases hy; cases hs; exact eq_ptr1 d ht _
  · rename_i id g off id' g' off'
    cases hx with
    | @ptr _ _ _ b1 s1 n1 a1 p1 q1 r1 t1 => cases hy with
      | @ptr _ _ _ b2 s2 n2 a2 p2 q2 r2 t2 =>
        have hne : ¬ (P.cellsOf e = 0) := by omega
        have go : ∀ res, (sameAddr a1 a2).run P w = .ok res w → (Op.equalIn (d + 1) t (.pointer (some a1)) (.pointer (some a2))).run P w = .ok res w := by
          intro res hr
          simp only [Op.equalIn, Sem.run_bind, run_underlying ht, Result.andThen_ok, run_sizeOf' hk, hne, ne_eq, not_false_eq_true, if_true, hr]
        cases hsp : samePos id id' with
        | true =>
          rw [hsp, cond_true] at hs
          have := samePos_iff.1 hsp
          subst this
          cases hg : Nat.beq g g' with
          | false => rw [hg] at hs; cases hs
          | true =>
            rw [hg, cond_true] at hs
            have := Nat.eq_of_beq_eq_true hg
            subst this
            rw [p1] at p2
            cases p2
            cases hs
            refine go _ ?_
            have hb : a1.block = a2.block := by rw [q1, q2]
            have ho : Nat.beq off off' = Nat.beq a1.off a2.off := by
              by_cases c : off = off'
              · have : a1.off = a2.off := by omega
                rw [c, this]; simp
              · have c' : a1.off ≠ a2.off := by omega
                cases u : Nat.beq off off' with
                | true => exact absurd (Nat.eq_of_beq_eq_true u) c
                | false =>
                  cases u' : Nat.beq a1.off a2.off with
                  | true => exact absurd (Nat.eq_of_beq_eq_true u') c'
                  | false => rfl
            unfold sameAddr
            rw [show (a1.block == a2.block) = true by rw [hb]; simp]
            simp only [if_true, Sem.run_pure]
            rw [addr_beq hb t1 t2, ho]
        | false =>
          rw [hsp, cond_false] at hs
          split at hs
          · rename_i ser c lo hi gg m ro fz ser' c' lo' hi' gg' m' ro' fz' hid hid'
            cases hb : (Nat.ble m g && Nat.ble m' g' && !(ro || fz || ro' || fz')) with
            | false => rw [hb] at hs; cases hs
            | true =>
              rw [hb, cond_true] at hs
              cases hs
              simp only [Bool.and_eq_true, Bool.not_eq_true', Bool.or_eq_false_iff] at hb
              obtain ⟨⟨m1, m2⟩, ⟨⟨rfl, rfl⟩, rfl⟩, rfl⟩ := hb
              obtain ⟨C1, el1, h1⟩ := plain_facts hR hid p1 (ble_iff.1 m1)
              obtain ⟨C2, el2, h2⟩ := plain_facts hR hid' p2 (ble_iff.1 m2)
              rw [← q1] at h1
              rw [← q2] at h2
              have hne : ¬ (a1.block = a2.block) := fun q => by
                rw [q1, q2] at q
                subst q
                rcases hR.sep _ _ _ _ _ _ _ _ _ p1 p2 with this | this
                case inr => exact this.1 ⟨_, hid, fun _ _ _ _ _ _ _ _ kk => by cases kk; rfl⟩
                subst this
                rw [samePos_iff.2 rfl] at hsp
                cases hsp
              have f1 : ∀ o, w.frozen? { block := a1.block, off := o } = false := fun o => by simp [World.frozen?, h1]
              have f2 : ∀ o, w.frozen? { block := a2.block, off := o } = false := fun o => by simp [World.frozen?, h2]
              have g1 : w.frozen? a1 = false := by simp [World.frozen?, h1]
              have g2 : w.frozen? a2 = false := by simp [World.frozen?, h2]
              have s1 : w.shape? a1.block = some (el1, C1.size) := by simp [World.shape?, h1]
              have s2 : w.shape? a2.block = some (el2, C2.size) := by simp [World.shape?, h2]
              refine go _ ?_
              unfold sameAddr
              rw [if_neg (by simpa using hne)]
              simp [run_frozen, g1, g2, noView, viewAt, s1, s2, mayBeOne, stringish, f1, f2]
          · cases hs
  · cases hs
def KkR (P : Program) (t : TypeId) : KK → Prop
  | .one k => LkR P t k
  | .flat ks => flatK P 8 t = some ks ∧ isAggT P t = true
  | .any => ∃ ms, P.underlying t = some (.interface ms)
  | .ptr => ∃ e, P.underlying t = some (.pointer e) ∧ okT P e = true ∧ 0 < P.cellsOf e
theorem kkT_R {t : TypeId} {kk : KK} (e : kkT P t = some kk) : KkR P t kk := by
  unfold kkT at e
  split at e
  · cases e; assumption
  · cases e; exact ⟨_, by assumption⟩
  · cases e; assumption
  · rename_i fs hd
    cases hf : flatK P 8 t with
    | none => rw [hf] at e; cases e
    | some ks => rw [hf] at e; cases e; exact ⟨hf, by unfold isAggT; rw [hd]⟩
  · cases e; exact ⟨_, by assumption⟩
  · rename_i el hd
    cases hb : (okT P el && Nat.blt 0 (P.cellsOf el)) with
    | false => rw [hb] at e; cases e
    | true =>
      rw [hb] at e; cases e
      rw [Bool.and_eq_true] at hb
      exact ⟨el, hd, hb.1, blt_iff.1 hb.2⟩
  · cases e
theorem okPtrT_facts {t : TypeId} (e : okPtrT P t = true) : ∃ i el, P.info? t = some i ∧ i.comparable = true ∧ P.underlying t = some (.pointer el) ∧ okT P el = true ∧ 0 < P.cellsOf el := by
  unfold okPtrT at e
  rw [Bool.and_eq_true] at e
  obtain ⟨e1, e2⟩ := e
  split at e1
  · rename_i i hi
    split at e2
    · rename_i el hd
      rw [Bool.and_eq_true] at e2
      exact ⟨i, el, hi, e1, hd, e2.1, blt_iff.1 e2.2⟩
    · cases e2
  · cases e1
theorem lkI_facts {t : TypeId} {k : LK} (e : lkI P t = some k) : ∃ i, P.info? t = some i ∧ i.comparable = true ∧ LkR P t k := by
  unfold lkI at e
  split at e
  · rename_i i hi
    cases hc : i.comparable with
    | false => rw [hc] at e; cases e
    | true =>
      rw [hc, cond_true] at e
      refine ⟨i, hi, hc, ?_⟩
      split at e
      · cases e; assumption
      · cases e; exact ⟨_, by assumption⟩
      · cases e; assumption
      · cases e
  · cases e
theorem keyEq_run (hR : HR P φ h w) {kk : KK} {t : TypeId} (hk : KkR P t kk) {a b : AV} {x y : Value} {r : Bool} (hx : Rel φ a x) (hy : Rel φ b y) (e : keyEq P h kk a b = some r) : (Op.equal t x y).run P w = .ok r w := by
  show (Op.equalIn (9999 + 1) t x y).run P w = .ok r w
  unfold keyEq at e
  split at e
  · exact sameK_run hx hy e 9999 hk
  · obtain ⟨el, h1, h2, h3⟩ := hk
    exact sameP_run hR hx hy e h1 h2 h3 9999
  · obtain ⟨h1, h2⟩ := hk
    cases hx with
    | agg hl => cases hy with
      | agg hr => exact flat_run (w := w) 8 t _ h1 9992 _ _ _ _ r (fun _ => ⟨_, _, rfl, rfl, hl, hr⟩) (fun q => by rw [h2] at q; cases q) e
  · rename_i t1 x1 t2 x2
    obtain ⟨ms, h1⟩ := hk
    cases hx with
    | ifc hx => cases hy with
      | ifc hy =>
        cases ht : Nat.beq t1 t2 with
        | false =>
          rw [ht] at e; cases e
          have hne : t1 ≠ t2 := fun q => by rw [q] at ht; simp at ht
          unfold Op.equalIn
          rw [Sem.run_bind, run_underlying h1, Result.andThen_ok]
          simp only [ne_eq, hne, not_false_eq_true, if_true]
          rfl
        | true =>
          rw [ht, cond_true] at e
          have := Nat.eq_of_beq_eq_true ht
          subst this
          cases ho : okPtrT P t1 with
          | false =>
            rw [ho, cond_false] at e
            split at e
            · rename_i k hk
              obtain ⟨i, i1, i2, i3⟩ := lkI_facts hk
              have := sameK_run (w := w) hx hy e 9998 i3
              unfold Op.equalIn
              rw [Sem.run_bind, run_underlying h1, Result.andThen_ok]
              simp only [ne_eq, not_true_eq_false, if_false, Sem.run_bind, run_typeInfo w i1, Result.andThen_ok, i2, Bool.not_true, Bool.false_eq_true]
              exact this
            · cases e
          | true =>
            rw [ho, cond_true] at e
            obtain ⟨i, el, i1, i2, i3, i4, i5⟩ := okPtrT_facts ho
            have := sameP_run hR hx hy e i3 i4 i5 9998
            unfold Op.equalIn
            rw [Sem.run_bind, run_underlying h1, Result.andThen_ok]
            simp only [ne_eq, not_true_eq_false, if_false, Sem.run_bind, run_typeInfo w i1, Result.andThen_ok, i2, Bool.not_true, Bool.false_eq_true]
            exact this
  · cases e
theorem sameNow_none {d : TypeDesc} {x y : Value} (h : (∃ ms, d = .interface ms) ∨ (∃ e, d = .pointer e) ∨ ∃ fs, d = .struct fs) : Instr.sameNow d x y = none := by
  rcases h with ⟨_, rfl⟩ | ⟨_, rfl⟩ | ⟨_, rfl⟩ <;> (unfold Instr.sameNow; split <;> first | rfl | (rename_i q; cases q))
theorem sameNow_agree {kk : KK} {t : TypeId} {d : TypeDesc} (hd : P.underlying t = some d) (hk : KkR P t kk) {a b : AV} {x y : Value} {r q : Bool} (hx : Rel φ a x) (hy : Rel φ b y) (e : keyEq P h kk a b = some r) (hq : Instr.sameNow d x y = some q) : q = r := by
  unfold keyEq at e
  split at e
  · rename_i k
    unfold sameK at e
    split at e
    · cases hx; cases hy; cases e
      have hk : P.underlying t = some .bool := hk
      rw [hd] at hk; cases hk
      cases hq; rfl
    · rename_i i n j m
      cases hx; cases hy
      obtain ⟨kd, hk⟩ := hk
      rw [hd] at hk; cases hk
      split at e
      · rename_i e1
        subst e1
        cases e
        simp only [Instr.sameNow, if_true, Option.some.injEq] at hq
        rw [← hq, cmpA_eq]
        by_cases c : n < m
        · have : n ≠ m := by omega
          simp [c, this]
        · by_cases c' : n = m <;> simp [c, c']
      · cases e
    · cases hx with
      | str hs hv => cases hy with
        | str ht hu =>
          cases e
          have hk : P.underlying t = some .string := hk
          rw [hd] at hk; cases hk
          simp only [Instr.sameNow, Option.some.injEq] at hq
          rw [← hq, bytes_beq hs hv ht hu]
    · cases e
  · obtain ⟨el, h1, _⟩ := hk
    rw [hd] at h1; cases h1
    rw [sameNow_none (.inr (.inl ⟨_, rfl⟩))] at hq; cases hq
  · obtain ⟨h1, h2⟩ := hk
    rcases flat_agg h1 with ⟨_, fs, hf⟩ | ⟨q1, _⟩
    · rw [hd] at hf; cases hf
      rw [sameNow_none (.inr (.inr ⟨_, rfl⟩))] at hq; cases hq
    · rw [h2] at q1; cases q1
  · obtain ⟨ms, h1⟩ := hk
    rw [hd] at h1; cases h1
    rw [sameNow_none (.inl ⟨_, rfl⟩)] at hq; cases hq
  · cases e
def FindR (φ : Phi) : Option (Nat × AV) → Option (Nat × Value) → Prop
  | none, none => True
  | some (i, v), some (j, y) => i = j ∧ Rel φ v y
  | _, _ => False
theorem find_run (hR : HR P φ h w) {kk : KK} {t : TypeId} {d : TypeDesc} (hd : P.underlying t = some d) (hk : KkR P t kk) {k : AV} {x : Value} (hx : Rel φ k x) : ∀ {es : List (AV × AV × Nat)} {E : List MapEntry} {i : Nat} {res : Option (Nat × AV)}, EntsR φ es E →
    findA P h kk k es i = some res → ∃ res', (Instr.findAsking t x E i).run P w = .ok res' w ∧ FindR φ res res' ∧ (Instr.findNow d x E i = none ∨ Instr.findNow d x E i = some res')
  | [], E, i, res, hE, e => by
    cases hE
    cases e
    exact ⟨none, rfl, trivial, .inr rfl⟩
  | (k', v, n) :: es, E, i, res, hE, e => by
    cases hE with
    | @cons _ _ _ kx vy _ r hkx hvy ht =>
      unfold findA at e
      split at e
      · rename_i hq
        cases e
        have he := keyEq_run hR hk hx hkx hq
        refine ⟨some (i, vy), ?_, ⟨rfl, hvy⟩, ?_⟩
        · unfold Instr.findAsking
          rw [Sem.run_bind, he, Result.andThen_ok]
          rfl
        · unfold Instr.findNow
          split
          · exact .inr rfl
          · rename_i hn; have := sameNow_agree hd hk hx hkx hq hn; cases this
          · exact .inl rfl
      · rename_i hq
        have he := keyEq_run hR hk hx hkx hq
        obtain ⟨res', h1, h2, h3⟩ := find_run hR hd hk hx ht e
        refine ⟨res', ?_, h2, ?_⟩
        · unfold Instr.findAsking
          rw [Sem.run_bind, he, Result.andThen_ok]
          exact h1
        · unfold Instr.findNow
          split
          · rename_i hn; have := sameNow_agree hd hk hx hkx hq hn; cases this
          · exact h3
          · exact .inl rfl
      · cases e
theorem findKey_run (hR : HR P φ h w) {kk : KK} {t : TypeId} (hk : KkR P t kk) {k : AV} {x : Value} (hx : Rel φ k x) {es : List (AV × AV × Nat)} {E : List MapEntry} {res : Option (Nat × AV)} (hE : EntsR φ es E) (e : findA P h kk k es 0 = some res) :
    ∃ res', (Instr.findKey t x E).run P w = .ok res' w ∧ FindR φ res res' := by
  have hd : ∃ d, P.underlying t = some d := by
    cases kk with
    | one k => cases k with
      | bool => exact ⟨_, hk⟩
      | int => obtain ⟨i, hk⟩ := hk; exact ⟨_, hk⟩
      | str => exact ⟨_, hk⟩
    | flat ks =>
      obtain ⟨h1, _⟩ := hk
      rcases flat_agg h1 with ⟨_, fs, hf⟩ | ⟨_, k, _, hl⟩
      · exact ⟨_, hf⟩
      · cases k with
        | bool => exact ⟨_, hl⟩
        | int => obtain ⟨i, hl⟩ := hl; exact ⟨_, hl⟩
        | str => exact ⟨_, hl⟩
    | any => obtain ⟨_, hk⟩ := hk; exact ⟨_, hk⟩
    | ptr => obtain ⟨_, hk, _⟩ := hk; exact ⟨_, hk⟩
  obtain ⟨d, hd⟩ := hd
  obtain ⟨res', h1, h2, h3⟩ := find_run hR hd hk hx hE e
  refine ⟨res', ?_, h2⟩
  unfold Instr.findKey
  rw [Sem.run_bind, run_underlying hd, Result.andThen_ok]
  rcases h3 with q | q
  · rw [q]; exact h1
  · rw [q]; rfl
end
end Go.Proofs.YtjhgembcdndmkaaGreatDoor.Am

namespace Go.Proofs.YtjhgembcdndmkaaGreatDoor.Am
section
variable {P : Program} {φ : Phi} {h : Hp} {w : World}
theorem ck_one {t : TypeId} {k : LK} (hk : LkR P t k) (e : Bool) (n : Nat) (X : Value) : (Instr.checkKey e (n + 1) t X).run P w = .ok () w := by
  unfold Instr.checkKey
  cases k with
  | bool =>
    have hk : P.underlying t = some .bool := hk
    rw [Sem.run_bind, run_underlying hk, Result.andThen_ok]
    cases X <;> rfl
  | int =>
    obtain ⟨i, hk⟩ := hk
    rw [Sem.run_bind, run_underlying hk, Result.andThen_ok]
    cases X <;> rfl
  | str =>
    have hk : P.underlying t = some .string := hk
    rw [Sem.run_bind, run_underlying hk, Result.andThen_ok]
    cases X <;> rfl
theorem ck_ptr {t el : TypeId} (hk : P.underlying t = some (.pointer el)) (e : Bool) (n : Nat) (X : Value) : (Instr.checkKey e (n + 1) t X).run P w = .ok () w := by
  unfold Instr.checkKey
  rw [Sem.run_bind, run_underlying hk, Result.andThen_ok]
  cases X <;> rfl
theorem ck_fields {e : Bool} {n : Nat} {g : TypeId → Option (List LK)} {cs : Array Value} (hg : ∀ (t : TypeId) (ks : List LK) (off : Nat), okT P t = true → g t = some ks → ks.length = P.cellsOf t → off + ks.length ≤ cs.size →
      ∃ X, (part t cs off).run P w = .ok X w ∧ (Instr.checkKey e n t X).run P w = .ok () w)
    {body : Field → PUnit → Sem (ForInStep PUnit)} (hB : ∀ (f : Field) (st : PUnit) (X : Value), f.name ≠ "_" → (part f.type cs f.offset).run P w = .ok X w → (Instr.checkKey e n f.type X).run P w = .ok () w → (body f st).run P w = .ok (.yield ⟨⟩) w) :
    ∀ (fs : List Field) (acc : Nat) (ks : List LK), flatFs P g fs acc = some ks → acc + ks.length ≤ cs.size → (forIn (m := Sem) fs PUnit.unit body).run P w = .ok ⟨⟩ w
  | [], acc, ks, h, _ => by cases h; rfl
  | f :: fs, acc, ks, h, hl => by
    unfold flatFs at h
    cases hc : (f.name == "_" || !Nat.beq f.offset acc || !okT P f.type) with
    | true => rw [hc] at h; cases h
    | false =>
      rw [hc, cond_false] at h
      simp only [Bool.or_eq_false_iff, Bool.not_eq_false'] at hc
      obtain ⟨⟨c1, c2⟩, c3⟩ := hc
      have c2 : f.offset = acc := Nat.eq_of_beq_eq_true c2
      split at h
      · rename_i k1 hk1
        cases hb : Nat.beq k1.length (P.cellsOf f.type) with
        | false => rw [hb] at h; cases h
        | true =>
          rw [hb, cond_true] at h
          split at h
          · rename_i k2 hk2
            cases h
            rw [List.length_append] at hl
            obtain ⟨X, r1, r2⟩ := hg f.type k1 acc c3 hk1 (Nat.eq_of_beq_eq_true hb) (by omega)
            have hname : f.name ≠ "_" := fun e => by rw [e] at c1; cases c1
            rw [List.forIn_cons, Sem.run_bind, hB f _ X hname (by rw [c2]; exact r1) r2, Result.andThen_ok]
            exact ck_fields hg hB fs (Nat.add acc k1.length) k2 hk2 (by show acc + k1.length + k2.length ≤ _; omega)
          · cases h
      · cases h
theorem ck_flat (e : Bool) : ∀ (n : Nat) (t : TypeId) (ks : List LK), flatK P n t = some ks → ∀ (d : Nat) (X : Value), (isAggT P t = true → ∃ a, X = .agg a ∧ a.size = ks.length) → (Instr.checkKey e (n + d) t X).run P w = .ok () w
  | 0, t, ks, h => by cases h
  | n + 1, t, ks, h => by
    intro d X ha
    rw [show n + 1 + d = (n + d) + 1 by omega]
    rcases flat_agg h with ⟨hag, fs, hd⟩ | ⟨hag, k, rfl, hk⟩
    · obtain ⟨cs, rfl, hl⟩ := ha hag
      unfold flatK at h
      rw [hd] at h
      simp only at h
      cases hst : P.stoodInHeld t with
      | true => rw [hst] at h; cases h
      | false =>
        rw [hst, cond_false] at h
        unfold Instr.checkKey
        rw [Sem.run_bind, run_underlying hd, Result.andThen_ok]
        simp only
        rw [← Array.forIn_toList]
        rw [Sem.run_bind, ck_fields (P := P) (w := w) (e := e) (n := n + d) (g := flatK P n) (cs := cs) ?_ ?_ fs.toList 0 ks h (by omega), Result.andThen_ok]
        · rfl
        · intro t' ks' off hok hk' hlen hle
          rcases flat_agg hk' with ⟨hag', _⟩ | ⟨hag', k', rfl, hkk⟩
          · refine ⟨_, part_agg hok hag' cs off w, ck_flat e n t' ks' hk' d _ fun _ => ⟨_, rfl, ?_⟩⟩
            rw [← hlen, Array.size_extract]; omega
          · have hlt : off < cs.size := by simp at hle; omega
            refine ⟨cs[off], part_one hok hag' (Array.getElem?_eq_getElem hlt) w, ck_flat e n t' [k'] hk' d _ fun q => by rw [hag'] at q; cases q⟩
        · intro f st X hname e1 e2
          rw [if_pos hname]
          simp only [Sem.run_bind, e1, e2, Result.andThen_ok, Sem.run_pure]
    · exact ck_one hk e (n + d) X
theorem checkKey_run {kk : KK} {t : TypeId} (hk : KkR P t kk) {k : AV} {x : Value} (hx : Rel φ k x) (hok : keyOk P kk k = true) (e : Bool) : (Instr.checkKey e 10000 t x).run P w = .ok () w := by
  unfold keyOk at hok
  split at hok
  · exact ck_one hk e 9999 x
  · obtain ⟨el, h1, _⟩ := hk; exact ck_ptr h1 e 9999 x
  · obtain ⟨h1, h2⟩ := hk
    cases hx with
    | agg hl =>
      refine ck_flat e 8 t _ h1 9992 _ fun _ => ⟨_, rfl, ?_⟩
      rw [← Array.length_toList, ← hl.length]
      exact beq_iff.1 hok
  · obtain ⟨ms, h1⟩ := hk
    cases hx with
    | ifc hx =>
      obtain ⟨i, el, i1, i2, i3, _⟩ := okPtrT_facts hok
      show (Instr.checkKey e (9999 + 1) t _).run P w = _
      unfold Instr.checkKey
      rw [Sem.run_bind, run_underlying h1, Result.andThen_ok]
      simp only [Sem.run_bind, run_typeInfo w i1, Result.andThen_ok, i2, Bool.not_true, Bool.false_eq_true, if_false]
      exact ck_ptr i3 e 9998 _
  · cases hok
theorem keyT_facts {t : TypeId} {kk : KK} (e : keyT P t = some kk) : ∃ kt et, P.underlying t = some (.map kt et) ∧ KkR P kt kk := by
  unfold keyT at e
  split at e
  · exact ⟨_, _, by assumption, kkT_R e⟩
  · cases e
theorem valT_facts {t kt et : TypeId} {z : AV} (hd : P.underlying t = some (.map kt et)) (e : valT P t = some z) : zeroT P et = some z := by
  unfold valT at e
  rw [hd] at e
  exact e
theorem EntsR.empty {es : List (AV × AV × Nat)} {E : Array MapEntry} (h : EntsR φ es E.toList) : E.isEmpty = es.isEmpty := by
  obtain ⟨l⟩ := E
  cases h <;> rfl
theorem EntsR.length {es : List (AV × AV × Nat)} {E : List MapEntry} (h : EntsR φ es E) : es.length = E.length := by
  induction h with
  | nil => rfl
  | cons _ _ _ ih => simp [ih]
variable {env : T AV} {a : Act} {o : Oper}
theorem op_lookup (hR : HR P φ h w) (hE : EnvR φ env a.tmps) {t : TypeId} {m k : Operand} {m' k' : Opd} {kk : KK} {z : AV} {ok : Bool} (hkk : keyT P t = some kk) (hz : valT P t = some z) (hm : compOpd P m = some m') (hk : compOpd P k = some k')
    (ho : o.op = .lookup t m k ok) : ResR P φ h w (evalOp P (.lookup z ok kk m' k') env h) ((execOp a.eval o).run P w) := by
  have rm := opd_rel hR hE hm
  have rk := opd_rel hR hE hk
  obtain ⟨kt, et, hd, hK⟩ := keyT_facts hkk
  have hz := valT_facts hd hz
  obtain ⟨Z, z1, z2⟩ := zeroT_run hz φ w
  have hrun : (execOp a.eval o).run P w = ((Instr.lookup t (a.eval m) (a.eval k) ok).run P w).andThen fun v w' => .ok (.value v) w' := by
    simp only [execOp, ho, Sem.run_bind]; rfl
  rw [hrun]
  unfold evalOp
  simp only
  generalize hkv : ev env k' = kv at *
  generalize hmv : ev env m' = mv at *
  generalize hX : a.eval m = X at *
  generalize hY : a.eval k = Y at *
  cases hok : keyOk P kk kv with
  | false => trivial
  | true =>
    rw [cond_true]
    have hck : ∀ e, (Instr.checkKey e 10000 kt Y).run P w = .ok () w := fun e => checkKey_run hK rk hok e
    have fin : ∀ (v : AV) (y : Value) (b : Bool), Rel φ v y → (Instr.lookup t X Y ok).run P w = .ok (if ok then .tuple #[y, .bool b] else y) w →
        ResR P φ h w (.val (bif ok then .tup [v, .bool b] else v) h) (((Instr.lookup t X Y ok).run P w).andThen fun v w' => .ok (.value v) w') := by
      intro v y b hv e
      rw [e]
      refine ResR.pure hR (x := if ok then .tuple #[y, .bool b] else y) ?_ rfl
      cases ok with
      | true => exact .tup (.cons hv (.cons (.bool b) .nil))
      | false => exact hv
    split
    · cases rm
      refine fin z Z false z2 ?_
      unfold Instr.lookup
      rw [Sem.run_bind, run_underlying hd, Result.andThen_ok]
      simp only [Sem.run_bind, Sem.run_pure, Result.andThen_ok, hck, Instr.findKey]
      obtain ⟨res', f1, f2⟩ := findKey_run hR hK rk (es := []) (E := []) .nil (kk := kk) (res := none) rfl
      have f1 : (Instr.findKey kt Y (#[] : Array MapEntry).toList).run P w = .ok res' w := f1
      unfold Instr.findKey at f1
      simp only [Sem.run_bind] at f1
      rw [f1, Result.andThen_ok]
      cases res' with
      | some p => cases f2
      | none => simp only [Sem.run_bind, z1, Result.andThen_ok, Sem.run_pure]
    · rename_i id
      cases rm with
      | @map _ b hφ =>
        split
        · rename_i ser es clock hid
          obtain ⟨b', E, e1, e2, e3⟩ := hR.blk _ _ hid
          rw [hφ] at e1
          cases e1
          have hmodel : ∀ (res' : Option (Nat × Value)), (Instr.findKey kt Y E.toList).run P w = .ok res' w →
              (Instr.lookup t (.map (some b)) Y ok).run P w = .ok (match res' with | some (_, y) => if ok then .tuple #[y, .bool true] else y | none => if ok then .tuple #[Z, .bool false] else Z) w := by
            intro res' f1
            unfold Instr.lookup
            rw [Sem.run_bind, run_underlying hd, Result.andThen_ok]
            simp only [Sem.run_bind, run_getObj e2 (fun _ _ _ q => by cases q), Sem.run_pure, Result.andThen_ok, hck, f1]
            cases res' with
            | none => simp only [Sem.run_bind, z1, Result.andThen_ok, Sem.run_pure]
            | some p => rfl
          split
          · rename_i i v hf
            obtain ⟨res', f1, f2⟩ := findKey_run hR hK rk e3 hf
            cases res' with
            | none => cases f2
            | some p => exact fin v p.2 true f2.2 (hmodel _ f1)
          · rename_i hf
            obtain ⟨res', f1, f2⟩ := findKey_run hR hK rk e3 hf
            cases res' with
            | none => exact fin z Z false z2 (hmodel _ f1)
            | some p => cases f2
          · trivial
        · trivial
    · trivial
end
end Go.Proofs.YtjhgembcdndmkaaGreatDoor.Am
