import Derived.ChangeKeysEq
import Derived.Lib.Strings
import Derived.Test.YtjhgembcdndmkaaGreatDoorAmB
/- THE ABSTRACT MACHINE, part C: a machine over values without block numbers, and the proof that the model's machine does what it does. No condition. -/
set_option linter.unusedSimpArgs false
set_option linter.unusedVariables false
namespace Go.Proofs.YtjhgembcdndmkaaGreatDoor.Am
theorem info_underlying {P : Program} {t : TypeId} {d : TypeDesc} (h : P.underlying t = some d) : ∃ i, P.info? t = some i := by
  cases e : P.info? t with
  | none => unfold Program.underlying at h; rw [e] at h; cases h
  | some i => exact ⟨i, rfl⟩
theorem okT_desc {P : Program} {t : TypeId} (h : okT P t = true) : ∃ d, P.underlying t = some d := by
  unfold okT at h
  cases e : P.underlying t with
  | none => rw [e] at h; cases h
  | some d => exact ⟨d, rfl⟩
theorem okT_info {P : Program} {t : TypeId} (h : okT P t = true) : ∃ i, P.info? t = some i ∧ i.size = P.cellsOf t ∧ i.bytes = P.bytesOf t := by
  obtain ⟨d, hd⟩ := okT_desc h
  obtain ⟨i, e⟩ := info_underlying hd
  exact ⟨i, e, by simp [Program.cellsOf, e], by simp [Program.bytesOf, e]⟩
theorem run_sizeOf' {P : Program} {t : TypeId} (h : okT P t = true) (w : World) : (sizeOf t).run P w = .ok (P.cellsOf t) w := by
  obtain ⟨i, e, _⟩ := okT_info h
  exact run_sizeOf w e
theorem run_isAgg' {P : Program} {t : TypeId} {d : TypeDesc} (h : P.underlying t = some d) (w : World) : (isAgg t).run P w = .ok (isAggT P t) w := by
  unfold isAgg isAggT
  rw [Sem.run_bind, run_underlying h, Result.andThen_ok, h]
  cases d <;> rfl
theorem part_agg {P : Program} {t : TypeId} (hk : okT P t = true) (hg : isAggT P t = true) (cs : Array Value) (off : Nat) (w : World) :
    (part t cs off).run P w = .ok (.agg (cs.extract off (off + P.cellsOf t))) w := by
  obtain ⟨d, hd⟩ := okT_desc hk
  unfold part
  simp only [Sem.run_bind, run_isAgg' hd, Result.andThen_ok, hg, if_true, run_sizeOf' hk, Sem.run_pure]
theorem part_one {P : Program} {t : TypeId} (hk : okT P t = true) (hg : isAggT P t = false) {cs : Array Value} {off : Nat} {x : Value} (hx : cs[off]? = some x) (w : World) :
    (part t cs off).run P w = .ok x w := by
  obtain ⟨d, hd⟩ := okT_desc hk
  unfold part
  simp only [Sem.run_bind, run_isAgg' hd, Result.andThen_ok, hg, Bool.false_eq_true, if_false, hx, Sem.run_pure]
theorem extract_rel {φ : Phi} {l : List AV} {cs : Array Value} (h : RelL φ l cs.toList) (off n : Nat) : RelL φ ((l.drop off).take n) (cs.extract off (off + n)).toList := by
  have := (h.drop off).take n
  rw [Array.toList_extract, List.extract_eq_take_drop, show off + n - off = n by omega]
  exact this
theorem bytes_beq {s t : ByteArray} {n v m u : Nat} (hs : s.data.toList = unpack n v) (hv : v < 256 ^ n) (ht : t.data.toList = unpack m u) (hu : u < 256 ^ m) : (s == t) = (Nat.beq n m && Nat.beq v u) := by
  have hsn : s.size = n := by rw [← unpack_length n v, ← hs]; simp
  have htn : t.size = m := by rw [← unpack_length m u, ← ht]; simp
  have key : s.data = t.data ↔ (n = m ∧ v = u) := by
    refine ⟨fun e => ?_, fun ⟨e1, e2⟩ => ?_⟩
    · have e1 : n = m := by
        rw [← hsn, ← htn]
        show s.data.size = t.data.size
        rw [e]
      subst e1
      exact ⟨rfl, unpack_inj hv hu (by rw [← hs, ← ht, e])⟩
    · subst e1; subst e2
      rw [← Array.toArray_toList (xs := s.data), hs, ← ht]
  show (s.data == t.data) = _
  by_cases c : s.data = t.data
  · obtain ⟨e1, e2⟩ := key.1 c
    rw [beq_iff_eq.2 c, e1, e2]
    simp
  · have h1 : (s.data == t.data) = false := by
      cases h : s.data == t.data with
      | false => rfl
      | true => exact absurd (beq_iff_eq.1 h) c
    rw [h1]
    symm
    rw [Bool.and_eq_false_iff]
    by_cases e1 : n = m
    · right
      cases h : Nat.beq v u with
      | false => rfl
      | true => exact absurd (key.2 ⟨e1, Nat.eq_of_beq_eq_true h⟩) c
    · left
      cases h : Nat.beq n m with
      | false => rfl
      | true => exact absurd (Nat.eq_of_beq_eq_true h) e1
def LkR (P : Program) (t : TypeId) : LK → Prop
  | .bool => P.underlying t = some .bool
  | .int => ∃ i, P.underlying t = some (.int i)
  | .str => P.underlying t = some .string
theorem sameK_run {P : Program} {w : World} {t : TypeId} {φ : Phi} {k : LK} {a b : AV} {x y : Value} {r : Bool} (hx : Rel φ a x) (hy : Rel φ b y) (h : sameK k a b = some r) (d : Nat)
    (hk : LkR P t k) : (Op.equalIn (d + 1) t x y).run P w = .ok r w := by
  unfold sameK at h
  split at h
  · cases hx; cases hy; cases h
    have hk : P.underlying t = some .bool := hk
    simp [Op.equalIn, run_underlying hk]
  · rename_i i n j m
    cases hx; cases hy
    obtain ⟨kk, hk⟩ := hk
    split at h
    · rename_i e
      subst e
      cases h
      simp only [Op.equalIn, Sem.run_bind, run_underlying hk, Result.andThen_ok, if_true, Sem.run_pure, cmpA_eq]
      congr 1
      by_cases c : n < m
      · have : n ≠ m := by omega
        simp [c, this]
      · by_cases c' : n = m <;> simp [c, c']
    · cases h
  · cases hx with
    | str hs hv => cases hy with
      | str ht hu =>
        cases h
        have hk : P.underlying t = some .string := hk
        simp only [Op.equalIn, Sem.run_bind, run_underlying hk, Result.andThen_ok, Sem.run_pure]
        rw [bytes_beq hs hv ht hu]
  · cases h
theorem sameKs_append : ∀ {ks ks' : List LK} {l l' r r' : List AV} {b : Bool}, l.length = ks.length → r.length = ks.length → sameKs (ks ++ ks') (l ++ l') (r ++ r') = some b →
    ∃ b1 b2, sameKs ks l r = some b1 ∧ sameKs ks' l' r' = some b2 ∧ b = (bif b1 then b2 else false)
  | [], ks', [], l', [], r', b, _, _, h => ⟨true, b, rfl, h, rfl⟩
  | k :: ks, ks', a :: l, l', c :: r, r', b, h1, h2, h => by
    simp only [List.cons_append, sameKs] at h ⊢
    split at h
    · rename_i x hx
      split at h
      · rename_i y hy
        cases h
        obtain ⟨b1, b2, q1, q2, q3⟩ := sameKs_append (by simpa using h1) (by simpa using h2) hy
        refine ⟨(bif x then b1 else false), b2, ?_, q2, ?_⟩
        · rw [q1]
        · rw [q3]; cases x <;> rfl
      · cases h
    · cases h
theorem sameKs_length : ∀ {ks : List LK} {l r : List AV} {b : Bool}, sameKs ks l r = some b → l.length = ks.length ∧ r.length = ks.length
  | [], [], [], _, _ => ⟨rfl, rfl⟩
  | k :: ks, a :: l, c :: r, b, h => by
    simp only [sameKs] at h
    split at h
    · split at h
      · rename_i y hy
        have := sameKs_length hy
        simp [this.1, this.2]
      · cases h
    · cases h
  | [], a :: l, _, _, h => by simp [sameKs] at h
  | [], [], c :: r, _, h => by simp [sameKs] at h
  | k :: ks, [], _, _, h => by simp [sameKs] at h
  | k :: ks, a :: l, [], _, h => by simp [sameKs] at h
theorem flat_agg {P : Program} {n : Nat} {t : TypeId} {ks : List LK} (h : flatK P n t = some ks) : (isAggT P t = true ∧ ∃ fs, P.underlying t = some (.struct fs)) ∨ (isAggT P t = false ∧ ∃ k, ks = [k] ∧ LkR P t k) := by
  cases n with
  | zero => cases h
  | succ n =>
    unfold flatK at h
    unfold isAggT
    split at h
    · rename_i e; cases h; right; rw [e]; exact ⟨rfl, _, rfl, e⟩
    · rename_i i e; cases h; right; rw [e]; exact ⟨rfl, _, rfl, i, e⟩
    · rename_i e; cases h; right; rw [e]; exact ⟨rfl, _, rfl, e⟩
    · rename_i fs e; left; rw [e]; exact ⟨rfl, fs, rfl⟩
    · cases h
theorem flat_fields {P : Program} {w : World} {φ : Phi} {g : TypeId → Option (List LK)} {d : Nat} {xs ys : Array Value} (hg : ∀ (t : TypeId) (ks : List LK), okT P t = true → g t = some ks → ∀ (off : Nat) (l r : List AV) (b : Bool), ks.length = P.cellsOf t → RelL φ l (xs.toList.drop off) →
      RelL φ r (ys.toList.drop off) → sameKs ks (l.take ks.length) (r.take ks.length) = some b → ∃ X Y, (part t xs off).run P w = .ok X w ∧ (part t ys off).run P w = .ok Y w ∧ (Op.equalIn d t X Y).run P w = .ok b w)
    {body : Field → Option Bool × Unit → Sem (ForInStep (Option Bool × Unit))} (hB : ∀ (f : Field) (st : Option Bool × Unit) (X Y : Value) (b : Bool), f.name ≠ "_" → (part f.type xs f.offset).run P w = .ok X w → (part f.type ys f.offset).run P w = .ok Y w →
      (Op.equalIn d f.type X Y).run P w = .ok b w → (body f st).run P w = .ok (if b = true then .yield (none, ()) else .done (some false, ())) w) :
    ∀ (fs : List Field) (acc : Nat) (ks : List LK) (l r : List AV) (b : Bool), flatFs P g fs acc = some ks → RelL φ l (xs.toList.drop acc) → RelL φ r (ys.toList.drop acc) → sameKs ks l r = some b →
      (forIn (m := Sem) fs ((none, ()) : Option Bool × Unit) body).run P w = .ok (if b = true then none else some false, ()) w
  | [], acc, ks, l, r, b, h, hl, hr, hs => by
    cases h
    have := sameKs_length hs
    have e1 : l = [] := List.length_eq_zero_iff.1 (by simpa using this.1)
    have e2 : r = [] := List.length_eq_zero_iff.1 (by simpa using this.2)
    subst e1; subst e2
    cases hs
    rfl
  | f :: fs, acc, ks, l, r, b, h, hl, hr, hs => by
    unfold flatFs at h
    cases hc : (f.name == "_" || !Nat.beq f.offset acc || !okT P f.type) with
    | true => rw [hc] at h; cases h
    | false =>
      rw [hc, cond_false] at h
      simp only [Bool.or_eq_false_iff, Bool.not_eq_false'] at hc
      obtain ⟨⟨c1, c2⟩, c3⟩ := hc
      have c2 : f.offset = acc := Nat.eq_of_beq_eq_true c2
      split at h
      · rename_i k1 hk1
        cases hb : Nat.beq k1.length (P.cellsOf f.type) with
        | false => rw [hb] at h; cases h
        | true =>
          rw [hb, cond_true] at h
          have hb := Nat.eq_of_beq_eq_true hb
          split at h
          · rename_i k2 hk2
            cases h
            have hlen := sameKs_length hs
            rw [List.length_append] at hlen
            rw [← List.take_append_drop k1.length l, ← List.take_append_drop k1.length r] at hs
            obtain ⟨b1, b2, q1, q2, q3⟩ := sameKs_append (by simp; omega) (by simp; omega) hs
            obtain ⟨X, Y, r1, r2, r3⟩ := hg f.type k1 c3 hk1 acc l r b1 hb hl hr q1
            have hname : f.name ≠ "_" := fun e => by rw [e] at c1; cases c1
            rw [List.forIn_cons, Sem.run_bind, hB f _ X Y b1 hname (by rw [c2]; exact r1) (by rw [c2]; exact r2) r3, Result.andThen_ok]
            have ih := flat_fields hg hB fs (Nat.add acc k1.length) k2 (l.drop k1.length) (r.drop k1.length) b2 hk2
              (by have := hl.drop k1.length; rw [List.drop_drop] at this; exact this) (by have := hr.drop k1.length; rw [List.drop_drop] at this; exact this) q2
            cases b1 with
            | false =>
              rw [q3]
              simp
            | true =>
              rw [q3]
              simp only [if_true, cond_true]
              exact ih
          · cases h
      · cases h
theorem flat_run {P : Program} {w : World} {φ : Phi} : ∀ (n : Nat) (t : TypeId) (ks : List LK), flatK P n t = some ks → ∀ (d : Nat) (X Y : Value) (l r : List AV) (b : Bool), (isAggT P t = true → ∃ a a', X = .agg a ∧ Y = .agg a' ∧ RelL φ l a.toList ∧ RelL φ r a'.toList) →
    (isAggT P t = false → ∃ x y, l = [x] ∧ r = [y] ∧ Rel φ x X ∧ Rel φ y Y) → sameKs ks l r = some b → (Op.equalIn (n + d) t X Y).run P w = .ok b w
  | 0, t, ks, h => by cases h
  | n + 1, t, ks, h => by
    intro d X Y l r b ha hn hs
    rcases flat_agg h with ⟨hag, fs, hd⟩ | ⟨hag, k, rfl, hk⟩
    · obtain ⟨xs, ys, rfl, rfl, hl, hr⟩ := ha hag
      unfold flatK at h
      rw [hd] at h
      simp only at h
      cases hst : P.stoodInHeld t with
      | true => rw [hst] at h; cases h
      | false =>
        rw [hst, cond_false] at h
        rw [show n + 1 + d = (n + d) + 1 by omega]
        unfold Op.equalIn
        rw [Sem.run_bind, run_underlying hd, Result.andThen_ok]
        simp only [Sem.run_bind, run_program, Result.andThen_ok, hst, Bool.false_eq_true, if_false]
        rw [← Array.forIn_toList]
        rw [flat_fields (P := P) (w := w) (φ := φ) (g := flatK P n) (d := n + d) (xs := xs) (ys := ys) (fun t' ks' hok hk' off l' r' b' hlen hl' hr' hs' => by
          have hxs : RelL φ (l'.take ks'.length) ((xs.toList.drop off).take ks'.length) := hl'.take _
          have hys : RelL φ (r'.take ks'.length) ((ys.toList.drop off).take ks'.length) := hr'.take _
          rcases flat_agg hk' with ⟨hag', _⟩ | ⟨hag', k', rfl, hkk⟩
          · refine ⟨_, _, part_agg hok hag' xs off w, part_agg hok hag' ys off w, flat_run (φ := φ) n t' ks' hk' d _ _ _ _ b' (fun _ => ⟨_, _, rfl, rfl, ?_, ?_⟩) (fun e => by rw [hag'] at e; cases e) hs'⟩
            · rw [Array.toList_extract, List.extract_eq_take_drop, ← hlen, show off + ks'.length - off = ks'.length by omega]; exact hxs
            · rw [Array.toList_extract, List.extract_eq_take_drop, ← hlen, show off + ks'.length - off = ks'.length by omega]; exact hys
          · have hq := sameKs_length hs'
            obtain ⟨x, hx⟩ := List.length_eq_one_iff.1 hq.1
            obtain ⟨y, hy⟩ := List.length_eq_one_iff.1 hq.2
            rw [hx] at hxs hs'
            rw [hy] at hys hs'
            generalize hX : (xs.toList.drop off).take [k'].length = Xl at hxs
            generalize hY : (ys.toList.drop off).take [k'].length = Yl at hys
            cases hxs with
            | @cons _ vx _ lx rx tx => cases hys with
              | @cons _ vy _ ly ry ty =>
                cases tx; cases ty
                have get : ∀ {zs : Array Value} {v : Value}, (zs.toList.drop off).take [k'].length = [v] → zs[off]? = some v := fun {zs v} e => by
                  have := congrArg (fun l => l[0]?) e
                  simp at this
                  exact this
                refine ⟨vx, vy, part_one hok hag' (get hX) w, part_one hok hag' (get hY) w, flat_run (φ := φ) n t' [k'] hk' d vx vy [x] [y] b' (fun e => by rw [hag'] at e; cases e) (fun _ => ⟨x, y, rfl, rfl, rx, ry⟩) hs'⟩)
          (fun f st X Y b1 hname e1 e2 e3 => by
            rw [if_pos hname]
            simp only [Sem.run_bind, e1, e2, e3, Result.andThen_ok]
            cases b1 <;> simp) fs.toList 0 ks l r b h (by rw [List.drop_zero]; exact hl) (by rw [List.drop_zero]; exact hr) hs, Result.andThen_ok]
        cases b <;> rfl
    · obtain ⟨x, y, rfl, rfl, hx, hy⟩ := hn hag
      simp only [sameKs] at hs
      split at hs
      · rename_i z hz
        cases hs
        have := sameK_run (w := w) hx hy hz (n + d) hk
        rw [show n + 1 + d = (n + d) + 1 by omega, this]
        cases z <;> rfl
      · cases hs
end Go.Proofs.YtjhgembcdndmkaaGreatDoor.Am

namespace Go.Proofs.YtjhgembcdndmkaaGreatDoor.Am
theorem ordI {op : BinOp} {a b : Int} {t : Bool} (h : ordOp op (cmpA a b) = some t) : Op.intCmp op a b = pure (.bool t) := by
  rw [cmpA_eq] at h
  by_cases c : a < b
  · rw [if_pos c] at h
    cases op <;> simp only [ordOp, Option.some.injEq, reduceCtorEq] at h <;> subst h <;> simp only [Op.intCmp] <;> congr 2 <;> first | (simp; omega) | skip
    all_goals first | (rw [beq_eq_false_iff_ne]; omega) | (rw [bne_iff_ne]; omega) | (simp; omega)
  · rw [if_neg c] at h
    by_cases d : a = b
    · rw [if_pos d] at h
      subst d
      cases op <;> simp only [ordOp, Option.some.injEq, reduceCtorEq] at h <;> subst h <;> simp [Op.intCmp]
    · rw [if_neg d] at h
      cases op <;> simp only [ordOp, Option.some.injEq, reduceCtorEq] at h <;> subst h <;> simp only [Op.intCmp] <;> congr 2 <;> simp <;> omega
theorem land_lt {a b n : Nat} (h : a < 2 ^ n) : a &&& b < 2 ^ n := Nat.lt_of_le_of_lt Nat.and_le_left h
theorem wrap_top {k : IntKind} {n : Nat} (h : n < 2 ^ topBits k) : k.wrap (n : Int) = n := by
  apply wrap_id
  · cases k <;> simp [IntKind.min, IntKind.bits, IntKind.signed] <;> omega
  · cases k <;> simp [IntKind.max, IntKind.bits, IntKind.signed, topBits] at * <;> omega
theorem ofInt_top {k : IntKind} {a : Nat} (h : a < 2 ^ topBits k) : (BitVec.ofInt k.bits (Int.ofNat a)).toNat = a := by
  have hk : 0 < k.bits := by cases k <;> simp [IntKind.bits]
  have : (2:Nat) ^ (topBits k) ≤ 2 ^ k.bits := Nat.pow_le_pow_right (by omega) (by unfold topBits; cases k.signed <;> simp)
  show (BitVec.ofInt k.bits ((a : Nat) : Int)).toNat = a
  rw [BitVec.ofInt_natCast, BitVec.toNat_ofNat, Nat.mod_eq_of_lt (by omega)]
theorem bitsA_run {op : BinOp} {k : IntKind} {x y r : Int} (h : bitsA op k x y = some r) : Op.intBits op k x y = pure (.int k r) := by
  cases op <;> simp only [bitsA, Option.some.injEq, reduceCtorEq] at h <;> subst h <;> rfl
theorem bitsF_run {op : BinOp} {k : IntKind} {x y r : Int} (h : bitsF op k x y = some r) : Op.intBits op k x y = pure (.int k r) := by
  unfold bitsF at h
  split at h
  · rename_i a b
    simp only at h
    cases hb : (Nat.blt a (Nat.pow 2 (topBits k)) && Nat.blt b (Nat.pow 2 (topBits k))) with
    | false =>
      rw [hb] at h
      split at h <;> (rw [cond_false] at h; exact bitsA_run h)
    | true =>
      rw [hb] at h
      rw [Bool.and_eq_true] at hb
      have ha : a < 2 ^ (topBits k) := blt_iff.1 hb.1
      have hb : b < 2 ^ (topBits k) := blt_iff.1 hb.2
      split at h <;> rw [cond_true] at h
      · simp only [Option.some.injEq] at h
        subst h
        simp only [Op.intBits, BitVec.toNat_and, ofInt_top ha, ofInt_top hb]
        rw [wrap_top (land_lt ha)]; rfl
      · simp only [Option.some.injEq] at h
        subst h
        simp only [Op.intBits, BitVec.toNat_or, ofInt_top ha, ofInt_top hb]
        rw [wrap_top (Nat.or_lt_two_pow ha hb)]; rfl
      · simp only [Option.some.injEq] at h
        subst h
        simp only [Op.intBits, BitVec.toNat_xor, ofInt_top ha, ofInt_top hb]
        rw [wrap_top (Nat.xor_lt_two_pow ha hb)]; rfl
      · exact bitsA_run h
  · exact bitsA_run h
theorem shiftA_run {P : Program} {w : World} {op : BinOp} {k yk : IntKind} {a b : Int} {r : AV} (h : shiftA op k a b = some r) (φ : Phi) :
    ∃ z, (Op.shift op k a yk b).run P w = .ok z w ∧ Rel φ r z := by
  unfold shiftA at h
  split at h
  · cases h
  · rename_i y
    have hy : ¬ (Int.ofNat y < 0) := by simp
    have e : (bif Nat.ble y k.bits then y else k.bits) = min (Int.ofNat y).toNat k.bits := by
      by_cases c : y ≤ k.bits
      · rw [ble_iff.2 c, cond_true]; simp; omega
      · rw [ble_false.2 (by omega), cond_false]; simp; omega
    simp only [e, intK_eq, wrapA_eq] at h
    unfold Op.shift
    rw [if_neg hy]
    split at h
    · simp only [Option.some.injEq] at h
      subst h
      refine ⟨_, rfl, ?_⟩
      have : (Int.ofNat (Nat.pow 2 (min (Int.ofNat y).toNat k.bits)) : Int) = 2 ^ (min (Int.ofNat y).toNat k.bits) := by
        show ((2 ^ _ : Nat) : Int) = _
        simp
      rw [this]
      exact .int _ _
    · rename_i x
      simp only [Option.some.injEq] at h
      subst h
      refine ⟨_, rfl, ?_⟩
      have : (Int.ofNat x).fdiv (2 ^ (min (Int.ofNat y).toNat k.bits)) = Int.ofNat (Nat.div x (Nat.pow 2 (min (Int.ofNat y).toNat k.bits))) := by
        rw [Int.fdiv_eq_ediv_of_nonneg _ (by exact Int.le_of_lt (Int.pow_pos (by omega)))]
        show ((x : Nat) : Int) / _ = ((x / 2 ^ _ : Nat) : Int)
        simp
      rw [this]
      exact .int _ _
    · simp only [Option.some.injEq] at h
      subst h
      exact ⟨_, rfl, .int _ _⟩
    · cases h
theorem strOp_run {P : Program} {w : World} {op : BinOp} {n v m u : Nat} {s t : ByteArray} (hs : s.data.toList = unpack n v) (hv : v < 256 ^ n) (ht : t.data.toList = unpack m u) (hu : u < 256 ^ m)
    {r : AV} (h : (match op with
    | .add => natK (Nat.add n m) fun l => bif Nat.ble l i64max then natK (Nat.add (Nat.mul v (Nat.pow 256 m)) u) fun r => some (.str l r) else none
    | op => match ordOp op (strCmp n v m u) with
      | some b => some (.bool b)
      | none => none) = some r) (φ : Phi) : ∃ z, (Op.stringOp op s t).run P w = .ok z w ∧ Rel φ r z := by
  have hsn : s.size = n := by rw [← unpack_length n v, ← hs]; simp
  have htn : t.size = m := by rw [← unpack_length m u, ← ht]; simp
  unfold Op.stringOp
  simp only [Lib.toList_data, hs, ht, cmpL_eq, cmpL_lt]
  rw [strCmp_eq n v m u hv hu] at h
  split at h
  · simp only [natK_eq] at h
    cases hc : Nat.ble (Nat.add n m) i64max with
    | false => rw [hc] at h; cases h
    | true =>
      rw [hc, cond_true, Option.some.injEq] at h
      have hc : n + m ≤ i64max := ble_iff.1 hc
      unfold i64max at hc
      subst h
      refine ⟨.string (s ++ t), ?_, .str ?_ ?_⟩
      · rw [if_neg (by rw [hsn, htn, i64_max]; omega)]; rfl
      · show (s ++ t).data.toList = unpack (n + m) (v * 256 ^ m + u)
        rw [unpack_add n m v u hu, ← hs, ← ht]
        simp [ByteArray.data_append]
      · show v * 256 ^ m + u < 256 ^ (n + m)
        rw [Nat.pow_add]
        calc v * 256 ^ m + u < v * 256 ^ m + 256 ^ m := by omega
          _ = (v + 1) * 256 ^ m := by rw [Nat.add_mul, Nat.one_mul]
          _ ≤ 256 ^ n * 256 ^ m := Nat.mul_le_mul_right _ hv
  · generalize cmpL (unpack n v) (unpack m u) = o at h ⊢
    cases op <;> cases o <;> simp only [ordOp, Option.some.injEq, reduceCtorEq] at h <;> subst h <;> exact ⟨_, rfl, .bool _⟩
theorem intBin_run {P : Program} {w : World} {op : BinOp} {k : IntKind} {a b : Int} {r : AV} (h : intBin op k a b = some r) (t : TypeId) (φ : Phi) :
    ∃ z, (binOp op t (.int k a) (.int k b)).run P w = .ok z w ∧ Rel φ r z := by
  have cmp : ∀ op', intBin op' k a b = (match ordOp op' (cmpA a b) with | some b => some (.bool b) | none => none) → intBin op' k a b = some r → ∃ z, (Op.intCmp op' a b).run P w = .ok z w ∧ Rel φ r z := by
    intro op' e h
    rw [e] at h
    split at h
    · rename_i t ht
      simp only [Option.some.injEq] at h
      subst h
      exact ⟨.bool t, by rw [ordI ht]; rfl, .bool t⟩
    · cases h
  unfold binOp
  cases op
  case shl => cases h
  case shr => cases h
  all_goals simp only [ne_eq, not_true_eq_false, if_false]
  case eql => exact cmp .eql rfl h
  case neq => exact cmp .neq rfl h
  case lss => exact cmp .lss rfl h
  case leq => exact cmp .leq rfl h
  case gtr => exact cmp .gtr rfl h
  case geq => exact cmp .geq rfl h
  case add => simp only [intBin, intK_eq, wrapA_eq, Option.some.injEq] at h; subst h; exact ⟨_, rfl, .int _ _⟩
  case sub => simp only [intBin, intK_eq, wrapA_eq, Option.some.injEq] at h; subst h; exact ⟨_, rfl, .int _ _⟩
  case mul => simp only [intBin, intK_eq, wrapA_eq, Option.some.injEq] at h; subst h; exact ⟨_, rfl, .int _ _⟩
  case quo =>
    unfold intBin at h
    simp only at h
    split at h
    · cases h
    · rename_i hb
      simp only [intK_eq, wrapA_eq, Option.some.injEq] at h
      subst h
      have : b ≠ 0 := fun c => hb (by rw [c]; rfl)
      exact ⟨.int k (k.wrap (a.tdiv b)), by simp only [Op.intDiv, if_neg this]; rfl, .int _ _⟩
  case rem =>
    unfold intBin at h
    simp only at h
    split at h
    · cases h
    · rename_i hb
      simp only [intK_eq, Option.some.injEq] at h
      subst h
      have : b ≠ 0 := fun c => hb (by rw [c]; rfl)
      exact ⟨.int k (a.tmod b), by simp only [Op.intDiv, if_neg this]; rfl, .int _ _⟩
  all_goals
    unfold intBin at h
    simp only at h
    split at h
    · rename_i t ht
      simp only [intK_eq, Option.some.injEq] at h
      subst h
      exact ⟨.int k t, by rw [bitsF_run ht]; rfl, .int _ _⟩
    · cases h
def EkR : EK → Option TypeDesc → Prop
  | .bool, some .bool => True
  | .ptr _, some (.pointer _) => True
  | .slice, some (.slice _) => True
  | .map, some (.map _ _) => True
  | .fn, some (.func _ _ _) => True
  | .ifc, some (.interface _) => True
  | .other, _ => True
  | _, _ => False
def EkT (P : Program) (t : TypeId) (kd : EK) : Prop := (∀ ks, kd = .flat ks → flatK P 8 t = some ks ∧ P.eqGuardType P.depth t = false ∧ isAggT P t = true) ∧ ((∀ ks, kd ≠ .flat ks) → EkR kd (P.underlying t))
section
variable {P : Program} {w : World} {t : TypeId} (d : Nat)
theorem eq_bool (h : P.underlying t = some .bool) (a b : Bool) : (Op.equalIn (d + 1) t (.bool a) (.bool b)).run P w = .ok (a == b) w := by
  simp [Op.equalIn, run_underlying h]
theorem eq_ptr0 {e : TypeId} (h : P.underlying t = some (.pointer e)) (a : Option Addr) : (Op.equalIn (d + 1) t (.pointer none) (.pointer a)).run P w = .ok a.isNone w := by
  simp [Op.equalIn, run_underlying h]
theorem eq_ptr1 {e : TypeId} (h : P.underlying t = some (.pointer e)) (a : Addr) : (Op.equalIn (d + 1) t (.pointer (some a)) (.pointer none)).run P w = .ok false w := by
  simp [Op.equalIn, run_underlying h]
theorem eq_sl0 {e : TypeId} (h : P.underlying t = some (.slice e)) (a : Option Addr) (l c m k : Nat) : (Op.equalIn (d + 1) t (.slice none l c) (.slice a m k)).run P w = .ok a.isNone w := by
  simp [Op.equalIn, run_underlying h]
theorem eq_sl1 {e : TypeId} (h : P.underlying t = some (.slice e)) (a : Addr) (l c m k : Nat) : (Op.equalIn (d + 1) t (.slice (some a) m k) (.slice none l c)).run P w = .ok false w := by
  simp [Op.equalIn, run_underlying h]
theorem eq_map0 {k e : TypeId} (h : P.underlying t = some (.map k e)) (a : Option Nat) : (Op.equalIn (d + 1) t (.map none) (.map a)).run P w = .ok a.isNone w := by
  simp [Op.equalIn, run_underlying h]
theorem eq_map1 {k e : TypeId} (h : P.underlying t = some (.map k e)) (a : Nat) : (Op.equalIn (d + 1) t (.map (some a)) (.map none)).run P w = .ok false w := by
  simp [Op.equalIn, run_underlying h]
theorem eq_fn0 {a b : Array TypeId} {v : Bool} (h : P.underlying t = some (.func a b v)) : (Op.equalIn (d + 1) t .nilFunc .nilFunc).run P w = .ok true w := by
  simp [Op.equalIn, run_underlying h]
theorem eq_fn1 {a b : Array TypeId} {v : Bool} (h : P.underlying t = some (.func a b v)) (f : Fn) (x y : Array Value) : (Op.equalIn (d + 1) t .nilFunc (.func f x y)).run P w = .ok false w := by
  simp [Op.equalIn, run_underlying h]
theorem eq_fn2 {a b : Array TypeId} {v : Bool} (h : P.underlying t = some (.func a b v)) (f : Fn) (x y : Array Value) : (Op.equalIn (d + 1) t (.func f x y) .nilFunc).run P w = .ok false w := by
  simp [Op.equalIn, run_underlying h]
theorem eq_ifc0 {ms : Array (String × TypeId)} (h : P.underlying t = some (.interface ms)) : (Op.equalIn (d + 1) t .nilIface .nilIface).run P w = .ok true w := by
  simp [Op.equalIn, run_underlying h]
theorem eq_ifc1 {ms : Array (String × TypeId)} (h : P.underlying t = some (.interface ms)) (u : TypeId) (x : Value) : (Op.equalIn (d + 1) t .nilIface (.iface u x)).run P w = .ok false w := by
  simp [Op.equalIn, run_underlying h]
theorem eq_ifc2 {ms : Array (String × TypeId)} (h : P.underlying t = some (.interface ms)) (u : TypeId) (x : Value) : (Op.equalIn (d + 1) t (.iface u x) .nilIface).run P w = .ok false w := by
  simp [Op.equalIn, run_underlying h]
end
theorem eqlA_flat {neg nilOk : Bool} {ks : List LK} {v u r : AV} (h : eqlA neg nilOk (.flat ks) v u = some r) : ∃ l r', v = .agg l ∧ u = .agg r' ∧ ∃ b, sameKs ks l r' = some b ∧ notIf neg b = some r := by
  unfold eqlA at h
  split at h <;> first | (cases h; done) | (exact EK.noConfusion ‹EK.flat ks = _›) | skip
  rename_i ks' l r' e
  cases e
  split at h
  · rename_i b hb
    exact ⟨l, r', rfl, rfl, b, hb, h⟩
  · cases h
theorem equal_run {P : Program} {w : World} {t : TypeId} {φ : Phi} {v u : AV} {x y : Value} (hx : Rel φ v x) (hy : Rel φ u y) {neg nilOk : Bool} {kd : EK} {r : AV} (h : eqlA neg nilOk kd v u = some r)
    (hkk : EkT P t kd) : ∃ b, (Op.equal t x y).run P w = .ok b w ∧ r = .bool (bif neg then !b else b) := by
  have hn : ∀ b, notIf neg b = some r → r = .bool (bif neg then !b else b) := fun b e => by unfold notIf at e; cases e; rfl
  show ∃ b, (Op.equalIn (9999 + 1) t x y).run P w = .ok b w ∧ _
  by_cases hfl : ∃ ks, kd = .flat ks
  · obtain ⟨ks, rfl⟩ := hfl
    obtain ⟨hf, _, hag⟩ := hkk.1 ks rfl
    obtain ⟨l, r', rfl, rfl, b, hb, h⟩ := eqlA_flat h
    cases hx with
    | agg hl => cases hy with
      | agg hr =>
        refine ⟨b, ?_, hn _ h⟩
        refine flat_run (w := w) 8 t _ hf 9992 _ _ _ _ b (fun _ => ⟨_, _, rfl, rfl, hl, hr⟩) (fun e => by rw [hag] at e; cases e) hb
  have hk := hkk.2 fun ks e => hfl ⟨ks, e⟩
  generalize 9999 = D
  unfold eqlA at h
  cases hd : P.underlying t with
  | none => rw [hd] at hk; cases kd <;> first | (cases hk; done) | (simp only at h; cases h)
  | some d =>
    rw [hd] at hk
    split at h
    case h_20 => cases h
    case h_16 ks _ _ => exact absurd ⟨ks, rfl⟩ hfl
    case h_1 =>
      cases hx; cases hy
      cases d <;> first | (cases hk; done) | exact ⟨_, eq_bool D hd _ _, hn _ h⟩
    case h_2 =>
      cases hx; cases hy
      cases d <;> first | (cases hk; done) | exact ⟨_, eq_ptr0 D hd none, hn _ h⟩
    case h_3 =>
      cases hx; cases hy
      cases d <;> first | (cases hk; done) | exact ⟨_, eq_ptr0 D hd _, hn _ h⟩
    case h_4 =>
      cases hx; cases hy
      cases d <;> first | (cases hk; done) | exact ⟨_, eq_ptr1 D hd _, hn _ h⟩
    case h_5 =>
      cases hx; cases hy
      cases d <;> first | (cases hk; done) | exact ⟨_, eq_sl0 D hd none 0 0 0 0, hn _ h⟩
    case h_6 =>
      cases hx
      cases hy <;> cases d <;> first | (cases hk; done) | exact ⟨_, eq_sl0 D hd _ 0 0 _ _, hn _ h⟩
    case h_7 =>
      cases hy
      cases hx <;> cases d <;> first | (cases hk; done) | exact ⟨_, eq_sl1 D hd _ 0 0 _ _, hn _ h⟩
    case h_8 =>
      cases hx; cases hy
      cases d <;> first | (cases hk; done) | exact ⟨_, eq_map0 D hd none, hn _ h⟩
    case h_9 =>
      cases hx; cases hy
      cases d <;> first | (cases hk; done) | exact ⟨_, eq_map0 D hd _, hn _ h⟩
    case h_10 =>
      cases hx; cases hy
      cases d <;> first | (cases hk; done) | exact ⟨_, eq_map1 D hd _, hn _ h⟩
    case h_11 =>
      cases hx; cases hy
      cases d <;> first | (cases hk; done) | exact ⟨_, eq_fn0 D hd, hn _ h⟩
    case h_12 =>
      cases hx; cases hy
      cases d <;> first | (cases hk; done) | exact ⟨_, eq_fn1 D hd _ _ _, hn _ h⟩
    case h_13 =>
      cases hx; cases hy
      cases d <;> first | (cases hk; done) | exact ⟨_, eq_fn2 D hd _ _ _, hn _ h⟩
    case h_14 =>
      cases hx; cases hy
      cases d <;> first | (cases hk; done) | exact ⟨_, eq_fn1 D hd _ _ _, hn _ h⟩
    case h_15 =>
      cases hx; cases hy
      cases d <;> first | (cases hk; done) | exact ⟨_, eq_fn2 D hd _ _ _, hn _ h⟩
    case h_17 =>
      cases hx; cases hy
      cases d <;> first | (cases hk; done) | skip
      cases nilOk <;> first | (cases h; done) | skip
      exact ⟨true, eq_ifc0 D hd, hn _ h⟩
    case h_18 =>
      cases hx; cases hy
      cases d <;> first | (cases hk; done) | exact ⟨_, eq_ifc1 D hd _ _, hn _ h⟩
    case h_19 =>
      cases hx; cases hy
      cases d <;> first | (cases hk; done) | exact ⟨_, eq_ifc2 D hd _ _, hn _ h⟩
def Odd : Value → Prop
  | .bool _ | .pointer _ | .slice _ _ _ | .map _ | .nilFunc | .func _ _ _ | .nilIface | .iface _ _ | .agg _ => True
  | _ => False
theorem binOp_eql {t : TypeId} {x y : Value} (h : Odd x) : binOp .eql t x y = (do pure (.bool (← Op.equal t x y))) := by
  cases x <;> first | (cases h; done) | (cases y <;> rfl)
theorem binOp_neq {t : TypeId} {x y : Value} (h : Odd x) : binOp .neq t x y = (do pure (.bool (!(← Op.equal t x y)))) := by
  cases x <;> first | (cases h; done) | (cases y <;> rfl)
theorem eqlA_odd {φ : Phi} {neg nilOk : Bool} {kd : EK} {v u : AV} {x : Value} {r : AV} (h : eqlA neg nilOk kd v u = some r) (hx : Rel φ v x) : Odd x := by
  unfold eqlA at h
  split at h <;> first | (cases h; done) | (cases hx <;> trivial)
theorem guardIn_nil {P : Program} {w : World} {t : TypeId} {ms : Array (String × TypeId)} (h : P.underlying t = some (.interface ms)) (he : ms.isEmpty = true) (d : Nat) :
    (Op.eqGuardIn (d + 1) t .nilIface .nilIface).run P w = .ok false w := by
  simp [Op.eqGuardIn, run_underlying h, he]
theorem nilOk_guard {P : Program} {w : World} {t : TypeId} {x y : Operand} (h : nilOkT P t x y = true) (op : BinOp) : (eqGuard op t x y .nilIface .nilIface).run P w = .ok () w := by
  have key : isConstO x = false → isConstO y = false → ∃ ms, P.underlying t = some (.interface ms) ∧ ms.isEmpty = true := by
    intro hx hy
    unfold nilOkT at h
    rw [hx, hy] at h
    simp only [Bool.false_or] at h
    split at h
    · rename_i ms e; exact ⟨ms, e, h⟩
    · cases h
  have other : ∀ why : String, isConstO x = false → isConstO y = false → (do if ← Op.eqGuardIn Op.maxDepth t .nilIface .nilIface then unsupported (.noEntry why) : Sem Unit).run P w = .ok () w := by
    intro why hx hy
    obtain ⟨ms, e, he⟩ := key hx hy
    rw [Sem.run_bind, show Op.maxDepth = 9999 + 1 from rfl, guardIn_nil e he]
    rfl
  cases x with
  | const v => cases op <;> rfl
  | tmp a => cases y with
    | const v => cases op <;> rfl
    | tmp b => cases op <;> first | rfl | exact other _ rfl rfl
    | global b => cases op <;> first | rfl | exact other _ rfl rfl
    | func b => cases op <;> first | rfl | exact other _ rfl rfl
  | global a => cases y with
    | const v => cases op <;> rfl
    | tmp b => cases op <;> first | rfl | exact other _ rfl rfl
    | global b => cases op <;> first | rfl | exact other _ rfl rfl
    | func b => cases op <;> first | rfl | exact other _ rfl rfl
  | func a => cases y with
    | const v => cases op <;> rfl
    | tmp b => cases op <;> first | rfl | exact other _ rfl rfl
    | global b => cases op <;> first | rfl | exact other _ rfl rfl
    | func b => cases op <;> first | rfl | exact other _ rfl rfl
theorem guard_none {op : BinOp} {t : TypeId} {X Y : Operand} {x y : Value} (hx : ∀ a, x ≠ .agg a) (hn : ¬ (x = .nilIface ∧ y = .nilIface)) (P : Program) (w : World) : (eqGuard op t X Y x y).run P w = .ok () w := by
  unfold eqGuard
  cases op <;> first | rfl | skip
  all_goals
    cases x <;> first | rfl | (exact absurd rfl (hx _)) | skip
    cases y <;> first | rfl | (exact absurd ⟨rfl, rfl⟩ hn)
theorem ekT_R (P : Program) (t : TypeId) : EkT P t (ekT P t) := by
  unfold ekT
  split <;> rename_i h <;> first | (refine ⟨fun ks e => EK.noConfusion e, fun _ => ?_⟩; rw [h]; trivial) | (refine ⟨fun ks e => EK.noConfusion e, fun _ => trivial⟩) | skip
  split
  · rename_i ks hf
    cases hg : P.eqGuardType P.depth t with
    | true => exact ⟨fun ks e => EK.noConfusion e, fun _ => trivial⟩
    | false =>
      refine ⟨fun ks' e => ?_, fun e => absurd rfl (e ks)⟩
      cases e
      exact ⟨hf, hg, by unfold isAggT; rw [h]⟩
  · exact ⟨fun ks e => EK.noConfusion e, fun _ => trivial⟩
theorem eqlA_agg {neg nilOk : Bool} {kd : EK} {l : List AV} {u r : AV} (h : eqlA neg nilOk kd (.agg l) u = some r) : ∃ ks r', kd = .flat ks ∧ u = .agg r' := by
  unfold eqlA at h
  split at h <;> first | (cases h; done) | (exact AV.noConfusion ‹AV.agg l = _›) | skip
  exact ⟨_, _, rfl, rfl⟩
theorem guard_agg {P : Program} {w : World} {op : BinOp} {t : TypeId} {x y : Operand} {a b : Array Value} (h : P.eqGuardType P.depth t = false) : (eqGuard op t x y (.agg a) (.agg b)).run P w = .ok () w := by
  unfold eqGuard
  cases op <;> simp [h]
theorem eqlA_nil {neg b : Bool} {kd : EK} {r : AV} (h : eqlA neg b kd .nilIfc .nilIfc = some r) : b = true := by
  cases b with
  | true => rfl
  | false => cases kd <;> cases h
theorem binA_run {P : Program} {w : World} {t : TypeId} {op : BinOp} {X Y : Operand} {φ : Phi} {v u : AV} {x y : Value} {r : AV} (hx : Rel φ v x) (hy : Rel φ u y)
    (h : binA op (ekT P t) (nilOkT P t X Y) v u = some r) : ∃ z, (do eqGuard op t X Y x y; binOp op t x y : Sem Value).run P w = .ok z w ∧ Rel φ r z := by
  have go : ∀ z, (eqGuard op t X Y x y).run P w = .ok () w → (binOp op t x y).run P w = .ok z w → (do eqGuard op t X Y x y; binOp op t x y : Sem Value).run P w = .ok z w := by
    intro z h1 h2
    rw [Sem.run_bind, h1]; exact h2
  unfold binA at h
  split at h
  · rename_i k a k' b
    cases hx; cases hy
    have hg : (eqGuard op t X Y (.int k a) (.int k' b)).run P w = .ok () w := guard_none (by simp) (by simp) P w
    split at h
    · obtain ⟨z, h1, h2⟩ := shiftA_run (P := P) (w := w) (yk := k') h φ
      exact ⟨z, go z hg h1, h2⟩
    · obtain ⟨z, h1, h2⟩ := shiftA_run (P := P) (w := w) (yk := k') h φ
      exact ⟨z, go z hg h1, h2⟩
    · split at h
      · rename_i e
        subst e
        obtain ⟨z, h1, h2⟩ := intBin_run (P := P) (w := w) h t φ
        exact ⟨z, go z hg h1, h2⟩
      · cases h
  · rename_i n a m b
    cases hx with
    | str hs hv => cases hy with
      | str ht hu =>
        obtain ⟨z, h1, h2⟩ := strOp_run (P := P) (w := w) (op := op) hs hv ht hu h φ
        refine ⟨z, go z (guard_none (by simp) (by simp) P w) ?_, h2⟩
        rw [← h1]
        cases op <;> rfl
  · have hgd : ∀ neg, eqlA neg (nilOkT P t X Y) (ekT P t) v u = some r → (eqGuard op t X Y x y).run P w = .ok () w := by
      intro neg e
      by_cases hn : x = .nilIface ∧ y = .nilIface
      · obtain ⟨rfl, rfl⟩ := hn
        cases hx; cases hy
        exact nilOk_guard (eqlA_nil e) op
      · by_cases ha : ∃ a, x = .agg a
        · obtain ⟨a, rfl⟩ := ha
          cases hx with
          | agg hl =>
            obtain ⟨ks, r', q1, rfl⟩ := eqlA_agg e
            cases hy with
            | agg hr => exact guard_agg ((ekT_R P t).1 ks q1).2.1
        · exact guard_none (fun a e => ha ⟨a, e⟩) hn P w
    split at h
    · obtain ⟨b, h1, h2⟩ := equal_run (P := P) (w := w) (t := t) hx hy h (ekT_R P t)
      subst h2
      refine ⟨.bool b, go _ (hgd false h) ?_, .bool _⟩
      rw [binOp_eql (eqlA_odd h hx), Sem.run_bind, h1]; rfl
    · obtain ⟨b, h1, h2⟩ := equal_run (P := P) (w := w) (t := t) hx hy h (ekT_R P t)
      subst h2
      refine ⟨.bool (!b), go _ (hgd true h) ?_, .bool _⟩
      rw [binOp_neq (eqlA_odd h hx), Sem.run_bind, h1]; rfl
    · cases h
end Go.Proofs.YtjhgembcdndmkaaGreatDoor.Am

namespace Go.Proofs.YtjhgembcdndmkaaGreatDoor.Am
theorem mapO_get {α β : Type} {f : α → Option β} {l : List α} {r : List β} (h : mapO f l = some r) : l.length = r.length ∧ ∀ (i : Nat) (x : α), l[i]? = some x → ∃ y, r[i]? = some y ∧ f x = some y := by
  induction l generalizing r with
  | nil => unfold mapO at h; cases h; exact ⟨rfl, fun i x e => by simp at e⟩
  | cons a l ih =>
    unfold mapO at h
    split at h
    · rename_i y hy
      split at h
      · rename_i r' hr
        cases h
        obtain ⟨h1, h2⟩ := ih hr
        refine ⟨by simp [h1], fun i x e => ?_⟩
        cases i with
        | zero => simp at e; subst e; exact ⟨y, rfl, hy⟩
        | succ i => simpa using h2 i x (by simpa using e)
      · cases h
    · cases h
theorem mapO_rel {α : Type} {φ : Phi} {f : α → Option AV} {g : α → Value} {l : List α} {r : List AV} (h : mapO f l = some r) (hf : ∀ x y, x ∈ l → f x = some y → Rel φ y (g x)) : RelL φ r (l.map g) := by
  obtain ⟨h1, h2⟩ := mapO_get h
  refine RelL.of_get (by simp [h1]) fun i v x hv hx => ?_
  rw [List.getElem?_map] at hx
  cases hl : l[i]? with
  | none => rw [hl] at hx; cases hx
  | some a =>
    rw [hl] at hx
    simp only [Option.map_some, Option.some.injEq] at hx
    obtain ⟨y, e1, e2⟩ := h2 i a hl
    rw [hv] at e1; cases e1
    subst hx
    exact hf a v (List.mem_of_getElem? hl) e2
theorem absV_rel (φ : Phi) : ∀ (n : Nat) (x : Value) (v : AV), absV n x = some v → Rel φ v x
  | 0, _, _, h => by cases h
  | n + 1, x, v, h => by
    have ih : ∀ x y, absV n x = some y → Rel φ y x := fun x y e => absV_rel φ n x y e
    have ihl : ∀ (a : Array Value) (r : List AV), mapO (absV n) a.toList = some r → RelL φ r a.toList := fun a r e => by
      have := mapO_rel (g := fun x => x) e fun x y _ k => ih x y k
      simpa using this
    unfold absV at h
    split at h
    all_goals first | (cases h; done) | skip
    case h_1 => cases h; exact .bool _
    case h_2 => cases h; exact .int _ _
    case h_3 s =>
      cases h
      have e : s.size = s.data.toList.length := by simp
      refine .str ?_ ?_
      · rw [e, unpack_pack]
      · rw [e]; exact pack_lt _
    case h_4 => cases h; exact .nilPtr
    case h_5 => cases h; exact .nilSl
    case h_6 => cases h; exact .nilMap
    case h_7 => cases h; exact .nilFn
    case h_8 => cases h; exact .nilIfc
    case h_9 =>
      split at h
      · rename_i a e; cases h; exact .ifc (ih _ _ e)
      · cases h
    case h_10 =>
      split at h
      · rename_i a e
        split at h
        · rename_i b e'; cases h; exact .fn (ihl _ _ e) (ihl _ _ e')
        · cases h
      · cases h
    case h_11 =>
      split at h
      · rename_i l e; cases h; exact .agg (ihl _ _ e)
      · cases h
    case h_12 =>
      split at h
      · rename_i l e; cases h; exact .tup (ihl _ _ e)
      · cases h
theorem opd_rel {P : Program} {φ : Phi} {h : Hp} {w : World} (hR : HR P φ h w) {env : T AV} {a : Act} (hE : EnvR φ env a.tmps) {x : Operand} {x' : Opd} (hc : compOpd P x = some x') : Rel φ (ev env x') (a.eval x) := by
  cases x with
  | tmp t => simp only [compOpd, Option.some.injEq] at hc; subst hc; exact hE t
  | const v =>
    simp only [compOpd] at hc
    cases hv : absV depthV v with
    | none => rw [hv] at hc; cases hc
    | some y =>
      rw [hv, Option.map_some, Option.some.injEq] at hc
      subst hc
      exact absV_rel φ _ v y hv
  | global g =>
    simp only [compOpd] at hc
    cases hg : Nat.blt g (globN P) with
    | false => rw [hg] at hc; cases hc
    | true =>
      rw [hg, cond_true, Option.some.injEq] at hc
      subst hc
      have e := hR.glob g (blt_iff.1 hg)
      exact .ptr e rfl (by simp) rfl
  | func f => simp only [compOpd, Option.some.injEq] at hc; subst hc; exact .fn .nil .nil
theorem opds_rel {P : Program} {φ : Phi} {h : Hp} {w : World} (hR : HR P φ h w) {env : T AV} {a : Act} (hE : EnvR φ env a.tmps) {l : List Operand} {r : List Opd} (hc : mapO (compOpd P) l = some r) :
    RelL φ (r.map (ev env)) (l.map a.eval) := by
  obtain ⟨h1, h2⟩ := mapO_get hc
  refine RelL.of_get (by simp [h1]) fun i v x hv hx => ?_
  rw [List.getElem?_map] at hv hx
  cases hl : l[i]? with
  | none => rw [hl] at hx; cases hx
  | some o =>
    obtain ⟨y, e1, e2⟩ := h2 i o hl
    rw [hl, Option.map_some, Option.some.injEq] at hx
    rw [e1, Option.map_some, Option.some.injEq] at hv
    subst hx; subst hv
    exact opd_rel hR hE e2
def NV (nx : Next) (x : Value) : Prop := nx = .value x ∨ (nx = .skip ∧ x = Go.undef)
def ResR (P : Program) (φ : Phi) (h : Hp) (w : World) (r : Res) (R : Result Next) : Prop :=
  match r with
  | .val v h' => ∃ nx x w' φ', R = .ok nx w' ∧ NV nx x ∧ HR P φ' h' w' ∧ Adv h w φ h' w' φ' ∧ Rel φ' v x
  | .enter f args h' => h' = h ∧ ∃ xs fn c, R = .ok (.enter f xs) w ∧ P.funcs[f]? = some fn ∧ fn.body = some c ∧ RelL φ args xs.toList
  | .round l args => ∃ b xs, φ l 0 = some (b, 0, 0) ∧ RelL φ args xs.toList ∧ R = (Instr.yield b xs).run P w
  | .defer f args => ∃ d, R = .ok (.defer d) w ∧ DefR φ f args d
  | .recover => R = .ok .recover w
  | .panic _ => False
  | .fail _ => True
theorem unA_run {P : Program} {w : World} {φ : Phi} {op : UnOp} {v r : AV} {x : Value} (hx : Rel φ v x) (e : unA op v = some r) : ∃ z, (Op.unary op x).run P w = .ok z w ∧ Rel φ r z := by
  unfold unA at e
  split at e
  · rename_i k n
    cases hx
    simp only [intK_eq, wrapA_eq, Option.some.injEq] at e
    subst e
    exact ⟨_, rfl, .int _ _⟩
  · rename_i k n
    cases hx
    split at e
    · rename_i r' hr
      simp only [intK_eq, Option.some.injEq] at e
      subst e
      refine ⟨.int k r', ?_, .int _ _⟩
      show (Op.intBits .xor k _ n).run P w = _
      rw [bitsA_run hr]; rfl
    · cases e
  · rename_i b
    cases hx
    cases e
    cases b <;> exact ⟨_, rfl, .bool _⟩
  · cases e
section
variable {P : Program} {φ : Phi} {h : Hp} {w : World} {env : T AV} {a : Act} {o : Oper}
theorem ResR.pure (hR : HR P φ h w) {v : AV} {x : Value} (hx : Rel φ v x) {R : Result Next} (e : R = .ok (.value x) w) : ResR P φ h w (.val v h) R :=
  ⟨_, x, w, φ, e, .inl rfl, hR, Adv.refl h w φ, hx⟩
theorem ResR.opt (hR : HR P φ h w) {r : Option AV} {why : String} {R : Result Next} (e : ∀ v, r = some v → ∃ x, R = .ok (.value x) w ∧ Rel φ v x) : ResR P φ h w (Am.opt h why r) R := by
  cases r with
  | none => trivial
  | some v => obtain ⟨x, e1, e2⟩ := e v rfl; exact ResR.pure hR e2 e1
theorem op_move (hR : HR P φ h w) (hE : EnvR φ env a.tmps) {x : Operand} {x' : Opd} (hx : compOpd P x = some x') (ho : o.op = .move x ∨ o.op = .assign x) : ResR P φ h w (evalOp P (.mov x') env h) ((execOp a.eval o).run P w) := by
  refine ResR.pure hR (opd_rel hR hE hx) ?_
  rcases ho with ho | ho <;> simp [execOp, ho]
theorem op_pick (hR : HR P φ h w) (hE : EnvR φ env a.tmps) {c x y : Operand} {c' x' y' : Opd} (hc : compOpd P c = some c') (hx : compOpd P x = some x') (hy : compOpd P y = some y') (ho : o.op = .pick c x y) :
    ResR P φ h w (evalOp P (.pick c' x' y') env h) ((execOp a.eval o).run P w) := by
  have rc := opd_rel hR hE hc
  have rx := opd_rel hR hE hx
  have ry := opd_rel hR hE hy
  unfold evalOp
  simp only
  generalize ev env c' = C at *
  cases C <;> first | trivial | skip
  rename_i b
  generalize hcv : a.eval c = X at *
  cases rc
  cases b
  · exact ResR.pure hR ry (by simp [execOp, ho, hcv, asBool])
  · exact ResR.pure hR rx (by simp [execOp, ho, hcv, asBool])
theorem op_bin (hR : HR P φ h w) (hE : EnvR φ env a.tmps) {op : BinOp} {t yt : TypeId} {x y : Operand} {x' y' : Opd} (hx : compOpd P x = some x') (hy : compOpd P y = some y') (ho : o.op = .binOp op t x y yt) :
    ResR P φ h w (evalOp P (.bin op (ekT P t) (nilOkT P t x y) x' y') env h) ((execOp a.eval o).run P w) := by
  unfold evalOp
  refine ResR.opt hR fun v e => ?_
  obtain ⟨z, e1, e2⟩ := binA_run (P := P) (w := w) (opd_rel hR hE hx) (opd_rel hR hE hy) e
  refine ⟨z, ?_, e2⟩
  simp only [execOp, ho]
  rw [Sem.run_bind, e1]; rfl
theorem op_un (hR : HR P φ h w) (hE : EnvR φ env a.tmps) {op : UnOp} {t : TypeId} {x : Operand} {x' : Opd} (hx : compOpd P x = some x') (ho : o.op = .unOp op t x) : ResR P φ h w (evalOp P (.un op x') env h) ((execOp a.eval o).run P w) := by
  unfold evalOp
  refine ResR.opt hR fun v e => ?_
  obtain ⟨z, e1, e2⟩ := unA_run (P := P) (w := w) (opd_rel hR hE hx) e
  refine ⟨z, ?_, e2⟩
  simp only [execOp, ho]
  rw [Sem.run_bind, e1]; rfl
theorem op_nilCheck (hR : HR P φ h w) (hE : EnvR φ env a.tmps) {x : Operand} {x' : Opd} (hx : compOpd P x = some x') (ho : o.op = .nilCheck x) : ResR P φ h w (evalOp P (.nilCheck x') env h) ((execOp a.eval o).run P w) := by
  have rx := opd_rel hR hE hx
  unfold evalOp
  simp only
  generalize hX : a.eval x = X at *
  split
  · rename_i id g off e
    rw [e] at rx
    refine ResR.pure hR rx ?_
    cases rx
    simp [execOp, ho, hX]
  · rename_i t v e
    rw [e] at rx
    refine ResR.pure hR rx ?_
    cases rx
    simp [execOp, ho, hX]
  · rename_i l e
    rw [e] at rx
    refine ResR.pure hR rx ?_
    cases rx
    simp [execOp, ho, hX]
  · rename_i f y z e
    rw [e] at rx
    refine ResR.pure hR rx ?_
    cases rx
    simp [execOp, ho, hX]
  · trivial
theorem op_mkIfc (hR : HR P φ h w) (hE : EnvR φ env a.tmps) {t : TypeId} {d : TypeDesc} {x : Operand} {x' : Opd} (hx : compOpd P x = some x') (hd : P.underlying t = some d) (hi : ∀ ms, d ≠ .interface ms) (ho : o.op = .makeInterface t x) :
    ResR P φ h w (evalOp P (.mkIfc t x') env h) ((execOp a.eval o).run P w) := by
  refine ResR.pure hR (.ifc (opd_rel hR hE hx)) ?_
  simp only [execOp, ho, Instr.makeInterface]
  simp only [Sem.run_bind, run_underlying hd, Result.andThen_ok]
  cases d <;> first | rfl | (exact absurd rfl (hi _))
theorem op_mkFn (hR : HR P φ h w) (hE : EnvR φ env a.tmps) {f : Fn} {x y : Array Operand} {x' y' : List Opd} (hx : mapO (compOpd P) x.toList = some x') (hy : mapO (compOpd P) y.toList = some y') (ho : o.op = .makeFunc f x y) :
    ResR P φ h w (evalOp P (.mkFn f x' y') env h) ((execOp a.eval o).run P w) := by
  refine ResR.pure hR (x := .func f (x.map a.eval) (y.map a.eval)) (.fn ?_ ?_) ?_
  · simpa using opds_rel hR hE hx
  · simpa using opds_rel hR hE hy
  · simp [execOp, ho, Instr.makeFunc]
theorem op_extract (hR : HR P φ h w) (hE : EnvR φ env a.tmps) {x : Operand} {i : Nat} {x' : Opd} (hx : compOpd P x = some x') (ho : o.op = .extract x i) : ResR P φ h w (evalOp P (.extract x' i) env h) ((execOp a.eval o).run P w) := by
  have rx := opd_rel hR hE hx
  unfold evalOp
  simp only
  generalize hX : a.eval x = X at *
  split
  · rename_i l e
    rw [e] at rx
    refine ResR.opt hR fun v ev => ?_
    cases rx with
    | tup hl =>
      rename_i arr
      rw [nth_eq] at ev
      obtain ⟨z, e1, e2⟩ := hl.get ev
      refine ⟨z, ?_, e2⟩
      rw [Array.getElem?_toList] at e1
      simp [execOp, ho, hX, Instr.extract, e1]
  · trivial
end
end Go.Proofs.YtjhgembcdndmkaaGreatDoor.Am

namespace Go.Proofs.YtjhgembcdndmkaaGreatDoor.Am
theorem zeroT_run {P : Program} {t : TypeId} {z : AV} (h : zeroT P t = some z) (φ : Phi) (w : World) : ∃ x, (zeroValue t).run P w = .ok x w ∧ Rel φ z x := by
  unfold zeroT at h
  cases e : P.info? t with
  | none => rw [e] at h; cases h
  | some i =>
    rw [e, Option.bind_some] at h
    cases ez : i.zero with
    | none => rw [ez] at h; cases h
    | some x =>
      rw [ez, Option.bind_some] at h
      refine ⟨x, ?_, absV_rel φ _ x z h⟩
      unfold zeroValue
      rw [Sem.run_bind, run_typeInfo w e, Result.andThen_ok, ez]; rfl
theorem elem_underlying {P : Program} {t e : TypeId} (h : elemOfSlice P t = some e) : P.underlying t = some (.slice e) ∧ okT P e = true := by
  unfold elemOfSlice at h
  split at h
  · rename_i e' hd
    cases ho : okT P e' with
    | false => rw [ho] at h; cases h
    | true => rw [ho] at h; cases h; exact ⟨hd, ho⟩
  · cases h
theorem array_underlying {P : Program} {t e : TypeId} {n : Nat} (h : arrayOf P t = some (n, e)) : P.underlying t = some (.array n e) ∧ okT P e = true := by
  unfold arrayOf at h
  split at h
  · rename_i n' e' hd
    cases ho : okT P e' with
    | false => rw [ho] at h; cases h
    | true => rw [ho] at h; cases h; exact ⟨hd, ho⟩
  · cases h
theorem field_underlying {P : Program} {t : TypeId} {f : Nat} {fd : Field} (h : fieldOf P t f = some fd) : ∃ fs, P.underlying t = some (.struct fs) ∧ fs[f]? = some fd ∧ okT P fd.type = true := by
  unfold fieldOf at h
  split at h
  · rename_i fs hd
    split at h
    · rename_i fd' hf
      cases ho : okT P fd'.type with
      | false => rw [ho] at h; cases h
      | true => rw [ho] at h; cases h; exact ⟨fs, hd, hf, ho⟩
    · cases h
  · cases h
section
variable {P : Program} {φ : Phi} {h : Hp} {w : World} {env : T AV} {a : Act} {o : Oper}
theorem ResR.new (hR : HR P φ h w) (hm : Room h) {l : List AV} {xs : List Value} (hl : RelL φ l xs) (el : TypeId) {R : Result Next} (e : R = .ok (.value (.pointer (some ⟨w.heap.size, 0, none⟩))) (w.alloc (.cells xs.toArray el (0, 0)))) :
    ResR P φ h w (newCells h (Cells.ofL l) fun id h => .val (.ptr id 0 0) h) R := by
  obtain ⟨w1, t1, _⟩ := Cells.ofL_spec l
  have hl' : RelL φ (Cells.ofL l).toL xs := by rw [t1]; exact hl
  obtain ⟨n1, n2⟩ := newCells_run hR hm w1 hl' (spare := []) el (0, 0) false rfl 0 (Nat.succ h.ser) (.inl rfl)
  simp only [List.append_nil] at n1 n2
  unfold newCells
  rw [newK_eq]
  exact ⟨_, _, _, _, e, .inl rfl, n1, n2, .ptr (Phi.put_same _ _ _ _) rfl rfl rfl⟩
theorem ResR.newT (hR : HR P φ h w) (hm : Room h) {l : List AV} {xs : List Value} (el : TypeId) (hc : l.length = P.cellsOf el) (hl : RelL φ l xs) {R : Result Next} (e : R = .ok (.value (.pointer (some ⟨w.heap.size, 0, none⟩))) (w.alloc (.cells xs.toArray el (0, 0)))) :
    ResR P φ h w (newCellsN h (Nat.succ (Nat.succ el)) (Cells.ofL l) fun id h => .val (.ptr id 0 0) h) R := by
  obtain ⟨w1, t1, _⟩ := Cells.ofL_spec l
  have hl' : RelL φ (Cells.ofL l).toL xs := by rw [t1]; exact hl
  obtain ⟨n1, n2⟩ := newCells_run hR hm w1 hl' (spare := []) el (0, 0) false rfl (Nat.succ (Nat.succ el)) (Nat.succ h.ser) (.inr (.inr ⟨el, rfl, rfl, rfl, by rw [List.append_nil, ← hl.length, hc]⟩))
  simp only [List.append_nil] at n1 n2
  unfold newCellsN
  rw [newK_eq]
  exact ⟨_, _, _, _, e, .inl rfl, n1, n2, .ptr (Phi.put_same _ _ _ _) rfl rfl rfl⟩
theorem op_alloc (hR : HR P φ h w) (hm : Room h) {t : TypeId} {z : AV} (hz : zeroT P t = some z) (ho : o.op = .alloc t) : ResR P φ h w (evalOp P (.new z.cells) env h) ((execOp a.eval o).run P w) := by
  obtain ⟨x, e1, e2⟩ := zeroT_run hz φ w
  refine ResR.new hR hm e2.cells t ?_
  simp only [execOp, ho, Instr.alloc]
  simp only [Sem.run_bind, e1, Result.andThen_ok, newVar, newRow, run_newObj, Sem.run_pure]
  simp only [Array.toArray_toList]
  rfl
theorem op_allocT (hR : HR P φ h w) (hm : Room h) {t : TypeId} {z : AV} (hz : zeroT P t = some z) (hc : z.cells.length = P.cellsOf t) (ho : o.op = .alloc t) : ResR P φ h w (evalOp P (.newT t z.cells) env h) ((execOp a.eval o).run P w) := by
  obtain ⟨x, e1, e2⟩ := zeroT_run hz φ w
  refine ResR.newT hR hm t hc e2.cells ?_
  simp only [execOp, ho, Instr.alloc]
  simp only [Sem.run_bind, e1, Result.andThen_ok, newVar, newRow, run_newObj, Sem.run_pure]
  simp only [Array.toArray_toList]
  rfl
theorem op_box (hR : HR P φ h w) (hE : EnvR φ env a.tmps) (hm : Room h) {t : TypeId} {x : Operand} {x' : Opd} (hx : compOpd P x = some x') (ho : o.op = .box t x) : ResR P φ h w (evalOp P (.box x') env h) ((execOp a.eval o).run P w) := by
  refine ResR.new hR hm (opd_rel hR hE hx).cells t ?_
  simp only [execOp, ho, Instr.box]
  simp only [Sem.run_bind, Result.andThen_ok, newVar, newRow, run_newObj, Sem.run_pure]
  simp only [Array.toArray_toList]
  rfl
theorem op_load1 (hR : HR P φ h w) (hE : EnvR φ env a.tmps) {t : TypeId} {d : TypeDesc} {x : Operand} {x' : Opd} (hx : compOpd P x = some x') (hd : P.underlying t = some d) (hg : isAggT P t = false) (ho : o.op = .load t x) :
    ResR P φ h w (evalOp P (.load1 x') env h) ((execOp a.eval o).run P w) := by
  have rx := opd_rel hR hE hx
  unfold evalOp
  simp only
  generalize hX : a.eval x = X at *
  split
  · rename_i id g off e
    rw [e] at rx
    refine ResR.opt hR fun v ev => ?_
    cases rx with
    | ptr k1 k2 k3 k4 =>
      obtain ⟨y, e1, e2⟩ := read1_run hR ev k1 k2 k4 k3
      refine ⟨y, ?_, e2⟩
      simp only [execOp, ho, hX, Instr.loadAt, Instr.sureAddr, loadVar]
      simp only [Sem.run_bind, Sem.run_pure, Result.andThen_ok, run_isAgg' hd, hg, Bool.false_eq_true, if_false, run_load, e1]
  · trivial
theorem op_loadN (hR : HR P φ h w) (hE : EnvR φ env a.tmps) {t : TypeId} {d : TypeDesc} {x : Operand} {x' : Opd} (hx : compOpd P x = some x') (hd : P.underlying t = some d) (hk : okT P t = true) (hg : isAggT P t = true) (ho : o.op = .load t x) :
    ResR P φ h w (evalOp P (.loadN (P.cellsOf t) x') env h) ((execOp a.eval o).run P w) := by
  have rx := opd_rel hR hE hx
  unfold evalOp
  simp only
  generalize hX : a.eval x = X at *
  split
  · rename_i id g off e
    rw [e] at rx
    split
    · rename_i c hc
      cases rx with
      | ptr k1 k2 k3 k4 =>
        obtain ⟨xs, e1, e2, e3, e4⟩ := readN_run hR hc k1 k2 k4 (fun _ => k3)
        refine ResR.pure hR (x := .agg xs.toArray) (.agg (by simpa using e2)) ?_
        simp only [execOp, ho, hX, Instr.loadAt, Instr.sureAddr, loadVar]
        simp only [Sem.run_bind, Sem.run_pure, Result.andThen_ok, run_isAgg' hd, hg, if_true, run_sizeOf' hk, e1]
    · trivial
  · trivial
theorem rel_ptr {id : Pos} {g off : Nat} {X : Value} (h : Rel φ (.ptr id g off) X) : ∃ a b s n, X = .pointer (some a) ∧ φ id g = some (b, s, n) ∧ a.block = b ∧ a.spot = none ∧ (a.off : Int) = off + s := by
  cases h with
  | ptr k1 k2 k3 k4 => exact ⟨_, _, _, _, rfl, k1, k2, k4, k3⟩
theorem rel_sl {id : Pos} {g off len cap es : Nat} {ex : Bool} {X : Value} (h : Rel φ (.sl id g off len cap ex es) X) :
    (∃ a c b s n, X = .slice (some a) len c ∧ φ id g = some (b, s, n) ∧ a.block = b ∧ a.spot = none ∧ len ≤ c ∧ cap ≤ c ∧ len ≤ cap ∧ (ex = true → c = cap) ∧
      (0 < c → (a.off : Int) = off + s ∧ a.off + c * es ≤ n)) ∨ ∃ a, X = .slice (some a) 0 0 ∧ len = 0 ∧ cap = 0 ∧ ex = true := by
  cases h with
  | sl k1 k2 k3 k4 k5 k6 k7 k8 => exact .inl ⟨_, _, _, _, _, rfl, k1, k2, k3, k4, k5, k6, k7, k8⟩
  | sl0 => exact .inr ⟨_, rfl, rfl, rfl, rfl⟩
theorem rel_slS {id : Pos} {g off len cap es : Nat} {ex : Bool} {X : Value} (h : Rel φ (.sl id g off len cap ex es) X) : ∃ a c, X = .slice (some a) len c ∧ len ≤ c ∧ cap ≤ c ∧ len ≤ cap ∧ (ex = true → c = cap) := by
  rcases rel_sl h with ⟨a, c, b, s, n, h1, _, _, _, h4, h5, h6, h7, _⟩ | ⟨a, rfl, rfl, rfl, _⟩
  · exact ⟨a, c, h1, h4, h5, h6, h7⟩
  · exact ⟨a, 0, rfl, Nat.le_refl _, Nat.le_refl _, Nat.le_refl _, fun _ => rfl⟩
theorem writeN_run (hR : HR P φ h w) {id : Pos} {g off : Nat} {seg : Cells} {k : Hp → Res} {b : Nat} {s : Int} {n : Nat} {ad : Addr} {xs : List Value} (hφ : φ id g = some (b, s, n)) (hb : ad.block = b) (hs : ad.spot = none)
    (ho : 0 < seg.size → (ad.off : Int) = off + s) (hw : seg.wf) (hxs : RelL φ seg.toL xs) :
    (∃ why, writeN h id g off seg k = .fail why) ∨
      ∃ h' w', writeN h id g off seg k = k h' ∧ (storeCells ad xs).run P w = .ok () w' ∧ HR P φ h' w' ∧ Adv h w φ h' w' φ := by
  have hl : xs.length = seg.size := by rw [← hxs.length, Cells.toL_length hw]
  unfold writeN
  cases hz : Nat.beq seg.size 0 with
  | true =>
    rw [cond_true]
    have : xs = [] := List.length_eq_zero_iff.1 (by rw [hl]; exact beq_iff.1 hz)
    subst this
    exact .inr ⟨h, w, rfl, rfl, hR, Adv.refl h w φ⟩
  | false =>
    rw [cond_false]
    split
    · rename_i ser c lo hi g' m ro fz hid
      cases hc : (!ro && Nat.beq g g' && Nat.ble lo off && Nat.ble (Nat.add off seg.size) c.size && seg.atoms) with
      | false => exact .inl ⟨_, rfl⟩
      | true =>
        rw [cond_true, T.setK_eq]
        simp only [Bool.and_eq_true, Bool.not_eq_true'] at hc
        obtain ⟨⟨⟨⟨c1, c2⟩, c3⟩, c4⟩, c5⟩ := hc
        subst c1
        have c2 := beq_iff.1 c2
        subst c2
        have c3 := ble_iff.1 c3
        have c4 : off + seg.size ≤ c.size := ble_iff.1 c4
        obtain ⟨⟨h1, h2, h3, h4, h6, h5⟩, _⟩ := hR.blk _ _ hid
        obtain ⟨q1, q2, q3⟩ := Cells.splice_spec h1 hw (off := off) (by omega)
        have hpos : 0 < seg.size := Nat.pos_of_ne_zero (beq_false.1 hz)
        have ho := ho hpos
        obtain ⟨b', s', n', C, el, fr, e1, e2, e3, e4, e5⟩ := h5 g h2 (Nat.le_refl _)
        rw [hφ, Option.some.injEq, Prod.mk.injEq, Prod.mk.injEq] at e1
        obtain ⟨rfl, rfl, rfl⟩ := e1
        have hroom : ad.off + xs.length ≤ n := by
          have hlt : off + seg.size - 1 < c.toL.length := by rw [Cells.toL_length h1]; omega
          obtain ⟨o', x', f1, f2, f3⟩ := e5 (off + seg.size - 1) _ (by omega) (by rw [if_pos rfl]; omega) (List.getElem?_eq_getElem hlt)
          have := (Array.getElem?_eq_some_iff.1 f2).1
          omega
        obtain ⟨w', p1, p2, p3⟩ := put_run hR hid hφ hb hs ho (by omega) hroom hxs (atoms_oneCell c5 hxs) q1 (by rw [hl]; exact q2)
          (bif Nat.blt off hi then g else m) (by
            by_cases hb : off < hi
            · rw [blt_iff.2 hb]; exact .inl rfl
            · rw [blt_false.2 (by omega)]; exact .inr ⟨rfl, by omega⟩) h.ser
        exact .inr ⟨_, w', rfl, p1, p2, p3⟩
    · exact .inl ⟨_, rfl⟩
theorem op_store (hR : HR P φ h w) (hE : EnvR φ env a.tmps) {t : TypeId} {x y : Operand} {x' y' : Opd} (hx : compOpd P x = some x') (hy : compOpd P y = some y') (hk : okT P t = true) (ho : o.op = .store t x y) :
    ResR P φ h w (evalOp P (.store (P.cellsOf t) x' y') env h) ((execOp a.eval o).run P w) := by
  have rx := opd_rel hR hE hx
  have ry := opd_rel hR hE hy
  unfold evalOp
  simp only
  split
  · rename_i id g off e
    rw [e] at rx
    have rl := ry.cells
    cases hn : Nat.beq (ev env y').cells.length (P.cellsOf t) with
    | false => trivial
    | true =>
      rw [cond_true]
      have hn := beq_iff.1 hn
      obtain ⟨w1, t1, s1⟩ := Cells.ofL_spec (ev env y').cells
      have hlen : (a.eval y).cells.size = P.cellsOf t := by rw [← hn, rl.length, Array.length_toList]
      obtain ⟨ad, b, s, n, hX, k1, k2, k3, k4⟩ := rel_ptr rx
      rcases writeN_run hR (seg := Cells.ofL (ev env y').cells) (k := fun h => .val .undef h) k1 k2 k3 (fun _ => k4) w1 (by rw [t1]; exact rl) with ⟨why, e⟩ | ⟨h', w', e, p1, p2, p3⟩
      · rw [e]; trivial
      · rw [e]
        refine ⟨.skip, Go.undef, w', φ, ?_, .inr ⟨rfl, rfl⟩, p2, p3, Rel.undef⟩
        simp only [execOp, ho, hX, Instr.storeAt, Instr.sureAddr, storeVar]
        simp only [Sem.run_bind, Sem.run_pure, Result.andThen_ok, run_sizeOf' hk, hlen, ne_eq, not_true_eq_false, if_false, p1]
  · trivial
end
end Go.Proofs.YtjhgembcdndmkaaGreatDoor.Am

namespace Go.Proofs.YtjhgembcdndmkaaGreatDoor.Am
section
variable {P : Program} {φ : Phi} {h : Hp} {w : World} {env : T AV} {a : Act} {o : Oper}
theorem op_fieldAddr (hR : HR P φ h w) (hE : EnvR φ env a.tmps) {t : TypeId} {f : Nat} {fd : Field} {x : Operand} {x' : Opd} (hx : compOpd P x = some x') (hf : fieldOf P t f = some fd) (hz : 0 < P.cellsOf fd.type) (ho : o.op = .fieldAddr t x f) :
    ResR P φ h w (evalOp P (.fieldAddr fd.offset x') env h) ((execOp a.eval o).run P w) := by
  have rx := opd_rel hR hE hx
  obtain ⟨fs, hd, hfs, hk⟩ := field_underlying hf
  unfold evalOp
  simp only
  split
  · rename_i id g off e
    rw [e] at rx
    obtain ⟨ad, b, s, n, hX, k1, k2, k3, k4⟩ := rel_ptr rx
    rw [natK_eq]
    refine ResR.pure hR (x := .pointer (some (ad.add fd.offset))) (.ptr k1 ?_ ?_ ?_) ?_
    · rw [add_eq ad k3]; exact k2
    · rw [add_eq ad k3]; show ((ad.off + fd.offset : Nat) : Int) = ((off + fd.offset : Nat) : Int) + s; omega
    · rw [add_eq ad k3]
    · simp only [execOp, ho, hX, Instr.fieldAt, Instr.sureAddr, fieldPlace]
      simp only [Sem.run_bind, Sem.run_pure, Result.andThen_ok, run_underlying hd, hfs, run_sizeOf' hk, Nat.ne_of_gt hz, if_false]
  · trivial
theorem op_part1 (hR : HR P φ h w) (hE : EnvR φ env a.tmps) {t : TypeId} {f : Nat} {fd : Field} {x : Operand} {x' : Opd} (hx : compOpd P x = some x') (hf : fieldOf P t f = some fd) (hg : isAggT P fd.type = false) (ho : o.op = .field t x f) :
    ResR P φ h w (evalOp P (.part1 fd.offset x') env h) ((execOp a.eval o).run P w) := by
  have rx := opd_rel hR hE hx
  obtain ⟨fs, hd, hfs, hk⟩ := field_underlying hf
  unfold evalOp
  simp only
  generalize hX : a.eval x = X at *
  split
  · rename_i l e
    rw [e] at rx
    refine ResR.opt hR fun v ev => ?_
    cases rx with
    | agg hl =>
      rename_i arr
      rw [nth_eq] at ev
      obtain ⟨z, e1, e2⟩ := hl.get ev
      rw [Array.getElem?_toList] at e1
      refine ⟨z, ?_, e2⟩
      simp only [execOp, ho, hX, Instr.field, asAgg]
      simp only [Sem.run_bind, Sem.run_pure, Result.andThen_ok, run_underlying hd, hfs, part_one hk hg e1]
  · trivial
theorem op_partN (hR : HR P φ h w) (hE : EnvR φ env a.tmps) {t : TypeId} {f : Nat} {fd : Field} {x : Operand} {x' : Opd} (hx : compOpd P x = some x') (hf : fieldOf P t f = some fd) (hg : isAggT P fd.type = true) (ho : o.op = .field t x f) :
    ResR P φ h w (evalOp P (.partN fd.offset (P.cellsOf fd.type) x') env h) ((execOp a.eval o).run P w) := by
  have rx := opd_rel hR hE hx
  obtain ⟨fs, hd, hfs, hk⟩ := field_underlying hf
  unfold evalOp
  simp only
  generalize hX : a.eval x = X at *
  split
  · rename_i l e
    rw [e] at rx
    cases rx with
    | agg hl =>
      rename_i arr
      refine ResR.pure hR (x := .agg (arr.extract fd.offset (fd.offset + P.cellsOf fd.type))) (.agg (extract_rel hl _ _)) ?_
      simp only [execOp, ho, hX, Instr.field, asAgg]
      simp only [Sem.run_bind, Sem.run_pure, Result.andThen_ok, run_underlying hd, hfs, part_agg hk hg]
  · trivial
theorem op_idxAddrArr (hR : HR P φ h w) (hE : EnvR φ env a.tmps) {t e : TypeId} {n : Nat} {x i : Operand} {x' i' : Opd} (hx : compOpd P x = some x') (hi : compOpd P i = some i') (ht : arrayOf P t = some (n, e)) (ho : o.op = .indexAddr t x i) :
    ResR P φ h w (evalOp P (.idxAddrArr n (P.cellsOf e) x' i') env h) ((execOp a.eval o).run P w) := by
  have rx := opd_rel hR hE hx
  have ri := opd_rel hR hE hi
  obtain ⟨hd, hk⟩ := array_underlying ht
  unfold evalOp
  simp only
  generalize hI : a.eval i = I at *
  split
  · rename_i id g off k j e1 e2
    rw [e1] at rx
    rw [e2] at ri
    cases hb : Nat.blt j n with
    | false => trivial
    | true =>
      have hb := blt_iff.1 hb
      rw [cond_true, natK_eq]
      obtain ⟨ad, b, s, m, hX, k1, k2, k3, k4⟩ := rel_ptr rx
      cases ri
      refine ResR.pure hR (x := .pointer (some (ad.add (j * P.cellsOf e)))) (.ptr k1 ?_ ?_ ?_) ?_
      · rw [add_eq ad k3]; exact k2
      · rw [add_eq ad k3]; show ((ad.off + j * P.cellsOf e : Nat) : Int) = ((off + j * P.cellsOf e : Nat) : Int) + s; omega
      · rw [add_eq ad k3]
      · simp only [execOp, ho, hX, hI, Instr.indexAt, Instr.sureAddr, asIntOf]
        simp only [Sem.run_bind, Sem.run_pure, Result.andThen_ok, run_underlying hd]
        have : (0 : Int) ≤ Int.ofNat j ∧ Int.ofNat j < (n : Int) := ⟨by simp, by simpa using hb⟩
        simp only [this, and_self, if_true, Sem.run_bind, run_sizeOf' hk, Result.andThen_ok, Sem.run_pure]
        rfl
  · trivial
theorem op_idxAddrSl (hR : HR P φ h w) (hE : EnvR φ env a.tmps) {t e : TypeId} {x i : Operand} {x' i' : Opd} (hx : compOpd P x = some x') (hi : compOpd P i = some i') (ht : elemOfSlice P t = some e) (ho : o.op = .indexAddr t x i) :
    ResR P φ h w (evalOp P (.idxAddrSl (P.cellsOf e) x' i') env h) ((execOp a.eval o).run P w) := by
  have rx := opd_rel hR hE hx
  have ri := opd_rel hR hE hi
  obtain ⟨hd, hk⟩ := elem_underlying ht
  unfold evalOp
  simp only
  generalize hI : a.eval i = I at *
  split
  · rename_i id g off len cap ex es k j e1 e2
    rw [e1] at rx
    rw [e2] at ri
    cases hb : (Nat.blt j len && Nat.beq (P.cellsOf e) es) with
    | false => trivial
    | true =>
      rw [Bool.and_eq_true] at hb
      have he := beq_iff.1 hb.2
      have hb := blt_iff.1 hb.1
      rw [cond_true, natK_eq]
      rcases rel_sl rx with ⟨ad, c, b, s, m, hX, k1, k2, k3, k4, k5, k6, k7, k8⟩ | ⟨_, _, z, _, _⟩
      case inr => omega
      obtain ⟨k8, _⟩ := k8 (by omega)
      cases ri
      refine ResR.pure hR (x := .pointer (some (ad.add (j * P.cellsOf e)))) (.ptr k1 ?_ ?_ ?_) ?_
      · rw [add_eq ad k3]; exact k2
      · rw [add_eq ad k3]; show ((ad.off + j * P.cellsOf e : Nat) : Int) = ((off + j * P.cellsOf e : Nat) : Int) + s; omega
      · rw [add_eq ad k3]
      · simp only [execOp, ho, hX, hI, Instr.indexAt, asIntOf]
        simp only [Sem.run_bind, Sem.run_pure, Result.andThen_ok, run_underlying hd]
        have : (0 : Int) ≤ Int.ofNat j ∧ Int.ofNat j < (len : Int) := ⟨by simp, by simpa using hb⟩
        simp only [this, and_self, if_true, Sem.run_bind, run_sizeOf' hk, Result.andThen_ok, Sem.run_pure]
        rfl
  · trivial
theorem op_idxArr (hR : HR P φ h w) (hE : EnvR φ env a.tmps) {t e : TypeId} {n : Nat} {x i : Operand} {x' i' : Opd} (hx : compOpd P x = some x') (hi : compOpd P i = some i') (ht : arrayOf P t = some (n, e)) (ho : o.op = .index t x i) :
    ResR P φ h w (evalOp P (.idxArr n (P.cellsOf e) (isAggT P e) x' i') env h) ((execOp a.eval o).run P w) := by
  have rx := opd_rel hR hE hx
  have ri := opd_rel hR hE hi
  obtain ⟨hd, hk⟩ := array_underlying ht
  unfold evalOp
  simp only
  generalize hI : a.eval i = I at *
  generalize hX : a.eval x = X at *
  split
  · rename_i l k j e1 e2
    rw [e1] at rx
    rw [e2] at ri
    cases ri
    cases hb : Nat.blt j n with
    | false => trivial
    | true =>
      have hb := blt_iff.1 hb
      rw [cond_true]
      have hin : (0 : Int) ≤ Int.ofNat j ∧ Int.ofNat j < (n : Int) := ⟨by simp, by simpa using hb⟩
      cases rx with
      | agg hl =>
        rename_i arr
        cases hg : isAggT P e with
        | true =>
          rw [cond_true]
          refine ResR.pure hR (x := .agg (arr.extract (j * P.cellsOf e) (j * P.cellsOf e + P.cellsOf e))) (.agg (extract_rel hl _ _)) ?_
          simp only [execOp, ho, hX, hI, Instr.index, asIntOf]
          simp only [Sem.run_bind, Sem.run_pure, Result.andThen_ok, run_underlying hd]
          simp only [hin, and_self, if_true, Sem.run_bind, run_sizeOf' hk, Result.andThen_ok]
          rw [show (Int.ofNat j).toNat = j from rfl, part_agg hk hg]
          rfl
        | false =>
          rw [cond_false]
          refine ResR.opt hR fun v ev => ?_
          rw [nth_eq] at ev
          obtain ⟨z, f1, f2⟩ := hl.get ev
          rw [Array.getElem?_toList] at f1
          have f1 : arr[j * P.cellsOf e]? = some z := f1
          refine ⟨z, ?_, f2⟩
          simp only [execOp, ho, hX, hI, Instr.index, asIntOf]
          simp only [Sem.run_bind, Sem.run_pure, Result.andThen_ok, run_underlying hd]
          simp only [hin, and_self, if_true, Sem.run_bind, run_sizeOf' hk, Result.andThen_ok]
          rw [show (Int.ofNat j).toNat = j from rfl, part_one hk hg f1]
          rfl
  · trivial
theorem isStr_underlying {t : TypeId} (h : isStrT P t = true) : P.underlying t = some .string := by
  unfold isStrT at h
  split at h
  · assumption
  · cases h
theorem rel_str {n v : Nat} {X : Value} (h : Rel φ (.str n v) X) : ∃ s, X = .string s ∧ s.data.toList = unpack n v ∧ v < 256 ^ n ∧ s.size = n := by
  cases h with
  | str h hv => exact ⟨_, rfl, h, hv, by rw [← unpack_length n v, ← h]; simp⟩
theorem op_idxStr (hR : HR P φ h w) (hE : EnvR φ env a.tmps) {t : TypeId} {x i : Operand} {x' i' : Opd} (hx : compOpd P x = some x') (hi : compOpd P i = some i') (ht : isStrT P t = true) (ho : o.op = .index t x i) :
    ResR P φ h w (evalOp P (.idxStr x' i') env h) ((execOp a.eval o).run P w) := by
  have rx := opd_rel hR hE hx
  have ri := opd_rel hR hE hi
  have hd := isStr_underlying ht
  unfold evalOp
  simp only
  generalize hI : a.eval i = I at *
  generalize hX : a.eval x = X at *
  split
  · rename_i n v k j e1 e2
    rw [e1] at rx
    rw [e2] at ri
    cases ri
    obtain ⟨s, rfl, hs, hv, hn⟩ := rel_str rx
    cases hb : Nat.blt j n with
    | false => trivial
    | true =>
      have hb := blt_iff.1 hb
      rw [cond_true, natK_eq]
      have hj : s.data.toList[j]? = some (UInt8.ofNat (v / 256 ^ (n - 1 - j))) := by rw [hs, unpack_get n v j hb]
      have hj' : s[j]? = some (UInt8.ofNat (v / 256 ^ (n - 1 - j))) := by
        rw [← hj, Array.getElem?_toList]
        rfl
      refine ResR.pure hR (x := .int .u8 ((UInt8.ofNat (v / 256 ^ (n - 1 - j))).toNat : Int)) ?_ ?_
      · have : byteV (byteAt n v j) = .int .u8 ((UInt8.ofNat (v / 256 ^ (n - 1 - j))).toNat : Int) := by
          unfold byteV
          congr 1
          show ((v / 256 ^ (n - (j + 1)) % 256 : Nat) : Int) = _
          rw [show n - (j + 1) = n - 1 - j by omega]
          simp
        rw [this]
        exact .int _ _
      · simp only [execOp, ho, hX, hI, Instr.index, asIntOf]
        simp only [Sem.run_bind, Sem.run_pure, Result.andThen_ok, run_underlying hd]
        rw [if_pos (by simp), show (Int.ofNat j).toNat = j from rfl, hj']
        rfl
  · trivial
end
end Go.Proofs.YtjhgembcdndmkaaGreatDoor.Am

namespace Go.Proofs.YtjhgembcdndmkaaGreatDoor.Am
def Bnd (ρ : Operand → Value) (x : Option Operand) (n d : Nat) : Prop := (x = none ∧ n = d) ∨ ∃ y k, x = some y ∧ ρ y = .int k (Int.ofNat n)
theorem sliceBound_run {P : Program} {w : World} {k : IntKind} {n y : Nat} (h : n ≤ y) (code : BoundsCode) : (Instr.sliceBound (.int k (Int.ofNat n)) y code).run P w = .ok n w := by
  unfold Instr.sliceBound
  simp only [asIntOf, Sem.run_bind, Sem.run_pure, Result.andThen_ok]
  rw [if_pos ⟨by simp, by simpa using h⟩]
  rfl
theorem sliceBounds_run {P : Program} {w : World} {ρ : Operand → Value} {lo hi mx : Option Operand} {l r m len cap : Nat} (isSlice : Bool) (hl : Bnd ρ lo l 0) (hh : Bnd ρ hi r len) (hm : Bnd ρ mx m cap)
    (h1 : l ≤ r) (h2 : r ≤ m) (h3 : m ≤ cap) (h4 : mx.isSome = true → hi.isSome = true) : (Instr.sliceBounds isSlice len cap (lo.map ρ) (hi.map ρ) (mx.map ρ)).run P w = .ok (l, r, m) w := by
  unfold Instr.sliceBounds
  rcases hm with ⟨rfl, rfl⟩ | ⟨mo, mk, rfl, em⟩
  · rcases hh with ⟨rfl, rfl⟩ | ⟨ho, hk, rfl, eh⟩
    · rcases hl with ⟨rfl, rfl⟩ | ⟨lo, lk, rfl, el⟩
      · simp only [Option.map_none, Sem.run_bind, Sem.run_pure, Result.andThen_ok]
      · simp only [Option.map_none, Option.map_some, Sem.run_bind, Sem.run_pure, Result.andThen_ok, el, sliceBound_run h1]
    · rcases hl with ⟨rfl, rfl⟩ | ⟨lo, lk, rfl, el⟩
      · simp only [Option.map_none, Option.map_some, Sem.run_bind, Sem.run_pure, Result.andThen_ok, eh, sliceBound_run h2]
      · simp only [Option.map_none, Option.map_some, Sem.run_bind, Sem.run_pure, Result.andThen_ok, eh, el, sliceBound_run h2, sliceBound_run h1]
  · rcases hh with ⟨rfl, rfl⟩ | ⟨ho, hk, rfl, eh⟩
    · simp at h4
    · rcases hl with ⟨rfl, rfl⟩ | ⟨lo, lk, rfl, el⟩
      · simp only [Option.map_none, Option.map_some, Sem.run_bind, Sem.run_pure, Result.andThen_ok, eh, em, sliceBound_run h3, sliceBound_run h2]
      · simp only [Option.map_some, Sem.run_bind, Sem.run_pure, Result.andThen_ok, eh, em, el, sliceBound_run h3, sliceBound_run h2, sliceBound_run h1]
section
variable {P : Program} {φ : Phi} {h : Hp} {w : World} {env : T AV} {a : Act} {o : Oper}
theorem evO_bnd (hR : HR P φ h w) (hE : EnvR φ env a.tmps) {x : Option Operand} {x' : Option Opd} (hx : compOpdO P x = some x') {d n : Nat} (he : evO env x' d = some n) : Bnd a.eval x n d := by
  cases x with
  | none =>
    simp only [compOpdO, Option.some.injEq] at hx
    subst hx
    simp only [evO, Option.some.injEq] at he
    exact .inl ⟨rfl, he.symm⟩
  | some x =>
    simp only [compOpdO] at hx
    cases hc : compOpd P x with
    | none => rw [hc] at hx; cases hx
    | some y =>
      rw [hc, Option.map_some, Option.some.injEq] at hx
      subst hx
      have rx := opd_rel hR hE hc
      simp only [evO] at he
      split at he
      · rename_i k j e
        cases he
        rw [e] at rx
        generalize hv : a.eval x = X at rx
        cases rx
        exact .inr ⟨x, k, rfl, hv⟩
      · cases he
theorem compOpdO_some {x : Option Operand} {x' : Option Opd} (hx : compOpdO P x = some x') : x'.isSome = x.isSome := by
  cases x with
  | none => simp only [compOpdO, Option.some.injEq] at hx; subst hx; rfl
  | some x =>
    simp only [compOpdO] at hx
    cases hc : compOpd P x with
    | none => rw [hc] at hx; cases hx
    | some y => rw [hc, Option.map_some, Option.some.injEq] at hx; subst hx; rfl
theorem op_sliceStr (hR : HR P φ h w) (hE : EnvR φ env a.tmps) {t : TypeId} {x : Operand} {lo hi : Option Operand} {x' : Opd} {lo' hi' : Option Opd} (hx : compOpd P x = some x') (hlo : compOpdO P lo = some lo') (hhi : compOpdO P hi = some hi')
    (ht : isStrT P t = true) (ho : o.op = .slice t x lo hi none) : ResR P φ h w (evalOp P (.sliceStr x' lo' hi') env h) ((execOp a.eval o).run P w) := by
  have rx := opd_rel hR hE hx
  have hd := isStr_underlying ht
  unfold evalOp
  simp only
  generalize hX : a.eval x = X at *
  split
  · rename_i n v e
    rw [e] at rx
    obtain ⟨s, rfl, hs, hv, hn⟩ := rel_str rx
    split
    · rename_i l r el er
      cases hb : (Nat.ble l r && Nat.ble r n) with
      | false => trivial
      | true =>
        rw [Bool.and_eq_true] at hb
        have h1 := ble_iff.1 hb.1
        have h2 := ble_iff.1 hb.2
        rw [cond_true, natK_eq, natK_eq]
        have bl := evO_bnd hR hE hlo el
        have br := evO_bnd hR hE hhi er
        have hrun := sliceBounds_run (P := P) (w := w) (mx := none) (m := s.size) (len := s.size) (cap := s.size) false bl (by rw [hn]; exact br) (.inl ⟨rfl, rfl⟩) h1 (by omega) (Nat.le_refl _) (by simp)
        refine ResR.pure hR (x := .string (s.extract l r)) (.str ?_ ?_) ?_
        · show (s.extract l r).data.toList = unpack (r - l) (v / 256 ^ (n - r) % 256 ^ (r - l))
          have := unpack_sub n v l (r - l) (by omega)
          rw [show l + (r - l) = r by omega] at this
          rw [← this, ← hs, ByteArray.data_extract, Array.toList_extract, List.extract_eq_take_drop]
        · exact Nat.mod_lt _ (Nat.pow_pos (by omega))
        · simp only [execOp, ho, hX, Instr.sliceAt, Instr.slice]
          simp only [Sem.run_bind, Sem.run_pure, Result.andThen_ok, run_underlying hd]
          simp only [Option.map_none, Option.isSome_none, Bool.false_eq_true, if_false, Sem.run_bind, Sem.run_pure, Result.andThen_ok] at hrun ⊢
          rw [hrun]
          rfl
    · trivial
  · trivial
theorem op_sliceSl (hR : HR P φ h w) (hE : EnvR φ env a.tmps) {t e : TypeId} {x : Operand} {lo hi mx : Option Operand} {x' : Opd} {lo' hi' mx' : Option Opd} (hx : compOpd P x = some x') (hlo : compOpdO P lo = some lo') (hhi : compOpdO P hi = some hi')
    (hmx : compOpdO P mx = some mx') (h4 : mx.isSome = true → hi.isSome = true) (ht : elemOfSlice P t = some e) (ho : o.op = .slice t x lo hi mx) :
    ResR P φ h w (evalOp P (.sliceSl (P.cellsOf e) x' lo' hi' mx') env h) ((execOp a.eval o).run P w) := by
  have rx := opd_rel hR hE hx
  obtain ⟨hd, hk⟩ := elem_underlying ht
  unfold evalOp
  simp only
  split
  · rename_i e0
    rw [e0] at rx
    split
    · rename_i e1 e2 e3
      generalize hX : a.eval x = X at *
      cases rx
      have hrun := sliceBounds_run (P := P) (w := w) true (evO_bnd hR hE hlo e1) (evO_bnd hR hE hhi e2) (evO_bnd hR hE hmx e3) (Nat.le_refl _) (Nat.le_refl _) (Nat.le_refl _) h4
      refine ResR.pure hR (x := .slice none 0 0) .nilSl ?_
      simp only [execOp, ho, hX, Instr.sliceAt, Instr.slice]
      simp only [Sem.run_bind, Sem.run_pure, Result.andThen_ok, run_underlying hd, hrun, run_sizeOf' hk, if_true]
    · trivial
  · rename_i id g off len cap ex es e0
    rw [e0] at rx
    obtain ⟨ad, c, hX, k4, k5, k6, k7⟩ := rel_slS rx
    split
    · rename_i l r m e1 e2 e3
      cases hb : (Nat.beq (P.cellsOf e) es && Nat.ble l r && Nat.ble r m && Nat.ble m cap) with
      | false => trivial
      | true =>
        simp only [Bool.and_eq_true] at hb
        obtain ⟨⟨⟨b1, b2⟩, b3⟩, b4⟩ := hb
        have b1 : P.cellsOf e = es := beq_iff.1 b1
        have b2 := ble_iff.1 b2
        have b3 := ble_iff.1 b3
        have b4 := ble_iff.1 b4
        subst b1
        simp only [cond_true, natK_eq]
        have bm := evO_bnd hR hE hmx e3
        have hms := compOpdO_some hmx
        -- the model's own bound
        obtain ⟨mc, hbm, hmc1, hmc2, hmc3⟩ : ∃ mc, Bnd a.eval mx mc c ∧ m ≤ mc ∧ mc ≤ c ∧ ((ex = true ∨ mx'.isSome = true) → mc = m) := by
          rcases bm with ⟨rfl, rfl⟩ | ⟨y, k, rfl, ey⟩
          · exact ⟨c, .inl ⟨rfl, rfl⟩, k5, Nat.le_refl _, fun q => by
              rcases q with q | q
              · exact k7 q
              · rw [hms] at q; cases q⟩
          · exact ⟨m, .inr ⟨y, k, rfl, ey⟩, Nat.le_refl _, by omega, fun _ => rfl⟩
        have hrun := sliceBounds_run (P := P) (w := w) true (evO_bnd hR hE hlo e1) (evO_bnd hR hE hhi e2) hbm b2 (by omega) hmc2 h4
        have hbl : ∀ q : Bool, (bif q then true else mx'.isSome) = true → q = true ∨ mx'.isSome = true := fun q z => by cases q <;> simp_all
        refine ResR.pure hR (x := .slice (some (if mc = l then ad else ad.add (l * P.cellsOf e))) (r - l) (mc - l)) ?_ ?_
        · rcases rel_sl rx with ⟨ad', c2, b, s, n, hX', k1, k2, k3, _, _, _, _, k8⟩ | ⟨ad', hX', z1, z2, z3⟩
          case inr =>
            rw [hX] at hX'
            cases hX'
            have zl : l = 0 := by omega
            have zr : r = 0 := by omega
            have zm : m = 0 := by omega
            have zc : mc = 0 := by omega
            subst zl zr zm zc
            rw [z3, if_pos rfl]
            exact .sl0
          rw [hX] at hX'
          cases hX'
          refine .sl k1 ?_ ?_ ?_ ?_ ?_ ?_ ?_
          · split
            · exact k2
            · rw [add_eq ad k3]; exact k2
          · split
            · exact k3
            · rw [add_eq ad k3]
          · exact Nat.sub_le_sub_right (by omega) _
          · exact Nat.sub_le_sub_right hmc1 _
          · exact Nat.sub_le_sub_right b3 _
          · intro q
            rw [hmc3 (hbl ex q)]
            rfl
          · intro hpos
            have hml : mc ≠ l := by omega
            rw [if_neg hml, add_eq ad k3]
            obtain ⟨q1, q2⟩ := k8 (by omega)
            have hno : (bif (Nat.beq l m && (bif ex then true else mx'.isSome)) then off else off.add (l.mul (P.cellsOf e))) = off + l * P.cellsOf e := by
              cases hq : (Nat.beq l m && (bif ex then true else mx'.isSome)) with
              | false => rfl
              | true =>
                rw [Bool.and_eq_true] at hq
                have := hmc3 (hbl ex hq.2)
                have := beq_iff.1 hq.1
                omega
            rw [hno]
            refine ⟨by push_cast; omega, ?_⟩
            show ad.off + l * P.cellsOf e + (mc - l) * P.cellsOf e ≤ n
            rw [Nat.add_assoc, ← Nat.add_mul, show l + (mc - l) = mc by omega]
            have := Nat.mul_le_mul_right (P.cellsOf e) hmc2
            omega
        · simp only [execOp, ho, hX, Instr.sliceAt, Instr.slice]
          simp only [Sem.run_bind, Sem.run_pure, Result.andThen_ok, run_underlying hd, hrun, run_sizeOf' hk, Option.map_some]
          split <;> rfl
    · trivial
  · trivial
theorem op_sliceArr (hR : HR P φ h w) (hE : EnvR φ env a.tmps) {t e : TypeId} {n : Nat} {x : Operand} {lo hi mx : Option Operand} {x' : Opd} {lo' hi' mx' : Option Opd} (hx : compOpd P x = some x') (hlo : compOpdO P lo = some lo') (hhi : compOpdO P hi = some hi')
    (hmx : compOpdO P mx = some mx') (h4 : mx.isSome = true → hi.isSome = true) (ht : arrayOf P t = some (n, e)) (ho : o.op = .slice t x lo hi mx) :
    ResR P φ h w (evalOp P (.sliceArr n (P.cellsOf e) x' lo' hi' mx') env h) ((execOp a.eval o).run P w) := by
  have rx := opd_rel hR hE hx
  obtain ⟨hd, hk⟩ := array_underlying ht
  unfold evalOp
  simp only
  split
  · rename_i id g off e0
    rw [e0] at rx
    obtain ⟨ad, b, s, N, hX, k1, k2, k3, k4⟩ := rel_ptr rx
    split
    · rename_i l r m e1 e2 e3
      cases hb : (Nat.blt 0 (n * P.cellsOf e) && (readN h id g off (n * P.cellsOf e)).isSome && Nat.ble l r && Nat.ble r m && Nat.ble m n) with
      | false => trivial
      | true =>
        simp only [Bool.and_eq_true] at hb
        obtain ⟨⟨⟨⟨b0, bs⟩, b2⟩, b3⟩, b4⟩ := hb
        have b0 : 0 < n * P.cellsOf e := blt_iff.1 b0
        have b2 := ble_iff.1 b2
        have b3 := ble_iff.1 b3
        have b4 := ble_iff.1 b4
        simp only [cond_true, natK_eq]
        have hroom : ad.off + n * P.cellsOf e ≤ N := by
          cases hr : readN h id g off (n * P.cellsOf e) with
          | none => rw [hr] at bs; cases bs
          | some c =>
            unfold readN at hr
            rw [beq_false.2 (by omega), cond_false] at hr
            split at hr
            · rename_i ser c' lo2 hi2 g' m2 ro fz hid
              cases hse : seeable c' lo2 hi2 g' m2 g off (n * P.cellsOf e) with
              | false => rw [hse] at hr; cases hr
              | true =>
                obtain ⟨_, C, el, fr, f2, f3, f5⟩ := seen hR hid k1 hse
                obtain ⟨o', v', x', g1, g2, g3, _⟩ := f5 (n * P.cellsOf e - 1) (by omega)
                have := (Array.getElem?_eq_some_iff.1 g3).1
                omega
            · cases hr
        have hrun := sliceBounds_run (P := P) (w := w) false (evO_bnd hR hE hlo e1) (evO_bnd hR hE hhi e2) (evO_bnd hR hE hmx e3) b2 b3 b4 h4
        refine ResR.pure hR (x := .slice (some (if m = l then ad else ad.add (l * P.cellsOf e))) (r - l) (m - l)) (.sl k1 ?_ ?_ ?_ (Nat.le_refl _) ?_ (fun _ => rfl) ?_) ?_
        · split
          · exact k2
          · rw [add_eq ad k3]; exact k2
        · split
          · exact k3
          · rw [add_eq ad k3]
        · exact Nat.sub_le_sub_right b3 _
        · exact Nat.sub_le_sub_right b3 _
        · intro hpos
          have hml : m ≠ l := by omega
          rw [if_neg hml, add_eq ad k3, beq_false.2 (Ne.symm hml), cond_false]
          refine ⟨by show ((ad.off + l * P.cellsOf e : Nat) : Int) = ((off + l * P.cellsOf e : Nat) : Int) + s; omega, ?_⟩
          show ad.off + l * P.cellsOf e + (m - l) * P.cellsOf e ≤ N
          rw [Nat.add_assoc, ← Nat.add_mul, show l + (m - l) = m by omega]
          have := Nat.mul_le_mul_right (P.cellsOf e) b4
          omega
        · simp only [execOp, ho, hX, Instr.sliceAt, Instr.sureAddr]
          simp only [Sem.run_bind, Sem.run_pure, Result.andThen_ok, run_underlying hd, hrun, run_sizeOf' hk]
    · trivial
  · trivial
theorem op_lenS (hR : HR P φ h w) (hE : EnvR φ env a.tmps) {c : Call} {x : Operand} {t : TypeId} {x' : Opd} (hx : compOpd P x = some x') (hd : P.underlying t = some .string) (hc : c.callee = .builtin .len) (ha : c.args.toList = [x]) (htt : c.argTypes.toList = [t])
    (ho : o.op = .call c) : ResR P φ h w (evalOp P (.lenS x') env h) ((execOp a.eval o).run P w) := by
  have rx := opd_rel hR hE hx
  have ha : c.args = #[x] := by rw [← Array.toArray_toList (xs := c.args), ha]
  have htt : c.argTypes = #[t] := by rw [← Array.toArray_toList (xs := c.argTypes), htt]
  unfold evalOp
  simp only
  generalize hX : a.eval x = X at *
  split
  · rename_i n v e
    rw [e] at rx
    obtain ⟨s, rfl, hs, hv, hn⟩ := rel_str rx
    refine ResR.pure hR (x := goInt s.size) (by rw [hn]; exact .int _ _) ?_
    simp [execOp, ho, resolve, hc, ha, htt, hX, invoke, builtin, Builtin.len_, run_underlying hd]
  · trivial
theorem op_lenL (hR : HR P φ h w) (hE : EnvR φ env a.tmps) {c : Call} {x : Operand} {t e : TypeId} {x' : Opd} (hx : compOpd P x = some x') (hd : P.underlying t = some (.slice e)) (hc : c.callee = .builtin .len) (ha : c.args.toList = [x]) (htt : c.argTypes.toList = [t])
    (ho : o.op = .call c) : ResR P φ h w (evalOp P (.lenL x') env h) ((execOp a.eval o).run P w) := by
  have rx := opd_rel hR hE hx
  have ha : c.args = #[x] := by rw [← Array.toArray_toList (xs := c.args), ha]
  have htt : c.argTypes = #[t] := by rw [← Array.toArray_toList (xs := c.argTypes), htt]
  unfold evalOp
  simp only
  split
  · rename_i id g off len cap ex es e0
    rw [e0] at rx
    obtain ⟨ad, c', hX, _⟩ := rel_slS rx
    refine ResR.pure hR (x := goInt len) (.int _ _) ?_
    simp [execOp, ho, resolve, hc, ha, htt, hX, invoke, builtin, Builtin.len_, run_underlying hd]
  · rename_i e0
    rw [e0] at rx
    generalize hX : a.eval x = X at *
    cases rx
    refine ResR.pure hR (x := goInt 0) (.int _ _) ?_
    simp [execOp, ho, resolve, hc, ha, htt, hX, invoke, builtin, Builtin.len_, run_underlying hd]
  · trivial
end
end Go.Proofs.YtjhgembcdndmkaaGreatDoor.Am

namespace Go.Proofs.YtjhgembcdndmkaaGreatDoor.Am
theorem HR.drew {P : Program} {φ : Phi} {h : Hp} {w : World} (hR : HR P φ h w) (d : Nat) : HR P φ h { w with drawn := d } :=
  ⟨fun id b e => BR.mono (Le.refl φ) (fun _ _ e => e) (fun _ _ _ _ _ => rfl) (hR.blk id b e), hR.used, hR.dom, hR.sep, hR.inb, hR.glob⟩
theorem Adv.drew (h : Hp) (w : World) (φ : Phi) (d : Nat) : Adv h w φ h { w with drawn := d } φ :=
  ⟨Le.refl φ, rfl, rfl, rfl, Nat.le_refl _, Nat.le_refl _, fun _ g _ s n e _ => ⟨g, s, n, e⟩, fun _ _ k => k, fun _ _ _ => rfl, rfl, fun _ _ e => e, fun _ _ _ _ _ e => e⟩
theorem appendCap_run {P : Program} {w : World} (need old : Nat) (e : TypeId) : ∃ c, need ≤ c ∧ (choose (.appendCap need old e)).run P w = .ok c { w with drawn := w.drawn + 1 } := by
  refine ⟨_, ?_, by rw [run_choose]; rfl⟩
  exact Nat.le_add_right _ _
theorem foldl_set (l : List Value) (off k : Nat) (cs : Array Value) (h : off + k + l.length ≤ cs.size) :
    ((l.zipIdx k).foldl (fun cs (p : Value × Nat) => cs.setIfInBounds (off + p.2) p.1) cs).toList = spliceV cs.toList (off + k) l := by
  induction l generalizing k cs with
  | nil => simp [spliceV]
  | cons v l ih =>
    simp only [List.zipIdx_cons, List.foldl_cons, List.length_cons] at *
    rw [ih (k + 1) _ (by simp; omega)]
    apply List.ext_getElem?
    intro i
    rw [spliceV_get (by simp; omega), spliceV_get (by simp; omega), Array.toList_setIfInBounds, List.getElem?_set]
    simp only [List.length_cons]
    by_cases c1 : i = off + k
    · subst c1
      rw [if_neg (by omega), if_pos rfl, if_pos (by simp; omega), if_pos ⟨by omega, by omega⟩, Nat.sub_self]
      rfl
    · by_cases c2 : off + (k + 1) ≤ i ∧ i < off + (k + 1) + l.length
      · rw [if_pos c2, if_pos ⟨by omega, by omega⟩, show i - (off + k) = (i - (off + (k + 1))) + 1 by omega, List.getElem?_cons_succ]
      · rw [if_neg c2, if_neg (by omega), if_neg (by omega)]
theorem foldl_setA (vs : Array Value) (off : Nat) (cs : Array Value) (h : off + vs.size ≤ cs.size) :
    (vs.zipIdx.foldl (fun cs (p : Value × Nat) => cs.setIfInBounds (off + p.2) p.1) cs).toList = spliceV cs.toList off vs.toList := by
  rw [← Array.foldl_toList, Array.toList_zipIdx]
  exact foldl_set vs.toList off 0 cs (by simpa using h)
theorem RelL.splice {φ : Phi} {l v : List AV} {cs vs : List Value} (h : RelL φ l cs) (k : RelL φ v vs) (off : Nat) : RelL φ (l.take off ++ (v ++ l.drop (off + v.length))) (spliceV cs off vs) := by
  unfold spliceV
  rw [k.length]
  exact (h.take off).append (k.append (h.drop _))
theorem replA_eq {α : Type} (n : Nat) (z acc : List α) : replA n z acc = (List.replicate n z).flatten ++ acc := by
  induction n generalizing acc with
  | zero => simp [replA]
  | succ n ih =>
    rw [replA, ih, List.replicate_succ', List.flatten_append]
    simp
theorem flatten_get {α : Type} (n : Nat) (z : List α) (i : Nat) (hi : i < n * z.length) : ((List.replicate n z).flatten)[i]? = z[i % z.length]? := by
  induction n generalizing i with
  | zero => omega
  | succ n ih =>
    rw [List.replicate_succ, List.flatten_cons]
    by_cases c : i < z.length
    · rw [List.getElem?_append_left c, Nat.mod_eq_of_lt c]
    · rw [List.getElem?_append_right (by omega), ih (i - z.length) (by rw [Nat.add_mul, Nat.one_mul] at hi; omega), ← Nat.mod_eq_sub_mod (by omega)]
theorem repl_rel {φ : Phi} {z : List AV} {Z : Array Value} (h : RelL φ z Z.toList) (n : Nat) :
    RelL φ (replA n z []) ((Array.range (n * Z.size)).map (Z[· % Z.size]!)).toList := by
  have hl : z.length = Z.size := by rw [h.length, Array.length_toList]
  have hlen : (replA n z []).length = n * Z.size := by rw [replA_eq]; simp [hl]
  refine RelL.of_get (by rw [hlen]; simp) fun i v x hv hx => ?_
  have hi : i < n * Z.size := by rw [← hlen]; exact (List.getElem?_eq_some_iff.1 hv).1
  rw [replA_eq, List.append_nil, flatten_get n z i (by rw [hl]; exact hi)] at hv
  obtain ⟨y, e1, e2⟩ := h.get hv
  rw [Array.toList_map, List.getElem?_map, Array.toList_range, List.getElem?_range hi, Option.map_some, Option.some.injEq] at hx
  rw [Array.getElem?_toList, hl] at e1
  have : Z[i % Z.size]! = y := by rw [getElem!_def, e1]
  rw [← hx, this]
  exact e2
section
variable {P : Program} {φ : Phi} {h : Hp} {w : World} {env : T AV} {a : Act} {o : Oper}
theorem fill_run (hR : HR P φ h w) (hE : EnvR φ env a.tmps) {sz place : Nat → Option (Nat × Nat)} (hp : ∀ i, place i = sz i) : ∀ (parts : List (Nat × Operand)) (parts' : List (Nat × Nat × Opd)) (l r : List AV) (cells : Array Value),
    compParts P sz parts = some parts' → RelL φ l cells.toList → fillA env l parts' = some r → ∃ cells', Instr.fill place cells (parts.map fun p => (p.1, a.eval p.2)) = some cells' ∧ RelL φ r cells'.toList
  | [], parts', l, r, cells, hc, hl, hf => by
    simp only [compParts, Option.some.injEq] at hc
    subst hc
    simp only [fillA, Option.some.injEq] at hf
    subst hf
    exact ⟨cells, rfl, hl⟩
  | (i, x) :: rest, parts', l, r, cells, hc, hl, hf => by
    unfold compParts at hc
    split at hc
    · rename_i off n x' rest' h1 h2 h3
      simp only [Option.some.injEq] at hc
      subst hc
      have rx := (opd_rel hR hE h2).cells
      unfold fillA at hf
      simp only at hf
      cases hb : (Nat.beq (ev env x').cells.length n && Nat.ble (Nat.add off n) l.length) with
      | false => rw [hb] at hf; cases hf
      | true =>
        rw [hb, cond_true] at hf
        rw [Bool.and_eq_true] at hb
        have b1 : (ev env x').cells.length = n := beq_iff.1 hb.1
        have b2 : off + n ≤ l.length := ble_iff.1 hb.2
        have hs : (a.eval x).cells.size = n := by rw [← b1, rx.length, Array.length_toList]
        have hcl : l.length = cells.size := by rw [hl.length, Array.length_toList]
        have step : RelL φ (l.take off ++ ((ev env x').cells ++ l.drop (Nat.add off n))) ((a.eval x).cells.zipIdx.foldl (fun cs (p : Value × Nat) => cs.setIfInBounds (off + p.2) p.1) cells).toList := by
          rw [foldl_setA _ _ _ (by omega)]
          have := hl.splice rx off
          rwa [b1] at this
        obtain ⟨cells', e1, e2⟩ := fill_run hR hE hp rest rest' _ r _ h3 step hf
        refine ⟨cells', ?_, e2⟩
        rw [List.map_cons]
        unfold Instr.fill
        simp only [hp, h1]
        rw [if_neg (by simp [hs]; omega)]
        exact e1
    · cases hc
theorem places_run {fs : Array Field} (hk : fs.toList.all (fun f => okT P f.type) = true) (w : World) : (fs.mapM (m := Sem) fun f => do pure (f.offset, ← sizeOf f.type)).run P w = .ok (fs.map fun f => (f.offset, P.cellsOf f.type)) w := by
  rw [Array.mapM_eq_mapM_toList]
  have : ∀ l : List Field, l.all (fun f => okT P f.type) = true → (l.mapM (m := Sem) fun f => do pure (f.offset, ← sizeOf f.type)).run P w = .ok (l.map fun f => (f.offset, P.cellsOf f.type)) w := by
    intro l
    induction l with
    | nil => intro _; simp
    | cons f l ih =>
      intro hl
      rw [List.all_cons, Bool.and_eq_true] at hl
      rw [List.mapM_cons]
      simp only [Sem.run_bind, run_sizeOf' hl.1, Result.andThen_ok, Sem.run_pure, ih hl.2, List.map_cons]
  rw [Sem.run_map, this fs.toList hk, Result.andThen_ok, ← Array.toList_map, Array.toArray_toList]
theorem op_build (hR : HR P φ h w) (hE : EnvR φ env a.tmps) {t : TypeId} {z : AV} {parts : Array (Nat × Operand)} {ao : AOp} (hz : zeroT P t = some z) (hc : compBuild P t z parts.toList = some ao) (ho : o.op = .build t parts) :
    ResR P φ h w (evalOp P ao env h) ((execOp a.eval o).run P w) := by
  obtain ⟨Z, z1, z2⟩ := zeroT_run hz φ w
  unfold compBuild at hc
  split at hc
  · rename_i fs hd
    cases hk : fs.toList.all (fun f => okT P f.type) with
    | false => rw [hk] at hc; cases hc
    | true =>
      rw [hk, cond_true] at hc
      cases hp : compParts P (fun i => (fs[i]?).map fun f => (f.offset, P.cellsOf f.type)) parts.toList with
      | none => rw [hp] at hc; cases hc
      | some parts' =>
        rw [hp, Option.map_some, Option.some.injEq] at hc
        subst hc
        unfold evalOp
        simp only
        split
        · rename_i l hf
          obtain ⟨cells', e1, e2⟩ := fill_run hR hE (place := fun i => (fs.map fun f => (f.offset, P.cellsOf f.type))[i]?) (fun i => by simp) parts.toList parts' _ l _ hp z2.cells hf
          refine ResR.pure hR (x := .agg cells') (.agg e2) ?_
          simp only [execOp, ho, Instr.build]
          have e1' : Instr.fill (fun i => (fs.map fun f => (f.offset, P.cellsOf f.type))[i]?) Z.cells (parts.map fun p => (p.1, a.eval p.2)).toList = some cells' := by
            rw [Array.toList_map]; exact e1
          simp only [Sem.run_bind, z1, Result.andThen_ok, run_underlying hd, places_run hk w]
          simp only [e1', Sem.run_pure, Result.andThen_ok]
        · trivial
  · rename_i n e hd
    cases hk : okT P e with
    | false => rw [hk] at hc; cases hc
    | true =>
      rw [hk, cond_true] at hc
      cases hp : compParts P (fun i => some (i * P.cellsOf e, P.cellsOf e)) parts.toList with
      | none => rw [hp] at hc; cases hc
      | some parts' =>
        rw [hp, Option.map_some, Option.some.injEq] at hc
        subst hc
        unfold evalOp
        simp only
        split
        · rename_i l hf
          obtain ⟨cells', e1, e2⟩ := fill_run hR hE (place := fun i => some (i * P.cellsOf e, P.cellsOf e)) (fun i => rfl) parts.toList parts' _ l _ hp z2.cells hf
          refine ResR.pure hR (x := .agg cells') (.agg e2) ?_
          simp only [execOp, ho, Instr.build]
          have e1' : Instr.fill (fun i => some (i * P.cellsOf e, P.cellsOf e)) Z.cells (parts.map fun p => (p.1, a.eval p.2)).toList = some cells' := by
            rw [Array.toList_map]; exact e1
          simp only [Sem.run_bind, z1, Result.andThen_ok, run_underlying hd, run_sizeOf' hk]
          simp only [e1', Sem.run_pure, Result.andThen_ok]
        · trivial
  · cases hc
theorem ResR.newSl (hR : HR P φ h w) (hm : Room h) {l : List AV} {xs : List Value} (hl : RelL φ l xs) (el : TypeId) {len cap es : Nat} (hlc : len ≤ cap) (hsz : cap * es = xs.length) {R : Result Next}
    (e : R = .ok (.value (.slice (some ⟨w.heap.size, 0, none⟩) len cap)) (w.alloc (.cells xs.toArray el (0, 0)))) :
    ResR P φ h w (newCells h (Cells.ofL l) fun id h => .val (.sl id 0 0 len cap true es) h) R := by
  obtain ⟨w1, t1, _⟩ := Cells.ofL_spec l
  have hl' : RelL φ (Cells.ofL l).toL xs := by rw [t1]; exact hl
  obtain ⟨n1, n2⟩ := newCells_run hR hm w1 hl' (spare := []) el (0, 0) false rfl 0 (Nat.succ h.ser) (.inl rfl)
  simp only [List.append_nil] at n1 n2
  unfold newCells
  rw [newK_eq]
  exact ⟨_, _, _, _, e, .inl rfl, n1, n2, .sl (Phi.put_same _ _ _ _) rfl rfl hlc (Nat.le_refl _) hlc (fun _ => rfl) fun _ => ⟨rfl, by show 0 + cap * es ≤ _; omega⟩⟩
theorem op_buildSl (hR : HR P φ h w) (hE : EnvR φ env a.tmps) (hm : Room h) {t e : TypeId} {len : Nat} {z : AV} {parts : Array (Nat × Operand)} {parts' : List (Nat × Nat × Opd)} (ht : elemOfSlice P t = some e) (hz : zeroT P e = some z)
    (hsz : len * P.cellsOf e ≤ 16777216) (hzl : z.cells.length = P.cellsOf e) (hp : compParts P (fun i => some (i * P.cellsOf e, P.cellsOf e)) parts.toList = some parts') (ho : o.op = .buildSlice t len parts) :
    ResR P φ h w (evalOp P (.buildSl len (P.cellsOf e) z.cells parts') env h) ((execOp a.eval o).run P w) := by
  obtain ⟨hd, hk⟩ := elem_underlying ht
  obtain ⟨Z, z1, z2⟩ := zeroT_run hz φ w
  have hZ : Z.cells.size = P.cellsOf e := by rw [← hzl, z2.cells.length, Array.length_toList]
  unfold evalOp
  simp only
  split
  · rename_i l hf
    cases hb : Nat.blt 0 (P.cellsOf e) with
    | false => trivial
    | true =>
      have hb := blt_iff.1 hb
      rw [cond_true]
      have hrep := repl_rel z2.cells len
      rw [hZ] at hrep
      obtain ⟨cells', e1, e2⟩ := fill_run hR hE (place := fun i => some (i * P.cellsOf e, P.cellsOf e)) (fun i => rfl) parts.toList parts' _ l _ hp hrep hf
      have e1' : Instr.fill (fun i => some (i * P.cellsOf e, P.cellsOf e)) ((Array.range (len * P.cellsOf e)).map (Z.cells[· % P.cellsOf e]!)) (parts.map fun p => (p.1, a.eval p.2)).toList = some cells' := by
        rw [Array.toList_map]; exact e1
      have hfl : l.length = len * P.cellsOf e := by
        have : ∀ (ps : List (Nat × Nat × Opd)) (l r : List AV), fillA env l ps = some r → r.length = l.length := by
          intro ps
          induction ps with
          | nil => intro l r k; simp only [fillA, Option.some.injEq] at k; rw [k]
          | cons p ps ih =>
            intro l r k
            obtain ⟨off, n, x⟩ := p
            unfold fillA at k
            simp only at k
            cases hb : (Nat.beq (ev env x).cells.length n && Nat.ble (Nat.add off n) l.length) with
            | false => rw [hb] at k; cases k
            | true =>
              rw [hb, cond_true] at k
              rw [Bool.and_eq_true] at hb
              have b1 : (ev env x).cells.length = n := beq_iff.1 hb.1
              have b2 : off + n ≤ l.length := ble_iff.1 hb.2
              rw [ih _ _ k]
              simp only [List.length_append, List.length_take, List.length_drop, b1]
              show min off l.length + (n + (l.length - (off + n))) = l.length
              omega
        rw [this _ _ _ hf, replA_eq]; simp [hzl]
      have hcl : len * P.cellsOf e = cells'.toList.length := by rw [← e2.length, hfl]
      refine ResR.newSl hR hm e2 e (Nat.le_refl len) hcl ?_
      simp only [execOp, ho, Instr.buildSlice]
      simp only [Sem.run_bind, Sem.run_pure, Result.andThen_ok, run_underlying hd, run_sizeOf' hk]
      by_cases h0 : len * P.cellsOf e = 0
      · have hl0 : len = 0 := by
          rcases Nat.mul_eq_zero.1 h0 with q | q
          · exact q
          · omega
        subst hl0
        simp only [Nat.zero_mul, gt_iff_lt, Nat.not_lt_zero, if_false, if_true] at e1' ⊢
        have e1'' : Instr.fill (fun i => some (i * P.cellsOf e, P.cellsOf e)) ((Array.range 0).map fun i => (#[] : Array Value)[i % (#[] : Array Value).size]!) (parts.map fun p => (p.1, a.eval p.2)).toList = some cells' := by
          have hr : ∀ f : Nat → Value, (Array.range 0).map f = #[] := fun f => by simp
          rw [hr] at e1' ⊢
          exact e1'
        simp only [e1'', Sem.run_bind, newRow, run_newObj, Sem.run_pure, Result.andThen_ok, Array.toArray_toList]
        rfl
      · rw [if_neg (show ¬ (len * P.cellsOf e > 2 ^ 24) by omega), if_neg h0]
        simp only [Sem.run_bind, Sem.run_pure, z1, Result.andThen_ok, hZ, e1', newRow, run_newObj, Array.toArray_toList]
        rfl
  · trivial
end
end Go.Proofs.YtjhgembcdndmkaaGreatDoor.Am
