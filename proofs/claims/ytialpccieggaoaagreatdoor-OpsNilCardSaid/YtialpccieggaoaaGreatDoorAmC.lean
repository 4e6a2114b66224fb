import Derived.ChangeKeysEq
import Derived.Lib.Strings
import Derived.Test.YtialpccieggaoaaGreatDoorAmB
/- THE ABSTRACT MACHINE, part C: a machine over values without block numbers, run by the kernel, and the proof that the model's machine does what it does. No condition. -/
set_option linter.unusedSimpArgs false
set_option linter.unusedVariables false
namespace Go.Proofs.YtialpccieggaoaaGreatDoor.Am

theorem wrap_id {k : IntKind} {n : Int} (hlo : k.min ≤ n) (hhi : n ≤ k.max) : k.wrap n = n := by
  cases k <;> simp only [IntKind.min, IntKind.max, IntKind.wrap, IntKind.bits, IntKind.signed] at * <;> simp at * <;> omega

theorem i64_max : IntKind.i64.max = 9223372036854775807 := by decide
theorem i64_min : IntKind.i64.min = -9223372036854775808 := by decide

theorem wrap_i64 {n : Int} (hlo : -9223372036854775808 ≤ n) (hhi : n ≤ 9223372036854775807) : IntKind.i64.wrap n = n :=
  wrap_id (by rw [i64_min]; exact hlo) (by rw [i64_max]; exact hhi)

theorem wrapA_eq (k : IntKind) (n : Int) : wrapA k n = k.wrap n := by
  unfold wrapA
  split
  · rename_i m
    cases h : Nat.ble m i64max with
    | false => rw [cond_false]
    | true =>
      have h := ble_iff.1 h
      unfold i64max at h
      have e : Int.ofNat m = (m : Int) := rfl
      rw [cond_true, e]
      exact (wrap_i64 (by omega) (by omega)).symm
  · rename_i m
    cases h : Nat.ble m i64max with
    | false => rw [cond_false]
    | true =>
      have h := ble_iff.1 h
      unfold i64max at h
      have e := Int.negSucc_eq m
      rw [cond_true]
      exact (wrap_i64 (by omega) (by omega)).symm
  · simp [IntKind.wrap, IntKind.bits, IntKind.signed]
    rfl
  · simp [IntKind.wrap, IntKind.bits, IntKind.signed]
    rfl
  · simp [IntKind.wrap, IntKind.bits, IntKind.signed]
    rfl
  · rfl

theorem cmpA_eq (x y : Int) : cmpA x y = if x < y then .lt else if x = y then .eq else .gt := by
  unfold cmpA
  split
  · rename_i a b
    by_cases h : a < b
    · rw [blt_iff.2 h, cond_true, if_pos (by simpa using h)]
    · rw [blt_false.2 (Nat.le_of_not_lt h), cond_false, if_neg (by simpa using h)]
      by_cases e : a = b
      · subst e; rw [beq_iff.2 rfl]; simp
      · rw [beq_false.2 e, cond_false, if_neg (by intro c; exact e (Int.ofNat.inj c))]
  · rw [if_neg (by simp; omega), if_neg (by intro c; cases c)]
  · rw [if_pos (by simp; omega)]
  · rename_i a b
    by_cases h : b < a
    · rw [blt_iff.2 h, cond_true, if_pos (by omega)]
    · rw [blt_false.2 (Nat.le_of_not_lt h), cond_false, if_neg (by omega)]
      by_cases e : a = b
      · subst e; rw [beq_iff.2 rfl]; simp
      · rw [beq_false.2 e, cond_false, if_neg (by intro c; cases c; exact e rfl)]

def cmpL : List UInt8 → List UInt8 → Ordering
  | [], [] => .eq
  | [], _ :: _ => .lt
  | _ :: _, [] => .gt
  | a :: l, b :: m => if a.toNat < b.toNat then .lt else if a.toNat = b.toNat then cmpL l m else .gt

theorem strCmp_le {n m : Nat} (h : n ≤ m) (v u : Nat) :
    strCmp n v m u = if v * 256 ^ (m - n) < u then .lt else if v * 256 ^ (m - n) = u then (if n < m then .lt else .eq) else .gt := by
  unfold strCmp
  rw [ble_iff.2 h, cond_true]
  have e : (bif Nat.ble m n then v else v.mul (Nat.pow 256 (m.sub n))) = v * 256 ^ (m - n) := by
    by_cases c : m ≤ n
    · rw [ble_iff.2 c, cond_true, show m - n = 0 by omega]; simp
    · rw [ble_false.2 (by omega), cond_false]; rfl
  simp only [e]
  by_cases c : v * 256 ^ (m - n) < u
  · rw [blt_iff.2 c, cond_true, if_pos c]
  · rw [blt_false.2 (by omega), cond_false, if_neg c]
    by_cases d : v * 256 ^ (m - n) = u
    · rw [beq_iff.2 d, cond_true, if_pos d]
      by_cases f : n < m
      · rw [blt_iff.2 f, cond_true, if_pos f]
      · rw [blt_false.2 (by omega), cond_false, if_neg f, beq_iff.2 (by omega), cond_true]
    · rw [beq_false.2 d, cond_false, if_neg d]

theorem strCmp_ge {n m : Nat} (h : m < n) (v u : Nat) :
    strCmp n v m u = if v < u * 256 ^ (n - m) then .lt else .gt := by
  unfold strCmp
  rw [ble_iff.2 (show m ≤ n by omega), cond_true, ble_false.2 h, cond_false]
  have e : u.mul (Nat.pow 256 (n.sub m)) = u * 256 ^ (n - m) := rfl
  simp only [e]
  by_cases c : v < u * 256 ^ (n - m)
  · rw [blt_iff.2 c, cond_true, if_pos c]
  · rw [blt_false.2 (by omega), cond_false, if_neg c]
    by_cases d : v = u * 256 ^ (n - m)
    · rw [beq_iff.2 d, cond_true, blt_false.2 (by omega), cond_false, beq_false.2 (by omega), cond_false]
    · rw [beq_false.2 d, cond_false]

theorem lead {N x a y b : Nat} (ha : a < N) (hb : b < N) : (x * N + a < y * N + b ↔ x < y ∨ (x = y ∧ a < b)) ∧ (x * N + a = y * N + b ↔ x = y ∧ a = b) := by
  have key : ∀ x y a b, x < y → a < N → x * N + a < y * N + b := fun x y a b h ha => by
    calc x * N + a < x * N + N := by omega
      _ = (x + 1) * N := by rw [Nat.add_mul, Nat.one_mul]
      _ ≤ y * N := Nat.mul_le_mul_right _ h
      _ ≤ y * N + b := Nat.le_add_right _ _
  rcases Nat.lt_trichotomy x y with h | h | h
  · have := key x y a b h ha
    constructor <;> constructor <;> intro k <;> omega
  · subst h
    constructor <;> constructor <;> intro k <;> omega
  · have := key y x b a h hb
    constructor <;> constructor <;> intro k <;> omega

theorem strCmp_eq (n v m u : Nat) (hv : v < 256 ^ n) (hu : u < 256 ^ m) : strCmp n v m u = cmpL (unpack n v) (unpack m u) := by
  induction n generalizing v m u with
  | zero =>
    have : v = 0 := by simpa using hv
    subst this
    rw [strCmp_le (Nat.zero_le m)]
    cases m with
    | zero =>
      have : u = 0 := by simpa using hu
      subst this; simp [unpack, cmpL]
    | succ m => simp [unpack, cmpL]; omega
  | succ n ih =>
    cases m with
    | zero =>
      have : u = 0 := by simpa using hu
      subst this
      rw [strCmp_ge (by omega)]
      simp [unpack, cmpL]
    | succ m =>
      have hx : v / 256 ^ n < 256 := by rw [Nat.div_lt_iff_lt_mul (Nat.pow_pos (by omega))]; rw [Nat.pow_succ] at hv; omega
      have hy : u / 256 ^ m < 256 := by rw [Nat.div_lt_iff_lt_mul (Nat.pow_pos (by omega))]; rw [Nat.pow_succ] at hu; omega
      have hv' : v % 256 ^ n < 256 ^ n := Nat.mod_lt _ (Nat.pow_pos (by omega))
      have hu' : u % 256 ^ m < 256 ^ m := Nat.mod_lt _ (Nat.pow_pos (by omega))
      have ih := ih (v % 256 ^ n) m (u % 256 ^ m) hv' hu'
      rw [unpack_mod v (Nat.le_refl n), unpack_mod u (Nat.le_refl m)] at ih
      simp only [unpack, cmpL]
      rw [show (UInt8.ofNat (v / 256 ^ n)).toNat = v / 256 ^ n by simp [Nat.mod_eq_of_lt hx], show (UInt8.ofNat (u / 256 ^ m)).toNat = u / 256 ^ m by simp [Nat.mod_eq_of_lt hy], ← ih]
      have ev : v = v / 256 ^ n * 256 ^ n + v % 256 ^ n := by rw [Nat.mul_comm]; exact (Nat.div_add_mod v _).symm
      have eu : u = u / 256 ^ m * 256 ^ m + u % 256 ^ m := by rw [Nat.mul_comm]; exact (Nat.div_add_mod u _).symm
      generalize v / 256 ^ n = x at *
      generalize v % 256 ^ n = v' at *
      generalize u / 256 ^ m = y at *
      generalize u % 256 ^ m = u' at *
      subst ev; subst eu
      by_cases hnm : n ≤ m
      · rw [strCmp_le (by omega), strCmp_le hnm, show m + 1 - (n + 1) = m - n by omega]
        have hlt : v' * 256 ^ (m - n) < 256 ^ m := by
          rw [pow_split (show m = n + (m - n) by omega)]; exact Nat.mul_lt_mul_of_pos_right hv' (Nat.pow_pos (by omega))
        rw [Nat.add_mul, Nat.mul_assoc x, ← Nat.pow_add, show n + (m - n) = m by omega]
        obtain ⟨l1, l2⟩ := lead (x := x) (y := y) hlt hu'
        simp only [l1, l2]
        by_cases c : x < y
        · simp [c]
        · by_cases d : x = y
          · subst d; simp
          · simp [c, d]
      · rw [strCmp_ge (by omega), strCmp_ge (by omega), show n + 1 - (m + 1) = n - m by omega]
        have hlt : u' * 256 ^ (n - m) < 256 ^ n := by
          rw [pow_split (show n = m + (n - m) by omega)]; exact Nat.mul_lt_mul_of_pos_right hu' (Nat.pow_pos (by omega))
        rw [Nat.add_mul, Nat.mul_assoc y, ← Nat.pow_add, show m + (n - m) = n by omega]
        obtain ⟨l1, l2⟩ := lead (x := x) (y := y) hv' hlt
        simp only [l1]
        by_cases c : x < y
        · simp [c]
        · by_cases d : x = y
          · subst d; simp
          · simp [c, d]

theorem cmpL_lt (l m : List UInt8) : Op.bytesLess l m = (match cmpL l m with | .lt => true | _ => false) := by
  induction l generalizing m with
  | nil => cases m <;> simp [Op.bytesLess, cmpL]
  | cons a l ih => cases m with
    | nil => simp [Op.bytesLess, cmpL]
    | cons b m =>
      simp only [Op.bytesLess, cmpL]
      by_cases h : a < b
      · have : a.toNat < b.toNat := h
        simp [h, this]
      · have h' : ¬ a.toNat < b.toNat := h
        by_cases e : a = b
        · subst e; simp [ih]
        · have e' : a.toNat ≠ b.toNat := fun c => e (UInt8.toNat_inj.1 c)
          simp [h, h', e, e']

theorem cmpL_eq (l m : List UInt8) : (l == m) = (match cmpL l m with | .eq => true | _ => false) := by
  induction l generalizing m with
  | nil => cases m <;> simp [cmpL]
  | cons a l ih => cases m with
    | nil => simp [cmpL]
    | cons b m =>
      simp only [cmpL, List.cons_beq_cons, ih]
      by_cases e : a = b
      · subst e; simp
      · have e' : a.toNat ≠ b.toNat := fun c => e (UInt8.toNat_inj.1 c)
        by_cases h : a.toNat < b.toNat <;> simp [e, e', h]

end Go.Proofs.YtialpccieggaoaaGreatDoor.Am

namespace Go.Proofs.YtialpccieggaoaaGreatDoor.Am

theorem info_underlying {P : Program} {t : TypeId} {d : TypeDesc} (h : P.underlying t = some d) : ∃ i, P.info? t = some i := by
  cases e : P.info? t with
  | none => unfold Program.underlying at h; rw [e] at h; cases h
  | some i => exact ⟨i, rfl⟩

theorem okT_desc {P : Program} {t : TypeId} (h : okT P t = true) : ∃ d, P.underlying t = some d := by
  unfold okT at h
  cases e : P.underlying t with
  | none => rw [e] at h; cases h
  | some d => exact ⟨d, rfl⟩

theorem okT_info {P : Program} {t : TypeId} (h : okT P t = true) : ∃ i, P.info? t = some i ∧ i.size = P.cellsOf t ∧ i.bytes = P.bytesOf t := by
  obtain ⟨d, hd⟩ := okT_desc h
  obtain ⟨i, e⟩ := info_underlying hd
  exact ⟨i, e, by simp [Program.cellsOf, e], by simp [Program.bytesOf, e]⟩

theorem run_sizeOf' {P : Program} {t : TypeId} (h : okT P t = true) (w : World) : (sizeOf t).run P w = .ok (P.cellsOf t) w := by
  obtain ⟨i, e, _⟩ := okT_info h
  exact run_sizeOf w e

theorem run_isAgg' {P : Program} {t : TypeId} {d : TypeDesc} (h : P.underlying t = some d) (w : World) : (isAgg t).run P w = .ok (isAggT P t) w := by
  unfold isAgg isAggT
  rw [Sem.run_bind, run_underlying h, Result.andThen_ok, h]
  cases d <;> rfl

theorem part_agg {P : Program} {t : TypeId} (hk : okT P t = true) (hg : isAggT P t = true) (cs : Array Value) (off : Nat) (w : World) :
    (part t cs off).run P w = .ok (.agg (cs.extract off (off + P.cellsOf t))) w := by
  obtain ⟨d, hd⟩ := okT_desc hk
  unfold part
  simp only [Sem.run_bind, run_isAgg' hd, Result.andThen_ok, hg, if_true, run_sizeOf' hk, Sem.run_pure]

theorem part_one {P : Program} {t : TypeId} (hk : okT P t = true) (hg : isAggT P t = false) {cs : Array Value} {off : Nat} {x : Value} (hx : cs[off]? = some x) (w : World) :
    (part t cs off).run P w = .ok x w := by
  obtain ⟨d, hd⟩ := okT_desc hk
  unfold part
  simp only [Sem.run_bind, run_isAgg' hd, Result.andThen_ok, hg, Bool.false_eq_true, if_false, hx, Sem.run_pure]

theorem extract_rel {φ : Phi} {l : List AV} {cs : Array Value} (h : RelL φ l cs.toList) (off n : Nat) : RelL φ ((l.drop off).take n) (cs.extract off (off + n)).toList := by
  have := (h.drop off).take n
  rw [Array.toList_extract, List.extract_eq_take_drop, show off + n - off = n by omega]
  exact this


theorem bytes_beq {s t : ByteArray} {n v m u : Nat} (hs : s.data.toList = unpack n v) (hv : v < 256 ^ n) (ht : t.data.toList = unpack m u) (hu : u < 256 ^ m) : (s == t) = (Nat.beq n m && Nat.beq v u) := by
  have hsn : s.size = n := by rw [← unpack_length n v, ← hs]; simp
  have htn : t.size = m := by rw [← unpack_length m u, ← ht]; simp
  have key : s.data = t.data ↔ (n = m ∧ v = u) := by
    refine ⟨fun e => ?_, fun ⟨e1, e2⟩ => ?_⟩
    · have e1 : n = m := by
        rw [← hsn, ← htn]
        show s.data.size = t.data.size
        rw [e]
      subst e1
      exact ⟨rfl, unpack_inj hv hu (by rw [← hs, ← ht, e])⟩
    · subst e1; subst e2
      rw [← Array.toArray_toList (xs := s.data), hs, ← ht]
  show (s.data == t.data) = _
  by_cases c : s.data = t.data
  · obtain ⟨e1, e2⟩ := key.1 c
    rw [beq_iff_eq.2 c, e1, e2]
    simp
  · have h1 : (s.data == t.data) = false := by
      cases h : s.data == t.data with
      | false => rfl
      | true => exact absurd (beq_iff_eq.1 h) c
    rw [h1]
    symm
    rw [Bool.and_eq_false_iff]
    by_cases e1 : n = m
    · right
      cases h : Nat.beq v u with
      | false => rfl
      | true => exact absurd (key.2 ⟨e1, Nat.eq_of_beq_eq_true h⟩) c
    · left
      cases h : Nat.beq n m with
      | false => rfl
      | true => exact absurd (Nat.eq_of_beq_eq_true h) e1

/-- What a part's kind says of its type. -/
def LkR (P : Program) (t : TypeId) : LK → Prop
  | .bool => P.underlying t = some .bool
  | .int => ∃ i, P.underlying t = some (.int i)
  | .str => P.underlying t = some .string

theorem sameK_run {P : Program} {w : World} {t : TypeId} {φ : Phi} {k : LK} {a b : AV} {x y : Value} {r : Bool} (hx : Rel φ a x) (hy : Rel φ b y) (h : sameK k a b = some r) (d : Nat)
    (hk : LkR P t k) : (Op.equalIn (d + 1) t x y).run P w = .ok r w := by
  unfold sameK at h
  split at h
  · cases hx; cases hy; cases h
    have hk : P.underlying t = some .bool := hk
    simp [Op.equalIn, run_underlying hk]
  · rename_i i n j m
    cases hx; cases hy
    obtain ⟨kk, hk⟩ := hk
    split at h
    · rename_i e
      subst e
      cases h
      simp only [Op.equalIn, Sem.run_bind, run_underlying hk, Result.andThen_ok, if_true, Sem.run_pure, cmpA_eq]
      congr 1
      by_cases c : n < m
      · have : n ≠ m := by omega
        simp [c, this]
      · by_cases c' : n = m <;> simp [c, c']
    · cases h
  · cases hx with
    | str hs hv => cases hy with
      | str ht hu =>
        cases h
        have hk : P.underlying t = some .string := hk
        simp only [Op.equalIn, Sem.run_bind, run_underlying hk, Result.andThen_ok, Sem.run_pure]
        rw [bytes_beq hs hv ht hu]
  · cases h

theorem sameKs_append : ∀ {ks ks' : List LK} {l l' r r' : List AV} {b : Bool}, l.length = ks.length → r.length = ks.length → sameKs (ks ++ ks') (l ++ l') (r ++ r') = some b →
    ∃ b1 b2, sameKs ks l r = some b1 ∧ sameKs ks' l' r' = some b2 ∧ b = (bif b1 then b2 else false)
  | [], ks', [], l', [], r', b, _, _, h => ⟨true, b, rfl, h, rfl⟩
  | k :: ks, ks', a :: l, l', c :: r, r', b, h1, h2, h => by
    simp only [List.cons_append, sameKs] at h ⊢
    split at h
    · rename_i x hx
      split at h
      · rename_i y hy
        cases h
        obtain ⟨b1, b2, q1, q2, q3⟩ := sameKs_append (by simpa using h1) (by simpa using h2) hy
        refine ⟨(bif x then b1 else false), b2, ?_, q2, ?_⟩
        · rw [q1]
        · rw [q3]; cases x <;> rfl
      · cases h
    · cases h

theorem sameKs_length : ∀ {ks : List LK} {l r : List AV} {b : Bool}, sameKs ks l r = some b → l.length = ks.length ∧ r.length = ks.length
  | [], [], [], _, _ => ⟨rfl, rfl⟩
  | k :: ks, a :: l, c :: r, b, h => by
    simp only [sameKs] at h
    split at h
    · split at h
      · rename_i y hy
        have := sameKs_length hy
        simp [this.1, this.2]
      · cases h
    · cases h
  | [], a :: l, _, _, h => by simp [sameKs] at h
  | [], [], c :: r, _, h => by simp [sameKs] at h
  | k :: ks, [], _, _, h => by simp [sameKs] at h
  | k :: ks, a :: l, [], _, h => by simp [sameKs] at h

theorem flat_agg {P : Program} {n : Nat} {t : TypeId} {ks : List LK} (h : flatK P n t = some ks) : (isAggT P t = true ∧ ∃ fs, P.underlying t = some (.struct fs)) ∨ (isAggT P t = false ∧ ∃ k, ks = [k] ∧ LkR P t k) := by
  cases n with
  | zero => cases h
  | succ n =>
    unfold flatK at h
    unfold isAggT
    split at h
    · rename_i e; cases h; right; rw [e]; exact ⟨rfl, _, rfl, e⟩
    · rename_i i e; cases h; right; rw [e]; exact ⟨rfl, _, rfl, i, e⟩
    · rename_i e; cases h; right; rw [e]; exact ⟨rfl, _, rfl, e⟩
    · rename_i fs e; left; rw [e]; exact ⟨rfl, fs, rfl⟩
    · cases h

theorem flat_fields {P : Program} {w : World} {φ : Phi} {g : TypeId → Option (List LK)} {d : Nat} {xs ys : Array Value} (hg : ∀ (t : TypeId) (ks : List LK), okT P t = true → g t = some ks → ∀ (off : Nat) (l r : List AV) (b : Bool), ks.length = P.cellsOf t → RelL φ l (xs.toList.drop off) →
      RelL φ r (ys.toList.drop off) → sameKs ks (l.take ks.length) (r.take ks.length) = some b → ∃ X Y, (part t xs off).run P w = .ok X w ∧ (part t ys off).run P w = .ok Y w ∧ (Op.equalIn d t X Y).run P w = .ok b w)
    {body : Field → Option Bool × Unit → Sem (ForInStep (Option Bool × Unit))} (hB : ∀ (f : Field) (st : Option Bool × Unit) (X Y : Value) (b : Bool), f.name ≠ "_" → (part f.type xs f.offset).run P w = .ok X w → (part f.type ys f.offset).run P w = .ok Y w →
      (Op.equalIn d f.type X Y).run P w = .ok b w → (body f st).run P w = .ok (if b = true then .yield (none, ()) else .done (some false, ())) w) :
    ∀ (fs : List Field) (acc : Nat) (ks : List LK) (l r : List AV) (b : Bool), flatFs P g fs acc = some ks → RelL φ l (xs.toList.drop acc) → RelL φ r (ys.toList.drop acc) → sameKs ks l r = some b →
      (forIn (m := Sem) fs ((none, ()) : Option Bool × Unit) body).run P w = .ok (if b = true then none else some false, ()) w
  | [], acc, ks, l, r, b, h, hl, hr, hs => by
    cases h
    have := sameKs_length hs
    have e1 : l = [] := List.length_eq_zero_iff.1 (by simpa using this.1)
    have e2 : r = [] := List.length_eq_zero_iff.1 (by simpa using this.2)
    subst e1; subst e2
    cases hs
    rfl
  | f :: fs, acc, ks, l, r, b, h, hl, hr, hs => by
    unfold flatFs at h
    cases hc : (f.name == "_" || !Nat.beq f.offset acc || !okT P f.type) with
    | true => rw [hc] at h; cases h
    | false =>
      rw [hc, cond_false] at h
      simp only [Bool.or_eq_false_iff, Bool.not_eq_false'] at hc
      obtain ⟨⟨c1, c2⟩, c3⟩ := hc
      have c2 : f.offset = acc := Nat.eq_of_beq_eq_true c2
      split at h
      · rename_i k1 hk1
        cases hb : Nat.beq k1.length (P.cellsOf f.type) with
        | false => rw [hb] at h; cases h
        | true =>
          rw [hb, cond_true] at h
          have hb := Nat.eq_of_beq_eq_true hb
          split at h
          · rename_i k2 hk2
            cases h
            have hlen := sameKs_length hs
            rw [List.length_append] at hlen
            rw [← List.take_append_drop k1.length l, ← List.take_append_drop k1.length r] at hs
            obtain ⟨b1, b2, q1, q2, q3⟩ := sameKs_append (by simp; omega) (by simp; omega) hs
            obtain ⟨X, Y, r1, r2, r3⟩ := hg f.type k1 c3 hk1 acc l r b1 hb hl hr q1
            have hname : f.name ≠ "_" := fun e => by rw [e] at c1; cases c1
            rw [List.forIn_cons, Sem.run_bind, hB f _ X Y b1 hname (by rw [c2]; exact r1) (by rw [c2]; exact r2) r3, Result.andThen_ok]
            have ih := flat_fields hg hB fs (Nat.add acc k1.length) k2 (l.drop k1.length) (r.drop k1.length) b2 hk2
              (by have := hl.drop k1.length; rw [List.drop_drop] at this; exact this) (by have := hr.drop k1.length; rw [List.drop_drop] at this; exact this) q2
            cases b1 with
            | false =>
              rw [q3]
              simp
            | true =>
              rw [q3]
              simp only [if_true, cond_true]
              exact ih
          · cases h
      · cases h

theorem flat_run {P : Program} {w : World} {φ : Phi} : ∀ (n : Nat) (t : TypeId) (ks : List LK), flatK P n t = some ks → ∀ (d : Nat) (X Y : Value) (l r : List AV) (b : Bool), (isAggT P t = true → ∃ a a', X = .agg a ∧ Y = .agg a' ∧ RelL φ l a.toList ∧ RelL φ r a'.toList) →
    (isAggT P t = false → ∃ x y, l = [x] ∧ r = [y] ∧ Rel φ x X ∧ Rel φ y Y) → sameKs ks l r = some b → (Op.equalIn (n + d) t X Y).run P w = .ok b w
  | 0, t, ks, h => by cases h
  | n + 1, t, ks, h => by
    intro d X Y l r b ha hn hs
    rcases flat_agg h with ⟨hag, fs, hd⟩ | ⟨hag, k, rfl, hk⟩
    · obtain ⟨xs, ys, rfl, rfl, hl, hr⟩ := ha hag
      unfold flatK at h
      rw [hd] at h
      simp only at h
      cases hst : P.stoodInHeld t with
      | true => rw [hst] at h; cases h
      | false =>
        rw [hst, cond_false] at h
        rw [show n + 1 + d = (n + d) + 1 by omega]
        unfold Op.equalIn
        rw [Sem.run_bind, run_underlying hd, Result.andThen_ok]
        simp only [Sem.run_bind, run_program, Result.andThen_ok, hst, Bool.false_eq_true, if_false]
        rw [← Array.forIn_toList]
        rw [flat_fields (P := P) (w := w) (φ := φ) (g := flatK P n) (d := n + d) (xs := xs) (ys := ys) (fun t' ks' hok hk' off l' r' b' hlen hl' hr' hs' => by
          have hxs : RelL φ (l'.take ks'.length) ((xs.toList.drop off).take ks'.length) := hl'.take _
          have hys : RelL φ (r'.take ks'.length) ((ys.toList.drop off).take ks'.length) := hr'.take _
          rcases flat_agg hk' with ⟨hag', _⟩ | ⟨hag', k', rfl, hkk⟩
          · refine ⟨_, _, part_agg hok hag' xs off w, part_agg hok hag' ys off w, flat_run (φ := φ) n t' ks' hk' d _ _ _ _ b' (fun _ => ⟨_, _, rfl, rfl, ?_, ?_⟩) (fun e => by rw [hag'] at e; cases e) hs'⟩
            · rw [Array.toList_extract, List.extract_eq_take_drop, ← hlen, show off + ks'.length - off = ks'.length by omega]; exact hxs
            · rw [Array.toList_extract, List.extract_eq_take_drop, ← hlen, show off + ks'.length - off = ks'.length by omega]; exact hys
          · have hq := sameKs_length hs'
            obtain ⟨x, hx⟩ := List.length_eq_one_iff.1 hq.1
            obtain ⟨y, hy⟩ := List.length_eq_one_iff.1 hq.2
            rw [hx] at hxs hs'
            rw [hy] at hys hs'
            generalize hX : (xs.toList.drop off).take [k'].length = Xl at hxs
            generalize hY : (ys.toList.drop off).take [k'].length = Yl at hys
            cases hxs with
            | @cons _ vx _ lx rx tx => cases hys with
              | @cons _ vy _ ly ry ty =>
                cases tx; cases ty
                have get : ∀ {zs : Array Value} {v : Value}, (zs.toList.drop off).take [k'].length = [v] → zs[off]? = some v := fun {zs v} e => by
                  have := congrArg (fun l => l[0]?) e
                  simp at this
                  exact this
                refine ⟨vx, vy, part_one hok hag' (get hX) w, part_one hok hag' (get hY) w, flat_run (φ := φ) n t' [k'] hk' d vx vy [x] [y] b' (fun e => by rw [hag'] at e; cases e) (fun _ => ⟨x, y, rfl, rfl, rx, ry⟩) hs'⟩)
          (fun f st X Y b1 hname e1 e2 e3 => by
            rw [if_pos hname]
            simp only [Sem.run_bind, e1, e2, e3, Result.andThen_ok]
            cases b1 <;> simp) fs.toList 0 ks l r b h (by rw [List.drop_zero]; exact hl) (by rw [List.drop_zero]; exact hr) hs, Result.andThen_ok]
        cases b <;> rfl
    · obtain ⟨x, y, rfl, rfl, hx, hy⟩ := hn hag
      simp only [sameKs] at hs
      split at hs
      · rename_i z hz
        cases hs
        have := sameK_run (w := w) hx hy hz (n + d) hk
        rw [show n + 1 + d = (n + d) + 1 by omega, this]
        cases z <;> rfl
      · cases hs
end Go.Proofs.YtialpccieggaoaaGreatDoor.Am

namespace Go.Proofs.YtialpccieggaoaaGreatDoor.Am

theorem ordI {op : BinOp} {a b : Int} {t : Bool} (h : ordOp op (cmpA a b) = some t) : Op.intCmp op a b = pure (.bool t) := by
  rw [cmpA_eq] at h
  by_cases c : a < b
  · rw [if_pos c] at h
    cases op <;> simp only [ordOp, Option.some.injEq, reduceCtorEq] at h <;> subst h <;> simp only [Op.intCmp] <;> congr 2 <;> first | (simp; omega) | skip
    all_goals first | (rw [beq_eq_false_iff_ne]; omega) | (rw [bne_iff_ne]; omega) | (simp; omega)
  · rw [if_neg c] at h
    by_cases d : a = b
    · rw [if_pos d] at h
      subst d
      cases op <;> simp only [ordOp, Option.some.injEq, reduceCtorEq] at h <;> subst h <;> simp [Op.intCmp]
    · rw [if_neg d] at h
      cases op <;> simp only [ordOp, Option.some.injEq, reduceCtorEq] at h <;> subst h <;> simp only [Op.intCmp] <;> congr 2 <;> simp <;> omega

theorem land_lt {a b n : Nat} (h : a < 2 ^ n) : a &&& b < 2 ^ n := Nat.lt_of_le_of_lt Nat.and_le_left h

theorem wrap_small {k : IntKind} {n : Nat} (h : n < 2 ^ (k.bits - 1)) : k.wrap (n : Int) = n := by
  apply wrap_id
  · cases k <;> simp [IntKind.min, IntKind.bits, IntKind.signed] <;> omega
  · cases k <;> simp [IntKind.max, IntKind.bits, IntKind.signed] at * <;> omega

theorem ofInt_nat {k : IntKind} {a : Nat} (h : a < 2 ^ (k.bits - 1)) : (BitVec.ofInt k.bits (Int.ofNat a)).toNat = a := by
  have hk : 0 < k.bits := by cases k <;> simp [IntKind.bits]
  have : (2:Nat) ^ (k.bits - 1) ≤ 2 ^ k.bits := Nat.pow_le_pow_right (by omega) (by omega)
  show (BitVec.ofInt k.bits ((a : Nat) : Int)).toNat = a
  rw [BitVec.ofInt_natCast, BitVec.toNat_ofNat, Nat.mod_eq_of_lt (by omega)]

theorem wrap_top {k : IntKind} {n : Nat} (h : n < 2 ^ topBits k) : k.wrap (n : Int) = n := by
  apply wrap_id
  · cases k <;> simp [IntKind.min, IntKind.bits, IntKind.signed] <;> omega
  · cases k <;> simp [IntKind.max, IntKind.bits, IntKind.signed, topBits] at * <;> omega

theorem ofInt_top {k : IntKind} {a : Nat} (h : a < 2 ^ topBits k) : (BitVec.ofInt k.bits (Int.ofNat a)).toNat = a := by
  have hk : 0 < k.bits := by cases k <;> simp [IntKind.bits]
  have : (2:Nat) ^ (topBits k) ≤ 2 ^ k.bits := Nat.pow_le_pow_right (by omega) (by unfold topBits; cases k.signed <;> simp)
  show (BitVec.ofInt k.bits ((a : Nat) : Int)).toNat = a
  rw [BitVec.ofInt_natCast, BitVec.toNat_ofNat, Nat.mod_eq_of_lt (by omega)]

theorem bitsA_run {op : BinOp} {k : IntKind} {x y r : Int} (h : bitsA op k x y = some r) : Op.intBits op k x y = pure (.int k r) := by
  cases op <;> simp only [bitsA, Option.some.injEq, reduceCtorEq] at h <;> subst h <;> rfl

theorem bitsF_run {op : BinOp} {k : IntKind} {x y r : Int} (h : bitsF op k x y = some r) : Op.intBits op k x y = pure (.int k r) := by
  unfold bitsF at h
  split at h
  · rename_i a b
    simp only at h
    cases hb : (Nat.blt a (Nat.pow 2 (topBits k)) && Nat.blt b (Nat.pow 2 (topBits k))) with
    | false =>
      rw [hb] at h
      split at h <;> (rw [cond_false] at h; exact bitsA_run h)
    | true =>
      rw [hb] at h
      rw [Bool.and_eq_true] at hb
      have ha : a < 2 ^ (topBits k) := blt_iff.1 hb.1
      have hb : b < 2 ^ (topBits k) := blt_iff.1 hb.2
      split at h <;> rw [cond_true] at h
      · simp only [Option.some.injEq] at h
        subst h
        simp only [Op.intBits, BitVec.toNat_and, ofInt_top ha, ofInt_top hb]
        rw [wrap_top (land_lt ha)]; rfl
      · simp only [Option.some.injEq] at h
        subst h
        simp only [Op.intBits, BitVec.toNat_or, ofInt_top ha, ofInt_top hb]
        rw [wrap_top (Nat.or_lt_two_pow ha hb)]; rfl
      · simp only [Option.some.injEq] at h
        subst h
        simp only [Op.intBits, BitVec.toNat_xor, ofInt_top ha, ofInt_top hb]
        rw [wrap_top (Nat.xor_lt_two_pow ha hb)]; rfl
      · exact bitsA_run h
  · exact bitsA_run h

theorem shiftA_run {P : Program} {w : World} {op : BinOp} {k yk : IntKind} {a b : Int} {r : AV} (h : shiftA op k a b = some r) (φ : Phi) :
    ∃ z, (Op.shift op k a yk b).run P w = .ok z w ∧ Rel φ r z := by
  unfold shiftA at h
  split at h
  · cases h
  · rename_i y
    have hy : ¬ (Int.ofNat y < 0) := by simp
    have e : (bif Nat.ble y k.bits then y else k.bits) = min (Int.ofNat y).toNat k.bits := by
      by_cases c : y ≤ k.bits
      · rw [ble_iff.2 c, cond_true]; simp; omega
      · rw [ble_false.2 (by omega), cond_false]; simp; omega
    simp only [e, intK_eq, wrapA_eq] at h
    unfold Op.shift
    rw [if_neg hy]
    split at h
    · simp only [Option.some.injEq] at h
      subst h
      refine ⟨_, rfl, ?_⟩
      have : (Int.ofNat (Nat.pow 2 (min (Int.ofNat y).toNat k.bits)) : Int) = 2 ^ (min (Int.ofNat y).toNat k.bits) := by
        show ((2 ^ _ : Nat) : Int) = _
        simp
      rw [this]
      exact .int _ _
    · rename_i x
      simp only [Option.some.injEq] at h
      subst h
      refine ⟨_, rfl, ?_⟩
      have : (Int.ofNat x).fdiv (2 ^ (min (Int.ofNat y).toNat k.bits)) = Int.ofNat (Nat.div x (Nat.pow 2 (min (Int.ofNat y).toNat k.bits))) := by
        rw [Int.fdiv_eq_ediv_of_nonneg _ (by exact Int.le_of_lt (Int.pow_pos (by omega)))]
        show ((x : Nat) : Int) / _ = ((x / 2 ^ _ : Nat) : Int)
        simp
      rw [this]
      exact .int _ _
    · simp only [Option.some.injEq] at h
      subst h
      exact ⟨_, rfl, .int _ _⟩
    · cases h

theorem strOp_run {P : Program} {w : World} {op : BinOp} {n v m u : Nat} {s t : ByteArray} (hs : s.data.toList = unpack n v) (hv : v < 256 ^ n) (ht : t.data.toList = unpack m u) (hu : u < 256 ^ m)
    {r : AV} (h : (match op with
    | .add => natK (Nat.add n m) fun l => bif Nat.ble l i64max then natK (Nat.add (Nat.mul v (Nat.pow 256 m)) u) fun r => some (.str l r) else none
    | op => match ordOp op (strCmp n v m u) with
      | some b => some (.bool b)
      | none => none) = some r) (φ : Phi) : ∃ z, (Op.stringOp op s t).run P w = .ok z w ∧ Rel φ r z := by
  have hsn : s.size = n := by rw [← unpack_length n v, ← hs]; simp
  have htn : t.size = m := by rw [← unpack_length m u, ← ht]; simp
  unfold Op.stringOp
  simp only [Lib.toList_data, hs, ht, cmpL_eq, cmpL_lt]
  rw [strCmp_eq n v m u hv hu] at h
  split at h
  · simp only [natK_eq] at h
    cases hc : Nat.ble (Nat.add n m) i64max with
    | false => rw [hc] at h; cases h
    | true =>
      rw [hc, cond_true, Option.some.injEq] at h
      have hc : n + m ≤ i64max := ble_iff.1 hc
      unfold i64max at hc
      subst h
      refine ⟨.string (s ++ t), ?_, .str ?_ ?_⟩
      · rw [if_neg (by rw [hsn, htn, i64_max]; omega)]; rfl
      · show (s ++ t).data.toList = unpack (n + m) (v * 256 ^ m + u)
        rw [unpack_add n m v u hu, ← hs, ← ht]
        simp [ByteArray.data_append]
      · show v * 256 ^ m + u < 256 ^ (n + m)
        rw [Nat.pow_add]
        calc v * 256 ^ m + u < v * 256 ^ m + 256 ^ m := by omega
          _ = (v + 1) * 256 ^ m := by rw [Nat.add_mul, Nat.one_mul]
          _ ≤ 256 ^ n * 256 ^ m := Nat.mul_le_mul_right _ hv
  · generalize cmpL (unpack n v) (unpack m u) = o at h ⊢
    cases op <;> cases o <;> simp only [ordOp, Option.some.injEq, reduceCtorEq] at h <;> subst h <;> exact ⟨_, rfl, .bool _⟩

theorem intBin_run {P : Program} {w : World} {op : BinOp} {k : IntKind} {a b : Int} {r : AV} (h : intBin op k a b = some r) (t : TypeId) (φ : Phi) :
    ∃ z, (binOp op t (.int k a) (.int k b)).run P w = .ok z w ∧ Rel φ r z := by
  have cmp : ∀ op', intBin op' k a b = (match ordOp op' (cmpA a b) with | some b => some (.bool b) | none => none) → intBin op' k a b = some r → ∃ z, (Op.intCmp op' a b).run P w = .ok z w ∧ Rel φ r z := by
    intro op' e h
    rw [e] at h
    split at h
    · rename_i t ht
      simp only [Option.some.injEq] at h
      subst h
      exact ⟨.bool t, by rw [ordI ht]; rfl, .bool t⟩
    · cases h
  unfold binOp
  cases op
  case shl => cases h
  case shr => cases h
  all_goals simp only [ne_eq, not_true_eq_false, if_false]
  case eql => exact cmp .eql rfl h
  case neq => exact cmp .neq rfl h
  case lss => exact cmp .lss rfl h
  case leq => exact cmp .leq rfl h
  case gtr => exact cmp .gtr rfl h
  case geq => exact cmp .geq rfl h
  case add => simp only [intBin, intK_eq, wrapA_eq, Option.some.injEq] at h; subst h; exact ⟨_, rfl, .int _ _⟩
  case sub => simp only [intBin, intK_eq, wrapA_eq, Option.some.injEq] at h; subst h; exact ⟨_, rfl, .int _ _⟩
  case mul => simp only [intBin, intK_eq, wrapA_eq, Option.some.injEq] at h; subst h; exact ⟨_, rfl, .int _ _⟩
  case quo =>
    unfold intBin at h
    simp only at h
    split at h
    · cases h
    · rename_i hb
      simp only [intK_eq, wrapA_eq, Option.some.injEq] at h
      subst h
      have : b ≠ 0 := fun c => hb (by rw [c]; rfl)
      exact ⟨.int k (k.wrap (a.tdiv b)), by simp only [Op.intDiv, if_neg this]; rfl, .int _ _⟩
  case rem =>
    unfold intBin at h
    simp only at h
    split at h
    · cases h
    · rename_i hb
      simp only [intK_eq, Option.some.injEq] at h
      subst h
      have : b ≠ 0 := fun c => hb (by rw [c]; rfl)
      exact ⟨.int k (a.tmod b), by simp only [Op.intDiv, if_neg this]; rfl, .int _ _⟩
  all_goals
    unfold intBin at h
    simp only at h
    split at h
    · rename_i t ht
      simp only [intK_eq, Option.some.injEq] at h
      subst h
      exact ⟨.int k t, by rw [bitsF_run ht]; rfl, .int _ _⟩
    · cases h

theorem run_underlying_some {P : Program} {t : TypeId} {d : TypeDesc} (h : P.underlying t = some d) (w : World) : (underlying t).run P w = .ok d w := run_underlying h w

/-- What the tag says of the type. -/
def EkR : EK → Option TypeDesc → Prop
  | .bool, some .bool => True
  | .ptr _, some (.pointer _) => True
  | .slice, some (.slice _) => True
  | .map, some (.map _ _) => True
  | .fn, some (.func _ _ _) => True
  | .ifc, some (.interface _) => True
  | .other, _ => True
  | _, _ => False

/-- As EkR, with what a flat type's kinds say. -/
def EkT (P : Program) (t : TypeId) (kd : EK) : Prop := (∀ ks, kd = .flat ks → flatK P 8 t = some ks ∧ P.eqGuardType P.depth t = false ∧ isAggT P t = true) ∧ ((∀ ks, kd ≠ .flat ks) → EkR kd (P.underlying t))

section
variable {P : Program} {w : World} {t : TypeId} (d : Nat)
theorem eq_bool (h : P.underlying t = some .bool) (a b : Bool) : (Op.equalIn (d + 1) t (.bool a) (.bool b)).run P w = .ok (a == b) w := by
  simp [Op.equalIn, run_underlying h]
theorem eq_ptr0 {e : TypeId} (h : P.underlying t = some (.pointer e)) (a : Option Addr) : (Op.equalIn (d + 1) t (.pointer none) (.pointer a)).run P w = .ok a.isNone w := by
  simp [Op.equalIn, run_underlying h]
theorem eq_ptr1 {e : TypeId} (h : P.underlying t = some (.pointer e)) (a : Addr) : (Op.equalIn (d + 1) t (.pointer (some a)) (.pointer none)).run P w = .ok false w := by
  simp [Op.equalIn, run_underlying h]
theorem eq_sl0 {e : TypeId} (h : P.underlying t = some (.slice e)) (a : Option Addr) (l c m k : Nat) : (Op.equalIn (d + 1) t (.slice none l c) (.slice a m k)).run P w = .ok a.isNone w := by
  simp [Op.equalIn, run_underlying h]
theorem eq_sl1 {e : TypeId} (h : P.underlying t = some (.slice e)) (a : Addr) (l c m k : Nat) : (Op.equalIn (d + 1) t (.slice (some a) m k) (.slice none l c)).run P w = .ok false w := by
  simp [Op.equalIn, run_underlying h]
theorem eq_map0 {k e : TypeId} (h : P.underlying t = some (.map k e)) (a : Option Nat) : (Op.equalIn (d + 1) t (.map none) (.map a)).run P w = .ok a.isNone w := by
  simp [Op.equalIn, run_underlying h]
theorem eq_map1 {k e : TypeId} (h : P.underlying t = some (.map k e)) (a : Nat) : (Op.equalIn (d + 1) t (.map (some a)) (.map none)).run P w = .ok false w := by
  simp [Op.equalIn, run_underlying h]
theorem eq_fn0 {a b : Array TypeId} {v : Bool} (h : P.underlying t = some (.func a b v)) : (Op.equalIn (d + 1) t .nilFunc .nilFunc).run P w = .ok true w := by
  simp [Op.equalIn, run_underlying h]
theorem eq_fn1 {a b : Array TypeId} {v : Bool} (h : P.underlying t = some (.func a b v)) (f : Fn) (x y : Array Value) : (Op.equalIn (d + 1) t .nilFunc (.func f x y)).run P w = .ok false w := by
  simp [Op.equalIn, run_underlying h]
theorem eq_fn2 {a b : Array TypeId} {v : Bool} (h : P.underlying t = some (.func a b v)) (f : Fn) (x y : Array Value) : (Op.equalIn (d + 1) t (.func f x y) .nilFunc).run P w = .ok false w := by
  simp [Op.equalIn, run_underlying h]
theorem eq_ifc0 {ms : Array (String × TypeId)} (h : P.underlying t = some (.interface ms)) : (Op.equalIn (d + 1) t .nilIface .nilIface).run P w = .ok true w := by
  simp [Op.equalIn, run_underlying h]
theorem eq_ifc1 {ms : Array (String × TypeId)} (h : P.underlying t = some (.interface ms)) (u : TypeId) (x : Value) : (Op.equalIn (d + 1) t .nilIface (.iface u x)).run P w = .ok false w := by
  simp [Op.equalIn, run_underlying h]
theorem eq_ifc2 {ms : Array (String × TypeId)} (h : P.underlying t = some (.interface ms)) (u : TypeId) (x : Value) : (Op.equalIn (d + 1) t (.iface u x) .nilIface).run P w = .ok false w := by
  simp [Op.equalIn, run_underlying h]
end

theorem eqlA_flat {neg nilOk : Bool} {ks : List LK} {v u r : AV} (h : eqlA neg nilOk (.flat ks) v u = some r) : ∃ l r', v = .agg l ∧ u = .agg r' ∧ ∃ b, sameKs ks l r' = some b ∧ notIf neg b = some r := by
  unfold eqlA at h
  split at h <;> first | (cases h; done) | (exact EK.noConfusion ‹EK.flat ks = _›) | skip
  rename_i ks' l r' e
  cases e
  split at h
  · rename_i b hb
    exact ⟨l, r', rfl, rfl, b, hb, h⟩
  · cases h

theorem equal_run {P : Program} {w : World} {t : TypeId} {φ : Phi} {v u : AV} {x y : Value} (hx : Rel φ v x) (hy : Rel φ u y) {neg nilOk : Bool} {kd : EK} {r : AV} (h : eqlA neg nilOk kd v u = some r)
    (hkk : EkT P t kd) : ∃ b, (Op.equal t x y).run P w = .ok b w ∧ r = .bool (bif neg then !b else b) := by
  have hn : ∀ b, notIf neg b = some r → r = .bool (bif neg then !b else b) := fun b e => by unfold notIf at e; cases e; rfl
  show ∃ b, (Op.equalIn (9999 + 1) t x y).run P w = .ok b w ∧ _
  by_cases hfl : ∃ ks, kd = .flat ks
  · obtain ⟨ks, rfl⟩ := hfl
    obtain ⟨hf, _, hag⟩ := hkk.1 ks rfl
    obtain ⟨l, r', rfl, rfl, b, hb, h⟩ := eqlA_flat h
    cases hx with
    | agg hl => cases hy with
      | agg hr =>
        refine ⟨b, ?_, hn _ h⟩
        refine flat_run (w := w) 8 t _ hf 9992 _ _ _ _ b (fun _ => ⟨_, _, rfl, rfl, hl, hr⟩) (fun e => by rw [hag] at e; cases e) hb
  have hk := hkk.2 fun ks e => hfl ⟨ks, e⟩
  generalize 9999 = D
  unfold eqlA at h
  cases hd : P.underlying t with
  | none => rw [hd] at hk; cases kd <;> first | (cases hk; done) | (simp only at h; cases h)
  | some d =>
    rw [hd] at hk
    split at h
    case h_20 => cases h
    case h_16 ks _ _ => exact absurd ⟨ks, rfl⟩ hfl
    case h_1 =>
      cases hx; cases hy
      cases d <;> first | (cases hk; done) | exact ⟨_, eq_bool D hd _ _, hn _ h⟩
    case h_2 =>
      cases hx; cases hy
      cases d <;> first | (cases hk; done) | exact ⟨_, eq_ptr0 D hd none, hn _ h⟩
    case h_3 =>
      cases hx; cases hy
      cases d <;> first | (cases hk; done) | exact ⟨_, eq_ptr0 D hd _, hn _ h⟩
    case h_4 =>
      cases hx; cases hy
      cases d <;> first | (cases hk; done) | exact ⟨_, eq_ptr1 D hd _, hn _ h⟩
    case h_5 =>
      cases hx; cases hy
      cases d <;> first | (cases hk; done) | exact ⟨_, eq_sl0 D hd none 0 0 0 0, hn _ h⟩
    case h_6 =>
      cases hx
      cases hy <;> cases d <;> first | (cases hk; done) | exact ⟨_, eq_sl0 D hd _ 0 0 _ _, hn _ h⟩
    case h_7 =>
      cases hy
      cases hx <;> cases d <;> first | (cases hk; done) | exact ⟨_, eq_sl1 D hd _ 0 0 _ _, hn _ h⟩
    case h_8 =>
      cases hx; cases hy
      cases d <;> first | (cases hk; done) | exact ⟨_, eq_map0 D hd none, hn _ h⟩
    case h_9 =>
      cases hx; cases hy
      cases d <;> first | (cases hk; done) | exact ⟨_, eq_map0 D hd _, hn _ h⟩
    case h_10 =>
      cases hx; cases hy
      cases d <;> first | (cases hk; done) | exact ⟨_, eq_map1 D hd _, hn _ h⟩
    case h_11 =>
      cases hx; cases hy
      cases d <;> first | (cases hk; done) | exact ⟨_, eq_fn0 D hd, hn _ h⟩
    case h_12 =>
      cases hx; cases hy
      cases d <;> first | (cases hk; done) | exact ⟨_, eq_fn1 D hd _ _ _, hn _ h⟩
    case h_13 =>
      cases hx; cases hy
      cases d <;> first | (cases hk; done) | exact ⟨_, eq_fn2 D hd _ _ _, hn _ h⟩
    case h_14 =>
      cases hx; cases hy
      cases d <;> first | (cases hk; done) | exact ⟨_, eq_fn1 D hd _ _ _, hn _ h⟩
    case h_15 =>
      cases hx; cases hy
      cases d <;> first | (cases hk; done) | exact ⟨_, eq_fn2 D hd _ _ _, hn _ h⟩
    case h_17 =>
      cases hx; cases hy
      cases d <;> first | (cases hk; done) | skip
      cases nilOk <;> first | (cases h; done) | skip
      exact ⟨true, eq_ifc0 D hd, hn _ h⟩
    case h_18 =>
      cases hx; cases hy
      cases d <;> first | (cases hk; done) | exact ⟨_, eq_ifc1 D hd _ _, hn _ h⟩
    case h_19 =>
      cases hx; cases hy
      cases d <;> first | (cases hk; done) | exact ⟨_, eq_ifc2 D hd _ _, hn _ h⟩

/-- Values that == looks at by kinds other than those of numbers and texts. -/
def Odd : Value → Prop
  | .bool _ | .pointer _ | .slice _ _ _ | .map _ | .nilFunc | .func _ _ _ | .nilIface | .iface _ _ | .agg _ => True
  | _ => False

theorem binOp_eql {t : TypeId} {x y : Value} (h : Odd x) : binOp .eql t x y = (do pure (.bool (← Op.equal t x y))) := by
  cases x <;> first | (cases h; done) | (cases y <;> rfl)
theorem binOp_neq {t : TypeId} {x y : Value} (h : Odd x) : binOp .neq t x y = (do pure (.bool (!(← Op.equal t x y)))) := by
  cases x <;> first | (cases h; done) | (cases y <;> rfl)

theorem eqlA_odd {φ : Phi} {neg nilOk : Bool} {kd : EK} {v u : AV} {x : Value} {r : AV} (h : eqlA neg nilOk kd v u = some r) (hx : Rel φ v x) : Odd x := by
  unfold eqlA at h
  split at h <;> first | (cases h; done) | (cases hx <;> trivial)

theorem guardIn_nil {P : Program} {w : World} {t : TypeId} {ms : Array (String × TypeId)} (h : P.underlying t = some (.interface ms)) (he : ms.isEmpty = true) (d : Nat) :
    (Op.eqGuardIn (d + 1) t .nilIface .nilIface).run P w = .ok false w := by
  simp [Op.eqGuardIn, run_underlying h, he]

theorem nilOk_guard {P : Program} {w : World} {t : TypeId} {x y : Operand} (h : nilOkT P t x y = true) (op : BinOp) : (eqGuard op t x y .nilIface .nilIface).run P w = .ok () w := by
  have key : isConstO x = false → isConstO y = false → ∃ ms, P.underlying t = some (.interface ms) ∧ ms.isEmpty = true := by
    intro hx hy
    unfold nilOkT at h
    rw [hx, hy] at h
    simp only [Bool.false_or] at h
    split at h
    · rename_i ms e; exact ⟨ms, e, h⟩
    · cases h
  have other : ∀ why : String, isConstO x = false → isConstO y = false → (do if ← Op.eqGuardIn Op.maxDepth t .nilIface .nilIface then unsupported (.noEntry why) : Sem Unit).run P w = .ok () w := by
    intro why hx hy
    obtain ⟨ms, e, he⟩ := key hx hy
    rw [Sem.run_bind, show Op.maxDepth = 9999 + 1 from rfl, guardIn_nil e he]
    rfl
  cases x with
  | const v => cases op <;> rfl
  | tmp a => cases y with
    | const v => cases op <;> rfl
    | tmp b => cases op <;> first | rfl | exact other _ rfl rfl
    | global b => cases op <;> first | rfl | exact other _ rfl rfl
    | func b => cases op <;> first | rfl | exact other _ rfl rfl
  | global a => cases y with
    | const v => cases op <;> rfl
    | tmp b => cases op <;> first | rfl | exact other _ rfl rfl
    | global b => cases op <;> first | rfl | exact other _ rfl rfl
    | func b => cases op <;> first | rfl | exact other _ rfl rfl
  | func a => cases y with
    | const v => cases op <;> rfl
    | tmp b => cases op <;> first | rfl | exact other _ rfl rfl
    | global b => cases op <;> first | rfl | exact other _ rfl rfl
    | func b => cases op <;> first | rfl | exact other _ rfl rfl

theorem guard_none {op : BinOp} {t : TypeId} {X Y : Operand} {x y : Value} (hx : ∀ a, x ≠ .agg a) (hn : ¬ (x = .nilIface ∧ y = .nilIface)) (P : Program) (w : World) : (eqGuard op t X Y x y).run P w = .ok () w := by
  unfold eqGuard
  cases op <;> first | rfl | skip
  all_goals
    cases x <;> first | rfl | (exact absurd rfl (hx _)) | skip
    cases y <;> first | rfl | (exact absurd ⟨rfl, rfl⟩ hn)

theorem ekT_R (P : Program) (t : TypeId) : EkT P t (ekT P t) := by
  unfold ekT
  split <;> rename_i h <;> first | (refine ⟨fun ks e => EK.noConfusion e, fun _ => ?_⟩; rw [h]; trivial) | (refine ⟨fun ks e => EK.noConfusion e, fun _ => trivial⟩) | skip
  split
  · rename_i ks hf
    cases hg : P.eqGuardType P.depth t with
    | true => exact ⟨fun ks e => EK.noConfusion e, fun _ => trivial⟩
    | false =>
      refine ⟨fun ks' e => ?_, fun e => absurd rfl (e ks)⟩
      cases e
      exact ⟨hf, hg, by unfold isAggT; rw [h]⟩
  · exact ⟨fun ks e => EK.noConfusion e, fun _ => trivial⟩

theorem eqlA_agg {neg nilOk : Bool} {kd : EK} {l : List AV} {u r : AV} (h : eqlA neg nilOk kd (.agg l) u = some r) : ∃ ks r', kd = .flat ks ∧ u = .agg r' := by
  unfold eqlA at h
  split at h <;> first | (cases h; done) | (exact AV.noConfusion ‹AV.agg l = _›) | skip
  exact ⟨_, _, rfl, rfl⟩

theorem guard_agg {P : Program} {w : World} {op : BinOp} {t : TypeId} {x y : Operand} {a b : Array Value} (h : P.eqGuardType P.depth t = false) : (eqGuard op t x y (.agg a) (.agg b)).run P w = .ok () w := by
  unfold eqGuard
  cases op <;> simp [h]

theorem eqlA_rng1 {neg b : Bool} {kd : EK} {c n : Nat} {u : AV} : eqlA neg b kd (.rng c n) u = none := by cases kd <;> cases u <;> rfl

theorem eqlA_unk1 {neg b : Bool} {kd : EK} {u : AV} : eqlA neg b kd .unk u = none := by cases kd <;> cases u <;> rfl

theorem eqlA_unk2 {neg b : Bool} {kd : EK} {u : AV} : eqlA neg b kd u .unk = none := by cases kd <;> cases u <;> rfl

theorem eqlA_nil {neg b : Bool} {kd : EK} {r : AV} (h : eqlA neg b kd .nilIfc .nilIfc = some r) : b = true := by
  cases b with
  | true => rfl
  | false => cases kd <;> cases h

/-- The whole operation. -/
theorem binA_run {P : Program} {w : World} {t : TypeId} {op : BinOp} {X Y : Operand} {φ : Phi} {v u : AV} {x y : Value} {r : AV} (hx : Rel φ v x) (hy : Rel φ u y)
    (h : binA op (ekT P t) (nilOkT P t X Y) v u = some r) : ∃ z, (do eqGuard op t X Y x y; binOp op t x y : Sem Value).run P w = .ok z w ∧ Rel φ r z := by
  have go : ∀ z, (eqGuard op t X Y x y).run P w = .ok () w → (binOp op t x y).run P w = .ok z w → (do eqGuard op t X Y x y; binOp op t x y : Sem Value).run P w = .ok z w := by
    intro z h1 h2
    rw [Sem.run_bind, h1]; exact h2
  unfold binA at h
  split at h
  · rename_i k a k' b
    cases hx; cases hy
    have hg : (eqGuard op t X Y (.int k a) (.int k' b)).run P w = .ok () w := guard_none (by simp) (by simp) P w
    split at h
    · obtain ⟨z, h1, h2⟩ := shiftA_run (P := P) (w := w) (yk := k') h φ
      exact ⟨z, go z hg h1, h2⟩
    · obtain ⟨z, h1, h2⟩ := shiftA_run (P := P) (w := w) (yk := k') h φ
      exact ⟨z, go z hg h1, h2⟩
    · split at h
      · rename_i e
        subst e
        obtain ⟨z, h1, h2⟩ := intBin_run (P := P) (w := w) h t φ
        exact ⟨z, go z hg h1, h2⟩
      · cases h
  · rename_i n a m b
    cases hx with
    | str hs hv => cases hy with
      | str ht hu =>
        obtain ⟨z, h1, h2⟩ := strOp_run (P := P) (w := w) (op := op) hs hv ht hu h φ
        refine ⟨z, go z (guard_none (by simp) (by simp) P w) ?_, h2⟩
        rw [← h1]
        cases op <;> rfl
  · have hgd : ∀ neg, eqlA neg (nilOkT P t X Y) (ekT P t) v u = some r → (eqGuard op t X Y x y).run P w = .ok () w := by
      intro neg e
      by_cases hn : x = .nilIface ∧ y = .nilIface
      · obtain ⟨rfl, rfl⟩ := hn
        cases hx with
        | nilIfc => cases hy with
          | nilIfc => exact nilOk_guard (eqlA_nil e) op
          | unk _ => rw [eqlA_unk2] at e; cases e
        | unk _ => rw [eqlA_unk1] at e; cases e
      · by_cases ha : ∃ a, x = .agg a
        · obtain ⟨a, rfl⟩ := ha
          cases hx with
          | agg hl =>
            obtain ⟨ks, r', q1, rfl⟩ := eqlA_agg e
            cases hy with
            | agg hr => exact guard_agg ((ekT_R P t).1 ks q1).2.1
          | unk h => cases h
        · exact guard_none (fun a e => ha ⟨a, e⟩) hn P w
    split at h
    · obtain ⟨b, h1, h2⟩ := equal_run (P := P) (w := w) (t := t) hx hy h (ekT_R P t)
      subst h2
      refine ⟨.bool b, go _ (hgd false h) ?_, .bool _⟩
      rw [binOp_eql (eqlA_odd h hx), Sem.run_bind, h1]; rfl
    · obtain ⟨b, h1, h2⟩ := equal_run (P := P) (w := w) (t := t) hx hy h (ekT_R P t)
      subst h2
      refine ⟨.bool (!b), go _ (hgd true h) ?_, .bool _⟩
      rw [binOp_neq (eqlA_odd h hx), Sem.run_bind, h1]; rfl
    · -- a bound
      unfold rngLeq at h
      split at h
      · rename_i a c k _ _
        cases hx
        cases hy with
        | rng hb =>
          rename_i m
          have hgu : (eqGuard .leq t X Y (.int .i64 (.ofNat a)) (.int .i64 m)).run P w = .ok () w := guard_none (by simp) (by simp) P w
          have hop : ∀ z, z = decide ((Int.ofNat a) ≤ m) → (binOp .leq t (.int .i64 (.ofNat a)) (.int .i64 m)).run P w = .ok (.bool z) w := fun z hz => by
            subst hz
            rfl
          cases c1 : Nat.beq c 1 with
          | true =>
            rw [c1, cond_true] at h
            have := beq_iff.1 c1
            subst this
            cases c2 : Nat.ble a k with
            | false => rw [c2] at h; cases h
            | true =>
              rw [c2] at h
              cases h
              have hb : (k : Int) ≤ m := hb
              have := ble_iff.1 c2
              exact ⟨_, go _ hgu (hop true (by symm; rw [decide_eq_true_eq]; show (a : Int) ≤ m; omega)), .bool _⟩
          | false =>
            rw [c1, cond_false] at h
            cases c3 : Nat.beq c 2 with
            | false => rw [c3] at h; cases h
            | true =>
              rw [c3, cond_true] at h
              have := beq_iff.1 c3
              subst this
              cases c2 : Nat.ble k a with
              | false => rw [c2] at h; cases h
              | true =>
                rw [c2] at h
                cases h
                have hb : m < (k : Int) := hb
                have := ble_iff.1 c2
                exact ⟨_, go _ hgu (hop false (by symm; rw [decide_eq_false_iff_not]; show ¬ (a : Int) ≤ m; omega)), .bool _⟩
      · cases h
    · cases h

end Go.Proofs.YtialpccieggaoaaGreatDoor.Am

namespace Go.Proofs.YtialpccieggaoaaGreatDoor.Am

theorem mapO_get {α β : Type} {f : α → Option β} {l : List α} {r : List β} (h : mapO f l = some r) : l.length = r.length ∧ ∀ (i : Nat) (x : α), l[i]? = some x → ∃ y, r[i]? = some y ∧ f x = some y := by
  induction l generalizing r with
  | nil => unfold mapO at h; cases h; exact ⟨rfl, fun i x e => by simp at e⟩
  | cons a l ih =>
    unfold mapO at h
    split at h
    · rename_i y hy
      split at h
      · rename_i r' hr
        cases h
        obtain ⟨h1, h2⟩ := ih hr
        refine ⟨by simp [h1], fun i x e => ?_⟩
        cases i with
        | zero => simp at e; subst e; exact ⟨y, rfl, hy⟩
        | succ i => simpa using h2 i x (by simpa using e)
      · cases h
    · cases h

theorem mapO_rel {α : Type} {φ : Phi} {f : α → Option AV} {g : α → Value} {l : List α} {r : List AV} (h : mapO f l = some r) (hf : ∀ x y, x ∈ l → f x = some y → Rel φ y (g x)) : RelL φ r (l.map g) := by
  obtain ⟨h1, h2⟩ := mapO_get h
  refine RelL.of_get (by simp [h1]) fun i v x hv hx => ?_
  rw [List.getElem?_map] at hx
  cases hl : l[i]? with
  | none => rw [hl] at hx; cases hx
  | some a =>
    rw [hl] at hx
    simp only [Option.map_some, Option.some.injEq] at hx
    obtain ⟨y, e1, e2⟩ := h2 i a hl
    rw [hv] at e1; cases e1
    subst hx
    exact hf a v (List.mem_of_getElem? hl) e2

theorem absV_rel (φ : Phi) : ∀ (n : Nat) (x : Value) (v : AV), absV n x = some v → Rel φ v x
  | 0, _, _, h => by cases h
  | n + 1, x, v, h => by
    have ih : ∀ x y, absV n x = some y → Rel φ y x := fun x y e => absV_rel φ n x y e
    have ihl : ∀ (a : Array Value) (r : List AV), mapO (absV n) a.toList = some r → RelL φ r a.toList := fun a r e => by
      have := mapO_rel (g := fun x => x) e fun x y _ k => ih x y k
      simpa using this
    unfold absV at h
    split at h
    all_goals first | (cases h; done) | skip
    case h_1 => cases h; exact .bool _
    case h_2 => cases h; exact .int _ _
    case h_3 s =>
      cases h
      have e : s.size = s.data.toList.length := by simp
      refine .str ?_ ?_
      · rw [e, unpack_pack]
      · rw [e]; exact pack_lt _
    case h_4 => cases h; exact .nilPtr
    case h_5 => cases h; exact .nilSl
    case h_6 => cases h; exact .nilMap
    case h_7 => cases h; exact .nilFn
    case h_8 => cases h; exact .nilIfc
    case h_9 =>
      split at h
      · rename_i a e; cases h; exact .ifc (ih _ _ e)
      · cases h
    case h_10 =>
      split at h
      · rename_i a e
        split at h
        · rename_i b e'; cases h; exact .fn (ihl _ _ e) (ihl _ _ e')
        · cases h
      · cases h
    case h_11 =>
      split at h
      · rename_i l e; cases h; exact .agg (ihl _ _ e)
      · cases h
    case h_12 =>
      split at h
      · rename_i l e; cases h; exact .tup (ihl _ _ e)
      · cases h

theorem opd_rel {P : Program} {φ : Phi} {h : Hp} {w : World} (hR : HR P φ h w) {env : T AV} {a : Act} (hE : EnvR φ env a.tmps) {x : Operand} {x' : Opd} (hc : compOpd P x = some x') : Rel φ (ev env x') (a.eval x) := by
  cases x with
  | tmp t => simp only [compOpd, Option.some.injEq] at hc; subst hc; exact hE t
  | const v =>
    simp only [compOpd] at hc
    cases hv : absV depthV v with
    | none => rw [hv] at hc; cases hc
    | some y =>
      rw [hv, Option.map_some, Option.some.injEq] at hc
      subst hc
      exact absV_rel φ _ v y hv
  | global g =>
    simp only [compOpd] at hc
    cases hg : globOk g with
    | false => rw [hg] at hc; cases hc
    | true =>
      rw [hg, cond_true, Option.some.injEq] at hc
      subst hc
      obtain ⟨n, e⟩ := hR.glob g hg
      exact .ptr e rfl (by simp) rfl
  | func f => simp only [compOpd, Option.some.injEq] at hc; subst hc; exact .fn .nil .nil

theorem opds_rel {P : Program} {φ : Phi} {h : Hp} {w : World} (hR : HR P φ h w) {env : T AV} {a : Act} (hE : EnvR φ env a.tmps) {l : List Operand} {r : List Opd} (hc : mapO (compOpd P) l = some r) :
    RelL φ (r.map (ev env)) (l.map a.eval) := by
  obtain ⟨h1, h2⟩ := mapO_get hc
  refine RelL.of_get (by simp [h1]) fun i v x hv hx => ?_
  rw [List.getElem?_map] at hv hx
  cases hl : l[i]? with
  | none => rw [hl] at hx; cases hx
  | some o =>
    obtain ⟨y, e1, e2⟩ := h2 i o hl
    rw [hl, Option.map_some, Option.some.injEq] at hx
    rw [e1, Option.map_some, Option.some.injEq] at hv
    subst hx; subst hv
    exact opd_rel hR hE e2

/-- What an operation's end says of the model's. -/
def NV (nx : Next) (x : Value) : Prop := nx = .value x ∨ (nx = .skip ∧ x = Go.undef)

def ResR (P : Program) (φ : Phi) (h : Hp) (w : World) (r : Res) (R : Result Next) : Prop :=
  match r with
  | .val v h' => ∃ nx x w' φ', R = .ok nx w' ∧ NV nx x ∧ HR P φ' h' w' ∧ Adv h w φ h' w' φ' ∧ Rel φ' v x
  | .enter f args h' => h' = h ∧ ∃ xs fn c, R = .ok (.enter f xs) w ∧ P.funcs[f]? = some fn ∧ fn.body = some c ∧ RelL φ args xs.toList
  | .round l args => ∃ b xs, φ l 0 = some (b, 0, 0) ∧ RelL φ args xs.toList ∧ R = (Instr.yield b xs).run P w
  | .defer f args => ∃ d, R = .ok (.defer d) w ∧ DefR φ f args d
  | .recover => R = .ok .recover w
  | .panic v => ∃ x, R = .halt (.panic x) w ∧ Rel φ v x
  | .fork l => ∃ v h', (v, h') ∈ l ∧ ∃ nx x w' φ', R = .ok nx w' ∧ NV nx x ∧ HR P φ' h' w' ∧ Adv h w φ h' w' φ' ∧ Rel φ' v x
  | .fail _ => True

theorem unA_run {P : Program} {w : World} {φ : Phi} {op : UnOp} {v r : AV} {x : Value} (hx : Rel φ v x) (e : unA op v = some r) : ∃ z, (Op.unary op x).run P w = .ok z w ∧ Rel φ r z := by
  unfold unA at e
  split at e
  · rename_i k n
    cases hx
    simp only [intK_eq, wrapA_eq, Option.some.injEq] at e
    subst e
    exact ⟨_, rfl, .int _ _⟩
  · rename_i k n
    cases hx
    split at e
    · rename_i r' hr
      simp only [intK_eq, Option.some.injEq] at e
      subst e
      refine ⟨.int k r', ?_, .int _ _⟩
      show (Op.intBits .xor k _ n).run P w = _
      rw [bitsA_run hr]; rfl
    · cases e
  · rename_i b
    cases hx
    cases e
    cases b <;> exact ⟨_, rfl, .bool _⟩
  · cases e

section
variable {P : Program} {φ : Phi} {h : Hp} {w : World} {env : T AV} {a : Act} {o : Oper}

/-- A value, the world as it was. -/
theorem ResR.pure (hR : HR P φ h w) {v : AV} {x : Value} (hx : Rel φ v x) {R : Result Next} (e : R = .ok (.value x) w) : ResR P φ h w (.val v h) R :=
  ⟨_, x, w, φ, e, .inl rfl, hR, Adv.refl h w φ, hx⟩

theorem ResR.opt (hR : HR P φ h w) {r : Option AV} {why : String} {R : Result Next} (e : ∀ v, r = some v → ∃ x, R = .ok (.value x) w ∧ Rel φ v x) : ResR P φ h w (Am.opt h why r) R := by
  cases r with
  | none => trivial
  | some v => obtain ⟨x, e1, e2⟩ := e v rfl; exact ResR.pure hR e2 e1

theorem op_move (hR : HR P φ h w) (hE : EnvR φ env a.tmps) {x : Operand} {x' : Opd} (hx : compOpd P x = some x') (ho : o.op = .move x ∨ o.op = .assign x) : ResR P φ h w (evalOp P (.mov x') env h) ((execOp a.eval o).run P w) := by
  refine ResR.pure hR (opd_rel hR hE hx) ?_
  rcases ho with ho | ho <;> simp [execOp, ho]

theorem op_pick (hR : HR P φ h w) (hE : EnvR φ env a.tmps) {c x y : Operand} {c' x' y' : Opd} (hc : compOpd P c = some c') (hx : compOpd P x = some x') (hy : compOpd P y = some y') (ho : o.op = .pick c x y) :
    ResR P φ h w (evalOp P (.pick c' x' y') env h) ((execOp a.eval o).run P w) := by
  have rc := opd_rel hR hE hc
  have rx := opd_rel hR hE hx
  have ry := opd_rel hR hE hy
  unfold evalOp
  simp only
  generalize ev env c' = C at *
  cases C <;> first | trivial | skip
  rename_i b
  generalize hcv : a.eval c = X at *
  cases rc
  cases b
  · exact ResR.pure hR ry (by simp [execOp, ho, hcv, asBool])
  · exact ResR.pure hR rx (by simp [execOp, ho, hcv, asBool])

theorem op_bin (hR : HR P φ h w) (hE : EnvR φ env a.tmps) {op : BinOp} {t yt : TypeId} {x y : Operand} {x' y' : Opd} (hx : compOpd P x = some x') (hy : compOpd P y = some y') (ho : o.op = .binOp op t x y yt) :
    ResR P φ h w (evalOp P (.bin op (ekT P t) (nilOkT P t x y) x' y') env h) ((execOp a.eval o).run P w) := by
  unfold evalOp
  refine ResR.opt hR fun v e => ?_
  obtain ⟨z, e1, e2⟩ := binA_run (P := P) (w := w) (opd_rel hR hE hx) (opd_rel hR hE hy) e
  refine ⟨z, ?_, e2⟩
  simp only [execOp, ho]
  rw [Sem.run_bind, e1]; rfl

theorem op_un (hR : HR P φ h w) (hE : EnvR φ env a.tmps) {op : UnOp} {t : TypeId} {x : Operand} {x' : Opd} (hx : compOpd P x = some x') (ho : o.op = .unOp op t x) : ResR P φ h w (evalOp P (.un op x') env h) ((execOp a.eval o).run P w) := by
  unfold evalOp
  refine ResR.opt hR fun v e => ?_
  obtain ⟨z, e1, e2⟩ := unA_run (P := P) (w := w) (opd_rel hR hE hx) e
  refine ⟨z, ?_, e2⟩
  simp only [execOp, ho]
  rw [Sem.run_bind, e1]; rfl

theorem op_nilCheck (hR : HR P φ h w) (hE : EnvR φ env a.tmps) {x : Operand} {x' : Opd} (hx : compOpd P x = some x') (ho : o.op = .nilCheck x) : ResR P φ h w (evalOp P (.nilCheck x') env h) ((execOp a.eval o).run P w) := by
  have rx := opd_rel hR hE hx
  unfold evalOp
  simp only
  generalize hX : a.eval x = X at *
  split
  · rename_i id g off e
    rw [e] at rx
    refine ResR.pure hR rx ?_
    cases rx
    simp [execOp, ho, hX]
  · rename_i t v e
    rw [e] at rx
    refine ResR.pure hR rx ?_
    cases rx
    simp [execOp, ho, hX]
  · rename_i l e
    rw [e] at rx
    refine ResR.pure hR rx ?_
    cases rx
    simp [execOp, ho, hX]
  · rename_i f y z e
    rw [e] at rx
    refine ResR.pure hR rx ?_
    cases rx
    simp [execOp, ho, hX]
  · trivial

theorem op_mkIfc (hR : HR P φ h w) (hE : EnvR φ env a.tmps) {t : TypeId} {d : TypeDesc} {x : Operand} {x' : Opd} (hx : compOpd P x = some x') (hd : P.underlying t = some d) (hi : ∀ ms, d ≠ .interface ms) (ho : o.op = .makeInterface t x) :
    ResR P φ h w (evalOp P (.mkIfc t x') env h) ((execOp a.eval o).run P w) := by
  refine ResR.pure hR (.ifc (opd_rel hR hE hx)) ?_
  simp only [execOp, ho, Instr.makeInterface]
  simp only [Sem.run_bind, run_underlying hd, Result.andThen_ok]
  cases d <;> first | rfl | (exact absurd rfl (hi _))

theorem op_mkFn (hR : HR P φ h w) (hE : EnvR φ env a.tmps) {f : Fn} {x y : Array Operand} {x' y' : List Opd} (hx : mapO (compOpd P) x.toList = some x') (hy : mapO (compOpd P) y.toList = some y') (ho : o.op = .makeFunc f x y) :
    ResR P φ h w (evalOp P (.mkFn f x' y') env h) ((execOp a.eval o).run P w) := by
  refine ResR.pure hR (x := .func f (x.map a.eval) (y.map a.eval)) (.fn ?_ ?_) ?_
  · simpa using opds_rel hR hE hx
  · simpa using opds_rel hR hE hy
  · simp [execOp, ho, Instr.makeFunc]

theorem op_extract (hR : HR P φ h w) (hE : EnvR φ env a.tmps) {x : Operand} {i : Nat} {x' : Opd} (hx : compOpd P x = some x') (ho : o.op = .extract x i) : ResR P φ h w (evalOp P (.extract x' i) env h) ((execOp a.eval o).run P w) := by
  have rx := opd_rel hR hE hx
  unfold evalOp
  simp only
  generalize hX : a.eval x = X at *
  split
  · rename_i l e
    rw [e] at rx
    refine ResR.opt hR fun v ev => ?_
    cases rx with
    | tup hl =>
      rename_i arr
      rw [nth_eq] at ev
      obtain ⟨z, e1, e2⟩ := hl.get ev
      refine ⟨z, ?_, e2⟩
      rw [Array.getElem?_toList] at e1
      simp [execOp, ho, hX, Instr.extract, e1]
  · trivial

end

end Go.Proofs.YtialpccieggaoaaGreatDoor.Am
