import Derived.SizedLaws
import Derived.OpenShut
import Derived.Test.YtmifpiglcphmoaaAmP
/- THE ABSTRACT MACHINE, part Q: a machine over values without block numbers, run by the kernel, and the proof that the model's machine does what it does. No condition. -/
set_option linter.unusedSimpArgs false
set_option linter.unusedVariables false
namespace Go.Proofs.Ytmifpiglcphmoaa.Am
open Go.RowKit

def tilesB (P : Program) : List Field → Nat → Option Nat
  | [], n => some n
  | f :: l, n => if f.offset = n then tilesB P l (n + P.cellsOf f.type) else none

/-- Types of trees: numbers, truth values, texts, and rows, arrays and structures of these. -/
def treeB (P : Program) : Nat → TypeId → Bool
  | 0, _ => false
  | d + 1, t => match P.underlying t with
    | some .bool | some (.int _) | some .string => true
    | some (.slice e) => treeB P d e && decide (0 < P.cellsOf e)
    | some (.array n e) => treeB P d e && decide (P.cellsOf t = n * P.cellsOf e)
    | some (.struct fs) => fs.toList.all (fun f => treeB P d f.type) && tilesB P fs.toList 0 == some (P.cellsOf t)
    | _ => false

/-- What cells of a type hold, where they are a tree. -/
def Tree (P : Program) (h : Hp) : Nat → TypeId → List AV → Prop
  | 0, _, _ => False
  | d + 1, t, l => match P.underlying t with
    | some .bool => ∃ b, l = [.bool b]
    | some (.int k) => ∃ n, l = [.int k n] ∧ (Lit.int k n).wf = true
    | some .string => ∃ b, l = [strOf b] ∧ b.length ≤ reachBytes
    | some (.slice e) => l = [.nilSl] ∨ (∃ id g off, l = [.sl id g off 0 0 true (P.cellsOf e)]) ∨
        ∃ id n cap L, l = [.sl id 0 0 n cap true (P.cellsOf e)] ∧ n ≤ cap ∧ cap * P.bytesOf e ≤ reachBytes ∧ Fix h id L ∧ L.length = cap * P.cellsOf e ∧ ∀ i, i < cap → Tree P h d e ((L.drop (i * P.cellsOf e)).take (P.cellsOf e))
    | some (.array n e) => l.length = n * P.cellsOf e ∧ ∀ i, i < n → Tree P h d e ((l.drop (i * P.cellsOf e)).take (P.cellsOf e))
    | some (.struct fs) => l.length = P.cellsOf t ∧ ∀ f, f ∈ fs.toList → Tree P h d f.type ((l.drop f.offset).take (P.cellsOf f.type))
    | _ => False

theorem Tree.more {P : Program} {h h' : Hp} (m : Only [] h h') : ∀ {d : Nat} {t : TypeId} {l : List AV}, Tree P h d t l → Tree P h' d t l
  | 0, _, _, a => a
  | d + 1, t, l, a => by
    unfold Tree at a ⊢
    split
    · rename_i hd; rw [hd] at a; exact a
    · rename_i hd; rw [hd] at a; exact a
    · rename_i hd; rw [hd] at a; exact a
    · rename_i e hd
      rw [hd] at a
      rcases a with a | a | ⟨id, n, cap, L, a1, a2, a3, a4, a5, a6⟩
      · exact .inl a
      · exact .inr (.inl a)
      · exact .inr (.inr ⟨id, n, cap, L, a1, a2, a3, a4.only m (by simp), a5, fun i hi => (a6 i hi).more m⟩)
    · rename_i n e hd
      rw [hd] at a
      exact ⟨a.1, fun i hi => (a.2 i hi).more m⟩
    · rename_i fs hd
      rw [hd] at a
      exact ⟨a.1, fun f hf => (a.2 f hf).more m⟩
    · rename_i h1 h2 h3 h4 h5 h6
      split at a <;> simp_all

section
variable {H : Type} {enc : TypeId × Value → H} {P : Program} {w : World} {base : Nat} {held : Bool}

theorem weights_all {e : TypeId} : ∀ {ds : List (DataW H)}, (∀ n ∈ DataW.weightsAll P e ds, n ≤ reachBytes) → ∀ d ∈ ds, ∀ n ∈ d.weights P e, n ≤ reachBytes
  | [], _, d, hd, _, _ => by cases hd
  | x :: ds, h, d, hd, n, hn => by
    unfold DataW.weightsAll at h
    rcases List.mem_cons.1 hd with q | q
    · subst q; exact h n (List.mem_append_left _ hn)
    · exact weights_all (fun m hm => h m (List.mem_append_right _ hm)) d q n hn

theorem weights_each : ∀ {ts : List TypeId} {ds : List (DataW H)}, (∀ n ∈ DataW.weightsEach P ts ds, n ≤ reachBytes) → ∀ (i : Nat) t d, ts[i]? = some t → ds[i]? = some d → ∀ n ∈ d.weights P t, n ≤ reachBytes :=
  fun h _ _ _ ht hd n hn => h n (DataW.weights_mem_each ht hd n hn)

/-- Elements of a slice, one behind another. -/
theorem open_elemsT {n es d : Nat} {e : TypeId} {a : Addr}
    (ih : ∀ (cs : List Value) (x : DataW H × List MemPlace), DataW.trod enc P w base (fun _ => true) held n e cs = some x → (∀ n ∈ x.1.weights P e, n ≤ reachBytes) → ∀ φ h, HR P φ h w → h.lim = 0 → AllRo h → Opens (H := H) P w φ h cs fun h' l => Tree P h' d e l ∧ l.length = cs.length) :
    ∀ (ds : List (DataW H × List MemPlace)) (i0 : Nat), (∀ x ∈ ds, ∀ n ∈ x.1.weights P e, n ≤ reachBytes) → (∀ i, i < ds.length → (w.cells? base (a.add ((i0 + i) * es)) es).bind (DataW.trod enc P w base (fun _ => true) held n e) = ds[i]?) → ∀ φ h, HR P φ h w → h.lim = 0 → AllRo h →
      ∃ φ' h' L ys, HR P φ' h' w ∧ h'.lim = 0 ∧ AllRo h' ∧ Le φ φ' ∧ Only [] h h' ∧ RelL φ' L ys ∧ (∀ i, i < ds.length → Tree P h' d e ((L.drop (i * es)).take es)) ∧ ys.length = ds.length * es ∧ ∀ j, j < ys.length → w.cell? (a.add (i0 * es + j)) = ys[j]?
  | [], i0, hw, hd, φ, h, hR, hz, hro => ⟨φ, h, [], [], hR, hz, hro, Le.refl φ, .refl _ _, .nil, fun i hi => by simp at hi, by simp, fun j hj => by simp at hj⟩
  | x :: ds, i0, hw, hd, φ, h, hR, hz, hro => by
    have h0 := hd 0 (by simp)
    simp only [Nat.add_zero, List.getElem?_cons_zero] at h0
    obtain ⟨cs, hcs, ht⟩ := Option.bind_eq_some_iff.1 h0
    obtain ⟨hlen, hget⟩ := cells_get hcs
    obtain ⟨φ1, h1, l, r1, r2, r3, r4, r5, r6, r7, r8⟩ := ih cs x ht (hw x (by simp)) φ h hR hz hro
    obtain ⟨φ2, h2, L, ys, s1, s2, s3, s4, s5, s6, s7, s8, s9⟩ := open_elemsT ih ds (i0 + 1) (fun y hy => hw y (by simp [hy])) (fun i hi => by
      have := hd (i + 1) (by simp; omega)
      rw [List.getElem?_cons_succ] at this
      rw [← this, show i0 + 1 + i = i0 + (i + 1) by omega]) φ1 h1 r1 r2 r3
    have hll : l.length = es := by omega
    refine ⟨φ2, h2, l ++ L, cs ++ ys, s1, s2, s3, r4.trans s4, r5.trans s5, (r6.mono s4).append s6, fun i hi => ?_, by simp [hlen, s8, Nat.add_mul]; omega, fun j hj => ?_⟩
    · cases i with
      | zero =>
        rw [Nat.zero_mul, List.drop_zero, List.take_append_of_le_length (by omega), List.take_of_length_le (by omega)]
        exact r7.more s5
      | succ i =>
        rw [List.drop_append, List.drop_eq_nil_of_le (by rw [hll, Nat.add_mul]; omega), List.nil_append, hll, show (i + 1) * es - es = i * es by rw [Nat.add_mul]; omega]
        exact s7 i (by simpa using hi)
    · by_cases hjl : j < cs.length
      · rw [List.getElem?_append_left hjl, ← hget j (by omega), addr_add]
      · have hj' : j - cs.length < ys.length := by simp at hj; omega
        rw [List.getElem?_append_right (by omega), ← s9 _ hj', show i0 * es + j = (i0 + 1) * es + (j - cs.length) by rw [Nat.add_mul]; omega]

/-- Fields of a structure, one behind another. -/
theorem open_fieldsT {n d : Nat} {cs : List Value} :
    ∀ (fs : List Field) (off : Nat) (xs : List (DataW H × List MemPlace)),
      (∀ (i : Nat) f x, fs[i]? = some f → xs[i]? = some x → ∀ n ∈ x.1.weights P f.type, n ≤ reachBytes) →
      (∀ f ∈ fs, ∀ (cs : List Value) (x : DataW H × List MemPlace), DataW.trod enc P w base (fun _ => true) held n f.type cs = some x → (∀ n ∈ x.1.weights P f.type, n ≤ reachBytes) → ∀ φ h, HR P φ h w → h.lim = 0 → AllRo h → Opens (H := H) P w φ h cs fun h' l => Tree P h' d f.type l ∧ l.length = cs.length) →
      tilesB P fs off = some cs.length → xs.length = fs.length → (∀ (i : Nat) (f : Field), fs[i]? = some f → DataW.trod enc P w base (fun _ => true) held n f.type ((cs.drop f.offset).take (P.cellsOf f.type)) = xs[i]?) → ∀ φ h, HR P φ h w → h.lim = 0 → AllRo h →
      Opens (H := H) P w φ h (cs.drop off) fun h' l => ∀ f ∈ fs, off ≤ f.offset ∧ Tree P h' d f.type ((l.drop (f.offset - off)).take (P.cellsOf f.type))
  | [], off, xs, _, _, ht, hx, _, φ, h, hR, hz, hro => by
    have ht : some off = some cs.length := ht
    cases ht
    refine ⟨φ, h, [], hR, hz, hro, Le.refl φ, .refl _ _, ?_, fun f hf => by cases hf⟩
    rw [List.drop_length]
    exact .nil
  | f :: fs, off, xs, hw, ih, ht, hx, hf, φ, h, hR, hz, hro => by
    unfold tilesB at ht
    split at ht
    · rename_i ho
      match xs, hx with
      | x :: xs, hx =>
        have h0 := hf 0 f (by simp)
        simp only [List.getElem?_cons_zero] at h0
        obtain ⟨φ1, h1, l, r1, r2, r3, r4, r5, r6, r7, r8⟩ := ih f (by simp) _ x h0 (hw 0 f x (by simp) (by simp)) φ h hR hz hro
        obtain ⟨φ2, h2, L, s1, s2, s3, s4, s5, s6, s7⟩ := open_fieldsT fs (off + P.cellsOf f.type) xs (fun i g y hg hy => hw (i + 1) g y (by simpa using hg) (by simpa using hy)) (fun g hg => ih g (by simp [hg])) ht (by simpa using hx) (fun i g hg => by
          have := hf (i + 1) g (by simpa using hg)
          rwa [List.getElem?_cons_succ] at this) φ1 h1 r1 r2 r3
        have hle : off + P.cellsOf f.type ≤ cs.length := by
          clear s7 s6 ih hf h0 r6 r8 hw hx
          have mono : ∀ (fs : List Field) (k m : Nat), tilesB P fs k = some m → k ≤ m := by
            intro fs
            induction fs with
            | nil => intro k m e; cases e; exact Nat.le_refl _
            | cons g fs ih =>
              intro k m e
              unfold tilesB at e
              split at e
              · have := ih _ _ e; omega
              · cases e
          exact mono _ _ _ ht
        have hll : l.length = P.cellsOf f.type := by
          rw [r8, List.length_take, List.length_drop, ho]; omega
        refine ⟨φ2, h2, l ++ L, s1, s2, s3, r4.trans s4, r5.trans s5, ?_, fun g hg => ?_⟩
        · rw [ho] at r6
          have e : cs.drop off = (cs.drop off).take (P.cellsOf f.type) ++ cs.drop (off + P.cellsOf f.type) := by
            rw [← List.drop_drop, List.take_append_drop]
          rw [e]
          exact (r6.mono s4).append s6
        · rcases List.mem_cons.1 hg with q | q
          · subst q
            refine ⟨by omega, ?_⟩
            rw [ho, Nat.sub_self, List.drop_zero, List.take_append_of_le_length (by omega), List.take_of_length_le (by omega)]
            exact r7.more s5
          · obtain ⟨q1, q2⟩ := s7 g q
            refine ⟨by omega, ?_⟩
            rw [List.drop_append, List.drop_eq_nil_of_le (by omega), List.nil_append, hll, show g.offset - off - P.cellsOf f.type = g.offset - (off + P.cellsOf f.type) by omega]
            exact q2
    · cases ht

/-- Parts of an array, one behind another. -/
theorem open_partsT {n d es : Nat} {e : TypeId} {cs : List Value}
    (ih : ∀ (cs : List Value) (x : DataW H × List MemPlace), DataW.trod enc P w base (fun _ => true) held n e cs = some x → (∀ n ∈ x.1.weights P e, n ≤ reachBytes) → ∀ φ h, HR P φ h w → h.lim = 0 → AllRo h → Opens (H := H) P w φ h cs fun h' l => Tree P h' d e l ∧ l.length = cs.length) :
    ∀ (xs : List (DataW H × List MemPlace)) (i0 : Nat), (∀ x ∈ xs, ∀ n ∈ x.1.weights P e, n ≤ reachBytes) → cs.length = (i0 + xs.length) * es → (∀ i, i < xs.length → DataW.trod enc P w base (fun _ => true) held n e ((cs.drop ((i0 + i) * es)).take es) = xs[i]?) → ∀ φ h, HR P φ h w → h.lim = 0 → AllRo h →
      Opens (H := H) P w φ h (cs.drop (i0 * es)) fun h' l => ∀ i, i < xs.length → Tree P h' d e ((l.drop (i * es)).take es)
  | [], i0, hw, hl, hd, φ, h, hR, hz, hro => by
    refine ⟨φ, h, [], hR, hz, hro, Le.refl φ, .refl _ _, ?_, fun i hi => by simp at hi⟩
    rw [List.drop_eq_nil_of_le (by rw [hl, List.length_nil, Nat.add_zero]; exact Nat.le_refl _)]
    exact .nil
  | x :: xs, i0, hw, hl, hd, φ, h, hR, hz, hro => by
    have h0 := hd 0 (by simp)
    simp only [Nat.add_zero, List.getElem?_cons_zero] at h0
    obtain ⟨φ1, h1, l, r1, r2, r3, r4, r5, r6, r7, r8⟩ := ih _ x h0 (hw x (by simp)) φ h hR hz hro
    obtain ⟨φ2, h2, L, s1, s2, s3, s4, s5, s6, s7⟩ := open_partsT (es := es) (cs := cs) ih xs (i0 + 1) (fun y hy => hw y (by simp [hy])) (by rw [hl]; simp; congr 1; omega) (fun i hi => by
      have := hd (i + 1) (by simp; omega)
      rw [List.getElem?_cons_succ] at this
      rw [← this, show i0 + 1 + i = i0 + (i + 1) by omega]) φ1 h1 r1 r2 r3
    have hcl : (i0 + 1) * es ≤ cs.length := by
      rw [hl]
      exact Nat.mul_le_mul_right _ (by rw [List.length_cons]; omega)
    have hll : l.length = es := by
      rw [r8, List.length_take, List.length_drop]
      rw [Nat.add_mul, Nat.one_mul] at hcl
      omega
    refine ⟨φ2, h2, l ++ L, s1, s2, s3, r4.trans s4, r5.trans s5, ?_, fun i hi => ?_⟩
    · have e1 : cs.drop (i0 * es) = (cs.drop (i0 * es)).take es ++ cs.drop ((i0 + 1) * es) := by
        rw [show (i0 + 1) * es = i0 * es + es by rw [Nat.add_mul, Nat.one_mul], ← List.drop_drop, List.take_append_drop]
      rw [e1]
      exact (r6.mono s4).append s6
    · cases i with
      | zero =>
        rw [Nat.zero_mul, List.drop_zero, List.take_append_of_le_length (by omega), List.take_of_length_le (by omega)]
        exact r7.more s5
      | succ i =>
        rw [List.drop_append, List.drop_eq_nil_of_le (by rw [hll, Nat.add_mul]; omega), List.nil_append, hll, show (i + 1) * es - es = i * es by rw [Nat.add_mul]; omega]
        exact s7 i (by simpa using hi)

/-- Whatever is read as a tree is opened. -/
theorem open_treeT : ∀ (d n : Nat) (t : TypeId) (cs : List Value) (x : DataW H × List MemPlace), treeB P d t = true → DataW.trod enc P w base (fun _ => true) held n t cs = some x → (∀ n ∈ x.1.weights P t, n ≤ reachBytes) → ∀ φ h, HR P φ h w → h.lim = 0 → AllRo h →
    Opens (H := H) P w φ h cs fun h' l => Tree P h' d t l ∧ l.length = cs.length
  | 0, _, _, _, _, hk, _, _, _, _, _, _, _ => by cases hk
  | d + 1, n, t, cs, x, hk, ht, hwt, φ, h, hR, hz, hro => by
    unfold treeB at hk
    unfold Tree
    split at hk
    · rename_i hd
      obtain ⟨b, rfl, rfl⟩ := DataW.trod_bool hd ht
      exact ⟨φ, h, [.bool b], hR, hz, hro, Le.refl φ, .refl _ _, .cons (.bool b) .nil, ⟨b, rfl⟩, rfl⟩
    · rename_i k hd
      obtain ⟨b, rfl, rfl, hwf⟩ := DataW.trod_int hd ht
      exact ⟨φ, h, [.int k b], hR, hz, hro, Le.refl φ, .refl _ _, .cons (.int k b) .nil, ⟨b, rfl, hwf⟩, rfl⟩
    · rename_i hd
      obtain ⟨b, rfl, rfl, _⟩ := DataW.trod_string hd ht
      exact ⟨φ, h, [strOf b.data.toList], hR, hz, hro, Le.refl φ, .refl _ _, .cons (strOf_rel φ b) .nil, ⟨b.data.toList, rfl, hwt _ (by simp [DataW.weights])⟩, rfl⟩
    · rename_i e hd
      rw [Bool.and_eq_true, decide_eq_true_eq] at hk
      rcases DataW.trod_slice hd ht with ⟨rfl, rfl⟩ | ⟨a, len, cap, elems, rest, m, rfl, rfl, rfl, hb, hlc, hcm, hel, he, hr, _⟩
      · exact ⟨φ, h, [.nilSl], hR, hz, hro, Le.refl φ, .refl _ _, .cons .nilSl .nil, .inl rfl, rfl⟩
      · obtain ⟨hrl, hr⟩ := hr rfl
        have ih := fun cs x q => open_treeT d m e cs x hk.1 q
        have hwt : ∀ n ∈ ((elems.map (·.1)).length + (rest.map (·.1)).length) * P.bytesOf e :: (DataW.weightsAll P e (elems.map (·.1)) ++ DataW.weightsAll P e (rest.map (·.1))), n ≤ reachBytes := by
          intro n hn
          refine hwt n ?_
          unfold DataW.weights
          rw [hd]
          exact hn
        have hwc : cap * P.bytesOf e ≤ reachBytes := by
          have := hwt _ (List.mem_cons_self)
          rw [List.length_map, List.length_map, hel, hrl, show len + (cap - len) = cap by omega] at this
          exact this
        have hw1 : ∀ x ∈ elems, ∀ n ∈ x.1.weights P e, n ≤ reachBytes := fun x hx => weights_all (fun n hn => hwt n (List.mem_cons_of_mem _ (List.mem_append_left _ hn))) x.1 (List.mem_map_of_mem hx)
        have hw2 : ∀ x ∈ rest, ∀ n ∈ x.1.weights P e, n ≤ reachBytes := fun x hx => weights_all (fun n hn => hwt n (List.mem_cons_of_mem _ (List.mem_append_right _ hn))) x.1 (List.mem_map_of_mem hx)
        by_cases hc : cap = 0
        · subst hc
          have hl0 : len = 0 := by omega
          subst hl0
          have e1 : elems = [] := List.length_eq_zero_iff.1 hel
          have e2 : rest = [] := List.length_eq_zero_iff.1 (by omega)
          subst e1 e2
          exact ⟨φ, h, [.sl Pos.first 0 0 0 0 true (P.cellsOf e)], hR, hz, hro, Le.refl φ, .refl _ _, .cons .sl0 .nil, .inr (.inl ⟨_, _, _, rfl⟩), rfl⟩
        · obtain ⟨φ1, h1, L1, ys1, r1, r2, r3, r4, r5, r6, r7, r8, r9⟩ := open_elemsT (a := a) (es := P.cellsOf e) ih elems 0 hw1 (fun i hi => by rw [Nat.zero_add]; exact he i (by omega)) φ h hR hz hro
          obtain ⟨φ2, h2, L2, ys2, s1, s2, s3, s4, s5, s6, s7, s8, s9⟩ := open_elemsT (a := a) (es := P.cellsOf e) ih rest len hw2 (fun i hi => hr i (by omega)) φ1 h1 r1 r2 r3
          have hlen : (ys1 ++ ys2).length = cap * P.cellsOf e := by
            rw [List.length_append, r8, s8, hel, hrl, ← Nat.add_mul, show len + (cap - len) = cap by omega]
          have hcell : ∀ j, j < (ys1 ++ ys2).length → w.cell? (a.add j) = (ys1 ++ ys2)[j]? := fun j hj => by
            by_cases hjl : j < ys1.length
            · rw [List.getElem?_append_left hjl, ← r9 j hjl, Nat.zero_mul, Nat.zero_add]
            · have hj' : j - ys1.length < ys2.length := by simp at hj; omega
              rw [List.getElem?_append_right (by omega), ← s9 _ hj', show len * P.cellsOf e + (j - ys1.length) = j by rw [r8, hel] at hjl ⊢; omega]
          have hpos : 0 < (ys1 ++ ys2).length := by rw [hlen]; exact Nat.mul_pos (by omega) hk.2
          have hc0 := hcell 0 hpos
          have hsome : (ys1 ++ ys2)[0]? ≠ none := by
            rw [List.getElem?_eq_getElem hpos]; simp
          obtain ⟨b, off, spot⟩ := a
          have hadd0 : (⟨b, off, spot⟩ : Addr).add 0 = ⟨b, off, spot⟩ := rfl
          rw [hadd0] at hc0
          obtain ⟨C, el, fr, hheap, hsp⟩ : ∃ C el fr, w.heap[b]? = some (.cells C el fr) ∧ spot = none := by
            unfold World.cell? at hc0
            cases hq : w.heap[b]? with
            | none => simp only [hq] at hc0; exact absurd hc0.symm hsome
            | some o =>
              simp only [hq] at hc0
              cases o with
              | cells C el fr =>
                refine ⟨C, el, fr, rfl, ?_⟩
                cases spot with
                | none => rfl
                | some s => exact absurd hc0.symm hsome
              | _ => exact absurd hc0.symm hsome
          subst hsp
          have hC : ∀ j, j < (ys1 ++ ys2).length → C[off + j]? = (ys1 ++ ys2)[j]? := fun j hj => by
            rw [← hcell j hj]
            have : (⟨b, off, none⟩ : Addr).add j = ⟨b, off + j, none⟩ := by
              unfold Addr.add
              split
              · rename_i h0; subst h0; rfl
              · rfl
            rw [this]
            unfold World.cell?
            simp [hheap]
          have hRL := (r6.mono s4).append s6
          have hR3 := addRow_relφ s1 s2 s3 hheap hRL.length hC hRL
          have hle3 := Phi.le_put (s1.next_none (.inl s2) 0) (r := (b, (off : Int), C.size))
          have hsz : off + cap * P.cellsOf e ≤ C.size := by
            have := hC ((ys1 ++ ys2).length - 1) (by omega)
            rcases Nat.lt_or_ge (off + ((ys1 ++ ys2).length - 1)) C.size with q | q
            · omega
            · rw [Array.getElem?_eq_none q, List.getElem?_eq_getElem (by omega)] at this; cases this
          have hL1 : L1.length = len * P.cellsOf e := by rw [r6.length, r8, hel]
          refine ⟨_, addRow h2 (L1 ++ L2), [.sl h2.next 0 0 len cap true (P.cellsOf e)], hR3, s2, addRow_ro s3, (r4.trans s4).trans hle3, (r5.trans s5).trans addRow_only, .cons ?_ .nil, .inr (.inr ⟨h2.next, len, cap, L1 ++ L2, rfl, hlc, hwc, addRow_fix, by rw [hRL.length, hlen], fun i hi => ?_⟩), rfl⟩
          · exact .sl (Phi.put_same _ _ _ _) rfl rfl hlc (Nat.le_refl _) hlc (fun _ => rfl) fun _ => ⟨by simp, hsz⟩
          · by_cases hil : i < len
            · have q := (r7 i (by omega)).more (s5.trans (addRow_only (l := L1 ++ L2)))
              have hm : i * P.cellsOf e + P.cellsOf e ≤ len * P.cellsOf e := by
                rw [← Nat.succ_mul]; exact Nat.mul_le_mul_right _ hil
              rw [List.drop_append_of_le_length (by rw [hL1]; omega), List.take_append_of_le_length (by rw [List.length_drop, hL1]; omega)]
              exact q
            · have q := (s7 (i - len) (by omega)).more (addRow_only (l := L1 ++ L2))
              have hm : len * P.cellsOf e ≤ i * P.cellsOf e := Nat.mul_le_mul_right _ (by omega)
              rw [List.drop_append, List.drop_eq_nil_of_le (by rw [hL1]; exact hm), List.nil_append, hL1, ← Nat.sub_mul]
              exact q
    · rename_i k e hd
      rw [Bool.and_eq_true, decide_eq_true_eq] at hk
      obtain ⟨xs, m, rfl, rfl, hl, hxs, hf⟩ := DataW.trod_array hd ht
      have hwt : ∀ x ∈ xs, ∀ n ∈ x.1.weights P e, n ≤ reachBytes := fun x hx => weights_all (ds := xs.map (·.1)) (fun n hn => hwt n (by
        show n ∈ DataW.weights P t (.agg (xs.map (·.1)))
        unfold DataW.weights
        rw [hd]
        exact hn)) x.1 (List.mem_map_of_mem hx)
      obtain ⟨φ1, h1, L, r1, r2, r3, r4, r5, r6, r7⟩ := open_partsT (es := P.cellsOf e) (cs := cs) (fun cs x q => open_treeT d m e cs x hk.1 q) xs 0 hwt (by rw [hl, hk.2, hxs, Nat.zero_add]) (fun i hi => by rw [Nat.zero_add]; exact hf i (by omega)) φ h hR hz hro
      rw [Nat.zero_mul, List.drop_zero] at r6
      exact ⟨φ1, h1, L, r1, r2, r3, r4, r5, r6, ⟨by rw [r6.length, hl, hk.2], fun i hi => r7 i (by omega)⟩, r6.length⟩
    · rename_i fs hd
      rw [Bool.and_eq_true] at hk
      obtain ⟨xs, m, rfl, rfl, hl, hxs, hf⟩ := DataW.trod_struct hd ht
      have htile : tilesB P fs.toList 0 = some (P.cellsOf t) := by simpa using hk.2
      have hwt : ∀ (i : Nat) f x, fs.toList[i]? = some f → xs[i]? = some x → ∀ n ∈ x.1.weights P f.type, n ≤ reachBytes := fun i f x h1 h2 => weights_each (ts := fs.toList.map (·.type)) (ds := xs.map (·.1)) (fun n hn => hwt n (by
        show n ∈ DataW.weights P t (.agg (xs.map (·.1)))
        unfold DataW.weights
        rw [hd]
        exact hn)) i f.type x.1 (by rw [List.getElem?_map, h1]; rfl) (by rw [List.getElem?_map, h2]; rfl)
      obtain ⟨φ1, h1, L, r1, r2, r3, r4, r5, r6, r7⟩ := open_fieldsT (cs := cs) fs.toList 0 xs hwt (fun f hf cs x q => open_treeT d m f.type cs x (List.all_eq_true.1 hk.1 f hf) q) (by rw [htile, hl]) (by simpa using hxs) (fun i f hq => hf i f (by simpa using hq)) φ h hR hz hro
      rw [List.drop_zero] at r6
      exact ⟨φ1, h1, L, r1, r2, r3, r4, r5, r6, ⟨by rw [r6.length, hl], fun f hf => (r7 f hf).2⟩, r6.length⟩
    · cases hk
end

/-! ### Records -/

/-- One record of a block that is read. -/
theorem Fix.record {h : Hp} {id : Pos} {L : List AV} (b : Fix h id L) {i es : Nat} (hi : (i + 1) * es ≤ L.length) : ∃ c, readN h id 0 (i * es) es = some c ∧ c.toL = (L.drop (i * es)).take es := by
  rw [Nat.add_mul, Nat.one_mul] at hi
  obtain ⟨c, c1, _, c3⟩ := (b.part (off := i * es) (n := es) hi).all
  rw [List.length_take, List.length_drop, Nat.min_eq_left (by omega)] at c1
  exact ⟨c, c1, c3⟩

theorem qev_loadN (P : Program) {env : T AV} {h : Hp} {n : Nat} {a : Opd} {id : Pos} {g off : Nat} {c : Cells} (ha : ev env a = .ptr id g off) (hc : readN h id g off n = some c) : evalOp P (.loadN n a) env h = .val (.agg c.toL) h := by
  have e : evalOp P (.loadN n a) env h = (match ev env a with
    | .ptr id g off => match readN h id g off n with
      | some c => .val (.agg c.toL) h
      | none => .fail "loadN"
    | _ => .fail "loadN what") := rfl
  rw [e, ha]
  simp only [hc]

theorem qev_newL (P : Program) (env : T AV) (h : Hp) (l : List AV) : evalOp P (.new l) env h = .val (.ptr h.next 0 0) (newH h fun s => .cells s (Cells.ofL l) 0 0 0 0 false false) := by
  show newCells h (Cells.ofL l) _ = _
  unfold newCells
  rw [newK_newH]

/-- A whole record is stored. -/
theorem storeN_arr (P : Program) {h : Hp} {id : Pos} {l xs : List AV} (b : Arr h id l) (hl : xs.length = l.length) (h0 : 0 < l.length) (hat : ∀ x ∈ xs, x.atom = true) :
    ∃ h', (∀ env a x, ev env a = .ptr id 0 0 → ev env x = .agg xs → evalOp P (.store l.length a x) env h = .val .undef h') ∧ Arr h' id xs ∧ Only [id] h h' ∧ h'.next = h.next := by
  obtain ⟨ser, c, fz, e, hw, hc⟩ := b.mem
  have hcs : c.size = l.length := by rw [← Cells.toL_length hw, hc]
  obtain ⟨p1, p2, p3⟩ := Cells.ofL_spec xs
  have hsz : 0 + (Cells.ofL xs).size ≤ c.size := by rw [p3, hcs, hl]; omega
  obtain ⟨q1, q2, q3⟩ := Cells.splice_spec hw p1 hsz
  have ats : (Cells.ofL xs).atoms = true := by
    have hall : xs.all AV.atom = true := List.all_eq_true.2 hat
    unfold Cells.ofL
    split
    · split
      · rfl
      · exact hall
    · exact hall
  refine ⟨⟨T.set id (some (.cells ser (c.splice 0 (Cells.ofL xs)) 0 0 0 0 false fz)) h.heap, h.next, h.ser, h.lim⟩, fun env a x ha hx => ?_, ⟨b.old, ser, c.splice 0 (Cells.ofL xs), fz, ?_, q1, ?_⟩, ⟨Nat.le_refl _, rfl, fun j _ q => ?_⟩, rfl⟩
  · have e1 : evalOp P (.store l.length a x) env h = (match ev env a with
      | .ptr id g off => bif Nat.beq (ev env x).cells.length l.length then writeN h id g off (Cells.ofL (ev env x).cells) fun h => .val .undef h else .fail "store size"
      | _ => .fail "store what") := rfl
    rw [e1, ha, hx]
    show (bif Nat.beq xs.length l.length then writeN h id 0 0 (Cells.ofL xs) fun h => Res.val .undef h else .fail "store size") = _
    rw [beq_iff.2 hl, cond_true]
    unfold writeN
    have hne : Nat.beq (Cells.ofL xs).size 0 = false := beq_false.2 (by rw [p3, hl]; omega)
    have hfit : Nat.ble (Nat.add 0 (Cells.ofL xs).size) c.size = true := ble_iff.2 hsz
    simp only [hne, cond_false, e, hfit, ats, show Nat.beq 0 0 = true from rfl, show Nat.ble 0 0 = true from rfl, show Nat.blt 0 0 = false from rfl, Bool.not_false, Bool.and_self, cond_true, cond_false, T.setK_eq]
  · show T.get id (T.set id _ h.heap) = _
    rw [T.get_set, if_pos rfl]
  · rw [q2, p2, p3, hc, Nat.zero_add, List.drop_eq_nil_of_le (by omega), List.append_nil]; rfl
  · show T.get j (T.set id _ h.heap) = _
    rw [T.get_set, if_neg (by simpa using q)]
end Go.Proofs.Ytmifpiglcphmoaa.Am

namespace Go.Proofs.Ytmifpiglcphmoaa.Am
open Go.RowKit

section
variable {P : Program} {h : Hp} {d : Nat} {t e : TypeId} {l : List AV}

theorem Tree.of_bool (hd : P.underlying t = some .bool) (a : Tree P h (d + 1) t l) : ∃ b, l = [.bool b] := by
  unfold Tree at a; rw [hd] at a; exact a

theorem Tree.of_int {k : IntKind} (hd : P.underlying t = some (.int k)) (a : Tree P h (d + 1) t l) : ∃ n, l = [.int k n] ∧ (Lit.int k n).wf = true := by
  unfold Tree at a; rw [hd] at a; exact a

theorem Tree.of_string (hd : P.underlying t = some .string) (a : Tree P h (d + 1) t l) : ∃ b, l = [strOf b] ∧ b.length ≤ reachBytes := by
  unfold Tree at a; rw [hd] at a; exact a

theorem Tree.of_slice (hd : P.underlying t = some (.slice e)) (a : Tree P h (d + 1) t l) : l = [.nilSl] ∨ (∃ id g off, l = [.sl id g off 0 0 true (P.cellsOf e)]) ∨
    ∃ id n cap L, l = [.sl id 0 0 n cap true (P.cellsOf e)] ∧ n ≤ cap ∧ cap * P.bytesOf e ≤ reachBytes ∧ Fix h id L ∧ L.length = cap * P.cellsOf e ∧ ∀ i, i < cap → Tree P h d e ((L.drop (i * P.cellsOf e)).take (P.cellsOf e)) := by
  unfold Tree at a; rw [hd] at a; exact a

theorem Tree.of_array {n : Nat} (hd : P.underlying t = some (.array n e)) (a : Tree P h (d + 1) t l) : l.length = n * P.cellsOf e ∧ ∀ i, i < n → Tree P h d e ((l.drop (i * P.cellsOf e)).take (P.cellsOf e)) := by
  unfold Tree at a; rw [hd] at a; exact a

theorem Tree.of_struct {fs : Array Field} (hd : P.underlying t = some (.struct fs)) (a : Tree P h (d + 1) t l) : l.length = P.cellsOf t ∧ ∀ f, f ∈ fs.toList → Tree P h d f.type ((l.drop f.offset).take (P.cellsOf f.type)) := by
  unfold Tree at a; rw [hd] at a; exact a
end




theorem okSize_reach {n b : Nat} (hb : 1 ≤ b ∧ b ≤ 4096) (hn : n * b ≤ reachBytes) : okSize n b = true := by
  have hr : reachBytes ≤ 140737488355328 := by decide
  have h1 : n ≤ n * b := Nat.le_mul_of_pos_right n (by omega)
  unfold okSize
  rw [ble_iff.2 (show n ≤ 140737488355328 by omega), ble_iff.2 (show Nat.mul n b ≤ 140737488355328 from Nat.le_trans hn hr), ble_iff.2 hb.2]
  rfl

/-- A slice of things that take one cell. -/
theorem Tree.ones {P : Program} {h : Hp} {d : Nat} {t e : TypeId} {v : AV} (hd : P.underlying t = some (.slice e)) (hc : P.cellsOf e = 1) (hb : 1 ≤ P.bytesOf e ∧ P.bytesOf e ≤ 4096) (a : Tree P h (d + 1) t [v]) {α : Type} (f : α → AV) (hf : ∀ x, Tree P h d e [x] → ∃ y, x = f y) :
    ∃ ys : List α, SlR h v (ys.map f) ∧ ((∃ id g off, v = .sl id g off 0 0 true 1 ∧ ys = []) ∨ ∀ id g off n cap ex, v = .sl id g off n cap ex 1 → id.num < h.next.num) ∧ okSize ys.length (P.bytesOf e) = true := by
  rcases a.of_slice hd with q | ⟨id, g, off, q⟩ | ⟨id, n, cap, L, q, hn, hw, fx, hL, hx⟩
  · cases q
    exact ⟨[], .nil, .inr (fun _ _ _ _ _ _ c => by cases c), okSize_reach hb (by simp)⟩
  · rw [hc] at q
    cases q
    exact ⟨[], .emp, .inl ⟨id, g, off, rfl, rfl⟩, okSize_reach hb (by simp)⟩
  · rw [hc] at q hL hx
    cases q
    have all : ∀ (m : Nat) (M : List AV), M.length = m → (∀ i, i < m → Tree P h d e ((M.drop (i * 1)).take 1)) → ∃ ys : List α, M = ys.map f := by
      intro m
      induction m with
      | zero => intro M hM _; exact ⟨[], by simpa using List.length_eq_zero_iff.1 hM⟩
      | succ m ih =>
        intro M hM hx
        match M, hM with
        | x :: M, hM =>
          obtain ⟨ys, e1⟩ := ih M (by simpa using hM) (fun i hi => by
            have := hx (i + 1) (by omega)
            rw [Nat.mul_one] at this ⊢
            simpa using this)
          obtain ⟨y, e2⟩ := hf x (by have := hx 0 (by omega); simpa using this)
          exact ⟨y :: ys, by rw [e1, e2]; rfl⟩
    obtain ⟨ys, e1⟩ := all cap L (by simpa using hL) hx
    have hys : ys.length = cap := by rw [← Nat.mul_one cap, ← hL, e1, List.length_map]
    have rw1 := fx.part (off := 0) (n := n) (by omega)
    refine ⟨ys.take n, .mk (by simp; omega) ?_, .inr (fun id' g off n' cap' ex c => by cases c; exact fx.old), okSize_reach hb ?_⟩
    · have : ((L.drop 0).take n) = (ys.take n).map f := by rw [List.drop_zero, e1, List.map_take]
      rw [this] at rw1
      exact rw1
    · exact Nat.le_trans (Nat.mul_le_mul_right _ (by rw [List.length_take]; omega)) hw
end Go.Proofs.Ytmifpiglcphmoaa.Am

namespace Go.Proofs.Ytmifpiglcphmoaa.Am
open Go.RowKit

/-- How many things a slice holds. -/
def lenOf : AV → Nat
  | .sl _ _ _ n _ _ _ => n
  | _ => 0

/-- The length of a value, as an operation says it. -/
theorem Tree.lenI {P : Program} {h : Hp} {d : Nat} {t e : TypeId} {v : AV} (hd : P.underlying t = some (.slice e)) (a : Tree P h (d + 1) t [v]) (h' : Hp) : ∀ env x, ev env x = v → evalOp P (.lenL x) env h' = .val (int64 (lenOf v : Nat)) h' := by
  intro env x hx
  rw [qev_lenI, hx]
  rcases a.of_slice hd with q | ⟨id, g, off, q⟩ | ⟨id, n, cap, L, q, _⟩ <;> cases q <;> rfl

/-- A record of a slice. -/
theorem Tree.record {P : Program} {h : Hp} {d : Nat} {t e : TypeId} {v : AV} (hd : P.underlying t = some (.slice e)) (a : Tree P h (d + 1) t [v]) {i : Nat} (hi : i < lenOf v) :
    ∃ id cap l, v = .sl id 0 0 (lenOf v) cap true (P.cellsOf e) ∧ Tree P h d e l ∧ ∀ h', Only [] h h' → ∃ c, readN h' id 0 (i * P.cellsOf e) (P.cellsOf e) = some c ∧ c.toL = l := by
  rcases a.of_slice hd with q | ⟨id, g, off, q⟩ | ⟨id, n, cap, L, q, hn, hw, fx, hL, hx⟩
  · cases q; cases hi
  · cases q; cases hi
  · cases q
    have hi : i < n := hi
    exact ⟨id, cap, _, rfl, hx i (by omega), fun h' m => (fx.only m (by simp)).record (by rw [hL]; exact Nat.mul_le_mul_right _ (by omega))⟩
end Go.Proofs.Ytmifpiglcphmoaa.Am
