import Derived.Test.YtjhgembcdndmkaaGreatDoorAmI
/- THE ABSTRACT MACHINE, part J: a machine over values without block numbers, and the proof that the model's machine does what it does. No condition. -/
set_option linter.unusedSimpArgs false
set_option linter.unusedVariables false
namespace Go.Proofs.YtjhgembcdndmkaaGreatDoor.Am
open Go.RowKit
inductive SlN (h : Hp) (es : Nat) : AV → Nat → List AV → Prop where
  | nil : SlN h es .nilSl 0 []
  | emp {id : Pos} {g off : Nat} : SlN h es (.sl id g off 0 0 true es) 0 []
  | mk {id : Pos} {g off n cap : Nat} {ex : Bool} {l : List AV} (hn : l.length = n * es) (r : Row h id g off l) : SlN h es (.sl id g off n cap ex es) n l
def InN (es : Nat) (v : AV) (id : Pos) : Prop := ∃ g off n cap ex, v = .sl id g off n cap ex es
theorem SlN.only {S : List Pos} {h h' : Hp} {es n : Nat} {v : AV} {l : List AV} (r : SlN h es v n l) (m : Only S h h') (hs : ∀ id, InN es v id → id ∉ S) : SlN h' es v n l := by
  cases r with
  | nil => exact .nil
  | emp => exact .emp
  | mk hn r => exact .mk hn (r.only m (hs _ ⟨_, _, _, _, _, rfl⟩))
theorem SlN.more {h h' : Hp} {es n : Nat} {v : AV} {l : List AV} (r : SlN h es v n l) (m : Only [] h h') : SlN h' es v n l := r.only m (by simp)
theorem SlN.atom {h : Hp} {es n : Nat} {v : AV} {l : List AV} (r : SlN h es v n l) : v.atom = true ∧ v.cells = [v] := by cases r <;> exact ⟨rfl, rfl⟩
theorem SlN.lenI {P : Program} {h : Hp} {es n : Nat} {v : AV} {l : List AV} (r : SlN h es v n l) (h' : Hp) : ∀ env x, ev env x = v → evalOp P (.lenL x) env h' = .val (int64 (n : Nat)) h' := by
  intro env x hx
  rw [qev_lenI, hx]
  cases r <;> rfl
theorem SlN.length {h : Hp} {es n : Nat} {v : AV} {l : List AV} (r : SlN h es v n l) : l.length = n * es := by
  cases r with
  | nil => simp
  | emp => simp
  | mk hn r => exact hn
def Held (N : Nat) (h : Hp) (es : Nat) (v : AV) (n : Nat) (l : List AV) : Prop :=
  (n = 0 ∧ l = [] ∧ (v = .nilSl ∨ ∃ id g off, v = .sl id g off 0 0 true es ∧ N ≤ id.num ∧ id.num < h.next.num)) ∨ ∃ id g, N ≤ id.num ∧ v = .sl id g 0 n n false es ∧ Gro h id g l ∧ l.length = n * es
section
variable {N : Nat} {h : Hp} {es n : Nat} {v : AV} {l : List AV}
theorem Held.sl (o : Held N h es v n l) : SlN h es v n l := by
  rcases o with ⟨q1, q2, q | ⟨id, g, off, q, _⟩⟩ | ⟨id, g, _, q2, q3, q4⟩
  · subst q1 q2 q; exact .nil
  · subst q1 q2 q; exact .emp
  · subst q2; exact .mk q4 q3.row
theorem Held.only {h' : Hp} {S : List Pos} (o : Held N h es v n l) (m : Only S h h') (hS : ∀ id, InN es v id → id ∉ S) : Held N h' es v n l := by
  rcases o with ⟨q1, q2, q | ⟨id, g, off, q, q3, q4⟩⟩ | ⟨id, g, q0, q2, q3, q4⟩
  · exact .inl ⟨q1, q2, .inl q⟩
  · exact .inl ⟨q1, q2, .inr ⟨id, g, off, q, q3, Nat.lt_of_lt_of_le q4 m.next⟩⟩
  · exact .inr ⟨id, g, q0, q2, q3.only m (hS id ⟨_, _, _, _, _, q2⟩), q4⟩
theorem Held.more {h' : Hp} (o : Held N h es v n l) (m : Only [] h h') : Held N h' es v n l := o.only m (by simp)
theorem Held.old (o : Held N h es v n l) {id : Pos} (q : InN es v id) : N ≤ id.num ∧ id.num < h.next.num := by
  obtain ⟨g, off, k, cap, ex, e⟩ := q
  rcases o with ⟨_, _, q | ⟨id', g', off', q, q3, q4⟩⟩ | ⟨id', g', q0, q, q3, _⟩
  · rw [q] at e; cases e
  · rw [q] at e; cases e; exact ⟨q3, q4⟩
  · rw [q] at e; cases e; exact ⟨q0, q3.old⟩
theorem Held.nil : Held N h es .nilSl 0 [] := .inl ⟨rfl, rfl, .inl rfl⟩
theorem Held.weak {N' : Nat} (o : Held N h es v n l) (hN : N' ≤ N) : Held N' h es v n l := by
  rcases o with ⟨q1, q2, q | ⟨id, g, off, q, q3, q4⟩⟩ | ⟨id, g, q0, q2, q3, q4⟩
  · exact .inl ⟨q1, q2, .inl q⟩
  · exact .inl ⟨q1, q2, .inr ⟨id, g, off, q, by omega, q4⟩⟩
  · exact .inr ⟨id, g, by omega, q2, q3, q4⟩
end
theorem appendN_new (P : Program) {h : Hp} {v : AV} {es n : Nat} {l : List AV} {bytes : Nat} (hv : SlN h es v n l) (h0 : n ≠ 0) (hes : 0 < es) (ok : okSize n bytes = true) :
    ∃ h', (∀ env s x, (ev env s = .nilSl ∨ ∃ id g off, ev env s = .sl id g off 0 0 true es) → ev env x = v → evalOp P (.append es bytes s x) env h = .val (.sl h.next 0 0 n n false es) h') ∧ Arr h' h.next l ∧ Only [] h h' ∧ h'.next.num = h.next.num + 1 := by
  cases hv with
  | nil => exact absurd rfl h0
  | emp => exact absurd rfl h0
  | mk hn r =>
    rename_i id g off cap ex
    obtain ⟨c, c1, c2, c3⟩ := r.all
    rw [hn] at c1
    have src : srcCells h es n (.sl id g off n cap ex es) = some c := c1
    refine ⟨newH h fun _ => .cells (noteB bytes) c 0 0 0 0 false false, fun env s x hs hx => ?_, ⟨by rw [newH_next]; omega, _, _, _, newH_get _ _, c2, c3⟩, newH_only _ _ _, newH_next _ _⟩
    show appendA h es bytes (ev env s) (ev env x) = _
    rw [hx]
    unfold appendA
    simp only [lenA, beq_false.2 h0, cond_false, src]
    rcases hs with hs | ⟨id', g', off', hs⟩
    · rw [hs]
      unfold appendSeg
      simp only [ok, blt_iff.2 hes, Bool.and_true, cond_true]
      unfold newCellsN
      rw [newK_newH]
    · rw [hs]
      unfold appendSeg
      simp only [natK_eq, show Nat.add 0 n = n from Nat.zero_add _, ok, beq_iff.2 (rfl : es = es), blt_iff.2 hes, Bool.and_true, Bool.and_self, Bool.not_true, cond_false, cond_true,
        ble_false.2 (show 0 < n by omega), show Nat.mul 0 es = 0 from Nat.zero_mul _, show readN h id' g' off' 0 = some (.lst 0 []) from rfl]
      unfold newCellsN
      rw [newK_newH]
      have ea : (Cells.lst 0 []).app c = c := by unfold Cells.app; rfl
      rw [ea]
theorem appendN_gro (P : Program) {h : Hp} {v : AV} {id : Pos} {g es n n2 : Nat} {l l2 : List AV} {bytes : Nat} (ha : Gro h id g l) (hn : l.length = n * es) (hv : SlN h es v n2 l2) (h0 : n2 ≠ 0) (hes : 0 < es)
    (ok : okSize (n + n2) bytes = true) (hat : ∀ y ∈ l2, y.atom = true) :
    ∃ h', (∀ env s x, ev env s = .sl id g 0 n n false es → ev env x = v → evalOp P (.append es bytes s x) env h = .val (.sl id (g + 1) 0 (n + n2) (n + n2) false es) h') ∧ Gro h' id (g + 1) (l ++ l2) ∧ Only [id] h h' ∧ h'.next = h.next := by
  cases hv with
  | nil => exact absurd rfl h0
  | emp => exact absurd rfl h0
  | mk hn2 r =>
    rename_i id2 g2 off2 cap2 ex2
    obtain ⟨seg, c1, c2, c3⟩ := r.all
    rw [hn2] at c1
    have src : srcCells h es n2 (.sl id2 g2 off2 n2 cap2 ex2 es) = some seg := c1
    have ok : okSize (Nat.add n n2) bytes = true := ok
    obtain ⟨ser, c, hi, m, fz, eb, hw, hcl⟩ := ha.mem
    have hcs : c.size = n * es := by rw [← Cells.toL_length hw, hcl, hn]
    have ats : seg.atoms = true := by
      cases seg with
      | byt n v => rfl
      | lst n L =>
        have : L = l2 := c3
        subst this
        show List.all _ _ = true
        rw [List.all_eq_true]
        exact hat
    obtain ⟨q1, q2, q3⟩ := Cells.sub_spec hw (off := 0) (n := n * es) (by omega)
    obtain ⟨p1, p2, p3⟩ := Cells.app_spec q1 c2
    have hn1 : Nat.ble (Nat.add n n2) n = false := ble_false.2 (show n < n + n2 by omega)
    have ht : Nat.add 0 (Nat.mul n es) = n * es := by show 0 + n * es = _; omega
    refine ⟨⟨T.set id (some (.cells (noteG bytes ser) ((c.sub 0 (n * es)).app seg) 0 (bif Nat.blt m g then (bif Nat.ble hi (n * es) then hi else n * es) else n * es) (Nat.succ g) m false fz)) h.heap, h.next, h.ser, h.lim⟩, fun env s x hs hx => ?_, ⟨ha.old, noteG bytes ser, (c.sub 0 (n * es)).app seg, (bif Nat.blt m g then (bif Nat.ble hi (n * es) then hi else n * es) else n * es), m, fz, ?_, p1, ?_⟩, ⟨Nat.le_refl _, rfl, fun j _ q => ?_⟩, rfl⟩
    · show appendA h es bytes (ev env s) (ev env x) = _
      rw [hs, hx]
      unfold appendA
      simp only [lenA, beq_false.2 h0, cond_false, src]
      unfold appendSeg
      simp only [natK_eq, ok, beq_iff.2 (rfl : es = es), blt_iff.2 hes, Bool.and_true, Bool.and_self, Bool.not_true, cond_false, hn1, eb, ht, beq_iff.2 (rfl : g = g), ble_iff.2 (show n * es ≤ c.size by omega), ats, T.setK_eq,
        show Nat.ble 0 0 = true from rfl, Bool.not_false, cond_true]
      rfl
    · show T.get id (T.set id _ h.heap) = _
      rw [T.get_set, if_pos rfl]
    · rw [p2, q2, c3, List.drop_zero, hcl, ← hn, List.take_length]
    · show T.get j (T.set id _ h.heap) = _
      rw [T.get_set, if_neg (by simpa using q)]
theorem appendN_none (P : Program) {h : Hp} {v w : AV} {es m : Nat} {l l2 : List AV} {bytes : Nat} (hw : SlN h es w m l) (hv : SlN h es v 0 l2) :
    ∀ env s x, ev env s = w → ev env x = v → evalOp P (.append es bytes s x) env h = .val w h := by
  intro env s x hs hx
  show appendA h es bytes (ev env s) (ev env x) = _
  rw [hs, hx]
  have hl0 : lenA v = some 0 := by cases hv <;> rfl
  unfold appendA
  rw [hl0]
  cases hw <;> rfl
theorem Held.push {N : Nat} {h : Hp} {es n n2 : Nat} {v : AV} {l l2 : List AV} (o : Held N h es v n l) (P : Program) {v2 : AV} {bytes : Nat} (hv : SlN h es v2 n2 l2) (hy : ∀ y ∈ l2, y.atom = true) (hes : 0 < es) (ok : okSize (n + n2) bytes = true) (hN : N ≤ h.next.num) :
    ∃ v' h' S, (∀ env s x, ev env s = v → ev env x = v2 → evalOp P (.append es bytes s x) env h = .val v' h') ∧ Held N h' es v' (n + n2) (l ++ l2) ∧ Only S h h' ∧ (∀ id ∈ S, InN es v id) ∧ ∀ id, InN es v' id → InN es v id ∨ h.next.num ≤ id.num := by
  by_cases h0 : n2 = 0
  · subst h0
    have hl2 : l2 = [] := by have := hv.length; rw [Nat.zero_mul] at this; exact List.length_eq_zero_iff.1 this
    subst hl2
    exact ⟨v, h, [], appendN_none P o.sl hv, (by simpa using o : Held N h es v (n + 0) (l ++ [])), .refl _ _, by simp, fun id e => .inl e⟩
  · rcases o with ⟨q1, q2, q⟩ | ⟨id, g, q0, q2, q3, q4⟩
    · subst q1 q2
      rw [Nat.zero_add] at ok ⊢
      obtain ⟨h', e, a, o, k⟩ := appendN_new P hv h0 hes ok
      refine ⟨_, h', [], fun env s x hs hx => e env s x ?_ hx, .inr ⟨h.next, 0, hN, rfl, a.gro, hv.length⟩, o, by simp, fun id ⟨_, _, _, _, _, e⟩ => by cases e; exact .inr (Nat.le_refl _)⟩
      rcases q with q | ⟨id, g, off, q, _⟩
      · exact .inl (hs.trans q)
      · exact .inr ⟨id, g, off, hs.trans q⟩
    · subst q2
      obtain ⟨h', e, a, o, k⟩ := appendN_gro P q3 q4 hv h0 hes ok hy
      exact ⟨_, h', [id], e, .inr ⟨id, g + 1, q0, rfl, a, by rw [List.length_append, q4, hv.length, Nat.add_mul]⟩, o, fun id' hid => by simp at hid; subst hid; exact ⟨_, _, _, _, _, rfl⟩, fun id' ⟨_, _, _, _, _, e⟩ => by cases e; exact .inl ⟨_, _, _, _, _, rfl⟩⟩
end Go.Proofs.YtjhgembcdndmkaaGreatDoor.Am

namespace Go.Proofs.YtjhgembcdndmkaaGreatDoor.Am
open Go.RowKit
def GoesAll (P : Program) (g : FuncId) (captured : List AV) (n : Nat) (Y : Nat → Hp → List AV → List Pos → Prop) (M : Pos → Prop) (h : Hp) : Prop :=
  ∀ (l : Pos) (S : List Pos) (K : Nat) (h0 : Hp), K ≤ n → Only [] h h0 → (∀ id ∈ S, ¬ M id ∧ id.num < h0.next.num) →
    ∃ B, h0.next.num ≤ B ∧ ∀ (J : Nat → Hp → Prop) (Q : Hp → Prop),
    (∀ i h1 h2 S', J i h1 → Only S' h1 h2 → (∀ id ∈ S', h0.next.num ≤ id.num ∧ id.num < B) → J i h2) → (∀ h1 h2 S', Q h1 → Only S' h1 h2 → (∀ id ∈ S', h0.next.num ≤ id.num ∧ id.num < B) → Q h2) →
    (∀ i hO h1 ys T, i < K → J i hO → B ≤ hO.next.num → Only [] hO h1 → Y i h1 ys T → (∀ id ∈ T, hO.next.num ≤ id.num ∧ id.num < h1.next.num) → ∃ h' S', RoundFn P l ys h1 (.bool true) h' ∧ J (i + 1) h' ∧ Only S' h1 h' ∧ ∀ id ∈ S', id ∈ S ∨ B ≤ id.num) → (K = n → ∀ h1, J K h1 → Q h1) →
    (K < n → ∀ hO h1 ys T, J K hO → B ≤ hO.next.num → Only [] hO h1 → Y K h1 ys T → (∀ id ∈ T, hO.next.num ≤ id.num ∧ id.num < h1.next.num) → ∃ h' S', RoundFn P l ys h1 (.bool false) h' ∧ Q h' ∧ Only S' h1 h' ∧ ∀ id ∈ S', id ∈ S ∨ B ≤ id.num) → J 0 h0 →
    ∃ h', AmFn P g (.yield l :: captured) h0 (.tup []) h' ∧ Q h' ∧ Only S h0 h'
theorem GoesAll.only {P : Program} {g : FuncId} {captured : List AV} {n : Nat} {Y : Nat → Hp → List AV → List Pos → Prop} {M : Pos → Prop} {h h' : Hp} (a : GoesAll P g captured n Y M h) (m : Only [] h h') : GoesAll P g captured n Y M h' :=
  fun l S K h0 hK ho => a l S K h0 hK (m.trans ho)
theorem Only.back {S : List Pos} {h h' : Hp} (a : Only S h h') : ∃ hO, Only S h hO ∧ Only [] hO h' ∧ hO.next = h.next :=
  ⟨⟨h'.heap, h.next, h'.ser, h'.lim⟩, ⟨Nat.le_refl _, a.lim, a.same⟩, ⟨a.next, rfl, fun _ _ _ => rfl⟩, rfl⟩
theorem Dos.overA {P : Program} {F : FuncId} {env : T AV} {h : Hp} {f : Opd} {params : List Pos} {assign body : C} {g : FuncId} {captured : List AV} {n : Nat} {Y : Nat → Hp → List AV → List Pos → Prop} {M : Pos → Prop} (hg : GoesAll P g captured n Y M h) (hM : ∀ id, M id → id.num < h.next.num)
    (hk : okCall P g = true) (hf : ev env f = .fn (.func g) [] captured) {S : List Pos} (hS : ∀ id ∈ S, ¬ M id ∧ id.num < h.next.num) {K : Nat} (hK : K ≤ n) {j : C} {o : Sg} (hj : (o = .ret ∧ j = .ret) ∨ ∃ i, o = .exit i ∧ j = .exit i) :
    ∃ B, h.next.num + 2 ≤ B ∧ ∀ (J : Nat → Hp → Prop) (Q : Hp → Prop) (A : Nat → T AV → List Pos → Hp → Prop),
    (∀ i h1 h2 S', J i h1 → Only S' h1 h2 → (∀ id ∈ S', h.next.num ≤ id.num ∧ id.num < B) → J i h2) → (∀ h1 h2 S', Q h1 → Only S' h1 h2 → (∀ id ∈ S', h.next.num ≤ id.num ∧ id.num < B) → Q h2) →
    (∀ i env1 T h1 h2 id, A i env1 T h1 → Only [id] h1 h2 → h.next.num ≤ id.num → id.num < B → id ∉ T → A i env1 T h2) →
    (∀ i hO h1 ys T, i ≤ K → i < n → J i hO → B ≤ hO.next.num → Only [] hO h1 → Y i h1 ys T → (∀ id ∈ T, hO.next.num ≤ id.num ∧ id.num < h1.next.num) → ∃ env0 env1 h2, setParams env params ys = some env0 ∧ Dos P F assign env0 h1 .go [] env1 h2 ∧ Only [] h1 h2 ∧ A i env1 T h2) →
    (∀ i env1 T h1, i < K → A i env1 T h1 → B ≤ h1.next.num → (∀ id ∈ T, B ≤ id.num ∧ id.num < h1.next.num) → ∃ env2 h2 S', Dos P F body env1 h1 .go [] env2 h2 ∧ J (i + 1) h2 ∧ Only S' h1 h2 ∧ ∀ id ∈ S', id ∈ S ∨ B ≤ id.num) → (K = n → ∀ h1, J K h1 → Q h1) →
    (K < n → ∀ env1 T h1, A K env1 T h1 → B ≤ h1.next.num → (∀ id ∈ T, B ≤ id.num ∧ id.num < h1.next.num) → ∃ env2 h2 S', Dos P F body env1 h1 o [] env2 h2 ∧ Q h2 ∧ Only S' h1 h2 ∧ ∀ id ∈ S', id ∈ S ∨ B ≤ id.num) → J 0 h →
    ∃ h', Dos P F (.rangeFunc f params assign body) env h (if K = n then .go else o) [.mark h.next] env h' ∧ Q h' ∧ Only S h h' ∧ (∃ s, T.get h.next h'.heap = some (.dfr s)) ∧ h.next.num + 2 ≤ h'.next.num := by
  have od : Only [] h (dfrH h) := newH_only _ _ _
  have nd : (dfrH h).next.num = h.next.num + 1 := newH_next _ _
  have ol : Only [] (dfrH h) (loopH (dfrH h) F env params assign body h.next) := newH_only _ _ _
  have nl : (loopH (dfrH h) F env params assign body h.next).next.num = (dfrH h).next.num + 1 := newH_next _ _
  have gd : T.get h.next (dfrH h).heap = some (.dfr h.ser) := newH_get _ _
  have gl : LoopAt (loopH (dfrH h) F env params assign body h.next) (dfrH h).next .ready F env params assign body := ⟨by omega, _, _, newH_get _ _⟩
  have gd' : T.get h.next (loopH (dfrH h) F env params assign body h.next).heap = some (.dfr h.ser) := (ol.same _ (by omega) (by simp)).trans gd
  generalize hhl : loopH (dfrH h) F env params assign body h.next = hl at *
  have odl : Only [] h hl := od.trans ol
  generalize hlp : (dfrH h).next = l at *
  have hlS : l ∉ S := fun c => by have := (hS _ c).2; omega
  have hS2 : ∀ id ∈ l :: S, ¬ M id ∧ id.num < hl.next.num := fun id hid => by
    rcases List.mem_cons.1 hid with q | q
    · subst q; exact ⟨fun c => by have := hM _ c; omega, by omega⟩
    · have := hS _ q; exact ⟨this.1, by omega⟩
  obtain ⟨B, hB, hgo⟩ := hg l (l :: S) K hl hK odl hS2
  refine ⟨B, by omega, fun J Q A hJ hQ hA hass hb hq hs j0 => ?_⟩
  -- a round, up to its body
  have start : ∀ i hO h1 ys T, i ≤ K → i < n → LoopAt hO l .ready F env params assign body → J i hO → B ≤ hO.next.num → Only [] hO h1 → Y i h1 ys T → (∀ id ∈ T, hO.next.num ≤ id.num ∧ id.num < h1.next.num) →
      ∃ env0 env1 h2, setParams env params ys = some env0 ∧ LoopAt h1 l .ready F env params assign body ∧ Dos P F assign env0 h1 .go [] env1 h2 ∧ Only [] h1 h2 ∧ LoopAt h2 l .ready F env params assign body ∧ A i env1 T (putL h2 l .busy) ∧ B ≤ (putL h2 l .busy).next.num ∧ (∀ id ∈ T, B ≤ id.num ∧ id.num < (putL h2 l .busy).next.num) := by
    intro i hO h1 ys T hi hin x ji hn oO y hT
    obtain ⟨env0, env1, h2, e0, d1, o1, a⟩ := hass i hO h1 ys T hi hin ji hn oO y hT
    have n0 := oO.next
    have n1 := o1.next
    have n2 := (putL_only h2 l .busy).next
    have hlT : l ∉ T := fun c => by have := (hT _ c).1; omega
    exact ⟨env0, env1, h2, e0, x.only oO (by simp), d1, o1, (x.only oO (by simp)).only o1 (by simp), hA i env1 T h2 _ l a (putL_only _ _ _) (by omega) (by omega) hlT, by omega, fun id hid => by have := hT id hid; omega⟩
  obtain ⟨h3, hgo, ⟨q1, q2⟩, o3⟩ := hgo (fun i h1 => LoopAt h1 l .ready F env params assign body ∧ J i h1)
    (fun h3 => Q h3 ∧ ((K = n ∧ LoopAt h3 l .ready F env params assign body) ∨ (K < n ∧ LoopJ h3 l .done j)))
    (fun i h1 h2 S' jq oq hS' => ⟨jq.1.only oq fun c => by have := hS' _ c; omega, hJ i h1 h2 S' jq.2 oq fun id hid => by have := hS' id hid; omega⟩)
    (fun h1 h2 S' jq oq hS' => ⟨hQ h1 h2 S' jq.1 oq fun id hid => by have := hS' id hid; omega, jq.2.imp (fun q => ⟨q.1, q.2.only oq fun c => by have := hS' _ c; omega⟩) fun q => ⟨q.1, q.2.only oq fun c => by have := hS' _ c; omega⟩⟩)
    (fun i hO h1 ys T hi jq hn oO y hT => by
      obtain ⟨env0, env1, h2, e0, x, d1, o1, x1, a, k1, k2⟩ := start i hO h1 ys T (by omega) (by omega) jq.1 jq.2 hn oO y hT
      obtain ⟨env2, h4, S', d2, j2, o2, hS'⟩ := hb i env1 T _ hi a k1 k2
      have x2 := (x1.put .busy).only o2 fun c => by rcases hS' _ c with q | q; exact hlS q; omega
      refine ⟨putL h4 l .ready, S' ++ [l], RoundFn.dos x e0 d1 x1 d2 x2, ⟨x2.put .ready, hJ _ h4 _ [l] j2 (putL_only _ _ _) (by intro id hid; simp at hid; subst hid; omega)⟩, ?_⟩
      refine ⟨(((o1.mono (S' := S' ++ [l]) (by simp)).trans ((putL_only h2 l .busy).mono fun id hid => .inl (by simp at hid; simp [hid]))).trans (o2.mono fun id hid => .inl (by simp [hid]))).trans ((putL_only h4 l .ready).mono fun id hid => .inl (by simp at hid; simp [hid])), fun id hid => ?_⟩
      rcases List.mem_append.1 hid with hid | hid
      · exact (hS' id hid).imp (fun q => List.mem_cons_of_mem _ q) fun q => q
      · exact .inl (by simp only [List.mem_singleton] at hid; simp [hid]))
    (fun e h1 jq => ⟨hq e h1 jq.2, .inl ⟨e, jq.1⟩⟩)
    (fun hi hO h1 ys T jq hn oO y hT => by
      obtain ⟨env0, env1, h2, e0, x, d1, o1, x1, a, k1, k2⟩ := start K hO h1 ys T (Nat.le_refl _) hi jq.1 jq.2 hn oO y hT
      obtain ⟨env2, h4, S', d2, j2, o2, hS'⟩ := hs hi env1 T _ a k1 k2
      have x2 := (x1.put .busy).only o2 fun c => by rcases hS' _ c with q | q; exact hlS q; omega
      refine ⟨putJ h4 l j, S' ++ [l], RoundFn.jumps hj x e0 d1 x1 d2 x2, ⟨hQ h4 _ [l] j2 (putJ_only _ _ _) (by intro id hid; simp at hid; subst hid; omega), .inr ⟨hi, x2.jump j⟩⟩, ?_⟩
      refine ⟨(((o1.mono (S' := S' ++ [l]) (by simp)).trans ((putL_only h2 l .busy).mono fun id hid => .inl (by simp at hid; simp [hid]))).trans (o2.mono fun id hid => .inl (by simp [hid]))).trans ((putJ_only h4 l j).mono fun id hid => .inl (by simp at hid; simp [hid])), fun id hid => ?_⟩
      rcases List.mem_append.1 hid with hid | hid
      · exact (hS' id hid).imp (fun q => List.mem_cons_of_mem _ q) fun q => q
      · exact .inl (by simp only [List.mem_singleton] at hid; simp [hid]))
    ⟨gl, hJ 0 h hl [] j0 odl (by simp)⟩
  have on := putL_only h3 l .exhausted
  have n3 := o3.next
  have nn := on.next
  have dfrFin : ∃ s, T.get h.next (putL h3 l .exhausted).heap = some (.dfr s) := by
    refine ⟨h.ser, ?_⟩
    rw [on.same _ (by omega) (by simp only [List.mem_singleton]; exact num_ne (by omega)), o3.same _ (by omega) (by
      simp only [List.mem_cons, not_or]
      exact ⟨num_ne (by omega), fun c => by have := (hS _ c).2; omega⟩)]
    exact gd'
  have onlyFin : Only S h (putL h3 l .exhausted) := by
    refine ((odl.mono (S' := l :: S) (by simp)).trans (o3.trans (on.mono fun id hid => .inl (by simp at hid; simp [hid])))).mono fun id hid => ?_
    rcases List.mem_cons.1 hid with q | q
    · exact .inr (by rw [q]; omega)
    · exact .inl q
  have qFin : Q (putL h3 l .exhausted) := hQ h3 _ [l] q1 on (by intro id hid; simp at hid; subst hid; omega)
  have hgo' : AmFn P g ([] ++ (.yield (dfrH h).next :: captured)) (loopH (dfrH h) F env params assign body h.next) (.tup []) h3 := by
    rw [hlp, hhl]; exact hgo
  rcases q2 with ⟨e, q2⟩ | ⟨e, q2⟩
  · rw [← hlp] at q2
    have d := Dos.range (P := P) (F := F) (env := env) (h := h) (f := f) (params := params) (assign := assign) (body := body) hk hf hgo' q2
    rw [hlp] at d
    rw [if_pos e]
    exact ⟨_, d, qFin, onlyFin, dfrFin, by omega⟩
  · rw [← hlp] at q2
    have d := Dos.rangeJ (P := P) (F := F) (env := env) (h := h) (f := f) (params := params) (assign := assign) (body := body) (hj.imp (fun q => q.2) fun ⟨i, q⟩ => ⟨i, q.2⟩) hk hf hgo' q2
    rw [hlp] at d
    have eo : Sg.ofC j = o := by
      rcases hj with ⟨a, b⟩ | ⟨i, a, b⟩ <;> subst a b <;> rfl
    rw [eo] at d
    rw [if_neg (by omega)]
    exact ⟨_, d, qFin, onlyFin, dfrFin, by omega⟩
end Go.Proofs.YtjhgembcdndmkaaGreatDoor.Am

namespace Go.Proofs.YtjhgembcdndmkaaGreatDoor.Am
open Go.RowKit
noncomputable def byt (b : List UInt8) : List AV := b.map fun x => byteV x.toNat
theorem byt_length (b : List UInt8) : (byt b).length = b.length := List.length_map _
theorem byt_append (a b : List UInt8) : byt (a ++ b) = byt a ++ byt b := List.map_append
theorem byt_atom (b : List UInt8) : ∀ y ∈ byt b, y.atom = true := fun y hy => by
  obtain ⟨x, _, rfl⟩ := List.mem_map.1 hy
  rfl
theorem byt_inj : ∀ {a b : List UInt8}, byt a = byt b → a = b
  | [], [], _ => rfl
  | [], _ :: _, e => by cases e
  | _ :: _, [], e => by cases e
  | x :: a, y :: b, e => by
    have e : byteV x.toNat :: byt a = byteV y.toNat :: byt b := e
    obtain ⟨e1, e2⟩ := List.cons.inj e
    have e3 : x.toNat = y.toNat := by
      unfold byteV at e1
      injection e1 with _ e1
      exact Int.ofNat.inj e1
    rw [byt_inj e2, UInt8.toNat_inj.1 e3]
theorem packAV_byt : ∀ (b : List UInt8) (n v : Nat), packAV (byt b) n v = some (n + b.length, b.foldl (fun a b => a * 256 + b.toNat) v)
  | [], n, v => rfl
  | x :: b, n, v => by
    have e : packAV (byt (x :: b)) n v = bif Nat.blt x.toNat 256 then packAV (byt b) (n + 1) (v * 256 + x.toNat) else none := rfl
    rw [e, blt_iff.2 x.toNat_lt, cond_true, packAV_byt b, List.length_cons, List.foldl_cons]
    congr 2
    omega
theorem SlN.str {P : Program} {h : Hp} {v : AV} {n : Nat} {b : List UInt8} (r : SlN h 1 v n (byt b)) : ∀ env x, ev env x = v → evalOp P (.bytesStr x) env h = .val (strOf b) h := by
  intro env x hx
  have hn : n = b.length := by have := r.length; rw [byt_length] at this; omega
  have e : evalOp P (.bytesStr x) env h = (match ev env x with
    | .nilSl => .val (.str 0 0) h
    | .sl id g off len _ _ es => bif Nat.beq len 0 then .val (.str 0 0) h else
      bif Nat.beq es 1 then (match readN h id g off len with
      | some (.byt n v) => natK v fun v => .val (.str n v) h
      | some (.lst _ l) => (match packAV l 0 0 with
        | some (n, v) => .val (.str n v) h
        | none => .fail "bytesStr bytes")
      | none => .fail "bytesStr") else .fail "bytesStr size"
    | _ => .fail "bytesStr what") := rfl
  rw [e, hx]
  generalize hq : byt b = q at r
  cases r with
  | nil =>
    have : b = [] := List.length_eq_zero_iff.1 hn.symm
    subst this; rfl
  | emp =>
    have : b = [] := List.length_eq_zero_iff.1 hn.symm
    subst this; rfl
  | mk hl r =>
    by_cases h0 : n = 0
    · subst h0
      have : b = [] := List.length_eq_zero_iff.1 hn.symm
      subst this; rfl
    · obtain ⟨c, c1, c2, c3⟩ := r.all
      rw [hl, Nat.mul_one] at c1
      simp only [beq_false.2 h0, cond_false, show Nat.beq 1 1 = true from rfl, cond_true, c1]
      subst hq
      cases c with
      | byt m u =>
        have hm : m = b.length := by
          have := Cells.toL_length c2
          rw [c3, byt_length] at this
          exact this.symm
        subst hm
        have e2 : bytesL b.length u = byt b := c3
        rw [bytesL_eq] at e2
        have e3 : unpack b.length u = b := byt_inj e2
        have hu : u = pack b := by
          have := pack_unpack b.length u
          rw [e3, Nat.mod_eq_of_lt c2] at this
          exact this.symm
        subst hu
        simp only [natK_eq]
        rfl
      | lst m l =>
        have e2 : l = byt b := c3
        subst e2
        show (match packAV (byt b) 0 0 with
          | some (n, v) => Res.val (.str n v) h
          | none => Res.fail "bytesStr bytes") = _
        rw [packAV_byt]
        show Res.val (.str (0 + b.length) _) h = _
        rw [Nat.zero_add]
        rfl
theorem emptySl (P : Program) (es : Nat) (z : List AV) (hes : 0 < es) (h : Hp) : ∃ h', (∀ env, evalOp P (.buildSl 0 es z []) env h = .val (.sl h.next 0 0 0 0 true es) h') ∧ Only [] h h' ∧ h'.next.num = h.next.num + 1 := by
  refine ⟨newH h fun _ => .cells 0 (Cells.ofL []) 0 0 0 0 false false, fun env => ?_, newH_only _ _ _, newH_next _ _⟩
  have e : evalOp P (.buildSl 0 es z []) env h = bif Nat.blt 0 es then newCells h (Cells.ofL []) fun id h => .val (.sl id 0 0 0 0 true es) h else .fail "buildSl" := rfl
  rw [e, blt_iff.2 hes, cond_true]
  unfold newCells
  rw [newK_newH]
theorem oneSl (P : Program) {es : Nat} {z l : List AV} (hes : 0 < es) (hz : z.length = es) (hl : l.length = es) (h : Hp) : ∃ h', (∀ env x, (ev env x).cells = l → evalOp P (.buildSl 1 es z [(0, es, x)]) env h = .val (.sl h.next 0 0 1 1 true es) h') ∧ Arr h' h.next l ∧ Only [] h h' ∧ h'.next.num = h.next.num + 1 := by
  refine ⟨newH h fun _ => .cells 0 (Cells.ofL l) 0 0 0 0 false false, fun env x hx => ?_, newH_arr h l, newH_only _ _ _, newH_next _ _⟩
  have e : evalOp P (.buildSl 1 es z [(0, es, x)]) env h = (match fillA env (replA 1 z []) [(0, es, x)] with
    | some l => bif Nat.blt 0 es then newCells h (Cells.ofL l) fun id h => .val (.sl id 0 0 1 1 true es) h else .fail "buildSl"
    | none => .fail "buildSl") := rfl
  have f : fillA env (replA 1 z []) [(0, es, x)] = some l := by
    have r : replA 1 z [] = z := by show z ++ [] = z; simp
    rw [r]
    unfold fillA
    simp only [hx, hl, hz, beq_iff.2 (rfl : es = es), show Nat.ble (Nat.add 0 es) es = true from ble_iff.2 (by show 0 + es ≤ es; omega), Bool.and_self, cond_true]
    unfold fillA
    simp [show Nat.add 0 es = z.length from by show 0 + es = _; omega, hz]
  rw [e, f]
  show (bif Nat.blt 0 es then newCells h (Cells.ofL l) fun id h => Res.val (.sl id 0 0 1 1 true es) h else .fail "buildSl") = _
  rw [blt_iff.2 hes, cond_true]
  unfold newCells
  rw [newK_newH]
theorem SlN.eqlNil {P : Program} {h : Hp} {es n : Nat} {v : AV} {l : List AV} (r : SlN h es v n l) : ∀ env x, ev env x = v → evalOp P (.bin .eql .slice true x (vl .nilSl)) env h = .val (.bool v.isNil) h := by
  intro env x hx
  rw [qev_bin, hx]
  cases r <;> rfl
def Chg (κ : Pos → Nat) (K : Nat → Prop) (h h' : Hp) : Prop := ∃ S, Only S h h' ∧ ∀ id ∈ S, id.num < h.next.num → K (κ id)
def Agr (h : Hp) (κ κ' : Pos → Nat) : Prop := ∀ id, id.num < h.next.num → κ' id = κ id
noncomputable def newK' (κ : Pos → Nat) (h : Hp) (k : Nat) : Pos → Nat := fun id => if id.num < h.next.num then κ id else k
theorem newK'_agr (κ : Pos → Nat) (h : Hp) (k : Nat) : Agr h κ (newK' κ h k) := fun id q => by unfold newK'; rw [if_pos q]
theorem newK'_new (κ : Pos → Nat) {h : Hp} (k : Nat) {id : Pos} (q : h.next.num ≤ id.num) : newK' κ h k id = k := by unfold newK'; rw [if_neg (by omega)]
section
variable {κ κ' κ'' : Pos → Nat} {K K' : Nat → Prop} {h h' h'' : Hp} {k : Nat}
theorem Agr.refl : Agr h κ κ := fun _ _ => rfl
theorem Agr.trans (a : Agr h κ κ') (b : Agr h' κ' κ'') (n : h.next.num ≤ h'.next.num) : Agr h κ κ'' := fun id q => (b id (by omega)).trans (a id q)
theorem Chg.next (a : Chg κ K h h') : h.next.num ≤ h'.next.num := let ⟨_, o, _⟩ := a; o.next
theorem Chg.of (o : Only [] h h') : Chg κ K h h' := ⟨[], o, by simp⟩
theorem Chg.refl : Chg κ K h h := .of (.refl _ _)
theorem Chg.only {S : List Pos} (o : Only S h h') (hS : ∀ id ∈ S, id.num < h.next.num → K (κ id)) : Chg κ K h h' := ⟨S, o, hS⟩
theorem Chg.mono (a : Chg κ K h h') (q : ∀ k, K k → K' k) : Chg κ K' h h' := let ⟨S, o, c⟩ := a; ⟨S, o, fun id m n => q _ (c id m n)⟩
theorem Chg.trans (a : Chg κ K h h') (g : Agr h κ κ') (b : Chg κ' K h' h'') : Chg κ K h h'' := by
  obtain ⟨S, o, c⟩ := a
  obtain ⟨S', o', c'⟩ := b
  refine ⟨S ++ S', (o.mono fun id q => .inl (by simp [q])).trans (o'.mono fun id q => .inl (by simp [q])), fun id m n => ?_⟩
  rcases List.mem_append.1 m with q | q
  · exact c id q n
  · rw [← g id n]; exact c' id q (by have := o.next; omega)
theorem Chg.fresh (a : Chg κ K h h') (q : ∀ id, id.num < h.next.num → ¬ K (κ id)) : Only [] h h' := by
  obtain ⟨S, o, c⟩ := a
  exact o.mono fun id m => .inr (by rcases Nat.lt_or_ge id.num h.next.num with n | n; exact absurd (c id m n) (q id n); exact n)
structure KSl (κ : Pos → Nat) (k : Nat) (h : Hp) (es : Nat) (v : AV) (n : Nat) (l : List AV) : Prop where
  sl : SlN h es v n l
  k : ∀ id, InN es v id → κ id = k ∧ id.num < h.next.num
structure KHd (κ : Pos → Nat) (k : Nat) (h : Hp) (es : Nat) (v : AV) (n : Nat) (l : List AV) : Prop where
  hd : Held 0 h es v n l
  k : ∀ id, InN es v id → κ id = k
structure KArr (κ : Pos → Nat) (k : Nat) (h : Hp) (p : Pos) (l : List AV) : Prop where
  arr : Arr h p l
  k : κ p = k
variable {es n : Nat} {v : AV} {l : List AV} {p : Pos}
theorem KHd.sl (a : KHd κ k h es v n l) : KSl κ k h es v n l := ⟨a.hd.sl, fun id q => ⟨a.k id q, (a.hd.old q).2⟩⟩
theorem KSl.chg (a : KSl κ k h es v n l) (c : Chg κ K h h') (g : Agr h κ κ') (hk : ¬ K k) : KSl κ' k h' es v n l := by
  obtain ⟨S, o, c⟩ := c
  refine ⟨a.sl.only o fun id q m => ?_, fun id q => ?_⟩
  · obtain ⟨k1, k2⟩ := a.k id q
    have := c id m k2
    rw [k1] at this
    exact hk this
  · obtain ⟨k1, k2⟩ := a.k id q
    exact ⟨(g id k2).trans k1, Nat.lt_of_lt_of_le k2 o.next⟩
theorem KHd.chg (a : KHd κ k h es v n l) (c : Chg κ K h h') (g : Agr h κ κ') (hk : ¬ K k) : KHd κ' k h' es v n l := by
  obtain ⟨S, o, c⟩ := c
  refine ⟨a.hd.only o fun id q m => ?_, fun id q => (g id (a.hd.old q).2).trans (a.k id q)⟩
  have := c id m (a.hd.old q).2
  rw [a.k id q] at this
  exact hk this
theorem KArr.chg (a : KArr κ k h p l) (c : Chg κ K h h') (g : Agr h κ κ') (hk : ¬ K k) : KArr κ' k h' p l := by
  obtain ⟨S, o, c⟩ := c
  refine ⟨a.arr.only o fun m => ?_, (g p a.arr.old).trans a.k⟩
  have := c p m a.arr.old
  rw [a.k] at this
  exact hk this
theorem KHd.nil : KHd κ k h es .nilSl 0 [] := ⟨.nil, fun id ⟨_, _, _, _, _, e⟩ => by cases e⟩
theorem KSl.nil : KSl κ k h es .nilSl 0 [] := ⟨.nil, fun id ⟨_, _, _, _, _, e⟩ => by cases e⟩
theorem KHd.push (a : KHd κ k h es v n l) (P : Program) {v2 : AV} {n2 : Nat} {l2 : List AV} {bytes : Nat} (hv : SlN h es v2 n2 l2) (hy : ∀ y ∈ l2, y.atom = true) (hes : 0 < es) (ok : okSize (n + n2) bytes = true) :
    ∃ v' h', (∀ env s x, ev env s = v → ev env x = v2 → evalOp P (.append es bytes s x) env h = .val v' h') ∧ KHd (newK' κ h k) k h' es v' (n + n2) (l ++ l2) ∧ Chg κ (fun j => j = k) h h' := by
  obtain ⟨v', h', S, e, o, m, hS, hv'⟩ := a.hd.push P hv hy hes ok (Nat.zero_le _)
  refine ⟨v', h', e, ⟨o, fun id q => ?_⟩, ⟨S, m, fun id q _ => a.k id (hS id q)⟩⟩
  rcases Nat.lt_or_ge id.num h.next.num with c | c
  · rw [newK'_agr κ h k id c]
    rcases hv' id q with q | q
    · exact a.k id q
    · omega
  · exact newK'_new κ k c
theorem KArr.put (a : KArr κ k h p l) {i : Nat} (hi : i < l.length) (y : AV) : KArr κ k (putA h p i y) p (l.set i y) ∧ Chg κ (fun j => j = k) h (putA h p i y) :=
  ⟨⟨putA_arr a.arr hi y, a.k⟩, ⟨[p], putA_only _ _ _ _, fun id q _ => by simp at q; subst q; exact a.k⟩⟩
theorem Held.new (a : Held h.next.num h' es v n l) (κ : Pos → Nat) (k : Nat) : KHd (newK' κ h k) k h' es v n l := ⟨a.weak (Nat.zero_le _), fun id q => newK'_new κ k (a.old q).1⟩
theorem Arr.new (a : Arr h' p l) (q : h.next.num ≤ p.num) (κ : Pos → Nat) (k : Nat) : KArr (newK' κ h k) k h' p l := ⟨a, newK'_new κ k q⟩
end
end Go.Proofs.YtjhgembcdndmkaaGreatDoor.Am

namespace Go.Proofs.YtjhgembcdndmkaaGreatDoor.Am
open Go.RowKit
open Classical in
noncomputable def recG (P : Program) : List KC → St → Out
  | [], _ => .fail ""
  | a :: A, s => if s = ⟨frOf P a.f a.args, [], a.h⟩ then .done a.v a.h' else recG P A s
theorem recG_sound {P : Program} : ∀ {A : List KC}, (∀ a ∈ A, AmFn P a.f a.args a.h a.v a.h') → Sound P (recG P A)
  | [], _ => fun _ _ _ _ _ _ _ _ _ => trivial
  | a :: A, h => fun s φ w g c0 hs hR hz hF => by
    unfold recG
    split
    · rename_i e
      subst e
      have q1 := h a (by simp)
      have q2 := q1.begins.1
      obtain ⟨fr', e1, e2⟩ := q1.ans
      rw [q2] at e1
      cases e1
      exact e2 φ w g [] c0 hR hz hF .nil
    · exact recG_sound (fun y hy => h y (List.mem_cons_of_mem _ hy)) s φ w g c0 hs hR hz hF
theorem recG_hit {P : Program} (f : FuncId) (args : List AV) (h : Hp) (v : AV) (h' : Hp) (A : List KC) : recG P (⟨f, args, h, v, h'⟩ :: A) ⟨frOf P f args, [], h⟩ = .done v h' := by
  unfold recG
  rw [if_pos rfl]
theorem recG_next {P : Program} {a : KC} {A : List KC} {f : FuncId} {args : List AV} {h : Hp} {o : Out} (e : recG P A ⟨frOf P f args, [], h⟩ = o) (q : frOf P f args = frOf P a.f a.args → h = a.h → o = .done a.v a.h') : recG P (a :: A) ⟨frOf P f args, [], h⟩ = o := by
  unfold recG
  split
  · rename_i c
    injection c with c1 _ c2
    exact (q c1 c2).symm
  · exact e
theorem frOf_fn {P : Program} {f f' : FuncId} {args args' : List AV} {h h' h1 h1' : Hp} {v v' : AV} (a : AmFn P f args h v h') (b : AmFn P f' args' h1 v' h1') (e : frOf P f args = frOf P f' args') : f = f' := by
  rw [← a.begins.2, ← b.begins.2, e]
theorem frOf_env {P : Program} {f : FuncId} {args : List AV} {h h' : Hp} {v : AV} (a : AmFn P f args h v h') : (frOf P f args).env = setArgs .e 0 args := by
  obtain ⟨e, _⟩ := a.begins
  have e0 := e
  unfold beginFn at e
  split at e
  · rename_i fu _
    cases hl : Nat.ble args.length fu.nargs with
    | true => rw [hl] at e; have := Option.some.inj e; rw [← this]
    | false => rw [hl] at e; cases e
  · cases e
theorem oneSl_resv (P : Program) {es : Nat} {z l : List AV} (hes : 0 < es) (hz : z.length = es) (hl : l.length = es) {env : T AV} {id : Pos} {ser lim : Nat} {x : Opd} (hx : (ev env x).cells = l) :
    evalOp P (.buildSl 1 es z [(0, es, x)]) env ⟨.e, id, ser, lim⟩ = .val (.sl id 0 0 1 1 true es) ⟨T.set id (some (.cells 0 (Cells.ofL l) 0 0 0 0 false false)) .e, id.succ, Nat.succ ser, lim⟩ := by
  have e : evalOp P (.buildSl 1 es z [(0, es, x)]) env ⟨.e, id, ser, lim⟩ = (match fillA env (replA 1 z []) [(0, es, x)] with
    | some l => bif Nat.blt 0 es then newCells ⟨.e, id, ser, lim⟩ (Cells.ofL l) fun id h => .val (.sl id 0 0 1 1 true es) h else .fail "buildSl"
    | none => .fail "buildSl") := rfl
  have f : fillA env (replA 1 z []) [(0, es, x)] = some l := by
    have r : replA 1 z [] = z := by show z ++ [] = z; simp
    rw [r]
    unfold fillA
    simp only [hx, hl, hz, beq_iff.2 (rfl : es = es), show Nat.ble (Nat.add 0 es) es = true from ble_iff.2 (by show 0 + es ≤ es; omega), Bool.and_self, cond_true]
    unfold fillA
    simp [show Nat.add 0 es = z.length from by show 0 + es = _; omega, hz]
  rw [e, f]
  show (bif Nat.blt 0 es then newCells _ (Cells.ofL l) fun id h => Res.val (.sl id 0 0 1 1 true es) h else .fail "buildSl") = _
  rw [blt_iff.2 hes, cond_true]
  unfold newCells
  rw [newK_newH]
  rfl
theorem resvH_arr (h : Hp) (ser : Nat) (l : List AV) : Arr (resvH h (.cells ser (Cells.ofL l) 0 0 0 0 false false)) h.next l :=
  ⟨by rw [resvH_next]; omega, ser, Cells.ofL l, false, by show T.get h.next (T.set h.next _ h.heap) = _; rw [T.get_set, if_pos rfl], (Cells.ofL_spec l).1, (Cells.ofL_spec l).2.1⟩
theorem eqLs_refl {f : AV → AV → Bool} : ∀ {l : List AV}, (∀ x ∈ l, f x x = true) → eqLs f l l = true
  | [], _ => rfl
  | x :: l, h => by
    unfold eqLs
    rw [h x (by simp), eqLs_refl fun y hy => h y (List.mem_cons_of_mem _ hy)]
    rfl
theorem eqAV_agg (n : Nat) {l : List AV} (h : ∀ x ∈ l, eqAV n x x = true) : eqAV (n + 1) (.agg l) (.agg l) = true := by
  unfold eqAV
  exact eqLs_refl h
theorem SlN.eqv {h : Hp} {es n : Nat} {v : AV} {l : List AV} (r : SlN h es v n l) (k : Nat) : eqAV (k + 1) v v = true := by
  cases r
  · rfl
  · unfold eqAV
    simp only [eqP_iff.2 (rfl), beq_iff.2 (rfl : _ = _), eqB_iff.2 (rfl), Bool.and_self]
  · unfold eqAV
    simp only [eqP_iff.2 (rfl), beq_iff.2 (rfl : _ = _), eqB_iff.2 (rfl), Bool.and_self]
theorem Held.record {N : Nat} {h : Hp} {es n : Nat} {v : AV} {l : List AV} (o : Held N h es v n l) {i : Nat} (hi : i < n) : ∃ id g c, v = .sl id g 0 n n false es ∧ readN h id g (i * es) es = some c ∧ c.toL = (l.drop (i * es)).take es := by
  rcases o with ⟨q, _⟩ | ⟨id, g, _, q2, q3, q4⟩
  · omega
  · have hle : (i + 1) * es ≤ l.length := by rw [q4]; exact Nat.mul_le_mul_right _ hi
    rw [Nat.add_mul, Nat.one_mul] at hle
    obtain ⟨c, c1, _, c3⟩ := (q3.part (off := i * es) (n := es) hle).all
    rw [List.length_take, List.length_drop, Nat.min_eq_left (by omega)] at c1
    exact ⟨id, g, c, q2, c1, c3⟩
theorem Arr.whole {h : Hp} {id : Pos} {l : List AV} (a : Arr h id l) (P : Program) {n : Nat} (hn : l.length = n) : ∀ env x, ev env x = .ptr id 0 0 → evalOp P (.loadN n x) env h = .val (.agg l) h := by
  intro env x hx
  obtain ⟨c, c1, _, c3⟩ := a.row.all
  rw [hn] at c1
  rw [qev_loadN P hx c1, c3]
theorem Arr.slN {h : Hp} {id : Pos} {l : List AV} (a : Arr h id l) {es n cap : Nat} {ex : Bool} (hl : l.length = n * es) : SlN h es (.sl id 0 0 n cap ex es) n l := .mk hl a.row
theorem stretch (a : Nat) : ∀ b : Nat, ∃ S : List Pos, ∀ id : Pos, id ∈ S ↔ a ≤ id.num ∧ id.num < b
  | 0 => ⟨[], fun id => by simp⟩
  | b + 1 => by
    obtain ⟨S, hS⟩ := stretch a b
    by_cases c : ∃ id : Pos, id.num = b ∧ a ≤ b
    · obtain ⟨id0, e, hab⟩ := c
      refine ⟨id0 :: S, fun id => ?_⟩
      rw [List.mem_cons, hS]
      refine ⟨fun q => ?_, fun q => ?_⟩
      · rcases q with q | q
        · subst q; omega
        · omega
      · by_cases e2 : id.num = b
        · exact .inl (Pos.num_inj (by omega))
        · exact .inr (by omega)
    · refine ⟨S, fun id => ?_⟩
      rw [hS]
      refine ⟨fun q => by omega, fun q => ⟨q.1, ?_⟩⟩
      by_cases e2 : id.num = b
      · exact absurd ⟨id, e2, by omega⟩ c
      · omega
theorem new_resv (P : Program) {env : T AV} {id : Pos} {ser lim : Nat} (x : AV) :
    evalOp P (.new [x]) env ⟨.e, id, ser, lim⟩ = .val (.ptr id 0 0) ⟨T.set id (some (.cells 0 (Cells.ofL [x]) 0 0 0 0 false false)) .e, id.succ, Nat.succ ser, lim⟩ := by
  rw [qev_newL]
  rfl
theorem Box.arr {h : Hp} {id : Pos} {x : AV} (b : Box h id x) : Arr h id [x] :=
  let ⟨ser, fz, e⟩ := b.mem
  ⟨b.old, ser, Cells.ofL [x], fz, e, (Cells.ofL_spec [x]).1, (Cells.ofL_spec [x]).2.1⟩
theorem Arr.load {h : Hp} {id : Pos} {x : AV} (b : Arr h id [x]) : read1 h id 0 0 = some x := b.one (i := 0) (by simp)
theorem Tree.recordOne {P : Program} {h : Hp} {d : Nat} {t e : TypeId} {v : AV} (hd : P.underlying t = some (.slice e)) (a : Tree P h (d + 1) t [v]) {i : Nat} (hi : i < lenOf v) :
    ∃ id cap l, v = .sl id 0 0 (lenOf v) cap true (P.cellsOf e) ∧ Tree P h d e l ∧ ∀ h', Only [] h h' → ∀ k, k < l.length → read1 h' id 0 (i * P.cellsOf e + k) = l[k]? := by
  rcases a.of_slice hd with q | ⟨id, g, off, q⟩ | ⟨id, n, cap, L, q, hn, hw, fx, hL, hx⟩
  · cases q; cases hi
  · cases q; cases hi
  · cases q
    have hi : i < n := hi
    have hle : (i + 1) * P.cellsOf e ≤ L.length := by rw [hL]; exact Nat.mul_le_mul_right _ (by omega)
    rw [Nat.add_mul, Nat.one_mul] at hle
    exact ⟨id, cap, _, rfl, hx i (by omega), fun h' m k hk => ((fx.only m (by simp)).part (off := i * P.cellsOf e) (n := P.cellsOf e) hle).one k hk⟩
theorem u8_of {n : Int} (h : (Lit.int .u8 n).wf = true) : ∃ b : UInt8, n = (b.toNat : Int) := by
  have : 0 ≤ n ∧ n < 256 := by
    simp [Lit.wf, IntKind.min, IntKind.max, IntKind.bits, IntKind.signed] at h
    omega
  refine ⟨UInt8.ofNat n.toNat, ?_⟩
  rw [UInt8.toNat_ofNat']
  omega
theorem Tree.bytes {P : Program} {h : Hp} {d : Nat} {t e : TypeId} {v : AV} (hd : P.underlying t = some (.slice e)) (he : P.underlying e = some (.int .u8)) (hc : P.cellsOf e = 1) (hb : 1 ≤ P.bytesOf e ∧ P.bytesOf e ≤ 4096) (a : Tree P h (d + 2) t [v]) :
    ∃ b : List UInt8, SlN h 1 v b.length (byt b) ∧ okSize b.length (P.bytesOf e) = true := by
  obtain ⟨ys, r, _, ok⟩ := Tree.ones (d := d + 1) hd hc hb a (fun x : UInt8 => byteV x.toNat) (fun x hx => by
    obtain ⟨n, e1, wf⟩ := hx.of_int (d := d) he
    obtain ⟨b, e2⟩ := u8_of wf
    cases e1
    subst e2
    exact ⟨b, rfl⟩)
  have hy : (ys.map fun x : UInt8 => byteV x.toNat) = byt ys := rfl
  rw [hy] at r
  refine ⟨ys, ?_, ok⟩
  have hlen : (byt ys).length = ys.length := byt_length ys
  generalize hq : byt ys = L at r hlen
  cases r with
  | nil =>
    have : ys.length = 0 := by rw [← hlen]; rfl
    rw [this]; exact .nil
  | emp =>
    have : ys.length = 0 := by rw [← hlen]; rfl
    rw [this]; exact .emp
  | mk hn r =>
    rw [hlen] at hn
    subst hn
    exact .mk (by rw [hlen, Nat.mul_one]) r
end Go.Proofs.YtjhgembcdndmkaaGreatDoor.Am

namespace Go.Proofs.YtjhgembcdndmkaaGreatDoor.Am
open Go.RowKit
noncomputable def putG (h : Hp) (id : Pos) (i : Nat) (x : AV) : Hp :=
  ⟨T.set id ((T.get id h.heap).map fun b => match b with | .cells ser c lo hi g m ro fz => .cells ser (c.splice i (Cells.ofL [x])) lo hi g (bif Nat.blt i hi then g else m) ro fz | b => b) h.heap, h.next, h.ser, h.lim⟩
theorem putG_only (h : Hp) (id : Pos) (i : Nat) (x : AV) : Only [id] h (putG h id i x) := ⟨Nat.le_refl _, rfl, fun j _ q => by
  show T.get j (T.set id _ h.heap) = _
  rw [T.get_set, if_neg (by simpa using q)]⟩
theorem putG_gro {h : Hp} {id : Pos} {g : Nat} {l : List AV} (b : Gro h id g l) {i : Nat} (hi : i < l.length) (y : AV) : Gro (putG h id i y) id g (l.set i y) := by
  obtain ⟨ser, c, hh, m, fz, e, hw, hl⟩ := b.mem
  have hc : c.size = l.length := by rw [← Cells.toL_length hw, hl]
  obtain ⟨p1, p2, p3⟩ := Cells.ofL_spec [y]
  have hsz : i + (Cells.ofL [y]).size ≤ c.size := by rw [p3, hc]; simp; omega
  obtain ⟨q1, q2, q3⟩ := Cells.splice_spec hw p1 hsz
  refine ⟨b.old, ser, c.splice i (Cells.ofL [y]), hh, (bif Nat.blt i hh then g else m), fz, ?_, q1, ?_⟩
  · show T.get id (T.set id _ h.heap) = _
    rw [T.get_set, if_pos rfl, e]; rfl
  · rw [q2, p2, p3, hl, List.set_eq_take_append_cons_drop, if_pos hi]
    rfl
theorem storeR_gro {h : Hp} {id : Pos} {g : Nat} {l : List AV} (b : Gro h id g l) {i : Nat} (hi : i < l.length) (y : AV) (ha : y.atom = true) (hc : y.cells = [y]) : storeR (.ptr id g i) y h = .val .undef (putG h id i y) := by
  obtain ⟨ser, c, hh, m, fz, e, hw, hl⟩ := b.mem
  have hz : c.size = l.length := by rw [← Cells.toL_length hw, hl]
  unfold storeR
  simp only [hc]
  unfold writeN putG
  have h1 : Nat.ble (Nat.add i 1) c.size = true := ble_iff.2 (by show i + 1 ≤ _; omega)
  have h2 : Nat.ble 0 i = true := ble_iff.2 (by omega)
  have h3 : Nat.beq g g = true := by simp
  simp only [e, h1, h2, h3, ofL_size1, ofL_atoms ha, T.setK_eq]
  rfl
theorem Gro.one {h : Hp} {id : Pos} {g : Nat} {l : List AV} (b : Gro h id g l) {i : Nat} (hi : i < l.length) : read1 h id g i = some l[i] := by
  have := b.row.one i hi
  rw [Nat.zero_add, List.getElem?_eq_getElem hi] at this
  exact this
theorem Gro.sl {h : Hp} {id : Pos} {g : Nat} {l : List AV} (b : Gro h id g l) {n cap : Nat} {ex : Bool} (hn : n ≤ l.length) : SlN h 1 (.sl id g 0 n cap ex 1) n (l.take n) := by
  refine .mk (by simp; omega) ?_
  have := b.part (off := 0) (n := n) (by omega)
  simpa using this
section
variable {d : Option Pos} {n : Nat} {op : AOp} {ok : Bool} {b : Nat} {env : T AV} {h : Hp} {P : Program}
theorem wanted_tt (q : sv env n = .bool true) : wantedA ⟨d, some (Pos.ofNat n, true), op, ok, b⟩ env = true := by rw [wanted_sv, q]; rfl
theorem wanted_tf (q : sv env n = .bool false) : wantedA ⟨d, some (Pos.ofNat n, true), op, ok, b⟩ env = false := by rw [wanted_sv, q]; rfl
theorem wanted_ft (q : sv env n = .bool true) : wantedA ⟨d, some (Pos.ofNat n, false), op, ok, b⟩ env = false := by rw [wanted_sv, q]; rfl
theorem wanted_ff (q : sv env n = .bool false) : wantedA ⟨d, some (Pos.ofNat n, false), op, ok, b⟩ env = true := by rw [wanted_sv, q]; rfl
theorem pick_t {x y : Opd} (q : sv env n = .bool true) : evalOp P (.pick (tm n) x y) env h = .val (ev env x) h := by rw [qev_pick, ev_tm, q]
theorem pick_f {x y : Opd} (q : sv env n = .bool false) : evalOp P (.pick (tm n) x y) env h = .val (ev env y) h := by rw [qev_pick, ev_tm, q]
theorem fld0 {id : Pos} {g o : Nat} : fldA 0 (.ptr id g o) h = .val (.ptr id g o) h := (fldA_ptr _ _ _ _ _).trans (by rw [Nat.add_zero])
theorem fldN {off : Nat} (hn : off ≠ 0) {id : Pos} {g o : Nat} : fldA off (.ptr id g o) h = .val (.ptr id g (o + off)) h := fldA_ptr _ _ _ _ _
end
theorem mkSl_room (P : Program) {h : Hp} {l c bytes : Nat} {z : AV} (hlc : l ≤ c) (hc : c ≤ 1073741824) (hb : bytes ≤ 4096) :
    ∃ h', (∀ env x y, ev env x = int64 (l : Nat) → ev env y = int64 (c : Nat) → evalOp P (.mkSl 1 bytes [z] x y) env h = .val (.sl h.next 0 0 l c true 1) h') ∧ Gro h' h.next 0 (List.replicate c z) ∧ Only [] h h' ∧ h'.next.num = h.next.num + 1 := by
  refine ⟨newH h fun _ => .cells 0 (Cells.ofL (replA c [z] [])) 0 0 0 0 false false, fun env x y hx hy => ?_, ?_, newH_only _ _ _, newH_next _ _⟩
  · have e : evalOp P (.mkSl 1 bytes [z] x y) env h = (match ev env x, ev env y with
      | .int _ (.ofNat l), .int _ (.ofNat c) => bif Nat.ble l c && okSize c bytes && Nat.blt 0 1 then newCells h (Cells.ofL (replA c [z] [])) fun id h => .val (.sl id 0 0 l c true 1) h else .fail "mkSl size"
      | _, _ => .fail "mkSl") := rfl
    rw [e, hx, hy]
    show (bif Nat.ble l c && okSize c bytes && Nat.blt 0 1 then newCells h (Cells.ofL (replA c [z] [])) fun id h => Res.val (.sl id 0 0 l c true 1) h else .fail "mkSl size") = _
    rw [ble_iff.2 hlc, okSize_small hc hb]
    simp only [show Nat.blt 0 1 = true from rfl, Bool.and_self, cond_true]
    unfold newCells
    rw [newK_newH]
  · have q := (newH_arr h (replA c [z] [])).gro
    have e : replA c [z] [] = List.replicate c z := by rw [replA_one, List.append_nil]
    rw [e] at q ⊢
    exact q
end Go.Proofs.YtjhgembcdndmkaaGreatDoor.Am

namespace Go.Proofs.YtjhgembcdndmkaaGreatDoor.Am
open Go.RowKit
theorem append_over (P : Program) {h : Hp} {v : AV} {id : Pos} {g k cap : Nat} {L l2 : List AV} {bytes : Nat} (ha : Gro h id g L) (hv : SlR h v l2) (hk : cap < k + l2.length) (hL : k ≤ L.length) (h0 : l2 ≠ []) (hl : k + l2.length ≤ 1073741824) (hb : bytes ≤ 4096) :
    ∃ h', (∀ env s x, ev env s = .sl id g 0 k cap true 1 → ev env x = v → evalOp P (.append 1 bytes s x) env h = .val (.sl h.next 0 0 (k + l2.length) (k + l2.length) false 1) h') ∧ Gro h' h.next 0 (L.take k ++ l2) ∧ Only [] h h' ∧ h'.next.num = h.next.num + 1 := by
  cases hv with
  | nil => exact absurd rfl h0
  | emp => exact absurd rfl h0
  | mk hn r =>
    rename_i id2 g2 off2 n2 cap2 ex2
    subst hn
    have hpos : 0 < l2.length := List.length_pos_iff.2 h0
    obtain ⟨seg, c1, c2, c3⟩ := r.all
    have src : srcCells h 1 l2.length (.sl id2 g2 off2 l2.length cap2 ex2 1) = some seg := by
      show readN h id2 g2 off2 (l2.length * 1) = some seg
      rw [Nat.mul_one]; exact c1
    have ok : okSize (Nat.add k l2.length) bytes = true := by
      exact okSize_small (show Nat.add k l2.length ≤ _ from hl) hb
    obtain ⟨old, o1, o2, o3⟩ := (ha.part (off := 0) (n := k) (by omega)).all
    rw [List.length_take, List.drop_zero, Nat.min_eq_left hL] at o1
    rw [List.drop_zero] at o3
    obtain ⟨p1, p2, p3⟩ := Cells.app_spec o2 c2
    have q := (⟨by rw [newH_next]; omega, _, _, _, newH_get h (fun _ => .cells (noteB bytes) (old.app seg) 0 0 0 0 false false), p1, rfl⟩ : Arr (newH h fun _ => .cells (noteB bytes) (old.app seg) 0 0 0 0 false false) h.next (old.app seg).toL)
    refine ⟨newH h fun _ => .cells (noteB bytes) (old.app seg) 0 0 0 0 false false, fun env s x hs hx => ?_, ?_, newH_only _ _ _, newH_next _ _⟩
    · show appendA h 1 bytes (ev env s) (ev env x) = _
      rw [hs, hx]
      unfold appendA
      simp only [lenA, beq_false.2 (show l2.length ≠ 0 by omega), cond_false, src]
      unfold appendSeg
      have hm : Nat.mul k 1 = k := Nat.mul_one k
      simp only [natK_eq, ok, show Nat.beq 1 1 = true from rfl, show Nat.blt 0 1 = true from rfl, Bool.and_true, Bool.and_self, Bool.not_true, cond_false, cond_true, show Nat.ble (Nat.add k l2.length) cap = false from ble_false.2 hk, hm, o1]
      unfold newCellsN
      rw [newK_newH]
      rfl
    · have := q.gro
      rw [p2, o3, c3] at this
      exact this
def Mine (N : Nat) (h : Hp) (v : AV) (l : List UInt8) : Prop :=
  Held N h 1 v l.length (byt l) ∨ ∃ id L, N ≤ id.num ∧ v = .sl id 0 0 l.length L.length true 1 ∧ Gro h id 0 L ∧ L.take l.length = byt l ∧ l.length ≤ L.length
section
variable {N : Nat} {h : Hp} {v : AV} {l : List UInt8}
theorem Mine.sl (o : Mine N h v l) : SlN h 1 v l.length (byt l) := by
  rcases o with o | ⟨id, L, _, q, g, e, hl⟩
  · exact o.sl
  · subst q
    have := g.sl (n := l.length) (cap := L.length) (ex := true) hl
    rwa [e] at this
theorem Mine.old (o : Mine N h v l) {id : Pos} (q : InN 1 v id) : N ≤ id.num ∧ id.num < h.next.num := by
  rcases o with o | ⟨id', L, hN, e, g, _, _⟩
  · exact o.old q
  · obtain ⟨g', off, k, cap, ex, e'⟩ := q
    rw [e] at e'; cases e'
    exact ⟨hN, g.old⟩
theorem Mine.only {h' : Hp} {S : List Pos} (o : Mine N h v l) (m : Only S h h') (hS : ∀ id, InN 1 v id → id ∉ S) : Mine N h' v l := by
  rcases o with o | ⟨id, L, hN, e, g, q⟩
  · exact .inl (o.only m hS)
  · exact .inr ⟨id, L, hN, e, g.only m (hS id ⟨_, _, _, _, _, e⟩), q⟩
theorem Mine.more {h' : Hp} (o : Mine N h v l) (m : Only [] h h') : Mine N h' v l := o.only m (by simp)
theorem Mine.weak {N' : Nat} (o : Mine N h v l) (hN : N' ≤ N) : Mine N' h v l := by
  rcases o with o | ⟨id, L, q, r⟩
  · exact .inl (o.weak hN)
  · exact .inr ⟨id, L, by omega, r⟩
theorem SlN.slR {n : Nat} {L : List AV} (r : SlN h 1 v n L) : SlR h v L := by
  cases r with
  | nil => exact .nil
  | emp => exact .emp
  | mk hn r => rw [Nat.mul_one] at hn; exact .mk hn.symm r
theorem Mine.push (o : Mine N h v l) (P : Program) {v2 : AV} {l2 : List UInt8} {bytes : Nat} (hv : SlN h 1 v2 l2.length (byt l2)) (hl : l.length + l2.length ≤ 1000000) (hb : bytes ≤ 4096) (hN : N ≤ h.next.num) :
    ∃ v' h' S, (∀ env s x, ev env s = v → ev env x = v2 → evalOp P (.append 1 bytes s x) env h = .val v' h') ∧ Mine N h' v' (l ++ l2) ∧ Only S h h' ∧ (∀ id ∈ S, InN 1 v id) ∧ ∀ id, InN 1 v' id → InN 1 v id ∨ h.next.num ≤ id.num := by
  rcases o with o | ⟨id, L, hN', e, g, ht, hlL⟩
  · obtain ⟨v', h', S, q1, q2, q3, q4, q5⟩ := o.push P hv (byt_atom l2) (by omega) (okSize_small (show l.length + l2.length ≤ _ by omega) hb) hN
    exact ⟨v', h', S, q1, .inl (by rw [List.length_append, byt_append]; exact q2), q3, q4, q5⟩
  · subst e
    have hlen : (byt l2).length = l2.length := byt_length l2
    by_cases hfit : l.length + l2.length ≤ L.length
    · obtain ⟨h', q1, q2, q3, q4⟩ := append_room P (ex := true) (cap := L.length) g hv.slR (k := l.length) (by rw [hlen]; exact hfit) (by rw [hlen]; exact hfit) (by rw [hlen]; omega) hb (byt_atom l2)
      rw [hlen] at q1 q2
      have e2 : (List.take l.length L ++ byt l2 ++ List.drop (l.length + l2.length) L).length = L.length := by
        simp [hlen]; omega
      refine ⟨_, h', [id], q1, .inr ⟨id, _, hN', by rw [e2, List.length_append], q2, ?_, by rw [e2, List.length_append]; exact hfit⟩, q3, fun j hj => by simp at hj; subst hj; exact ⟨_, _, _, _, _, rfl⟩, fun j ⟨_, _, _, _, _, e⟩ => by cases e; exact .inl ⟨_, _, _, _, _, rfl⟩⟩
      rw [ht, List.length_append, ← byt_append, ← List.length_append, ← byt_length (l ++ l2), List.take_left]
    · have h0 : byt l2 ≠ [] := by
        intro c
        have := congrArg List.length c
        rw [hlen] at this
        simp at this
        rw [this] at hfit
        simp at hfit
        omega
      obtain ⟨h', q1, q2, q3, q4⟩ := append_over P (cap := L.length) g hv.slR (k := l.length) (by rw [hlen]; omega) hlL h0 (by rw [hlen]; omega) hb
      rw [hlen] at q1
      rw [ht, ← byt_append] at q2
      exact ⟨_, h', [], q1, .inl (.inr ⟨h.next, 0, hN, by rw [List.length_append], q2, by rw [byt_length, Nat.mul_one]⟩), q3, by simp, fun j ⟨_, _, _, _, _, e⟩ => by cases e; exact .inr (Nat.le_refl _)⟩
end
theorem oneB (P : Program) (h : Hp) (b : UInt8) (z : AV) : ∃ h', (∀ env x, ev env x = .int .u8 b.toNat → evalOp P (.buildSl 1 1 [z] [(0, 1, x)]) env h = .val (.sl h.next 0 0 1 1 true 1) h') ∧ SlN h' 1 (.sl h.next 0 0 1 1 true 1) [b].length (byt [b]) ∧ Only [] h h' ∧ h'.next.num = h.next.num + 1 := by
  obtain ⟨h', q1, q2, q3, q4⟩ := build1' P h z (.int .u8 b.toNat) rfl
  refine ⟨h', q1, ?_, q3, q4⟩
  cases q2 with
  | mk hn r => exact .mk (by simp [byt_length]) r
end Go.Proofs.YtjhgembcdndmkaaGreatDoor.Am

namespace Go.Proofs.YtjhgembcdndmkaaGreatDoor.Am
open Go.RowKit
theorem rec_of {P : Program} (A : List KC) (hA : ∀ a ∈ A, AmFn P a.f a.args a.h a.v a.h') (hd : A.Pairwise fun a b => a.f ≠ b.f ∨ a.h.next ≠ b.h.next) :
    ∃ R, Sound P R ∧ (∀ a ∈ A, R ⟨frOf P a.f a.args, [], a.h⟩ = .done a.v a.h') ∧ ∀ a ∈ A, beginFn P a.f a.args = some (frOf P a.f a.args) := by
  refine ⟨recG P A, recG_sound hA, ?_, fun a ha => (hA a ha).begins.1⟩
  induction A with
  | nil => intro a ha; cases ha
  | cons b A ih =>
    intro a ha
    rcases List.mem_cons.1 ha with e | m
    · subst e; exact recG_hit _ _ _ _ _ _
    · rw [List.pairwise_cons] at hd
      refine recG_next (ih (fun x hx => hA x (List.mem_cons_of_mem _ hx)) hd.2 a m) fun q1 q2 => ?_
      rcases hd.1 a m with c | c
      · exact absurd (frOf_fn (hA b (by simp)) (hA a ha) q1.symm) c
      · exact absurd (by rw [q2]) c
theorem buildN_resv (P : Program) {env : T AV} {id : Pos} {ser lim n : Nat} {z : AV} {parts : List (Nat × Nat × Opd)} {l : List AV} (f : fillA env (replA n [z] []) parts = some l) :
    evalOp P (.buildSl n 1 [z] parts) env ⟨.e, id, ser, lim⟩ = .val (.sl id 0 0 n n true 1) ⟨T.set id (some (.cells 0 (Cells.ofL l) 0 0 0 0 false false)) .e, id.succ, Nat.succ ser, lim⟩ := by
  have e : evalOp P (.buildSl n 1 [z] parts) env ⟨.e, id, ser, lim⟩ = (match fillA env (replA n [z] []) parts with
    | some l => bif Nat.blt 0 1 then newCells ⟨.e, id, ser, lim⟩ (Cells.ofL l) fun id h => .val (.sl id 0 0 n n true 1) h else .fail "buildSl"
    | none => .fail "buildSl") := rfl
  rw [e, f]
  show (bif Nat.blt 0 1 then newCells _ (Cells.ofL _) fun id h => Res.val (.sl id 0 0 n n true 1) h else .fail "buildSl") = _
  rw [show Nat.blt 0 1 = true from rfl, cond_true]
  unfold newCells
  rw [newK_newH]
  rfl
noncomputable def bytB' (b : List UInt8) : Blk := .cells 0 (.byt b.length (pack b)) 0 0 0 0 false true
theorem byt_toL (b : List UInt8) : (Cells.byt b.length (pack b)).toL = byt b := by
  show bytesL b.length (pack b) = _
  rw [bytesL_eq, unpack_pack]; rfl
theorem strBytes_resv (P : Program) {env : T AV} {id : Pos} {ser lim : Nat} {x : Opd} {b : List UInt8} (hx : ev env x = strOf b) (hb : b.length ≤ 1000000) :
    evalOp P (.strBytes x) env ⟨.e, id, ser, lim⟩ = .val (.sl id 0 0 b.length b.length false 1) ⟨T.set id (some (bytB' b)) .e, id.succ, Nat.succ ser, lim⟩ := by
  have e : evalOp P (.strBytes x) env ⟨.e, id, ser, lim⟩ = (match ev env x with
    | .str n v => bif Nat.ble n 1073741824 then newK ⟨.e, id, ser, lim⟩ (fun _ => .cells 0 (.byt n v) 0 0 0 0 false true) fun id h => .val (.sl id 0 0 n n false 1) h else .fail "strBytes"
    | _ => .fail "strBytes") := rfl
  rw [e, hx]
  show (bif Nat.ble b.length 1073741824 then newK ⟨.e, id, ser, lim⟩ (fun _ => .cells 0 (.byt b.length (pack b)) 0 0 0 0 false true) fun id h => Res.val (.sl id 0 0 b.length b.length false 1) h else .fail "strBytes") = _
  rw [ble_iff.2 (by omega), cond_true, newK_newH]
  rfl
theorem layH_byt {h : Hp} {id : Pos} (hid : id.num < h.next.num) (b : List UInt8) : SlN (layH h id (bytB' b)) 1 (.sl id 0 0 b.length b.length false 1) b.length (byt b) := by
  have q := Row.of_block (h := layH h id (bytB' b)) (id := id) (off := 0) (n := b.length) (c := .byt b.length (pack b)) (by show T.get id (T.set id _ h.heap) = _; rw [T.get_set, if_pos rfl]; rfl) (pack_lt b) hid (Nat.le_refl _) (Nat.le_of_eq (Nat.zero_add _))
  rw [byt_toL, List.drop_zero, List.take_of_length_le (by rw [byt_length]; omega)] at q
  exact .mk (by rw [byt_length, Nat.mul_one]) q
theorem strBytes_new (P : Program) {h : Hp} {b : List UInt8} (hb : b.length ≤ 1000000) : ∃ h', (∀ env x, ev env x = strOf b → evalOp P (.strBytes x) env h = .val (.sl h.next 0 0 b.length b.length false 1) h') ∧ SlN h' 1 (.sl h.next 0 0 b.length b.length false 1) b.length (byt b) ∧ Only [] h h' ∧ h'.next.num = h.next.num + 1 := by
  refine ⟨newH h fun _ => bytB' b, fun env x hx => ?_, ?_, newH_only _ _ _, newH_next _ _⟩
  · have e : evalOp P (.strBytes x) env h = (match ev env x with
      | .str n v => bif Nat.ble n 1073741824 then newK h (fun _ => .cells 0 (.byt n v) 0 0 0 0 false true) fun id h => .val (.sl id 0 0 n n false 1) h else .fail "strBytes"
      | _ => .fail "strBytes") := rfl
    rw [e, hx]
    show (bif Nat.ble b.length 1073741824 then newK h (fun _ => .cells 0 (.byt b.length (pack b)) 0 0 0 0 false true) fun id h => Res.val (.sl id 0 0 b.length b.length false 1) h else .fail "strBytes") = _
    rw [ble_iff.2 (by omega), cond_true, newK_newH]
    rfl
  · have q := Row.of_block (h := newH h fun _ => bytB' b) (id := h.next) (off := 0) (n := b.length) (c := .byt b.length (pack b)) (newH_get _ _) (pack_lt b) (by rw [newH_next]; omega) (Nat.le_refl _) (Nat.le_of_eq (Nat.zero_add _))
    rw [byt_toL, List.drop_zero, List.take_of_length_le (by rw [byt_length]; omega)] at q
    exact .mk (by rw [byt_length, Nat.mul_one]) q
end Go.Proofs.YtjhgembcdndmkaaGreatDoor.Am

namespace Go.Proofs.YtjhgembcdndmkaaGreatDoor.Am
open Go.RowKit
theorem pack_append (a b : List UInt8) : pack (a ++ b) = pack a * 256 ^ b.length + pack b := by
  induction a with
  | nil => show pack b = pack [] * _ + _; rw [show pack [] = 0 from rfl]; omega
  | cons x a ih =>
    rw [List.cons_append, pack_cons, ih, pack_cons, List.length_append, Nat.pow_add, Nat.add_mul, Nat.mul_assoc]; omega
theorem bin_addS (kd : EK) (no : Bool) (a b : List UInt8) (h : a.length + b.length ≤ 1000000) : binA .add kd no (strOf a) (strOf b) = some (strOf (a ++ b)) := by
  have e : binA .add kd no (strOf a) (strOf b) = natK (Nat.add a.length b.length) fun l => bif Nat.ble l i64max then natK (Nat.add (Nat.mul (pack a) (Nat.pow 256 b.length)) (pack b)) fun r => some (.str l r) else none := rfl
  rw [e]
  simp only [natK_eq]
  rw [ble_iff.2 (show Nat.add a.length b.length ≤ i64max from by show a.length + b.length ≤ 9223372036854775807; omega), cond_true]
  show some (AV.str (a.length + b.length) (pack a * 256 ^ b.length + pack b)) = some (AV.str (a ++ b).length (pack (a ++ b)))
  rw [List.length_append, pack_append]
theorem byteAt_pack {s : List UInt8} {i : Nat} (hi : i < s.length) : byteAt s.length (pack s) i = s[i].toNat := by
  have h := byteAt_get (s := ⟨s.toArray⟩) (n := s.length) (v := pack s) (by show s = _; rw [unpack_pack]) hi
  rw [← h]
  show (s.toArray[i]!).toNat = _
  rw [getElem!_pos s.toArray i (by simpa using hi)]
  simp
theorem qev_idxStr (P : Program) {env : T AV} {h : Hp} {x y : Opd} {s : List UInt8} {i : Nat} (hx : ev env x = strOf s) (hy : ev env y = .int .i64 (i : Int)) (hi : i < s.length) : evalOp P (.idxStr x y) env h = .val (.int .u8 (s[i].toNat : Int)) h := by
  have e : evalOp P (.idxStr x y) env h = (match ev env x, ev env y with
    | .str n v, .int _ (.ofNat i) => bif Nat.blt i n then natK (byteAt n v i) fun b => .val (byteV b) h else .fail "idxStr bounds"
    | _, _ => .fail "idxStr") := rfl
  rw [e, hx, hy]
  show (bif Nat.blt i s.length then natK (byteAt s.length (pack s) i) fun b => Res.val (byteV b) h else .fail "idxStr bounds") = _
  simp only [natK_eq]
  rw [show Nat.blt i s.length = true from by rw [Nat.blt]; exact ble_iff.2 hi, cond_true, byteAt_pack hi]
  rfl
theorem frOf_arg {P : Program} {f : FuncId} {x y : AV} {h h' h1 h1' : Hp} {v v1 : AV} (a : AmFn P f [x] h v h') (b : AmFn P f [y] h1 v1 h1') (e : frOf P f [x] = frOf P f [y]) : x = y := by
  have q1 := a.begins.1
  have q2 := b.begins.1
  rw [e] at q1
  have q : beginFn P f [x] = beginFn P f [y] := q1.trans q2.symm
  unfold beginFn at q
  unfold beginFn at q1 q2
  split at q1
  · rename_i fu hfu
    rw [hfu] at q
    cases hl : Nat.ble ([x] : List AV).length fu.nargs with
    | true =>
      have hl2 : Nat.ble ([y] : List AV).length fu.nargs = true := hl
      simp only [hl, hl2, cond_true] at q
      have q' := congrArg (fun o : Option Fr => match o with | some fr => sv fr.env 0 | none => .undef) q
      simpa [sv_args] using q'
    | false => rw [hl] at q1; cases q1
  · cases q1
theorem rec_of1 {P : Program} (A : List KC) (hA : ∀ a ∈ A, AmFn P a.f a.args a.h a.v a.h') (hd : A.Pairwise fun a b => a.f ≠ b.f ∨ a.h.next ≠ b.h.next ∨ ∃ x y, a.args = [x] ∧ b.args = [y] ∧ x ≠ y) :
    ∃ R, Sound P R ∧ (∀ a ∈ A, R ⟨frOf P a.f a.args, [], a.h⟩ = .done a.v a.h') ∧ ∀ a ∈ A, beginFn P a.f a.args = some (frOf P a.f a.args) := by
  refine ⟨recG P A, recG_sound hA, ?_, fun a ha => (hA a ha).begins.1⟩
  induction A with
  | nil => intro a ha; cases ha
  | cons b A ih =>
    intro a ha
    rcases List.mem_cons.1 ha with e | m
    · subst e; exact recG_hit _ _ _ _ _ _
    · rw [List.pairwise_cons] at hd
      refine recG_next (ih (fun x hx => hA x (List.mem_cons_of_mem _ hx)) hd.2 a m) fun q1 q2 => ?_
      have hf := frOf_fn (hA b (by simp)) (hA a ha) q1.symm
      rcases hd.1 a m with c | c | ⟨x, y, ex, ey, c⟩
      · exact absurd hf c
      · exact absurd (by rw [q2]) c
      · have k1 := hA b (by simp)
        have k2 := hA a ha
        rw [← hf, ey] at k2 q1
        rw [ex] at k1 q1
        exact absurd (frOf_arg k1 k2 q1.symm) c
end Go.Proofs.YtjhgembcdndmkaaGreatDoor.Am

namespace Go.Proofs.YtjhgembcdndmkaaGreatDoor.Am
open Go.RowKit
theorem src_str (h : Hp) (b : List UInt8) : ∃ c, srcCells h 1 b.length (strOf b) = some c ∧ c.wf ∧ c.toL = byt b := by
  have hw : (Cells.byt b.length (pack b)).wf := pack_lt b
  obtain ⟨q1, q2, q3⟩ := Cells.sub_spec hw (off := 0) (n := b.length) (by show 0 + b.length ≤ b.length; omega)
  refine ⟨_, ?_, q1, ?_⟩
  · show (bif Nat.beq 1 1 && Nat.ble b.length b.length then some ((Cells.byt b.length (pack b)).sub 0 b.length) else none) = _
    rw [ble_iff.2 (Nat.le_refl _)]
    rfl
  · rw [q2, byt_toL, List.drop_zero, List.take_of_length_le (by rw [byt_length]; omega)]
theorem append_groS (P : Program) {h : Hp} {id : Pos} {g : Nat} {l : List AV} {b : List UInt8} {bytes : Nat} (ha : Gro h id g l) (h0 : b ≠ []) (hl : l.length + b.length ≤ 1073741824) (hb : bytes ≤ 4096) :
    ∃ h', (∀ env s x, ev env s = .sl id g 0 l.length l.length false 1 → ev env x = strOf b → evalOp P (.append 1 bytes s x) env h = .val (.sl id (g + 1) 0 (l.length + b.length) (l.length + b.length) false 1) h') ∧ Gro h' id (g + 1) (l ++ byt b) ∧ Only [id] h h' ∧ h'.next = h.next := by
  have hpos : 0 < b.length := List.length_pos_iff.2 h0
  obtain ⟨seg, src, c2, c3⟩ := src_str h b
  have ok : okSize (Nat.add l.length b.length) bytes = true := okSize_small (show Nat.add l.length b.length ≤ _ from hl) hb
  obtain ⟨ser, c, hi, m, fz, eb, hw, hcl⟩ := ha.mem
  have hcs : c.size = l.length := by rw [← Cells.toL_length hw, hcl]
  have ats : seg.atoms = true := by
    cases seg with
    | byt n v => rfl
    | lst n L =>
      have : L = byt b := c3
      subst this
      show List.all _ _ = true
      rw [List.all_eq_true]
      exact byt_atom b
  obtain ⟨q1, q2, q3⟩ := Cells.sub_spec hw (off := 0) (n := l.length) (by omega)
  obtain ⟨p1, p2, p3⟩ := Cells.app_spec q1 c2
  have hn1 : Nat.ble (Nat.add l.length b.length) l.length = false := ble_false.2 (show l.length < l.length + b.length by omega)
  have ht : Nat.add 0 (Nat.mul l.length 1) = l.length := by show 0 + l.length * 1 = _; omega
  refine ⟨⟨T.set id (some (.cells (noteG bytes ser) ((c.sub 0 l.length).app seg) 0 (bif Nat.blt m g then (bif Nat.ble hi l.length then hi else l.length) else l.length) (Nat.succ g) m false fz)) h.heap, h.next, h.ser, h.lim⟩, fun env s x hs hx => ?_, ⟨ha.old, noteG bytes ser, (c.sub 0 l.length).app seg, (bif Nat.blt m g then (bif Nat.ble hi l.length then hi else l.length) else l.length), m, fz, ?_, p1, ?_⟩, ⟨Nat.le_refl _, rfl, fun j _ q => ?_⟩, rfl⟩
  · show appendA h 1 bytes (ev env s) (ev env x) = _
    rw [hs, hx]
    unfold appendA
    simp only [show lenA (strOf b) = some b.length from rfl, beq_false.2 (show b.length ≠ 0 by omega), cond_false, src]
    unfold appendSeg
    simp only [natK_eq, ok, show Nat.beq 1 1 = true from rfl, show Nat.blt 0 1 = true from rfl, Bool.and_true, Bool.and_self, Bool.not_true, cond_false, hn1, eb, ht, beq_iff.2 (rfl : g = g), ble_iff.2 (show l.length ≤ c.size by omega), ats, T.setK_eq,
      show Nat.ble 0 0 = true from rfl, Bool.not_false, cond_true]
    rfl
  · show T.get id (T.set id _ h.heap) = _
    rw [T.get_set, if_pos rfl]
  · rw [p2, q2, c3, List.drop_zero, hcl, List.take_length]
  · show T.get j (T.set id _ h.heap) = _
    rw [T.get_set, if_neg (by simpa using q)]
def Byts (N : Nat) (h : Hp) (v : AV) (l : List UInt8) : Prop := Held N h 1 v l.length (byt l)
theorem Byts.sl {N : Nat} {h : Hp} {v : AV} {l : List UInt8} (o : Byts N h v l) : SlN h 1 v l.length (byt l) := Held.sl o
theorem Byts.old {N : Nat} {h : Hp} {v : AV} {l : List UInt8} (o : Byts N h v l) {id : Pos} (q : InN 1 v id) : N ≤ id.num ∧ id.num < h.next.num := Held.old o q
theorem Byts.only {N : Nat} {h h' : Hp} {S : List Pos} {v : AV} {l : List UInt8} (o : Byts N h v l) (m : Only S h h') (hS : ∀ id, InN 1 v id → id ∉ S) : Byts N h' v l := Held.only o m hS
theorem Byts.more {N : Nat} {h h' : Hp} {v : AV} {l : List UInt8} (o : Byts N h v l) (m : Only [] h h') : Byts N h' v l := o.only m (by simp)
theorem Byts.nil (N : Nat) (h : Hp) : Byts N h .nilSl [] := .inl ⟨rfl, rfl, .inl rfl⟩
theorem Byts.push {N : Nat} {h : Hp} {v : AV} {l : List UInt8} (o : Byts N h v l) (P : Program) {v2 : AV} {l2 : List UInt8} {bytes : Nat} (hv : SlN h 1 v2 l2.length (byt l2)) (hl : l.length + l2.length ≤ 1000000) (hb : bytes ≤ 4096) (hN : N ≤ h.next.num) :
    ∃ v' h' S, (∀ env s x, ev env s = v → ev env x = v2 → evalOp P (.append 1 bytes s x) env h = .val v' h') ∧ Byts N h' v' (l ++ l2) ∧ Only S h h' ∧ ∀ id ∈ S, InN 1 v id := by
  obtain ⟨v', h', S, q1, q2, q3, q4, _⟩ := Held.push o P hv (byt_atom l2) (by omega) (okSize_small (show l.length + l2.length ≤ _ by omega) hb) hN
  exact ⟨v', h', S, q1, by unfold Byts; rw [List.length_append, byt_append]; exact q2, q3, q4⟩
theorem Byts.pushS {N : Nat} {h : Hp} {v : AV} {l : List UInt8} (o : Byts N h v l) (P : Program) {b : List UInt8} {bytes : Nat} (h1 : l ≠ []) (h0 : b ≠ []) (hl : l.length + b.length ≤ 1000000) (hb : bytes ≤ 4096) :
    ∃ v' h' S, (∀ env s x, ev env s = v → ev env x = strOf b → evalOp P (.append 1 bytes s x) env h = .val v' h') ∧ Byts N h' v' (l ++ b) ∧ Only S h h' ∧ ∀ id ∈ S, InN 1 v id := by
  rcases o with ⟨q1, _⟩ | ⟨id, g, q0, q2, q3, q4⟩
  · exact absurd (List.length_eq_zero_iff.1 q1) h1
  · subst q2
    obtain ⟨h', e, a, o, k⟩ := append_groS P q3 h0 (by rw [byt_length]; omega) hb
    rw [byt_length] at e
    refine ⟨_, h', [id], e, .inr ⟨id, g + 1, q0, by rw [List.length_append], by rw [byt_append]; exact a, by rw [byt_length, Nat.mul_one]⟩, o, fun id' hid => by simp at hid; subst hid; exact ⟨_, _, _, _, _, rfl⟩⟩
end Go.Proofs.YtjhgembcdndmkaaGreatDoor.Am

namespace Go.Proofs.YtjhgembcdndmkaaGreatDoor.Am
open Go.RowKit
noncomputable def rowN (h : Hp) (l : List AV) : Hp := newH h fun _ => .cells 0 (Cells.ofL l) 0 0 0 0 false true
theorem rowN_get {h : Hp} {l : List AV} (id : Pos) : T.get id (rowN h l).heap = if id = h.next then some (.cells 0 (Cells.ofL l) 0 0 0 0 false true) else T.get id h.heap := by
  show T.get id (T.set h.next _ h.heap) = _
  rw [T.get_set]
theorem rowN_gro (h : Hp) (l : List AV) : Gro (rowN h l) h.next 0 l := by
  obtain ⟨q1, q2, _⟩ := Cells.ofL_spec l
  exact ⟨by unfold rowN; rw [newH_next]; omega, 0, _, 0, 0, true, by rw [rowN_get, if_pos rfl], q1, q2⟩
theorem rowN_only (h : Hp) (l : List AV) : Only [] h (rowN h l) := newH_only _ _ _
theorem rowN_next (h : Hp) (l : List AV) : (rowN h l).next = h.next.succ := rfl
theorem thawed_t {fz : Bool} {C : Array Value} {fr : Nat × Nat} (h : Thawed fz C fr) : Thawed true C fr := by
  unfold Thawed at *
  cases fz with
  | true => exact h
  | false => rw [if_neg (by simp)] at h; subst h; rw [if_pos rfl]; exact .inr (Nat.le_refl _)
theorem RelL.anyGet {φ ψ : Phi} {v : AV} {x : Value} (p : v.plain = true) (r : Rel φ v x) : Rel ψ v x := r.anyφ p
section
variable {P : Program} {h h' : Hp} {f : FuncId} {args : List AV} {v v2 : AV} {id : Pos} {g : Nat} {L l : List AV}
theorem AmFn.row (a : AmFn P f args h v h') (o : Only [] h h') (hg : Gro h' id g L) (hid : h.next.num ≤ id.num) (hl : ∀ (i : Nat) (y : AV), l[i]? = some y → L[i]? = some y ∧ y.plain = true)
    (hv : ∀ φ ψ x, (∀ r, φ id g = some r → ψ h.next 0 = some r) → Rel φ v x → Rel ψ v2 x) : AmFn P f args h v2 (rowN h l) := by
  refine a.renorm fun φ w φ' w' hR hz hR' hA => ?_
  obtain ⟨ho, ser, c, hi, m, fz, e, hw, hL⟩ := hg
  have B := hR'.blk id _ e
  obtain ⟨⟨_, b2, _, _, _, b6⟩, _⟩ := B
  obtain ⟨b, s, n, C, el, fr, e1, e2, e3, e4, e5⟩ := b6 g b2 (Nat.le_refl _)
  have hnum := hR.num hz
  let ψ : Phi := fun j k => if j.num < h.next.num then φ' j k else if j = h.next ∧ k = 0 then some (b, s, n) else none
  have hψ : ∀ j k, j.num < h.next.num → ψ j k = φ' j k := fun j k q => if_pos q
  have hψn : ψ h.next 0 = some (b, s, n) := by show (if _ then _ else _) = _; rw [if_neg (by omega), if_pos ⟨rfl, rfl⟩]
  have hψx : ∀ j k r, ψ j k = some r → (j.num < h.next.num ∧ φ' j k = some r) ∨ (j = h.next ∧ k = 0 ∧ r = (b, s, n)) := fun j k r q => by
    change (if _ then _ else _) = _ at q
    split at q
    · exact .inl ⟨by assumption, q⟩
    · split at q
      · rename_i c; cases q; exact .inr ⟨c.1, c.2, rfl⟩
      · cases q
  have nr : Nonro h' id := ⟨_, e, fun _ _ _ _ _ _ _ _ q => by cases q; rfl⟩
  have old : ∀ {j : Pos}, j.num < h.next.num → Nonro h' j → Nonro h j := fun {j} hj ⟨x, k, q⟩ => ⟨x, by rw [← o.same j hj (by simp)]; exact k, q⟩
  have new : ∀ {j : Pos}, j.num < h.next.num → Nonro h j → Nonro h' j := fun {j} hj ⟨x, k, q⟩ => ⟨x, by rw [o.same j hj (by simp)]; exact k, q⟩
  have getN : ∀ {j : Pos}, j ≠ h.next → T.get j (rowN h l).heap = T.get j h.heap := fun {j} hj => by rw [rowN_get, if_neg hj]
  have ne : ∀ {j : Pos}, j.num < h.next.num → j ≠ h.next := fun {j} hj q => by subst q; omega
  have apart : ∀ j k s' n', j.num < h.next.num → φ' j k = some (b, s', n') → False := fun j k s' n' hj q => by
    rcases hR'.sep id g b s n j k s' n' e1 q with c | ⟨c, _⟩
    · subst c; omega
    · exact c nr
  have hdom : ∀ j x, T.get j h.heap = some x → j.num < h.next.num := fun j x q => by
    rcases hR.dom j x q with c | ⟨c, _⟩
    · exact c
    · exact absurd hz c
  refine ⟨ψ, ⟨fun j x q => ?_, fun j k r q => ?_, fun j x q => ?_, fun j k b1 s1 n1 j' k' s2 n2 q q' => ?_, fun j k b1 s1 n1 q => ?_, fun k hk => ?_⟩, ⟨fun j k r q => ?_, hA.os, hA.output, hA.tape, hA.size, ?_, fun j k b1 s1 n1 q hb => ?_, fun j hw' q => ?_, hA.keep, rfl, fun j hw' q => ?_, fun j k r hw' q e' => ?_⟩, fun x q => hv φ' ψ x (fun r q => by rw [hψn, ← q, e1]) q⟩
  · by_cases c0 : j = h.next
    · subst c0
      rw [rowN_get, if_pos rfl] at q
      cases q
      obtain ⟨w1, w2, w3⟩ := Cells.ofL_spec l
      refine ⟨⟨w1, Nat.le_refl _, fun c => absurd c (Nat.lt_irrefl _), fun k hk => ?_, fun k k' c1 c2 c3 c4 c5 k1 k2 k3 k4 f1 f2 => ?_, fun k k1 k2 => ?_⟩, fun _ _ _ _ _ _ _ _ _ _ _ => .inl rfl⟩
      · show (if _ then _ else _) = _; rw [if_neg (by omega), if_neg fun q => by omega]
      · have : k = k' := by omega
        subst this; rw [f1] at f2; cases f2; rfl
      · obtain rfl : k = 0 := by omega
        refine ⟨b, s, n, C, el, fr, hψn, e2, e3, fun _ => thawed_t (e4 rfl), fun i y _ i2 hy => ?_⟩
        rw [w2] at hy
        obtain ⟨f1, f2⟩ := hl i y hy
        have hc : i < c.size := by
          have := (List.getElem?_eq_some_iff.1 f1).1
          rw [← hL, Cells.toL_length hw] at this
          exact this
        obtain ⟨o', x', g1, g2, g3⟩ := e5 i y (Nat.zero_le _) (by rw [if_pos rfl]; exact hc) (by rw [hL]; exact f1)
        exact ⟨o', x', g1, g2, g3.anyφ f2⟩
    · rw [getN c0] at q
      have hj := hdom j x q
      exact BR.cut hψ hnum hj (hR.blk j x q) (hR'.blk j x (by rw [o.same j hj (by simp)]; exact q))
  · rcases hψx j k r q with ⟨c, _⟩ | ⟨c, _, _⟩
    · exact .inl (by rw [rowN_next, Pos.num_succ]; omega)
    · subst c; exact .inl (by rw [rowN_next, Pos.num_succ]; omega)
  · by_cases c0 : j = h.next
    · subst c0; exact .inl (by rw [rowN_next, Pos.num_succ]; omega)
    · rw [getN c0] at q
      exact .inl (by rw [rowN_next, Pos.num_succ]; have := hdom j x q; omega)
  · rcases hψx j k _ q with ⟨c, d⟩ | ⟨c, _, d⟩ <;> rcases hψx j' k' _ q' with ⟨c', d'⟩ | ⟨c', _, d'⟩
    · rcases hR'.sep j k b1 s1 n1 j' k' s2 n2 d d' with r | ⟨r1, r2⟩
      · exact .inl r
      · refine .inr ⟨fun z => r1 (new c ?_), fun z => r2 (new c' ?_)⟩
        · obtain ⟨x, k1, k2⟩ := z; exact ⟨x, by rw [getN (ne c)] at k1; exact k1, k2⟩
        · obtain ⟨x, k1, k2⟩ := z; exact ⟨x, by rw [getN (ne c')] at k1; exact k1, k2⟩
    · cases d'; exact (apart _ _ _ _ c d).elim
    · cases d; exact (apart _ _ _ _ c' d').elim
    · exact .inl (c.trans c'.symm)
  · rcases hψx j k _ q with ⟨_, d⟩ | ⟨_, _, d⟩
    · exact hR'.inb _ _ _ _ _ d
    · cases d; exact hR'.inb _ _ _ _ _ e1
  · have := hR.glob k hk
    rw [hψ _ _ (hnum _ _ _ this)]; exact hA.le _ _ _ this
  · rw [hψ _ _ (hnum _ _ _ q)]; exact hA.le _ _ _ q
  · rw [rowN_next, Pos.num_succ]; omega
  · rcases hψx j k _ q with ⟨_, d⟩ | ⟨_, _, d⟩
    · exact hA.new _ _ _ _ _ d hb
    · cases d
      obtain ⟨g0, s0, n0, q0⟩ := hA.new _ _ _ _ _ e1 hb
      exact absurd (hnum _ _ _ q0) (by omega)
  · obtain ⟨x, k1, k2⟩ := q
    have c0 : j ≠ h.next := fun c => by
      rcases hw' with z | z
      · subst c; omega
      · subst c; rw [rowN_next, Pos.num_succ] at z; omega
    exact ⟨x, by rw [getN c0] at k1; exact k1, k2⟩
  · have c0 : j ≠ h.next := fun c => by
      rcases hw' with z | z
      · subst c; omega
      · subst c; rw [rowN_next, Pos.num_succ] at z; omega
    rw [getN c0]; exact q
  · rcases hψx j k _ e' with ⟨c, d⟩ | ⟨c, _, _⟩
    · exact hA.same j k r (.inl c) q d
    · rcases hw' with z | z
      · subst c; omega
      · subst c; rw [rowN_next, Pos.num_succ] at z; omega
theorem plain_byt (b : List UInt8) : ∀ (i : Nat) (y : AV), (byt b)[i]? = some y → y.plain = true := fun i y q => by
  have := List.mem_of_getElem? q
  obtain ⟨x, _, rfl⟩ := List.mem_map.1 this
  rfl
noncomputable abbrev slN (id : Pos) (n : Nat) (es : Nat) : AV := .sl id 0 0 n n false es
theorem rel_slN {φ ψ : Phi} {id j : Pos} {g n cap es : Nat} {ex : Bool} {x : Value} (h0 : 0 < n ∨ ex = false) (k : ∀ r, φ id g = some r → ψ j 0 = some r) (r : Rel φ (.sl id g 0 n cap ex es) x) : Rel ψ (slN j n es) x := by
  cases r with
  | sl h hb hs hl hc hlc hx ho => exact .sl (k _ h) hb hs hl (by omega) (Nat.le_refl _) (fun q => by cases q) ho
  | sl0 =>
    rcases h0 with h0 | h0
    · omega
    · cases h0
theorem AmFn.rowB {b : List UInt8} (a : AmFn P f args h v h') (m : Mine h.next.num h' v b) (o : Only [] h h') (hb : b ≠ []) : AmFn P f args h (slN h.next b.length 1) (rowN h (byt b)) := by
  have hpos : 0 < b.length := List.length_pos_iff.2 hb
  rcases m with m | ⟨id, L, hid, hv, hg, ht, hle⟩
  · rcases m with ⟨c, _⟩ | ⟨id, g, hid, hv, hg, _⟩
    · omega
    · refine a.row o hg hid (fun i y q => ⟨q, plain_byt b i y q⟩) fun φ ψ x k r => ?_
      rw [hv] at r
      exact rel_slN (.inl hpos) k r
  · refine a.row o hg hid (fun i y q => ⟨?_, plain_byt b i y q⟩) fun φ ψ x k r => ?_
    · rw [← ht, List.getElem?_take] at q
      split at q
      · exact q
      · cases q
    · rw [hv] at r
      exact rel_slN (.inl hpos) k r
theorem AmFn.rowBE {b : List UInt8} {z : AV} (hz : z.plain = true) (a : AmFn P f args h (.tup [v, z]) h') (m : Mine h.next.num h' v b) (o : Only [] h h') (hb : b ≠ []) : AmFn P f args h (.tup [slN h.next b.length 1, z]) (rowN h (byt b)) := by
  have hpos : 0 < b.length := List.length_pos_iff.2 hb
  have fin : ∀ {id : Pos} {g cap : Nat} {ex : Bool} {φ ψ : Phi} {x : Value}, v = .sl id g 0 b.length cap ex 1 → (∀ r, φ id g = some r → ψ h.next 0 = some r) → Rel φ (.tup [v, z]) x → Rel ψ (.tup [slN h.next b.length 1, z]) x := fun hv k r => by
    subst hv
    cases r with
    | @tup _ la q => cases la with
      | mk la => cases q with
        | cons q1 q2 => cases q2 with
          | cons q2 q3 =>
            cases q3
            exact .tup (.cons (rel_slN (.inl hpos) k q1) (.cons (q2.anyφ hz) .nil))
  rcases m with m | ⟨id, L, hid, hv, hg, ht, hle⟩
  · rcases m with ⟨c, _⟩ | ⟨id, g, hid, hv, hg, _⟩
    · omega
    · exact a.row o hg hid (fun i y q => ⟨q, plain_byt b i y q⟩) fun φ ψ x k r => fin hv k r
  · refine a.row o hg hid (fun i y q => ⟨?_, plain_byt b i y q⟩) fun φ ψ x k r => fin hv k r
    rw [← ht, List.getElem?_take] at q
    split at q
    · exact q
    · cases q
end
end Go.Proofs.YtjhgembcdndmkaaGreatDoor.Am

namespace Go.Proofs.YtjhgembcdndmkaaGreatDoor.Am
open Go.RowKit
noncomputable def adv (b : Pos) : Nat → Pos
  | 0 => b
  | n + 1 => (adv b n).succ
theorem adv_num (b : Pos) : ∀ n, (adv b n).num = b.num + n
  | 0 => rfl
  | n + 1 => by show (adv b n).succ.num = _; rw [Pos.num_succ, adv_num b n]; omega
theorem adv_eq (b : Pos) (m n : Nat) : (adv b m = adv b n) = (m = n) := propext ⟨fun e => by
  have := congrArg Pos.num e
  rw [adv_num, adv_num] at this
  omega, fun e => by rw [e]⟩
structure XB where
  id : Pos
  g : Nat
  own : Bool
  l : List AV
structure XB.Holds (h : Hp) (x : XB) : Prop where
  old : x.id.num < h.next.num
  mem : ∃ ser c hi m ro fz, T.get x.id h.heap = some (.cells ser c 0 hi x.g m ro fz) ∧ c.wf ∧ c.toL = x.l ∧ (x.own = true → ro = false)
theorem XB.Holds.only {S : List Pos} {h h' : Hp} {x : XB} (k : x.Holds h) (o : Only S h h') (hx : x.id ∉ S) : x.Holds h' :=
  ⟨Nat.lt_of_lt_of_le k.old o.next, by rw [o.same _ k.old hx]; exact k.mem⟩
theorem XB.Holds.part {h : Hp} {x : XB} (k : x.Holds h) {off n : Nat} (hn : off + n ≤ x.l.length) : Row h x.id x.g off ((x.l.drop off).take n) := by
  obtain ⟨ser, c, hi, m, ro, fz, e, hw, hl, _⟩ := k.mem
  have hz : c.size = x.l.length := by rw [← Cells.toL_length hw, hl]
  have q := Row.of_block (off := off) (n := n) e hw k.old (Nat.zero_le _) (by omega)
  rw [hl] at q
  exact q
theorem XB.Holds.gro {h : Hp} {x : XB} (k : x.Holds h) (o : x.own = true) : Gro h x.id x.g x.l := by
  obtain ⟨ser, c, hi, m, ro, fz, e, hw, hl, hr⟩ := k.mem
  obtain rfl := hr o
  exact ⟨k.old, ser, c, hi, m, fz, e, hw, hl⟩
theorem XB.Holds.of_gro {h : Hp} {id : Pos} {g : Nat} {l : List AV} (k : Gro h id g l) (o : Bool) : XB.Holds h ⟨id, g, o, l⟩ := by
  obtain ⟨k1, ser, c, hi, m, fz, e, hw, hl⟩ := k
  exact ⟨k1, ser, c, hi, m, false, fz, e, hw, hl, fun _ => rfl⟩
def AllH (X : List XB) (h : Hp) : Prop := ∀ x ∈ X, x.Holds h
def xget : List XB → Pos → Nat → Option (List AV)
  | [], _, _ => none
  | x :: X, id, g => if x.id = id then (if x.g = g then some x.l else none) else xget X id g
theorem xget_mem : ∀ {X : List XB} {id : Pos} {g : Nat} {l : List AV}, xget X id g = some l → ∃ x ∈ X, x.id = id ∧ x.g = g ∧ x.l = l
  | [], _, _, _, e => by cases e
  | x :: X, id, g, l, e => by
    unfold xget at e
    split at e
    · split at e
      · cases e; exact ⟨x, by simp, by assumption, by assumption, rfl⟩
      · cases e
    · obtain ⟨y, h1, h2⟩ := xget_mem e
      exact ⟨y, List.mem_cons_of_mem _ h1, h2⟩
theorem xget_part {X : List XB} {h : Hp} (hX : AllH X h) {id : Pos} {g : Nat} {l : List AV} (e : xget X id g = some l) {off n : Nat} (hn : off + n ≤ l.length) : Row h id g off ((l.drop off).take n) := by
  obtain ⟨x, m, rfl, rfl, rfl⟩ := xget_mem e
  exact (hX x m).part hn
def xcont (X : List XB) : AV → Option (List AV)
  | .nilSl => some []
  | .sl id g off n _ _ es => (xget X id g).bind fun l => if off + n * es ≤ l.length then some ((l.drop off).take (n * es)) else none
  | _ => none
inductive SlC (h : Hp) : AV → List AV → Prop where
  | nil : SlC h .nilSl []
  | mk {id : Pos} {g off n cap es : Nat} {ex : Bool} {L : List AV} (k : XB.Holds h ⟨id, g, false, L⟩) (hn : off + n * es ≤ L.length) : SlC h (.sl id g off n cap ex es) ((L.drop off).take (n * es))
theorem XB.Holds.look {h : Hp} {x : XB} (k : x.Holds h) : XB.Holds h ⟨x.id, x.g, false, x.l⟩ :=
  let ⟨k1, ser, c, hi, m, ro, fz, e, hw, hl, _⟩ := k
  ⟨k1, ser, c, hi, m, ro, fz, e, hw, hl, fun c => by cases c⟩
theorem SlC.slN {h : Hp} {v : AV} {l : List AV} (r : SlC h v l) : ∃ es n, SlN h es v n l := by
  cases r with
  | nil => exact ⟨1, 0, .nil⟩
  | @mk id g off n cap es ex L k hn => exact ⟨es, n, .mk (by rw [List.length_take, List.length_drop]; omega) (k.part hn)⟩
theorem xcont_ok {X : List XB} {h : Hp} (hX : AllH X h) {v : AV} {l : List AV} (e : xcont X v = some l) : SlC h v l := by
  cases v with
  | nilSl => cases e; exact .nil
  | sl id g off n cap ex es =>
    change ((xget X id g).bind fun l => if off + n * es ≤ l.length then some ((l.drop off).take (n * es)) else none) = _ at e
    cases q : xget X id g with
    | none => rw [q] at e; cases e
    | some L =>
      rw [q, Option.bind_some] at e
      split at e
      · rename_i hn
        cases e
        obtain ⟨x, m, rfl, rfl, rfl⟩ := xget_mem q
        exact .mk (hX x m).look hn
      · cases e
  | _ => cases e
inductive Qy where
  | sl (i : Nat)
  | blk (i : Nat)
  | bsl (i k : Nat)
  | ssl (i k : Nat)
def Whole (h : Hp) (id : Pos) (l : List AV) : Prop := XB.Holds h ⟨id, 0, false, l⟩
theorem Whole.eq {h : Hp} {id : Pos} {l l' : List AV} (a : Whole h id l) (b : Whole h id l') : l = l' := by
  obtain ⟨_, ser, c, hi, m, ro, fz, e, _, hl, _⟩ := a
  obtain ⟨_, ser', c', hi', m', ro', fz', e', _, hl', _⟩ := b
  rw [e] at e'
  cases e'
  exact hl.symm.trans hl'
theorem Holds.eq {h : Hp} {id : Pos} {g : Nat} {o o' : Bool} {l l' : List AV} (a : XB.Holds h ⟨id, g, o, l⟩) (b : XB.Holds h ⟨id, g, o', l'⟩) : l = l' := by
  obtain ⟨_, ser, c, hi, m, ro, fz, e, _, hl, _⟩ := a
  obtain ⟨_, ser', c', hi', m', ro', fz', e', _, hl', _⟩ := b
  rw [e] at e'
  cases e'
  exact hl.symm.trans hl'
theorem SlC.eq {h : Hp} {v : AV} {l l' : List AV} (a : SlC h v l) (b : SlC h v l') : l = l' := by
  cases a with
  | nil => cases b; rfl
  | mk k hn => cases b with
    | mk k' hn' => rw [Holds.eq k k']
def ContQ (h : Hp) (args : List AV) : Qy → List AV → Prop
  | .sl i, l => ∃ v, args[i]? = some v ∧ SlC h v l
  | .blk i, l => ∃ id, args[i]? = some (.ptr id 0 0) ∧ Whole h id l
  | .bsl i k, l => ∃ id L v, args[i]? = some (.ptr id 0 0) ∧ Whole h id L ∧ L[k]? = some v ∧ SlC h v l
  | .ssl i k, l => ∃ u L v, args[i]? = some u ∧ SlC h u L ∧ L[k]? = some v ∧ SlC h v l
theorem ContQ.eq {h : Hp} {args : List AV} {q : Qy} {l l' : List AV} (a : ContQ h args q l) (b : ContQ h args q l') : l = l' := by
  cases q with
  | sl i =>
    obtain ⟨v, e, r⟩ := a
    obtain ⟨v', e', r'⟩ := b
    rw [e] at e'; cases e'
    exact r.eq r'
  | blk i =>
    obtain ⟨id, e, r⟩ := a
    obtain ⟨id', e', r'⟩ := b
    rw [e] at e'; cases e'
    exact r.eq r'
  | bsl i k =>
    obtain ⟨id, L, v, e, r, w, s⟩ := a
    obtain ⟨id', L', v', e', r', w', s'⟩ := b
    rw [e] at e'; cases e'
    cases r.eq r'
    rw [w] at w'; cases w'
    exact s.eq s'
  | ssl i k =>
    obtain ⟨u, L, v, e, r, w, s⟩ := a
    obtain ⟨u', L', v', e', r', w', s'⟩ := b
    rw [e] at e'; cases e'
    cases r.eq r'
    rw [w] at w'; cases w'
    exact s.eq s'
def Conts (h : Hp) (args : List AV) : List Qy → List (List AV) → Prop
  | [], cs => cs = []
  | q :: qs, cs => ∃ c r, cs = c :: r ∧ ContQ h args q c ∧ Conts h args qs r
theorem Conts.eq {h : Hp} {args : List AV} : ∀ {qs : List Qy} {cs cs' : List (List AV)}, Conts h args qs cs → Conts h args qs cs' → cs = cs'
  | [], _, _, a, b => by rw [show _ = [] from a, show _ = [] from b]
  | _ :: qs, _, _, ⟨_, _, e, a, t⟩, ⟨_, _, e', a', t'⟩ => by subst e e'; rw [a.eq a', Conts.eq t t']
def xwhole : List XB → Pos → Option (List AV)
  | [], _ => none
  | x :: X, id => if x.id = id then (if x.g = 0 then some x.l else none) else xwhole X id
theorem xwhole_ok {X : List XB} {h : Hp} (hX : AllH X h) : ∀ {id : Pos} {l : List AV}, xwhole X id = some l → Whole h id l := by
  induction X with
  | nil => intro id l e; cases e
  | cons x X ih =>
    intro id l e
    unfold xwhole at e
    split at e
    · rename_i c
      split at e
      · rename_i c0
        cases e
        obtain ⟨k1, ser, cc, hi, m, ro, fz, q, hw, hl, _⟩ := hX x (by simp)
        subst c
        exact ⟨k1, ser, cc, hi, m, ro, fz, by rw [c0] at q; exact q, hw, hl, fun c => by cases c⟩
      · cases e
    · exact ih (fun y hy => hX y (List.mem_cons_of_mem _ hy)) e
def xq (X : List XB) (args : List AV) : Qy → Option (List AV)
  | .sl i => (args[i]?).bind (xcont X)
  | .blk i => match args[i]? with
    | some (.ptr id 0 0) => xwhole X id
    | _ => none
  | .bsl i k => match args[i]? with
    | some (.ptr id 0 0) => (xwhole X id).bind fun L => (L[k]?).bind (xcont X)
    | _ => none
  | .ssl i k => (args[i]?).bind fun u => (xcont X u).bind fun L => (L[k]?).bind (xcont X)
theorem xq_ok {X : List XB} {h : Hp} (hX : AllH X h) {args : List AV} {q : Qy} {l : List AV} (e : xq X args q = some l) : ContQ h args q l := by
  cases q with
  | sl i =>
    change (args[i]?).bind (xcont X) = _ at e
    cases q : args[i]? with
    | none => rw [q] at e; cases e
    | some v =>
      rw [q, Option.bind_some] at e
      exact ⟨v, q, xcont_ok hX e⟩
  | blk i =>
    change (match args[i]? with | some (.ptr id 0 0) => xwhole X id | _ => none) = _ at e
    split at e
    · rename_i id q
      exact ⟨id, q, xwhole_ok hX e⟩
    · cases e
  | bsl i k =>
    change (match args[i]? with | some (.ptr id 0 0) => (xwhole X id).bind fun L => (L[k]?).bind (xcont X) | _ => none) = _ at e
    split at e
    · rename_i id q
      cases w : xwhole X id with
      | none => rw [w] at e; cases e
      | some L =>
        rw [w, Option.bind_some] at e
        cases u : L[k]? with
        | none => rw [u] at e; cases e
        | some v =>
          rw [u, Option.bind_some] at e
          exact ⟨id, L, v, q, xwhole_ok hX w, u, xcont_ok hX e⟩
    · cases e
  | ssl i k =>
    change ((args[i]?).bind fun u => (xcont X u).bind fun L => (L[k]?).bind (xcont X)) = _ at e
    cases q : args[i]? with
    | none => rw [q] at e; cases e
    | some u =>
      rw [q, Option.bind_some] at e
      cases w : xcont X u with
      | none => rw [w] at e; cases e
      | some L =>
        rw [w, Option.bind_some] at e
        cases z : L[k]? with
        | none => rw [z] at e; cases e
        | some v =>
          rw [z, Option.bind_some] at e
          exact ⟨u, L, v, q, xcont_ok hX w, z, xcont_ok hX e⟩
def xqs (X : List XB) (args : List AV) : List Qy → Option (List (List AV))
  | [] => some []
  | q :: qs => (xq X args q).bind fun c => (xqs X args qs).map fun r => c :: r
theorem xqs_ok {X : List XB} {h : Hp} (hX : AllH X h) {args : List AV} : ∀ {qs : List Qy} {cs : List (List AV)}, xqs X args qs = some cs → Conts h args qs cs
  | [], cs, e => by cases e; exact rfl
  | q :: qs, cs, e => by
    unfold xqs at e
    cases c : xq X args q with
    | none => rw [c] at e; cases e
    | some l =>
      rw [c, Option.bind_some] at e
      cases d : xqs X args qs with
      | none => rw [d] at e; cases e
      | some r => rw [d] at e; cases e; exact ⟨l, r, rfl, xq_ok hX c, xqs_ok hX d⟩
def KitH (P : Program) (f : FuncId) (args : List AV) (h : Hp) (v : AV) (h' : Hp) : Prop :=
  ∀ (φ : Phi) (w : World) (xs : Array Value), HR P φ h w → h.lim = 0 → RelL φ args xs.toList → Calls P f xs w fun e w' => ∃ φ' x, e = .returned x ∧ Rel φ' v x ∧ HR P φ' h' w' ∧ Adv h w φ h' w' φ'
theorem AmFn.kitH {P : Program} {f : FuncId} {args : List AV} {h h' : Hp} {v : AV} (a : AmFn P f args h v h') : KitH P f args h v h' := fun _ _ _ hR hz hx => a.calls hR hz hx
theorem KitFn.kitH {P : Program} {f : FuncId} {args : List AV} {h : Hp} {v : AV} (a : KitFn P f args h v) : KitH P f args h v h := fun φ w xs hR _ hx =>
  (a φ w xs hR hx).mono fun e w' ⟨x, he, hv, hb⟩ => ⟨φ, x, he, hv, hR.grown hb.size fun b hb' => hb.block b hb', Adv.grown hb.os hb.output hb.tape hb.size fun b hb' => hb.block b hb'⟩
theorem leads_kitH {P : Program} {h h' : Hp} {cx : Cx} {k : List Item} {env : T AV} {o : O} {rest : List O} {f : FuncId} {args : List AV} {v : AV} (ho : o.ok = true) (hw : wantedA o env = true) (he : evalOp P o.op env h = .enter f args h) (hf : KitH P f args h v h') :
    Leads P (sOf cx (.ops (o :: rest) :: k) env h) (sOf cx (.ops rest :: k) (setD env o.dst v) h') := by
  intro r q φ w g cs c0 hR hz hF hC
  obtain ⟨xs, hx, hst⟩ := ops_enter hR hz hF ho hw he
  obtain ⟨e, w', fr, ⟨φ', x, rfl, hv, hR', hA⟩, hc, _, hl⟩ := hf φ w xs hR hz hx (g :: (cs ++ c0))
  have st : Steps P (lone g (cs ++ c0) w) (lone (g.finish x) (cs ++ c0) w') :=
    (Steps.one (hst _)).trans ((show Steps P _ _ from hc).trans (.one (step_leave_returned hl)))
  have hg := give_head (fun fr => Out.next ⟨fr, cx.callers, h'⟩) (fn := cx.fn) (env := env) (rest := rest) (k := k) (defers := cx.defers) (dk := cx.dk) (round := cx.round) (v := v) ho
  rcases give_run (fun fr => Out.next ⟨fr, cx.callers, h'⟩) (hF.mono hA.le) hv with ⟨why, e⟩ | ⟨fr', e, e1, e2, e3⟩
  · exact absurd (hg.symm.trans e) (by intro q; cases q)
  · have hfr := hg.symm.trans e
    cases hfr
    exact OutR.then (s' := sOf cx (.ops rest :: k) (setD env o.dst v) h') hR hz st hA (by cases hcs : cx.callers <;> simp [bot, sOf, hcs, List.getLast?_cons]) (by cases hcs : cx.callers <;> simp [bot, sOf, hcs, List.getLast?_cons]) (q φ' w' (g.finish x) cs c0 hR' (hA.lim.trans hz) e1 (hC.mono hA.le))
inductive XR where
  | plain (v : AV)
  | row (l : List AV) (v : Pos → AV)
  | blind (v : Pos → AV)
noncomputable def XR.res (r : XR) (h : Hp) : AV × Hp := match r with
  | .plain v => (v, h)
  | .row l v => (v h.next, rowN h l)
  | .blind v => (v h.next, ⟨h.heap, h.next.succ, h.ser, h.lim⟩)
structure Ent where
  f : FuncId
  np : Nat
  qs : List Qy
  spec : List AV → List (List AV) → Option XR
def EntOK (P : Program) (G : Hp → Prop) (e : Ent) : Prop :=
  okCall P e.f = true ∧ ∀ args cs r h, G h → args.length = e.np → e.spec args cs = some r → Conts h args e.qs cs → AmFn P e.f args h (r.res h).1 (r.res h).2
def EntK (P : Program) (G : Hp → Prop) (e : Ent) : Prop :=
  okCall P e.f = true ∧ ∀ args cs r h, G h → args.length = e.np → e.spec args cs = some r → Conts h args e.qs cs → KitH P e.f args h (r.res h).1 (r.res h).2
theorem EntOK.entK {P : Program} {G : Hp → Prop} {e : Ent} (a : EntOK P G e) : EntK P G e := ⟨a.1, fun args cs r h g n q c => (a.2 args cs r h g n q c).kitH⟩
def tget : List Ent → FuncId → Option Ent
  | [], _ => none
  | e :: T, f => if e.f = f then some e else tget T f
theorem tget_mem : ∀ {T : List Ent} {f : FuncId} {e : Ent}, tget T f = some e → e ∈ T ∧ e.f = f
  | [], _, _, q => by cases q
  | x :: T, f, e, q => by
    unfold tget at q
    split at q
    · cases q; exact ⟨by simp, by assumption⟩
    · obtain ⟨h1, h2⟩ := tget_mem q; exact ⟨List.mem_cons_of_mem _ h1, h2⟩
def TabFn (G : Hp → Prop) (T : List Ent) (f : FuncId) (args : List AV) (h : Hp) (v : AV) (h' : Hp) : Prop :=
  G h ∧ ∃ e cs r, tget T f = some e ∧ args.length = e.np ∧ e.spec args cs = some r ∧ Conts h args e.qs cs ∧ r.res h = (v, h')
section
variable {P : Program} {G : Hp → Prop} {T : List Ent}
theorem TabFn.fn (hT : ∀ e ∈ T, EntOK P G e) {f : FuncId} {args : List AV} {h h' : Hp} {v : AV} (t : TabFn G T f args h v h') : AmFn P f args h v h' := by
  obtain ⟨q0, e, cs, r, q1, q2, q3, q4, q5⟩ := t
  obtain ⟨m, rfl⟩ := tget_mem q1
  have := (hT e m).2 args cs r h q0 q2 q3 q4
  rw [q5] at this
  exact this
theorem TabFn.kit (hT : ∀ e ∈ T, EntK P G e) {f : FuncId} {args : List AV} {h h' : Hp} {v : AV} (t : TabFn G T f args h v h') : KitH P f args h v h' := by
  obtain ⟨q0, e, cs, r, q1, q2, q3, q4, q5⟩ := t
  obtain ⟨m, rfl⟩ := tget_mem q1
  have := (hT e m).2 args cs r h q0 q2 q3 q4
  rw [q5] at this
  exact this
theorem TabFn.eq {f : FuncId} {args : List AV} {h h1 h2 : Hp} {v1 v2 : AV} (a : TabFn G T f args h v1 h1) (b : TabFn G T f args h v2 h2) : v1 = v2 ∧ h1 = h2 := by
  obtain ⟨_, e, cs, r, q1, q2, q3, q4, q5⟩ := a
  obtain ⟨_, e', cs', r', p1, p2, p3, p4, p5⟩ := b
  rw [q1] at p1; cases p1
  cases q4.eq p4
  rw [q3] at p3; cases p3
  rw [q5] at p5; cases p5
  exact ⟨rfl, rfl⟩
theorem setArgs_inj {xs ys : List AV} (hl : xs.length = ys.length) (e : setArgs .e 0 xs = setArgs .e 0 ys) : xs = ys := by
  apply List.ext_getElem hl fun i h1 h2 => ?_
  have a := sv_args xs 0 i .e
  have b := sv_args ys 0 i .e
  rw [dif_pos ⟨Nat.zero_le _, by omega⟩] at a b
  rw [e, b] at a
  simpa using a.symm
theorem TabFn.frame (hT : ∀ e ∈ T, EntOK P G e) {f f' : FuncId} {args args' : List AV} {h h' h1 : Hp} {v v1 : AV} (a : TabFn G T f args h v h') (b : TabFn G T f' args' h v1 h1) (e : frOf P f args = frOf P f' args') : v = v1 ∧ h' = h1 := by
  have A := a.fn hT
  have B := b.fn hT
  cases frOf_fn A B e
  have env : setArgs .e 0 args = setArgs .e 0 args' := by rw [← frOf_env A, ← frOf_env B, e]
  obtain ⟨_, x, _, _, q1, q2, _⟩ := id a
  obtain ⟨_, y, _, _, p1, p2, _⟩ := id b
  rw [q1] at p1; cases p1
  cases setArgs_inj (q2.trans p2.symm) env
  exact a.eq b
open Classical in
noncomputable def recT (P : Program) (G : Hp → Prop) (T : List Ent) (s : St) : Out :=
  if q : ∃ p : AV × Hp, ∃ f args, TabFn G T f args s.hp p.1 p.2 ∧ s = ⟨frOf P f args, [], s.hp⟩ then .done q.choose.1 q.choose.2 else .fail ""
theorem recT_sound (hT : ∀ e ∈ T, EntOK P G e) : Sound P (recT P G T) := fun s φ w g c0 hs hR hz hF => by
  unfold recT
  split
  · rename_i q
    obtain ⟨f, args, t, e⟩ := q.choose_spec
    have key : ∀ p : AV × Hp, TabFn G T f args s.hp p.1 p.2 → Ans P s (.done p.1 p.2) := fun p t => by
      obtain ⟨fr, e1, an⟩ := (t.fn hT).ans
      have e2 : fr = frOf P f args := by have := (t.fn hT).begins.1; rw [e1] at this; exact Option.some.inj this
      subst e2
      rw [← e] at an
      exact an
    exact key _ t φ w g [] c0 hR hz hF (by rw [hs]; exact .nil)
  · trivial
theorem recT_hit (hT : ∀ e ∈ T, EntOK P G e) {f : FuncId} {args : List AV} {h h' : Hp} {v : AV} (t : TabFn G T f args h v h') : recT P G T ⟨frOf P f args, [], h⟩ = .done v h' := by
  unfold recT
  have q : ∃ p : AV × Hp, ∃ f' args', TabFn G T f' args' h p.1 p.2 ∧ (⟨frOf P f args, [], h⟩ : St) = ⟨frOf P f' args', [], h⟩ := ⟨(v, h'), f, args, t, rfl⟩
  rw [dif_pos q]
  obtain ⟨f', args', t', e⟩ := q.choose_spec
  obtain ⟨k1, k2⟩ := t.frame hT t' (congrArg St.cur e)
  rw [← k1, ← k2]
end
end Go.Proofs.YtjhgembcdndmkaaGreatDoor.Am
