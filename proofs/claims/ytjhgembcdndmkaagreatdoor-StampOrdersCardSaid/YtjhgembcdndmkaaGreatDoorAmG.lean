import Derived.Below
import Derived.ProofKit
import Derived.Test.YtjhgembcdndmkaaGreatDoorAmF
/- THE ABSTRACT MACHINE, part G: a machine over values without block numbers, and the proof that the model's machine does what it does. No condition. -/
set_option linter.unusedSimpArgs false
set_option linter.unusedVariables false
namespace Go.Proofs.YtjhgembcdndmkaaGreatDoor.Am
structure Tr (P : Program) (rec : St → Out) (L : List O) (S : Nat → DS) (v : Nat → AV) : Prop where
  ok : OkL L
  turn : ∀ (y : Nat) (o : O), L[y]? = some o → Turn P rec y o (S y) (v y) (S (y + 1))
  acts0 : (S 0).acts = []
  lds0 : (S 0).lds = []
  als0 : (S 0).als = []
def IsK (L : List O) (S : Nat → DS) (kd : DK) (y : Nat) (o : O) : Prop := L[y]? = some o ∧ kindOf o.op = kd ∧ wantedA o (S y).env = true
def EnvAt (L : List O) (v : Nat → AV) (env0 : T AV) (D : Nat → Prop) (env : T AV) : Prop :=
  (∀ (j : Nat) (o : O) (p : Pos), D j → L[j]? = some o → o.dst = some p → ev env (.tmp p) = v j) ∧
  (∀ p, (∀ (j : Nat) (o : O), D j → L[j]? = some o → o.dst ≠ some p) → ev env (.tmp p) = ev env0 (.tmp p))
def IsAl (P : Program) (L : List O) (S : Nat → DS) (v : Nat → AV) (i : Nat) (id : Pos) (b : Blk) : Prop :=
  ∃ (o : O) (h' : Hp), IsK L S .alloc i o ∧ id = (S i).rid ∧ evalOp P o.op (S i).env ⟨.e, id, (S i).h.ser, id.num + 1⟩ = .val (v i) h' ∧ T.get id h'.heap = some b
section
variable {P : Program} {rec : St → Out} {L : List O} {S : Nat → DS} {v : Nat → AV} {env0 : T AV}
theorem EnvAt.step (ok : OkL L) {D : Nat → Prop} {env : T AV} (h : EnvAt L v env0 D env) {i : Nat} {o : O} (e : L[i]? = some o) {D' : Nat → Prop} (hD : ∀ j, D' j ↔ D j ∨ j = i) : EnvAt L v env0 D' (setD env o.dst (v i)) := by
  obtain ⟨h1, h2⟩ := h
  cases hd : o.dst with
  | none =>
    refine ⟨fun j oj p hj ej dj => ?_, fun p hp => h2 p fun j oj hj => hp j oj ((hD j).2 (.inl hj))⟩
    rcases (hD j).1 hj with q | q
    · exact h1 j oj p q ej dj
    · subst q; rw [e] at ej; cases ej; rw [hd] at dj; cases dj
  | some d =>
    simp only [setD]
    refine ⟨fun j oj p hj ej dj => ?_, fun p hp => ?_⟩
    · rw [ev_set]
      by_cases c : p = d
      · subst c
        rw [if_pos rfl, ok.dst i j o oj p e ej hd dj]
      · rw [if_neg c]
        rcases (hD j).1 hj with q | q
        · exact h1 j oj p q ej dj
        · subst q; rw [e] at ej; cases ej; rw [hd] at dj; cases dj; exact absurd rfl c
    · rw [ev_set, if_neg fun c => hp i o ((hD i).2 (.inr rfl)) e (by rw [c]; exact hd)]
      exact h2 p fun j oj hj => hp j oj ((hD j).2 (.inl hj))
theorem EnvAt.same (ok : OkL L) {D D' : Nat → Prop} {env env' : T AV} (h : EnvAt L v env0 D env) (h' : EnvAt L v env0 D' env') {i : Nat} {o : O} (e : L[i]? = some o)
    (hb : ∀ k, o.before.testBit k = true → D k ∧ D' k) (ha : ∀ (k : Nat) (ok : O), L[k]? = some ok → ok.before.testBit i = true → ¬ D k ∧ ¬ D' k) : Same (looks o) env env' := by
  intro p hp
  by_cases c : ∃ (j : Nat) (oj : O), L[j]? = some oj ∧ oj.dst = some p
  · obtain ⟨j, oj, ej, dj⟩ := c
    rcases ok.look i j o oj p e ej dj hp with q | q
    · have q := hb j q
      rw [h.1 j oj p q.1 ej dj, h'.1 j oj p q.2 ej dj]
    · have q := ha j oj ej q
      have only : ∀ (D : Nat → Prop), ¬ D j → ∀ (k : Nat) (ok : O), D k → L[k]? = some ok → ok.dst ≠ some p := fun D nd k ok' dk ek dk' => by
        have := ok.dst k j ok' oj p ek ej dk' dj
        subst this
        exact nd dk
      rw [h.2 p (only D q.1), h'.2 p (only D' q.2)]
  · have c' : ∀ (D : Nat → Prop) (j : Nat) (o : O), D j → L[j]? = some o → o.dst ≠ some p := fun D j oj _ ej dj => c ⟨j, oj, ej, dj⟩
    rw [h.2 p (c' D), h'.2 p (c' D')]
theorem Turn.of_still {i : Nat} {o : O} {s s' : DS} {x : AV} (q : Turn P rec i o s x s') (hk : kindOf o.op = .still) (hw : wantedA o s.env = true) :
    ∃ h', evalOp P o.op s.env s.h = .val x h' := by
  cases q <;> simp_all
theorem Turn.of_load {i : Nat} {o : O} {s s' : DS} {x : AV} (q : Turn P rec i o s x s') (hk : kindOf o.op = .load) (hw : wantedA o s.env = true) :
    (∃ h', evalOp P o.op s.env s.h = .val x h') ∧ lookBack P o.op s.env x o.before s.acts = true ∧ s'.lds = ⟨i, o.op, s.env, x⟩ :: s.lds := by
  cases q <;> simp_all
theorem Turn.of_alloc {i : Nat} {o : O} {s s' : DS} {x : AV} (q : Turn P rec i o s x s') (hk : kindOf o.op = .alloc) (hw : wantedA o s.env = true) :
    ∃ h' b, evalOp P o.op s.env ⟨.e, s.rid, s.h.ser, s.rid.num + 1⟩ = .val x h' ∧ T.get s.rid h'.heap = some b ∧ s'.als = ⟨i, s.rid, b⟩ :: s.als := by
  cases q <;> simp_all
theorem Turn.of_actor {i : Nat} {o : O} {s s' : DS} {x : AV} (q : Turn P rec i o s x s') (hk : kindOf o.op = .actor) (hw : wantedA o s.env = true) :
    Acts P rec o.op s.env ⟨insT o.before s.als s.h.heap, s.h.next, s.h.ser, s.h.lim⟩ x s'.h ∧ lookAgain P s'.h o.before s.lds = true ∧ s'.als = remAl o.before s.als ∧ s'.acts = ⟨i, s.h⟩ :: s.acts := by
  cases q <;> simp_all
theorem Tr.env1 (t : Tr P rec L S v) {y : Nat} {o : O} (e : L[y]? = some o) : (S (y + 1)).env = setD (S y).env o.dst (v y) := by
  have q := t.turn y o e
  generalize S (y + 1) = s' at q ⊢
  generalize v y = vy at q ⊢
  cases q <;> rfl
theorem Tr.hstay (t : Tr P rec L S v) {y : Nat} {o : O} (e : L[y]? = some o) (na : ∀ o', ¬ IsK L S .actor y o') : (S (y + 1)).h = (S y).h := by
  have q := t.turn y o e
  generalize S (y + 1) = s' at q ⊢
  generalize v y = vy at q ⊢
  cases q <;> first | rfl | skip
  rename_i hk hw _ _
  exact absurd ⟨e, hk, hw⟩ (na o)
theorem Tr.ex (t : Tr P rec L S v) {y : Nat} (h : y < L.length) : ∃ o, L[y]? = some o := ⟨_, List.getElem?_eq_getElem h⟩
theorem Tr.hstays (t : Tr P rec L S v) {x : Nat} : ∀ (z : Nat), x ≤ z → z ≤ L.length → (∀ y, x ≤ y → y < z → ∀ o', ¬ IsK L S .actor y o') → (S z).h = (S x).h := by
  intro z
  induction z with
  | zero => intro h _ _; rw [show x = 0 by omega]
  | succ z ih =>
    intro h1 h2 h3
    by_cases c : x = z + 1
    · rw [c]
    · obtain ⟨o, e⟩ := t.ex (show z < L.length by omega)
      rw [t.hstay e (h3 z (by omega) (by omega))]
      exact ih (by omega) (by omega) fun y a b => h3 y a (by omega)
theorem Tr.env (t : Tr P rec L S v) : ∀ y, y ≤ L.length → EnvAt L v (S 0).env (· < y) (S y).env := by
  intro y
  induction y with
  | zero => exact fun _ => ⟨fun j o p hj _ _ => absurd hj (by omega), fun p _ => rfl⟩
  | succ y ih =>
    intro h
    obtain ⟨o, e⟩ := t.ex (show y < L.length by omega)
    rw [t.env1 e]
    exact (ih (by omega)).step t.ok e fun j => by omega
theorem Tr.rid1 (t : Tr P rec L S v) {y : Nat} {o : O} (e : L[y]? = some o) : (S (y + 1)).rid = if isAlloc o.op = true then (S y).rid.succ else (S y).rid := by
  have q := t.turn y o e
  generalize S (y + 1) = s' at q ⊢
  generalize v y = vy at q ⊢
  cases q <;> first | rfl | (rename_i hk _ _ _; simp [isAlloc, hk]) | (rename_i hk _ _; simp [isAlloc, hk])
theorem Tr.rid_mono (t : Tr P rec L S v) {x : Nat} : ∀ (z : Nat), x ≤ z → z ≤ L.length → (S x).rid.num ≤ (S z).rid.num := by
  intro z
  induction z with
  | zero => intro h _; rw [show x = 0 by omega]; exact Nat.le_refl _
  | succ z ih =>
    intro h1 h2
    by_cases c : x = z + 1
    · rw [c]; exact Nat.le_refl _
    · obtain ⟨o, e⟩ := t.ex (show z < L.length by omega)
      refine Nat.le_trans (ih (by omega) (by omega)) ?_
      rw [t.rid1 e]
      split
      · rw [Pos.num_succ]; omega
      · exact Nat.le_refl _
theorem Tr.rid_lt (t : Tr P rec L S v) {i : Nat} {o : O} (e : L[i]? = some o) (ha : isAlloc o.op = true) {z : Nat} (h : i < z) (hz : z ≤ L.length) : (S i).rid.num < (S z).rid.num := by
  have := t.rid_mono (x := i + 1) z (by omega) hz
  rw [t.rid1 e, if_pos ha, Pos.num_succ] at this
  omega
theorem Tr.rid_end (t : Tr P rec L S v) : ∀ (y : Nat), y ≤ L.length → skipIds (L.drop y) (S y).rid = skipIds L (S 0).rid := by
  intro y
  induction y with
  | zero => intro _; rfl
  | succ y ih =>
    intro h
    rw [← ih (by omega)]
    obtain ⟨o, e⟩ := t.ex (show y < L.length by omega)
    have hd : L.drop y = o :: L.drop (y + 1) := by
      rw [List.drop_eq_getElem_cons (by omega)]
      rw [List.getElem?_eq_getElem (by omega)] at e
      cases e; rfl
    rw [hd, t.rid1 e, show skipIds (o :: L.drop (y + 1)) (S y).rid = bif isAlloc o.op then skipIds (L.drop (y + 1)) (S y).rid.succ else skipIds (L.drop (y + 1)) (S y).rid from rfl]
    cases isAlloc o.op with
    | true => rw [cond_true, if_pos rfl]
    | false => rw [cond_false, if_neg (by decide)]
theorem Tr.rid_last (t : Tr P rec L S v) : (S L.length).rid = skipIds L (S 0).rid := by
  have := t.rid_end L.length (Nat.le_refl _)
  rw [List.drop_length] at this
  exact this
theorem Tr.acts (t : Tr P rec L S v) {i : Nat} {o : O} (hi : IsK L S .actor i o) : ∀ (y : Nat), i < y → y ≤ L.length → (⟨i, (S i).h⟩ : Actor) ∈ (S y).acts := by
  intro y
  induction y with
  | zero => intro h; omega
  | succ y ih =>
    intro h1 h2
    obtain ⟨o', e⟩ := t.ex (show y < L.length by omega)
    by_cases c : i = y
    · subst c
      have q := t.turn i o hi.1
      have r := q.of_actor hi.2.1 hi.2.2
      rw [r.2.2.2]
      simp
    · have m := ih (by omega) (by omega)
      have q := t.turn y o' e
      generalize S (y + 1) = s' at q ⊢
      generalize v y = vy at q ⊢
      cases q <;> first | exact m | exact List.mem_cons_of_mem _ m
theorem Tr.lds (t : Tr P rec L S v) {i : Nat} {o : O} (hi : IsK L S .load i o) : ∀ (y : Nat), i < y → y ≤ L.length → (⟨i, o.op, (S i).env, v i⟩ : Ld) ∈ (S y).lds := by
  intro y
  induction y with
  | zero => intro h; omega
  | succ y ih =>
    intro h1 h2
    obtain ⟨o', e⟩ := t.ex (show y < L.length by omega)
    by_cases c : i = y
    · subst c
      have q := t.turn i o hi.1
      have r := q.of_load hi.2.1 hi.2.2
      rw [r.2.2]
      simp
    · have m := ih (by omega) (by omega)
      have q := t.turn y o' e
      generalize S (y + 1) = s' at q ⊢
      generalize v y = vy at q ⊢
      cases q <;> first | exact m | exact List.mem_cons_of_mem _ m
theorem remAl_mem {m : Nat} {a : Al} : ∀ {l : List Al}, a ∈ remAl m l ↔ a ∈ l ∧ m.testBit a.i = false
  | [] => by simp [remAl]
  | x :: l => by
    unfold remAl
    rw [bit_eq]
    cases hb : m.testBit x.i with
    | true =>
      rw [cond_true, remAl_mem, List.mem_cons]
      refine ⟨fun h => ⟨.inr h.1, h.2⟩, fun h => ⟨h.1.resolve_left fun e => ?_, h.2⟩⟩
      subst e; rw [hb] at h; exact absurd h.2 (by decide)
    | false =>
      rw [cond_false, List.mem_cons, List.mem_cons, remAl_mem]
      refine ⟨fun h => ?_, fun h => ?_⟩
      · rcases h with e | h
        · subst e; exact ⟨.inl rfl, hb⟩
        · exact ⟨.inr h.1, h.2⟩
      · rcases h.1 with e | h'
        · exact .inl e
        · exact .inr ⟨h', h.2⟩
theorem IsAl.inj {i : Nat} {id id' : Pos} {b b' : Blk} (h : IsAl P L S v i id b) (h' : IsAl P L S v i id' b') : id = id' ∧ b = b' := by
  obtain ⟨o, h1, k, e, q, g⟩ := h
  obtain ⟨o', h1', k', e', q', g'⟩ := h'
  have e1 := k.1; rw [k'.1] at e1; cases e1
  subst e; subst e'
  rw [q] at q'; cases q'
  rw [g] at g'; cases g'
  exact ⟨rfl, rfl⟩
theorem isAlloc_of {o : AOp} (h : kindOf o = .alloc) : isAlloc o = true := by unfold isAlloc; rw [h]
theorem IsAl.lt (t : Tr P rec L S v) {i j : Nat} {id id' : Pos} {b b' : Blk} (h : IsAl P L S v i id b) (h' : IsAl P L S v j id' b') (hij : i < j) : id.num < id'.num := by
  obtain ⟨o, h1, k, e, q, g⟩ := h
  obtain ⟨o', h1', k', e', q', g'⟩ := h'
  subst e; subst e'
  exact t.rid_lt k.1 (isAlloc_of k.2.1) hij (Nat.le_of_lt (List.getElem?_eq_some_iff.1 k'.1).1)
theorem IsAl.same (t : Tr P rec L S v) {i j : Nat} {id : Pos} {b b' : Blk} (h : IsAl P L S v i id b) (h' : IsAl P L S v j id b') : i = j ∧ b = b' := by
  by_cases c : i < j
  · have := IsAl.lt t h h' c; omega
  · by_cases c' : j < i
    · have := IsAl.lt t h' h c'; omega
    · have : i = j := by omega
      subst this
      exact ⟨rfl, (IsAl.inj h h').2⟩
theorem IsAl.range (t : Tr P rec L S v) {i : Nat} {id : Pos} {b : Blk} (h : IsAl P L S v i id b) : (S 0).rid.num ≤ id.num ∧ id.num < (S L.length).rid.num := by
  obtain ⟨o, h1, k, e, q, g⟩ := h
  have hl := (List.getElem?_eq_some_iff.1 k.1).1
  subst e
  exact ⟨t.rid_mono i (by omega) (by omega), t.rid_lt k.1 (isAlloc_of k.2.1) hl (Nat.le_refl _)⟩
theorem Tr.als (t : Tr P rec L S v) : ∀ (y : Nat), y ≤ L.length → ∀ a : Al, a ∈ (S y).als ↔ a.i < y ∧ IsAl P L S v a.i a.id a.b ∧ ∀ (j : Nat) (oj : O), j < y → IsK L S .actor j oj → oj.before.testBit a.i = false := by
  intro y
  induction y with
  | zero => intro _ a; rw [t.als0]; simp
  | succ y ih =>
    intro h a
    obtain ⟨o, e⟩ := t.ex (show y < L.length by omega)
    have q := t.turn y o e
    have ih := ih (by omega) a
    have plain : (S (y + 1)).als = (S y).als → (∀ id b, ¬ IsAl P L S v y id b) → (∀ oj, ¬ IsK L S .actor y oj) → (a ∈ (S (y + 1)).als ↔ a.i < y + 1 ∧ IsAl P L S v a.i a.id a.b ∧ ∀ (j : Nat) (oj : O), j < y + 1 → IsK L S .actor j oj → oj.before.testBit a.i = false) := by
      intro e1 na nk
      rw [e1, ih]
      refine ⟨fun ⟨h1, h2, h3⟩ => ⟨by omega, h2, fun j oj hj k => ?_⟩, fun ⟨h1, h2, h3⟩ => ⟨?_, h2, fun j oj hj k => h3 j oj (by omega) k⟩⟩
      · by_cases c : j = y
        · subst c; exact absurd k (nk oj)
        · exact h3 j oj (by omega) k
      · by_cases c : a.i = y
        · rw [c] at h2; exact absurd h2 (na _ _)
        · omega
    cases hw : wantedA o (S y).env with
    | false =>
      refine plain ?_ (fun id b hA => ?_) fun oj hK => ?_
      · generalize S (y + 1) = s' at q ⊢
        generalize v y = vy at q ⊢
        cases q <;> simp_all
      · obtain ⟨o', _, k, _⟩ := hA
        have := k.1; rw [e] at this; cases this
        rw [k.2.2] at hw; cases hw
      · have := hK.1; rw [e] at this; cases this
        rw [hK.2.2] at hw; cases hw
    | true =>
      have hk : ∀ kd, kindOf o.op = kd → kd ≠ .alloc → kd ≠ .actor → (S (y + 1)).als = (S y).als → (a ∈ (S (y + 1)).als ↔ a.i < y + 1 ∧ IsAl P L S v a.i a.id a.b ∧ ∀ (j : Nat) (oj : O), j < y + 1 → IsK L S .actor j oj → oj.before.testBit a.i = false) := by
        intro kd hk n1 n2 e1
        refine plain e1 (fun id b hA => ?_) fun oj hK => ?_
        · obtain ⟨o', _, k, _⟩ := hA
          have := k.1; rw [e] at this; cases this
          exact n1 (hk.symm.trans k.2.1)
        · have := hK.1; rw [e] at this; cases this
          exact n2 (hk.symm.trans hK.2.1)
      cases hkd : kindOf o.op with
      | still =>
        refine hk .still hkd (fun h => by cases h) (fun h => by cases h) ?_
        generalize S (y + 1) = s' at q ⊢
        generalize v y = vy at q ⊢
        cases q <;> simp_all
      | load =>
        refine hk .load hkd (fun h => by cases h) (fun h => by cases h) ?_
        generalize S (y + 1) = s' at q ⊢
        generalize v y = vy at q ⊢
        cases q <;> simp_all
      | alloc =>
        obtain ⟨h', b, e1, e2, e3⟩ := q.of_alloc hkd hw
        have hA : IsAl P L S v y (S y).rid b := ⟨o, h', ⟨e, hkd, hw⟩, rfl, e1, e2⟩
        rw [e3, List.mem_cons, ih]
        have nk : ∀ oj, ¬ IsK L S .actor y oj := fun oj hK => by
          have := hK.1; rw [e] at this; cases this
          have := hK.2.1; rw [hkd] at this; cases this
        constructor
        · rintro (e4 | ⟨h1, h2, h3⟩)
          · subst e4
            refine ⟨by simp, hA, fun j oj hj k => ?_⟩
            simp only
            cases hb : oj.before.testBit y with
            | false => rfl
            | true =>
              have := t.ok.less k.1 hb
              exact absurd this (by omega)
          · refine ⟨by omega, h2, fun j oj hj k => ?_⟩
            by_cases c : j = y
            · subst c; exact absurd k (nk oj)
            · exact h3 j oj (by omega) k
        · intro ⟨h1, h2, h3⟩
          by_cases c : a.i = y
          · left
            obtain ⟨i, id, b'⟩ := a
            simp only at c h2
            subst c
            obtain ⟨q1, q2⟩ := IsAl.inj h2 hA
            rw [q1, q2]
          · exact .inr ⟨by omega, h2, fun j oj hj k => h3 j oj (by omega) k⟩
      | actor =>
        obtain ⟨_, _, e3, _⟩ := q.of_actor hkd hw
        have hK : IsK L S .actor y o := ⟨e, hkd, hw⟩
        rw [e3, remAl_mem, ih]
        constructor
        · intro ⟨⟨h1, h2, h3⟩, h4⟩
          refine ⟨by omega, h2, fun j oj hj k => ?_⟩
          by_cases c : j = y
          · subst c
            have := k.1; rw [e] at this; cases this
            exact h4
          · exact h3 j oj (by omega) k
        · intro ⟨h1, h2, h3⟩
          refine ⟨⟨?_, h2, fun j oj hj k => h3 j oj (by omega) k⟩, h3 y o (by omega) hK⟩
          by_cases c : a.i = y
          · rw [c] at h2
            obtain ⟨o', _, k, _⟩ := h2
            have := k.1; rw [e] at this; cases this
            have := k.2.1; rw [hkd] at this; cases this
          · omega
theorem lookBack_get {op : AOp} {env : T AV} {x : AV} {m : Nat} : ∀ {l : List Actor}, lookBack P op env x m l = true → ∀ a ∈ l, m.testBit a.i = true ∨ ∃ h', evalOp P op env a.h = .val x h'
  | [], _, a, ha => by simp at ha
  | c :: l, h, a, ha => by
    unfold lookBack at h
    rw [bit_eq] at h
    simp only [Bool.or_eq_true, Bool.and_eq_true] at h
    rcases List.mem_cons.1 ha with e | ha
    · subst e
      rcases h.1 with h | h
      · exact .inl h
      · right
        split at h
        · rename_i u h' e
          rw [eqAV_sound _ h]
          exact ⟨h', e⟩
        · cases h
    · exact lookBack_get h.2 a ha
theorem lookAgain_get {h0 : Hp} {m : Nat} : ∀ {l : List Ld}, lookAgain P h0 m l = true → ∀ d ∈ l, m.testBit d.i = true ∨ ∃ h', evalOp P d.op d.env h0 = .val d.v h'
  | [], _, a, ha => by simp at ha
  | c :: l, h, a, ha => by
    unfold lookAgain at h
    rw [bit_eq] at h
    simp only [Bool.or_eq_true, Bool.and_eq_true] at h
    rcases List.mem_cons.1 ha with e | ha
    · subst e
      rcases h.1 with h | h
      · exact .inl h
      · right
        split at h
        · rename_i u h' e
          rw [eqAV_sound _ h]
          exact ⟨h', e⟩
        · cases h
    · exact lookAgain_get h.2 a ha
theorem Tr.window (t : Tr P rec L S v) {i : Nat} {o : O} (hi : IsK L S .load i o) (y : Nat) (hy : y ≤ L.length) (h1 : ∀ (j : Nat) (oj : O), IsK L S .actor j oj → o.before.testBit j = true → j < y)
    (h2 : ∀ (j : Nat) (oj : O), IsK L S .actor j oj → j < y → oj.before.testBit i = false) : ∃ h', evalOp P o.op (S i).env (S y).h = .val (v i) h' := by
  have hl := (List.getElem?_eq_some_iff.1 hi.1).1
  have q := (t.turn i o hi.1).of_load hi.2.1 hi.2.2
  have down : ∀ (d y : Nat), y + d = i → (∀ (j : Nat) (oj : O), IsK L S .actor j oj → o.before.testBit j = true → j < y) → ∃ h', evalOp P o.op (S i).env (S y).h = .val (v i) h' := by
    intro d
    induction d with
    | zero => intro y e _; rw [show y = i by omega]; exact q.1
    | succ d ih =>
      intro y e h1
      by_cases c : ∃ oj, IsK L S .actor y oj
      · obtain ⟨oj, c⟩ := c
        rcases lookBack_get q.2.1 _ (t.acts c i (by omega) (by omega)) with k | k
        · have := h1 y oj c k
          omega
        · exact k
      · obtain ⟨oy, ey⟩ := t.ex (show y < L.length by omega)
        rw [← t.hstay ey fun o' k => c ⟨o', k⟩]
        exact ih (y + 1) (by omega) fun j oj k b => by have := h1 j oj k b; omega
  by_cases c : y ≤ i
  · exact down (i - y) y (by omega) h1
  · have up : ∀ (d : Nat), i + 1 + d ≤ L.length → (∀ (j : Nat) (oj : O), IsK L S .actor j oj → j < i + 1 + d → oj.before.testBit i = false) → ∃ h', evalOp P o.op (S i).env (S (i + 1 + d)).h = .val (v i) h' := by
      intro d
      induction d with
      | zero =>
        intro _ _
        rw [Nat.add_zero, t.hstay hi.1 fun o' k => ?_]
        · exact q.1
        · have := k.1; rw [hi.1] at this; cases this
          have := k.2.1; rw [hi.2.1] at this; cases this
      | succ d ih =>
        intro hd h2
        obtain ⟨oy, ey⟩ := t.ex (show i + 1 + d < L.length by omega)
        by_cases c : ∃ oj, IsK L S .actor (i + 1 + d) oj
        · obtain ⟨oj, c⟩ := c
          have r := (t.turn _ oj c.1).of_actor c.2.1 c.2.2
          rcases lookAgain_get r.2.1 _ (t.lds hi (i + 1 + d) (by omega) (by omega)) with k | k
          · have := h2 _ oj c (by omega)
            simp only at k
            rw [this] at k; cases k
          · exact k
        · rw [show i + 1 + (d + 1) = i + 1 + d + 1 by omega, t.hstay ey fun o' k => c ⟨o', k⟩]
          exact ih (by omega) fun j oj k hj => h2 j oj k (by omega)
    have := up (y - (i + 1)) (by omega) (by rw [show i + 1 + (y - (i + 1)) = y by omega]; exact h2)
    rw [show i + 1 + (y - (i + 1)) = y by omega] at this
    exact this
end
end Go.Proofs.YtjhgembcdndmkaaGreatDoor.Am

namespace Go.Proofs.YtjhgembcdndmkaaGreatDoor.Am
def Sound (P : Program) (rec : St → Out) : Prop :=
  ∀ (s : St) (φ : Phi) (w : World) (g : Frame) (c0 : List Frame), s.callers = [] → HR P φ s.hp w → s.hp.lim = 0 → FrR P φ s.cur g → OutR P c0 φ s g [] w (rec s)
section
variable {P : Program} {rec : St → Out} {L : List O} {S : Nat → DS} {v : Nat → AV}
def Pend (P : Program) (L : List O) (S : Nat → DS) (v : Nat → AV) (D : List Nat) (x : Nat) (id : Pos) (b : Blk) : Prop :=
  ∃ i, i ∈ D ∧ IsAl P L S v i id b ∧ ∀ (j : Nat) (oj : O), j < x → IsK L S .actor j oj → oj.before.testBit i = false
open Classical in
noncomputable def putF (Q : Pos → Blk → Prop) (t : T Blk) (id : Pos) : Option Blk := if h : ∃ b, Q id b then some (Classical.choose h) else T.get id t
noncomputable def FD (P : Program) (L : List O) (S : Nat → DS) (v : Nat → AV) (D : List Nat) (x : Nat) : Pos → Option Blk := putF (Pend P L S v D x) (S x).h.heap
theorem Pend.inj (t : Tr P rec L S v) {D : List Nat} {x : Nat} {id : Pos} {b b' : Blk} (h : Pend P L S v D x id b) (h' : Pend P L S v D x id b') : b = b' := by
  obtain ⟨i, _, h, _⟩ := h
  obtain ⟨j, _, h', _⟩ := h'
  exact (IsAl.same t h h').2
theorem FD_pend (t : Tr P rec L S v) {D : List Nat} {x : Nat} {id : Pos} {b : Blk} (h : Pend P L S v D x id b) : FD P L S v D x id = some b := by
  unfold FD putF
  have hex : ∃ b, Pend P L S v D x id b := ⟨b, h⟩
  rw [dif_pos hex, Pend.inj t (Classical.choose_spec hex) h]
theorem FD_else {D : List Nat} {x : Nat} {id : Pos} (h : ∀ b, ¬ Pend P L S v D x id b) : FD P L S v D x id = T.get id (S x).h.heap := by
  unfold FD putF
  rw [dif_neg fun ⟨b, q⟩ => h b q]
theorem FD_same {D D' : List Nat} {x x' : Nat} (h : ∀ id b, Pend P L S v D x id b ↔ Pend P L S v D' x' id b) (e : (S x').h.heap = (S x).h.heap) : FD P L S v D' x' = FD P L S v D x := by
  unfold FD
  have : Pend P L S v D x = Pend P L S v D' x' := by funext id b; exact propext (h id b)
  rw [this, e]
structure Inv (P : Program) (L : List O) (S : Nat → DS) (v : Nat → AV) (h0 : Hp) (w0 : World) (φ0 : Phi) (env0 : T AV) (D : List Nat) (x : Nat) (φ : Phi) (w : World) (env : T AV) : Prop where
  hx : x ≤ L.length
  acts : ∀ (i : Nat) (o : O), IsK L S .actor i o → (i ∈ D ↔ i < x)
  down : ∀ j ∈ D, ∀ (c : O) (k : Nat), L[j]? = some c → c.before.testBit k = true → k ∈ D
  heap : HRF P φ (FD P L S v D x) (S x).h.next.num 0 w
  adv : AdvF h0 w0 φ0 (FD P L S v D x) (S x).h.next.num w φ
  room : (S L.length).rid.num ≤ (S x).h.next.num
  lim : (S x).h.lim = 0
  free : ∀ i id b, IsAl P L S v i id b → (∀ (j : Nat) (oj : O), j < x → IsK L S .actor j oj → oj.before.testBit i = false) → T.get id (S x).h.heap = none
  later : ∀ i id b, IsAl P L S v i id b → i ∉ D → ∀ g, φ id g = none
  env : EnvAt L v env0 (· ∈ D) env
variable {h0 : Hp} {w0 : World} {φ0 : Phi} {env0 : T AV} {D : List Nat} {x : Nat} {φ : Phi} {w : World} {env : T AV}
theorem Inv.sub (I : Inv P L S v h0 w0 φ0 env0 D x φ w env) : ∀ id b, T.get id (S x).h.heap = some b → FD P L S v D x id = some b := by
  intro id b e
  rw [FD_else]
  · exact e
  · intro b' ⟨i, _, hA, hj⟩
    rw [I.free i id b' hA hj] at e
    cases e
theorem Inv.notyet (I : Inv P L S v h0 w0 φ0 env0 D x φ w env) {i : Nat} (hi : i ∉ D) : ∀ (j : Nat) (oj : O), j < x → IsK L S .actor j oj → oj.before.testBit i = false := by
  intro j oj hj k
  cases hb : oj.before.testBit i with
  | false => rfl
  | true => exact absurd (I.down j ((I.acts j oj k).2 hj) oj i k.1 hb) hi
theorem Inv.move (t : Tr P rec L S v) (I : Inv P L S v h0 w0 φ0 env0 D x φ w env) {x' : Nat} (hx' : x' ≤ L.length) (ha : ∀ (i : Nat) (o : O), IsK L S .actor i o → (i ∈ D ↔ i < x')) :
    Inv P L S v h0 w0 φ0 env0 D x' φ w env := by
  have hlt : ∀ (i : Nat) (o : O), IsK L S .actor i o → (i < x ↔ i < x') := fun i o k => (I.acts i o k).symm.trans (ha i o k)
  have hh : (S x').h = (S x).h := by
    by_cases c : x ≤ x'
    · exact t.hstays x' c hx' fun y a b o' k => by have := hlt y o' k; omega
    · exact (t.hstays x (by omega) I.hx fun y a b o' k => by have := hlt y o' k; omega).symm
  have hF : FD P L S v D x' = FD P L S v D x := FD_same (fun id b => by
    refine ⟨fun ⟨i, q1, q2, q3⟩ => ⟨i, q1, q2, fun j oj hj k => q3 j oj ((hlt j oj k).2 hj) k⟩, fun ⟨i, q1, q2, q3⟩ => ⟨i, q1, q2, fun j oj hj k => q3 j oj ((hlt j oj k).1 hj) k⟩⟩) (by rw [hh])
  refine ⟨hx', ha, I.down, ?_, ?_, ?_, ?_, fun i id b hA hj => ?_, I.later, I.env⟩
  · rw [hF, hh]; exact I.heap
  · rw [hF, hh]; exact I.adv
  · rw [hh]; exact I.room
  · rw [hh]; exact I.lim
  · rw [hh]; exact I.free i id b hA fun j oj hj' k => hj j oj ((hlt j oj k).1 hj') k
theorem Inv.grow (t : Tr P rec L S v) (h0u : ∀ id g r, φ0 id g = some r → id.num < h0.next.num) (I : Inv P L S v h0 w0 φ0 env0 D x φ w env) {i : Nat} {c : O} (e : L[i]? = some c) (hb : ∀ k, c.before.testBit k = true → k ∈ D)
    {x' : Nat} (hx' : x' ≤ L.length) (ha : ∀ (j : Nat) (o : O), IsK L S .actor j o → (j ∈ i :: D ↔ j < x')) {V V' : Hp} {φ' : Phi} {w' : World} (hR' : HR P φ' V' w') (a : Adv V w φ V' w' φ')
    (sub : ∀ id b, T.get id V.heap = some b → FD P L S v D x id = some b) (n1 : h0.next.num ≤ V.next.num) (n2 : V'.next.num ≤ (S x').h.next.num) (n3 : (S x).h.next.num ≤ (S x').h.next.num)
    (fresh : ∀ id, V.next.num ≤ id.num → id.num < V'.next.num → FD P L S v D x id = none)
    (spec : ∀ id b, FD P L S v (i :: D) x' id = some b → T.get id V'.heap = some b ∨ (T.get id V.heap = none ∧ FD P L S v D x id = some b)) (lim : (S x').h.lim = 0)
    (free : ∀ i id b, IsAl P L S v i id b → (∀ (j : Nat) (oj : O), j < x' → IsK L S .actor j oj → oj.before.testBit i = false) → T.get id (S x').h.heap = none)
    (was : ∀ i' id b, IsAl P L S v i' id b → i' ≠ i → i' ∉ D → Was V V' id ∧ T.get id V.heap = none) : Inv P L S v h0 w0 φ0 env0 (i :: D) x' φ' w' (setD env c.dst (v i)) := by
  obtain ⟨m1, m2⟩ := merge (nx' := (S x').h.next.num) I.heap I.adv h0u hR' a sub n1 n2 n3 fresh spec
  refine ⟨hx', ha, fun j hj c' k ej hk => ?_, m1, m2, Nat.le_trans I.room n3, lim, free, fun i' id b hA hi' g => ?_, I.env.step t.ok e fun j => by rw [List.mem_cons, or_comm]⟩
  · rcases List.mem_cons.1 hj with q | q
    · subst q; rw [e] at ej; cases ej
      exact List.mem_cons_of_mem _ (hb k hk)
    · exact List.mem_cons_of_mem _ (I.down j q c' k ej hk)
  · rw [List.mem_cons, not_or] at hi'
    obtain ⟨q1, q2⟩ := was i' id b hA hi'.1 hi'.2
    cases hg : φ' id g with
    | none => rfl
    | some r =>
      have := a.same id g r q1 (fun ⟨b', q, _⟩ => by rw [q2] at q; cases q) hg
      rw [I.later i' id b hA hi'.2] at this
      cases this
theorem Inv.calm (t : Tr P rec L S v) (h0n : h0.next.num ≤ (S 0).rid.num) (h0u : ∀ id g r, φ0 id g = some r → id.num < h0.next.num) (I : Inv P L S v h0 w0 φ0 env0 D x φ w env) {i : Nat} {c : O} (e : L[i]? = some c)
    (hb : ∀ k, c.before.testBit k = true → k ∈ D) (na : ∀ id b, ¬ IsAl P L S v i id b) (nk : ∀ oj, ¬ IsK L S .actor i oj) {φ' : Phi} {w' : World} (hR' : HR P φ' (S x).h w') (a : Adv (S x).h w φ (S x).h w' φ') :
    Inv P L S v h0 w0 φ0 env0 (i :: D) x φ' w' (setD env c.dst (v i)) := by
  have hF : FD P L S v (i :: D) x = FD P L S v D x := FD_same (fun id b => by
    refine ⟨fun ⟨j, q1, q2⟩ => ⟨j, List.mem_cons_of_mem _ q1, q2⟩, fun ⟨j, q1, q2, q3⟩ => ⟨j, ?_, q2, q3⟩⟩
    rcases List.mem_cons.1 q1 with q | q
    · subst q; exact absurd q2 (na _ _)
    · exact q) rfl
  have hr := t.rid_mono (x := 0) L.length (Nat.zero_le _) (Nat.le_refl _)
  refine I.grow t h0u e hb I.hx (fun j o k => ?_) hR' a I.sub ?_ (Nat.le_refl _) (Nat.le_refl _) (fun id k1 k2 => by omega) (fun id b k => ?_) I.lim I.free fun i' id b hA h1 h2 => ⟨?_, I.free i' id b hA (I.notyet h2)⟩
  · rw [List.mem_cons, ← I.acts j o k]
    refine ⟨fun q => q.resolve_left fun e => ?_, .inr⟩
    subst e; exact nk o k
  · have := I.room; omega
  · rw [hF] at k
    cases q : T.get id (S x).h.heap with
    | none => exact .inr ⟨rfl, k⟩
    | some b' => rw [I.sub id b' q] at k; exact .inl k
  · have := (IsAl.range t hA).2
    exact .inl (by have := I.room; omega)
theorem Inv.alloc (t : Tr P rec L S v) (h0n : h0.next.num ≤ (S 0).rid.num) (h0u : ∀ id g r, φ0 id g = some r → id.num < h0.next.num) (I : Inv P L S v h0 w0 φ0 env0 D x φ w env) {i : Nat} {c : O} (e : L[i]? = some c) (hi : i ∉ D)
    (hb : ∀ k, c.before.testBit k = true → k ∈ D) {id : Pos} {b : Blk} (hA : IsAl P L S v i id b) {ser : Nat} {V' : Hp} {φ' : Phi} {w' : World} (hV : V'.heap = T.set id (some b) .e) (hn : V'.next = id.succ)
    (hR' : HR P φ' V' w') (a : Adv ⟨.e, id, ser, id.num + 1⟩ w φ V' w' φ') :
    Inv P L S v h0 w0 φ0 env0 (i :: D) x φ' w' (setD env c.dst (v i)) := by
  have hr := t.rid_mono (x := 0) L.length (Nat.zero_le _) (Nat.le_refl _)
  have hg := IsAl.range t hA
  have hn' : V'.next.num = id.num + 1 := by rw [hn, Pos.num_succ]
  have hnp : ∀ b, ¬ Pend P L S v D x id b := fun b' ⟨j, q1, q2, _⟩ => by
    rw [(IsAl.same t q2 hA).1] at q1; exact hi q1
  have room := I.room
  refine I.grow t h0u e hb I.hx (fun j o k => ?_) hR' a (fun id' b' q => ?_) ?_ ?_ (Nat.le_refl _) (fun id' k1 k2 => ?_) (fun id' b' k => ?_) I.lim I.free fun i' id' b' hA' h1 h2 => ⟨?_, T.get_e _⟩
  · rw [List.mem_cons, ← I.acts j o k]
    refine ⟨fun q => q.resolve_left fun e => ?_, .inr⟩
    subst e
    obtain ⟨o', _, k', _⟩ := hA
    have := k.1; rw [k'.1] at this; cases this
    have := k.2.1; rw [k'.2.1] at this; cases this
  · rw [T.get_e] at q; cases q
  · show h0.next.num ≤ id.num; omega
  · omega
  · have k1 : id.num ≤ id'.num := k1
    have : id' = id := Pos.num_inj (by omega)
    subst this
    rw [FD_else hnp]
    exact I.free i id' b hA (I.notyet hi)
  · by_cases c : id' = id
    · subst c
      left
      rw [hV, T.get_set, if_pos rfl]
      rw [FD_pend t ⟨i, by simp, hA, I.notyet hi⟩] at k
      exact k
    · right
      refine ⟨T.get_e _, ?_⟩
      rw [← k]
      have hp : ∀ b, Pend P L S v (i :: D) x id' b ↔ Pend P L S v D x id' b := fun b'' => by
        refine ⟨fun ⟨j, q1, q2, q3⟩ => ⟨j, ?_, q2, q3⟩, fun ⟨j, q1, q2⟩ => ⟨j, List.mem_cons_of_mem _ q1, q2⟩⟩
        rcases List.mem_cons.1 q1 with q | q
        · subst q; exact absurd (IsAl.inj q2 hA).1 c
        · exact q
      by_cases hq : ∃ b, Pend P L S v D x id' b
      · obtain ⟨b'', hq⟩ := hq
        rw [FD_pend t hq, FD_pend t ((hp b'').2 hq)]
      · rw [FD_else fun b q => hq ⟨b, q⟩, FD_else fun b q => hq ⟨b, (hp b).1 q⟩]
  · by_cases q : id'.num < id.num
    · exact .inl q
    · right
      rw [hn']
      have : id'.num ≠ id.num := fun q => h1 (by have e := Pos.num_inj q; subst e; exact (IsAl.same t hA' hA).1)
      omega
theorem Inv.actor (t : Tr P rec L S v) (h0n : h0.next.num ≤ (S 0).rid.num) (h0u : ∀ id g r, φ0 id g = some r → id.num < h0.next.num) {i : Nat} {c : O} (I : Inv P L S v h0 w0 φ0 env0 D i φ w env) (hk : IsK L S .actor i c) (hi : i ∉ D)
    (hb : ∀ k, c.before.testBit k = true → k ∈ D) {φ' : Phi} {w' : World}
    (hR' : HR P φ' (S (i + 1)).h w') (a : Adv ⟨insT c.before (S i).als (S i).h.heap, (S i).h.next, (S i).h.ser, (S i).h.lim⟩ w φ (S (i + 1)).h w' φ') :
    Inv P L S v h0 w0 φ0 env0 (i :: D) (i + 1) φ' w' (setD env c.dst (v i)) := by
  have hl := (List.getElem?_eq_some_iff.1 hk.1).1
  have hr := t.rid_mono (x := 0) L.length (Nat.zero_le _) (Nat.le_refl _)
  have room := I.room
  have hals := t.als i I.hx
  -- what the actor sees
  have v1 : ∀ id, (∀ b, ¬ ∃ j, IsAl P L S v j id b ∧ c.before.testBit j = true ∧ ∀ (j' : Nat) (oj : O), j' < i → IsK L S .actor j' oj → oj.before.testBit j = false) →
      T.get id (insT c.before (S i).als (S i).h.heap) = T.get id (S i).h.heap := by
    intro id h
    refine putT_other fun al ha hbit he => h al.b ⟨al.i, ?_⟩
    obtain ⟨q1, q2, q3⟩ := (hals al).1 ha
    subst he
    exact ⟨q2, hbit, q3⟩
  have v2 : ∀ j id b, IsAl P L S v j id b → c.before.testBit j = true → (∀ (j' : Nat) (oj : O), j' < i → IsK L S .actor j' oj → oj.before.testBit j = false) →
      T.get id (insT c.before (S i).als (S i).h.heap) = some b := by
    intro j id b hA hbit hj
    refine putT_mem (fun al ha _ he => ?_) (.inl ⟨⟨j, id, b⟩, (hals _).2 ⟨t.ok.less hk.1 hbit, hA, hj⟩, hbit, rfl⟩)
    have := ((hals al).1 ha).2.1
    subst he
    exact (IsAl.same t this hA).2
  have v3 : ∀ j id b, IsAl P L S v j id b → c.before.testBit j = false → (∀ (j' : Nat) (oj : O), j' < i → IsK L S .actor j' oj → oj.before.testBit j = false) →
      T.get id (insT c.before (S i).als (S i).h.heap) = none := by
    intro j id b hA hbit hj
    rw [v1, I.free j id b hA hj]
    intro b' ⟨j', q1, q2, _⟩
    rw [(IsAl.same t q1 hA).1, hbit] at q2
    cases q2
  have hlim : (S (i + 1)).h.lim = 0 := a.lim.trans I.lim
  have hnx : (S i).h.next.num ≤ (S (i + 1)).h.next.num := a.next
  have hstep : ∀ j, (∀ (j' : Nat) (oj : O), j' < i + 1 → IsK L S .actor j' oj → oj.before.testBit j = false) → c.before.testBit j = false ∧ ∀ (j' : Nat) (oj : O), j' < i → IsK L S .actor j' oj → oj.before.testBit j = false :=
    fun j h => ⟨h i c (by omega) hk, fun j' oj q => h j' oj (by omega)⟩
  refine I.grow t h0u hk.1 hb (by omega) (fun j o k => ?_) hR' a (fun id b q => ?_) ?_ (Nat.le_refl _) hnx (fun id k1 k2 => ?_) (fun id b k => ?_) hlim (fun j id b hA hj => ?_) fun j id b hA h1 h2 => ?_
  · rw [List.mem_cons, I.acts j o k]; omega
  · have q : T.get id (insT c.before (S i).als (S i).h.heap) = some b := q
    by_cases hp : ∃ b j, IsAl P L S v j id b ∧ c.before.testBit j = true ∧ ∀ (j' : Nat) (oj : O), j' < i → IsK L S .actor j' oj → oj.before.testBit j = false
    · obtain ⟨b', j, q1, q2, q3⟩ := hp
      rw [v2 j id b' q1 q2 q3] at q
      cases q
      exact FD_pend t ⟨j, hb j q2, q1, q3⟩
    · rw [v1 id fun b ⟨j, q⟩ => hp ⟨b, j, q⟩] at q
      exact I.sub id b q
  · show h0.next.num ≤ (S i).h.next.num; omega
  · have k1 : (S i).h.next.num ≤ id.num := k1
    cases q : FD P L S v D i id with
    | none => rfl
    | some b =>
      have := I.heap.dom id b q
      rcases this with q | q
      · omega
      · exact absurd rfl q.1
  · by_cases hp : ∃ b, Pend P L S v (i :: D) (i + 1) id b
    · obtain ⟨b', hp⟩ := hp
      rw [FD_pend t hp] at k
      cases k
      obtain ⟨j, q1, q2, q3⟩ := hp
      obtain ⟨s1, s2⟩ := hstep j q3
      right
      refine ⟨v3 j id b q2 s1 s2, FD_pend t ⟨j, ?_, q2, s2⟩⟩
      rcases List.mem_cons.1 q1 with q | q
      · subst q
        obtain ⟨o', _, k', _⟩ := q2
        have := k'.1; rw [hk.1] at this; cases this
        have := k'.2.1; rw [hk.2.1] at this; cases this
      · exact q
    · rw [FD_else fun b q => hp ⟨b, q⟩] at k
      exact .inl k
  · obtain ⟨s1, s2⟩ := hstep j hj
    have := (IsAl.range t hA).2
    exact a.hid id (.inl (show id.num < (S i).h.next.num by omega)) (v3 j id b hA s1 s2)
  · have := (IsAl.range t hA).2
    refine ⟨.inl (show id.num < (S i).h.next.num by omega), v3 j id b hA ?_ (I.notyet h2)⟩
    cases hbit : c.before.testBit j with
    | false => rfl
    | true => exact absurd (hb j hbit) h2
end
end Go.Proofs.YtjhgembcdndmkaaGreatDoor.Am

namespace Go.Proofs.YtjhgembcdndmkaaGreatDoor.Am
section
variable {P : Program} {φ : Phi} {h : Hp} {w : World} {fr : Fr} {callers : List Fr} {g : Frame} {cs c0 : List Frame}
theorem give_ops {fn : FuncId} {env : T AV} {o : O} {rest : List O} {k : List Item} {defers : List AD} {dk : Bool} {round : Option Pos} {v : AV} {x : Value}
    (hF : FrR P φ ⟨fn, env, .ops (o :: rest) :: k, defers, .run, dk, round⟩ g) (hv : Rel φ v x) (hok : o.ok = true) : FrR P φ ⟨fn, setD env o.dst v, .ops rest :: k, defers, .run, dk, round⟩ (g.finish x) := by
  have e : give ⟨fn, env, .ops (o :: rest) :: k, defers, .run, dk, round⟩ v (fun c => Out.next ⟨c, [], ⟨.e, Pos.first, 0, 0⟩⟩) = Out.next ⟨⟨fn, setD env o.dst v, .ops rest :: k, defers, .run, dk, round⟩, [], ⟨.e, Pos.first, 0, 0⟩⟩ := by
    unfold give
    simp only [hok, cond_true]
    cases hd : o.dst with
    | none => rfl
    | some d => simp only [T.setK_eq, setD]
  rcases give_run (fun c => Out.next ⟨c, [], ⟨.e, Pos.first, 0, 0⟩⟩) hF hv with ⟨why, q⟩ | ⟨fr', q, q1, _⟩
  · rw [e] at q; cases q
  · rw [e] at q
    simp only [Out.next.injEq, St.mk.injEq, and_true] at q
    rw [q]; exact q1
theorem op_steps {ops : Array Oper} {i : Nat} {idx : List Nat} {r : List Go.Item} {o : Oper} (hm : g.mode = .run) (hg : g.todo = .inRegion ops (i :: idx) :: r) (hoi : ops[i]? = some o)
    (hw : Region.wanted o (yielded ops g.tmps) = true) (hnd : ∀ c, o.op ≠ .defer c) :
    (∀ nx x w', NV nx x → (execOp (Act.mk g.tmps g.defers).eval o).run P w = .ok nx w' → ∀ cs0, Go.step P (lone g cs0 w) = .next (lone (g.finish x) cs0 w')) ∧
    (∀ f xs, (execOp (Act.mk g.tmps g.defers).eval o).run P w = .ok (.enter f xs) w → ∀ cs0, Go.step P (lone g cs0 w) = .next (lone (Frame.enter P f xs .normal) (g :: cs0) w)) ∧
    (∀ b f tmps assign body, (execOp (Act.mk g.tmps g.defers).eval o).run P w = .ok (.round b f tmps assign body) w → ∀ cs0, Go.step P (lone g cs0 w) = .next (lone (Frame.round b f tmps assign body .normal) (g :: cs0) w)) := by
  have hst : ∀ cs0, stepG P true { frame := g, callers := cs0, status := .running, dying := none } w = stepG.apply P true g cs0 none (execOp (Act.mk g.tmps g.defers).eval o) w := by
    intro cs0
    have e := frame_run hm
    rw [hg] at e
    rw [e]
    have q := stepGR_op (P := P) (b := g) (a := ⟨g.tmps, g.defers⟩) (k := r) (cs := cs0) (w := w) (rest := idx) hoi hw
    rw [Oper.semAt_eq _ _ _ hnd] at q
    exact q
  refine ⟨fun nx x w' hn he cs0 => ?_, fun f xs he cs0 => ?_, fun b f tmps assign body he cs0 => ?_⟩
  · refine step_lone_go ?_
    rw [hst]
    rcases hn with rfl | ⟨rfl, rfl⟩
    · simp [stepG.apply, Sem.runT_eq, he, GStep.bare_after]
    · simp [stepG.apply, Sem.runT_eq, he, GStep.bare_after]
  · refine step_lone_go ?_
    rw [hst]
    simp [stepG.apply, Sem.runT_eq, he, GStep.bare_after, hg]
  · refine step_lone_go ?_
    rw [hst]
    simp [stepG.apply, Sem.runT_eq, he, GStep.bare_after]
end
section
variable {P : Program} {rec : St → Out} {ops : Array Oper} {S : Nat → DS} {v : Nat → AV} {fn : FuncId} {k : List Item} {defers : List AD} {dk : Bool} {round : Option Pos}
variable {h0 : Hp} {w0 : World} {φ0 : Phi} {env0 : T AV}
theorem Inv.seen {L : List O} (t : Tr P rec L S v) {D : List Nat} {φ : Phi} {w : World} {env : T AV} {i : Nat} {c : O} (I : Inv P L S v h0 w0 φ0 env0 D i φ w env) (e : L[i]? = some c) (hb : ∀ k, c.before.testBit k = true → k ∈ D) :
    ∀ id b, T.get id (insT c.before (S i).als (S i).h.heap) = some b → FD P L S v D i id = some b := by
  intro id b q
  have hals := t.als i I.hx
  by_cases hp : ∃ al ∈ (S i).als, c.before.testBit al.i = true ∧ al.id = id
  · obtain ⟨al, q1, q2, q3⟩ := hp
    obtain ⟨r1, r2, r3⟩ := (hals al).1 q1
    subst q3
    rw [putT_mem (b := al.b) (fun al' ha _ he => ?_) (.inl ⟨al, q1, q2, rfl⟩)] at q
    · cases q
      exact FD_pend t ⟨al.i, hb _ q2, r2, r3⟩
    · have := ((hals al').1 ha).2.1
      rw [he] at this
      exact (IsAl.same t this r2).2
  · rw [putT_other fun al ha hbit he => hp ⟨al, ha, hbit, he⟩] at q
    exact I.sub id b q
noncomputable def inReg (P : Program) (ops : Array Oper) (fn : FuncId) (k : List Item) (defers : List AD) (dk : Bool) (round : Option Pos) (env : T AV) (idx : List Nat) : Fr :=
  ⟨fn, env, .ops (idx.map fun i => compOper P (numT P fn) ops 0 (ops.getD i default)) :: k, defers, .run, dk, round⟩
theorem finish_todo {g : Frame} {i : Nat} {idx : List Nat} {r : List Go.Item} (hg : g.todo = .inRegion ops (i :: idx) :: r) (x : Value) : (g.finish x).todo = .inRegion ops idx :: r := by
  simp only [Frame.finish, hg]
theorem draw_op (hrec : Sound P rec) (t : Tr P rec (drawnL P (numT P fn) ops) S v) (h0n : h0.next.num ≤ (S 0).rid.num) (h0u : ∀ id g r, φ0 id g = some r → id.num < h0.next.num) (he0 : env0 = (S 0).env)
    {D : List Nat} {x : Nat} {φ : Phi} {w : World} {env : T AV} {g : Frame} (I : Inv P (drawnL P (numT P fn) ops) S v h0 w0 φ0 env0 D x φ w env) {i : Nat} {idx : List Nat} {o : Oper} (hoi : ops[i]? = some o) (hi : i ∉ D)
    (hb : ∀ (c : O) (k : Nat), (drawnL P (numT P fn) ops)[i]? = some c → c.before.testBit k = true → k ∈ D) (hF : FrR P φ (inReg P ops fn k defers dk round env (i :: idx)) g) {r : List Go.Item} (hg : g.todo = .inRegion ops (i :: idx) :: r) (cs : List Frame) :
    ∃ y φ' w' x' env', Steps P (lone g cs w) (lone (g.finish y) cs w') ∧ Inv P (drawnL P (numT P fn) ops) S v h0 w0 φ0 env0 (i :: D) x' φ' w' env' ∧ FrR P φ' (inReg P ops fn k defers dk round env' idx) (g.finish y) := by
  subst he0
  have hod : ops.getD i default = o := by rw [Array.getD_eq_getD_getElem?, hoi]; rfl
  have hgot := drawn_get (P := P) (n := numT P fn) hoi
  generalize hmask : maskOf ((masks ops.toList []).take i) o.after.toList 0 = m at hgot
  generalize hcc : compOper P (numT P fn) ops m o = c at hgot
  have e := hgot
  have hb := fun k => hb c k e
  have hl := (List.getElem?_eq_some_iff.1 e).1
  have hok := t.ok.ok i c e
  have hdst : (compOper P (numT P fn) ops 0 o).dst = c.dst := by rw [← hcc]; rfl
  have hok0 : (compOper P (numT P fn) ops 0 o).ok = true := by rw [← hcc] at hok; exact hok
  have hwn : wantedA (compOper P (numT P fn) ops 0 o) env = wantedA c env := by rw [← hcc]; rfl
  have hop : c.op = match compAOp P o.op with | some a => a | none => .bad (opWhy o) := by rw [← hcc]; rfl
  have hF1 : FrR P φ ⟨fn, env, .ops (compOper P (numT P fn) ops 0 o :: idx.map fun i => compOper P (numT P fn) ops 0 (ops.getD i default)) :: k, defers, .run, dk, round⟩ g := by
    have := hF; unfold inReg at this; rw [List.map_cons, hod] at this; exact this
  have hgm : g.mode = .run := hF1.run_mode rfl
  have hS : Same (looks c) env (S i).env := EnvAt.same t.ok I.env (t.env i (by omega)) e (fun k hk => ⟨hb k hk, t.ok.less e hk⟩) fun k ok ek hk => ⟨fun hd => hi (I.down k hd ok i ek hk), fun hd => by have := t.ok.less ek hk; omega⟩
  have hw : Region.wanted o (yielded ops g.tmps) = wantedA c (S i).env := by
    rw [wanted_eq (bef := 0) hF1.env hok0, hwn, wanted_congr hS]
  have hgive : ∀ {φ' : Phi} {z : Value}, Le φ φ' → Rel φ' (v i) z → FrR P φ' (inReg P ops fn k defers dk round (setD env c.dst (v i)) idx) (g.finish z) := by
    intro φ' z hle hv
    rw [← hdst]
    exact give_ops (hF1.mono hle) hv hok0
  have q := t.turn i c e
  have one : ∀ kd, IsK (drawnL P (numT P fn) ops) S kd i c → ∀ (kd' : DK) (oj : O), kd' ≠ kd → ¬ IsK (drawnL P (numT P fn) ops) S kd' i oj := fun kd hk kd' oj hne hk' => by
    have := hk'.1; rw [e] at this; cases this
    exact hne (hk'.2.1.symm.trans hk.2.1)
  cases hwi : wantedA c (S i).env with
  | false =>
    rw [hwi] at hw
    have nk : ∀ kd oj, ¬ IsK (drawnL P (numT P fn) ops) S kd i oj := fun kd oj hk => by
      have := hk.1; rw [e] at this; cases this
      rw [hk.2.2] at hwi; cases hwi
    have hv : v i = .undef := by
      generalize S (i + 1) = s' at q
      generalize v i = vy at q ⊢
      cases q <;> first | rfl | simp_all
    have hR := I.heap.sub (V := (S x).h) I.sub (fun id g r k => by rw [I.lim]; exact I.heap.used id g r k) (fun id b k => by rw [I.lim]; exact I.heap.dom id b (I.sub id b k))
    refine ⟨Go.undef, φ, w, x, _, .one ?_, I.calm t h0n h0u e hb (fun id b ⟨o', _, hk, _⟩ => nk _ _ hk) (nk _) hR (Adv.refl _ _ _), hgive (Le.refl φ) (by rw [hv]; exact Rel.undef)⟩
    have hfin : g.finish Go.undef = g.atR (Act.put ⟨g.tmps, g.defers⟩ ((ops[i]?).bind (·.dst)) Go.undef) (.inRegion ops idx :: r) := by
      rw [← Frame.finish_atR, ← hg, ← frame_run hgm]
    rw [hfin]
    have ef := frame_run hgm
    rw [hg] at ef
    have st := stepR_op_skip (P := P) (b := g) (a := ⟨g.tmps, g.defers⟩) (k := r) (cs := cs) (w := w) (ops := ops) (i := i) (rest := idx) (by rw [hoi]; exact hw)
    rw [← ef] at st
    exact st
  | true =>
    rw [hwi] at hw
    have hE : ∀ V, evalOp P c.op env V = evalOp P c.op (S i).env V := fun V => evalOp_congr P (looks_op hS) V
    cases hco : compAOp P o.op with
    | none =>
      rw [hco] at hop
      simp only at hop
      have hbad : ∀ V, evalOp P c.op (S i).env V = .fail (opWhy o) := fun V => by rw [hop]; rfl
      have hka : kindOf c.op = .actor := by rw [hop]; rfl
      have r := (q.of_actor hka hwi).1
      cases r with
      | val e' => rw [hbad] at e'; cases e'
      | enter e' _ _ => rw [hbad] at e'; cases e'
      | round e' _ _ => rw [hbad] at e'; cases e'
    | some ao =>
      rw [hco] at hop
      simp only at hop
      have hnd : ∀ cc, o.op ≠ .defer cc := fun cc hc => by
        rw [hc] at hco
        unfold compAOp at hco
        simp only at hco
        split at hco
        · split at hco
          · cases hco
            rename_i fo lo _ _
            have hka : kindOf c.op = .actor := by rw [hop]; rfl
            have r := (q.of_actor hka hwi).1
            rw [hop] at r
            cases r with
            | val e' => rcases evalOp_defer P fo lo (S i).env ⟨insT c.before (S i).als (S i).h.heap, (S i).h.next, (S i).h.ser, (S i).h.lim⟩ with ⟨_, _, z⟩ | ⟨_, z⟩ <;> (rw [z] at e'; cases e')
            | enter e' _ _ => rcases evalOp_defer P fo lo (S i).env ⟨insT c.before (S i).als (S i).h.heap, (S i).h.next, (S i).h.ser, (S i).h.lim⟩ with ⟨_, _, z⟩ | ⟨_, z⟩ <;> (rw [z] at e'; cases e')
            | round e' _ _ => rcases evalOp_defer P fo lo (S i).env ⟨insT c.before (S i).als (S i).h.heap, (S i).h.next, (S i).h.ser, (S i).h.lim⟩ with ⟨_, _, z⟩ | ⟨_, z⟩ <;> (rw [z] at e'; cases e')
          · cases hco
        · cases hco
      obtain ⟨st1, st2, st3⟩ := op_steps (P := P) (w := w) hgm hg hoi hw hnd
      have hres : ∀ V, HR P φ V w → Room V → ResR P φ V w (evalOp P c.op (S i).env V) ((execOp (Act.mk g.tmps g.defers).eval o).run P w) := fun V hR hm => by
        rw [← hE, hop]
        exact evalOp_run (a := ⟨g.tmps, g.defers⟩) hR hF1.env hm hco
      have hRx := I.heap.sub (V := (S x).h) I.sub (fun id g r k => by rw [I.lim]; exact I.heap.used id g r k) (fun id b k => by rw [I.lim]; exact I.heap.dom id b (I.sub id b k))
      have calm : ∀ h', evalOp P c.op (S i).env (S x).h = .val (v i) h' → h' = (S x).h → (kindOf c.op = .still ∨ kindOf c.op = .load) →
          ∃ y φ' w' x' env', Steps P (lone g cs w) (lone (g.finish y) cs w') ∧ Inv P (drawnL P (numT P fn) ops) S v h0 w0 φ0 (S 0).env (i :: D) x' φ' w' env' ∧ FrR P φ' (inReg P ops fn k defers dk round env' idx) (g.finish y) := by
        intro h' ev eh hkd
        subst eh
        have hr := hres _ hRx (.inl I.lim)
        rw [ev] at hr
        obtain ⟨nx, z, w', φ', r1, r2, r3, r4, r5⟩ := hr
        refine ⟨z, φ', w', x, _, .one (st1 nx z w' r2 r1 cs), I.calm t h0n h0u e hb (fun id b ⟨o', _, hk, _⟩ => ?_) (fun oj hk => ?_) r3 r4, hgive r4.le r5⟩
        · have := hk.1; rw [e] at this; cases this
          rcases hkd with q | q <;> (have := hk.2.1; rw [q] at this; cases this)
        · have := hk.1; rw [e] at this; cases this
          rcases hkd with q | q <;> (have := hk.2.1; rw [q] at this; cases this)
      cases hkd : kindOf c.op with
      | still =>
        obtain ⟨h', ev⟩ := q.of_still hkd hwi
        exact calm _ ((still_same hkd ev).2 _) rfl (.inl hkd)
      | load =>
        obtain ⟨h', ev⟩ := t.window ⟨e, hkd, hwi⟩ x I.hx (fun j oj hk hbit => (I.acts j oj hk).1 (hb j hbit)) (fun j oj hk hj => I.notyet hi j oj hj hk)
        exact calm h' ev (load_same hkd ev) (.inr hkd)
      | alloc =>
        obtain ⟨h', b, ev, eb, _⟩ := q.of_alloc hkd hwi
        have hA : IsAl P (drawnL P (numT P fn) ops) S v i (S i).rid b := ⟨c, h', ⟨e, hkd, hwi⟩, rfl, ev, eb⟩
        obtain ⟨b', hs⟩ := alloc_shape hkd ev
        have : b' = b := by
          rw [hs] at eb
          simp only at eb
          rw [T.get_set, if_pos rfl] at eb
          cases eb; rfl
        subst this
        have hRe : HR P φ ⟨.e, (S i).rid, (S i).h.ser, (S i).rid.num + 1⟩ w := by
          refine I.heap.sub (fun id b k => by rw [T.get_e] at k; cases k) (fun id gg rr k => ?_) (fun id b k => by rw [T.get_e] at k; cases k)
          by_cases c1 : id = (S i).rid
          · subst c1
            rw [I.later i _ _ hA hi] at k
            cases k
          · have : id.num ≠ (S i).rid.num := fun q => c1 (Pos.num_inj q)
            by_cases c2 : id.num < (S i).rid.num
            · exact .inl c2
            · exact .inr ⟨by simp, by simp only; omega⟩
        have hr := hres _ hRe (.inr (by simp))
        rw [ev] at hr
        obtain ⟨nx, z, w', φ', r1, r2, r3, r4, r5⟩ := hr
        exact ⟨z, φ', w', x, _, .one (st1 nx z w' r2 r1 cs), I.alloc t h0n h0u e hi hb hA (by rw [hs]) (by rw [hs]) r3 r4, hgive r4.le r5⟩
      | actor =>
        have hK : IsK (drawnL P (numT P fn) ops) S .actor i c := ⟨e, hkd, hwi⟩
        have hact : ∀ (j : Nat) (oj : O), IsK (drawnL P (numT P fn) ops) S .actor j oj → (j ∈ D ↔ j < i) := by
          intro j oj hk
          have ia : isActor c.op = true := by unfold isActor; rw [hkd]
          have ja : isActor oj.op = true := by unfold isActor; rw [hk.2.1]
          refine ⟨fun hj => ?_, fun hj => hb j (t.ok.chain i j c oj e hk.1 hj ia ja)⟩
          by_cases c1 : j < i
          · exact c1
          · by_cases c2 : j = i
            · subst c2; exact absurd hj hi
            · exact absurd (I.down j hj oj i hk.1 (t.ok.chain j i oj c hk.1 e (by omega) ja ia)) hi
        have I := I.move t (x' := i) (by omega) hact
        have r := (q.of_actor hkd hwi).1
        have sub : ∀ id b, T.get id (insT c.before (S i).als (S i).h.heap) = some b → FD P (drawnL P (numT P fn) ops) S v D i id = some b := I.seen t e hb
        have hRV : HR P φ ⟨insT c.before (S i).als (S i).h.heap, (S i).h.next, (S i).h.ser, (S i).h.lim⟩ w :=
          I.heap.sub sub (fun id g r k => by simp only [I.lim]; exact I.heap.used id g r k) (fun id b k => by simp only [I.lim]; exact I.heap.dom id b (sub id b k))
        have hr := hres _ hRV (.inl I.lim)
        cases r with
        | val ev =>
          rw [ev] at hr
          obtain ⟨nx, z, w', φ', r1, r2, r3, r4, r5⟩ := hr
          exact ⟨z, φ', w', i + 1, _, .one (st1 nx z w' r2 r1 cs), I.actor t h0n h0u hK hi hb r3 r4, hgive r4.le r5⟩
        | @enter f args h1 fr ev hbf hrr =>
          rw [ev] at hr
          obtain ⟨rfl, xs, fn', c', r1, r2, r3, r4⟩ := hr
          obtain ⟨q1, q2, q3, _⟩ := begin_run hbf r4
          have ho := hrec ⟨fr, [], _⟩ φ w _ (g :: cs) rfl hRV I.lim q1
          rw [hrr] at ho
          obtain ⟨w', φ', z, s1, s2, s3, s4, _⟩ := ho
          exact ⟨z, φ', w', i + 1, _, (Steps.one (st2 f xs r1 cs)).trans (s4 g cs rfl), I.actor t h0n h0u hK hi hb s1 s2, hgive s2.le s3⟩
        | @round l args fr ev hbf hrr =>
          rw [ev] at hr
          obtain ⟨bb, xs, hφ, hx, r1⟩ := hr
          obtain ⟨f, tmps, assign, body, e1, e2, e3⟩ := round_run hRV hφ hx hbf
          have ho := hrec ⟨fr, [], _⟩ φ w _ (g :: cs) rfl hRV I.lim e2
          rw [hrr] at ho
          obtain ⟨w', φ', z, s1, s2, s3, s4, _⟩ := ho
          exact ⟨z, φ', w', i + 1, _, (Steps.one (st3 bb f tmps assign body (r1.trans e1) cs)).trans (s4 g cs rfl), I.actor t h0n h0u hK hi hb s1 s2, hgive s2.le s3⟩
theorem draw_ops (hrec : Sound P rec) (t : Tr P rec (drawnL P (numT P fn) ops) S v) (h0n : h0.next.num ≤ (S 0).rid.num) (h0u : ∀ id g r, φ0 id g = some r → id.num < h0.next.num) (he0 : env0 = (S 0).env) (cs : List Frame) {r : List Go.Item} :
    ∀ (idx : List Nat) (D : List Nat) (x : Nat) (φ : Phi) (w : World) (env : T AV) (g : Frame), Order ops D idx → Inv P (drawnL P (numT P fn) ops) S v h0 w0 φ0 env0 D x φ w env →
    FrR P φ (inReg P ops fn k defers dk round env idx) g → g.todo = .inRegion ops idx :: r →
    ∃ g' D' φ' w' x' env', Steps P (lone g cs w) (lone g' cs w') ∧ (∀ i, i < ops.size → i ∈ D') ∧ Inv P (drawnL P (numT P fn) ops) S v h0 w0 φ0 env0 D' x' φ' w' env' ∧ FrR P φ' (inReg P ops fn k defers dk round env' []) g' ∧ g'.todo = .inRegion ops [] :: r := by
  intro idx
  induction idx with
  | nil =>
    intro D x φ w env g ho I hF hg
    cases ho with
    | nil h => exact ⟨g, D, φ, w, x, env, .refl _ _, h, I, hF, hg⟩
  | cons i idx ih =>
    intro D x φ w env g ho I hF hg
    cases ho with
    | @cons _ _ _ o hi hn he hrest =>
      have hb := order_bits (P := P) (n := numT P fn) I.down hi he
      obtain ⟨y, φ', w', x', env', s1, s2, s3⟩ := draw_op hrec t h0n h0u he0 I hi hn hb hF hg cs
      obtain ⟨g', D', φ'', w'', x'', env'', z1, z2, z3, z4, z5⟩ := ih (i :: D) x' φ' w' env' (g.finish y) hrest s2 s3 (finish_todo hg y)
      exact ⟨g', D', φ'', w'', x'', env'', s1.trans z1, z2, z3, z4, z5⟩
end
end Go.Proofs.YtjhgembcdndmkaaGreatDoor.Am

namespace Go.Proofs.YtjhgembcdndmkaaGreatDoor.Am
theorem Order.lt {ops : Array Oper} {D l : List Nat} (h : Order ops D l) : ∀ i ∈ l, i < ops.size := by
  induction h with
  | nil _ => intro i hi; simp at hi
  | cons hi _ _ _ ih =>
    intro j hj
    rcases List.mem_cons.1 hj with e | hj
    · subst e; exact (Array.getElem?_eq_some_iff.1 hi).1
    · exact ih j hj
theorem HRF.up {P : Program} {φ : Phi} {F : Pos → Option Blk} {nx nx' : Nat} {w : World} (h : HRF P φ F nx 0 w) (hn : nx ≤ nx') : HRF P φ F nx' 0 w := by
  have up : ∀ {id}, Old nx 0 id → Old nx' 0 id := fun {id} o => by
    rcases o with q | q
    · exact .inl (by omega)
    · exact absurd rfl q.1
  exact ⟨h.blk, fun id g r e => up (h.used id g r e), fun id b e => up (h.dom id b e), h.sep, h.inb, h.glob⟩
theorem HRF.toR {P : Program} {φ : Phi} {h : Hp} {w : World} (k : HRF P φ (fun id => T.get id h.heap) h.next.num 0 w) (hz : h.lim = 0) : HR P φ h w :=
  ⟨k.blk, fun id g r e => by rw [hz]; exact k.used id g r e, fun id b e => by rw [hz]; exact k.dom id b e, k.sep, k.inb, k.glob⟩
theorem skipIds_le : ∀ (l : List O) (p : Pos), p.num ≤ (skipIds l p).num
  | [], p => Nat.le_refl _
  | o :: l, p => by
    unfold skipIds
    cases isAlloc o.op with
    | true => rw [cond_true]; exact Nat.le_trans (by rw [Pos.num_succ]; omega) (skipIds_le l p.succ)
    | false => rw [cond_false]; exact skipIds_le l p
theorem compDrawn_cases (P : Program) (n : Nat) (ops : Array Oper) : (∃ why, compDrawn P n ops = .bad why) ∨ (compDrawn P n ops = .drawn (drawnL P n ops) ∧ okModes P ops = true ∧ okRegion (drawnL P n ops) = true) := by
  have e : compDrawn P n ops = bif okModes P ops then (bif okRegion (drawnL P n ops) then .drawn (drawnL P n ops) else .bad "drawn order") else .bad "drawn modes" := rfl
  rw [e]
  cases okModes P ops with
  | false => exact .inl ⟨_, rfl⟩
  | true =>
    cases okRegion (drawnL P n ops) with
    | false => exact .inl ⟨_, rfl⟩
    | true => exact .inr ⟨rfl, rfl, rfl⟩
section
variable {P : Program} {φ : Phi} {w : World} {g : Frame} {cs c0 : List Frame}
theorem drawn_run {s : St} {rec : St → Out} (hrec : Sound P rec) (hR : HR P φ s.hp w) (hz : s.hp.lim = 0) (hF : FrR P φ s.cur g) (hC : FrsR P φ s.callers cs) {id : Nat} {ops : Array Oper} {k : List Item}
    (hm : s.cur.mode = .run) (ht : s.cur.todo = .code (comp P (numT P s.cur.fn) (.region id ops true)) :: k) {k' : List Go.Item} (hg : g.todo = .code (.region id ops true) :: k') (hk : ItemsR P φ (numT P s.cur.fn) k k') :
    OutR P c0 φ s g cs w (step P rec s) := by
  obtain ⟨fr, callers, h⟩ := s
  obtain ⟨fn, env, todo, defers, mode, dk, round⟩ := fr
  simp only at hm ht hR hz hF hC hk
  subst hm
  subst ht
  unfold step
  simp only
  have hc : comp P (numT P fn) (.region id ops true) = compDrawn P (numT P fn) ops := rfl
  rw [hc]
  rcases compDrawn_cases P (numT P fn) ops with ⟨why, q⟩ | ⟨q, hmo, hor⟩
  · rw [q]; trivial
  rw [q]
  simp only
  generalize hL : drawnL P (numT P fn) ops = L at q hor ⊢
  have hlen : L.length = ops.size := by rw [← hL]; exact drawn_len
  rcases drawnGo_trace P rec (fun env h' => Out.next ⟨⟨fn, env, k, defers, .run, dk, round⟩, callers, h'⟩) L 0 ⟨[], [], [], h.next, env, ⟨h.heap, skipIds L h.next, h.ser, h.lim⟩⟩ with ⟨why, r⟩ | ⟨S, v, r1, r2, r3⟩
  · rw [r]; trivial
  rw [r3]
  clear r3
  simp only [Nat.zero_add] at r2 ⊢
  have t : Tr P rec L S v := ⟨okRegion_sound hor, r2, by rw [r1], by rw [r1], by rw [r1]⟩
  have hlast := t.rid_last
  have e0 : (S 0).rid = h.next := by rw [r1]
  have e1 : (S 0).h = ⟨h.heap, skipIds L h.next, h.ser, h.lim⟩ := by rw [r1]
  have e2 : (S 0).env = env := by rw [r1]
  rw [e0] at hlast
  have old : ∀ {i : Pos}, Old h.next.num h.lim i → i.num < h.next.num := fun {i} o => by
    rcases o with q | q
    · exact q
    · exact absurd hz q.1
  have h0u : ∀ i gg r, φ i gg = some r → i.num < h.next.num := fun i gg r e => old (hR.used i gg r e)
  have hle := skipIds_le L h.next
  have hFD : FD P L S v [] 0 = fun i => T.get i h.heap := by
    funext i
    rw [FD_else fun b ⟨j, hj, _⟩ => by simp at hj, e1]
  have hw1 : HRF P φ (fun i => T.get i h.heap) h.next.num 0 { w with drawn := w.drawn + 1 } := by
    have := hR.toF
    rw [hz] at this
    exact ⟨this.blk, this.used, this.dom, this.sep, this.inb, this.glob⟩
  have ha0 : AdvF h w φ (fun i => T.get i h.heap) (skipIds L h.next).num { w with drawn := w.drawn + 1 } φ := by
    have a := Adv.refl_F h w φ hle
    exact ⟨a.le, a.os, a.output, a.tape, a.size, a.next, a.new, a.old, a.keep, a.hid, a.same⟩
  have I0 : Inv P L S v h w φ env [] 0 φ { w with drawn := w.drawn + 1 } env := by
    refine ⟨Nat.zero_le _, fun i o _ => ⟨fun hi => by simp at hi, fun hi => by omega⟩, fun j hj => by simp at hj, ?_, ?_, ?_, ?_, fun i id' b hA _ => ?_, fun i id' b hA _ gg => ?_, ⟨fun j o p hj => by simp at hj, fun p _ => rfl⟩⟩
    · rw [hFD, e1]; exact hw1.up hle
    · rw [hFD, e1]; exact ha0
    · rw [hlast, e1]; exact Nat.le_refl _
    · rw [e1]; exact hz
    · have := (IsAl.range t hA).1
      rw [e0] at this
      rw [e1]
      cases q : T.get id' h.heap with
      | none => rfl
      | some b' => have := old (hR.dom id' b' q); omega
    · have := (IsAl.range t hA).1
      rw [e0] at this
      cases q : φ id' gg with
      | none => rfl
      | some r => have := h0u id' gg r q; omega
  have horder := order_schedule hmo (w.tape w.drawn (.order g.fn id))
  generalize hidx : Region.schedule (P.follows .mixedOrders) ops (w.tape w.drawn (.order g.fn id)) = idx at horder
  have hF0 : FrR P φ (inReg P ops fn k defers dk round env idx) (g.atR ⟨g.tmps, g.defers⟩ (.inRegion ops idx :: k')) := by
    exact hF.setTodo (k := .ops (idx.map fun i => compOper P (numT P fn) ops 0 (ops.getD i default)) :: k) (.cons ⟨rfl, horder.lt⟩ hk) rfl
  have st0 : Go.step P (lone g (cs ++ c0) w) = .next (lone (g.atR ⟨g.tmps, g.defers⟩ (.inRegion ops idx :: k')) (cs ++ c0) { w with drawn := w.drawn + 1 }) := by
    refine step_at hF rfl hg ?_
    rw [← hidx]
    exact stepR_region_draw
  subst hL
  obtain ⟨g', D', φ', w', x', env', s1, s2, s3, s4, s5⟩ := draw_ops (r := k') hrec t (by rw [e0]; exact Nat.le_refl _) h0u e2.symm (cs ++ c0) idx [] 0 φ _ env _ horder I0 hF0 (by simp [Frame.atR])
  have I := s3.move t (x' := (drawnL P (numT P fn) ops).length) (Nat.le_refl _) fun i o hk => by
    have hl := (List.getElem?_eq_some_iff.1 hk.1).1
    exact ⟨fun _ => hl, fun _ => s2 i (by omega)⟩
  have hals := t.als _ (Nat.le_refl _)
  generalize hn : (drawnL P (numT P fn) ops).length = n at *
  have hlt : ∀ {i : Nat} {o : O}, (drawnL P (numT P fn) ops)[i]? = some o → i < n := fun {i o} e => by
    have := (List.getElem?_eq_some_iff.1 e).1; omega
  have hFE : FD P (drawnL P (numT P fn) ops) S v D' n = fun i => T.get i (allT (S n).als (S n).h.heap) := by
    funext i
    by_cases hp : ∃ b, Pend P (drawnL P (numT P fn) ops) S v D' n i b
    · obtain ⟨b, hp⟩ := hp
      rw [FD_pend t hp]
      obtain ⟨j, q1, q2, q3⟩ := hp
      have q2' := q2
      obtain ⟨o', _, hk', _⟩ := q2'
      rw [putT_mem (b := b) (fun al ha _ he => ?_) (.inl ⟨⟨j, i, b⟩, (hals _).2 ⟨hlt hk'.1, q2, q3⟩, rfl, rfl⟩)]
      have := ((hals al).1 ha).2.1
      rw [he] at this
      exact (IsAl.same t this q2).2
    · rw [FD_else fun b q => hp ⟨b, q⟩, putT_other fun al ha _ he => hp ⟨al.b, al.i, ?_⟩]
      obtain ⟨q1, q2, q3⟩ := (hals al).1 ha
      subst he
      exact ⟨s2 al.i (by omega), q2, q3⟩
  have hend := I.heap
  have hadv := I.adv
  have hlm := I.lim
  rw [hFE] at hend hadv
  have hev : ∀ p, ev env' (.tmp p) = ev (S n).env (.tmp p) := by
    intro p
    have q := t.env n (by omega)
    rw [e2] at q
    by_cases c : ∃ (j : Nat) (oj : O), (drawnL P (numT P fn) ops)[j]? = some oj ∧ oj.dst = some p
    · obtain ⟨j, oj, ej, dj⟩ := c
      rw [I.env.1 j oj p (s2 j (by have := hlt ej; omega)) ej dj, q.1 j oj p (hlt ej) ej dj]
    · have c' : ∀ (D : Nat → Prop) (j : Nat) (o : O), D j → (drawnL P (numT P fn) ops)[j]? = some o → o.dst ≠ some p := fun D j oj _ ej dj => c ⟨j, oj, ej, dj⟩
      rw [I.env.2 p (c' _), q.2 p (c' _)]
  have hle : Le φ φ' := hadv.le
  have st1 : Go.step P (lone g' (cs ++ c0) w') = .next (lone (g'.atR ⟨g'.tmps, g'.defers⟩ k') (cs ++ c0) w') := step_at s4 rfl s5 stepR_region_end
  have hF' : FrR P φ' ⟨fn, (S n).env, k, defers, .run, dk, round⟩ (g'.atR ⟨g'.tmps, g'.defers⟩ k') := by
    have q := s4.setTodo (hk.mono hle) rfl
    refine ⟨q.fn, fun tt => ?_, q.size, q.todo, q.defers, q.mode, q.kind, q.round⟩
    rw [← hev]
    exact q.env tt
  have hb := bot_eq (fr := ⟨fn, env, .code (.drawn (drawnL P (numT P fn) ops)) :: k, defers, .run, dk, round⟩) (fr' := ⟨fn, (S n).env, k, defers, .run, dk, round⟩) rfl rfl callers h ⟨allT (S n).als (S n).h.heap, (S n).h.next, (S n).h.ser, (S n).h.lim⟩
  exact ⟨_, cs, w', φ', (Steps.one st0).trans (s1.trans (.one st1)), HRF.toR (h := ⟨allT (S n).als (S n).h.heap, (S n).h.next, (S n).h.ser, (S n).h.lim⟩) hend hlm, hF', hC.mono hle,
    AdvF.toAdv (h := ⟨allT (S n).als (S n).h.heap, (S n).h.next, (S n).h.ser, (S n).h.lim⟩) hadv (hlm.trans hz.symm), hb.1, hb.2⟩
theorem step_sound {s : St} {rec : St → Out} (hrec : Sound P rec) (hR : HR P φ s.hp w) (hz : s.hp.lim = 0) (hF : FrR P φ s.cur g) (hC : FrsR P φ s.callers cs) : OutR P c0 φ s g cs w (step P rec s) :=
  step_run rec hR hz hF hC fun _ _ _ hm ht _ hg hk => drawn_run hrec hR hz hF hC hm ht hg hk
end
end Go.Proofs.YtjhgembcdndmkaaGreatDoor.Am

namespace Go.Proofs.YtjhgembcdndmkaaGreatDoor.Am
open Go.RowKit
section
variable {P : Program} {φ φ' : Phi} {w w' : World} {g g' : Frame} {cs cs' c0 : List Frame} {s s' : St}
theorem OutR.then {r : Out} (hR : HR P φ s.hp w) (hz : s.hp.lim = 0) (hs : Steps P (lone g (cs ++ c0) w) (lone g' (cs' ++ c0) w')) (hA : Adv s.hp w φ s'.hp w' φ') (b1 : (bot s').fn = (bot s).fn) (b2 : (bot s').round = (bot s).round)
    (h : OutR P c0 φ' s' g' cs' w' r) : OutR P c0 φ s g cs w r := by
  cases r with
  | fail why => trivial
  | next s'' =>
    obtain ⟨g'', cs'', w'', φ'', q1, q2, q3, q4, q5, q6, q7⟩ := h
    exact ⟨g'', cs'', w'', φ'', hs.trans q1, q2, q3, q4, hA.trans hR q5 (Room.was0 hz), q6.trans b1, q7.trans b2⟩
  | done v h'' =>
    obtain ⟨w'', φ'', x, q1, q2, q3, q4, q5⟩ := h
    refine ⟨w'', φ'', x, q1, hA.trans hR q2 (Room.was0 hz), q3, fun c cs1 e => hs.trans (q4 c cs1 e), fun e => ?_⟩
    obtain ⟨g'', r1, r2, r3⟩ := q5 (b2.trans e)
    exact ⟨g'', hs.trans r1, r2.trans b1, r3⟩
end
def Sounds (P : Program) (st : St → Out) : Prop :=
  ∀ (s : St) (φ : Phi) (w : World) (g : Frame) (cs c0 : List Frame), HR P φ s.hp w → s.hp.lim = 0 → FrR P φ s.cur g → FrsR P φ s.callers cs → OutR P c0 φ s g cs w (st s)
theorem Sounds.sound {P : Program} {st : St → Out} (h : Sounds P st) : Sound P st := fun s φ w g c0 e hR hz hF => h s φ w g [] c0 hR hz hF (by rw [e]; exact .nil)
theorem pow_sounds {P : Program} {st : St → Out} (h : Sounds P st) : ∀ n, Sounds P (pow st n)
  | 0 => h
  | n + 1 => fun s φ w g cs c0 hR hz hF hC => by
    have q := pow_sounds h n s φ w g cs c0 hR hz hF hC
    unfold pow
    split
    · rename_i s' e
      rw [e] at q
      obtain ⟨g', cs', w', φ', q1, q2, q3, q4, q5, q6, q7⟩ := q
      exact OutR.then hR hz q1 q5 q6 q7 (pow_sounds h n s' φ' w' g' cs' c0 q2 (q5.lim.trans hz) q3 q4)
    · exact q
theorem run_sounds (P : Program) : ∀ d, Sounds P (run P d)
  | 0 => fun _ _ _ _ _ _ _ _ _ _ => trivial
  | d + 1 => pow_sounds (fun _ _ _ _ _ _ hR hz hF hC => step_sound (run_sounds P d).sound hR hz hF hC) 30
noncomputable def phi0 (P : Program) : Phi := fun id gen => if gen = 0 ∧ id.num ≤ globN P then some (id.num - 1, 0, globSz (id.num - 1)) else none
theorem start_rel {P : Program} {w : World} (hw : globN P ≤ w.heap.size) : HR P (phi0 P) ⟨.e, Pos.ofNat (globN P), 0, 0⟩ w := by
  have key : ∀ {id g b s n}, phi0 P id g = some (b, s, n) → id.num ≤ globN P ∧ b = id.num - 1 := fun {id g b s n} e => by
    unfold phi0 at e
    split at e
    · rename_i h
      cases e
      exact ⟨h.2, rfl⟩
    · cases e
  refine ⟨fun id b e => (by rw [T.get_e] at e; cases e), fun id g r e => ?_, fun id b e => (by rw [T.get_e] at e; cases e), fun id g b s n id' g' s' n' e e' => ?_, fun id g b s n e => ?_, fun g hg => ?_⟩
  · obtain ⟨b, s, n⟩ := r
    have := (key e).1
    exact .inl (by rw [Pos.num_ofNat]; omega)
  · left
    have := key e
    have := key e'
    have := Pos.num_pos id
    have := Pos.num_pos id'
    exact Pos.num_inj (by omega)
  · have := key e
    have := Pos.num_pos id
    omega
  · unfold phi0
    rw [Pos.num_ofNat, if_pos ⟨rfl, by omega⟩]
    rfl
end Go.Proofs.YtjhgembcdndmkaaGreatDoor.Am

namespace Go.Proofs.YtjhgembcdndmkaaGreatDoor.Am
open Go.RowKit Go.ChangeShapes Go.WideShapes Go.ChangeAt
theorem post_of_below {P : Program} {H : Type} {enc : TypeId × Value → H} {f : Func} {s : ChangeSpec} {apart fresh handsOn again : Bool} {W W' : World} {args : Array Value} {v : Value} {ds gs : List (DataW H)} {before pa pv : List MemPlace}
    (hW : DataW.Whole enc P f.params.toList s.vars apart W args.toList ds gs before)
    (hres : ∀ (b : Nat) (sp : Nat → Bool) (hd : Bool), DataW.TrodAll enc P W' b sp hd f.resultTypes.toList (v.resultList f.resultTypes.size) (s.fn H (ds ++ gs)).results [])
    (hargs : ∀ sp : Nat → Bool, (∀ p ∈ before, sp p.block = true) → DataW.TrodAll enc P W' 0 sp true f.params.toList args.toList (s.fn H (ds ++ gs)).args pa)
    (hvars : ∀ sp : Nat → Bool, (∀ p ∈ before, sp p.block = true) → DataW.TrodVars enc P W' sp s.vars (s.fn H (ds ++ gs)).vars pv)
    (hps : before = pa ++ pv) (hb : Below W.heap.size W W')
    (hok : ∀ (j : Nat) (t : TypeId) (r : Value), f.resultTypes[j]? = some t → (v.resultList f.resultTypes.size)[j]? = some r → Value.okWide P W' .any 0 t r) :
    s.post enc P f apart fresh handsOn again W args v W' := by
  have hold : ∀ p ∈ before, (fun b => decide (b < W.heap.size)) p.block = true := fun p hp => by simpa using hW.lt p hp
  refine ⟨ds, gs, before, [], pa, pv, hW, hres _ _ _, hargs _ hold, hvars _ hold, World.keptBut_mono (fun p hp => ⟨hp, ?_⟩) (hb.frame (· ∈ before)), fun _ => ?_⟩
  · rw [hps, List.mem_append] at hp
    exact Or.inr hp
  · have hlt := hW.lt
    obtain ⟨_, _, _, _, _, hz, hn⟩ := hW
    refine ⟨hok, _, _, ([] ++ pa) ++ pv, ⟨[] ++ pa, pv, trodAll_append (hargs _ (fun _ _ => rfl)) (hres _ _ _), hvars _ (fun _ _ => rfl), rfl, ?_, ?_⟩, ?_⟩
    · intro b off hp
      have hm : MemPlace.cell b off ∈ before := by rw [hps]; simpa using hp
      rw [hb.frozen (p := { block := b, off := off }) (hlt _ hm)]
      exact hz b off hm
    · intro ha
      have := hn ha
      rw [hps] at this
      simpa using this
    · intro p hp _
      rw [hps]
      simpa using hp
end Go.Proofs.YtjhgembcdndmkaaGreatDoor.Am

namespace Go.Proofs.YtjhgembcdndmkaaGreatDoor.Am
open Go.RowKit
theorem chain {P : Program} {rec : St → Out} (hrec : Sound P rec) {φ : Phi} {w : World} {g : Frame} {cs c0 : List Frame} {s s' : St} {r : Out} (hR : HR P φ s.hp w) (hz : s.hp.lim = 0) (hF : FrR P φ s.cur g) (hC : FrsR P φ s.callers cs)
    (e : step P rec s = .next s') (hn : ∀ (φ' : Phi) (w' : World) (g' : Frame) (cs' : List Frame), HR P φ' s'.hp w' → s'.hp.lim = 0 → FrR P φ' s'.cur g' → FrsR P φ' s'.callers cs' → OutR P c0 φ' s' g' cs' w' r) : OutR P c0 φ s g cs w r := by
  have q := step_sound (c0 := c0) hrec hR hz hF hC
  rw [e] at q
  obtain ⟨g', cs', w', φ', q1, q2, q3, q4, q5, q6, q7⟩ := q
  exact OutR.then hR hz q1 q5 q6 q7 (hn φ' w' g' cs' q2 (q5.lim.trans hz) q3 q4)
structure Cx where
  fall : St → Out
  fn : FuncId
  defers : List AD
  dk : Bool
  round : Option Pos
  callers : List Fr
def sOf (cx : Cx) (td : List Item) (env : T AV) (h : Hp) : St := ⟨⟨cx.fn, env, td, cx.defers, .run, cx.dk, cx.round⟩, cx.callers, h⟩
def Ans (P : Program) (s : St) (r : Out) : Prop :=
  ∀ (φ : Phi) (w : World) (g : Frame) (cs c0 : List Frame), HR P φ s.hp w → s.hp.lim = 0 → FrR P φ s.cur g → FrsR P φ s.callers cs → OutR P c0 φ s g cs w r
theorem Ans.step {P : Program} {rec : St → Out} (hrec : Sound P rec) {s s' : St} {r : Out} (e : step P rec s = .next s') (h : Ans P s' r) : Ans P s r :=
  fun _ _ _ _ c0 hR hz hF hC => chain hrec hR hz hF hC e fun φ' w' g' cs' a b c d => h φ' w' g' cs' c0 a b c d
theorem ans_last {P : Program} {rec : St → Out} (hrec : Sound P rec) {s : St} {r : Out} (e : step P rec s = r) : Ans P s r :=
  fun φ w g cs c0 hR hz hF hC => by rw [← e]; exact step_sound hrec hR hz hF hC
def Ctl1 (td td' : List Item) : Prop := ∀ (P : Program) (rec : St → Out) (cx : Cx) (env : T AV) (h : Hp), step P rec (sOf cx td env h) = .next (sOf cx td' env h)
theorem op_step {P : Program} {rec : St → Out} {cx : Cx} {o : O} {rest : List O} {k : List Item} {env : T AV} {h h' : Hp} {v : AV} (ho : o.ok = true) (hw : wantedA o env = true) (he : evalOp P o.op env h = .val v h') :
    step P rec (sOf cx (.ops (o :: rest) :: k) env h) = .next (sOf cx (.ops rest :: k) (setD env o.dst v) h') := by
  unfold step
  simp only [sOf, ho, hw, he, Bool.not_true, cond_false, cond_true, apply, give]
  cases o.dst with
  | none => rfl
  | some d => simp only [T.setK_eq, setD]
theorem op_skip {P : Program} {rec : St → Out} {cx : Cx} {o : O} {rest : List O} {k : List Item} {env : T AV} {h : Hp} (ho : o.ok = true) (hw : wantedA o env = false) :
    step P rec (sOf cx (.ops (o :: rest) :: k) env h) = .next (sOf cx (.ops rest :: k) (setD env o.dst .undef) h) := by
  unfold step
  simp only [sOf, ho, hw, Bool.not_true, cond_false, cond_true, give]
  cases o.dst with
  | none => rfl
  | some d => simp only [T.setK_eq, setD]
end Go.Proofs.YtjhgembcdndmkaaGreatDoor.Am

namespace Go.Proofs.YtjhgembcdndmkaaGreatDoor.Am
open Go.RowKit
def Leads (P : Program) (s s' : St) : Prop := ∀ r, Ans P s' r → Ans P s r
theorem Leads.refl {P : Program} (s : St) : Leads P s s := fun _ h => h
theorem Leads.trans {P : Program} {s s' s'' : St} (a : Leads P s s') (b : Leads P s' s'') : Leads P s s'' := fun r h => a r (b r h)
def noRec (_ : St) : Out := .fail ""
theorem noRec_sound (P : Program) : Sound P noRec := fun _ _ _ _ _ _ _ _ _ => trivial
theorem leads_step {P : Program} {rec : St → Out} (hrec : Sound P rec) {s s' : St} (e : step P rec s = .next s') : Leads P s s' := fun _ h => Ans.step hrec e h
def AnsO (P : Program) (o r : Out) : Prop :=
  match o with
  | .next s' => Ans P s' r
  | .done v h => r = .done v h
  | .fail _ => False
def AmFn (P : Program) (f : FuncId) (args : List AV) (h : Hp) (v : AV) (h' : Hp) : Prop :=
  ∃ fr, beginFn P f args = some fr ∧ ∀ callers r, AnsO P (backTo v callers h') r → Ans P ⟨fr, callers, h⟩ r
theorem ans_out {P : Program} {rec : St → Out} (hrec : Sound P rec) {s : St} {r : Out} (h : AnsO P (step P rec s) r) : Ans P s r := by
  cases e : step P rec s with
  | next s' => rw [e] at h; exact Ans.step hrec e h
  | done v h' => rw [e] at h; rw [show r = .done v h' from h]; exact ans_last hrec e
  | fail why => rw [e] at h; exact h.elim
section
variable {P : Program} {cx : Cx} {env env' : T AV} {h h' : Hp} {k : List Item}
theorem leads_ctl {td td' : List Item} (c : Ctl1 td td') : Leads P (sOf cx td env h) (sOf cx td' env h) := leads_step (noRec_sound P) (c P noRec cx env h)
theorem leads_seq {a b : C} : Leads P (sOf cx (.code (.seq a b) :: k) env h) (sOf cx (.code a :: .code b :: k) env h) := leads_ctl fun _ _ _ _ _ => rfl
theorem leads_skip : Leads P (sOf cx (.code .skip :: k) env h) (sOf cx k env h) := leads_ctl fun _ _ _ _ _ => rfl
theorem leads_label : Leads P (sOf cx (.code .label :: k) env h) (sOf cx k env h) := leads_ctl fun _ _ _ _ _ => rfl
theorem leads_block {i : Nat} {b : C} : Leads P (sOf cx (.code (.block i b) :: k) env h) (sOf cx (.code b :: .inBlock i :: k) env h) := leads_ctl fun _ _ _ _ _ => rfl
theorem leads_scope {b : C} : Leads P (sOf cx (.code (.scope b) :: k) env h) (sOf cx (.code b :: .inScope :: k) env h) := leads_ctl fun _ _ _ _ _ => rfl
theorem leads_loop {b : C} : Leads P (sOf cx (.code (.loop b) :: k) env h) (sOf cx (.code b :: .inLoop b :: k) env h) := leads_ctl fun _ _ _ _ _ => rfl
theorem leads_inLoop {b : C} : Leads P (sOf cx (.inLoop b :: k) env h) (sOf cx (.code b :: .inLoop b :: k) env h) := leads_ctl fun _ _ _ _ _ => rfl
theorem leads_inBlock {i : Nat} : Leads P (sOf cx (.inBlock i :: k) env h) (sOf cx k env h) := leads_ctl fun _ _ _ _ _ => rfl
theorem leads_inScope : Leads P (sOf cx (.inScope :: k) env h) (sOf cx k env h) := leads_ctl fun _ _ _ _ _ => rfl
theorem leads_opsNil : Leads P (sOf cx (.ops [] :: k) env h) (sOf cx k env h) := leads_ctl fun _ _ _ _ _ => rfl
theorem leads_enter {l : List O} : Leads P (sOf cx (.code (.region l) :: k) env h) (sOf cx (.ops l :: k) env h) := leads_ctl fun _ _ _ _ _ => rfl
theorem leads_exit {i : Nat} {k' : List Item} (e : exitA i k = some k') : Leads P (sOf cx (.code (.exit i) :: k) env h) (sOf cx k' env h) :=
  leads_ctl fun _ _ _ _ _ => by unfold step; simp only [sOf, e]
theorem leads_cond {c : Opd} {a b : C} {t : Bool} (e : ev env c = .bool t) : Leads P (sOf cx (.code (.cond c a b) :: k) env h) (sOf cx (.code (if t = true then a else b) :: k) env h) := by
  cases t <;> exact leads_step (noRec_sound P) (by unfold step; simp only [sOf, e]; rfl)
end
def cxF (f : FuncId) (callers : List Fr) : Cx := ⟨noRec, f, [], false, none, callers⟩
theorem ret_back {P : Program} {f : FuncId} {callers : List Fr} {k : List Item} {env : T AV} {h : Hp} {fu : Fu} {vs : List AV} (hc : compFn P f = some fu) (hm : mapO (result1 env h) fu.results = some vs) {r : Out}
    (q : AnsO P (backTo (tupleA vs) callers h) r) : Ans P (sOf (cxF f callers) (.code .ret :: k) env h) r := by
  refine Ans.step (noRec_sound P) (s' := ⟨⟨f, env, .code .ret :: k, [], .ret, false, none⟩, callers, h⟩) rfl (ans_out (noRec_sound P) ?_)
  have e : step P noRec ⟨⟨f, env, .code .ret :: k, [], .ret, false, none⟩, callers, h⟩ = backTo (tupleA vs) callers h := by
    unfold step
    simp only [unwindA, hc, hm, cond_false]
  rw [e]; exact q
theorem AmFn.ans {P : Program} {f : FuncId} {args : List AV} {h h' : Hp} {v : AV} (hf : AmFn P f args h v h') : ∃ fr, beginFn P f args = some fr ∧ Ans P ⟨fr, [], h⟩ (.done v h') := by
  obtain ⟨fr, e1, e2⟩ := hf
  exact ⟨fr, e1, e2 [] _ rfl⟩
noncomputable abbrev tm (n : Nat) : Opd := .tmp (Pos.ofNat n)
noncomputable abbrev vl (v : AV) : Opd := .val v
noncomputable abbrev int64 (n : Int) : AV := .int .i64 n
noncomputable def sv (env : T AV) (n : Nat) : AV := ev env (tm n)
theorem ev_tm (env : T AV) (n : Nat) : ev env (.tmp (Pos.ofNat n)) = sv env n := rfl
theorem ev_vl (env : T AV) (v : AV) : ev env (.val v) = v := rfl
theorem sv_set (env : T AV) (m n : Nat) (v : AV) : sv (T.set (Pos.ofNat m) (some v) env) n = if n = m then v else sv env n := by
  unfold sv
  rw [ev_set]
  by_cases c : n = m
  · rw [if_pos c, if_pos (by rw [c])]
  · rw [if_neg c, if_neg fun e => c (Pos.ofNat_inj e)]
theorem wanted_sv (d : Option Pos) (n : Nat) (w : Bool) (op : AOp) (ok : Bool) (b : Nat) (env : T AV) : wantedA ⟨d, some (Pos.ofNat n, w), op, ok, b⟩ env = (match sv env n with | .bool x => bif w then x else !x | _ => false) := by
  have e : sv env n = (match T.get (Pos.ofNat n) env with | some v => v | none => .undef) := rfl
  rw [e]
  show (match T.get (Pos.ofNat n) env with | some (.bool b) => bif w then b else !b | _ => false) = _
  cases T.get (Pos.ofNat n) env with
  | none => rfl
  | some v => cases v <;> rfl
theorem sv_args (xs : List AV) : ∀ (i n : Nat) (env : T AV), sv (setArgs env i xs) n = if h : i ≤ n ∧ n < i + xs.length then xs[n - i]'(by omega) else sv env n := by
  induction xs with
  | nil =>
    intro i n env
    rw [dif_neg (by simp)]
    rfl
  | cons x xs ih =>
    intro i n env
    unfold setArgs
    rw [T.setK_eq, ih, sv_set]
    by_cases c : n = i
    · subst c; simp; intro a; omega
    · by_cases d : i + 1 ≤ n ∧ n < i + 1 + xs.length
      · rw [dif_pos d, dif_pos ⟨by omega, by simp; omega⟩]
        rw [List.getElem_cons]
        rw [dif_neg (by omega)]
        congr 1
      · rw [dif_neg d, if_neg c, dif_neg]
        simp; omega
theorem sv_undef (n : Nat) : sv .e n = .undef := by
  have e : sv .e n = (match T.get (Pos.ofNat n) (T.e : T AV) with | some v => v | none => .undef) := rfl
  rw [e, T.get_e]
theorem cmpA_cases (x y : Int) : (x < y ∧ cmpA x y = .lt) ∨ (x = y ∧ cmpA x y = .eq) ∨ (y < x ∧ cmpA x y = .gt) := by
  rcases Int.lt_trichotomy x y with h | h | h
  · exact .inl ⟨h, by rw [cmpA_eq, if_pos h]⟩
  · exact .inr (.inl ⟨h, by rw [cmpA_eq, if_neg (by omega), if_pos h]⟩)
  · exact .inr (.inr ⟨h, by rw [cmpA_eq, if_neg (by omega), if_neg (by omega)]⟩)
section
variable (kd : EK) (no : Bool) (k : IntKind) (a b : Int)
theorem bin_add : binA .add kd no (.int k a) (.int k b) = some (.int k (wrapA k (a + b))) := by
  show (if k = k then intBin .add k a b else none) = _
  rw [if_pos rfl]; exact intK_eq (wrapA k (a + b)) fun r => some (AV.int k r)
theorem bin_sub : binA .sub kd no (.int k a) (.int k b) = some (.int k (wrapA k (a - b))) := by
  show (if k = k then intBin .sub k a b else none) = _
  rw [if_pos rfl]; exact intK_eq (wrapA k (a - b)) fun r => some (AV.int k r)
theorem bin_lss : binA .lss kd no (.int k a) (.int k b) = some (.bool (decide (a < b))) := by
  show (if k = k then intBin .lss k a b else none) = _
  rw [if_pos rfl]
  unfold intBin
  rcases cmpA_cases a b with ⟨h, e⟩ | ⟨h, e⟩ | ⟨h, e⟩ <;> simp only [e, ordOp] <;> simp <;> omega
theorem bin_gtr : binA .gtr kd no (.int k a) (.int k b) = some (.bool (decide (b < a))) := by
  show (if k = k then intBin .gtr k a b else none) = _
  rw [if_pos rfl]
  unfold intBin
  rcases cmpA_cases a b with ⟨h, e⟩ | ⟨h, e⟩ | ⟨h, e⟩ <;> simp only [e, ordOp] <;> simp <;> omega
theorem bin_eql : binA .eql kd no (.int k a) (.int k b) = some (.bool (decide (a = b))) := by
  show (if k = k then intBin .eql k a b else none) = _
  rw [if_pos rfl]
  unfold intBin
  rcases cmpA_cases a b with ⟨h, e⟩ | ⟨h, e⟩ | ⟨h, e⟩ <;> simp only [e, ordOp] <;> simp <;> omega
theorem bin_neq : binA .neq kd no (.int k a) (.int k b) = some (.bool (decide (a ≠ b))) := by
  show (if k = k then intBin .neq k a b else none) = _
  rw [if_pos rfl]
  unfold intBin
  rcases cmpA_cases a b with ⟨h, e⟩ | ⟨h, e⟩ | ⟨h, e⟩ <;> simp only [e, ordOp] <;> simp <;> omega
end
section
variable (P : Program) (env : T AV) (h : Hp)
theorem qev_load1 (a : Opd) : evalOp P (.load1 a) env h = (match ev env a with | .ptr id g off => opt h "load1" (read1 h id g off) | _ => .fail "load1 what") := rfl
end
structure Row (h : Hp) (id : Pos) (g off : Nat) (l : List AV) : Prop where
  old : id.num < h.next.num
  all : ∃ c, readN h id g off l.length = some c ∧ c.wf ∧ c.toL = l
  one : ∀ i, i < l.length → read1 h id g (off + i) = l[i]?
inductive SlR (h : Hp) : AV → List AV → Prop where
  | nil : SlR h .nilSl []
  | emp {id : Pos} {g off : Nat} : SlR h (.sl id g off 0 0 true 1) []
  | mk {id : Pos} {g off n cap : Nat} {ex : Bool} {l : List AV} (hn : n = l.length) (r : Row h id g off l) : SlR h (.sl id g off n cap ex 1) l
theorem Row.of_block {h : Hp} {id : Pos} {ser lo hh g m off n : Nat} {c : Cells} {ro fz : Bool} (hb : T.get id h.heap = some (.cells ser c lo hh g m ro fz)) (hw : c.wf) (hid : id.num < h.next.num) (h1 : lo ≤ off) (h2 : off + n ≤ c.size) :
    Row h id g off ((c.toL.drop off).take n) := by
  have hl : ((c.toL.drop off).take n).length = n := by
    rw [List.length_take, List.length_drop, Cells.toL_length hw]; omega
  refine ⟨hid, ?_, fun i hi => ?_⟩
  · rw [hl]
    unfold readN
    cases hn : Nat.beq n 0 with
    | true =>
      have hn := beq_iff.1 hn
      subst hn
      exact ⟨.lst 0 [], rfl, rfl, by simp [Cells.toL]⟩
    | false =>
      have e : seeable c lo hh g m g off n = true := by
        unfold seeable
        rw [beq_iff.2 rfl, ble_iff.2 h1, show Nat.ble (Nat.add off n) c.size = true from ble_iff.2 h2]; rfl
      obtain ⟨q1, q2, q3⟩ := Cells.sub_spec hw h2
      refine ⟨c.sub off n, ?_, q1, q2⟩
      simp only [hb, e, cond_true, cond_false]
  · rw [hl] at hi
    unfold read1
    have e : seeable c lo hh g m g (off + i) 1 = true := by
      unfold seeable
      rw [beq_iff.2 rfl, ble_iff.2 (show lo ≤ off + i by omega), show Nat.ble (Nat.add (off + i) 1) c.size = true from ble_iff.2 (show off + i + 1 ≤ c.size by omega)]; rfl
    simp only [hb, e, cond_true]
    rw [Cells.get_eq hw, List.getElem?_take_of_lt hi, List.getElem?_drop]
section
variable (P : Program) (env : T AV) (h : Hp)
noncomputable def idx2 (es : Nat) (x i : AV) (h : Hp) : Res :=
  match x, i with
  | .sl id g off len _ _ es', .int _ (.ofNat i) =>
    bif Nat.blt i len && Nat.beq es es' then natK (Nat.add off (Nat.mul i es)) fun o => .val (.ptr id g o) h else .fail "idxAddrSl bounds"
  | _, _ => .fail "idxAddrSl"
theorem qev_idxSl (es : Nat) (x i : Opd) : evalOp P (.idxAddrSl es x i) env h = idx2 es (ev env x) (ev env i) h := rfl
theorem idx2_sl (es es' : Nat) (id : Pos) (g off len cap : Nat) (ex : Bool) (k : IntKind) (z : Int) :
    idx2 es (.sl id g off len cap ex es') (.int k z) h = if 0 ≤ z ∧ z < (len : Int) ∧ es = es' then .val (.ptr id g (off + z.toNat * es)) h else .fail (if 0 ≤ z then "idxAddrSl bounds" else "idxAddrSl") := by
  cases z with
  | ofNat n =>
    unfold idx2
    simp only [natK_eq]
    by_cases c : n < len
    · by_cases d : es = es'
      · rw [blt_iff.2 c, beq_iff.2 d, if_pos ⟨by simp, by simpa using c, d⟩]; rfl
      · rw [beq_false.2 d, Bool.and_false, if_neg fun q => d q.2.2]; simp
    · rw [blt_false.2 (by omega), if_neg fun q => c (by simpa using q.2.1)]; simp
  | negSucc n =>
    rw [if_neg (by simp), if_neg (by simp)]
    rfl
end
noncomputable def kD (env : T AV) (h : Hp) : Out := .next ⟨⟨0, env, [], [], .run, false, none⟩, [], h⟩
noncomputable def outD : Out → Option (T AV × Hp)
  | .next s => some (s.cur.env, s.hp)
  | _ => none
theorem actK_or (P : Program) (rec : St → Out) (op : AOp) (env : T AV) (h : Hp) : (∃ v h', ∀ k, actK P rec op env h k = k v h') ∨ ∃ why, ∀ k, actK P rec op env h k = .fail why := by
  have of : ∀ (o : Out), (∃ v h', ∀ k : AV → Hp → Out, (match o with | .done v h => k v h | .next _ => Out.fail "drawn fuel" | .fail why => Out.fail why : Out) = k v h') ∨
      ∃ why, ∀ k : AV → Hp → Out, (match o with | .done v h => k v h | .next _ => Out.fail "drawn fuel" | .fail why => Out.fail why : Out) = .fail why := fun o => by
    cases o with
    | done v h => exact .inl ⟨v, h, fun _ => rfl⟩
    | next s => exact .inr ⟨_, fun _ => rfl⟩
    | fail why => exact .inr ⟨_, fun _ => rfl⟩
  unfold actK
  cases evalOp P op env h with
  | val v h' => exact .inl ⟨v, h', fun _ => rfl⟩
  | enter f args h' =>
    simp only
    cases beginFn P f args with
    | none => exact .inr ⟨_, fun _ => rfl⟩
    | some fr => exact of (rec ⟨fr, [], h'⟩)
  | round l args =>
    simp only
    cases beginRound h l args with
    | none => exact .inr ⟨_, fun _ => rfl⟩
    | some fr => exact of (rec ⟨fr, [], h⟩)
  | defer f args => exact .inr ⟨_, fun _ => rfl⟩
  | recover => exact .inr ⟨_, fun _ => rfl⟩
  | panic v => exact .inr ⟨_, fun _ => rfl⟩
  | fail why => exact .inr ⟨_, fun _ => rfl⟩
theorem drawnGo_K {P : Program} {rec : St → Out} {K : T AV → Hp → Out} {env' : T AV} {h' : Hp} : ∀ {l : List O} {i : Nat} {acts : List Actor} {lds : List Ld} {als : List Al} {rid : Pos} {env : T AV} {h : Hp},
    outD (drawnGo P rec kD i acts lds als rid env h l) = some (env', h') → drawnGo P rec K i acts lds als rid env h l = K env' h'
  | [], i, acts, lds, als, rid, env, h, e => by
    unfold drawnGo at e ⊢
    rw [insAll_eq] at e ⊢
    cases e; rfl
  | o :: l, i, acts, lds, als, rid, env, h, e => by
    unfold drawnGo at e ⊢
    revert e
    cases kindOf o.op with
    | still =>
      simp only
      cases wantedA o env with
      | false => simp only [cond_false, setDst_eq]; exact drawnGo_K
      | true =>
        simp only [cond_true]
        cases evalOp P o.op env h with
        | val v h2 => simp only [setDst_eq]; exact drawnGo_K
        | _ => intro e; cases e
    | load =>
      simp only
      cases wantedA o env with
      | false => simp only [cond_false, setDst_eq]; exact drawnGo_K
      | true =>
        simp only [cond_true]
        cases evalOp P o.op env h with
        | val v h2 =>
          simp only
          cases lookBack P o.op env v o.before acts with
          | true => simp only [cond_true, setDst_eq]; exact drawnGo_K
          | false => intro e; cases e
        | _ => intro e; cases e
    | alloc =>
      simp only
      cases wantedA o env with
      | false => simp only [cond_false, setDst_eq]; exact drawnGo_K
      | true =>
        simp only [cond_true]
        cases evalOp P o.op env ⟨.e, rid, h.ser, rid.num + 1⟩ with
        | val v h2 =>
          simp only
          cases T.get rid h2.heap with
          | some b => simp only [setDst_eq]; exact drawnGo_K
          | none => simp only [setDst_eq]; exact drawnGo_K
        | _ => intro e; cases e
    | actor =>
      simp only
      cases wantedA o env with
      | false => simp only [cond_false, setDst_eq]; exact drawnGo_K
      | true =>
        simp only [cond_true, insK_eq]
        rcases actK_or P rec o.op env ⟨insT o.before als h.heap, h.next, h.ser, h.lim⟩ with ⟨v, h2, q⟩ | ⟨why, q⟩
        · rw [q, q]
          cases lookAgain P h2 o.before lds with
          | true => simp only [cond_true, setDst_eq]; exact drawnGo_K
          | false => intro e; cases e
        · rw [q, q]; intro e; cases e
noncomputable def runDrawn (P : Program) (rec : St → Out) (l : List O) (env : T AV) (h : Hp) : Option (T AV × Hp) :=
  outD (drawnGo P rec kD 0 [] [] [] h.next env ⟨h.heap, skipIds l h.next, h.ser, h.lim⟩ l)
theorem leads_drawn {P : Program} {rec : St → Out} (hrec : Sound P rec) {cx : Cx} {k : List Item} {env env' : T AV} {h h' : Hp} {l : List O} (e : runDrawn P rec l env h = some (env', h')) :
    Leads P (sOf cx (.code (.drawn l) :: k) env h) (sOf cx k env' h') := by
  refine leads_step hrec ?_
  have q := drawnGo_K (K := fun env h => .next (sOf cx k env h)) e
  unfold step
  simp only [sOf] at q ⊢
  exact q
noncomputable def okCall (P : Program) (f : FuncId) : Bool :=
  match P.funcs[f]? with
  | some fn => fn.body.isSome && !(fn.name == "runtime.NumGoroutine")
  | none => false
theorem callA_ok {P : Program} {f : FuncId} (hc : okCall P f = true) (h : Hp) (args : List AV) : callA P h f args = .enter f args h := by
  unfold okCall at hc
  split at hc
  · rename_i fn hf
    simp only [Bool.and_eq_true, Bool.not_eq_true'] at hc
    unfold callA
    simp only [hf]
    cases hb : fn.body with
    | none => rw [hb] at hc; cases hc.1
    | some b =>
      simp only
      unfold enterA
      simp only [hf, hb, hc.2, cond_false]
  · cases hc
theorem qev_callv (P : Program) (env : T AV) (h : Hp) (f : Opd) (args : List Opd) : evalOp P (.call (.value f) args) env h = (match ev env f with
    | .fn (.func f) first captured => callA P h f (first ++ (args.map (ev env) ++ captured))
    | .yield l => .round l (args.map (ev env))
    | _ => .fail "call what") := rfl
def AmEnds (P : Program) (callers : List Fr) (s : St) (v : AV) (h' : Hp) : Prop := ∀ r, AnsO P (backTo v callers h') r → Ans P s r
theorem Leads.ends {P : Program} {callers : List Fr} {s s' : St} {v : AV} {h' : Hp} (a : Leads P s s') (b : AmEnds P callers s' v h') : AmEnds P callers s v h' := fun r q => a r (b r q)
theorem ends_ret {P : Program} {f : FuncId} {callers : List Fr} {k : List Item} {env : T AV} {h : Hp} {fu : Fu} {vs : List AV} {v : AV} (hc : compFn P f = some fu) (hm : mapO (result1 env h) fu.results = some vs) (hv : tupleA vs = v) :
    AmEnds P callers (sOf (cxF f callers) (.code .ret :: k) env h) v h := fun r q => ret_back hc hm (by rw [hv]; exact q)
theorem AmFn.ends {P : Program} {f : FuncId} {args : List AV} {h h' : Hp} {v : AV} {fu : Fu} (hc : compFn P f = some fu) (hl : args.length ≤ fu.nargs)
    (hr : ∀ callers, AmEnds P callers (sOf (cxF f callers) [.code fu.body] (setArgs .e 0 args) h) v h') : AmFn P f args h v h' := by
  refine ⟨⟨f, setArgs .e 0 args, [.code fu.body], [], .run, false, none⟩, ?_, fun callers r q => hr callers r q⟩
  unfold beginFn
  simp only [hc, ble_iff.2 hl, cond_true]
end Go.Proofs.YtjhgembcdndmkaaGreatDoor.Am

namespace Go.Proofs.YtjhgembcdndmkaaGreatDoor.Am
open Go.RowKit
structure Only (S : List Pos) (h h' : Hp) : Prop where
  next : h.next.num ≤ h'.next.num
  lim : h'.lim = h.lim
  same : ∀ id, id.num < h.next.num → id ∉ S → T.get id h'.heap = T.get id h.heap
theorem Only.refl (S : List Pos) (h : Hp) : Only S h h := ⟨Nat.le_refl _, rfl, fun _ _ _ => rfl⟩
theorem Only.trans {S : List Pos} {h h' h'' : Hp} (a : Only S h h') (b : Only S h' h'') : Only S h h'' :=
  ⟨Nat.le_trans a.next b.next, b.lim.trans a.lim, fun id k q => (b.same id (Nat.lt_of_lt_of_le k a.next) q).trans (a.same id k q)⟩
theorem Only.mono {S S' : List Pos} {h h' : Hp} (a : Only S h h') (hs : ∀ id, id ∈ S → id ∈ S' ∨ h.next.num ≤ id.num) : Only S' h h' :=
  ⟨a.next, a.lim, fun id k q => a.same id k fun c => by rcases hs id c with r | r; exact q r; omega⟩
noncomputable def newH (h : Hp) (b : Nat → Blk) : Hp := ⟨T.set h.next (some (b h.ser)) h.heap, h.next.succ, Nat.succ h.ser, h.lim⟩
theorem newK_newH {β : Type} (h : Hp) (b : Nat → Blk) (k : Pos → Hp → β) : newK h b k = k h.next (newH h b) := newK_eq h b k
theorem newH_only (S : List Pos) (h : Hp) (b : Nat → Blk) : Only S h (newH h b) :=
  ⟨by show _ ≤ h.next.succ.num; rw [Pos.num_succ]; omega, rfl, fun id k _ => by
    show T.get id (T.set h.next _ h.heap) = _
    rw [T.get_set, if_neg fun e => by rw [e] at k; omega]⟩
theorem newH_get (h : Hp) (b : Nat → Blk) : T.get h.next (newH h b).heap = some (b h.ser) := by
  show T.get h.next (T.set h.next _ h.heap) = _
  rw [T.get_set, if_pos rfl]
theorem newH_next (h : Hp) (b : Nat → Blk) : (newH h b).next.num = h.next.num + 1 := Pos.num_succ _
structure Arr (h : Hp) (id : Pos) (l : List AV) : Prop where
  old : id.num < h.next.num
  mem : ∃ ser c fz, T.get id h.heap = some (.cells ser c 0 0 0 0 false fz) ∧ c.wf ∧ c.toL = l
structure Gro (h : Hp) (id : Pos) (g : Nat) (l : List AV) : Prop where
  old : id.num < h.next.num
  mem : ∃ ser c hi m fz, T.get id h.heap = some (.cells ser c 0 hi g m false fz) ∧ c.wf ∧ c.toL = l
theorem Arr.gro {h : Hp} {id : Pos} {l : List AV} (a : Arr h id l) : Gro h id 0 l :=
  let ⟨ser, c, fz, e, hw, hl⟩ := a.mem
  ⟨a.old, ser, c, 0, 0, fz, e, hw, hl⟩
end Go.Proofs.YtjhgembcdndmkaaGreatDoor.Am

namespace Go.Proofs.YtjhgembcdndmkaaGreatDoor.Am
open Go.RowKit
theorem AmFn.calls {P : Program} {f : FuncId} {args : List AV} {h h' : Hp} {v : AV} {xs : Array Value} {φ : Phi} {w : World} (hf : AmFn P f args h v h') (hR : HR P φ h w) (hz : h.lim = 0) (ha : RelL φ args xs.toList) :
    Calls P f xs w fun e w' => ∃ φ' x, e = .returned x ∧ Rel φ' v x ∧ HR P φ' h' w' ∧ Adv h w φ h' w' φ' := by
  intro cs
  obtain ⟨fr, hb, an⟩ := hf.ans
  obtain ⟨q1, q2, q3, _⟩ := begin_run (φ := φ) (xs := xs) hb ha
  obtain ⟨w', φ', x, r1, r2, r3, _, r5⟩ := an φ w _ [] cs hR hz q1 .nil
  obtain ⟨g', s1, s2, s3⟩ := r5 q3
  exact ⟨.returned x, w', g', ⟨φ', x, rfl, r3, r1, r2⟩, s1, s2.trans q2, s3⟩
theorem Adv.below {h h' : Hp} {w w' : World} {φ φ' : Phi} (a : Adv h w φ h' w' φ') (hn : ∀ id, ¬ Nonro h id) : Below w.heap.size w w' :=
  ⟨a.os, a.tape, a.output, a.size, fun k hk => a.keep k hk fun id _ _ _ _ => hn id⟩
noncomputable def frOf (P : Program) (f : FuncId) (args : List AV) : Fr :=
  match beginFn P f args with
  | some fr => fr
  | none => default
theorem AmFn.begins {P : Program} {f : FuncId} {args : List AV} {h h' : Hp} {v : AV} (hf : AmFn P f args h v h') : beginFn P f args = some (frOf P f args) ∧ (frOf P f args).fn = f := by
  obtain ⟨fr, e, _⟩ := hf
  have q : frOf P f args = fr := by unfold frOf; rw [e]
  refine ⟨by rw [q]; exact e, ?_⟩
  rw [q]
  unfold beginFn at e
  split at e
  · rename_i fu _
    cases hl : Nat.ble args.length fu.nargs with
    | true => rw [hl] at e; cases e; rfl
    | false => rw [hl] at e; cases e
  · cases e
theorem eqAV_int (n : Nat) (k : IntKind) (a : Int) : eqAV (n + 1) (.int k a) (.int k a) = true := by
  unfold eqAV
  simp only [Bool.and_eq_true]
  exact ⟨eqK_iff.2 rfl, eqI_iff.2 rfl⟩
noncomputable def actO (P : Program) (rec : St → Out) (op : AOp) (env : T AV) (h : Hp) : Option (AV × Hp) :=
  match evalOp P op env h with
  | .val v h => some (v, h)
  | .enter f args h => (match beginFn P f args with
    | some fr => (match rec ⟨fr, [], h⟩ with
      | .done v h => some (v, h)
      | _ => none)
    | none => none)
  | _ => none
theorem actO_K {P : Program} {rec : St → Out} {op : AOp} {env : T AV} {h h' : Hp} {v : AV} (e : actO P rec op env h = some (v, h')) (k : AV → Hp → Out) : actK P rec op env h k = k v h' := by
  unfold actO at e
  unfold actK
  split at e
  · rename_i v1 h1 he
    cases e
    rw [he]
  · rename_i f args h1 he
    rw [he]
    split at e
    · rename_i fr hb
      simp only [hb]
      split at e
      · rename_i v1 h2 hr
        cases e
        rw [hr]
      · cases e
    · cases e
  · cases e
noncomputable def stepD (P : Program) (rec : St → Out) (i : Nat) (s : DS) (o : O) : Option DS :=
  if wantedA o s.env = true then
    match kindOf o.op with
    | .still => (match evalOp P o.op s.env s.h with
      | .val v _ => some ⟨s.acts, s.lds, s.als, s.rid, setD s.env o.dst v, s.h⟩
      | _ => none)
    | .load => (match evalOp P o.op s.env s.h with
      | .val v _ => if lookBack P o.op s.env v o.before s.acts = true then some ⟨s.acts, ⟨i, o.op, s.env, v⟩ :: s.lds, s.als, s.rid, setD s.env o.dst v, s.h⟩ else none
      | _ => none)
    | .alloc => none
    | .actor => (match actO P rec o.op s.env ⟨insT o.before s.als s.h.heap, s.h.next, s.h.ser, s.h.lim⟩ with
      | some (v, h') => if lookAgain P h' o.before s.lds = true then some ⟨⟨i, s.h⟩ :: s.acts, s.lds, remAl o.before s.als, s.rid, setD s.env o.dst v, h'⟩ else none
      | none => none)
  else match kindOf o.op with
    | .alloc => none
    | _ => some ⟨s.acts, s.lds, s.als, s.rid, setD s.env o.dst .undef, s.h⟩
theorem stepD_go {P : Program} {rec : St → Out} {K : T AV → Hp → Out} {i : Nat} {s s' : DS} {o : O} (e : stepD P rec i s o = some s') (rest : List O) :
    drawnGo P rec K i s.acts s.lds s.als s.rid s.env s.h (o :: rest) = drawnGo P rec K (i + 1) s'.acts s'.lds s'.als s'.rid s'.env s'.h rest := by
  unfold stepD at e
  rw [show drawnGo P rec K i s.acts s.lds s.als s.rid s.env s.h (o :: rest) = _ from by unfold drawnGo; rfl]
  split at e
  · rename_i hw
    rw [hw]
    cases hk : kindOf o.op with
    | still =>
      rw [hk] at e
      simp only at e
      split at e
      · rename_i v h1 he
        cases e
        simp only [cond_true, he, setDst_eq]
      · cases e
    | load =>
      rw [hk] at e
      simp only at e
      split at e
      · rename_i v h1 he
        split at e
        · rename_i hl
          cases e
          simp only [cond_true, he, hl, setDst_eq]
        · cases e
      · cases e
    | alloc => rw [hk] at e; cases e
    | actor =>
      rw [hk] at e
      simp only at e
      split at e
      · rename_i v h1 he
        split at e
        · rename_i hl
          cases e
          simp only [cond_true, insK_eq, actO_K he, hl, setDst_eq]
        · cases e
      · cases e
  · rename_i hw
    have hw : wantedA o s.env = false := by simpa using hw
    rw [hw]
    cases hk : kindOf o.op with
    | alloc => rw [hk] at e; cases e
    | _ =>
      rw [hk] at e
      cases e
      simp only [cond_false, setDst_eq]
end Go.Proofs.YtjhgembcdndmkaaGreatDoor.Am

namespace Go.Proofs.YtjhgembcdndmkaaGreatDoor.Am
open Go.RowKit
theorem HR.grown {P : Program} {φ : Phi} {h : Hp} {w w' : World} (hR : HR P φ h w) (hs : w.heap.size ≤ w'.heap.size) (hk : ∀ b, b < w.heap.size → w'.heap[b]? = w.heap[b]?) : HR P φ h w' :=
  ⟨fun id b e => BR.mono (Le.refl φ) (fun _ _ e => e) (fun g b' s n e' => hk b' (hR.inb _ _ _ _ _ e')) (hR.blk id b e), hR.used, hR.dom, hR.sep, fun id g b s n e => Nat.lt_of_lt_of_le (hR.inb _ _ _ _ _ e) hs, hR.glob⟩
theorem Adv.grown {h : Hp} {w w' : World} {φ : Phi} (os : w'.os = w.os) (output : w'.output = w.output) (tape : w'.tape = w.tape) (hs : w.heap.size ≤ w'.heap.size) (hk : ∀ b, b < w.heap.size → w'.heap[b]? = w.heap[b]?) : Adv h w φ h w' φ :=
  ⟨Le.refl φ, os, output, tape, hs, Nat.le_refl _, fun id g b s n e _ => ⟨g, s, n, e⟩, fun _ _ k => k, fun b hb _ => hk b hb, rfl, fun _ _ e => e, fun _ _ _ _ _ e => e⟩
section
variable {P : Program} {φ : Phi} {h : Hp} {w : World} {g : Frame}
theorem ops_enter (hR : HR P φ h w) (hz : h.lim = 0) {fn : FuncId} {env : T AV} {defers : List AD} {dk : Bool} {round : Option Pos} {o' : O} {l : List O} {k : List Item} (hF : FrR P φ ⟨fn, env, .ops (o' :: l) :: k, defers, .run, dk, round⟩ g)
    (ho : o'.ok = true) (hwa : wantedA o' env = true) {f : FuncId} {args : List AV} (he : evalOp P o'.op env h = .enter f args h) :
    ∃ xs, RelL φ args xs.toList ∧ ∀ cs0, Go.step P (lone g cs0 w) = .next (lone (Frame.enter P f xs .normal) (g :: cs0) w) := by
  have htd := hF.todo
  generalize hg : g.todo = gt at htd
  cases htd with
  | @cons x1 y l1 r hx htr =>
    cases y <;> first | (cases hx; done) | skip
    rename_i ops idx
    obtain ⟨h1, h2⟩ := hx
    have hm : (⟨fn, env, .ops (o' :: l) :: k, defers, .run, dk, round⟩ : Fr).mode = .run := rfl
    cases idx with
    | nil => cases h1
    | cons i idx =>
      rw [List.map_cons, List.cons.injEq] at h1
      obtain ⟨h1, _⟩ := h1
      change o' = compOper P (numT P fn) ops 0 (ops.getD i default) at h1
      subst h1
      have hi := h2 i (by simp)
      have hoi : ops[i]? = some (ops.getD i default) := by rw [Array.getD_eq_getD_getElem?, Array.getElem?_eq_getElem hi]; rfl
      generalize hoo : ops.getD i default = o at *
      have hw := wanted_eq hF.env ho
      change _ = wantedA _ env at hw
      rw [hwa] at hw
      cases hco : compAOp P o.op with
      | none =>
        have : (compOper P (numT P fn) ops 0 o).op = .bad (opWhy o) := by simp [compOper, hco]
        rw [this] at he
        cases he
      | some ao =>
        have : (compOper P (numT P fn) ops 0 o).op = ao := by simp [compOper, hco]
        rw [this] at he
        have hres := evalOp_run (a := ⟨g.tmps, g.defers⟩) hR hF.env (.inl hz) hco
        change ResR P φ h w (evalOp P ao env h) _ at hres
        rw [he] at hres
        obtain ⟨_, xs, fn', c, hrun, hf1, hf2, h3⟩ := hres
        have hbad : ¬ ∃ c, o.op = .defer c := by
          rintro ⟨c, hc⟩
          rw [hc] at hco
          unfold compAOp at hco
          simp only at hco
          split at hco
          · split at hco
            · cases hco
              rename_i fo lo _ _
              rcases evalOp_defer P fo lo env h with ⟨f, args, e⟩ | ⟨why, e⟩ <;> rw [e] at he <;> cases he
            · cases hco
          · cases hco
        refine ⟨xs, h3, fun cs0 => step_lone_go ?_⟩
        have hst : stepG P true { frame := g, callers := cs0, status := .running, dying := none } w = stepG.apply P true g cs0 none (execOp (Act.mk g.tmps g.defers).eval o) w := by
          have e := frame_run (hF.run_mode hm)
          rw [hg] at e
          rw [e]
          have q := stepGR_op (P := P) (b := g) (a := ⟨g.tmps, g.defers⟩) (k := r) (cs := cs0) (w := w) (rest := idx) hoi hw
          have hsem : Oper.semAt g.roundOf (Act.mk g.tmps g.defers).eval o = execOp (Act.mk g.tmps g.defers).eval o := by
            cases hro : round with
            | none =>
              subst hro
              rw [roundOf_none hF rfl]
              rfl
            | some l => exact Oper.semAt_eq _ _ _ fun c hc => hbad ⟨c, hc⟩
          rw [hsem] at q
          exact q
        rw [hst]
        simp [stepG.apply, Sem.runT_eq, hrun, GStep.bare_after, hg]
def KitFn (P : Program) (f : FuncId) (args : List AV) (h : Hp) (v : AV) : Prop :=
  ∀ (φ : Phi) (w : World) (xs : Array Value), HR P φ h w → RelL φ args xs.toList → Calls P f xs w fun e w' => ∃ x, e = .returned x ∧ Rel φ v x ∧ Below w.heap.size w w'
theorem give_head {o : O} (K : Fr → Out) {fn : FuncId} {env : T AV} {rest : List O} {k : List Item} {defers : List AD} {dk : Bool} {round : Option Pos} {v : AV} (ho : o.ok = true) :
    give ⟨fn, env, .ops (o :: rest) :: k, defers, .run, dk, round⟩ v K = K ⟨fn, setD env o.dst v, .ops rest :: k, defers, .run, dk, round⟩ := by
  unfold give
  simp only [ho, cond_true]
  cases o.dst with
  | none => rfl
  | some d => simp only [T.setK_eq, setD]
end
end Go.Proofs.YtjhgembcdndmkaaGreatDoor.Am
