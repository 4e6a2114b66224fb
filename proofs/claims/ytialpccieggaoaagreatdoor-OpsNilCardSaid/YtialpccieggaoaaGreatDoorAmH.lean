import Derived.AtR
import Derived.RangeFuncLeaves
import Derived.Test.YtialpccieggaoaaGreatDoorAmG
/- THE ABSTRACT MACHINE, part H: a machine over values without block numbers, run by the kernel, and the proof that the model's machine does what it does. No condition. -/
set_option linter.unusedSimpArgs false
set_option linter.unusedVariables false
namespace Go.Proofs.YtialpccieggaoaaGreatDoor.Am

theorem N8.get_map {A B : Type} (f : A → B) (n : N8 A) (d : D8) : (N8.map f n).get d = f (n.get d) := by cases d <;> rfl

theorem BT.get_map {A : Type} {f : Option A → Option A} (hf : f none = none) (p : Bin) (t : BT A) : BT.get p (BT.map f t) = f (BT.get p t) := by
  induction t generalizing p with
  | e => rw [show BT.map f BT.e = BT.e from rfl, BT.get_e, hf]
  | n l v r ihl ihr => cases p with
    | h => rfl
    | o p => exact ihl p
    | i p => exact ihr p

theorem T.get_map {A : Type} {f : Option A → Option A} (hf : f none = none) (p : Pos) (t : T A) : T.get p (T.map f t) = f (T.get p t) := by
  cases p <;> simp only [T.get, T.map, N8.get_map, BT.get_map hf]

theorem get_hold (h : Hp) (id : Pos) : T.get id (holdH h).heap = holdB (T.get id h.heap) := T.get_map rfl _ _

theorem hold_some {o : Option Blk} {b : Blk} (e : holdB o = some b) : (∃ s c lo hi g m ro fz, o = some (.cells s c lo hi g m ro fz) ∧ b = .cells s c lo hi g m true fz) ∨ ∃ s es cl, o = some (.map s es cl) ∧ b = .map 1 es cl := by
  unfold holdB at e
  split at e
  · cases e; exact .inl ⟨_, _, _, _, _, _, _, _, rfl, rfl⟩
  · cases e; exact .inr ⟨_, _, _, rfl, rfl⟩
  · cases e

theorem hold_nonro (h : Hp) (id : Pos) : ¬ Nonro (holdH h) id := by
  rintro ⟨b, e, f⟩
  rw [get_hold] at e
  rcases hold_some e with ⟨s, c, lo, hi, g, m, ro, fz, _, rfl⟩ | ⟨s, es, cl, _, rfl⟩
  · cases f
  · cases f

section
variable {P : Program} {φ φ0 φ1 : Phi} {h h1 : Hp} {w w0 w1 : World}

theorem hold_hr (hR : HR P φ h w) : HR P φ (holdH h) w := by
  refine ⟨fun id b e => ?_, hR.used, fun id b e => ?_, fun id g b s n id' g' s' n' k k' => .inr ⟨hold_nonro h id, hold_nonro h id'⟩, hR.inb, hR.glob⟩
  · rw [get_hold] at e
    rcases hold_some e with ⟨s, c, lo, hi, g, m, ro, fz, q, rfl⟩ | ⟨s, es, cl, q, rfl⟩
    · obtain ⟨⟨a1, a2, a3, a4, a5, a6⟩, ty⟩ := hR.blk _ _ q
      refine ⟨⟨a1, a2, a3, a4, a5, fun j k1 k2 => ?_⟩, ty⟩
      obtain ⟨b, s, n, C, el, fr, r1, r2, r3, _, r5⟩ := a6 j k1 k2
      exact ⟨b, s, n, C, el, fr, r1, r2, r3, (fun q => by cases q), r5⟩
    · have q' := hR.blk _ _ q
      exact q'
  · rw [get_hold] at e
    rcases hold_some e with ⟨s, c, lo, hi, g, m, ro, fz, q, _⟩ | ⟨s, es, cl, q, _⟩
    · exact hR.dom _ _ q
    · exact hR.dom _ _ q

theorem numP_mem : ∀ (l : List Pos) (q : Pos) (x : Pos × Pos), x ∈ numP q l → q.num ≤ x.2.num ∧ x.2.num < (nextP q l).num
  | [], _, _, k => by cases k
  | p :: l, q, x, k => by
    have hn : ∀ (l : List Pos) (q : Pos), q.num ≤ (nextP q l).num := by
      intro l
      induction l with
      | nil => exact fun q => Nat.le_refl _
      | cons p l ih => intro q; have := ih q.succ; rw [Pos.num_succ] at this; show q.num ≤ (nextP q.succ l).num; omega
    rcases List.mem_cons.1 k with rfl | k
    · have := hn l q.succ
      rw [Pos.num_succ] at this
      exact ⟨Nat.le_refl _, by show q.num < (nextP q.succ l).num; omega⟩
    · have := numP_mem l q.succ x k
      rw [Pos.num_succ] at this
      exact ⟨by omega, this.2⟩

theorem numP_append : ∀ (a b : List Pos) (q : Pos), numP q (a ++ b) = numP q a ++ numP (nextP q a) b
  | [], _, _ => rfl
  | x :: a, b, q => by show (x, q) :: numP q.succ (a ++ b) = _; rw [numP_append a b q.succ]; rfl

theorem nextP_le (l : List Pos) (q : Pos) : q.num ≤ (nextP q l).num := by
  induction l generalizing q with
  | nil => exact Nat.le_refl _
  | cons p l ih => have := ih q.succ; rw [Pos.num_succ] at this; show q.num ≤ (nextP q.succ l).num; omega

noncomputable def invP (q : Pos) : List (Pos × Pos) → Option Pos
  | [] => none
  | x :: l => bif samePos q x.2 then some x.1 else invP q l

theorem invP_mem {q p : Pos} : ∀ {tb : List (Pos × Pos)}, invP q tb = some p → (p, q) ∈ tb
  | [], e => by cases e
  | x :: l, e => by
    unfold invP at e
    cases hs : samePos q x.2 with
    | true =>
      rw [hs] at e; cases e
      have := samePos_iff.1 hs
      subst this
      exact List.mem_cons_self
    | false => rw [hs, cond_false] at e; exact List.mem_cons_of_mem _ (invP_mem e)

theorem lookP_mem {p q : Pos} : ∀ {tb : List (Pos × Pos)}, lookP p tb = some q → (p, q) ∈ tb
  | [], e => by cases e
  | x :: l, e => by
    unfold lookP at e
    cases hs : samePos p x.1 with
    | true =>
      rw [hs] at e; cases e
      have := samePos_iff.1 hs
      subst this
      exact List.mem_cons_self
    | false => rw [hs, cond_false] at e; exact List.mem_cons_of_mem _ (lookP_mem e)

theorem lookP_inv {p q : Pos} : ∀ (l : List Pos) (b : Pos), lookP p (numP b l) = some q → invP q (numP b l) = some p
  | [], _, e => by cases e
  | x :: l, b, e => by
    unfold numP lookP at e
    unfold numP invP
    cases hs : samePos p x with
    | true =>
      rw [hs] at e; cases e
      have := samePos_iff.1 hs
      subst this
      simp only [samePos_iff.2 rfl, cond_true]
    | false =>
      rw [hs, cond_false] at e
      have hm := numP_mem l b.succ _ (lookP_mem e)
      rw [Pos.num_succ] at hm
      have : samePos q b = false := by
        cases hq : samePos q b with
        | false => rfl
        | true => have := samePos_iff.1 hq; subst this; exact absurd hm.1 (by show ¬ (q.num + 1 ≤ q.num); omega)
      simp only [this, cond_false]
      exact lookP_inv l b.succ e

theorem mapO_mem {α β : Type} {f : α → Option β} : ∀ {l : List α} {r : List β}, mapO f l = some r → (∀ x ∈ l, ∃ y ∈ r, f x = some y) ∧ ∀ y ∈ r, ∃ x ∈ l, f x = some y
  | [], r, e => by unfold mapO at e; cases e; exact ⟨fun x k => (by cases k), fun y k => (by cases k)⟩
  | a :: l, r, e => by
    unfold mapO at e
    split at e
    · rename_i y hy
      split at e
      · rename_i r' hr
        cases e
        obtain ⟨i1, i2⟩ := mapO_mem hr
        refine ⟨fun x k => ?_, fun z k => ?_⟩
        · rcases List.mem_cons.1 k with rfl | k
          · exact ⟨y, List.mem_cons_self, hy⟩
          · obtain ⟨z, z1, z2⟩ := i1 x k; exact ⟨z, List.mem_cons_of_mem _ z1, z2⟩
        · rcases List.mem_cons.1 k with rfl | k
          · exact ⟨a, List.mem_cons_self, hy⟩
          · obtain ⟨x, x1, x2⟩ := i2 z k; exact ⟨x, List.mem_cons_of_mem _ x1, x2⟩
      · cases e
    · cases e

theorem get_put : ∀ (bs : List (Pos × Blk)) (t : T Blk) (id : Pos) (b : Blk), T.get id (putAll bs t) = some b → (∃ x ∈ bs, x.1 = id ∧ x.2 = b) ∨ (T.get id t = some b ∧ ∀ x ∈ bs, x.1 ≠ id)
  | [], t, id, b, e => .inr ⟨e, fun x k => by cases k⟩
  | y :: l, t, id, b, e => by
    unfold putAll at e
    rw [T.setK_eq] at e
    rcases get_put l _ id b e with ⟨x, x1, x2⟩ | ⟨q, k⟩
    · exact .inl ⟨x, List.mem_cons_of_mem _ x1, x2⟩
    · rw [T.get_set] at q
      by_cases c : id = y.1
      · rw [if_pos c] at q
        cases q
        exact .inl ⟨y, List.mem_cons_self, c.symm, rfl⟩
      · rw [if_neg c] at q
        refine .inr ⟨q, fun x k' => ?_⟩
        rcases List.mem_cons.1 k' with rfl | k'
        · exact fun e => c e.symm
        · exact k x k'

theorem get_put_none (bs : List (Pos × Blk)) (t : T Blk) (id : Pos) (hn : ∀ x ∈ bs, x.1 ≠ id) (e : T.get id t = none) : T.get id (putAll bs t) = none := by
  cases q : T.get id (putAll bs t) with
  | none => rfl
  | some b =>
    rcases get_put bs t id b q with ⟨x, x1, x2, _⟩ | ⟨q, _⟩
    · exact absurd x2 (hn x x1)
    · rw [e] at q; cases q

/-- The packed heap's names. -/
noncomputable def phiP (φ0 φ1 : Phi) (ta : List (Pos × Pos)) : Phi := fun id g =>
  match invP id ta with
  | some p => φ1 p g
  | none => φ0 id g

/-- What is known of the tables of new names (of cells, of maps, of all), and of the names μ that the new blocks get: those of maps have their entries counted anew. -/
structure TbOk (h h1 : Hp) (tb tm ta : List (Pos × Pos)) (φ0 φ1 μ : Phi) (nx : Pos) : Prop where
  inv : ∀ p q, lookP p ta = some q → invP q ta = some p
  new : ∀ p q, (p, q) ∈ ta → h.next.num ≤ p.num
  at_ : ∀ p q, (p, q) ∈ ta → h.next.num ≤ q.num ∧ q.num < nx.num
  look : ∀ p q, (p, q) ∈ ta → lookP p ta = some q
  old : ∀ id g r, φ0 id g = some r → id.num < h.next.num
  le : Le φ0 φ1
  subB : ∀ x, x ∈ tb → x ∈ ta
  subM : ∀ x, x ∈ tm → x ∈ ta
  cel : ∀ p q, (p, q) ∈ tb → ∀ g, μ p g = φ1 p g
  map : ∀ p q, (p, q) ∈ tm → ∀ b s n, φ1 p 0 = some (b, s, n) → ∃ s' n', μ p 0 = some (b, s', n')
  blk : ∀ p g b s n, μ p g = some (b, s, n) → ∃ g0 s0 n0, φ1 p g0 = some (b, s0, n0)

theorem TbOk.phi_old {tb tm ta : List (Pos × Pos)} {μ : Phi} {nx : Pos} (k : TbOk h h1 tb tm ta φ0 φ1 μ nx) {id : Pos} {g : Nat} {r : Nat × Int × Nat} (e : φ0 id g = some r) : phiP φ0 μ ta id g = some r := by
  unfold phiP
  cases q : invP id ta with
  | none => exact e
  | some p =>
    have := (k.at_ _ _ (invP_mem q)).1
    have := k.old _ _ _ e
    omega

theorem TbOk.phi_new {tb tm ta : List (Pos × Pos)} {μ : Phi} {nx : Pos} (k : TbOk h h1 tb tm ta φ0 φ1 μ nx) {p q : Pos} (e : lookP p ta = some q) (g : Nat) : phiP φ0 μ ta q g = μ p g := by
  unfold phiP
  rw [k.inv _ _ e]

theorem TbOk.phi_cel {tb tm ta : List (Pos × Pos)} {μ : Phi} {nx : Pos} (k : TbOk h h1 tb tm ta φ0 φ1 μ nx) {p q : Pos} (e : (p, q) ∈ tb) (g : Nat) : phiP φ0 μ ta q g = φ1 p g := by
  rw [k.phi_new (k.look _ _ (k.subB _ e)), k.cel _ _ e]

theorem oldP_phi (hR : HR P φ0 h w0) {id : Pos} {g : Nat} (e : oldP h id g = true) : ∃ r, φ0 id g = some r := by
  unfold oldP at e
  split at e
  · rename_i hid
    rw [Bool.and_eq_true] at e
    obtain ⟨⟨_, _, _, _, _, a6⟩, _⟩ := hR.blk _ _ hid
    obtain ⟨b, s, n, _, _, _, r1, _⟩ := a6 g (ble_iff.1 e.1) (ble_iff.1 e.2)
    exact ⟨_, r1⟩
  · cases e

theorem oldM_phi (hR : HR P φ0 h w0) {id : Pos} (e : oldM h id = true) : ∃ r, φ0 id 0 = some r := by
  unfold oldM at e
  split at e
  · rename_i hid
    obtain ⟨b, d, n0, E, clk, r1, _⟩ := hR.blk _ _ hid
    exact ⟨_, r1⟩
  · cases e

theorem ren_rel (hR : HR P φ0 h w0) {tb tm ta : List (Pos × Pos)} {μ : Phi} {nx : Pos} (k : TbOk h h1 tb tm ta φ0 φ1 μ nx) : ∀ (n : Nat) (v v' : AV) (x : Value), renAV h tb tm n v = some v' → Rel φ1 v x → Rel (phiP φ0 μ ta) v' x
  | 0, _, _, _, e, _ => by cases e
  | n + 1, v, v', x, e, r => by
    have ih := ren_rel hR k n
    have lst : ∀ (l l' : List AV) (xs : List Value), mapO (renAV h tb tm n) l = some l' → RelL φ1 l xs → RelL (phiP φ0 μ ta) l' xs := by
      intro l l' xs e r
      obtain ⟨h1, h2⟩ := mapO_get e
      refine RelL.of_get (by rw [← h1, r.length]) fun i v x hv hx => ?_
      have hi : i < l.length := by rw [h1]; exact (List.getElem?_eq_some_iff.1 hv).1
      obtain ⟨y, y1, y2⟩ := h2 i l[i] (List.getElem?_eq_getElem hi)
      rw [hv] at y1; cases y1
      obtain ⟨x', x1, x2⟩ := r.get (List.getElem?_eq_getElem hi)
      rw [hx] at x1; cases x1
      exact ih _ _ _ y2 x2
    have hold : ∀ {id : Pos} {g : Nat} {r : Nat × Int × Nat}, oldP h id g = true → φ1 id g = some r → phiP φ0 μ ta id g = some r := by
      intro id g r o e
      obtain ⟨r', q⟩ := oldP_phi hR o
      have := k.le _ _ _ q
      rw [e] at this; cases this
      exact k.phi_old q
    unfold renAV at e
    cases r with
    | bool b => cases e; exact .bool b
    | int kd i => cases e; exact .int kd i
    | str hs hv => cases e; exact .str hs hv
    | nilPtr => cases e; exact .nilPtr
    | nilSl => cases e; exact .nilSl
    | nilMap => cases e; exact .nilMap
    | nilFn => cases e; exact .nilFn
    | nilIfc => cases e; exact .nilIfc
    | unk h => cases e; exact .unk h
    | rng h => cases e; exact .rng h
    | yield hφ => cases e
    | @ptr id g off b s n' a hφ hb ho hs =>
      simp only at e
      split at e
      · rename_i q hq
        cases e
        exact .ptr (by rw [k.phi_cel (lookP_mem hq)]; exact hφ) hb ho hs
      · cases o : oldP h id g with
        | false => rw [o] at e; cases e
        | true => rw [o] at e; cases e; exact .ptr (hold o hφ) hb ho hs
    | @sl id g off len cap ex es b s n' a c hφ hb hs hl hc hlc hx ho =>
      simp only at e
      split at e
      · rename_i q hq
        cases e
        exact .sl (by rw [k.phi_cel (lookP_mem hq)]; exact hφ) hb hs hl hc hlc hx ho
      · cases o : oldP h id g with
        | false => rw [o] at e; cases e
        | true => rw [o] at e; cases e; exact .sl (hold o hφ) hb hs hl hc hlc hx ho
    | @sl0 id g off es a =>
      simp only at e
      split at e
      · cases e; exact .sl0
      · cases o : oldP h id g with
        | false => rw [o] at e; cases e
        | true => rw [o] at e; cases e; exact .sl0
    | @map id b s0 m0 hφ =>
      simp only at e
      split at e
      · rename_i q hq
        cases e
        obtain ⟨s', n', hμ⟩ := k.map _ _ (lookP_mem hq) _ _ _ hφ
        exact .map (by rw [k.phi_new (k.look _ _ (k.subM _ (lookP_mem hq)))]; exact hμ)
      · cases o : oldM h id with
        | false => rw [o] at e; cases e
        | true =>
          rw [o] at e; cases e
          obtain ⟨r', q⟩ := oldM_phi hR o
          have := k.le _ _ _ q
          rw [hφ] at this; cases this
          exact .map (k.phi_old q)
    | fn ha hb =>
      simp only at e
      split at e
      · rename_i a b e1 e2
        cases e
        exact .fn (lst _ _ _ e1 ha) (lst _ _ _ e2 hb)
      · cases e
    | ifc hv =>
      simp only at e
      split at e
      · rename_i v e1
        cases e
        exact .ifc (ih _ _ _ e1 hv)
      · cases e
    | agg hl =>
      simp only at e
      split at e
      · rename_i l e1
        cases e
        exact .agg (lst _ _ _ e1 hl)
      · cases e
    | tup hl =>
      simp only at e
      split at e
      · rename_i l e1
        cases e
        exact .tup (lst _ _ _ e1 hl)
      · cases e


theorem renC_spec (hR : HR P φ0 h w0) {tb tm ta : List (Pos × Pos)} {μ : Phi} {nx : Pos} (k : TbOk h h1 tb tm ta φ0 φ1 μ nx) {c c' : Cells} (e : renC h tb tm c = some c') (hw : c.wf) :
    c'.wf ∧ c'.size = c.size ∧ ∀ (i : Nat) (v' : AV), c'.toL[i]? = some v' → ∃ v, c.toL[i]? = some v ∧ ∀ x, Rel φ1 v x → Rel (phiP φ0 μ ta) v' x := by
  unfold renC at e
  split at e
  · cases e
    refine ⟨hw, rfl, fun i v' hv => ⟨v', hv, fun x r => ?_⟩⟩
    have : (bytesL _ _)[i]? = some v' := hv
    rw [bytesL_eq, List.getElem?_map] at this
    cases hu : (unpack _ _)[i]? with
    | none => rw [hu] at this; cases this
    | some b =>
      rw [hu] at this
      cases this
      cases r
      exact .int _ _
  · rename_i n l
    split at e
    · rename_i l' hl
      cases e
      obtain ⟨s1, s2, s3⟩ := Cells.ofL_spec l'
      obtain ⟨h1, h2⟩ := mapO_get hl
      refine ⟨s1, by rw [s3, ← h1]; exact hw.symm, fun i v' hv => ?_⟩
      rw [s2] at hv
      have hi : i < l.length := by rw [h1]; exact (List.getElem?_eq_some_iff.1 hv).1
      obtain ⟨y, y1, y2⟩ := h2 i l[i] (List.getElem?_eq_getElem hi)
      rw [hv] at y1; cases y1
      exact ⟨l[i], List.getElem?_eq_getElem hi, fun x r => ren_rel hR k 12 _ _ _ y2 r⟩
    · cases e

theorem insE_perm (e : AV × AV × Nat) : ∀ l : List (AV × AV × Nat), List.Perm (insE e l) (e :: l)
  | [] => .refl _
  | x :: l => by
    unfold insE
    cases leAV 6 e.1 x.1 with
    | true => exact .refl _
    | false => exact ((insE_perm e l).cons x).trans (.swap e x l)

theorem sortE_perm : ∀ l : List (AV × AV × Nat), List.Perm (sortE l) l
  | [] => .refl _
  | e :: l => (insE_perm e (sortE l)).trans ((sortE_perm l).cons e)

section
variable {R : Nat → Nat → Prop}

theorem EntsR.permL {l l' : List (AV × AV × Nat)} (p : List.Perm l l') : ∀ {E : List MapEntry}, EntsR φ R l E → ∃ E', List.Perm E E' ∧ EntsR φ R l' E' := by
  induction p with
  | nil => intro E h; exact ⟨E, .refl _, h⟩
  | cons x _ ih =>
    intro E h
    cases h with
    | cons hk hv hn t =>
      obtain ⟨E', p, q⟩ := ih t
      exact ⟨_, p.cons _, .cons hk hv hn q⟩
  | swap x y l =>
    intro E h
    cases h with
    | cons hk hv hn t => cases t with
      | cons hk' hv' hn' t => exact ⟨_, .swap _ _ _, .cons hk' hv' hn' (.cons hk hv hn t)⟩
  | trans _ _ ih1 ih2 =>
    intro E h
    obtain ⟨E1, p1, q1⟩ := ih1 h
    obtain ⟨E2, p2, q2⟩ := ih2 q1
    exact ⟨E2, p1.trans p2, q2⟩

theorem EntsR.permE {E E' : List MapEntry} (p : List.Perm E E') : ∀ {l : List (AV × AV × Nat)}, EntsR φ R l E → ∃ l', List.Perm l l' ∧ EntsR φ R l' E' := by
  induction p with
  | nil => intro l h; exact ⟨l, .refl _, h⟩
  | cons x _ ih =>
    intro l h
    cases h with
    | cons hk hv hn t =>
      obtain ⟨l', p, q⟩ := ih t
      exact ⟨_, p.cons _, .cons hk hv hn q⟩
  | swap x y r =>
    intro l h
    cases h with
    | cons hk hv hn t => cases t with
      | cons hk' hv' hn' t => exact ⟨_, .swap _ _ _, .cons hk' hv' hn' (.cons hk hv hn t)⟩
  | trans _ _ ih1 ih2 =>
    intro l h
    obtain ⟨l1, p1, q1⟩ := ih1 h
    obtain ⟨l2, p2, q2⟩ := ih2 q1
    exact ⟨l2, p1.trans p2, q2⟩
end

theorem renE_spec {tb tm : List (Pos × Pos)} {χ : Phi} (hv : ∀ v v' x, renAV h tb tm 12 v = some v' → Rel φ1 v x → Rel χ v' x) {q : Pos} {b : Nat} {d : Int} {n0 : Nat} {R : Nat → Nat → Prop} :
    ∀ {L es' : List (AV × AV × Nat)} {E : List MapEntry} {i : Nat}, mapO (renE h tb tm) (numE i L) = some es' → EntsR φ1 R L E → i + L.length ≤ n0 → (∀ j e, E[j]? = some e → χ q (i + j + 1) = some (b, (e.born : Int), 0)) → EntsR χ (BornR χ q b d n0) es' E
  | [], es', E, i, e, r, _, _ => by unfold numE mapO at e; cases e; cases r; exact .nil
  | a :: l, es', E, i, e, r, hn, hc => by
    unfold numE mapO at e
    split at e
    · rename_i y hy
      split at e
      · rename_i r' hr
        cases e
        cases r with
        | @cons k v n n' x0 y0 _ E hk hv' hn' t =>
          unfold renE at hy
          split at hy
          · rename_i k' v' e1 e2
            cases hy
            rw [List.length_cons] at hn
            refine .cons (hv _ _ _ e1 hk) (hv _ _ _ e2 hv') (.inl ⟨by show i < n0; omega, ?_⟩) (renE_spec hv (i := Nat.succ i) hr t (by omega) fun j e he => ?_)
            · exact hc 0 _ rfl
            · have := hc (j + 1) e he
              rwa [show i + (j + 1) + 1 = Nat.succ i + j + 1 by omega] at this
          · cases hy
      · cases e
    · cases e

/-- The names that a map's entries get. -/
theorem ren_map {p : Pos} {s : Nat} {es : List (AV × AV × Nat)} {clock : Nat} (r : BR P φ1 w1 p (.map s es clock)) :
    ∃ ν : Nat → Option (Nat × Int × Nat), (∀ g b s n, ν g = some (b, s, n) → ∃ g0 s0 n0, φ1 p g0 = some (b, s0, n0)) ∧ (∀ b s n, φ1 p 0 = some (b, s, n) → ∃ s' n', ν 0 = some (b, s', n')) ∧
      ∀ (tb tm : List (Pos × Pos)) (q : Pos) (χ : Phi) (es' : List (AV × AV × Nat)), (∀ g, χ q g = ν g) → (∀ v v' x, renAV h tb tm 12 v = some v' → Rel φ1 v x → Rel χ v' x) → mapO (renE h tb tm) (numE 0 (sortE es)) = some es' → BR P χ w1 q (.map s es' es.length) := by
  obtain ⟨b, d, n0, E, clk, e1, e2, hM⟩ := r
  obtain ⟨l, hp, hE⟩ := hM.ents
  obtain ⟨E2, p2, hE2⟩ := hE.permL (hp.trans (sortE_perm es).symm)
  have hlen : es.length = E2.length := by rw [← (sortE_perm es).length_eq, hE2.length]
  have hborn : ∀ e ∈ E2, e.born < clk := fun e he => hM.born _ (List.mem_map.2 ⟨e, p2.mem_iff.2 he, rfl⟩)
  have hnod : (E2.map (·.born)).Nodup := (p2.map (·.born)).nodup_iff.1 hM.nodup
  refine ⟨fun g => match g with | 0 => some (b, (clk : Int) - es.length, es.length) | i + 1 => (E2[i]?).map fun e => (b, (e.born : Int), 0), fun g b' s' n' e => ?_, fun b' s' n' e => ?_, fun tb tm q χ es' hχ hv he => ?_⟩
  · cases g with
    | zero => cases e; exact ⟨0, _, _, e1⟩
    | succ i =>
      simp only at e
      cases hi : E2[i]? with
      | none => rw [hi] at e; cases e
      | some e' => rw [hi] at e; cases e; exact ⟨0, _, _, e1⟩
  · rw [e1] at e; cases e; exact ⟨_, _, rfl⟩
  · have hR2 : EntsR χ (BornR χ q b ((clk : Int) - es.length) es.length) es' E2 := renE_spec hv he hE2 (by rw [Nat.zero_add, (sortE_perm es).length_eq]; exact Nat.le_refl _) fun j e he' => by
      rw [hχ, Nat.zero_add]
      show (E2[j]?).map _ = _
      rw [he']; rfl
    obtain ⟨l', pl, hl⟩ := hR2.permE p2.symm
    refine ⟨b, _, es.length, E, clk, by rw [hχ], e2, ⟨Nat.le_refl _, by omega, ⟨l', pl.symm, hl⟩, fun n hn => ?_, fun i j r hi hj ki kj => ?_, hM.born, hM.nodup⟩⟩
    · have hn' : n < E2.length := by omega
      refine ⟨E2[n].born, by rw [hχ]; show (E2[n]?).map _ = _; rw [List.getElem?_eq_getElem hn']; rfl, ?_⟩
      have := hborn _ (List.getElem_mem hn')
      omega
    · have hi' : i < E2.length := by omega
      have hj' : j < E2.length := by omega
      rw [hχ] at ki kj
      have ki : (E2[i]?).map _ = _ := ki
      have kj : (E2[j]?).map _ = _ := kj
      rw [List.getElem?_eq_getElem hi'] at ki
      rw [List.getElem?_eq_getElem hj'] at kj
      rw [← kj] at ki
      simp only [Option.map_some, Option.some.injEq, Prod.mk.injEq, true_and, and_true] at ki
      have hb : E2[i].born = E2[j].born := by omega
      refine (List.getElem_inj (xs := E2.map (·.born)) (i := i) (j := j) (h₀ := by simpa using hi') (h₁ := by simpa using hj') hnod).1 ?_
      simpa using hb

theorem ren_blk (hR : HR P φ0 h w0) {tb tm ta : List (Pos × Pos)} {μ : Phi} {nx : Pos} (k : TbOk h h1 tb tm ta φ0 φ1 μ nx) {p q : Pos} (hl : (p, q) ∈ tb) {b b' : Blk} (e : renB h tb tm b = some b') (r : BR P φ1 w1 p b) : BR P (phiP φ0 μ ta) w1 q b' := by
  have hp := k.phi_cel hl
  unfold renB at e
  split at e
  · rename_i s c lo hi g m ro fz
    split at e
    · rename_i c' hc
      cases e
      obtain ⟨⟨a1, a2, a3, a4, a5, a6⟩, ty⟩ := r
      obtain ⟨c1, c2, c3⟩ := renC_spec hR k hc a1
      refine ⟨⟨c1, Nat.le_refl _, fun q => absurd q (Nat.lt_irrefl _), fun j hj => by rw [hp]; exact a4 j hj, fun j j' b s n s' n' q1 q2 q3 q4 e1 e2 => ?_, fun j q1 q2 => ?_⟩, fun j b s n C el fr q1 q2 e1 e2 => ?_⟩
      · rw [hp] at e1 e2
        exact a5 j j' b s n s' n' (by omega) q2 (by omega) q4 e1 e2
      · have : j = g := by omega
        subst this
        obtain ⟨b, s, n, C, el, fr, r1, r2, r3, r4, r5⟩ := a6 j a2 (Nat.le_refl _)
        refine ⟨b, s, n, C, el, fr, by rw [hp]; exact r1, r2, r3, r4, fun i v' i1 i2 i3 => ?_⟩
        obtain ⟨v, v1, v2⟩ := c3 i v' i3
        rw [if_pos rfl] at i2
        obtain ⟨o, x, o1, o2, o3⟩ := r5 i v i1 (by rw [if_pos rfl, ← c2]; exact i2) v1
        exact ⟨o, x, o1, o2, v2 x o3⟩
      · rw [hp] at e1
        exact ty j b s n C el fr (by omega) q2 e1 e2
    · cases e
  · cases e

theorem renB_free {tb tm : List (Pos × Pos)} {b b' : Blk} (e : renB h tb tm b = some b') : b'.free ↔ b.free := by
  unfold renB at e
  split at e
  · split at e
    · cases e; exact Iff.rfl
    · cases e
  · cases e

theorem renM_map {tb tm : List (Pos × Pos)} {b b' : Blk} (e : renM h tb tm b = some b') : ∃ s es clock es', b = .map s es clock ∧ b' = .map s es' es.length ∧ mapO (renE h tb tm) (numE 0 (sortE es)) = some es' := by
  unfold renM at e
  split at e
  · split at e
    · rename_i es' h'
      rw [natK_eq] at e
      cases e
      exact ⟨_, _, _, es', rfl, rfl, h'⟩
    · cases e
  · cases e

theorem renB_cells {tb tm : List (Pos × Pos)} {b b' : Blk} (e : renB h tb tm b = some b') : ∀ s es clock, b ≠ .map s es clock := by
  intro s es clock q
  subst q
  cases e

/-- ████ What a call over the heap held fast leaves, may be packed. ████ -/
theorem packL_sound (hR : HR P φ0 h w0) (hR1 : HR P φ1 h1 w1) (A : Adv (holdH h) w0 φ0 h1 w1 φ1) (hz : h.lim = 0) {v : AV} {x : Value} (r : Rel φ1 v x) {l : List Pos × List Pos} {k : Pk} (e : packL h h1 v l = some k) :
    ∃ φ', HR P φ' (unpackH h k) w1 ∧ Adv h w0 φ0 (unpackH h k) w1 φ' ∧ Rel φ' k.v x := by
  unfold packL packT at e
  generalize htb : numP h.next l.1 = tb at e
  generalize htm : numP (nextP h.next l.1) l.2 = tm at e
  generalize hta : numP h.next (l.1 ++ l.2) = ta at e
  generalize hnx : nextP h.next (l.1 ++ l.2) = nx at e
  have htab : ta = tb ++ tm := by rw [← hta, ← htb, ← htm, numP_append]
  split at e
  · rename_i v' bs ms hv hbs hms
    cases e
    obtain ⟨m1, m2⟩ := mapO_mem hbs
    obtain ⟨m3, m4⟩ := mapO_mem hms
    have fact : ∀ (f : Blk → Option Blk) p q y, packB f h h1 ta (p, q) = some y → holdB (T.get p h.heap) = none ∧ lookP p ta = some q ∧ ∃ b b', T.get p h1.heap = some b ∧ f b = some b' ∧ y = (q, b') := by
      intro f p q y e
      unfold packB at e
      split at e
      · rename_i q' b n1 n2 n3
        cases hs : samePos q' q with
        | false => rw [hs] at e; cases e
        | true =>
          rw [hs, cond_true] at e
          have := samePos_iff.1 hs
          subst this
          split at e
          · rename_i b' hb'
            cases e
            exact ⟨n1, n2, b, b', n3, hb', rfl⟩
          · cases e
      · cases e
    have factA : ∀ p q, (p, q) ∈ ta → holdB (T.get p h.heap) = none ∧ lookP p ta = some q ∧ ∃ b, T.get p h1.heap = some b := by
      intro p q hm
      rw [htab, List.mem_append] at hm
      rcases hm with hm | hm
      · obtain ⟨y, _, hy⟩ := m1 _ hm
        obtain ⟨n1, n2, b, _, n3, _⟩ := fact _ p q y hy
        exact ⟨n1, n2, b, n3⟩
      · obtain ⟨y, _, hy⟩ := m3 _ hm
        obtain ⟨n1, n2, b, _, n3, _⟩ := fact _ p q y hy
        exact ⟨n1, n2, b, n3⟩
    have oldn : ∀ id g r, φ0 id g = some r → id.num < h.next.num := fun id g r e => by
      rcases hR.used id g r e with q | ⟨q, _⟩
      · exact q
      · exact absurd hz q
    -- the names of the maps' entries
    have nus : ∀ p : Pos, ∃ ν : Nat → Option (Nat × Int × Nat), ∀ s es clock, T.get p h1.heap = some (.map s es clock) → (∀ g b s n, ν g = some (b, s, n) → ∃ g0 s0 n0, φ1 p g0 = some (b, s0, n0)) ∧ (∀ b s n, φ1 p 0 = some (b, s, n) → ∃ s' n', ν 0 = some (b, s', n')) ∧
        ∀ (tb tm : List (Pos × Pos)) (q : Pos) (χ : Phi) (es' : List (AV × AV × Nat)), (∀ g, χ q g = ν g) → (∀ v v' x, renAV h tb tm 12 v = some v' → Rel φ1 v x → Rel χ v' x) → mapO (renE h tb tm) (numE 0 (sortE es)) = some es' → BR P χ w1 q (.map s es' es.length) := by
      intro p
      cases hp : T.get p h1.heap with
      | none => exact ⟨fun _ => none, fun s es clock q => by cases q⟩
      | some b =>
        cases b with
        | map s es clock =>
          obtain ⟨ν, n1, n2, n3⟩ := ren_map (h := h) (hR1.blk _ _ hp)
          exact ⟨ν, fun s' es' clock' q => by cases q; exact ⟨n1, n2, n3⟩⟩
        | _ => exact ⟨fun _ => none, fun s es clock q => by cases q⟩
    obtain ⟨ν, hν⟩ := Classical.axiomOfChoice nus
    generalize hμ : (fun p g => match T.get p h1.heap with | some (.map _ _ _) => ν p g | _ => φ1 p g : Phi) = μ
    have ok : TbOk h h1 tb tm ta φ0 φ1 μ nx := by
      refine ⟨fun p q e => by subst hta; exact lookP_inv _ _ e, fun p q hm => ?_, fun p q hm => by subst hta; subst hnx; exact numP_mem _ _ _ hm, fun p q hm => (factA p q hm).2.1, oldn, A.le, fun x q => by rw [htab]; exact List.mem_append_left _ q, fun x q => by rw [htab]; exact List.mem_append_right _ q, fun p q hm g => ?_, fun p q hm b s n e => ?_, fun p g b s n e => ?_⟩
      · obtain ⟨n1, n2, b, n3⟩ := factA _ _ hm
        rcases Nat.lt_or_ge p.num h.next.num with c | c
        · exfalso
          have := A.hid p (.inl c) (by rw [get_hold]; exact n1)
          rw [n3] at this; cases this
        · exact c
      · obtain ⟨y, _, hy⟩ := m1 _ hm
        obtain ⟨_, _, b, b', n3, n4, _⟩ := fact _ p q y hy
        subst hμ
        simp only [n3]
        have := renB_cells n4
        cases b with
        | map s es clock => exact absurd rfl (this s es clock)
        | _ => rfl
      · obtain ⟨y, _, hy⟩ := m3 _ hm
        obtain ⟨_, _, b', b'', n3, n4, _⟩ := fact _ p q y hy
        obtain ⟨s', es, clock, es', rfl, _, _⟩ := renM_map n4
        subst hμ
        simp only [n3]
        exact (hν p _ _ _ n3).2.1 b s n e
      · subst hμ
        simp only at e
        split at e
        · rename_i n3
          exact (hν p _ _ _ n3).1 g b s n e
        · exact ⟨g, s, n, e⟩
    have hnl : h.next.num ≤ nx.num := by rw [← hnx]; exact nextP_le _ _
    have kept : ∀ b, b < w0.heap.size → w1.heap[b]? = w0.heap[b]? := fun b hb => A.keep b hb fun id g s n _ => hold_nonro h id
    have renv : ∀ v v' x, renAV h tb tm 12 v = some v' → Rel φ1 v x → Rel (phiP φ0 μ ta) v' x := ren_rel hR ok 12
    -- a block of the packed heap
    have mems : ∀ y, y ∈ bs ++ ms → ∃ p b0, (p, y.1) ∈ ta ∧ T.get p h1.heap = some b0 ∧ (y.2.free ↔ b0.free) ∧ BR P (phiP φ0 μ ta) w1 y.1 y.2 := by
      intro y hy
      rw [List.mem_append] at hy
      rcases hy with hy | hy
      · obtain ⟨⟨p, q⟩, x1, x2⟩ := m2 y hy
        obtain ⟨n1, n2, b0, b', n3, n4, n5⟩ := fact _ p q y x2
        subst n5
        exact ⟨p, b0, ok.subB _ x1, n3, renB_free n4, ren_blk hR ok x1 n4 (hR1.blk _ _ n3)⟩
      · obtain ⟨⟨p, q⟩, x1, x2⟩ := m4 y hy
        obtain ⟨n1, n2, b0, b', n3, n4, n5⟩ := fact _ p q y x2
        subst n5
        obtain ⟨s', es, clock, es', rfl, rfl, n6⟩ := renM_map n4
        refine ⟨p, _, ok.subM _ x1, n3, Iff.rfl, (hν p _ _ _ n3).2.2 tb tm q _ es' (fun g => ?_) renv n6⟩
        rw [ok.phi_new n2]
        subst hμ
        simp only [n3]
    have blk : ∀ id b, T.get id (unpackH h ⟨v', bs ++ ms, nx⟩).heap = some b → (∃ p b0, (p, id) ∈ ta ∧ T.get p h1.heap = some b0 ∧ (b.free ↔ b0.free) ∧ BR P (phiP φ0 μ ta) w1 id b) ∨ (T.get id h.heap = some b ∧ ∀ y ∈ bs ++ ms, y.1 ≠ id) := by
      intro id b e
      rcases get_put (bs ++ ms) h.heap id b e with ⟨y, y1, rfl, rfl⟩ | q
      · exact .inl (mems y y1)
      · exact .inr q
    have hle : Le φ0 (phiP φ0 μ ta) := fun id g r e => ok.phi_old e
    have old_phi : ∀ {id : Pos} {g : Nat} {r : Nat × Int × Nat}, phiP φ0 μ ta id g = some r → (∃ p, (p, id) ∈ ta ∧ μ p g = some r) ∨ φ0 id g = some r := by
      intro id g r e
      unfold phiP at e
      split at e
      · rename_i p hp; exact .inl ⟨p, invP_mem hp, e⟩
      · exact .inr e
    have notq : ∀ {id : Pos}, id.num < h.next.num → ∀ y ∈ bs ++ ms, y.1 ≠ id := by
      intro id hid y hy c
      obtain ⟨p, b0, x1, _⟩ := mems y hy
      have := (ok.at_ p _ x1).1
      rw [c] at this
      omega
    have notq' : ∀ {id : Pos}, nx.num ≤ id.num → ∀ y ∈ bs ++ ms, y.1 ≠ id := by
      intro id hid y hy c
      obtain ⟨p, b0, x1, _⟩ := mems y hy
      have := (ok.at_ p _ x1).2
      rw [c] at this
      omega
    have oldB : ∀ {id : Pos} {b : Blk}, T.get id h.heap = some b → id.num < h.next.num := fun e => by
      rcases hR.dom _ _ e with q | ⟨q, _⟩
      · exact q
      · exact absurd hz q
    have freshB : ∀ {p : Pos} {g b s n}, h.next.num ≤ p.num → μ p g = some (b, s, n) → w0.heap.size ≤ b := by
      intro p g b s n hp e
      obtain ⟨g, s, n, e⟩ := ok.blk _ _ _ _ _ e
      rcases Nat.lt_or_ge b w0.heap.size with c | c
      · obtain ⟨g0, s0, n0, q⟩ := A.new p g b s n e c
        have := oldn _ _ _ q
        omega
      · exact c
    refine ⟨phiP φ0 μ ta, ⟨fun id b e => ?_, fun id g r e => ?_, fun id b e => ?_, fun id g b s n id' g' s' n' e e' => ?_, fun id g b s n e => ?_, fun g hg => ?_⟩, ⟨hle, A.os, A.output, A.tape, A.size, hnl, fun id g b s n e hb => ?_, fun id hw e => ?_, fun b hb _ => kept b hb, rfl, fun id hw e => ?_, fun id g r hw _ e => ?_⟩, renv _ _ _ hv r⟩
    · rcases blk id b e with ⟨p, b0, x1, x2, x3, x4⟩ | ⟨q, _⟩
      · exact x4
      · refine BR.mono hle (fun g r e => ?_) (fun g b s n e => kept b (hR.inb _ _ _ _ _ e)) (hR.blk _ _ q)
        rcases old_phi e with ⟨p, x1, _⟩ | q'
        · have := (ok.at_ _ _ x1).1
          have := oldB q
          omega
        · exact q'
    · rcases old_phi e with ⟨p, x1, _⟩ | q
      · exact .inl (ok.at_ _ _ x1).2
      · have := oldn _ _ _ q
        exact .inl (by show id.num < nx.num; omega)
    · rcases blk id b e with ⟨p, b0, x1, _⟩ | ⟨q, _⟩
      · exact .inl (ok.at_ _ _ x1).2
      · have := oldB q
        exact .inl (by show id.num < nx.num; omega)
    · have nonro : ∀ {p id : Pos}, (p, id) ∈ ta → ¬ Nonro h1 p → ¬ Nonro (unpackH h ⟨v', bs ++ ms, nx⟩) id := by
        rintro p id hm hn ⟨b, e, f⟩
        rcases blk id b e with ⟨p', b0, x1, x2, x3, x4⟩ | ⟨q, _⟩
        · have i1 := ok.inv _ _ (ok.look _ _ hm)
          have i2 := ok.inv _ _ (ok.look _ _ x1)
          rw [i1] at i2
          cases i2
          exact hn ⟨b0, x2, x3.1 f⟩
        · have := (ok.at_ _ _ hm).1
          have := oldB q
          omega
      have nonro0 : ∀ {id : Pos}, id.num < h.next.num → ¬ Nonro h id → ¬ Nonro (unpackH h ⟨v', bs ++ ms, nx⟩) id := by
        rintro id hid hn ⟨b, e, f⟩
        rcases blk id b e with ⟨p', b0, x1, _⟩ | ⟨q, _⟩
        · have := (ok.at_ _ _ x1).1
          omega
        · exact hn ⟨b, q, f⟩
      rcases old_phi e with ⟨p, x1, x2⟩ | q
      · rcases old_phi e' with ⟨p', y1, y2⟩ | q'
        · obtain ⟨_, _, _, x2'⟩ := ok.blk _ _ _ _ _ x2
          obtain ⟨_, _, _, y2'⟩ := ok.blk _ _ _ _ _ y2
          rcases hR1.sep _ _ _ _ _ _ _ _ _ x2' y2' with rfl | ⟨c1, c2⟩
          · have i1 := ok.look _ _ x1
            have i2 := ok.look _ _ y1
            rw [i1] at i2
            cases i2
            exact .inl rfl
          · exact .inr ⟨nonro x1 c1, nonro y1 c2⟩
        · have := freshB (ok.new _ _ x1) x2
          have := hR.inb _ _ _ _ _ q'
          omega
      · rcases old_phi e' with ⟨p', y1, y2⟩ | q'
        · have := freshB (ok.new _ _ y1) y2
          have := hR.inb _ _ _ _ _ q
          omega
        · rcases hR.sep _ _ _ _ _ _ _ _ _ q q' with c | ⟨c1, c2⟩
          · exact .inl c
          · exact .inr ⟨nonro0 (oldn _ _ _ q) c1, nonro0 (oldn _ _ _ q') c2⟩
    · rcases old_phi e with ⟨p, x1, x2⟩ | q
      · obtain ⟨_, _, _, x2'⟩ := ok.blk _ _ _ _ _ x2
        exact hR1.inb _ _ _ _ _ x2'
      · have := hR.inb _ _ _ _ _ q
        have := A.size
        omega
    · obtain ⟨n, q⟩ := hR.glob g hg
      exact ⟨n, hle _ _ _ q⟩
    · rcases old_phi e with ⟨p, x1, x2⟩ | q
      · have := freshB (ok.new _ _ x1) x2
        omega
      · exact ⟨g, s, n, q⟩
    · obtain ⟨b, e, f⟩ := e
      rcases blk id b e with ⟨p, b0, x1, _⟩ | ⟨q, _⟩
      · have := ok.at_ _ _ x1
        rcases hw with c | c
        · omega
        · have c : nx.num ≤ id.num := c
          omega
      · exact ⟨b, q, f⟩
    · refine get_put_none (bs ++ ms) h.heap id ?_ e
      rcases hw with c | c
      · exact notq c
      · exact notq' c
    · rcases old_phi e with ⟨p, x1, _⟩ | q
      · have := ok.at_ _ _ x1
        rcases hw with c | c
        · omega
        · have c : nx.num ≤ id.num := c
          omega
      · exact q
  · cases e


theorem sameC_sound {a b : Cells} (e : sameC a b = true) : a = b := by
  unfold sameC at e
  split at e
  · rw [Bool.and_eq_true, beq_iff, beq_iff] at e
    rw [e.1, e.2]
  · rw [Bool.and_eq_true, beq_iff] at e
    rw [e.1, eqLs_sound (fun x y q => eqAV_sound 12 q) e.2]
  · cases e

theorem sameEs_sound : ∀ {l r : List (AV × AV × Nat)}, sameEs l r = true → l = r
  | [], [], _ => rfl
  | [], _ :: _, e => by cases e
  | _ :: _, [], e => by cases e
  | (a, b, c) :: l, (a', b', c') :: r, e => by
    simp only [sameEs, Bool.and_eq_true, beq_iff] at e
    obtain ⟨⟨⟨e1, e2⟩, e3⟩, e4⟩ := e
    rw [eqAV_sound 12 e1, eqAV_sound 12 e2, e3, sameEs_sound e4]

theorem sameB_sound {a b : Blk} (e : sameB a b = true) : a = b := by
  unfold sameB at e
  split at e
  · simp only [Bool.and_eq_true, beq_iff, eqB_iff] at e
    obtain ⟨⟨⟨⟨⟨⟨⟨e1, e2⟩, e3⟩, e4⟩, e5⟩, e6⟩, e7⟩, e8⟩ := e
    rw [e1, sameC_sound e2, e3, e4, e5, e6, e7, e8]
  · simp only [Bool.and_eq_true, beq_iff] at e
    rw [e.1.1, sameEs_sound e.1.2, e.2]
  · cases e

theorem sameBs_sound : ∀ {l r : List (Pos × Blk)}, sameBs l r = true → l = r
  | [], [], _ => rfl
  | [], _ :: _, e => by cases e
  | _ :: _, [], e => by cases e
  | (a, b) :: l, (a', b') :: r, e => by
    simp only [sameBs, Bool.and_eq_true] at e
    have e1 := samePos_iff.1 e.1.1
    subst e1
    rw [sameB_sound e.1.2, sameBs_sound e.2]

theorem samePk_sound {a b : Pk} (e : samePk a b = true) : a = b := by
  obtain ⟨v, bs, n⟩ := a
  obtain ⟨v', bs', n'⟩ := b
  simp only [samePk, Bool.and_eq_true] at e
  have e3 := samePos_iff.1 e.2
  subst e3
  rw [eqAV_sound 12 e.1.1, sameBs_sound e.1.2]

theorem allPk_mem {k : Pk} : ∀ {l : List (AV × Hp)}, allPk h k l = true → ∀ x ∈ l, packV h x.2 x.1 = some k
  | [], _, x, q => by cases q
  | y :: l, e, x, q => by
    unfold allPk at e
    rw [Bool.and_eq_true] at e
    rcases List.mem_cons.1 q with rfl | q
    · have e1 := e.1
      split at e1
      · rename_i k' hk
        rw [hk, samePk_sound e1]
      · cases e1
    · exact allPk_mem e.2 x q

theorem joinP_mem {l : List (AV × Hp)} {v' : AV} {h' : Hp} (e : joinP h l = some (v', h')) : ∃ k, v' = k.v ∧ h' = unpackH h k ∧ ∀ x ∈ l, packV h x.2 x.1 = some k := by
  unfold joinP at e
  split at e
  · cases e
  · rename_i y r
    split at e
    · rename_i k hk
      cases ha : allPk h k r with
      | false => rw [ha] at e; cases e
      | true =>
        rw [ha] at e
        cases e
        refine ⟨k, rfl, rfl, fun x q => ?_⟩
        rcases List.mem_cons.1 q with rfl | q
        · exact hk
        · exact allPk_mem ha x q
    · cases e

/-- ████ One of all that a call may leave. ████ -/
theorem joinP_sound (hR : HR P φ0 h w0) (hR1 : HR P φ1 h1 w1) (A : Adv (holdH h) w0 φ0 h1 w1 φ1) (hz : h.lim = 0) {v : AV} {x : Value} (r : Rel φ1 v x) {l : List (AV × Hp)} (hm : (v, h1) ∈ l) {v' : AV} {h' : Hp} (e : joinP h l = some (v', h')) :
    ∃ φ', HR P φ' h' w1 ∧ Adv h w0 φ0 h' w1 φ' ∧ Rel φ' v' x := by
  obtain ⟨k, rfl, rfl, hk⟩ := joinP_mem e
  exact packL_sound hR hR1 A hz r (hk _ hm)

end
end Go.Proofs.YtialpccieggaoaaGreatDoor.Am

namespace Go.Proofs.YtialpccieggaoaaGreatDoor.Am

section
variable {P : Program} {φ : Phi} {h : Hp} {w : World} {env : T AV} {a : Act} {o : Oper}

theorem builtin_run (hR : HR P φ h w) (hE : EnvR φ env a.tmps) (hm : Room h) {c : Call} {b : Builtin} {ao : AOp} (hc : c.callee = .builtin b) (h1 : compBuiltin P b c.args.toList c.argTypes.toList = some ao) (ho : o.op = .call c) :
    ResR P φ h w (evalOp P ao env h) ((execOp a.eval o).run P w) := by
  generalize hal : c.args.toList = al at h1
  generalize htl : c.argTypes.toList = tl at h1
  unfold compBuiltin at h1
  split at h1
  · rename_i x t
    unfold compLen at h1
    split at h1
    · rename_i hd
      cases hx : compOpd P x with
      | none => rw [hx] at h1; cases h1
      | some x' => rw [hx] at h1; cases h1; exact op_lenS hR hE hx hd hc hal htl ho
    · rename_i e hd
      cases hx : compOpd P x with
      | none => rw [hx] at h1; cases h1
      | some x' => rw [hx] at h1; cases h1; exact op_lenL hR hE hx hd hc hal htl ho
    · rename_i kt e hd
      cases hx : compOpd P x with
      | none => rw [hx] at h1; cases h1
      | some x' => rw [hx] at h1; cases h1; exact op_lenM hR hE hx hd hc hal htl ho
    · rename_i n e hd
      cases h1
      exact op_lenArr hR hE (.inl ⟨e, hd⟩) hc hal htl ho
    · rename_i b' hd
      split at h1
      · rename_i n e hb
        cases h1
        exact op_lenArr hR hE (.inr ⟨b', e, hd, hb⟩) hc hal htl ho
      · cases h1
    · cases h1
  · rename_i x t
    unfold compCap at h1
    split at h1
    · rename_i e hd
      cases hx : compOpd P x with
      | none => rw [hx] at h1; cases h1
      | some x' => rw [hx] at h1; cases h1; exact op_cap hR hE hx hd hc hal htl ho
    · cases h1
  · rename_i s x t u
    unfold compAppend at h1
    split at h1
    · rename_i e s' x' he hs hx
      split at h1
      · rename_i z hz
        cases hb : (Nat.beq z.cells.length (P.cellsOf e) && okT P u && Nat.blt 0 (P.bytesOf e)) with
        | false => rw [hb] at h1; cases h1
        | true =>
          rw [hb, cond_true] at h1
          rw [Bool.and_eq_true, Bool.and_eq_true] at hb
          have h0 := blt_iff.1 hb.2
          cases hi : isIntT P u with
          | true => rw [hi] at h1; cases h1; exact op_appendZ hR hE hm he hs hx hz (beq_iff.1 hb.1.1) hb.1.2 h0 hi hc hal htl ho
          | false => rw [hi] at h1; cases h1; exact op_append hR hE hm he hs hx hz (beq_iff.1 hb.1.1) hb.1.2 h0 hi hc hal htl ho
      · cases h1
    · cases h1
  · rename_i d s t r
    unfold compCopy at h1
    split at h1
    · rename_i e d' s' he hd hs
      cases h1
      exact op_copy hR hE he hd hs hc hal htl ho
    · cases h1
  · rename_i m k t r
    split at h1
    · rename_i kk m' k' hkk hm' hk'
      cases h1
      exact op_delete hR hE hkk hm' hk' hc hal htl ho
    · cases h1
  · cases h1
    rename_i hnil
    show (execOp a.eval o).run P w = .ok .recover w
    rw [exec_builtin ho hc]
    rfl
  · rename_i x t r
    split at h1
    · rename_i e he
      split at h1
      · rename_i z x' hz hx
        cases hb : Nat.beq z.cells.length (P.cellsOf e) with
        | false => rw [hb] at h1; cases h1
        | true => rw [hb] at h1; cases h1; exact op_clearSl hR hE he hz (beq_iff.1 hb) hx hc hal htl ho
      · cases h1
    · cases h1
  · rename_i x
    cases hx : compOpd P x with
    | none => rw [hx] at h1; cases h1
    | some x' => rw [hx] at h1; cases h1; exact op_sliceData hR hE hx hc hal ho
  · rename_i p n t r
    split at h1
    · rename_i e hd
      cases hb : byteT P e with
      | false => rw [hb] at h1; cases h1
      | true =>
        rw [hb, cond_true] at h1
        split at h1
        · rename_i p' n' hp hn
          cases h1
          exact op_unsafeStr hR hE hp hn hc hal htl hd hb ho
        · cases h1
    · cases h1
  · rename_i x y
    split at h1
    · rename_i x' y' hx hy
      cases h1
      exact op_minmax hR hE false hx hy hc hal ho
    · cases h1
  · rename_i x y
    split at h1
    · rename_i x' y' hx hy
      cases h1
      exact op_minmax hR hE true hx hy hc hal ho
    · cases h1
  · cases h1

theorem ekT_ptr {t : TypeId} (e : ekT P t = .ptr true) : ∃ el, P.underlying t = some (.pointer el) ∧ okT P el = true ∧ 0 < P.cellsOf el := by
  unfold ekT at e
  split at e <;> first | (cases e; done) | skip
  · rename_i el hd
    injection e with e
    rw [Bool.and_eq_true] at e
    exact ⟨el, hd, e.1, blt_iff.1 e.2⟩
  · split at e
    · rename_i ks hf
      cases hg : P.eqGuardType P.depth t <;> rw [hg] at e <;> cases e
    · cases e

theorem ekT_ifc {t : TypeId} (e : ekT P t = .ifc) : ∃ ms, P.underlying t = some (.interface ms) := by
  unfold ekT at e
  split at e <;> first | (cases e; done) | (exact ⟨_, by assumption⟩) | skip
  split at e
  · rename_i ks hf
    cases hg : P.eqGuardType P.depth t <;> rw [hg] at e <;> cases e
  · cases e

theorem evalOp_run (hR : HR P φ h w) (hE : EnvR φ env a.tmps) (hm : Room h) {ao : AOp} (hc : compAOp P o.op = some ao) : ResR P φ h w (evalOp P ao env h) ((execOp a.eval o).run P w) := by
  generalize ho : o.op = op at hc
  unfold compAOp at hc
  split at hc
  all_goals first | (cases hc; done) | skip
  · rename_i x
    cases hx : compOpd P x with
    | none => rw [hx] at hc; cases hc
    | some x' => rw [hx] at hc; cases hc; exact op_move hR hE hx (.inl ho)
  · rename_i x
    cases hx : compOpd P x with
    | none => rw [hx] at hc; cases hc
    | some x' => rw [hx] at hc; cases hc; exact op_move hR hE hx (.inr ho)
  · rename_i c x y
    split at hc
    · rename_i c' x' y' h1 h2 h3; cases hc; exact op_pick hR hE h1 h2 h3 ho
    · cases hc
  · rename_i t
    cases hz : zeroT P t with
    | none => rw [hz] at hc; cases hc
    | some z =>
      rw [hz] at hc
      simp only [Option.map] at hc
      cases hs : (selfT P t && Nat.beq z.cells.length (P.cellsOf t)) with
      | true =>
        rw [hs] at hc
        cases hc
        rw [Bool.and_eq_true] at hs
        exact op_allocT hR hm hz (beq_iff.1 hs.2) ho
      | false => rw [hs] at hc; cases hc; exact op_alloc hR hm hz ho
  · rename_i t x
    cases hx : compOpd P x with
    | none => rw [hx] at hc; cases hc
    | some x' => rw [hx] at hc; cases hc; exact op_box hR hE hm hx ho
  · rename_i t parts
    split at hc
    · cases hc
    · rename_i z hz; exact op_build hR hE hz hc ho
  · rename_i t len parts
    split at hc
    · cases hc
    · rename_i e he
      split at hc
      · cases hc
      · rename_i z hz
        cases hb : (Nat.ble (len * P.cellsOf e) 16777216 && Nat.beq z.cells.length (P.cellsOf e)) with
        | false => rw [hb] at hc; cases hc
        | true =>
          rw [hb, cond_true] at hc
          rw [Bool.and_eq_true] at hb
          cases hp : compParts P (fun i => some (i * P.cellsOf e, P.cellsOf e)) parts.toList with
          | none => rw [hp] at hc; cases hc
          | some parts' => rw [hp] at hc; cases hc; exact op_buildSl hR hE hm he hz (ble_iff.1 hb.1) (beq_iff.1 hb.2) hp ho
  · rename_i t x
    split at hc
    · rename_i x' d hx hd
      cases hk : okT P t with
      | false => rw [hk] at hc; cases hc
      | true =>
        rw [hk, cond_true, Option.some.injEq] at hc
        subst hc
        cases hg : isAggT P t with
        | true => exact op_loadN hR hE hx hd hk hg ho
        | false =>
          rw [cond_false]
          cases isMaxG _ with
          | true => exact op_loadG hR hE hx hd hg ho
          | false => exact op_load1 hR hE hx hd hg ho
    · cases hc
  · rename_i t x y
    split at hc
    · rename_i x' y' hx hy
      cases hk : okT P t with
      | false => rw [hk] at hc; cases hc
      | true => rw [hk, cond_true, Option.some.injEq] at hc; subst hc; exact op_store hR hE hx hy hk ho
    · cases hc
  · rename_i x
    cases hx : compOpd P x with
    | none => rw [hx] at hc; cases hc
    | some x' => rw [hx] at hc; cases hc; exact op_nilCheck hR hE hx ho
  · rename_i op t x y yt
    split at hc
    · rename_i x' y' hx hy
      cases hc
      have ptr : ∀ neg, ((op = .eql ∧ neg = false) ∨ (op = .neq ∧ neg = true)) → ekT P t = .ptr true → ResR P φ h w (evalOp P (.eqPtr neg x' y') env h) ((execOp a.eval o).run P w) := by
        intro neg hop hk
        obtain ⟨el, h1, h2, h3⟩ := ekT_ptr hk
        exact op_eqPtr hR hE hop hx hy h1 h2 h3 ho
      unfold compBin
      cases op <;> first | exact op_bin hR hE hx hy ho | skip
      · simp only
        split
        · rename_i hk; exact ptr false (.inl ⟨rfl, rfl⟩) hk
        · rename_i hk; obtain ⟨ms, hk⟩ := ekT_ifc hk; exact op_eqIfc hR hE (.inl ⟨rfl, rfl⟩) hx hy hk ho
        · exact op_bin hR hE hx hy ho
      · simp only
        split
        · rename_i hk; exact ptr true (.inr ⟨rfl, rfl⟩) hk
        · rename_i hk; obtain ⟨ms, hk⟩ := ekT_ifc hk; exact op_eqIfc hR hE (.inr ⟨rfl, rfl⟩) hx hy hk ho
        · exact op_bin hR hE hx hy ho
    · cases hc
  · rename_i op t x
    cases hx : compOpd P x with
    | none => rw [hx] at hc; cases hc
    | some x' => rw [hx] at hc; cases hc; exact op_un hR hE hx ho
  · rename_i s d x
    split at hc
    · rename_i x' hx; exact op_conv hR hE hm hx hc ho
    · cases hc
  · rename_i t x
    split at hc
    · cases hc
    · rename_i d hno hd
      cases hx : compOpd P x with
      | none => rw [hx] at hc; cases hc
      | some x' =>
        rw [hx] at hc; cases hc
        exact op_mkIfc hR hE hx hd (fun ms q => hno ms q) ho
    · cases hc
  · rename_i f x y
    split at hc
    · rename_i x' y' hx hy; cases hc; exact op_mkFn hR hE hx hy ho
    · cases hc
  · rename_i t l c
    split at hc
    · cases hc
    · rename_i e he
      split at hc
      · rename_i z l' c' hz hl hcc
        cases hb : (Nat.beq z.cells.length (P.cellsOf e) && Nat.blt 0 (P.bytesOf e)) with
        | false => rw [hb] at hc; cases hc
        | true =>
          rw [hb, cond_true, Option.some.injEq] at hc
          subst hc
          rw [Bool.and_eq_true] at hb
          exact op_mkSl hR hE hm he hz (beq_iff.1 hb.1) hl hcc (bytesN_ok (blt_iff.1 hb.2)) ho
      · cases hc
  · rename_i t x lo hi mx
    split at hc
    · rename_i x' lo' hi' mx' hx hlo hhi hmx
      unfold compSlice at hc
      cases hb : (mx'.isSome && hi'.isNone) with
      | true => rw [hb] at hc; cases hc
      | false =>
        rw [hb, cond_false] at hc
        have h4 : mx.isSome = true → hi.isSome = true := by
          intro q
          rw [← compOpdO_some hmx] at q
          rw [q, Bool.true_and] at hb
          rw [← compOpdO_some hhi]
          cases hi' <;> simp_all
        cases hst : isStrT P t with
        | true =>
          rw [hst, cond_true] at hc
          split at hc
          · cases hc
            have : mx = none := by
              have := compOpdO_some hmx
              cases mx with
              | none => rfl
              | some m => simp at this
            subst this
            exact op_sliceStr hR hE hx hlo hhi hst ho
          · cases hc
        | false =>
          rw [hst, cond_false] at hc
          split at hc
          · rename_i e he; cases hc; exact op_sliceSl hR hE hx hlo hhi hmx h4 he ho
          · split at hc
            · rename_i n e he; cases hc; exact op_sliceArr hR hE hx hlo hhi hmx h4 he ho
            · cases hc
    · cases hc
  · rename_i t x f
    split at hc
    · rename_i fd x' hf hx
      cases hb : Nat.blt 0 (P.cellsOf fd.type) with
      | false => rw [hb] at hc; cases hc
      | true => rw [hb, cond_true, Option.some.injEq] at hc; subst hc; exact op_fieldAddr hR hE hx hf (blt_iff.1 hb) ho
    · cases hc
  · rename_i t x f
    split at hc
    · rename_i fd x' hf hx
      cases hc
      cases hg : isAggT P fd.type with
      | true => exact op_partN hR hE hx hf hg ho
      | false => exact op_part1 hR hE hx hf hg ho
    · cases hc
  · rename_i t x i
    split at hc
    · rename_i x' i' hx hi
      split at hc
      · rename_i n e he; cases hc; exact op_idxAddrArr hR hE hx hi he ho
      · split at hc
        · rename_i e he; cases hc; exact op_idxAddrSl hR hE hx hi he ho
        · cases hc
    · cases hc
  · rename_i t x i
    split at hc
    · rename_i x' i' hx hi
      split at hc
      · rename_i n e he; cases hc; exact op_idxArr hR hE hx hi he ho
      · cases hst : isStrT P t with
        | false => rw [hst] at hc; cases hc
        | true => rw [hst, cond_true, Option.some.injEq] at hc; subst hc; exact op_idxStr hR hE hx hi hst ho
    · cases hc
  · rename_i x xt t ok
    split at hc
    · cases hc
    · rename_i d z x' hno hd hz hx
      cases hc
      exact op_assertT hR hE hx hd (fun ms q => hno ms q) hz ho
    · cases hc
  · rename_i x i
    cases hx : compOpd P x with
    | none => rw [hx] at hc; cases hc
    | some x' => rw [hx] at hc; cases hc; exact op_extract hR hE hx ho
  · rename_i c
    unfold compCall at hc
    split at hc
    · rename_i f hcl
      split at hc
      · rename_i l hl
        split at hc
        · cases hc; exact op_callV hR hE hm (f := .func f) rfl hl hcl ho
        · rename_i k hk; cases hc; exact op_ext hR hE hm hk hl hcl ho
      · cases hc
    · rename_i f _ hcl
      split at hc
      · rename_i f' l hf hl; cases hc; exact op_callV hR hE hm hf hl hcl ho
      · cases hc
    · rename_i r name hcl
      split at hc
      · rename_i r' l hr hl; cases hc; exact op_invoke hR hE hm hr hl hcl ho
      · cases hc
    · rename_i b hcl
      exact builtin_run hR hE hm hcl hc ho
  · rename_i t
    cases hd : isMapT P t with
    | false => rw [hd] at hc; cases hc
    | true => rw [hd] at hc; cases hc; exact op_mkMap hR hm hd (.inl rfl) ho
  · rename_i t k n
    cases hd : isMapT P t with
    | false => rw [hd] at hc; cases hc
    | true => rw [hd] at hc; cases hc; exact op_mkMap hR hm hd (.inr ⟨k, n, rfl⟩) ho
  · rename_i t m k ok
    split at hc
    · rename_i kk z m' k' hkk hz hm' hk'; cases hc; exact op_lookup hR hE hkk hz hm' hk' ho
    · cases hc
  · rename_i t m k v
    split at hc
    · rename_i kk m' k' v' hkk hm' hk' hv'; cases hc; exact op_update hR hE hkk hm' hk' hv' (.inl ho)
    · cases hc
  · rename_i t m k v
    split at hc
    · rename_i kk m' k' v' hkk hm' hk' hv'; cases hc; exact op_update hR hE hkk hm' hk' hv' (.inr ho)
    · cases hc
  · rename_i t x
    split at hc
    · rename_i x' hx
      cases hst : isStrT P t with
      | true => rw [hst] at hc; cases hc; exact op_rangeStr hR hE hm hx (isStr_underlying hst) ho
      | false =>
        rw [hst, cond_false] at hc
        cases hmt : isMapT P t with
        | true => rw [hmt] at hc; cases hc; exact op_rangeMap hR hE hm hx hmt ho
        | false => rw [hmt] at hc; cases hc
    · cases hc
  · rename_i x
    cases hx : compOpd P x with
    | none => rw [hx] at hc; cases hc
    | some x' => rw [hx] at hc; cases hc; exact op_nextStr hR hE hx ho
  · rename_i x
    cases hx : compOpd P x with
    | none => rw [hx] at hc; cases hc
    | some x' => rw [hx] at hc; cases hc; exact op_nextMap hR hE hx ho
  · rename_i x
    cases hx : compOpd P x with
    | none => rw [hx] at hc; cases hc
    | some x' => rw [hx] at hc; cases hc; exact op_entry hR hE hx ho
  · rename_i c
    split at hc
    · rename_i f hcl
      split at hc
      · rename_i f' l hf hl; cases hc; exact op_defer hR hE hf hl hcl ho
      · cases hc
    · cases hc
  · rename_i x
    cases hx : compOpd P x with
    | none => rw [hx] at hc; cases hc
    | some x' => rw [hx] at hc; cases hc; exact op_panic hR hE hx ho

end

end Go.Proofs.YtialpccieggaoaaGreatDoor.Am

namespace Go.Proofs.YtialpccieggaoaaGreatDoor.Am

def ItemR (P : Program) (φ : Phi) (n : Nat) : Item → Go.Item → Prop
  | .code c, .code k => c = comp P n k
  | .code (.bad _), .inRegion _ _ => True
  | .inBlock i, .inBlock j => i = j
  | .inLoop c, .inLoop k => c = comp P n k
  | .inScope c, .inScope k => c = comp P n k
  | .ops l, .inRegion ops idx => l = idx.map (fun i => compOper P n ops 0 (ops.getD i default)) ∧ ∀ i ∈ idx, i < ops.size
  | .beginRound, .beginRound => True
  | .inRange l, .inRangeFunc b => φ l 0 = some (b, 0, 0)
  | .endRange l, .endRangeFunc b => φ l 0 = some (b, 0, 0)
  | _, _ => False

inductive ItemsR (P : Program) (φ : Phi) (n : Nat) : List Item → List Go.Item → Prop where
  | nil : ItemsR P φ n [] []
  | cons {x : Item} {y : Go.Item} {l : List Item} {r : List Go.Item} (h : ItemR P φ n x y) (t : ItemsR P φ n l r) : ItemsR P φ n (x :: l) (y :: r)

inductive DefsR (φ : Phi) : List AD → List Deferred → Prop where
  | nil : DefsR φ [] []
  | mark {id : Pos} {b : Nat} {l : List AD} {r : List Deferred} (h : φ id 0 = some (b, 0, 0)) (t : DefsR φ l r) : DefsR φ (.mark id :: l) ({ target := .collected b, args := #[] } :: r)
  | call {f : FuncId} {args : List AV} {d : Deferred} {l : List AD} {r : List Deferred} (h : DefR φ f args d) (t : DefsR φ l r) : DefsR φ (.call f args :: l) (d :: r)

def ModeR (φ : Phi) : Md → FrameMode → Prop
  | .run, .run => True
  | .ret, .returning => True
  | .pan v r, .panicking [e] => Rel φ v e.v ∧ e.recovered = r ∧ e.goexit = false
  | _, _ => False

theorem ModeR.mono {φ ψ : Phi} (hle : Le φ ψ) {x : Md} {y : FrameMode} (h : ModeR φ x y) : ModeR ψ x y := by
  unfold ModeR at h ⊢
  split at h
  · trivial
  · trivial
  · exact ⟨h.1.mono hle, h.2⟩
  · exact h.elim

def RoundR (φ : Phi) : Option Pos → Option Nat → Prop
  | none, none => True
  | some l, some b => φ l 0 = some (b, 0, 0)
  | _, _ => False

/-- The slots of a frame; of one that does not run: those that are known. -/
def EnvM (φ : Phi) : Md → T AV → Array Value → Prop
  | .run, env, tmps => EnvR φ env tmps
  | _, env, tmps => ∀ (t : Nat) (v : AV), T.get (Pos.ofNat t) env = some v → Rel φ v (tmps.getD t Go.undef)

theorem EnvR.at {φ : Phi} {env : T AV} {tmps : Array Value} (h : EnvR φ env tmps) {t : Nat} {v : AV} (e : T.get (Pos.ofNat t) env = some v) : Rel φ v (tmps.getD t Go.undef) := by
  have := h t
  simp only [ev, e] at this
  exact this

theorem EnvM.at {φ : Phi} {m : Md} {env : T AV} {tmps : Array Value} (h : EnvM φ m env tmps) {t : Nat} {v : AV} (e : T.get (Pos.ofNat t) env = some v) : Rel φ v (tmps.getD t Go.undef) := by
  cases m with
  | run => exact EnvR.at h e
  | ret => exact h t v e
  | pan _ _ => exact h t v e

theorem EnvM.pan {φ : Phi} {m : Md} {env : T AV} {tmps : Array Value} (h : EnvM φ m env tmps) (v : AV) (r : Bool) : EnvM φ (.pan v r) env tmps := fun _ _ e => h.at e

theorem EnvM.ret {φ : Phi} {m : Md} {env : T AV} {tmps : Array Value} (h : EnvM φ m env tmps) : EnvM φ .ret env tmps := fun _ _ e => h.at e

theorem EnvM.run {φ : Phi} {m : Md} {env : T AV} {tmps : Array Value} (h : EnvM φ m env tmps) (hm : m = .run) : EnvR φ env tmps := by subst hm; exact h

theorem EnvM.mono {φ ψ : Phi} (hle : Le φ ψ) {m : Md} {env : T AV} {tmps : Array Value} (h : EnvM φ m env tmps) : EnvM ψ m env tmps := by
  cases m with
  | run => exact EnvR.mono hle h
  | ret => exact fun t v e => (h t v e).mono hle
  | pan _ _ => exact fun t v e => (h t v e).mono hle

theorem EnvM.set {φ : Phi} {m : Md} {env : T AV} {tmps : Array Value} (h : EnvM φ m env tmps) {d : Nat} {v : AV} {x : Value} (hv : Rel φ v x) (hd : d < tmps.size) :
    EnvM φ m (T.set (Pos.ofNat d) (some v) env) (tmps.setIfInBounds d x) := by
  have weak : ∀ (t : Nat) (u : AV), T.get (Pos.ofNat t) (T.set (Pos.ofNat d) (some v) env) = some u → Rel φ u ((tmps.setIfInBounds d x).getD t Go.undef) := by
    intro t u e
    rw [T.get_set] at e
    by_cases c : t = d
    · subst c
      rw [if_pos rfl] at e
      cases e
      rw [Array.getD_eq_getD_getElem?, Array.getElem?_setIfInBounds_self_of_lt hd]
      exact hv
    · rw [if_neg fun q => c (Pos.ofNat_inj q)] at e
      rw [Array.getD_eq_getD_getElem?, Array.getElem?_setIfInBounds_ne (Ne.symm c), ← Array.getD_eq_getD_getElem?]
      exact h.at e
  cases m with
  | run => exact EnvR.set h hv hd
  | ret => exact weak
  | pan _ _ => exact weak

structure FrR (P : Program) (φ : Phi) (fr : Fr) (g : Frame) : Prop where
  fn : g.fn = fr.fn
  env : EnvM φ fr.mode fr.env g.tmps
  size : numT P fr.fn ≤ g.tmps.size
  todo : ItemsR P φ (numT P fr.fn) fr.todo g.todo
  defers : DefsR φ fr.defers g.defers
  mode : ModeR φ fr.mode g.mode
  kind : g.kind = if fr.dk = true ∧ fr.round = none then .deferred else .normal
  round : RoundR φ fr.round g.roundOf

inductive FrsR (P : Program) (φ : Phi) : List Fr → List Frame → Prop where
  | nil : FrsR P φ [] []
  | cons {x : Fr} {y : Frame} {l : List Fr} {r : List Frame} (h : FrR P φ x y) (t : FrsR P φ l r) : FrsR P φ (x :: l) (y :: r)

theorem ItemR.mono {P : Program} {φ ψ : Phi} (hle : Le φ ψ) {n : Nat} {x : Item} {y : Go.Item} (h : ItemR P φ n x y) : ItemR P ψ n x y := by
  cases x <;> cases y <;> first | exact h | (exact hle _ _ _ h) | (rename_i c _ _; cases c <;> first | trivial | exact h.elim)

/-- What stands for a region that was left by a panic. -/
theorem ItemR.code_region {P : Program} {φ : Phi} {n : Nat} {c : C} {ops : Array Oper} {idx : List Nat} (h : ItemR P φ n (.code c) (.inRegion ops idx)) : ∃ why, c = .bad why := by
  cases c <;> first | exact ⟨_, rfl⟩ | exact h.elim

theorem ItemsR.mono {P : Program} {φ ψ : Phi} (hle : Le φ ψ) {n : Nat} {l : List Item} {r : List Go.Item} (h : ItemsR P φ n l r) : ItemsR P ψ n l r := by
  induction h with
  | nil => exact .nil
  | cons h _ ih => exact .cons (h.mono hle) ih

theorem DefR.mono {φ ψ : Phi} (hle : Le φ ψ) {f : FuncId} {args : List AV} {d : Deferred} (h : DefR φ f args d) : DefR ψ f args d :=
  let ⟨Y, h1, h2⟩ := h
  ⟨Y, h1, h2.mono hle⟩

theorem DefsR.mono {φ ψ : Phi} (hle : Le φ ψ) {l : List AD} {r : List Deferred} (h : DefsR φ l r) : DefsR ψ l r := by
  induction h with
  | nil => exact .nil
  | mark h _ ih => exact .mark (hle _ _ _ h) ih
  | call h _ ih => exact .call (h.mono hle) ih

theorem RoundR.mono {φ ψ : Phi} (hle : Le φ ψ) {x : Option Pos} {y : Option Nat} (h : RoundR φ x y) : RoundR ψ x y := by
  cases x <;> cases y <;> first | exact h | (exact hle _ _ _ h)

theorem FrR.mono {P : Program} {φ ψ : Phi} (hle : Le φ ψ) {fr : Fr} {g : Frame} (h : FrR P φ fr g) : FrR P ψ fr g :=
  ⟨h.fn, h.env.mono hle, h.size, h.todo.mono hle, h.defers.mono hle, h.mode.mono hle, h.kind, h.round.mono hle⟩

theorem FrsR.mono {P : Program} {φ ψ : Phi} (hle : Le φ ψ) {l : List Fr} {r : List Frame} (h : FrsR P φ l r) : FrsR P ψ l r := by
  induction h with
  | nil => exact .nil
  | cons h _ ih => exact .cons (h.mono hle) ih

/-- The bottom frame. -/
def bot (s : St) : Fr := (s.callers.getLast?).getD s.cur

/-- What the end of a run says of the model's machine. -/
def DoneR (P : Program) (c0 : List Frame) (φ : Phi) (s : St) (g : Frame) (cs : List Frame) (w : World) (v : AV) (h' : Hp) : Prop :=
  ∃ w' φ' x, HR P φ' h' w' ∧ Adv s.hp w φ h' w' φ' ∧ Rel φ' v x ∧
      (∀ c cs1, c0 = c :: cs1 → Steps P (lone g (cs ++ c0) w) (lone (c.finish x) cs1 w')) ∧
      ((bot s).round = none → ∃ g', Steps P (lone g (cs ++ c0) w) (lone g' c0 w') ∧ g'.fn = (bot s).fn ∧ g'.leaving P w' (.returned x))

/-- What the end by a panic says of the model's machine. -/
def PanR (P : Program) (c0 : List Frame) (φ : Phi) (s : St) (g : Frame) (cs : List Frame) (w : World) (v : AV) (h' : Hp) : Prop :=
  ∃ w' φ' x, HR P φ' h' w' ∧ Adv s.hp w φ h' w' φ' ∧ Rel φ' v x ∧ ∀ c cs1, c0 = c :: cs1 → Steps P (lone g (cs ++ c0) w) (lone (c.raise [{ v := x, recovered := false }]) cs1 w')

/-- What a step, or many, says of the model's machine, whose frames lie over the frames c0. -/
def OutR (P : Program) (c0 : List Frame) (φ : Phi) (s : St) (g : Frame) (cs : List Frame) (w : World) : Out → Prop
  | .next s' => ∃ g' cs' w' φ', Steps P (lone g (cs ++ c0) w) (lone g' (cs' ++ c0) w') ∧ HR P φ' s'.hp w' ∧ FrR P φ' s'.cur g' ∧ FrsR P φ' s'.callers cs' ∧ Adv s.hp w φ s'.hp w' φ' ∧
      (bot s').fn = (bot s).fn ∧ (bot s').round = (bot s).round
  | .done v h' => DoneR P c0 φ s g cs w v h'
  | .many l => ∃ v h', (v, h') ∈ l ∧ DoneR P c0 φ s g cs w v h'
  | .pan v h' => PanR P c0 φ s g cs w v h'
  | .fail _ => True

/-- A run that was made before says what the model's machine does. -/
def Sound (P : Program) (rec : St → Out) : Prop :=
  ∀ (s : St) (φ : Phi) (w : World) (g : Frame) (cs c0 : List Frame), HR P φ s.hp w → s.hp.lim = 0 → FrR P φ s.cur g → FrsR P φ s.callers cs → OutR P c0 φ s g cs w (rec s)

/-- A frame that runs, as the step lemmas spell it. -/
theorem frame_run {g : Frame} (h : g.mode = .run) : g = g.atR ⟨g.tmps, g.defers⟩ g.todo := by
  cases g; simp only at h; subst h; rfl

theorem bot_cons (c : Fr) (cs : List Fr) (x : Fr) (h : Hp) (h' : Hp) : bot ⟨x, c :: cs, h⟩ = bot ⟨c, cs, h'⟩ := by
  cases cs with
  | nil => rfl
  | cons d ds =>
    simp only [bot, List.getLast?_cons_cons]
    cases hq : (d :: ds).getLast? with
    | none => simp at hq
    | some y => rfl

theorem bot_same {fr fr' : Fr} (f1 : fr'.fn = fr.fn) (f2 : fr'.round = fr.round) (callers : List Fr) (h h' : Hp) : (bot ⟨fr', callers, h'⟩).fn = (bot ⟨fr, callers, h⟩).fn ∧ (bot ⟨fr', callers, h'⟩).round = (bot ⟨fr, callers, h⟩).round := by
  cases callers with
  | nil => exact ⟨f1, f2⟩
  | cons c l => simp [bot, List.getLast?_cons]

theorem ModeR.pan {φ : Phi} {v : AV} {r : Bool} {m : FrameMode} (h : ModeR φ (.pan v r) m) : ∃ x, m = .panicking [{ v := x, recovered := r, goexit := false }] ∧ Rel φ v x := by
  cases m with
  | run => exact h.elim
  | returning => exact h.elim
  | panicking l =>
    cases l with
    | nil => exact h.elim
    | cons e t =>
      cases t with
      | cons _ _ => exact h.elim
      | nil =>
        obtain ⟨x, rr, ge⟩ := e
        obtain ⟨h1, h2, h3⟩ := h
        have h2 : rr = r := h2
        have h3 : ge = false := h3
        subst h2; subst h3
        exact ⟨x, rfl, h1⟩

section
variable {P : Program} {φ : Phi} {h : Hp} {w : World} {fr : Fr} {cs' : List Fr} {g : Frame} {cs c0 : List Frame}

/-- One step of the model's machine, the heap as it was. -/
theorem OutR.plain {fr' : Fr} {g' : Frame} (hR : HR P φ h w) (hF : FrR P φ fr' g') (hC : FrsR P φ cs' cs) (hs : Steps P (lone g (cs ++ c0) w) (lone g' (cs ++ c0) w)) (hfn : fr'.fn = fr.fn) (hro : fr'.round = fr.round) :
    OutR P c0 φ ⟨fr, cs', h⟩ g cs w (.next ⟨fr', cs', h⟩) := by
  refine ⟨g', cs, w, φ, hs, hR, hF, hC, Adv.refl h w φ, ?_, ?_⟩
  · cases cs' with
    | nil => exact hfn
    | cons c l => simp [bot, List.getLast?_cons]
  · cases cs' with
    | nil => exact hro
    | cons c l => simp [bot, List.getLast?_cons]

theorem FrR.setTodo {k : List Item} {k' : List Go.Item} (hF : FrR P φ fr g) (ht : ItemsR P φ (numT P fr.fn) k k') (hm : fr.mode = .run) : FrR P φ { fr with todo := k } (g.atR ⟨g.tmps, g.defers⟩ k') :=
  ⟨hF.fn, hF.env, hF.size, ht, hF.defers, (by show ModeR φ fr.mode .run; rw [hm]; trivial), hF.kind, hF.round⟩

/-- A step that turns what is to be done, and nothing else. -/
theorem OutR.to {x : Go.Item} {k0 : List Go.Item} {k : List Item} {k' : List Go.Item} (hR : HR P φ h w) (hF : FrR P φ fr g) (hC : FrsR P φ cs' cs) (hm : fr.mode = .run) (hg : g.todo = x :: k0)
    (ht : ItemsR P φ (numT P fr.fn) k k') (hs : ∀ (b : Frame) (a : Act) (cs : List Frame), b = g → a = ⟨g.tmps, g.defers⟩ → Go.step P (lone (b.atR a (x :: k0)) cs w) = .next (lone (b.atR a k') cs w)) :
    OutR P c0 φ ⟨fr, cs', h⟩ g cs w (.next ⟨{ fr with todo := k }, cs', h⟩) := by
  have hmode : g.mode = .run := by
    have := hF.mode
    rw [hm] at this
    cases hgm : g.mode <;> rw [hgm] at this <;> first | rfl | (cases this)
  refine OutR.plain hR (hF.setTodo ht hm) hC ?_ rfl rfl
  have e := frame_run hmode
  rw [hg] at e
  have := hs g ⟨g.tmps, g.defers⟩ (cs ++ c0) rfl rfl
  rw [← e] at this
  exact .one this

theorem findL_spec {P : Program} {n : Nat} (c : Code) (l : Nat) : findL (comp P n c) l = (findLabel c l).map (comp P n) := by
  induction c with
  | seq a b iha ihb =>
    show (match findL (comp P n a) l with | some r => some (C.seq r (comp P n b)) | none => findL (comp P n b) l) = _
    rw [iha, ihb]
    have e : findLabel (.seq a b) l = (match findLabel a l with | some rest => some (Code.seq rest b) | none => findLabel b l) := by rw [findLabel]; cases findLabel a l <;> rfl
    rw [e]
    cases findLabel a l <;> rfl
  | label l' =>
    show (bif Nat.beq l' l then some C.skip else none) = _
    unfold findLabel
    by_cases e : l' = l
    · subst e; simp [comp]
    · rw [beq_false.2 e, cond_false, if_neg (by simpa using e)]; rfl
  | region pos ops d => cases d with
    | false => rfl
    | true =>
      show findL (compDrawn P n ops) l = none
      unfold compDrawn
      cases okModes P ops with
      | false => rfl
      | true =>
        simp only [cond_true]
        cases okRegion _ <;> rfl
  | cond x a b _ _ => show findL (match compOpd P x with | some c => .cond c (comp P n a) (comp P n b) | none => .bad "cond") l = none; cases compOpd P x <;> rfl
  | rangeFunc f ps a b _ _ =>
    simp only [comp]
    cases compOpd P f with
    | none => rfl
    | some f' => cases h : (ps.toList.all fun t => Nat.blt t n) <;> simp only [h, cond_true, cond_false] <;> rfl
  | _ => rfl

theorem gotoA_spec {P : Program} {φ : Phi} {n : Nat} {k : List Item} {k' : List Go.Item} (h : ItemsR P φ n k k') (l : Nat) : ∀ r, gotoA l k = some r → ∃ r', gotoIn l k' = some r' ∧ ItemsR P φ n r r' := by
  induction h with
  | nil => exact fun r e => by cases e
  | @cons x y k k' hx ht ih =>
    cases x <;> cases y <;> first | (cases hx; done) | skip
    case inScope.inScope c c' =>
      have hx : c = comp P n c' := hx
      subst hx
      intro r e
      unfold gotoA at e
      simp only [findL_spec] at e
      unfold gotoIn
      cases hf : findLabel c' l with
      | none => rw [hf] at e; exact ih r e
      | some q =>
        rw [hf] at e
        cases e
        exact ⟨_, rfl, .cons (y := .code q) rfl (.cons (y := .inScope c') rfl ht)⟩
    all_goals (intro r e; unfold gotoA at e; unfold gotoIn; exact ih r e)

theorem exitA_spec {n : Nat} {k : List Item} {k' : List Go.Item} (h : ItemsR P φ n k k') (id : Nat) :
    (∀ r, exitA id k = some r → ∃ r', exitTo id k' = some r' ∧ ItemsR P φ n r r') ∧ (exitA id k = none → exitTo id k' = none) := by
  induction h with
  | nil => exact ⟨fun r e => (by cases e), fun _ => rfl⟩
  | @cons x y l r hx ht ih =>
    cases x <;> cases y <;> first | (cases hx; done) | skip
    case inBlock.inBlock i j =>
      have hij : i = j := hx
      subst hij
      unfold exitA exitTo
      by_cases e : i = id
      · subst e
        simp only [beq_iff.2 rfl, cond_true, BEq.rfl, if_true]
        exact ⟨fun r e => (by cases e; exact ⟨_, rfl, ht⟩), fun e => (by cases e)⟩
      · have e' : (i == id) = false := by simpa using e
        simp only [beq_false.2 e, cond_false, e', Bool.false_eq_true, if_false]
        exact ih
    all_goals (unfold exitA exitTo; exact ih)
end

section
variable {P : Program} {φ φ' : Phi} {w w' : World} {g g' : Frame} {cs cs' c0 : List Frame} {s s' : St}

theorem DoneR.then {v : AV} {h'' : Hp} (hR : HR P φ s.hp w) (hz : s.hp.lim = 0) (hs : Steps P (lone g (cs ++ c0) w) (lone g' (cs' ++ c0) w')) (hA : Adv s.hp w φ s'.hp w' φ') (b1 : (bot s').fn = (bot s).fn) (b2 : (bot s').round = (bot s).round)
    (h : DoneR P c0 φ' s' g' cs' w' v h'') : DoneR P c0 φ s g cs w v h'' := by
  obtain ⟨w'', φ'', x, q1, q2, q3, q4, q5⟩ := h
  refine ⟨w'', φ'', x, q1, hA.trans hR q2 (Room.was0 hz), q3, fun c cs1 e => hs.trans (q4 c cs1 e), fun e => ?_⟩
  obtain ⟨g'', r1, r2, r3⟩ := q5 (b2.trans e)
  exact ⟨g'', hs.trans r1, r2.trans b1, r3⟩

/-- One run behind another. -/
theorem OutR.then {r : Out} (hR : HR P φ s.hp w) (hz : s.hp.lim = 0) (hs : Steps P (lone g (cs ++ c0) w) (lone g' (cs' ++ c0) w')) (hA : Adv s.hp w φ s'.hp w' φ') (b1 : (bot s').fn = (bot s).fn) (b2 : (bot s').round = (bot s).round)
    (h : OutR P c0 φ' s' g' cs' w' r) : OutR P c0 φ s g cs w r := by
  cases r with
  | fail why => trivial
  | next s'' =>
    obtain ⟨g'', cs'', w'', φ'', q1, q2, q3, q4, q5, q6, q7⟩ := h
    exact ⟨g'', cs'', w'', φ'', hs.trans q1, q2, q3, q4, hA.trans hR q5 (Room.was0 hz), q6.trans b1, q7.trans b2⟩
  | done v h'' => exact DoneR.then hR hz hs hA b1 b2 h
  | many l =>
    obtain ⟨v, h'', hm, q⟩ := h
    exact ⟨v, h'', hm, DoneR.then hR hz hs hA b1 b2 q⟩
  | pan v h'' =>
    obtain ⟨w'', φ'', x, q1, q2, q3, q4⟩ := h
    exact ⟨w'', φ'', x, q1, hA.trans hR q2 (Room.was0 hz), q3, fun c cs1 e => hs.trans (q4 c cs1 e)⟩
end

end Go.Proofs.YtialpccieggaoaaGreatDoor.Am
