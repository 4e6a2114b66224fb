import Derived.Shelf.SlSortCmp.WholeK
import Derived.Test.YtjhgembcdndmkaaGreatDoorAmJ
/- THE ABSTRACT MACHINE, part K: a machine over values without block numbers, and the proof that the model's machine does what it does. No condition. -/
set_option linter.unusedSimpArgs false
set_option linter.unusedVariables false
namespace Go.Proofs.YtjhgembcdndmkaaGreatDoor.Am
open Go.RowKit Go.Sort Go.Proofs
theorem grow_of_below {w w' : World} (hb : Go.RowKit.Below w.heap.size w w') (hd : w.drawn ≤ w'.drawn) : ∃ q os, w' = grow (w.drewN q) os := by
  refine ⟨w'.drawn - w.drawn, w'.heap.extract w.heap.size w'.heap.size, ?_⟩
  obtain ⟨h1, h2, h3, h4, h5⟩ := hb
  obtain ⟨heap, tape, drawn, os, output⟩ := w
  obtain ⟨heap', tape', drawn', os', output'⟩ := w'
  simp only at h1 h2 h3 h4 h5 hd
  subst h1 h2 h3
  unfold grow World.drewN
  dsimp only
  congr 1
  · apply Array.ext_getElem?
    intro i
    by_cases c : i < heap.size
    · rw [h5 i c, Array.getElem?_append_left c]
    · rw [Array.getElem?_append_right (by omega), Array.getElem?_extract]
      split
      · congr 1; omega
      · rw [Array.getElem?_eq_none (by omega)]
  · omega
noncomputable def bareH (P : Program) : Hp := ⟨.e, Pos.ofNat (globN P), 0, 0⟩
theorem bareH_no (P : Program) (id : Pos) : ¬ Nonro (bareH P) id := fun ⟨b, e, _⟩ => by
  change T.get id .e = some b at e
  rw [T.get_e] at e
  cases e
theorem bare_calls {P : Program} {f : FuncId} {args : List AV} {kk : IntKind} {r : Int} (a : AmFn P f args (bareH P) (.int kk r) (bareH P)) {xs : Array Value} (hx : ∀ φ, RelL φ args xs.toList) {w : World} (hw : globN P ≤ w.heap.size) :
    Calls P f xs w fun e w' => e = .returned (.int kk r) ∧ ∃ q os, w' = grow (w.drewN q) os := by
  have c := a.calls (start_rel hw) rfl (hx _)
  refine (calls_drawn (c.mono fun e w' ⟨φ', x, he, hv, _, hA⟩ => ⟨⟨x, he⟩, (⟨φ', x, he, hv, hA.below (bareH_no P)⟩ : ∃ φ' x, e = .returned x ∧ Rel φ' (.int kk r) x ∧ Go.RowKit.Below w.heap.size w w')⟩)).mono fun e w' ⟨⟨φ', x, he, hv, hb⟩, hd⟩ => ?_
  cases hv
  exact ⟨he, grow_of_below hb hd⟩
section
variable {α : Type}
theorem relL_flat {φ : Phi} {enc : α → List Value} {ea : α → List AV} (hrel : ∀ φ x, RelL φ (ea x) (enc x)) : ∀ l : List α, RelL φ (l.flatMap ea) (l.flatMap enc)
  | [] => .nil
  | x :: l => by rw [List.flatMap_cons, List.flatMap_cons]; exact (hrel φ x).append (relL_flat hrel l)
theorem relL_flat_inv {φ : Phi} {enc : α → List Value} {ea : α → List AV} (hinv : ∀ φ x l, RelL φ (ea x) l → l = enc x) : ∀ (l : List α) (r : List Value), RelL φ (l.flatMap ea) r → r = l.flatMap enc
  | [], r, h => by cases h; rfl
  | x :: l, r, h => by
    rw [List.flatMap_cons] at h ⊢
    have a := h.take (ea x).length
    have b := h.drop (ea x).length
    rw [List.take_left] at a
    rw [List.drop_left] at b
    rw [← List.take_append_drop (ea x).length r, hinv _ _ _ a, relL_flat_inv hinv l _ b]
theorem flat_len {β : Type} {f : α → List β} {k : Nat} (h : ∀ x, (f x).length = k) : ∀ l : List α, (l.flatMap f).length = l.length * k
  | [] => by simp
  | x :: l => by rw [List.flatMap_cons, List.length_append, flat_len h l, h]; simp [Nat.add_mul, Nat.add_comm]
end
variable {P : Program} {ρ : Go.Shelf.Ren} {α : Type} [Inhabited α]
theorem cmp_lays {enc : α → List Value} {ea : α → List AV} {k : Nat} {cf : α → α → Int} {g : FuncId} (hg : ∀ x y, AmFn P g [.agg (ea x), .agg (ea y)] (bareH P) (.int .i64 (cf x y)) (bareH P))
    (hrel : ∀ φ x, RelL φ (ea x) (enc x)) {blk off size : Nat} {w : World} (hw : globN P ≤ w.heap.size) : CmpLays P g #[] enc k cf blk off size w := fun m os dk _ x y => by
  refine bare_calls (hg x y) (fun φ => .cons (.agg (by simpa using hrel φ x)) (.cons (.agg (by simpa using hrel φ y)) .nil)) ?_
  unfold sortWorldK grow Go.Sort.putRowK Go.Sort.putRow mapBlock Go.Sort.ahead
  simp only [Array.size_append, Array.size_modify]
  omega
theorem flatE_list (enc : α → List Value) (k : Nat) (hk : ∀ x, (enc x).length = k) (d : Array α) : (Go.Sort.flatK enc k d).toList = d.toList.flatMap enc := by
  have key : ∀ l : List α, (List.range (l.length * k)).map (fun t => (enc l[t / k]!)[t % k]!) = l.flatMap enc := by
    intro l
    induction l with
    | nil => simp
    | cons x l ih =>
      rw [List.flatMap_cons, ← ih]
      rcases Nat.eq_zero_or_pos k with z | z
      · subst z
        have : enc x = [] := List.length_eq_zero_iff.1 (hk x)
        simp [this]
      · rw [show (x :: l).length * k = k + l.length * k by simp [Nat.add_mul, Nat.add_comm], List.range_add, List.map_append, List.map_map]
        congr 1
        · apply List.ext_getElem
          · simp [hk]
          · intro i h1 h2
            simp only [List.length_map, List.length_range] at h1
            simp only [List.getElem_map, List.getElem_range, Nat.div_eq_of_lt h1, Nat.mod_eq_of_lt h1]
            simp [getElem!_pos, hk, h1]
        · apply List.map_congr_left
          intro t _
          simp only [Function.comp]
          rw [Nat.add_div_left _ z, Nat.add_mod_left]
          simp
  rw [← key]
  unfold Go.Sort.flatK
  rw [Array.toList_map, Array.toList_range]
  refine List.map_congr_left fun t _ => ?_
  have e : d.toList[t / k]! = d[t / k]! := by rw [← Array.getElem!_toList]
  rw [e]
noncomputable def sorted (cf : α → α → Int) (l : List α) : List α := (pdq (ltOf cf) l.toArray 0 l.length (Lib.bitLen l.length) true true).toList
theorem sortWorldK_size {enc : α → List Value} {k : Nat} {w : World} {blk off n : Nat} {dk : Array α} {os : Array Obj} : w.heap.size ≤ (sortWorldK enc k w blk off n dk os).heap.size := by
  unfold sortWorldK grow Go.Sort.putRowK Go.Sort.putRow mapBlock Go.Sort.ahead
  simp only [Array.size_append, Array.size_modify]
  omega
theorem sortWorldK_block {enc : α → List Value} {k : Nat} {w : World} {blk off n : Nat} {dk : Array α} {os : Array Obj} {C : Array Value} {el : TypeId} {fr : Nat × Nat} (e : w.heap[blk]? = some (.cells C el fr)) :
    (sortWorldK enc k w blk off n dk os).heap[blk]? = some (.cells (Go.Sort.putCells _root_.id off (Go.Sort.flatK enc k dk) C) el fr) := by
  have hb : blk < w.heap.size := (Array.getElem?_eq_some_iff.1 e).1
  unfold sortWorldK grow Go.Sort.putRowK Go.Sort.putRow mapBlock Go.Sort.ahead
  dsimp only
  rw [Array.getElem?_append_left (by rw [Array.size_modify]; exact hb), Array.getElem?_modify, if_pos rfl, e]
  rfl
theorem sortWorldK_other {enc : α → List Value} {k : Nat} {w : World} {blk off n : Nat} {dk : Array α} {os : Array Obj} {y : Nat} (hy : y < w.heap.size) (ne : y ≠ blk) : (sortWorldK enc k w blk off n dk os).heap[y]? = w.heap[y]? := by
  unfold sortWorldK grow Go.Sort.putRowK Go.Sort.putRow mapBlock Go.Sort.ahead
  dsimp only
  rw [Array.getElem?_append_left (by rw [Array.size_modify]; exact hy), Array.getElem?_modify, if_neg fun q => ne q.symm]
theorem sorted_perm (cf : α → α → Int) (hO : SWO (ltOf cf)) (l : List α) : (sorted cf l).Perm l ∧ ∀ i j : Nat, i < j → j < l.length → ltOf cf (sorted cf l)[j]! (sorted cf l)[i]! = false := by
  obtain ⟨⟨a1, _, a2⟩, a3⟩ := pdq_sorts (ltOf cf) hO l.toArray 0 l.toArray.size (Lib.bitLen l.toArray.size) true true (Nat.zero_le _) (Nat.le_refl _) (Or.inl rfl)
  have e1 : (pdq (ltOf cf) l.toArray 0 l.toArray.size (Lib.bitLen l.toArray.size) true true).toList = sorted cf l := rfl
  constructor
  · rw [← e1]
    rw [show l.toArray.extract 0 l.toArray.size = l.toArray from Array.extract_size] at a2
    generalize pdq (ltOf cf) l.toArray 0 l.toArray.size (Lib.bitLen l.toArray.size) true true = D at *
    rw [← a1, Array.extract_size] at a2
    exact a2
  · intro i j hij hj
    have := a3 i j (Nat.zero_le _) hij (by simpa using hj)
    rw [← Array.getElem!_toList, ← Array.getElem!_toList, e1] at this
    exact this
theorem sort_kit (L : SlLaysF0.n6 P ρ) (k : Nat) (k0 : 0 < k) (aE : ∀ w, (isAgg (ρ.t 24)).run P w = .ok true w) (zE : ∀ w, (Go.sizeOf (ρ.t 24)).run P w = .ok k w) (enc : α → List Value) (ea : α → List AV) (hk : ∀ x, (enc x).length = k) (h1 : ∀ x, ∀ v ∈ enc x, v.oneCell' = true)
    (hrel : ∀ φ x, RelL φ (ea x) (enc x)) (hinv : ∀ φ x l, RelL φ (ea x) l → l = enc x) (cf : α → α → Int) (hO : SWO (ltOf cf)) (g : Nat) (eg : ∀ args w, (callFunc g args).run P w = .ok (.enter g args) w)
    (hg : ∀ x y, AmFn P g [.agg (ea x), .agg (ea y)] (bareH P) (.int .i64 (cf x y)) (bareH P)) {h : Hp} {id : Pos} {cap : Nat} {ex : Bool} {d : List α} {pre post : List AV} (hd : 0 < d.length) (hsz : d.length < 4611686018427387904) (hgro : Gro h id 0 (pre ++ (d.flatMap ea ++ post))) :
    KitH P (ρ.f 6) [.sl id 0 pre.length d.length cap ex k, .fn (.func g) [] []] h (.tup []) (updH h id (pre ++ ((sorted cf d).flatMap ea ++ post))) := by
  intro φ w xs hR hz hx
  obtain ⟨X, F, rfl, hX, hF⟩ : ∃ X F, xs = #[X, F] ∧ Rel φ (.sl id 0 pre.length d.length cap ex k) X ∧ Rel φ (.fn (.func g) [] []) F := by
    cases xs with
    | mk l =>
      cases hx with
      | cons a r => cases r with
        | cons b r => cases r with
          | nil => exact ⟨_, _, rfl, a, b⟩
  have hgro' := hgro
  obtain ⟨_, ser, c, hi, m, fz, e, hw, hL⟩ := hgro'
  cases hF with
  | @fn _ _ _ first captured f1 f2 =>
  have q1 : first = #[] := by cases first with | mk l => cases f1; rfl
  have q2 : captured = #[] := by cases captured with | mk l => cases f2; rfl
  subst q1 q2
  generalize hdl : d.length = dl at hX
  cases hX with
  | sl0 => omega
  | @sl _ _ _ _ _ _ _ b s N a cc p1 p2 p3 p4 p5 p6 p7 p8 =>
  have hn : Nonro h id := ⟨_, e, fun _ _ _ _ _ _ _ _ q => by cases q; rfl⟩
  obtain ⟨⟨_, b2, _, b4, b5, b6⟩, _⟩ := hR.blk id _ e
  obtain ⟨b', s', N', C, el, fr, e1, e2, e3, e4, e5⟩ := b6 0 b2 (Nat.le_refl _)
  rw [p1] at e1
  cases e1
  obtain ⟨o1, o2⟩ := p8 (by omega)
  have hcs : c.size = (pre ++ (d.flatMap ea ++ post)).length := by rw [← Cells.toL_length hw, hL]
  have hea : ∀ x, (ea x).length = k := fun x => by rw [(hrel φ x).length, hk]
  have hlen : ∀ l : List α, (l.flatMap ea).length = l.length * k := flat_len hea
  have hget : ∀ (i : Nat) (v : AV), (pre ++ (d.flatMap ea ++ post))[i]? = some v → ∃ (o : Nat) (x : Value), (o : Int) = i + s ∧ C[o]? = some x ∧ Rel φ v x := fun i v q => by
    have hi' := (List.getElem?_eq_some_iff.1 q).1
    exact e5 i v (Nat.zero_le _) (by rw [if_pos rfl, hcs]; exact hi') (by rw [hL]; exact q)
  obtain ⟨blk, off, spot⟩ := a
  dsimp only at p2 p3 o1 o2
  subst p2 p3
  have hmid : ∀ j, j < d.length * k → ∃ x, C[off + j]? = some x ∧ ∃ v, (d.flatMap ea)[j]? = some v ∧ Rel φ v x := fun j hj => by
    have hj' : j < (d.flatMap ea).length := by rw [hlen]; exact hj
    obtain ⟨o, x, g1, g2, g3⟩ := hget (pre.length + j) _ (by rw [List.getElem?_append_right (by omega), Nat.add_sub_cancel_left, List.getElem?_append_left hj']; exact List.getElem?_eq_getElem hj')
    have : o = off + j := by omega
    subst this
    exact ⟨x, g2, (d.flatMap ea)[j], List.getElem?_eq_getElem hj', g3⟩
  have hrow : (List.range (d.length * k)).map (fun j => C[off + j]!) = d.flatMap enc := by
    refine relL_flat_inv hinv d _ (RelL.of_get (φ := φ) (by rw [hlen]; simp) fun j v x q1 q2 => ?_)
    have hj : j < d.length * k := by rw [← hlen]; exact (List.getElem?_eq_some_iff.1 q1).1
    obtain ⟨y, g2, v', g3, g4⟩ := hmid j hj
    rw [q1] at g3
    cases g3
    rw [List.getElem?_map, List.getElem?_range hj] at q2
    simp only [Option.map_some, Option.some.injEq] at q2
    rw [getElem!_def, g2] at q2
    subst q2
    exact g4
  have hcell : ∀ j, j < d.length * k → C[off + j]? = (d.flatMap enc)[j]? := fun j hj => by
    obtain ⟨y, g2, _⟩ := hmid j hj
    rw [← hrow, List.getElem?_map, List.getElem?_range hj, g2, Option.map_some, getElem!_def, g2]
  have hfl : ∀ l : List α, (Go.Sort.flatK enc k l.toArray).toList = l.flatMap enc := fun l => flatE_list enc k hk l.toArray
  have hfs : ∀ l : List α, (l.flatMap enc).length = l.length * k := flat_len hk
  have hth := e4 rfl
  have hblk : blk < w.heap.size := hR.inb _ _ _ _ _ p1
  have hH : HoldsK enc k w blk off d.toArray := fun j hj => by
    have hj' : j < d.length * k := by simpa using hj
    have e0 : (Go.Sort.flatK enc k d.toArray)[j]! = (d.flatMap enc)[j]! := by rw [← hfl, Array.getElem!_toList]
    constructor
    · show (match w.heap[blk]? with | some (.cells c _ _) => if (none : Option _).isSome then none else c[off + j]? | _ => none) = _
      rw [e2]
      show C[off + j]? = some _
      rw [hcell j hj', e0, List.getElem!_eq_getElem?_getD]
      have : j < (d.flatMap enc).length := by rw [hfs]; exact hj'
      rw [List.getElem?_eq_getElem this]
      rfl
    · show (match w.heap[blk]? with | some (.cells _ _ (lo, hi)) => lo ≤ off + j && off + j < hi | _ => false) = false
      rw [e2]
      have hlt : off + j < C.size := by
        obtain ⟨y, g2, _⟩ := hmid j hj'
        exact (Array.getElem?_eq_some_iff.1 g2).1
      have ht := thawed_t hth
      unfold Thawed at ht
      rw [if_pos rfl] at ht
      obtain ⟨lo, hi'⟩ := fr
      dsimp only at ht ⊢
      rw [Bool.and_eq_false_iff]
      rcases ht with q | q
      · left; exact decide_eq_false (by omega)
      · by_cases c9 : lo ≤ off + j
        · right; exact decide_eq_false (by omega)
        · left; exact decide_eq_false c9
  have hgl : globN P ≤ w.heap.size := by
    rcases Nat.eq_zero_or_pos (globN P) with z | z
    · omega
    · have := hR.inb _ _ _ _ _ (hR.glob (globN P - 1) (by omega))
      omega
  have hc := AnyQ.slices_SortFunc_eq L k aE zE enc hk h1 cf hO g #[] blk off cc d.toArray w eg (cmp_lays hg hrel hgl) hH hblk (by simpa using hsz)
  rw [show d.toArray.size = dl by simpa using hdl] at hc
  refine hc.mono fun e0 w' ⟨he, n, os, hw'⟩ => ⟨φ, .tuple #[], he, .tup .nil, ?_⟩
  subst hw'
  have hs : pdq (ltOf cf) d.toArray 0 dl (Lib.bitLen dl) true true = (sorted cf d).toArray := by unfold sorted; rw [hdl]
  rw [hs]
  have hsl : (sorted cf d).length = d.length := (sorted_perm cf hO d).1.length_eq
  have hS := hfl (sorted cf d)
  have hSs : (Go.Sort.flatK enc k (sorted cf d).toArray).size = d.length * k := by rw [← Array.length_toList, hS, hfs, hsl]
  have u : Upd h w φ id h.next (sortWorldK enc k w blk off n (sorted cf d).toArray os) φ := {
    le := Le.refl φ
    only := fun _ _ _ _ q => q
    new := fun g0 b0 s0 n0 q => .inl ⟨g0, s0, n0, q⟩
    inb := fun g0 b0 s0 n0 q => Nat.lt_of_lt_of_le (hR.inb _ _ _ _ _ q) sortWorldK_size
    lt := hR.dom _ _ e
    nx := Nat.le_refl _
    size := sortWorldK_size
    keep := fun y hy q => sortWorldK_other hy fun c9 => q 0 s N (by rw [c9]; exact p1)
    os := rfl
    output := rfl
    tape := rfl }
  obtain ⟨w1, w2, w3⟩ := Cells.ofL_spec (pre ++ ((sorted cf d).flatMap ea ++ post))
  refine ⟨hR.update (ser := h.ser) u (.inr hn) fun x q => ?_, Adv.update hR u (.inr hn)⟩
  cases q
  have hC' : (Go.Sort.putCells _root_.id off (Go.Sort.flatK enc k (sorted cf d).toArray) C).size = N := by unfold Go.Sort.putCells; rw [Array.size_mapIdx]; exact e3
  refine ⟨⟨w1, Nat.le_refl _, fun c9 => absurd c9 (Nat.lt_irrefl _), fun j hj => b4 j hj, fun j j' b1 s1 n1 s2 n2 c1 c2 c3 c4 f3 f4 => ?_, fun j c1 c2 => ?_⟩, fun _ _ _ _ _ _ _ _ _ _ _ => .inl rfl⟩
  · have : j = j' := by omega
    subst this; rw [f3] at f4; cases f4; rfl
  · obtain rfl : j = 0 := by omega
    refine ⟨blk, s, N, _, el, fr, p1, sortWorldK_block e2, hC', fun _ => ?_, fun i v c3 c4 hv => ?_⟩
    · have ht := thawed_t hth
      unfold Thawed at ht ⊢
      rw [if_pos rfl] at ht ⊢
      rw [hC', ← e3]
      exact ht
    · rw [w2] at hv
      have hput : ∀ o : Nat, (Go.Sort.putCells _root_.id off (Go.Sort.flatK enc k (sorted cf d).toArray) C)[o]? = if off ≤ o ∧ o < off + d.length * k then (C[o]?).map fun _ => (Go.Sort.flatK enc k (sorted cf d).toArray)[o - off]! else C[o]? := fun o => by
        unfold Go.Sort.putCells
        rw [Array.getElem?_mapIdx, hSs]
        split
        · rename_i c9
          cases C[o]? with
          | none => rfl
          | some y => simp [c9]
        · rename_i c9
          cases C[o]? with
          | none => rfl
          | some y => simp only [Option.map_some, if_neg c9]
      have hout : ∀ o : Nat, (o : Int) = i + s → (i < pre.length ∨ pre.length + d.length * k ≤ i) → ¬ (off ≤ o ∧ o < off + d.length * k) := fun o q1 q2 q3 => by omega
      by_cases g1 : i < pre.length
      · rw [List.getElem?_append_left g1] at hv
        obtain ⟨o, x, q1, q2, q3⟩ := hget i v (by rw [List.getElem?_append_left g1]; exact hv)
        exact ⟨o, x, q1, by rw [hput, if_neg (hout o q1 (.inl g1))]; exact q2, q3⟩
      · rw [List.getElem?_append_right (by omega)] at hv
        by_cases g2 : i - pre.length < d.length * k
        · rw [List.getElem?_append_left (by rw [hlen, hsl]; exact g2)] at hv
          obtain ⟨y, y1, y2⟩ := hmid (i - pre.length) g2
          refine ⟨off + (i - pre.length), (Go.Sort.flatK enc k (sorted cf d).toArray)[i - pre.length]!, by omega, ?_, ?_⟩
          · rw [hput, if_pos ⟨by omega, by omega⟩, y1, Option.map_some, Nat.add_sub_cancel_left]
          · obtain ⟨z, z1, z2⟩ := (relL_flat (φ := φ) hrel (sorted cf d)).get hv
            have : (Go.Sort.flatK enc k (sorted cf d).toArray)[i - pre.length]! = z := by
              rw [← Array.getElem!_toList, hS, List.getElem!_eq_getElem?_getD, z1]
              rfl
            rw [this]; exact z2
        · rw [List.getElem?_append_right (by rw [hlen, hsl]; omega), hlen, hsl] at hv
          obtain ⟨o, x, q1, q2, q3⟩ := hget i v (by rw [List.getElem?_append_right (by omega), List.getElem?_append_right (by rw [hlen]; omega), hlen]; exact hv)
          exact ⟨o, x, q1, by rw [hput, if_neg (hout o q1 (.inr (by omega)))]; exact q2, q3⟩
end Go.Proofs.YtjhgembcdndmkaaGreatDoor.Am
