import Derived.Test.YtmifpiglcphmoaaRows
import Derived.WalkKit
import Derived.ProofKit
import Derived.OpenShut
import Derived.Test.YtmifpiglcphmoaaCountsC
/- 'Rows.NetCountsSaid': the law estuary/estuarylaw25.NetCounts holds: it returns true whatever the input, and the input reads as it did. No condition. -/
set_option linter.unusedSimpArgs false
set_option linter.unusedVariables false
namespace Go.Proofs.Ytmifpiglcphmoaa.Counts
open Go Go.Proofs.Ytmifpiglcphmoaa.Am Go.Proofs Go.ChangeShapes Go.WideShapes Go.ChangeAt Go.RowKit

/-- A slice that is there: its block. -/
theorem slice_block {P : Program} {W : World} {r : Reach} {base : Nat} {t e : TypeId} {a : Addr} {len cap : Nat} (ht : P.underlying t = some (.slice e)) (h : Value.okWide P W r base t (.slice (some a) len cap)) :
    a.spot = none ∧ ∃ C el fr, W.heap[a.block]? = some (.cells C el fr) := by
  simp only [Value.okWide, ht, Cell.okWide, Cell.ok] at h
  obtain ⟨_, _, _, hs, row, cells, hsh, _⟩ := h
  refine ⟨hs, ?_⟩
  unfold World.shape? at hsh
  split at hsh
  · rename_i q
    exact ⟨_, _, _, q⟩
  · cases hsh

theorem cells_agg_two {P : Program} {W : World} {r : Reach} {base : Nat} {t e : TypeId} {v : Value} (ht : P.underlying t = some (.array 2 e)) (h : Value.okWide P W r base t v) : ∃ cs, v = .agg cs := by
  simp only [Value.okWide, ht] at h
  obtain ⟨cs, q, _⟩ := h
  exact ⟨cs, q⟩

/-- An array of two ints. -/
theorem open_two {H : Type} {enc : TypeId × Value → H} {P : Program} {w : World} {base b0 : Nat} {sp : Nat → Bool} {held : Bool} {r : Reach} {t e : TypeId} {k : IntKind} {v : Value} {d : DataW H} {p : List MemPlace}
    (ht : P.underlying t = some (.array 2 e)) (he : P.underlying e = some (.int k)) (hc : P.cellsOf e = 1) (hct : P.cellsOf t = 2) (hval : Value.okWide P w r b0 t v) (hd : DataW.Trod enc P w base sp held t v d p) :
    ∃ x y, v = .agg #[.int k x, .int k y] := by
  obtain ⟨cs, rfl⟩ := cells_agg_two ht hval
  obtain ⟨fuel, hf⟩ := hd
  obtain ⟨xs, m, _, _, hl, hn, hx⟩ := DataW.trod_array ht hf
  rw [hct] at hl
  obtain ⟨l⟩ := cs
  have hl : l.length = 2 := by simpa [Value.cells] using hl
  match l, hl with
  | [c0, c1], _ =>
    match xs, hn with
    | [y0, y1], _ =>
      have q0 := hx 0 (by omega)
      have q1 := hx 1 (by omega)
      rw [hc] at q0 q1
      simp [Value.cells] at q0 q1
      obtain ⟨n0, e0, _⟩ := DataW.trod_int he q0
      obtain ⟨n1, e1, _⟩ := DataW.trod_int he q1
      simp at e0 e1
      subst e0; subst e1
      exact ⟨n0, n1, rfl⟩

theorem own : ownKnob Try.prog.godebug = none := by kernel_rfl
theorem laidOut : laidOutB Try.prog = true := by kernel_rfl

theorem relInts (φ : Phi) : ∀ xs : List Int, RelL φ (xs.map int64) (xs.map (Value.int .i64))
  | [] => .nil
  | x :: xs => .cons (.int _ _) (relInts φ xs)

/-- A slice of ints, handed in. -/
def IntsAt (W : World) (v : Value) (xs : List Int) : Prop :=
  ∃ a len cap, v = .slice a len cap ∧ ((a = none ∧ len = 0 ∧ cap = 0 ∧ xs.map int64 = []) ∨ ∃ b off C el fr, a = some ⟨b, off, none⟩ ∧ W.heap[b]? = some (.cells C el fr) ∧ (xs.map int64).length = len ∧ len ≤ cap ∧ (0 < cap → off + cap ≤ C.size) ∧ ∃ ys : List Value, ys.length = len ∧ (∀ i, i < len → C[off + i]? = ys[i]?) ∧ ∀ φ, RelL φ (xs.map int64) ys)

theorem ints_nil (W : World) : IntsAt W (.slice none 0 0) [] := ⟨none, 0, 0, rfl, .inl ⟨rfl, rfl, rfl, rfl⟩⟩

theorem ints_in {W : World} {a : Addr} {len cap : Nat} {zs : List Int} (hb : ∃ C el fr, W.heap[a.block]? = some (.cells C el fr)) (hs : a.spot = none) (hl : len ≤ cap) (hz : zs.length = cap) (hc : ∀ i, i < cap → W.cell? (a.add i) = some (.int .i64 (zs.getD i 0))) :
    IntsAt W (.slice (some a) len cap) (zs.take len) := by
  obtain ⟨C, el, fr, hb⟩ := hb
  obtain ⟨b, off, spot⟩ := a
  cases hs
  have hC : ∀ i, i < cap → C[off + i]? = some (.int .i64 (zs.getD i 0)) := fun i hi => by
    have := hc i hi
    rw [Go.WideShapes.add_plain] at this
    simpa [World.cell?, hb] using this
  have hcap : 0 < cap → off + cap ≤ C.size := fun h0 => by
    have := hC (cap - 1) (by omega)
    rcases Nat.lt_or_ge (off + (cap - 1)) C.size with q | q
    · omega
    · rw [Array.getElem?_eq_none q] at this; cases this
  refine ⟨_, _, _, rfl, .inr ⟨b, off, C, el, fr, rfl, hb, by simp; omega, hl, hcap, (zs.take len).map (Value.int .i64), by simp; omega, fun i hi => ?_, fun φ => relInts φ _⟩⟩
  rw [hC i (by omega)]
  simp [List.getElem?_take_of_lt hi, List.getD_eq_getElem?_getD, List.getElem?_eq_getElem (show i < zs.length by omega)]

/-- NetCounts over slices, whether they share their memory or not. -/
theorem lcount_walk {W : World} {v1 v2 : Value} {xs ys : List Int} (hx : IntsAt W v1 xs) (hy : IntsAt W v2 ys) (tw : Bool) :
    Calls Try.prog 3 #[v1, v2, .bool tw] W fun e w' => e = .returned (.bool true) ∧ Below W.heap.size W w' := by
  obtain ⟨a1, l1, c1, rfl, h1⟩ := hx
  obtain ⟨a2, l2, c2, rfl, h2⟩ := hy
  have hR := start_rel (P := Try.prog) (w := W) (Nat.zero_le _)
  obtain ⟨φ1, g1, u1, r1, z1, o1, e1, m1, s1, t1⟩ := handed hR rfl (start_ro _) h1
  obtain ⟨φ2, g2, u2, r2, z2, o2, e2, m2, s2, t2⟩ := handed r1 z1 o1 h2
  obtain ⟨h', hf⟩ := lcount_fn (t1.more m2) t2 tw
  refine (hf.calls r2 z2 (xs := #[.slice a1 l1 c1, .slice a2 l2 c2, .bool tw]) (.cons (s1.mono e2) (.cons s2 (.cons (.bool tw) .nil)))).mono fun e w' ⟨φ', z, q1, q2, q3, q4⟩ => ?_
  cases q2
  exact ⟨q1, q4.below o2⟩

set_option maxRecDepth 100000 in
theorem counts_lifted (os : Os) (started : os.Started) (H : Type) (enc : TypeId × Value → H) :
    ReturnsInHanded {} Try.checked os 3 .any (Ytmifpiglcphmoaa.Rows.netCountsSpec.pre6 enc Try.prog Try.f3 Ytmifpiglcphmoaa.Rows.netCountsRow.domain false) (Ytmifpiglcphmoaa.Rows.netCountsSpec.post enc Try.prog Try.f3 false true false false) := by
  refine returnsInHanded_of_change (C := Try.checked) own started (by kernel_rfl) Try.func3
    (ChangeSpec.witness6 (enc := enc) (C := Try.checked) false ⟨#[], #[.slice none 0 0, .slice none 0 0, .bool false], []⟩ 8 (by kernel_rfl) (by kernel_rfl) (by kernel_rfl) (by kernel_rfl)) ?_
  intro W base args ds gs before hval0 hW hcnd _
  have hval : ∀ (j : Nat) t v, Try.f3.params[j]? = some t → args[j]? = some v → Value.okWide Try.prog W .any base t v := hval0
  have hW' := hW
  obtain ⟨p, q, hA0, hV, rfl, hfz, hnd⟩ := hW
  have hA : DataW.TrodAll enc Try.prog W 0 (fun _ => true) true Try.f3.params.toList args.toList ds p := hA0
  rw [Try.params3] at hA hval
  obtain ⟨v0, v1, v2, d0, d1, d2, p0, p1, p2, rfl, rfl, rfl, h0, h1, h2⟩ := trodAll_three hA
  have h0k := h0
  have h1k := h1
  have h2k := h2
  obtain ⟨rfl, rfl⟩ := trodVars_none hV
  clear hA0 hval0
  simp only [List.append_nil] at hW'
  have hlt := hW'.lt
  -- IT IS ENOUGH TO SAY WHAT THE CALL DOES
  suffices hcall : Calls Try.prog 3 #[v0, v1, v2] W fun e w' => e = .returned (.bool true) ∧ Below W.heap.size W w' by
    refine hcall.mono fun e W' ⟨he, hg⟩ => ?_
    subst he
    refine ⟨_, rfl, Am.post_of_below (pa := p0 ++ p1 ++ p2) (pv := []) hW' (fun _ _ _ => trodAll_cons_mk (shut_bool Try.underlying4 _) trodAll_mk0) (fun sp hsp => ?_) (fun _ _ => rfl) (by simp)
      hg (ok_one (by kernel_rfl) rfl (okWide_bool_mk Try.underlying4 _))⟩
    have hs : ∀ x ∈ p0 ++ p1 ++ p2, W.sameAt W' x := fun x hx => hg.same (hlt x hx)
    rw [List.append_assoc]
    exact trodAll_mk3 (WideElems.Trod_stays laidOut (by kernel_rfl) (of_decide_eq_true (by kernel_rfl)) h0k (fun x hx => hs x (by simp [hx])) (fun x hx => hsp x (by simp [hx])))
      (WideElems.Trod_stays laidOut (by kernel_rfl) (of_decide_eq_true (by kernel_rfl)) h1k (fun x hx => hs x (by simp [hx])) (fun x hx => hsp x (by simp [hx])))
      (WideElems.Trod_stays laidOut (by kernel_rfl) (of_decide_eq_true (by kernel_rfl)) h2k (fun x hx => hs x (by simp [hx])) (fun x hx => hsp x (by simp [hx])))
  have hv0 : Value.okWide Try.prog W .any base 22 v0 := hval 0 22 _ rfl rfl
  have hv1 : Value.okWide Try.prog W .any base 22 v1 := hval 1 22 _ rfl rfl
  go_open 2 tw
  obtain ⟨xs, hx⟩ : ∃ xs, IntsAt W v0 xs := by
    go_open 0 zs
    · obtain ⟨hs, hb⟩ := slice_block Try.underlying22 hv0
      exact ⟨_, ints_in hb hs zs_le zs_all (fun i hi => cell_zs i (by omega))⟩
    · exact ⟨[], ints_nil W⟩
  obtain ⟨ys, hy⟩ : ∃ ys, IntsAt W v1 ys := by
    go_open 1 zs
    · obtain ⟨hs, hb⟩ := slice_block Try.underlying22 hv1
      exact ⟨_, ints_in hb hs zs_le zs_all (fun i hi => cell_zs i (by omega))⟩
    · exact ⟨[], ints_nil W⟩
  exact lcount_walk hx hy _

theorem counts_over : Ytmifpiglcphmoaa.Rows.netCountsRow.holds Ytmifpiglcphmoaa.Try.pinned (OpenSpec.ofChange Ytmifpiglcphmoaa.Rows.netCountsSpec) :=
  OpenClaim.holds_of_wide 3 Try.f3 rfl rfl rfl rfl rfl rfl rfl ⟨rfl, rfl, rfl, rfl, rfl⟩ rfl rfl rfl rfl rfl (by kernel_rfl) Try.func3 (by kernel_rfl)
    (of_decide_eq_true (by kernel_rfl)) (by unfold Func.isWrapper; first | (rw [if_pos (by decide +kernel)]; kernel_rfl) | (rw [if_neg (by decide +kernel)]; exact ⟨rfl, rfl⟩))
    (fun os started H enc _ => counts_lifted os started H enc)

theorem counts_proved : Ytmifpiglcphmoaa.Rows.NetCountsSaid :=
  counts_over
end Go.Proofs.Ytmifpiglcphmoaa.Counts
