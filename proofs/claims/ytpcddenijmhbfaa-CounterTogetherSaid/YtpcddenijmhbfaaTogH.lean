import Derived.Test.YtpcddenijmhbfaaRows
import Derived.WalkKit
import Derived.ProofKit
import Derived.OpenShut
import Derived.Test.YtpcddenijmhbfaaTogG
/- 'Rows.CounterTogetherSaid': the law estuary/estuarylaw10.CounterTogether holds: it returns true whatever the input, and the input reads as it did. No condition. -/
set_option linter.unusedSimpArgs false
set_option linter.unusedVariables false
namespace Go.Proofs.Ytpcddenijmhbfaa.Tog
open Go Go.Proofs.Ytpcddenijmhbfaa.Am Go.Proofs Go.ChangeShapes Go.WideShapes Go.ChangeAt Go.RowKit

/-- A slice of ints, handed in. -/
def IntsAt (W : World) (v : Value) (xs : List Int) : Prop :=
  ∃ a len cap, v = .slice a len cap ∧ ((a = none ∧ len = 0 ∧ cap = 0 ∧ xs.map int64 = []) ∨ ∃ b off C el fr, a = some ⟨b, off, none⟩ ∧ W.heap[b]? = some (.cells C el fr) ∧ (xs.map int64).length = len ∧ len ≤ cap ∧ (0 < cap → off + cap ≤ C.size) ∧ ∃ ys : List Value, ys.length = len ∧ (∀ i, i < len → C[off + i]? = ys[i]?) ∧ ∀ φ, RelL φ (xs.map int64) ys)

theorem ints_nil (W : World) : IntsAt W (.slice none 0 0) [] := ⟨none, 0, 0, rfl, .inl ⟨rfl, rfl, rfl, rfl⟩⟩

theorem ints_in {W : World} {a : Addr} {len cap : Nat} {zs : List Int} (hb : ∃ C el fr, W.heap[a.block]? = some (.cells C el fr)) (hs : a.spot = none) (hl : len ≤ cap) (hz : zs.length = cap) (hc : ∀ i, i < cap → W.cell? (a.add i) = some (.int .i64 (zs.getD i 0))) :
    IntsAt W (.slice (some a) len cap) (zs.take len) := by
  obtain ⟨C, el, fr, hb⟩ := hb
  obtain ⟨b, off, spot⟩ := a
  cases hs
  have hC : ∀ i, i < cap → C[off + i]? = some (.int .i64 (zs.getD i 0)) := fun i hi => by
    have := hc i hi
    rw [Go.WideShapes.add_plain] at this
    simpa [World.cell?, hb] using this
  have hcap : 0 < cap → off + cap ≤ C.size := fun h0 => by
    have := hC (cap - 1) (by omega)
    rcases Nat.lt_or_ge (off + (cap - 1)) C.size with q | q
    · omega
    · rw [Array.getElem?_eq_none q] at this; cases this
  refine ⟨_, _, _, rfl, .inr ⟨b, off, C, el, fr, rfl, hb, by simp; omega, hl, hcap, (zs.take len).map (Value.int .i64), by simp; omega, fun i hi => ?_, fun φ => relInts φ _⟩⟩
  rw [hC i (by omega)]
  simp [List.getElem?_take_of_lt hi, List.getD_eq_getElem?_getD, List.getElem?_eq_getElem (show i < zs.length by omega)]

/-- CounterTogether over slices, whether they share their memory or not. -/
theorem ltog_walk {W : World} {v1 v2 : Value} {xs ys : List Int} (hx : IntsAt W v1 xs) (hy : IntsAt W v2 ys) (n : Int) (hn : wrapA .i64 n = n) :
    Calls Try.prog 5 #[.int .i64 n, v1, v2] W fun e w' => e = .returned (.bool true) ∧ Below W.heap.size W w' := by
  obtain ⟨a1, l1, c1, rfl, h1⟩ := hx
  obtain ⟨a2, l2, c2, rfl, h2⟩ := hy
  have hR := start_rel (P := Try.prog) (w := W) (Nat.zero_le _)
  obtain ⟨φ1, g1, u1, r1, z1, o1, e1, m1, s1, t1⟩ := handed hR rfl (start_ro _) h1
  obtain ⟨φ2, g2, u2, r2, z2, o2, e2, m2, s2, t2⟩ := handed r1 z1 o1 h2
  obtain ⟨h', hf, _⟩ := ltog_fn (t1.more m2) t2 n hn
  refine (hf.calls r2 z2 (xs := #[.int .i64 n, .slice a1 l1 c1, .slice a2 l2 c2]) (.cons (.int _ _) (.cons (s1.mono e2) (.cons s2 .nil)))).mono fun e w' ⟨φ', z, q1, q2, q3, q4⟩ => ?_
  cases q2
  exact ⟨q1, q4.below o2⟩

set_option maxRecDepth 100000 in
theorem tog_lifted (os : Os) (started : os.Started) (H : Type) (enc : TypeId × Value → H) :
    ReturnsInHanded {} Try.checked os 5 .any (Ytpcddenijmhbfaa.Rows.counterTogetherSpec.pre6 enc Try.prog Try.f5 Ytpcddenijmhbfaa.Rows.counterTogetherRow.domain false) (Ytpcddenijmhbfaa.Rows.counterTogetherSpec.post enc Try.prog Try.f5 false true false false) := by
  refine returnsInHanded_of_change (C := Try.checked) own started (by kernel_rfl) Try.func5
    (ChangeSpec.witness6 (enc := enc) (C := Try.checked) false ⟨#[], #[.int .i64 0, .slice none 0 0, .slice none 0 0], []⟩ 8 (by kernel_rfl) (by kernel_rfl) (by kernel_rfl) (by kernel_rfl)) ?_
  intro W base args ds gs before hval0 hW hcnd _
  have hval : ∀ (j : Nat) t v, Try.f5.params[j]? = some t → args[j]? = some v → Value.okWide Try.prog W .any base t v := hval0
  have hW' := hW
  obtain ⟨p, q, hA0, hV, rfl, hfz, hnd⟩ := hW
  have hA : DataW.TrodAll enc Try.prog W 0 (fun _ => true) true Try.f5.params.toList args.toList ds p := hA0
  rw [Try.params5] at hA hval
  obtain ⟨v0, v1, v2, d0, d1, d2, p0, p1, p2, rfl, rfl, rfl, h0, h1, h2⟩ := trodAll_three hA
  have h0k := h0
  have h1k := h1
  have h2k := h2
  obtain ⟨rfl, rfl⟩ := trodVars_none hV
  clear hA0 hval0
  simp only [List.append_nil] at hW'
  have hlt := hW'.lt
  -- IT IS ENOUGH TO SAY WHAT THE CALL DOES
  suffices hcall : Calls Try.prog 5 #[v0, v1, v2] W fun e w' => e = .returned (.bool true) ∧ Below W.heap.size W w' by
    refine hcall.mono fun e W' ⟨he, hg⟩ => ?_
    subst he
    refine ⟨_, rfl, Am.post_of_below (pa := p0 ++ p1 ++ p2) (pv := []) hW' (fun _ _ _ => trodAll_cons_mk (shut_bool Try.underlying4 _) trodAll_mk0) (fun sp hsp => ?_) (fun _ _ => rfl) (by simp)
      hg (ok_one (by kernel_rfl) rfl (okWide_bool_mk Try.underlying4 _))⟩
    have hs : ∀ x ∈ p0 ++ p1 ++ p2, W.sameAt W' x := fun x hx => hg.same (hlt x hx)
    rw [List.append_assoc]
    exact trodAll_mk3 (WideElems.Trod_stays laidOut (by kernel_rfl) (of_decide_eq_true (by kernel_rfl)) h0k (fun x hx => hs x (by simp [hx])) (fun x hx => hsp x (by simp [hx])))
      (WideElems.Trod_stays laidOut (by kernel_rfl) (of_decide_eq_true (by kernel_rfl)) h1k (fun x hx => hs x (by simp [hx])) (fun x hx => hsp x (by simp [hx])))
      (WideElems.Trod_stays laidOut (by kernel_rfl) (of_decide_eq_true (by kernel_rfl)) h2k (fun x hx => hs x (by simp [hx])) (fun x hx => hsp x (by simp [hx])))
  have hv1 : Value.okWide Try.prog W .any base 23 v1 := hval 1 23 _ rfl rfl
  have hv2 : Value.okWide Try.prog W .any base 23 v2 := hval 2 23 _ rfl rfl
  go_open 0 n
  have hn : wrapA .i64 n = n := wrap64 (by have := bd_n.1; omega) (by have := bd_n.2; omega)
  obtain ⟨xs, hx⟩ : ∃ xs, IntsAt W v1 xs := by
    go_open 1 zs
    · obtain ⟨hs, hb⟩ := slice_block Try.underlying23 hv1
      exact ⟨_, ints_in hb hs zs_le zs_all (fun i hi => cell_zs i (by omega))⟩
    · exact ⟨[], ints_nil W⟩
  obtain ⟨ys, hy⟩ : ∃ ys, IntsAt W v2 ys := by
    go_open 2 zs
    · obtain ⟨hs, hb⟩ := slice_block Try.underlying23 hv2
      exact ⟨_, ints_in hb hs zs_le zs_all (fun i hi => cell_zs i (by omega))⟩
    · exact ⟨[], ints_nil W⟩
  exact ltog_walk hx hy n hn

theorem tog_over : Ytpcddenijmhbfaa.Rows.counterTogetherRow.holds Ytpcddenijmhbfaa.Try.pinned (OpenSpec.ofChange Ytpcddenijmhbfaa.Rows.counterTogetherSpec) :=
  OpenClaim.holds_of_wide 5 Try.f5 rfl rfl rfl rfl rfl rfl rfl ⟨rfl, rfl, rfl, rfl, rfl⟩ rfl rfl rfl rfl rfl (by kernel_rfl) Try.func5 (by kernel_rfl)
    (of_decide_eq_true (by kernel_rfl)) (by unfold Func.isWrapper; first | (rw [if_pos (by decide +kernel)]; kernel_rfl) | (rw [if_neg (by decide +kernel)]; exact ⟨rfl, rfl⟩))
    (fun os started H enc _ => tog_lifted os started H enc)

theorem tog_proved : Ytpcddenijmhbfaa.Rows.CounterTogetherSaid :=
  tog_over
end Go.Proofs.Ytpcddenijmhbfaa.Tog
