import Derived.Test.YtmifpiglcphmoaaRows
import Derived.WalkKit
import Derived.ProofKit
import Derived.OpenShut
import Derived.SizedLaws
import Derived.Test.YtmifpiglcphmoaaDPlaysH
/- 'Rows.DiskPlaysSaid': the law estuary/estuarylaw03.DiskPlays returns true for whatever beginning, steps and number it is given, and leaves them as they were. No condition. -/
set_option linter.unusedSimpArgs false
set_option linter.unusedVariables false
namespace Go.Proofs.Ytmifpiglcphmoaa.DPlays
open Go Go.Proofs.Ytmifpiglcphmoaa.Am Go.Proofs Go.ChangeShapes Go.WideShapes Go.ChangeAt Go.RowKit
attribute [local irreducible] Tree

theorem own : ownKnob Try.prog.godebug = none := by kernel_rfl
theorem laidOut : laidOutB Try.prog = true := by kernel_rfl
theorem tree57 : treeB Try.prog (0 + 3) 57 = true := by kernel_rfl
theorem tree58 : treeB Try.prog (0 + 3 + 1) 58 = true := by kernel_rfl

/-- A slice that is handed in. -/
theorem slice_cells {P : Program} {W : World} {r : Reach} {base : Nat} {t e : TypeId} {v : Value} (ht : P.underlying t = some (.slice e)) (h : Value.okWide P W r base t v) : v.cells.toList = [v] := by
  obtain ⟨a, len, cap, rfl⟩ := okWide_slice ht h
  rfl

/-- Both that are handed in. -/
theorem both_open {H : Type} {enc : TypeId × Value → H} {W : World} {c0 : Array Value} {v1 : Value} {d0 d1 : DataW H} {p0 p1 : List MemPlace} (hc : v1.cells.toList = [v1]) (h0 : DataW.Trod enc Try.prog W 0 (fun _ => true) true 57 (.agg c0) d0 p0) (hw0 : ∀ n ∈ d0.weights Try.prog 57, n ≤ reachBytes)
    (h1 : DataW.Trod enc Try.prog W 0 (fun _ => true) true 58 v1 d1 p1) (hw1 : ∀ n ∈ d1.weights Try.prog 58, n ≤ reachBytes) :
    ∃ φ h l vs, HR Try.prog φ h W ∧ h.lim = 0 ∧ AllRo h ∧ Rel φ (.agg l) (.agg c0) ∧ Rel φ vs v1 ∧ Tree Try.prog h (0 + 3) 57 l ∧ Tree Try.prog h (0 + 3 + 1) 58 [vs] := by
  obtain ⟨f0, h0⟩ := h0
  obtain ⟨f1, h1⟩ := h1
  obtain ⟨φ1, g1, l1, r1, z1, o1, e1, m1, s1, t1, _⟩ := open_treeT (0 + 3) f0 57 _ _ tree57 h0 hw0 _ _ (start_rel (P := Try.prog) (w := W) (Nat.zero_le _)) rfl (start_ro _)
  obtain ⟨φ2, g2, l2, r2, z2, o2, e2, m2, s2, t2, _⟩ := open_treeT (0 + 3 + 1) f1 58 _ _ tree58 h1 hw1 _ _ r1 z1 o1
  have hc' : RelL φ2 l2 [v1] := by rw [← hc]; exact s2
  match l2, hc'.length with
  | [vs], _ =>
    cases hc' with
    | cons q _ => exact ⟨φ2, g2, l1, vs, r2, z2, o2, .agg (s1.mono e2), q, t1.more m2, t2⟩

/-- DiskPlays over whatever is handed in. -/
theorem plays_walk {H : Type} {enc : TypeId × Value → H} {W : World} {c0 : Array Value} {v1 : Value} {d0 d1 : DataW H} {p0 p1 : List MemPlace} (hc : v1.cells.toList = [v1]) (h0 : DataW.Trod enc Try.prog W 0 (fun _ => true) true 57 (.agg c0) d0 p0) (hw0 : ∀ n ∈ d0.weights Try.prog 57, n ≤ reachBytes)
    (h1 : DataW.Trod enc Try.prog W 0 (fun _ => true) true 58 v1 d1 p1) (hw1 : ∀ n ∈ d1.weights Try.prog 58, n ≤ reachBytes) (leave : Int) :
    Calls Try.prog 7 #[.agg c0, v1, .int .i64 leave] W fun e w' => e = .returned (.bool true) ∧ Below W.heap.size W w' := by
  obtain ⟨φ, h, l, vs, r, z, o, q0, q1, t0, t1⟩ := both_open hc h0 hw0 h1 hw1
  obtain ⟨h', hf⟩ := plays_fn t0 t1 leave
  refine (hf.calls r z (xs := #[.agg c0, v1, .int .i64 leave]) (.cons q0 (.cons q1 (.cons (.int _ _) .nil)))).mono fun e w' ⟨φ', z, q1, q2, q3, q4⟩ => ?_
  cases q2
  exact ⟨q1, q4.below o⟩

set_option maxRecDepth 100000 in
theorem plays_lifted (os : Os) (started : os.Started) (H : Type) (enc : TypeId × Value → H) :
    ReturnsInHanded {} Try.checked os 7 .any (Ytmifpiglcphmoaa.Rows.diskPlaysSpec.pre6 enc Try.prog Try.f7 Ytmifpiglcphmoaa.Rows.diskPlaysRow.domain false) (Ytmifpiglcphmoaa.Rows.diskPlaysSpec.post enc Try.prog Try.f7 false true false false) := by
  refine returnsInHanded_of_change_sized (C := Try.checked) own started (by kernel_rfl) Try.func7
    (ChangeSpec.witness6 (enc := enc) (C := Try.checked) false ⟨#[], #[.agg #[.int .i64 0, .int .i64 0, .slice none 0 0, .slice none 0 0], .slice none 0 0, .int .i64 0], []⟩ 8 (by kernel_rfl) (by kernel_rfl) (by kernel_rfl) (by kernel_rfl)) ?_
  intro W base args ds gs before hval0 hW hcnd hsz _
  have hval : ∀ (j : Nat) t v, Try.f7.params[j]? = some t → args[j]? = some v → Value.okWide Try.prog W .any base t v := hval0
  have hW' := hW
  obtain ⟨p, q, hA0, hV, rfl, hfz, hnd⟩ := hW
  have hA : DataW.TrodAll enc Try.prog W 0 (fun _ => true) true Try.f7.params.toList args.toList ds p := hA0
  rw [Try.params7] at hA hval
  obtain ⟨v0, v1, v2, d0, d1, d2, p0, p1, p2, rfl, rfl, rfl, h0, h1, h2⟩ := trodAll_three hA
  have h0k := h0
  have h1k := h1
  have h2k := h2
  obtain ⟨rfl, rfl⟩ := trodVars_none hV
  clear hA0 hval0
  simp only [List.append_nil] at hW'
  have hlt := hW'.lt
  have hw0 : ∀ n ∈ d0.weights Try.prog 57, n ≤ reachBytes := fun n hn => by
    have ht : (Try.f7.params.toList ++ Ytmifpiglcphmoaa.Rows.diskPlaysSpec.plain.varTypes Try.checked.prog)[0]? = some 57 := by rw [Try.params7]; rfl
    exact of_decide_eq_true (List.all_eq_true.1 hsz n (DataW.weights_mem_each (P := Try.prog) (ds := [d0, d1, d2] ++ []) (d := d0) ht rfl n hn))
  have hw1 : ∀ n ∈ d1.weights Try.prog 58, n ≤ reachBytes := fun n hn => by
    have ht : (Try.f7.params.toList ++ Ytmifpiglcphmoaa.Rows.diskPlaysSpec.plain.varTypes Try.checked.prog)[1]? = some 58 := by rw [Try.params7]; rfl
    exact of_decide_eq_true (List.all_eq_true.1 hsz n (DataW.weights_mem_each (P := Try.prog) (ds := [d0, d1, d2] ++ []) (d := d1) ht rfl n hn))
  have hv0 : Value.okWide Try.prog W .any base 57 v0 := hval 0 57 _ rfl rfl
  have hv1 : Value.okWide Try.prog W .any base 58 v1 := hval 1 58 _ rfl rfl
  suffices hcall : Calls Try.prog 7 #[v0, v1, v2] W fun e w' => e = .returned (.bool true) ∧ Below W.heap.size W w' by
    refine hcall.mono fun e W' ⟨he, hg⟩ => ?_
    subst he
    refine ⟨_, rfl, Am.post_of_below (pa := p0 ++ p1 ++ p2) (pv := []) hW' (fun _ _ _ => trodAll_cons_mk (shut_bool Try.underlying4 _) trodAll_mk0) (fun sp hsp => ?_) (fun _ _ => rfl) (by simp)
      hg (ok_one (by kernel_rfl) rfl (okWide_bool_mk Try.underlying4 _))⟩
    have hs : ∀ x ∈ p0 ++ p1 ++ p2, W.sameAt W' x := fun x hx => hg.same (hlt x hx)
    rw [List.append_assoc]
    exact trodAll_mk3 (WideElems.Trod_stays laidOut (by kernel_rfl) (of_decide_eq_true (by kernel_rfl)) h0k (fun x hx => hs x (by simp [hx])) (fun x hx => hsp x (by simp [hx])))
      (WideElems.Trod_stays laidOut (by kernel_rfl) (of_decide_eq_true (by kernel_rfl)) h1k (fun x hx => hs x (by simp [hx])) (fun x hx => hsp x (by simp [hx])))
      (WideElems.Trod_stays laidOut (by kernel_rfl) (of_decide_eq_true (by kernel_rfl)) h2k (fun x hx => hs x (by simp [hx])) (fun x hx => hsp x (by simp [hx])))
  obtain ⟨c0, rfl, _⟩ := okWide_struct Try.underlying57 hv0
  have hc1 := slice_cells Try.underlying58 hv1
  go_open 2 n
  exact plays_walk hc1 h0k hw0 h1k hw1 n

theorem plays_over : Ytmifpiglcphmoaa.Rows.diskPlaysRow.holds Ytmifpiglcphmoaa.Try.pinned (OpenSpec.ofChange Ytmifpiglcphmoaa.Rows.diskPlaysSpec) :=
  OpenClaim.holds_of_wide 7 Try.f7 rfl rfl rfl rfl rfl rfl rfl ⟨rfl, rfl, rfl, rfl, rfl⟩ rfl rfl rfl rfl rfl (by kernel_rfl) Try.func7 (by kernel_rfl)
    (of_decide_eq_true (by kernel_rfl)) (by unfold Func.isWrapper; first | (rw [if_pos (by decide +kernel)]; kernel_rfl) | (rw [if_neg (by decide +kernel)]; exact ⟨rfl, rfl⟩))
    (fun os started H enc _ => plays_lifted os started H enc)

theorem plays_proved : Ytmifpiglcphmoaa.Rows.DiskPlaysSaid :=
  plays_over
end Go.Proofs.Ytmifpiglcphmoaa.DPlays
