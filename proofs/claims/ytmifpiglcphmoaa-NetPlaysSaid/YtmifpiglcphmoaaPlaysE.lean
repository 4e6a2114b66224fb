import Derived.Test.YtmifpiglcphmoaaRows
import Derived.WalkKit
import Derived.ProofKit
import Derived.OpenShut
import Derived.SizedLaws
import Derived.Test.YtmifpiglcphmoaaPlaysD
/- WHAT NetPlays COMES TO: the net and a plain list are led side by side, step by step. No condition. -/
set_option linter.unusedSimpArgs false
set_option linter.unusedVariables false
namespace Go.Proofs.Ytmifpiglcphmoaa.Plays
open Go Go.Proofs.Ytmifpiglcphmoaa.Am Go.Proofs Go.ChangeShapes Go.WideShapes Go.ChangeAt Go.RowKit
attribute [local irreducible] Tree

theorem own : ownKnob Try.prog.godebug = none := by kernel_rfl
theorem laidOut : laidOutB Try.prog = true := by kernel_rfl
theorem tree35 : treeB Try.prog (0 + 3 + 1) 35 = true := by kernel_rfl

/-- A slice that is handed in. -/
theorem slice_cells {P : Program} {W : World} {r : Reach} {base : Nat} {t e : TypeId} {v : Value} (ht : P.underlying t = some (.slice e)) (h : Value.okWide P W r base t v) : v.cells.toList = [v] := by
  obtain ⟨a, len, cap, rfl⟩ := okWide_slice ht h
  rfl

/-- NetPlays over whatever steps. -/
theorem lplays_walk {H : Type} {enc : TypeId × Value → H} {W : World} {v : Value} {d : DataW H} {p : List MemPlace} (hc : v.cells.toList = [v]) (h0 : DataW.Trod enc Try.prog W 0 (fun _ => true) true 35 v d p) (hw : ∀ n ∈ d.weights Try.prog 35, n ≤ reachBytes) :
    Calls Try.prog 4 #[v] W fun e w' => e = .returned (.bool true) ∧ Below W.heap.size W w' := by
  obtain ⟨fuel, hf⟩ := h0
  obtain ⟨φ1, h1, l, r1, z1, o1, e1, m1, s1, t1, t2⟩ := open_treeT (0 + 3 + 1) fuel 35 _ _ tree35 hf hw _ _ (start_rel (P := Try.prog) (w := W) (Nat.zero_le _)) rfl (start_ro _)
  have hc' : RelL φ1 l [v] := by rw [← hc]; exact s1
  match l, hc'.length with
  | [vs], _ =>
    obtain ⟨h', hf⟩ := lplays_fn t1
    refine (hf.calls r1 z1 (xs := #[v]) hc').mono fun e w' ⟨φ', z, q1, q2, q3, q4⟩ => ?_
    cases q2
    exact ⟨q1, q4.below o1⟩

set_option maxRecDepth 100000 in
theorem plays_lifted (os : Os) (started : os.Started) (H : Type) (enc : TypeId × Value → H) :
    ReturnsInHanded {} Try.checked os 4 .any (Ytmifpiglcphmoaa.Rows.netPlaysSpec.pre6 enc Try.prog Try.f4 Ytmifpiglcphmoaa.Rows.netPlaysRow.domain false) (Ytmifpiglcphmoaa.Rows.netPlaysSpec.post enc Try.prog Try.f4 false true false false) := by
  refine returnsInHanded_of_change_sized (C := Try.checked) own started (by kernel_rfl) Try.func4
    (ChangeSpec.witness6 (enc := enc) (C := Try.checked) false ⟨#[], #[.slice none 0 0], []⟩ 8 (by kernel_rfl) (by kernel_rfl) (by kernel_rfl) (by kernel_rfl)) ?_
  intro W base args ds gs before hval0 hW hcnd hsz _
  have hval : ∀ (j : Nat) t v, Try.f4.params[j]? = some t → args[j]? = some v → Value.okWide Try.prog W .any base t v := hval0
  have hW' := hW
  obtain ⟨p, q, hA0, hV, rfl, hfz, hnd⟩ := hW
  have hA : DataW.TrodAll enc Try.prog W 0 (fun _ => true) true Try.f4.params.toList args.toList ds p := hA0
  rw [Try.params4] at hA hval
  obtain ⟨v0, d0, rfl, rfl, h0⟩ := trodAll_one hA
  have h0k := h0
  obtain ⟨rfl, rfl⟩ := trodVars_none hV
  clear hA0 hval0
  simp only [List.append_nil] at hW'
  have hlt := hW'.lt
  have hwt : ∀ n ∈ d0.weights Try.prog 35, n ≤ reachBytes := fun n hn => by
    have ht : (Try.f4.params.toList ++ Ytmifpiglcphmoaa.Rows.netPlaysSpec.plain.varTypes Try.checked.prog)[0]? = some 35 := by rw [Try.params4]; rfl
    exact of_decide_eq_true (List.all_eq_true.1 hsz n (DataW.weights_mem_each (P := Try.prog) (ds := [d0] ++ []) (d := d0) ht rfl n hn))
  have hv0 : Value.okWide Try.prog W .any base 35 v0 := hval 0 35 _ rfl rfl
  have hcall := lplays_walk (slice_cells Try.underlying35 hv0) h0k hwt
  refine hcall.mono fun e W' ⟨he, hg⟩ => ?_
  subst he
  refine ⟨_, rfl, Am.post_of_below (pa := p) (pv := []) hW' (fun _ _ _ => trodAll_cons_mk (shut_bool Try.underlying4 _) trodAll_mk0) (fun sp hsp => ?_) (fun _ _ => rfl) (by simp)
    hg (ok_one (by kernel_rfl) rfl (okWide_bool_mk Try.underlying4 _))⟩
  have hs : ∀ x ∈ p, W.sameAt W' x := fun x hx => hg.same (hlt x hx)
  exact trodAll_mk1 (WideElems.Trod_stays laidOut (by kernel_rfl) (of_decide_eq_true (by kernel_rfl)) h0k hs hsp)

theorem plays_over : Ytmifpiglcphmoaa.Rows.netPlaysRow.holds Ytmifpiglcphmoaa.Try.pinned (OpenSpec.ofChange Ytmifpiglcphmoaa.Rows.netPlaysSpec) :=
  OpenClaim.holds_of_wide 4 Try.f4 rfl rfl rfl rfl rfl rfl rfl ⟨rfl, rfl, rfl, rfl, rfl⟩ rfl rfl rfl rfl rfl (by kernel_rfl) Try.func4 (by kernel_rfl)
    (of_decide_eq_true (by kernel_rfl)) (by unfold Func.isWrapper; first | (rw [if_pos (by decide +kernel)]; kernel_rfl) | (rw [if_neg (by decide +kernel)]; exact ⟨rfl, rfl⟩))
    (fun os started H enc _ => plays_lifted os started H enc)

theorem plays_proved : Ytmifpiglcphmoaa.Rows.NetPlaysSaid :=
  plays_over
end Go.Proofs.Ytmifpiglcphmoaa.Plays
