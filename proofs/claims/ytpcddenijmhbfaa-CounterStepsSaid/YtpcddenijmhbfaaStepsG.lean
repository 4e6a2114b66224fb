import Derived.Test.YtpcddenijmhbfaaRows
import Derived.WalkKit
import Derived.ProofKit
import Derived.OpenShut
import Derived.Test.YtpcddenijmhbfaaStepsF
/- 'Rows.CounterStepsSaid': the law estuary/estuarylaw10.CounterSteps holds: it returns true whatever the input, and the input reads as it did. No condition. -/
set_option linter.unusedSimpArgs false
set_option linter.unusedVariables false
namespace Go.Proofs.Ytpcddenijmhbfaa.Steps
open Go Go.Proofs.Ytpcddenijmhbfaa.Am Go.Proofs Go.ChangeShapes Go.WideShapes Go.ChangeAt Go.RowKit

/-- A slice that is there: its block. -/
theorem slice_block {P : Program} {W : World} {r : Reach} {base : Nat} {t e : TypeId} {a : Addr} {len cap : Nat} (ht : P.underlying t = some (.slice e)) (h : Value.okWide P W r base t (.slice (some a) len cap)) :
    a.spot = none ∧ ∃ C el fr, W.heap[a.block]? = some (.cells C el fr) := by
  simp only [Value.okWide, ht, Cell.okWide, Cell.ok] at h
  obtain ⟨_, _, _, hs, row, cells, hsh, _⟩ := h
  refine ⟨hs, ?_⟩
  unfold World.shape? at hsh
  split at hsh
  · rename_i q
    exact ⟨_, _, _, q⟩
  · cases hsh

theorem cells_agg_two {P : Program} {W : World} {r : Reach} {base : Nat} {t e : TypeId} {v : Value} (ht : P.underlying t = some (.array 2 e)) (h : Value.okWide P W r base t v) : ∃ cs, v = .agg cs := by
  simp only [Value.okWide, ht] at h
  obtain ⟨cs, q, _⟩ := h
  exact ⟨cs, q⟩

/-- An array of two ints. -/
theorem open_two {H : Type} {enc : TypeId × Value → H} {P : Program} {w : World} {base b0 : Nat} {sp : Nat → Bool} {held : Bool} {r : Reach} {t e : TypeId} {k : IntKind} {v : Value} {d : DataW H} {p : List MemPlace}
    (ht : P.underlying t = some (.array 2 e)) (he : P.underlying e = some (.int k)) (hc : P.cellsOf e = 1) (hct : P.cellsOf t = 2) (hval : Value.okWide P w r b0 t v) (hd : DataW.Trod enc P w base sp held t v d p) :
    ∃ x y, v = .agg #[.int k x, .int k y] := by
  obtain ⟨cs, rfl⟩ := cells_agg_two ht hval
  obtain ⟨fuel, hf⟩ := hd
  obtain ⟨xs, m, _, _, hl, hn, hx⟩ := DataW.trod_array ht hf
  rw [hct] at hl
  obtain ⟨l⟩ := cs
  have hl : l.length = 2 := by simpa [Value.cells] using hl
  match l, hl with
  | [c0, c1], _ =>
    match xs, hn with
    | [y0, y1], _ =>
      have q0 := hx 0 (by omega)
      have q1 := hx 1 (by omega)
      rw [hc] at q0 q1
      simp [Value.cells] at q0 q1
      obtain ⟨n0, e0, _⟩ := DataW.trod_int he q0
      obtain ⟨n1, e1, _⟩ := DataW.trod_int he q1
      simp at e0 e1
      subst e0; subst e1
      exact ⟨n0, n1, rfl⟩

theorem own : ownKnob Try.prog.godebug = none := by kernel_rfl
theorem laidOut : laidOutB Try.prog = true := by kernel_rfl

theorem rowH_arg {l : List AV} : ArgS (rowH l.length l) (.sl Pos.first 0 0 l.length l.length false 1) l :=
  .inr ⟨Pos.first, 0, l.length, false, l, rfl, Nat.le_refl _, ⟨by show 1 < 2; omega, 0, .lst l.length l, 0, 0, true, false, by rw [rowH_get, if_pos rfl], rfl, rfl⟩, by simp, by simp⟩

/-- CounterSteps over a slice that is there. -/
theorem lsteps_walk {W : World} {a : Addr} {len cap : Nat} {zs : List Int} (hb : ∃ C el fr, W.heap[a.block]? = some (.cells C el fr)) (hs : a.spot = none) (hl : len ≤ cap) (hz : zs.length = cap) (hc : ∀ i, i < cap → W.cell? (a.add i) = some (.int .i64 (zs.getD i 0))) (n leave : Int) :
    Calls Try.prog 4 #[.int .i64 n, .slice (some a) len cap, .int .i64 leave] W fun e w' => e = .returned (.bool true) ∧ Below W.heap.size W w' := by
  obtain ⟨C, el, fr, hb⟩ := hb
  obtain ⟨b, off, spot⟩ := a
  cases hs
  have hC : ∀ i, i < cap → C[off + i]? = some (.int .i64 (zs.getD i 0)) := fun i hi => by
    have := hc i hi
    rw [Go.WideShapes.add_plain] at this
    simpa [World.cell?, hb] using this
  have hcap : 0 < cap → off + cap ≤ C.size := fun h0 => by
    have := hC (cap - 1) (by omega)
    rcases Nat.lt_or_ge (off + (cap - 1)) C.size with q | q
    · omega
    · rw [Array.getElem?_eq_none q] at this; cases this
  have hll : ((zs.take len).map int64).length = len := by simp; omega
  have hR : HR Try.prog (rowPhi b off C.size) (rowH ((zs.take len).map int64).length ((zs.take len).map int64)) W := rowH_rel (ys := (zs.take len).map (Value.int .i64)) hb (by simp) (fun i hi => by
    have hi : i < len := by simp at hi; omega
    rw [hC i (by omega)]
    simp [List.getElem?_take_of_lt hi, List.getD_eq_getElem?_getD, List.getElem?_eq_getElem (show i < zs.length by omega)]) (fun φ => relInts φ _)
  obtain ⟨h', hf, _⟩ := lsteps_fn (rowH_arg (l := (zs.take len).map int64)) n leave
  have hsl := rowH_slice (b := b) (off := off) (cap := cap) (n := C.size) (l := (zs.take len).map int64) (by omega) hcap
  rw [hll] at hsl
  rw [hll] at hf
  have hrel : RelL (rowPhi b off C.size) [int64 n, .sl Pos.first 0 0 len len false 1, int64 leave] [.int .i64 n, .slice (some ⟨b, off, none⟩) len cap, .int .i64 leave] :=
    .cons (.int _ _) (.cons hsl (.cons (.int _ _) .nil))
  rw [hll] at hR
  refine (hf.calls hR rfl (xs := #[.int .i64 n, .slice (some ⟨b, off, none⟩) len cap, .int .i64 leave]) hrel).mono fun e w' ⟨φ', z, q1, q2, q3, q4⟩ => ?_
  cases q2
  exact ⟨q1, q4.below (rowH_ro _ _)⟩
/-- CounterSteps over the slice that is nil. -/
theorem lsteps_walk_nil (W : World) (n leave : Int) :
    Calls Try.prog 4 #[.int .i64 n, .slice none 0 0, .int .i64 leave] W fun e w' => e = .returned (.bool true) ∧ Below W.heap.size W w' := by
  have hR := start_rel (P := Try.prog) (w := W) (Nat.zero_le _)
  obtain ⟨h', hf, _⟩ := lsteps_fn (xs := []) (v := .nilSl) (h := ⟨.e, Pos.ofNat (globN Try.prog), 0, 0⟩) (.inl ⟨rfl, rfl⟩) n leave
  have hrel : RelL (phi0 Try.prog) [int64 n, .nilSl, int64 leave] [.int .i64 n, .slice none 0 0, .int .i64 leave] :=
    .cons (.int _ _) (.cons .nilSl (.cons (.int _ _) .nil))
  refine (hf.calls hR rfl (xs := #[.int .i64 n, .slice none 0 0, .int .i64 leave]) hrel).mono fun e w' ⟨φ', z, q1, q2, q3, q4⟩ => ?_
  cases q2
  refine ⟨q1, q4.below fun id ⟨b, e, _⟩ => ?_⟩
  rw [T.get_e] at e
  cases e

set_option maxRecDepth 100000 in
theorem steps_lifted (os : Os) (started : os.Started) (H : Type) (enc : TypeId × Value → H) :
    ReturnsInHanded {} Try.checked os 4 .any (Ytpcddenijmhbfaa.Rows.counterStepsSpec.pre6 enc Try.prog Try.f4 Ytpcddenijmhbfaa.Rows.counterStepsRow.domain false) (Ytpcddenijmhbfaa.Rows.counterStepsSpec.post enc Try.prog Try.f4 false true false false) := by
  refine returnsInHanded_of_change (C := Try.checked) own started (by kernel_rfl) Try.func4
    (ChangeSpec.witness6 (enc := enc) (C := Try.checked) false ⟨#[], #[.int .i64 0, .slice none 0 0, .int .i64 0], []⟩ 8 (by kernel_rfl) (by kernel_rfl) (by kernel_rfl) (by kernel_rfl)) ?_
  intro W base args ds gs before hval0 hW hcnd _
  have hval : ∀ (j : Nat) t v, Try.f4.params[j]? = some t → args[j]? = some v → Value.okWide Try.prog W .any base t v := hval0
  have hW' := hW
  obtain ⟨p, q, hA0, hV, rfl, hfz, hnd⟩ := hW
  have hA : DataW.TrodAll enc Try.prog W 0 (fun _ => true) true Try.f4.params.toList args.toList ds p := hA0
  rw [Try.params4] at hA hval
  obtain ⟨v0, v1, v2, d0, d1, d2, p0, p1, p2, rfl, rfl, rfl, h0, h1, h2⟩ := trodAll_three hA
  have h0k := h0
  have h1k := h1
  have h2k := h2
  obtain ⟨rfl, rfl⟩ := trodVars_none hV
  clear hA0 hval0
  simp only [List.append_nil] at hW'
  have hlt := hW'.lt
  -- IT IS ENOUGH TO SAY WHAT THE CALL DOES
  suffices hcall : Calls Try.prog 4 #[v0, v1, v2] W fun e w' => e = .returned (.bool true) ∧ Below W.heap.size W w' by
    refine hcall.mono fun e W' ⟨he, hg⟩ => ?_
    subst he
    refine ⟨_, rfl, Am.post_of_below (pa := p0 ++ p1 ++ p2) (pv := []) hW' (fun _ _ _ => trodAll_cons_mk (shut_bool Try.underlying4 _) trodAll_mk0) (fun sp hsp => ?_) (fun _ _ => rfl) (by simp)
      hg (ok_one (by kernel_rfl) rfl (okWide_bool_mk Try.underlying4 _))⟩
    have hs : ∀ x ∈ p0 ++ p1 ++ p2, W.sameAt W' x := fun x hx => hg.same (hlt x hx)
    rw [List.append_assoc]
    exact trodAll_mk3 (WideElems.Trod_stays laidOut (by kernel_rfl) (of_decide_eq_true (by kernel_rfl)) h0k (fun x hx => hs x (by simp [hx])) (fun x hx => hsp x (by simp [hx])))
      (WideElems.Trod_stays laidOut (by kernel_rfl) (of_decide_eq_true (by kernel_rfl)) h1k (fun x hx => hs x (by simp [hx])) (fun x hx => hsp x (by simp [hx])))
      (WideElems.Trod_stays laidOut (by kernel_rfl) (of_decide_eq_true (by kernel_rfl)) h2k (fun x hx => hs x (by simp [hx])) (fun x hx => hsp x (by simp [hx])))
  have hv1 : Value.okWide Try.prog W .any base 23 v1 := hval 1 23 _ rfl rfl
  go_open 0 n
  go_open 2 leave
  go_open 1 xs
  · obtain ⟨hs, hb⟩ := slice_block Try.underlying23 hv1
    exact lsteps_walk hb hs xs_le xs_all (fun i hi => cell_xs i (by omega)) _ _
  · exact lsteps_walk_nil W _ _

theorem steps_over : Ytpcddenijmhbfaa.Rows.counterStepsRow.holds Ytpcddenijmhbfaa.Try.pinned (OpenSpec.ofChange Ytpcddenijmhbfaa.Rows.counterStepsSpec) :=
  OpenClaim.holds_of_wide 4 Try.f4 rfl rfl rfl rfl rfl rfl rfl ⟨rfl, rfl, rfl, rfl, rfl⟩ rfl rfl rfl rfl rfl (by kernel_rfl) Try.func4 (by kernel_rfl)
    (of_decide_eq_true (by kernel_rfl)) (by unfold Func.isWrapper; first | (rw [if_pos (by decide +kernel)]; kernel_rfl) | (rw [if_neg (by decide +kernel)]; exact ⟨rfl, rfl⟩))
    (fun os started H enc _ => steps_lifted os started H enc)

theorem steps_proved : Ytpcddenijmhbfaa.Rows.CounterStepsSaid :=
  steps_over
end Go.Proofs.Ytpcddenijmhbfaa.Steps
