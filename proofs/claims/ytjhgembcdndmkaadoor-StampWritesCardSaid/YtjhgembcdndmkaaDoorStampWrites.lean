/- 'Rows.StampWritesCardSaid': the law estuary/estuarylaw06.StampWrites holds: what its functions compute over the abstract machine (the texts beside this one) is what it asks. No condition. The card is tied by the given tie. -/
import Derived.Test.YtjhgembcdndmkaaDoorRows
import Derived.Test.YtjhgembcdndmkaaDoorTie
import Derived.Test.YtjhgembcdndmkaaDoorCards
import Derived.WalkKit
import Derived.ProofKit
import Derived.OpenShut
import Derived.LaidMore
import Derived.Lay
import Derived.SevenTiedAt
import Derived.Stop.Joined
import Derived.LaidSub
import Derived.Lib.LaidTab
import Derived.SizedLaws
import Derived.Carry
import Derived.Test.YtjhgembcdndmkaaDoorStD
import Derived.Test.YtjhgembcdndmkaaDoorStampWritesFacts
namespace Go.Proofs.YtjhgembcdndmkaaDoor.stampWrites
open Go.ChangeShapes Go.WideShapes Go.ChangeAt Go.RowKit

theorem own : ownKnob Tryd.prog.godebug = none := by kernel_rfl

theorem laidOut : laidOutB Tryd.prog = true := by kernel_rfl

/-- The library's table, as the row lists it. -/
theorem table_known {w : World} (h : laidMetH Tryd.prog Rows.stampWritesRow.laid w) : Lib.TabIs Tryd.prog w Tryd.tabName .u64 Lib.pow10Tab := by
  have q := h.filter (fun x => x.1 == Tryd.tabName)
  have e : (Rows.stampWritesRow.laid.filter fun x => x.1 == Tryd.tabName) = [(Tryd.tabName, Lib.tabData .u64 Lib.pow10Tab)] := by kernel_rfl
  rw [e, MakeChecks.laidMetH_plain _ _ _ (by kernel_rfl)] at q
  exact Lib.tabIs_of_head (g := 0) (by kernel_rfl) (by kernel_rfl) Tryd.underlying108 Tryd.underlying56 (by kernel_rfl) (by kernel_rfl) q

/-- It lies in memory. -/
theorem table_lies {w : World} (h : Lib.TabIs Tryd.prog w Tryd.tabName .u64 Lib.pow10Tab) : Am.globN Tryd.prog ≤ w.heap.size := by
  unfold Lib.TabIs World.var? at h
  rw [show Tryd.prog.globalNamed Tryd.tabName = some 0 from by kernel_rfl] at h
  simp only [Option.bind_some] at h
  split at h
  · rename_i e
    have := (Array.getElem?_eq_some_iff.1 e).1
    exact this
  · cases h

set_option maxRecDepth 100000 in
theorem lifted (os : Os) (started : os.Started) (H : Type) (enc : TypeId × Value → H) :
    ReturnsInHanded {} Tryd.checked os 3 .any (fun w args => (Rows.stampWritesSpec.pre enc Tryd.prog Tryd.f3 Rows.stampWritesRow.domain false w args ∧ laidMetH Tryd.prog Rows.stampWritesRow.laid w) ∧ sizedMet enc Tryd.prog Tryd.f3 (OpenSpec.ofChange Rows.stampWritesSpec) false w args)
      (Rows.stampWritesSpec.post enc Tryd.prog Tryd.f3 false true false false) := by
  refine returnsInHanded_of_change_and (C := Tryd.checked) (X := fun w _ => laidMetH Tryd.prog Rows.stampWritesRow.laid w) (fun _ _ _ hh h => h.of_heap hh) own started (by kernel_rfl) Tryd.func3
    (ChangeSpec.witness_shaped (enc := enc) (C := Tryd.checked) (os := os) (X := fun w _ => laidMetH Tryd.prog Rows.stampWritesRow.laid w) false (World.laidAll Tryd.prog os Rows.stampWritesRow.laid) #[.agg #[.int .i64 0, .int .i64 0, .string ⟨#[]⟩, .int .i64 0, .int .i64 0]] 8 (World.laidAll_os _ _ _)
      (World.shaped_of_ZipB (by kernel_rfl) (by kernel_rfl)) (by kernel_rfl) (by kernel_rfl) (by kernel_rfl)
      (by rw [MakeChecks.laidMetH_plain _ _ _ (by kernel_rfl)]; exact laidMet_laidAll _ (by kernel_rfl) (by kernel_rfl))) ?_
  intro W base args ds gs before hval0 hW hc hsz hlaid _
  have hval : ∀ (j : Nat) t v, Tryd.f3.params[j]? = some t → args[j]? = some v → Value.okWide Tryd.prog W .any base t v := hval0
  have hW' := hW
  obtain ⟨p, q, hA0, hV, rfl, _, _⟩ := hW
  have hA : DataW.TrodAll enc Tryd.prog W 0 (fun _ => true) true Tryd.f3.params.toList args.toList ds p := hA0
  rw [Tryd.params3] at hA hval
  obtain ⟨v0, d0, rfl, rfl, h0⟩ := trodAll_one hA
  have h0k := h0
  obtain ⟨rfl, rfl⟩ := trodVars_none hV
  clear hA0 hval0
  simp only [List.append_nil] at hW'
  have hlt := hW'.lt
  have hw0 : ∀ n ∈ d0.weights Tryd.prog 27, n ≤ reachBytes := fun n hn => by
    have ht : (Tryd.f3.params.toList ++ Rows.stampWritesSpec.plain.varTypes Tryd.checked.prog)[0]? = some 27 := by rw [Tryd.params3]; rfl
    exact of_decide_eq_true (List.all_eq_true.1 hsz n (DataW.weights_mem_each (P := Tryd.prog) (ds := [d0] ++ []) (d := d0) ht rfl n hn))
  have hv0 : Value.okWide Tryd.prog W .any base 27 v0 := hval 0 27 _ rfl rfl
  obtain ⟨c0, rfl, _⟩ := okWide_struct Tryd.underlying27 hv0
  refine (St.writes_walk (by decide) rfl (by kernel_rfl) (table_known hlaid) (table_lies (table_known hlaid)) h0k hw0).mono fun e W' ⟨he, hg⟩ => ?_
  subst he
  refine ⟨_, rfl, Am.post_of_below (pa := p) (pv := []) hW' (fun _ _ _ => trodAll_cons_mk (shut_bool Tryd.underlying4 _) trodAll_mk0) (fun sp hsp => ?_) (fun _ _ => rfl) (by simp)
    hg (ok_one (by kernel_rfl) rfl (okWide_bool_mk Tryd.underlying4 _))⟩
  exact trodAll_mk1 (WideElems.Trod_stays laidOut (by kernel_rfl) (of_decide_eq_true (by kernel_rfl)) h0k (fun x hx => hg.same (hlt x hx)) (fun x hx => hsp x hx))

theorem over : Rows.StampWritesSaid :=
  OpenClaim.holds_of_wide 3 Tryd.f3 rfl rfl rfl rfl rfl rfl rfl ⟨rfl, rfl, rfl, rfl, rfl⟩ rfl rfl rfl rfl rfl (by kernel_rfl) Tryd.func3 stampWrites_closed
    (of_decide_eq_true (by kernel_rfl)) (by unfold Func.isWrapper; first | (rw [if_pos (by decide +kernel)]; kernel_rfl) | (rw [if_neg (by decide +kernel)]; exact ⟨rfl, rfl⟩))
    (fun os started H enc _ => lifted os started H enc)

theorem fact_w : Rows.stampWritesRow.wfByText (OpenSpec.ofChange Rows.stampWritesSpec) = true := by kernel_rfl

theorem fact_m : Tryd.pinned.checked.prog.mainIs = some (true, ("cf4c9c24772e554530a24b9f0dbd4de6f15e0777a00166416844a567626eaa53").toList) := by kernel_rfl

theorem fact_n : Tryd.prog.funcNamed Tryd.f3.name = some 3 := by kernel_rfl

theorem fact_l : true = Tryd.pinned.checked.prog.looks [] := by kernel_rfl

theorem goes_none {P : Program} (h : P.funcs.any Func.goes = false) (f : FuncId) : P.goes f = false := by
  have key : ∀ g : FuncId, (P.funcs[g]?).any Func.goes = false := by
    intro g
    cases e : P.funcs[g]? with
    | none => rfl
    | some fn =>
      have hm := Array.mem_of_getElem? e
      show Func.goes fn = false
      cases q : Func.goes fn with
      | false => rfl
      | true => rw [Array.any_eq_true'.2 ⟨fn, hm, q⟩] at h; cases h
  unfold Program.goes
  rw [h, Bool.and_false, Bool.or_false]
  simp [key]

theorem goes_by {c : OpenClaim} {P : Program} (hs : c.start = .entering) (h : P.funcs.any Func.goes = false) : false = c.goesBy P := by
  unfold OpenClaim.goesBy Program.goesAt Program.goesFrom
  rw [hs]
  cases P.funcNamed c.func with
  | none => rfl
  | some f => show false = (P.goes f || false); rw [goes_none h f]; rfl

theorem fact_go : Tryd.pinned.checked.prog.funcs.any Func.goes = false := by kernel_rfl

theorem fact_g : false = Rows.stampWritesRow.goesBy Tryd.pinned.checked.prog := goes_by rfl fact_go

/-- ████ THE STATEMENT ████ -/
theorem proved : Rows.StampWritesCardSaid :=
  Claim7.holds_tied_plain_at .later [] [.data, .data, .data, .data, .sentinel, .sentinel, .pinned] true (true, "cf4c9c24772e554530a24b9f0dbd4de6f15e0777a00166416844a567626eaa53") true over (fun _ h => by cases h) fact_w (fun _ h => by cases h) stampWrites_row_tie rfl ⟨rfl, rfl⟩ fact_m rfl
    (fun f fn hf hfn => by
      obtain rfl : f = 3 := Option.some.inj (fact_n.symm.trans hf) |>.symm
      obtain rfl : fn = Tryd.f3 := (Option.some.inj (Tryd.func3.symm.trans hfn)).symm
      exact ⟨fact_l, fun j t ht => by
        rw [Tryd.params3] at ht
        rcases j with _ | j
        · simp at ht
          subst ht
          kernel_rfl
        · simp at ht⟩)
    fact_g
#print axioms proved
end Go.Proofs.YtjhgembcdndmkaaDoor.stampWrites
