import GoSem.ClaimJoined
import Derived.OpenShut
import Derived.Test.YtialpccieggaoaaGreatDoorAmP
/- THE ABSTRACT MACHINE, part Q: a machine over values without block numbers, run by the kernel, and the proof that the model's machine does what it does. No condition. -/
set_option linter.unusedSimpArgs false
set_option linter.unusedVariables false
namespace Go.Proofs.YtialpccieggaoaaGreatDoor.Am

theorem laid_mem {P : Program} {w : World} : ∀ {laid : List (String × DataW Unit)} {ps : List MemPlace}, DataW.LaidVars P w laid ps → ∀ x ∈ laid, ∃ g t cs fuel p, P.globalNamed x.1 = some g ∧ (P.globals[g]?).map (·.type) = some t ∧ w.var? P x.1 = some cs ∧
    DataW.trod (fun _ => ()) P w 0 (fun _ => true) false fuel t cs.toList = some (x.2, p)
  | [], _, _, x, m => by cases m
  | (n, d) :: r, ps, h, x, m => by
    obtain ⟨g, t, cs, fuel, p, q, h1, h2, h3, h4, h5, _⟩ := h
    rcases List.mem_cons.1 m with rfl | m
    · exact ⟨g, t, cs, fuel, p, h1, h2, h3, h4⟩
    · exact laid_mem h5 x m

theorem var_cells {P : Program} {w : World} {n : String} {g : Nat} {cs : Array Value} (hg : P.globalNamed n = some g) (hv : w.var? P n = some cs) : ∃ el fr, w.heap[g]? = some (.cells cs el fr) := by
  unfold World.var? at hv
  rw [hg, Option.bind_some] at hv
  split at hv
  · rename_i C el fr h
    cases hv
    exact ⟨el, fr, h⟩
  · cases hv

/-- A variable of an interface's type, not nil: its value is not known. -/
theorem varR_ifc {P : Program} {w : World} {n : String} {g : Nat} {cs : Array Value} {t : TypeId} {fuel : Nat} {nm : String} {d : DataW Unit} {p : List MemPlace} {ms : Array (String × TypeId)} (hg : P.globalNamed n = some g) (hv : w.var? P n = some cs)
    (ht : P.underlying t = some (.interface ms)) (h : DataW.trod (fun _ => ()) P w 0 (fun _ => true) false fuel t cs.toList = some (.iface nm d, p)) : VarR w g (.lst 1 [.unk]) := by
  obtain ⟨el, fr, hc⟩ := var_cells hg hv
  refine ⟨rfl, cs, el, fr, hc, fun i v hi hl => ?_⟩
  have : i = 0 := by have : i < 1 := hi; omega
  subst this
  cases hl
  have key : ∃ u v, cs.toList = [.iface u v] := by
    cases fuel with
    | zero => cases h
    | succ fuel =>
      unfold DataW.trod at h
      rw [ht] at h
      generalize cs.toList = l at h
      cases l with
      | nil => cases h
      | cons x r => cases r with
        | cons y r => cases x <;> cases h
        | nil => cases x <;> first | exact ⟨_, _, rfl⟩ | (cases h; done)
  obtain ⟨u, v, e⟩ := key
  refine ⟨.iface u v, ?_, fun φ => .unk rfl⟩
  rw [← Array.getElem?_toList, e]; rfl

/-- A variable that is a row of numbers. -/
theorem varR_ints {P : Program} {w : World} {n : String} {g : Nat} {cs : Array Value} {t e : TypeId} {m : Nat} {k : IntKind} {fuel : Nat} {ns : List Int} {p : List MemPlace} (hg : P.globalNamed n = some g) (hv : w.var? P n = some cs)
    (ht : P.underlying t = some (.array m e)) (he : P.underlying e = some (.int k)) (h1 : P.cellsOf e = 1) (h : DataW.trod (fun _ => ()) P w 0 (fun _ => true) false fuel t cs.toList = some (.agg (ns.map fun x => .lit (.int k x)), p)) :
    VarR w g (.lst ns.length (ns.map fun x => .int k x)) := by
  obtain ⟨el, fr, hc⟩ := var_cells hg hv
  refine ⟨by simp [Cells.wf], cs, el, fr, hc, fun i v hi hl => ?_⟩
  have hi : i < ns.length := hi
  have hl : (ns.map fun x => AV.int k x)[i]? = some v := hl
  rw [List.getElem?_map, List.getElem?_eq_getElem hi, Option.map_some, Option.some.injEq] at hl
  subst hl
  refine ⟨.int k ns[i], ?_, fun φ => .int _ _⟩
  cases fuel with
  | zero => cases h
  | succ fuel =>
    unfold DataW.trod at h
    rw [ht] at h
    simp only at h
    split at h
    · rename_i hl
      cases hq : (List.range m).mapM (fun i => DataW.trod (fun _ => ()) P w 0 (fun _ => true) false fuel e ((cs.toList.drop (i * P.cellsOf e)).take (P.cellsOf e))) with
      | none => rw [hq] at h; cases h
      | some xs =>
        rw [hq, Option.map_some, Option.some.injEq, Prod.mk.injEq, DataW.agg.injEq] at h
        obtain ⟨h, _⟩ := h
        have hlen : xs.length = m := by simpa using mapM_some_length hq
        have hns : ns.length = xs.length := by have := congrArg List.length h; simpa using this.symm
        have hix : i < xs.length := by omega
        have hy2 := mapM_some_get hq i i (by rw [List.getElem?_range (by omega)])
        rw [List.getElem?_eq_getElem hix] at hy2
        have hy1 : xs[i]? = some xs[i] := List.getElem?_eq_getElem hix
        generalize xs[i] = y at hy1 hy2
        have hyi : y.1 = .lit (.int k ns[i]) := by
          have q : (xs.map fun x => x.1)[i]? = (ns.map fun x => DataW.lit (.int k x))[i]? := by rw [h]
          rw [List.getElem?_map, List.getElem?_map, hy1, List.getElem?_eq_getElem hi] at q
          simpa using q
        rw [h1, Nat.mul_one] at hy2
        cases fuel with
        | zero => cases hy2
        | succ fuel =>
          unfold DataW.trod at hy2
          rw [he] at hy2
          obtain ⟨y1, y2⟩ := y
          simp only at hyi
          subst hyi
          rw [← Array.getElem?_toList]
          generalize hr : (cs.toList.drop i).take 1 = r at hy2
          have hri : r[0]? = cs.toList[i]? := by rw [← hr, List.getElem?_take_of_lt (by omega), List.getElem?_drop]; rfl
          cases r with
          | nil => cases hy2
          | cons x r => cases r with
            | cons y r => cases x <;> cases hy2
            | nil =>
              rw [← hri]
              cases x <;> first | (cases hy2; done) | skip
              simp only at hy2
              split at hy2
              · rename_i hk
                cases hy2
                rw [hk.1]; rfl
              · cases hy2
    · cases h
/-- A variable of type int of which nothing is said: some number. -/
theorem varR_int {P : Program} {w : World} {g : Nat} {t : TypeId} {zero : Array Value} (n : Nat) (h : w.ShapedOpen P) (hg : g < P.globals.size) (h0 : ((begin P (fun _ _ => 0) default).world.heap[g]?).bind Obj.row? = some (zero, t)) (hz : zero.size = 1)
    (hb : P.buildable t = true) (hc : P.cellTypes P.depth t = some [t]) (hu : P.underlying t = some (.int .i64)) : VarR w g (.lst 1 [.rng 0 n]) := by
  obtain ⟨cs, hh, hs, hr⟩ := h.1 g zero t hg h0
  obtain ⟨ts, hts, _, hall⟩ := hr hb
  rw [hc] at hts
  cases hts
  have h1 : 0 < cs.size := by omega
  obtain ⟨u, hu', hok⟩ := hall 0 cs[0] (by simp [h1])
  have : u = t := by simpa using hu'.symm
  subst this
  refine ⟨rfl, cs, _, _, hh, fun i v hi hl => ?_⟩
  have : i = 0 := by have : i < 1 := hi; omega
  subst this
  cases hl
  refine ⟨cs[0], by simp [h1], fun φ => ?_⟩
  unfold Cell.ok at hok
  rw [hu] at hok
  cases hv : cs[0] with
  | int k m =>
    rw [hv] at hok
    obtain ⟨q, _⟩ := hok
    subst q
    exact .rng trivial
  | _ => rw [hv] at hok; first | exact hok.elim | simp at hok
end Go.Proofs.YtialpccieggaoaaGreatDoor.Am
