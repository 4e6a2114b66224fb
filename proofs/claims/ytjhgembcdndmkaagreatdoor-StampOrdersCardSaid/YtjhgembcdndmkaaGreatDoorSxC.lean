import Derived.ProofKit
import Derived.OpenShut
import Derived.Test.YtjhgembcdndmkaaGreatDoorSxB
/- THE WALK'S PARTS, part C: what the functions of the law compute, over the abstract machine that stands beside this text. No condition. -/
set_option linter.unusedSimpArgs false
set_option linter.unusedVariables false
namespace Go.Proofs.YtjhgembcdndmkaaGreatDoor.St
open Go Go.Proofs.YtjhgembcdndmkaaGreatDoor.Am Go.Proofs Go.RowKit
section
attribute [local irreducible] Tree
theorem tree_stamps : treeB Tryz.prog (0 + 4 + 1) 69 = true := by kernel_rfl
theorem tree_names : treeB Tryz.prog (0 + 3 + 1) 70 = true := by kernel_rfl
theorem fix_holds {h : Hp} {id : Pos} {L : List AV} (f : Fix h id L) : XB.Holds h ⟨id, 0, false, L⟩ := by
  obtain ⟨ho, ser, c, hi, m, ro, fz, e, hw, hl⟩ := f
  exact ⟨ho, ser, c, hi, m, ro, fz, e, hw, hl, fun q => by cases q⟩
theorem name_of {P : Program} {h : Hp} {d : Nat} {tN tB ti tj ts : TypeId} {n0 n1 b0 b1 : Field} {l : List AV} (hN : P.underlying tN = some (.struct #[n0, n1])) (hB : P.underlying tB = some (.struct #[b0, b1]))
    (cN : P.cellsOf tN = 3) (cB : P.cellsOf tB = 2) (hi : P.underlying ti = some (.int .i64)) (hj : P.underlying tj = some (.int .i64)) (hs : P.underlying ts = some .string) (ci : P.cellsOf ti = 1) (cj : P.cellsOf tj = 1) (cs : P.cellsOf ts = 1)
    (q0 : n0.type = tB ∧ n0.offset = 0) (q1 : n1.type = ti ∧ n1.offset = 2) (r0 : b0.type = tj ∧ b0.offset = 0) (r1 : b1.type = ts ∧ b1.offset = 1)
    (a : Tree P h (d + 3) tN l) : ∃ r s n, l = [int64 r, strOf s, int64 n] ∧ s.length ≤ reachBytes := by
  obtain ⟨q, nf⟩ := a.of_struct (d := d + 2) hN
  rw [cN] at q
  match l, q with
  | [x1, x2, x3], _ =>
    have m0 := nf n0 (by simp)
    have m1 := nf n1 (by simp)
    rw [q0.1, q0.2, cB] at m0
    rw [q1.1, q1.2, ci] at m1
    simp only [List.drop_zero, List.drop_succ_cons, List.take_succ_cons, List.take_zero] at m0 m1
    obtain ⟨n, e3, _⟩ := m1.of_int (d := d + 1) hi
    obtain ⟨_, bf⟩ := m0.of_struct (d := d + 1) hB
    have o0 := bf b0 (by simp)
    have o1 := bf b1 (by simp)
    rw [r0.1, r0.2, cj] at o0
    rw [r1.1, r1.2, cs] at o1
    simp only [List.drop_zero, List.drop_succ_cons, List.take_succ_cons, List.take_zero] at o0 o1
    obtain ⟨r, e1, _⟩ := o0.of_int (d := d) hj
    obtain ⟨s, e2, hs'⟩ := o1.of_string (d := d) hs
    cases e1; cases e2; cases e3
    exact ⟨r, s, n, rfl, hs'⟩
theorem stamp_of {P : Program} {h : Hp} {d : Nat} {tS tN tB ti tj ts : TypeId} {f0 f1 f2 n0 n1 b0 b1 : Field} {l : List AV} (hS : P.underlying tS = some (.struct #[f0, f1, f2])) (hN : P.underlying tN = some (.struct #[n0, n1])) (hB : P.underlying tB = some (.struct #[b0, b1]))
    (cS : P.cellsOf tS = 5) (cN : P.cellsOf tN = 3) (cB : P.cellsOf tB = 2) (hi : P.underlying ti = some (.int .i64)) (hj : P.underlying tj = some (.int .i64)) (hs : P.underlying ts = some .string) (ci : P.cellsOf ti = 1) (cj : P.cellsOf tj = 1) (cs : P.cellsOf ts = 1)
    (p0 : f0.type = ti ∧ f0.offset = 0) (p1 : f1.type = tN ∧ f1.offset = 1) (p2 : f2.type = tj ∧ f2.offset = 4) (q0 : n0.type = tB ∧ n0.offset = 0) (q1 : n1.type = ti ∧ n1.offset = 2) (r0 : b0.type = tj ∧ b0.offset = 0) (r1 : b1.type = ts ∧ b1.offset = 1)
    (a : Tree P h (d + 4) tS l) : ∃ x : Stp, l = stA x ∧ x.s.length ≤ reachBytes := by
  obtain ⟨q, qf⟩ := a.of_struct (d := d + 3) hS
  rw [cS] at q
  match l, q with
  | [x0, x1, x2, x3, x4], _ =>
    have k0 := qf f0 (by simp)
    have k1 := qf f1 (by simp)
    have k2 := qf f2 (by simp)
    rw [p0.1, p0.2, ci] at k0
    rw [p1.1, p1.2, cN] at k1
    rw [p2.1, p2.2, cj] at k2
    simp only [List.drop_zero, List.drop_succ_cons, List.take_succ_cons, List.take_zero] at k0 k1 k2
    obtain ⟨g, e0, _⟩ := k0.of_int (d := d + 2) hi
    obtain ⟨i, e4, _⟩ := k2.of_int (d := d + 2) hj
    obtain ⟨r, s, n, e1, hl⟩ := name_of hN hB cN cB hi hj hs ci cj cs q0 q1 r0 r1 k1
    cases e0; cases e1; cases e4
    exact ⟨⟨g, r, s, n, i⟩, rfl, hl⟩
theorem stamp_cells {h : Hp} {l : List AV} (t : Tree Tryz.prog h (0 + 4) 37 l) : ∃ x : Stp, l = stA x ∧ x.s.length ≤ reachBytes :=
  stamp_of (d := 0) Tryz.underlying37 Tryz.underlying31 Tryz.underlying24 (by kernel_rfl) (by kernel_rfl) (by kernel_rfl) Tryz.underlying2 Tryz.underlying3 Tryz.underlying9 (by kernel_rfl) (by kernel_rfl) (by kernel_rfl) ⟨rfl, rfl⟩ ⟨rfl, rfl⟩ ⟨rfl, rfl⟩ ⟨rfl, rfl⟩ ⟨rfl, rfl⟩ ⟨rfl, rfl⟩ ⟨rfl, rfl⟩ t
theorem name_cells {h : Hp} {l : List AV} (t : Tree Tryz.prog h (0 + 3) 31 l) : ∃ x : Nm, l = nmA x ∧ x.2.1.length ≤ reachBytes := by
  obtain ⟨r, s, n, e, hl⟩ := name_of (d := 0) Tryz.underlying31 Tryz.underlying24 (by kernel_rfl) (by kernel_rfl) Tryz.underlying2 Tryz.underlying3 Tryz.underlying9 (by kernel_rfl) (by kernel_rfl) (by kernel_rfl) ⟨rfl, rfl⟩ ⟨rfl, rfl⟩ ⟨rfl, rfl⟩ ⟨rfl, rfl⟩ t
  exact ⟨(r, s, n), e, hl⟩
theorem three_of {P : Program} {h : Hp} {d : Nat} {tA tS : TypeId} {l : List AV} (hA : P.underlying tA = some (.array 3 tS)) (c5 : P.cellsOf tS = 5) (a : Tree P h (d + 1) tA l) : ∃ x y z, l = x ++ (y ++ z) ∧ Tree P h d tS x ∧ Tree P h d tS y ∧ Tree P h d tS z := by
  obtain ⟨hl, ht⟩ := a.of_array hA
  rw [c5] at hl ht
  have a1 := ht 0 (by omega)
  have a2 := ht 1 (by omega)
  have a3 := ht 2 (by omega)
  match l, hl with
  | [x0, x1, x2, x3, x4, x5, x6, x7, x8, x9, x10, x11, x12, x13, x14], _ => exact ⟨_, _, _, rfl, a1, a2, a3⟩
theorem stamps_cells {h : Hp} {l : List AV} (t : Tree Tryz.prog h (0 + 4 + 1) 69 l) : ∃ a b c : Stp, l = arrA a b c ∧ a.s.length ≤ reachBytes ∧ b.s.length ≤ reachBytes ∧ c.s.length ≤ reachBytes := by
  obtain ⟨x, y, z, e, k1, k2, k3⟩ := three_of Tryz.underlying69 (by kernel_rfl) t
  obtain ⟨a, e1, h1⟩ := stamp_cells k1
  obtain ⟨b, e2, h2⟩ := stamp_cells k2
  obtain ⟨c, e3, h3⟩ := stamp_cells k3
  subst e1; subst e2; subst e3
  exact ⟨a, b, c, e, h1, h2, h3⟩
theorem arg_rows {P : Program} {h : Hp} {dd : Nat} {t e : TypeId} {v : AV} {p0 : Pos} (hd : P.underlying t = some (.slice e)) (hc : P.cellsOf e = 3) (hx3 : ∀ l, Tree P h dd e l → ∃ x : Nm, l = nmA x ∧ x.2.1.length ≤ reachBytes) (a : Tree P h (dd + 1) t [v]) (hz : ∃ ser c hi m ro fz, T.get p0 h.heap = some (.cells ser c 0 hi 0 m ro fz) ∧ c.wf ∧ p0.num < h.next.num) : ∃ v' d, (∀ φ x, Rel φ v x → Rel φ v' x) ∧ ArgN v' d ∧ SlC h v' (flN d) ∧ ∀ y ∈ d, y.2.1.length ≤ reachBytes := by
  rcases a.of_slice hd with q | ⟨id, g, off, q⟩ | ⟨id, n, cap, L, q, hn, hw, fx, hL, hx⟩
  · cases q; exact ⟨.nilSl, [], fun _ _ r => r, .inl ⟨rfl, rfl⟩, .nil, fun _ q => by cases q⟩
  · rw [hc] at q
    cases q
    obtain ⟨ser, c, hi, m, ro, fz, e1, e2, e3⟩ := hz
    refine ⟨.sl p0 0 0 0 0 true 3, [], fun φ x r => ?_, .inr ⟨p0, 0, 0, true, rfl⟩, ?_, fun _ q => by cases q⟩
    · cases r with
      | @sl _ _ _ _ _ _ _ _ _ _ _ c h hb hs hl hc hlc hx ho =>
        have : c = 0 := hx rfl
        subst this
        exact .sl0
      | sl0 => exact .sl0
    have k : XB.Holds h ⟨p0, 0, false, c.toL⟩ := ⟨e3, ser, c, hi, m, ro, fz, e1, e2, rfl, fun q => by cases q⟩
    exact .mk (off := 0) (n := 0) (es := 3) k (Nat.zero_le _)
  · rw [hc] at q
    cases q
    rw [hc] at hL
    have key : ∀ (k : Nat), k ≤ cap → ∃ d : List Nm, L.take (k * 3) = flN d ∧ d.length = k ∧ ∀ y ∈ d, y.2.1.length ≤ reachBytes := by
      intro k
      induction k with
      | zero => exact fun _ => ⟨[], rfl, rfl, fun _ q => by cases q⟩
      | succ k ih =>
        intro hk
        obtain ⟨d, e1, e2, e5⟩ := ih (by omega)
        have := hx k (by omega)
        rw [hc] at this
        obtain ⟨x, e3, hs⟩ := hx3 _ this
        refine ⟨d ++ [x], ?_, by simp [e2], fun y hy => ?_⟩
        · rw [Nat.succ_mul, List.take_add, e1, e3, flN_app, flN_one]
        · rcases List.mem_append.1 hy with hy | hy
          · exact e5 y hy
          · rw [List.mem_singleton.1 hy]; exact hs
    obtain ⟨d, e1, e2, e3⟩ := key n hn
    refine ⟨_, d, fun _ _ r => r, .inr ⟨id, 0, cap, true, by rw [e2]⟩, ?_, e3⟩
    have := SlC.mk (off := 0) (n := n) (es := 3) (cap := cap) (ex := true) (fix_holds fx) (by show 0 + n * 3 ≤ L.length; omega)
    rw [List.drop_zero, e1] at this
    exact this
theorem arg_names {h : Hp} {v : AV} {p0 : Pos} (a : Tree Tryz.prog h (0 + 3 + 1) 70 [v]) (hz : ∃ ser c hi m ro fz, T.get p0 h.heap = some (.cells ser c 0 hi 0 m ro fz) ∧ c.wf ∧ p0.num < h.next.num) : ∃ v' d, (∀ φ x, Rel φ v x → Rel φ v' x) ∧ ArgN v' d ∧ SlC h v' (flN d) ∧ ∀ y ∈ d, y.2.1.length ≤ reachBytes :=
  arg_rows Tryz.underlying70 (by kernel_rfl) (fun _ t => name_cells t) a hz
theorem orders_walk {H : Type} {enc : TypeId × Value → H} {W : World} {k0 : Array Value} {vb : Value} {d0 d1 : DataW H} {p0 p1 : List MemPlace} (h0 : DataW.Trod enc Tryz.prog W 0 (fun _ => true) true 69 (.agg k0) d0 p0) (hw0 : ∀ n ∈ d0.weights Tryz.prog 69, n ≤ reachBytes)
    (hc : vb.cells.toList = [vb]) (h1 : DataW.Trod enc Tryz.prog W 0 (fun _ => true) true 70 vb d1 p1) (hw1 : ∀ n ∈ d1.weights Tryz.prog 70, n ≤ reachBytes)
    {m : Int} {u1 u2 : TypeId} {v1 v2 : Value} {a1 a2 : Addr} {l0 l1 l2 l3 : TypeId} {f0 f1 f2 f3 : Nat × Nat} (hsz : 4 ≤ W.heap.size)
    (c0 : W.heap[0]? = some (.cells #[.int .i64 m] l0 f0)) (c1 : W.heap[1]? = some (.cells #[.iface u1 v1] l1 f1)) (c2 : W.heap[2]? = some (.cells #[.iface u2 v2] l2 f2)) (c3 : W.heap[3]? = some (.cells (Lib.pow10Tab.map fun z => Value.int .u64 z).toArray l3 f3))
    (i1 : IsErr W u1 v1 a1) (i2 : IsErr W u2 v2 a2) : Calls Tryz.prog 6 #[.agg k0, vb] W fun e w' => e = .returned (.bool true) ∧ Below W.heap.size W w' := by
  obtain ⟨φ, e1, e2, hR, ro, hg⟩ := start_has hsz c0 c1 c2 c3 i1 i2
  obtain ⟨n0, h0⟩ := h0
  obtain ⟨n1, h1⟩ := h1
  obtain ⟨φ0, hp0, L0, r0, z0, o0, _, m0, s0, t0, _⟩ := open_treeT (0 + 4 + 1) n0 69 _ _ tree_stamps h0 hw0 _ _ hR rfl ro
  obtain ⟨φ1, hp1, L1, r1, z1, o1, le1, m1, s1, t1, _⟩ := open_treeT (0 + 3 + 1) n1 70 _ _ tree_names h1 hw1 _ _ r0 z0 o0
  have hg1 := (hg.more m0).more m1
  obtain ⟨a, b, c, rfl, ha, hb, hcc⟩ := stamps_cells t0
  have hc' : RelL φ1 L1 [vb] := by rw [← hc]; exact s1
  have hr : reachBytes ≤ 9000000000000000000 := Nat.le_of_ble_eq_true rfl
  match L1, hc'.length with
  | [vs], _ =>
    obtain ⟨q1, q2, _⟩ := Cells.ofL_spec [int64 m]
    obtain ⟨v', d, hrel, hA, sc, hd⟩ := arg_names (p0 := Pos.ofNat 0) t1 ⟨_, _, _, _, _, _, hg1.max, q1, by have := hg1.old; rw [Pos.num_ofNat] at this ⊢; omega⟩
    have hf : AmFn Tryz.prog 6 [.agg (arrA a b c), v'] hp1 (.bool true) hp1 :=
      orders_ok.2 _ [flN d] _ _ hg1 rfl (mkEnt_spec (fun _ _ _ _ => rfl) (a, b, c, v', d) ⟨⟨Nat.le_trans ha hr, Nat.le_trans hb hr, Nat.le_trans hcc hr⟩, hA, fun y hy => Nat.le_trans (hd y hy) hr⟩) ⟨flN d, [], rfl, ⟨v', rfl, sc⟩, rfl⟩
    have hc2 : RelL φ1 [.agg (arrA a b c), v'] [.agg k0, vb] := by
      cases hc' with
      | cons q _ => exact .cons (.agg (s0.mono le1)) (.cons (hrel _ _ q) .nil)
    refine (hf.calls r1 z1 (xs := #[.agg k0, vb]) hc2).mono fun e w' ⟨φ', z, q1, q2, q3, q4⟩ => ?_
    cases q2
    exact ⟨q1, q4.below o1⟩
end
end Go.Proofs.YtjhgembcdndmkaaGreatDoor.St
