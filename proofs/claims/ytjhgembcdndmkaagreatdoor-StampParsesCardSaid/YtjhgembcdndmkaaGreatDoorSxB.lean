import Derived.Lib.Join
import Derived.Lib.ItoaLen
import Derived.Lib.ItoaMem
import Derived.Test.YtjhgembcdndmkaaGreatDoorSxA
/- THE WALK'S PARTS, part B: what the functions of the law compute, over the abstract machine that stands beside this text. No condition. -/
set_option linter.unusedSimpArgs false
set_option linter.unusedVariables false
namespace Go.Proofs.YtjhgembcdndmkaaGreatDoor.St
open Go Go.Proofs.YtjhgembcdndmkaaGreatDoor.Am Go.Proofs Go.RowKit
theorem strOf_eq {a b : List UInt8} : (strOf a = strOf b) = (a = b) := propext ⟨strOf_inj, fun e => by rw [e]⟩
theorem byt_eq {a b : List UInt8} : (byt a = byt b) = (a = b) := propext ⟨byt_inj, fun e => by rw [e]⟩
theorem map_strOf_inj : ∀ {a b : List (List UInt8)}, a.map strOf = b.map strOf → a = b
  | [], [], _ => rfl
  | [], _ :: _, e => by cases e
  | _ :: _, [], e => by cases e
  | x :: a, y :: b, e => by
    rw [List.map_cons, List.map_cons, List.cons.injEq] at e
    rw [strOf_inj e.1, map_strOf_inj e.2]
theorem map_strOf_eq {a b : List (List UInt8)} : (a.map strOf = b.map strOf) = (a = b) := propext ⟨map_strOf_inj, fun e => by rw [e]⟩
theorem cells_strOf (s : List UInt8) : (strOf s).cells = [strOf s] := rfl
theorem cells_int (k : IntKind) (z : Int) : (AV.int k z).cells = [.int k z] := rfl
theorem cells_agg (l : List AV) : (AV.agg l).cells = l := rfl
theorem at_int (k : IntKind) (z : Int) : (AV.int k z).atom = true := rfl
theorem at_str (n v : Nat) : (AV.str n v).atom = true := rfl
theorem at_strOf (s : List UInt8) : (strOf s).atom = true := rfl
theorem at_bool (b : Bool) : (AV.bool b).atom = true := rfl
theorem at_sl (id : Pos) (g o n c : Nat) (e : Bool) (k : Nat) : (AV.sl id g o n c e k).atom = true := rfl
theorem at_nil : AV.nilSl.atom = true := rfl
theorem at_ptr (id : Pos) (g o : Nat) : (AV.ptr id g o).atom = true := rfl
theorem cells_bool (b : Bool) : (AV.bool b).cells = [.bool b] := rfl
theorem cells_str (n v : Nat) : (AV.str n v).cells = [.str n v] := rfl
theorem cells_sl (id : Pos) (g o n c : Nat) (e : Bool) (k : Nat) : (AV.sl id g o n c e k).cells = [.sl id g o n c e k] := rfl
theorem cells_nil : AV.nilSl.cells = [.nilSl] := rfl
theorem cells_ptr (id : Pos) (g o : Nat) : (AV.ptr id g o).cells = [.ptr id g o] := rfl
theorem eqAV_str (s : List UInt8) : eqAV 8 (strOf s) (strOf s) = true := by
  show (Nat.beq _ _ && Nat.beq _ _) = true
  rw [beq_iff.2 rfl, beq_iff.2 rfl]; rfl
theorem rel_strOf {φ : Phi} {b : List UInt8} {x : Value} (h : Rel φ (strOf b) x) : x = .string ⟨b.toArray⟩ := by
  cases h with
  | str e hv =>
    rename_i s
    rw [unpack_pack] at e
    congr 1
    cases s with | mk d => cases d with | mk l => cases e; rfl
theorem strOf_relA (φ : Phi) (b : List UInt8) : Rel φ (strOf b) (.string ⟨b.toArray⟩) := strOf_rel φ ⟨b.toArray⟩
theorem relL_one {φ : Phi} {a : AV} {xs : Array Value} (h : RelL φ [a] xs.toList) : ∃ x, xs = #[x] ∧ Rel φ a x := by
  cases xs with | mk l => cases h with | cons p q => cases q; exact ⟨_, rfl, p⟩
theorem relL_two {φ : Phi} {a b : AV} {xs : Array Value} (h : RelL φ [a, b] xs.toList) : ∃ x y, xs = #[x, y] ∧ Rel φ a x ∧ Rel φ b y := by
  cases xs with | mk l => cases h with | cons p q => cases q with | cons p' q' => cases q'; exact ⟨_, _, rfl, p, p'⟩
theorem relL_three {φ : Phi} {a b c : AV} {xs : Array Value} (h : RelL φ [a, b, c] xs.toList) : ∃ x y z, xs = #[x, y, z] ∧ Rel φ a x ∧ Rel φ b y ∧ Rel φ c z := by
  cases xs with | mk l => cases h with | cons p q => cases q with | cons p' q' => cases q' with | cons p2 q2 => cases q2; exact ⟨_, _, _, rfl, p, p', p2⟩
structure HasG (m : Int) (t1 t2 : AV) (h : Hp) : Prop where
  max : T.get (Pos.ofNat 0) h.heap = some (tabB [int64 m])
  syn : T.get (Pos.ofNat 1) h.heap = some (tabB [t1])
  rng : T.get (Pos.ofNat 2) h.heap = some (tabB [t2])
  tab : T.get (Pos.ofNat 3) h.heap = some (tabB (Lib.pow10Tab.map fun z => .int .u64 z))
  isA : ∃ t v, t1 = .ifc t v
  isB : ∃ t v, t2 = .ifc t v
  old : (Pos.ofNat 6).num ≤ h.next.num
section
variable {m : Int} {t1 t2 : AV}
theorem HasG.more {h h' : Hp} (g : HasG m t1 t2 h) (o : Only [] h h') : HasG m t1 t2 h' := by
  have n : ∀ i, i < 6 → (Pos.ofNat i).num < h.next.num := fun i hi => by have := g.old; rw [Pos.num_ofNat] at this ⊢; omega
  exact ⟨by rw [o.same _ (n 0 (by omega)) (by simp)]; exact g.max, by rw [o.same _ (n 1 (by omega)) (by simp)]; exact g.syn, by rw [o.same _ (n 2 (by omega)) (by simp)]; exact g.rng, by rw [o.same _ (n 3 (by omega)) (by simp)]; exact g.tab, g.isA, g.isB, Nat.le_trans g.old o.next⟩
theorem glob_cell {P : Program} {φ : Phi} {h : Hp} {w : World} {g : Nat} {l : List AV} (hR : HR P φ h w) (hg : g < globN P) (ht : T.get (Pos.ofNat g) h.heap = some (tabB l)) {i : Nat} {v : AV} (hv : l[i]? = some v) : ∃ x, w.cell? ⟨g, i, none⟩ = some x ∧ Rel φ v x := by
  obtain ⟨⟨_, _, _, _, _, h5⟩, _⟩ := hR.blk _ _ ht
  obtain ⟨b, s, n, C, el, fr, e1, e2, e3, _, e5⟩ := h5 0 (Nat.le_refl _) (Nat.le_refl _)
  rw [hR.glob g hg] at e1
  cases e1
  obtain ⟨o, x, q1, q2, q3⟩ := e5 i v (Nat.zero_le _) (by rw [if_pos rfl]; exact (List.getElem?_eq_some_iff.1 hv).1) hv
  have : o = i := by omega
  subst this
  exact ⟨x, by unfold World.cell?; simp [e2, q2], q3⟩
theorem glob_lt (g : Nat) (h : g < 4) : g < globN Tryz.prog := h
theorem HasG.maxIs {φ : Phi} {h : Hp} {w : World} (g : HasG m t1 t2 h) (hR : HR Tryz.prog φ h w) : w.cell? ⟨0, 0, none⟩ = some (.int .i64 m) := by
  obtain ⟨x, e, r⟩ := glob_cell hR (glob_lt 0 (by omega)) g.max (i := 0) rfl
  cases r; exact e
theorem HasG.synIs {φ : Phi} {h : Hp} {w : World} (g : HasG m t1 t2 h) (hR : HR Tryz.prog φ h w) : ∃ te pe, w.cell? ⟨1, 0, none⟩ = some (.iface te pe) := by
  obtain ⟨x, e, r⟩ := glob_cell hR (glob_lt 1 (by omega)) g.syn (i := 0) rfl
  obtain ⟨t, v, rfl⟩ := g.isA
  cases r; exact ⟨_, _, e⟩
theorem HasG.rngIs {φ : Phi} {h : Hp} {w : World} (g : HasG m t1 t2 h) (hR : HR Tryz.prog φ h w) : ∃ te pe, w.cell? ⟨2, 0, none⟩ = some (.iface te pe) := by
  obtain ⟨x, e, r⟩ := glob_cell hR (glob_lt 2 (by omega)) g.rng (i := 0) rfl
  obtain ⟨t, v, rfl⟩ := g.isB
  cases r; exact ⟨_, _, e⟩
theorem tab_named : Tryz.prog.globalNamed Tryz.tabName = some 3 := by kernel_rfl
theorem HasG.tabIs {φ : Phi} {h : Hp} {w : World} (g : HasG m t1 t2 h) (hR : HR Tryz.prog φ h w) : Lib.TabIs Tryz.prog w Tryz.tabName .u64 Lib.pow10Tab := by
  obtain ⟨el, fr, e⟩ := tab_of (k := .u64) hR (glob_lt 3 (by omega)) rfl g.tab
  unfold Lib.TabIs World.var?
  rw [tab_named]
  simp [e]
def is1 : AV → Bool
  | .sl _ _ _ _ _ _ es => es == 1
  | _ => false
theorem kit_plain {P : Program} {f : FuncId} {args : List AV} {h : Hp} {v : AV} (a : ∀ φ w xs, HR P φ h w → RelL φ args xs.toList → Calls P f xs w fun e w' => ∃ x, e = .returned x ∧ Rel φ v x ∧ Below w.heap.size w w') : KitH P f args h v h := KitFn.kitH a
noncomputable def e_label : Ent := mkEnt 92 1 [] (fun z_ : (List UInt8) => [strOf z_]) (fun _ => []) (fun z_ => z_.length ≤ 9000) (fun z_ => .plain (.bool (labelB z_)))
theorem f_label : e_label.f = 92 := rfl
theorem x_label {U : List Ent} {b : Pos} {st : XS} (hU : tget U 92 = some e_label) (s : List UInt8) (hp : s.length ≤ 9000) : xcall U b 92 [strOf s] st = some (XR.out b st (.plain (.bool (labelB s)))) :=
  xcall_at hU rfl rfl (mkEnt_spec (by rintro a0 b0 h hc; simp only [List.cons.injEq, AV.agg.injEq, AV.tup.injEq, AV.int.injEq, AV.bool.injEq, AV.ptr.injEq, AV.sl.injEq, strOf_eq, byt_eq, map_strOf_eq, true_and, and_true, Int.natCast_inj] at h hc; simp [h, hc]) s hp)
noncomputable def e_fmt : Ent := mkEnt 107 2 [] (fun z_ : Int => [int64 z_, int64 10]) (fun _ => []) (fun z_ => -9223372036854775808 ≤ z_ ∧ z_ ≤ 9223372036854775807) (fun z_ => .plain (strOf (Lib.itoa z_)))
theorem f_fmt : e_fmt.f = 107 := rfl
theorem x_fmt {U : List Ent} {b : Pos} {st : XS} (hU : tget U 107 = some e_fmt) (n : Int) (hp : -9223372036854775808 ≤ n ∧ n ≤ 9223372036854775807) : xcall U b 107 [int64 n, int64 10] st = some (XR.out b st (.plain (strOf (Lib.itoa n)))) :=
  xcall_at hU rfl rfl (mkEnt_spec (by rintro a0 b0 h hc; simp only [List.cons.injEq, AV.agg.injEq, AV.tup.injEq, AV.int.injEq, AV.bool.injEq, AV.ptr.injEq, AV.sl.injEq, strOf_eq, byt_eq, map_strOf_eq, true_and, and_true, Int.natCast_inj] at h hc; simp [h, hc]) n hp)
noncomputable def e_sjoin : Ent := mkEnt 106 2 [.sl 0] (fun z_ : AV × (List UInt8) × (List (List UInt8)) => [z_.1, strOf z_.2.1]) (fun z_ => [z_.2.2.map strOf]) (fun z_ => is1 z_.1 = true ∧ 0 < z_.2.2.length ∧ z_.2.2.length ≤ 1000 ∧ (Lib.join z_.2.2 z_.2.1).length ≤ 1000000) (fun z_ => .plain (strOf (Lib.join z_.2.2 z_.2.1)))
theorem f_sjoin : e_sjoin.f = 106 := rfl
theorem x_sjoin {U : List Ent} {b : Pos} {st : XS} (hU : tget U 106 = some e_sjoin) (v : AV) (sep : List UInt8) (l : List (List UInt8)) (hp : is1 v = true ∧ 0 < l.length ∧ l.length ≤ 1000 ∧ (Lib.join l sep).length ≤ 1000000) (hq : xqs st.X [v, strOf sep] [.sl 0] = some [l.map strOf]) : xcall U b 106 [v, strOf sep] st = some (XR.out b st (.plain (strOf (Lib.join l sep)))) :=
  xcall_at hU rfl hq (mkEnt_spec (by rintro ⟨a0, a1, a2⟩ ⟨b0, b1, b2⟩ h hc; simp only [List.cons.injEq, AV.agg.injEq, AV.tup.injEq, AV.int.injEq, AV.bool.injEq, AV.ptr.injEq, AV.sl.injEq, strOf_eq, byt_eq, map_strOf_eq, true_and, and_true, Int.natCast_inj] at h hc; simp [h, hc]) (v, sep, l) hp)
noncomputable def e_scut : Ent := mkEnt 45 2 [] (fun z_ : (List UInt8) => [strOf z_, .str 1 46]) (fun _ => []) (fun z_ => z_.length ≤ 20000) (fun z_ => .plain (.tup [strOf (Lib.cut z_ [46]).1, strOf (Lib.cut z_ [46]).2.1, .bool (Lib.cut z_ [46]).2.2]))
theorem f_scut : e_scut.f = 45 := rfl
theorem x_scut {U : List Ent} {b : Pos} {st : XS} (hU : tget U 45 = some e_scut) (s : List UInt8) (hp : s.length ≤ 20000) : xcall U b 45 [strOf s, .str 1 46] st = some (XR.out b st (.plain (.tup [strOf (Lib.cut s [46]).1, strOf (Lib.cut s [46]).2.1, .bool (Lib.cut s [46]).2.2]))) :=
  xcall_at hU rfl rfl (mkEnt_spec (by rintro a0 b0 h hc; simp only [List.cons.injEq, AV.agg.injEq, AV.tup.injEq, AV.int.injEq, AV.bool.injEq, AV.ptr.injEq, AV.sl.injEq, strOf_eq, byt_eq, map_strOf_eq, true_and, and_true, Int.natCast_inj] at h hc; simp [h, hc]) s hp)
noncomputable def e_ssplit : Ent := mkEnt 53 2 [] (fun z_ : (List UInt8) => [strOf z_, .str 1 46]) (fun _ => []) (fun z_ => z_.length ≤ 20000) (fun z_ => .row ((cuts 46 z_).map strOf) (fun p => slN p (cuts 46 z_).length 1))
theorem f_ssplit : e_ssplit.f = 53 := rfl
theorem x_ssplit {U : List Ent} {b : Pos} {st : XS} (hU : tget U 53 = some e_ssplit) (s : List UInt8) (hp : s.length ≤ 20000) : xcall U b 53 [strOf s, .str 1 46] st = some (XR.out b st (.row ((cuts 46 s).map strOf) (fun p => slN p (cuts 46 s).length 1))) :=
  xcall_at hU rfl rfl (mkEnt_spec (by rintro a0 b0 h hc; simp only [List.cons.injEq, AV.agg.injEq, AV.tup.injEq, AV.int.injEq, AV.bool.injEq, AV.ptr.injEq, AV.sl.injEq, strOf_eq, byt_eq, map_strOf_eq, true_and, and_true, Int.natCast_inj] at h hc; simp [h, hc]) s hp)
noncomputable def e_pint : Ent := mkEnt 95 3 [] (fun z_ : (List UInt8) => [strOf z_, int64 10, int64 64]) (fun _ => []) (fun z_ => z_.length ≤ 20000) (fun z_ => (match Lib.parseIntB 64 z_ with | .ok v => .plain (.tup [int64 v, .nilIfc]) | .range => .blind fun q => .tup [int64 (Lib.intSat 64 z_), .ifc 173 (.ptr q 0 0)] | _ => .blind fun q => .tup [int64 0, .ifc 173 (.ptr q 0 0)]))
theorem f_pint : e_pint.f = 95 := rfl
theorem x_pint {U : List Ent} {b : Pos} {st : XS} (hU : tget U 95 = some e_pint) (s : List UInt8) (hp : s.length ≤ 20000) : xcall U b 95 [strOf s, int64 10, int64 64] st = some (XR.out b st ((match Lib.parseIntB 64 s with | .ok v => .plain (.tup [int64 v, .nilIfc]) | .range => .blind fun q => .tup [int64 (Lib.intSat 64 s), .ifc 173 (.ptr q 0 0)] | _ => .blind fun q => .tup [int64 0, .ifc 173 (.ptr q 0 0)]))) :=
  xcall_at hU rfl rfl (mkEnt_spec (by rintro a0 b0 h hc; simp only [List.cons.injEq, AV.agg.injEq, AV.tup.injEq, AV.int.injEq, AV.bool.injEq, AV.ptr.injEq, AV.sl.injEq, strOf_eq, byt_eq, map_strOf_eq, true_and, and_true, Int.natCast_inj] at h hc; simp [h, hc]) s hp)
theorem kit_label : EntK Tryz.prog (HasG m t1 t2) e_label := mkEnt_kit ok_label fun s h _ hs _ => KitFn.kitH fun φ w xs hR hx => by
  obtain ⟨x, rfl, p⟩ := relL_one hx
  obtain rfl := rel_strOf p
  exact (label_any ⟨s.toArray⟩ w (by show s.length ≤ _; omega)).mono fun e w' ⟨he, hb⟩ => ⟨_, he, .bool _, hb⟩
theorem kit_fmt : EntK Tryz.prog (HasG m t1 t2) e_fmt := mkEnt_kit ok_fmt fun n h g hn _ => KitFn.kitH fun φ w xs hR hx => by
  obtain ⟨x, y, rfl, p, q⟩ := relL_two hx
  cases p; cases q
  refine (Tryz.strconv_FormatInt_10 n hn.1 hn.2 w (g.tabIs hR)).mono fun e w' ⟨he, k, os, hw⟩ => ⟨_, he, strOf_relA φ _, ?_⟩
  rw [hw]
  exact ⟨rfl, rfl, rfl, by simp [Go.Sort.grow, World.drewN], fun k hk => by simp [Go.Sort.grow, World.drewN, Array.getElem?_append, hk]⟩
theorem rel46 {φ : Phi} {x : Value} (h : Rel φ (.str 1 46) x) : x = .string ⟨#[46]⟩ := rel_strOf (b := [46]) h
theorem kit_scut : EntK Tryz.prog (HasG m t1 t2) e_scut := mkEnt_kit ok_scut fun s h g hs _ => KitFn.kitH fun φ w xs hR hx => by
  obtain ⟨x, y, rfl, p, q⟩ := relL_two hx
  obtain rfl := rel_strOf p
  obtain rfl := rel46 q
  refine (Tryz.strings_Cut ⟨s.toArray⟩ ⟨#[46]⟩ m w (by have : s.length ≤ 20000 := hs; show s.length < _; omega) (g.maxIs hR)).mono fun e w' ⟨he, n, hw⟩ => ⟨_, he, ?_, by rw [hw]; exact ⟨rfl, rfl, rfl, Nat.le_refl _, fun k hk => rfl⟩⟩
  exact .tup (.cons (strOf_relA φ _) (.cons (strOf_relA φ _) (.cons (.bool _) .nil)))
theorem kit_ssplit : EntK Tryz.prog (HasG m t1 t2) e_ssplit := mkEnt_kit ok_ssplit fun s h g hs _ => fun φ w xs hR hz hx => by
  obtain ⟨x, y, rfl, p, q⟩ := relL_two hx
  obtain rfl := rel_strOf p
  obtain rfl := rel46 q
  refine (Tryz.strings_Split ⟨s.toArray⟩ ⟨#[46]⟩ m w (by have : s.length ≤ 20000 := hs; show s.length < _; omega) (g.maxIs hR) (by decide)).mono fun e w' ⟨he, hw⟩ => ?_
  have hp : (Lib.splitB ⟨#[46]⟩ 0 (Lib.countB ⟨s.toArray⟩ ⟨#[46]⟩) ⟨s.toArray⟩).map (·.data.toList) = cuts 46 s := (Lib.splitB_data _ _ _ _).trans (split_cuts 46 s)
  have hlen := Lib.splitB_all ⟨#[46]⟩ (by decide) 0 _ ⟨s.toArray⟩ rfl
  generalize Lib.splitB ⟨#[46]⟩ 0 (Lib.countB ⟨s.toArray⟩ ⟨#[46]⟩) ⟨s.toArray⟩ = ps at *
  have hpl : ps.length = (cuts 46 s).length := by rw [← hp]; simp
  have hb : Below w.heap.size w w' := by rw [hw]; exact (Below.refl _ _).alloc (Nat.le_refl _) _
  have hC : w'.heap[w.heap.size]? = some (.cells (ps.map Value.string).toArray 9 (0, 0)) := by rw [hw]; unfold World.alloc; simp only [Array.getElem?_push_size]
  obtain ⟨r1, r2⟩ := hR.rowAt (l := (cuts 46 s).map strOf) hz hb (Nat.le_refl _) hC (Nat.le_refl _) (fun i v e => by
    rw [List.getElem?_map] at e
    cases q : (cuts 46 s)[i]? with
    | none => rw [q] at e; cases e
    | some u =>
      rw [q] at e; cases e
      rw [← hp, List.getElem?_map] at q
      cases z : ps[i]? with
      | none => rw [z] at q; cases q
      | some pc =>
        rw [z] at q; cases q
        exact ⟨.string pc, by simp [z], fun φ => strOf_rel φ pc⟩)
  rw [← hlen, hpl] at he
  refine ⟨_, _, he, ?_, r1, r2⟩
  exact .sl (putN_new _ _) rfl rfl (Nat.le_refl _) (Nat.le_refl _) (Nat.le_refl _) (fun c => by cases c) (fun _ => ⟨rfl, by simp [hpl]⟩)
theorem kit_pint : EntK Tryz.prog (HasG m t1 t2) e_pint := mkEnt_kit ok_pint fun s h g hs _ => fun φ w xs hR hz hx => by
  obtain ⟨x, y, z, rfl, p, q, q'⟩ := relL_three hx
  obtain rfl := rel_strOf p
  cases q; cases q'
  have hs : s.length ≤ 20000 := hs
  have hsz : (⟨s.toArray⟩ : ByteArray).size = s.length := rfl
  cases hp : Lib.parseIntB 64 s with
  | ok v =>
    refine (Tryz.strconv_ParseInt_10_at64_ok ⟨s.toArray⟩ (by omega) v hp w).mono fun e w' ⟨he, hw⟩ => ?_
    have hb : Below w.heap.size w w' := by
      rcases hw with rfl | ⟨t, rfl⟩
      · exact Below.refl _ _
      · exact Lib.bytesWorld_below _ _ _
    exact ⟨φ, _, he, .tup (.cons (.int _ _) (.cons .nilIfc .nil)), hR.grown hb.size fun b hb' => hb.block b hb', Adv.grown hb.os hb.output hb.tape hb.size fun b hb' => hb.block b hb'⟩
  | range =>
    obtain ⟨te, pe, hv⟩ := g.rngIs hR
    refine (Tryz.strconv_ParseInt_10_at64_range ⟨s.toArray⟩ (by omega) hp _ w hv (.inr ⟨te, pe, rfl⟩)).mono fun e w' ⟨N, he, h1, h2, hb⟩ => ?_
    have hlt : N < w'.heap.size := (Array.getElem?_eq_some_iff.1 h2).1
    obtain ⟨r1, r2⟩ := hR.blind (s := 0) (n := 0) hz hb h1 hlt
    exact ⟨_, _, he, .tup (.cons (.int _ _) (.cons (.ifc (.ptr (putN_new _ _) rfl rfl rfl)) .nil)), r1, r2⟩
  | _ =>
    obtain ⟨te, pe, hv⟩ := g.synIs hR
    refine (Tryz.strconv_ParseInt_no ⟨s.toArray⟩ (by omega) hp _ w hv (.inr ⟨te, pe, rfl⟩)).mono fun e w' ⟨N, he, h1, h2, hb⟩ => ?_
    have hlt : N < w'.heap.size := (Array.getElem?_eq_some_iff.1 h2).1
    obtain ⟨r1, r2⟩ := hR.blind (s := 0) (n := 0) hz hb h1 hlt
    exact ⟨_, _, he, .tup (.cons (.int _ _) (.cons (.ifc (.ptr (putN_new _ _) rfl rfl rfl)) .nil)), r1, r2⟩
theorem kit_sjoin : EntK Tryz.prog (HasG m t1 t2) e_sjoin := mkEnt_kit ok_sjoin fun p h g hp hc => KitFn.kitH fun φ w xs hR hx => by
  obtain ⟨v, sep, l⟩ := p
  obtain ⟨h1, h0, hl, hb⟩ := hp
  have h1 : is1 v = true := h1
  have h0 : 0 < l.length := h0
  have hl : l.length ≤ 1000 := hl
  have hb : (Lib.join l sep).length ≤ 1000000 := hb
  obtain ⟨c, r, e, ⟨v', ev, sc⟩, _⟩ := hc
  cases e
  cases ev
  obtain ⟨x, y, rfl, p, q⟩ := relL_two hx
  obtain rfl := rel_strOf q
  clear q hx
  revert sc
  generalize hL : l.map strOf = L1
  intro sc
  have hLl : L1.length = l.length := by rw [← hL]; simp
  cases sc with
  | nil => cases h1
  | @mk id gg off n cap es ex L k hn =>
    obtain rfl : es = 1 := by simpa [is1] using h1
    have hnl : n = l.length := by rw [← hLl, List.length_take, List.length_drop]; omega
    have row := k.part hn
    rw [← hL] at row
    cases p with
    | sl0 => omega
    | sl e hb' hs hlc hc hlc' hx' ho =>
      rename_i b s m' a c
      obtain ⟨o1, _⟩ := ho (by omega)
      have ea : a = ⟨b, a.off, none⟩ := by cases a; simp at hs hb' ⊢; exact ⟨hb', hs⟩
      have hm : (l.map fun b => (⟨b.toArray⟩ : ByteArray)).map (·.data.toList) = l := by simp [Function.comp_def]
      have hcl : ∀ (j : Nat) x, (l.map fun b => (⟨b.toArray⟩ : ByteArray))[j]? = some x → w.cell? ⟨b, a.off + j, none⟩ = some (.string x) := by
        intro j x hj
        have hjl : j < l.length := by
          have := (List.getElem?_eq_some_iff.1 hj).1; simpa using this
        have e1 := row.one j (by simpa using hjl)
        rw [List.getElem?_map, List.getElem?_eq_getElem hjl] at e1
        obtain ⟨x', f1, f2⟩ := read1_run hR (a := ⟨b, a.off + j, none⟩) e1 e rfl rfl (by show ((a.off + j : Nat) : Int) = _; omega)
        rw [rel_strOf f2] at f1
        rw [f1]
        rw [List.getElem?_map, List.getElem?_eq_getElem hjl] at hj
        cases hj; rfl
      have K := Tryz.strings_Join b a.off c (l.map fun b => (⟨b.toArray⟩ : ByteArray)) ⟨sep.toArray⟩ w hcl (hR.inb _ _ _ _ _ e) (by simp; omega) (by simp; omega) (by rw [hm]; show (Lib.join l sep).length ≤ _; omega)
      rw [hm, List.length_map, ← hnl, ← ea] at K
      exact K.mono fun e w' ⟨he, hw⟩ => ⟨_, he, strOf_relA φ _, hw⟩
end
end Go.Proofs.YtjhgembcdndmkaaGreatDoor.St

namespace Go.Proofs.YtjhgembcdndmkaaGreatDoor.St
open Go Go.Proofs.YtjhgembcdndmkaaGreatDoor.Am Go.Proofs Go.RowKit
attribute [local simp] xr_mov xd_mov xr_pick xd_pick xr_bin xd_bin xr_un xd_un xr_build xd_build xr_convInt xd_convInt xr_mkIfc xd_mkIfc xr_mkFn xd_mkFn xr_fld xd_fld xr_part1 xd_part1 xr_partN xd_partN xr_extract xd_extract xr_lenS xd_lenS xr_lenL xd_lenL xr_lenArr xd_lenArr xr_nilPtr xd_nilPtr xr_load1 xd_load1 xr_loadN xd_loadN xr_bytesStr xd_bytesStr xr_eqPtr xd_eqPtr xr_eqIfc xd_eqIfc xr_new xd_new xr_box xd_box xr_buildSl xd_buildSl xr_strBytes xd_strBytes xr_mkSl xd_mkSl xr_idxAddrSl xd_idxAddrSl xr_idxAddrArr xd_idxAddrArr xr_idxStr xd_idxStr xr_sliceStr xd_sliceStr xr_sliceSl xd_sliceSl lenSA_str lenSA_strOf lenLA_sl lenLA_nil xfn xcode xdrawn xr_nil xr_kg xr_kh xr_call xr_callN xr_store xr_append xd_append xap_sl xap_nl xapq_some xsrc_sl xsrc_nil xapp_nil xapp_grow xapp_room xset xown xnx_some xnp_some xnq_some xd_nil xdl_old xdl_new xda_some xd_call xd_store xd_kg xdn_some xld xal kindOf isAlloc allocs xins xrem xall xput xget xwhole xcont xq xqs xres XS.add XR.out XR.res Rs.seq Rs.block mapO tupleA sv_args adv_eq tget eqs8 eqs7 eqt8 eqt7 eqi8 eqi7 eqb8 eqb7 eqg8 eql8 eql7 eqn8 eqn7 cells_strOf cells_int cells_agg cells_bool cells_str cells_sl cells_nil cells_ptr at_int at_str at_strOf at_bool at_sl at_nil at_ptr unstr_strOf unbyt_byt fill_nil fill_cons replA ev_tm ev_vl sv_stv bin_add bin_sub bin_mul bin_lss bin_leq bin_gtr bin_geq bin_eql bin_neq un_not un_neg nth0 nth1 nth2 xst_idxAddrSl xst_idxStr xst_sliceStr xbd slN Nat.testBit
def branchB (r : Int) (s : List UInt8) : Bool := decide (0 ≤ r) && (decide (r < 8) && labelB s)
def nameB (r : Int) (s : List UInt8) (n : Int) : Bool := branchB r s && (decide (1 ≤ n) && decide (n ≤ 4611686018427387904))
def stampB (g r : Int) (s : List UInt8) (n i : Int) : Bool := decide (1 ≤ g) && (decide (g ≤ 4611686018427387904) && (nameB r s n && (decide (0 ≤ i) && decide (i < 64))))
noncomputable def e_branch : Ent := mkEnt 41 1 [] (fun z_ : Int × (List UInt8) => [.agg [int64 z_.1, strOf z_.2]]) (fun _ => []) (fun z_ => z_.2.length ≤ 9000) (fun z_ => .plain (.bool (branchB z_.1 z_.2)))
theorem f_branch : e_branch.f = 41 := rfl
theorem x_branch {U : List Ent} {b : Pos} {st : XS} (hU : tget U 41 = some e_branch) (r : Int) (s : List UInt8) (hp : s.length ≤ 9000) : xcall U b 41 [.agg [int64 r, strOf s]] st = some (XR.out b st (.plain (.bool (branchB r s)))) :=
  xcall_at hU rfl rfl (mkEnt_spec (by rintro ⟨a0, a1⟩ ⟨b0, b1⟩ h hc; simp only [List.cons.injEq, AV.agg.injEq, AV.tup.injEq, AV.int.injEq, AV.bool.injEq, AV.ptr.injEq, AV.sl.injEq, strOf_eq, byt_eq, map_strOf_eq, true_and, and_true, Int.natCast_inj] at h hc; simp [h, hc]) (r, s) hp)
noncomputable def e_name : Ent := mkEnt 42 1 [] (fun z_ : Int × (List UInt8) × Int => [.agg [int64 z_.1, strOf z_.2.1, int64 z_.2.2]]) (fun _ => []) (fun z_ => z_.2.1.length ≤ 9000) (fun z_ => .plain (.bool (nameB z_.1 z_.2.1 z_.2.2)))
theorem f_name : e_name.f = 42 := rfl
theorem x_name {U : List Ent} {b : Pos} {st : XS} (hU : tget U 42 = some e_name) (r : Int) (s : List UInt8) (n : Int) (hp : s.length ≤ 9000) : xcall U b 42 [.agg [int64 r, strOf s, int64 n]] st = some (XR.out b st (.plain (.bool (nameB r s n)))) :=
  xcall_at hU rfl rfl (mkEnt_spec (by rintro ⟨a0, a1, a2⟩ ⟨b0, b1, b2⟩ h hc; simp only [List.cons.injEq, AV.agg.injEq, AV.tup.injEq, AV.int.injEq, AV.bool.injEq, AV.ptr.injEq, AV.sl.injEq, strOf_eq, byt_eq, map_strOf_eq, true_and, and_true, Int.natCast_inj] at h hc; simp [h, hc]) (r, s, n) hp)
noncomputable def e_stamp : Ent := mkEnt 43 1 [] (fun z_ : Int × Int × (List UInt8) × Int × Int => [.agg [int64 z_.1, int64 z_.2.1, strOf z_.2.2.1, int64 z_.2.2.2.1, int64 z_.2.2.2.2]]) (fun _ => []) (fun z_ => z_.2.2.1.length ≤ 9000) (fun z_ => .plain (.bool (stampB z_.1 z_.2.1 z_.2.2.1 z_.2.2.2.1 z_.2.2.2.2)))
theorem f_stamp : e_stamp.f = 43 := rfl
theorem x_stamp {U : List Ent} {b : Pos} {st : XS} (hU : tget U 43 = some e_stamp) (g : Int) (r : Int) (s : List UInt8) (n : Int) (i : Int) (hp : s.length ≤ 9000) : xcall U b 43 [.agg [int64 g, int64 r, strOf s, int64 n, int64 i]] st = some (XR.out b st (.plain (.bool (stampB g r s n i)))) :=
  xcall_at hU rfl rfl (mkEnt_spec (by rintro ⟨a0, a1, a2, a3, a4⟩ ⟨b0, b1, b2, b3, b4⟩ h hc; simp only [List.cons.injEq, AV.agg.injEq, AV.tup.injEq, AV.int.injEq, AV.bool.injEq, AV.ptr.injEq, AV.sl.injEq, strOf_eq, byt_eq, map_strOf_eq, true_and, and_true, Int.natCast_inj] at h hc; simp [h, hc]) (g, r, s, n, i) hp)
section
variable {m : Int} {t1 t2 : AV}
theorem branch_ok : EntOK Tryz.prog (HasG m t1 t2) e_branch := mkEnt_ok ok_branch fun p h g hs _ => by
  obtain ⟨r, s⟩ := p
  have hs : s.length ≤ 9000 := hs
  refine plain_of (U := []) (K := [e_label]) (fun _ o => g.more o) (by simp) (by simp [kit_label]) 0 branch_code (by simp [branch_fu]) rfl ?_
  show _ = some (AV.bool (branchB r s))
  unfold branchB
  by_cases c0 : 0 ≤ r <;> by_cases c1 : r < 8 <;> simp [branch_fu, c0, c1, x_label, f_label, hs]
theorem name_ok : EntOK Tryz.prog (HasG m t1 t2) e_name := mkEnt_ok ok_name fun p h g hs _ => by
  obtain ⟨r, s, n⟩ := p
  have hs : s.length ≤ 9000 := hs
  refine plain_of (U := []) (K := [e_branch]) (fun _ o => g.more o) (by simp) (by simp [branch_ok.entK]) 0 name_code (by simp [name_fu]) rfl ?_
  show _ = some (AV.bool (nameB r s n))
  unfold nameB
  cases c0 : branchB r s <;> by_cases c1 : 1 ≤ n <;> simp [name_fu, c0, c1, x_branch, f_branch, hs]
theorem stamp_ok : EntOK Tryz.prog (HasG m t1 t2) e_stamp := mkEnt_ok ok_stamp fun p h g hs _ => by
  obtain ⟨g', r, s, n, i⟩ := p
  have hs : s.length ≤ 9000 := hs
  refine plain_of (U := []) (K := [e_name]) (fun _ o => g.more o) (by simp) (by simp [name_ok.entK]) 0 stamp_code (by simp [stamp_fu]) rfl ?_
  show _ = some (AV.bool (stampB g' r s n i))
  unfold stampB
  by_cases c1 : 1 ≤ g' <;> by_cases c2 : g' ≤ 4611686018427387904 <;> cases c0 : nameB r s n <;> by_cases c3 : 0 ≤ i <;> simp [stamp_fu, c0, c1, c2, c3, x_name, f_name, hs]
end
end Go.Proofs.YtjhgembcdndmkaaGreatDoor.St

namespace Go.Proofs.YtjhgembcdndmkaaGreatDoor.St
open Go Go.Proofs.YtjhgembcdndmkaaGreatDoor.Am Go.Proofs Go.RowKit
attribute [local simp] xr_mov xd_mov xr_pick xd_pick xr_bin xd_bin xr_un xd_un xr_build xd_build xr_convInt xd_convInt xr_mkIfc xd_mkIfc xr_mkFn xd_mkFn xr_fld xd_fld xr_part1 xd_part1 xr_partN xd_partN xr_extract xd_extract xr_lenS xd_lenS xr_lenL xd_lenL xr_lenArr xd_lenArr xr_nilPtr xd_nilPtr xr_load1 xd_load1 xr_loadN xd_loadN xr_bytesStr xd_bytesStr xr_eqPtr xd_eqPtr xr_eqIfc xd_eqIfc xr_new xd_new xr_box xd_box xr_buildSl xd_buildSl xr_strBytes xd_strBytes xr_mkSl xd_mkSl xr_idxAddrSl xd_idxAddrSl xr_idxAddrArr xd_idxAddrArr xr_idxStr xd_idxStr xr_sliceStr xd_sliceStr xr_sliceSl xd_sliceSl lenSA_str lenSA_strOf lenLA_sl lenLA_nil xfn xcode xdrawn xr_nil xr_kg xr_kh xr_call xr_callN xr_store xr_append xd_append xap_sl xap_nl xapq_some xsrc_sl xsrc_nil xapp_nil xapp_grow xapp_room xset xown xnx_some xnp_some xnq_some xd_nil xdl_old xdl_new xda_some xd_call xd_store xd_kg xdn_some xld xal kindOf isAlloc allocs xins xrem xall xput xget xwhole xcont xq xqs xres XS.add XR.out XR.res Rs.seq Rs.block mapO tupleA sv_args adv_eq tget eqs8 eqs7 eqt8 eqt7 eqi8 eqi7 eqb8 eqb7 eqg8 eql8 eql7 eqn8 eqn7 cells_strOf cells_int cells_agg cells_bool cells_str cells_sl cells_nil cells_ptr at_int at_str at_strOf at_bool at_sl at_nil at_ptr unstr_strOf unbyt_byt fill_nil fill_cons replA ev_tm ev_vl sv_stv bin_add bin_sub bin_mul bin_lss bin_leq bin_gtr bin_geq bin_eql bin_neq un_not un_neg nth0 nth1 nth2 xst_idxAddrSl xst_idxStr xst_sliceStr xbd slN Nat.testBit
def dots (l : List (List UInt8)) : List UInt8 := Lib.join l [46]
def errB (b : Bool) : Int := if b then 0 else 2
def orNil (b : Bool) (l : List UInt8) : List UInt8 := if b then l else []
@[simp] theorem errB_t : errB true = 0 := rfl
@[simp] theorem errB_f : errB false = 2 := rfl
@[simp] theorem orNil_t (l : List UInt8) : orNil true l = l := rfl
@[simp] theorem orNil_f (l : List UInt8) : orNil false l = [] := rfl
def textbB (r : Nat) (s : List UInt8) : List UInt8 := dots [Lib.itoa r, s]
def textnB (r : Nat) (s : List UInt8) (n : Nat) : List UInt8 := dots [textbB r s, Lib.itoa n]
def textB (g r : Nat) (s : List UInt8) (n i : Nat) : List UInt8 := dots [Lib.itoa g, textnB r s n, Lib.itoa i]
theorem branchB_le {r : Int} {s : List UInt8} (h : branchB r s = true) : 0 ≤ r ∧ r < 8 ∧ s.length ≤ 12 := by
  simp [branchB, labelB] at h; omega
theorem nameB_le {r : Int} {s : List UInt8} {n : Int} (h : nameB r s n = true) : branchB r s = true ∧ 1 ≤ n ∧ n ≤ 4611686018427387904 := by
  simp [nameB] at h; exact h
theorem stampB_le {g r : Int} {s : List UInt8} {n i : Int} (h : stampB g r s n i = true) : 1 ≤ g ∧ g ≤ 4611686018427387904 ∧ nameB r s n = true ∧ 0 ≤ i ∧ i < 64 := by
  simp [stampB] at h; exact h
theorem itoa_length_le (n : Nat) (hn : n < 18446744073709551616) : (Lib.itoa (n : Int)).length ≤ 20 := by
  rw [Lib.itoa_nonneg, Lib.decDigits_length]; exact Lib.nDigits_le20 n hn
theorem dots_length_le (x y : List UInt8) : (dots [x, y]).length = x.length + y.length + 1 := by
  unfold dots; simp [Lib.join, List.intercalate]; omega
theorem dots_length_le3 (x y z : List UInt8) : (dots [x, y, z]).length = x.length + y.length + z.length + 2 := by
  unfold dots; simp [Lib.join, List.intercalate]; omega
theorem str46 : strOf [46] = .str 1 46 := rfl
noncomputable def e_digits : Ent := mkEnt 85 1 [] (fun z_ : Int => [int64 z_]) (fun _ => []) (fun z_ => -9223372036854775808 ≤ z_ ∧ z_ ≤ 9223372036854775807) (fun z_ => .plain (strOf (Lib.itoa z_)))
theorem f_digits : e_digits.f = 85 := rfl
theorem x_digits {U : List Ent} {b : Pos} {st : XS} (hU : tget U 85 = some e_digits) (n : Int) (hp : -9223372036854775808 ≤ n ∧ n ≤ 9223372036854775807) : xcall U b 85 [int64 n] st = some (XR.out b st (.plain (strOf (Lib.itoa n)))) :=
  xcall_at hU rfl rfl (mkEnt_spec (by rintro a0 b0 h hc; simp only [List.cons.injEq, AV.agg.injEq, AV.tup.injEq, AV.int.injEq, AV.bool.injEq, AV.ptr.injEq, AV.sl.injEq, strOf_eq, byt_eq, map_strOf_eq, true_and, and_true, Int.natCast_inj] at h hc; simp [h, hc]) n hp)
noncomputable def e_text : Ent := mkEnt 84 1 [.sl 0] (fun z_ : AV × (List (List UInt8)) => [z_.1]) (fun z_ => [z_.2.map strOf]) (fun z_ => is1 z_.1 = true ∧ 0 < z_.2.length ∧ z_.2.length ≤ 1000 ∧ (dots z_.2).length ≤ 1000000) (fun z_ => .plain (strOf (dots z_.2)))
theorem f_text : e_text.f = 84 := rfl
theorem x_text {U : List Ent} {b : Pos} {st : XS} (hU : tget U 84 = some e_text) (v : AV) (l : List (List UInt8)) (hp : is1 v = true ∧ 0 < l.length ∧ l.length ≤ 1000 ∧ (dots l).length ≤ 1000000) (hq : xqs st.X [v] [.sl 0] = some [l.map strOf]) : xcall U b 84 [v] st = some (XR.out b st (.plain (strOf (dots l)))) :=
  xcall_at hU rfl hq (mkEnt_spec (by rintro ⟨a0, a1⟩ ⟨b0, b1⟩ h hc; simp only [List.cons.injEq, AV.agg.injEq, AV.tup.injEq, AV.int.injEq, AV.bool.injEq, AV.ptr.injEq, AV.sl.injEq, strOf_eq, byt_eq, map_strOf_eq, true_and, and_true, Int.natCast_inj] at h hc; simp [h, hc]) (v, l) hp)
noncomputable def e_textb : Ent := mkEnt 48 1 [] (fun z_ : Int × (List UInt8) => [.agg [int64 z_.1, strOf z_.2]]) (fun _ => []) (fun z_ => z_.2.length ≤ 9000) (fun z_ => .plain (.tup [strOf (orNil (branchB z_.1 z_.2) (textbB z_.1.toNat z_.2)), int64 (errB (branchB z_.1 z_.2))]))
theorem f_textb : e_textb.f = 48 := rfl
theorem x_textb {U : List Ent} {b : Pos} {st : XS} (hU : tget U 48 = some e_textb) (r : Int) (s : List UInt8) (hp : s.length ≤ 9000) : xcall U b 48 [.agg [int64 r, strOf s]] st = some (XR.out b st (.plain (.tup [strOf (orNil (branchB r s) (textbB r.toNat s)), int64 (errB (branchB r s))]))) :=
  xcall_at hU rfl rfl (mkEnt_spec (by rintro ⟨a0, a1⟩ ⟨b0, b1⟩ h hc; simp only [List.cons.injEq, AV.agg.injEq, AV.tup.injEq, AV.int.injEq, AV.bool.injEq, AV.ptr.injEq, AV.sl.injEq, strOf_eq, byt_eq, map_strOf_eq, true_and, and_true, Int.natCast_inj] at h hc; simp [h, hc]) (r, s) hp)
noncomputable def e_textn : Ent := mkEnt 55 1 [] (fun z_ : Int × (List UInt8) × Int => [.agg [int64 z_.1, strOf z_.2.1, int64 z_.2.2]]) (fun _ => []) (fun z_ => z_.2.1.length ≤ 9000) (fun z_ => .plain (.tup [strOf (orNil (nameB z_.1 z_.2.1 z_.2.2) (textnB z_.1.toNat z_.2.1 z_.2.2.toNat)), int64 (errB (nameB z_.1 z_.2.1 z_.2.2))]))
theorem f_textn : e_textn.f = 55 := rfl
theorem x_textn {U : List Ent} {b : Pos} {st : XS} (hU : tget U 55 = some e_textn) (r : Int) (s : List UInt8) (n : Int) (hp : s.length ≤ 9000) : xcall U b 55 [.agg [int64 r, strOf s, int64 n]] st = some (XR.out b st (.plain (.tup [strOf (orNil (nameB r s n) (textnB r.toNat s n.toNat)), int64 (errB (nameB r s n))]))) :=
  xcall_at hU rfl rfl (mkEnt_spec (by rintro ⟨a0, a1, a2⟩ ⟨b0, b1, b2⟩ h hc; simp only [List.cons.injEq, AV.agg.injEq, AV.tup.injEq, AV.int.injEq, AV.bool.injEq, AV.ptr.injEq, AV.sl.injEq, strOf_eq, byt_eq, map_strOf_eq, true_and, and_true, Int.natCast_inj] at h hc; simp [h, hc]) (r, s, n) hp)
noncomputable def e_texts : Ent := mkEnt 32 1 [] (fun z_ : Int × Int × (List UInt8) × Int × Int => [.agg [int64 z_.1, int64 z_.2.1, strOf z_.2.2.1, int64 z_.2.2.2.1, int64 z_.2.2.2.2]]) (fun _ => []) (fun z_ => z_.2.2.1.length ≤ 9000) (fun z_ => .plain (.tup [strOf (orNil (stampB z_.1 z_.2.1 z_.2.2.1 z_.2.2.2.1 z_.2.2.2.2) (textB z_.1.toNat z_.2.1.toNat z_.2.2.1 z_.2.2.2.1.toNat z_.2.2.2.2.toNat)), int64 (errB (stampB z_.1 z_.2.1 z_.2.2.1 z_.2.2.2.1 z_.2.2.2.2))]))
theorem f_texts : e_texts.f = 32 := rfl
theorem x_texts {U : List Ent} {b : Pos} {st : XS} (hU : tget U 32 = some e_texts) (g : Int) (r : Int) (s : List UInt8) (n : Int) (i : Int) (hp : s.length ≤ 9000) : xcall U b 32 [.agg [int64 g, int64 r, strOf s, int64 n, int64 i]] st = some (XR.out b st (.plain (.tup [strOf (orNil (stampB g r s n i) (textB g.toNat r.toNat s n.toNat i.toNat)), int64 (errB (stampB g r s n i))]))) :=
  xcall_at hU rfl rfl (mkEnt_spec (by rintro ⟨a0, a1, a2, a3, a4⟩ ⟨b0, b1, b2, b3, b4⟩ h hc; simp only [List.cons.injEq, AV.agg.injEq, AV.tup.injEq, AV.int.injEq, AV.bool.injEq, AV.ptr.injEq, AV.sl.injEq, strOf_eq, byt_eq, map_strOf_eq, true_and, and_true, Int.natCast_inj] at h hc; simp [h, hc]) (g, r, s, n, i) hp)
section
variable {m : Int} {t1 t2 : AV}
theorem digits_ok : EntOK Tryz.prog (HasG m t1 t2) e_digits := mkEnt_ok ok_digits fun n h g hn _ => by
  refine plain_of (U := []) (K := [e_fmt]) (fun _ o => g.more o) (by simp) (by simp [kit_fmt]) 0 digits_code (by simp [digits_fu]) rfl ?_
  simp [digits_fu, x_fmt, f_fmt, hn.1, hn.2]
theorem text_ok : EntOK Tryz.prog (HasG m t1 t2) e_text := mkEnt_ok ok_text fun p h g hp hc => by
  obtain ⟨v, l⟩ := p
  obtain ⟨h1, h0, hl, hb⟩ := hp
  have h1 : is1 v = true := h1
  have hb : (Lib.join l [46]).length ≤ 1000000 := hb
  obtain ⟨c, r, e, ⟨v', ev, sc⟩, _⟩ := hc
  cases e
  cases ev
  revert sc
  generalize hL : l.map strOf = L1
  intro sc
  cases sc with
  | nil => cases h1
  | @mk id gg off n cap es ex L k hn =>
    obtain rfl : es = 1 := by simpa [is1] using h1
    refine plain_ofX (U := []) (K := [e_sjoin]) (fun _ o => g.more o) (by simp) (by simp [kit_sjoin]) 0 (.start1 k rfl) text_code (by simp [text_fu]) rfl ?_
    simp only [Nat.mul_one] at hL hn
    have hs := fun {U b st} (hU : tget U 106 = some e_sjoin) hq => x_sjoin (U := U) (b := b) (st := st) hU (.sl id gg off n cap ex 1) [46] l ⟨rfl, h0, hl, hb⟩ hq
    simp [text_fu, hs, f_sjoin, ← str46, hn, hL, dots]
theorem textb_ok : EntOK Tryz.prog (HasG m t1 t2) e_textb := mkEnt_ok ok_textb fun p h g hs _ => by
  obtain ⟨r, s⟩ := p
  have hs : s.length ≤ 9000 := hs
  refine plain_of (U := [e_digits, e_text]) (K := [e_branch]) (fun _ o => g.more o) (by simp [digits_ok, text_ok]) (by simp [branch_ok.entK]) 0 textb_code (by simp [textb_fu]) rfl ?_
  show _ = some (AV.tup [strOf (orNil (branchB r s) (textbB r.toNat s)), int64 (errB (branchB r s))])
  cases hb : branchB r s
  · simp [textb_fu, x_branch, f_branch, hs, hb, strOf_nil]
  · obtain ⟨q0, q8, ql⟩ := branchB_le hb
    obtain ⟨n, rfl⟩ := Int.eq_ofNat_of_zero_le q0
    have il := itoa_length_le n (by omega)
    have hd : (dots [Lib.itoa n, s]).length ≤ 1000000 := by rw [dots_length_le]; omega
    simp [textb_fu, x_branch, f_branch, x_digits, f_digits, x_text (l := [Lib.itoa n, s]), f_text, hs, hb, hd, is1, textbB, show (n : Int) ≤ 9223372036854775807 by omega, show -9223372036854775808 ≤ (n : Int) by omega]
theorem textn_ok : EntOK Tryz.prog (HasG m t1 t2) e_textn := mkEnt_ok ok_textn fun p h g hs _ => by
  obtain ⟨r, s, n⟩ := p
  have hs : s.length ≤ 9000 := hs
  refine plain_of (U := [e_digits, e_text]) (K := [e_name, e_textb, e_digits, e_text]) (fun _ o => g.more o) (by simp [digits_ok, text_ok]) (by simp [name_ok.entK, textb_ok.entK, digits_ok.entK, text_ok.entK]) 0 textn_code (by simp [textn_fu]) rfl ?_
  show _ = some (AV.tup [strOf (orNil (nameB r s n) (textnB r.toNat s n.toNat)), int64 (errB (nameB r s n))])
  cases hb : nameB r s n
  · simp [textn_fu, x_name, f_name, hs, hb, strOf_nil]
  · obtain ⟨qb, qn1, qn2⟩ := nameB_le hb
    obtain ⟨q0, q8, ql⟩ := branchB_le qb
    obtain ⟨r, rfl⟩ := Int.eq_ofNat_of_zero_le q0
    obtain ⟨n, rfl⟩ := Int.eq_ofNat_of_zero_le (show (0 : Int) ≤ n by omega)
    have il := itoa_length_le r (by omega)
    have il2 := itoa_length_le n (by omega)
    have hd : (dots [textbB r s, Lib.itoa n]).length ≤ 1000000 := by rw [dots_length_le, textbB, dots_length_le]; omega
    simp [textn_fu, x_name, f_name, x_textb, f_textb, x_digits, f_digits, x_text (l := [textbB r s, Lib.itoa n]), f_text, hs, hb, qb, hd, is1, textnB, show (n : Int) ≤ 9223372036854775807 by omega, show -9223372036854775808 ≤ (n : Int) by omega]
theorem textnB_length_le {r : Nat} {s : List UInt8} {n : Nat} (hr : r < 18446744073709551616) (hn : n < 18446744073709551616) : (textnB r s n).length ≤ s.length + 50 := by
  have il := itoa_length_le r hr
  have il2 := itoa_length_le n hn
  rw [textnB, dots_length_le, textbB, dots_length_le]; omega
theorem texts_ok : EntOK Tryz.prog (HasG m t1 t2) e_texts := mkEnt_ok ok_texts fun p h gg hs _ => by
  obtain ⟨g, r, s, n, i⟩ := p
  have hs : s.length ≤ 9000 := hs
  refine plain_of (U := [e_digits, e_text]) (K := [e_stamp, e_textn, e_digits, e_text]) (fun _ o => gg.more o) (by simp [digits_ok, text_ok]) (by simp [stamp_ok.entK, textn_ok.entK, digits_ok.entK, text_ok.entK]) 0 texts_code (by simp [texts_fu]) rfl ?_
  show _ = some (AV.tup [strOf (orNil (stampB g r s n i) (textB g.toNat r.toNat s n.toNat i.toNat)), int64 (errB (stampB g r s n i))])
  cases hb : stampB g r s n i
  · simp [texts_fu, x_stamp, f_stamp, hs, hb, strOf_nil]
  · obtain ⟨qg1, qg2, qn, qi1, qi2⟩ := stampB_le hb
    obtain ⟨qb, qn1, qn2⟩ := nameB_le qn
    obtain ⟨q0, q8, ql⟩ := branchB_le qb
    obtain ⟨r, rfl⟩ := Int.eq_ofNat_of_zero_le q0
    obtain ⟨n, rfl⟩ := Int.eq_ofNat_of_zero_le (show (0 : Int) ≤ n by omega)
    obtain ⟨g, rfl⟩ := Int.eq_ofNat_of_zero_le (show (0 : Int) ≤ g by omega)
    obtain ⟨i, rfl⟩ := Int.eq_ofNat_of_zero_le qi1
    have il := itoa_length_le g (by omega)
    have il2 := itoa_length_le i (by omega)
    have tl := textnB_length_le (s := s) (show r < 18446744073709551616 by omega) (show n < 18446744073709551616 by omega)
    have hd : (dots [Lib.itoa g, textnB r s n, Lib.itoa i]).length ≤ 1000000 := by rw [dots_length_le3]; omega
    simp [texts_fu, x_stamp, f_stamp, x_textn, f_textn, x_digits, f_digits, x_text (l := [Lib.itoa g, textnB r s n, Lib.itoa i]), f_text, hs, hb, qn, hd, is1, textB, show (g : Int) ≤ 9223372036854775807 by omega, show -9223372036854775808 ≤ (g : Int) by omega, show (i : Int) ≤ 9223372036854775807 by omega, show -9223372036854775808 ≤ (i : Int) by omega]
end
end Go.Proofs.YtjhgembcdndmkaaGreatDoor.St

namespace Go.Proofs.YtjhgembcdndmkaaGreatDoor.St
open Go Go.Proofs.YtjhgembcdndmkaaGreatDoor.Am Go.Proofs Go.RowKit
attribute [local simp] xr_mov xd_mov xr_pick xd_pick xr_bin xd_bin xr_un xd_un xr_build xd_build xr_convInt xd_convInt xr_mkIfc xd_mkIfc xr_mkFn xd_mkFn xr_fld xd_fld xr_part1 xd_part1 xr_partN xd_partN xr_extract xd_extract xr_lenS xd_lenS xr_lenL xd_lenL xr_lenArr xd_lenArr xr_nilPtr xd_nilPtr xr_load1 xd_load1 xr_loadN xd_loadN xr_bytesStr xd_bytesStr xr_eqPtr xd_eqPtr xr_eqIfc xd_eqIfc xr_new xd_new xr_box xd_box xr_buildSl xd_buildSl xr_strBytes xd_strBytes xr_mkSl xd_mkSl xr_idxAddrSl xd_idxAddrSl xr_idxAddrArr xd_idxAddrArr xr_idxStr xd_idxStr xr_sliceStr xd_sliceStr xr_sliceSl xd_sliceSl lenSA_str lenSA_strOf lenLA_sl lenLA_nil xfn xcode xdrawn xr_nil xr_kg xr_kh xr_call xr_callN xr_store xr_append xd_append xap_sl xap_nl xapq_some xsrc_sl xsrc_nil xapp_nil xapp_grow xapp_room xset xown xnx_some xnp_some xnq_some xd_nil xdl_old xdl_new xda_some xd_call xd_store xd_kg xdn_some xld xal kindOf isAlloc allocs xins xrem xall xput xget xwhole xcont xq xqs xres XS.add XR.out XR.res Rs.seq Rs.block mapO tupleA sv_args adv_eq tget eqs8 eqs7 eqt8 eqt7 eqi8 eqi7 eqb8 eqb7 eqg8 eql8 eql7 eqn8 eqn7 cells_strOf cells_int cells_agg cells_bool cells_str cells_sl cells_nil cells_ptr at_int at_str at_strOf at_bool at_sl at_nil at_ptr unstr_strOf unbyt_byt fill_nil fill_cons replA ev_tm ev_vl sv_stv bin_add bin_sub bin_mul bin_lss bin_leq bin_gtr bin_geq bin_eql bin_neq un_not un_neg nth0 nth1 nth2 xst_idxAddrSl xst_idxStr xst_sliceStr xbd slN Nat.testBit
def chkb (r : Int) (l s : List UInt8) : Bool := branchB r l && decide (textbB r.toNat l = s)
def chkn (r : Int) (l : List UInt8) (n : Int) (s : List UInt8) : Bool := nameB r l n && decide (textnB r.toNat l n.toNat = s)
def chks (g r : Int) (l : List UInt8) (n i : Int) (s : List UInt8) : Bool := stampB g r l n i && decide (textB g.toNat r.toNat l n.toNat i.toNat = s)
noncomputable def ansb (c : Bool) (r : Int) (l : List UInt8) : AV := if c then .tup [.agg [int64 r, strOf l], int64 0] else .tup [.agg [int64 0, .str 0 0], int64 4]
noncomputable def ansn (c : Bool) (r : Int) (l : List UInt8) (n : Int) : AV := if c then .tup [.agg [int64 r, strOf l, int64 n], int64 0] else .tup [.agg [int64 0, .str 0 0, int64 0], int64 4]
noncomputable def anss (c : Bool) (g r : Int) (l : List UInt8) (n i : Int) : AV := if c then .tup [.agg [int64 g, int64 r, strOf l, int64 n, int64 i], int64 0] else .tup [.agg [int64 0, int64 0, .str 0 0, int64 0, int64 0], int64 4]
theorem ansb_t (r : Int) (l : List UInt8) : ansb true r l = .tup [.agg [int64 r, strOf l], int64 0] := rfl
theorem ansb_f (r : Int) (l : List UInt8) : ansb false r l = .tup [.agg [int64 0, .str 0 0], int64 4] := rfl
theorem ansn_t (r : Int) (l : List UInt8) (n : Int) : ansn true r l n = .tup [.agg [int64 r, strOf l, int64 n], int64 0] := rfl
theorem ansn_f (r : Int) (l : List UInt8) (n : Int) : ansn false r l n = .tup [.agg [int64 0, .str 0 0, int64 0], int64 4] := rfl
theorem anss_t (g r : Int) (l : List UInt8) (n i : Int) : anss true g r l n i = .tup [.agg [int64 g, int64 r, strOf l, int64 n, int64 i], int64 0] := rfl
theorem anss_f (g r : Int) (l : List UInt8) (n i : Int) : anss false g r l n i = .tup [.agg [int64 0, int64 0, .str 0 0, int64 0, int64 0], int64 4] := rfl
noncomputable def e_read : Ent := mkEnt 47 1 [] (fun z_ : (List UInt8) => [strOf z_]) (fun _ => []) (fun z_ => z_.length ≤ 20000) (fun z_ => .plain (int64 (readI z_)))
theorem f_read : e_read.f = 47 := rfl
theorem x_read {U : List Ent} {b : Pos} {st : XS} (hU : tget U 47 = some e_read) (s : List UInt8) (hp : s.length ≤ 20000) : xcall U b 47 [strOf s] st = some (XR.out b st (.plain (int64 (readI s)))) :=
  xcall_at hU rfl rfl (mkEnt_spec (by rintro a0 b0 h hc; simp only [List.cons.injEq, AV.agg.injEq, AV.tup.injEq, AV.int.injEq, AV.bool.injEq, AV.ptr.injEq, AV.sl.injEq, strOf_eq, byt_eq, map_strOf_eq, true_and, and_true, Int.natCast_inj] at h hc; simp [h, hc]) s hp)
noncomputable def e_rread : Ent := mkEnt 50 1 [] (fun z_ : (List UInt8) => [strOf z_]) (fun _ => []) (fun z_ => z_.length ≤ 20000) (fun z_ => .plain (int64 (rreadI z_)))
theorem f_rread : e_rread.f = 50 := rfl
theorem x_rread {U : List Ent} {b : Pos} {st : XS} (hU : tget U 50 = some e_rread) (s : List UInt8) (hp : s.length ≤ 20000) : xcall U b 50 [strOf s] st = some (XR.out b st (.plain (int64 (rreadI s)))) :=
  xcall_at hU rfl rfl (mkEnt_spec (by rintro a0 b0 h hc; simp only [List.cons.injEq, AV.agg.injEq, AV.tup.injEq, AV.int.injEq, AV.bool.injEq, AV.ptr.injEq, AV.sl.injEq, strOf_eq, byt_eq, map_strOf_eq, true_and, and_true, Int.natCast_inj] at h hc; simp [h, hc]) s hp)
noncomputable def e_sameb : Ent := mkEnt 46 3 [] (fun z_ : Int × (List UInt8) × (List UInt8) => [.agg [int64 z_.1, strOf z_.2.1], strOf z_.2.2, .fn (.func 48) [] []]) (fun _ => []) (fun z_ => z_.2.1.length ≤ 9000) (fun z_ => .plain (ansb (chkb z_.1 z_.2.1 z_.2.2) z_.1 z_.2.1))
theorem f_sameb : e_sameb.f = 46 := rfl
theorem x_sameb {U : List Ent} {b : Pos} {st : XS} (hU : tget U 46 = some e_sameb) (r : Int) (l : List UInt8) (s : List UInt8) (hp : l.length ≤ 9000) : xcall U b 46 [.agg [int64 r, strOf l], strOf s, .fn (.func 48) [] []] st = some (XR.out b st (.plain (ansb (chkb r l s) r l))) :=
  xcall_at hU rfl rfl (mkEnt_spec (by rintro ⟨a0, a1, a2⟩ ⟨b0, b1, b2⟩ h hc; simp only [List.cons.injEq, AV.agg.injEq, AV.tup.injEq, AV.int.injEq, AV.bool.injEq, AV.ptr.injEq, AV.sl.injEq, strOf_eq, byt_eq, map_strOf_eq, true_and, and_true, Int.natCast_inj] at h hc; simp [h, hc]) (r, l, s) hp)
noncomputable def e_samen : Ent := mkEnt 54 3 [] (fun z_ : Int × (List UInt8) × Int × (List UInt8) => [.agg [int64 z_.1, strOf z_.2.1, int64 z_.2.2.1], strOf z_.2.2.2, .fn (.func 55) [] []]) (fun _ => []) (fun z_ => z_.2.1.length ≤ 9000) (fun z_ => .plain (ansn (chkn z_.1 z_.2.1 z_.2.2.1 z_.2.2.2) z_.1 z_.2.1 z_.2.2.1))
theorem f_samen : e_samen.f = 54 := rfl
theorem x_samen {U : List Ent} {b : Pos} {st : XS} (hU : tget U 54 = some e_samen) (r : Int) (l : List UInt8) (n : Int) (s : List UInt8) (hp : l.length ≤ 9000) : xcall U b 54 [.agg [int64 r, strOf l, int64 n], strOf s, .fn (.func 55) [] []] st = some (XR.out b st (.plain (ansn (chkn r l n s) r l n))) :=
  xcall_at hU rfl rfl (mkEnt_spec (by rintro ⟨a0, a1, a2, a3⟩ ⟨b0, b1, b2, b3⟩ h hc; simp only [List.cons.injEq, AV.agg.injEq, AV.tup.injEq, AV.int.injEq, AV.bool.injEq, AV.ptr.injEq, AV.sl.injEq, strOf_eq, byt_eq, map_strOf_eq, true_and, and_true, Int.natCast_inj] at h hc; simp [h, hc]) (r, l, n, s) hp)
noncomputable def e_sames : Ent := mkEnt 58 3 [] (fun z_ : Int × Int × (List UInt8) × Int × Int × (List UInt8) => [.agg [int64 z_.1, int64 z_.2.1, strOf z_.2.2.1, int64 z_.2.2.2.1, int64 z_.2.2.2.2.1], strOf z_.2.2.2.2.2, .fn (.func 32) [] []]) (fun _ => []) (fun z_ => z_.2.2.1.length ≤ 9000) (fun z_ => .plain (anss (chks z_.1 z_.2.1 z_.2.2.1 z_.2.2.2.1 z_.2.2.2.2.1 z_.2.2.2.2.2) z_.1 z_.2.1 z_.2.2.1 z_.2.2.2.1 z_.2.2.2.2.1))
theorem f_sames : e_sames.f = 58 := rfl
theorem x_sames {U : List Ent} {b : Pos} {st : XS} (hU : tget U 58 = some e_sames) (g : Int) (r : Int) (l : List UInt8) (n : Int) (i : Int) (s : List UInt8) (hp : l.length ≤ 9000) : xcall U b 58 [.agg [int64 g, int64 r, strOf l, int64 n, int64 i], strOf s, .fn (.func 32) [] []] st = some (XR.out b st (.plain (anss (chks g r l n i s) g r l n i))) :=
  xcall_at hU rfl rfl (mkEnt_spec (by rintro ⟨a0, a1, a2, a3, a4, a5⟩ ⟨b0, b1, b2, b3, b4, b5⟩ h hc; simp only [List.cons.injEq, AV.agg.injEq, AV.tup.injEq, AV.int.injEq, AV.bool.injEq, AV.ptr.injEq, AV.sl.injEq, strOf_eq, byt_eq, map_strOf_eq, true_and, and_true, Int.natCast_inj] at h hc; simp [h, hc]) (g, r, l, n, i, s) hp)
section
variable {m : Int} {t1 t2 : AV}
theorem read_ok : EntOK Tryz.prog (HasG m t1 t2) e_read := mkEnt_ok ok_read fun s h g hs _ => by
  refine plain_of (U := []) (K := [e_pint]) (fun _ o => g.more o) (by simp) (by simp [kit_pint]) 0 read_code (by simp [read_fu]) rfl ?_
  show _ = some (int64 (readI s))
  unfold readI
  cases hp : Lib.parseIntB 64 s <;> simp [read_fu, x_pint, f_pint, hs, hp]
theorem rread_ok : EntOK Tryz.prog (HasG m t1 t2) e_rread := mkEnt_ok ok_rread fun s h g hs _ => by
  refine plain_of (U := []) (K := [e_pint]) (fun _ o => g.more o) (by simp) (by simp [kit_pint]) 0 rread_code (by simp [rread_fu]) rfl ?_
  show _ = some (int64 (rreadI s))
  unfold rreadI
  cases hp : Lib.parseIntB 64 s <;> simp [rread_fu, x_pint, f_pint, hs, hp]
theorem sameb_ok : EntOK Tryz.prog (HasG m t1 t2) e_sameb := mkEnt_ok ok_sameb fun p h g hs _ => by
  obtain ⟨r, l, s⟩ := p
  have hs : l.length ≤ 9000 := hs
  refine plain_of (U := []) (K := [e_textb]) (v := ansb (chkb r l s) r l) (fun _ o => g.more o) (by simp) (by simp [textb_ok.entK]) 0 sameb_code (by simp [sameb_fu]) (by cases chkb r l s <;> rfl) ?_
  unfold chkb
  cases hb : branchB r l
  · simp [sameb_fu, x_textb, f_textb, hs, hb, ansb_f]
  · by_cases c : textbB r.toNat l = s <;> simp [sameb_fu, x_textb, f_textb, hs, hb, c, ansb_t, ansb_f, bin_neqS]
theorem samen_ok : EntOK Tryz.prog (HasG m t1 t2) e_samen := mkEnt_ok ok_samen fun p h g hs _ => by
  obtain ⟨r, l, n, s⟩ := p
  have hs : l.length ≤ 9000 := hs
  refine plain_of (U := []) (K := [e_textn]) (v := ansn (chkn r l n s) r l n) (fun _ o => g.more o) (by simp) (by simp [textn_ok.entK]) 0 samen_code (by simp [samen_fu]) (by cases chkn r l n s <;> rfl) ?_
  unfold chkn
  cases hb : nameB r l n
  · simp [samen_fu, x_textn, f_textn, hs, hb, ansn_f]
  · by_cases c : textnB r.toNat l n.toNat = s <;> simp [samen_fu, x_textn, f_textn, hs, hb, c, ansn_t, ansn_f, bin_neqS]
theorem sames_ok : EntOK Tryz.prog (HasG m t1 t2) e_sames := mkEnt_ok ok_sames fun p h gg hs _ => by
  obtain ⟨g, r, l, n, i, s⟩ := p
  have hs : l.length ≤ 9000 := hs
  refine plain_of (U := []) (K := [e_texts]) (v := anss (chks g r l n i s) g r l n i) (fun _ o => gg.more o) (by simp) (by simp [texts_ok.entK]) 0 sames_code (by simp [sames_fu]) (by cases chks g r l n i s <;> rfl) ?_
  unfold chks
  cases hb : stampB g r l n i
  · simp [sames_fu, x_texts, f_texts, hs, hb, anss_f]
  · by_cases c : textB g.toNat r.toNat l n.toNat i.toNat = s <;> simp [sames_fu, x_texts, f_texts, hs, hb, c, anss_t, anss_f, bin_neqS]
end
end Go.Proofs.YtjhgembcdndmkaaGreatDoor.St

namespace Go.Proofs.YtjhgembcdndmkaaGreatDoor.St
open Go Go.Proofs.YtjhgembcdndmkaaGreatDoor.Am Go.Proofs Go.RowKit
attribute [local simp] xr_mov xd_mov xr_pick xd_pick xr_bin xd_bin xr_un xd_un xr_build xd_build xr_convInt xd_convInt xr_mkIfc xd_mkIfc xr_mkFn xd_mkFn xr_fld xd_fld xr_part1 xd_part1 xr_partN xd_partN xr_extract xd_extract xr_lenS xd_lenS xr_lenL xd_lenL xr_lenArr xd_lenArr xr_nilPtr xd_nilPtr xr_load1 xd_load1 xr_loadN xd_loadN xr_bytesStr xd_bytesStr xr_eqPtr xd_eqPtr xr_eqIfc xd_eqIfc xr_new xd_new xr_box xd_box xr_buildSl xd_buildSl xr_strBytes xd_strBytes xr_mkSl xd_mkSl xr_idxAddrSl xd_idxAddrSl xr_idxAddrArr xd_idxAddrArr xr_idxStr xd_idxStr xr_sliceStr xd_sliceStr xr_sliceSl xd_sliceSl lenSA_str lenSA_strOf lenLA_sl lenLA_nil xfn xcode xdrawn xr_nil xr_kg xr_kh xr_call xr_callN xr_store xr_append xd_append xap_sl xap_nl xapq_some xsrc_sl xsrc_nil xapp_nil xapp_grow xapp_room xset xown xnx_some xnp_some xnq_some xd_nil xdl_old xdl_new xda_some xd_call xd_store xd_kg xdn_some xld xal kindOf isAlloc allocs xins xrem xall xput xget xwhole xcont xq xqs xres XS.add XR.out XR.res Rs.seq Rs.block mapO tupleA sv_args adv_eq tget eqs8 eqs7 eqt8 eqt7 eqi8 eqi7 eqb8 eqb7 eqg8 eql8 eql7 eqn8 eqn7 cells_strOf cells_int cells_agg cells_bool cells_str cells_sl cells_nil cells_ptr at_int at_str at_strOf at_bool at_sl at_nil at_ptr unstr_strOf unbyt_byt fill_nil fill_cons replA ev_tm ev_vl sv_stv bin_add bin_sub bin_mul bin_lss bin_leq bin_gtr bin_geq bin_eql bin_neq un_not un_neg nth0 nth1 nth2 xst_idxAddrSl xst_idxStr xst_sliceStr xbd slN Nat.testBit
noncomputable def parsebV (s : List UInt8) : AV := ansb (chkb (readI (Lib.cut s [46]).1) (Lib.cut s [46]).2.1 s) (readI (Lib.cut s [46]).1) (Lib.cut s [46]).2.1
noncomputable def parsenV (s : List UInt8) : AV := match cuts 46 s with
  | [a, b, c] => ansn (chkn (readI a) b (readI c) s) (readI a) b (readI c)
  | _ => .tup [.agg [int64 0, .str 0 0, int64 0], int64 4]
noncomputable def parsesV (s : List UInt8) : AV := match cuts 46 s with
  | [g, a, b, c, i] => anss (chks (readI g) (readI a) b (readI c) (readI i) s) (readI g) (readI a) b (readI c) (readI i)
  | _ => .tup [.agg [int64 0, int64 0, .str 0 0, int64 0, int64 0], int64 4]
noncomputable def e_parseb : Ent := mkEnt 9 1 [] (fun z_ : (List UInt8) => [strOf z_]) (fun _ => []) (fun z_ => z_.length ≤ 9000) (fun z_ => .plain (parsebV z_))
theorem f_parseb : e_parseb.f = 9 := rfl
theorem x_parseb {U : List Ent} {b : Pos} {st : XS} (hU : tget U 9 = some e_parseb) (s : List UInt8) (hp : s.length ≤ 9000) : xcall U b 9 [strOf s] st = some (XR.out b st (.plain (parsebV s))) :=
  xcall_at hU rfl rfl (mkEnt_spec (by rintro a0 b0 h hc; simp only [List.cons.injEq, AV.agg.injEq, AV.tup.injEq, AV.int.injEq, AV.bool.injEq, AV.ptr.injEq, AV.sl.injEq, strOf_eq, byt_eq, map_strOf_eq, true_and, and_true, Int.natCast_inj] at h hc; simp [h, hc]) s hp)
noncomputable def e_parsen : Ent := mkEnt 11 1 [] (fun z_ : (List UInt8) => [strOf z_]) (fun _ => []) (fun z_ => z_.length ≤ 9000) (fun z_ => .plain (parsenV z_))
theorem f_parsen : e_parsen.f = 11 := rfl
theorem x_parsen {U : List Ent} {b : Pos} {st : XS} (hU : tget U 11 = some e_parsen) (s : List UInt8) (hp : s.length ≤ 9000) : xcall U b 11 [strOf s] st = some (XR.out b st (.plain (parsenV s))) :=
  xcall_at hU rfl rfl (mkEnt_spec (by rintro a0 b0 h hc; simp only [List.cons.injEq, AV.agg.injEq, AV.tup.injEq, AV.int.injEq, AV.bool.injEq, AV.ptr.injEq, AV.sl.injEq, strOf_eq, byt_eq, map_strOf_eq, true_and, and_true, Int.natCast_inj] at h hc; simp [h, hc]) s hp)
noncomputable def e_parses : Ent := mkEnt 13 1 [] (fun z_ : (List UInt8) => [strOf z_]) (fun _ => []) (fun z_ => z_.length ≤ 9000) (fun z_ => .plain (parsesV z_))
theorem f_parses : e_parses.f = 13 := rfl
theorem x_parses {U : List Ent} {b : Pos} {st : XS} (hU : tget U 13 = some e_parses) (s : List UInt8) (hp : s.length ≤ 9000) : xcall U b 13 [strOf s] st = some (XR.out b st (.plain (parsesV s))) :=
  xcall_at hU rfl rfl (mkEnt_spec (by rintro a0 b0 h hc; simp only [List.cons.injEq, AV.agg.injEq, AV.tup.injEq, AV.int.injEq, AV.bool.injEq, AV.ptr.injEq, AV.sl.injEq, strOf_eq, byt_eq, map_strOf_eq, true_and, and_true, Int.natCast_inj] at h hc; simp [h, hc]) s hp)
section
variable {m : Int} {t1 t2 : AV}
theorem parseb_ok : EntOK Tryz.prog (HasG m t1 t2) e_parseb := mkEnt_ok ok_parseb fun s h g hs _ => by
  have hs : s.length ≤ 9000 := hs
  obtain ⟨q1, q2⟩ := cut_length 46 s
  refine plain_of (U := []) (K := [e_scut, e_read, e_sameb]) (v := parsebV s) (fun _ o => g.more o) (by simp) (by simp [kit_scut, read_ok.entK, sameb_ok.entK]) 0 parseb_code (by simp [parseb_fu]) (by unfold parsebV; cases chkb _ _ _ <;> rfl) ?_
  unfold parsebV
  have hx := fun {U b st} (hU : tget U 45 = some e_scut) => x_scut (U := U) (b := b) (st := st) hU s (by omega)
  generalize (Lib.cut s [46]) = ct at *
  obtain ⟨a, c, f⟩ := ct
  simp only at q1 q2 hx ⊢
  cases hk : chkb (readI a) c s <;> simp [parseb_fu, hx, f_scut, x_read, f_read, x_sameb, f_sameb, hk, ansb_t, ansb_f, show a.length ≤ 20000 by omega, show c.length ≤ 9000 by omega]
theorem parsen_ok : EntOK Tryz.prog (HasG m t1 t2) e_parsen := mkEnt_ok ok_parsen fun s h g hs _ => by
  have hs : s.length ≤ 9000 := hs
  have hv : (parsenV s).plain = true := by unfold parsenV; split; (cases chkn _ _ _ _ <;> rfl); rfl
  refine plain_of (U := [e_read, e_samen]) (K := [e_ssplit]) (v := parsenV s) (fun _ o => g.more o) (by simp [read_ok, samen_ok]) (by simp [kit_ssplit]) 0 parsen_code (by simp [parsen_fu]) hv ?_
  by_cases hl : (cuts 46 s).length = 3
  · have hc : ∃ a b c, cuts 46 s = [a, b, c] := by
      revert hl; generalize cuts 46 s = L; intro hl
      match L, hl with
      | [a, b, c], _ => exact ⟨a, b, c, rfl⟩
    obtain ⟨a, b, c, hc⟩ := hc
    have ha : a.length ≤ s.length := cuts_length (c := 46) (by rw [hc]; simp)
    have hb : b.length ≤ s.length := cuts_length (c := 46) (by rw [hc]; simp)
    have hcc : c.length ≤ s.length := cuts_length (c := 46) (by rw [hc]; simp)
    have hv : parsenV s = ansn (chkn (readI a) b (readI c) s) (readI a) b (readI c) := by unfold parsenV; rw [hc]
    rw [hv]
    cases hk : chkn (readI a) b (readI c) s <;> simp [parsen_fu, x_ssplit, f_ssplit, x_read, f_read, x_samen, f_samen, hc, hk, ansn_t, ansn_f, show s.length ≤ 20000 by omega, show a.length ≤ 20000 by omega, show c.length ≤ 20000 by omega, show b.length ≤ 9000 by omega]
  · have hv : parsenV s = .tup [.agg [int64 0, .str 0 0, int64 0], int64 4] := by
      unfold parsenV
      split
      · rename_i e; rw [e] at hl; simp at hl
      · rfl
    rw [hv]
    have hz : ¬ ((cuts 46 s).length : Int) = 3 := by omega
    simp [parsen_fu, x_ssplit, f_ssplit, hz, show s.length ≤ 20000 by omega]
theorem parses_ok : EntOK Tryz.prog (HasG m t1 t2) e_parses := mkEnt_ok ok_parses fun s h g hs _ => by
  have hs : s.length ≤ 9000 := hs
  have hv : (parsesV s).plain = true := by unfold parsesV; split; (cases chks _ _ _ _ _ _ <;> rfl); rfl
  refine plain_of (U := [e_read, e_sames]) (K := [e_ssplit]) (v := parsesV s) (fun _ o => g.more o) (by simp [read_ok, sames_ok]) (by simp [kit_ssplit]) 0 parses_code (by simp [parses_fu]) hv ?_
  by_cases hl : (cuts 46 s).length = 5
  · have hc : ∃ g a b c i, cuts 46 s = [g, a, b, c, i] := by
      revert hl; generalize cuts 46 s = L; intro hl
      match L, hl with
      | [g, a, b, c, i], _ => exact ⟨g, a, b, c, i, rfl⟩
    obtain ⟨gg, a, b, c, i, hc⟩ := hc
    have hg : gg.length ≤ s.length := cuts_length (c := 46) (by rw [hc]; simp)
    have ha : a.length ≤ s.length := cuts_length (c := 46) (by rw [hc]; simp)
    have hb : b.length ≤ s.length := cuts_length (c := 46) (by rw [hc]; simp)
    have hcc : c.length ≤ s.length := cuts_length (c := 46) (by rw [hc]; simp)
    have hi : i.length ≤ s.length := cuts_length (c := 46) (by rw [hc]; simp)
    have hv : parsesV s = anss (chks (readI gg) (readI a) b (readI c) (readI i) s) (readI gg) (readI a) b (readI c) (readI i) := by unfold parsesV; rw [hc]
    rw [hv]
    cases hk : chks (readI gg) (readI a) b (readI c) (readI i) s <;> simp [parses_fu, x_ssplit, f_ssplit, x_read, f_read, x_sames, f_sames, hc, hk, anss_t, anss_f, show s.length ≤ 20000 by omega, show a.length ≤ 20000 by omega, show c.length ≤ 20000 by omega, show i.length ≤ 20000 by omega, show gg.length ≤ 20000 by omega, show b.length ≤ 9000 by omega]
  · have hv : parsesV s = .tup [.agg [int64 0, int64 0, .str 0 0, int64 0, int64 0], int64 4] := by
      unfold parsesV
      split
      · rename_i e; rw [e] at hl; simp at hl
      · rfl
    rw [hv]
    have hz : ¬ ((cuts 46 s).length : Int) = 5 := by omega
    simp [parses_fu, x_ssplit, f_ssplit, hz, show s.length ≤ 20000 by omega]
end
end Go.Proofs.YtjhgembcdndmkaaGreatDoor.St

namespace Go.Proofs.YtjhgembcdndmkaaGreatDoor.St
open Go Go.Proofs.YtjhgembcdndmkaaGreatDoor.Am Go.Proofs Go.RowKit
attribute [local simp] xr_mov xd_mov xr_pick xd_pick xr_bin xd_bin xr_un xd_un xr_build xd_build xr_convInt xd_convInt xr_mkIfc xd_mkIfc xr_mkFn xd_mkFn xr_fld xd_fld xr_part1 xd_part1 xr_partN xd_partN xr_extract xd_extract xr_lenS xd_lenS xr_lenL xd_lenL xr_lenArr xd_lenArr xr_nilPtr xd_nilPtr xr_load1 xd_load1 xr_loadN xd_loadN xr_bytesStr xd_bytesStr xr_eqPtr xd_eqPtr xr_eqIfc xd_eqIfc xr_new xd_new xr_box xd_box xr_buildSl xd_buildSl xr_strBytes xd_strBytes xr_mkSl xd_mkSl xr_idxAddrSl xd_idxAddrSl xr_idxAddrArr xd_idxAddrArr xr_idxStr xd_idxStr xr_sliceStr xd_sliceStr xr_sliceSl xd_sliceSl lenSA_str lenSA_strOf lenLA_sl lenLA_nil xfn xcode xdrawn xr_nil xr_kg xr_kh xr_call xr_callN xr_store xr_append xd_append xap_sl xap_nl xapq_some xsrc_sl xsrc_nil xapp_nil xapp_grow xapp_room xset xown xnx_some xnp_some xnq_some xd_nil xdl_old xdl_new xda_some xd_call xd_store xd_kg xdn_some xld xal kindOf isAlloc allocs xins xrem xall xput xget xwhole xcont xq xqs xres XS.add XR.out XR.res Rs.seq Rs.block mapO tupleA sv_args adv_eq tget eqs8 eqs7 eqt8 eqt7 eqi8 eqi7 eqb8 eqb7 eqg8 eql8 eql7 eqn8 eqn7 cells_strOf cells_int cells_agg cells_bool cells_str cells_sl cells_nil cells_ptr at_int at_str at_strOf at_bool at_sl at_nil at_ptr unstr_strOf unbyt_byt fill_nil fill_cons replA ev_tm ev_vl sv_stv bin_add bin_sub bin_mul bin_lss bin_leq bin_gtr bin_geq bin_eql bin_neq un_not un_neg nth0 nth1 nth2 xst_idxAddrSl xst_idxStr xst_sliceStr xbd slN Nat.testBit
noncomputable def backI (s : List UInt8) : Int := (s.take 8).foldl (fun n c => orI (shlI n 8) (c.toNat : Int)) 0
noncomputable def eightB (n : Int) : List UInt8 := [56, 48, 40, 32, 24, 16, 8, 0].map fun i => u8I (shrI n i)
noncomputable def e_back : Ent := mkEnt 61 1 [] (fun z_ : (List UInt8) => [strOf z_]) (fun _ => []) (fun z_ => 8 ≤ z_.length ∧ z_.length ≤ 9000) (fun z_ => .plain (int64 (backI z_)))
theorem f_back : e_back.f = 61 := rfl
theorem x_back {U : List Ent} {b : Pos} {st : XS} (hU : tget U 61 = some e_back) (s : List UInt8) (hp : 8 ≤ s.length ∧ s.length ≤ 9000) : xcall U b 61 [strOf s] st = some (XR.out b st (.plain (int64 (backI s)))) :=
  xcall_at hU rfl rfl (mkEnt_spec (by rintro a0 b0 h hc; simp only [List.cons.injEq, AV.agg.injEq, AV.tup.injEq, AV.int.injEq, AV.bool.injEq, AV.ptr.injEq, AV.sl.injEq, strOf_eq, byt_eq, map_strOf_eq, true_and, and_true, Int.natCast_inj] at h hc; simp [h, hc]) s hp)
noncomputable def e_rback : Ent := mkEnt 62 1 [] (fun z_ : (List UInt8) => [strOf z_]) (fun _ => []) (fun z_ => 8 ≤ z_.length ∧ z_.length ≤ 9000) (fun z_ => .plain (int64 (backI z_)))
theorem f_rback : e_rback.f = 62 := rfl
theorem x_rback {U : List Ent} {b : Pos} {st : XS} (hU : tget U 62 = some e_rback) (s : List UInt8) (hp : 8 ≤ s.length ∧ s.length ≤ 9000) : xcall U b 62 [strOf s] st = some (XR.out b st (.plain (int64 (backI s)))) :=
  xcall_at hU rfl rfl (mkEnt_spec (by rintro a0 b0 h hc; simp only [List.cons.injEq, AV.agg.injEq, AV.tup.injEq, AV.int.injEq, AV.bool.injEq, AV.ptr.injEq, AV.sl.injEq, strOf_eq, byt_eq, map_strOf_eq, true_and, and_true, Int.natCast_inj] at h hc; simp [h, hc]) s hp)
noncomputable def e_eight : Ent := mkEnt 81 1 [] (fun z_ : Int => [int64 z_]) (fun _ => []) (fun _ => True) (fun z_ => .row (byt (eightB z_)) (fun p => slN p 8 1))
theorem f_eight : e_eight.f = 81 := rfl
theorem x_eight {U : List Ent} {b : Pos} {st : XS} (hU : tget U 81 = some e_eight) (n : Int) : xcall U b 81 [int64 n] st = some (XR.out b st (.row (byt (eightB n)) (fun p => slN p 8 1))) :=
  xcall_at hU rfl rfl (mkEnt_spec (by rintro a0 b0 h hc; simp only [List.cons.injEq, AV.agg.injEq, AV.tup.injEq, AV.int.injEq, AV.bool.injEq, AV.ptr.injEq, AV.sl.injEq, strOf_eq, byt_eq, map_strOf_eq, true_and, and_true, Int.natCast_inj] at h hc; simp [h, hc]) n trivial)
noncomputable def e_reight : Ent := mkEnt 99 1 [] (fun z_ : Int => [int64 z_]) (fun _ => []) (fun _ => True) (fun z_ => .row (byt (eightB z_)) (fun p => slN p 8 1))
theorem f_reight : e_reight.f = 99 := rfl
theorem x_reight {U : List Ent} {b : Pos} {st : XS} (hU : tget U 99 = some e_reight) (n : Int) : xcall U b 99 [int64 n] st = some (XR.out b st (.row (byt (eightB n)) (fun p => slN p 8 1))) :=
  xcall_at hU rfl rfl (mkEnt_spec (by rintro a0 b0 h hc; simp only [List.cons.injEq, AV.agg.injEq, AV.tup.injEq, AV.int.injEq, AV.bool.injEq, AV.ptr.injEq, AV.sl.injEq, strOf_eq, byt_eq, map_strOf_eq, true_and, and_true, Int.natCast_inj] at h hc; simp [h, hc]) n trivial)
section
variable {m : Int} {t1 t2 : AV}
theorem byteV_int (n : Nat) : byteV n = .int .u8 (n : Int) := rfl
theorem ge8 {s : List UInt8} (h : 8 ≤ s.length) : ∃ a b c d e f g i r, s = a :: b :: c :: d :: e :: f :: g :: i :: r := by
  match s, h with
  | a :: b :: c :: d :: e :: f :: g :: i :: r, _ => exact ⟨a, b, c, d, e, f, g, i, r, rfl⟩
def foldI (sh : Int → Int) (o : Int → Int → Int) (s : List UInt8) : Int := (s.take 8).foldl (fun n c => o (sh n) (c.toNat : Int)) 0
theorem back_gen (sh : Int → Int) (o : Int → Int → Int) (h1 : ∀ kd no x kk, binA .shl kd no (.int .i64 x) (.int kk 8) = some (.int .i64 (sh x))) (h2 : ∀ kd no x y, binA .or kd no (.int .i64 x) (.int .i64 y) = some (.int .i64 (o x y))) (q : Pos) (s : List UInt8) (h8 : 8 ≤ s.length) (h9 : s.length ≤ 9000) :
    (xfn Tryz.prog [] [] q 10 back_fu [strOf s] ⟨0, []⟩).map (·.1) = some (int64 (foldI sh o s)) := by
  obtain ⟨a, b, c, d, e, f, g', i, r, rfl⟩ := ge8 h8
  have hr : r.length + 8 ≤ 9000 := by simpa using h9
  simp [back_fu, back_0, xloop, foldI, h1, h2, w64, w64_u8, byt, byteV_int]
theorem rback_gen (sh : Int → Int) (o : Int → Int → Int) (h1 : ∀ kd no x kk, binA .shl kd no (.int .i64 x) (.int kk 8) = some (.int .i64 (sh x))) (h2 : ∀ kd no x y, binA .or kd no (.int .i64 x) (.int .i64 y) = some (.int .i64 (o x y))) (q : Pos) (s : List UInt8) (h8 : 8 ≤ s.length) (h9 : s.length ≤ 9000) :
    (xfn Tryz.prog [] [] q 10 rback_fu [strOf s] ⟨0, []⟩).map (·.1) = some (int64 (foldI sh o s)) := by
  obtain ⟨a, b, c, d, e, f, g', i, r, rfl⟩ := ge8 h8
  have hr : r.length + 8 ≤ 9000 := by simpa using h9
  simp [rback_fu, rback_0, xloop, foldI, h1, h2, w64, w64_u8, byt, byteV_int]
theorem back_ok : EntOK Tryz.prog (HasG m t1 t2) e_back := mkEnt_ok ok_back fun s h g hs _ => by
  obtain ⟨h8, h9⟩ : 8 ≤ s.length ∧ s.length ≤ 9000 := hs
  exact plain_of (U := []) (K := []) (fun _ o => g.more o) (by simp) (by simp) 10 back_code (by simp [back_fu]) rfl (back_gen (fun x => shlI x 8) orI (fun kd no x kk => bin_shl kd no x kk 8) bin_or h.next s h8 h9)
theorem rback_ok : EntOK Tryz.prog (HasG m t1 t2) e_rback := mkEnt_ok ok_rback fun s h g hs _ => by
  obtain ⟨h8, h9⟩ : 8 ≤ s.length ∧ s.length ≤ 9000 := hs
  exact plain_of (U := []) (K := []) (fun _ o => g.more o) (by simp) (by simp) 10 rback_code (by simp [rback_fu]) rfl (rback_gen (fun x => shlI x 8) orI (fun kd no x kk => bin_shl kd no x kk 8) bin_or h.next s h8 h9)
theorem eight_ok : EntOK Tryz.prog (HasG m t1 t2) e_eight := mkEnt_ok ok_eight fun n h g _ _ => by
  refine row_of (U := []) (K := []) (X := []) (fun _ o => g.more o) (by simp) (by simp) 10 (.start h) eight_code (by simp [eight_fu]) (fun y hy => by obtain ⟨c, _, rfl⟩ := List.mem_map.1 hy; rfl) ?_
  simp [eight_fu, eight_0, xloop, eightB, bin_shr', w64, wu64, w8, byt, byteV_int, rowOut_sl, xown]
theorem reight_ok : EntOK Tryz.prog (HasG m t1 t2) e_reight := mkEnt_ok ok_reight fun n h g _ _ => by
  refine row_of (U := []) (K := []) (X := []) (fun _ o => g.more o) (by simp) (by simp) 10 (.start h) reight_code (by simp [reight_fu]) (fun y hy => by obtain ⟨c, _, rfl⟩ := List.mem_map.1 hy; rfl) ?_
  simp [reight_fu, reight_0, xloop, eightB, bin_shr', w64, wu64, w8, byt, byteV_int, rowOut_sl, xown]
end
end Go.Proofs.YtjhgembcdndmkaaGreatDoor.St

namespace Go.Proofs.YtjhgembcdndmkaaGreatDoor.St
open Go Go.Proofs.YtjhgembcdndmkaaGreatDoor.Am Go.Proofs Go.RowKit
attribute [local simp] xr_mov xd_mov xr_pick xd_pick xr_bin xd_bin xr_un xd_un xr_build xd_build xr_convInt xd_convInt xr_mkIfc xd_mkIfc xr_mkFn xd_mkFn xr_fld xd_fld xr_part1 xd_part1 xr_partN xd_partN xr_extract xd_extract xr_lenS xd_lenS xr_lenL xd_lenL xr_lenArr xd_lenArr xr_nilPtr xd_nilPtr xr_load1 xd_load1 xr_loadN xd_loadN xr_bytesStr xd_bytesStr xr_eqPtr xd_eqPtr xr_eqIfc xd_eqIfc xr_new xd_new xr_box xd_box xr_buildSl xd_buildSl xr_strBytes xd_strBytes xr_mkSl xd_mkSl xr_idxAddrSl xd_idxAddrSl xr_idxAddrArr xd_idxAddrArr xr_idxStr xd_idxStr xr_sliceStr xd_sliceStr xr_sliceSl xd_sliceSl lenSA_str lenSA_strOf lenLA_sl lenLA_nil xfn xcode xdrawn xr_nil xr_kg xr_kh xr_call xr_callN xr_store xr_append xd_append xap_sl xap_nl xapq_some xsrc_sl xsrc_nil xapp_nil xapp_grow xapp_room xset xown xnx_some xnp_some xnq_some xd_nil xdl_old xdl_new xda_some xd_call xd_store xd_kg xdn_some xld xal kindOf isAlloc allocs xins xrem xall xput xget xwhole xcont xq xqs xres XS.add XR.out XR.res Rs.seq Rs.block mapO tupleA sv_args adv_eq tget eqs8 eqs7 eqt8 eqt7 eqi8 eqi7 eqb8 eqb7 eqg8 eql8 eql7 eqn8 eqn7 cells_strOf cells_int cells_agg cells_bool cells_str cells_sl cells_nil cells_ptr at_int at_str at_strOf at_bool at_sl at_nil at_ptr unstr_strOf unbyt_byt fill_nil fill_cons replA ev_tm ev_vl sv_stv bin_add bin_sub bin_mul bin_lss bin_leq bin_gtr bin_geq bin_eql bin_neq un_not un_neg nth0 nth1 nth2 xst_idxAddrSl xst_idxStr xst_sliceStr xbd slN Nat.testBit
def catB (l0 l1 l2 l3 l4 l5 : List UInt8) : List UInt8 := l0 ++ l1 ++ l2 ++ l3 ++ l4 ++ l5
noncomputable def e_join : Ent := mkEnt 80 1 [.sl 0, .ssl 0 0, .ssl 0 1, .ssl 0 2, .ssl 0 3, .ssl 0 4, .ssl 0 5] (fun z_ : Pos × Pos × Pos × Pos × Pos × Pos × Pos × (List UInt8) × (List UInt8) × (List UInt8) × (List UInt8) × (List UInt8) × (List UInt8) => [.sl z_.1 0 0 6 6 true 1]) (fun z_ => [[.sl z_.2.1 0 0 z_.2.2.2.2.2.2.2.1.length z_.2.2.2.2.2.2.2.1.length false 1, .sl z_.2.2.1 0 0 z_.2.2.2.2.2.2.2.2.1.length z_.2.2.2.2.2.2.2.2.1.length true 1, .sl z_.2.2.2.1 0 0 z_.2.2.2.2.2.2.2.2.2.1.length z_.2.2.2.2.2.2.2.2.2.1.length false 1, .sl z_.2.2.2.2.1 0 0 z_.2.2.2.2.2.2.2.2.2.2.1.length z_.2.2.2.2.2.2.2.2.2.2.1.length true 1, .sl z_.2.2.2.2.2.1 0 0 z_.2.2.2.2.2.2.2.2.2.2.2.1.length z_.2.2.2.2.2.2.2.2.2.2.2.1.length false 1, .sl z_.2.2.2.2.2.2.1 0 0 z_.2.2.2.2.2.2.2.2.2.2.2.2.length z_.2.2.2.2.2.2.2.2.2.2.2.2.length true 1], byt z_.2.2.2.2.2.2.2.1, byt z_.2.2.2.2.2.2.2.2.1, byt z_.2.2.2.2.2.2.2.2.2.1, byt z_.2.2.2.2.2.2.2.2.2.2.1, byt z_.2.2.2.2.2.2.2.2.2.2.2.1, byt z_.2.2.2.2.2.2.2.2.2.2.2.2]) (fun z_ => ([z_.1, z_.2.1, z_.2.2.1, z_.2.2.2.1, z_.2.2.2.2.1, z_.2.2.2.2.2.1, z_.2.2.2.2.2.2.1].Pairwise (fun x y => x ≠ y)) ∧ z_.2.2.2.2.2.2.2.1 ≠ [] ∧ z_.2.2.2.2.2.2.2.2.1 ≠ [] ∧ z_.2.2.2.2.2.2.2.2.2.1 ≠ [] ∧ z_.2.2.2.2.2.2.2.2.2.2.1 ≠ [] ∧ z_.2.2.2.2.2.2.2.2.2.2.2.1 ≠ [] ∧ z_.2.2.2.2.2.2.2.2.2.2.2.2 ≠ [] ∧ (catB z_.2.2.2.2.2.2.2.1 z_.2.2.2.2.2.2.2.2.1 z_.2.2.2.2.2.2.2.2.2.1 z_.2.2.2.2.2.2.2.2.2.2.1 z_.2.2.2.2.2.2.2.2.2.2.2.1 z_.2.2.2.2.2.2.2.2.2.2.2.2).length ≤ 100000) (fun z_ => .row (byt (catB z_.2.2.2.2.2.2.2.1 z_.2.2.2.2.2.2.2.2.1 z_.2.2.2.2.2.2.2.2.2.1 z_.2.2.2.2.2.2.2.2.2.2.1 z_.2.2.2.2.2.2.2.2.2.2.2.1 z_.2.2.2.2.2.2.2.2.2.2.2.2)) (fun q => slN q (catB z_.2.2.2.2.2.2.2.1 z_.2.2.2.2.2.2.2.2.1 z_.2.2.2.2.2.2.2.2.2.1 z_.2.2.2.2.2.2.2.2.2.2.1 z_.2.2.2.2.2.2.2.2.2.2.2.1 z_.2.2.2.2.2.2.2.2.2.2.2.2).length 1))
theorem f_join : e_join.f = 80 := rfl
theorem x_join {U : List Ent} {b : Pos} {st : XS} (hU : tget U 80 = some e_join) (p : Pos) (p0 : Pos) (p1 : Pos) (p2 : Pos) (p3 : Pos) (p4 : Pos) (p5 : Pos) (l0 : List UInt8) (l1 : List UInt8) (l2 : List UInt8) (l3 : List UInt8) (l4 : List UInt8) (l5 : List UInt8) (hp : ([p, p0, p1, p2, p3, p4, p5].Pairwise (fun x y => x ≠ y)) ∧ l0 ≠ [] ∧ l1 ≠ [] ∧ l2 ≠ [] ∧ l3 ≠ [] ∧ l4 ≠ [] ∧ l5 ≠ [] ∧ (catB l0 l1 l2 l3 l4 l5).length ≤ 100000) (hq : xqs st.X [.sl p 0 0 6 6 true 1] [.sl 0, .ssl 0 0, .ssl 0 1, .ssl 0 2, .ssl 0 3, .ssl 0 4, .ssl 0 5] = some [[.sl p0 0 0 l0.length l0.length false 1, .sl p1 0 0 l1.length l1.length true 1, .sl p2 0 0 l2.length l2.length false 1, .sl p3 0 0 l3.length l3.length true 1, .sl p4 0 0 l4.length l4.length false 1, .sl p5 0 0 l5.length l5.length true 1], byt l0, byt l1, byt l2, byt l3, byt l4, byt l5]) : xcall U b 80 [.sl p 0 0 6 6 true 1] st = some (XR.out b st (.row (byt (catB l0 l1 l2 l3 l4 l5)) (fun q => slN q (catB l0 l1 l2 l3 l4 l5).length 1))) :=
  xcall_at hU rfl hq (mkEnt_spec (by rintro ⟨a0, a1, a2, a3, a4, a5, a6, a7, a8, a9, a10, a11, a12⟩ ⟨b0, b1, b2, b3, b4, b5, b6, b7, b8, b9, b10, b11, b12⟩ h hc; simp only [List.cons.injEq, AV.agg.injEq, AV.tup.injEq, AV.int.injEq, AV.bool.injEq, AV.ptr.injEq, AV.sl.injEq, strOf_eq, byt_eq, map_strOf_eq, true_and, and_true, Int.natCast_inj] at h hc; simp [h, hc]) (p, p0, p1, p2, p3, p4, p5, l0, l1, l2, l3, l4, l5) hp)
theorem slc_at {h : Hp} {p : Pos} {n : Nat} {l : List AV} {ex : Bool} (c : SlC h (.sl p 0 0 n n ex 1) l) : ∃ L, XB.Holds h ⟨p, 0, false, L⟩ ∧ List.take n L = l ∧ n ≤ L.length := by
  generalize hv : AV.sl p 0 0 n n ex 1 = v at c
  cases c with
  | nil => cases hv
  | @mk id gg off n cap es e' L k hn =>
    cases hv
    exact ⟨L, k, by simp, by omega⟩
section
variable {m : Int} {t1 t2 : AV}
theorem join_ok : EntOK Tryz.prog (HasG m t1 t2) e_join := mkEnt_ok ok_join fun z h g hz hc => by
  obtain ⟨p, p0, p1, p2, p3, p4, p5, l0, l1, l2, l3, l4, l5⟩ := z
  obtain ⟨hp, n0, n1, n2, n3, n4, n5, hl⟩ := hz
  obtain ⟨_, _, e, ⟨_, ev, s⟩, _, _, e0, ⟨_, _, _, ev0, sa0, w0, s0⟩, _, _, e1, ⟨_, _, _, ev1, sa1, w1, s1⟩, _, _, e2, ⟨_, _, _, ev2, sa2, w2, s2⟩, _, _, e3, ⟨_, _, _, ev3, sa3, w3, s3⟩, _, _, e4, ⟨_, _, _, ev4, sa4, w4, s4⟩, _, _, e5, ⟨_, _, _, ev5, sa5, w5, s5⟩, _⟩ := hc
  cases e; cases e0; cases e1; cases e2; cases e3; cases e4; cases e5
  cases ev; cases ev0; cases ev1; cases ev2; cases ev3; cases ev4; cases ev5
  cases sa0.eq s; cases sa1.eq s; cases sa2.eq s; cases sa3.eq s; cases sa4.eq s; cases sa5.eq s
  cases w0; cases w1; cases w2; cases w3; cases w4; cases w5
  dsimp only at *
  obtain ⟨L, kp, tp, ap⟩ := slc_at s
  obtain ⟨L0, k0, t0, a0⟩ := slc_at s0
  obtain ⟨L1, k1, t1', a1⟩ := slc_at s1
  obtain ⟨L2, k2, t2', a2⟩ := slc_at s2
  obtain ⟨L3, k3, t3, a3⟩ := slc_at s3
  obtain ⟨L4, k4, t4, a4⟩ := slc_at s4
  obtain ⟨L5, k5, t5, a5⟩ := slc_at s5
  rw [← List.take_append_drop 6 L, tp] at kp
  generalize L.drop 6 = R at kp
  have hX : AllH [⟨p, 0, false, [.sl p0 0 0 l0.length l0.length false 1, .sl p1 0 0 l1.length l1.length true 1, .sl p2 0 0 l2.length l2.length false 1, .sl p3 0 0 l3.length l3.length true 1, .sl p4 0 0 l4.length l4.length false 1, .sl p5 0 0 l5.length l5.length true 1] ++ R⟩, ⟨p0, 0, false, L0⟩, ⟨p1, 0, false, L1⟩, ⟨p2, 0, false, L2⟩, ⟨p3, 0, false, L3⟩, ⟨p4, 0, false, L4⟩, ⟨p5, 0, false, L5⟩] h := by
    intro x mx
    simp only [List.mem_cons, List.not_mem_nil, or_false] at mx
    rcases mx with rfl | rfl | rfl | rfl | rfl | rfl | rfl <;> assumption
  have fr : ∀ {x : XB}, x.Holds h → h.next ≠ x.id := fun k c => by have := k.old; rw [← c] at this; omega
  have fp := fr kp; have f0 := fr k0; have f1 := fr k1; have f2 := fr k2; have f3 := fr k3; have f4 := fr k4; have f5 := fr k5
  have fs : ∀ {x : XB}, x.Holds h → (adv h.next 1) ≠ x.id := fun k c => by have := k.old; rw [← c, adv_num] at this; omega
  have gp := fs kp; have g0 := fs k0; have g1 := fs k1; have g2 := fs k2; have g3 := fs k3; have g4 := fs k4; have g5 := fs k5
  simp only at fp f0 f1 f2 f3 f4 f5 gp g0 g1 g2 g3 g4 g5
  have hp' := hp
  simp only [List.pairwise_cons, List.mem_cons, List.not_mem_nil, or_false, forall_eq_or_imp, forall_eq, ne_eq] at hp'
  obtain ⟨⟨c1, c2, c3, c4, c5, c6⟩, ⟨d1, d2, d3, d4, d5⟩, ⟨e1, e2, e3, e4⟩, ⟨i1, i2, i3⟩, ⟨j1, j2⟩, j3, _⟩ := hp'
  have z0 : l0.length ≠ 0 := fun c => n0 (List.length_eq_zero_iff.1 c)
  have z1 : l1.length ≠ 0 := fun c => n1 (List.length_eq_zero_iff.1 c)
  have z2 : l2.length ≠ 0 := fun c => n2 (List.length_eq_zero_iff.1 c)
  have z3 : l3.length ≠ 0 := fun c => n3 (List.length_eq_zero_iff.1 c)
  have z4 : l4.length ≠ 0 := fun c => n4 (List.length_eq_zero_iff.1 c)
  have z5 : l5.length ≠ 0 := fun c => n5 (List.length_eq_zero_iff.1 c)
  have hb : l0.length + l1.length + l2.length + l3.length + l4.length + l5.length ≤ 100000 := by simpa [catB, Nat.add_assoc] using hl
  refine row_of (U := []) (K := []) (fun _ o => g.more o) (by simp) (by simp) 10 (.startX h hX ?_ ?_) join_code (by simp [join_fu]) (byt_plain _) ?_
  · simpa using hp
  · intro x mx
    simp only [List.mem_cons, List.not_mem_nil, or_false] at mx
    rcases mx with rfl | rfl | rfl | rfl | rfl | rfl | rfl <;> rfl
  have ad0 : adv h.next 0 = h.next := rfl
  simp [join_fu, join_0, xloop, w64, rowOut_sl, xown, ad0, catB, byt_all, byt_len, byt_app, Nat.add_assoc, t0, t1', t2', t3, t4, t5, a0, a1, a2, a3, a4, a5, fp, f0, f1, f2, f3, f4, f5, gp, g0, g1, g2, g3, g4, g5, c1, c2, c3, c4, c5, c6, d1, d2, d3, d4, d5, e1, e2, e3, e4, i1, i2, i3, j1, j2, j3, z0, z1, z2, z3, z4, z5, show l0.length ≤ 1073741824 by omega, show l0.length + l1.length ≤ 1073741824 by omega, show l0.length + (l1.length + l2.length) ≤ 1073741824 by omega, show l0.length + (l1.length + (l2.length + l3.length)) ≤ 1073741824 by omega, show l0.length + (l1.length + (l2.length + (l3.length + l4.length))) ≤ 1073741824 by omega, show l0.length + (l1.length + (l2.length + (l3.length + (l4.length + l5.length)))) ≤ 1073741824 by omega]
end
end Go.Proofs.YtjhgembcdndmkaaGreatDoor.St

namespace Go.Proofs.YtjhgembcdndmkaaGreatDoor.St
open Go Go.Proofs.YtjhgembcdndmkaaGreatDoor.Am Go.Proofs Go.RowKit
attribute [local simp] xr_mov xd_mov xr_pick xd_pick xr_bin xd_bin xr_un xd_un xr_build xd_build xr_convInt xd_convInt xr_mkIfc xd_mkIfc xr_mkFn xd_mkFn xr_fld xd_fld xr_part1 xd_part1 xr_partN xd_partN xr_extract xd_extract xr_lenS xd_lenS xr_lenL xd_lenL xr_lenArr xd_lenArr xr_nilPtr xd_nilPtr xr_load1 xd_load1 xr_loadN xd_loadN xr_bytesStr xd_bytesStr xr_eqPtr xd_eqPtr xr_eqIfc xd_eqIfc xr_new xd_new xr_box xd_box xr_buildSl xd_buildSl xr_strBytes xd_strBytes xr_mkSl xd_mkSl xr_idxAddrSl xd_idxAddrSl xr_idxAddrArr xd_idxAddrArr xr_idxStr xd_idxStr xr_sliceStr xd_sliceStr xr_sliceSl xd_sliceSl lenSA_str lenSA_strOf lenLA_sl lenLA_nil xfn xcode xdrawn xr_nil xr_kg xr_kh xr_call xr_callN xr_store xr_append xd_append xap_sl xap_nl xapq_some xsrc_sl xsrc_nil xapp_nil xapp_grow xapp_room xset xown xnx_some xnp_some xnq_some xd_nil xdl_old xdl_new xda_some xd_call xd_store xd_kg xdn_some xld xal kindOf isAlloc allocs xins xrem xall xput xget xwhole xcont xq xqs xres XS.add XR.out XR.res Rs.seq Rs.block mapO tupleA sv_args adv_eq tget eqs8 eqs7 eqt8 eqt7 eqi8 eqi7 eqb8 eqb7 eqg8 eql8 eql7 eqn8 eqn7 cells_strOf cells_int cells_agg cells_bool cells_str cells_sl cells_nil cells_ptr at_int at_str at_strOf at_bool at_sl at_nil at_ptr unstr_strOf unbyt_byt fill_nil fill_cons replA ev_tm ev_vl sv_stv bin_add bin_sub bin_mul bin_lss bin_leq bin_gtr bin_geq bin_eql bin_neq un_not un_neg nth0 nth1 nth2 xst_idxAddrSl xst_idxStr xst_sliceStr xbd slN Nat.testBit
noncomputable def keyB (g r : Int) (l : List UInt8) (n i : Int) : List UInt8 := catB (eightB g) [u8I r] l [0] (eightB n) [u8I i]
theorem eightB_len (n : Int) : (eightB n).length = 8 := rfl
theorem eightB_ne (n : Int) : eightB n ≠ [] := fun c => by have := congrArg List.length c; cases this
theorem keyB_len (g r : Int) (l : List UInt8) (n i : Int) : (keyB g r l n i).length = l.length + 19 := by
  unfold keyB catB; simp [eightB_len]; omega
noncomputable def e_key : Ent := mkEnt 30 1 [] (fun z_ : Int × Int × (List UInt8) × Int × Int => [.agg [int64 z_.1, int64 z_.2.1, strOf z_.2.2.1, int64 z_.2.2.2.1, int64 z_.2.2.2.2]]) (fun _ => []) (fun z_ => z_.2.2.1.length ≤ 9000) (fun z_ => .plain (.tup [strOf (orNil (stampB z_.1 z_.2.1 z_.2.2.1 z_.2.2.2.1 z_.2.2.2.2) (keyB z_.1 z_.2.1 z_.2.2.1 z_.2.2.2.1 z_.2.2.2.2)), int64 (errB (stampB z_.1 z_.2.1 z_.2.2.1 z_.2.2.2.1 z_.2.2.2.2))]))
theorem f_key : e_key.f = 30 := rfl
theorem x_key {U : List Ent} {b : Pos} {st : XS} (hU : tget U 30 = some e_key) (g : Int) (r : Int) (s : List UInt8) (n : Int) (i : Int) (hp : s.length ≤ 9000) : xcall U b 30 [.agg [int64 g, int64 r, strOf s, int64 n, int64 i]] st = some (XR.out b st (.plain (.tup [strOf (orNil (stampB g r s n i) (keyB g r s n i)), int64 (errB (stampB g r s n i))]))) :=
  xcall_at hU rfl rfl (mkEnt_spec (by rintro ⟨a0, a1, a2, a3, a4⟩ ⟨b0, b1, b2, b3, b4⟩ h hc; simp only [List.cons.injEq, AV.agg.injEq, AV.tup.injEq, AV.int.injEq, AV.bool.injEq, AV.ptr.injEq, AV.sl.injEq, strOf_eq, byt_eq, map_strOf_eq, true_and, and_true, Int.natCast_inj] at h hc; simp [h, hc]) (g, r, s, n, i) hp)
noncomputable def e_rkey : Ent := mkEnt 63 1 [] (fun z_ : Int × Int × (List UInt8) × Int × Int => [.agg [int64 z_.1, int64 z_.2.1, strOf z_.2.2.1, int64 z_.2.2.2.1, int64 z_.2.2.2.2]]) (fun _ => []) (fun z_ => z_.2.2.1 ≠ [] ∧ z_.2.2.1.length ≤ 9000) (fun z_ => .plain (strOf (keyB z_.1 z_.2.1 z_.2.2.1 z_.2.2.2.1 z_.2.2.2.2)))
theorem f_rkey : e_rkey.f = 63 := rfl
theorem x_rkey {U : List Ent} {b : Pos} {st : XS} (hU : tget U 63 = some e_rkey) (g : Int) (r : Int) (s : List UInt8) (n : Int) (i : Int) (hp : s ≠ [] ∧ s.length ≤ 9000) : xcall U b 63 [.agg [int64 g, int64 r, strOf s, int64 n, int64 i]] st = some (XR.out b st (.plain (strOf (keyB g r s n i)))) :=
  xcall_at hU rfl rfl (mkEnt_spec (by rintro ⟨a0, a1, a2, a3, a4⟩ ⟨b0, b1, b2, b3, b4⟩ h hc; simp only [List.cons.injEq, AV.agg.injEq, AV.tup.injEq, AV.int.injEq, AV.bool.injEq, AV.ptr.injEq, AV.sl.injEq, strOf_eq, byt_eq, map_strOf_eq, true_and, and_true, Int.natCast_inj] at h hc; simp [h, hc]) (g, r, s, n, i) hp)
theorem byt_cons (c : UInt8) (l : List UInt8) : byt (c :: l) = .int .u8 (c.toNat : Int) :: byt l := rfl
theorem byt_nil : byt [] = [] := rfl
section
variable {m : Int} {t1 t2 : AV}
theorem key_ok : EntOK Tryz.prog (HasG m t1 t2) e_key := mkEnt_ok ok_key fun p h gg hs _ => by
  obtain ⟨g, r, s, n, i⟩ := p
  have hs : s.length ≤ 9000 := hs
  refine plain_of (U := [e_eight, e_join]) (K := [e_stamp]) (fun _ o => gg.more o) (by simp [eight_ok, join_ok]) (by simp [stamp_ok.entK]) 0 key_code (by simp [key_fu]) rfl ?_
  show _ = some (AV.tup [strOf (orNil (stampB g r s n i) (keyB g r s n i)), int64 (errB (stampB g r s n i))])
  cases hb : stampB g r s n i
  · simp [key_fu, x_stamp, f_stamp, hs, hb, strOf_nil]
  · obtain ⟨qg1, qg2, qn, qi1, qi2⟩ := stampB_le hb
    obtain ⟨qb, qn1, qn2⟩ := nameB_le qn
    obtain ⟨q0, q8, ql⟩ := branchB_le qb
    have sne : s ≠ [] := fun c => by subst c; simp [branchB, labelB] at qb
    have sl : s.length ≤ 1000000 := by omega
    have kl := keyB_len g r s n i
    have kl2 : (keyB g r s n i).length ≤ 100000 := by omega
    have J := fun {U b st} (hU : tget U 80 = some e_join) hp hq => x_join (U := U) (b := b) (st := st) hU (adv h.next 6) (adv h.next 7) (adv h.next 2) (adv h.next 3) (adv h.next 4) (adv h.next 8) (adv h.next 5) (eightB g) [u8I r] s [0] (eightB n) [u8I i] hp hq
    have tk : ∀ z, List.take 8 (byt (eightB z)) = byt (eightB z) := fun z => List.take_of_length_le (by rw [byt_len, eightB_len]; exact Nat.le_refl _)
    rw [show catB (eightB g) [u8I r] s [0] (eightB n) [u8I i] = keyB g r s n i from rfl] at J
    simp [key_fu, x_stamp, f_stamp, hs, hb, x_eight, f_eight, J, f_join, tk, sne, sl, eightB_len, eightB_ne, byt_len, byt_one, byt_take, w8, kl2]
theorem rkey_ok : EntOK Tryz.prog (HasG m t1 t2) e_rkey := mkEnt_ok ok_rkey fun p h gg hs _ => by
  obtain ⟨g, r, s, n, i⟩ := p
  obtain ⟨sne, hs⟩ : s ≠ [] ∧ s.length ≤ 9000 := hs
  refine plain_of (U := [e_reight]) (K := [e_reight]) (fun _ o => gg.more o) (by simp [reight_ok]) (by simp [reight_ok.entK]) 0 rkey_code (by simp [rkey_fu]) rfl ?_
  show _ = some (strOf (keyB g r s n i))
  have z0 : s.length ≠ 0 := fun c => sne (List.length_eq_zero_iff.1 c)
  have tk : ∀ z, List.take 8 (byt (eightB z)) = byt (eightB z) := fun z => List.take_of_length_le (by rw [byt_len, eightB_len]; exact Nat.le_refl _)
  have kb : byt (keyB g r s n i) = byt (eightB g) ++ (.int .u8 ((u8I r).toNat : Int) :: (byt s ++ (.int .u8 0 :: (byt (eightB n) ++ [.int .u8 ((u8I i).toNat : Int)])))) := by
    unfold keyB catB; simp [byt_app, byt_cons, byt_nil]
  have kl := keyB_len g r s n i
  have kt : List.take (9 + (s.length + 10)) (byt (keyB g r s n i)) = byt (keyB g r s n i) := List.take_of_length_le (by rw [byt_len, kl]; omega)
  simp [rkey_fu, x_reight, f_reight, tk, sne, eightB_len, eightB_ne, byt_len, byt_all, byt_one, byt_take, w8, ← kb, show 9 + (s.length + 10) ≤ s.length + 19 by omega, show 8 + (s.length + 1) = 9 + s.length by omega, show 8 + (s.length + 2) = 9 + (s.length + 1) by omega, show 8 + (s.length + 10) = 9 + (s.length + 9) by omega, show 8 + (s.length + 11) = 9 + (s.length + 10) by omega, xap_text, Nat.add_assoc, show 0 < s.length by omega, show 9 + s.length ≤ 1073741824 by omega, show 9 + (s.length + 1) ≤ 1073741824 by omega, show 9 + (s.length + 9) ≤ 1073741824 by omega, show 9 + (s.length + 10) ≤ 1073741824 by omega, kt, kl]
end
end Go.Proofs.YtjhgembcdndmkaaGreatDoor.St

namespace Go.Proofs.YtjhgembcdndmkaaGreatDoor.St
open Go Go.Proofs.YtjhgembcdndmkaaGreatDoor.Am Go.Proofs Go.RowKit
attribute [local simp] xr_mov xd_mov xr_pick xd_pick xr_bin xd_bin xr_un xd_un xr_build xd_build xr_convInt xd_convInt xr_mkIfc xd_mkIfc xr_mkFn xd_mkFn xr_fld xd_fld xr_part1 xd_part1 xr_partN xd_partN xr_extract xd_extract xr_lenS xd_lenS xr_lenL xd_lenL xr_lenArr xd_lenArr xr_nilPtr xd_nilPtr xr_load1 xd_load1 xr_loadN xd_loadN xr_bytesStr xd_bytesStr xr_eqPtr xd_eqPtr xr_eqIfc xd_eqIfc xr_new xd_new xr_box xd_box xr_buildSl xd_buildSl xr_strBytes xd_strBytes xr_mkSl xd_mkSl xr_idxAddrSl xd_idxAddrSl xr_idxAddrArr xd_idxAddrArr xr_idxStr xd_idxStr xr_sliceStr xd_sliceStr xr_sliceSl xd_sliceSl lenSA_str lenSA_strOf lenLA_sl lenLA_nil xfn xcode xdrawn xr_nil xr_kg xr_kh xr_call xr_callN xr_store xr_append xd_append xap_sl xap_nl xapq_some xsrc_sl xsrc_nil xapp_nil xapp_grow xapp_room xset xown xnx_some xnp_some xnq_some xd_nil xdl_old xdl_new xda_some xd_call xd_store xd_kg xdn_some xld xal kindOf isAlloc allocs xins xrem xall xput xget xwhole xcont xq xqs xres XS.add XR.out XR.res Rs.seq Rs.block mapO tupleA sv_args adv_eq tget eqs8 eqs7 eqt8 eqt7 eqi8 eqi7 eqb8 eqb7 eqg8 eql8 eql7 eqn8 eqn7 cells_strOf cells_int cells_agg cells_bool cells_str cells_sl cells_nil cells_ptr at_int at_str at_strOf at_bool at_sl at_nil at_ptr unstr_strOf unbyt_byt fill_nil fill_cons replA ev_tm ev_vl sv_stv bin_add bin_sub bin_mul bin_lss bin_leq bin_gtr bin_geq bin_eql bin_neq un_not un_neg nth0 nth1 nth2 xst_idxAddrSl xst_idxStr xst_sliceStr xbd slN Nat.testBit
def chkk (c : Bool) (k s : List UInt8) : Bool := c && decide (k = s)
noncomputable def kG (s : List UInt8) : Int := backI s
def kR (s : List UInt8) : Int := (s[8]?.map fun c => (c.toNat : Int)).getD 0
def kL (s : List UInt8) : List UInt8 := (s.drop 9).take (s.length - 10 - 9)
noncomputable def kN (s : List UInt8) : Int := backI (s.drop (s.length - 9))
def kI (s : List UInt8) : Int := (s[s.length - 1]?.map fun c => (c.toNat : Int)).getD 0
noncomputable def ofkC (s : List UInt8) : Bool := chkk (stampB (kG s) (kR s) (kL s) (kN s) (kI s)) (keyB (kG s) (kR s) (kL s) (kN s) (kI s)) s
noncomputable def ofkV (s : List UInt8) : AV := if s.length < 19 then .tup [.agg [int64 0, int64 0, .str 0 0, int64 0, int64 0], int64 4] else anss (ofkC s) (kG s) (kR s) (kL s) (kN s) (kI s)
noncomputable def e_samek : Ent := mkEnt 58 3 [] (fun z_ : Int × Int × (List UInt8) × Int × Int × (List UInt8) => [.agg [int64 z_.1, int64 z_.2.1, strOf z_.2.2.1, int64 z_.2.2.2.1, int64 z_.2.2.2.2.1], strOf z_.2.2.2.2.2, .fn (.func 30) [] []]) (fun _ => []) (fun z_ => z_.2.2.1.length ≤ 9000) (fun z_ => .plain (anss (chkk (stampB z_.1 z_.2.1 z_.2.2.1 z_.2.2.2.1 z_.2.2.2.2.1) (keyB z_.1 z_.2.1 z_.2.2.1 z_.2.2.2.1 z_.2.2.2.2.1) z_.2.2.2.2.2) z_.1 z_.2.1 z_.2.2.1 z_.2.2.2.1 z_.2.2.2.2.1))
theorem f_samek : e_samek.f = 58 := rfl
theorem x_samek {U : List Ent} {b : Pos} {st : XS} (hU : tget U 58 = some e_samek) (g : Int) (r : Int) (l : List UInt8) (n : Int) (i : Int) (s : List UInt8) (hp : l.length ≤ 9000) : xcall U b 58 [.agg [int64 g, int64 r, strOf l, int64 n, int64 i], strOf s, .fn (.func 30) [] []] st = some (XR.out b st (.plain (anss (chkk (stampB g r l n i) (keyB g r l n i) s) g r l n i))) :=
  xcall_at hU rfl rfl (mkEnt_spec (by rintro ⟨a0, a1, a2, a3, a4, a5⟩ ⟨b0, b1, b2, b3, b4, b5⟩ h hc; simp only [List.cons.injEq, AV.agg.injEq, AV.tup.injEq, AV.int.injEq, AV.bool.injEq, AV.ptr.injEq, AV.sl.injEq, strOf_eq, byt_eq, map_strOf_eq, true_and, and_true, Int.natCast_inj] at h hc; simp [h, hc]) (g, r, l, n, i, s) hp)
noncomputable def e_ofkey : Ent := mkEnt 15 1 [] (fun z_ : (List UInt8) => [strOf z_]) (fun _ => []) (fun z_ => z_.length ≤ 9000) (fun z_ => .plain (ofkV z_))
theorem f_ofkey : e_ofkey.f = 15 := rfl
theorem x_ofkey {U : List Ent} {b : Pos} {st : XS} (hU : tget U 15 = some e_ofkey) (s : List UInt8) (hp : s.length ≤ 9000) : xcall U b 15 [strOf s] st = some (XR.out b st (.plain (ofkV s))) :=
  xcall_at hU rfl rfl (mkEnt_spec (by rintro a0 b0 h hc; simp only [List.cons.injEq, AV.agg.injEq, AV.tup.injEq, AV.int.injEq, AV.bool.injEq, AV.ptr.injEq, AV.sl.injEq, strOf_eq, byt_eq, map_strOf_eq, true_and, and_true, Int.natCast_inj] at h hc; simp [h, hc]) s hp)
section
variable {m : Int} {t1 t2 : AV}
theorem samek_ok : EntOK Tryz.prog (HasG m t1 t2) e_samek := mkEnt_ok ok_sames fun p h gg hs _ => by
  obtain ⟨g, r, l, n, i, s⟩ := p
  have hs : l.length ≤ 9000 := hs
  refine plain_of (U := []) (K := [e_key]) (v := anss (chkk (stampB g r l n i) (keyB g r l n i) s) g r l n i) (fun _ o => gg.more o) (by simp) (by simp [key_ok.entK]) 0 sames_code (by simp [sames_fu]) (by cases chkk _ _ _ <;> rfl) ?_
  unfold chkk
  cases hb : stampB g r l n i
  · simp [sames_fu, x_key, f_key, hs, hb, anss_f]
  · by_cases c : keyB g r l n i = s <;> simp [sames_fu, x_key, f_key, hs, hb, c, anss_t, anss_f, bin_neqS]
theorem ofkey_ok : EntOK Tryz.prog (HasG m t1 t2) e_ofkey := mkEnt_ok ok_ofkey fun s h gg hs _ => by
  have hs : s.length ≤ 9000 := hs
  refine plain_of (U := [e_back, e_samek]) (K := []) (v := ofkV s) (fun _ o => gg.more o) (by simp [back_ok, samek_ok]) (by simp) 0 ofkey_code (by simp [ofkey_fu]) (by unfold ofkV; split; rfl; cases ofkC s <;> rfl) ?_
  unfold ofkV
  by_cases hl : s.length < 19
  · have hz : (s.length : Int) < 19 := by omega
    simp [ofkey_fu, hl, hz]
  · have hz : ¬ (s.length : Int) < 19 := by omega
    have w1 : wrapA .i64 ((s.length : Int) - 1) = ((s.length - 1 : Nat) : Int) := by rw [w64 (by omega) (by omega)]; omega
    have w9 : wrapA .i64 ((s.length : Int) - 9) = ((s.length - 9 : Nat) : Int) := by rw [w64 (by omega) (by omega)]; omega
    have w10 : wrapA .i64 ((s.length : Int) - 10) = ((s.length - 10 : Nat) : Int) := by rw [w64 (by omega) (by omega)]; omega
    have i8 : 8 < s.length := by omega
    have i1 : s.length - 1 < s.length := by omega
    have dr : List.take (s.length - (s.length - 9)) (s.drop (s.length - 9)) = s.drop (s.length - 9) := List.take_of_length_le (by rw [List.length_drop]; exact Nat.le_refl _)
    have e8 : ((s[8]'i8).toNat : Int) = kR s := by unfold kR; rw [List.getElem?_eq_getElem i8]; rfl
    have e1 : ((s[s.length - 1]'i1).toNat : Int) = kI s := by unfold kI; rw [List.getElem?_eq_getElem i1]; rfl
    have wR : wrapA .i64 (kR s) = kR s := by rw [← e8, w64_u8]
    have wI : wrapA .i64 (kI s) = kI s := by rw [← e1, w64_u8]
    have eL : List.take (s.length - 10 - 9) (s.drop 9) = kL s := rfl
    have lL : (kL s).length ≤ 9000 := by unfold kL; rw [List.length_take, List.length_drop]; omega
    have B1 := fun {U b st} (hU : tget U 61 = some e_back) => x_back (U := U) (b := b) (st := st) hU s ⟨by omega, hs⟩
    have B2 := fun {U b st} (hU : tget U 61 = some e_back) => x_back (U := U) (b := b) (st := st) hU (s.drop (s.length - 9)) ⟨by rw [List.length_drop]; omega, by rw [List.length_drop]; omega⟩
    have hc : chkk (stampB (kG s) (kR s) (kL s) (kN s) (kI s)) (keyB (kG s) (kR s) (kL s) (kN s) (kI s)) s = ofkC s := rfl
    rw [show backI s = kG s from rfl] at B1
    rw [show backI (s.drop (s.length - 9)) = kN s from rfl] at B2
    cases hk : ofkC s <;> simp [ofkey_fu, hl, hz, w1, w9, w10, i8, i1, w64_u8, dr, e8, e1, wR, wI, eL, lL, B1, B2, f_back, x_samek, f_samek, hc, hk, anss_t, anss_f, show s.length - 10 ≤ s.length by omega, show 9 ≤ s.length - 10 by omega, show s.length - 9 ≤ s.length by omega]
end
end Go.Proofs.YtjhgembcdndmkaaGreatDoor.St
