import Derived.DataReads
import Derived.WideShapes
import Derived.Test.YtjhgembcdndmkaaGreatDoorSxA
/- THE WALK'S PARTS, part B: what the functions of the law compute, over the abstract machine that stands beside this text. No condition. -/
set_option linter.unusedSimpArgs false
set_option linter.unusedVariables false
namespace Go.Proofs.YtjhgembcdndmkaaGreatDoor.St
open Go Go.Proofs.YtjhgembcdndmkaaGreatDoor.Am Go.Proofs Go.RowKit
attribute [local simp] xr_mov xd_mov xr_pick xd_pick xr_bin xd_bin xr_build xd_build xr_fld xd_fld xr_partN xd_partN xr_lenS xr_lenL xd_lenL xr_load1 xd_load1 xr_loadN xd_loadN xr_new xd_new xr_box xr_buildSl xd_buildSl xr_idxAddrSl xd_idxAddrSl xd_idxAddrArr xd_idxStr xr_sliceSl xd_sliceSl orU_some orU_none lenSA_str lenSA_strOf lenLA_sl lenLA_nil xfn xcode xdrawn xr_nil xr_kg xr_cmp xcmp_some xr_call xr_store xr_append xd_append xap_sl xap_nl xapq_some xsrc_sl xsrc_nil xapp_nil xapp_grow xset xown xnx_some xnp_some xnq_some xd_nil xdl_old xda_some xd_call xd_store xd_kg xdn_some xld xal kindOf isAlloc allocs xins xrem xall xput xget xwhole xmine xcont xq xqs xres XS.add XR.out XR.outU XR.ups xsets XR.res Rs.seq Rs.inSc Rs.block mapO tupleA sv_args adv_eq tget eqs8 eqs7 eqi8 eqi7 eqg8 eqn8 eqn7 cells_strOf cells_int cells_agg cells_bool cells_str cells_sl cells_nil cells_ptr at_int at_str at_strOf at_bool at_sl at_nil at_ptr unstr_strOf fill_nil fill_cons replA ev_tm ev_vl sv_stv bin_add bin_sub bin_lss bin_gtr bin_eql bin_neq nth0 nth1 nth2 xst_idxAddrSl xst_idxStr xst_sliceStr xst_sliceSl xsl_sl xbd slN Nat.testBit
noncomputable def e_sorted : Ent := mkEnt 39 1 [.sl 0] (fun z_ : Pos × Nat × Nat × Bool × (List Nm) => [.sl z_.1 z_.2.1 0 z_.2.2.2.2.length z_.2.2.1 z_.2.2.2.1 3]) (fun z_ => [flN z_.2.2.2.2]) (fun z_ => z_.2.2.2.2.length ≤ 300) (fun z_ => .outs [] (fun b => [endN (Go.Proofs.YtjhgembcdndmkaaGreatDoor.Am.sorted mN z_.2.2.2.2)]) (fun b => .sl b 0 0 (ddN (Go.Proofs.YtjhgembcdndmkaaGreatDoor.Am.sorted mN z_.2.2.2.2)).length z_.2.2.2.2.length (decide (z_.2.2.2.2.length = 0)) 3))
theorem f_sorted : e_sorted.f = 39 := rfl
theorem x_sorted {U : List Ent} {b : Pos} {st : XS} (hU : tget U 39 = some e_sorted) (p : Pos) (g : Nat) (c : Nat) (ex : Bool) (d : List Nm) (hp : d.length ≤ 300) (hq : xqs st.X [.sl p g 0 d.length c ex 3] [.sl 0] = some [flN d]) (ho : ((.outs [] (fun b => [endN (Go.Proofs.YtjhgembcdndmkaaGreatDoor.Am.sorted mN d)]) (fun b => .sl b 0 0 (ddN (Go.Proofs.YtjhgembcdndmkaaGreatDoor.Am.sorted mN d)).length d.length (decide (d.length = 0)) 3) : XR).ups.all fun x => (xown st.X x.1 0).isSome) = true) : xcall U b 39 [.sl p g 0 d.length c ex 3] st = none ∧ xupd U b 39 [.sl p g 0 d.length c ex 3] st = some (XR.outU b st (.outs [] (fun b => [endN (Go.Proofs.YtjhgembcdndmkaaGreatDoor.Am.sorted mN d)]) (fun b => .sl b 0 0 (ddN (Go.Proofs.YtjhgembcdndmkaaGreatDoor.Am.sorted mN d)).length d.length (decide (d.length = 0)) 3))) :=
  xupd_at hU rfl hq (mkEnt_spec (by rintro ⟨a0, a1, a2, a3, a4⟩ ⟨b0, b1, b2, b3, b4⟩ h hc; simp only [List.cons.injEq, AV.agg.injEq, AV.tup.injEq, AV.int.injEq, AV.bool.injEq, AV.ptr.injEq, AV.sl.injEq, strOf_eq, byt_eq, map_strOf_eq, true_and, and_true, Int.natCast_inj, flN_eq] at h hc; simp [h, hc]) (p, g, c, ex, d) hp) (by first | rfl | (split <;> rfl)) ho
theorem sortedN_len (d : List Nm) : (Go.Proofs.YtjhgembcdndmkaaGreatDoor.Am.sorted mN d).length = d.length := (sorted_perm mN swoN d).1.length_eq
theorem sortedN_nil : Go.Proofs.YtjhgembcdndmkaaGreatDoor.Am.sorted mN ([] : List Nm) = [] := List.length_eq_zero_iff.1 (sortedN_len [])
section
variable {m : Int} {t1 t2 : AV}
theorem sorted_ok : EntOK Tryz.prog (HasG m t1 t2) e_sorted := mkEnt_ok ok_sorted fun z h gg hz hc => by
  obtain ⟨p, g, c, ex, d⟩ := z
  dsimp only at hz hc ⊢
  obtain ⟨T, hT⟩ := nms_open hc
  have h3 := flN_len d
  have hne : ∀ i, (adv h.next i = p) = False := fun i => eq_false fun q => by have := hT.old; dsimp only at this; rw [← q, adv_num] at this; omega
  have h6 : (Pos.ofNat 6).num ≤ (adv h.next 0).num := by rw [adv_num]; exact gg.old
  have l1 : (d.length * 3 ≤ 3 * d.length + T.length) = True := eq_true (by omega)
  have tk : (flN d ++ T).take (d.length * 3) = flN d := by rw [List.take_append_of_le_length (by omega)]; exact List.take_of_length_le (by omega)
  have C := fun {U b st} (hU : tget U 89 = some e_clone) hq => x_clone (U := U) (b := b) (st := st) hU p g c ex d hz hq rfl
  by_cases c0 : d = []
  · subst c0
    rw [sortedN_nil]
    have M := fun {U b st} (hU : tget U 91 = some e_compact) hq ho => x_compact (U := U) (b := b) (st := st) hU (adv h.next 0) 0 true [] ⟨⟨by simp, by simp⟩, h6⟩ hq ho
    have S : ∀ {U : List Ent} {b : Pos} {st : XS}, tget U 90 = some e_sort0 → xcall U b 90 [.sl (adv h.next 0) 0 0 0 0 true 3, .fn (.func 34) [] []] st = some (XR.out b st (.plain (.tup []))) := fun {U b st} hU =>
      xcall_at hU rfl rfl (mkEnt_spec (fun _ _ _ _ => rfl) (adv h.next 0, 0, true) trivial) rfl
    simp only [List.length_nil, flN_nil] at C M
    have f0 : e_sort0.f = 90 := rfl
    have dn : ddN [] = [] := rfl
    refine outs_of [] _ _ [(adv h.next 0, 0)] (fun _ o => gg.more o) (U := []) (K := [e_clone, e_sort0, e_compact]) (X := [⟨p, g, false, flN [] ++ T⟩]) (by simp) (by simp [(clone_ok (G := HasG m t1 t2) (fun _ _ g o => g.more o)).entK, sort0_ok, compact_ok.entK]) 0 (.start1 hT rfl) (by simp) sorted_code (by simp [sorted_fu]) (by simp) (by simp) (w := .sl (adv h.next 0) 0 0 0 0 true 3) (l1 := []) (l2 := [endN []]) ?_ .nil ?_ ?_
    · simp [sorted_fu, C, M, S, f_clone, f0, dn, f_compact, atP, XS.adds, clV, owns, ownsG, xown, flN_nil, hne]
    · exact .cons (.self (endN_plain _)) .nil
    · exact .sl 0 rfl
  · have hp : 0 < d.length := List.length_pos_iff.2 c0
    have S := fun {U b st} (hU : tget U 90 = some e_sortf) hq ho => x_sortf (U := U) (b := b) (st := st) hU (adv h.next 0) d.length false d ⟨hp, hz⟩ hq ho
    have M := fun {U b st} (hU : tget U 91 = some e_compact) hq ho => x_compact (U := U) (b := b) (st := st) hU (adv h.next 0) d.length false (Go.Proofs.YtjhgembcdndmkaaGreatDoor.Am.sorted mN d) ⟨⟨by rw [sortedN_len]; exact hz, by rw [sortedN_len]; exact Nat.le_refl _⟩, h6⟩ hq ho
    simp only [sortedN_len] at M
    have z1 : d.length ≠ 0 := by omega
    refine outs_of [] _ _ [(adv h.next 0, 0)] (fun _ o => gg.more o) (U := []) (K := [e_clone, e_sortf, e_compact]) (X := [⟨p, g, false, flN d ++ T⟩]) (by simp) (by simp [(clone_ok (G := HasG m t1 t2) (fun _ _ g o => g.more o)).entK, sort_ok, compact_ok.entK]) 0 (.start1 hT rfl) (by simp) sorted_code (by simp [sorted_fu]) (by simp) (by simp) (w := .sl (adv h.next 0) 0 0 (ddN (Go.Proofs.YtjhgembcdndmkaaGreatDoor.Am.sorted mN d)).length d.length false 3) (l1 := []) (l2 := [endN (Go.Proofs.YtjhgembcdndmkaaGreatDoor.Am.sorted mN d)]) ?_ .nil ?_ ?_
    · simp [sorted_fu, C, M, S, f_clone, f_sortf, f_compact, atP, XS.adds, clV, owns, ownsG, xown, hne, h3, l1, tk, c0]
    · exact .cons (.self (endN_plain _)) .nil
    · rw [decide_eq_false z1]; exact .sl 0 rfl
end
end Go.Proofs.YtjhgembcdndmkaaGreatDoor.St

namespace Go.Proofs.YtjhgembcdndmkaaGreatDoor.St
open Go Go.Proofs.YtjhgembcdndmkaaGreatDoor.Am Go.Proofs Go.RowKit
attribute [local simp] xr_mov xd_mov xr_pick xd_pick xr_bin xd_bin xr_build xd_build xr_fld xd_fld xr_partN xd_partN xr_lenS xr_lenL xd_lenL xr_load1 xd_load1 xr_loadN xd_loadN xr_new xd_new xr_box xr_buildSl xd_buildSl xr_idxAddrSl xd_idxAddrSl xd_idxAddrArr xd_idxStr xr_sliceSl xd_sliceSl orU_some orU_none lenSA_str lenSA_strOf lenLA_sl lenLA_nil xfn xcode xdrawn xr_nil xr_kg xr_cmp xcmp_some xr_call xr_store xr_append xd_append xap_sl xap_nl xapq_some xsrc_sl xsrc_nil xapp_nil xapp_grow xset xown xnx_some xnp_some xnq_some xd_nil xdl_old xda_some xd_call xd_store xd_kg xdn_some xld xal kindOf isAlloc allocs xins xrem xall xput xget xwhole xmine xcont xq xqs xres XS.add XR.out XR.outU XR.ups xsets XR.res Rs.seq Rs.inSc Rs.block mapO tupleA sv_args adv_eq tget eqs8 eqs7 eqi8 eqi7 eqg8 eqn8 eqn7 cells_strOf cells_int cells_agg cells_bool cells_str cells_sl cells_nil cells_ptr at_int at_str at_strOf at_bool at_sl at_nil at_ptr unstr_strOf fill_nil fill_cons replA ev_tm ev_vl sv_stv bin_add bin_sub bin_lss bin_gtr bin_eql bin_neq nth0 nth1 nth2 xst_idxAddrSl xst_idxStr xst_sliceStr xst_sliceSl xsl_sl xbd slN Nat.testBit
noncomputable def rC (g r : Int) (s : List UInt8) (n i g' r' : Int) (s' : List UInt8) (n' i' : Int) : Int := fC (nC g g') (mC r s n r' s' n') (nC i i')
theorem tC_rC (g r : Int) (s : List UInt8) (n i g' r' : Int) (s' : List UInt8) (n' i' : Int) : tC g r s n i g' r' s' n' i' = rC g r s n i g' r' s' n' i' := by
  unfold tC rC
  split
  · rename_i c
    obtain ⟨rfl, rfl, rfl, rfl, rfl⟩ := c
    unfold mC bC
    rw [cm_n.refl, cm_n.refl, cm_n.refl, cm_n.refl, cm_s.refl]; rfl
  · rfl
noncomputable def e_rsnum : Ent := mkEnt 86 2 [] (fun z_ : Int × Int => [int64 z_.1, int64 z_.2]) (fun _ => []) (fun _ => True) (fun z_ => .plain (int64 (nC z_.1 z_.2)))
theorem f_rsnum : e_rsnum.f = 86 := rfl
theorem x_rsnum {U : List Ent} {b : Pos} {st : XS} (hU : tget U 86 = some e_rsnum) (x : Int) (y : Int) : xcall U b 86 [int64 x, int64 y] st = some (XR.out b st (.plain (int64 (nC x y)))) :=
  xcall_at hU rfl rfl (mkEnt_spec (by rintro ⟨a0, a1⟩ ⟨b0, b1⟩ h hc; simp only [List.cons.injEq, AV.agg.injEq, AV.tup.injEq, AV.int.injEq, AV.bool.injEq, AV.ptr.injEq, AV.sl.injEq, strOf_eq, byt_eq, map_strOf_eq, true_and, and_true, Int.natCast_inj] at h hc; simp [h, hc]) (x, y) trivial) (by first | rfl | (split <;> rfl))
noncomputable def e_rknum : Ent := mkEnt 109 2 [] (fun z_ : Int × Int => [int64 z_.1, int64 z_.2]) (fun _ => []) (fun _ => True) (fun z_ => .plain (int64 (nC z_.1 z_.2)))
theorem f_rknum : e_rknum.f = 109 := rfl
theorem x_rknum {U : List Ent} {b : Pos} {st : XS} (hU : tget U 109 = some e_rknum) (x : Int) (y : Int) : xcall U b 109 [int64 x, int64 y] st = some (XR.out b st (.plain (int64 (nC x y)))) :=
  xcall_at hU rfl rfl (mkEnt_spec (by rintro ⟨a0, a1⟩ ⟨b0, b1⟩ h hc; simp only [List.cons.injEq, AV.agg.injEq, AV.tup.injEq, AV.int.injEq, AV.bool.injEq, AV.ptr.injEq, AV.sl.injEq, strOf_eq, byt_eq, map_strOf_eq, true_and, and_true, Int.natCast_inj] at h hc; simp [h, hc]) (x, y) trivial) (by first | rfl | (split <;> rfl))
noncomputable def e_rkcmp : Ent := mkEnt 88 2 [] (fun z_ : (List UInt8) × (List UInt8) => [strOf z_.1, strOf z_.2]) (fun _ => []) (fun z_ => z_.1.length ≤ 9000000000000000000) (fun z_ => .plain (int64 (sC z_.1 z_.2)))
theorem f_rkcmp : e_rkcmp.f = 88 := rfl
theorem x_rkcmp {U : List Ent} {b : Pos} {st : XS} (hU : tget U 88 = some e_rkcmp) (u : List UInt8) (v : List UInt8) (hp : u.length ≤ 9000000000000000000) : xcall U b 88 [strOf u, strOf v] st = some (XR.out b st (.plain (int64 (sC u v)))) :=
  xcall_at hU rfl rfl (mkEnt_spec (by rintro ⟨a0, a1⟩ ⟨b0, b1⟩ h hc; simp only [List.cons.injEq, AV.agg.injEq, AV.tup.injEq, AV.int.injEq, AV.bool.injEq, AV.ptr.injEq, AV.sl.injEq, strOf_eq, byt_eq, map_strOf_eq, true_and, and_true, Int.natCast_inj] at h hc; simp [h, hc]) (u, v) hp) (by first | rfl | (split <;> rfl))
noncomputable def e_rcmpb : Ent := mkEnt 37 2 [] (fun z_ : Int × (List UInt8) × Int × (List UInt8) => [.agg [int64 z_.1, strOf z_.2.1], .agg [int64 z_.2.2.1, strOf z_.2.2.2]]) (fun _ => []) (fun z_ => z_.2.1.length ≤ 9000000000000000000) (fun z_ => .plain (int64 (bC z_.1 z_.2.1 z_.2.2.1 z_.2.2.2)))
theorem f_rcmpb : e_rcmpb.f = 37 := rfl
theorem x_rcmpb {U : List Ent} {b : Pos} {st : XS} (hU : tget U 37 = some e_rcmpb) (r : Int) (s : List UInt8) (r' : Int) (s' : List UInt8) (hp : s.length ≤ 9000000000000000000) : xcall U b 37 [.agg [int64 r, strOf s], .agg [int64 r', strOf s']] st = some (XR.out b st (.plain (int64 (bC r s r' s')))) :=
  xcall_at hU rfl rfl (mkEnt_spec (by rintro ⟨a0, a1, a2, a3⟩ ⟨b0, b1, b2, b3⟩ h hc; simp only [List.cons.injEq, AV.agg.injEq, AV.tup.injEq, AV.int.injEq, AV.bool.injEq, AV.ptr.injEq, AV.sl.injEq, strOf_eq, byt_eq, map_strOf_eq, true_and, and_true, Int.natCast_inj] at h hc; simp [h, hc]) (r, s, r', s') hp) (by first | rfl | (split <;> rfl))
noncomputable def e_rcmpn : Ent := mkEnt 35 2 [] (fun z_ : Int × (List UInt8) × Int × Int × (List UInt8) × Int => [.agg [int64 z_.1, strOf z_.2.1, int64 z_.2.2.1], .agg [int64 z_.2.2.2.1, strOf z_.2.2.2.2.1, int64 z_.2.2.2.2.2]]) (fun _ => []) (fun z_ => z_.2.1.length ≤ 9000000000000000000) (fun z_ => .plain (int64 (mC z_.1 z_.2.1 z_.2.2.1 z_.2.2.2.1 z_.2.2.2.2.1 z_.2.2.2.2.2)))
theorem f_rcmpn : e_rcmpn.f = 35 := rfl
theorem x_rcmpn {U : List Ent} {b : Pos} {st : XS} (hU : tget U 35 = some e_rcmpn) (r : Int) (s : List UInt8) (n : Int) (r' : Int) (s' : List UInt8) (n' : Int) (hp : s.length ≤ 9000000000000000000) : xcall U b 35 [.agg [int64 r, strOf s, int64 n], .agg [int64 r', strOf s', int64 n']] st = some (XR.out b st (.plain (int64 (mC r s n r' s' n')))) :=
  xcall_at hU rfl rfl (mkEnt_spec (by rintro ⟨a0, a1, a2, a3, a4, a5⟩ ⟨b0, b1, b2, b3, b4, b5⟩ h hc; simp only [List.cons.injEq, AV.agg.injEq, AV.tup.injEq, AV.int.injEq, AV.bool.injEq, AV.ptr.injEq, AV.sl.injEq, strOf_eq, byt_eq, map_strOf_eq, true_and, and_true, Int.natCast_inj] at h hc; simp [h, hc]) (r, s, n, r', s', n') hp) (by first | rfl | (split <;> rfl))
noncomputable def e_rcmp : Ent := mkEnt 33 2 [] (fun z_ : Int × Int × (List UInt8) × Int × Int × Int × Int × (List UInt8) × Int × Int => [.agg [int64 z_.1, int64 z_.2.1, strOf z_.2.2.1, int64 z_.2.2.2.1, int64 z_.2.2.2.2.1], .agg [int64 z_.2.2.2.2.2.1, int64 z_.2.2.2.2.2.2.1, strOf z_.2.2.2.2.2.2.2.1, int64 z_.2.2.2.2.2.2.2.2.1, int64 z_.2.2.2.2.2.2.2.2.2]]) (fun _ => []) (fun z_ => z_.2.2.1.length ≤ 9000000000000000000) (fun z_ => .plain (int64 (rC z_.1 z_.2.1 z_.2.2.1 z_.2.2.2.1 z_.2.2.2.2.1 z_.2.2.2.2.2.1 z_.2.2.2.2.2.2.1 z_.2.2.2.2.2.2.2.1 z_.2.2.2.2.2.2.2.2.1 z_.2.2.2.2.2.2.2.2.2)))
theorem f_rcmp : e_rcmp.f = 33 := rfl
theorem x_rcmp {U : List Ent} {b : Pos} {st : XS} (hU : tget U 33 = some e_rcmp) (g : Int) (r : Int) (s : List UInt8) (n : Int) (i : Int) (g' : Int) (r' : Int) (s' : List UInt8) (n' : Int) (i' : Int) (hp : s.length ≤ 9000000000000000000) : xcall U b 33 [.agg [int64 g, int64 r, strOf s, int64 n, int64 i], .agg [int64 g', int64 r', strOf s', int64 n', int64 i']] st = some (XR.out b st (.plain (int64 (rC g r s n i g' r' s' n' i')))) :=
  xcall_at hU rfl rfl (mkEnt_spec (by rintro ⟨a0, a1, a2, a3, a4, a5, a6, a7, a8, a9⟩ ⟨b0, b1, b2, b3, b4, b5, b6, b7, b8, b9⟩ h hc; simp only [List.cons.injEq, AV.agg.injEq, AV.tup.injEq, AV.int.injEq, AV.bool.injEq, AV.ptr.injEq, AV.sl.injEq, strOf_eq, byt_eq, map_strOf_eq, true_and, and_true, Int.natCast_inj] at h hc; simp [h, hc]) (g, r, s, n, i, g', r', s', n', i') hp) (by first | rfl | (split <;> rfl))
theorem cmpL_drop : ∀ (i : Nat) (u v : List UInt8), u.take i = v.take i → i ≤ u.length → i ≤ v.length → cmpL u v = cmpL (u.drop i) (v.drop i)
  | 0, u, v, _, _, _ => rfl
  | i + 1, a :: u, b :: v, h, h1, h2 => by
    simp only [List.take_succ_cons, List.cons.injEq] at h
    obtain ⟨rfl, h⟩ := h
    have e1 : cmpL (a :: u) (a :: v) = cmpL u v := by
      rw [cmpL, if_neg (by omega), if_pos rfl]
    exact e1.trans (cmpL_drop i u v h (by simpa using h1) (by simpa using h2))
  | i + 1, [], _, _, h1, _ => absurd h1 (by simp)
  | i + 1, _ :: _, [], _, _, h2 => absurd h2 (by simp)
theorem sC_lt {i : Nat} {u v : List UInt8} (h : u.take i = v.take i) (h1 : i < u.length) (h2 : i < v.length) (c : u[i].toNat < v[i].toNat) : sC u v = -1 := by
  unfold sC
  rw [cmpL_drop i u v h (by omega) (by omega), List.drop_eq_getElem_cons h1, List.drop_eq_getElem_cons h2]
  unfold cmpL
  rw [if_pos c]; rfl
theorem sC_gt {i : Nat} {u v : List UInt8} (h : u.take i = v.take i) (h1 : i < u.length) (h2 : i < v.length) (c : v[i].toNat < u[i].toNat) : sC u v = 1 := by
  unfold sC
  rw [cmpL_drop i u v h (by omega) (by omega), List.drop_eq_getElem_cons h1, List.drop_eq_getElem_cons h2]
  unfold cmpL
  rw [if_neg (by omega), if_neg (by omega)]; rfl
theorem sC_end {i : Nat} {u v : List UInt8} (h : u.take i = v.take i) (h1 : i ≤ u.length) (h2 : i ≤ v.length) (c : u.length = i ∨ v.length = i) : sC u v = nC u.length v.length := by
  unfold sC
  rw [cmpL_drop i u v h h1 h2]
  unfold nC
  by_cases c1 : u.length = i
  · rw [List.drop_eq_nil_of_le (by omega)]
    by_cases c2 : v.length = i
    · rw [List.drop_eq_nil_of_le (by omega), if_neg (by omega), if_neg (by omega)]; rfl
    · rw [List.drop_eq_getElem_cons (show i < v.length by omega), if_pos (by omega)]; rfl
  · rw [List.drop_eq_getElem_cons (show i < u.length by omega), List.drop_eq_nil_of_le (show v.length ≤ i by omega), if_neg (by omega), if_pos (by omega)]; rfl
section
variable {m : Int} {t1 t2 : AV}
theorem rsnum_ok : EntOK Tryz.prog (HasG m t1 t2) e_rsnum := mkEnt_ok ok_rsnum fun z h gg _ _ => by
  obtain ⟨a, b⟩ := z
  refine plain_of (U := []) (K := []) (fun _ o => gg.more o) (by simp) (by simp) 0 rsnum_code (by simp [rsnum_fu]) rfl ?_
  show _ = some (int64 (nC a b))
  unfold nC
  by_cases c : a < b
  · simp [rsnum_fu, c]
  · by_cases c2 : b < a <;> simp [rsnum_fu, c, c2]
theorem rknum_ok : EntOK Tryz.prog (HasG m t1 t2) e_rknum := mkEnt_ok ok_rknum fun z h gg _ _ => by
  obtain ⟨a, b⟩ := z
  refine plain_of (U := []) (K := []) (fun _ o => gg.more o) (by simp) (by simp) 0 rknum_code (by simp [rknum_fu]) rfl ?_
  show _ = some (int64 (nC a b))
  unfold nC
  by_cases c : a < b
  · simp [rknum_fu, c]
  · by_cases c2 : b < a <;> simp [rknum_fu, c, c2]
theorem rkcmp_loop (u v : List UInt8) (hu : u.length ≤ 9000000000000000000) (b : Pos) (st : XS) (K : Nat) : ∀ (fuel n i : Nat) (env : T AV), sv env 0 = strOf u → sv env 1 = strOf v → sv env 5 = int64 (i : Int) → u.take i = v.take i → i ≤ v.length → i + n = u.length → n < fuel →
    ∃ env' s, xloop (xcode Tryz.prog [] [e_rknum] b (K + 1) rkcmp_0) fuel env st = some (s, env', st) ∧ ((s = .ret ∧ sv env' 4 = int64 (sC u v)) ∨ (s = .exit 0 ∧ sv env' 0 = strOf u ∧ sv env' 1 = strOf v ∧ nC (u.length : Int) (v.length : Int) = sC u v))
  | 0, n, i, env, _, _, _, _, _, _, hf => by omega
  | fuel + 1, n, i, env, h0, h1, h5, ht, hv, hi, hf => by
    unfold xloop
    cases n with
    | zero =>
      obtain rfl : i = u.length := by omega
      have := sC_end ht (Nat.le_refl _) hv (.inl rfl)
      simp [rkcmp_0, h0, h1, h5, this]
      exact ⟨_, _, ⟨rfl, rfl⟩, .inr ⟨rfl, by simp [sv_stv, h0], by simp [sv_stv, h1]⟩⟩
    | succ n =>
      have hi1 : i < u.length := by omega
      by_cases c0 : i = v.length
      · subst c0
        have := sC_end ht (by omega) (Nat.le_refl _) (.inr rfl)
        simp [rkcmp_0, h0, h1, h5, this, hi1]
        exact ⟨_, _, ⟨rfl, rfl⟩, .inr ⟨rfl, by simp [sv_stv, h0], by simp [sv_stv, h1]⟩⟩
      · have hi2 : i < v.length := by omega
        have key := fun env a0 a1 a5 ht => rkcmp_loop u v hu b st K fuel n (i + 1) env a0 a1 a5 ht (by omega) (by omega) (by omega)
        generalize xloop (xcode Tryz.prog [] [e_rknum] b (K + 1) rkcmp_0) fuel = R at key ⊢
        by_cases c1 : (u[i].toNat : Int) < v[i].toNat
        · have := sC_lt ht hi1 hi2 (by omega)
          simp [rkcmp_0, h0, h1, h5, this, hi1, hi2, c1]
          exact ⟨_, _, ⟨rfl, rfl⟩, .inl ⟨rfl, by simp [sv_stv]⟩⟩
        · by_cases c2 : (v[i].toNat : Int) < u[i].toNat
          · have := sC_gt ht hi1 hi2 (by omega)
            simp [rkcmp_0, h0, h1, h5, this, hi1, hi2, c1, c2]
            exact ⟨_, _, ⟨rfl, rfl⟩, .inl ⟨rfl, by simp [sv_stv]⟩⟩
          · have w : wrapA .i64 ((i : Int) + 1) = ((i + 1 : Nat) : Int) := by rw [w64 (by omega) (by omega)]; rfl
            have e : u[i] = v[i] := UInt8.toNat_inj.1 (by omega)
            simp [rkcmp_0, h0, h1, h5, hi1, hi2, c1, c2, w]
            refine key _ ?_ ?_ ?_ ?_
            · simp [sv_stv, h0]
            · simp [sv_stv, h1]
            · simp [sv_stv]
            · rw [List.take_succ_eq_append_getElem hi1, List.take_succ_eq_append_getElem hi2, ht, e]
theorem rkcmp_ok : EntOK Tryz.prog (HasG m t1 t2) e_rkcmp := mkEnt_ok ok_rkcmp fun z h gg hz _ => by
  obtain ⟨u, v⟩ := z
  have hz : u.length ≤ 9000000000000000000 := hz
  refine plain_of (U := []) (K := [e_rknum]) (fun _ o => gg.more o) (by simp) (by simp [rknum_ok.entK]) (u.length + 1) rkcmp_code (by simp [rkcmp_fu]) rfl ?_
  obtain ⟨env', s, e, hs⟩ := rkcmp_loop u v hz h.next ⟨0, []⟩ u.length (u.length + 1) u.length 0 (stv (stv (setArgs .e 0 [strOf u, strOf v]) 4 (int64 0)) 5 (int64 0)) (by simp [sv_stv, sv_args]) (by simp [sv_stv, sv_args]) (by simp [sv_stv]) rfl (by omega) (by omega) (by omega)
  rcases hs with ⟨rfl, hs⟩ | ⟨rfl, hs1, hs2, hs3⟩
  · simp [rkcmp_fu, e, hs]
  · simp [rkcmp_fu, e, hs1, hs2, hs3, x_rknum, f_rknum]
theorem rcmpb_ok : EntOK Tryz.prog (HasG m t1 t2) e_rcmpb := mkEnt_ok ok_rcmpb fun z h gg hz _ => by
  obtain ⟨r, s, r', s'⟩ := z
  refine plain_of (U := []) (K := [e_rsnum, e_rkcmp]) (fun _ o => gg.more o) (by simp) (by simp [rsnum_ok.entK, rkcmp_ok.entK]) 0 rcmpb_code (by simp [rcmpb_fu]) rfl ?_
  have B := fun {U b st} (hU : tget U 88 = some e_rkcmp) => x_rkcmp (U := U) (b := b) (st := st) hU s s' hz
  show _ = some (int64 (bC r s r' s'))
  unfold bC fC
  by_cases c : nC r r' = 0
  · by_cases c2 : sC s s' = 0 <;> simp [rcmpb_fu, x_rsnum, f_rsnum, B, f_rkcmp, c, c2]
  · simp [rcmpb_fu, x_rsnum, f_rsnum, B, f_rkcmp, c]
theorem rcmpn_ok : EntOK Tryz.prog (HasG m t1 t2) e_rcmpn := mkEnt_ok ok_rcmpn fun z h gg hz _ => by
  obtain ⟨r, s, n, r', s', n'⟩ := z
  refine plain_of (U := []) (K := [e_rsnum, e_rcmpb]) (fun _ o => gg.more o) (by simp) (by simp [rsnum_ok.entK, rcmpb_ok.entK]) 0 rcmpn_code (by simp [rcmpn_fu]) rfl ?_
  have B := fun {U b st} (hU : tget U 37 = some e_rcmpb) => x_rcmpb (U := U) (b := b) (st := st) hU r s r' s' hz
  show _ = some (int64 (mC r s n r' s' n'))
  unfold mC fC
  by_cases c : bC r s r' s' = 0
  · by_cases c2 : nC n n' = 0 <;> simp [rcmpn_fu, x_rsnum, f_rsnum, B, f_rcmpb, c, c2]
  · simp [rcmpn_fu, x_rsnum, f_rsnum, B, f_rcmpb, c]
theorem rcmp_ok : EntOK Tryz.prog (HasG m t1 t2) e_rcmp := mkEnt_ok ok_rcmp fun z h gg hz _ => by
  obtain ⟨g, r, s, n, i, g', r', s', n', i'⟩ := z
  refine plain_of (U := []) (K := [e_rsnum, e_rcmpn]) (fun _ o => gg.more o) (by simp) (by simp [rsnum_ok.entK, rcmpn_ok.entK]) 0 rcmp_code (by simp [rcmp_fu]) rfl ?_
  have B := fun {U b st} (hU : tget U 35 = some e_rcmpn) => x_rcmpn (U := U) (b := b) (st := st) hU r s n r' s' n' hz
  show _ = some (int64 (rC g r s n i g' r' s' n' i'))
  unfold rC fC
  by_cases c : nC g g' = 0
  · by_cases c2 : mC r s n r' s' n' = 0 <;> simp [rcmp_fu, x_rsnum, f_rsnum, B, f_rcmpn, c, c2]
  · simp [rcmp_fu, x_rsnum, f_rsnum, B, f_rcmpn, c]
end
end Go.Proofs.YtjhgembcdndmkaaGreatDoor.St

namespace Go.Proofs.YtjhgembcdndmkaaGreatDoor.St
open Go Go.Proofs.YtjhgembcdndmkaaGreatDoor.Am Go.Proofs Go.RowKit
attribute [local simp] xr_mov xd_mov xr_pick xd_pick xr_bin xd_bin xr_build xd_build xr_fld xd_fld xr_partN xd_partN xr_lenS xr_lenL xd_lenL xr_load1 xd_load1 xr_loadN xd_loadN xr_new xd_new xr_box xr_buildSl xd_buildSl xr_idxAddrSl xd_idxAddrSl xd_idxAddrArr xd_idxStr xr_sliceSl xd_sliceSl orU_some orU_none lenSA_str lenSA_strOf lenLA_sl lenLA_nil xfn xcode xdrawn xr_nil xr_kg xr_cmp xcmp_some xr_call xr_store xr_append xd_append xap_sl xap_nl xapq_some xsrc_sl xsrc_nil xapp_nil xapp_grow xset xown xnx_some xnp_some xnq_some xd_nil xdl_old xda_some xd_call xd_store xd_kg xdn_some xld xal kindOf isAlloc allocs xins xrem xall xput xget xwhole xmine xcont xq xqs xres XS.add XR.out XR.outU XR.ups xsets XR.res Rs.seq Rs.inSc Rs.block mapO tupleA sv_args adv_eq tget eqs8 eqs7 eqi8 eqi7 eqg8 eqn8 eqn7 cells_strOf cells_int cells_agg cells_bool cells_str cells_sl cells_nil cells_ptr at_int at_str at_strOf at_bool at_sl at_nil at_ptr unstr_strOf fill_nil fill_cons replA ev_tm ev_vl sv_stv bin_add bin_sub bin_lss bin_gtr bin_eql bin_neq nth0 nth1 nth2 xst_idxAddrSl xst_idxStr xst_sliceStr xst_sliceSl xsl_sl xbd slN Nat.testBit
noncomputable def posN (out : List Nm) (x : Nm) : Nat := (out.takeWhile fun y => decide (mN y x < 0)).length
theorem posN_le (out : List Nm) (x : Nm) : posN out x ≤ out.length := (List.takeWhile_prefix _).length_le
theorem posN_cons1 {y x : Nm} {t : List Nm} (c : mN y x < 0) : posN (y :: t) x = posN t x + 1 := by unfold posN; rw [List.takeWhile_cons, if_pos (by simpa using c)]; rfl
theorem posN_cons0 {y x : Nm} {t : List Nm} (c : ¬ mN y x < 0) : posN (y :: t) x = 0 := by unfold posN; rw [List.takeWhile_cons, if_neg (by simpa using c)]; rfl
theorem posN_lt : ∀ {out : List Nm} {x : Nm} {n : Nat}, n < posN out x → ∀ hn : n < out.length, mN out[n] x < 0
  | [], _, _, _, hn => absurd hn (by simp)
  | y :: t, x, n, h, hn => by
    by_cases c : mN y x < 0
    · cases n with
      | zero => exact c
      | succ n =>
        rw [posN_cons1 c] at h
        exact posN_lt (out := t) (n := n) (by omega) (by simpa using hn)
    · rw [posN_cons0 c] at h; omega
theorem posN_at : ∀ {out : List Nm} {x : Nm} {n : Nat}, n = posN out x → ∀ hn : n < out.length, ¬ mN out[n] x < 0
  | [], _, _, _, hn => absurd hn (by simp)
  | y :: t, x, n, h, hn => by
    by_cases c : mN y x < 0
    · rw [posN_cons1 c] at h
      subst h
      exact posN_at (out := t) rfl (by simpa using hn) 
    · rw [posN_cons0 c] at h
      subst h
      exact c
noncomputable def insN (out : List Nm) (x : Nm) : List Nm := if out[posN out x]? = some x then out else out.take (posN out x) ++ (x :: out.drop (posN out x))
noncomputable def rsN (l : List Nm) : List Nm := l.foldl insN []
theorem rsorted_in (d out : List Nm) (hd : d.length ≤ 300) (ho : out.length ≤ 300) (hs : ∀ y ∈ out, y.2.1.length ≤ 9000000000000000000) (Ts : List AV) (b p q : Pos) (g g0 c i : Nat) (hi : i < d.length) (ex : Bool) (st : XS) (hp : xget st.X p g0 = some (flN d ++ Ts)) (hq : xget st.X q g = some (flN out)) (K : Nat) :
    ∀ (fuel r n : Nat) (env : T AV), sv env 0 = .sl p g0 0 d.length c ex 3 → sv env 3 = .sl q g 0 out.length out.length false 3 → sv env 4 = int64 (i : Int) → sv env 5 = int64 (n : Int) → n + r = posN out d[i] → r < fuel →
    ∃ env', xloop (xcode Tryz.prog [e_rcmpn] [] b (K + 1) rsorted_0) fuel env st = some (.exit 2, env', st) ∧ sv env' 0 = .sl p g0 0 d.length c ex 3 ∧ sv env' 3 = .sl q g 0 out.length out.length false 3 ∧ sv env' 4 = int64 (i : Int) ∧ sv env' 5 = int64 (posN out d[i] : Int)
  | 0, r, n, env, _, _, _, _, _, hf => by omega
  | fuel + 1, r, n, env, h0, h3, h4, h5, hn, hf => by
    unfold xloop
    have key := fun env a0 a3 a4 a5 => rsorted_in d out hd ho hs Ts b p q g g0 c i hi ex st hp hq K fuel (r - 1) (n + 1) env a0 a3 a4 a5
    generalize xloop (xcode Tryz.prog [e_rcmpn] [] b (K + 1) rsorted_0) fuel = R at key ⊢
    have hle := posN_le out d[i]
    have hfl := flN_len out
    have hfd := flN_len d
    have i1 : ((i : Int) < (d.length : Int)) = True := eq_true (by omega)
    by_cases cn : n = out.length
    · have hr : posN out d[i] = out.length := by omega
      subst cn
      have g1 : ((out.length : Int) < (out.length : Int)) = False := eq_false (by omega)
      rw [hr]
      simp [rsorted_0, h0, h3, h4, h5]
      done
    · have hno : n < out.length := by omega
      have L1 : ((flN out).drop (n * 3)).take 3 = nmA out[n] := flN_at out hno
      have L2 : ((flN d ++ Ts).drop (i * 3)).take 3 = nmA d[i] := by rw [List.drop_append_of_le_length (by omega), List.take_append_of_le_length (by rw [List.length_drop]; omega)]; exact flN_at d hi
      have b1 : (n * 3 + 3 ≤ 3 * out.length) = True := eq_true (by omega)
      have b2 : (i * 3 + 3 ≤ 3 * d.length + Ts.length) = True := eq_true (by omega)
      have CM : ∀ {U : List Ent} {b : Pos} {st : XS}, tget U 35 = some e_rcmpn → xcall U b 35 [.agg (nmA out[n]), .agg (nmA d[i])] st = some (XR.out b st (.plain (int64 (mN out[n] d[i])))) := fun {U b st} hU => x_rcmpn hU out[n].1 out[n].2.1 out[n].2.2 d[i].1 d[i].2.1 d[i].2.2 (hs _ (List.getElem_mem hno))
      have w : wrapA .i64 ((n : Int) + 1) = ((n + 1 : Nat) : Int) := by rw [w64 (by omega) (by omega)]; rfl
      have P1 := fun (hh : n < posN out d[i]) => posN_lt (out := out) (x := d[i]) (n := n) hh hno
      have P2 := fun (hh : n = posN out d[i]) => posN_at (out := out) (x := d[i]) (n := n) hh hno
      generalize hx : d[i] = x at *
      generalize out[n] = y at *
      by_cases cr : r = 0
      · have e : n = posN out x := by omega
        have c1 : (mN y x < 0) = False := eq_false (P2 e)
        rw [← e]
        simp [rsorted_0, h0, h3, h4, h5, hp, hq, L1, L2, b1, b2, CM, f_rcmpn, nm_eq8, hfl, hfd, hno, hi, c1]
        done
      · have c1 : (mN y x < 0) = True := eq_true (P1 (by omega))
        simp [rsorted_0, h0, h3, h4, h5, hp, hq, L1, L2, b1, b2, CM, f_rcmpn, nm_eq8, hfl, hfd, hno, hi, c1, w]
        refine key _ ?_ ?_ ?_ ?_ (by omega) (by omega) <;> simp [sv_stv, h0, h3, h4]
end Go.Proofs.YtjhgembcdndmkaaGreatDoor.St

namespace Go.Proofs.YtjhgembcdndmkaaGreatDoor.St
open Go Go.Proofs.YtjhgembcdndmkaaGreatDoor.Am Go.Proofs Go.RowKit
attribute [local simp] xr_mov xd_mov xr_pick xd_pick xr_bin xd_bin xr_build xd_build xr_fld xd_fld xr_partN xd_partN xr_lenS xr_lenL xd_lenL xr_load1 xd_load1 xr_loadN xd_loadN xr_new xd_new xr_box xr_buildSl xd_buildSl xr_idxAddrSl xd_idxAddrSl xd_idxAddrArr xd_idxStr xr_sliceSl xd_sliceSl orU_some orU_none lenSA_str lenSA_strOf lenLA_sl lenLA_nil xfn xcode xdrawn xr_nil xr_kg xr_cmp xcmp_some xr_call xr_store xr_append xd_append xap_sl xap_nl xapq_some xsrc_sl xsrc_nil xapp_nil xapp_grow xset xown xnx_some xnp_some xnq_some xd_nil xdl_old xda_some xd_call xd_store xd_kg xdn_some xld xal kindOf isAlloc allocs xins xrem xall xput xget xwhole xmine xcont xq xqs xres XS.add XR.out XR.outU XR.ups xsets XR.res Rs.seq Rs.inSc Rs.block mapO tupleA sv_args adv_eq tget eqs8 eqs7 eqi8 eqi7 eqg8 eqn8 eqn7 cells_strOf cells_int cells_agg cells_bool cells_str cells_sl cells_nil cells_ptr at_int at_str at_strOf at_bool at_sl at_nil at_ptr unstr_strOf fill_nil fill_cons replA ev_tm ev_vl sv_stv bin_add bin_sub bin_lss bin_gtr bin_eql bin_neq nth0 nth1 nth2 xst_idxAddrSl xst_idxStr xst_sliceStr xst_sliceSl xsl_sl xbd slN Nat.testBit
theorem rsorted_in0 (b p : Pos) (g0 c n0 i : Nat) (ex : Bool) (st : XS) (K fuel : Nat) (env : T AV) (h0 : sv env 0 = .sl p g0 0 n0 c ex 3) (h3 : sv env 3 = .nilSl) (h4 : sv env 4 = int64 (i : Int)) (h5 : sv env 5 = int64 0) :
    ∃ env', xloop (xcode Tryz.prog [e_rcmpn] [] b (K + 1) rsorted_0) (fuel + 1) env st = some (.exit 2, env', st) ∧ sv env' 0 = .sl p g0 0 n0 c ex 3 ∧ sv env' 3 = .nilSl ∧ sv env' 4 = int64 (i : Int) ∧ sv env' 5 = int64 0 := by
  unfold xloop
  simp [rsorted_0, h0, h3, h4, h5]
theorem sln1 {env : T AV} {x y : Opd} (hx : ev env x = .nilSl) (hy : ev env y = int64 0) : xst0 Tryz.prog env (.sliceSl 3 x none (some y) none) = some .nilSl := by
  unfold xst0 evalOp
  dsimp only
  rw [hx]
  unfold evO
  dsimp only
  rw [hy]
  rfl
theorem sln2 {env : T AV} {x y : Opd} (hx : ev env x = .nilSl) (hy : ev env y = int64 0) : xst0 Tryz.prog env (.sliceSl 3 x (some y) none none) = some .nilSl := by
  unfold xst0 evalOp
  dsimp only
  rw [hx]
  unfold evO
  dsimp only
  rw [hy]
  rfl
theorem xsl_nil (es : Nat) (lo : Option Nat) (hi : Nat → Option Nat) (fb : Option AV) : xsl es .nilSl lo hi fb = fb := rfl
theorem xapF_add (n : Nat) (X X' : List XB) (es : Nat) (y : AV) : xapF ⟨n, X⟩ es y ⟨n + 1, X'⟩ = true := by
  unfold xapF
  have : Nat.beq (n + 1) n = false := beq_false.2 (by omega)
  simp only [this, Bool.not_false, Bool.true_or]
theorem xapF_nil (s : XS) (es : Nat) (s' : XS) : xapF s es .nilSl s' = true := by
  unfold xapF
  rw [xsrc_nil]
  simp
theorem xap0 {b : Pos} (s : XS) : xapp b s 3 32 .nilSl 0 [] = some (.nilSl, s) := by rw [xapp_nil (by omega) (by omega) rfl (by omega)]; rfl
theorem xap1 {b : Pos} (s : XS) (x : Nm) : xapp b s 3 32 .nilSl 1 (nmA x) = some (.sl (adv b s.n) 0 0 1 1 false 3, s.add b (nmA x)) := by rw [xapp_nil (by omega) (by omega) (nm_all x) (by omega)]; rfl
theorem xapn {b : Pos} (s : XS) (id : Pos) (g off k cap : Nat) (ex : Bool) : xapp b s 3 32 (.sl id g off k cap ex 3) 0 [] = (xsrc s.X 3 (.sl id g off k cap ex 3)).map fun _ => (.sl id g off k cap ex 3, s) := xapp_none (by omega) (by omega)
theorem xapN {b : Pos} (s : XS) (l : List Nm) (n : Nat) (h0 : n ≠ 0) (h1 : n ≤ 300) : xapp b s 3 32 .nilSl n (flN l) = some (.sl (adv b s.n) 0 0 n n false 3, s.add b (flN l)) := by
  rw [xapp_nil (by omega) (by omega) (List.all_eq_true.2 (flN_atom l)) (by omega), if_neg h0]
theorem xapG {b : Pos} (s : XS) (id : Pos) (g k n : Nat) (l : List Nm) (h0 : n ≠ 0) (h1 : k + n ≤ 1073741824) : xapp b s 3 32 (.sl id g 0 k k false 3) n (flN l) = (xown s.X id g).bind fun c => if c.length = k * 3 then some (.sl id (g + 1) 0 (k + n) (k + n) false 3, ⟨s.n, xset s.X id (g + 1) (c ++ flN l)⟩) else none :=
  xapp_grow (by omega) (by omega) (List.all_eq_true.2 (flN_atom l)) h0 h1
theorem xapG1 {b : Pos} (s : XS) (id : Pos) (g k : Nat) (x : Nm) (h1 : k + 1 ≤ 1073741824) : xapp b s 3 32 (.sl id g 0 k k false 3) 1 (nmA x) = (xown s.X id g).bind fun c => if c.length = k * 3 then some (.sl id (g + 1) 0 (k + 1) (k + 1) false 3, ⟨s.n, xset s.X id (g + 1) (c ++ nmA x)⟩) else none :=
  xapp_grow (by omega) (by omega) (nm_all x) (by omega) h1
theorem flN_cons' (x : Nm) (l : List Nm) : flN (x :: l) = nmA x ++ flN l := rfl
theorem nm_take (x : Nm) : (nmA x).take 3 = nmA x := rfl
theorem insN_at {out : List Nm} {x : Nm} {n : Nat} (hn : posN out x = n) (h : n < out.length) (hx : out[n] = x) : insN out x = out := by
  unfold insN
  rw [hn, List.getElem?_eq_getElem h, hx, if_pos rfl]
theorem insN_no {out : List Nm} {x : Nm} {n : Nat} (hn : posN out x = n) (h : ∀ h : n < out.length, out[n] ≠ x) : insN out x = out.take n ++ (x :: out.drop n) := by
  unfold insN
  rw [hn, if_neg fun q => by
    obtain ⟨a, b⟩ := List.getElem?_eq_some_iff.1 q
    exact h a b]
theorem insN_mem {out : List Nm} {x y : Nm} (h : y ∈ insN out x) : y ∈ out ∨ y = x := by
  unfold insN at h
  split at h
  · exact .inl h
  · rcases List.mem_append.1 h with h | h
    · exact .inl (List.mem_of_mem_take h)
    · rcases List.mem_cons.1 h with h | h
      · exact .inr h
      · exact .inl (List.mem_of_mem_drop h)
theorem insN_len (out : List Nm) (x : Nm) : (insN out x).length ≤ out.length + 1 := by
  unfold insN
  split
  · omega
  · simp; omega
theorem rsN_snoc (l : List Nm) (x : Nm) : rsN (l ++ [x]) = insN (rsN l) x := by unfold rsN; rw [List.foldl_append]; rfl
theorem rsN_mem (l : List Nm) : ∀ y ∈ rsN l, y ∈ l := by
  refine snoc_ind (p := fun l => ∀ y ∈ rsN l, y ∈ l) (fun y h => h) (fun l x ih y h => ?_) l
  rw [rsN_snoc] at h
  rcases insN_mem h with h | h
  · exact List.mem_append_left _ (ih y h)
  · subst h; simp
theorem rsN_len (l : List Nm) : (rsN l).length ≤ l.length := by
  refine snoc_ind (p := fun l => (rsN l).length ≤ l.length) (Nat.le_refl _) (fun l x ih => ?_) l
  rw [rsN_snoc]
  have := insN_len (rsN l) x
  simp; omega
theorem flN_take (out : List Nm) {n : Nat} (h : n ≤ out.length) : (flN out).take (n * 3) = flN (out.take n) := by
  have e : flN out = flN (out.take n) ++ flN (out.drop n) := by rw [← flN_app, List.take_append_drop]
  have l : (flN (out.take n)).length = n * 3 := by rw [flN_len, List.length_take]; omega
  rw [e, List.take_append_of_le_length (by omega), List.take_of_length_le (by omega)]
theorem flN_drop (out : List Nm) {n : Nat} (h : n ≤ out.length) : ((flN out).drop (n * 3)).take ((out.length - n) * 3) = flN (out.drop n) := by
  have e : flN out = flN (out.take n) ++ flN (out.drop n) := by rw [← flN_app, List.take_append_drop]
  have l : (flN (out.take n)).length = n * 3 := by rw [flN_len, List.length_take]; omega
  have l2 : (flN (out.drop n)).length = (out.length - n) * 3 := by rw [flN_len, List.length_drop]; omega
  rw [e, List.drop_append_of_le_length (by omega), List.drop_eq_nil_of_le (by omega), List.nil_append]
  exact List.take_of_length_le (by omega)
theorem flN_one (x : Nm) : flN [x] = nmA x := by simp [flN]
theorem mN_zero (x y : Nm) : (mN x y = 0) = (x = y) := propext ⟨cm_m.zero x y, fun h => by rw [h, cm_m.refl]⟩
def RsI (b : Pos) (st : XS) (v : AV) (out : List Nm) : Prop := (out = [] ∧ v = .nilSl) ∨ (out ≠ [] ∧ ∃ q g, v = .sl q g 0 out.length out.length false 3 ∧ xget st.X q g = some (flN out) ∧ xown st.X q g = some (flN out) ∧ ∀ k, st.n ≤ k → (adv b k = q) = False)
theorem rsorted_out (d : List Nm) (hd : d.length ≤ 300) (hs : ∀ y ∈ d, y.2.1.length ≤ 9000000000000000000) (Ts : List AV) (b p : Pos) (g0 c : Nat) (ex : Bool) (hne : ∀ k, (adv b k = p) = False) (K : Nat) (hK : 300 ≤ K) :
    ∀ (fuel r i : Nat) (env : T AV) (st : XS) (out : List Nm), sv env 0 = .sl p g0 0 d.length c ex 3 → sv env 4 = int64 (i : Int) → RsI b st (sv env 3) out → xget st.X p g0 = some (flN d ++ Ts) → out = rsN (d.take i) → i + r = d.length → r < fuel →
    ∃ env' st', xloop (xcode Tryz.prog [e_rcmpn] [] b (K + 1) rsorted_1) fuel env st = some (.exit 0, env', st') ∧ RsI b st' (sv env' 3) (rsN d)
  | 0, r, i, env, st, out, _, _, _, _, _, _, hf => by omega
  | fuel + 1, r, i, env, st, out, h0, h4, hI, hp, ho, hi, hf => by
    unfold xloop
    have hfd := flN_len d
    cases r with
    | zero =>
      obtain rfl : i = d.length := by omega
      rw [List.take_length] at ho
      subst ho
      simp [rsorted_1, h0, h4]
      exact ⟨_, _, ⟨rfl, rfl⟩, by simpa [sv_stv] using hI⟩
    | succ r =>
      have hi1 : i < d.length := by omega
      have key := rsorted_out d hd hs Ts b p g0 c ex hne K hK fuel r (i + 1)
      generalize xloop (xcode Tryz.prog [e_rcmpn] [] b (K + 1) rsorted_1) fuel = R at key ⊢
      have L2 : ((flN d ++ Ts).drop (i * 3)).take 3 = nmA d[i] := by rw [List.drop_append_of_le_length (by omega), List.take_append_of_le_length (by rw [List.length_drop]; omega)]; exact flN_at d hi1
      have b2 : (i * 3 + 3 ≤ 3 * d.length + Ts.length) = True := eq_true (by omega)
      have w : wrapA .i64 ((i : Int) + 1) = (i : Int) + 1 := w64 (by omega) (by omega)
      have hst : rsN (d.take (i + 1)) = insN out d[i] := by
        rw [List.take_succ_eq_append_getElem hi1, ho]
        unfold rsN
        rw [List.foldl_append]
        rfl
      rw [hst] at key
      rcases hI with ⟨hO, h3⟩ | ⟨hO, q, g, h3, hq1, hq2, hq3⟩
      · subst hO
        have hins : insN [] d[i] = [d[i]] := rfl
        rw [hins] at key
        obtain ⟨f, hf2⟩ := skol (p := fun env => sv env 0 = .sl p g0 0 d.length c ex 3 ∧ sv env 3 = .nilSl ∧ sv env 4 = int64 (i : Int) ∧ sv env 5 = int64 0) (fun env ⟨a0, a3, a4, a5⟩ => rsorted_in0 b p g0 c d.length i ex st K K env a0 a3 a4 a5)
        have F1 := fun env a0 a3 a4 a5 => (hf2 env ⟨a0, a3, a4, a5⟩).1
        have F0 := fun env a0 a3 a4 a5 => (hf2 env ⟨a0, a3, a4, a5⟩).2.1
        have F3 := fun env a0 a3 a4 a5 => (hf2 env ⟨a0, a3, a4, a5⟩).2.2.1
        have F4 := fun env a0 a3 a4 a5 => (hf2 env ⟨a0, a3, a4, a5⟩).2.2.2.1
        have F5 := fun env a0 a3 a4 a5 => (hf2 env ⟨a0, a3, a4, a5⟩).2.2.2.2
        clear hf2
        generalize d[i] = x at *
        simp [rsorted_1, h0, h3, h4, F1, F0, F3, F4, F5, hi1, hp, L2, b2, hfd, w, sln1, sln2, xsl_nil, xapF_add, xapF_nil, xap0, xap1, xapn, xsrc_sl, nm_take, nm_eq8, nm_len, nm_all, nm_cells]
        refine key _ _ _ ?_ ?_ ?_ ?_ rfl (by omega) (by omega)
        · simp [sv_stv, F0, h0, h3, h4]
        · simp [sv_stv]
        · right
          refine ⟨by simp, adv b (st.n + 1), 0, ?_, ?_, ?_, ?_⟩
          · simp [sv_stv]
          · simp [xget, flN]
          · simp [xown, flN]
          · intro k hk
            simp only [adv_eq, eq_iff_iff, iff_false]
            have : st.n + 1 + 1 ≤ k := hk
            omega
        · simp [xget, hne, hp]
      · have ho3 : out.length ≤ 300 := by have := rsN_len (d.take i); rw [← ho, List.length_take] at this; omega
        have hs2 : ∀ y ∈ out, y.2.1.length ≤ 9000000000000000000 := fun y hy => hs y (List.mem_of_mem_take (rsN_mem _ y (by rw [← ho]; exact hy)))
        have inn := fun env a0 a3 a4 a5 => rsorted_in d out hd ho3 hs2 Ts b p q g g0 c i hi1 ex st hp hq1 K (K + 1) (posN out d[i]) 0 env a0 a3 a4 a5 (Nat.zero_add _) (by have := posN_le out d[i]; omega)
        obtain ⟨f, hf2⟩ := skol (p := fun env => sv env 0 = .sl p g0 0 d.length c ex 3 ∧ sv env 3 = .sl q g 0 out.length out.length false 3 ∧ sv env 4 = int64 (i : Int) ∧ sv env 5 = int64 0) (fun env ⟨a0, a3, a4, a5⟩ => inn env a0 a3 a4 a5)
        have F1 := fun env a0 a3 a4 a5 => (hf2 env ⟨a0, a3, a4, a5⟩).1
        have F0 := fun env a0 a3 a4 a5 => (hf2 env ⟨a0, a3, a4, a5⟩).2.1
        have F3 := fun env a0 a3 a4 a5 => (hf2 env ⟨a0, a3, a4, a5⟩).2.2.1
        have F4 := fun env a0 a3 a4 a5 => (hf2 env ⟨a0, a3, a4, a5⟩).2.2.2.1
        have F5 := fun env a0 a3 a4 a5 => (hf2 env ⟨a0, a3, a4, a5⟩).2.2.2.2
        clear hf2 inn
        have hle := posN_le out d[i]
        have hfl := flN_len out
        have CM : ∀ (y : Nm), y ∈ out → ∀ {U : List Ent} {b : Pos} {st : XS}, tget U 35 = some e_rcmpn → xcall U b 35 [.agg (nmA y), .agg (nmA d[i])] st = some (XR.out b st (.plain (int64 (mN y d[i])))) := fun y hy {U b st} hU => x_rcmpn hU y.1 y.2.1 y.2.2 d[i].1 d[i].2.1 d[i].2.2 (hs2 y hy)
        have I1 := fun (hn : posN out d[i] < out.length) => insN_at (out := out) (x := d[i]) rfl hn
        have I2 := insN_no (out := out) (x := d[i]) rfl
        generalize hn : posN out d[i] = n at *
        generalize d[i] = x at *
        have L1 := fun (h : n < out.length) => flN_at out h
        by_cases cA : ∃ h : n < out.length, out[n] = x
        · obtain ⟨cn, cx⟩ := cA
          have b1 : (n * 3 + 3 ≤ 3 * out.length) = True := eq_true (by omega)
          have L1 := L1 cn
          have CM := fun {U b st} hU => CM x (by rw [← cx]; exact List.getElem_mem cn) (U := U) (b := b) (st := st) hU
          rw [cx] at L1
          have m0 : mN x x = 0 := cm_m.refl x
          rw [I1 cn cx] at key
          simp [rsorted_1, h0, h3, h4, F1, F0, F3, F4, F5, hi1, hp, hq1, L1, L2, b1, b2, hfd, hfl, w, CM, f_rcmpn, nm_eq8, cn, m0]
          refine key _ _ _ ?_ ?_ ?_ hp rfl (by omega) (by omega)
          · simp [sv_stv, F0, h0, h3, h4]
          · simp [sv_stv]
          · exact .inr ⟨hO, q, g, by simp [sv_stv, F3, h0, h3, h4], hq1, hq2, hq3⟩
        · have cA' : ∀ h : n < out.length, out[n] ≠ x := fun h e => cA ⟨h, e⟩
          rw [I2 cA'] at key
          have TK := flN_take out hle
          have DR := flN_drop out hle
          have b3 : (n * 3 ≤ 3 * out.length) = True := eq_true (by omega)
          have b4 : (n * 3 + (out.length - n) * 3 ≤ 3 * out.length) = True := eq_true (by omega)
          have hq0 := hq3 st.n (Nat.le_refl _)
          have hq01 := hq3 (st.n + 1) (by omega)
          have hlen : (out.take n ++ (x :: out.drop n)).length = out.length + 1 := by simp; omega
          have hnew : out.take n ++ (x :: out.drop n) ≠ [] := by simp
          by_cases c1 : n = out.length
          · have c3 : out.length ≠ 0 := fun q => hO (List.length_eq_zero_iff.1 q)
            have dn : out.drop n = [] := List.drop_eq_nil_of_le (by omega)
            have tn : out.take n = out := List.take_of_length_le (by omega)
            rw [dn, tn] at key hlen hnew
            subst c1
            have a1 := fun (b : Pos) (s : XS) => xapN (b := b) s out out.length c3 (by omega)
            have a2 := fun (b : Pos) (s : XS) id g => xapG1 (b := b) s id g out.length x (by omega)
            have FT : (flN out).take (out.length * 3) = flN out := List.take_of_length_le (by omega)
            have b5 : (out.length * 3 ≤ 3 * out.length) = True := eq_true (by omega)
            have e1 : (3 * out.length = out.length * 3) = True := eq_true (by omega)
            have e2 : ((out.length + 1) * 3 ≤ 3 * out.length + 3) = True := eq_true (by omega)
            simp [rsorted_1, h0, h3, h4, F1, F0, F3, F4, F5, hi1, hp, hq1, L2, b2, b5, hfd, hfl, w, nm_eq8, nm_len, nm_cells, nm_take, FT, a1, a2, xap0, xap1, xapn, xsrc_sl, xapF_add, xapF_nil, hq0, hq01, hne, e1, e2]
            refine key _ _ _ ?_ ?_ ?_ ?_ rfl (by omega) (by omega)
            · simp [sv_stv, F0, h0, h3, h4]
            · simp [sv_stv]
            · refine .inr ⟨hnew, adv b (st.n + 1), 1, ?_, ?_, ?_, ?_⟩
              · rw [hlen]; simp [sv_stv]
              · simp [xget, flN_app, flN_one, adv_eq]
              · simp [xown, flN_app, flN_one, adv_eq]
              · intro k hk
                simp only [adv_eq, eq_iff_iff, iff_false]
                have : st.n + 1 + 1 ≤ k := hk
                omega
            · simp [xget, hne, hp]
          · have cn : n < out.length := by omega
            have b1 : (n * 3 + 3 ≤ 3 * out.length) = True := eq_true (by omega)
            have L1 := L1 cn
            have CM := fun {U b st} hU => CM out[n] (List.getElem_mem cn) (U := U) (b := b) (st := st) hU
            have mz := mN_zero out[n] x
            have ne := eq_false (cA' cn)
            rw [ne] at mz
            generalize out[n] = y at *
            by_cases c2 : n = 0
            · subst c2
              have hpos : out.length ≠ 0 := by omega
              simp only [Nat.zero_mul, List.drop_zero, List.take_zero, List.nil_append] at L1 key hlen hnew
              have a2 := fun (b : Pos) (s : XS) id g => xapG (b := b) s id g 1 out.length out hpos (by omega)
              have FT : (flN out).take (out.length * 3) = flN out := List.take_of_length_le (by omega)
              have b5 : (out.length * 3 ≤ 3 * out.length) = True := eq_true (by omega)
              have e2 : 1 + out.length = out.length + 1 := by omega
              have b6 : (3 ≤ 3 * out.length) = True := eq_true (by omega)
              have xf0 : ∀ s', xapF ⟨st.n + 1, st.X⟩ 3 (.sl q g 0 0 out.length false 3) s' = true := fun s' => by
                unfold xapF
                rw [xsrc_sl, hq1]
                simp
              simp [rsorted_1, h0, h3, h4, F1, F0, F3, F4, F5, hi1, hp, hq1, L1, L2, b1, b2, b5, b6, hfd, hfl, w, CM, f_rcmpn, nm_eq8, nm_len, nm_cells, nm_take, cn, mz, FT, a2, xap0, xap1, xapn, xsrc_sl, xapF_add, xapF_nil, xf0, hq0, hq01, hne, e2]
              refine key _ _ _ ?_ ?_ ?_ ?_ rfl (by omega) (by omega)
              · simp [sv_stv, F0, h0, h3, h4]
              · simp [sv_stv]
              · refine .inr ⟨hnew, adv b (st.n + 1), 1, ?_, ?_, ?_, ?_⟩
                · rw [hlen]; simp [sv_stv]
                · simp [xget, flN_cons', adv_eq]
                · simp [xown, flN_cons', adv_eq]
                · intro k hk
                  simp only [adv_eq, eq_iff_iff, iff_false]
                  have : st.n + 1 + 1 ≤ k := hk
                  omega
              · simp [xget, hne, hp]
            · have a1 := fun (b : Pos) (s : XS) => xapN (b := b) s (out.take n) n c2 (by omega)
              have a2 := fun (b : Pos) (s : XS) id g => xapG1 (b := b) s id g n x (by omega)
              have a3 := fun (b : Pos) (s : XS) id g => xapG (b := b) s id g (n + 1) (out.length - n) (out.drop n) (by omega) (by omega)
              have e1 : (n * 3 + 3 = (n + 1) * 3) = True := eq_true (by omega)
              have e2 : n + 1 + (out.length - n) = out.length + 1 := by omega
              have l1 : (flN (out.take n)).length = n * 3 := by rw [flN_len, List.length_take]; omega
              simp [rsorted_1, h0, h3, h4, F1, F0, F3, F4, F5, hi1, hp, hq1, L1, L2, b1, b2, b3, b4, hfd, hfl, w, CM, f_rcmpn, nm_eq8, nm_len, nm_cells, nm_take, cn, mz, hle, TK, DR, a1, a2, a3, xsrc_sl, xapF_add, hq0, hq01, hne, l1, e1, e2]
              refine key _ _ _ ?_ ?_ ?_ ?_ rfl (by omega) (by omega)
              · simp [sv_stv, F0, h0, h3, h4]
              · simp [sv_stv]
              · refine .inr ⟨hnew, adv b (st.n + 1), 2, ?_, ?_, ?_, ?_⟩
                · rw [hlen]; simp [sv_stv]
                · simp [xget, flN_app, flN_cons', adv_eq]
                · simp [xown, flN_app, flN_cons', adv_eq]
                · intro k hk
                  simp only [adv_eq, eq_iff_iff, iff_false]
                  have : st.n + 1 + 1 ≤ k := hk
                  omega
              · simp [xget, hne, hp]
end Go.Proofs.YtjhgembcdndmkaaGreatDoor.St

namespace Go.Proofs.YtjhgembcdndmkaaGreatDoor.St
open Go Go.Proofs.YtjhgembcdndmkaaGreatDoor.Am Go.Proofs Go.RowKit
attribute [local simp] xr_mov xd_mov xr_pick xd_pick xr_bin xd_bin xr_build xd_build xr_fld xd_fld xr_partN xd_partN xr_lenS xr_lenL xd_lenL xr_load1 xd_load1 xr_loadN xd_loadN xr_new xd_new xr_box xr_buildSl xd_buildSl xr_idxAddrSl xd_idxAddrSl xd_idxAddrArr xd_idxStr xr_sliceSl xd_sliceSl orU_some orU_none lenSA_str lenSA_strOf lenLA_sl lenLA_nil xfn xcode xdrawn xr_nil xr_kg xr_cmp xcmp_some xr_call xr_store xr_append xd_append xap_sl xap_nl xapq_some xsrc_sl xsrc_nil xapp_nil xapp_grow xset xown xnx_some xnp_some xnq_some xd_nil xdl_old xda_some xd_call xd_store xd_kg xdn_some xld xal kindOf isAlloc allocs xins xrem xall xput xget xwhole xmine xcont xq xqs xres XS.add XR.out XR.outU XR.ups xsets XR.res Rs.seq Rs.inSc Rs.block mapO tupleA sv_args adv_eq tget eqs8 eqs7 eqi8 eqi7 eqg8 eqn8 eqn7 cells_strOf cells_int cells_agg cells_bool cells_str cells_sl cells_nil cells_ptr at_int at_str at_strOf at_bool at_sl at_nil at_ptr unstr_strOf fill_nil fill_cons replA ev_tm ev_vl sv_stv bin_add bin_sub bin_lss bin_gtr bin_eql bin_neq nth0 nth1 nth2 xst_idxAddrSl xst_idxStr xst_sliceStr xst_sliceSl xsl_sl xbd slN Nat.testBit
noncomputable def rV (b : Pos) (l : List Nm) : AV := if l = [] then .nilSl else .sl b 0 0 l.length l.length false 3
noncomputable def rR (l : List Nm) : List (List AV) := if l = [] then [] else [flN l]
def ArgN (v : AV) (d : List Nm) : Prop := (v = .nilSl ∧ d = []) ∨ ∃ p g c e, v = .sl p g 0 d.length c e 3
noncomputable def e_rsorted : Ent := mkEnt 40 1 [.sl 0] (fun z_ : AV × (List Nm) => [z_.1]) (fun z_ => [flN z_.2]) (fun z_ => ArgN z_.1 z_.2 ∧ z_.2.length ≤ 300 ∧ ∀ y ∈ z_.2, y.2.1.length ≤ 9000000000000000000) (fun z_ => .outs [] (fun b => rR (rsN z_.2)) (fun b => rV b (rsN z_.2)))
theorem f_rsorted : e_rsorted.f = 40 := rfl
theorem x_rsorted {U : List Ent} {b : Pos} {st : XS} (hU : tget U 40 = some e_rsorted) (v : AV) (d : List Nm) (hp : ArgN v d ∧ d.length ≤ 300 ∧ ∀ y ∈ d, y.2.1.length ≤ 9000000000000000000) (hq : xqs st.X [v] [.sl 0] = some [flN d]) (ho : ((.outs [] (fun b => rR (rsN d)) (fun b => rV b (rsN d)) : XR).ups.all fun x => (xown st.X x.1 0).isSome) = true) : xcall U b 40 [v] st = none ∧ xupd U b 40 [v] st = some (XR.outU b st (.outs [] (fun b => rR (rsN d)) (fun b => rV b (rsN d)))) :=
  xupd_at hU rfl hq (mkEnt_spec (by rintro ⟨a0, a1⟩ ⟨b0, b1⟩ h hc; simp only [List.cons.injEq, AV.agg.injEq, AV.tup.injEq, AV.int.injEq, AV.bool.injEq, AV.ptr.injEq, AV.sl.injEq, strOf_eq, byt_eq, map_strOf_eq, true_and, and_true, Int.natCast_inj, flN_eq] at h hc; simp [h, hc]) (v, d) hp) (by first | rfl | (split <;> rfl)) ho
noncomputable def e_one : Ent := mkEnt 38 0 [] (fun z_ : Unit => []) (fun _ => []) (fun _ => True) (fun _ => .plain (.agg [int64 5, int64 1, strOf [109, 97, 105, 110], int64 3, int64 0]))
theorem f_one : e_one.f = 38 := rfl
theorem x_one {U : List Ent} {b : Pos} {st : XS} (hU : tget U 38 = some e_one)  : xcall U b 38 [] st = some (XR.out b st (.plain (.agg [int64 5, int64 1, strOf [109, 97, 105, 110], int64 3, int64 0]))) :=
  xcall_at hU rfl rfl (mkEnt_spec (fun _ _ _ _ => rfl) () trivial) (by first | rfl | (split <;> rfl))
section
variable {m : Int} {t1 t2 : AV}
theorem rsorted_ok : EntOK Tryz.prog (HasG m t1 t2) e_rsorted := mkEnt_ok ok_rsorted fun z h gg hz hc => by
  obtain ⟨v, d⟩ := z
  obtain ⟨hv, hz, hs⟩ := hz
  dsimp only at hv hz hs hc ⊢
  rcases hv with ⟨rfl, rfl⟩ | ⟨p, g, c, ex, rfl⟩
  · refine outs_of [] _ _ [] (fun _ o => gg.more o) (U := [e_rcmpn]) (K := []) (X := []) (by simp [rcmpn_ok]) (by simp) 301 (.start h) (by simp) rsorted_code (by simp [rsorted_fu]) (by simp) (by simp) (w := .nilSl) (l1 := []) (l2 := []) ?_ .nil .nil (.plain rfl)
    simp [rsorted_fu, rsorted_1, xloop, owns, ownsG]
  obtain ⟨Ts, hT⟩ := nms_open hc
  have hne : ∀ i, (adv h.next i = p) = False := fun i => eq_false fun q => by have := hT.old; dsimp only at this; rw [← q, adv_num] at this; omega
  obtain ⟨env', st', e, hI⟩ := rsorted_out d hz hs Ts h.next p g c ex hne 300 (by omega) 301 d.length 0 (stv (stv (stv (setArgs .e 0 [.sl p g 0 d.length c ex 3]) 2 .nilSl) 3 .nilSl) 4 (int64 0)) ⟨0, [⟨p, g, false, flN d ++ Ts⟩]⟩ [] (by simp [sv_stv, sv_args]) (by simp [sv_stv]) (.inl ⟨rfl, by simp [sv_stv]⟩) (by simp [xget]) rfl (by omega) (by omega)
  rcases hI with ⟨h1, h2⟩ | ⟨h1, q, g', h2, h3, h4, h5⟩
  · rw [show rV = rV from rfl, h1]
    refine outs_of [] _ _ [] (fun _ o => gg.more o) (U := [e_rcmpn]) (K := []) (X := [⟨p, g, false, flN d ++ Ts⟩]) (by simp [rcmpn_ok]) (by simp) 301 (.start1 hT rfl) (by simp) rsorted_code (by simp [rsorted_fu]) (by simp) (by simp) (w := .nilSl) (l1 := []) (l2 := []) ?_ .nil ?_ ?_
    · simp [rsorted_fu, e, h2, owns, ownsG]
    · unfold rR; rw [if_pos rfl]; exact .nil
    · unfold rV; rw [if_pos rfl]; exact .plain rfl
  · refine outs_of [] _ _ [(q, g')] (fun _ o => gg.more o) (U := [e_rcmpn]) (K := []) (X := [⟨p, g, false, flN d ++ Ts⟩]) (by simp [rcmpn_ok]) (by simp) 301 (.start1 hT rfl) (by simp) rsorted_code (by simp [rsorted_fu]) (by simp) (by simp) (w := .sl q g' 0 (rsN d).length (rsN d).length false 3) (l1 := []) (l2 := [flN (rsN d)]) ?_ .nil ?_ ?_
    · simp [rsorted_fu, e, h2, h4, owns, ownsG]
    · unfold rR; rw [if_neg h1]; exact .cons (.self (flN_plain _)) .nil
    · unfold rV; rw [if_neg h1]; exact .slN 0 rfl (.inr rfl)
theorem one_ok : EntOK Tryz.prog (HasG m t1 t2) e_one := mkEnt_ok ok_one fun _ h gg _ _ => by
  refine plain_of (U := []) (K := []) (fun _ o => gg.more o) (by simp) (by simp) 0 one_code (by simp [one_fu]) rfl ?_
  simp [one_fu]
  rfl
end
end Go.Proofs.YtjhgembcdndmkaaGreatDoor.St

namespace Go.Proofs.YtjhgembcdndmkaaGreatDoor.St
open Go Go.Proofs.YtjhgembcdndmkaaGreatDoor.Am Go.Proofs Go.RowKit
attribute [local simp] xr_mov xd_mov xr_pick xd_pick xr_bin xd_bin xr_build xd_build xr_fld xd_fld xr_partN xd_partN xr_lenS xr_lenL xd_lenL xr_load1 xd_load1 xr_loadN xd_loadN xr_new xd_new xr_box xr_buildSl xd_buildSl xr_idxAddrSl xd_idxAddrSl xd_idxAddrArr xd_idxStr xr_sliceSl xd_sliceSl orU_some orU_none lenSA_str lenSA_strOf lenLA_sl lenLA_nil xfn xcode xdrawn xr_nil xr_kg xr_cmp xcmp_some xr_call xr_store xr_append xd_append xap_sl xap_nl xapq_some xsrc_sl xsrc_nil xapp_nil xapp_grow xset xown xnx_some xnp_some xnq_some xd_nil xdl_old xda_some xd_call xd_store xd_kg xdn_some xld xal kindOf isAlloc allocs xins xrem xall xput xget xwhole xmine xcont xq xqs xres XS.add XR.out XR.outU XR.ups xsets XR.res Rs.seq Rs.inSc Rs.block mapO tupleA sv_args adv_eq tget eqs8 eqs7 eqi8 eqi7 eqg8 eqn8 eqn7 cells_strOf cells_int cells_agg cells_bool cells_str cells_sl cells_nil cells_ptr at_int at_str at_strOf at_bool at_sl at_nil at_ptr unstr_strOf fill_nil fill_cons replA ev_tm ev_vl sv_stv bin_add bin_sub bin_lss bin_gtr bin_eql bin_neq nth0 nth1 nth2 xst_idxAddrSl xst_idxStr xst_sliceStr xst_sliceSl xsl_sl xbd slN Nat.testBit
noncomputable def stA (x : Stp) : List AV := [int64 x.g, int64 x.r, strOf x.s, int64 x.n, int64 x.i]
noncomputable def xiaA (n es : Nat) : AV → AV → Option AV
  | .ptr id g off, .int _ z => if 0 ≤ z ∧ z < (n : Int) then some (.ptr id g (off + z.toNat * es)) else none
  | _, _ => none
theorem xiaA_ptr (n es : Nat) (id : Pos) (g off : Nat) (kk : IntKind) (z : Int) : xiaA n es (.ptr id g off) (.int kk z) = if 0 ≤ z ∧ z < (n : Int) then some (.ptr id g (off + z.toNat * es)) else none := rfl
theorem xst_iaa {env : T AV} (n es : Nat) (x y : Opd) : xst Tryz.prog env (.idxAddrArr n es x y) = xiaA n es (ev env x) (ev env y) := by
  show xst0 Tryz.prog env _ = _
  have e : evalOp Tryz.prog (.idxAddrArr n es x y) env hp0 = (match ev env x, ev env y with
    | .ptr id g off, .int _ (.ofNat i) => bif Nat.blt i n then natK (Nat.add off (Nat.mul i es)) fun o => .val (.ptr id g o) hp0 else .fail "idxAddrArr bounds"
    | _, _ => .fail "idxAddrArr") := rfl
  unfold xst0
  rw [e]
  cases ev env x <;> first | rfl | skip
  rename_i id g off
  cases ev env y <;> first | rfl | skip
  rename_i kk z
  rw [xiaA_ptr]
  cases z with
  | negSucc m => rw [if_neg (by omega)]
  | ofNat i =>
    by_cases c : i < n
    · rw [if_pos (by constructor <;> simp <;> omega)]
      dsimp only
      rw [blt_iff.2 c, cond_true, natK_eq]
      rfl
    · rw [if_neg (by simp; omega)]
      dsimp only
      cases q : Nat.blt i n with
      | true => exact absurd (blt_iff.1 q) c
      | false => rfl
section
variable {m : Int} {t1 t2 : AV}
theorem orders_in (S : Nat → Stp) (hS : ∀ i, (S i).s.length ≤ 9000000000000000000) (L : List AV) (hL : L.length = 15) (hA : ∀ i, i < 3 → (L.drop (i * 5)).take 5 = stA (S i)) (b B : Pos) (i : Nat) (hi : i < 3) (v : AV) (K : List Ent) (Z : Nat) :
    ∀ (fuel r k : Nat) (env : T AV) (st : XS), sv env 1 = v → sv env 2 = .ptr B 0 0 → sv env 5 = int64 (i : Int) → sv env 6 = int64 (k : Int) → xget st.X B 0 = some L → (∀ j, st.n ≤ j → (adv b j = B) = False) → k + r = 3 → r < fuel →
    ∃ env' st', xloop (xcode Tryz.prog [e_cmp, e_rcmp, e_cmpn, e_rcmpn, e_cmpb, e_rcmpb, e_one] K b (Z + 1) orders_0) fuel env st = some (.exit 2, env', st') ∧ sv env' 1 = v ∧ sv env' 2 = .ptr B 0 0 ∧ sv env' 5 = int64 (i : Int) ∧ xget st'.X B 0 = some L ∧ (∀ j, st'.n ≤ j → (adv b j = B) = False) ∧ ∀ p g l, xget st.X p g = some l → (∀ j, (adv b j = p) = False) → xget st'.X p g = some l
  | 0, r, k, env, st, _, _, _, _, _, _, _, hf => by omega
  | fuel + 1, r, k, env, st, h1, h2, h5, h6, hB, hN, hk, hf => by
    unfold xloop
    have key := orders_in S hS L hL hA b B i hi v K Z fuel (r - 1) (k + 1)
    generalize xloop (xcode Tryz.prog [e_cmp, e_rcmp, e_cmpn, e_rcmpn, e_cmpb, e_rcmpb, e_one] K b (Z + 1) orders_0) fuel = R at key ⊢
    by_cases c3 : k = 3
    · subst c3
      simp [orders_0, h1, h2, h5, h6]
      exact ⟨_, _, ⟨rfl, rfl⟩, by simp [sv_stv, h1], by simp [sv_stv, h2], by simp [sv_stv, h5], hB, fun j hj => by simpa using hN j hj, fun _ _ _ a _ => a⟩
    · have hk3 : k < 3 := by omega
      have A1 := hA i hi
      have A2 := hA k hk3
      have g1 : ((k : Int) < 3) = True := eq_true (by omega)
      have g2 : ((i : Int) < 3) = True := eq_true (by omega)
      have b1 : (i * 5 + 5 ≤ 15) = True := eq_true (by omega)
      have b2 : (k * 5 + 5 ≤ 15) = True := eq_true (by omega)
      have w : wrapA .i64 ((k : Int) + 1) = (k : Int) + 1 := w64 (by omega) (by omega)
      have n0 := hN st.n (Nat.le_refl _)
      have n1 := hN (st.n + 1) (by omega)
      have si := hS i
      have sk := hS k
      generalize S i = x at *
      generalize S k = y at *
      simp only [stA] at A1 A2
      obtain ⟨xg, xr, xs, xn, xi⟩ := x
      obtain ⟨yg, yr, ys, yn, yi⟩ := y
      dsimp only at A1 A2 si sk
      have R1 := fun {U b st} (hU : tget U 33 = some e_rcmp) => x_rcmp (U := U) (b := b) (st := st) hU xg xr xs xn xi yg yr ys yn yi si
      have R2 := fun {U b st} (hU : tget U 35 = some e_rcmpn) => x_rcmpn (U := U) (b := b) (st := st) hU xr xs xn yr ys yn si
      have R3 := fun {U b st} (hU : tget U 37 = some e_rcmpb) => x_rcmpb (U := U) (b := b) (st := st) hU xr xs yr ys si
      simp [orders_0, h1, h2, h5, h6, hB, A1, A2, g1, g2, b1, b2, hL, w, n0, n1, xfresh, xst_iaa, xiaA_ptr, hi, hk3, x_cmp, f_cmp, x_cmpn, f_cmpn, x_cmpb, f_cmpb, R1, R2, R3, f_rcmp, f_rcmpn, f_rcmpb, tC_rC]
      refine Exists.elim (key _ _ ?_ ?_ ?_ ?_ ?_ ?_ (by omega) (by omega)) fun env' h => Exists.elim h fun st' h => ⟨env', st', h.1, h.2.1, h.2.2.1, h.2.2.2.1, h.2.2.2.2.1, fun j hj => by simpa using h.2.2.2.2.2.1 j hj, fun p g l hl hp => h.2.2.2.2.2.2 p g l ?_ (fun j => by simpa using hp j)⟩
      · simp [sv_stv, h1]
      · simp [sv_stv, h2]
      · simp [sv_stv, h5]
      · simp [sv_stv]
      · simp [xget, n0, n1, hB]
      · intro j hj
        have : st.n + 2 ≤ j := hj
        exact hN j (by omega)
      · simp [xget, hp, hl]
end
end Go.Proofs.YtjhgembcdndmkaaGreatDoor.St

namespace Go.Proofs.YtjhgembcdndmkaaGreatDoor.St
open Go Go.Proofs.YtjhgembcdndmkaaGreatDoor.Am Go.Proofs Go.RowKit
attribute [local simp] xr_mov xd_mov xr_pick xd_pick xr_bin xd_bin xr_build xd_build xr_fld xd_fld xr_partN xd_partN xr_lenS xr_lenL xd_lenL xr_load1 xd_load1 xr_loadN xd_loadN xr_new xd_new xr_box xr_buildSl xd_buildSl xr_idxAddrSl xd_idxAddrSl xd_idxAddrArr xd_idxStr xr_sliceSl xd_sliceSl orU_some orU_none lenSA_str lenSA_strOf lenLA_sl lenLA_nil xfn xcode xdrawn xr_nil xr_kg xr_cmp xcmp_some xr_call xr_store xr_append xd_append xap_sl xap_nl xapq_some xsrc_sl xsrc_nil xapp_nil xapp_grow xset xown xnx_some xnp_some xnq_some xd_nil xdl_old xda_some xd_call xd_store xd_kg xdn_some xld xal kindOf isAlloc allocs xins xrem xall xput xget xwhole xmine xcont xq xqs xres XS.add XR.out XR.outU XR.ups xsets XR.res Rs.seq Rs.inSc Rs.block mapO tupleA sv_args adv_eq tget eqs8 eqs7 eqi8 eqi7 eqg8 eqn8 eqn7 cells_strOf cells_int cells_agg cells_bool cells_str cells_sl cells_nil cells_ptr at_int at_str at_strOf at_bool at_sl at_nil at_ptr unstr_strOf fill_nil fill_cons replA ev_tm ev_vl sv_stv bin_add bin_sub bin_lss bin_gtr bin_eql bin_neq nth0 nth1 nth2 xst_idxAddrSl xst_idxStr xst_sliceStr xst_sliceSl xsl_sl xbd slN Nat.testBit
theorem skolB {α β : Type} [Nonempty β] {p : α → Prop} {q : α → β → Prop} (h : ∀ a, p a → ∃ b, q a b) : ∃ f : α → β, ∀ a, p a → q a (f a) := by
  classical
  refine ⟨fun a => if c : p a then (h a c).choose else Classical.choice inferInstance, fun a c => ?_⟩
  simp only [dif_pos c]
  exact (h a c).choose_spec
section
variable {m : Int} {t1 t2 : AV}
theorem orders_mid (S : Nat → Stp) (hS : ∀ i, (S i).s.length ≤ 9000000000000000000) (L : List AV) (hL : L.length = 15) (hA : ∀ i, i < 3 → (L.drop (i * 5)).take 5 = stA (S i)) (b B : Pos) (v : AV) (K : List Ent) (Z : Nat) (hZ : 4 ≤ Z) :
    ∀ (fuel r i : Nat) (env : T AV) (st : XS), sv env 1 = v → sv env 2 = .ptr B 0 0 → sv env 5 = int64 (i : Int) → xget st.X B 0 = some L → (∀ j, st.n ≤ j → (adv b j = B) = False) → i + r = 3 → r < fuel →
    ∃ env' st', xloop (xcode Tryz.prog [e_cmp, e_rcmp, e_cmpn, e_rcmpn, e_cmpb, e_rcmpb, e_one] K b (Z + 1) orders_1) fuel env st = some (.exit 0, env', st') ∧ sv env' 1 = v ∧ ∀ p g l, xget st.X p g = some l → (∀ j, (adv b j = p) = False) → xget st'.X p g = some l
  | 0, r, i, env, st, _, _, _, _, _, _, hf => by omega
  | fuel + 1, r, i, env, st, h1, h2, h5, hB, hN, hk, hf => by
    unfold xloop
    have key := orders_mid S hS L hL hA b B v K Z hZ fuel (r - 1) (i + 1)
    by_cases c3 : i = 3
    · subst c3
      simp [orders_1, h1, h2, h5]
      exact ⟨_, _, ⟨rfl, rfl⟩, by simp [sv_stv, h1], fun _ _ _ a _ => a⟩
    · have hi3 : i < 3 := by omega
      have inn := fun env a1 a2 a5 a6 => orders_in S hS L hL hA b B i hi3 v K Z (Z + 1) 3 0 env st a1 a2 a5 a6 hB hN (by omega) (by omega)
      haveI : Nonempty (T AV × XS) := ⟨(.e, ⟨0, []⟩)⟩
      obtain ⟨f, hf2⟩ := skolB (β := T AV × XS) (p := fun env => sv env 1 = v ∧ sv env 2 = .ptr B 0 0 ∧ sv env 5 = int64 (i : Int) ∧ sv env 6 = int64 0) (q := fun env z => xloop (xcode Tryz.prog [e_cmp, e_rcmp, e_cmpn, e_rcmpn, e_cmpb, e_rcmpb, e_one] K b (Z + 1) orders_0) (Z + 1) env st = some (.exit 2, z.1, z.2) ∧ sv z.1 1 = v ∧ sv z.1 2 = .ptr B 0 0 ∧ sv z.1 5 = int64 (i : Int) ∧ xget z.2.X B 0 = some L ∧ (∀ j, z.2.n ≤ j → (adv b j = B) = False) ∧ ∀ p g l, xget st.X p g = some l → (∀ j, (adv b j = p) = False) → xget z.2.X p g = some l) (fun env ⟨a1, a2, a5, a6⟩ => let ⟨e', s', q⟩ := inn env a1 a2 a5 a6; ⟨(e', s'), q⟩)
      have F := fun env a1 a2 a5 a6 => (hf2 env ⟨a1, a2, a5, a6⟩).1
      have G1 := fun env a1 a2 a5 a6 => (hf2 env ⟨a1, a2, a5, a6⟩).2.1
      have G2 := fun env a1 a2 a5 a6 => (hf2 env ⟨a1, a2, a5, a6⟩).2.2.1
      have G5 := fun env a1 a2 a5 a6 => (hf2 env ⟨a1, a2, a5, a6⟩).2.2.2.1
      have GB := fun env a1 a2 a5 a6 => (hf2 env ⟨a1, a2, a5, a6⟩).2.2.2.2.1
      have GN := fun env a1 a2 a5 a6 => (hf2 env ⟨a1, a2, a5, a6⟩).2.2.2.2.2.1
      have GP := fun env a1 a2 a5 a6 => (hf2 env ⟨a1, a2, a5, a6⟩).2.2.2.2.2.2
      clear hf2 inn
      generalize xloop (xcode Tryz.prog [e_cmp, e_rcmp, e_cmpn, e_rcmpn, e_cmpb, e_rcmpb, e_one] K b (Z + 1) orders_1) fuel = R at key ⊢
      have g1 : ((i : Int) < 3) = True := eq_true (by omega)
      have w : wrapA .i64 ((i : Int) + 1) = (i : Int) + 1 := w64 (by omega) (by omega)
      simp [orders_1, h1, h2, h5, g1, w, F, G1, G2, G5]
      refine Exists.elim (key _ _ ?_ ?_ ?_ ?_ ?_ (by omega) (by omega)) fun env' h => Exists.elim h fun st' h => ⟨env', st', h.1, h.2.1, fun p g l hl hp => h.2.2 p g l ?_ (fun j => by simpa using hp j)⟩
      · simp [sv_stv, h1, h2, h5, G1]
      · simp [sv_stv, h1, h2, h5, G2]
      · simp [sv_stv]
      · exact GB _ (by simp [sv_stv, h1]) (by simp [sv_stv, h2]) (by simp [sv_stv, h5]) (by simp [sv_stv])
      · exact GN _ (by simp [sv_stv, h1]) (by simp [sv_stv, h2]) (by simp [sv_stv, h5]) (by simp [sv_stv])
      · exact GP _ (by simp [sv_stv, h1]) (by simp [sv_stv, h2]) (by simp [sv_stv, h5]) (by simp [sv_stv]) p g l hl (fun j => by simpa using hp j)
end
end Go.Proofs.YtjhgembcdndmkaaGreatDoor.St

namespace Go.Proofs.YtjhgembcdndmkaaGreatDoor.St
open Go Go.Proofs.YtjhgembcdndmkaaGreatDoor.Am Go.Proofs Go.RowKit
theorem mN_anti (x y : Nm) : mN y x = - mN x y := cm_m.anti x y
theorem mN_tr {x y z : Nm} (h1 : mN x y < 0) (h2 : mN y z < 0) : mN x z < 0 := by
  have t := cm_m.tr x y z (by omega) (by omega)
  rcases Int.lt_or_eq_of_le t with c | c
  · exact c
  · have := cm_m.zero _ _ c
    subst this
    have := mN_anti x y
    omega
theorem asc_ext : ∀ {a b : List Nm}, a.Pairwise (fun x y => mN x y < 0) → b.Pairwise (fun x y => mN x y < 0) → (∀ x, x ∈ a ↔ x ∈ b) → a = b
  | [], [], _, _, _ => rfl
  | [], y :: b, _, _, h => absurd ((h y).2 (by simp)) (by simp)
  | x :: a, [], _, _, h => absurd ((h x).1 (by simp)) (by simp)
  | x :: a, y :: b, pa, pb, h => by
    rw [List.pairwise_cons] at pa pb
    have e : x = y := by
      rcases List.mem_cons.1 ((h x).1 (by simp)) with c | c
      · exact c
      · rcases List.mem_cons.1 ((h y).2 (by simp)) with c' | c'
        · exact c'.symm
        · have h1 := pb.1 x c
          have h2 := pa.1 y c'
          have := mN_anti x y
          omega
    subst e
    congr 1
    have ne : ∀ z, mN x z < 0 → z ≠ x := fun z c q => by rw [q, cm_m.refl] at c; omega
    exact asc_ext pa.2 pb.2 fun z => ⟨fun m => (List.mem_cons.1 ((h z).1 (List.mem_cons_of_mem _ m))).resolve_left (ne z (pa.1 z m)), fun m => (List.mem_cons.1 ((h z).2 (List.mem_cons_of_mem _ m))).resolve_left (ne z (pb.1 z m))⟩
theorem insN_cons1 {y x : Nm} {t : List Nm} (c : mN y x < 0) : insN (y :: t) x = y :: insN t x := by
  unfold insN
  rw [posN_cons1 c]
  simp only [List.getElem?_cons_succ, List.take_succ_cons, List.drop_succ_cons]
  split <;> rfl
theorem insN_cons0 {y x : Nm} {t : List Nm} (c : ¬ mN y x < 0) : insN (y :: t) x = if y = x then y :: t else x :: y :: t := by
  unfold insN
  rw [posN_cons0 c]
  simp
theorem insN_has : ∀ (out : List Nm) (x z : Nm), z ∈ insN out x ↔ z ∈ out ∨ z = x
  | [], x, z => by simp [insN]
  | y :: t, x, z => by
    by_cases c : mN y x < 0
    · rw [insN_cons1 c, List.mem_cons, insN_has t x z, List.mem_cons]
      exact or_assoc.symm
    · rw [insN_cons0 c]
      split
      · rename_i e; subst e; exact ⟨.inl, fun q => q.elim _root_.id fun q => by simp [q]⟩
      · simp only [List.mem_cons]
        constructor <;> intro h
        · rcases h with h | h | h <;> simp [h]
        · rcases h with (h | h) | h <;> simp [h]
theorem insN_asc : ∀ (out : List Nm) (x : Nm), out.Pairwise (fun x y => mN x y < 0) → (insN out x).Pairwise (fun x y => mN x y < 0)
  | [], x, _ => by simp [insN]
  | y :: t, x, h => by
    rw [List.pairwise_cons] at h
    by_cases c : mN y x < 0
    · rw [insN_cons1 c, List.pairwise_cons]
      refine ⟨fun z m => ?_, insN_asc t x h.2⟩
      rcases (insN_has t x z).1 m with m | m
      · exact h.1 z m
      · rw [m]; exact c
    · rw [insN_cons0 c]
      split
      · exact List.pairwise_cons.2 h
      · rename_i ne
        have a := mN_anti x y
        have z0 : mN x y ≠ 0 := fun q => ne (cm_m.zero _ _ q).symm
        have lt : mN x y < 0 := by have := mN_anti y x; omega
        refine List.pairwise_cons.2 ⟨fun z m => ?_, List.pairwise_cons.2 h⟩
        rcases List.mem_cons.1 m with m | m
        · rw [m]; exact lt
        · exact mN_tr lt (h.1 z m)
theorem rsN_asc (l : List Nm) : (rsN l).Pairwise (fun x y => mN x y < 0) := snoc_ind (p := fun l => (rsN l).Pairwise (fun x y => mN x y < 0)) .nil (fun l x ih => by rw [rsN_snoc]; exact insN_asc _ _ ih) l
theorem rsN_has (l : List Nm) (z : Nm) : z ∈ rsN l ↔ z ∈ l := snoc_ind (p := fun l => z ∈ rsN l ↔ z ∈ l) Iff.rfl (fun l x ih => by rw [rsN_snoc, insN_has, ih]; simp) l
theorem ddN_asc (l : List Nm) : l.Pairwise (fun x y => mN x y ≤ 0) → (ddN l).Pairwise (fun x y => mN x y < 0) ∧ ∀ z, z ∈ ddN l ↔ z ∈ l := by
  refine snoc_ind (p := fun l => l.Pairwise (fun x y => mN x y ≤ 0) → (ddN l).Pairwise (fun x y => mN x y < 0) ∧ ∀ z, z ∈ ddN l ↔ z ∈ l) (fun _ => ⟨.nil, fun _ => Iff.rfl⟩) (fun l x ih h => ?_) l
  rw [List.pairwise_append] at h
  obtain ⟨h1, _, h2⟩ := h
  obtain ⟨a, b⟩ := ih h1
  have hx : ∀ y ∈ ddN l, mN y x ≤ 0 := fun y m => h2 y ((b y).1 m) x (by simp)
  rw [ddN_snoc]
  unfold stN
  split
  · rename_i c
    have mx := List.mem_of_getLast? c
    exact ⟨a, fun z => by rw [b, List.mem_append, List.mem_singleton]; exact ⟨.inl, fun q => q.elim _root_.id fun q => by rw [q]; exact (b x).1 mx⟩⟩
  · rename_i c
    refine ⟨List.pairwise_append.2 ⟨a, List.pairwise_singleton _ _, fun y my z mz => ?_⟩, fun z => by rw [List.mem_append, List.mem_append, b]⟩
    rw [List.mem_singleton] at mz
    subst mz
    rcases Int.lt_or_eq_of_le (hx y my) with q | q
    · exact q
    · exfalso
      have e := cm_m.zero _ _ q
      subst e
      cases hl : (ddN l).getLast? with
      | none => rw [List.getLast?_eq_none_iff.1 hl] at my; cases my
      | some w =>
        obtain ⟨u, hu⟩ := List.getLast?_eq_some_iff.1 hl
        have mw : w ∈ ddN l := by rw [hu]; simp
        have h3 := hx w mw
        rw [hu] at my a
        rcases List.mem_append.1 my with k | k
        · have := (List.pairwise_append.1 a).2.2 y k w (by simp)
          have := mN_anti y w
          omega
        · rw [List.mem_singleton] at k
          rw [k] at c
          exact c hl
theorem sortedN_asc (d : List Nm) : (Go.Proofs.YtjhgembcdndmkaaGreatDoor.Am.sorted mN d).Pairwise (fun x y => mN x y ≤ 0) := by
  rw [List.pairwise_iff_getElem]
  intro i j hi hj hij
  have h := (sorted_perm mN swoN d).2 i j hij (by rw [← sortedN_len]; exact hj)
  rw [ltN] at h
  have h := of_decide_eq_false h
  rw [getElem!_pos _ j hj, getElem!_pos _ i hi] at h
  have := mN_anti (Go.Proofs.YtjhgembcdndmkaaGreatDoor.Am.sorted mN d)[i] (Go.Proofs.YtjhgembcdndmkaaGreatDoor.Am.sorted mN d)[j]
  omega
theorem dd_rs (d : List Nm) : ddN (Go.Proofs.YtjhgembcdndmkaaGreatDoor.Am.sorted mN d) = rsN d := by
  obtain ⟨a, b⟩ := ddN_asc _ (sortedN_asc d)
  refine asc_ext a (rsN_asc d) fun x => ?_
  rw [b, rsN_has]
  exact (sorted_perm mN swoN d).1.mem_iff
end Go.Proofs.YtjhgembcdndmkaaGreatDoor.St

namespace Go.Proofs.YtjhgembcdndmkaaGreatDoor.St
open Go Go.Proofs.YtjhgembcdndmkaaGreatDoor.Am Go.Proofs Go.RowKit
attribute [local simp] xr_mov xd_mov xr_pick xd_pick xr_bin xd_bin xr_build xd_build xr_fld xd_fld xr_partN xd_partN xr_lenS xr_lenL xd_lenL xr_load1 xd_load1 xr_loadN xd_loadN xr_new xd_new xr_box xr_buildSl xd_buildSl xr_idxAddrSl xd_idxAddrSl xd_idxAddrArr xd_idxStr xr_sliceSl xd_sliceSl orU_some orU_none lenSA_str lenSA_strOf lenLA_sl lenLA_nil xfn xcode xdrawn xr_nil xr_kg xr_cmp xcmp_some xr_call xr_store xr_append xd_append xap_sl xap_nl xapq_some xsrc_sl xsrc_nil xapp_nil xapp_grow xset xown xnx_some xnp_some xnq_some xd_nil xdl_old xda_some xd_call xd_store xd_kg xdn_some xld xal kindOf isAlloc allocs xins xrem xall xput xget xwhole xmine xcont xq xqs xres XS.add XR.out XR.outU XR.ups xsets XR.res Rs.seq Rs.inSc Rs.block mapO tupleA sv_args adv_eq tget eqs8 eqs7 eqi8 eqi7 eqg8 eqn8 eqn7 cells_strOf cells_int cells_agg cells_bool cells_str cells_sl cells_nil cells_ptr at_int at_str at_strOf at_bool at_sl at_nil at_ptr unstr_strOf fill_nil fill_cons replA ev_tm ev_vl sv_stv bin_add bin_sub bin_lss bin_gtr bin_eql bin_neq nth0 nth1 nth2 xst_idxAddrSl xst_idxStr xst_sliceStr xst_sliceSl xsl_sl xbd slN Nat.testBit
theorem orders_own (d : List Nm) (hd : d.length ≤ 300) (T1 T2 : List AV) (b p q : Pos) (g g' n1 c1 n2 c2 : Nat) (e1 e2 : Bool) (hn1 : d.length ≤ n1) (hn2 : n2 = d.length) (st : XS) (hq : xget st.X q g' = some (flN d ++ T1)) (hp : xget st.X p g = some (flN d ++ T2)) (K : List Ent) (Z : Nat) :
    ∀ (fuel r i : Nat) (env : T AV), sv env 1 = .sl p g 0 n2 c2 e2 3 → sv env 9 = .sl q g' 0 n1 c1 e1 3 → sv env 12 = int64 (i : Int) → i + r = d.length → r < fuel →
    ∃ env', xloop (xcode Tryz.prog [e_cmp, e_rcmp, e_cmpn, e_rcmpn, e_cmpb, e_rcmpb, e_one] K b (Z + 1) orders_2) fuel env st = some (.exit 4, env', st) ∧ sv env' 10 = sv env 10 ∧ sv env' 11 = sv env 11
  | 0, r, i, env, _, _, _, _, hf => by omega
  | fuel + 1, r, i, env, h1, h9, h12, hi, hf => by
    subst hn2
    unfold xloop
    have key := orders_own d hd T1 T2 b p q g g' n1 c1 d.length c2 e1 e2 hn1 rfl st hq hp K Z fuel (r - 1) (i + 1)
    generalize xloop (xcode Tryz.prog [e_cmp, e_rcmp, e_cmpn, e_rcmpn, e_cmpb, e_rcmpb, e_one] K b (Z + 1) orders_2) fuel = R at key ⊢
    have hfd := flN_len d
    by_cases c3 : i = d.length
    · subst c3
      simp [orders_2, h1, h9, h12]
    · have hi1 : i < d.length := by omega
      have L1 : ((flN d ++ T1).drop (i * 3)).take 3 = nmA d[i] := by rw [List.drop_append_of_le_length (by omega), List.take_append_of_le_length (by rw [List.length_drop]; omega)]; exact flN_at d hi1
      have L2 : ((flN d ++ T2).drop (i * 3)).take 3 = nmA d[i] := by rw [List.drop_append_of_le_length (by omega), List.take_append_of_le_length (by rw [List.length_drop]; omega)]; exact flN_at d hi1
      have b1 : (i * 3 + 3 ≤ 3 * d.length + T1.length) = True := eq_true (by omega)
      have b2 : (i * 3 + 3 ≤ 3 * d.length + T2.length) = True := eq_true (by omega)
      have g1 : i < n1 := by omega
      have w : wrapA .i64 ((i : Int) + 1) = ((i + 1 : Nat) : Int) := by rw [w64 (by omega) (by omega)]; rfl
      generalize d[i] = x at *
      simp [orders_2, h1, h9, h12, hi1, g1, hq, hp, L1, L2, b1, b2, hfd, w, nmNe, nm_eq8]
      refine Exists.elim (key _ ?_ ?_ ?_ (by omega) (by omega)) fun env' h => ⟨env', h.1, ?_, ?_⟩
      · simp [sv_stv, h1]
      · simp [sv_stv, h9]
      · simp [sv_stv]
      · rw [h.2.1]; simp [sv_stv]
      · rw [h.2.2]; simp [sv_stv]
theorem orders_told (d : List Nm) (hd : d.length ≤ 300) (T1 T2 : List AV) (b p q : Pos) (g g' n1 c1 n2 c2 : Nat) (e1 e2 : Bool) (hn1 : n1 = d.length) (hn2 : n2 = d.length) (st : XS) (hq : xget st.X q g' = some (flN d ++ T1)) (hp : xget st.X p g = some (flN d ++ T2)) (K : List Ent) (Z : Nat) :
    ∀ (fuel r i : Nat) (env : T AV), sv env 11 = .sl p g 0 n2 c2 e2 3 → sv env 10 = .sl q g' 0 n1 c1 e1 3 → sv env 13 = int64 (i : Int) → i + r = d.length → r < fuel →
    ∃ env', xloop (xcode Tryz.prog [e_cmp, e_rcmp, e_cmpn, e_rcmpn, e_cmpb, e_rcmpb, e_one] K b (Z + 1) orders_3) fuel env st = some (.exit 6, env', st)
  | 0, r, i, env, _, _, _, _, hf => by omega
  | fuel + 1, r, i, env, h1, h9, h12, hi, hf => by
    subst hn1 hn2
    unfold xloop
    have key := orders_told d hd T1 T2 b p q g g' d.length c1 d.length c2 e1 e2 rfl rfl st hq hp K Z fuel (r - 1) (i + 1)
    generalize xloop (xcode Tryz.prog [e_cmp, e_rcmp, e_cmpn, e_rcmpn, e_cmpb, e_rcmpb, e_one] K b (Z + 1) orders_3) fuel = R at key ⊢
    have hfd := flN_len d
    by_cases c3 : i = d.length
    · subst c3
      simp [orders_3, h1, h9, h12]
    · have hi1 : i < d.length := by omega
      have L1 : ((flN d ++ T1).drop (i * 3)).take 3 = nmA d[i] := by rw [List.drop_append_of_le_length (by omega), List.take_append_of_le_length (by rw [List.length_drop]; omega)]; exact flN_at d hi1
      have L2 : ((flN d ++ T2).drop (i * 3)).take 3 = nmA d[i] := by rw [List.drop_append_of_le_length (by omega), List.take_append_of_le_length (by rw [List.length_drop]; omega)]; exact flN_at d hi1
      have b1 : (i * 3 + 3 ≤ 3 * d.length + T1.length) = True := eq_true (by omega)
      have b2 : (i * 3 + 3 ≤ 3 * d.length + T2.length) = True := eq_true (by omega)
      have g1 : i < d.length := by omega
      have w : wrapA .i64 ((i : Int) + 1) = ((i + 1 : Nat) : Int) := by rw [w64 (by omega) (by omega)]; rfl
      generalize d[i] = x at *
      simp [orders_3, h1, h9, h12, hi1, g1, hq, hp, L1, L2, b1, b2, hfd, w, nmNe, nm_eq8]
      refine Exists.elim (key _ ?_ ?_ ?_ (by omega) (by omega)) fun env' h => ⟨env', h⟩
      · simp [sv_stv, h1]
      · simp [sv_stv, h9]
      · simp [sv_stv]
end Go.Proofs.YtjhgembcdndmkaaGreatDoor.St

namespace Go.Proofs.YtjhgembcdndmkaaGreatDoor.St
open Go Go.Proofs.YtjhgembcdndmkaaGreatDoor.Am Go.Proofs Go.RowKit
attribute [local simp] xr_mov xd_mov xr_pick xd_pick xr_bin xd_bin xr_build xd_build xr_fld xd_fld xr_partN xd_partN xr_lenS xr_lenL xd_lenL xr_load1 xd_load1 xr_loadN xd_loadN xr_new xd_new xr_box xr_buildSl xd_buildSl xr_idxAddrSl xd_idxAddrSl xd_idxAddrArr xd_idxStr xr_sliceSl xd_sliceSl orU_some orU_none lenSA_str lenSA_strOf lenLA_sl lenLA_nil xfn xcode xdrawn xr_nil xr_kg xr_cmp xcmp_some xr_call xr_store xr_append xd_append xap_sl xap_nl xapq_some xsrc_sl xsrc_nil xapp_nil xapp_grow xset xown xnx_some xnp_some xnq_some xd_nil xdl_old xda_some xd_call xd_store xd_kg xdn_some xld xal kindOf isAlloc allocs xins xrem xall xput xget xwhole xmine xcont xq xqs xres XS.add XR.out XR.outU XR.ups xsets XR.res Rs.seq Rs.inSc Rs.block mapO tupleA sv_args adv_eq tget eqs8 eqs7 eqi8 eqi7 eqg8 eqn8 eqn7 cells_strOf cells_int cells_agg cells_bool cells_str cells_sl cells_nil cells_ptr at_int at_str at_strOf at_bool at_sl at_nil at_ptr unstr_strOf fill_nil fill_cons replA ev_tm ev_vl sv_stv bin_add bin_sub bin_lss bin_gtr bin_eql bin_neq nth0 nth1 nth2 xst_idxAddrSl xst_idxStr xst_sliceStr xst_sliceSl xsl_sl xbd slN Nat.testBit
noncomputable def arrA (a b c : Stp) : List AV := stA a ++ (stA b ++ stA c)
noncomputable def e_orders : Ent := mkEnt 6 2 [.sl 1] (fun z_ : Stp × Stp × Stp × AV × (List Nm) => [.agg (arrA z_.1 z_.2.1 z_.2.2.1), z_.2.2.2.1]) (fun z_ => [flN z_.2.2.2.2]) (fun z_ => (z_.1.s.length ≤ 9000000000000000000 ∧ z_.2.1.s.length ≤ 9000000000000000000 ∧ z_.2.2.1.s.length ≤ 9000000000000000000) ∧ ArgN z_.2.2.2.1 z_.2.2.2.2 ∧ ∀ y ∈ z_.2.2.2.2, y.2.1.length ≤ 9000000000000000000) (fun _ => .plain (.bool true))
theorem orders_own0 (b : Pos) (v : AV) (hl : lenLA v = some (int64 0)) (K : List Ent) (Z fuel : Nat) (env : T AV) (st : XS) (h1 : sv env 1 = v) (h12 : sv env 12 = int64 0) :
    ∃ env', xloop (xcode Tryz.prog [e_cmp, e_rcmp, e_cmpn, e_rcmpn, e_cmpb, e_rcmpb, e_one] K b (Z + 1) orders_2) (fuel + 1) env st = some (.exit 4, env', st) ∧ sv env' 10 = sv env 10 ∧ sv env' 11 = sv env 11 := by
  unfold xloop
  simp [orders_2, h1, h12, hl]
theorem orders_told0 (b q : Pos) (K : List Ent) (Z fuel : Nat) (env : T AV) (st : XS) (h1 : sv env 10 = .sl q 0 0 0 0 true 3) (h12 : sv env 13 = int64 0) :
    ∃ env', xloop (xcode Tryz.prog [e_cmp, e_rcmp, e_cmpn, e_rcmpn, e_cmpb, e_rcmpb, e_one] K b (Z + 1) orders_3) (fuel + 1) env st = some (.exit 6, env', st) := by
  unfold xloop
  simp [orders_3, h1, h12]
theorem nms_open1 {h : Hp} {x : AV} {p : Pos} {g c : Nat} {ex : Bool} {d : List Nm} (hc : Conts h [x, .sl p g 0 d.length c ex 3] [.sl 1] [flN d]) : ∃ T, XB.Holds h ⟨p, g, false, flN d ++ T⟩ := by
  obtain ⟨k1, k2, e, ⟨v, e1, hq⟩, hr⟩ := hc
  cases e
  cases e1
  generalize hl : flN d = l at hq
  cases hq with
  | mk k hn =>
    rename_i L
    refine ⟨L.drop (d.length * 3), ?_⟩
    rw [List.drop_zero, List.take_append_drop]
    exact k
section
variable {m : Int} {t1 t2 : AV}
noncomputable def oU : List Ent := [e_cmp, e_rcmp, e_cmpn, e_rcmpn, e_cmpb, e_rcmpb, e_one]
theorem orders_ok : EntOK Tryz.prog (HasG m t1 t2) e_orders := mkEnt_ok ok_orders fun z h gg hz hc => by
  obtain ⟨a, b, c, v, d⟩ := z
  obtain ⟨⟨ha, hb, hc'⟩, hv, hs⟩ := hz
  dsimp only at ha hb hc' hv hs hc ⊢
  have hlv : lenLA v = some (int64 (d.length : Int)) := by
    rcases hv with ⟨rfl, rfl⟩ | ⟨p, g, c', e, rfl⟩ <;> rfl
  by_cases h300 : 300 < d.length
  · have c1 : ((300 : Int) < (d.length : Int)) = True := eq_true (by omega)
    refine plain_of (U := oU) (K := [e_known]) (fun _ o => gg.more o) (by simp [oU, cmp_ok, rcmp_ok, cmpn_ok, rcmpn_ok, cmpb_ok, rcmpb_ok, one_ok]) (by simp [known_ok.entK]) 0 orders_code (by simp [orders_fu]) rfl ?_
    simp [orders_fu, hlv, c1, x_known, f_known]
  · have c1 : ((300 : Int) < (d.length : Int)) = False := eq_false (by omega)
    have hd3 : d.length ≤ 300 := by omega
    let S : Nat → Stp := fun i => if i = 0 then a else if i = 1 then b else c
    have hS : ∀ i, (S i).s.length ≤ 9000000000000000000 := fun i => by
      show (if i = 0 then a else if i = 1 then b else c).s.length ≤ _
      split
      · exact ha
      · split
        · exact hb
        · exact hc'
    have hA : ∀ i, i < 3 → ((arrA a b c).drop (i * 5)).take 5 = stA (S i) := fun i hi => by
      match i, hi with
      | 0, _ => rfl
      | 1, _ => rfl
      | 2, _ => rfl
    by_cases c0 : d = []
    · subst c0
      rcases hv with ⟨rfl, _⟩ | ⟨p, g, cp, e, rfl⟩
      · haveI : Nonempty (T AV × XS) := ⟨(.e, ⟨0, []⟩)⟩
        have mid := fun env a1 a2 a5 => orders_mid S hS (arrA a b c) rfl hA h.next (adv h.next 0) .nilSl [e_known, e_one, e_sorted, e_rsorted] 300 (by omega) 301 3 0 env ⟨1, [⟨adv h.next 0, 0, true, arrA a b c⟩]⟩ a1 a2 a5 (by simp [xget]) (fun j hj => by
          have : 1 ≤ j := hj
          simp only [adv_eq, eq_iff_iff, iff_false]; omega) rfl (by omega)
        obtain ⟨f, hf2⟩ := skolB (β := T AV × XS) (p := fun env => sv env 1 = .nilSl ∧ sv env 2 = .ptr (adv h.next 0) 0 0 ∧ sv env 5 = int64 0) (q := fun env z => xloop (xcode Tryz.prog oU [e_known, e_one, e_sorted, e_rsorted] h.next (300 + 1) orders_1) 301 env ⟨1, [⟨adv h.next 0, 0, true, arrA a b c⟩]⟩ = some (.exit 0, z.1, z.2) ∧ sv z.1 1 = .nilSl) (fun env ⟨a1, a2, a5⟩ => let ⟨e', s', q1, q2, q3⟩ := mid env a1 a2 a5; ⟨(e', s'), q1, q2⟩)
        have F := fun env a1 a2 a5 => (hf2 env ⟨a1, a2, a5⟩).1
        have F1 := fun env a1 a2 a5 => (hf2 env ⟨a1, a2, a5⟩).2
        clear hf2 mid
        unfold oU at F
        obtain ⟨f2, hg2⟩ := skolB (β := T AV) (p := fun (z : T AV × XS) => sv z.1 1 = .nilSl ∧ sv z.1 12 = int64 0) (fun z ⟨y1, y12⟩ => orders_own0 h.next .nilSl rfl [e_known, e_one, e_sorted, e_rsorted] 300 300 z.1 z.2 y1 y12)
        have W := fun env st y1 y12 => (hg2 (env, st) ⟨y1, y12⟩).1
        have W10 := fun env st y1 y12 => (hg2 (env, st) ⟨y1, y12⟩).2.1
        obtain ⟨f3, hg3⟩ := skolB (β := T AV) (p := fun (z : T AV × XS) => sv z.1 10 = .sl (adv h.next (z.2.n - 1)) 0 0 0 0 true 3 ∧ sv z.1 13 = int64 0) (fun z ⟨y1, y12⟩ => orders_told0 h.next (adv h.next (z.2.n - 1)) [e_known, e_one, e_sorted, e_rsorted] 300 300 z.1 z.2 y1 y12)
        have V := fun env st y1 y12 => hg3 (env, st) ⟨y1, y12⟩
        have SC := fun {U b st} (hU : tget U 39 = some e_sorted) p g c ex hq => x_sorted (U := U) (b := b) (st := st) hU p g c ex [] (Nat.zero_le _) hq rfl
        have RC := fun {U b st} (hU : tget U 40 = some e_rsorted) hq => x_rsorted (U := U) (b := b) (st := st) hU .nilSl [] ⟨.inl ⟨rfl, rfl⟩, Nat.zero_le _, fun _ q => by cases q⟩ hq rfl
        have en : endN (Go.Proofs.YtjhgembcdndmkaaGreatDoor.Am.sorted mN ([] : List Nm)) = [] := by rw [sortedN_nil]; rfl
        have dn : (ddN (Go.Proofs.YtjhgembcdndmkaaGreatDoor.Am.sorted mN ([] : List Nm))).length = 0 := by rw [sortedN_nil]; rfl
        have rn : rR (rsN ([] : List Nm)) = [] := rfl
        have rv : ∀ b, rV b (rsN ([] : List Nm)) = .nilSl := fun _ => rfl
        simp only [List.length_nil, flN_nil, en, dn, rn, rv] at SC RC
        have a0 : ∀ (b : Pos) (s : XS), xapp b s 3 32 .nilSl 0 [] = some (.nilSl, s) := fun b s => xap0 s
        have a1 : ∀ (b : Pos) (s : XS), xapp b s 3 32 .nilSl 1 [int64 1, strOf [109, 97, 105, 110], int64 3] = some (.sl (adv b s.n) 0 0 1 1 false 3, s.add b [int64 1, strOf [109, 97, 105, 110], int64 3]) := fun b s => xap1 s (1, [109, 97, 105, 110], 3)
        have eo : ∀ no, binA .neq (.flat [.int, .str, .int]) no (.agg [int64 1, strOf [109, 97, 105, 110], int64 3]) (.agg [int64 1, strOf [109, 97, 105, 110], int64 3]) = some (.bool false) := fun no => (nmNe no (1, [109, 97, 105, 110], 3) (1, [109, 97, 105, 110], 3)).trans (by simp)
        refine plain_of (U := oU) (K := [e_known, e_one, e_sorted, e_rsorted]) (fun _ o => gg.more o) (by simp [oU, cmp_ok, rcmp_ok, cmpn_ok, rcmpn_ok, cmpb_ok, rcmpb_ok, one_ok]) (by simp [known_ok.entK, one_ok.entK, sorted_ok.entK, rsorted_ok.entK]) 301 orders_code (by simp [orders_fu]) rfl ?_
        have hlv' : lenLA .nilSl = some (int64 0) := rfl
        unfold oU
        simp [W, W10, V, eo, orders_fu, hlv', F, F1, a0, a1, x_known, f_known, x_one, f_one, f_cmp, f_rcmp, f_cmpn, f_rcmpn, f_cmpb, f_rcmpb, SC, RC, f_sorted, f_rsorted, xsrc_sl, atP, XS.adds]
        done
      · obtain ⟨Ts, hT⟩ := nms_open1 (d := []) hc
        rw [flN_nil, List.nil_append] at hT
        have hne : ∀ i, (adv h.next i = p) = False := fun i => eq_false fun q => by have := hT.old; dsimp only at this; rw [← q, adv_num] at this; omega
        haveI : Nonempty (T AV × XS) := ⟨(.e, ⟨0, []⟩)⟩
        have mid := fun env a1 a2 a5 => orders_mid S hS (arrA a b c) rfl hA h.next (adv h.next 0) (.sl p g 0 0 cp e 3) [e_known, e_one, e_sorted, e_rsorted] 300 (by omega) 301 3 0 env ⟨1, [⟨adv h.next 0, 0, true, arrA a b c⟩, ⟨p, g, false, Ts⟩]⟩ a1 a2 a5 (by simp [xget]) (fun j hj => by
          have : 1 ≤ j := hj
          simp only [adv_eq, eq_iff_iff, iff_false]; omega) rfl (by omega)
        obtain ⟨f, hf2⟩ := skolB (β := T AV × XS) (p := fun env => sv env 1 = (.sl p g 0 0 cp e 3) ∧ sv env 2 = .ptr (adv h.next 0) 0 0 ∧ sv env 5 = int64 0) (q := fun env z => xloop (xcode Tryz.prog oU [e_known, e_one, e_sorted, e_rsorted] h.next (300 + 1) orders_1) 301 env ⟨1, [⟨adv h.next 0, 0, true, arrA a b c⟩, ⟨p, g, false, Ts⟩]⟩ = some (.exit 0, z.1, z.2) ∧ sv z.1 1 = (.sl p g 0 0 cp e 3) ∧ xget z.2.X p g = some Ts) (fun env ⟨a1, a2, a5⟩ => let ⟨e', s', q1, q2, q3⟩ := mid env a1 a2 a5; ⟨(e', s'), q1, q2, q3 p g _ (by simp [xget, hne]) hne⟩)
        have F := fun env a1 a2 a5 => (hf2 env ⟨a1, a2, a5⟩).1
        have F1 := fun env a1 a2 a5 => (hf2 env ⟨a1, a2, a5⟩).2.1
        have FX := fun env a1 a2 a5 => (hf2 env ⟨a1, a2, a5⟩).2.2
        clear hf2 mid
        unfold oU at F
        obtain ⟨f2, hg2⟩ := skolB (β := T AV) (p := fun (z : T AV × XS) => sv z.1 1 = (.sl p g 0 0 cp e 3) ∧ sv z.1 12 = int64 0) (fun z ⟨y1, y12⟩ => orders_own0 h.next (.sl p g 0 0 cp e 3) rfl [e_known, e_one, e_sorted, e_rsorted] 300 300 z.1 z.2 y1 y12)
        have W := fun env st y1 y12 => (hg2 (env, st) ⟨y1, y12⟩).1
        have W10 := fun env st y1 y12 => (hg2 (env, st) ⟨y1, y12⟩).2.1
        obtain ⟨f3, hg3⟩ := skolB (β := T AV) (p := fun (z : T AV × XS) => sv z.1 10 = .sl (adv h.next (z.2.n - 1)) 0 0 0 0 true 3 ∧ sv z.1 13 = int64 0) (fun z ⟨y1, y12⟩ => orders_told0 h.next (adv h.next (z.2.n - 1)) [e_known, e_one, e_sorted, e_rsorted] 300 300 z.1 z.2 y1 y12)
        have V := fun env st y1 y12 => hg3 (env, st) ⟨y1, y12⟩
        have SC := fun {U b st} (hU : tget U 39 = some e_sorted) p g c ex hq => x_sorted (U := U) (b := b) (st := st) hU p g c ex [] (Nat.zero_le _) hq rfl
        have RC := fun {U b st} (hU : tget U 40 = some e_rsorted) hq => x_rsorted (U := U) (b := b) (st := st) hU (.sl p g 0 0 cp e 3) [] ⟨.inr ⟨p, g, cp, e, rfl⟩, Nat.zero_le _, fun _ q => by cases q⟩ hq rfl
        have en : endN (Go.Proofs.YtjhgembcdndmkaaGreatDoor.Am.sorted mN ([] : List Nm)) = [] := by rw [sortedN_nil]; rfl
        have dn : (ddN (Go.Proofs.YtjhgembcdndmkaaGreatDoor.Am.sorted mN ([] : List Nm))).length = 0 := by rw [sortedN_nil]; rfl
        have rn : rR (rsN ([] : List Nm)) = [] := rfl
        have rv : ∀ b, rV b (rsN ([] : List Nm)) = .nilSl := fun _ => rfl
        simp only [List.length_nil, flN_nil, en, dn, rn, rv] at SC RC
        have a0 : ∀ (b : Pos) (s : XS), xapp b s 3 32 .nilSl 0 [] = some (.nilSl, s) := fun b s => xap0 s
        have a1 : ∀ (b : Pos) (s : XS), xapp b s 3 32 .nilSl 1 [int64 1, strOf [109, 97, 105, 110], int64 3] = some (.sl (adv b s.n) 0 0 1 1 false 3, s.add b [int64 1, strOf [109, 97, 105, 110], int64 3]) := fun b s => xap1 s (1, [109, 97, 105, 110], 3)
        have eo : ∀ no, binA .neq (.flat [.int, .str, .int]) no (.agg [int64 1, strOf [109, 97, 105, 110], int64 3]) (.agg [int64 1, strOf [109, 97, 105, 110], int64 3]) = some (.bool false) := fun no => (nmNe no (1, [109, 97, 105, 110], 3) (1, [109, 97, 105, 110], 3)).trans (by simp)
        refine plain_ofX (U := oU) (K := [e_known, e_one, e_sorted, e_rsorted]) (X := [⟨p, g, false, Ts⟩]) (fun _ o => gg.more o) (by simp [oU, cmp_ok, rcmp_ok, cmpn_ok, rcmpn_ok, cmpb_ok, rcmpb_ok, one_ok]) (by simp [known_ok.entK, one_ok.entK, sorted_ok.entK, rsorted_ok.entK]) 301 (.start1 hT rfl) orders_code (by simp [orders_fu]) rfl ?_
        have hlv' : lenLA (.sl p g 0 0 cp e 3) = some (int64 0) := rfl
        unfold oU
        simp [W, W10, V, eo, orders_fu, hlv', F, F1, FX, hne, a0, a1, x_known, f_known, x_one, f_one, f_cmp, f_rcmp, f_cmpn, f_rcmpn, f_cmpb, f_rcmpb, SC, RC, f_sorted, f_rsorted, xsrc_sl, atP, XS.adds]
        done
    · rcases hv with ⟨_, q⟩ | ⟨p, g, cp, e, rfl⟩
      · exact absurd q c0
      have hpos : 0 < d.length := List.length_pos_iff.2 c0
      obtain ⟨Ts, hT⟩ := nms_open1 hc
      have hne : ∀ i, (adv h.next i = p) = False := fun i => eq_false fun q => by have := hT.old; dsimp only at this; rw [← q, adv_num] at this; omega
      haveI : Nonempty (T AV × XS) := ⟨(.e, ⟨0, []⟩)⟩
      have mid := fun env a1 a2 a5 => orders_mid S hS (arrA a b c) rfl hA h.next (adv h.next 0) (.sl p g 0 d.length cp e 3) [e_known, e_one, e_sorted, e_rsorted] 300 (by omega) 301 3 0 env ⟨1, [⟨adv h.next 0, 0, true, arrA a b c⟩, ⟨p, g, false, flN d ++ Ts⟩]⟩ a1 a2 a5 (by simp [xget]) (fun j hj => by
        have : 1 ≤ j := hj
        simp only [adv_eq, eq_iff_iff, iff_false]; omega) rfl (by omega)
      obtain ⟨f, hf2⟩ := skolB (β := T AV × XS) (p := fun env => sv env 1 = .sl p g 0 d.length cp e 3 ∧ sv env 2 = .ptr (adv h.next 0) 0 0 ∧ sv env 5 = int64 0) (q := fun env z => xloop (xcode Tryz.prog oU [e_known, e_one, e_sorted, e_rsorted] h.next (300 + 1) orders_1) 301 env ⟨1, [⟨adv h.next 0, 0, true, arrA a b c⟩, ⟨p, g, false, flN d ++ Ts⟩]⟩ = some (.exit 0, z.1, z.2) ∧ sv z.1 1 = .sl p g 0 d.length cp e 3 ∧ xget z.2.X p g = some (flN d ++ Ts)) (fun env ⟨a1, a2, a5⟩ => let ⟨e', s', q1, q2, q3⟩ := mid env a1 a2 a5; ⟨(e', s'), q1, q2, q3 p g _ (by simp [xget, hne]) hne⟩)
      have F := fun env a1 a2 a5 => (hf2 env ⟨a1, a2, a5⟩).1
      have F1 := fun env a1 a2 a5 => (hf2 env ⟨a1, a2, a5⟩).2.1
      have FX := fun env a1 a2 a5 => (hf2 env ⟨a1, a2, a5⟩).2.2
      clear hf2 mid
      unfold oU at F
      refine plain_ofX (U := oU) (K := [e_known, e_one, e_sorted, e_rsorted]) (X := [⟨p, g, false, flN d ++ Ts⟩]) (fun _ o => gg.more o) (by simp [oU, cmp_ok, rcmp_ok, cmpn_ok, rcmpn_ok, cmpb_ok, rcmpb_ok, one_ok]) (by simp [known_ok.entK, one_ok.entK, sorted_ok.entK, rsorted_ok.entK]) 301 (.start1 hT rfl) orders_code (by simp [orders_fu]) rfl ?_
      have h3 := flN_len d
      have l1 : (d.length * 3 ≤ 3 * d.length + Ts.length) = True := eq_true (by omega)
      have tk : (flN d ++ Ts).take (d.length * 3) = flN d := by rw [List.take_append_of_le_length (by omega)]; exact List.take_of_length_le (by omega)
      have a1 := fun (b : Pos) (s : XS) => xapN (b := b) s d d.length (by omega) hd3
      have a2 : ∀ (b : Pos) (s : XS) (id : Pos) (g k : Nat), k + 1 ≤ 1073741824 → xapp b s 3 32 (.sl id g 0 k k false 3) 1 [int64 1, strOf [109, 97, 105, 110], int64 3] = (xown s.X id g).bind fun c => if c.length = k * 3 then some (.sl id (g + 1) 0 (k + 1) (k + 1) false 3, ⟨s.n, xset s.X id (g + 1) (c ++ [int64 1, strOf [109, 97, 105, 110], int64 3])⟩) else none := fun b s id g k hk => xapG1 s id g k (1, [109, 97, 105, 110], 3) hk
      have SC := fun {U b st} (hU : tget U 39 = some e_sorted) p g c ex hq => x_sorted (U := U) (b := b) (st := st) hU p g c ex d hd3 hq rfl
      have RC := fun {U b st} (hU : tget U 40 = some e_rsorted) hq => x_rsorted (U := U) (b := b) (st := st) hU (.sl p g 0 d.length cp e 3) d ⟨.inr ⟨p, g, cp, e, rfl⟩, hd3, hs⟩ hq rfl
      have l2 : (d.length * 3 ≤ 3 * d.length + 3) = True := eq_true (by omega)
      have tk2 : ∀ l : List AV, (flN d ++ l).take (d.length * 3) = flN d := fun l => by rw [List.take_append_of_le_length (by omega)]; exact List.take_of_length_le (by omega)
      have k1 : d.length + 1 ≤ 1073741824 := by omega
      have m3 : (3 * d.length = d.length * 3) = True := eq_true (by omega)
      have hrne : rsN d ≠ [] := fun q => by
        obtain ⟨y, hy⟩ := List.exists_mem_of_length_pos hpos
        have := (rsN_has d y).2 hy
        rw [q] at this; cases this
      have rv : ∀ b, rV b (rsN d) = .sl b 0 0 (rsN d).length (rsN d).length false 3 := fun b => if_neg hrne
      have rr : rR (rsN d) = [flN (rsN d)] := if_neg hrne
      have en : endN (Go.Proofs.YtjhgembcdndmkaaGreatDoor.Am.sorted mN d) = flN (rsN d) ++ (List.replicate (d.length - (rsN d).length) zN).flatten := by unfold endN; rw [dd_rs, sortedN_len]
      have dp : ∀ l : List AV, (flN d ++ l).drop (d.length * 3) = l := fun l => by rw [List.drop_append_of_le_length (by omega), List.drop_eq_nil_of_le (by omega), List.nil_append]
      have l4 : (d.length * 3 + 3 ≤ 3 * d.length + 3) = True := eq_true (by omega)
      have l5 : ((d.length : Int) < (d.length : Int) + 1) = True := eq_true (by omega)
      have u2 : ∀ n : Nat, (n + 1 + 1 = n) = False := fun n => eq_false (by omega)
      have u3 : ∀ n : Nat, (n + 1 + 1 + 1 = n) = False := fun n => eq_false (by omega)
      have eo : ∀ no, binA .neq (.flat [.int, .str, .int]) no (.agg [int64 1, strOf [109, 97, 105, 110], int64 3]) (.agg [int64 1, strOf [109, 97, 105, 110], int64 3]) = some (.bool false) := fun no => (nmNe no (1, [109, 97, 105, 110], 3) (1, [109, 97, 105, 110], 3)).trans (by simp)
      obtain ⟨f2, hg2⟩ := skolB (β := T AV) (p := fun (z : T AV × XS) => sv z.1 1 = .sl p g 0 d.length cp e 3 ∧ sv z.1 9 = .sl (adv h.next (z.2.n - 4)) 1 0 (d.length + 1) (d.length + 1) false 3 ∧ sv z.1 12 = int64 0 ∧ xget z.2.X (adv h.next (z.2.n - 4)) 1 = some (flN d ++ [int64 1, strOf [109, 97, 105, 110], int64 3]) ∧ xget z.2.X p g = some (flN d ++ Ts)) (fun z ⟨y1, y9, y12, yq, yp⟩ => orders_own d hd3 _ Ts h.next p (adv h.next (z.2.n - 4)) g 1 (d.length + 1) (d.length + 1) d.length cp false e (by omega) rfl z.2 yq yp [e_known, e_one, e_sorted, e_rsorted] 300 301 d.length 0 z.1 y1 y9 y12 (by omega) (by omega))
      have W := fun env st y1 y9 y12 yq yp => (hg2 (env, st) ⟨y1, y9, y12, yq, yp⟩).1
      have W10 := fun env st y1 y9 y12 yq yp => (hg2 (env, st) ⟨y1, y9, y12, yq, yp⟩).2.1
      have W11 := fun env st y1 y9 y12 yq yp => (hg2 (env, st) ⟨y1, y9, y12, yq, yp⟩).2.2
      have hrl : (rsN d).length ≤ 300 := Nat.le_trans (rsN_len d) hd3
      obtain ⟨f3, hg3⟩ := skolB (β := T AV) (p := fun (z : T AV × XS) => sv z.1 11 = .sl (adv h.next (z.2.n - 1)) 0 0 (rsN d).length (rsN d).length false 3 ∧ sv z.1 10 = .sl (adv h.next (z.2.n - 2)) 0 0 (rsN d).length d.length false 3 ∧ sv z.1 13 = int64 0 ∧ xget z.2.X (adv h.next (z.2.n - 2)) 0 = some (flN (rsN d) ++ (List.replicate (d.length - (rsN d).length) zN).flatten) ∧ xget z.2.X (adv h.next (z.2.n - 1)) 0 = some (flN (rsN d) ++ [])) (fun z ⟨y1, y9, y12, yq, yp⟩ => orders_told (rsN d) hrl _ [] h.next (adv h.next (z.2.n - 1)) (adv h.next (z.2.n - 2)) 0 0 (rsN d).length d.length (rsN d).length (rsN d).length false false rfl rfl z.2 yq yp [e_known, e_one, e_sorted, e_rsorted] 300 301 (rsN d).length 0 z.1 y1 y9 y12 (by omega) (by omega))
      have V := fun env st y1 y9 y12 yq yp => hg3 (env, st) ⟨y1, y9, y12, yq, yp⟩
      unfold oU
      simp [W, W10, W11, V, c0, dd_rs, rv, rr, en, dp, l4, l5, u2, u3, eo, orders_fu, hlv, c1, F, F1, FX, h3, l1, l2, tk2, a1, a2, hne, k1, m3, x_known, f_known, x_one, f_one, f_cmp, f_rcmp, f_cmpn, f_rcmpn, f_cmpb, f_rcmpb, SC, RC, f_sorted, f_rsorted, xsrc_sl, atP, XS.adds]
      done
end
end Go.Proofs.YtjhgembcdndmkaaGreatDoor.St

namespace Go.Proofs.YtjhgembcdndmkaaGreatDoor.St
open Go Go.Proofs.YtjhgembcdndmkaaGreatDoor.Am Go.Proofs Go.RowKit
theorem laid_mem {P : Program} {w : World} : ∀ {laid : List (String × DataW Unit)} {ps : List MemPlace}, DataW.LaidVars P w laid ps → ∀ x ∈ laid, ∃ g t cs fuel p, P.globalNamed x.1 = some g ∧ (P.globals[g]?).map (·.type) = some t ∧ w.var? P x.1 = some cs ∧
    DataW.trod (fun _ => ()) P w 0 (fun _ => true) false fuel t cs.toList = some (x.2, p)
  | [], _, _, x, m => by cases m
  | (n, d) :: r, ps, h, x, m => by
    obtain ⟨g, t, cs, fuel, p, q, h1, h2, h3, h4, h5, _⟩ := h
    rcases List.mem_cons.1 m with rfl | m
    · exact ⟨g, t, cs, fuel, p, h1, h2, h3, h4⟩
    · exact laid_mem h5 x m
theorem var_cells {P : Program} {w : World} {n : String} {g : Nat} {cs : Array Value} (hg : P.globalNamed n = some g) (hv : w.var? P n = some cs) : ∃ el fr, w.heap[g]? = some (.cells cs el fr) := by
  unfold World.var? at hv
  rw [hg, Option.bind_some] at hv
  split at hv
  · rename_i C el fr h
    cases hv
    exact ⟨el, fr, h⟩
  · cases hv
theorem nil_lit {P : Program} {w : World} {fuel : Nat} {t : TypeId} {x : Lit} {p : List MemPlace} (h : DataW.trod (fun _ => ()) P w 0 (fun _ => true) false fuel t [] = some (.lit x, p)) : False := by
  cases fuel with
  | zero => cases h
  | succ fuel =>
    unfold DataW.trod at h
    split at h <;> first | contradiction | skip
    all_goals (split at h <;> first | (cases h; done) | (obtain ⟨_, _, q⟩ := Option.map_eq_some_iff.1 h; cases q; done))
theorem some_cells {P : Program} {w : World} {fuel : Nat} {t : TypeId} {c : List Value} {x : Lit} {p : List MemPlace} (h : DataW.trod (fun _ => ()) P w 0 (fun _ => true) false fuel t c = some (.agg [.lit x], p)) : c ≠ [] := by
  rintro rfl
  cases fuel with
  | zero => cases h
  | succ fuel =>
    unfold DataW.trod at h
    split at h <;> first | contradiction | skip
    · split at h
      · obtain ⟨xs, q, e⟩ := Option.map_eq_some_iff.1 h
        simp only [Prod.mk.injEq, DataW.agg.injEq] at e
        cases xs with
        | nil => cases e.1
        | cons y ys =>
          rename_i fs _ _
          have hl := mapM_some_length q
          have : 0 < fs.toList.length := by rw [← hl]; simp
          have q0 := mapM_some_get q 0 fs.toList[0] (by rw [List.getElem?_eq_getElem this])
          obtain ⟨e1, _⟩ := e
          simp only [List.map_cons, List.cons.injEq] at e1
          obtain ⟨y1, y2⟩ := y
          obtain ⟨rfl, _⟩ := e1
          simp only [List.drop_nil, List.take_nil, List.getElem?_cons_zero] at q0
          exact nil_lit q0
      · cases h
    · split at h
      · obtain ⟨xs, q, e⟩ := Option.map_eq_some_iff.1 h
        simp only [Prod.mk.injEq, DataW.agg.injEq] at e
        cases xs with
        | nil => cases e.1
        | cons y ys =>
          rename_i n _ _ _
          have hl := mapM_some_length q
          have : 0 < (List.range n).length := by rw [← hl]; simp
          have q0 := mapM_some_get q 0 (List.range n)[0] (by rw [List.getElem?_eq_getElem this])
          obtain ⟨e1, _⟩ := e
          simp only [List.map_cons, List.cons.injEq] at e1
          obtain ⟨y1, y2⟩ := y
          obtain ⟨rfl, _⟩ := e1
          simp only [List.drop_nil, List.take_nil, List.getElem?_cons_zero] at q0
          exact nil_lit q0
      · cases h
theorem ptr_told {P : Program} {w : World} {fuel : Nat} {t : TypeId} {c : List Value} {x : Lit} {p : List MemPlace} (h : DataW.trod (fun _ => ()) P w 0 (fun _ => true) false fuel t c = some (.ptr (.agg [.lit x]), p)) : ∃ a, c = [.pointer (some a)] ∧ a.spot = none ∧ a.block < w.heap.size := by
  cases fuel with
  | zero => cases h
  | succ fuel =>
    unfold DataW.trod at h
    split at h <;> first | (cases h; done) | skip
    case h_6 =>
      rename_i e a _
      obtain ⟨y, q, e1⟩ := Option.map_eq_some_iff.1 h
      obtain ⟨l, q1, q2⟩ := Option.bind_eq_some_iff.1 q
      obtain ⟨y1, y2⟩ := y
      cases e1
      have hne := some_cells q2
      unfold World.cells? at q1
      split at q1
      · have hl := mapM_some_length q1
        have hpos : 0 < (List.range (P.cellsOf e)).length := by rw [← hl]; exact List.length_pos_iff.2 hne
        have q0 := mapM_some_get q1 0 (List.range (P.cellsOf e))[0] (by rw [List.getElem?_eq_getElem hpos])
        have hl0 : 0 < l.length := List.length_pos_iff.2 hne
        rw [List.getElem?_eq_getElem hl0] at q0
        refine ⟨a, rfl, ?_⟩
        have ha : a.add (List.range (P.cellsOf e))[0] = a := by rw [List.getElem_range]; rfl
        rw [ha] at q0
        unfold World.cell? at q0
        split at q0
        · rename_i hc
          have hb := (Array.getElem?_eq_some_iff.1 hc).1
          split at q0
          · cases q0
          · rename_i hs
            refine ⟨?_, hb⟩
            cases hz : a.spot with
            | none => rfl
            | some _ => rw [hz] at hs; exact absurd rfl hs
        · cases q0
      · cases q1
    all_goals (try (split at h))
    all_goals (first | (cases h; done) | (obtain ⟨_, _, q⟩ := Option.map_eq_some_iff.1 h; cases q; done) | (obtain ⟨_, _, q⟩ := Option.bind_eq_some_iff.1 h; obtain ⟨_, _, q⟩ := Option.map_eq_some_iff.1 q; cases q; done) | (split at h; (obtain ⟨_, _, q⟩ := Option.bind_eq_some_iff.1 h; dsimp only at q; split at q <;> cases q); cases h; done) | skip)
theorem iface_told {P : Program} {w : World} {n : String} {g : Nat} {cs : Array Value} {t : TypeId} {fuel : Nat} {nm : String} {x : Lit} {p : List MemPlace} {ms : Array (String × TypeId)} (hg : P.globalNamed n = some g) (hv : w.var? P n = some cs)
    (ht : P.underlying t = some (.interface ms)) (h : DataW.trod (fun _ => ()) P w 0 (fun _ => true) false fuel t cs.toList = some (.iface nm (.ptr (.agg [.lit x])), p)) : ∃ u v a el fr, w.heap[g]? = some (.cells #[.iface u v] el fr) ∧ IsErr w u v a := by
  obtain ⟨el, fr, hc⟩ := var_cells hg hv
  have key : ∃ u v, cs.toList = [.iface u v] ∧ ∃ q, DataW.trod (fun _ => ()) P w 0 (fun _ => true) false (fuel - 1) u v.cells.toList = some (.ptr (.agg [.lit x]), q) := by
    cases fuel with
    | zero => cases h
    | succ fuel =>
      unfold DataW.trod at h
      rw [ht] at h
      generalize cs.toList = l at h
      cases l with
      | nil => cases h
      | cons y r => cases r with
        | cons z r => cases y <;> cases h
        | nil =>
          cases y <;> first | (cases h; done) | skip
          rename_i u v
          simp only at h
          cases hn : P.typeName? 3 u with
          | none => rw [hn] at h; cases h
          | some nn =>
            rw [hn] at h
            obtain ⟨⟨y1, y2⟩, q, e1⟩ := Option.map_eq_some_iff.1 h
            cases e1
            exact ⟨u, v, rfl, y2, q⟩
  obtain ⟨u, v, e, q, k⟩ := key
  obtain ⟨a, k1, k2, k3⟩ := ptr_told k
  have ec : cs = #[.iface u v] := by rw [← Array.toList_inj]; exact e
  subst ec
  refine ⟨u, v, a, el, fr, hc, ?_, k2, k3⟩
  cases v <;> first | (cases k1; exact .inl rfl) | (right; congr 1; rw [← Array.toList_inj]; exact k1) | (exfalso; cases k1; done)
end Go.Proofs.YtjhgembcdndmkaaGreatDoor.St
