import Derived.Lib.LaidTab
import Derived.ProofKit
import Derived.OpenShut
import Derived.DataReads
import Derived.WideShapes
import Derived.Test.YtjhgembcdndmkaaGreatDoorSxC
/- THE WALK'S PARTS, part D: what the functions of the law compute, over the abstract machine that stands beside this text. No condition. -/
set_option linter.unusedSimpArgs false
set_option linter.unusedVariables false
namespace Go.Proofs.YtjhgembcdndmkaaGreatDoor.St
open Go Go.Proofs.YtjhgembcdndmkaaGreatDoor.Am Go.Proofs Go.RowKit
attribute [local simp] xr_mov xd_mov xr_pick xd_pick xr_bin xd_bin xr_un xd_un xr_build xd_build xr_convInt xd_convInt xr_mkFn xr_fld xd_fld xr_extract xd_extract xr_lenL xd_lenL xr_nilPtr xd_nilPtr xr_load1 xd_load1 xr_loadN xd_loadN xr_bytesStr xd_bytesStr xr_eqPtr xr_eqIfc xr_new xd_new xr_box xr_buildSl xd_buildSl xd_strBytes xr_mkSl xr_idxAddrSl xd_idxAddrSl xd_sliceSl orU_some orU_none lenSA_str lenSA_strOf lenLA_sl lenLA_nil xfn xcode xdrawn xr_nil xr_kg xr_kgu xr_cmp xcmp_some xr_call xr_store xr_append xd_append xap_sl xap_nl xapq_some xsrc_sl xsrc_nil xapp_grow xapp_room xset xown xnx_some xnp_some xnq_some xd_nil xdl_old xdl_new xda_some xd_call xd_store xd_kg xdn_some xld xal kindOf isAlloc allocs xins xrem xall xput xget xwhole xmine xcont xq xqs xres XS.add XR.out XR.outU XR.ups xsets XR.res Rs.seq Rs.inSc Rs.block mapO tupleA sv_args adv_eq tget eqs8 eqs7 eqi8 eqi7 eqg8 eql8 eqn8 eqn7 cells_strOf cells_int cells_agg cells_bool cells_str cells_sl cells_nil cells_ptr at_int at_str at_strOf at_bool at_sl at_nil at_ptr unstr_strOf unbyt_byt fill_nil fill_cons replA ev_tm ev_vl sv_stv bin_add bin_sub bin_mul bin_lss bin_leq bin_gtr bin_geq bin_eql bin_neq un_not un_neg nth0 nth1 nth2 xst_idxAddrSl xst_idxStr xst_sliceStr xst_sliceSl xsl_sl xbd slN Nat.testBit
noncomputable def e_join2 : Ent := mkEnt 80 1 [.sl 0, .ssl 0 0, .ssl 0 1] (fun z_ : Pos × Pos × Pos × (List UInt8) × (List UInt8) => [.sl z_.1 0 0 2 2 true 1]) (fun z_ => [[.sl z_.2.1 0 0 z_.2.2.2.1.length z_.2.2.2.1.length false 1, .sl z_.2.2.1 0 0 z_.2.2.2.2.length z_.2.2.2.2.length false 1], byt z_.2.2.2.1, byt z_.2.2.2.2]) (fun z_ => (z_.1 ≠ z_.2.1 ∧ z_.1 ≠ z_.2.2.1 ∧ z_.2.1 ≠ z_.2.2.1) ∧ z_.2.2.2.1 ≠ [] ∧ z_.2.2.2.2 ≠ [] ∧ z_.2.2.2.1.length + z_.2.2.2.2.length ≤ 100000) (fun z_ => .row (byt (z_.2.2.2.1 ++ z_.2.2.2.2)) (fun q => slN q (z_.2.2.2.1 ++ z_.2.2.2.2).length 1))
theorem f_join2 : e_join2.f = 80 := rfl
theorem x_join2 {U : List Ent} {b : Pos} {st : XS} (hU : tget U 80 = some e_join2) (p : Pos) (p0 : Pos) (p1 : Pos) (l0 : List UInt8) (l1 : List UInt8) (hp : (p ≠ p0 ∧ p ≠ p1 ∧ p0 ≠ p1) ∧ l0 ≠ [] ∧ l1 ≠ [] ∧ l0.length + l1.length ≤ 100000) (hq : xqs st.X [.sl p 0 0 2 2 true 1] [.sl 0, .ssl 0 0, .ssl 0 1] = some [[.sl p0 0 0 l0.length l0.length false 1, .sl p1 0 0 l1.length l1.length false 1], byt l0, byt l1]) : xcall U b 80 [.sl p 0 0 2 2 true 1] st = some (XR.out b st (.row (byt (l0 ++ l1)) (fun q => slN q (l0 ++ l1).length 1))) :=
  xcall_at hU rfl hq (mkEnt_spec (by rintro ⟨a0, a1, a2, a3, a4⟩ ⟨b0, b1, b2, b3, b4⟩ h hc; simp only [List.cons.injEq, AV.agg.injEq, AV.tup.injEq, AV.int.injEq, AV.bool.injEq, AV.ptr.injEq, AV.sl.injEq, strOf_eq, byt_eq, map_strOf_eq, true_and, and_true, Int.natCast_inj] at h hc; simp [h, hc]) (p, p0, p1, l0, l1) hp) (by first | rfl | (split <;> rfl))
noncomputable def e_join3 : Ent := mkEnt 80 1 [.sl 0, .ssl 0 0, .ssl 0 1, .ssl 0 2] (fun z_ : Pos × Pos × Pos × Pos × (List UInt8) × (List UInt8) × (List UInt8) => [.sl z_.1 0 0 3 3 true 1]) (fun z_ => [[.sl z_.2.1 0 0 z_.2.2.2.2.1.length z_.2.2.2.2.1.length false 1, .sl z_.2.2.1 0 0 z_.2.2.2.2.2.1.length z_.2.2.2.2.2.1.length false 1, .sl z_.2.2.2.1 0 0 z_.2.2.2.2.2.2.length z_.2.2.2.2.2.2.length false 1], byt z_.2.2.2.2.1, byt z_.2.2.2.2.2.1, byt z_.2.2.2.2.2.2]) (fun z_ => (z_.1 ≠ z_.2.1 ∧ z_.1 ≠ z_.2.2.1 ∧ z_.1 ≠ z_.2.2.2.1 ∧ z_.2.1 ≠ z_.2.2.1 ∧ z_.2.1 ≠ z_.2.2.2.1 ∧ z_.2.2.1 ≠ z_.2.2.2.1) ∧ z_.2.2.2.2.1 ≠ [] ∧ z_.2.2.2.2.2.1 ≠ [] ∧ z_.2.2.2.2.2.2 ≠ [] ∧ z_.2.2.2.2.1.length + z_.2.2.2.2.2.1.length + z_.2.2.2.2.2.2.length ≤ 100000) (fun z_ => .row (byt ((z_.2.2.2.2.1 ++ z_.2.2.2.2.2.1) ++ z_.2.2.2.2.2.2)) (fun q => slN q ((z_.2.2.2.2.1 ++ z_.2.2.2.2.2.1) ++ z_.2.2.2.2.2.2).length 1))
theorem f_join3 : e_join3.f = 80 := rfl
theorem x_join3 {U : List Ent} {b : Pos} {st : XS} (hU : tget U 80 = some e_join3) (p : Pos) (p0 : Pos) (p1 : Pos) (p2 : Pos) (l0 : List UInt8) (l1 : List UInt8) (l2 : List UInt8) (hp : (p ≠ p0 ∧ p ≠ p1 ∧ p ≠ p2 ∧ p0 ≠ p1 ∧ p0 ≠ p2 ∧ p1 ≠ p2) ∧ l0 ≠ [] ∧ l1 ≠ [] ∧ l2 ≠ [] ∧ l0.length + l1.length + l2.length ≤ 100000) (hq : xqs st.X [.sl p 0 0 3 3 true 1] [.sl 0, .ssl 0 0, .ssl 0 1, .ssl 0 2] = some [[.sl p0 0 0 l0.length l0.length false 1, .sl p1 0 0 l1.length l1.length false 1, .sl p2 0 0 l2.length l2.length false 1], byt l0, byt l1, byt l2]) : xcall U b 80 [.sl p 0 0 3 3 true 1] st = some (XR.out b st (.row (byt ((l0 ++ l1) ++ l2)) (fun q => slN q ((l0 ++ l1) ++ l2).length 1))) :=
  xcall_at hU rfl hq (mkEnt_spec (by rintro ⟨a0, a1, a2, a3, a4, a5, a6⟩ ⟨b0, b1, b2, b3, b4, b5, b6⟩ h hc; simp only [List.cons.injEq, AV.agg.injEq, AV.tup.injEq, AV.int.injEq, AV.bool.injEq, AV.ptr.injEq, AV.sl.injEq, strOf_eq, byt_eq, map_strOf_eq, true_and, and_true, Int.natCast_inj] at h hc; simp [h, hc]) (p, p0, p1, p2, l0, l1, l2) hp) (by first | rfl | (split <;> rfl))
section
variable {m : Int} {t1 t2 : AV}
theorem join2_ok : EntOK Tryz.prog (HasG m t1 t2) e_join2 := mkEnt_ok ok_join fun z h g hz hc => by
  obtain ⟨p, p0, p1, l0, l1⟩ := z
  obtain ⟨⟨n1, n2, n3⟩, z0, z1, hl⟩ : (p ≠ p0 ∧ p ≠ p1 ∧ p0 ≠ p1) ∧ l0 ≠ [] ∧ l1 ≠ [] ∧ l0.length + l1.length ≤ 100000 := hz
  obtain ⟨_, _, e, ⟨_, ev, s⟩, _, _, e0, ⟨_, _, _, ev0, sa0, w0, s0⟩, _, _, e1, ⟨_, _, _, ev1, sa1, w1, s1⟩, _⟩ := hc
  cases e; cases e0; cases e1
  cases ev; cases ev0; cases ev1
  cases sa0.eq s; cases sa1.eq s
  cases w0; cases w1
  dsimp only at *
  obtain ⟨L, kp, tp, ap⟩ := slc_at s
  obtain ⟨L0, k0, t0, a0⟩ := slc_at s0
  obtain ⟨L1, k1, t1', a1⟩ := slc_at s1
  rw [← List.take_append_drop 2 L, tp] at kp
  generalize L.drop 2 = R at kp
  have hX : AllH [⟨p, 0, false, [.sl p0 0 0 l0.length l0.length false 1, .sl p1 0 0 l1.length l1.length false 1] ++ R⟩, ⟨p0, 0, false, L0⟩, ⟨p1, 0, false, L1⟩] h := by
    intro x mx
    simp only [List.mem_cons, List.not_mem_nil, or_false] at mx
    rcases mx with rfl | rfl | rfl <;> assumption
  have op := kp.old; have o0 := k0.old; have o1 := k1.old
  have z0 : l0.length ≠ 0 := fun c => z0 (List.length_eq_zero_iff.1 c)
  have z1 : l1.length ≠ 0 := fun c => z1 (List.length_eq_zero_iff.1 c)
  refine row_of (U := []) (K := []) (fun _ o => g.more o) (by simp) (by simp) 10 (.startX h hX (by simpa using ⟨⟨n1, n2⟩, n3⟩) (by simp)) join_code (by simp [join_fu]) (byt_plain _) ?_
  have R0 := fun (st : XS) (id : Pos) => xapp_room (b := h.next) (s := st) (bytes := 0) (k := 0) (cap := 0) (n := l0.length) (id := id) (c := byt l0) (by omega) (byt_atoms _) (byt_length _) z0 (by omega)
  have R1 := fun (st : XS) (id : Pos) => xapp_grow (b := h.next) (s := st) (es := 1) (bytes := 0) (n := l1.length) (k := l0.length) (g := 0) (id := id) (c := byt l1) (by omega) (by omega) (byt_atoms _) z1 (by omega)
  simp [join_fu, join_0, R0, R1, xloop, w64, rowOut_sl, xown, byt_length, byt_app, t0, t1', a0, a1, adv_nf op, adv_fn op, adv_nf o0, adv_fn o0, adv_nf o1, adv_fn o1, n1, n2, n3, n1.symm, n2.symm, n3.symm, z0, z1]
theorem join3_ok : EntOK Tryz.prog (HasG m t1 t2) e_join3 := mkEnt_ok ok_join fun z h g hz hc => by
  obtain ⟨p, p0, p1, p2, l0, l1, l2⟩ := z
  obtain ⟨⟨n1, n2, n3, n4, n5, n6⟩, z0, z1, z2, hl⟩ : (p ≠ p0 ∧ p ≠ p1 ∧ p ≠ p2 ∧ p0 ≠ p1 ∧ p0 ≠ p2 ∧ p1 ≠ p2) ∧ l0 ≠ [] ∧ l1 ≠ [] ∧ l2 ≠ [] ∧ l0.length + l1.length + l2.length ≤ 100000 := hz
  obtain ⟨_, _, e, ⟨_, ev, s⟩, _, _, e0, ⟨_, _, _, ev0, sa0, w0, s0⟩, _, _, e1, ⟨_, _, _, ev1, sa1, w1, s1⟩, _, _, e2, ⟨_, _, _, ev2, sa2, w2, s2⟩, _⟩ := hc
  cases e; cases e0; cases e1; cases e2
  cases ev; cases ev0; cases ev1; cases ev2
  cases sa0.eq s; cases sa1.eq s; cases sa2.eq s
  cases w0; cases w1; cases w2
  dsimp only at *
  obtain ⟨L, kp, tp, ap⟩ := slc_at s
  obtain ⟨L0, k0, t0, a0⟩ := slc_at s0
  obtain ⟨L1, k1, t1', a1⟩ := slc_at s1
  obtain ⟨L2, k2, t2', a2⟩ := slc_at s2
  rw [← List.take_append_drop 3 L, tp] at kp
  generalize L.drop 3 = R at kp
  have hX : AllH [⟨p, 0, false, [.sl p0 0 0 l0.length l0.length false 1, .sl p1 0 0 l1.length l1.length false 1, .sl p2 0 0 l2.length l2.length false 1] ++ R⟩, ⟨p0, 0, false, L0⟩, ⟨p1, 0, false, L1⟩, ⟨p2, 0, false, L2⟩] h := by
    intro x mx
    simp only [List.mem_cons, List.not_mem_nil, or_false] at mx
    rcases mx with rfl | rfl | rfl | rfl <;> assumption
  have op := kp.old; have o0 := k0.old; have o1 := k1.old; have o2 := k2.old
  have z0 : l0.length ≠ 0 := fun c => z0 (List.length_eq_zero_iff.1 c)
  have z1 : l1.length ≠ 0 := fun c => z1 (List.length_eq_zero_iff.1 c)
  have z2 : l2.length ≠ 0 := fun c => z2 (List.length_eq_zero_iff.1 c)
  refine row_of (U := []) (K := []) (fun _ o => g.more o) (by simp) (by simp) 10 (.startX h hX (by simpa using ⟨⟨n1, n2, n3⟩, ⟨n4, n5⟩, n6⟩) (by simp)) join_code (by simp [join_fu]) (byt_plain _) ?_
  have R0 := fun (st : XS) (id : Pos) => xapp_room (b := h.next) (s := st) (bytes := 0) (k := 0) (cap := 0) (n := l0.length) (id := id) (c := byt l0) (by omega) (byt_atoms _) (byt_length _) z0 (by omega)
  have R1 := fun (st : XS) (id : Pos) => xapp_grow (b := h.next) (s := st) (es := 1) (bytes := 0) (n := l1.length) (k := l0.length) (g := 0) (id := id) (c := byt l1) (by omega) (by omega) (byt_atoms _) z1 (by omega)
  have R2 := fun (st : XS) (id : Pos) => xapp_grow (b := h.next) (s := st) (es := 1) (bytes := 0) (n := l2.length) (k := l0.length + l1.length) (g := 1) (id := id) (c := byt l2) (by omega) (by omega) (byt_atoms _) z2 (by omega)
  simp [join_fu, join_0, R0, R1, R2, xloop, w64, rowOut_sl, xown, byt_length, byt_app, t0, t1', t2', a0, a1, a2, adv_nf op, adv_fn op, adv_nf o0, adv_fn o0, adv_nf o1, adv_fn o1, adv_nf o2, adv_fn o2, n1, n2, n3, n4, n5, n6, n1.symm, n2.symm, n3.symm, n4.symm, n5.symm, n6.symm, z0, z1, z2, Nat.add_assoc]
theorem wbf_ok : EntOK Tryz.prog (HasG m t1 t2) e_wbf := mkEnt_ok ok_wbf fun z h gg hz hc => by
  obtain ⟨q, s⟩ := z
  obtain ⟨hs, hn⟩ : s.length ≤ 9000 ∧ s ≠ [] := hz
  obtain ⟨_, _, e, ⟨_, ev, w⟩, _⟩ := hc
  cases e; cases ev
  dsimp only at *
  obtain ⟨L, kq, tq, aq⟩ := slc_at' w
  have oq := kq.old
  have hX : AllH [⟨q, 0, false, L⟩] h := by
    intro x mx
    simp only [List.mem_cons, List.not_mem_nil, or_false] at mx
    subst mx; assumption
  refine row_of (U := []) (K := [e_wnf]) (fun _ o => gg.more o) (by simp) (by simp [wnf_ok.entK]) 0 (.startX h hX (by simp) (by simp)) wbf_code (by simp [wbf_fu]) (byt_plain _) ?_
  have l0 : s.length ≠ 0 := fun c => hn (List.length_eq_zero_iff.1 c)
  have w1 : wrapA .u64 (s.length : Int) = (s.length : Int) := wu64 (by omega) (by omega)
  have N := fun {U b st} (hU : tget U 83 = some e_wnf) => x_wnf (U := U) (b := b) (st := st) hU s.length (by omega)
  have hl := numB_len10 (m := s.length) (by omega)
  have hb := numB_ne s.length
  unfold bytB
  generalize numB s.length = u at *
  have hu : 0 < u.length := List.length_pos_iff.2 hb
  have RM := fun (st : XS) (id : Pos) => xapp_grow (b := h.next) (s := st) (es := 1) (bytes := 0) (n := s.length) (k := u.length) (g := 0) (id := id) (c := byt s) (by omega) (by omega) (byt_atoms _) l0 (by omega)
  simp [wbf_fu, RM, N, f_wnf, w1, tq, aq, l0, byt_length, byt_app, rowOut_sl, hu, adv_nf oq, adv_fn oq, byt_atoms]
end
noncomputable def e_form : Ent := mkEnt 93 1 [] (fun z_ : Nat × (List UInt8) => [.agg [int64 (z_.1 : Int), strOf z_.2]]) (fun _ => []) (fun z_ => z_.1 < 8 ∧ z_.2.length ≤ 12 ∧ z_.2 ≠ []) (fun z_ => .row (byt (putbB z_.1 z_.2)) (fun p => slN p (putbB z_.1 z_.2).length 1))
theorem f_form : e_form.f = 93 := rfl
theorem x_form {U : List Ent} {b : Pos} {st : XS} (hU : tget U 93 = some e_form) (r : Nat) (s : List UInt8) (hp : r < 8 ∧ s.length ≤ 12 ∧ s ≠ []) : xcall U b 93 [.agg [int64 (r : Int), strOf s]] st = some (XR.out b st (.row (byt (putbB r s)) (fun p => slN p (putbB r s).length 1))) :=
  xcall_at hU rfl rfl (mkEnt_spec (by rintro ⟨a0, a1⟩ ⟨b0, b1⟩ h hc; simp only [List.cons.injEq, AV.agg.injEq, AV.tup.injEq, AV.int.injEq, AV.bool.injEq, AV.ptr.injEq, AV.sl.injEq, strOf_eq, byt_eq, map_strOf_eq, true_and, and_true, Int.natCast_inj] at h hc; simp [h, hc]) (r, s) hp) (by first | rfl | (split <;> rfl))
section
variable {m : Int} {t1 t2 : AV}
theorem form_ok : EntOK Tryz.prog (HasG m t1 t2) e_form := mkEnt_ok ok_form fun z h gg hz _ => by
  obtain ⟨r, s⟩ := z
  obtain ⟨hr, hs, hn⟩ : r < 8 ∧ s.length ≤ 12 ∧ s ≠ [] := hz
  refine row_of (U := [e_wnf, e_wbf, e_join2]) (K := []) (X := []) (fun _ o => gg.more o) (by simp [wnf_ok, wbf_ok, join2_ok]) (by simp) 0 (.start h) form_code (by simp [form_fu]) (byt_plain _) ?_
  have w1 : wrapA .u64 (r : Int) = (r : Int) := wu64 (by omega) (by omega)
  have N := fun {U b st} (hU : tget U 83 = some e_wnf) => x_wnf (U := U) (b := b) (st := st) hU r (by omega)
  have B := fun {U b st} q (hU : tget U 112 = some e_wbf) hq => x_wbf (U := U) (b := b) (st := st) hU q s ⟨by omega, hn⟩ hq
  have hl := numB_len10 (m := r) (by omega)
  have hb := numB_ne r
  have hl2 := numB_len10 (m := s.length) (by omega)
  have hl3 : (bytB s).length = (numB s.length).length + s.length := List.length_append
  have hb3 : bytB s ≠ [] := by unfold bytB; simp [numB_ne]
  unfold putbB
  generalize bytB s = c at *
  generalize numB r = u at *
  have J := fun {U b st} p p0 p1 (hU : tget U 80 = some e_join2) hp hq => x_join2 (U := U) (b := b) (st := st) hU p p0 p1 u c ⟨hp, hb, hb3, by omega⟩ hq
  have k1 := eq_true (show s.length ≤ 1000000 by omega)
  have hu : 0 < u.length := List.length_pos_iff.2 hb
  have J := fun {U b st} (hU : tget U 80 = some e_join2) hp hq => J (U := U) (b := b) (st := st) (adv h.next 2) (adv h.next 3) (adv h.next 4) hU hp hq
  simp [form_fu, N, B, J, f_wnf, f_wbf, f_join2, w1, hn, k1, byt_take, byt_length, rowOut_sl, hu]
end
end Go.Proofs.YtjhgembcdndmkaaGreatDoor.St

namespace Go.Proofs.YtjhgembcdndmkaaGreatDoor.St
open Go Go.Proofs.YtjhgembcdndmkaaGreatDoor.Am Go.Proofs Go.RowKit
attribute [local simp] xr_mov xd_mov xr_pick xd_pick xr_bin xd_bin xr_un xd_un xr_build xd_build xr_convInt xd_convInt xr_mkFn xr_fld xd_fld xr_extract xd_extract xr_lenL xd_lenL xr_nilPtr xd_nilPtr xr_load1 xd_load1 xr_loadN xd_loadN xr_bytesStr xd_bytesStr xr_eqPtr xr_eqIfc xr_new xd_new xr_box xr_buildSl xd_buildSl xd_strBytes xr_mkSl xr_idxAddrSl xd_idxAddrSl xd_sliceSl orU_some orU_none lenSA_str lenSA_strOf lenLA_sl lenLA_nil xfn xcode xdrawn xr_nil xr_kg xr_kgu xr_cmp xcmp_some xr_call xr_store xr_append xd_append xap_sl xap_nl xapq_some xsrc_sl xsrc_nil xapp_grow xapp_room xset xown xnx_some xnp_some xnq_some xd_nil xdl_old xdl_new xda_some xd_call xd_store xd_kg xdn_some xld xal kindOf isAlloc allocs xins xrem xall xput xget xwhole xmine xcont xq xqs xres XS.add XR.out XR.outU XR.ups xsets XR.res Rs.seq Rs.inSc Rs.block mapO tupleA sv_args adv_eq tget eqs8 eqs7 eqi8 eqi7 eqg8 eql8 eqn8 eqn7 cells_strOf cells_int cells_agg cells_bool cells_str cells_sl cells_nil cells_ptr at_int at_str at_strOf at_bool at_sl at_nil at_ptr unstr_strOf unbyt_byt fill_nil fill_cons replA ev_tm ev_vl sv_stv bin_add bin_sub bin_mul bin_lss bin_leq bin_gtr bin_geq bin_eql bin_neq un_not un_neg nth0 nth1 nth2 xst_idxAddrSl xst_idxStr xst_sliceStr xst_sliceSl xsl_sl xbd slN Nat.testBit
theorem labelB_ne {s : List UInt8} (h : labelB s = true) : s ≠ [] := by rintro rfl; cases h
end Go.Proofs.YtjhgembcdndmkaaGreatDoor.St

namespace Go.Proofs.YtjhgembcdndmkaaGreatDoor.St
open Go Go.Proofs.YtjhgembcdndmkaaGreatDoor.Am Go.Proofs Go.RowKit
attribute [local simp] xr_mov xd_mov xr_pick xd_pick xr_bin xd_bin xr_un xd_un xr_build xd_build xr_convInt xd_convInt xr_mkFn xr_fld xd_fld xr_extract xd_extract xr_lenL xd_lenL xr_nilPtr xd_nilPtr xr_load1 xd_load1 xr_loadN xd_loadN xr_bytesStr xd_bytesStr xr_eqPtr xr_eqIfc xr_new xd_new xr_box xr_buildSl xd_buildSl xd_strBytes xr_mkSl xr_idxAddrSl xd_idxAddrSl xd_sliceSl orU_some orU_none lenSA_str lenSA_strOf lenLA_sl lenLA_nil xfn xcode xdrawn xr_nil xr_kg xr_kgu xr_cmp xcmp_some xr_call xr_store xr_append xd_append xap_sl xap_nl xapq_some xsrc_sl xsrc_nil xapp_grow xapp_room xset xown xnx_some xnp_some xnq_some xd_nil xdl_old xdl_new xda_some xd_call xd_store xd_kg xdn_some xld xal kindOf isAlloc allocs xins xrem xall xput xget xwhole xmine xcont xq xqs xres XS.add XR.out XR.outU XR.ups xsets XR.res Rs.seq Rs.inSc Rs.block mapO tupleA sv_args adv_eq tget eqs8 eqs7 eqi8 eqi7 eqg8 eql8 eqn8 eqn7 cells_strOf cells_int cells_agg cells_bool cells_str cells_sl cells_nil cells_ptr at_int at_str at_strOf at_bool at_sl at_nil at_ptr unstr_strOf unbyt_byt fill_nil fill_cons replA ev_tm ev_vl sv_stv bin_add bin_sub bin_mul bin_lss bin_leq bin_gtr bin_geq bin_eql bin_neq un_not un_neg nth0 nth1 nth2 xst_idxAddrSl xst_idxStr xst_sliceStr xst_sliceSl xsl_sl xbd slN Nat.testBit
theorem nameB_br {r : Int} {s : List UInt8} {n : Int} (h : nameB r s n = true) : branchB r s = true ∧ 1 ≤ n ∧ n ≤ 4611686018427387904 := by
  simp [nameB] at h; exact h
theorem stampB_nm {g r : Int} {s : List UInt8} {n i : Int} (h : stampB g r s n i = true) : 1 ≤ g ∧ g ≤ 4611686018427387904 ∧ nameB r s n = true ∧ 0 ≤ i ∧ i < 64 := by
  simp [stampB] at h; exact h
theorem branchB_all {r : Int} {s : List UInt8} (h : branchB r s = true) : 0 ≤ r ∧ r < 8 ∧ s.length ≤ 12 ∧ s ≠ [] := by
  have h2 := branchB_le h
  exact ⟨h2.1, h2.2.1, h2.2.2, labelB_ne (by unfold branchB at h; rw [Bool.and_eq_true, Bool.and_eq_true] at h; exact h.2.2)⟩
end Go.Proofs.YtjhgembcdndmkaaGreatDoor.St

namespace Go.Proofs.YtjhgembcdndmkaaGreatDoor.St
open Go Go.Proofs.YtjhgembcdndmkaaGreatDoor.Am Go.Proofs Go.RowKit
theorem bytE_zero {l : List UInt8} {a : Nat} {most : Int} : bytE l a most = 0 ↔ (numR l a).isSome = true ∧ ¬ most < numV l a ∧ ¬ ((l.length - numA l a : Nat) : Int) < numV l a := by
  unfold bytE cntE
  cases (numR l a).isSome
  · simp
  · by_cases c : most < numV l a
    · simp [c]
    · by_cases c2 : ((l.length - numA l a : Nat) : Int) < numV l a <;> simp [c, c2]
end Go.Proofs.YtjhgembcdndmkaaGreatDoor.St

namespace Go.Proofs.YtjhgembcdndmkaaGreatDoor.St
open Go Go.Proofs.YtjhgembcdndmkaaGreatDoor.Am Go.Proofs Go.RowKit
attribute [local simp] xr_mov xd_mov xr_pick xd_pick xr_bin xd_bin xr_un xd_un xr_build xd_build xr_convInt xd_convInt xr_mkFn xr_fld xd_fld xr_extract xd_extract xr_lenL xd_lenL xr_nilPtr xd_nilPtr xr_load1 xd_load1 xr_loadN xd_loadN xr_bytesStr xd_bytesStr xr_eqPtr xr_eqIfc xr_new xd_new xr_box xr_buildSl xd_buildSl xd_strBytes xr_mkSl xr_idxAddrSl xd_idxAddrSl xd_sliceSl orU_some orU_none lenSA_str lenSA_strOf lenLA_sl lenLA_nil xfn xcode xdrawn xr_nil xr_kg xr_kgu xr_cmp xcmp_some xr_call xr_store xr_append xd_append xap_sl xap_nl xapq_some xsrc_sl xsrc_nil xapp_grow xapp_room xset xown xnx_some xnp_some xnq_some xd_nil xdl_old xdl_new xda_some xd_call xd_store xd_kg xdn_some xld xal kindOf isAlloc allocs xins xrem xall xput xget xwhole xmine xcont xq xqs xres XS.add XR.out XR.outU XR.ups xsets XR.res Rs.seq Rs.inSc Rs.block mapO tupleA sv_args adv_eq tget eqs8 eqs7 eqi8 eqi7 eqg8 eql8 eqn8 eqn7 cells_strOf cells_int cells_agg cells_bool cells_str cells_sl cells_nil cells_ptr at_int at_str at_strOf at_bool at_sl at_nil at_ptr unstr_strOf unbyt_byt fill_nil fill_cons replA ev_tm ev_vl sv_stv bin_add bin_sub bin_mul bin_lss bin_leq bin_gtr bin_geq bin_eql bin_neq un_not un_neg nth0 nth1 nth2 xst_idxAddrSl xst_idxStr xst_sliceStr xst_sliceSl xsl_sl xbd slN Nat.testBit
theorem replA_eq {α : Type} (z : α) : ∀ (n : Nat) (acc : List α), replA n [z] acc = List.replicate n z ++ acc
  | 0, _ => rfl
  | n + 1, acc => by
    show replA n [z] ([z] ++ acc) = _
    rw [replA_eq z n, List.replicate_succ', List.append_assoc]
end Go.Proofs.YtjhgembcdndmkaaGreatDoor.St

namespace Go.Proofs.YtjhgembcdndmkaaGreatDoor.St
open Go Go.Proofs.YtjhgembcdndmkaaGreatDoor.Am Go.Proofs Go.RowKit
attribute [local simp] xr_mov xd_mov xr_pick xd_pick xr_bin xd_bin xr_un xd_un xr_build xd_build xr_convInt xd_convInt xr_mkFn xr_fld xd_fld xr_extract xd_extract xr_lenL xd_lenL xr_nilPtr xd_nilPtr xr_load1 xd_load1 xr_loadN xd_loadN xr_bytesStr xd_bytesStr xr_eqPtr xr_eqIfc xr_new xd_new xr_box xr_buildSl xd_buildSl xd_strBytes xr_mkSl xr_idxAddrSl xd_idxAddrSl xd_sliceSl orU_some orU_none lenSA_str lenSA_strOf lenLA_sl lenLA_nil xfn xcode xdrawn xr_nil xr_kg xr_kgu xr_cmp xcmp_some xr_call xr_store xr_append xd_append xap_sl xap_nl xapq_some xsrc_sl xsrc_nil xapp_grow xapp_room xset xown xnx_some xnp_some xnq_some xd_nil xdl_old xdl_new xda_some xd_call xd_store xd_kg xdn_some xld xal kindOf isAlloc allocs xins xrem xall xput xget xwhole xmine xcont xq xqs xres XS.add XR.out XR.outU XR.ups xsets XR.res Rs.seq Rs.inSc Rs.block mapO tupleA sv_args adv_eq tget eqs8 eqs7 eqi8 eqi7 eqg8 eql8 eqn8 eqn7 cells_strOf cells_int cells_agg cells_bool cells_str cells_sl cells_nil cells_ptr at_int at_str at_strOf at_bool at_sl at_nil at_ptr unstr_strOf unbyt_byt fill_nil fill_cons replA ev_tm ev_vl sv_stv bin_add bin_sub bin_mul bin_lss bin_leq bin_gtr bin_geq bin_eql bin_neq un_not un_neg nth0 nth1 nth2 xst_idxAddrSl xst_idxStr xst_sliceStr xst_sliceSl xsl_sl xbd slN Nat.testBit
noncomputable def e_putn : Ent := mkEnt 82 1 [] (fun z_ : Nat × (List UInt8) × Nat => [.agg [int64 (z_.1 : Int), strOf z_.2.1, int64 (z_.2.2 : Int)]]) (fun _ => []) (fun z_ => nameB (z_.1 : Int) z_.2.1 (z_.2.2 : Int) = true) (fun z_ => .outs [] (fun _ => [byt (putnB z_.1 z_.2.1 z_.2.2)]) (fun p => .tup [slN p (putnB z_.1 z_.2.1 z_.2.2).length 1, int64 0]))
theorem f_putn : e_putn.f = 82 := rfl
theorem x_putn {U : List Ent} {b : Pos} {st : XS} (hU : tget U 82 = some e_putn) (r : Nat) (s : List UInt8) (n : Nat) (hp : nameB (r : Int) s (n : Int) = true) (ho : ((.outs [] (fun _ => [byt (putnB r s n)]) (fun p => .tup [slN p (putnB r s n).length 1, int64 0]) : XR).ups.all fun x => (xown st.X x.1 0).isSome) = true) : xcall U b 82 [.agg [int64 (r : Int), strOf s, int64 (n : Int)]] st = none ∧ xupd U b 82 [.agg [int64 (r : Int), strOf s, int64 (n : Int)]] st = some (XR.outU b st (.outs [] (fun _ => [byt (putnB r s n)]) (fun p => .tup [slN p (putnB r s n).length 1, int64 0]))) :=
  xupd_at hU rfl rfl (mkEnt_spec (by rintro ⟨a0, a1, a2⟩ ⟨b0, b1, b2⟩ h hc; simp only [List.cons.injEq, AV.agg.injEq, AV.tup.injEq, AV.int.injEq, AV.bool.injEq, AV.ptr.injEq, AV.sl.injEq, strOf_eq, byt_eq, map_strOf_eq, true_and, and_true, Int.natCast_inj] at h hc; simp [h, hc]) (r, s, n) hp) (by first | rfl | (split <;> rfl)) ho
noncomputable def e_put : Ent := mkEnt 31 1 [] (fun z_ : Nat × Nat × (List UInt8) × Nat × Nat => [.agg [int64 (z_.1 : Int), int64 (z_.2.1 : Int), strOf z_.2.2.1, int64 (z_.2.2.2.1 : Int), int64 (z_.2.2.2.2 : Int)]]) (fun _ => []) (fun z_ => stampB (z_.1 : Int) (z_.2.1 : Int) z_.2.2.1 (z_.2.2.2.1 : Int) (z_.2.2.2.2 : Int) = true) (fun z_ => .outs [] (fun _ => [byt (putB z_.1 z_.2.1 z_.2.2.1 z_.2.2.2.1 z_.2.2.2.2)]) (fun p => .tup [slN p (putB z_.1 z_.2.1 z_.2.2.1 z_.2.2.2.1 z_.2.2.2.2).length 1, int64 0]))
theorem f_put : e_put.f = 31 := rfl
theorem x_put {U : List Ent} {b : Pos} {st : XS} (hU : tget U 31 = some e_put) (g : Nat) (r : Nat) (s : List UInt8) (n : Nat) (i : Nat) (hp : stampB (g : Int) (r : Int) s (n : Int) (i : Int) = true) (ho : ((.outs [] (fun _ => [byt (putB g r s n i)]) (fun p => .tup [slN p (putB g r s n i).length 1, int64 0]) : XR).ups.all fun x => (xown st.X x.1 0).isSome) = true) : xcall U b 31 [.agg [int64 (g : Int), int64 (r : Int), strOf s, int64 (n : Int), int64 (i : Int)]] st = none ∧ xupd U b 31 [.agg [int64 (g : Int), int64 (r : Int), strOf s, int64 (n : Int), int64 (i : Int)]] st = some (XR.outU b st (.outs [] (fun _ => [byt (putB g r s n i)]) (fun p => .tup [slN p (putB g r s n i).length 1, int64 0]))) :=
  xupd_at hU rfl rfl (mkEnt_spec (by rintro ⟨a0, a1, a2, a3, a4⟩ ⟨b0, b1, b2, b3, b4⟩ h hc; simp only [List.cons.injEq, AV.agg.injEq, AV.tup.injEq, AV.int.injEq, AV.bool.injEq, AV.ptr.injEq, AV.sl.injEq, strOf_eq, byt_eq, map_strOf_eq, true_and, and_true, Int.natCast_inj] at h hc; simp [h, hc]) (g, r, s, n, i) hp) (by first | rfl | (split <;> rfl)) ho
section
variable {m : Int} {t1 t2 : AV}
theorem putn_ok : EntOK Tryz.prog (HasG m t1 t2) e_putn := mkEnt_ok ok_putn fun z h gg hz _ => by
  obtain ⟨r, s, n⟩ := z
  have hz : nameB (r : Int) s (n : Int) = true := hz
  obtain ⟨cb, n1, n2⟩ := nameB_br hz
  obtain ⟨r0, r8, sl, sn⟩ := branchB_all cb
  have w1 : wrapA .u64 (n : Int) = (n : Int) := wu64 (by omega) (by omega)
  have N := fun {U b st} (hU : tget U 83 = some e_wnf) => x_wnf (U := U) (b := b) (st := st) hU n (by omega)
  have B := fun {U b st} (hU : tget U 93 = some e_form) => x_form (U := U) (b := b) (st := st) hU r s ⟨by omega, sl, sn⟩
  have M := fun {U b st} (hU : tget U 42 = some e_nameX) => x_nameX (U := U) (b := b) (st := st) hU (r : Int) s (n : Int) (by omega)
  have hl := numB_len10 (m := n) (by omega)
  have hb := numB_ne n
  have hl2 := numB_len10 (m := s.length) (by omega)
  have hl4 := numB_len10 (m := r) (by omega)
  have hl3 : (putbB r s).length = (numB r).length + ((numB s.length).length + s.length) := by unfold putbB bytB; simp
  have hb2 : putbB r s ≠ [] := by unfold putbB; simp [numB_ne]
  have hpl : (putnB r s n).length = (putbB r s).length + (numB n).length := List.length_append
  have hpn : putnB r s n = putbB r s ++ numB n := rfl
  have J := fun {U b st} (hU : tget U 80 = some e_join2) hp hq => x_join2 (U := U) (b := b) (st := st) hU (adv h.next 1) (adv h.next 2) (adv h.next 3) (putbB r s) (numB n) ⟨hp, hb2, hb, by omega⟩ hq
  rw [← hpn] at J
  refine outs_of [] _ _ [(adv h.next 4, 0)] (fun _ o => gg.more o) (U := [e_wnf, e_form, e_join2]) (K := [e_nameX]) (X := []) (by simp [wnf_ok, form_ok, join2_ok]) (by simp [nameX_ok.entK]) 0 (.start h) (by simp) putn_code (by simp [putn_fu]) (by simp) (by simp) (w := .tup [.sl (adv h.next 4) 0 0 (putnB r s n).length (putnB r s n).length false 1, int64 0]) (l1 := []) (l2 := [byt (putnB r s n)]) ?_ .nil (.cons (.self (byt_plain _)) .nil) (.tup (.cons (.slN 0 rfl (.inr rfl)) (.cons (.plain rfl) .nil)) rfl)
  generalize putnB r s n = w at *
  generalize putbB r s = u at *
  generalize numB n = c at *
  simp [putn_fu, N, B, M, J, hz, f_wnf, f_form, f_join2, f_nameX, w1, byt_take, byt_length, owns, ownsG, xown]
theorem put_ok : EntOK Tryz.prog (HasG m t1 t2) e_put := mkEnt_ok ok_put fun z h gg hz _ => by
  obtain ⟨g, r, s, n, i⟩ := z
  have hz : stampB (g : Int) (r : Int) s (n : Int) (i : Int) = true := hz
  obtain ⟨g1, g2, cn, i1, i2⟩ := stampB_nm hz
  obtain ⟨cb, n1, n2⟩ := nameB_br cn
  obtain ⟨r0, r8, sl, sn⟩ := branchB_all cb
  have w1 : wrapA .u64 (g : Int) = (g : Int) := wu64 (by omega) (by omega)
  have w2 : wrapA .u64 (i : Int) = (i : Int) := wu64 (by omega) (by omega)
  have N := fun {U b st} (hU : tget U 83 = some e_wnf) => x_wnf (U := U) (b := b) (st := st) hU g (by omega)
  have N2 := fun {U b st} (hU : tget U 83 = some e_wnf) => x_wnf (U := U) (b := b) (st := st) hU i (by omega)
  have B := fun {U b st} (hU : tget U 82 = some e_putn) ho => x_putn (U := U) (b := b) (st := st) hU r s n cn ho
  have M := fun {U b st} (hU : tget U 43 = some e_stampX) => x_stampX (U := U) (b := b) (st := st) hU (g : Int) (r : Int) s (n : Int) (i : Int) (by omega)
  have hl := numB_len10 (m := n) (by omega)
  have hl2 := numB_len10 (m := s.length) (by omega)
  have hl4 := numB_len10 (m := r) (by omega)
  have hl5 := numB_len10 (m := g) (by omega)
  have hl6 := numB_len10 (m := i) (by omega)
  have hl3 : (putnB r s n).length = (numB r).length + ((numB s.length).length + s.length) + (numB n).length := by unfold putnB putbB bytB; simp [Nat.add_assoc]
  have hb2 : putnB r s n ≠ [] := by unfold putnB; simp [numB_ne]
  have hb3 := numB_ne g
  have hb4 := numB_ne i
  have hpn : putB g r s n i = (numB g ++ putnB r s n) ++ numB i := rfl
  have J := fun {U b st} (hU : tget U 80 = some e_join3) hp hq => x_join3 (U := U) (b := b) (st := st) hU (adv h.next 2) (adv h.next 3) (adv h.next 1) (adv h.next 4) (numB g) (putnB r s n) (numB i) ⟨hp, hb3, hb2, hb4, by omega⟩ hq
  rw [← hpn] at J
  refine outs_of [] _ _ [(adv h.next 5, 0)] (fun _ o => gg.more o) (U := [e_wnf, e_join3]) (K := [e_stampX, e_putn]) (X := []) (by simp [wnf_ok, join3_ok]) (by simp [stampX_ok.entK, putn_ok.entK]) 0 (.start h) (by simp) put_code (by simp [put_fu]) (by simp) (by simp) (w := .tup [.sl (adv h.next 5) 0 0 (putB g r s n i).length (putB g r s n i).length false 1, int64 0]) (l1 := []) (l2 := [byt (putB g r s n i)]) ?_ .nil (.cons (.self (byt_plain _)) .nil) (.tup (.cons (.slN 0 rfl (.inr rfl)) (.cons (.plain rfl) .nil)) rfl)
  generalize putB g r s n i = w at *
  generalize putnB r s n = u at *
  generalize numB g = c at *
  generalize numB i = d at *
  simp [put_fu, N, N2, B, M, J, XS.adds, atP, hz, f_wnf, f_putn, f_join3, f_stampX, w1, w2, byt_take, byt_length, owns, ownsG, xown]
end
end Go.Proofs.YtjhgembcdndmkaaGreatDoor.St

namespace Go.Proofs.YtjhgembcdndmkaaGreatDoor.St
open Go Go.Proofs.YtjhgembcdndmkaaGreatDoor.Am Go.Proofs Go.RowKit
structure Cm {α : Type} (c : α → α → Int) : Prop where
  anti : ∀ a b, c b a = - c a b
  zero : ∀ a b, c a b = 0 → a = b
  tr : ∀ a b d, c a b ≤ 0 → c b d ≤ 0 → c a d ≤ 0
  rng : ∀ a b, -1 ≤ c a b ∧ c a b ≤ 1
theorem Cm.refl {α : Type} {c : α → α → Int} (m : Cm c) (a : α) : c a a = 0 := by have := m.anti a a; omega
theorem Cm.lex {α β : Type} {c : α → α → Int} {d : β → β → Int} (m : Cm c) (k : Cm d) : Cm fun (x y : α × β) => fC (c x.1 y.1) (d x.2 y.2) 0 := by
  have e : ∀ x y : Int, fC x y 0 = if x = 0 then y else x := fun x y => by unfold fC; split <;> (try split) <;> omega
  refine ⟨fun a b => ?_, fun a b h => ?_, fun a b q h1 h2 => ?_, fun a b => ?_⟩
  · simp only [e, m.anti a.1 b.1, k.anti a.2 b.2]
    split <;> split <;> omega
  · simp only [e] at h
    split at h
    · rename_i c0
      exact Prod.ext (m.zero _ _ c0) (k.zero _ _ h)
    · omega
  · simp only [e] at h1 h2 ⊢
    have t := m.tr a.1 b.1 q.1
    by_cases c1 : c a.1 b.1 = 0
    · rw [if_pos c1] at h1
      have e1 := m.zero _ _ c1
      rw [← e1] at h2
      by_cases c2 : c a.1 q.1 = 0
      · rw [if_pos c2] at h2 ⊢
        exact k.tr _ _ _ h1 h2
      · rw [if_neg c2] at h2 ⊢
        exact h2
    · rw [if_neg c1] at h1
      by_cases c2 : c b.1 q.1 = 0
      · have e2 := m.zero _ _ c2
        rw [e2] at c1 h1
        rw [if_neg c1]
        exact h1
      · rw [if_neg c2] at h2
        have t := t h1 h2
        by_cases c3 : c a.1 q.1 = 0
        · have e3 := m.zero _ _ c3
          have := m.anti a.1 b.1
          rw [e3] at this h1 c1
          omega
        · rw [if_neg c3]; exact t
  · simp only [e]
    have := m.rng a.1 b.1
    have := k.rng a.2 b.2
    split <;> omega
theorem cm_n : Cm nC := by
  refine ⟨fun a b => ?_, fun a b h => ?_, fun a b d h1 h2 => ?_, fun a b => ?_⟩ <;> unfold nC at * <;> (repeat' split at *) <;> omega
theorem cmpL_swap : ∀ u v : List UInt8, cmpI (cmpL v u) = - cmpI (cmpL u v)
  | [], [] => rfl
  | [], _ :: _ => rfl
  | _ :: _, [] => rfl
  | a :: l, b :: m => by
    unfold cmpL
    by_cases c1 : a.toNat < b.toNat
    · rw [if_pos c1, if_neg (by omega), if_neg (by omega)]; rfl
    · by_cases c2 : a.toNat = b.toNat
      · rw [if_neg c1, if_pos c2, if_neg (by omega), if_pos c2.symm]; exact cmpL_swap l m
      · rw [if_neg c1, if_neg c2, if_pos (by omega)]; rfl
theorem cmpL_zero : ∀ u v : List UInt8, cmpI (cmpL u v) = 0 → u = v
  | [], [], _ => rfl
  | [], _ :: _, h => by cases h
  | _ :: _, [], h => by cases h
  | a :: l, b :: m, h => by
    unfold cmpL at h
    split at h
    · cases h
    · split at h
      · rename_i c
        rw [UInt8.toNat_inj.1 c, cmpL_zero l m h]
      · cases h
theorem cmpL_tr : ∀ u v w : List UInt8, cmpI (cmpL u v) ≤ 0 → cmpI (cmpL v w) ≤ 0 → cmpI (cmpL u w) ≤ 0
  | [], _, [], _, _ => Int.le_refl _
  | [], _, _ :: _, _, _ => by show Int.negSucc 0 ≤ 0; decide
  | _ :: _, [], _, h, _ => absurd h (by show ¬ (Int.ofNat 1 ≤ 0); decide)
  | _ :: _, _ :: _, [], _, h => absurd h (by show ¬ (Int.ofNat 1 ≤ 0); decide)
  | a :: l, b :: m, c :: r, h1, h2 => by
    unfold cmpL at h1 h2 ⊢
    have hg : ¬ cmpI .gt ≤ 0 := by decide
    have hl : cmpI .lt ≤ 0 := by decide
    by_cases c1 : a.toNat < b.toNat
    · by_cases c2 : b.toNat < c.toNat
      · rw [if_pos (by omega)]; exact hl
      · rw [if_neg c2] at h2
        by_cases c3 : b.toNat = c.toNat
        · rw [if_pos (by omega)]; exact hl
        · rw [if_neg c3] at h2; exact absurd h2 hg
    · rw [if_neg c1] at h1
      by_cases c4 : a.toNat = b.toNat
      · rw [if_pos c4] at h1
        rw [c4]
        by_cases c2 : b.toNat < c.toNat
        · rw [if_pos c2]; exact hl
        · rw [if_neg c2] at h2 ⊢
          by_cases c3 : b.toNat = c.toNat
          · rw [if_pos c3] at h2 ⊢
            exact cmpL_tr l m r h1 h2
          · rw [if_neg c3] at h2; exact absurd h2 hg
      · rw [if_neg c4] at h1; exact absurd h1 hg
theorem cm_s : Cm sC := ⟨cmpL_swap, cmpL_zero, cmpL_tr, fun a b => by unfold sC; cases cmpL a b <;> decide⟩
structure Stp where
  g : Int
  r : Int
  s : List UInt8
  n : Int
  i : Int
noncomputable def Stp.cmp (a b : Stp) : Int := tC a.g a.r a.s a.n a.i b.g b.r b.s b.n b.i
theorem fC3 (x y z : Int) : fC x y z = fC x (fC y z 0) 0 := by unfold fC; (repeat' split) <;> omega
theorem cm_t : Cm Stp.cmp := by
  have m := Cm.lex cm_n (Cm.lex (Cm.lex (Cm.lex cm_n cm_s) cm_n) cm_n)
  have e : ∀ a b : Stp, a.cmp b = fC (nC a.g b.g) (fC (fC (fC (nC a.r b.r) (sC a.s b.s) 0) (nC a.n b.n) 0) (nC a.i b.i) 0) 0 := fun a b => by
    show tC _ _ _ _ _ _ _ _ _ _ = _
    unfold tC mC bC
    rw [fC3]
    split
    · rename_i c
      obtain ⟨c1, c2, c3, c4, c5⟩ := c
      rw [c1, c2, c3, c4, c5, cm_n.refl, cm_n.refl, cm_n.refl, cm_n.refl, cm_s.refl]; rfl
    · rfl
  refine ⟨fun a b => ?_, fun a b h => ?_, fun a b d h1 h2 => ?_, fun a b => ?_⟩
  · rw [e, e]; exact m.anti (a.g, ((a.r, a.s), a.n), a.i) (b.g, ((b.r, b.s), b.n), b.i)
  · rw [e] at h
    have := m.zero (a.g, ((a.r, a.s), a.n), a.i) (b.g, ((b.r, b.s), b.n), b.i) h
    cases a; cases b
    simp only [Prod.mk.injEq] at this
    obtain ⟨h1, ⟨⟨h2, h3⟩, h4⟩, h5⟩ := this
    subst h1; subst h2; subst h3; subst h4; subst h5; rfl
  · rw [e] at h1 h2 ⊢
    exact m.tr (a.g, ((a.r, a.s), a.n), a.i) (b.g, ((b.r, b.s), b.n), b.i) (d.g, ((d.r, d.s), d.n), d.i) h1 h2
  · rw [e]; exact m.rng (a.g, ((a.r, a.s), a.n), a.i) (b.g, ((b.r, b.s), b.n), b.i)
theorem cmp_gen {a b : Stp} (h : a.g < b.g) : a.cmp b = -1 := by
  show tC _ _ _ _ _ _ _ _ _ _ = _
  unfold tC
  rw [if_neg (fun c => by omega)]
  unfold fC nC
  rw [if_pos h]; rfl
end Go.Proofs.YtjhgembcdndmkaaGreatDoor.St

namespace Go.Proofs.YtjhgembcdndmkaaGreatDoor.St
open Go Go.Proofs.YtjhgembcdndmkaaGreatDoor.Am Go.Proofs Go.RowKit
theorem fC_assoc (x y z : Int) : fC (fC x y 0) z 0 = fC x (fC y z 0) 0 := by unfold fC; (repeat' split) <;> omega
theorem fC_0 (y : Int) : fC 0 y 0 = y := by unfold fC; rw [if_pos rfl]; split <;> omega
theorem fC_1 {x : Int} (h : x ≠ 0) (y : Int) : fC x y 0 = x := by unfold fC; rw [if_neg h]
theorem fC_r (x : Int) : fC x 0 0 = x := by unfold fC; split <;> simp_all
theorem sC_cons (c d : UInt8) (l m : List UInt8) : sC (c :: l) (d :: m) = fC (nC (c.toNat : Int) (d.toNat : Int)) (sC l m) 0 := by
  show cmpI (cmpL (c :: l) (d :: m)) = _
  unfold cmpL nC
  by_cases c1 : c.toNat < d.toNat
  · rw [if_pos c1, if_pos (by omega), fC_1 (by decide)]; rfl
  · by_cases c2 : c.toNat = d.toNat
    · rw [if_neg c1, if_pos c2, if_neg (by omega), if_neg (by omega), fC_0]; rfl
    · rw [if_neg c1, if_neg c2, if_neg (by omega), if_pos (by omega), fC_1 (by decide)]; rfl
theorem sC_nil : sC [] [] = 0 := rfl
theorem sC_app : ∀ {x y : List UInt8} (u v : List UInt8), x.length = y.length → sC (x ++ u) (y ++ v) = fC (sC x y) (sC u v) 0
  | [], [], u, v, _ => by rw [sC_nil, fC_0]; rfl
  | c :: x, d :: y, u, v, h => by
    rw [List.cons_append, List.cons_append, sC_cons, sC_cons, sC_app u v (by simpa using h), fC_assoc]
theorem sC_lab : ∀ {s t : List UInt8} (u v : List UInt8), (∀ c ∈ s, 0 < c.toNat) → (∀ c ∈ t, 0 < c.toNat) → sC (s ++ 0 :: u) (t ++ 0 :: v) = fC (sC s t) (sC u v) 0
  | [], [], u, v, _, _ => by rw [List.nil_append, List.nil_append, sC_cons, cm_n.refl, sC_nil]
  | [], d :: t, u, v, _, h => by
    have hd := h d (by simp)
    have e : nC (((0 : UInt8).toNat : Nat) : Int) (d.toNat : Int) = -1 := by unfold nC; rw [if_pos (by show (0 : Int) < _; omega)]
    rw [List.nil_append, List.cons_append, sC_cons, e, fC_1 (by decide), show sC [] (d :: t) = -1 from rfl, fC_1 (by decide)]
  | c :: s, [], u, v, h, _ => by
    have hd := h c (by simp)
    have e : nC (c.toNat : Int) (((0 : UInt8).toNat : Nat) : Int) = 1 := by unfold nC; rw [if_neg (by show ¬ _ < (0 : Int); omega), if_pos (by show (0 : Int) < _; omega)]
    rw [List.nil_append, List.cons_append, sC_cons, e, fC_1 (by decide), show sC (c :: s) [] = 1 from rfl, fC_1 (by decide)]
  | c :: s, d :: t, u, v, h1, h2 => by
    rw [List.cons_append, List.cons_append, sC_cons, sC_cons, sC_lab u v (fun x m => h1 x (List.mem_cons_of_mem _ m)) (fun x m => h2 x (List.mem_cons_of_mem _ m)), fC_assoc]
def dig : Nat → Nat → List UInt8
  | 0, _ => []
  | k + 1, g => UInt8.ofNat (g / 256 ^ k % 256) :: dig k g
theorem sC_dig : ∀ k g g', sC (dig k g) (dig k g') = nC ((g % 256 ^ k : Nat) : Int) ((g' % 256 ^ k : Nat) : Int)
  | 0, g, g' => by rw [Nat.pow_zero, Nat.mod_one, Nat.mod_one, cm_n.refl]; rfl
  | k + 1, g, g' => by
    unfold dig
    rw [sC_cons, sC_dig k g g']
    have hq : ∀ x : Nat, (UInt8.ofNat (x / 256 ^ k % 256)).toNat = x / 256 ^ k % 256 := fun x => by rw [UInt8.toNat_ofNat']; omega
    have hm : ∀ x : Nat, x % 256 ^ (k + 1) = x % 256 ^ k + 256 ^ k * (x / 256 ^ k % 256) := fun x => by rw [Nat.pow_succ, Nat.mod_mul]
    rw [hq, hq, hm, hm]
    have hP : 0 < 256 ^ k := Nat.pow_pos (by decide)
    have l1 := Nat.mod_lt g hP
    have l2 := Nat.mod_lt g' hP
    generalize g / 256 ^ k % 256 = q
    generalize g' / 256 ^ k % 256 = q'
    generalize g % 256 ^ k = r at *
    generalize g' % 256 ^ k = r' at *
    generalize 256 ^ k = P at *
    by_cases c1 : q < q'
    · have : P * q + P ≤ P * q' := by rw [← Nat.mul_succ]; exact Nat.mul_le_mul_left _ c1
      unfold nC
      rw [if_pos (show (q : Int) < (q' : Int) by omega), fC_1 (by decide), if_pos (by omega)]
    · by_cases c2 : q = q'
      · subst c2
        rw [cm_n.refl, fC_0]
        unfold nC
        by_cases c3 : r < r'
        · rw [if_pos (by omega), if_pos (by omega)]
        · by_cases c4 : r' < r
          · rw [if_neg (by omega), if_pos (by omega), if_neg (by omega), if_pos (by omega)]
          · rw [if_neg (by omega), if_neg (by omega), if_neg (by omega), if_neg (by omega)]
      · have : P * q' + P ≤ P * q := by rw [← Nat.mul_succ]; exact Nat.mul_le_mul_left _ (by omega)
        unfold nC
        rw [if_neg (show ¬ (q : Int) < (q' : Int) by omega), if_pos (show (q' : Int) < (q : Int) by omega), fC_1 (by decide), if_neg (by omega), if_pos (by omega)]
theorem u8I_nat (x : Nat) : u8I (x : Int) = UInt8.ofNat (x % 256) := by
  unfold u8I
  rw [show (x : Int) % 256 = ((x % 256 : Nat) : Int) from rfl, Int.toNat_natCast]
theorem eightB_dig (g : Nat) : eightB (g : Int) = dig 8 g := by
  unfold eightB
  simp only [List.map_cons, List.map_nil, dig]
  have e : ∀ k, k ≤ 64 → shrI (g : Int) k = ((g / 2 ^ k : Nat) : Int) := fun k hk => by
    show Int.ofNat (Nat.div g (Nat.pow 2 (bif Nat.ble k 64 then k else 64))) = _
    rw [ble_iff.2 hk]; rfl
  rw [e 56 (by omega), e 48 (by omega), e 40 (by omega), e 32 (by omega), e 24 (by omega), e 16 (by omega), e 8 (by omega), e 0 (by omega)]
  simp only [u8I_nat]
theorem sC_8 {g g' : Nat} (h : g < 18446744073709551616) (h' : g' < 18446744073709551616) : sC (eightB (g : Int)) (eightB (g' : Int)) = nC (g : Int) (g' : Int) := by
  rw [eightB_dig, eightB_dig, sC_dig, Nat.mod_eq_of_lt (Nat.lt_of_lt_of_le h (by decide)), Nat.mod_eq_of_lt (Nat.lt_of_lt_of_le h' (by decide))]
theorem sC_1 {r r' : Nat} (h : r < 256) (h' : r' < 256) : sC [u8I (r : Int)] [u8I (r' : Int)] = nC (r : Int) (r' : Int) := by
  rw [sC_cons, sC_nil, fC_r, u8I_nat, u8I_nat, UInt8.toNat_ofNat', UInt8.toNat_ofNat', show r % 256 % 2 ^ 8 = r by omega, show r' % 256 % 2 ^ 8 = r' by omega]
def Stp.ok (a : Stp) : Bool := stampB a.g a.r a.s a.n a.i
theorem low_pos {s : List UInt8} (h : labelB s = true) : ∀ c ∈ s, 0 < c.toNat := fun c m => by
  unfold labelB low at h
  rw [Bool.and_eq_true] at h
  have := List.all_eq_true.1 h.1 c m
  simp at this
  omega
theorem ok_all {a : Stp} (h : a.ok = true) : ∃ g r n i : Nat, a.g = g ∧ a.r = r ∧ a.n = n ∧ a.i = i ∧ g ≤ 4611686018427387904 ∧ r < 8 ∧ n ≤ 4611686018427387904 ∧ i < 64 ∧ a.s.length ≤ 12 ∧ a.s ≠ [] ∧ labelB a.s = true ∧ nameB a.r a.s a.n = true ∧ branchB a.r a.s = true := by
  obtain ⟨g1, g2, cn, i1, i2⟩ := stampB_nm h
  obtain ⟨cb, n1, n2⟩ := nameB_br cn
  obtain ⟨r0, r8, sl, sn⟩ := branchB_all cb
  refine ⟨a.g.toNat, a.r.toNat, a.n.toNat, a.i.toNat, by omega, by omega, by omega, by omega, by omega, by omega, by omega, by omega, sl, sn, ?_, cn, cb⟩
  unfold branchB at cb
  rw [Bool.and_eq_true, Bool.and_eq_true] at cb
  exact cb.2.2
theorem key_cmp {a b : Stp} (ha : a.ok = true) (hb : b.ok = true) : sC (keyB a.g a.r a.s a.n a.i) (keyB b.g b.r b.s b.n b.i) = a.cmp b := by
  obtain ⟨g, r, n, i, e1, e2, e3, e4, g1, r1, n1, i1, _, _, l1, _⟩ := ok_all ha
  obtain ⟨g', r', n', i', f1, f2, f3, f4, g2, r2, n2, i2, _, _, l2, _⟩ := ok_all hb
  have e : a.cmp b = fC (nC a.g b.g) (fC (nC a.r b.r) (fC (sC a.s b.s) (fC (nC a.n b.n) (nC a.i b.i) 0) 0) 0) 0 := by
    show tC _ _ _ _ _ _ _ _ _ _ = _
    unfold tC mC bC
    rw [fC3]
    split
    · rename_i c
      obtain ⟨c1, c2, c3, c4, c5⟩ := c
      rw [c1, c2, c3, c4, c5, cm_n.refl, cm_n.refl, cm_n.refl, cm_n.refl, cm_s.refl]; rfl
    · rw [fC_assoc, fC_assoc]
  rw [e, e1, e2, e3, e4, f1, f2, f3, f4]
  unfold keyB catB
  simp only [List.append_assoc, List.cons_append, List.nil_append]
  rw [sC_app (x := eightB (g : Int)) (y := eightB (g' : Int)) _ _ rfl, sC_8 (by omega) (by omega)]
  congr 1
  have h1 := sC_1 (r := r) (r' := r') (by omega) (by omega)
  rw [sC_cons, sC_nil, fC_r] at h1
  rw [sC_cons, h1]
  congr 1
  rw [sC_lab _ _ (low_pos l1) (low_pos l2)]
  congr 1
  rw [sC_app (x := eightB (n : Int)) (y := eightB (n' : Int)) _ _ rfl, sC_8 (by omega) (by omega), sC_1 (by omega) (by omega)]
end Go.Proofs.YtjhgembcdndmkaaGreatDoor.St

namespace Go.Proofs.YtjhgembcdndmkaaGreatDoor.St
open Go Go.Proofs.YtjhgembcdndmkaaGreatDoor.Am Go.Proofs Go.RowKit
theorem wread_num : ∀ (k w : Nat) {i n : Nat} (r : List UInt8), w < 2 ^ (7 * k) → i ≤ 9 → n < 2 ^ (7 * i) → n + w * 2 ^ (7 * i) < 18446744073709551616 → (0 < i → 0 < w) → wread anI shU orU64 (numB w ++ r) i (n : Int) = some (((n + w * 2 ^ (7 * i) : Nat) : Int), i + (numB w).length)
  | k, w, i, n, r, hk, hi, hn, hs, h0 => by
    have h9 : i = 9 → w ≤ 1 := fun c => by
      subst c
      have e : (2 : Nat) ^ (7 * 9) = 9223372036854775808 := by decide
      rw [e] at hs
      omega
    by_cases c : 127 < w
    · have hi9 : i < 9 := by
        rcases Nat.lt_or_ge i 9 with q | q
        · exact q
        · have := h9 (by omega); omega
      have hc : (UInt8.ofNat (w % 128 + 128)).toNat = w % 128 + 128 := by rw [UInt8.toNat_ofNat']; omega
      obtain ⟨s1, _, s3⟩ := num_step (i := i) (n := n) (c := w % 128 + 128) hi hn (by omega) (fun q => by omega)
      rw [show (w % 128 + 128) % 128 = w % 128 by omega] at s1 s3
      rw [numB_more c, List.cons_append]
      unfold wread
      rw [hc, if_neg (by omega), if_neg (by omega), s1]
      have e7 : 2 ^ (7 * (i + 1)) = 128 * 2 ^ (7 * i) := by rw [show 7 * (i + 1) = 7 + 7 * i by omega, Nat.pow_add]
      have ew : n + w % 128 * 2 ^ (7 * i) + w / 128 * 2 ^ (7 * (i + 1)) = n + w * 2 ^ (7 * i) := by
        rw [e7, Nat.add_assoc, ← Nat.mul_assoc, ← Nat.add_mul]
        congr 2
        omega
      match k, hk with
      | 0, hk => have : (2 : Nat) ^ (7 * 0) = 1 := rfl; omega
      | k + 1, hk =>
        have e128 : 2 ^ (7 * (k + 1)) = 128 * 2 ^ (7 * k) := by rw [show 7 * (k + 1) = 7 + 7 * k by omega, Nat.pow_add]
        rw [wread_num k (w / 128) r (by omega) (by omega) (s3 hi9) (by rw [ew]; exact hs) (fun _ => by omega), ew, List.length_cons]
        congr 2
        omega
    · have hc : (UInt8.ofNat w).toNat = w := by rw [UInt8.toNat_ofNat']; omega
      obtain ⟨s1, _, _⟩ := num_step (i := i) (n := n) (c := w) hi hn (by omega) (fun q => by have := h9 q.1; omega)
      rw [Nat.mod_eq_of_lt (show w < 128 by omega)] at s1
      rw [numB_last c, List.cons_append]
      unfold wread
      have hx : ¬ ((i = 9 ∧ 1 < w) ∨ (0 < i ∧ w = 0)) := by
        rintro (q | q)
        · have := h9 q.1; omega
        · have := h0 q.1; omega
      rw [hc, if_neg hx, if_pos (by omega), s1]; rfl
theorem numR_at {l pre rest : List UInt8} {w : Nat} (hl : l = pre ++ (numB w ++ rest)) (hw : w < 18446744073709551616) : numR l pre.length = some ((w : Int), (numB w).length) := by
  have hd : l.drop pre.length = numB w ++ rest := by rw [hl, List.drop_left]
  unfold numR
  rw [hd, show (0 : Int) = ((0 : Nat) : Int) from rfl, wread_num 10 w rest (Nat.lt_of_lt_of_le hw (by decide)) (by omega) (by decide) (by simpa using hw) (fun h => by omega)]
  simp
theorem num_at {l pre rest : List UInt8} {w : Nat} (hl : l = pre ++ (numB w ++ rest)) (hw : w < 18446744073709551616) : numV l pre.length = w ∧ numA l pre.length = pre.length + (numB w).length ∧ (numR l pre.length).isSome = true := by
  have := numR_at hl hw
  exact ⟨by unfold numV; rw [this]; rfl, by unfold numA; rw [this]; rfl, by rw [this]; rfl⟩
theorem g_at {l pre rest : List UInt8} {w : Nat} (hl : l = pre ++ (numB w ++ rest)) (hw : w ≤ 4611686018427387904) : gOk l pre.length = true ∧ gV l pre.length = w ∧ numA l pre.length = pre.length + (numB w).length := by
  obtain ⟨h1, h2, h3⟩ := num_at hl (by omega)
  have e : gOk l pre.length = true := by unfold gOk; rw [h3, h1]; simp; omega
  exact ⟨e, by unfold gV; rw [if_pos e, h1], h2⟩
theorem b_at {l pre rest s : List UInt8} (hl : l = pre ++ (bytB s ++ rest)) (hs : s.length ≤ 12) : bOk l pre.length = true ∧ bV l pre.length = s ∧ bytA l pre.length 12 = pre.length + (bytB s).length := by
  have hl' : l = pre ++ (numB s.length ++ (s ++ rest)) := by rw [hl]; unfold bytB; rw [List.append_assoc]
  obtain ⟨h1, h2, h3⟩ := num_at hl' (by omega)
  have hll : l.length = pre.length + ((numB s.length).length + (s.length + rest.length)) := by rw [hl']; simp
  have e : bytE l pre.length 12 = 0 := bytE_zero.2 ⟨h3, by rw [h1]; omega, by rw [h1, h2]; omega⟩
  have e2 : bOk l pre.length = true := by simpa [bOk] using e
  refine ⟨e2, ?_, ?_⟩
  · unfold bV bytV
    rw [if_pos e2, h1, h2, hl', ← List.append_assoc, show pre.length + (numB s.length).length = (pre ++ numB s.length).length by simp, List.drop_left, Int.toNat_natCast, List.take_left]
  · unfold bytA bytB
    rw [if_pos e, h1, h2, Int.toNat_natCast, List.length_append]; omega
theorem dec {a : Stp} (ha : a.ok = true) (rest : List UInt8) {l : List UInt8} (hl : l = putB a.g.toNat a.r.toNat a.s a.n.toNat a.i.toNat ++ rest) :
    tsV l 0 = .tup [.agg [int64 a.g, int64 a.r, strOf a.s, int64 a.n, int64 a.i], int64 0] ∧ tsOk l 0 = true ∧ gsA l 0 = (putB a.g.toNat a.r.toNat a.s a.n.toNat a.i.toNat).length := by
  have ok := ha
  obtain ⟨g, r, n, i, e1, e2, e3, e4, g1, r1, n1, i1, s12, sne, l1, cn, cb⟩ := ok_all ha
  unfold Stp.ok at ok
  rw [e1, e2, e3, e4] at ok ⊢
  rw [e1, e2, e3, e4] at hl
  simp only [Int.toNat_natCast] at hl ⊢
  have d0 : l = [] ++ (numB g ++ (numB r ++ bytB a.s ++ numB n ++ numB i ++ rest)) := by rw [hl]; unfold putB putnB putbB; simp
  have d1 : l = numB g ++ (numB r ++ (bytB a.s ++ numB n ++ numB i ++ rest)) := by rw [hl]; unfold putB putnB putbB; simp
  have d2 : l = (numB g ++ numB r) ++ (bytB a.s ++ (numB n ++ numB i ++ rest)) := by rw [hl]; unfold putB putnB putbB; simp
  have d3 : l = (numB g ++ numB r ++ bytB a.s) ++ (numB n ++ (numB i ++ rest)) := by rw [hl]; unfold putB putnB putbB; simp
  have d4 : l = (numB g ++ numB r ++ bytB a.s ++ numB n) ++ (numB i ++ rest) := by rw [hl]; unfold putB putnB putbB; simp
  obtain ⟨a1, a2, a3⟩ := g_at d0 g1
  obtain ⟨b1, b2, b3⟩ := g_at d1 (by omega)
  obtain ⟨c1, c2, c3⟩ := b_at d2 s12
  obtain ⟨p1, p2, p3⟩ := g_at d3 n1
  obtain ⟨q1, q2, q3⟩ := g_at d4 (by omega)
  have x1 : numA l 0 = (numB g).length := by simpa using a3
  have x2 : numA l (numA l 0) = (numB g ++ numB r).length := by rw [x1, b3]; simp
  have x3 : gbA l (numA l 0) = (numB g ++ numB r ++ bytB a.s).length := by unfold gbA; rw [x2, c3]; simp; omega
  have x4 : gnA l (numA l 0) = (numB g ++ numB r ++ bytB a.s ++ numB n).length := by unfold gnA; rw [x3, p3]; simp; omega
  have x5 : gsA l 0 = (putB g r a.s n i).length := by unfold gsA; rw [x4, q3]; unfold putB putnB putbB; simp; omega
  have y0 : gOk l 0 = true := by simpa using a1
  have y1 : gV l 0 = g := by simpa using a2
  have ob : gbOk l (numA l 0) = true := by unfold gbOk; rw [x2, x1, b1, c1]; rfl
  have on : gnOk l (numA l 0) = true := by unfold gnOk; rw [ob, x3, p1]; rfl
  have os : gsOk l 0 = true := by unfold gsOk; rw [y0, on, x4, q1]; rfl
  have v1 : gV l (numA l 0) = r := by rw [x1, b2]
  have v2 : bV l (numA l (numA l 0)) = a.s := by rw [x2, c2]
  have v3 : gV l (gbA l (numA l 0)) = n := by rw [x3, p2]
  have v4 : gV l (gnA l (numA l 0)) = i := by rw [x4, q2]
  have ot : tsOk l 0 = true := by unfold tsOk; rw [os, y1, v1, v2, v3, v4]; simpa using ok
  refine ⟨?_, ot, x5⟩
  unfold tsV
  rw [if_pos ot, y1, v1, v2, v3, v4]
theorem form_inj {a b : Stp} (ha : a.ok = true) (hb : b.ok = true) {rest : List UInt8} (h : putB b.g.toNat b.r.toNat b.s b.n.toNat b.i.toNat = putB a.g.toNat a.r.toNat a.s a.n.toNat a.i.toNat ++ rest) : a = b := by
  obtain ⟨t1, _, _⟩ := dec ha rest h
  obtain ⟨t2, _, _⟩ := dec hb [] (l := putB b.g.toNat b.r.toNat b.s b.n.toNat b.i.toNat) (by simp)
  rw [t1] at t2
  cases a; cases b
  simp only [AV.tup.injEq, List.cons.injEq, AV.agg.injEq, AV.int.injEq, strOf_eq, true_and, and_true] at t2
  obtain ⟨h1, h2, h3, h4, h5⟩ := t2
  subst h1; subst h2; subst h3; subst h4; subst h5; rfl
theorem text_cuts {r : Nat} {s : List UInt8} (hb : branchB (r : Int) s = true) (g n i : Nat) : cuts 46 (textB g r s n i) = [Lib.itoa (g : Int), Lib.itoa (r : Int), s, Lib.itoa (n : Int), Lib.itoa (i : Int)] := by
  have e : textB g r s n i = Lib.itoa (g : Int) ++ 46 :: (Lib.itoa (r : Int) ++ 46 :: (s ++ 46 :: (Lib.itoa (n : Int) ++ 46 :: Lib.itoa (i : Int)))) := by
    rw [textB, dots3, textnB, dots2, textbB, dots2]; simp
  rw [e, cuts_at _ (dot_itoa g), cuts_at _ (dot_itoa r), cuts_at _ (branch_dot hb), cuts_at _ (dot_itoa n), cuts_none (dot_itoa i)]
theorem parse_back {a : Stp} (ha : a.ok = true) : parsesV (textB a.g.toNat a.r.toNat a.s a.n.toNat a.i.toNat) = .tup [.agg [int64 a.g, int64 a.r, strOf a.s, int64 a.n, int64 a.i], int64 0] := by
  have ok := ha
  obtain ⟨g, r, n, i, e1, e2, e3, e4, g1, r1, n1, i1, s12, sne, l1, cn, cb⟩ := ok_all ha
  unfold Stp.ok at ok
  rw [e1, e2, e3, e4] at ok ⊢
  rw [e2] at cb
  simp only [Int.toNat_natCast]
  unfold parsesV
  rw [text_cuts cb]
  have hc : chks (g : Int) (r : Int) a.s (n : Int) (i : Int) (textB g r a.s n i) = true := by
    unfold chks
    rw [ok]; simp
  simp only [readI_itoa (show g < 9223372036854775808 by omega), readI_itoa (show r < 9223372036854775808 by omega), readI_itoa (show n < 9223372036854775808 by omega), readI_itoa (show i < 9223372036854775808 by omega)]
  rw [hc]; rfl
theorem text_inj {a b : Stp} (ha : a.ok = true) (hb : b.ok = true) (h : textB a.g.toNat a.r.toNat a.s a.n.toNat a.i.toNat = textB b.g.toNat b.r.toNat b.s b.n.toNat b.i.toNat) : a = b := by
  have t1 := parse_back ha
  rw [h, parse_back hb] at t1
  cases a; cases b
  simp only [AV.tup.injEq, List.cons.injEq, AV.agg.injEq, AV.int.injEq, strOf_eq, true_and, and_true] at t1
  obtain ⟨h1, h2, h3, h4, h5⟩ := t1
  subst h1; subst h2; subst h3; subst h4; subst h5; rfl
end Go.Proofs.YtjhgembcdndmkaaGreatDoor.St

namespace Go.Proofs.YtjhgembcdndmkaaGreatDoor.St
open Go Go.Proofs.YtjhgembcdndmkaaGreatDoor.Am Go.Proofs Go.RowKit
attribute [local simp] xr_mov xd_mov xr_pick xd_pick xr_bin xd_bin xr_un xd_un xr_build xd_build xr_convInt xd_convInt xr_mkFn xr_fld xd_fld xr_extract xd_extract xr_lenL xd_lenL xr_nilPtr xd_nilPtr xr_load1 xd_load1 xr_loadN xd_loadN xr_bytesStr xd_bytesStr xr_eqPtr xr_eqIfc xr_new xd_new xr_box xr_buildSl xd_buildSl xd_strBytes xr_mkSl xr_idxAddrSl xd_idxAddrSl xd_sliceSl orU_some orU_none lenSA_str lenSA_strOf lenLA_sl lenLA_nil xfn xcode xdrawn xr_nil xr_kg xr_kgu xr_cmp xcmp_some xr_call xr_store xr_append xd_append xap_sl xap_nl xapq_some xsrc_sl xsrc_nil xapp_grow xapp_room xset xown xnx_some xnp_some xnq_some xd_nil xdl_old xdl_new xda_some xd_call xd_store xd_kg xdn_some xld xal kindOf isAlloc allocs xins xrem xall xput xget xwhole xmine xcont xq xqs xres XS.add XR.out XR.outU XR.ups xsets XR.res Rs.seq Rs.inSc Rs.block mapO tupleA sv_args adv_eq tget eqs8 eqs7 eqi8 eqi7 eqg8 eql8 eqn8 eqn7 cells_strOf cells_int cells_agg cells_bool cells_str cells_sl cells_nil cells_ptr at_int at_str at_strOf at_bool at_sl at_nil at_ptr unstr_strOf unbyt_byt fill_nil fill_cons replA ev_tm ev_vl sv_stv bin_add bin_sub bin_mul bin_lss bin_leq bin_gtr bin_geq bin_eql bin_neq un_not un_neg nth0 nth1 nth2 xst_idxAddrSl xst_idxStr xst_sliceStr xst_sliceSl xsl_sl xbd slN Nat.testBit
theorem bin_neqB (no : Bool) (x y : Bool) : binA .neq .bool no (.bool x) (.bool y) = some (.bool (x != y)) := by cases x <;> cases y <;> rfl
noncomputable def Stp.av (a : Stp) : AV := .agg [int64 a.g, int64 a.r, strOf a.s, int64 a.n, int64 a.i]
noncomputable def Stp.cells (a : Stp) : List AV := [int64 a.g, int64 a.r, strOf a.s, int64 a.n, int64 a.i]
theorem order_q0 (a b c : Stp) (B : Pos) (k : Nat) (st : XS) (KK : List Ent) (env : T AV) (e3 : sv env 3 = .ptr (adv B 0) 0 0) (e4 : sv env 4 = .ptr (adv B 1) 0 0) (e5 : sv env 5 = .ptr (adv B 2) 0 0) (X : List XB)
    (hX : X = [⟨adv B 2, 0, true, c.cells⟩, ⟨adv B 1, 0, true, b.cells⟩, ⟨adv B 0, 0, true, a.cells⟩]) :
    ∃ env', xcode Tryz.prog [e_cmp, e_num, e_wleft] KK B k order_c0 env ⟨3, X⟩ = some (.upt [], env', ⟨3, X⟩) ∧ sv env' 75 = .bool false ∧ sv env' 3 = .ptr (adv B 0) 0 0 ∧ sv env' 4 = .ptr (adv B 1) 0 0 ∧ sv env' 5 = .ptr (adv B 2) 0 0 := by
  subst hX
  have t1 := cm_t.anti a b
  have t2 := cm_t.zero a b
  have t3 := cm_t.tr a b c
  have t4 := cm_t.rng a b
  have t5 := @cmp_gen a b
  have t6 := cm_t.rng b a
  have x1 := fun {U b' st} (hU : tget U 29 = some e_cmp) => x_cmp (U := U) (b := b') (st := st) hU a.g a.r a.s a.n a.i b.g b.r b.s b.n b.i
  have x2 := fun {U b' st} (hU : tget U 29 = some e_cmp) => x_cmp (U := U) (b := b') (st := st) hU b.g b.r b.s b.n b.i a.g a.r a.s a.n a.i
  have x3 := fun {U b' st} (hU : tget U 29 = some e_cmp) => x_cmp (U := U) (b := b') (st := st) hU b.g b.r b.s b.n b.i c.g c.r c.s c.n c.i
  have x4 := fun {U b' st} (hU : tget U 29 = some e_cmp) => x_cmp (U := U) (b := b') (st := st) hU a.g a.r a.s a.n a.i c.g c.r c.s c.n c.i
  change ∀ {U b' st}, _ → xcall U b' 29 _ st = some (XR.out b' st (.plain (int64 (a.cmp b)))) at x1
  change ∀ {U b' st}, _ → xcall U b' 29 _ st = some (XR.out b' st (.plain (int64 (b.cmp a)))) at x2
  change ∀ {U b' st}, _ → xcall U b' 29 _ st = some (XR.out b' st (.plain (int64 (b.cmp c)))) at x3
  change ∀ {U b' st}, _ → xcall U b' 29 _ st = some (XR.out b' st (.plain (int64 (a.cmp c)))) at x4
  have w : wrapA .i64 (-(b.cmp a)) = a.cmp b := by rw [w64 (by omega) (by omega)]; omega
  have hE : (a.g = b.g ∧ a.r = b.r ∧ a.s = b.s ∧ a.n = b.n ∧ a.i = b.i) = (a.cmp b = 0) := by
    apply propext
    constructor
    · rintro ⟨h1, h2, h3, h4, h5⟩
      have : a = b := by cases a; cases b; simp_all
      rw [this]; exact cm_t.refl b
    · intro h
      have := t2 h
      subst this; exact ⟨rfl, rfl, rfl, rfl, rfl⟩
  have E5 := eqG5 false a.g a.r a.s a.n a.i b.g b.r b.s b.n b.i
  rw [show decide (a.g = b.g ∧ a.r = b.r ∧ a.s = b.s ∧ a.n = b.n ∧ a.i = b.i) = decide (a.cmp b = 0) from by simp only [hE]] at E5
  generalize a.cmp b = p at *
  generalize b.cmp a = q at *
  generalize b.cmp c = r at *
  generalize a.cmp c = u at *
  have A1 : ((p = 0) = True ∧ (p ≤ 0) = True ∧ (r ≤ 0) = False ∧ (a.g < b.g) = False) ∨ ((p = 0) = True ∧ (p ≤ 0) = True ∧ (r ≤ 0) = True ∧ (0 < u) = False ∧ (a.g < b.g) = False) ∨ ((p = 0) = False ∧ (p ≤ 0) = False ∧ (a.g < b.g) = False) ∨ ((p = 0) = False ∧ (p ≤ 0) = True ∧ (r ≤ 0) = False ∧ (a.g < b.g) = False) ∨ ((p = 0) = False ∧ (p ≤ 0) = True ∧ (r ≤ 0) = True ∧ (0 < u) = False ∧ (a.g < b.g) = False) ∨
      (p = -1 ∧ (r ≤ 0) = False ∧ (a.g < b.g) = True) ∨ (p = -1 ∧ (r ≤ 0) = True ∧ (0 < u) = False ∧ (a.g < b.g) = True) := by
    simp only [eq_iff_iff, iff_true, iff_false]
    by_cases hg : a.g < b.g
    · have := t5 hg
      omega
    · omega
  unfold Stp.cells
  rcases A1 with ⟨a1, a2, a3, a4⟩ | ⟨a1, a2, a3, a5, a4⟩ | ⟨a1, a2, a4⟩ | ⟨a1, a2, a3, a4⟩ | ⟨a1, a2, a3, a5, a4⟩ | ⟨rfl, a3, a4⟩ | ⟨rfl, a3, a5, a4⟩
  · simp [order_c0, e3, e4, e5, x1, x2, x3, x4, f_cmp, w, E5, bin_neqB, a1, a2, a3, a4]
  · simp [order_c0, e3, e4, e5, x1, x2, x3, x4, f_cmp, w, E5, bin_neqB, a1, a2, a3, a5, a4]
  · simp [order_c0, e3, e4, e5, x1, x2, x3, x4, f_cmp, w, E5, bin_neqB, a1, a2, a4]
  · simp [order_c0, e3, e4, e5, x1, x2, x3, x4, f_cmp, w, E5, bin_neqB, a1, a2, a3, a4]
  · simp [order_c0, e3, e4, e5, x1, x2, x3, x4, f_cmp, w, E5, bin_neqB, a1, a2, a3, a5, a4]
  · simp [order_c0, e3, e4, e5, x1, x2, x3, x4, f_cmp, w, E5, bin_neqB, a3, a4]
  · simp [order_c0, e3, e4, e5, x1, x2, x3, x4, f_cmp, w, E5, bin_neqB, a3, a5, a4]
end Go.Proofs.YtjhgembcdndmkaaGreatDoor.St

namespace Go.Proofs.YtjhgembcdndmkaaGreatDoor.St
open Go Go.Proofs.YtjhgembcdndmkaaGreatDoor.Am Go.Proofs Go.RowKit
attribute [local simp] xr_mov xd_mov xr_pick xd_pick xr_bin xd_bin xr_un xd_un xr_build xd_build xr_convInt xd_convInt xr_mkFn xr_fld xd_fld xr_extract xd_extract xr_lenL xd_lenL xr_nilPtr xd_nilPtr xr_load1 xd_load1 xr_loadN xd_loadN xr_bytesStr xd_bytesStr xr_eqPtr xr_eqIfc xr_new xd_new xr_box xr_buildSl xd_buildSl xd_strBytes xr_mkSl xr_idxAddrSl xd_idxAddrSl xd_sliceSl orU_some orU_none lenSA_str lenSA_strOf lenLA_sl lenLA_nil xfn xcode xdrawn xr_nil xr_kg xr_kgu xr_cmp xcmp_some xr_call xr_store xr_append xd_append xap_sl xap_nl xapq_some xsrc_sl xsrc_nil xapp_grow xapp_room xset xown xnx_some xnp_some xnq_some xd_nil xdl_old xdl_new xda_some xd_call xd_store xd_kg xdn_some xld xal kindOf isAlloc allocs xins xrem xall xput xget xwhole xmine xcont xq xqs xres XS.add XR.out XR.outU XR.ups xsets XR.res Rs.seq Rs.inSc Rs.block mapO tupleA sv_args adv_eq tget eqs8 eqs7 eqi8 eqi7 eqg8 eql8 eqn8 eqn7 cells_strOf cells_int cells_agg cells_bool cells_str cells_sl cells_nil cells_ptr at_int at_str at_strOf at_bool at_sl at_nil at_ptr unstr_strOf unbyt_byt fill_nil fill_cons replA ev_tm ev_vl sv_stv bin_add bin_sub bin_mul bin_lss bin_leq bin_gtr bin_geq bin_eql bin_neq un_not un_neg nth0 nth1 nth2 xst_idxAddrSl xst_idxStr xst_sliceStr xst_sliceSl xsl_sl xbd slN Nat.testBit
theorem takeB (l : List UInt8) (x : AV) : (byt l ++ [x]).take l.length = byt l := by
  rw [List.take_append_of_le_length (by rw [byt_length]; exact Nat.le_refl _), byt_take]
theorem adv_adv (b : Pos) (m : Nat) : ∀ n, adv (adv b m) n = adv b (m + n)
  | 0 => rfl
  | n + 1 => by show (adv (adv b m) n).succ = (adv b (m + n)).succ; rw [adv_adv b m n]
end Go.Proofs.YtjhgembcdndmkaaGreatDoor.St

namespace Go.Proofs.YtjhgembcdndmkaaGreatDoor.St
open Go Go.Proofs.YtjhgembcdndmkaaGreatDoor.Am Go.Proofs
theorem known_closed : closed Tryz.prog 8 (globN Tryz.prog) = true := by kernel_rfl
theorem known_fn (h : Hp) : AmFn Tryz.prog 8 [] h (.bool true) h := closed_fn known_closed h
end Go.Proofs.YtjhgembcdndmkaaGreatDoor.St

namespace Go.Proofs.YtjhgembcdndmkaaGreatDoor.St
open Go Go.Proofs.YtjhgembcdndmkaaGreatDoor.Am Go.Proofs Go.RowKit
noncomputable def putP (φ : Phi) (p : Pos) (r : Nat × Int × Nat) : Phi := fun j k => if j = p ∧ k = 0 then some r else φ j k
theorem HR.place {P : Program} {φ : Phi} {h : Hp} {w : World} {r : Nat × Int × Nat} (hR : HR P φ h w) (hz : h.lim = 0) (he : h.heap = .e) (hp : (Pos.ofNat (globN P)).num ≤ h.next.num) (hr : r.1 < w.heap.size) : HR P (putP φ h.next r) ⟨.e, h.next.succ, h.ser, h.lim⟩ w := by
  have key : ∀ {id : Pos} {g : Nat} {x : Nat × Int × Nat}, putP φ h.next r id g = some x → (id = h.next ∧ x = r) ∨ φ id g = some x := fun {id g x} e => by
    unfold putP at e
    split at e
    · rename_i c; cases e; exact .inl ⟨c.1, rfl⟩
    · exact .inr e
  have nro : ∀ id, ¬ Nonro (⟨.e, h.next.succ, h.ser, h.lim⟩ : Hp) id := fun id ⟨x, e, _⟩ => by rw [T.get_e] at e; cases e
  refine ⟨fun id x e => (by rw [T.get_e] at e; cases e), fun id g x e => ?_, fun id x e => (by rw [T.get_e] at e; cases e), fun id g b s n id' g' s' n' _ _ => .inr ⟨nro _, nro _⟩, fun id g b s n e => ?_, fun g hg => ?_⟩
  · rcases key e with ⟨c, _⟩ | c
    · subst c; exact .inl (by rw [Pos.num_succ]; omega)
    · rcases hR.used _ _ _ c with q | ⟨q, _⟩
      · exact .inl (by show _ < h.next.succ.num; rw [Pos.num_succ]; omega)
      · exact absurd hz q
  · rcases key e with ⟨_, c⟩ | c
    · rw [← c] at hr; exact hr
    · exact hR.inb _ _ _ _ _ c
  · unfold putP
    rw [if_neg]
    · exact hR.glob g hg
    · rintro ⟨c, _⟩
      rw [Pos.num_ofNat] at hp
      have := congrArg Pos.num c
      rw [Pos.num_ofNat] at this
      omega
theorem HR.var {P : Program} {φ : Phi} {h : Hp} {w : World} {g : Nat} {l : List AV} {C : Array Value} {el : TypeId} {fr : Nat × Nat} (hR : HR P φ h w) (ho : AllRo h) (hz : h.lim = 0) (hn : (Pos.ofNat g).num < h.next.num) (hg : g < globN P) (hb : w.heap[g]? = some (.cells C el fr)) (hs : C.size = globSz g) (hr : RelL φ l C.toList) (hj : ∀ j, j ≠ 0 → φ (Pos.ofNat g) j = none) :
    HR P φ ⟨T.set (Pos.ofNat g) (some (tabB l)) h.heap, h.next, h.ser, h.lim⟩ w ∧ AllRo ⟨T.set (Pos.ofNat g) (some (tabB l)) h.heap, h.next, h.ser, h.lim⟩ := by
  have hget : ∀ id, T.get id (T.set (Pos.ofNat g) (some (tabB l)) h.heap) = if id = Pos.ofNat g then some (tabB l) else T.get id h.heap := fun id => T.get_set ..
  have ro : AllRo ⟨T.set (Pos.ofNat g) (some (tabB l)) h.heap, h.next, h.ser, h.lim⟩ := fun id ⟨x, e, q⟩ => by
    rw [hget] at e
    split at e
    · cases e
      have := q _ _ _ _ _ _ _ _ rfl
      cases this
    · exact ho id ⟨x, e, q⟩
  have hl : l.length = C.size := by have := hr.length; simpa using this
  refine ⟨⟨fun id x e => ?_, hR.used, fun id x e => ?_, fun id g y s n id' g' s' n' _ _ => .inr ⟨ro _, ro _⟩, hR.inb, hR.glob⟩, ro⟩
  · rw [hget] at e
    split at e
    · rename_i c
      cases e
      subst c
      refine ⟨⟨rfl, Nat.le_refl _, fun q => absurd q (Nat.lt_irrefl _), fun j hj' => hj j (by omega), fun j j' b1 s1 n1 s2 n2 k1 k2 k3 k4 e1 e2 => ?_, fun j k1 k2 => ?_⟩, fun _ _ _ _ _ _ _ _ _ _ _ => .inl rfl⟩
      · have : j = j' := by omega
        subst this
        rw [e1] at e2; cases e2; rfl
      · have : j = 0 := by omega
        subst this
        refine ⟨g, 0, globSz g, C, el, fr, hR.glob g hg, hb, hs, fun c => (by cases c), fun i v _ hi2 hv => ?_⟩
        have hv : l[i]? = some v := hv
        obtain ⟨x, hx, rx⟩ := hr.get hv
        exact ⟨i, x, by omega, by rw [← hx]; simp, rx⟩
    · exact hR.blk _ _ e
  · rw [hget] at e
    split at e
    · rename_i c
      subst c
      exact .inl hn
    · exact hR.dom _ _ e
noncomputable def gH (m : Int) (e1 e2 : AV) : Hp :=
  ⟨T.set (Pos.ofNat 3) (some (tabB (Lib.pow10Tab.map fun z => .int .u64 z))) (T.set (Pos.ofNat 2) (some (tabB [e2])) (T.set (Pos.ofNat 1) (some (tabB [e1])) (T.set (Pos.ofNat 0) (some (tabB [int64 m])) .e))), Pos.ofNat 6, 0, 0⟩
theorem gH_has (m : Int) {e1 e2 : AV} (h1 : ∃ t v, e1 = .ifc t v) (h2 : ∃ t v, e2 = .ifc t v) : HasG m e1 e2 (gH m e1 e2) := by
  have ne : ∀ i j : Nat, i ≠ j → Pos.ofNat i ≠ Pos.ofNat j := fun i j h c => by
    have := congrArg Pos.num c
    rw [Pos.num_ofNat, Pos.num_ofNat] at this; omega
  refine ⟨?_, ?_, ?_, ?_, h1, h2, Nat.le_refl _⟩ <;> unfold gH <;> simp only [T.get_set]
  · rw [if_neg (ne _ _ (by omega)), if_neg (ne _ _ (by omega)), if_neg (ne _ _ (by omega)), if_pos trivial]
  · rw [if_neg (ne _ _ (by omega)), if_neg (ne _ _ (by omega)), if_pos trivial]
  · rw [if_neg (ne _ _ (by omega)), if_pos trivial]
  · rw [if_pos trivial]
structure IsErr (w : World) (u : TypeId) (v : Value) (a : Addr) : Prop where
  val : v = .pointer (some a) ∨ v = .agg #[.pointer (some a)]
  spot : a.spot = none
  lies : a.block < w.heap.size
theorem IsErr.av {w : World} {u : TypeId} {v : Value} {a : Addr} (e : IsErr w u v a) (p : Pos) : ∃ x, (∃ t y, x = AV.ifc t y) ∧ ∀ φ, φ p 0 = some (a.block, (a.off : Int), 0) → Rel φ x (.iface u v) := by
  rcases e.val with rfl | rfl
  · exact ⟨.ifc u (.ptr p 0 0), ⟨_, _, rfl⟩, fun φ h => .ifc (.ptr h rfl (by simp) e.spot)⟩
  · exact ⟨.ifc u (.agg [.ptr p 0 0]), ⟨_, _, rfl⟩, fun φ h => .ifc (.agg (.cons (.ptr h rfl (by simp) e.spot) .nil))⟩
theorem start_has {W : World} {m : Int} {u1 u2 : TypeId} {v1 v2 : Value} {a1 a2 : Addr} {l0 l1 l2 l3 : TypeId} {f0 f1 f2 f3 : Nat × Nat} (hsz : 4 ≤ W.heap.size)
    (c0 : W.heap[0]? = some (.cells #[.int .i64 m] l0 f0)) (c1 : W.heap[1]? = some (.cells #[.iface u1 v1] l1 f1)) (c2 : W.heap[2]? = some (.cells #[.iface u2 v2] l2 f2)) (c3 : W.heap[3]? = some (.cells (Lib.pow10Tab.map fun z => Value.int .u64 z).toArray l3 f3))
    (i1 : IsErr W u1 v1 a1) (i2 : IsErr W u2 v2 a2) : ∃ φ e1 e2, HR Tryz.prog φ (gH m e1 e2) W ∧ AllRo (gH m e1 e2) ∧ HasG m e1 e2 (gH m e1 e2) := by
  have h0 : HR Tryz.prog (phi0 Tryz.prog) ⟨.e, Pos.ofNat 4, 0, 0⟩ W := start_rel (P := Tryz.prog) hsz
  have s4 : (Pos.ofNat 4).succ = Pos.ofNat 5 := by kernel_rfl
  have s5 : (Pos.ofNat 5).succ = Pos.ofNat 6 := by kernel_rfl
  have hA := HR.place h0 rfl rfl (by show (Pos.ofNat 4).num ≤ _; exact Nat.le_refl _) (r := (a1.block, (a1.off : Int), 0)) i1.lies
  have hB := HR.place hA rfl rfl (by show (Pos.ofNat 4).num ≤ (Pos.ofNat 4).succ.num; rw [Pos.num_succ]; omega) (r := (a2.block, (a2.off : Int), 0)) i2.lies
  obtain ⟨e1, k1, r1⟩ := i1.av (Pos.ofNat 4)
  obtain ⟨e2, k2, r2⟩ := i2.av (Pos.ofNat 5)
  have hne : Pos.ofNat 4 ≠ Pos.ofNat 5 := fun c => by
    have := congrArg Pos.num c
    rw [Pos.num_ofNat, Pos.num_ofNat] at this; omega
  have hB : HR Tryz.prog (putP (putP (phi0 Tryz.prog) (Pos.ofNat 4) (a1.block, (a1.off : Int), 0)) (Pos.ofNat 5) (a2.block, (a2.off : Int), 0)) ⟨.e, Pos.ofNat 6, 0, 0⟩ W := by rw [← s5, ← s4]; exact hB
  generalize hφ : putP (putP (phi0 Tryz.prog) (Pos.ofNat 4) (a1.block, (a1.off : Int), 0)) (Pos.ofNat 5) (a2.block, (a2.off : Int), 0) = φ at hB
  have q1 := r1 φ (by rw [← hφ]; unfold putP; rw [if_neg (fun c => hne c.1), if_pos ⟨rfl, rfl⟩])
  have q2 := r2 φ (by rw [← hφ]; unfold putP; rw [if_pos ⟨rfl, rfl⟩])
  have hj : ∀ g, ∀ j, j ≠ 0 → φ (Pos.ofNat g) j = none := fun g j h => by
    rw [← hφ]; unfold putP phi0
    rw [if_neg (fun c => h c.2), if_neg (fun c => h c.2), if_neg (fun c => h c.1)]
  have hn : ∀ g, g < 4 → (Pos.ofNat g).num < (Pos.ofNat 6).num := fun g h => by rw [Pos.num_ofNat, Pos.num_ofNat]; omega
  have ro0 : AllRo (⟨.e, Pos.ofNat 6, 0, 0⟩ : Hp) := fun id ⟨x, e, _⟩ => by rw [T.get_e] at e; cases e
  obtain ⟨d0, o0⟩ := HR.var hB ro0 rfl (hn 0 (by omega)) (show 0 < 4 by omega) c0 rfl (.cons (.int .i64 m) .nil) (hj 0)
  obtain ⟨d1, o1⟩ := HR.var d0 o0 rfl (hn 1 (by omega)) (show 1 < 4 by omega) c1 rfl (.cons q1 .nil) (hj 1)
  obtain ⟨d2, o2⟩ := HR.var d1 o1 rfl (hn 2 (by omega)) (show 2 < 4 by omega) c2 rfl (.cons q2 .nil) (hj 2)
  have hT : RelL φ (Lib.pow10Tab.map fun z => AV.int .u64 z) (Lib.pow10Tab.map fun z => Value.int .u64 z).toArray.toList := by
    generalize Lib.pow10Tab = L
    show RelL φ (L.map _) (L.map _)
    induction L with
    | nil => exact .nil
    | cons x L ih => exact .cons (.int _ _) ih
  obtain ⟨d3, o3⟩ := HR.var d2 o2 rfl (hn 3 (by omega)) (show 3 < 4 by omega) c3 rfl hT (hj 3)
  exact ⟨φ, e1, e2, d3, o3, gH_has m k1 k2⟩
theorem known_ok {m : Int} {t1 t2 : AV} : EntOK Tryz.prog (HasG m t1 t2) e_known := mkEnt_ok ok_known fun _ h _ _ _ => known_fn h
end Go.Proofs.YtjhgembcdndmkaaGreatDoor.St

namespace Go.Proofs.YtjhgembcdndmkaaGreatDoor.St
open Go Go.Proofs.YtjhgembcdndmkaaGreatDoor.Am Go.Proofs Go.RowKit
attribute [local simp] xr_mov xd_mov xr_pick xd_pick xr_bin xd_bin xr_un xd_un xr_build xd_build xr_convInt xd_convInt xr_mkFn xr_fld xd_fld xr_extract xd_extract xr_lenL xd_lenL xr_nilPtr xd_nilPtr xr_load1 xd_load1 xr_loadN xd_loadN xr_bytesStr xd_bytesStr xr_eqPtr xr_eqIfc xr_new xd_new xr_box xr_buildSl xd_buildSl xd_strBytes xr_mkSl xr_idxAddrSl xd_idxAddrSl xd_sliceSl orU_some orU_none lenSA_str lenSA_strOf lenLA_sl lenLA_nil xfn xcode xdrawn xr_nil xr_kg xr_kgu xr_cmp xcmp_some xr_call xr_store xr_append xd_append xap_sl xap_nl xapq_some xsrc_sl xsrc_nil xapp_grow xapp_room xset xown xnx_some xnp_some xnq_some xd_nil xdl_old xdl_new xda_some xd_call xd_store xd_kg xdn_some xld xal kindOf isAlloc allocs xins xrem xall xput xget xwhole xmine xcont xq xqs xres XS.add XR.out XR.outU XR.ups xsets XR.res Rs.seq Rs.inSc Rs.block mapO tupleA sv_args adv_eq tget eqs8 eqs7 eqi8 eqi7 eqg8 eql8 eqn8 eqn7 cells_strOf cells_int cells_agg cells_bool cells_str cells_sl cells_nil cells_ptr at_int at_str at_strOf at_bool at_sl at_nil at_ptr unstr_strOf unbyt_byt fill_nil fill_cons replA ev_tm ev_vl sv_stv bin_add bin_sub bin_mul bin_lss bin_leq bin_gtr bin_geq bin_eql bin_neq un_not un_neg nth0 nth1 nth2 xst_idxAddrSl xst_idxStr xst_sliceStr xst_sliceSl xsl_sl xbd slN Nat.testBit
noncomputable def e_wopen2 : Ent := mkEnt 18 1 [.sl 0] (fun z_ : Pos × (List UInt8) => [.sl z_.1 0 0 z_.2.length z_.2.length false 1]) (fun z_ => [byt z_.2]) (fun z_ => z_.2.length ≤ 9000 ∧ z_.2 ≠ []) (fun z_ => .outs [] (fun b => [byt z_.2 ++ [.int .u8 0], [.sl b 0 0 z_.2.length (z_.2.length + 1) true 1, int64 0]]) (fun b => .ptr (adv b 1) 0 0))
theorem f_wopen2 : e_wopen2.f = 18 := rfl
theorem x_wopen2 {U : List Ent} {b : Pos} {st : XS} (hU : tget U 18 = some e_wopen2) (q : Pos) (l : List UInt8) (hp : l.length ≤ 9000 ∧ l ≠ []) (hq : xqs st.X [.sl q 0 0 l.length l.length false 1] [.sl 0] = some [byt l]) (ho : ((.outs [] (fun b => [byt l ++ [.int .u8 0], [.sl b 0 0 l.length (l.length + 1) true 1, int64 0]]) (fun b => .ptr (adv b 1) 0 0) : XR).ups.all fun x => (xown st.X x.1 0).isSome) = true) : xcall U b 18 [.sl q 0 0 l.length l.length false 1] st = none ∧ xupd U b 18 [.sl q 0 0 l.length l.length false 1] st = some (XR.outU b st (.outs [] (fun b => [byt l ++ [.int .u8 0], [.sl b 0 0 l.length (l.length + 1) true 1, int64 0]]) (fun b => .ptr (adv b 1) 0 0))) :=
  xupd_at hU rfl hq (mkEnt_spec (by rintro ⟨a0, a1⟩ ⟨b0, b1⟩ h hc; simp only [List.cons.injEq, AV.agg.injEq, AV.tup.injEq, AV.int.injEq, AV.bool.injEq, AV.ptr.injEq, AV.sl.injEq, strOf_eq, byt_eq, map_strOf_eq, true_and, and_true, Int.natCast_inj] at h hc; simp [h, hc]) (q, l) hp) (by first | rfl | (split <;> rfl)) ho
noncomputable def e_order : Ent := mkEnt 5 3 [] (fun z_ : Stp × Stp × Stp => [Stp.av z_.1, Stp.av z_.2.1, Stp.av z_.2.2]) (fun _ => []) (fun z_ => z_.1.s.length ≤ 9223372036854775807 ∧ z_.2.1.s.length ≤ 9223372036854775807) (fun _ => .plain (.bool true))
theorem bin_gtrS (kd : EK) (no : Bool) (u v : List UInt8) : binA .gtr kd no (strOf u) (strOf v) = some (.bool (decide (0 < sC u v))) := by
  show (match ordOp .gtr (strCmp u.length (pack u) v.length (pack v)) with | some b => some (AV.bool b) | none => none) = _
  rw [cmp_str]
  unfold sC
  cases cmpL u v <;> rfl
theorem neG {ks : List LK} {l r : List AV} {x : Bool} (no : Bool) (h : sameKs ks l r = some x) : binA .neq (.flat ks) no (.agg l) (.agg r) = some (.bool (!x)) := by
  show (match sameKs ks l r with | some b => notIf true b | none => none) = _
  rw [h]; cases x <;> rfl
theorem neG5 (no : Bool) (g r : Int) (s : List UInt8) (n i g' r' : Int) (s' : List UInt8) (n' i' : Int) : binA .neq (.flat [.int, .int, .str, .int, .int]) no (.agg [int64 g, int64 r, strOf s, int64 n, int64 i]) (.agg [int64 g', int64 r', strOf s', int64 n', int64 i']) = some (.bool (!decide (g = g' ∧ r = r' ∧ s = s' ∧ n = n' ∧ i = i'))) := by
  rw [neG no (sksC (skI _ _) (sksC (skI _ _) (sksC (skS _ _) (sksC (skI _ _) (sksC (skI _ _) sks_nil)))))]
  simp
section
variable {m : Int} {t1 t2 : AV}
theorem wopen2_ok : EntOK Tryz.prog (HasG m t1 t2) e_wopen2 := mkEnt_ok ok_wopen fun z h g hz hc => by
  obtain ⟨q, l⟩ := z
  obtain ⟨hl, n0⟩ : l.length ≤ 9000 ∧ l ≠ [] := hz
  obtain ⟨_, _, e, ⟨_, ev, w⟩, _⟩ := hc
  cases e; cases ev
  dsimp only at *
  have w1 : wrapA .i64 ((l.length : Int) + 1) = (l.length : Int) + 1 := w64 (by omega) (by omega)
  obtain ⟨L, kq, tq, aq⟩ := slc_at' w
  have oq := kq.old
  have hX : AllH [⟨q, 0, false, L⟩] h := by
    intro x mx
    simp only [List.mem_cons, List.not_mem_nil, or_false] at mx
    subst mx; assumption
  refine outs_of [] _ _ [(adv h.next 0, 0), (adv h.next 1, 0)] (fun _ o => g.more o) (U := []) (K := []) (X := [⟨q, 0, false, L⟩]) (by simp) (by simp) 0 (.startX h hX (by simp) (by simp)) (by simp) wopen_code (by simp [wopen_fu]) (by simp) (by simp [adv_eq]) (w := .ptr (adv h.next 1) 0 0) (l1 := []) (l2 := [byt l ++ [.int .u8 0], [.sl (adv h.next 0) 0 0 l.length (l.length + 1) true 1, int64 0]]) ?_ .nil ?_ ?_
  · have g1 := eq_true (show (0 : Int) ≤ (l.length : Int) + 1 by omega)
    have g2 := eq_true (show (l.length : Int) + 1 ≤ 1073741824 by omega)
    have hd : (List.replicate l.length (AV.int .u8 0) ++ [AV.int .u8 0]).drop l.length = [.int .u8 0] := by rw [List.drop_append, List.drop_eq_nil_of_le (by simp)]; simp
    have n0 : l.length ≠ 0 := fun c => n0 (List.length_eq_zero_iff.1 c)
    have RM := fun (st : XS) (id : Pos) => xapp_room (b := h.next) (s := st) (bytes := 0) (k := 0) (cap := l.length + 1) (n := l.length) (id := id) (c := byt l) (by omega) (byt_atoms _) (byt_length _) n0 (by omega)
    simp [wopen_fu, owns, ownsG, xown, w1, tq, aq, g1, g2, replA_eq, RM, hd, adv_nf oq, adv_fn oq]
  · exact .cons (.self fun y my => by
        rcases List.mem_append.1 my with q | q
        · obtain ⟨j, hj, rfl⟩ := List.getElem_of_mem q
          exact plain_byt _ j _ (List.getElem?_eq_getElem hj)
        · simp at q; subst q; rfl) (.cons (.cons (.sl 0 rfl) (.cons (.plain rfl) .nil)) .nil)
  · exact .ptr 1 rfl
theorem order_ok (hk : EntOK Tryz.prog (HasG m t1 t2) e_known) : EntOK Tryz.prog (HasG m t1 t2) e_order := mkEnt_ok ok_order fun z h gg hz _ => by
  obtain ⟨a, b, c⟩ := z
  obtain ⟨ha, hb⟩ : a.s.length ≤ 9223372036854775807 ∧ b.s.length ≤ 9223372036854775807 := hz
  have gm : ∀ h h', HasG m t1 t2 h → Only [] h h' → HasG m t1 t2 h' := fun _ _ g o => g.more o
  refine plain_of (U := [e_cmp, e_num, e_wleft]) (K := [e_known, e_keyX, e_num, e_put, e_textsX, e_wopen2, e_tt, e_parses]) (fun _ o => gg.more o) (by simp [cmp_ok, num_ok, wleft_ok gm]) (by simp [hk.entK, keyX_ok.entK, num_ok.entK, put_ok.entK, textsX_ok.entK, wopen2_ok.entK, tt_ok.entK, parses_ok.entK]) 10 order_code (by simp [order_fu]) rfl ?_
  have h6 : ∀ j, (Pos.ofNat 6).num ≤ (adv h.next j).num := fun j => by have := gg.old; rw [adv_num]; omega
  have ka := fun {U b' st} (hU : tget U 30 = some e_keyX) => x_keyX (U := U) (b := b') (st := st) hU a.g a.r a.s a.n a.i ha
  have kb := fun {U b' st} (hU : tget U 30 = some e_keyX) => x_keyX (U := U) (b := b') (st := st) hU b.g b.r b.s b.n b.i hb
  show Option.map (fun x => x.1) (xfn Tryz.prog _ _ _ _ order_fu [.agg [int64 a.g, int64 a.r, strOf a.s, int64 a.n, int64 a.i], .agg [int64 b.g, int64 b.r, strOf b.s, int64 b.n, int64 b.i], .agg [int64 c.g, int64 c.r, strOf c.s, int64 c.n, int64 c.i]] _) = _
  obtain ⟨env1, R0, z0, z3, z4, z5⟩ := order_q0 a b c h.next 10 ⟨0, []⟩ [e_known, e_keyX, e_num, e_put, e_textsX, e_wopen2, e_tt, e_parses] (stv (stv (stv (stv (stv (stv (setArgs .e 0 [.agg [int64 a.g, int64 a.r, strOf a.s, int64 a.n, int64 a.i], .agg [int64 b.g, int64 b.r, strOf b.s, int64 b.n, int64 b.i], .agg [int64 c.g, int64 c.r, strOf c.s, int64 c.n, int64 c.i]]) 3 (.ptr (adv h.next 0) 0 0)) 4 (.ptr (adv h.next 1) 0 0)) 5 (.ptr (adv h.next 2) 0 0)) 6 (.bool false)) 25 (.bool true)) 26 (.bool false)) (by simp [sv_stv]) (by simp [sv_stv]) (by simp [sv_stv]) _ rfl
  unfold Stp.cells at R0
  have w0 : wrapA .i64 0 = 0 := w64 (by omega) (by omega)
  have w2 : wrapA .i64 2 = 2 := w64 (by omega) (by omega)
  have w4 : wrapA .i64 4 = 4 := w64 (by omega) (by omega)
  cases oa : a.ok
  · have oa' : stampB a.g a.r a.s a.n a.i = false := oa
    cases ob : b.ok
    · have ob' : stampB b.g b.r b.s b.n b.i = false := ob
      simp [order_fu, x_known, f_known, R0, z0, z3, z4, z5, ka, kb, f_keyX, oa', ob', x_num, f_num, w0, w2, w4]
    · have ob' : stampB b.g b.r b.s b.n b.i = true := ob
      simp [order_fu, x_known, f_known, R0, z0, z3, z4, z5, ka, kb, f_keyX, oa', ob', x_num, f_num, w0, w2, w4]
  · have oa' : stampB a.g a.r a.s a.n a.i = true := oa
    cases ob : b.ok
    · have ob' : stampB b.g b.r b.s b.n b.i = false := ob
      simp [order_fu, x_known, f_known, R0, z0, z3, z4, z5, ka, kb, f_keyX, oa', ob', x_num, f_num, w0, w2, w4]
    · have ob' : stampB b.g b.r b.s b.n b.i = true := ob
      obtain ⟨g, r, n, i, e1, e2, e3, e4, g1, r1, n1, i1, sl, sn, l1, cn, cb⟩ := ok_all oa
      obtain ⟨g', r', n', i', e1', e2', e3', e4', g1', r1', n1', i1', sl', sn', l1', cn', cb'⟩ := ok_all ob
      have PA := fun {U b' st} (hU : tget U 31 = some e_put) ho => x_put (U := U) (b := b') (st := st) hU g r a.s n i (by rw [← e1, ← e2, ← e3, ← e4]; exact oa') ho
      have PB := fun {U b' st} (hU : tget U 31 = some e_put) ho => x_put (U := U) (b := b') (st := st) hU g' r' b.s n' i' (by rw [← e1', ← e2', ← e3', ← e4']; exact ob') ho
      rw [← e1, ← e2, ← e3, ← e4] at PA
      rw [← e1', ← e2', ← e3', ← e4'] at PB
      have TA := fun {U b' st} (hU : tget U 32 = some e_textsX) => x_textsX (U := U) (b := b') (st := st) hU a.g a.r a.s a.n a.i ha
      have TB := fun {U b' st} (hU : tget U 32 = some e_textsX) => x_textsX (U := U) (b := b') (st := st) hU b.g b.r b.s b.n b.i hb
      rw [oa', orNil_t, errB_t] at TA
      rw [ob', orNil_t, errB_t] at TB
      have hx : putB a.g.toNat a.r.toNat a.s a.n.toNat a.i.toNat = putB g r a.s n i := by rw [e1, e2, e3, e4]; rfl
      have hy : putB b.g.toNat b.r.toNat b.s b.n.toNat b.i.toNat = putB g' r' b.s n' i' := by rw [e1', e2', e3', e4']; rfl
      have hta : (textB a.g.toNat a.r.toNat a.s a.n.toNat a.i.toNat).length ≤ 9000 := by
        rw [e1, e2, e3, e4]
        simp only [Int.toNat_natCast]
        have il := itoa_length_le g (by omega)
        have il2 := itoa_length_le i (by omega)
        have tl := textnB_length_le (s := a.s) (show r < 18446744073709551616 by omega) (show n < 18446744073709551616 by omega)
        unfold textB
        rw [dots_length_le3]; omega
      obtain ⟨d1, d2, d3⟩ := dec oa [] (l := putB g r a.s n i) (by rw [hx]; simp)
      rw [hx] at d3
      have hxl : (putB g r a.s n i).length ≤ 9000 := by
        have := numB_len10 (m := g) (by omega)
        have := numB_len10 (m := r) (by omega)
        have := numB_len10 (m := n) (by omega)
        have := numB_len10 (m := i) (by omega)
        have := numB_len10 (m := a.s.length) (by omega)
        unfold putB putnB putbB bytB; simp; omega
      have hxn : putB g r a.s n i ≠ [] := by unfold putB; simp [numB_ne]
      have hyn : putB g' r' b.s n' i' ≠ [] := by unfold putB; simp [numB_ne]
      have hfi := fun (rest : List UInt8) => form_inj oa ob (rest := rest)
      rw [hx, hy] at hfi
      have hti := text_inj oa ob
      have hpb := parse_back oa
      have hkc := key_cmp oa ob
      have hkz := cm_s.zero (keyB a.g a.r a.s a.n a.i) (keyB b.g b.r b.s b.n b.i)
      have PR := fun {U b' st} (hU : tget U 13 = some e_parses) => x_parses (U := U) (b := b') (st := st) hU (textB a.g.toNat a.r.toNat a.s a.n.toNat a.i.toNat) hta
      rw [hpb] at PR
      have OP := fun {U b' st} (hU : tget U 18 = some e_wopen2) hq ho => x_wopen2 (U := U) (b := b') (st := st) hU (adv h.next 3) (putB g r a.s n i) ⟨hxl, hxn⟩ hq ho
      have TT := fun {U b' st} (hU : tget U 26 = some e_tt) hq ho => x_tt (U := U) (b := b') (st := st) hU (adv h.next 6) (adv h.next 5) 0 (putB g r a.s n i) ⟨by rw [Ne, adv_eq]; omega, Nat.zero_le _, hxl, h6 6⟩ hq ho
      rw [d1, d2, if_pos rfl, d3] at TT
      rw [show ((0 : Nat) : Int) = 0 from rfl] at TT
      have hkab : keyB a.g a.r a.s a.n a.i = keyB b.g b.r b.s b.n b.i ∨ keyB a.g a.r a.s a.n a.i ≠ keyB b.g b.r b.s b.n b.i := Decidable.em _
      by_cases hab : a = b
      · subst hab
        have hyx : putB g' r' a.s n' i' = putB g r a.s n i := hy.symm.trans hx
        rw [hyx] at PB
        have WL := fun {U b' st} (hU : tget U 19 = some e_wleft) hq => x_wleft (U := U) (b := b') (st := st) hU (adv h.next 6) (adv h.next 5) (putB g r a.s n i).length (putB g r a.s n i).length ⟨Nat.le_refl _, hxl⟩ hq
        have CM := fun {U b' st} (hU : tget U 29 = some e_cmp) => x_cmp (U := U) (b := b') (st := st) hU a.g a.r a.s a.n a.i a.g a.r a.s a.n a.i
        change ∀ {U b' st}, _ → xcall U b' 29 _ st = some (XR.out b' st (.plain (int64 (a.cmp a)))) at CM
        rw [cm_t.refl] at CM
        have E5 := eqF5 false a.g a.r a.s a.n a.i
        clear hfi hti hkz hkab hpb hkc PR
        have PR := fun {U b' st} (hU : tget U 13 = some e_parses) => x_parses (U := U) (b := b') (st := st) hU (textB a.g.toNat a.r.toNat a.s a.n.toNat a.i.toNat) hta
        rw [parse_back oa] at PR
        generalize putB g r a.s n i = x at *
        generalize textB a.g.toNat a.r.toNat a.s a.n.toNat a.i.toNat = ta at *
        generalize keyB a.g a.r a.s a.n a.i = kA at *
        simp [order_fu, order_c1, order_c2, x_known, f_known, R0, z0, z3, z4, z5, ka, kb, f_keyX, oa', ob', x_num, f_num, w0, w2, w4, PA, PB, f_put, TA, TB, f_textsX, OP, f_wopen2, TT, f_tt, PR, f_parses, XS.adds, atP, adv_adv, bin_eqlS, bin_neqS, bin_gtrS, takeB, byt_length, byt_take, neG5, bin_neqB, WL, CM, f_wleft, f_cmp, E5]
      · generalize putB g r a.s n i = x at *
        generalize putB g' r' b.s n' i' = y at *
        generalize textB a.g.toNat a.r.toNat a.s a.n.toNat a.i.toNat = ta at *
        generalize textB b.g.toNat b.r.toNat b.s b.n.toNat b.i.toNat = tb at *
        generalize keyB a.g a.r a.s a.n a.i = kA at *
        generalize keyB b.g b.r b.s b.n b.i = kB at *
        have WL := fun {U b' st} (hU : tget U 19 = some e_wleft) hq => x_wleft (U := U) (b := b') (st := st) hU (adv h.next 6) (adv h.next 5) x.length x.length ⟨Nat.le_refl _, hxl⟩ hq
        have CM := fun {U b' st} (hU : tget U 29 = some e_cmp) => x_cmp (U := U) (b := b') (st := st) hU a.g a.r a.s a.n a.i b.g b.r b.s b.n b.i
        change ∀ {U b' st}, _ → xcall U b' 29 _ st = some (XR.out b' st (.plain (int64 (a.cmp b)))) at CM
        have hE : (a.g = b.g ∧ a.r = b.r ∧ a.s = b.s ∧ a.n = b.n ∧ a.i = b.i) → a = b := by
          rintro ⟨h1, h2, h3, h4, h5⟩
          cases a; cases b; simp_all
        have hrng := cm_t.rng a b
        have hty : (byt y).take x.length = byt (y.take x.length) := by unfold byt; rw [List.map_take]
        have hk : (kA = kB) = False := eq_false fun e => hab (cm_t.zero a b (by rw [← hkc, e]; exact cm_s.refl _))
        have hxy : (x = y) = False := eq_false fun e => hab (hfi [] (by rw [e]; simp))
        have htt : (ta = tb) = False := eq_false fun e => hab (hti e)
        have hne : a.cmp b ≠ 0 := fun e => hab (cm_t.zero a b e)
        have hpre : (y.take x.length = x) = False := eq_false fun e => hab (hfi (y.drop x.length) ((List.take_append_drop x.length y).symm.trans (by rw [e])))
        have E5 := eqG5 false a.g a.r a.s a.n a.i b.g b.r b.s b.n b.i
        rw [decide_eq_false fun q => hab (hE q)] at E5
        have L : ((y.length : Int) < (x.length : Int)) = True ∧ (y.length < x.length) = True ∨ ((y.length : Int) < (x.length : Int)) = False ∧ (y.length < x.length) = False ∧ (x.length ≤ y.length) = True := by simp only [eq_iff_iff, iff_true, iff_false]; omega
        by_cases hp : 0 < sC kA kB
        · have hp1 : a.cmp b = 1 := by rw [hkc] at hp; omega
          rw [hp1] at CM
          rcases L with ⟨q1, q2⟩ | ⟨q1, q2, q3⟩
          · simp [order_fu, order_c1, order_c2, x_known, f_known, R0, z0, z3, z4, z5, ka, kb, f_keyX, oa', ob', x_num, f_num, w0, w2, w4, PA, PB, f_put, TA, TB, f_textsX, OP, f_wopen2, TT, f_tt, PR, f_parses, XS.adds, atP, adv_adv, bin_eqlS, bin_neqS, bin_gtrS, takeB, byt_length, byt_take, neG5, bin_neqB, WL, CM, f_wleft, f_cmp, E5, hk, hp, hxy, htt, hpre, hty, q1, q2]
          · simp [order_fu, order_c1, order_c2, x_known, f_known, R0, z0, z3, z4, z5, ka, kb, f_keyX, oa', ob', x_num, f_num, w0, w2, w4, PA, PB, f_put, TA, TB, f_textsX, OP, f_wopen2, TT, f_tt, PR, f_parses, XS.adds, atP, adv_adv, bin_eqlS, bin_neqS, bin_gtrS, takeB, byt_length, byt_take, neG5, bin_neqB, WL, CM, f_wleft, f_cmp, E5, hk, hp, hxy, htt, hpre, hty, q1, q2, q3]
        · have hp1 : a.cmp b = -1 := by rw [hkc] at hp; omega
          rw [hp1] at CM
          rcases L with ⟨q1, q2⟩ | ⟨q1, q2, q3⟩
          · simp [order_fu, order_c1, order_c2, x_known, f_known, R0, z0, z3, z4, z5, ka, kb, f_keyX, oa', ob', x_num, f_num, w0, w2, w4, PA, PB, f_put, TA, TB, f_textsX, OP, f_wopen2, TT, f_tt, PR, f_parses, XS.adds, atP, adv_adv, bin_eqlS, bin_neqS, bin_gtrS, takeB, byt_length, byt_take, neG5, bin_neqB, WL, CM, f_wleft, f_cmp, E5, hk, hp, hxy, htt, hpre, hty, q1, q2]
          · simp [order_fu, order_c1, order_c2, x_known, f_known, R0, z0, z3, z4, z5, ka, kb, f_keyX, oa', ob', x_num, f_num, w0, w2, w4, PA, PB, f_put, TA, TB, f_textsX, OP, f_wopen2, TT, f_tt, PR, f_parses, XS.adds, atP, adv_adv, bin_eqlS, bin_neqS, bin_gtrS, takeB, byt_length, byt_take, neG5, bin_neqB, WL, CM, f_wleft, f_cmp, E5, hk, hp, hxy, htt, hpre, hty, q1, q2, q3]
end
end Go.Proofs.YtjhgembcdndmkaaGreatDoor.St

namespace Go.Proofs.YtjhgembcdndmkaaGreatDoor.St
open Go Go.Proofs.YtjhgembcdndmkaaGreatDoor.Am Go.Proofs Go.RowKit
section
attribute [local irreducible] Tree
theorem tree_stamp : treeB Tryz.prog (0 + 4) 37 = true := by kernel_rfl
theorem stamp_of {P : Program} {h : Hp} {d : Nat} {tS tN tB ti tj ts : TypeId} {f0 f1 f2 n0 n1 b0 b1 : Field} {l : List AV} (hS : P.underlying tS = some (.struct #[f0, f1, f2])) (hN : P.underlying tN = some (.struct #[n0, n1])) (hB : P.underlying tB = some (.struct #[b0, b1]))
    (cS : P.cellsOf tS = 5) (cN : P.cellsOf tN = 3) (cB : P.cellsOf tB = 2) (hi : P.underlying ti = some (.int .i64)) (hj : P.underlying tj = some (.int .i64)) (hs : P.underlying ts = some .string) (ci : P.cellsOf ti = 1) (cj : P.cellsOf tj = 1) (cs : P.cellsOf ts = 1)
    (p0 : f0.type = ti ∧ f0.offset = 0) (p1 : f1.type = tN ∧ f1.offset = 1) (p2 : f2.type = tj ∧ f2.offset = 4) (q0 : n0.type = tB ∧ n0.offset = 0) (q1 : n1.type = ti ∧ n1.offset = 2) (r0 : b0.type = tj ∧ b0.offset = 0) (r1 : b1.type = ts ∧ b1.offset = 1)
    (a : Tree P h (d + 4) tS l) : ∃ g r s n i, l = [int64 g, int64 r, strOf s, int64 n, int64 i] ∧ s.length ≤ reachBytes := by
  obtain ⟨q, qf⟩ := a.of_struct (d := d + 3) hS
  rw [cS] at q
  match l, q with
  | [x0, x1, x2, x3, x4], _ =>
    have k0 := qf f0 (by simp)
    have k1 := qf f1 (by simp)
    have k2 := qf f2 (by simp)
    rw [p0.1, p0.2, ci] at k0
    rw [p1.1, p1.2, cN] at k1
    rw [p2.1, p2.2, cj] at k2
    simp only [List.drop_zero, List.drop_succ_cons, List.take_succ_cons, List.take_zero] at k0 k1 k2
    obtain ⟨g, e0, _⟩ := k0.of_int (d := d + 2) hi
    obtain ⟨i, e4, _⟩ := k2.of_int (d := d + 2) hj
    obtain ⟨_, nf⟩ := k1.of_struct (d := d + 2) hN
    have m0 := nf n0 (by simp)
    have m1 := nf n1 (by simp)
    rw [q0.1, q0.2, cB] at m0
    rw [q1.1, q1.2, ci] at m1
    simp only [List.drop_zero, List.drop_succ_cons, List.take_succ_cons, List.take_zero] at m0 m1
    obtain ⟨n, e3, _⟩ := m1.of_int (d := d + 1) hi
    obtain ⟨_, bf⟩ := m0.of_struct (d := d + 1) hB
    have o0 := bf b0 (by simp)
    have o1 := bf b1 (by simp)
    rw [r0.1, r0.2, cj] at o0
    rw [r1.1, r1.2, cs] at o1
    simp only [List.drop_zero, List.drop_succ_cons, List.take_succ_cons, List.take_zero] at o0 o1
    obtain ⟨r, e1, _⟩ := o0.of_int (d := d) hj
    obtain ⟨s, e2, hs'⟩ := o1.of_string (d := d) hs
    cases e0; cases e1; cases e2; cases e3; cases e4
    exact ⟨g, r, s, n, i, rfl, hs'⟩
theorem stamp_cells {h : Hp} {l : List AV} (t : Tree Tryz.prog h (0 + 4) 37 l) : ∃ g r s n i, l = [int64 g, int64 r, strOf s, int64 n, int64 i] ∧ s.length ≤ reachBytes :=
  stamp_of (d := 0) Tryz.underlying37 Tryz.underlying31 Tryz.underlying24 (by kernel_rfl) (by kernel_rfl) (by kernel_rfl) Tryz.underlying2 Tryz.underlying3 Tryz.underlying9 (by kernel_rfl) (by kernel_rfl) (by kernel_rfl) ⟨rfl, rfl⟩ ⟨rfl, rfl⟩ ⟨rfl, rfl⟩ ⟨rfl, rfl⟩ ⟨rfl, rfl⟩ ⟨rfl, rfl⟩ ⟨rfl, rfl⟩ t
theorem order_walk {H : Type} {enc : TypeId × Value → H} {W : World} {k0 k1 k2 : Array Value} {d0 d1 d2 : DataW H} {p0 p1 p2 : List MemPlace} (h0 : DataW.Trod enc Tryz.prog W 0 (fun _ => true) true 37 (.agg k0) d0 p0) (hw0 : ∀ n ∈ d0.weights Tryz.prog 37, n ≤ reachBytes)
    (h1 : DataW.Trod enc Tryz.prog W 0 (fun _ => true) true 37 (.agg k1) d1 p1) (hw1 : ∀ n ∈ d1.weights Tryz.prog 37, n ≤ reachBytes) (h2 : DataW.Trod enc Tryz.prog W 0 (fun _ => true) true 37 (.agg k2) d2 p2) (hw2 : ∀ n ∈ d2.weights Tryz.prog 37, n ≤ reachBytes)
    {m : Int} {u1 u2 : TypeId} {v1 v2 : Value} {a1 a2 : Addr} {l0 l1 l2 l3 : TypeId} {f0 f1 f2 f3 : Nat × Nat} (hsz : 4 ≤ W.heap.size)
    (c0 : W.heap[0]? = some (.cells #[.int .i64 m] l0 f0)) (c1 : W.heap[1]? = some (.cells #[.iface u1 v1] l1 f1)) (c2 : W.heap[2]? = some (.cells #[.iface u2 v2] l2 f2)) (c3 : W.heap[3]? = some (.cells (Lib.pow10Tab.map fun z => Value.int .u64 z).toArray l3 f3))
    (i1 : IsErr W u1 v1 a1) (i2 : IsErr W u2 v2 a2) : Calls Tryz.prog 5 #[.agg k0, .agg k1, .agg k2] W fun e w' => e = .returned (.bool true) ∧ Below W.heap.size W w' := by
  obtain ⟨φ, e1, e2, hR, ro, hg⟩ := start_has hsz c0 c1 c2 c3 i1 i2
  obtain ⟨n0, h0⟩ := h0
  obtain ⟨n1, h1⟩ := h1
  obtain ⟨n2, h2⟩ := h2
  obtain ⟨φ0, hp0, L0, r0, z0, o0, _, m0, s0, t0, _⟩ := open_treeT (0 + 4) n0 37 _ _ tree_stamp h0 hw0 _ _ hR rfl ro
  obtain ⟨φ1, hp1, L1, r1, z1, o1, le1, m1, s1, t1, _⟩ := open_treeT (0 + 4) n1 37 _ _ tree_stamp h1 hw1 _ _ r0 z0 o0
  obtain ⟨φ2, hp2, L2, r2, z2, o2, le2, m2, s2, t2, _⟩ := open_treeT (0 + 4) n2 37 _ _ tree_stamp h2 hw2 _ _ r1 z1 o1
  have hg2 := ((hg.more m0).more m1).more m2
  obtain ⟨g, r, s, n, i, rfl, hl⟩ := stamp_cells t0
  obtain ⟨g', r', s', n', i', rfl, hl'⟩ := stamp_cells t1
  obtain ⟨g'', r'', s'', n'', i'', rfl, hl''⟩ := stamp_cells t2
  have hb : reachBytes ≤ 9223372036854775807 := Nat.le_of_ble_eq_true rfl
  have hp : (⟨g, r, s, n, i⟩ : Stp).s.length ≤ 9223372036854775807 ∧ (⟨g', r', s', n', i'⟩ : Stp).s.length ≤ 9223372036854775807 := ⟨Nat.le_trans hl hb, Nat.le_trans hl' hb⟩
  have hf : ∀ A B C : Stp, A.s.length ≤ 9223372036854775807 ∧ B.s.length ≤ 9223372036854775807 → AmFn Tryz.prog 5 [Stp.av A, Stp.av B, Stp.av C] hp2 (.bool true) hp2 := fun A B C hp => by
    have sp : e_order.spec [Stp.av A, Stp.av B, Stp.av C] [] = some (.plain (.bool true)) := mkEnt_spec (fun _ _ _ _ => rfl) (A, B, C) hp
    exact (order_ok known_ok).2 _ [] _ _ hg2 rfl sp rfl
  have hc2 : RelL φ2 [Stp.av ⟨g, r, s, n, i⟩, Stp.av ⟨g', r', s', n', i'⟩, Stp.av ⟨g'', r'', s'', n'', i''⟩] [.agg k0, .agg k1, .agg k2] := .cons (.agg ((s0.mono le1).mono le2)) (.cons (.agg (s1.mono le2)) (.cons (.agg s2) .nil))
  refine ((hf _ _ _ hp).calls r2 z2 (xs := #[.agg k0, .agg k1, .agg k2]) hc2).mono fun e w' ⟨φ', z, q1, q2, q3, q4⟩ => ?_
  cases q2
  exact ⟨q1, q4.below o2⟩
end
end Go.Proofs.YtjhgembcdndmkaaGreatDoor.St

namespace Go.Proofs.YtjhgembcdndmkaaGreatDoor.St
open Go Go.Proofs.YtjhgembcdndmkaaGreatDoor.Am Go.Proofs Go.RowKit
theorem laid_mem {P : Program} {w : World} : ∀ {laid : List (String × DataW Unit)} {ps : List MemPlace}, DataW.LaidVars P w laid ps → ∀ x ∈ laid, ∃ g t cs fuel p, P.globalNamed x.1 = some g ∧ (P.globals[g]?).map (·.type) = some t ∧ w.var? P x.1 = some cs ∧
    DataW.trod (fun _ => ()) P w 0 (fun _ => true) false fuel t cs.toList = some (x.2, p)
  | [], _, _, x, m => by cases m
  | (n, d) :: r, ps, h, x, m => by
    obtain ⟨g, t, cs, fuel, p, q, h1, h2, h3, h4, h5, _⟩ := h
    rcases List.mem_cons.1 m with rfl | m
    · exact ⟨g, t, cs, fuel, p, h1, h2, h3, h4⟩
    · exact laid_mem h5 x m
theorem var_cells {P : Program} {w : World} {n : String} {g : Nat} {cs : Array Value} (hg : P.globalNamed n = some g) (hv : w.var? P n = some cs) : ∃ el fr, w.heap[g]? = some (.cells cs el fr) := by
  unfold World.var? at hv
  rw [hg, Option.bind_some] at hv
  split at hv
  · rename_i C el fr h
    cases hv
    exact ⟨el, fr, h⟩
  · cases hv
theorem nil_lit {P : Program} {w : World} {fuel : Nat} {t : TypeId} {x : Lit} {p : List MemPlace} (h : DataW.trod (fun _ => ()) P w 0 (fun _ => true) false fuel t [] = some (.lit x, p)) : False := by
  cases fuel with
  | zero => cases h
  | succ fuel =>
    unfold DataW.trod at h
    split at h <;> first | contradiction | skip
    all_goals (split at h <;> first | (cases h; done) | (obtain ⟨_, _, q⟩ := Option.map_eq_some_iff.1 h; cases q; done))
theorem some_cells {P : Program} {w : World} {fuel : Nat} {t : TypeId} {c : List Value} {x : Lit} {p : List MemPlace} (h : DataW.trod (fun _ => ()) P w 0 (fun _ => true) false fuel t c = some (.agg [.lit x], p)) : c ≠ [] := by
  rintro rfl
  cases fuel with
  | zero => cases h
  | succ fuel =>
    unfold DataW.trod at h
    split at h <;> first | contradiction | skip
    · split at h
      · obtain ⟨xs, q, e⟩ := Option.map_eq_some_iff.1 h
        simp only [Prod.mk.injEq, DataW.agg.injEq] at e
        cases xs with
        | nil => cases e.1
        | cons y ys =>
          rename_i fs _ _
          have hl := mapM_some_length q
          have : 0 < fs.toList.length := by rw [← hl]; simp
          have q0 := mapM_some_get q 0 fs.toList[0] (by rw [List.getElem?_eq_getElem this])
          obtain ⟨e1, _⟩ := e
          simp only [List.map_cons, List.cons.injEq] at e1
          obtain ⟨y1, y2⟩ := y
          obtain ⟨rfl, _⟩ := e1
          simp only [List.drop_nil, List.take_nil, List.getElem?_cons_zero] at q0
          exact nil_lit q0
      · cases h
    · split at h
      · obtain ⟨xs, q, e⟩ := Option.map_eq_some_iff.1 h
        simp only [Prod.mk.injEq, DataW.agg.injEq] at e
        cases xs with
        | nil => cases e.1
        | cons y ys =>
          rename_i n _ _ _
          have hl := mapM_some_length q
          have : 0 < (List.range n).length := by rw [← hl]; simp
          have q0 := mapM_some_get q 0 (List.range n)[0] (by rw [List.getElem?_eq_getElem this])
          obtain ⟨e1, _⟩ := e
          simp only [List.map_cons, List.cons.injEq] at e1
          obtain ⟨y1, y2⟩ := y
          obtain ⟨rfl, _⟩ := e1
          simp only [List.drop_nil, List.take_nil, List.getElem?_cons_zero] at q0
          exact nil_lit q0
      · cases h
theorem ptr_told {P : Program} {w : World} {fuel : Nat} {t : TypeId} {c : List Value} {x : Lit} {p : List MemPlace} (h : DataW.trod (fun _ => ()) P w 0 (fun _ => true) false fuel t c = some (.ptr (.agg [.lit x]), p)) : ∃ a, c = [.pointer (some a)] ∧ a.spot = none ∧ a.block < w.heap.size := by
  cases fuel with
  | zero => cases h
  | succ fuel =>
    unfold DataW.trod at h
    split at h <;> first | (cases h; done) | skip
    case h_6 =>
      rename_i e a _
      obtain ⟨y, q, e1⟩ := Option.map_eq_some_iff.1 h
      obtain ⟨l, q1, q2⟩ := Option.bind_eq_some_iff.1 q
      obtain ⟨y1, y2⟩ := y
      cases e1
      have hne := some_cells q2
      unfold World.cells? at q1
      split at q1
      · have hl := mapM_some_length q1
        have hpos : 0 < (List.range (P.cellsOf e)).length := by rw [← hl]; exact List.length_pos_iff.2 hne
        have q0 := mapM_some_get q1 0 (List.range (P.cellsOf e))[0] (by rw [List.getElem?_eq_getElem hpos])
        have hl0 : 0 < l.length := List.length_pos_iff.2 hne
        rw [List.getElem?_eq_getElem hl0] at q0
        refine ⟨a, rfl, ?_⟩
        have ha : a.add (List.range (P.cellsOf e))[0] = a := by rw [List.getElem_range]; rfl
        rw [ha] at q0
        unfold World.cell? at q0
        split at q0
        · rename_i hc
          have hb := (Array.getElem?_eq_some_iff.1 hc).1
          split at q0
          · cases q0
          · rename_i hs
            refine ⟨?_, hb⟩
            cases hz : a.spot with
            | none => rfl
            | some _ => rw [hz] at hs; exact absurd rfl hs
        · cases q0
      · cases q1
    all_goals (try (split at h))
    all_goals (first | (cases h; done) | (obtain ⟨_, _, q⟩ := Option.map_eq_some_iff.1 h; cases q; done) | (obtain ⟨_, _, q⟩ := Option.bind_eq_some_iff.1 h; obtain ⟨_, _, q⟩ := Option.map_eq_some_iff.1 q; cases q; done) | (split at h; (obtain ⟨_, _, q⟩ := Option.bind_eq_some_iff.1 h; dsimp only at q; split at q <;> cases q); cases h; done) | skip)
theorem iface_told {P : Program} {w : World} {n : String} {g : Nat} {cs : Array Value} {t : TypeId} {fuel : Nat} {nm : String} {x : Lit} {p : List MemPlace} {ms : Array (String × TypeId)} (hg : P.globalNamed n = some g) (hv : w.var? P n = some cs)
    (ht : P.underlying t = some (.interface ms)) (h : DataW.trod (fun _ => ()) P w 0 (fun _ => true) false fuel t cs.toList = some (.iface nm (.ptr (.agg [.lit x])), p)) : ∃ u v a el fr, w.heap[g]? = some (.cells #[.iface u v] el fr) ∧ IsErr w u v a := by
  obtain ⟨el, fr, hc⟩ := var_cells hg hv
  have key : ∃ u v, cs.toList = [.iface u v] ∧ ∃ q, DataW.trod (fun _ => ()) P w 0 (fun _ => true) false (fuel - 1) u v.cells.toList = some (.ptr (.agg [.lit x]), q) := by
    cases fuel with
    | zero => cases h
    | succ fuel =>
      unfold DataW.trod at h
      rw [ht] at h
      generalize cs.toList = l at h
      cases l with
      | nil => cases h
      | cons y r => cases r with
        | cons z r => cases y <;> cases h
        | nil =>
          cases y <;> first | (cases h; done) | skip
          rename_i u v
          simp only at h
          cases hn : P.typeName? 3 u with
          | none => rw [hn] at h; cases h
          | some nn =>
            rw [hn] at h
            obtain ⟨⟨y1, y2⟩, q, e1⟩ := Option.map_eq_some_iff.1 h
            cases e1
            exact ⟨u, v, rfl, y2, q⟩
  obtain ⟨u, v, e, q, k⟩ := key
  obtain ⟨a, k1, k2, k3⟩ := ptr_told k
  have ec : cs = #[.iface u v] := by rw [← Array.toList_inj]; exact e
  subst ec
  refine ⟨u, v, a, el, fr, hc, ?_, k2, k3⟩
  cases v <;> first | (cases k1; exact .inl rfl) | (right; congr 1; rw [← Array.toList_inj]; exact k1) | (exfalso; cases k1; done)
end Go.Proofs.YtjhgembcdndmkaaGreatDoor.St
