import Derived.Test.YtjhgembcdndmkaaGreatDoorProg
import Derived.KernelRfl
import Derived.Test.YtjhgembcdndmkaaGreatDoorSxA
/- THE WALK'S PARTS, part B: what the functions of the law compute, over the abstract machine that stands beside this text. No condition. -/
set_option linter.unusedSimpArgs false
set_option linter.unusedVariables false
namespace Go.Proofs.YtjhgembcdndmkaaGreatDoor.St
open Go Go.Proofs.YtjhgembcdndmkaaGreatDoor.Am Go.Proofs Go.RowKit
attribute [local simp] xr_mov xd_mov xr_pick xd_pick xr_bin xd_bin xr_un xd_un xr_build xd_build xr_convInt xd_convInt xr_mkFn xr_fld xd_fld xr_extract xd_extract xr_lenL xd_lenL xr_nilPtr xd_nilPtr xr_load1 xd_load1 xr_loadN xd_loadN xr_bytesStr xd_bytesStr xr_eqPtr xr_eqIfc xr_new xd_new xr_box xr_buildSl xd_buildSl xd_strBytes xr_mkSl xr_idxAddrSl xd_idxAddrSl xd_sliceSl orU_some orU_none lenSA_str lenSA_strOf lenLA_sl lenLA_nil xfn xcode xdrawn xr_nil xr_kg xr_kgu xr_cmp xcmp_some xr_call xr_store xr_append xd_append xap_sl xap_nl xapq_some xsrc_sl xsrc_nil xapp_grow xapp_room xset xown xnx_some xnp_some xnq_some xd_nil xdl_old xdl_new xda_some xd_call xd_store xd_kg xdn_some xld xal kindOf isAlloc allocs xins xrem xall xput xget xwhole xmine xcont xq xqs xres XS.add XR.out XR.outU XR.ups xsets XR.res Rs.seq Rs.inSc Rs.block mapO tupleA sv_args adv_eq tget eqs8 eqs7 eqi8 eqi7 eqg8 eql8 eqn8 eqn7 cells_strOf cells_int cells_agg cells_bool cells_str cells_sl cells_nil cells_ptr at_int at_str at_strOf at_bool at_sl at_nil at_ptr unstr_strOf unbyt_byt fill_nil fill_cons replA ev_tm ev_vl sv_stv bin_add bin_sub bin_mul bin_lss bin_leq bin_gtr bin_geq bin_eql bin_neq un_not un_neg nth0 nth1 nth2 xst_idxAddrSl xst_idxStr xst_sliceStr xst_sliceSl xsl_sl xbd slN Nat.testBit
def chks (g r : Int) (l : List UInt8) (n i : Int) (s : List UInt8) : Bool := stampB g r l n i && decide (textB g.toNat r.toNat l n.toNat i.toNat = s)
noncomputable def anss (c : Bool) (g r : Int) (l : List UInt8) (n i : Int) : AV := if c then .tup [.agg [int64 g, int64 r, strOf l, int64 n, int64 i], int64 0] else .tup [.agg [int64 0, int64 0, .str 0 0, int64 0, int64 0], int64 4]
theorem anss_t (g r : Int) (l : List UInt8) (n i : Int) : anss true g r l n i = .tup [.agg [int64 g, int64 r, strOf l, int64 n, int64 i], int64 0] := rfl
theorem anss_f (g r : Int) (l : List UInt8) (n i : Int) : anss false g r l n i = .tup [.agg [int64 0, int64 0, .str 0 0, int64 0, int64 0], int64 4] := rfl
noncomputable def e_read : Ent := mkEnt 47 1 [] (fun z_ : (List UInt8) => [strOf z_]) (fun _ => []) (fun z_ => z_.length ≤ 20000) (fun z_ => .plain (int64 (readI z_)))
theorem f_read : e_read.f = 47 := rfl
theorem x_read {U : List Ent} {b : Pos} {st : XS} (hU : tget U 47 = some e_read) (s : List UInt8) (hp : s.length ≤ 20000) : xcall U b 47 [strOf s] st = some (XR.out b st (.plain (int64 (readI s)))) :=
  xcall_at hU rfl rfl (mkEnt_spec (by rintro a0 b0 h hc; simp only [List.cons.injEq, AV.agg.injEq, AV.tup.injEq, AV.int.injEq, AV.bool.injEq, AV.ptr.injEq, AV.sl.injEq, strOf_eq, byt_eq, map_strOf_eq, true_and, and_true, Int.natCast_inj] at h hc; simp [h, hc]) s hp) (by first | rfl | (split <;> rfl))
noncomputable def e_sames : Ent := mkEnt 58 3 [] (fun z_ : Int × Int × (List UInt8) × Int × Int × (List UInt8) => [.agg [int64 z_.1, int64 z_.2.1, strOf z_.2.2.1, int64 z_.2.2.2.1, int64 z_.2.2.2.2.1], strOf z_.2.2.2.2.2, .fn (.func 32) [] []]) (fun _ => []) (fun z_ => z_.2.2.1.length ≤ 9000) (fun z_ => .plain (anss (chks z_.1 z_.2.1 z_.2.2.1 z_.2.2.2.1 z_.2.2.2.2.1 z_.2.2.2.2.2) z_.1 z_.2.1 z_.2.2.1 z_.2.2.2.1 z_.2.2.2.2.1))
theorem f_sames : e_sames.f = 58 := rfl
theorem x_sames {U : List Ent} {b : Pos} {st : XS} (hU : tget U 58 = some e_sames) (g : Int) (r : Int) (l : List UInt8) (n : Int) (i : Int) (s : List UInt8) (hp : l.length ≤ 9000) : xcall U b 58 [.agg [int64 g, int64 r, strOf l, int64 n, int64 i], strOf s, .fn (.func 32) [] []] st = some (XR.out b st (.plain (anss (chks g r l n i s) g r l n i))) :=
  xcall_at hU rfl rfl (mkEnt_spec (by rintro ⟨a0, a1, a2, a3, a4, a5⟩ ⟨b0, b1, b2, b3, b4, b5⟩ h hc; simp only [List.cons.injEq, AV.agg.injEq, AV.tup.injEq, AV.int.injEq, AV.bool.injEq, AV.ptr.injEq, AV.sl.injEq, strOf_eq, byt_eq, map_strOf_eq, true_and, and_true, Int.natCast_inj] at h hc; simp [h, hc]) (g, r, l, n, i, s) hp) (by first | rfl | (split <;> rfl))
section
variable {m : Int} {t1 t2 : AV}
theorem read_ok : EntOK Tryz.prog (HasG m t1 t2) e_read := mkEnt_ok ok_read fun s h g hs _ => by
  refine plain_of (U := []) (K := [e_pint]) (fun _ o => g.more o) (by simp) (by simp [kit_pint]) 0 read_code (by simp [read_fu]) rfl ?_
  show _ = some (int64 (readI s))
  unfold readI
  cases hp : Lib.parseIntB 64 s <;> simp [read_fu, x_pint, f_pint, hs, hp]
theorem sames_ok : EntOK Tryz.prog (HasG m t1 t2) e_sames := mkEnt_ok ok_sames fun p h gg hs _ => by
  obtain ⟨g, r, l, n, i, s⟩ := p
  have hs : l.length ≤ 9000 := hs
  refine plain_of (U := []) (K := [e_texts]) (v := anss (chks g r l n i s) g r l n i) (fun _ o => gg.more o) (by simp) (by simp [texts_ok.entK]) 0 sames_code (by simp [sames_fu]) (by cases chks g r l n i s <;> rfl) ?_
  unfold chks
  cases hb : stampB g r l n i
  · simp [sames_fu, x_texts, f_texts, hs, hb, anss_f]
  · by_cases c : textB g.toNat r.toNat l n.toNat i.toNat = s <;> simp [sames_fu, x_texts, f_texts, hs, hb, c, anss_t, anss_f, bin_neqS]
end
end Go.Proofs.YtjhgembcdndmkaaGreatDoor.St

namespace Go.Proofs.YtjhgembcdndmkaaGreatDoor.St
open Go Go.Proofs.YtjhgembcdndmkaaGreatDoor.Am Go.Proofs Go.RowKit
attribute [local simp] xr_mov xd_mov xr_pick xd_pick xr_bin xd_bin xr_un xd_un xr_build xd_build xr_convInt xd_convInt xr_mkFn xr_fld xd_fld xr_extract xd_extract xr_lenL xd_lenL xr_nilPtr xd_nilPtr xr_load1 xd_load1 xr_loadN xd_loadN xr_bytesStr xd_bytesStr xr_eqPtr xr_eqIfc xr_new xd_new xr_box xr_buildSl xd_buildSl xd_strBytes xr_mkSl xr_idxAddrSl xd_idxAddrSl xd_sliceSl orU_some orU_none lenSA_str lenSA_strOf lenLA_sl lenLA_nil xfn xcode xdrawn xr_nil xr_kg xr_kgu xr_cmp xcmp_some xr_call xr_store xr_append xd_append xap_sl xap_nl xapq_some xsrc_sl xsrc_nil xapp_grow xapp_room xset xown xnx_some xnp_some xnq_some xd_nil xdl_old xdl_new xda_some xd_call xd_store xd_kg xdn_some xld xal kindOf isAlloc allocs xins xrem xall xput xget xwhole xmine xcont xq xqs xres XS.add XR.out XR.outU XR.ups xsets XR.res Rs.seq Rs.inSc Rs.block mapO tupleA sv_args adv_eq tget eqs8 eqs7 eqi8 eqi7 eqg8 eql8 eqn8 eqn7 cells_strOf cells_int cells_agg cells_bool cells_str cells_sl cells_nil cells_ptr at_int at_str at_strOf at_bool at_sl at_nil at_ptr unstr_strOf unbyt_byt fill_nil fill_cons replA ev_tm ev_vl sv_stv bin_add bin_sub bin_mul bin_lss bin_leq bin_gtr bin_geq bin_eql bin_neq un_not un_neg nth0 nth1 nth2 xst_idxAddrSl xst_idxStr xst_sliceStr xst_sliceSl xsl_sl xbd slN Nat.testBit
noncomputable def parsesV (s : List UInt8) : AV := match cuts 46 s with
  | [g, a, b, c, i] => anss (chks (readI g) (readI a) b (readI c) (readI i) s) (readI g) (readI a) b (readI c) (readI i)
  | _ => .tup [.agg [int64 0, int64 0, .str 0 0, int64 0, int64 0], int64 4]
noncomputable def e_parses : Ent := mkEnt 13 1 [] (fun z_ : (List UInt8) => [strOf z_]) (fun _ => []) (fun z_ => z_.length ≤ 9000) (fun z_ => .plain (parsesV z_))
theorem f_parses : e_parses.f = 13 := rfl
theorem x_parses {U : List Ent} {b : Pos} {st : XS} (hU : tget U 13 = some e_parses) (s : List UInt8) (hp : s.length ≤ 9000) : xcall U b 13 [strOf s] st = some (XR.out b st (.plain (parsesV s))) :=
  xcall_at hU rfl rfl (mkEnt_spec (by rintro a0 b0 h hc; simp only [List.cons.injEq, AV.agg.injEq, AV.tup.injEq, AV.int.injEq, AV.bool.injEq, AV.ptr.injEq, AV.sl.injEq, strOf_eq, byt_eq, map_strOf_eq, true_and, and_true, Int.natCast_inj] at h hc; simp [h, hc]) s hp) (by first | rfl | (split <;> rfl))
section
variable {m : Int} {t1 t2 : AV}
theorem parses_ok : EntOK Tryz.prog (HasG m t1 t2) e_parses := mkEnt_ok ok_parses fun s h g hs _ => by
  have hs : s.length ≤ 9000 := hs
  have hv : (parsesV s).plain = true := by unfold parsesV; split; (cases chks _ _ _ _ _ _ <;> rfl); rfl
  refine plain_of (U := [e_read, e_sames]) (K := [e_ssplit]) (v := parsesV s) (fun _ o => g.more o) (by simp [read_ok, sames_ok]) (by simp [kit_ssplit]) 0 parses_code (by simp [parses_fu]) hv ?_
  by_cases hl : (cuts 46 s).length = 5
  · have hc : ∃ g a b c i, cuts 46 s = [g, a, b, c, i] := by
      revert hl; generalize cuts 46 s = L; intro hl
      match L, hl with
      | [g, a, b, c, i], _ => exact ⟨g, a, b, c, i, rfl⟩
    obtain ⟨gg, a, b, c, i, hc⟩ := hc
    have hg : gg.length ≤ s.length := cuts_length (c := 46) (by rw [hc]; simp)
    have ha : a.length ≤ s.length := cuts_length (c := 46) (by rw [hc]; simp)
    have hb : b.length ≤ s.length := cuts_length (c := 46) (by rw [hc]; simp)
    have hcc : c.length ≤ s.length := cuts_length (c := 46) (by rw [hc]; simp)
    have hi : i.length ≤ s.length := cuts_length (c := 46) (by rw [hc]; simp)
    have hv : parsesV s = anss (chks (readI gg) (readI a) b (readI c) (readI i) s) (readI gg) (readI a) b (readI c) (readI i) := by unfold parsesV; rw [hc]
    rw [hv]
    cases hk : chks (readI gg) (readI a) b (readI c) (readI i) s <;> simp [parses_fu, x_ssplit, f_ssplit, x_read, f_read, x_sames, f_sames, hc, hk, anss_t, anss_f, show s.length ≤ 20000 by omega, show a.length ≤ 20000 by omega, show c.length ≤ 20000 by omega, show i.length ≤ 20000 by omega, show gg.length ≤ 20000 by omega, show b.length ≤ 9000 by omega]
  · have hv : parsesV s = .tup [.agg [int64 0, int64 0, .str 0 0, int64 0, int64 0], int64 4] := by
      unfold parsesV
      split
      · rename_i e; rw [e] at hl; simp at hl
      · rfl
    rw [hv]
    have hz : ¬ ((cuts 46 s).length : Int) = 5 := by omega
    simp [parses_fu, x_ssplit, f_ssplit, hz, show s.length ≤ 20000 by omega]
end
end Go.Proofs.YtjhgembcdndmkaaGreatDoor.St

namespace Go.Proofs.YtjhgembcdndmkaaGreatDoor.St
open Go Go.Proofs.YtjhgembcdndmkaaGreatDoor.Am Go.Proofs Go.RowKit
attribute [local simp] xr_mov xd_mov xr_pick xd_pick xr_bin xd_bin xr_un xd_un xr_build xd_build xr_convInt xd_convInt xr_mkFn xr_fld xd_fld xr_extract xd_extract xr_lenL xd_lenL xr_nilPtr xd_nilPtr xr_load1 xd_load1 xr_loadN xd_loadN xr_bytesStr xd_bytesStr xr_eqPtr xr_eqIfc xr_new xd_new xr_box xr_buildSl xd_buildSl xd_strBytes xr_mkSl xr_idxAddrSl xd_idxAddrSl xd_sliceSl orU_some orU_none lenSA_str lenSA_strOf lenLA_sl lenLA_nil xfn xcode xdrawn xr_nil xr_kg xr_kgu xr_cmp xcmp_some xr_call xr_store xr_append xd_append xap_sl xap_nl xapq_some xsrc_sl xsrc_nil xapp_grow xapp_room xset xown xnx_some xnp_some xnq_some xd_nil xdl_old xdl_new xda_some xd_call xd_store xd_kg xdn_some xld xal kindOf isAlloc allocs xins xrem xall xput xget xwhole xmine xcont xq xqs xres XS.add XR.out XR.outU XR.ups xsets XR.res Rs.seq Rs.inSc Rs.block mapO tupleA sv_args adv_eq tget eqs8 eqs7 eqi8 eqi7 eqg8 eql8 eqn8 eqn7 cells_strOf cells_int cells_agg cells_bool cells_str cells_sl cells_nil cells_ptr at_int at_str at_strOf at_bool at_sl at_nil at_ptr unstr_strOf unbyt_byt fill_nil fill_cons replA ev_tm ev_vl sv_stv bin_add bin_sub bin_mul bin_lss bin_leq bin_gtr bin_geq bin_eql bin_neq un_not un_neg nth0 nth1 nth2 xst_idxAddrSl xst_idxStr xst_sliceStr xst_sliceSl xsl_sl xbd slN Nat.testBit
noncomputable def eightB (n : Int) : List UInt8 := [56, 48, 40, 32, 24, 16, 8, 0].map fun i => u8I (shrI n i)
noncomputable def e_eight : Ent := mkEnt 81 1 [] (fun z_ : Int => [int64 z_]) (fun _ => []) (fun _ => True) (fun z_ => .row (byt (eightB z_)) (fun p => slN p 8 1))
theorem f_eight : e_eight.f = 81 := rfl
theorem x_eight {U : List Ent} {b : Pos} {st : XS} (hU : tget U 81 = some e_eight) (n : Int) : xcall U b 81 [int64 n] st = some (XR.out b st (.row (byt (eightB n)) (fun p => slN p 8 1))) :=
  xcall_at hU rfl rfl (mkEnt_spec (by rintro a0 b0 h hc; simp only [List.cons.injEq, AV.agg.injEq, AV.tup.injEq, AV.int.injEq, AV.bool.injEq, AV.ptr.injEq, AV.sl.injEq, strOf_eq, byt_eq, map_strOf_eq, true_and, and_true, Int.natCast_inj] at h hc; simp [h, hc]) n trivial) (by first | rfl | (split <;> rfl))
section
variable {m : Int} {t1 t2 : AV}
theorem byteV_int (n : Nat) : byteV n = .int .u8 (n : Int) := rfl
theorem eight_ok : EntOK Tryz.prog (HasG m t1 t2) e_eight := mkEnt_ok ok_eight fun n h g _ _ => by
  refine row_of (U := []) (K := []) (X := []) (fun _ o => g.more o) (by simp) (by simp) 10 (.start h) eight_code (by simp [eight_fu]) (fun y hy => by obtain ⟨c, _, rfl⟩ := List.mem_map.1 hy; rfl) ?_
  simp [eight_fu, eight_0, xloop, eightB, bin_shr', w64, wu64, w8, byt, byteV_int, rowOut_sl, xown]
end
end Go.Proofs.YtjhgembcdndmkaaGreatDoor.St

namespace Go.Proofs.YtjhgembcdndmkaaGreatDoor.St
open Go Go.Proofs.YtjhgembcdndmkaaGreatDoor.Am Go.Proofs Go.RowKit
attribute [local simp] xr_mov xd_mov xr_pick xd_pick xr_bin xd_bin xr_un xd_un xr_build xd_build xr_convInt xd_convInt xr_mkFn xr_fld xd_fld xr_extract xd_extract xr_lenL xd_lenL xr_nilPtr xd_nilPtr xr_load1 xd_load1 xr_loadN xd_loadN xr_bytesStr xd_bytesStr xr_eqPtr xr_eqIfc xr_new xd_new xr_box xr_buildSl xd_buildSl xd_strBytes xr_mkSl xr_idxAddrSl xd_idxAddrSl xd_sliceSl orU_some orU_none lenSA_str lenSA_strOf lenLA_sl lenLA_nil xfn xcode xdrawn xr_nil xr_kg xr_kgu xr_cmp xcmp_some xr_call xr_store xr_append xd_append xap_sl xap_nl xapq_some xsrc_sl xsrc_nil xapp_grow xapp_room xset xown xnx_some xnp_some xnq_some xd_nil xdl_old xdl_new xda_some xd_call xd_store xd_kg xdn_some xld xal kindOf isAlloc allocs xins xrem xall xput xget xwhole xmine xcont xq xqs xres XS.add XR.out XR.outU XR.ups xsets XR.res Rs.seq Rs.inSc Rs.block mapO tupleA sv_args adv_eq tget eqs8 eqs7 eqi8 eqi7 eqg8 eql8 eqn8 eqn7 cells_strOf cells_int cells_agg cells_bool cells_str cells_sl cells_nil cells_ptr at_int at_str at_strOf at_bool at_sl at_nil at_ptr unstr_strOf unbyt_byt fill_nil fill_cons replA ev_tm ev_vl sv_stv bin_add bin_sub bin_mul bin_lss bin_leq bin_gtr bin_geq bin_eql bin_neq un_not un_neg nth0 nth1 nth2 xst_idxAddrSl xst_idxStr xst_sliceStr xst_sliceSl xsl_sl xbd slN Nat.testBit
def catB (l0 l1 l2 l3 l4 l5 : List UInt8) : List UInt8 := l0 ++ l1 ++ l2 ++ l3 ++ l4 ++ l5
noncomputable def e_join : Ent := mkEnt 80 1 [.sl 0, .ssl 0 0, .ssl 0 1, .ssl 0 2, .ssl 0 3, .ssl 0 4, .ssl 0 5] (fun z_ : Pos × Pos × Pos × Pos × Pos × Pos × Pos × (List UInt8) × (List UInt8) × (List UInt8) × (List UInt8) × (List UInt8) × (List UInt8) => [.sl z_.1 0 0 6 6 true 1]) (fun z_ => [[.sl z_.2.1 0 0 z_.2.2.2.2.2.2.2.1.length z_.2.2.2.2.2.2.2.1.length false 1, .sl z_.2.2.1 0 0 z_.2.2.2.2.2.2.2.2.1.length z_.2.2.2.2.2.2.2.2.1.length true 1, .sl z_.2.2.2.1 0 0 z_.2.2.2.2.2.2.2.2.2.1.length z_.2.2.2.2.2.2.2.2.2.1.length false 1, .sl z_.2.2.2.2.1 0 0 z_.2.2.2.2.2.2.2.2.2.2.1.length z_.2.2.2.2.2.2.2.2.2.2.1.length true 1, .sl z_.2.2.2.2.2.1 0 0 z_.2.2.2.2.2.2.2.2.2.2.2.1.length z_.2.2.2.2.2.2.2.2.2.2.2.1.length false 1, .sl z_.2.2.2.2.2.2.1 0 0 z_.2.2.2.2.2.2.2.2.2.2.2.2.length z_.2.2.2.2.2.2.2.2.2.2.2.2.length true 1], byt z_.2.2.2.2.2.2.2.1, byt z_.2.2.2.2.2.2.2.2.1, byt z_.2.2.2.2.2.2.2.2.2.1, byt z_.2.2.2.2.2.2.2.2.2.2.1, byt z_.2.2.2.2.2.2.2.2.2.2.2.1, byt z_.2.2.2.2.2.2.2.2.2.2.2.2]) (fun z_ => ([z_.1, z_.2.1, z_.2.2.1, z_.2.2.2.1, z_.2.2.2.2.1, z_.2.2.2.2.2.1, z_.2.2.2.2.2.2.1].Pairwise (fun x y => x ≠ y)) ∧ z_.2.2.2.2.2.2.2.1 ≠ [] ∧ z_.2.2.2.2.2.2.2.2.1 ≠ [] ∧ z_.2.2.2.2.2.2.2.2.2.1 ≠ [] ∧ z_.2.2.2.2.2.2.2.2.2.2.1 ≠ [] ∧ z_.2.2.2.2.2.2.2.2.2.2.2.1 ≠ [] ∧ z_.2.2.2.2.2.2.2.2.2.2.2.2 ≠ [] ∧ (catB z_.2.2.2.2.2.2.2.1 z_.2.2.2.2.2.2.2.2.1 z_.2.2.2.2.2.2.2.2.2.1 z_.2.2.2.2.2.2.2.2.2.2.1 z_.2.2.2.2.2.2.2.2.2.2.2.1 z_.2.2.2.2.2.2.2.2.2.2.2.2).length ≤ 100000) (fun z_ => .row (byt (catB z_.2.2.2.2.2.2.2.1 z_.2.2.2.2.2.2.2.2.1 z_.2.2.2.2.2.2.2.2.2.1 z_.2.2.2.2.2.2.2.2.2.2.1 z_.2.2.2.2.2.2.2.2.2.2.2.1 z_.2.2.2.2.2.2.2.2.2.2.2.2)) (fun q => slN q (catB z_.2.2.2.2.2.2.2.1 z_.2.2.2.2.2.2.2.2.1 z_.2.2.2.2.2.2.2.2.2.1 z_.2.2.2.2.2.2.2.2.2.2.1 z_.2.2.2.2.2.2.2.2.2.2.2.1 z_.2.2.2.2.2.2.2.2.2.2.2.2).length 1))
theorem f_join : e_join.f = 80 := rfl
theorem x_join {U : List Ent} {b : Pos} {st : XS} (hU : tget U 80 = some e_join) (p : Pos) (p0 : Pos) (p1 : Pos) (p2 : Pos) (p3 : Pos) (p4 : Pos) (p5 : Pos) (l0 : List UInt8) (l1 : List UInt8) (l2 : List UInt8) (l3 : List UInt8) (l4 : List UInt8) (l5 : List UInt8) (hp : ([p, p0, p1, p2, p3, p4, p5].Pairwise (fun x y => x ≠ y)) ∧ l0 ≠ [] ∧ l1 ≠ [] ∧ l2 ≠ [] ∧ l3 ≠ [] ∧ l4 ≠ [] ∧ l5 ≠ [] ∧ (catB l0 l1 l2 l3 l4 l5).length ≤ 100000) (hq : xqs st.X [.sl p 0 0 6 6 true 1] [.sl 0, .ssl 0 0, .ssl 0 1, .ssl 0 2, .ssl 0 3, .ssl 0 4, .ssl 0 5] = some [[.sl p0 0 0 l0.length l0.length false 1, .sl p1 0 0 l1.length l1.length true 1, .sl p2 0 0 l2.length l2.length false 1, .sl p3 0 0 l3.length l3.length true 1, .sl p4 0 0 l4.length l4.length false 1, .sl p5 0 0 l5.length l5.length true 1], byt l0, byt l1, byt l2, byt l3, byt l4, byt l5]) : xcall U b 80 [.sl p 0 0 6 6 true 1] st = some (XR.out b st (.row (byt (catB l0 l1 l2 l3 l4 l5)) (fun q => slN q (catB l0 l1 l2 l3 l4 l5).length 1))) :=
  xcall_at hU rfl hq (mkEnt_spec (by rintro ⟨a0, a1, a2, a3, a4, a5, a6, a7, a8, a9, a10, a11, a12⟩ ⟨b0, b1, b2, b3, b4, b5, b6, b7, b8, b9, b10, b11, b12⟩ h hc; simp only [List.cons.injEq, AV.agg.injEq, AV.tup.injEq, AV.int.injEq, AV.bool.injEq, AV.ptr.injEq, AV.sl.injEq, strOf_eq, byt_eq, map_strOf_eq, true_and, and_true, Int.natCast_inj] at h hc; simp [h, hc]) (p, p0, p1, p2, p3, p4, p5, l0, l1, l2, l3, l4, l5) hp) (by first | rfl | (split <;> rfl))
theorem slc_at {h : Hp} {p : Pos} {n : Nat} {l : List AV} {ex : Bool} (c : SlC h (.sl p 0 0 n n ex 1) l) : ∃ L, XB.Holds h ⟨p, 0, false, L⟩ ∧ List.take n L = l ∧ n ≤ L.length := by
  generalize hv : AV.sl p 0 0 n n ex 1 = v at c
  cases c with
  | nil => cases hv
  | @mk id gg off n cap es e' L k hn =>
    cases hv
    exact ⟨L, k, by simp, by omega⟩
section
variable {m : Int} {t1 t2 : AV}
theorem join_ok : EntOK Tryz.prog (HasG m t1 t2) e_join := mkEnt_ok ok_join fun z h g hz hc => by
  obtain ⟨p, p0, p1, p2, p3, p4, p5, l0, l1, l2, l3, l4, l5⟩ := z
  obtain ⟨hp, n0, n1, n2, n3, n4, n5, hl⟩ := hz
  obtain ⟨_, _, e, ⟨_, ev, s⟩, _, _, e0, ⟨_, _, _, ev0, sa0, w0, s0⟩, _, _, e1, ⟨_, _, _, ev1, sa1, w1, s1⟩, _, _, e2, ⟨_, _, _, ev2, sa2, w2, s2⟩, _, _, e3, ⟨_, _, _, ev3, sa3, w3, s3⟩, _, _, e4, ⟨_, _, _, ev4, sa4, w4, s4⟩, _, _, e5, ⟨_, _, _, ev5, sa5, w5, s5⟩, _⟩ := hc
  cases e; cases e0; cases e1; cases e2; cases e3; cases e4; cases e5
  cases ev; cases ev0; cases ev1; cases ev2; cases ev3; cases ev4; cases ev5
  cases sa0.eq s; cases sa1.eq s; cases sa2.eq s; cases sa3.eq s; cases sa4.eq s; cases sa5.eq s
  cases w0; cases w1; cases w2; cases w3; cases w4; cases w5
  dsimp only at *
  obtain ⟨L, kp, tp, ap⟩ := slc_at s
  obtain ⟨L0, k0, t0, a0⟩ := slc_at s0
  obtain ⟨L1, k1, t1', a1⟩ := slc_at s1
  obtain ⟨L2, k2, t2', a2⟩ := slc_at s2
  obtain ⟨L3, k3, t3, a3⟩ := slc_at s3
  obtain ⟨L4, k4, t4, a4⟩ := slc_at s4
  obtain ⟨L5, k5, t5, a5⟩ := slc_at s5
  rw [← List.take_append_drop 6 L, tp] at kp
  generalize L.drop 6 = R at kp
  have hX : AllH [⟨p, 0, false, [.sl p0 0 0 l0.length l0.length false 1, .sl p1 0 0 l1.length l1.length true 1, .sl p2 0 0 l2.length l2.length false 1, .sl p3 0 0 l3.length l3.length true 1, .sl p4 0 0 l4.length l4.length false 1, .sl p5 0 0 l5.length l5.length true 1] ++ R⟩, ⟨p0, 0, false, L0⟩, ⟨p1, 0, false, L1⟩, ⟨p2, 0, false, L2⟩, ⟨p3, 0, false, L3⟩, ⟨p4, 0, false, L4⟩, ⟨p5, 0, false, L5⟩] h := by
    intro x mx
    simp only [List.mem_cons, List.not_mem_nil, or_false] at mx
    rcases mx with rfl | rfl | rfl | rfl | rfl | rfl | rfl <;> assumption
  have fr : ∀ {x : XB}, x.Holds h → h.next ≠ x.id := fun k c => by have := k.old; rw [← c] at this; omega
  have fp := fr kp; have f0 := fr k0; have f1 := fr k1; have f2 := fr k2; have f3 := fr k3; have f4 := fr k4; have f5 := fr k5
  have fs : ∀ {x : XB}, x.Holds h → (adv h.next 1) ≠ x.id := fun k c => by have := k.old; rw [← c, adv_num] at this; omega
  have gp := fs kp; have g0 := fs k0; have g1 := fs k1; have g2 := fs k2; have g3 := fs k3; have g4 := fs k4; have g5 := fs k5
  simp only at fp f0 f1 f2 f3 f4 f5 gp g0 g1 g2 g3 g4 g5
  have hp' := hp
  simp only [List.pairwise_cons, List.mem_cons, List.not_mem_nil, or_false, forall_eq_or_imp, forall_eq, ne_eq] at hp'
  obtain ⟨⟨c1, c2, c3, c4, c5, c6⟩, ⟨d1, d2, d3, d4, d5⟩, ⟨e1, e2, e3, e4⟩, ⟨i1, i2, i3⟩, ⟨j1, j2⟩, j3, _⟩ := hp'
  have z0 : l0.length ≠ 0 := fun c => n0 (List.length_eq_zero_iff.1 c)
  have z1 : l1.length ≠ 0 := fun c => n1 (List.length_eq_zero_iff.1 c)
  have z2 : l2.length ≠ 0 := fun c => n2 (List.length_eq_zero_iff.1 c)
  have z3 : l3.length ≠ 0 := fun c => n3 (List.length_eq_zero_iff.1 c)
  have z4 : l4.length ≠ 0 := fun c => n4 (List.length_eq_zero_iff.1 c)
  have z5 : l5.length ≠ 0 := fun c => n5 (List.length_eq_zero_iff.1 c)
  have hb : l0.length + l1.length + l2.length + l3.length + l4.length + l5.length ≤ 100000 := by simpa [catB, Nat.add_assoc] using hl
  refine row_of (U := []) (K := []) (fun _ o => g.more o) (by simp) (by simp) 10 (.startX h hX ?_ ?_) join_code (by simp [join_fu]) (byt_plain _) ?_
  · simpa using hp
  · intro x mx
    simp only [List.mem_cons, List.not_mem_nil, or_false] at mx
    rcases mx with rfl | rfl | rfl | rfl | rfl | rfl | rfl <;> rfl
  have ad0 : adv h.next 0 = h.next := rfl
  simp [join_fu, join_0, xloop, w64, rowOut_sl, xown, ad0, catB, byt_all, byt_len, byt_app, Nat.add_assoc, t0, t1', t2', t3, t4, t5, a0, a1, a2, a3, a4, a5, fp, f0, f1, f2, f3, f4, f5, gp, g0, g1, g2, g3, g4, g5, c1, c2, c3, c4, c5, c6, d1, d2, d3, d4, d5, e1, e2, e3, e4, i1, i2, i3, j1, j2, j3, z0, z1, z2, z3, z4, z5, show l0.length ≤ 1073741824 by omega, show l0.length + l1.length ≤ 1073741824 by omega, show l0.length + (l1.length + l2.length) ≤ 1073741824 by omega, show l0.length + (l1.length + (l2.length + l3.length)) ≤ 1073741824 by omega, show l0.length + (l1.length + (l2.length + (l3.length + l4.length))) ≤ 1073741824 by omega, show l0.length + (l1.length + (l2.length + (l3.length + (l4.length + l5.length)))) ≤ 1073741824 by omega]
end
end Go.Proofs.YtjhgembcdndmkaaGreatDoor.St

namespace Go.Proofs.YtjhgembcdndmkaaGreatDoor.St
open Go Go.Proofs.YtjhgembcdndmkaaGreatDoor.Am Go.Proofs Go.RowKit
attribute [local simp] xr_mov xd_mov xr_pick xd_pick xr_bin xd_bin xr_un xd_un xr_build xd_build xr_convInt xd_convInt xr_mkFn xr_fld xd_fld xr_extract xd_extract xr_lenL xd_lenL xr_nilPtr xd_nilPtr xr_load1 xd_load1 xr_loadN xd_loadN xr_bytesStr xd_bytesStr xr_eqPtr xr_eqIfc xr_new xd_new xr_box xr_buildSl xd_buildSl xd_strBytes xr_mkSl xr_idxAddrSl xd_idxAddrSl xd_sliceSl orU_some orU_none lenSA_str lenSA_strOf lenLA_sl lenLA_nil xfn xcode xdrawn xr_nil xr_kg xr_kgu xr_cmp xcmp_some xr_call xr_store xr_append xd_append xap_sl xap_nl xapq_some xsrc_sl xsrc_nil xapp_grow xapp_room xset xown xnx_some xnp_some xnq_some xd_nil xdl_old xdl_new xda_some xd_call xd_store xd_kg xdn_some xld xal kindOf isAlloc allocs xins xrem xall xput xget xwhole xmine xcont xq xqs xres XS.add XR.out XR.outU XR.ups xsets XR.res Rs.seq Rs.inSc Rs.block mapO tupleA sv_args adv_eq tget eqs8 eqs7 eqi8 eqi7 eqg8 eql8 eqn8 eqn7 cells_strOf cells_int cells_agg cells_bool cells_str cells_sl cells_nil cells_ptr at_int at_str at_strOf at_bool at_sl at_nil at_ptr unstr_strOf unbyt_byt fill_nil fill_cons replA ev_tm ev_vl sv_stv bin_add bin_sub bin_mul bin_lss bin_leq bin_gtr bin_geq bin_eql bin_neq un_not un_neg nth0 nth1 nth2 xst_idxAddrSl xst_idxStr xst_sliceStr xst_sliceSl xsl_sl xbd slN Nat.testBit
noncomputable def keyB (g r : Int) (l : List UInt8) (n i : Int) : List UInt8 := catB (eightB g) [u8I r] l [0] (eightB n) [u8I i]
theorem eightB_len (n : Int) : (eightB n).length = 8 := rfl
theorem eightB_ne (n : Int) : eightB n ≠ [] := fun c => by have := congrArg List.length c; cases this
theorem keyB_len (g r : Int) (l : List UInt8) (n i : Int) : (keyB g r l n i).length = l.length + 19 := by
  unfold keyB catB; simp [eightB_len]; omega
end Go.Proofs.YtjhgembcdndmkaaGreatDoor.St

namespace Go.Proofs.YtjhgembcdndmkaaGreatDoor.St
open Go Go.Proofs.YtjhgembcdndmkaaGreatDoor.Am Go.Proofs Go.RowKit
attribute [local simp] xr_mov xd_mov xr_pick xd_pick xr_bin xd_bin xr_un xd_un xr_build xd_build xr_convInt xd_convInt xr_mkFn xr_fld xd_fld xr_extract xd_extract xr_lenL xd_lenL xr_nilPtr xd_nilPtr xr_load1 xd_load1 xr_loadN xd_loadN xr_bytesStr xd_bytesStr xr_eqPtr xr_eqIfc xr_new xd_new xr_box xr_buildSl xd_buildSl xd_strBytes xr_mkSl xr_idxAddrSl xd_idxAddrSl xd_sliceSl orU_some orU_none lenSA_str lenSA_strOf lenLA_sl lenLA_nil xfn xcode xdrawn xr_nil xr_kg xr_kgu xr_cmp xcmp_some xr_call xr_store xr_append xd_append xap_sl xap_nl xapq_some xsrc_sl xsrc_nil xapp_grow xapp_room xset xown xnx_some xnp_some xnq_some xd_nil xdl_old xdl_new xda_some xd_call xd_store xd_kg xdn_some xld xal kindOf isAlloc allocs xins xrem xall xput xget xwhole xmine xcont xq xqs xres XS.add XR.out XR.outU XR.ups xsets XR.res Rs.seq Rs.inSc Rs.block mapO tupleA sv_args adv_eq tget eqs8 eqs7 eqi8 eqi7 eqg8 eql8 eqn8 eqn7 cells_strOf cells_int cells_agg cells_bool cells_str cells_sl cells_nil cells_ptr at_int at_str at_strOf at_bool at_sl at_nil at_ptr unstr_strOf unbyt_byt fill_nil fill_cons replA ev_tm ev_vl sv_stv bin_add bin_sub bin_mul bin_lss bin_leq bin_gtr bin_geq bin_eql bin_neq un_not un_neg nth0 nth1 nth2 xst_idxAddrSl xst_idxStr xst_sliceStr xst_sliceSl xsl_sl xbd slN Nat.testBit
theorem dots2 (a b : List UInt8) : dots [a, b] = a ++ 46 :: b := by unfold dots; simp [Lib.join, List.intercalate]
theorem dots3 (a b c : List UInt8) : dots [a, b, c] = a ++ 46 :: (b ++ 46 :: c) := by unfold dots; simp [Lib.join, List.intercalate]
end Go.Proofs.YtjhgembcdndmkaaGreatDoor.St

namespace Go.Proofs.YtjhgembcdndmkaaGreatDoor.St
open Go Go.Proofs.YtjhgembcdndmkaaGreatDoor.Am Go.Proofs Go.RowKit
attribute [local simp] xr_mov xd_mov xr_pick xd_pick xr_bin xd_bin xr_un xd_un xr_build xd_build xr_convInt xd_convInt xr_mkFn xr_fld xd_fld xr_extract xd_extract xr_lenL xd_lenL xr_nilPtr xd_nilPtr xr_load1 xd_load1 xr_loadN xd_loadN xr_bytesStr xd_bytesStr xr_eqPtr xr_eqIfc xr_new xd_new xr_box xr_buildSl xd_buildSl xd_strBytes xr_mkSl xr_idxAddrSl xd_idxAddrSl xd_sliceSl orU_some orU_none lenSA_str lenSA_strOf lenLA_sl lenLA_nil xfn xcode xdrawn xr_nil xr_kg xr_kgu xr_cmp xcmp_some xr_call xr_store xr_append xd_append xap_sl xap_nl xapq_some xsrc_sl xsrc_nil xapp_grow xapp_room xset xown xnx_some xnp_some xnq_some xd_nil xdl_old xdl_new xda_some xd_call xd_store xd_kg xdn_some xld xal kindOf isAlloc allocs xins xrem xall xput xget xwhole xmine xcont xq xqs xres XS.add XR.out XR.outU XR.ups xsets XR.res Rs.seq Rs.inSc Rs.block mapO tupleA sv_args adv_eq tget eqs8 eqs7 eqi8 eqi7 eqg8 eql8 eqn8 eqn7 cells_strOf cells_int cells_agg cells_bool cells_str cells_sl cells_nil cells_ptr at_int at_str at_strOf at_bool at_sl at_nil at_ptr unstr_strOf unbyt_byt fill_nil fill_cons replA ev_tm ev_vl sv_stv bin_add bin_sub bin_mul bin_lss bin_leq bin_gtr bin_geq bin_eql bin_neq un_not un_neg nth0 nth1 nth2 xst_idxAddrSl xst_idxStr xst_sliceStr xst_sliceSl xsl_sl xbd slN Nat.testBit
theorem xown_xset : ∀ {X : List XB} {id : Pos} {g g' : Nat} {l l' : List AV}, xown X id g = some l → xown (xset X id g' l') id g' = some l'
  | [], _, _, _, _, _, e => by cases e
  | x :: X, id, g, g', l, l', e => by
    unfold xset
    unfold xown at e
    by_cases c : x.id = id
    · rw [if_pos c]; unfold xown; simp
    · rw [if_neg c] at e ⊢
      unfold xown
      rw [if_neg c]
      exact xown_xset e
end Go.Proofs.YtjhgembcdndmkaaGreatDoor.St

namespace Go.Proofs.YtjhgembcdndmkaaGreatDoor.St
open Go Go.Proofs.YtjhgembcdndmkaaGreatDoor.Am Go.Proofs Go.RowKit
attribute [local simp] xr_mov xd_mov xr_pick xd_pick xr_bin xd_bin xr_un xd_un xr_build xd_build xr_convInt xd_convInt xr_mkFn xr_fld xd_fld xr_extract xd_extract xr_lenL xd_lenL xr_nilPtr xd_nilPtr xr_load1 xd_load1 xr_loadN xd_loadN xr_bytesStr xd_bytesStr xr_eqPtr xr_eqIfc xr_new xd_new xr_box xr_buildSl xd_buildSl xd_strBytes xr_mkSl xr_idxAddrSl xd_idxAddrSl xd_sliceSl orU_some orU_none lenSA_str lenSA_strOf lenLA_sl lenLA_nil xfn xcode xdrawn xr_nil xr_kg xr_kgu xr_cmp xcmp_some xr_call xr_store xr_append xd_append xap_sl xap_nl xapq_some xsrc_sl xsrc_nil xapp_grow xapp_room xset xown xnx_some xnp_some xnq_some xd_nil xdl_old xdl_new xda_some xd_call xd_store xd_kg xdn_some xld xal kindOf isAlloc allocs xins xrem xall xput xget xwhole xmine xcont xq xqs xres XS.add XR.out XR.outU XR.ups xsets XR.res Rs.seq Rs.inSc Rs.block mapO tupleA sv_args adv_eq tget eqs8 eqs7 eqi8 eqi7 eqg8 eql8 eqn8 eqn7 cells_strOf cells_int cells_agg cells_bool cells_str cells_sl cells_nil cells_ptr at_int at_str at_strOf at_bool at_sl at_nil at_ptr unstr_strOf unbyt_byt fill_nil fill_cons replA ev_tm ev_vl sv_stv bin_add bin_sub bin_mul bin_lss bin_leq bin_gtr bin_geq bin_eql bin_neq un_not un_neg nth0 nth1 nth2 xst_idxAddrSl xst_idxStr xst_sliceStr xst_sliceSl xsl_sl xbd slN Nat.testBit
noncomputable def e_num : Ent := mkEnt 17 1 [] (fun z_ : Int => [int64 z_]) (fun _ => []) (fun _ => True) (fun z_ => .plain (int64 z_))
theorem f_num : e_num.f = 17 := rfl
theorem x_num {U : List Ent} {b : Pos} {st : XS} (hU : tget U 17 = some e_num) (n : Int) : xcall U b 17 [int64 n] st = some (XR.out b st (.plain (int64 n))) :=
  xcall_at hU rfl rfl (mkEnt_spec (by rintro a0 b0 h hc; simp only [List.cons.injEq, AV.agg.injEq, AV.tup.injEq, AV.int.injEq, AV.bool.injEq, AV.ptr.injEq, AV.sl.injEq, strOf_eq, byt_eq, map_strOf_eq, true_and, and_true, Int.natCast_inj] at h hc; simp [h, hc]) n trivial) (by first | rfl | (split <;> rfl))
section
variable {m : Int} {t1 t2 : AV}
theorem num_ok : EntOK Tryz.prog (HasG m t1 t2) e_num := mkEnt_ok ok_num fun n h g _ _ => by
  refine plain_of (U := []) (K := []) (fun _ o => g.more o) (by simp) (by simp) 0 num_code (by simp [num_fu]) rfl ?_
  simp [num_fu]
end
end Go.Proofs.YtjhgembcdndmkaaGreatDoor.St

namespace Go.Proofs.YtjhgembcdndmkaaGreatDoor.St
open Go Go.Proofs.YtjhgembcdndmkaaGreatDoor.Am Go.Proofs Go.RowKit
theorem branch_dot {r : Int} {l : List UInt8} (h : branchB r l = true) : (46 : UInt8) ∉ l := by
  simp only [branchB, labelB, Bool.and_eq_true] at h
  intro c
  have := List.all_eq_true.1 h.2.2.1 _ c
  simp at this
end Go.Proofs.YtjhgembcdndmkaaGreatDoor.St

namespace Go.Proofs.YtjhgembcdndmkaaGreatDoor.St
open Go Go.Proofs.YtjhgembcdndmkaaGreatDoor.Am Go.Proofs Go.RowKit
attribute [local simp] xr_mov xd_mov xr_pick xd_pick xr_bin xd_bin xr_un xd_un xr_build xd_build xr_convInt xd_convInt xr_mkFn xr_fld xd_fld xr_extract xd_extract xr_lenL xd_lenL xr_nilPtr xd_nilPtr xr_load1 xd_load1 xr_loadN xd_loadN xr_bytesStr xd_bytesStr xr_eqPtr xr_eqIfc xr_new xd_new xr_box xr_buildSl xd_buildSl xd_strBytes xr_mkSl xr_idxAddrSl xd_idxAddrSl xd_sliceSl orU_some orU_none lenSA_str lenSA_strOf lenLA_sl lenLA_nil xfn xcode xdrawn xr_nil xr_kg xr_kgu xr_cmp xcmp_some xr_call xr_store xr_append xd_append xap_sl xap_nl xapq_some xsrc_sl xsrc_nil xapp_grow xapp_room xset xown xnx_some xnp_some xnq_some xd_nil xdl_old xdl_new xda_some xd_call xd_store xd_kg xdn_some xld xal kindOf isAlloc allocs xins xrem xall xput xget xwhole xmine xcont xq xqs xres XS.add XR.out XR.outU XR.ups xsets XR.res Rs.seq Rs.inSc Rs.block mapO tupleA sv_args adv_eq tget eqs8 eqs7 eqi8 eqi7 eqg8 eql8 eqn8 eqn7 cells_strOf cells_int cells_agg cells_bool cells_str cells_sl cells_nil cells_ptr at_int at_str at_strOf at_bool at_sl at_nil at_ptr unstr_strOf unbyt_byt fill_nil fill_cons replA ev_tm ev_vl sv_stv bin_add bin_sub bin_mul bin_lss bin_leq bin_gtr bin_geq bin_eql bin_neq un_not un_neg nth0 nth1 nth2 xst_idxAddrSl xst_idxStr xst_sliceStr xst_sliceSl xsl_sl xbd slN Nat.testBit
noncomputable def e_known : Ent := mkEnt 8 0 [] (fun z_ : Unit => []) (fun _ => []) (fun _ => True) (fun _ => .plain (.bool true))
theorem f_known : e_known.f = 8 := rfl
theorem x_known {U : List Ent} {b : Pos} {st : XS} (hU : tget U 8 = some e_known)  : xcall U b 8 [] st = some (XR.out b st (.plain (.bool true))) :=
  xcall_at hU rfl rfl (mkEnt_spec (fun _ _ _ _ => rfl) () trivial) (by first | rfl | (split <;> rfl))
theorem sk_int (z : Int) : sameK .int (int64 z) (int64 z) = some true := by
  show (if IntKind.i64 = IntKind.i64 then some (match cmpA z z with | .eq => true | _ => false) else none) = _
  rw [if_pos rfl, cmpA_eq, if_neg (by omega), if_pos rfl]
theorem sk_str (u : List UInt8) : sameK .str (strOf u) (strOf u) = some true := by
  show some (Nat.beq _ _ && Nat.beq _ _) = _
  rw [beq_iff.2 rfl, beq_iff.2 rfl]; rfl
theorem sks_cons {k : LK} {ks : List LK} {a : AV} {l : List AV} (h1 : sameK k a a = some true) (h2 : sameKs ks l l = some true) : sameKs (k :: ks) (a :: l) (a :: l) = some true := by
  unfold sameKs; rw [h1, h2]; rfl
theorem eqF {ks : List LK} {l : List AV} (no : Bool) (h : sameKs ks l l = some true) : binA .eql (.flat ks) no (.agg l) (.agg l) = some (.bool true) := by
  show (match sameKs ks l l with | some b => notIf false b | none => none) = _
  rw [h]; rfl
theorem sks_nil : sameKs [] [] [] = some true := by unfold sameKs; rfl
theorem eqF5 (no : Bool) (g r : Int) (l : List UInt8) (n i : Int) : binA .eql (.flat [.int, .int, .str, .int, .int]) no (.agg [int64 g, int64 r, strOf l, int64 n, int64 i]) (.agg [int64 g, int64 r, strOf l, int64 n, int64 i]) = some (.bool true) := eqF no (sks_cons (sk_int _) (sks_cons (sk_int _) (sks_cons (sk_str _) (sks_cons (sk_int _) (sks_cons (sk_int _) sks_nil)))))
end Go.Proofs.YtjhgembcdndmkaaGreatDoor.St

namespace Go.Proofs.YtjhgembcdndmkaaGreatDoor.St
open Go Go.Proofs.YtjhgembcdndmkaaGreatDoor.Am Go.Proofs Go.RowKit
attribute [local simp] xr_mov xd_mov xr_pick xd_pick xr_bin xd_bin xr_un xd_un xr_build xd_build xr_convInt xd_convInt xr_mkFn xr_fld xd_fld xr_extract xd_extract xr_lenL xd_lenL xr_nilPtr xd_nilPtr xr_load1 xd_load1 xr_loadN xd_loadN xr_bytesStr xd_bytesStr xr_eqPtr xr_eqIfc xr_new xd_new xr_box xr_buildSl xd_buildSl xd_strBytes xr_mkSl xr_idxAddrSl xd_idxAddrSl xd_sliceSl orU_some orU_none lenSA_str lenSA_strOf lenLA_sl lenLA_nil xfn xcode xdrawn xr_nil xr_kg xr_kgu xr_cmp xcmp_some xr_call xr_store xr_append xd_append xap_sl xap_nl xapq_some xsrc_sl xsrc_nil xapp_grow xapp_room xset xown xnx_some xnp_some xnq_some xd_nil xdl_old xdl_new xda_some xd_call xd_store xd_kg xdn_some xld xal kindOf isAlloc allocs xins xrem xall xput xget xwhole xmine xcont xq xqs xres XS.add XR.out XR.outU XR.ups xsets XR.res Rs.seq Rs.inSc Rs.block mapO tupleA sv_args adv_eq tget eqs8 eqs7 eqi8 eqi7 eqg8 eql8 eqn8 eqn7 cells_strOf cells_int cells_agg cells_bool cells_str cells_sl cells_nil cells_ptr at_int at_str at_strOf at_bool at_sl at_nil at_ptr unstr_strOf unbyt_byt fill_nil fill_cons replA ev_tm ev_vl sv_stv bin_add bin_sub bin_mul bin_lss bin_leq bin_gtr bin_geq bin_eql bin_neq un_not un_neg nth0 nth1 nth2 xst_idxAddrSl xst_idxStr xst_sliceStr xst_sliceSl xsl_sl xbd slN Nat.testBit
noncomputable def sC (u v : List UInt8) : Int := cmpI (cmpL u v)
def nC (a b : Int) : Int := if a < b then -1 else if b < a then 1 else 0
def fC (x y z : Int) : Int := if x = 0 then (if y = 0 then z else y) else x
noncomputable def bC (r : Int) (s : List UInt8) (r' : Int) (s' : List UInt8) : Int := fC (nC r r') (sC s s') 0
noncomputable def mC (r : Int) (s : List UInt8) (n r' : Int) (s' : List UInt8) (n' : Int) : Int := fC (bC r s r' s') (nC n n') 0
noncomputable def tC (g r : Int) (s : List UInt8) (n i g' r' : Int) (s' : List UInt8) (n' i' : Int) : Int := if g = g' ∧ r = r' ∧ s = s' ∧ n = n' ∧ i = i' then 0 else fC (nC g g') (mC r s n r' s' n') (nC i i')
noncomputable def e_bcmp : Ent := mkEnt 124 2 [] (fun z_ : (List UInt8) × (List UInt8) => [strOf z_.1, strOf z_.2]) (fun _ => []) (fun _ => True) (fun z_ => .plain (int64 (sC z_.1 z_.2)))
theorem f_bcmp : e_bcmp.f = 124 := rfl
theorem x_bcmp {U : List Ent} {b : Pos} {st : XS} (hU : tget U 124 = some e_bcmp) (u : List UInt8) (v : List UInt8) : xcall U b 124 [strOf u, strOf v] st = some (XR.out b st (.plain (int64 (sC u v)))) :=
  xcall_at hU rfl rfl (mkEnt_spec (by rintro ⟨a0, a1⟩ ⟨b0, b1⟩ h hc; simp only [List.cons.injEq, AV.agg.injEq, AV.tup.injEq, AV.int.injEq, AV.bool.injEq, AV.ptr.injEq, AV.sl.injEq, strOf_eq, byt_eq, map_strOf_eq, true_and, and_true, Int.natCast_inj] at h hc; simp [h, hc]) (u, v) trivial) (by first | rfl | (split <;> rfl))
noncomputable def e_scmp : Ent := mkEnt 108 2 [] (fun z_ : (List UInt8) × (List UInt8) => [strOf z_.1, strOf z_.2]) (fun _ => []) (fun _ => True) (fun z_ => .plain (int64 (sC z_.1 z_.2)))
theorem f_scmp : e_scmp.f = 108 := rfl
theorem x_scmp {U : List Ent} {b : Pos} {st : XS} (hU : tget U 108 = some e_scmp) (u : List UInt8) (v : List UInt8) : xcall U b 108 [strOf u, strOf v] st = some (XR.out b st (.plain (int64 (sC u v)))) :=
  xcall_at hU rfl rfl (mkEnt_spec (by rintro ⟨a0, a1⟩ ⟨b0, b1⟩ h hc; simp only [List.cons.injEq, AV.agg.injEq, AV.tup.injEq, AV.int.injEq, AV.bool.injEq, AV.ptr.injEq, AV.sl.injEq, strOf_eq, byt_eq, map_strOf_eq, true_and, and_true, Int.natCast_inj] at h hc; simp [h, hc]) (u, v) trivial) (by first | rfl | (split <;> rfl))
noncomputable def e_kcmp : Ent := mkEnt 87 2 [] (fun z_ : (List UInt8) × (List UInt8) => [strOf z_.1, strOf z_.2]) (fun _ => []) (fun _ => True) (fun z_ => .plain (int64 (sC z_.1 z_.2)))
theorem f_kcmp : e_kcmp.f = 87 := rfl
theorem x_kcmp {U : List Ent} {b : Pos} {st : XS} (hU : tget U 87 = some e_kcmp) (u : List UInt8) (v : List UInt8) : xcall U b 87 [strOf u, strOf v] st = some (XR.out b st (.plain (int64 (sC u v)))) :=
  xcall_at hU rfl rfl (mkEnt_spec (by rintro ⟨a0, a1⟩ ⟨b0, b1⟩ h hc; simp only [List.cons.injEq, AV.agg.injEq, AV.tup.injEq, AV.int.injEq, AV.bool.injEq, AV.ptr.injEq, AV.sl.injEq, strOf_eq, byt_eq, map_strOf_eq, true_and, and_true, Int.natCast_inj] at h hc; simp [h, hc]) (u, v) trivial) (by first | rfl | (split <;> rfl))
noncomputable def e_snum : Ent := mkEnt 79 2 [] (fun z_ : Int × Int => [int64 z_.1, int64 z_.2]) (fun _ => []) (fun _ => True) (fun z_ => .plain (int64 (nC z_.1 z_.2)))
theorem f_snum : e_snum.f = 79 := rfl
theorem x_snum {U : List Ent} {b : Pos} {st : XS} (hU : tget U 79 = some e_snum) (x : Int) (y : Int) : xcall U b 79 [int64 x, int64 y] st = some (XR.out b st (.plain (int64 (nC x y)))) :=
  xcall_at hU rfl rfl (mkEnt_spec (by rintro ⟨a0, a1⟩ ⟨b0, b1⟩ h hc; simp only [List.cons.injEq, AV.agg.injEq, AV.tup.injEq, AV.int.injEq, AV.bool.injEq, AV.ptr.injEq, AV.sl.injEq, strOf_eq, byt_eq, map_strOf_eq, true_and, and_true, Int.natCast_inj] at h hc; simp [h, hc]) (x, y) trivial) (by first | rfl | (split <;> rfl))
noncomputable def e_first : Ent := mkEnt 78 1 [] (fun z_ : Int × Int × Int => [.agg [int64 z_.1, int64 z_.2.1, int64 z_.2.2]]) (fun _ => []) (fun _ => True) (fun z_ => .plain (int64 (fC z_.1 z_.2.1 z_.2.2)))
theorem f_first : e_first.f = 78 := rfl
theorem x_first {U : List Ent} {b : Pos} {st : XS} (hU : tget U 78 = some e_first) (x : Int) (y : Int) (z : Int) : xcall U b 78 [.agg [int64 x, int64 y, int64 z]] st = some (XR.out b st (.plain (int64 (fC x y z)))) :=
  xcall_at hU rfl rfl (mkEnt_spec (by rintro ⟨a0, a1, a2⟩ ⟨b0, b1, b2⟩ h hc; simp only [List.cons.injEq, AV.agg.injEq, AV.tup.injEq, AV.int.injEq, AV.bool.injEq, AV.ptr.injEq, AV.sl.injEq, strOf_eq, byt_eq, map_strOf_eq, true_and, and_true, Int.natCast_inj] at h hc; simp [h, hc]) (x, y, z) trivial) (by first | rfl | (split <;> rfl))
noncomputable def e_cmpb : Ent := mkEnt 36 2 [] (fun z_ : Int × (List UInt8) × Int × (List UInt8) => [.agg [int64 z_.1, strOf z_.2.1], .agg [int64 z_.2.2.1, strOf z_.2.2.2]]) (fun _ => []) (fun _ => True) (fun z_ => .plain (int64 (bC z_.1 z_.2.1 z_.2.2.1 z_.2.2.2)))
theorem f_cmpb : e_cmpb.f = 36 := rfl
theorem x_cmpb {U : List Ent} {b : Pos} {st : XS} (hU : tget U 36 = some e_cmpb) (r : Int) (s : List UInt8) (r' : Int) (s' : List UInt8) : xcall U b 36 [.agg [int64 r, strOf s], .agg [int64 r', strOf s']] st = some (XR.out b st (.plain (int64 (bC r s r' s')))) :=
  xcall_at hU rfl rfl (mkEnt_spec (by rintro ⟨a0, a1, a2, a3⟩ ⟨b0, b1, b2, b3⟩ h hc; simp only [List.cons.injEq, AV.agg.injEq, AV.tup.injEq, AV.int.injEq, AV.bool.injEq, AV.ptr.injEq, AV.sl.injEq, strOf_eq, byt_eq, map_strOf_eq, true_and, and_true, Int.natCast_inj] at h hc; simp [h, hc]) (r, s, r', s') trivial) (by first | rfl | (split <;> rfl))
noncomputable def e_cmpn : Ent := mkEnt 34 2 [] (fun z_ : Int × (List UInt8) × Int × Int × (List UInt8) × Int => [.agg [int64 z_.1, strOf z_.2.1, int64 z_.2.2.1], .agg [int64 z_.2.2.2.1, strOf z_.2.2.2.2.1, int64 z_.2.2.2.2.2]]) (fun _ => []) (fun _ => True) (fun z_ => .plain (int64 (mC z_.1 z_.2.1 z_.2.2.1 z_.2.2.2.1 z_.2.2.2.2.1 z_.2.2.2.2.2)))
theorem f_cmpn : e_cmpn.f = 34 := rfl
theorem x_cmpn {U : List Ent} {b : Pos} {st : XS} (hU : tget U 34 = some e_cmpn) (r : Int) (s : List UInt8) (n : Int) (r' : Int) (s' : List UInt8) (n' : Int) : xcall U b 34 [.agg [int64 r, strOf s, int64 n], .agg [int64 r', strOf s', int64 n']] st = some (XR.out b st (.plain (int64 (mC r s n r' s' n')))) :=
  xcall_at hU rfl rfl (mkEnt_spec (by rintro ⟨a0, a1, a2, a3, a4, a5⟩ ⟨b0, b1, b2, b3, b4, b5⟩ h hc; simp only [List.cons.injEq, AV.agg.injEq, AV.tup.injEq, AV.int.injEq, AV.bool.injEq, AV.ptr.injEq, AV.sl.injEq, strOf_eq, byt_eq, map_strOf_eq, true_and, and_true, Int.natCast_inj] at h hc; simp [h, hc]) (r, s, n, r', s', n') trivial) (by first | rfl | (split <;> rfl))
noncomputable def e_cmp : Ent := mkEnt 29 2 [] (fun z_ : Int × Int × (List UInt8) × Int × Int × Int × Int × (List UInt8) × Int × Int => [.agg [int64 z_.1, int64 z_.2.1, strOf z_.2.2.1, int64 z_.2.2.2.1, int64 z_.2.2.2.2.1], .agg [int64 z_.2.2.2.2.2.1, int64 z_.2.2.2.2.2.2.1, strOf z_.2.2.2.2.2.2.2.1, int64 z_.2.2.2.2.2.2.2.2.1, int64 z_.2.2.2.2.2.2.2.2.2]]) (fun _ => []) (fun _ => True) (fun z_ => .plain (int64 (tC z_.1 z_.2.1 z_.2.2.1 z_.2.2.2.1 z_.2.2.2.2.1 z_.2.2.2.2.2.1 z_.2.2.2.2.2.2.1 z_.2.2.2.2.2.2.2.1 z_.2.2.2.2.2.2.2.2.1 z_.2.2.2.2.2.2.2.2.2)))
theorem f_cmp : e_cmp.f = 29 := rfl
theorem x_cmp {U : List Ent} {b : Pos} {st : XS} (hU : tget U 29 = some e_cmp) (g : Int) (r : Int) (s : List UInt8) (n : Int) (i : Int) (g' : Int) (r' : Int) (s' : List UInt8) (n' : Int) (i' : Int) : xcall U b 29 [.agg [int64 g, int64 r, strOf s, int64 n, int64 i], .agg [int64 g', int64 r', strOf s', int64 n', int64 i']] st = some (XR.out b st (.plain (int64 (tC g r s n i g' r' s' n' i')))) :=
  xcall_at hU rfl rfl (mkEnt_spec (by rintro ⟨a0, a1, a2, a3, a4, a5, a6, a7, a8, a9⟩ ⟨b0, b1, b2, b3, b4, b5, b6, b7, b8, b9⟩ h hc; simp only [List.cons.injEq, AV.agg.injEq, AV.tup.injEq, AV.int.injEq, AV.bool.injEq, AV.ptr.injEq, AV.sl.injEq, strOf_eq, byt_eq, map_strOf_eq, true_and, and_true, Int.natCast_inj] at h hc; simp [h, hc]) (g, r, s, n, i, g', r', s', n', i') trivial) (by first | rfl | (split <;> rfl))
theorem skI (y z : Int) : sameK .int (int64 y) (int64 z) = some (decide (y = z)) := by
  show (if IntKind.i64 = IntKind.i64 then some (match cmpA y z with | .eq => true | _ => false) else none) = _
  rw [if_pos rfl, cmpA_eq]
  by_cases c : y < z
  · rw [if_pos c, decide_eq_false (by omega)]
  · rw [if_neg c]
    by_cases c2 : y = z
    · rw [if_pos c2, decide_eq_true c2]
    · rw [if_neg c2, decide_eq_false c2]
theorem skS (u v : List UInt8) : sameK .str (strOf u) (strOf v) = some (decide (u = v)) := by
  show some (Nat.beq _ _ && Nat.beq _ _) = _
  by_cases c : u = v
  · subst c
    rw [beq_iff.2 rfl, beq_iff.2 rfl, decide_eq_true rfl]; rfl
  · rw [decide_eq_false c]
    congr 1
    rw [Bool.and_eq_false_iff]
    by_cases c2 : u.length = v.length
    · right
      cases q : Nat.beq (pack u) (pack v) with
      | false => rfl
      | true =>
        have := Nat.eq_of_beq_eq_true q
        have e : strOf u = strOf v := by unfold strOf; rw [c2, this]
        rw [strOf_eq] at e
        exact absurd e c
    · left
      cases q : Nat.beq u.length v.length with
      | false => rfl
      | true => exact absurd (Nat.eq_of_beq_eq_true q) c2
theorem sksC {k : LK} {ks : List LK} {a b : AV} {l r : List AV} {x y : Bool} (h1 : sameK k a b = some x) (h2 : sameKs ks l r = some y) : sameKs (k :: ks) (a :: l) (b :: r) = some (x && y) := by
  unfold sameKs; rw [h1, h2]; cases x <;> rfl
theorem eqG {ks : List LK} {l r : List AV} {x : Bool} (no : Bool) (h : sameKs ks l r = some x) : binA .eql (.flat ks) no (.agg l) (.agg r) = some (.bool x) := by
  show (match sameKs ks l r with | some b => notIf false b | none => none) = _
  rw [h]; cases x <;> rfl
theorem eqG5 (no : Bool) (g r : Int) (s : List UInt8) (n i g' r' : Int) (s' : List UInt8) (n' i' : Int) : binA .eql (.flat [.int, .int, .str, .int, .int]) no (.agg [int64 g, int64 r, strOf s, int64 n, int64 i]) (.agg [int64 g', int64 r', strOf s', int64 n', int64 i']) = some (.bool (decide (g = g' ∧ r = r' ∧ s = s' ∧ n = n' ∧ i = i'))) := by
  rw [eqG no (sksC (skI _ _) (sksC (skI _ _) (sksC (skS _ _) (sksC (skI _ _) (sksC (skI _ _) sks_nil)))))]
  simp
noncomputable def xia (n : Nat) : AV → AV → Option AV
  | .agg l, .int _ z => if 0 ≤ z ∧ z < (n : Int) then nth l z.toNat else none
  | _, _ => none
theorem xia_agg (n : Nat) (l : List AV) (kk : IntKind) (z : Int) : xia n (.agg l) (.int kk z) = if 0 ≤ z ∧ z < (n : Int) then nth l z.toNat else none := rfl
theorem xst_idxArr1 {P : Program} {env : T AV} (n : Nat) (x y : Opd) : xst P env (.idxArr n 1 false x y) = xia n (ev env x) (ev env y) := by
  show xst0 P env _ = _
  have e : evalOp P (.idxArr n 1 false x y) env hp0 = (match ev env x, ev env y with
    | .agg l, .int _ (.ofNat i) => bif Nat.blt i n then
        (bif false then .val (.agg ((l.drop (Nat.mul i 1)).take 1)) hp0 else opt hp0 "idxArr" (nth l (Nat.mul i 1))) else .fail "idxArr bounds"
    | _, _ => .fail "idxArr") := rfl
  unfold xst0
  rw [e]
  cases ev env x <;> first | rfl | skip
  rename_i l
  cases ev env y <;> first | rfl | skip
  rename_i kk z
  rw [xia_agg]
  cases z with
  | negSucc m => rw [if_neg (by omega)]
  | ofNat i =>
    by_cases c : i < n
    · rw [if_pos (by constructor <;> simp <;> omega)]
      dsimp only
      rw [blt_iff.2 c, show Nat.mul i 1 = i from Nat.mul_one i]
      show (match opt hp0 "idxArr" (nth l i) with | .val v _ => some v | _ => none) = nth l i
      cases nth l i <;> rfl
    · rw [if_neg (by simp; omega)]
      dsimp only
      cases q : Nat.blt i n with
      | true => exact absurd (blt_iff.1 q) c
      | false => rfl
theorem xr_idxArr1 {P : Program} {K : List Ent} {b : Pos} {l : List O} {env : T AV} {s : XS} {d m : Nat} (n : Nat) (x y : Opd) : xrun P K b (k d (.idxArr n 1 false x y) m :: l) env s = xnx P K b l env d s (xia n (ev env x) (ev env y)) := (xr_still rfl).trans (by rw [xst_idxArr1])
section
variable {m : Int} {t1 t2 : AV}
theorem bcmp_ok : EntOK Tryz.prog (HasG m t1 t2) e_bcmp := mkEnt_ok ok_bcmp fun z h gg _ _ => by
  obtain ⟨u, v⟩ := z
  refine plain_of (U := []) (K := []) (fun _ o => gg.more o) (by simp) (by simp) 0 bcmp_code (by simp [bcmp_fu]) rfl ?_
  simp [bcmp_fu, sC]
theorem scmp_ok : EntOK Tryz.prog (HasG m t1 t2) e_scmp := mkEnt_ok ok_scmp fun z h gg _ _ => by
  obtain ⟨u, v⟩ := z
  refine plain_of (U := []) (K := [e_bcmp]) (fun _ o => gg.more o) (by simp) (by simp [bcmp_ok.entK]) 0 scmp_code (by simp [scmp_fu]) rfl ?_
  simp [scmp_fu, x_bcmp, f_bcmp]
theorem kcmp_ok : EntOK Tryz.prog (HasG m t1 t2) e_kcmp := mkEnt_ok ok_kcmp fun z h gg _ _ => by
  obtain ⟨u, v⟩ := z
  refine plain_of (U := []) (K := [e_scmp]) (fun _ o => gg.more o) (by simp) (by simp [scmp_ok.entK]) 0 kcmp_code (by simp [kcmp_fu]) rfl ?_
  simp [kcmp_fu, x_scmp, f_scmp]
theorem snum_ok : EntOK Tryz.prog (HasG m t1 t2) e_snum := mkEnt_ok ok_snum fun z h gg _ _ => by
  obtain ⟨a, b⟩ := z
  refine plain_of (U := []) (K := []) (fun _ o => gg.more o) (by simp) (by simp) 0 snum_code (by simp [snum_fu]) rfl ?_
  show _ = some (int64 (nC a b))
  unfold nC
  by_cases c : a < b
  · simp [snum_fu, c]
  · by_cases c2 : b < a <;> simp [snum_fu, c, c2]
theorem first_ok : EntOK Tryz.prog (HasG m t1 t2) e_first := mkEnt_ok ok_first fun w h gg _ _ => by
  obtain ⟨x, y, z⟩ := w
  refine plain_of (U := []) (K := []) (fun _ o => gg.more o) (by simp) (by simp) 10 first_code (by simp [first_fu]) rfl ?_
  show _ = some (int64 (fC x y z))
  unfold fC
  by_cases c : x = 0
  · by_cases c2 : y = 0
    · by_cases c3 : z = 0 <;> simp [first_fu, first_0, xr_idxArr1, xia_agg, xloop, c, c2, c3, w64]
    · simp [first_fu, first_0, xr_idxArr1, xia_agg, xloop, c, c2, w64]
  · simp [first_fu, first_0, xr_idxArr1, xia_agg, xloop, c, w64]
theorem cmpb_ok : EntOK Tryz.prog (HasG m t1 t2) e_cmpb := mkEnt_ok ok_cmpb fun z h gg _ _ => by
  obtain ⟨r, s, r', s'⟩ := z
  refine plain_of (U := [e_snum, e_kcmp, e_first]) (K := []) (fun _ o => gg.more o) (by simp [snum_ok, kcmp_ok, first_ok]) (by simp) 0 cmpb_code (by simp [cmpb_fu]) rfl ?_
  simp [cmpb_fu, x_snum, f_snum, x_kcmp, f_kcmp, x_first, f_first, bC, xd_build]
theorem cmpn_ok : EntOK Tryz.prog (HasG m t1 t2) e_cmpn := mkEnt_ok ok_cmpn fun z h gg _ _ => by
  obtain ⟨r, s, n, r', s', n'⟩ := z
  refine plain_of (U := [e_snum, e_cmpb, e_first]) (K := []) (fun _ o => gg.more o) (by simp [snum_ok, cmpb_ok, first_ok]) (by simp) 0 cmpn_code (by simp [cmpn_fu]) rfl ?_
  simp [cmpn_fu, x_snum, f_snum, x_cmpb, f_cmpb, x_first, f_first, mC, xd_build]
theorem cmp_ok : EntOK Tryz.prog (HasG m t1 t2) e_cmp := mkEnt_ok ok_cmp fun z h gg _ _ => by
  obtain ⟨g, r, s, n, i, g', r', s', n', i'⟩ := z
  refine plain_of (U := [e_snum, e_cmpn, e_first]) (K := []) (fun _ o => gg.more o) (by simp [snum_ok, cmpn_ok, first_ok]) (by simp) 0 cmp_code (by simp [cmp_fu]) rfl ?_
  show _ = some (int64 (tC g r s n i g' r' s' n' i'))
  unfold tC
  by_cases c : g = g' ∧ r = r' ∧ s = s' ∧ n = n' ∧ i = i'
  · rw [if_pos c]
    simp [cmp_fu, eqG5, c]
  · rw [if_neg c]
    have c := eq_false c
    simp [cmp_fu, eqG5, c, x_snum, f_snum, x_cmpn, f_cmpn, x_first, f_first, xd_build]
end
end Go.Proofs.YtjhgembcdndmkaaGreatDoor.St

namespace Go.Proofs.YtjhgembcdndmkaaGreatDoor.St
open Go Go.Proofs.YtjhgembcdndmkaaGreatDoor.Am Go.Proofs Go.RowKit
attribute [local simp] xr_mov xd_mov xr_pick xd_pick xr_bin xd_bin xr_un xd_un xr_build xd_build xr_convInt xd_convInt xr_mkFn xr_fld xd_fld xr_extract xd_extract xr_lenL xd_lenL xr_nilPtr xd_nilPtr xr_load1 xd_load1 xr_loadN xd_loadN xr_bytesStr xd_bytesStr xr_eqPtr xr_eqIfc xr_new xd_new xr_box xr_buildSl xd_buildSl xd_strBytes xr_mkSl xr_idxAddrSl xd_idxAddrSl xd_sliceSl orU_some orU_none lenSA_str lenSA_strOf lenLA_sl lenLA_nil xfn xcode xdrawn xr_nil xr_kg xr_kgu xr_cmp xcmp_some xr_call xr_store xr_append xd_append xap_sl xap_nl xapq_some xsrc_sl xsrc_nil xapp_grow xapp_room xset xown xnx_some xnp_some xnq_some xd_nil xdl_old xdl_new xda_some xd_call xd_store xd_kg xdn_some xld xal kindOf isAlloc allocs xins xrem xall xput xget xwhole xmine xcont xq xqs xres XS.add XR.out XR.outU XR.ups xsets XR.res Rs.seq Rs.inSc Rs.block mapO tupleA sv_args adv_eq tget eqs8 eqs7 eqi8 eqi7 eqg8 eql8 eqn8 eqn7 cells_strOf cells_int cells_agg cells_bool cells_str cells_sl cells_nil cells_ptr at_int at_str at_strOf at_bool at_sl at_nil at_ptr unstr_strOf unbyt_byt fill_nil fill_cons replA ev_tm ev_vl sv_stv bin_add bin_sub bin_mul bin_lss bin_leq bin_gtr bin_geq bin_eql bin_neq un_not un_neg nth0 nth1 nth2 xst_idxAddrSl xst_idxStr xst_sliceStr xst_sliceSl xsl_sl xbd slN Nat.testBit
noncomputable def e_labelX : Ent := mkEnt 92 1 [] (fun z_ : (List UInt8) => [strOf z_]) (fun _ => []) (fun z_ => z_.length ≤ 9223372036854775807) (fun z_ => .plain (.bool (labelB z_)))
theorem f_labelX : e_labelX.f = 92 := rfl
theorem x_labelX {U : List Ent} {b : Pos} {st : XS} (hU : tget U 92 = some e_labelX) (s : List UInt8) (hp : s.length ≤ 9223372036854775807) : xcall U b 92 [strOf s] st = some (XR.out b st (.plain (.bool (labelB s)))) :=
  xcall_at hU rfl rfl (mkEnt_spec (by rintro a0 b0 h hc; simp only [List.cons.injEq, AV.agg.injEq, AV.tup.injEq, AV.int.injEq, AV.bool.injEq, AV.ptr.injEq, AV.sl.injEq, strOf_eq, byt_eq, map_strOf_eq, true_and, and_true, Int.natCast_inj] at h hc; simp [h, hc]) s hp) (by first | rfl | (split <;> rfl))
noncomputable def e_branchX : Ent := mkEnt 41 1 [] (fun z_ : Int × (List UInt8) => [.agg [int64 z_.1, strOf z_.2]]) (fun _ => []) (fun z_ => z_.2.length ≤ 9223372036854775807) (fun z_ => .plain (.bool (branchB z_.1 z_.2)))
theorem f_branchX : e_branchX.f = 41 := rfl
theorem x_branchX {U : List Ent} {b : Pos} {st : XS} (hU : tget U 41 = some e_branchX) (r : Int) (s : List UInt8) (hp : s.length ≤ 9223372036854775807) : xcall U b 41 [.agg [int64 r, strOf s]] st = some (XR.out b st (.plain (.bool (branchB r s)))) :=
  xcall_at hU rfl rfl (mkEnt_spec (by rintro ⟨a0, a1⟩ ⟨b0, b1⟩ h hc; simp only [List.cons.injEq, AV.agg.injEq, AV.tup.injEq, AV.int.injEq, AV.bool.injEq, AV.ptr.injEq, AV.sl.injEq, strOf_eq, byt_eq, map_strOf_eq, true_and, and_true, Int.natCast_inj] at h hc; simp [h, hc]) (r, s) hp) (by first | rfl | (split <;> rfl))
noncomputable def e_nameX : Ent := mkEnt 42 1 [] (fun z_ : Int × (List UInt8) × Int => [.agg [int64 z_.1, strOf z_.2.1, int64 z_.2.2]]) (fun _ => []) (fun z_ => z_.2.1.length ≤ 9223372036854775807) (fun z_ => .plain (.bool (nameB z_.1 z_.2.1 z_.2.2)))
theorem f_nameX : e_nameX.f = 42 := rfl
theorem x_nameX {U : List Ent} {b : Pos} {st : XS} (hU : tget U 42 = some e_nameX) (r : Int) (s : List UInt8) (n : Int) (hp : s.length ≤ 9223372036854775807) : xcall U b 42 [.agg [int64 r, strOf s, int64 n]] st = some (XR.out b st (.plain (.bool (nameB r s n)))) :=
  xcall_at hU rfl rfl (mkEnt_spec (by rintro ⟨a0, a1, a2⟩ ⟨b0, b1, b2⟩ h hc; simp only [List.cons.injEq, AV.agg.injEq, AV.tup.injEq, AV.int.injEq, AV.bool.injEq, AV.ptr.injEq, AV.sl.injEq, strOf_eq, byt_eq, map_strOf_eq, true_and, and_true, Int.natCast_inj] at h hc; simp [h, hc]) (r, s, n) hp) (by first | rfl | (split <;> rfl))
noncomputable def e_stampX : Ent := mkEnt 43 1 [] (fun z_ : Int × Int × (List UInt8) × Int × Int => [.agg [int64 z_.1, int64 z_.2.1, strOf z_.2.2.1, int64 z_.2.2.2.1, int64 z_.2.2.2.2]]) (fun _ => []) (fun z_ => z_.2.2.1.length ≤ 9223372036854775807) (fun z_ => .plain (.bool (stampB z_.1 z_.2.1 z_.2.2.1 z_.2.2.2.1 z_.2.2.2.2)))
theorem f_stampX : e_stampX.f = 43 := rfl
theorem x_stampX {U : List Ent} {b : Pos} {st : XS} (hU : tget U 43 = some e_stampX) (g : Int) (r : Int) (s : List UInt8) (n : Int) (i : Int) (hp : s.length ≤ 9223372036854775807) : xcall U b 43 [.agg [int64 g, int64 r, strOf s, int64 n, int64 i]] st = some (XR.out b st (.plain (.bool (stampB g r s n i)))) :=
  xcall_at hU rfl rfl (mkEnt_spec (by rintro ⟨a0, a1, a2, a3, a4⟩ ⟨b0, b1, b2, b3, b4⟩ h hc; simp only [List.cons.injEq, AV.agg.injEq, AV.tup.injEq, AV.int.injEq, AV.bool.injEq, AV.ptr.injEq, AV.sl.injEq, strOf_eq, byt_eq, map_strOf_eq, true_and, and_true, Int.natCast_inj] at h hc; simp [h, hc]) (g, r, s, n, i) hp) (by first | rfl | (split <;> rfl))
noncomputable def e_textsX : Ent := mkEnt 32 1 [] (fun z_ : Int × Int × (List UInt8) × Int × Int => [.agg [int64 z_.1, int64 z_.2.1, strOf z_.2.2.1, int64 z_.2.2.2.1, int64 z_.2.2.2.2]]) (fun _ => []) (fun z_ => z_.2.2.1.length ≤ 9223372036854775807) (fun z_ => .plain (.tup [strOf (orNil (stampB z_.1 z_.2.1 z_.2.2.1 z_.2.2.2.1 z_.2.2.2.2) (textB z_.1.toNat z_.2.1.toNat z_.2.2.1 z_.2.2.2.1.toNat z_.2.2.2.2.toNat)), int64 (errB (stampB z_.1 z_.2.1 z_.2.2.1 z_.2.2.2.1 z_.2.2.2.2))]))
theorem f_textsX : e_textsX.f = 32 := rfl
theorem x_textsX {U : List Ent} {b : Pos} {st : XS} (hU : tget U 32 = some e_textsX) (g : Int) (r : Int) (s : List UInt8) (n : Int) (i : Int) (hp : s.length ≤ 9223372036854775807) : xcall U b 32 [.agg [int64 g, int64 r, strOf s, int64 n, int64 i]] st = some (XR.out b st (.plain (.tup [strOf (orNil (stampB g r s n i) (textB g.toNat r.toNat s n.toNat i.toNat)), int64 (errB (stampB g r s n i))]))) :=
  xcall_at hU rfl rfl (mkEnt_spec (by rintro ⟨a0, a1, a2, a3, a4⟩ ⟨b0, b1, b2, b3, b4⟩ h hc; simp only [List.cons.injEq, AV.agg.injEq, AV.tup.injEq, AV.int.injEq, AV.bool.injEq, AV.ptr.injEq, AV.sl.injEq, strOf_eq, byt_eq, map_strOf_eq, true_and, and_true, Int.natCast_inj] at h hc; simp [h, hc]) (g, r, s, n, i) hp) (by first | rfl | (split <;> rfl))
noncomputable def e_keyX : Ent := mkEnt 30 1 [] (fun z_ : Int × Int × (List UInt8) × Int × Int => [.agg [int64 z_.1, int64 z_.2.1, strOf z_.2.2.1, int64 z_.2.2.2.1, int64 z_.2.2.2.2]]) (fun _ => []) (fun z_ => z_.2.2.1.length ≤ 9223372036854775807) (fun z_ => .plain (.tup [strOf (orNil (stampB z_.1 z_.2.1 z_.2.2.1 z_.2.2.2.1 z_.2.2.2.2) (keyB z_.1 z_.2.1 z_.2.2.1 z_.2.2.2.1 z_.2.2.2.2)), int64 (errB (stampB z_.1 z_.2.1 z_.2.2.1 z_.2.2.2.1 z_.2.2.2.2))]))
theorem f_keyX : e_keyX.f = 30 := rfl
theorem x_keyX {U : List Ent} {b : Pos} {st : XS} (hU : tget U 30 = some e_keyX) (g : Int) (r : Int) (s : List UInt8) (n : Int) (i : Int) (hp : s.length ≤ 9223372036854775807) : xcall U b 30 [.agg [int64 g, int64 r, strOf s, int64 n, int64 i]] st = some (XR.out b st (.plain (.tup [strOf (orNil (stampB g r s n i) (keyB g r s n i)), int64 (errB (stampB g r s n i))]))) :=
  xcall_at hU rfl rfl (mkEnt_spec (by rintro ⟨a0, a1, a2, a3, a4⟩ ⟨b0, b1, b2, b3, b4⟩ h hc; simp only [List.cons.injEq, AV.agg.injEq, AV.tup.injEq, AV.int.injEq, AV.bool.injEq, AV.ptr.injEq, AV.sl.injEq, strOf_eq, byt_eq, map_strOf_eq, true_and, and_true, Int.natCast_inj] at h hc; simp [h, hc]) (g, r, s, n, i) hp) (by first | rfl | (split <;> rfl))
section
variable {m : Int} {t1 t2 : AV}
theorem kit_labelX : EntK Tryz.prog (HasG m t1 t2) e_labelX := mkEnt_kit ok_label fun s h _ hs _ => KitFn.kitH fun φ w xs hR hx => by
  obtain ⟨x, rfl, p⟩ := relL_one hx
  obtain rfl := rel_strOf p
  exact (label_any ⟨s.toArray⟩ w hs).mono fun e w' ⟨he, hb⟩ => ⟨_, he, .bool _, hb⟩
theorem branchX_ok : EntOK Tryz.prog (HasG m t1 t2) e_branchX := mkEnt_ok ok_branch fun p h g hs _ => by
  obtain ⟨r, s⟩ := p
  have hs : s.length ≤ 9223372036854775807 := hs
  refine plain_of (U := []) (K := [e_labelX]) (fun _ o => g.more o) (by simp) (by simp [kit_labelX]) 0 branch_code (by simp [branch_fu]) rfl ?_
  show _ = some (AV.bool (branchB r s))
  unfold branchB
  by_cases c0 : 0 ≤ r <;> by_cases c1 : r < 8 <;> simp [branch_fu, c0, c1, x_labelX, f_labelX, hs]
theorem nameX_ok : EntOK Tryz.prog (HasG m t1 t2) e_nameX := mkEnt_ok ok_name fun p h g hs _ => by
  obtain ⟨r, s, n⟩ := p
  have hs : s.length ≤ 9223372036854775807 := hs
  refine plain_of (U := []) (K := [e_branchX]) (fun _ o => g.more o) (by simp) (by simp [branchX_ok.entK]) 0 name_code (by simp [name_fu]) rfl ?_
  show _ = some (AV.bool (nameB r s n))
  unfold nameB
  cases c0 : branchB r s <;> by_cases c1 : 1 ≤ n <;> simp [name_fu, c0, c1, x_branchX, f_branchX, hs]
theorem stampX_ok : EntOK Tryz.prog (HasG m t1 t2) e_stampX := mkEnt_ok ok_stamp fun p h g hs _ => by
  obtain ⟨g', r, s, n, i⟩ := p
  have hs : s.length ≤ 9223372036854775807 := hs
  refine plain_of (U := []) (K := [e_nameX]) (fun _ o => g.more o) (by simp) (by simp [nameX_ok.entK]) 0 stamp_code (by simp [stamp_fu]) rfl ?_
  show _ = some (AV.bool (stampB g' r s n i))
  unfold stampB
  by_cases c1 : 1 ≤ g' <;> by_cases c2 : g' ≤ 4611686018427387904 <;> cases c0 : nameB r s n <;> by_cases c3 : 0 ≤ i <;> simp [stamp_fu, c0, c1, c2, c3, x_nameX, f_nameX, hs]
theorem textsX_ok : EntOK Tryz.prog (HasG m t1 t2) e_textsX := mkEnt_ok ok_texts fun p h gg hs _ => by
  obtain ⟨g, r, s, n, i⟩ := p
  have hs : s.length ≤ 9223372036854775807 := hs
  refine plain_of (U := [e_digits, e_text]) (K := [e_stampX, e_textn, e_digits, e_text]) (fun _ o => gg.more o) (by simp [digits_ok, text_ok]) (by simp [stampX_ok.entK, textn_ok.entK, digits_ok.entK, text_ok.entK]) 0 texts_code (by simp [texts_fu]) rfl ?_
  show _ = some (AV.tup [strOf (orNil (stampB g r s n i) (textB g.toNat r.toNat s n.toNat i.toNat)), int64 (errB (stampB g r s n i))])
  cases hb : stampB g r s n i
  · simp [texts_fu, x_stampX, f_stampX, hs, hb, strOf_nil]
  · obtain ⟨qg1, qg2, qn, qi1, qi2⟩ := stampB_le hb
    obtain ⟨qb, qn1, qn2⟩ := nameB_le qn
    obtain ⟨q0, q8, ql⟩ := branchB_le qb
    have hs9 : s.length ≤ 9000 := by omega
    obtain ⟨r, rfl⟩ := Int.eq_ofNat_of_zero_le q0
    obtain ⟨n, rfl⟩ := Int.eq_ofNat_of_zero_le (show (0 : Int) ≤ n by omega)
    obtain ⟨g, rfl⟩ := Int.eq_ofNat_of_zero_le (show (0 : Int) ≤ g by omega)
    obtain ⟨i, rfl⟩ := Int.eq_ofNat_of_zero_le qi1
    have il := itoa_length_le g (by omega)
    have il2 := itoa_length_le i (by omega)
    have tl := textnB_length_le (s := s) (show r < 18446744073709551616 by omega) (show n < 18446744073709551616 by omega)
    have hd : (dots [Lib.itoa g, textnB r s n, Lib.itoa i]).length ≤ 1000000 := by rw [dots_length_le3]; omega
    simp [texts_fu, hs9, x_stampX, f_stampX, x_textn, f_textn, x_digits, f_digits, x_text (l := [Lib.itoa g, textnB r s n, Lib.itoa i]), f_text, hs, hb, qn, hd, is1, textB, show (g : Int) ≤ 9223372036854775807 by omega, show -9223372036854775808 ≤ (g : Int) by omega, show (i : Int) ≤ 9223372036854775807 by omega, show -9223372036854775808 ≤ (i : Int) by omega]
theorem keyX_ok : EntOK Tryz.prog (HasG m t1 t2) e_keyX := mkEnt_ok ok_key fun p h gg hs _ => by
  obtain ⟨g, r, s, n, i⟩ := p
  have hs : s.length ≤ 9223372036854775807 := hs
  refine plain_of (U := [e_eight, e_join]) (K := [e_stampX]) (fun _ o => gg.more o) (by simp [eight_ok, join_ok]) (by simp [stampX_ok.entK]) 0 key_code (by simp [key_fu]) rfl ?_
  show _ = some (AV.tup [strOf (orNil (stampB g r s n i) (keyB g r s n i)), int64 (errB (stampB g r s n i))])
  cases hb : stampB g r s n i
  · simp [key_fu, x_stampX, f_stampX, hs, hb, strOf_nil]
  · obtain ⟨qg1, qg2, qn, qi1, qi2⟩ := stampB_le hb
    obtain ⟨qb, qn1, qn2⟩ := nameB_le qn
    obtain ⟨q0, q8, ql⟩ := branchB_le qb
    have hs9 : s.length ≤ 9000 := by omega
    have sne : s ≠ [] := fun c => by subst c; simp [branchB, labelB] at qb
    have sl : s.length ≤ 1000000 := by omega
    have kl := keyB_len g r s n i
    have kl2 : (keyB g r s n i).length ≤ 100000 := by omega
    have J := fun {U b st} (hU : tget U 80 = some e_join) hp hq => x_join (U := U) (b := b) (st := st) hU (adv h.next 6) (adv h.next 7) (adv h.next 2) (adv h.next 3) (adv h.next 4) (adv h.next 8) (adv h.next 5) (eightB g) [u8I r] s [0] (eightB n) [u8I i] hp hq
    have tk : ∀ z, List.take 8 (byt (eightB z)) = byt (eightB z) := fun z => List.take_of_length_le (by rw [byt_len, eightB_len]; exact Nat.le_refl _)
    rw [show catB (eightB g) [u8I r] s [0] (eightB n) [u8I i] = keyB g r s n i from rfl] at J
    simp [key_fu, x_stampX, f_stampX, hs, hb, x_eight, f_eight, J, f_join, tk, sne, sl, eightB_len, eightB_ne, byt_len, byt_one, byt_take, w8, kl2]
end
end Go.Proofs.YtjhgembcdndmkaaGreatDoor.St

namespace Go.Proofs.YtjhgembcdndmkaaGreatDoor.St
open Go Go.Proofs.YtjhgembcdndmkaaGreatDoor.Am Go.Proofs
noncomputable def wopen_fu : Fu := ⟨[.tmp (Pos.ofNat 2)], 11, (.seq (.region [k 2 (.mov (vl .nilPtr)) 0]) (.seq (.region [k 3 (.mov (tm 0)) 0, k 4 (.lenL (tm 3)) 0, k 5 (.bin .add .other true (tm 4) (vl (int64 (1)))) 0, k 6 (.mkSl 1 1 [(.int .u8 (0))] (vl (int64 (0))) (tm 5)) 0, k 7 (.mov (tm 0)) 0, k 8 (.append 1 0 (tm 6) (tm 7)) 0, k 9 (.build [.nilSl, (int64 (0))] [(0, 1, (tm 8))]) 0, k 10 (.box (tm 9)) 0, k 2 (.mov (tm 10)) 0]) .ret))⟩
theorem wopen_code : compFn Tryz.prog 18 = some wopen_fu := by kernel_rfl
noncomputable def wleft_fu : Fu := ⟨[.tmp (Pos.ofNat 2)], 16, (.seq (.region [k 2 (.mov (vl (int64 (0)))) 0]) (.seq (.seq (.region [k 3 (.mov (tm 0)) 0, k 4 (.call (.value (vl (.fn (.func 64) [] []))) [(tm 3)]) 0, k 5 (.un .not (tm 4)) 0]) (.cond (tm 5) (.seq (.region [k 2 (.mov (vl (int64 (0)))) 0]) .ret) .skip)) (.seq (.drawn [k 6 (.mov (tm 0)) 0, k 7 (.nilCheck (tm 6)) 1, k 8 (.fieldAddr 0 (tm 7)) 3, k 9 (.load1 (tm 8)) 7, k 10 (.lenL (tm 9)) 15, k 11 (.mov (tm 0)) 0, k 12 (.nilCheck (tm 11)) 32, k 13 (.fieldAddr 1 (tm 12)) 96, k 14 (.load1 (tm 13)) 224, k 15 (.bin .sub .other false (tm 10) (tm 14)) 511, k 2 (.mov (tm 15)) 1023]) .ret)))⟩
theorem wleft_code : compFn Tryz.prog 19 = some wleft_fu := by kernel_rfl
noncomputable def wnum_0 : C := (.seq (.seq (.region [k 15 (.mov (tm 5)) 0, k 16 (.mov (tm 0)) 0, k 17 (.nilCheck (tm 16)) 0, k 18 (.fieldAddr 0 (tm 17)) 0, k 19 (.load1 (tm 18)) 0, k 20 (.lenL (tm 19)) 0, k 21 (.bin .lss .other false (tm 15) (tm 20)) 0]) (.cond (tm 21) .skip (.exit 0))) (.seq (.block 1 (.seq (.region [k 24 (.mov (tm 0)) 0, k 25 (.nilCheck (tm 24)) 0, k 26 (.fieldAddr 0 (tm 25)) 0, k 27 (.load1 (tm 26)) 0, k 28 (.mov (tm 5)) 0, k 29 (.idxAddrSl 1 (tm 27) (tm 28)) 0, k 30 (.load1 (tm 29)) 0, k 7 (.mov (tm 30)) 0]) (.seq (.seq (.region [k 31 (.mov (tm 6)) 0, k 32 (.bin .eql .other true (tm 31) (vl (.int .u64 (63)))) 0, k 33 (.mov (tm 32)) 0, kg 34 33 true (.mov (tm 7)) 0, kg 35 33 true (.bin .gtr .other true (tm 34) (vl (.int .u8 (1)))) 0, k 36 (.pick (tm 33) (tm 35) (vl (.bool false))) 0, k 37 (.mov (tm 36)) 0, kg 38 37 false (.mov (tm 6)) 0, kg 39 37 false (.bin .gtr .other true (tm 38) (vl (.int .u64 (0)))) 0, kg 40 37 false (.mov (tm 39)) 0, kg 41 40 true (.mov (tm 7)) 0, kg 42 40 true (.bin .eql .other true (tm 41) (vl (.int .u8 (0)))) 0, kg 43 37 false (.pick (tm 40) (tm 42) (vl (.bool false))) 0, k 44 (.pick (tm 37) (vl (.bool true)) (tm 43)) 0]) (.cond (tm 44) (.exit 0) .skip)) (.seq (.region [k 45 (.mov (tm 5)) 0, k 46 (.bin .add .other true (tm 45) (vl (int64 (1)))) 0, k 5 (.mov (tm 46)) 0]) (.seq (.region [k 47 (.mov (tm 4)) 0, k 48 (.mov (tm 7)) 0, k 49 (.bin .and .other true (tm 48) (vl (.int .u8 (127)))) 0, k 50 (.convInt .u64 (tm 49)) 0, k 51 (.mov (tm 6)) 0, k 52 (.bin .shl .other false (tm 50) (tm 51)) 0, k 53 (.bin .or .other false (tm 47) (tm 52)) 0, k 4 (.mov (tm 53)) 0]) (.seq (.region [k 54 (.mov (tm 7)) 0, k 55 (.bin .lss .other true (tm 54) (vl (.int .u8 (128)))) 0]) (.cond (tm 55) (.seq (.region [k 56 (.mov (tm 0)) 0, k 57 (.mov (tm 5)) 0, k 58 (.nilCheck (tm 56)) 0, k 59 (.fieldAddr 1 (tm 58)) 0, kn (.store 1 (tm 59) (tm 57)) 0]) (.seq (.region [k 60 (.mov (tm 4)) 0, k 2 (.mov (tm 60)) 0, k 3 (.mov (vl (int64 (0)))) 0]) .ret)) .skip))))))) (.region [k 22 (.mov (tm 6)) 0, k 23 (.bin .add .other true (tm 22) (vl (.int .u64 (7)))) 0, k 6 (.mov (tm 23)) 0])))
noncomputable def wnum_fu : Fu := ⟨[.tmp (Pos.ofNat 2), .tmp (Pos.ofNat 3)], 61, (.seq (.region [k 2 (.mov (vl (.int .u64 (0)))) 0, k 3 (.mov (vl (int64 (0)))) 0]) (.scope (.seq (.seq (.region [k 8 (.mov (tm 0)) 0, k 9 (.call (.value (vl (.fn (.func 64) [] []))) [(tm 8)]) 0, k 10 (.un .not (tm 9)) 0]) (.cond (tm 10) (.seq (.region [k 2 (.mov (vl (.int .u64 (0)))) 0, k 3 (.mov (vl (int64 (1)))) 0]) .ret) .skip)) (.seq (.drawn [k 11 (.mov (tm 0)) 0, k 12 (.nilCheck (tm 11)) 1, k 13 (.fieldAddr 1 (tm 12)) 3, k 14 (.load1 (tm 13)) 7, k 4 (.mov (vl (.int .u64 (0)))) 0, k 5 (.mov (tm 14)) 31]) (.seq .label (.seq (.seq (.region [k 6 (.mov (vl (.int .u64 (0)))) 0]) (.block 0 (.loop wnum_0))) (.seq (.region [k 2 (.mov (vl (.int .u64 (0)))) 0, k 3 (.mov (vl (int64 (4)))) 0]) .ret)))))))⟩
theorem wnum_code : compFn Tryz.prog 21 = some wnum_fu := by kernel_rfl
noncomputable def tt_fu : Fu := ⟨[.cellN (Pos.ofNat 2) 5, .tmp (Pos.ofNat 3)], 8, (.seq (.region [k 2 (.new [(int64 (0)), (int64 (0)), (.str 0 0), (int64 (0)), (int64 (0))]) 0, k 3 (.mov (vl (int64 (0)))) 0]) (.seq (.region [k 4 (.mov (tm 0)) 0, k 5 (.call (.value (vl (.fn (.func 73) [] []))) [(tm 4), (vl (.fn (.func 74) [] [])), (vl (.fn (.func 43) [] []))]) 0, k 6 (.extract (tm 5) 0) 0, k 7 (.extract (tm 5) 1) 0, kn (.store 5 (tm 2) (tm 6)) 0, k 3 (.mov (tm 7)) 0]) .ret))⟩
theorem tt_code : compFn Tryz.prog 26 = some tt_fu := by kernel_rfl
noncomputable def there_fu : Fu := ⟨[.tmp (Pos.ofNat 2)], 12, (.seq (.region [k 2 (.mov (vl (.bool false))) 0]) (.seq (.region [k 3 (.mov (tm 0)) 0, k 4 (.eqPtr true (tm 3) (vl .nilPtr)) 0, k 5 (.mov (tm 4)) 0, kg 6 5 true (.mov (tm 0)) 0, kg 7 5 true (.nilCheck (tm 6)) 0, kg 8 5 true (.fieldAddr 0 (tm 7)) 0, kg 9 5 true (.load1 (tm 8)) 0, kg 10 5 true (.bin .neq .slice true (tm 9) (vl .nilSl)) 0, k 11 (.pick (tm 5) (tm 10) (vl (.bool false))) 0, k 2 (.mov (tm 11)) 0]) .ret))⟩
theorem there_code : compFn Tryz.prog 64 = some there_fu := by kernel_rfl
noncomputable def gbranch_fu : Fu := ⟨[.cellN (Pos.ofNat 2) 2], 35, (.seq (.region [k 2 (.new [(int64 (0)), (.str 0 0)]) 0]) (.seq (.region [k 7 (.mov (tm 0)) 0, k 8 (.call (.value (vl (.fn (.func 75) [] []))) [(tm 7)]) 0, k 9 (.build [(int64 (0)), (.str 0 0)] [(0, 1, (tm 8))]) 0, k 3 (.new [(int64 (0)), (.str 0 0)]) 0, kn (.store 2 (tm 3) (tm 9)) 0]) (.seq (.region [k 10 (.mov (tm 0)) 0, k 11 (.nilCheck (tm 10)) 0, k 12 (.fieldAddr 0 (tm 11)) 0, k 13 (.load1 (tm 12)) 0, k 14 (.mkFn (.func 101) [(tm 13)] []) 0, k 4 (.mov (tm 14)) 0]) (.seq (.region [k 16 (.mov (tm 4)) 0, k 17 (.call (.value (tm 16)) [(vl (int64 (12)))]) 0, k 15 (.mov (tm 17)) 0, k 18 (.extract (tm 15) 0) 0, k 19 (.extract (tm 15) 1) 0, k 5 (.mov (tm 18)) 0, k 6 (.mov (tm 19)) 0]) (.seq (.region [k 20 (.mov (tm 0)) 0, k 21 (.mov (tm 0)) 0, k 22 (.nilCheck (tm 21)) 0, k 23 (.fieldAddr 1 (tm 22)) 0, k 24 (.load1 (tm 23)) 0, k 25 (.mov (tm 24)) 0, kg 26 25 false (.mov (tm 6)) 0, kg 27 25 false (.bin .neq .other true (tm 26) (vl (int64 (0)))) 0, k 28 (.pick (tm 25) (vl (.bool true)) (tm 27)) 0, k 29 (.nilCheck (tm 20)) 0, k 30 (.fieldAddr 1 (tm 29)) 0, kn (.store 1 (tm 30) (tm 28)) 0]) (.seq (.region [k 31 (.mov (tm 5)) 0, k 32 (.bytesStr (tm 31)) 0, k 33 (.fieldAddr 1 (tm 3)) 0, kn (.store 1 (tm 33) (tm 32)) 0]) (.seq (.region [k 34 (.loadN 2 (tm 3)) 0, kn (.store 2 (tm 2) (tm 34)) 0]) .ret)))))))⟩
theorem gbranch_code : compFn Tryz.prog 66 = some gbranch_fu := by kernel_rfl
noncomputable def gname_fu : Fu := ⟨[.cellN (Pos.ofNat 2) 3], 11, (.seq (.region [k 2 (.new [(int64 (0)), (.str 0 0), (int64 (0))]) 0]) (.seq (.region [k 4 (.mov (tm 0)) 0, k 5 (.call (.value (vl (.fn (.func 66) [] []))) [(tm 4)]) 0, k 6 (.build [(int64 (0)), (.str 0 0), (int64 (0))] [(0, 2, (tm 5))]) 0, k 3 (.new [(int64 (0)), (.str 0 0), (int64 (0))]) 0, kn (.store 3 (tm 3) (tm 6)) 0]) (.seq (.region [k 7 (.mov (tm 0)) 0, k 8 (.call (.value (vl (.fn (.func 75) [] []))) [(tm 7)]) 0, k 9 (.fieldAddr 2 (tm 3)) 0, kn (.store 1 (tm 9) (tm 8)) 0]) (.seq (.region [k 10 (.loadN 3 (tm 3)) 0, kn (.store 3 (tm 2) (tm 10)) 0]) .ret))))⟩
theorem gname_code : compFn Tryz.prog 70 = some gname_fu := by kernel_rfl
noncomputable def takens_fu : Fu := ⟨[.cellN (Pos.ofNat 6) 5, .tmp (Pos.ofNat 7)], 40, (.seq (.region [k 6 (.new [(int64 (0)), (int64 (0)), (.str 0 0), (int64 (0)), (int64 (0))]) 0, k 7 (.mov (vl (int64 (0)))) 0]) (.seq (.region [k 8 (.new [(int64 (0)), (int64 (0)), (.str 0 0), (int64 (0)), (int64 (0))]) 0]) (.seq (.seq (.region [k 12 (.mov (tm 0)) 0, k 13 (.call (.value (vl (.fn (.func 100) [] []))) [(tm 12)]) 0, k 14 (.bin .eql .other true (tm 13) (vl (int64 (1)))) 0]) (.cond (tm 14) (.seq (.region [k 15 (.loadN 5 (tm 8)) 0, kn (.store 5 (tm 6) (tm 15)) 0, k 7 (.mov (vl (int64 (1)))) 0]) .ret) .skip)) (.seq (.region [k 16 (.mov (tm 0)) 0, k 17 (.nilCheck (tm 16)) 0, k 18 (.loadN 2 (tm 17)) 0, k 9 (.new [.nilSl, (int64 (0))]) 0, kn (.store 2 (tm 9) (tm 18)) 0]) (.seq (.region [k 19 (.mov (tm 0)) 0, k 20 (.build [.nilPtr, (.bool false)] [(0, 1, (tm 19))]) 0, k 21 (.box (tm 20)) 0, k 10 (.mov (tm 21)) 0]) (.seq (.seq (.region [k 22 (.mov (tm 1)) 0, k 23 (.mov (tm 10)) 0, k 24 (.call (.value (tm 22)) [(tm 23)]) 0, k 11 (.new [(int64 (0)), (int64 (0)), (.str 0 0), (int64 (0)), (int64 (0))]) 0, kn (.store 5 (tm 11) (tm 24)) 0]) (.seq (.region [k 25 (.mov (tm 10)) 0, k 26 (.nilCheck (tm 25)) 0, k 27 (.fieldAddr 1 (tm 26)) 0, k 28 (.load1 (tm 27)) 0, k 29 (.un .not (tm 28)) 0, k 30 (.mov (tm 29)) 0, kg 31 30 true (.mov (tm 2)) 0, kg 32 30 true (.loadN 5 (tm 11)) 0, kg 33 30 true (.call (.value (tm 31)) [(tm 32)]) 0, k 34 (.pick (tm 30) (tm 33) (vl (.bool false))) 0]) (.cond (tm 34) (.seq (.region [k 35 (.loadN 5 (tm 11)) 0, kn (.store 5 (tm 6) (tm 35)) 0, k 7 (.mov (vl (int64 (0)))) 0]) .ret) .skip))) (.seq (.region [k 36 (.mov (tm 0)) 0, k 37 (.loadN 2 (tm 9)) 0, k 38 (.nilCheck (tm 36)) 0, kn (.store 2 (tm 38) (tm 37)) 0]) (.seq (.region [k 39 (.loadN 5 (tm 8)) 0, kn (.store 5 (tm 6) (tm 39)) 0, k 7 (.mov (vl (int64 (4)))) 0]) .ret))))))))⟩
theorem takens_code : compFn Tryz.prog 73 = some takens_fu := by kernel_rfl
noncomputable def take1_fu : Fu := ⟨[.cellN (Pos.ofNat 2) 5], 14, (.seq (.region [k 2 (.new [(int64 (0)), (int64 (0)), (.str 0 0), (int64 (0)), (int64 (0))]) 0]) (.seq (.region [k 4 (.mov (tm 0)) 0, k 5 (.call (.value (vl (.fn (.func 75) [] []))) [(tm 4)]) 0, k 6 (.build [(int64 (0)), (int64 (0)), (.str 0 0), (int64 (0)), (int64 (0))] [(0, 1, (tm 5))]) 0, k 3 (.new [(int64 (0)), (int64 (0)), (.str 0 0), (int64 (0)), (int64 (0))]) 0, kn (.store 5 (tm 3) (tm 6)) 0]) (.seq (.region [k 7 (.mov (tm 0)) 0, k 8 (.call (.value (vl (.fn (.func 70) [] []))) [(tm 7)]) 0, k 9 (.fieldAddr 1 (tm 3)) 0, kn (.store 3 (tm 9) (tm 8)) 0]) (.seq (.region [k 10 (.mov (tm 0)) 0, k 11 (.call (.value (vl (.fn (.func 75) [] []))) [(tm 10)]) 0, k 12 (.fieldAddr 4 (tm 3)) 0, kn (.store 1 (tm 12) (tm 11)) 0]) (.seq (.region [k 13 (.loadN 5 (tm 3)) 0, kn (.store 5 (tm 2) (tm 13)) 0]) .ret)))))⟩
theorem take1_code : compFn Tryz.prog 74 = some take1_fu := by kernel_rfl
noncomputable def gnumber_fu : Fu := ⟨[.tmp (Pos.ofNat 2)], 27, (.seq (.region [k 2 (.mov (vl (int64 (0)))) 0]) (.seq (.region [k 6 (.mov (tm 0)) 0, k 7 (.nilCheck (tm 6)) 0, k 8 (.fieldAddr 0 (tm 7)) 0, k 9 (.load1 (tm 8)) 0, k 10 (.mkFn (.func 21) [(tm 9)] []) 0, k 3 (.mov (tm 10)) 0]) (.seq (.region [k 12 (.mov (tm 3)) 0, k 13 (.call (.value (tm 12)) []) 0, k 11 (.mov (tm 13)) 0, k 14 (.extract (tm 11) 0) 0, k 15 (.extract (tm 11) 1) 0, k 4 (.mov (tm 14)) 0, k 5 (.mov (tm 15)) 0]) (.seq (.seq (.region [k 16 (.mov (tm 5)) 0, k 17 (.bin .neq .other true (tm 16) (vl (int64 (0)))) 0, k 18 (.mov (tm 17)) 0, kg 19 18 false (.mov (tm 4)) 0, kg 20 18 false (.bin .gtr .other true (tm 19) (vl (.int .u64 (4611686018427387904)))) 0, k 21 (.pick (tm 18) (vl (.bool true)) (tm 20)) 0]) (.cond (tm 21) (.seq (.region [k 22 (.mov (tm 0)) 0, k 23 (.nilCheck (tm 22)) 0, k 24 (.fieldAddr 1 (tm 23)) 0, kn (.store 1 (tm 24) (vl (.bool true))) 0]) (.seq (.region [k 2 (.mov (vl (int64 (0)))) 0]) .ret)) .skip)) (.seq (.region [k 25 (.mov (tm 4)) 0, k 26 (.convInt .i64 (tm 25)) 0, k 2 (.mov (tm 26)) 0]) .ret)))))⟩
theorem gnumber_code : compFn Tryz.prog 75 = some gnumber_fu := by kernel_rfl
noncomputable def wend_fu : Fu := ⟨[.tmp (Pos.ofNat 2)], 11, (.seq (.region [k 2 (.mov (vl (int64 (0)))) 0]) (.seq (.block 0 (.seq (.region [k 4 (.mov (tm 0)) 0, k 5 (.call (.value (vl (.fn (.func 64) [] []))) [(tm 4)]) 0, k 6 (.un .not (tm 5)) 0, k 3 (.mov (tm 6)) 0]) (.cond (tm 3) (.seq (.region [k 2 (.mov (vl (int64 (1)))) 0]) .ret) (.seq (.region [k 8 (.mov (tm 0)) 0, k 9 (.call (.value (vl (.fn (.func 19) [] []))) [(tm 8)]) 0, k 10 (.bin .gtr .other true (tm 9) (vl (int64 (0)))) 0, k 7 (.mov (tm 10)) 0]) (.cond (tm 7) (.seq (.region [k 2 (.mov (vl (int64 (4)))) 0]) .ret) .skip))))) (.seq (.region [k 2 (.mov (vl (int64 (0)))) 0]) .ret)))⟩
theorem wend_code : compFn Tryz.prog 100 = some wend_fu := by kernel_rfl
noncomputable def wbytes_fu : Fu := ⟨[.tmp (Pos.ofNat 4), .tmp (Pos.ofNat 5)], 62, (.seq (.region [k 4 (.mov (vl .nilSl)) 0, k 5 (.mov (vl (int64 (0)))) 0]) (.seq (.seq (.region [k 9 (.mov (tm 0)) 0, k 10 (.call (.value (vl (.fn (.func 64) [] []))) [(tm 9)]) 0, k 11 (.un .not (tm 10)) 0]) (.cond (tm 11) (.seq (.region [k 4 (.mov (vl .nilSl)) 0, k 5 (.mov (vl (int64 (1)))) 0]) .ret) .skip)) (.seq (.region [k 12 (.mov (tm 0)) 0, k 13 (.nilCheck (tm 12)) 0, k 14 (.fieldAddr 1 (tm 13)) 0, k 15 (.load1 (tm 14)) 0, k 6 (.mov (tm 15)) 0]) (.seq (.region [k 17 (.mov (tm 0)) 0, k 18 (.mov (tm 1)) 0, k 19 (.call (.value (vl (.fn (.func 119) [] []))) [(tm 17), (tm 18)]) 0, k 16 (.mov (tm 19)) 0, k 20 (.extract (tm 16) 0) 0, k 21 (.extract (tm 16) 1) 0, k 7 (.mov (tm 20)) 0, k 8 (.mov (tm 21)) 0]) (.seq (.seq (.region [k 22 (.mov (tm 8)) 0, k 23 (.bin .eql .other true (tm 22) (vl (int64 (0)))) 0, k 24 (.mov (tm 23)) 0, kg 25 24 true (.mov (tm 7)) 0, kg 26 24 true (.mov (tm 0)) 0, kg 27 24 true (.call (.value (vl (.fn (.func 19) [] []))) [(tm 26)]) 0, kg 28 24 true (.bin .gtr .other false (tm 25) (tm 27)) 0, k 29 (.pick (tm 24) (tm 28) (vl (.bool false))) 0]) (.cond (tm 29) (.region [k 8 (.mov (vl (int64 (4)))) 0]) .skip)) (.seq (.seq (.region [k 30 (.mov (tm 8)) 0, k 31 (.bin .neq .other true (tm 30) (vl (int64 (0)))) 0]) (.cond (tm 31) (.seq (.region [k 32 (.mov (tm 0)) 0, k 33 (.mov (tm 6)) 0, k 34 (.nilCheck (tm 32)) 0, k 35 (.fieldAddr 1 (tm 34)) 0, kn (.store 1 (tm 35) (tm 33)) 0]) (.seq (.region [k 36 (.mov (tm 8)) 0, k 4 (.mov (vl .nilSl)) 0, k 5 (.mov (tm 36)) 0]) .ret)) .skip)) (.seq (.region [k 37 (.mov (tm 0)) 0, k 38 (.nilCheck (tm 37)) 0, k 39 (.fieldAddr 1 (tm 38)) 0, k 40 (.load1 (tm 39)) 0, k 41 (.mov (tm 7)) 0, k 42 (.bin .add .other false (tm 40) (tm 41)) 0, k 43 (.nilCheck (tm 37)) 0, k 44 (.fieldAddr 1 (tm 43)) 0, kn (.store 1 (tm 44) (tm 42)) 0]) (.seq (.drawn [k 45 (.buildSl 0 1 [(.int .u8 (0))] []) 0, k 46 (.mov (tm 0)) 0, k 47 (.nilCheck (tm 46)) 2, k 48 (.fieldAddr 0 (tm 47)) 6, k 49 (.load1 (tm 48)) 14, k 50 (.mov (tm 0)) 0, k 51 (.nilCheck (tm 50)) 32, k 52 (.fieldAddr 1 (tm 51)) 96, k 53 (.load1 (tm 52)) 224, k 54 (.mov (tm 7)) 0, k 55 (.bin .sub .other false (tm 53) (tm 54)) 992, k 56 (.mov (tm 0)) 0, k 57 (.nilCheck (tm 56)) 2048, k 58 (.fieldAddr 1 (tm 57)) 6144, k 59 (.load1 (tm 58)) 14336, k 60 (.sliceSl 1 (tm 49) (some (tm 55)) (some (tm 59)) none) 32766, k 61 (.append 1 0 (tm 45) (tm 60)) 65535, k 4 (.mov (tm 61)) 131071, k 5 (.mov (vl (int64 (0)))) 262143]) .ret))))))))⟩
theorem wbytes_code : compFn Tryz.prog 101 = some wbytes_fu := by kernel_rfl
noncomputable def wcount_fu : Fu := ⟨[.tmp (Pos.ofNat 4), .tmp (Pos.ofNat 5)], 28, (.seq (.region [k 4 (.mov (vl (int64 (0)))) 0, k 5 (.mov (vl (int64 (0)))) 0]) (.seq (.seq (.region [k 8 (.mov (tm 1)) 0, k 9 (.bin .lss .other true (tm 8) (vl (int64 (0)))) 0]) (.cond (tm 9) (.seq (.region [k 4 (.mov (vl (int64 (0)))) 0, k 5 (.mov (vl (int64 (2)))) 0]) .ret) .skip)) (.seq (.region [k 11 (.mov (tm 0)) 0, k 12 (.call (.value (vl (.fn (.func 21) [] []))) [(tm 11)]) 0, k 10 (.mov (tm 12)) 0, k 13 (.extract (tm 10) 0) 0, k 14 (.extract (tm 10) 1) 0, k 6 (.mov (tm 13)) 0, k 7 (.mov (tm 14)) 0]) (.seq (.seq (.region [k 15 (.mov (tm 7)) 0, k 16 (.bin .eql .other true (tm 15) (vl (int64 (0)))) 0, k 17 (.mov (tm 16)) 0, kg 18 17 true (.mov (tm 6)) 0, kg 19 17 true (.mov (tm 1)) 0, kg 20 17 true (.convInt .u64 (tm 19)) 0, kg 21 17 true (.bin .gtr .other false (tm 18) (tm 20)) 0, k 22 (.pick (tm 17) (tm 21) (vl (.bool false))) 0]) (.cond (tm 22) (.region [k 7 (.mov (vl (int64 (3)))) 0]) .skip)) (.seq (.seq (.region [k 23 (.mov (tm 7)) 0, k 24 (.bin .neq .other true (tm 23) (vl (int64 (0)))) 0]) (.cond (tm 24) (.seq (.region [k 25 (.mov (tm 7)) 0, k 4 (.mov (vl (int64 (0)))) 0, k 5 (.mov (tm 25)) 0]) .ret) .skip)) (.seq (.region [k 26 (.mov (tm 6)) 0, k 27 (.convInt .i64 (tm 26)) 0, k 4 (.mov (tm 27)) 0, k 5 (.mov (vl (int64 (0)))) 0]) .ret))))))⟩
theorem wcount_code : compFn Tryz.prog 119 = some wcount_fu := by kernel_rfl
theorem ok_wopen : okCall Tryz.prog 18 = true := by kernel_rfl
theorem ok_wleft : okCall Tryz.prog 19 = true := by kernel_rfl
theorem ok_wnum : okCall Tryz.prog 21 = true := by kernel_rfl
theorem ok_tt : okCall Tryz.prog 26 = true := by kernel_rfl
theorem ok_there : okCall Tryz.prog 64 = true := by kernel_rfl
theorem ok_gbranch : okCall Tryz.prog 66 = true := by kernel_rfl
theorem ok_gname : okCall Tryz.prog 70 = true := by kernel_rfl
theorem ok_takens : okCall Tryz.prog 73 = true := by kernel_rfl
theorem ok_take1 : okCall Tryz.prog 74 = true := by kernel_rfl
theorem ok_gnumber : okCall Tryz.prog 75 = true := by kernel_rfl
theorem ok_wend : okCall Tryz.prog 100 = true := by kernel_rfl
theorem ok_wbytes : okCall Tryz.prog 101 = true := by kernel_rfl
theorem ok_wcount : okCall Tryz.prog 119 = true := by kernel_rfl
end Go.Proofs.YtjhgembcdndmkaaGreatDoor.St

namespace Go.Proofs.YtjhgembcdndmkaaGreatDoor.St
open Go Go.Proofs.YtjhgembcdndmkaaGreatDoor.Am Go.Proofs Go.RowKit
attribute [local simp] xr_mov xd_mov xr_pick xd_pick xr_bin xd_bin xr_un xd_un xr_build xd_build xr_convInt xd_convInt xr_mkFn xr_fld xd_fld xr_extract xd_extract xr_lenL xd_lenL xr_nilPtr xd_nilPtr xr_load1 xd_load1 xr_loadN xd_loadN xr_bytesStr xd_bytesStr xr_eqPtr xr_eqIfc xr_new xd_new xr_box xr_buildSl xd_buildSl xd_strBytes xr_mkSl xr_idxAddrSl xd_idxAddrSl xd_sliceSl orU_some orU_none lenSA_str lenSA_strOf lenLA_sl lenLA_nil xfn xcode xdrawn xr_nil xr_kg xr_kgu xr_cmp xcmp_some xr_call xr_store xr_append xd_append xap_sl xap_nl xapq_some xsrc_sl xsrc_nil xapp_grow xapp_room xset xown xnx_some xnp_some xnq_some xd_nil xdl_old xdl_new xda_some xd_call xd_store xd_kg xdn_some xld xal kindOf isAlloc allocs xins xrem xall xput xget xwhole xmine xcont xq xqs xres XS.add XR.out XR.outU XR.ups xsets XR.res Rs.seq Rs.inSc Rs.block mapO tupleA sv_args adv_eq tget eqs8 eqs7 eqi8 eqi7 eqg8 eql8 eqn8 eqn7 cells_strOf cells_int cells_agg cells_bool cells_str cells_sl cells_nil cells_ptr at_int at_str at_strOf at_bool at_sl at_nil at_ptr unstr_strOf unbyt_byt fill_nil fill_cons replA ev_tm ev_vl sv_stv bin_add bin_sub bin_mul bin_lss bin_leq bin_gtr bin_geq bin_eql bin_neq un_not un_neg nth0 nth1 nth2 xst_idxAddrSl xst_idxStr xst_sliceStr xst_sliceSl xsl_sl xbd slN Nat.testBit
noncomputable def rdC (q : Pos) (n : Nat) (a : Int) : List AV := [.sl q 0 0 n (n + 1) true 1, int64 a]
noncomputable def e_there : Ent := mkEnt 64 1 [.blk 0] (fun z_ : Pos × Pos × Nat × Int => [.ptr z_.1 0 0]) (fun z_ => [[.sl z_.2.1 0 0 z_.2.2.1 (z_.2.2.1 + 1) true 1, int64 z_.2.2.2]]) (fun _ => True) (fun _ => .plain (.bool true))
theorem f_there : e_there.f = 64 := rfl
theorem x_there {U : List Ent} {b : Pos} {st : XS} (hU : tget U 64 = some e_there) (p : Pos) (q : Pos) (n : Nat) (a : Int) (hq : xqs st.X [.ptr p 0 0] [.blk 0] = some [[.sl q 0 0 n (n + 1) true 1, int64 a]]) : xcall U b 64 [.ptr p 0 0] st = some (XR.out b st (.plain (.bool true))) :=
  xcall_at hU rfl hq (mkEnt_spec (by rintro ⟨a0, a1, a2, a3⟩ ⟨b0, b1, b2, b3⟩ h hc; simp only [List.cons.injEq, AV.agg.injEq, AV.tup.injEq, AV.int.injEq, AV.bool.injEq, AV.ptr.injEq, AV.sl.injEq, strOf_eq, byt_eq, map_strOf_eq, true_and, and_true, Int.natCast_inj] at h hc; simp [h, hc]) (p, q, n, a) trivial) (by first | rfl | (split <;> rfl))
noncomputable def e_wleft : Ent := mkEnt 19 1 [.blk 0] (fun z_ : Pos × Pos × Nat × Nat => [.ptr z_.1 0 0]) (fun z_ => [[.sl z_.2.1 0 0 z_.2.2.1 (z_.2.2.1 + 1) true 1, int64 (z_.2.2.2 : Int)]]) (fun z_ => z_.2.2.2 ≤ z_.2.2.1 ∧ z_.2.2.1 ≤ 9000) (fun z_ => .plain (int64 ((z_.2.2.1 - z_.2.2.2 : Nat) : Int)))
theorem f_wleft : e_wleft.f = 19 := rfl
theorem x_wleft {U : List Ent} {b : Pos} {st : XS} (hU : tget U 19 = some e_wleft) (p : Pos) (q : Pos) (n : Nat) (a : Nat) (hp : a ≤ n ∧ n ≤ 9000) (hq : xqs st.X [.ptr p 0 0] [.blk 0] = some [[.sl q 0 0 n (n + 1) true 1, int64 (a : Int)]]) : xcall U b 19 [.ptr p 0 0] st = some (XR.out b st (.plain (int64 ((n - a : Nat) : Int)))) :=
  xcall_at hU rfl hq (mkEnt_spec (by rintro ⟨a0, a1, a2, a3⟩ ⟨b0, b1, b2, b3⟩ h hc; simp only [List.cons.injEq, AV.agg.injEq, AV.tup.injEq, AV.int.injEq, AV.bool.injEq, AV.ptr.injEq, AV.sl.injEq, strOf_eq, byt_eq, map_strOf_eq, true_and, and_true, Int.natCast_inj] at h hc; simp [h, hc]) (p, q, n, a) hp) (by first | rfl | (split <;> rfl))
noncomputable def e_wend : Ent := mkEnt 100 1 [.blk 0] (fun z_ : Pos × Pos × Nat × Nat => [.ptr z_.1 0 0]) (fun z_ => [[.sl z_.2.1 0 0 z_.2.2.1 (z_.2.2.1 + 1) true 1, int64 (z_.2.2.2 : Int)]]) (fun z_ => z_.2.2.2 ≤ z_.2.2.1 ∧ z_.2.2.1 ≤ 9000) (fun z_ => .plain (int64 (if z_.2.2.2 < z_.2.2.1 then 4 else 0)))
theorem f_wend : e_wend.f = 100 := rfl
theorem x_wend {U : List Ent} {b : Pos} {st : XS} (hU : tget U 100 = some e_wend) (p : Pos) (q : Pos) (n : Nat) (a : Nat) (hp : a ≤ n ∧ n ≤ 9000) (hq : xqs st.X [.ptr p 0 0] [.blk 0] = some [[.sl q 0 0 n (n + 1) true 1, int64 (a : Int)]]) : xcall U b 100 [.ptr p 0 0] st = some (XR.out b st (.plain (int64 (if a < n then 4 else 0)))) :=
  xcall_at hU rfl hq (mkEnt_spec (by rintro ⟨a0, a1, a2, a3⟩ ⟨b0, b1, b2, b3⟩ h hc; simp only [List.cons.injEq, AV.agg.injEq, AV.tup.injEq, AV.int.injEq, AV.bool.injEq, AV.ptr.injEq, AV.sl.injEq, strOf_eq, byt_eq, map_strOf_eq, true_and, and_true, Int.natCast_inj] at h hc; simp [h, hc]) (p, q, n, a) hp) (by first | rfl | (split <;> rfl))
theorem blk1 {h : Hp} {p : Pos} {l : List AV} (c : Conts h [.ptr p 0 0] [.blk 0] [l]) : XB.Holds h ⟨p, 0, false, l⟩ := by
  obtain ⟨c1, r, e, ⟨id, e1, w⟩, _⟩ := c
  cases e; cases e1
  exact w
theorem neqSl (id : Pos) (g o n c : Nat) (ex : Bool) (es : Nat) (no : Bool) : binA .neq .slice no (.sl id g o n c ex es) .nilSl = some (.bool true) := rfl
section
variable {G : Hp → Prop}
theorem there_ok (hG : ∀ h h', G h → Only [] h h' → G h') : EntOK Tryz.prog G e_there := mkEnt_ok ok_there fun z h g _ hc => by
  obtain ⟨p, q, n, a⟩ := z
  refine plain_ofX (U := []) (K := []) (fun _ o => hG _ _ g o) (by simp) (by simp) 0 (.start1 (blk1 hc) rfl) there_code (by simp [there_fu]) rfl ?_
  simp [there_fu, neqSl]
theorem wleft_ok (hG : ∀ h h', G h → Only [] h h' → G h') : EntOK Tryz.prog G e_wleft := mkEnt_ok ok_wleft fun z h g hp hc => by
  obtain ⟨p, q, n, a⟩ := z
  obtain ⟨h1, h2⟩ : a ≤ n ∧ n ≤ 9000 := hp
  refine plain_ofX (U := []) (K := [e_there]) (fun _ o => hG _ _ g o) (by simp) (by simp [(there_ok hG).entK]) 0 (.start1 (blk1 hc) rfl) wleft_code (by simp [wleft_fu]) rfl ?_
  have w : wrapA .i64 ((n : Int) - (a : Int)) = ((n - a : Nat) : Int) := by rw [w64 (by omega) (by omega)]; omega
  simp [wleft_fu, x_there (q := q) (n := n) (a := (a : Int)), f_there, w]
theorem wend_ok (hG : ∀ h h', G h → Only [] h h' → G h') : EntOK Tryz.prog G e_wend := mkEnt_ok ok_wend fun z h g hp hc => by
  obtain ⟨p, q, n, a⟩ := z
  obtain ⟨h1, h2⟩ : a ≤ n ∧ n ≤ 9000 := hp
  refine plain_ofX (U := []) (K := [e_there, e_wleft]) (v := int64 (if a < n then 4 else 0)) (fun _ o => hG _ _ g o) (by simp) (by simp [(there_ok hG).entK, (wleft_ok hG).entK]) 0 (.start1 (blk1 hc) rfl) wend_code (by simp [wend_fu]) rfl ?_
  by_cases c : a < n
  · have c' : 0 < n - a := by omega
    simp [wend_fu, x_there (q := q) (n := n) (a := (a : Int)), f_there, x_wleft (q := q) (n := n) (a := a), f_wleft, h1, h2, c, c']
  · have c' : ¬ 0 < n - a := by omega
    simp [wend_fu, x_there (q := q) (n := n) (a := (a : Int)), f_there, x_wleft (q := q) (n := n) (a := a), f_wleft, h1, h2, c, c']
end
end Go.Proofs.YtjhgembcdndmkaaGreatDoor.St

namespace Go.Proofs.YtjhgembcdndmkaaGreatDoor.St
open Go Go.Proofs.YtjhgembcdndmkaaGreatDoor.Am Go.Proofs Go.RowKit
attribute [local simp] xr_mov xd_mov xr_pick xd_pick xr_bin xd_bin xr_un xd_un xr_build xd_build xr_convInt xd_convInt xr_mkFn xr_fld xd_fld xr_extract xd_extract xr_lenL xd_lenL xr_nilPtr xd_nilPtr xr_load1 xd_load1 xr_loadN xd_loadN xr_bytesStr xd_bytesStr xr_eqPtr xr_eqIfc xr_new xd_new xr_box xr_buildSl xd_buildSl xd_strBytes xr_mkSl xr_idxAddrSl xd_idxAddrSl xd_sliceSl orU_some orU_none lenSA_str lenSA_strOf lenLA_sl lenLA_nil xfn xcode xdrawn xr_nil xr_kg xr_kgu xr_cmp xcmp_some xr_call xr_store xr_append xd_append xap_sl xap_nl xapq_some xsrc_sl xsrc_nil xapp_grow xapp_room xset xown xnx_some xnp_some xnq_some xd_nil xdl_old xdl_new xda_some xd_call xd_store xd_kg xdn_some xld xal kindOf isAlloc allocs xins xrem xall xput xget xwhole xmine xcont xq xqs xres XS.add XR.out XR.outU XR.ups xsets XR.res Rs.seq Rs.inSc Rs.block mapO tupleA sv_args adv_eq tget eqs8 eqs7 eqi8 eqi7 eqg8 eql8 eqn8 eqn7 cells_strOf cells_int cells_agg cells_bool cells_str cells_sl cells_nil cells_ptr at_int at_str at_strOf at_bool at_sl at_nil at_ptr unstr_strOf unbyt_byt fill_nil fill_cons replA ev_tm ev_vl sv_stv bin_add bin_sub bin_mul bin_lss bin_leq bin_gtr bin_geq bin_eql bin_neq un_not un_neg nth0 nth1 nth2 xst_idxAddrSl xst_idxStr xst_sliceStr xst_sliceSl xsl_sl xbd slN Nat.testBit
def wread (an : Int → Int) (sh : Int → Int → Int) (or : Int → Int → Int) : List UInt8 → Nat → Int → Option (Int × Nat)
  | [], _, _ => none
  | c :: l, i, n => if (i = 9 ∧ 1 < c.toNat) ∨ (0 < i ∧ c.toNat = 0) then none
    else if c.toNat < 128 then some (or n (sh (an (c.toNat : Int)) (7 * (i : Int))), i + 1) else wread an sh or l (i + 1) (or n (sh (an (c.toNat : Int)) (7 * (i : Int))))
section
theorem wnum_loop (an : Int → Int) (sh or : Int → Int → Int) (h1 : ∀ kd no x, binA .and kd no (.int .u8 x) (.int .u8 127) = some (.int .u8 (an x))) (h0 : ∀ x, wrapA .u64 (an x) = an x) (h2 : ∀ kd no x (y : Nat), binA .shl kd no (.int .u64 x) (.int .u64 (y : Int)) = some (.int .u64 (sh x (y : Int)))) (h3 : ∀ kd no x y, binA .or kd no (.int .u64 x) (.int .u64 y) = some (.int .u64 (or x y)))
    (b : List UInt8) (hb : b.length ≤ 9000) (B p q : Pos) (hpq : p ≠ q) (sn : Nat) (a0 : Nat) (L : List AV) (hL : ∀ (j : Nat) (hj : j < b.length), L[j]? = some (.int .u8 (b[j].toNat : Int))) (k : Nat) :
    ∀ (fuel i : Nat) (n : Int) (env : T AV), sv env 0 = .ptr p 0 0 → sv env 4 = .int .u64 n → sv env 5 = int64 ((a0 + i : Nat) : Int) → sv env 6 = .int .u64 ((7 * i : Nat) : Int) → i ≤ 9 → 10 < fuel + i → a0 + i ≤ b.length →
    ∃ env' r st', xloop (xcode Tryz.prog [] [e_there] B (k + 1) wnum_0) fuel env ⟨sn, [⟨p, 0, true, rdC q b.length a0⟩, ⟨q, 0, false, L⟩]⟩ = some (r, env', st') ∧
      (match wread an sh or (b.drop (a0 + i)) i n with
        | some (v, m) => r = .ret ∧ sv env' 2 = .int .u64 v ∧ sv env' 3 = int64 0 ∧ st' = ⟨sn, [⟨p, 0, true, rdC q b.length ((a0 + m : Nat) : Int)⟩, ⟨q, 0, false, L⟩]⟩
        | none => r = .exit 0 ∧ st' = ⟨sn, [⟨p, 0, true, rdC q b.length a0⟩, ⟨q, 0, false, L⟩]⟩)
  | 0, i, n, env, _, _, _, _, _, hf, _ => by omega
  | fuel + 1, i, n, env, e0, e4, e5, e6, hi, hf, ha => by
    unfold xloop
    by_cases hlt : a0 + i < b.length
    · have key := fun n env e0 e4 e5 e6 hi' => wnum_loop an sh or h1 h0 h2 h3 b hb B p q hpq sn a0 L hL k fuel (i + 1) n env e0 e4 e5 e6 hi' (by omega) (by omega)
      generalize xloop (xcode Tryz.prog [] [e_there] B (k + 1) wnum_0) fuel = R at key ⊢
      have hd : b.drop (a0 + i) = b[a0 + i] :: b.drop (a0 + (i + 1)) := List.drop_eq_getElem_cons hlt
      have hl := hL (a0 + i) hlt
      rw [hd]
      unfold wread
      generalize b[a0 + i] = c at hl
      have hc := c.toNat_lt
      have w1 : wrapA .i64 (((a0 + i : Nat) : Int) + 1) = ((a0 + (i + 1) : Nat) : Int) := by rw [w64 (by omega) (by omega)]; omega
      have w2 : wrapA .u64 (((7 * i : Nat) : Int) + 7) = ((7 * (i + 1) : Nat) : Int) := by rw [wu64 (by omega) (by omega)]; omega
      have h2' : ∀ kd no x, binA .shl kd no (.int .u64 x) (.int .u64 ((7 * i : Nat) : Int)) = some (.int .u64 (sh x (7 * (i : Int)))) := fun kd no x => by rw [h2]; rfl
      have e5' : sv env 5 = int64 ((a0 : Int) + (i : Int)) := by rw [e5]; rfl
      have hlt' : (a0 : Int) + (i : Int) < (b.length : Int) := by omega
      have tn : ((a0 : Int) + (i : Int)).toNat = a0 + i := by omega
      have nn : (0 : Int) ≤ (a0 : Int) + (i : Int) := by omega
      have w1' : wrapA .i64 ((a0 : Int) + (i : Int) + 1) = (a0 : Int) + ((i : Int) + 1) := by rw [w64 (by omega) (by omega)]; omega
      have e6' : sv env 6 = .int .u64 (7 * (i : Int)) := by rw [e6]; congr 1
      have w2' : wrapA .u64 (7 * (i : Int) + 7) = 7 * ((i : Int) + 1) := by rw [wu64 (by omega) (by omega)]; omega
      have h2'' : ∀ kd no x, binA .shl kd no (.int .u64 x) (.int .u64 (7 * (i : Int))) = some (.int .u64 (sh x (7 * (i : Int)))) := h2'
      by_cases p1 : i = 9 ∧ 1 < c.toNat
      · rw [if_pos (.inl p1)]
        have r1 := eq_true (show 7 * (i : Int) = 63 by omega)
        have r2 := eq_true (show 1 < c.toNat from p1.2)
        have r2' := eq_true (show (1 : Int) < (c.toNat : Int) by omega)
        simp [wnum_0, rdC, e0, e4, e5', e6', hpq, hpq.symm, hlt', tn, nn, hl, w1', w2', h1, h0, h2'', h3, r1, r2, r2']
      · by_cases p2 : 0 < i ∧ c.toNat = 0
        · rw [if_pos (.inr p2)]
          have r2 := eq_false (show ¬ 1 < c.toNat by omega)
          have r2' := eq_false (show ¬ (1 : Int) < (c.toNat : Int) by omega)
          have r3 := eq_true (show 0 < 7 * (i : Int) by omega)
          have r3' := eq_true (show 0 < i from p2.1)
          have r4 := eq_true p2.2
          by_cases p3 : i = 9
          · have r1 := eq_true (show 7 * (i : Int) = 63 by omega)
            simp [wnum_0, rdC, e0, e4, e5', e6', hpq, hpq.symm, hlt', tn, nn, hl, w1', w2', h1, h0, h2'', h3, r1, r2, r2', r3, r3', r4]
          · have r1 := eq_false (show ¬ 7 * (i : Int) = 63 by omega)
            simp [wnum_0, rdC, e0, e4, e5', e6', hpq, hpq.symm, hlt', tn, nn, hl, w1', w2', h1, h0, h2'', h3, r1, r2, r2', r3, r3', r4]
        · rw [if_neg (by rintro (q | q); exact p1 q; exact p2 q)]
          by_cases p5 : c.toNat < 128
          · rw [if_pos p5]
            have r5 := eq_true p5
            have r5' := eq_true (show (c.toNat : Int) < 128 by omega)
            by_cases p9 : i = 9
            · have r1 := eq_true (show 7 * (i : Int) = 63 by omega)
              have r2 := eq_false (show ¬ 1 < c.toNat by omega)
              have r2' := eq_false (show ¬ (1 : Int) < (c.toNat : Int) by omega)
              have r3 := eq_true (show 0 < 7 * (i : Int) by omega)
              have r3' := eq_true (show 0 < i by omega)
              have r4 := eq_false (show ¬ c.toNat = 0 by omega)
              simp [wnum_0, rdC, e0, e4, e5', e6', hpq, hpq.symm, hlt', tn, nn, hl, w1', w2', h1, h0, h2'', h3, r1, r2, r2', r3, r3', r4, r5, r5']
              exact ⟨_, _, _, ⟨rfl, rfl, rfl⟩, by simp [sv_stv, rdC]⟩
            · have r1 := eq_false (show ¬ 7 * (i : Int) = 63 by omega)
              by_cases p3 : 0 < i
              · have r3 := eq_true (show 0 < 7 * (i : Int) by omega)
                have r3' := eq_true p3
                have r4 := eq_false (show ¬ c.toNat = 0 by omega)
                simp [wnum_0, rdC, e0, e4, e5', e6', hpq, hpq.symm, hlt', tn, nn, hl, w1', w2', h1, h0, h2'', h3, r1, r3, r3', r4, r5, r5']
                exact ⟨_, _, _, ⟨rfl, rfl, rfl⟩, by simp [sv_stv, rdC]⟩
              · have r3 := eq_false (show ¬ 0 < 7 * (i : Int) by omega)
                have r3' := eq_false p3
                simp [wnum_0, rdC, e0, e4, e5', e6', hpq, hpq.symm, hlt', tn, nn, hl, w1', w2', h1, h0, h2'', h3, r1, r3, r3', r5, r5']
                exact ⟨_, _, _, ⟨rfl, rfl, rfl⟩, by simp [sv_stv, rdC]⟩
          · rw [if_neg p5]
            have r5 := eq_false p5
            have r5' := eq_false (show ¬ (c.toNat : Int) < 128 by omega)
            have i9 : i ≠ 9 := by omega
            have r1 := eq_false (show ¬ 7 * (i : Int) = 63 by omega)
            have r4 := eq_false (show ¬ c.toNat = 0 by omega)
            by_cases p3 : 0 < i
            · have r3 := eq_true (show 0 < 7 * (i : Int) by omega)
              have r3' := eq_true p3
              simp [wnum_0, rdC, e0, e4, e5', e6', hpq, hpq.symm, hlt', tn, nn, hl, w1', w2', h1, h0, h2'', h3, r1, r3, r3', r4, r5, r5']
              refine key _ _ ?_ ?_ ?_ ?_ (by omega) <;> simp [sv_stv, e0, Int.add_assoc] <;> omega
            · have r3 := eq_false (show ¬ 0 < 7 * (i : Int) by omega)
              have r3' := eq_false p3
              simp [wnum_0, rdC, e0, e4, e5', e6', hpq, hpq.symm, hlt', tn, nn, hl, w1', w2', h1, h0, h2'', h3, r1, r3, r3', r4, r5, r5']
              refine key _ _ ?_ ?_ ?_ ?_ (by omega) <;> simp [sv_stv, e0, Int.add_assoc] <;> omega
    · have hz : b.drop (a0 + i) = [] := List.drop_eq_nil_of_le (by omega)
      have hn : ¬ ((a0 + i : Nat) : Int) < (b.length : Int) := by omega
      rw [hz]
      unfold wread
      have hn' : ¬ a0 + i < b.length := hlt
      have hn2 : ¬ (a0 : Int) + (i : Int) < (b.length : Int) := by omega
      simp [wnum_0, rdC, e0, e5, hpq, hpq.symm, hn, hn2]
end
end Go.Proofs.YtjhgembcdndmkaaGreatDoor.St
