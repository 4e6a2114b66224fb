import Derived.Lib.LaidTab
import Derived.DataReads
import Derived.WideShapes
import Derived.Test.YtjhgembcdndmkaaGreatDoorSxB
/- THE WALK'S PARTS, part C: what the functions of the law compute, over the abstract machine that stands beside this text. No condition. -/
set_option linter.unusedSimpArgs false
set_option linter.unusedVariables false
namespace Go.Proofs.YtjhgembcdndmkaaGreatDoor.St
open Go Go.Proofs.YtjhgembcdndmkaaGreatDoor.Am Go.Proofs Go.RowKit
attribute [local simp] xr_mov xd_mov xr_pick xd_pick xr_bin xd_bin xr_un xd_un xr_build xd_build xr_convInt xd_convInt xr_mkIfc xd_mkIfc xr_mkFn xd_mkFn xr_fld xd_fld xr_part1 xd_part1 xr_partN xd_partN xr_extract xd_extract xr_lenS xd_lenS xr_lenL xd_lenL xr_lenArr xd_lenArr xr_nilPtr xd_nilPtr xr_load1 xd_load1 xr_loadN xd_loadN xr_bytesStr xd_bytesStr xr_eqPtr xd_eqPtr xr_eqIfc xd_eqIfc xr_new xd_new xr_box xd_box xr_buildSl xd_buildSl xr_strBytes xd_strBytes xr_mkSl xd_mkSl xr_idxAddrSl xd_idxAddrSl xr_idxAddrArr xd_idxAddrArr xr_idxStr xd_idxStr xr_sliceStr xd_sliceStr xr_sliceSl xd_sliceSl lenSA_str lenSA_strOf lenLA_sl lenLA_nil xfn xcode xdrawn xr_nil xr_kg xr_kh xr_call xr_callN xr_store xr_append xd_append xap_sl xap_nl xapq_some xsrc_sl xsrc_nil xapp_nil xapp_grow xapp_room xset xown xnx_some xnp_some xnq_some xd_nil xdl_old xdl_new xda_some xd_call xd_store xd_kg xdn_some xld xal kindOf isAlloc allocs xins xrem xall xput xget xwhole xcont xq xqs xres XS.add XR.out XR.res Rs.seq Rs.block mapO tupleA sv_args adv_eq tget eqs8 eqs7 eqt8 eqt7 eqi8 eqi7 eqb8 eqb7 eqg8 eql8 eql7 eqn8 eqn7 cells_strOf cells_int cells_agg cells_bool cells_str cells_sl cells_nil cells_ptr at_int at_str at_strOf at_bool at_sl at_nil at_ptr unstr_strOf unbyt_byt fill_nil fill_cons replA ev_tm ev_vl sv_stv bin_add bin_sub bin_mul bin_lss bin_leq bin_gtr bin_geq bin_eql bin_neq un_not un_neg nth0 nth1 nth2 xst_idxAddrSl xst_idxStr xst_sliceStr xbd slN Nat.testBit
noncomputable def e_rlabel : Ent := mkEnt 96 1 [] (fun z_ : (List UInt8) => [strOf z_]) (fun _ => []) (fun z_ => z_.length ≤ 9000) (fun z_ => .plain (.bool (labelB z_)))
theorem f_rlabel : e_rlabel.f = 96 := rfl
theorem x_rlabel {U : List Ent} {b : Pos} {st : XS} (hU : tget U 96 = some e_rlabel) (s : List UInt8) (hp : s.length ≤ 9000) : xcall U b 96 [strOf s] st = some (XR.out b st (.plain (.bool (labelB s)))) :=
  xcall_at hU rfl rfl (mkEnt_spec (by rintro a0 b0 h hc; simp only [List.cons.injEq, AV.agg.injEq, AV.tup.injEq, AV.int.injEq, AV.bool.injEq, AV.ptr.injEq, AV.sl.injEq, strOf_eq, byt_eq, map_strOf_eq, true_and, and_true, Int.natCast_inj] at h hc; simp [h, hc]) s hp)
noncomputable def e_rbranch : Ent := mkEnt 51 1 [] (fun z_ : Int × (List UInt8) => [.agg [int64 z_.1, strOf z_.2]]) (fun _ => []) (fun z_ => z_.2.length ≤ 9000) (fun z_ => .plain (.bool (branchB z_.1 z_.2)))
theorem f_rbranch : e_rbranch.f = 51 := rfl
theorem x_rbranch {U : List Ent} {b : Pos} {st : XS} (hU : tget U 51 = some e_rbranch) (r : Int) (s : List UInt8) (hp : s.length ≤ 9000) : xcall U b 51 [.agg [int64 r, strOf s]] st = some (XR.out b st (.plain (.bool (branchB r s)))) :=
  xcall_at hU rfl rfl (mkEnt_spec (by rintro ⟨a0, a1⟩ ⟨b0, b1⟩ h hc; simp only [List.cons.injEq, AV.agg.injEq, AV.tup.injEq, AV.int.injEq, AV.bool.injEq, AV.ptr.injEq, AV.sl.injEq, strOf_eq, byt_eq, map_strOf_eq, true_and, and_true, Int.natCast_inj] at h hc; simp [h, hc]) (r, s) hp)
noncomputable def e_rname : Ent := mkEnt 56 1 [] (fun z_ : Int × (List UInt8) × Int => [.agg [int64 z_.1, strOf z_.2.1, int64 z_.2.2]]) (fun _ => []) (fun z_ => z_.2.1.length ≤ 9000) (fun z_ => .plain (.bool (nameB z_.1 z_.2.1 z_.2.2)))
theorem f_rname : e_rname.f = 56 := rfl
theorem x_rname {U : List Ent} {b : Pos} {st : XS} (hU : tget U 56 = some e_rname) (r : Int) (s : List UInt8) (n : Int) (hp : s.length ≤ 9000) : xcall U b 56 [.agg [int64 r, strOf s, int64 n]] st = some (XR.out b st (.plain (.bool (nameB r s n)))) :=
  xcall_at hU rfl rfl (mkEnt_spec (by rintro ⟨a0, a1, a2⟩ ⟨b0, b1, b2⟩ h hc; simp only [List.cons.injEq, AV.agg.injEq, AV.tup.injEq, AV.int.injEq, AV.bool.injEq, AV.ptr.injEq, AV.sl.injEq, strOf_eq, byt_eq, map_strOf_eq, true_and, and_true, Int.natCast_inj] at h hc; simp [h, hc]) (r, s, n) hp)
noncomputable def e_rstamp : Ent := mkEnt 59 1 [] (fun z_ : Int × Int × (List UInt8) × Int × Int => [.agg [int64 z_.1, int64 z_.2.1, strOf z_.2.2.1, int64 z_.2.2.2.1, int64 z_.2.2.2.2]]) (fun _ => []) (fun z_ => z_.2.2.1.length ≤ 9000) (fun z_ => .plain (.bool (stampB z_.1 z_.2.1 z_.2.2.1 z_.2.2.2.1 z_.2.2.2.2)))
theorem f_rstamp : e_rstamp.f = 59 := rfl
theorem x_rstamp {U : List Ent} {b : Pos} {st : XS} (hU : tget U 59 = some e_rstamp) (g : Int) (r : Int) (s : List UInt8) (n : Int) (i : Int) (hp : s.length ≤ 9000) : xcall U b 59 [.agg [int64 g, int64 r, strOf s, int64 n, int64 i]] st = some (XR.out b st (.plain (.bool (stampB g r s n i)))) :=
  xcall_at hU rfl rfl (mkEnt_spec (by rintro ⟨a0, a1, a2, a3, a4⟩ ⟨b0, b1, b2, b3, b4⟩ h hc; simp only [List.cons.injEq, AV.agg.injEq, AV.tup.injEq, AV.int.injEq, AV.bool.injEq, AV.ptr.injEq, AV.sl.injEq, strOf_eq, byt_eq, map_strOf_eq, true_and, and_true, Int.natCast_inj] at h hc; simp [h, hc]) (g, r, s, n, i) hp)
noncomputable def e_rdigits : Ent := mkEnt 97 1 [] (fun z_ : Int => [int64 z_]) (fun _ => []) (fun z_ => -9223372036854775808 ≤ z_ ∧ z_ ≤ 9223372036854775807) (fun z_ => .plain (strOf (Lib.itoa z_)))
theorem f_rdigits : e_rdigits.f = 97 := rfl
theorem x_rdigits {U : List Ent} {b : Pos} {st : XS} (hU : tget U 97 = some e_rdigits) (n : Int) (hp : -9223372036854775808 ≤ n ∧ n ≤ 9223372036854775807) : xcall U b 97 [int64 n] st = some (XR.out b st (.plain (strOf (Lib.itoa n)))) :=
  xcall_at hU rfl rfl (mkEnt_spec (by rintro a0 b0 h hc; simp only [List.cons.injEq, AV.agg.injEq, AV.tup.injEq, AV.int.injEq, AV.bool.injEq, AV.ptr.injEq, AV.sl.injEq, strOf_eq, byt_eq, map_strOf_eq, true_and, and_true, Int.natCast_inj] at h hc; simp [h, hc]) n hp)
noncomputable def e_rtextb : Ent := mkEnt 52 1 [] (fun z_ : Nat × (List UInt8) => [.agg [int64 (z_.1 : Int), strOf z_.2]]) (fun _ => []) (fun z_ => z_.1 ≤ 9223372036854775807 ∧ z_.2.length ≤ 9000) (fun z_ => .plain (strOf (textbB z_.1 z_.2)))
theorem f_rtextb : e_rtextb.f = 52 := rfl
theorem x_rtextb {U : List Ent} {b : Pos} {st : XS} (hU : tget U 52 = some e_rtextb) (r : Nat) (s : List UInt8) (hp : r ≤ 9223372036854775807 ∧ s.length ≤ 9000) : xcall U b 52 [.agg [int64 (r : Int), strOf s]] st = some (XR.out b st (.plain (strOf (textbB r s)))) :=
  xcall_at hU rfl rfl (mkEnt_spec (by rintro ⟨a0, a1⟩ ⟨b0, b1⟩ h hc; simp only [List.cons.injEq, AV.agg.injEq, AV.tup.injEq, AV.int.injEq, AV.bool.injEq, AV.ptr.injEq, AV.sl.injEq, strOf_eq, byt_eq, map_strOf_eq, true_and, and_true, Int.natCast_inj] at h hc; simp [h, hc]) (r, s) hp)
noncomputable def e_rtextn : Ent := mkEnt 57 1 [] (fun z_ : Nat × (List UInt8) × Nat => [.agg [int64 (z_.1 : Int), strOf z_.2.1, int64 (z_.2.2 : Int)]]) (fun _ => []) (fun z_ => z_.1 ≤ 9223372036854775807 ∧ z_.2.1.length ≤ 9000 ∧ z_.2.2 ≤ 9223372036854775807) (fun z_ => .plain (strOf (textnB z_.1 z_.2.1 z_.2.2)))
theorem f_rtextn : e_rtextn.f = 57 := rfl
theorem x_rtextn {U : List Ent} {b : Pos} {st : XS} (hU : tget U 57 = some e_rtextn) (r : Nat) (s : List UInt8) (n : Nat) (hp : r ≤ 9223372036854775807 ∧ s.length ≤ 9000 ∧ n ≤ 9223372036854775807) : xcall U b 57 [.agg [int64 (r : Int), strOf s, int64 (n : Int)]] st = some (XR.out b st (.plain (strOf (textnB r s n)))) :=
  xcall_at hU rfl rfl (mkEnt_spec (by rintro ⟨a0, a1, a2⟩ ⟨b0, b1, b2⟩ h hc; simp only [List.cons.injEq, AV.agg.injEq, AV.tup.injEq, AV.int.injEq, AV.bool.injEq, AV.ptr.injEq, AV.sl.injEq, strOf_eq, byt_eq, map_strOf_eq, true_and, and_true, Int.natCast_inj] at h hc; simp [h, hc]) (r, s, n) hp)
noncomputable def e_rtext : Ent := mkEnt 60 1 [] (fun z_ : Nat × Nat × (List UInt8) × Nat × Nat => [.agg [int64 (z_.1 : Int), int64 (z_.2.1 : Int), strOf z_.2.2.1, int64 (z_.2.2.2.1 : Int), int64 (z_.2.2.2.2 : Int)]]) (fun _ => []) (fun z_ => z_.1 ≤ 9223372036854775807 ∧ z_.2.1 ≤ 9223372036854775807 ∧ z_.2.2.1.length ≤ 9000 ∧ z_.2.2.2.1 ≤ 9223372036854775807 ∧ z_.2.2.2.2 ≤ 9223372036854775807) (fun z_ => .plain (strOf (textB z_.1 z_.2.1 z_.2.2.1 z_.2.2.2.1 z_.2.2.2.2)))
theorem f_rtext : e_rtext.f = 60 := rfl
theorem x_rtext {U : List Ent} {b : Pos} {st : XS} (hU : tget U 60 = some e_rtext) (g : Nat) (r : Nat) (s : List UInt8) (n : Nat) (i : Nat) (hp : g ≤ 9223372036854775807 ∧ r ≤ 9223372036854775807 ∧ s.length ≤ 9000 ∧ n ≤ 9223372036854775807 ∧ i ≤ 9223372036854775807) : xcall U b 60 [.agg [int64 (g : Int), int64 (r : Int), strOf s, int64 (n : Int), int64 (i : Int)]] st = some (XR.out b st (.plain (strOf (textB g r s n i)))) :=
  xcall_at hU rfl rfl (mkEnt_spec (by rintro ⟨a0, a1, a2, a3, a4⟩ ⟨b0, b1, b2, b3, b4⟩ h hc; simp only [List.cons.injEq, AV.agg.injEq, AV.tup.injEq, AV.int.injEq, AV.bool.injEq, AV.ptr.injEq, AV.sl.injEq, strOf_eq, byt_eq, map_strOf_eq, true_and, and_true, Int.natCast_inj] at h hc; simp [h, hc]) (g, r, s, n, i) hp)
theorem dots2 (a b : List UInt8) : dots [a, b] = a ++ 46 :: b := by unfold dots; simp [Lib.join, List.intercalate]
theorem dots3 (a b c : List UInt8) : dots [a, b, c] = a ++ 46 :: (b ++ 46 :: c) := by unfold dots; simp [Lib.join, List.intercalate]
section
variable {m : Int} {t1 t2 : AV}
theorem low_at {s : List UInt8} (h : low s = true) {k : Nat} (hk : k < s.length) : ¬ (s[k].toNat : Int) < 97 ∧ ¬ 122 < (s[k].toNat : Int) := by
  have := List.all_eq_true.1 h _ (List.getElem_mem hk)
  simp at this; omega
theorem low_not {s : List UInt8} {k : Nat} (hk : k < s.length) (h : (s[k].toNat : Int) < 97 ∨ 122 < (s[k].toNat : Int)) : low s = false := by
  rw [← Bool.not_eq_true]; intro q
  have := low_at q hk; omega
theorem rlabel_loop (s : List UInt8) (hs : s.length ≤ 9000) (b : Pos) (st : XS) (k : Nat) : ∀ (fuel n i : Nat) (env : T AV), sv env 0 = strOf s → sv env 3 = .int .i64 (i : Int) → i + n = s.length → n < fuel → low (s.take i) = true →
    ∃ env', xloop (xcode Tryz.prog [] [] b (k + 1) rlabel_0) fuel env st = some (if low s then .exit 0 else .ret, env', st) ∧ (low s = true → sv env' 0 = strOf s) ∧ (low s = false → sv env' 2 = .bool false)
  | 0, n, i, env, _, _, _, hf, _ => by omega
  | fuel + 1, n, i, env, h0, h3, hi, hf, hlo => by
    unfold xloop
    cases n with
    | zero =>
      obtain rfl : i = s.length := by omega
      rw [List.take_length] at hlo
      simp [rlabel_0, h0, h3, hlo]
    | succ n =>
      have hi1 : i < s.length := by omega
      by_cases c1 : (s[i].toNat : Int) < 97
      · have hno := low_not hi1 (.inl c1)
        simp [rlabel_0, h0, h3, hi1, c1, hno]
      · by_cases c2 : 122 < (s[i].toNat : Int)
        · have hno := low_not hi1 (.inr c2)
          simp [rlabel_0, h0, h3, hi1, c1, c2, hno]
        · have w : wrapA .i64 ((i : Int) + 1) = ((i + 1 : Nat) : Int) := by rw [w64 (by omega) (by omega)]; rfl
          have key := fun env a1 a2 => rlabel_loop s hs b st k fuel n (i + 1) env a1 a2 (by omega) (by omega) (low_step hi1 hlo c1 c2)
          generalize xloop (xcode Tryz.prog [] [] b (k + 1) rlabel_0) fuel = R at key ⊢
          simp [rlabel_0, h0, h3, hi1, c1, c2, w]
          refine key _ ?_ ?_ <;> simp [sv_stv, h0]
theorem rlabel_ok : EntOK Tryz.prog (HasG m t1 t2) e_rlabel := mkEnt_ok ok_rlabel fun s h gg hs _ => by
  have hs : s.length ≤ 9000 := hs
  refine plain_of (U := []) (K := []) (fun _ o => gg.more o) (by simp) (by simp) (s.length + 1) rlabel_code (by simp [rlabel_fu]) rfl ?_
  obtain ⟨env', e, q1, q2⟩ := rlabel_loop s hs h.next ⟨0, []⟩ s.length (s.length + 1) s.length 0 (stv (stv (setArgs .e 0 [strOf s]) 2 (.bool false)) 3 (int64 0)) (by simp [sv_stv, sv_args]) (by simp [sv_stv]) (by omega) (by omega) rfl
  show _ = some (AV.bool (labelB s))
  unfold labelB
  cases hlo : low s
  · have q2 := q2 hlo
    rw [hlo] at e
    simp [rlabel_fu, e, q2]
  · have q1 := q1 hlo
    rw [hlo] at e
    by_cases c1 : 1 ≤ s.length
    · have c1' : (1 : Int) ≤ (s.length : Int) := by omega
      by_cases c2 : s.length ≤ 12
      · have c2' : (s.length : Int) ≤ 12 := by omega
        simp [rlabel_fu, e, q1, c1, c2, c1', c2']
      · have c2' : ¬ (s.length : Int) ≤ 12 := by omega
        simp [rlabel_fu, e, q1, c1, c2, c1', c2']
    · have c1' : ¬ (1 : Int) ≤ (s.length : Int) := by omega
      simp [rlabel_fu, e, q1, c1, c1']
theorem rbranch_ok : EntOK Tryz.prog (HasG m t1 t2) e_rbranch := mkEnt_ok ok_rbranch fun p h g hs _ => by
  obtain ⟨r, s⟩ := p
  have hs : s.length ≤ 9000 := hs
  refine plain_of (U := []) (K := [e_rlabel]) (fun _ o => g.more o) (by simp) (by simp [rlabel_ok.entK]) 0 rbranch_code (by simp [rbranch_fu]) rfl ?_
  show _ = some (AV.bool (branchB r s))
  unfold branchB
  by_cases c0 : 0 ≤ r <;> by_cases c1 : r < 8 <;> simp [rbranch_fu, c0, c1, x_rlabel, f_rlabel, hs]
theorem rname_ok : EntOK Tryz.prog (HasG m t1 t2) e_rname := mkEnt_ok ok_rname fun p h g hs _ => by
  obtain ⟨r, s, n⟩ := p
  have hs : s.length ≤ 9000 := hs
  refine plain_of (U := []) (K := [e_rbranch]) (fun _ o => g.more o) (by simp) (by simp [rbranch_ok.entK]) 0 rname_code (by simp [rname_fu]) rfl ?_
  show _ = some (AV.bool (nameB r s n))
  unfold nameB
  cases c0 : branchB r s <;> by_cases c1 : 1 ≤ n <;> simp [rname_fu, c0, c1, x_rbranch, f_rbranch, hs]
theorem rstamp_ok : EntOK Tryz.prog (HasG m t1 t2) e_rstamp := mkEnt_ok ok_rstamp fun p h g hs _ => by
  obtain ⟨g', r, s, n, i⟩ := p
  have hs : s.length ≤ 9000 := hs
  refine plain_of (U := []) (K := [e_rname]) (fun _ o => g.more o) (by simp) (by simp [rname_ok.entK]) 0 rstamp_code (by simp [rstamp_fu]) rfl ?_
  show _ = some (AV.bool (stampB g' r s n i))
  unfold stampB
  by_cases c1 : 1 ≤ g' <;> by_cases c2 : g' ≤ 4611686018427387904 <;> cases c0 : nameB r s n <;> by_cases c3 : 0 ≤ i <;> simp [rstamp_fu, c0, c1, c2, c3, x_rname, f_rname, hs]
theorem rdigits_ok : EntOK Tryz.prog (HasG m t1 t2) e_rdigits := mkEnt_ok ok_rdigits fun n h g hn _ => by
  refine plain_of (U := []) (K := [e_fmt]) (fun _ o => g.more o) (by simp) (by simp [kit_fmt]) 0 rdigits_code (by simp [rdigits_fu]) rfl ?_
  simp [rdigits_fu, x_fmt, f_fmt, hn.1, hn.2]
theorem addDot {a : List UInt8} (kd : EK) (no : Bool) (h : a.length ≤ 900000) : binA .add kd no (strOf a) (.str 1 46) = some (strOf (a ++ [46])) := bin_addS kd no a [46] (by simp; omega)
theorem rtextb_ok : EntOK Tryz.prog (HasG m t1 t2) e_rtextb := mkEnt_ok ok_rtextb fun p h g hp _ => by
  obtain ⟨r, s⟩ := p
  obtain ⟨hr, hs⟩ : r ≤ 9223372036854775807 ∧ s.length ≤ 9000 := hp
  refine plain_of (U := [e_rdigits]) (K := []) (fun _ o => g.more o) (by simp [rdigits_ok]) (by simp) 0 rtextb_code (by simp [rtextb_fu]) rfl ?_
  have il := itoa_length_le r (by omega)
  simp [rtextb_fu, x_rdigits, f_rdigits, textbB, dots2, addDot, bin_addS, show (r : Int) ≤ 9223372036854775807 by omega, show -9223372036854775808 ≤ (r : Int) by omega, show (Lib.itoa (r : Int)).length ≤ 900000 by omega, show (Lib.itoa (r : Int)).length + 1 + s.length ≤ 1000000 by omega]
theorem rtextn_ok : EntOK Tryz.prog (HasG m t1 t2) e_rtextn := mkEnt_ok ok_rtextn fun p h g hp _ => by
  obtain ⟨r, s, n⟩ := p
  obtain ⟨hr, hs, hn⟩ : r ≤ 9223372036854775807 ∧ s.length ≤ 9000 ∧ n ≤ 9223372036854775807 := hp
  refine plain_of (U := [e_rdigits, e_rtextb]) (K := []) (fun _ o => g.more o) (by simp [rdigits_ok, rtextb_ok]) (by simp) 0 rtextn_code (by simp [rtextn_fu]) rfl ?_
  have il := itoa_length_le n (by omega)
  have tl : (textbB r s).length ≤ 10000 := by have := itoa_length_le r (by omega); rw [textbB, dots_length_le]; omega
  simp [rtextn_fu, x_rdigits, f_rdigits, x_rtextb, f_rtextb, hr, hs, textnB, dots2, addDot, bin_addS, show (n : Int) ≤ 9223372036854775807 by omega, show -9223372036854775808 ≤ (n : Int) by omega, show (textbB r s).length ≤ 900000 by omega, show (textbB r s).length + 1 + (Lib.itoa (n : Int)).length ≤ 1000000 by omega]
theorem rtext_ok : EntOK Tryz.prog (HasG m t1 t2) e_rtext := mkEnt_ok ok_rtext fun p h gg hp _ => by
  obtain ⟨g, r, s, n, i⟩ := p
  obtain ⟨hg, hr, hs, hn, hi⟩ : g ≤ 9223372036854775807 ∧ r ≤ 9223372036854775807 ∧ s.length ≤ 9000 ∧ n ≤ 9223372036854775807 ∧ i ≤ 9223372036854775807 := hp
  refine plain_of (U := [e_rdigits, e_rtextn]) (K := []) (fun _ o => gg.more o) (by simp [rdigits_ok, rtextn_ok]) (by simp) 0 rtext_code (by simp [rtext_fu]) rfl ?_
  have gl := itoa_length_le g (by omega)
  have il := itoa_length_le i (by omega)
  have tl : (textnB r s n).length ≤ 10000 := by have := textnB_length_le (s := s) (show r < 18446744073709551616 by omega) (show n < 18446744073709551616 by omega); omega
  simp [rtext_fu, x_rdigits, f_rdigits, x_rtextn, f_rtextn, hr, hs, hn, textB, dots3, addDot, bin_addS, show (g : Int) ≤ 9223372036854775807 by omega, show -9223372036854775808 ≤ (g : Int) by omega, show (i : Int) ≤ 9223372036854775807 by omega, show -9223372036854775808 ≤ (i : Int) by omega, show (Lib.itoa (g : Int)).length ≤ 900000 by omega, show (Lib.itoa (g : Int)).length + 1 + (textnB r s n).length ≤ 1000000 by omega, show (Lib.itoa (g : Int)).length + ((textnB r s n).length + 1) ≤ 900000 by omega, show (Lib.itoa (g : Int)).length + ((textnB r s n).length + (1 + 1)) + (Lib.itoa (i : Int)).length ≤ 1000000 by omega, show (Lib.itoa (g : Int)).length + ((textnB r s n).length + ((Lib.itoa (i : Int)).length + 1) + 1) ≤ 1000000 by omega]
end
end Go.Proofs.YtjhgembcdndmkaaGreatDoor.St

namespace Go.Proofs.YtjhgembcdndmkaaGreatDoor.St
open Go Go.Proofs.YtjhgembcdndmkaaGreatDoor.Am Go.Proofs Go.RowKit
attribute [local simp] xr_mov xd_mov xr_pick xd_pick xr_bin xd_bin xr_un xd_un xr_build xd_build xr_convInt xd_convInt xr_mkIfc xd_mkIfc xr_mkFn xd_mkFn xr_fld xd_fld xr_part1 xd_part1 xr_partN xd_partN xr_extract xd_extract xr_lenS xd_lenS xr_lenL xd_lenL xr_lenArr xd_lenArr xr_nilPtr xd_nilPtr xr_load1 xd_load1 xr_loadN xd_loadN xr_bytesStr xd_bytesStr xr_eqPtr xd_eqPtr xr_eqIfc xd_eqIfc xr_new xd_new xr_box xd_box xr_buildSl xd_buildSl xr_strBytes xd_strBytes xr_mkSl xd_mkSl xr_idxAddrSl xd_idxAddrSl xr_idxAddrArr xd_idxAddrArr xr_idxStr xd_idxStr xr_sliceStr xd_sliceStr xr_sliceSl xd_sliceSl lenSA_str lenSA_strOf lenLA_sl lenLA_nil xfn xcode xdrawn xr_nil xr_kg xr_kh xr_call xr_callN xr_store xr_append xd_append xap_sl xap_nl xapq_some xsrc_sl xsrc_nil xapp_nil xapp_grow xapp_room xset xown xnx_some xnp_some xnq_some xd_nil xdl_old xdl_new xda_some xd_call xd_store xd_kg xdn_some xld xal kindOf isAlloc allocs xins xrem xall xput xget xwhole xcont xq xqs xres XS.add XR.out XR.res Rs.seq Rs.block mapO tupleA sv_args adv_eq tget eqs8 eqs7 eqt8 eqt7 eqi8 eqi7 eqb8 eqb7 eqg8 eql8 eql7 eqn8 eqn7 cells_strOf cells_int cells_agg cells_bool cells_str cells_sl cells_nil cells_ptr at_int at_str at_strOf at_bool at_sl at_nil at_ptr unstr_strOf unbyt_byt fill_nil fill_cons replA ev_tm ev_vl sv_stv bin_add bin_sub bin_mul bin_lss bin_leq bin_gtr bin_geq bin_eql bin_neq un_not un_neg nth0 nth1 nth2 xst_idxAddrSl xst_idxStr xst_sliceStr xbd slN Nat.testBit
noncomputable def e_rcut : Ent := mkEnt 49 1 [] (fun z_ : (List UInt8) => [strOf z_]) (fun _ => []) (fun z_ => z_.length ≤ 9000) (fun z_ => .row (((cuts 46 z_).take 9).map strOf) (fun p => slN p ((cuts 46 z_).take 9).length 1))
theorem f_rcut : e_rcut.f = 49 := rfl
theorem x_rcut {U : List Ent} {b : Pos} {st : XS} (hU : tget U 49 = some e_rcut) (s : List UInt8) (hp : s.length ≤ 9000) : xcall U b 49 [strOf s] st = some (XR.out b st (.row (((cuts 46 s).take 9).map strOf) (fun p => slN p ((cuts 46 s).take 9).length 1))) :=
  xcall_at hU rfl rfl (mkEnt_spec (by rintro a0 b0 h hc; simp only [List.cons.injEq, AV.agg.injEq, AV.tup.injEq, AV.int.injEq, AV.bool.injEq, AV.ptr.injEq, AV.sl.injEq, strOf_eq, byt_eq, map_strOf_eq, true_and, and_true, Int.natCast_inj] at h hc; simp [h, hc]) s hp)
theorem xown_xset : ∀ {X : List XB} {id : Pos} {g g' : Nat} {l l' : List AV}, xown X id g = some l → xown (xset X id g' l') id g' = some l'
  | [], _, _, _, _, _, e => by cases e
  | x :: X, id, g, g', l, l', e => by
    unfold xset
    unfold xown at e
    by_cases c : x.id = id
    · rw [if_pos c]; unfold xown; simp
    · rw [if_neg c] at e ⊢
      unfold xown
      rw [if_neg c]
      exact xown_xset e
def SlI (b : Pos) (st : XS) (v : AV) (parts : List (List UInt8)) : Prop :=
  (v = .nilSl ∧ parts = []) ∨ ∃ j g, v = .sl (adv b j) g 0 parts.length parts.length false 1 ∧ j < st.n ∧ xown st.X (adv b j) g = some (parts.map strOf) ∧ parts ≠ []
theorem cut_app {b : Pos} {st : XS} {v : AV} {parts : List (List UInt8)} (si : SlI b st v parts) (d : List UInt8) (hl : parts.length ≤ 9) :
    ∃ v' st', xap b ⟨st.n + 1, ⟨adv b st.n, 0, true, [strOf d]⟩ :: st.X⟩ 1 16 v (.sl (adv b st.n) 0 0 1 1 true 1) = some (v', st') ∧ SlI b st' v' (parts ++ [d]) := by
  rcases si with ⟨rfl, rfl⟩ | ⟨j, g, rfl, hj, hx, hne⟩
  · refine ⟨.sl (adv b (st.n + 1)) 0 0 1 1 false 1, ⟨st.n + 2, ⟨adv b (st.n + 1), 0, true, [strOf d]⟩ :: ⟨adv b st.n, 0, true, [strOf d]⟩ :: st.X⟩, ?_, .inr ⟨st.n + 1, 0, rfl, by simp, by simp [xown], by simp⟩⟩
    simp []
  · have hn : ¬ st.n = j := by omega
    have hlen : (parts.map strOf).length = parts.length := List.length_map ..
    refine ⟨.sl (adv b j) (g + 1) 0 (parts.length + 1) (parts.length + 1) false 1, ⟨st.n + 1, ⟨adv b st.n, 0, true, [strOf d]⟩ :: xset st.X (adv b j) (g + 1) (parts.map strOf ++ [strOf d])⟩, ?_, .inr ⟨j, g + 1, by simp, by simp; omega, ?_, by simp⟩⟩
    · simp [xown, hn, hx, show parts.length ≤ 1073741823 by omega]
    · unfold xown
      rw [if_neg (by rw [adv_eq]; exact hn), xown_xset hx]
      simp
section
variable {m : Int} {t1 t2 : AV}
theorem drop_dot {s : List UInt8} {a i : Nat} (hai : a ≤ i) (hi : i < s.length) (hd : s[i] = 46) : s.drop a = (s.drop a).take (i - a) ++ 46 :: s.drop (i + 1) := by
  have e1 : s.drop i = 46 :: s.drop (i + 1) := by rw [List.drop_eq_getElem_cons hi, hd]
  rw [← e1]
  have e2 : s.drop i = (s.drop a).drop (i - a) := by rw [List.drop_drop]; congr 1; omega
  rw [e2, List.take_append_drop]
theorem nodot_step {s : List UInt8} {a i : Nat} (hai : a ≤ i) (hi : i < s.length) (hd : s[i] ≠ 46) (h : (46 : UInt8) ∉ (s.drop a).take (i - a)) : (46 : UInt8) ∉ (s.drop a).take (i + 1 - a) := by
  have hlt : i - a < (s.drop a).length := by rw [List.length_drop]; omega
  rw [show i + 1 - a = (i - a) + 1 by omega, List.take_succ_eq_append_getElem hlt]
  intro c
  rcases List.mem_append.1 c with c | c
  · exact h c
  · rw [List.getElem_drop] at c
    have := List.mem_singleton.1 c
    exact hd (by rw [this]; congr 1; omega)
theorem rcut_loop (s : List UInt8) (hs : s.length ≤ 9000) (b : Pos) (k : Nat) : ∀ (fuel n i a : Nat) (env : T AV) (st : XS) (parts : List (List UInt8)), sv env 0 = strOf s → sv env 5 = .int .i64 (i : Int) → sv env 4 = .int .i64 (a : Int) → SlI b st (sv env 3) parts → parts.length ≤ 9 → i + n = s.length + 1 → n < fuel →
    ((i ≤ s.length ∧ a ≤ i ∧ (46 : UInt8) ∉ (s.drop a).take (i - a) ∧ cuts 46 s = parts ++ cuts 46 (s.drop a)) ∨ (i = s.length + 1 ∧ parts = cuts 46 s)) →
    ∃ env' st', xloop (xcode Tryz.prog [] [] b (k + 1) rcut_0) fuel env st = some (.exit 0, env', st') ∧ SlI b st' (sv env' 3) ((cuts 46 s).take 9)
  | 0, n, i, a, env, st, parts, _, _, _, _, _, _, hf, _ => by omega
  | fuel + 1, n, i, a, env, st, parts, h0, h5, h4, si, hl, hi, hf, hc => by
    unfold xloop
    have key := rcut_loop s hs b k fuel
    generalize xloop (xcode Tryz.prog [] [] b (k + 1) rcut_0) fuel = R at key ⊢
    have hll : lenLA (sv env 3) = some (.int .i64 (parts.length : Int)) := by
      rcases si with ⟨e, rfl⟩ | ⟨j, g, e, _⟩ <;> rw [e] <;> rfl
    rcases hc with ⟨c1, c2, c3, c4⟩ | ⟨c1, c2⟩
    · have hle : (i : Int) ≤ (s.length : Int) := by omega
      by_cases hp : parts.length < 9
      · have hp' : (parts.length : Int) < 9 := by omega
        have w : wrapA .i64 ((i : Int) + 1) = ((i + 1 : Nat) : Int) := by rw [w64 (by omega) (by omega)]; rfl
        obtain ⟨v', st', e, si'⟩ := cut_app si ((s.drop a).take (i - a)) hl
        by_cases hil : i = s.length
        · subst hil
          have ed : (s.drop a).take (s.length - a) = s.drop a := List.take_of_length_le (by rw [List.length_drop]; exact Nat.le_refl _)
          have ec : cuts 46 s = parts ++ [(s.drop a).take (s.length - a)] := by rw [c4, cuts_none (by rw [← ed]; exact c3), ed]
          have key := fun env st q0 q5 q4 q3 => key (n - 1) (s.length + 1) (s.length + 1) env st (parts ++ [(s.drop a).take (s.length - a)]) q0 q5 q4 q3 (by simp; omega) (by omega) (by omega) (.inr ⟨rfl, ec.symm⟩)
          simp [rcut_0, -xap_sl, h0, h5, h4, hll, hp', w, c2, e]
          refine key _ _ ?_ ?_ ?_ ?_ <;> simp [sv_stv, h0, si']
        · have hlt : i < s.length := by omega
          have hil' : ¬ (i : Int) = (s.length : Int) := by omega
          by_cases hd : s[i] = 46
          · have ec : cuts 46 s = (parts ++ [(s.drop a).take (i - a)]) ++ cuts 46 (s.drop (i + 1)) := by
              have hx := cuts_at (c := 46) (s.drop (i + 1)) c3
              rw [← drop_dot c2 hlt hd] at hx
              rw [c4, hx]; simp
            have hd' : (s[i].toNat : Int) = 46 := by rw [hd]; rfl
            have key := fun env st q0 q5 q4 q3 => key (n - 1) (i + 1) (i + 1) env st (parts ++ [(s.drop a).take (i - a)]) q0 q5 q4 q3 (by simp; omega) (by omega) (by omega) (.inl ⟨by omega, by omega, by simp, ec⟩)
            simp [rcut_0, -xap_sl, h0, h5, h4, hll, hp', w, c1, c2, e, hle, hlt, hil', hil, hd']
            refine key _ _ ?_ ?_ ?_ ?_ <;> simp [sv_stv, h0, si']
          · have hd' : ¬ (s[i].toNat : Int) = 46 := fun c => hd (UInt8.toNat_inj.1 (by show _ = 46; omega))
            have key := fun env st q0 q5 q4 q3 => key (n - 1) (i + 1) a env st parts q0 q5 q4 q3 hl (by omega) (by omega) (.inl ⟨by omega, by omega, nodot_step c2 hlt hd c3, c4⟩)
            simp [rcut_0, -xap_sl, h0, h5, h4, hll, hp', w, c1, c2, hle, hlt, hil', hil, hd']
            refine key _ _ ?_ ?_ ?_ ?_ <;> simp [sv_stv, h0, h4, si]
      · have hp' : ¬ (parts.length : Int) < 9 := by omega
        have h9 : parts.length = 9 := by omega
        have e9 : (cuts 46 s).take 9 = parts := by rw [c4, List.take_append_of_le_length (by omega), List.take_of_length_le (by omega)]
        simp [rcut_0, -xap_sl, h0, h5, hll, hle, hp', e9]
        exact ⟨_, _, ⟨rfl, rfl⟩, by simpa [sv_stv] using si⟩
    · have hno : ¬ (i : Int) ≤ (s.length : Int) := by omega
      have e9 : (cuts 46 s).take 9 = parts := by rw [← c2, List.take_of_length_le hl]
      simp [rcut_0, -xap_sl, h0, h5, hno, e9]
      exact ⟨_, _, ⟨rfl, rfl⟩, by simpa [sv_stv] using si⟩
theorem rcut_ok : EntOK Tryz.prog (HasG m t1 t2) e_rcut := mkEnt_ok ok_rcut fun s h gg hs _ => by
  have hs : s.length ≤ 9000 := hs
  refine row_of (U := []) (K := []) (X := []) (fun _ o => gg.more o) (by simp) (by simp) (s.length + 2) (.start h) rcut_code (by simp [rcut_fu]) (fun y hy => by obtain ⟨c, _, rfl⟩ := List.mem_map.1 hy; rfl) ?_
  obtain ⟨env', st', e, q⟩ := rcut_loop s hs h.next (s.length + 1) (s.length + 2) (s.length + 1) 0 0 (stv (stv (stv (stv (setArgs .e 0 [strOf s]) 2 .nilSl) 3 .nilSl) 4 (int64 0)) 5 (int64 0)) ⟨0, []⟩ [] (by simp [sv_stv, sv_args]) (by simp [sv_stv]) (by simp [sv_stv]) (.inl ⟨by simp [sv_stv], rfl⟩) (by simp) (by omega) (by omega) (.inl ⟨by omega, by omega, by simp, by simp⟩)
  have hne : (cuts 46 s).take 9 ≠ [] := by
    have := cuts_ne 46 s
    intro c
    rw [List.take_eq_nil_iff] at c
    rcases c with c | c
    · cases c
    · exact this c
  rcases q with ⟨_, c⟩ | ⟨j, g, q1, q2, q3, _⟩
  · exact absurd c hne
  · have hpos : 0 < ((cuts 46 s).take 9).length := List.length_pos_iff.2 hne
    generalize (cuts 46 s).take 9 = L at *
    simp [rcut_fu, e, q1, q3, rowOut_sl]
end
end Go.Proofs.YtjhgembcdndmkaaGreatDoor.St

namespace Go.Proofs.YtjhgembcdndmkaaGreatDoor.St
open Go Go.Proofs.YtjhgembcdndmkaaGreatDoor.Am Go.Proofs Go.RowKit
attribute [local simp] xr_mov xd_mov xr_pick xd_pick xr_bin xd_bin xr_un xd_un xr_build xd_build xr_convInt xd_convInt xr_mkIfc xd_mkIfc xr_mkFn xd_mkFn xr_fld xd_fld xr_part1 xd_part1 xr_partN xd_partN xr_extract xd_extract xr_lenS xd_lenS xr_lenL xd_lenL xr_lenArr xd_lenArr xr_nilPtr xd_nilPtr xr_load1 xd_load1 xr_loadN xd_loadN xr_bytesStr xd_bytesStr xr_eqPtr xd_eqPtr xr_eqIfc xd_eqIfc xr_new xd_new xr_box xd_box xr_buildSl xd_buildSl xr_strBytes xd_strBytes xr_mkSl xd_mkSl xr_idxAddrSl xd_idxAddrSl xr_idxAddrArr xd_idxAddrArr xr_idxStr xd_idxStr xr_sliceStr xd_sliceStr xr_sliceSl xd_sliceSl lenSA_str lenSA_strOf lenLA_sl lenLA_nil xfn xcode xdrawn xr_nil xr_kg xr_kh xr_call xr_callN xr_store xr_append xd_append xap_sl xap_nl xapq_some xsrc_sl xsrc_nil xapp_nil xapp_grow xapp_room xset xown xnx_some xnp_some xnq_some xd_nil xdl_old xdl_new xda_some xd_call xd_store xd_kg xdn_some xld xal kindOf isAlloc allocs xins xrem xall xput xget xwhole xcont xq xqs xres XS.add XR.out XR.res Rs.seq Rs.block mapO tupleA sv_args adv_eq tget eqs8 eqs7 eqt8 eqt7 eqi8 eqi7 eqb8 eqb7 eqg8 eql8 eql7 eqn8 eqn7 cells_strOf cells_int cells_agg cells_bool cells_str cells_sl cells_nil cells_ptr at_int at_str at_strOf at_bool at_sl at_nil at_ptr unstr_strOf unbyt_byt fill_nil fill_cons replA ev_tm ev_vl sv_stv bin_add bin_sub bin_mul bin_lss bin_leq bin_gtr bin_geq bin_eql bin_neq un_not un_neg nth0 nth1 nth2 xst_idxAddrSl xst_idxStr xst_sliceStr xbd slN Nat.testBit
noncomputable def rparsebV (s : List UInt8) : AV := match cuts 46 s with
  | [a, b] => ansb (chkb (rreadI a) b s) (rreadI a) b
  | _ => .tup [.agg [int64 0, .str 0 0], int64 4]
noncomputable def rparsenV (s : List UInt8) : AV := match cuts 46 s with
  | [a, b, c] => ansn (chkn (rreadI a) b (rreadI c) s) (rreadI a) b (rreadI c)
  | _ => .tup [.agg [int64 0, .str 0 0, int64 0], int64 4]
noncomputable def rparsesV (s : List UInt8) : AV := match cuts 46 s with
  | [g, a, b, c, i] => anss (chks (rreadI g) (rreadI a) b (rreadI c) (rreadI i) s) (rreadI g) (rreadI a) b (rreadI c) (rreadI i)
  | _ => .tup [.agg [int64 0, int64 0, .str 0 0, int64 0, int64 0], int64 4]
noncomputable def e_rparseb : Ent := mkEnt 10 1 [] (fun z_ : (List UInt8) => [strOf z_]) (fun _ => []) (fun z_ => z_.length ≤ 9000) (fun z_ => .plain (rparsebV z_))
theorem f_rparseb : e_rparseb.f = 10 := rfl
theorem x_rparseb {U : List Ent} {b : Pos} {st : XS} (hU : tget U 10 = some e_rparseb) (s : List UInt8) (hp : s.length ≤ 9000) : xcall U b 10 [strOf s] st = some (XR.out b st (.plain (rparsebV s))) :=
  xcall_at hU rfl rfl (mkEnt_spec (by rintro a0 b0 h hc; simp only [List.cons.injEq, AV.agg.injEq, AV.tup.injEq, AV.int.injEq, AV.bool.injEq, AV.ptr.injEq, AV.sl.injEq, strOf_eq, byt_eq, map_strOf_eq, true_and, and_true, Int.natCast_inj] at h hc; simp [h, hc]) s hp)
noncomputable def e_rparsen : Ent := mkEnt 12 1 [] (fun z_ : (List UInt8) => [strOf z_]) (fun _ => []) (fun z_ => z_.length ≤ 9000) (fun z_ => .plain (rparsenV z_))
theorem f_rparsen : e_rparsen.f = 12 := rfl
theorem x_rparsen {U : List Ent} {b : Pos} {st : XS} (hU : tget U 12 = some e_rparsen) (s : List UInt8) (hp : s.length ≤ 9000) : xcall U b 12 [strOf s] st = some (XR.out b st (.plain (rparsenV s))) :=
  xcall_at hU rfl rfl (mkEnt_spec (by rintro a0 b0 h hc; simp only [List.cons.injEq, AV.agg.injEq, AV.tup.injEq, AV.int.injEq, AV.bool.injEq, AV.ptr.injEq, AV.sl.injEq, strOf_eq, byt_eq, map_strOf_eq, true_and, and_true, Int.natCast_inj] at h hc; simp [h, hc]) s hp)
noncomputable def e_rparse : Ent := mkEnt 14 1 [] (fun z_ : (List UInt8) => [strOf z_]) (fun _ => []) (fun z_ => z_.length ≤ 9000) (fun z_ => .plain (rparsesV z_))
theorem f_rparse : e_rparse.f = 14 := rfl
theorem x_rparse {U : List Ent} {b : Pos} {st : XS} (hU : tget U 14 = some e_rparse) (s : List UInt8) (hp : s.length ≤ 9000) : xcall U b 14 [strOf s] st = some (XR.out b st (.plain (rparsesV s))) :=
  xcall_at hU rfl rfl (mkEnt_spec (by rintro a0 b0 h hc; simp only [List.cons.injEq, AV.agg.injEq, AV.tup.injEq, AV.int.injEq, AV.bool.injEq, AV.ptr.injEq, AV.sl.injEq, strOf_eq, byt_eq, map_strOf_eq, true_and, and_true, Int.natCast_inj] at h hc; simp [h, hc]) s hp)
noncomputable def e_rofkey : Ent := mkEnt 16 1 [] (fun z_ : (List UInt8) => [strOf z_]) (fun _ => []) (fun z_ => z_.length ≤ 9000) (fun z_ => .plain (ofkV z_))
theorem f_rofkey : e_rofkey.f = 16 := rfl
theorem x_rofkey {U : List Ent} {b : Pos} {st : XS} (hU : tget U 16 = some e_rofkey) (s : List UInt8) (hp : s.length ≤ 9000) : xcall U b 16 [strOf s] st = some (XR.out b st (.plain (ofkV s))) :=
  xcall_at hU rfl rfl (mkEnt_spec (by rintro a0 b0 h hc; simp only [List.cons.injEq, AV.agg.injEq, AV.tup.injEq, AV.int.injEq, AV.bool.injEq, AV.ptr.injEq, AV.sl.injEq, strOf_eq, byt_eq, map_strOf_eq, true_and, and_true, Int.natCast_inj] at h hc; simp [h, hc]) s hp)
noncomputable def e_num : Ent := mkEnt 17 1 [] (fun z_ : Int => [int64 z_]) (fun _ => []) (fun _ => True) (fun z_ => .plain (int64 z_))
theorem f_num : e_num.f = 17 := rfl
theorem x_num {U : List Ent} {b : Pos} {st : XS} (hU : tget U 17 = some e_num) (n : Int) : xcall U b 17 [int64 n] st = some (XR.out b st (.plain (int64 n))) :=
  xcall_at hU rfl rfl (mkEnt_spec (by rintro a0 b0 h hc; simp only [List.cons.injEq, AV.agg.injEq, AV.tup.injEq, AV.int.injEq, AV.bool.injEq, AV.ptr.injEq, AV.sl.injEq, strOf_eq, byt_eq, map_strOf_eq, true_and, and_true, Int.natCast_inj] at h hc; simp [h, hc]) n trivial)
section
variable {m : Int} {t1 t2 : AV}
theorem num_ok : EntOK Tryz.prog (HasG m t1 t2) e_num := mkEnt_ok ok_num fun n h g _ _ => by
  refine plain_of (U := []) (K := []) (fun _ o => g.more o) (by simp) (by simp) 0 num_code (by simp [num_fu]) rfl ?_
  simp [num_fu]
theorem take9_len {s : List UInt8} {n : Nat} (hn : n < 9) (h : (cuts 46 s).length ≠ n) : ¬ (((cuts 46 s).take 9).length : Int) = (n : Int) := by
  rw [List.length_take]; omega
theorem rparseb_ok : EntOK Tryz.prog (HasG m t1 t2) e_rparseb := mkEnt_ok ok_rparseb fun s h g hs _ => by
  have hs : s.length ≤ 9000 := hs
  have hv : (rparsebV s).plain = true := by unfold rparsebV; split; (cases chkb _ _ _ <;> rfl); rfl
  refine plain_of (U := [e_rread]) (K := [e_rcut, e_rbranch, e_rtextb]) (v := rparsebV s) (fun _ o => g.more o) (by simp [rread_ok]) (by simp [rcut_ok.entK, rbranch_ok.entK, rtextb_ok.entK]) 0 rparseb_code (by simp [rparseb_fu]) hv ?_
  by_cases hl : (cuts 46 s).length = 2
  · have hc : ∃ a b, cuts 46 s = [a, b] := by
      revert hl; generalize cuts 46 s = L; intro hl
      match L, hl with
      | [a, b], _ => exact ⟨a, b, rfl⟩
    obtain ⟨a, b, hc⟩ := hc
    have ha : a.length ≤ s.length := cuts_length (c := 46) (by rw [hc]; simp)
    have hb : b.length ≤ s.length := cuts_length (c := 46) (by rw [hc]; simp)
    have hv : rparsebV s = ansb (chkb (rreadI a) b s) (rreadI a) b := by unfold rparsebV; rw [hc]
    rw [hv]
    unfold chkb
    cases hbr : branchB (rreadI a) b
    · simp [rparseb_fu, x_rcut, f_rcut, x_rread, f_rread, x_rbranch, f_rbranch, hc, hs, hbr, ansb_f, show a.length ≤ 20000 by omega, show b.length ≤ 9000 by omega]
    · obtain ⟨q0, q8, ql⟩ := branchB_le hbr
      obtain ⟨r, hr⟩ := Int.eq_ofNat_of_zero_le q0
      rw [hr] at hbr ⊢
      by_cases c : textbB r b = s <;> simp [rparseb_fu, x_rcut, f_rcut, x_rread, f_rread, x_rbranch, f_rbranch, x_rtextb, f_rtextb, hc, hs, hr, hbr, c, ansb_t, ansb_f, bin_neqS, show a.length ≤ 20000 by omega, show b.length ≤ 9000 by omega, show r ≤ 9223372036854775807 by omega]
  · have hv : rparsebV s = .tup [.agg [int64 0, .str 0 0], int64 4] := by
      unfold rparsebV
      split
      · rename_i e; rw [e] at hl; simp at hl
      · rfl
    rw [hv]
    have hz := take9_len (by omega) hl
    have X := fun {U b st} (hU : tget U 49 = some e_rcut) => x_rcut (U := U) (b := b) (st := st) hU s hs
    generalize (cuts 46 s).take 9 = L at *
    have hz : ¬ (L.length : Int) = 2 := hz
    simp [rparseb_fu, X, f_rcut, hz]
theorem rparsen_ok : EntOK Tryz.prog (HasG m t1 t2) e_rparsen := mkEnt_ok ok_rparsen fun s h g hs _ => by
  have hs : s.length ≤ 9000 := hs
  have hv : (rparsenV s).plain = true := by unfold rparsenV; split; (cases chkn _ _ _ _ <;> rfl); rfl
  refine plain_of (U := [e_rread]) (K := [e_rcut, e_rname, e_rtextn]) (v := rparsenV s) (fun _ o => g.more o) (by simp [rread_ok]) (by simp [rcut_ok.entK, rname_ok.entK, rtextn_ok.entK]) 0 rparsen_code (by simp [rparsen_fu]) hv ?_
  by_cases hl : (cuts 46 s).length = 3
  · have hc : ∃ a b c, cuts 46 s = [a, b, c] := by
      revert hl; generalize cuts 46 s = L; intro hl
      match L, hl with
      | [a, b, c], _ => exact ⟨a, b, c, rfl⟩
    obtain ⟨a, b, c, hc⟩ := hc
    have ha : a.length ≤ s.length := cuts_length (c := 46) (by rw [hc]; simp)
    have hb : b.length ≤ s.length := cuts_length (c := 46) (by rw [hc]; simp)
    have hcc : c.length ≤ s.length := cuts_length (c := 46) (by rw [hc]; simp)
    have hv : rparsenV s = ansn (chkn (rreadI a) b (rreadI c) s) (rreadI a) b (rreadI c) := by unfold rparsenV; rw [hc]
    rw [hv]
    unfold chkn
    cases hbr : nameB (rreadI a) b (rreadI c)
    · simp [rparsen_fu, x_rcut, f_rcut, x_rread, f_rread, x_rname, f_rname, hc, hs, hbr, ansn_f, show a.length ≤ 20000 by omega, show c.length ≤ 20000 by omega, show b.length ≤ 9000 by omega]
    · obtain ⟨qb, qn1, qn2⟩ := nameB_le hbr
      obtain ⟨q0, q8, ql⟩ := branchB_le qb
      obtain ⟨r, hr⟩ := Int.eq_ofNat_of_zero_le q0
      obtain ⟨n, hn⟩ := Int.eq_ofNat_of_zero_le (show (0 : Int) ≤ rreadI c by omega)
      rw [hr, hn] at hbr ⊢
      by_cases c0 : textnB r b n = s <;> simp [rparsen_fu, x_rcut, f_rcut, x_rread, f_rread, x_rname, f_rname, x_rtextn, f_rtextn, hc, hs, hr, hn, hbr, c0, ansn_t, ansn_f, bin_neqS, show a.length ≤ 20000 by omega, show c.length ≤ 20000 by omega, show b.length ≤ 9000 by omega, show r ≤ 9223372036854775807 by omega, show n ≤ 9223372036854775807 by omega]
  · have hv : rparsenV s = .tup [.agg [int64 0, .str 0 0, int64 0], int64 4] := by
      unfold rparsenV
      split
      · rename_i e; rw [e] at hl; simp at hl
      · rfl
    rw [hv]
    have hz := take9_len (by omega) hl
    have X := fun {U b st} (hU : tget U 49 = some e_rcut) => x_rcut (U := U) (b := b) (st := st) hU s hs
    generalize (cuts 46 s).take 9 = L at *
    have hz : ¬ (L.length : Int) = 3 := hz
    simp [rparsen_fu, X, f_rcut, hz]
theorem rparse_ok : EntOK Tryz.prog (HasG m t1 t2) e_rparse := mkEnt_ok ok_rparse fun s h gg hs _ => by
  have hs : s.length ≤ 9000 := hs
  have hv : (rparsesV s).plain = true := by unfold rparsesV; split; (cases chks _ _ _ _ _ _ <;> rfl); rfl
  refine plain_of (U := [e_rread]) (K := [e_rcut, e_rstamp, e_rtext]) (v := rparsesV s) (fun _ o => gg.more o) (by simp [rread_ok]) (by simp [rcut_ok.entK, rstamp_ok.entK, rtext_ok.entK]) 0 rparse_code (by simp [rparse_fu]) hv ?_
  by_cases hl : (cuts 46 s).length = 5
  · have hc : ∃ g a b c i, cuts 46 s = [g, a, b, c, i] := by
      revert hl; generalize cuts 46 s = L; intro hl
      match L, hl with
      | [g, a, b, c, i], _ => exact ⟨g, a, b, c, i, rfl⟩
    obtain ⟨g, a, b, c, i, hc⟩ := hc
    have hg : g.length ≤ s.length := cuts_length (c := 46) (by rw [hc]; simp)
    have ha : a.length ≤ s.length := cuts_length (c := 46) (by rw [hc]; simp)
    have hb : b.length ≤ s.length := cuts_length (c := 46) (by rw [hc]; simp)
    have hcc : c.length ≤ s.length := cuts_length (c := 46) (by rw [hc]; simp)
    have hi : i.length ≤ s.length := cuts_length (c := 46) (by rw [hc]; simp)
    have hv : rparsesV s = anss (chks (rreadI g) (rreadI a) b (rreadI c) (rreadI i) s) (rreadI g) (rreadI a) b (rreadI c) (rreadI i) := by unfold rparsesV; rw [hc]
    rw [hv]
    unfold chks
    cases hbr : stampB (rreadI g) (rreadI a) b (rreadI c) (rreadI i)
    · simp [rparse_fu, x_rcut, f_rcut, x_rread, f_rread, x_rstamp, f_rstamp, hc, hs, hbr, anss_f, show g.length ≤ 20000 by omega, show a.length ≤ 20000 by omega, show c.length ≤ 20000 by omega, show i.length ≤ 20000 by omega, show b.length ≤ 9000 by omega]
    · obtain ⟨qg1, qg2, qn, qi1, qi2⟩ := stampB_le hbr
      obtain ⟨qb, qn1, qn2⟩ := nameB_le qn
      obtain ⟨q0, q8, ql⟩ := branchB_le qb
      obtain ⟨r, hr⟩ := Int.eq_ofNat_of_zero_le q0
      obtain ⟨n, hn⟩ := Int.eq_ofNat_of_zero_le (show (0 : Int) ≤ rreadI c by omega)
      obtain ⟨g', hg'⟩ := Int.eq_ofNat_of_zero_le (show (0 : Int) ≤ rreadI g by omega)
      obtain ⟨i', hi'⟩ := Int.eq_ofNat_of_zero_le qi1
      rw [hr, hn, hg', hi'] at hbr ⊢
      by_cases c0 : textB g' r b n i' = s <;> simp [rparse_fu, x_rcut, f_rcut, x_rread, f_rread, x_rstamp, f_rstamp, x_rtext, f_rtext, hc, hs, hr, hn, hg', hi', hbr, c0, anss_t, anss_f, bin_neqS, show g.length ≤ 20000 by omega, show a.length ≤ 20000 by omega, show c.length ≤ 20000 by omega, show i.length ≤ 20000 by omega, show b.length ≤ 9000 by omega, show r ≤ 9223372036854775807 by omega, show n ≤ 9223372036854775807 by omega, show g' ≤ 9223372036854775807 by omega, show i' ≤ 9223372036854775807 by omega]
  · have hv : rparsesV s = .tup [.agg [int64 0, int64 0, .str 0 0, int64 0, int64 0], int64 4] := by
      unfold rparsesV
      split
      · rename_i e; rw [e] at hl; simp at hl
      · rfl
    rw [hv]
    have hz := take9_len (by omega) hl
    have X := fun {U b st} (hU : tget U 49 = some e_rcut) => x_rcut (U := U) (b := b) (st := st) hU s hs
    generalize (cuts 46 s).take 9 = L at *
    have hz : ¬ (L.length : Int) = 5 := hz
    simp [rparse_fu, X, f_rcut, hz]
theorem rofkey_ok : EntOK Tryz.prog (HasG m t1 t2) e_rofkey := mkEnt_ok ok_rofkey fun s h gg hs _ => by
  have hs : s.length ≤ 9000 := hs
  refine plain_of (U := [e_rback]) (K := [e_rstamp, e_rkey]) (v := ofkV s) (fun _ o => gg.more o) (by simp [rback_ok]) (by simp [rstamp_ok.entK, rkey_ok.entK]) 0 rofkey_code (by simp [rofkey_fu]) (by unfold ofkV; split; rfl; cases ofkC s <;> rfl) ?_
  unfold ofkV
  by_cases hl : s.length < 19
  · have hz : (s.length : Int) < 19 := by omega
    simp [rofkey_fu, hl, hz]
  · have hz : ¬ (s.length : Int) < 19 := by omega
    have w1 : wrapA .i64 ((s.length : Int) - 1) = ((s.length - 1 : Nat) : Int) := by rw [w64 (by omega) (by omega)]; omega
    have w9 : wrapA .i64 ((s.length : Int) - 9) = ((s.length - 9 : Nat) : Int) := by rw [w64 (by omega) (by omega)]; omega
    have w10 : wrapA .i64 ((s.length : Int) - 10) = ((s.length - 10 : Nat) : Int) := by rw [w64 (by omega) (by omega)]; omega
    have i8 : 8 < s.length := by omega
    have i1 : s.length - 1 < s.length := by omega
    have dr : List.take (s.length - (s.length - 9)) (s.drop (s.length - 9)) = s.drop (s.length - 9) := List.take_of_length_le (by rw [List.length_drop]; exact Nat.le_refl _)
    have e8 : ((s[8]'i8).toNat : Int) = kR s := by unfold kR; rw [List.getElem?_eq_getElem i8]; rfl
    have e1 : ((s[s.length - 1]'i1).toNat : Int) = kI s := by unfold kI; rw [List.getElem?_eq_getElem i1]; rfl
    have wR : wrapA .i64 (kR s) = kR s := by rw [← e8, w64_u8]
    have wI : wrapA .i64 (kI s) = kI s := by rw [← e1, w64_u8]
    have eL : List.take (s.length - 10 - 9) (s.drop 9) = kL s := rfl
    have lL : (kL s).length ≤ 9000 := by unfold kL; rw [List.length_take, List.length_drop]; omega
    have B1 := fun {U b st} (hU : tget U 62 = some e_rback) => x_rback (U := U) (b := b) (st := st) hU s ⟨by omega, hs⟩
    have B2 := fun {U b st} (hU : tget U 62 = some e_rback) => x_rback (U := U) (b := b) (st := st) hU (s.drop (s.length - 9)) ⟨by rw [List.length_drop]; omega, by rw [List.length_drop]; omega⟩
    rw [show backI s = kG s from rfl] at B1
    rw [show backI (s.drop (s.length - 9)) = kN s from rfl] at B2
    unfold ofkC chkk
    cases hbr : stampB (kG s) (kR s) (kL s) (kN s) (kI s)
    · simp [rofkey_fu, hl, hz, w1, w9, w10, i8, i1, w64_u8, dr, e8, e1, wR, wI, eL, lL, B1, B2, f_rback, x_rstamp, f_rstamp, hbr, anss_t, anss_f, show s.length - 10 ≤ s.length by omega, show 9 ≤ s.length - 10 by omega, show s.length - 9 ≤ s.length by omega]
    · have hne : kL s ≠ [] := by
        obtain ⟨_, _, qn, _, _⟩ := stampB_le hbr
        obtain ⟨qb, _, _⟩ := nameB_le qn
        intro c; rw [c] at qb; simp [branchB, labelB] at qb
      by_cases c : keyB (kG s) (kR s) (kL s) (kN s) (kI s) = s <;> simp [rofkey_fu, hl, hz, w1, w9, w10, i8, i1, w64_u8, dr, e8, e1, wR, wI, eL, lL, B1, B2, f_rback, x_rstamp, f_rstamp, x_rkey, f_rkey, hne, hbr, c, bin_neqS, anss_t, anss_f, show s.length - 10 ≤ s.length by omega, show 9 ≤ s.length - 10 by omega, show s.length - 9 ≤ s.length by omega]
end
end Go.Proofs.YtjhgembcdndmkaaGreatDoor.St

namespace Go.Proofs.YtjhgembcdndmkaaGreatDoor.St
open Go Go.Proofs.YtjhgembcdndmkaaGreatDoor.Am Go.Proofs Go.RowKit
theorem branch_dot {r : Int} {l : List UInt8} (h : branchB r l = true) : (46 : UInt8) ∉ l := by
  simp only [branchB, labelB, Bool.and_eq_true] at h
  intro c
  have := List.all_eq_true.1 h.2.2.1 _ c
  simp at this
theorem chkb_told {r : Int} {l s : List UInt8} (h : chkb r l s = true) : ∃ n : Nat, r = (n : Int) ∧ n < 8 ∧ s = Lib.itoa (n : Int) ++ 46 :: l ∧ (46 : UInt8) ∉ l := by
  unfold chkb at h
  simp only [Bool.and_eq_true, decide_eq_true_eq] at h
  obtain ⟨h1, h2⟩ := h
  obtain ⟨q0, q8, _⟩ := branchB_le h1
  obtain ⟨n, rfl⟩ := Int.eq_ofNat_of_zero_le q0
  exact ⟨n, rfl, by omega, by rw [← h2, textbB, dots2]; rfl, branch_dot h1⟩
theorem parseb_law (s : List UInt8) : parsebV s = rparsebV s := by
  unfold parsebV
  cases h : chkb (readI (Lib.cut s [46]).1) (Lib.cut s [46]).2.1 s
  · unfold rparsebV
    split
    · rename_i a b hc
      cases h2 : chkb (rreadI a) b s
      · rw [ansb_f, ansb_f]
      · exfalso
        obtain ⟨n, e1, e2, e3, e4⟩ := chkb_told h2
        have hd := dot_itoa n
        have c1 : Lib.cut s [46] = (Lib.itoa (n : Int), b, true) := by rw [e3]; exact cut_at hd
        rw [c1] at h
        dsimp only at h
        rw [readI_itoa (by omega), ← e1, h2] at h
        cases h
    · rfl
  · obtain ⟨n, e1, e2, e3, e4⟩ := chkb_told h
    have hd := dot_itoa n
    have hc : cuts 46 s = [Lib.itoa (n : Int), (Lib.cut s [46]).2.1] := by
      rw [e3]
      have := cuts_at (c := 46) ((Lib.cut s [46]).2.1) hd
      rw [← e3] at this ⊢
      rw [this, cuts_none e4]
    unfold rparsebV
    rw [hc]
    dsimp only
    rw [rreadI_itoa (by omega), ← e1, h]
theorem chkn_told {r : Int} {l : List UInt8} {n : Int} {s : List UInt8} (h : chkn r l n s = true) : ∃ r' n' : Nat, r = (r' : Int) ∧ n = (n' : Int) ∧ r' < 8 ∧ n' < 9223372036854775808 ∧ cuts 46 s = [Lib.itoa (r' : Int), l, Lib.itoa (n' : Int)] := by
  unfold chkn at h
  simp only [Bool.and_eq_true, decide_eq_true_eq] at h
  obtain ⟨h1, h2⟩ := h
  obtain ⟨qb, qn1, qn2⟩ := nameB_le h1
  obtain ⟨q0, q8, _⟩ := branchB_le qb
  obtain ⟨r', rfl⟩ := Int.eq_ofNat_of_zero_le q0
  obtain ⟨n', rfl⟩ := Int.eq_ofNat_of_zero_le (show (0 : Int) ≤ n by omega)
  refine ⟨r', n', rfl, rfl, by omega, by omega, ?_⟩
  have e : s = Lib.itoa (r' : Int) ++ 46 :: (l ++ 46 :: Lib.itoa (n' : Int)) := by
    rw [← h2, textnB, dots2, textbB, dots2]; simp
  rw [e, cuts_at _ (dot_itoa r'), cuts_at _ (branch_dot qb), cuts_none (dot_itoa n')]
theorem parsen_law (s : List UInt8) : parsenV s = rparsenV s := by
  unfold parsenV
  split
  · rename_i a b c hc
    have hv : rparsenV s = ansn (chkn (rreadI a) b (rreadI c) s) (rreadI a) b (rreadI c) := by unfold rparsenV; rw [hc]
    rw [hv]
    cases h : chkn (readI a) b (readI c) s
    · cases h2 : chkn (rreadI a) b (rreadI c) s
      · rw [ansn_f, ansn_f]
      · exfalso
        obtain ⟨r', n', e1, e2, e3, e4, e5⟩ := chkn_told h2
        rw [hc] at e5
        simp only [List.cons.injEq, true_and, and_true] at e5
        obtain ⟨rfl, rfl⟩ := e5
        rw [readI_itoa (by omega), readI_itoa e4] at h
        rw [rreadI_itoa (by omega), rreadI_itoa e4, h] at h2
        cases h2
    · obtain ⟨r', n', e1, e2, e3, e4, e5⟩ := chkn_told h
      rw [hc] at e5
      simp only [List.cons.injEq, true_and, and_true] at e5
      obtain ⟨rfl, rfl⟩ := e5
      rw [readI_itoa (by omega), readI_itoa e4] at h ⊢
      rw [rreadI_itoa (by omega), rreadI_itoa e4, h]
  · rename_i hno
    unfold rparsenV
    split
    · rename_i e; exact absurd e (hno _ _ _)
    · rfl
theorem chks_told {g r : Int} {l : List UInt8} {n i : Int} {s : List UInt8} (h : chks g r l n i s = true) : ∃ g' r' n' i' : Nat, g = (g' : Int) ∧ r = (r' : Int) ∧ n = (n' : Int) ∧ i = (i' : Int) ∧ g' < 9223372036854775808 ∧ r' < 8 ∧ n' < 9223372036854775808 ∧ i' < 64 ∧ cuts 46 s = [Lib.itoa (g' : Int), Lib.itoa (r' : Int), l, Lib.itoa (n' : Int), Lib.itoa (i' : Int)] := by
  unfold chks at h
  simp only [Bool.and_eq_true, decide_eq_true_eq] at h
  obtain ⟨h1, h2⟩ := h
  obtain ⟨qg1, qg2, qn, qi1, qi2⟩ := stampB_le h1
  obtain ⟨qb, qn1, qn2⟩ := nameB_le qn
  obtain ⟨q0, q8, _⟩ := branchB_le qb
  obtain ⟨g', rfl⟩ := Int.eq_ofNat_of_zero_le (show (0 : Int) ≤ g by omega)
  obtain ⟨r', rfl⟩ := Int.eq_ofNat_of_zero_le q0
  obtain ⟨n', rfl⟩ := Int.eq_ofNat_of_zero_le (show (0 : Int) ≤ n by omega)
  obtain ⟨i', rfl⟩ := Int.eq_ofNat_of_zero_le qi1
  refine ⟨g', r', n', i', rfl, rfl, rfl, rfl, by omega, by omega, by omega, by omega, ?_⟩
  have e : s = Lib.itoa (g' : Int) ++ 46 :: (Lib.itoa (r' : Int) ++ 46 :: (l ++ 46 :: (Lib.itoa (n' : Int) ++ 46 :: Lib.itoa (i' : Int)))) := by
    rw [← h2, textB, dots3, textnB, dots2, textbB, dots2]; simp
  rw [e, cuts_at _ (dot_itoa g'), cuts_at _ (dot_itoa r'), cuts_at _ (branch_dot qb), cuts_at _ (dot_itoa n'), cuts_none (dot_itoa i')]
theorem parses_law (s : List UInt8) : parsesV s = rparsesV s := by
  unfold parsesV
  split
  · rename_i g a b c i hc
    have hv : rparsesV s = anss (chks (rreadI g) (rreadI a) b (rreadI c) (rreadI i) s) (rreadI g) (rreadI a) b (rreadI c) (rreadI i) := by unfold rparsesV; rw [hc]
    rw [hv]
    cases h : chks (readI g) (readI a) b (readI c) (readI i) s
    · cases h2 : chks (rreadI g) (rreadI a) b (rreadI c) (rreadI i) s
      · rw [anss_f, anss_f]
      · exfalso
        obtain ⟨g', r', n', i', _, _, _, _, b1, b2, b3, b4, e5⟩ := chks_told h2
        rw [hc] at e5
        simp only [List.cons.injEq, true_and, and_true] at e5
        obtain ⟨rfl, rfl, rfl, rfl⟩ := e5
        rw [readI_itoa b1, readI_itoa (by omega), readI_itoa b3, readI_itoa (by omega)] at h
        rw [rreadI_itoa b1, rreadI_itoa (by omega), rreadI_itoa b3, rreadI_itoa (by omega), h] at h2
        cases h2
    · obtain ⟨g', r', n', i', _, _, _, _, b1, b2, b3, b4, e5⟩ := chks_told h
      rw [hc] at e5
      simp only [List.cons.injEq, true_and, and_true] at e5
      obtain ⟨rfl, rfl, rfl, rfl⟩ := e5
      rw [readI_itoa b1, readI_itoa (by omega), readI_itoa b3, readI_itoa (by omega)] at h ⊢
      rw [rreadI_itoa b1, rreadI_itoa (by omega), rreadI_itoa b3, rreadI_itoa (by omega), h]
  · rename_i hno
    unfold rparsesV
    split
    · rename_i e; exact absurd e (hno _ _ _ _ _)
    · rfl
end Go.Proofs.YtjhgembcdndmkaaGreatDoor.St

namespace Go.Proofs.YtjhgembcdndmkaaGreatDoor.St
open Go Go.Proofs.YtjhgembcdndmkaaGreatDoor.Am Go.Proofs Go.RowKit
attribute [local simp] xr_mov xd_mov xr_pick xd_pick xr_bin xd_bin xr_un xd_un xr_build xd_build xr_convInt xd_convInt xr_mkIfc xd_mkIfc xr_mkFn xd_mkFn xr_fld xd_fld xr_part1 xd_part1 xr_partN xd_partN xr_extract xd_extract xr_lenS xd_lenS xr_lenL xd_lenL xr_lenArr xd_lenArr xr_nilPtr xd_nilPtr xr_load1 xd_load1 xr_loadN xd_loadN xr_bytesStr xd_bytesStr xr_eqPtr xd_eqPtr xr_eqIfc xd_eqIfc xr_new xd_new xr_box xd_box xr_buildSl xd_buildSl xr_strBytes xd_strBytes xr_mkSl xd_mkSl xr_idxAddrSl xd_idxAddrSl xr_idxAddrArr xd_idxAddrArr xr_idxStr xd_idxStr xr_sliceStr xd_sliceStr xr_sliceSl xd_sliceSl lenSA_str lenSA_strOf lenLA_sl lenLA_nil xfn xcode xdrawn xr_nil xr_kg xr_kh xr_call xr_callN xr_store xr_append xd_append xap_sl xap_nl xapq_some xsrc_sl xsrc_nil xapp_nil xapp_grow xapp_room xset xown xnx_some xnp_some xnq_some xd_nil xdl_old xdl_new xda_some xd_call xd_store xd_kg xdn_some xld xal kindOf isAlloc allocs xins xrem xall xput xget xwhole xcont xq xqs xres XS.add XR.out XR.res Rs.seq Rs.block mapO tupleA sv_args adv_eq tget eqs8 eqs7 eqt8 eqt7 eqi8 eqi7 eqb8 eqb7 eqg8 eql8 eql7 eqn8 eqn7 cells_strOf cells_int cells_agg cells_bool cells_str cells_sl cells_nil cells_ptr at_int at_str at_strOf at_bool at_sl at_nil at_ptr unstr_strOf unbyt_byt fill_nil fill_cons replA ev_tm ev_vl sv_stv bin_add bin_sub bin_mul bin_lss bin_leq bin_gtr bin_geq bin_eql bin_neq un_not un_neg nth0 nth1 nth2 xst_idxAddrSl xst_idxStr xst_sliceStr xbd slN Nat.testBit
noncomputable def e_known : Ent := mkEnt 8 0 [] (fun z_ : Unit => []) (fun _ => []) (fun _ => True) (fun _ => .plain (.bool true))
theorem f_known : e_known.f = 8 := rfl
theorem x_known {U : List Ent} {b : Pos} {st : XS} (hU : tget U 8 = some e_known)  : xcall U b 8 [] st = some (XR.out b st (.plain (.bool true))) :=
  xcall_at hU rfl rfl (mkEnt_spec (fun _ _ _ _ => rfl) () trivial)
noncomputable def e_law : Ent := mkEnt 3 1 [] (fun z_ : (List UInt8) => [strOf z_]) (fun _ => []) (fun _ => True) (fun _ => .plain (.bool true))
theorem f_law : e_law.f = 3 := rfl
theorem x_law {U : List Ent} {b : Pos} {st : XS} (hU : tget U 3 = some e_law) (s : List UInt8) : xcall U b 3 [strOf s] st = some (XR.out b st (.plain (.bool true))) :=
  xcall_at hU rfl rfl (mkEnt_spec (by rintro a0 b0 h hc; simp only [List.cons.injEq, AV.agg.injEq, AV.tup.injEq, AV.int.injEq, AV.bool.injEq, AV.ptr.injEq, AV.sl.injEq, strOf_eq, byt_eq, map_strOf_eq, true_and, and_true, Int.natCast_inj] at h hc; simp [h, hc]) s trivial)
theorem form_b (s : List UInt8) : ∃ r l e, rparsebV s = .tup [.agg [int64 r, strOf l], int64 e] := by
  unfold rparsebV
  split
  · rename_i a b hc
    cases chkb (rreadI a) b s
    · exact ⟨0, [], 4, rfl⟩
    · exact ⟨_, _, _, rfl⟩
  · exact ⟨0, [], 4, rfl⟩
theorem form_n (s : List UInt8) : ∃ r l n e, rparsenV s = .tup [.agg [int64 r, strOf l, int64 n], int64 e] := by
  unfold rparsenV
  split
  · rename_i a b c hc
    cases chkn (rreadI a) b (rreadI c) s
    · exact ⟨0, [], 0, 4, rfl⟩
    · exact ⟨_, _, _, _, rfl⟩
  · exact ⟨0, [], 0, 4, rfl⟩
theorem form_s (s : List UInt8) : ∃ g r l n i e, rparsesV s = .tup [.agg [int64 g, int64 r, strOf l, int64 n, int64 i], int64 e] := by
  unfold rparsesV
  split
  · rename_i g a b c i hc
    cases chks (rreadI g) (rreadI a) b (rreadI c) (rreadI i) s
    · exact ⟨0, 0, [], 0, 0, 4, rfl⟩
    · exact ⟨_, _, _, _, _, _, rfl⟩
  · exact ⟨0, 0, [], 0, 0, 4, rfl⟩
theorem form_k (s : List UInt8) : ∃ g r l n i e, ofkV s = .tup [.agg [int64 g, int64 r, strOf l, int64 n, int64 i], int64 e] := by
  unfold ofkV
  split
  · exact ⟨0, 0, [], 0, 0, 4, rfl⟩
  · cases ofkC s
    · exact ⟨0, 0, [], 0, 0, 4, rfl⟩
    · exact ⟨_, _, _, _, _, _, rfl⟩
theorem sk_int (z : Int) : sameK .int (int64 z) (int64 z) = some true := by
  show (if IntKind.i64 = IntKind.i64 then some (match cmpA z z with | .eq => true | _ => false) else none) = _
  rw [if_pos rfl, cmpA_eq, if_neg (by omega), if_pos rfl]
theorem sk_str (u : List UInt8) : sameK .str (strOf u) (strOf u) = some true := by
  show some (Nat.beq _ _ && Nat.beq _ _) = _
  rw [beq_iff.2 rfl, beq_iff.2 rfl]; rfl
theorem sks_cons {k : LK} {ks : List LK} {a : AV} {l : List AV} (h1 : sameK k a a = some true) (h2 : sameKs ks l l = some true) : sameKs (k :: ks) (a :: l) (a :: l) = some true := by
  unfold sameKs; rw [h1, h2]; rfl
theorem eqF {ks : List LK} {l : List AV} (no : Bool) (h : sameKs ks l l = some true) : binA .eql (.flat ks) no (.agg l) (.agg l) = some (.bool true) := by
  show (match sameKs ks l l with | some b => notIf false b | none => none) = _
  rw [h]; rfl
theorem sks_nil : sameKs [] [] [] = some true := by unfold sameKs; rfl
theorem eqF2 (no : Bool) (r : Int) (l : List UInt8) : binA .eql (.flat [.int, .str]) no (.agg [int64 r, strOf l]) (.agg [int64 r, strOf l]) = some (.bool true) := eqF no (sks_cons (sk_int _) (sks_cons (sk_str _) sks_nil))
theorem eqF3 (no : Bool) (r : Int) (l : List UInt8) (n : Int) : binA .eql (.flat [.int, .str, .int]) no (.agg [int64 r, strOf l, int64 n]) (.agg [int64 r, strOf l, int64 n]) = some (.bool true) := eqF no (sks_cons (sk_int _) (sks_cons (sk_str _) (sks_cons (sk_int _) sks_nil)))
theorem eqF5 (no : Bool) (g r : Int) (l : List UInt8) (n i : Int) : binA .eql (.flat [.int, .int, .str, .int, .int]) no (.agg [int64 g, int64 r, strOf l, int64 n, int64 i]) (.agg [int64 g, int64 r, strOf l, int64 n, int64 i]) = some (.bool true) := eqF no (sks_cons (sk_int _) (sks_cons (sk_int _) (sks_cons (sk_str _) (sks_cons (sk_int _) (sks_cons (sk_int _) sks_nil)))))
section
variable {m : Int} {t1 t2 : AV}
theorem law_ok (hk : EntOK Tryz.prog (HasG m t1 t2) e_known) : EntOK Tryz.prog (HasG m t1 t2) e_law := mkEnt_ok ok_law fun s h gg _ _ => by
  refine plain_of (U := []) (K := [e_known, e_parseb, e_rparseb, e_parsen, e_rparsen, e_parses, e_rparse, e_ofkey, e_rofkey, e_num]) (fun _ o => gg.more o) (by simp) (by simp [hk.entK, parseb_ok.entK, rparseb_ok.entK, parsen_ok.entK, rparsen_ok.entK, parses_ok.entK, rparse_ok.entK, ofkey_ok.entK, rofkey_ok.entK, num_ok.entK]) 0 law_code (by simp [law_fu]) rfl ?_
  by_cases hl : 9000 < s.length
  · have hl' : (9000 : Int) < (s.length : Int) := by omega
    simp [law_fu, hl', x_known, f_known]
  · have hl' : ¬ (9000 : Int) < (s.length : Int) := by omega
    have hs : s.length ≤ 9000 := by omega
    have q1 := fun {U b st} (hU : tget U 9 = some e_parseb) => x_parseb (U := U) (b := b) (st := st) hU s hs
    have q2 := fun {U b st} (hU : tget U 10 = some e_rparseb) => x_rparseb (U := U) (b := b) (st := st) hU s hs
    have q3 := fun {U b st} (hU : tget U 11 = some e_parsen) => x_parsen (U := U) (b := b) (st := st) hU s hs
    have q4 := fun {U b st} (hU : tget U 12 = some e_rparsen) => x_rparsen (U := U) (b := b) (st := st) hU s hs
    have q5 := fun {U b st} (hU : tget U 13 = some e_parses) => x_parses (U := U) (b := b) (st := st) hU s hs
    have q6 := fun {U b st} (hU : tget U 14 = some e_rparse) => x_rparse (U := U) (b := b) (st := st) hU s hs
    have q7 := fun {U b st} (hU : tget U 15 = some e_ofkey) => x_ofkey (U := U) (b := b) (st := st) hU s hs
    have q8 := fun {U b st} (hU : tget U 16 = some e_rofkey) => x_rofkey (U := U) (b := b) (st := st) hU s hs
    obtain ⟨r, l, e, f1⟩ := form_b s
    obtain ⟨nr, nl, nn, ne, f2⟩ := form_n s
    obtain ⟨sg, sr, sl, sn, si, se, f3⟩ := form_s s
    obtain ⟨kg', kr, kl, kn', ki, ke, f4⟩ := form_k s
    rw [parseb_law, f1] at q1
    rw [f1] at q2
    rw [parsen_law, f2] at q3
    rw [f2] at q4
    rw [parses_law, f3] at q5
    rw [f3] at q6
    rw [f4] at q7 q8
    simp [law_fu, hl', x_known, f_known, q1, q2, q3, q4, q5, q6, q7, q8, f_parseb, f_rparseb, f_parsen, f_rparsen, f_parses, f_rparse, f_ofkey, f_rofkey, x_num, f_num, eqF2, eqF3, eqF5]
end
end Go.Proofs.YtjhgembcdndmkaaGreatDoor.St

namespace Go.Proofs.YtjhgembcdndmkaaGreatDoor.St
open Go Go.Proofs.YtjhgembcdndmkaaGreatDoor.Am Go.Proofs
theorem known_closed : closed Tryz.prog 8 (globN Tryz.prog) = true := by kernel_rfl
theorem known_fn (h : Hp) : AmFn Tryz.prog 8 [] h (.bool true) h := closed_fn known_closed h
end Go.Proofs.YtjhgembcdndmkaaGreatDoor.St

namespace Go.Proofs.YtjhgembcdndmkaaGreatDoor.St
open Go Go.Proofs.YtjhgembcdndmkaaGreatDoor.Am Go.Proofs Go.RowKit
noncomputable def putP (φ : Phi) (p : Pos) (r : Nat × Int × Nat) : Phi := fun j k => if j = p ∧ k = 0 then some r else φ j k
theorem HR.place {P : Program} {φ : Phi} {h : Hp} {w : World} {r : Nat × Int × Nat} (hR : HR P φ h w) (hz : h.lim = 0) (he : h.heap = .e) (hp : (Pos.ofNat (globN P)).num ≤ h.next.num) (hr : r.1 < w.heap.size) : HR P (putP φ h.next r) ⟨.e, h.next.succ, h.ser, h.lim⟩ w := by
  have key : ∀ {id : Pos} {g : Nat} {x : Nat × Int × Nat}, putP φ h.next r id g = some x → (id = h.next ∧ x = r) ∨ φ id g = some x := fun {id g x} e => by
    unfold putP at e
    split at e
    · rename_i c; cases e; exact .inl ⟨c.1, rfl⟩
    · exact .inr e
  have nro : ∀ id, ¬ Nonro (⟨.e, h.next.succ, h.ser, h.lim⟩ : Hp) id := fun id ⟨x, e, _⟩ => by rw [T.get_e] at e; cases e
  refine ⟨fun id x e => (by rw [T.get_e] at e; cases e), fun id g x e => ?_, fun id x e => (by rw [T.get_e] at e; cases e), fun id g b s n id' g' s' n' _ _ => .inr ⟨nro _, nro _⟩, fun id g b s n e => ?_, fun g hg => ?_⟩
  · rcases key e with ⟨c, _⟩ | c
    · subst c; exact .inl (by rw [Pos.num_succ]; omega)
    · rcases hR.used _ _ _ c with q | ⟨q, _⟩
      · exact .inl (by show _ < h.next.succ.num; rw [Pos.num_succ]; omega)
      · exact absurd hz q
  · rcases key e with ⟨_, c⟩ | c
    · rw [← c] at hr; exact hr
    · exact hR.inb _ _ _ _ _ c
  · unfold putP
    rw [if_neg]
    · exact hR.glob g hg
    · rintro ⟨c, _⟩
      rw [Pos.num_ofNat] at hp
      have := congrArg Pos.num c
      rw [Pos.num_ofNat] at this
      omega
theorem HR.var {P : Program} {φ : Phi} {h : Hp} {w : World} {g : Nat} {l : List AV} {C : Array Value} {el : TypeId} {fr : Nat × Nat} (hR : HR P φ h w) (ho : AllRo h) (hz : h.lim = 0) (hn : (Pos.ofNat g).num < h.next.num) (hg : g < globN P) (hb : w.heap[g]? = some (.cells C el fr)) (hs : C.size = globSz g) (hr : RelL φ l C.toList) (hj : ∀ j, j ≠ 0 → φ (Pos.ofNat g) j = none) :
    HR P φ ⟨T.set (Pos.ofNat g) (some (tabB l)) h.heap, h.next, h.ser, h.lim⟩ w ∧ AllRo ⟨T.set (Pos.ofNat g) (some (tabB l)) h.heap, h.next, h.ser, h.lim⟩ := by
  have hget : ∀ id, T.get id (T.set (Pos.ofNat g) (some (tabB l)) h.heap) = if id = Pos.ofNat g then some (tabB l) else T.get id h.heap := fun id => T.get_set ..
  have ro : AllRo ⟨T.set (Pos.ofNat g) (some (tabB l)) h.heap, h.next, h.ser, h.lim⟩ := fun id ⟨x, e, q⟩ => by
    rw [hget] at e
    split at e
    · cases e
      have := q _ _ _ _ _ _ _ _ rfl
      cases this
    · exact ho id ⟨x, e, q⟩
  have hl : l.length = C.size := by have := hr.length; simpa using this
  refine ⟨⟨fun id x e => ?_, hR.used, fun id x e => ?_, fun id g y s n id' g' s' n' _ _ => .inr ⟨ro _, ro _⟩, hR.inb, hR.glob⟩, ro⟩
  · rw [hget] at e
    split at e
    · rename_i c
      cases e
      subst c
      refine ⟨⟨rfl, Nat.le_refl _, fun q => absurd q (Nat.lt_irrefl _), fun j hj' => hj j (by omega), fun j j' b1 s1 n1 s2 n2 k1 k2 k3 k4 e1 e2 => ?_, fun j k1 k2 => ?_⟩, fun _ _ _ _ _ _ _ _ _ _ _ => .inl rfl⟩
      · have : j = j' := by omega
        subst this
        rw [e1] at e2; cases e2; rfl
      · have : j = 0 := by omega
        subst this
        refine ⟨g, 0, globSz g, C, el, fr, hR.glob g hg, hb, hs, fun c => (by cases c), fun i v _ hi2 hv => ?_⟩
        have hv : l[i]? = some v := hv
        obtain ⟨x, hx, rx⟩ := hr.get hv
        exact ⟨i, x, by omega, by rw [← hx]; simp, rx⟩
    · exact hR.blk _ _ e
  · rw [hget] at e
    split at e
    · rename_i c
      subst c
      exact .inl hn
    · exact hR.dom _ _ e
noncomputable def gH (m : Int) (e1 e2 : AV) : Hp :=
  ⟨T.set (Pos.ofNat 3) (some (tabB (Lib.pow10Tab.map fun z => .int .u64 z))) (T.set (Pos.ofNat 2) (some (tabB [e2])) (T.set (Pos.ofNat 1) (some (tabB [e1])) (T.set (Pos.ofNat 0) (some (tabB [int64 m])) .e))), Pos.ofNat 6, 0, 0⟩
theorem gH_has (m : Int) {e1 e2 : AV} (h1 : ∃ t v, e1 = .ifc t v) (h2 : ∃ t v, e2 = .ifc t v) : HasG m e1 e2 (gH m e1 e2) := by
  have ne : ∀ i j : Nat, i ≠ j → Pos.ofNat i ≠ Pos.ofNat j := fun i j h c => by
    have := congrArg Pos.num c
    rw [Pos.num_ofNat, Pos.num_ofNat] at this; omega
  refine ⟨?_, ?_, ?_, ?_, h1, h2, Nat.le_refl _⟩ <;> unfold gH <;> simp only [T.get_set]
  · rw [if_neg (ne _ _ (by omega)), if_neg (ne _ _ (by omega)), if_neg (ne _ _ (by omega)), if_pos trivial]
  · rw [if_neg (ne _ _ (by omega)), if_neg (ne _ _ (by omega)), if_pos trivial]
  · rw [if_neg (ne _ _ (by omega)), if_pos trivial]
  · rw [if_pos trivial]
structure IsErr (w : World) (u : TypeId) (v : Value) (a : Addr) : Prop where
  val : v = .pointer (some a) ∨ v = .agg #[.pointer (some a)]
  spot : a.spot = none
  lies : a.block < w.heap.size
theorem IsErr.av {w : World} {u : TypeId} {v : Value} {a : Addr} (e : IsErr w u v a) (p : Pos) : ∃ x, (∃ t y, x = AV.ifc t y) ∧ ∀ φ, φ p 0 = some (a.block, (a.off : Int), 0) → Rel φ x (.iface u v) := by
  rcases e.val with rfl | rfl
  · exact ⟨.ifc u (.ptr p 0 0), ⟨_, _, rfl⟩, fun φ h => .ifc (.ptr h rfl (by simp) e.spot)⟩
  · exact ⟨.ifc u (.agg [.ptr p 0 0]), ⟨_, _, rfl⟩, fun φ h => .ifc (.agg (.cons (.ptr h rfl (by simp) e.spot) .nil))⟩
theorem start_has {W : World} {m : Int} {u1 u2 : TypeId} {v1 v2 : Value} {a1 a2 : Addr} {l0 l1 l2 l3 : TypeId} {f0 f1 f2 f3 : Nat × Nat} (hsz : 4 ≤ W.heap.size)
    (c0 : W.heap[0]? = some (.cells #[.int .i64 m] l0 f0)) (c1 : W.heap[1]? = some (.cells #[.iface u1 v1] l1 f1)) (c2 : W.heap[2]? = some (.cells #[.iface u2 v2] l2 f2)) (c3 : W.heap[3]? = some (.cells (Lib.pow10Tab.map fun z => Value.int .u64 z).toArray l3 f3))
    (i1 : IsErr W u1 v1 a1) (i2 : IsErr W u2 v2 a2) : ∃ φ e1 e2, HR Tryz.prog φ (gH m e1 e2) W ∧ AllRo (gH m e1 e2) ∧ HasG m e1 e2 (gH m e1 e2) := by
  have h0 : HR Tryz.prog (phi0 Tryz.prog) ⟨.e, Pos.ofNat 4, 0, 0⟩ W := start_rel (P := Tryz.prog) hsz
  have s4 : (Pos.ofNat 4).succ = Pos.ofNat 5 := by kernel_rfl
  have s5 : (Pos.ofNat 5).succ = Pos.ofNat 6 := by kernel_rfl
  have hA := HR.place h0 rfl rfl (by show (Pos.ofNat 4).num ≤ _; exact Nat.le_refl _) (r := (a1.block, (a1.off : Int), 0)) i1.lies
  have hB := HR.place hA rfl rfl (by show (Pos.ofNat 4).num ≤ (Pos.ofNat 4).succ.num; rw [Pos.num_succ]; omega) (r := (a2.block, (a2.off : Int), 0)) i2.lies
  obtain ⟨e1, k1, r1⟩ := i1.av (Pos.ofNat 4)
  obtain ⟨e2, k2, r2⟩ := i2.av (Pos.ofNat 5)
  have hne : Pos.ofNat 4 ≠ Pos.ofNat 5 := fun c => by
    have := congrArg Pos.num c
    rw [Pos.num_ofNat, Pos.num_ofNat] at this; omega
  have hB : HR Tryz.prog (putP (putP (phi0 Tryz.prog) (Pos.ofNat 4) (a1.block, (a1.off : Int), 0)) (Pos.ofNat 5) (a2.block, (a2.off : Int), 0)) ⟨.e, Pos.ofNat 6, 0, 0⟩ W := by rw [← s5, ← s4]; exact hB
  generalize hφ : putP (putP (phi0 Tryz.prog) (Pos.ofNat 4) (a1.block, (a1.off : Int), 0)) (Pos.ofNat 5) (a2.block, (a2.off : Int), 0) = φ at hB
  have q1 := r1 φ (by rw [← hφ]; unfold putP; rw [if_neg (fun c => hne c.1), if_pos ⟨rfl, rfl⟩])
  have q2 := r2 φ (by rw [← hφ]; unfold putP; rw [if_pos ⟨rfl, rfl⟩])
  have hj : ∀ g, ∀ j, j ≠ 0 → φ (Pos.ofNat g) j = none := fun g j h => by
    rw [← hφ]; unfold putP phi0
    rw [if_neg (fun c => h c.2), if_neg (fun c => h c.2), if_neg (fun c => h c.1)]
  have hn : ∀ g, g < 4 → (Pos.ofNat g).num < (Pos.ofNat 6).num := fun g h => by rw [Pos.num_ofNat, Pos.num_ofNat]; omega
  have ro0 : AllRo (⟨.e, Pos.ofNat 6, 0, 0⟩ : Hp) := fun id ⟨x, e, _⟩ => by rw [T.get_e] at e; cases e
  obtain ⟨d0, o0⟩ := HR.var hB ro0 rfl (hn 0 (by omega)) (show 0 < 4 by omega) c0 rfl (.cons (.int .i64 m) .nil) (hj 0)
  obtain ⟨d1, o1⟩ := HR.var d0 o0 rfl (hn 1 (by omega)) (show 1 < 4 by omega) c1 rfl (.cons q1 .nil) (hj 1)
  obtain ⟨d2, o2⟩ := HR.var d1 o1 rfl (hn 2 (by omega)) (show 2 < 4 by omega) c2 rfl (.cons q2 .nil) (hj 2)
  have hT : RelL φ (Lib.pow10Tab.map fun z => AV.int .u64 z) (Lib.pow10Tab.map fun z => Value.int .u64 z).toArray.toList := by
    generalize Lib.pow10Tab = L
    show RelL φ (L.map _) (L.map _)
    induction L with
    | nil => exact .nil
    | cons x L ih => exact .cons (.int _ _) ih
  obtain ⟨d3, o3⟩ := HR.var d2 o2 rfl (hn 3 (by omega)) (show 3 < 4 by omega) c3 rfl hT (hj 3)
  exact ⟨φ, e1, e2, d3, o3, gH_has m k1 k2⟩
theorem known_ok {m : Int} {t1 t2 : AV} : EntOK Tryz.prog (HasG m t1 t2) e_known := mkEnt_ok ok_known fun _ h _ _ _ => known_fn h
theorem parses_walk {W : World} (s : ByteArray) {m : Int} {u1 u2 : TypeId} {v1 v2 : Value} {a1 a2 : Addr} {l0 l1 l2 l3 : TypeId} {f0 f1 f2 f3 : Nat × Nat} (hsz : 4 ≤ W.heap.size)
    (c0 : W.heap[0]? = some (.cells #[.int .i64 m] l0 f0)) (c1 : W.heap[1]? = some (.cells #[.iface u1 v1] l1 f1)) (c2 : W.heap[2]? = some (.cells #[.iface u2 v2] l2 f2)) (c3 : W.heap[3]? = some (.cells (Lib.pow10Tab.map fun z => Value.int .u64 z).toArray l3 f3))
    (i1 : IsErr W u1 v1 a1) (i2 : IsErr W u2 v2 a2) : Calls Tryz.prog 3 #[.string s] W fun e w' => e = .returned (.bool true) ∧ Below W.heap.size W w' := by
  obtain ⟨φ, e1, e2, hR, ro, hg⟩ := start_has hsz c0 c1 c2 c3 i1 i2
  have hf : AmFn Tryz.prog 3 [strOf s.data.toList] (gH m e1 e2) (.bool true) (gH m e1 e2) :=
    (law_ok known_ok).2 _ [] _ _ hg rfl (mkEnt_spec (fun _ _ _ _ => rfl) s.data.toList trivial) rfl
  refine (hf.calls hR rfl (xs := #[.string s]) (.cons (strOf_relA φ s.data.toList) .nil)).mono fun e w' ⟨φ', z, q1, q2, q3, q4⟩ => ?_
  cases q2
  exact ⟨q1, q4.below ro⟩
end Go.Proofs.YtjhgembcdndmkaaGreatDoor.St

namespace Go.Proofs.YtjhgembcdndmkaaGreatDoor.St
open Go Go.Proofs.YtjhgembcdndmkaaGreatDoor.Am Go.Proofs Go.RowKit
theorem laid_mem {P : Program} {w : World} : ∀ {laid : List (String × DataW Unit)} {ps : List MemPlace}, DataW.LaidVars P w laid ps → ∀ x ∈ laid, ∃ g t cs fuel p, P.globalNamed x.1 = some g ∧ (P.globals[g]?).map (·.type) = some t ∧ w.var? P x.1 = some cs ∧
    DataW.trod (fun _ => ()) P w 0 (fun _ => true) false fuel t cs.toList = some (x.2, p)
  | [], _, _, x, m => by cases m
  | (n, d) :: r, ps, h, x, m => by
    obtain ⟨g, t, cs, fuel, p, q, h1, h2, h3, h4, h5, _⟩ := h
    rcases List.mem_cons.1 m with rfl | m
    · exact ⟨g, t, cs, fuel, p, h1, h2, h3, h4⟩
    · exact laid_mem h5 x m
theorem var_cells {P : Program} {w : World} {n : String} {g : Nat} {cs : Array Value} (hg : P.globalNamed n = some g) (hv : w.var? P n = some cs) : ∃ el fr, w.heap[g]? = some (.cells cs el fr) := by
  unfold World.var? at hv
  rw [hg, Option.bind_some] at hv
  split at hv
  · rename_i C el fr h
    cases hv
    exact ⟨el, fr, h⟩
  · cases hv
theorem nil_lit {P : Program} {w : World} {fuel : Nat} {t : TypeId} {x : Lit} {p : List MemPlace} (h : DataW.trod (fun _ => ()) P w 0 (fun _ => true) false fuel t [] = some (.lit x, p)) : False := by
  cases fuel with
  | zero => cases h
  | succ fuel =>
    unfold DataW.trod at h
    split at h <;> first | contradiction | skip
    all_goals (split at h <;> first | (cases h; done) | (obtain ⟨_, _, q⟩ := Option.map_eq_some_iff.1 h; cases q; done))
theorem some_cells {P : Program} {w : World} {fuel : Nat} {t : TypeId} {c : List Value} {x : Lit} {p : List MemPlace} (h : DataW.trod (fun _ => ()) P w 0 (fun _ => true) false fuel t c = some (.agg [.lit x], p)) : c ≠ [] := by
  rintro rfl
  cases fuel with
  | zero => cases h
  | succ fuel =>
    unfold DataW.trod at h
    split at h <;> first | contradiction | skip
    · split at h
      · obtain ⟨xs, q, e⟩ := Option.map_eq_some_iff.1 h
        simp only [Prod.mk.injEq, DataW.agg.injEq] at e
        cases xs with
        | nil => cases e.1
        | cons y ys =>
          rename_i fs _ _
          have hl := mapM_some_length q
          have : 0 < fs.toList.length := by rw [← hl]; simp
          have q0 := mapM_some_get q 0 fs.toList[0] (by rw [List.getElem?_eq_getElem this])
          obtain ⟨e1, _⟩ := e
          simp only [List.map_cons, List.cons.injEq] at e1
          obtain ⟨y1, y2⟩ := y
          obtain ⟨rfl, _⟩ := e1
          simp only [List.drop_nil, List.take_nil, List.getElem?_cons_zero] at q0
          exact nil_lit q0
      · cases h
    · split at h
      · obtain ⟨xs, q, e⟩ := Option.map_eq_some_iff.1 h
        simp only [Prod.mk.injEq, DataW.agg.injEq] at e
        cases xs with
        | nil => cases e.1
        | cons y ys =>
          rename_i n _ _ _
          have hl := mapM_some_length q
          have : 0 < (List.range n).length := by rw [← hl]; simp
          have q0 := mapM_some_get q 0 (List.range n)[0] (by rw [List.getElem?_eq_getElem this])
          obtain ⟨e1, _⟩ := e
          simp only [List.map_cons, List.cons.injEq] at e1
          obtain ⟨y1, y2⟩ := y
          obtain ⟨rfl, _⟩ := e1
          simp only [List.drop_nil, List.take_nil, List.getElem?_cons_zero] at q0
          exact nil_lit q0
      · cases h
theorem ptr_told {P : Program} {w : World} {fuel : Nat} {t : TypeId} {c : List Value} {x : Lit} {p : List MemPlace} (h : DataW.trod (fun _ => ()) P w 0 (fun _ => true) false fuel t c = some (.ptr (.agg [.lit x]), p)) : ∃ a, c = [.pointer (some a)] ∧ a.spot = none ∧ a.block < w.heap.size := by
  cases fuel with
  | zero => cases h
  | succ fuel =>
    unfold DataW.trod at h
    split at h <;> first | (cases h; done) | skip
    case h_6 =>
      rename_i e a _
      obtain ⟨y, q, e1⟩ := Option.map_eq_some_iff.1 h
      obtain ⟨l, q1, q2⟩ := Option.bind_eq_some_iff.1 q
      obtain ⟨y1, y2⟩ := y
      cases e1
      have hne := some_cells q2
      unfold World.cells? at q1
      split at q1
      · have hl := mapM_some_length q1
        have hpos : 0 < (List.range (P.cellsOf e)).length := by rw [← hl]; exact List.length_pos_iff.2 hne
        have q0 := mapM_some_get q1 0 (List.range (P.cellsOf e))[0] (by rw [List.getElem?_eq_getElem hpos])
        have hl0 : 0 < l.length := List.length_pos_iff.2 hne
        rw [List.getElem?_eq_getElem hl0] at q0
        refine ⟨a, rfl, ?_⟩
        have ha : a.add (List.range (P.cellsOf e))[0] = a := by rw [List.getElem_range]; rfl
        rw [ha] at q0
        unfold World.cell? at q0
        split at q0
        · rename_i hc
          have hb := (Array.getElem?_eq_some_iff.1 hc).1
          split at q0
          · cases q0
          · rename_i hs
            refine ⟨?_, hb⟩
            cases hz : a.spot with
            | none => rfl
            | some _ => rw [hz] at hs; exact absurd rfl hs
        · cases q0
      · cases q1
    all_goals (try (split at h))
    all_goals (first | (cases h; done) | (obtain ⟨_, _, q⟩ := Option.map_eq_some_iff.1 h; cases q; done) | (obtain ⟨_, _, q⟩ := Option.bind_eq_some_iff.1 h; obtain ⟨_, _, q⟩ := Option.map_eq_some_iff.1 q; cases q; done) | (split at h; (obtain ⟨_, _, q⟩ := Option.bind_eq_some_iff.1 h; dsimp only at q; split at q <;> cases q); cases h; done) | skip)
theorem iface_told {P : Program} {w : World} {n : String} {g : Nat} {cs : Array Value} {t : TypeId} {fuel : Nat} {nm : String} {x : Lit} {p : List MemPlace} {ms : Array (String × TypeId)} (hg : P.globalNamed n = some g) (hv : w.var? P n = some cs)
    (ht : P.underlying t = some (.interface ms)) (h : DataW.trod (fun _ => ()) P w 0 (fun _ => true) false fuel t cs.toList = some (.iface nm (.ptr (.agg [.lit x])), p)) : ∃ u v a el fr, w.heap[g]? = some (.cells #[.iface u v] el fr) ∧ IsErr w u v a := by
  obtain ⟨el, fr, hc⟩ := var_cells hg hv
  have key : ∃ u v, cs.toList = [.iface u v] ∧ ∃ q, DataW.trod (fun _ => ()) P w 0 (fun _ => true) false (fuel - 1) u v.cells.toList = some (.ptr (.agg [.lit x]), q) := by
    cases fuel with
    | zero => cases h
    | succ fuel =>
      unfold DataW.trod at h
      rw [ht] at h
      generalize cs.toList = l at h
      cases l with
      | nil => cases h
      | cons y r => cases r with
        | cons z r => cases y <;> cases h
        | nil =>
          cases y <;> first | (cases h; done) | skip
          rename_i u v
          simp only at h
          cases hn : P.typeName? 3 u with
          | none => rw [hn] at h; cases h
          | some nn =>
            rw [hn] at h
            obtain ⟨⟨y1, y2⟩, q, e1⟩ := Option.map_eq_some_iff.1 h
            cases e1
            exact ⟨u, v, rfl, y2, q⟩
  obtain ⟨u, v, e, q, k⟩ := key
  obtain ⟨a, k1, k2, k3⟩ := ptr_told k
  have ec : cs = #[.iface u v] := by rw [← Array.toList_inj]; exact e
  subst ec
  refine ⟨u, v, a, el, fr, hc, ?_, k2, k3⟩
  cases v <;> first | (cases k1; exact .inl rfl) | (right; congr 1; rw [← Array.toList_inj]; exact k1) | (exfalso; cases k1; done)
end Go.Proofs.YtjhgembcdndmkaaGreatDoor.St
