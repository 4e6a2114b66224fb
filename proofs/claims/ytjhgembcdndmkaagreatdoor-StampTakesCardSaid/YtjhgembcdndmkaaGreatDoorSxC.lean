import Derived.Lib.ItoaLen
import Derived.Lib.ItoaMem
import Derived.Test.YtjhgembcdndmkaaGreatDoorSxB
/- THE WALK'S PARTS, part C: what the functions of the law compute, over the abstract machine that stands beside this text. No condition. -/
set_option linter.unusedSimpArgs false
set_option linter.unusedVariables false
namespace Go.Proofs.YtjhgembcdndmkaaGreatDoor.St
open Go Go.Proofs.YtjhgembcdndmkaaGreatDoor.Am Go.Proofs Go.RowKit
attribute [local simp] xr_mov xd_mov xr_pick xd_pick xr_bin xd_bin xr_un xd_un xr_build xr_convInt xd_convInt xr_mkFn xr_fld xd_fld xr_extract xr_lenS xr_lenL xd_lenL xr_nilPtr xd_nilPtr xr_load1 xd_load1 xr_loadN xd_loadN xr_bytesStr xd_bytesStr xr_eqPtr xr_new xr_box xr_buildSl xd_buildSl xd_strBytes xr_mkSl xr_idxAddrSl xd_idxAddrSl xr_idxStr xd_sliceSl orU_some orU_none lenSA_str lenSA_strOf lenLA_sl lenLA_nil xfn xcode xdrawn xr_nil xr_kg xr_kgu xr_call xr_store xr_append xd_append xap_sl xap_nl xapq_some xsrc_sl xsrc_nil xapp_nil xapp_grow xapp_room xset xown xnx_some xnp_some xnq_some xd_nil xdl_old xdl_new xda_some xd_call xd_kg xdn_some xld xal kindOf isAlloc allocs xins xrem xall xput xget xwhole xmine xcont xq xqs xres XS.add XR.out XR.outU XR.ups xsets XR.res Rs.seq Rs.inSc Rs.block mapO tupleA sv_args adv_eq tget eqs8 eqs7 eqi8 eqi7 eqg8 eql8 eqn8 eqn7 cells_strOf cells_int cells_agg cells_bool cells_str cells_sl cells_nil cells_ptr at_int at_str at_strOf at_bool at_sl at_nil at_ptr unstr_strOf unbyt_byt fill_nil fill_cons replA ev_tm ev_vl sv_stv bin_add bin_sub bin_mul bin_lss bin_leq bin_gtr bin_geq bin_eql bin_neq un_not nth0 nth1 nth2 xst_idxAddrSl xst_idxStr xst_sliceStr xst_sliceSl xsl_sl xbd slN Nat.testBit
noncomputable def sV (l : List UInt8) (a : Nat) : Int := if gOk l a = true then numV l a else -1
noncomputable def e_rsmall : Ent := mkEnt 76 1 [.own 0, .bsl 0 0] (fun z_ : Pos × AV × Nat × (List UInt8) => [.ptr z_.1 0 0]) (fun z_ => [[z_.2.1, int64 (z_.2.2.1 : Int)], byt z_.2.2.2]) (fun z_ => OdP z_.1 z_.2.1 z_.2.2.1 z_.2.2.2) (fun z_ => .upd [(z_.1, [z_.2.1, int64 (numA z_.2.2.2 z_.2.2.1 : Int)])] (int64 (sV z_.2.2.2 z_.2.2.1)))
theorem f_rsmall : e_rsmall.f = 76 := rfl
theorem x_rsmall {U : List Ent} {b : Pos} {st : XS} (hU : tget U 76 = some e_rsmall) (d : Pos) (v : AV) (a : Nat) (l : List UInt8) (hp : OdP d v a l) (hq : xqs st.X [.ptr d 0 0] [.own 0, .bsl 0 0] = some [[v, int64 (a : Int)], byt l]) (ho : ((.upd [(d, [v, int64 (numA l a : Int)])] (int64 (sV l a)) : XR).ups.all fun x => (xown st.X x.1 0).isSome) = true) : xcall U b 76 [.ptr d 0 0] st = none ∧ xupd U b 76 [.ptr d 0 0] st = some (XR.outU b st (.upd [(d, [v, int64 (numA l a : Int)])] (int64 (sV l a)))) :=
  xupd_at hU rfl hq (mkEnt_spec (by rintro ⟨a0, a1, a2, a3⟩ ⟨b0, b1, b2, b3⟩ h hc; simp only [List.cons.injEq, AV.agg.injEq, AV.tup.injEq, AV.int.injEq, AV.bool.injEq, AV.ptr.injEq, AV.sl.injEq, strOf_eq, byt_eq, map_strOf_eq, true_and, and_true, Int.natCast_inj] at h hc; simp [h, hc]) (d, v, a, l) hp) (by first | rfl | (split <;> rfl)) ho
noncomputable def e_obytes : Ent := mkEnt 102 2 [.own 0, .bsl 0 0] (fun z_ : Pos × AV × Nat × (List UInt8) × Int => [.ptr z_.1 0 0, int64 z_.2.2.2.2]) (fun z_ => [[z_.2.1, int64 (z_.2.2.1 : Int)], byt z_.2.2.2.1]) (fun z_ => OdP z_.1 z_.2.1 z_.2.2.1 z_.2.2.2.1 ∧ 0 ≤ z_.2.2.2.2 ∧ z_.2.2.2.2 ≤ 9223372036854775807) (fun z_ => if bytE z_.2.2.2.1 z_.2.2.1 z_.2.2.2.2 = 0 ∧ bytV z_.2.2.2.1 z_.2.2.1 ≠ [] then .updRow [(z_.1, [z_.2.1, int64 (bytA z_.2.2.2.1 z_.2.2.1 z_.2.2.2.2 : Int)])] (byt (bytV z_.2.2.2.1 z_.2.2.1)) (fun r => .tup [slN r (bytV z_.2.2.2.1 z_.2.2.1).length 1, int64 0]) else .upd [(z_.1, [z_.2.1, int64 (bytA z_.2.2.2.1 z_.2.2.1 z_.2.2.2.2 : Int)])] (.tup [.nilSl, int64 (bytE z_.2.2.2.1 z_.2.2.1 z_.2.2.2.2)]))
theorem f_obytes : e_obytes.f = 102 := rfl
theorem x_obytes {U : List Ent} {b : Pos} {st : XS} (hU : tget U 102 = some e_obytes) (d : Pos) (v : AV) (a : Nat) (l : List UInt8) (most : Int) (hp : OdP d v a l ∧ 0 ≤ most ∧ most ≤ 9223372036854775807) (hq : xqs st.X [.ptr d 0 0, int64 most] [.own 0, .bsl 0 0] = some [[v, int64 (a : Int)], byt l]) (ho : ((if bytE l a most = 0 ∧ bytV l a ≠ [] then .updRow [(d, [v, int64 (bytA l a most : Int)])] (byt (bytV l a)) (fun r => .tup [slN r (bytV l a).length 1, int64 0]) else .upd [(d, [v, int64 (bytA l a most : Int)])] (.tup [.nilSl, int64 (bytE l a most)]) : XR).ups.all fun x => (xown st.X x.1 0).isSome) = true) : xcall U b 102 [.ptr d 0 0, int64 most] st = none ∧ xupd U b 102 [.ptr d 0 0, int64 most] st = some (XR.outU b st (if bytE l a most = 0 ∧ bytV l a ≠ [] then .updRow [(d, [v, int64 (bytA l a most : Int)])] (byt (bytV l a)) (fun r => .tup [slN r (bytV l a).length 1, int64 0]) else .upd [(d, [v, int64 (bytA l a most : Int)])] (.tup [.nilSl, int64 (bytE l a most)]))) :=
  xupd_at hU rfl hq (mkEnt_spec (by rintro ⟨a0, a1, a2, a3, a4⟩ ⟨b0, b1, b2, b3, b4⟩ h hc; simp only [List.cons.injEq, AV.agg.injEq, AV.tup.injEq, AV.int.injEq, AV.bool.injEq, AV.ptr.injEq, AV.sl.injEq, strOf_eq, byt_eq, map_strOf_eq, true_and, and_true, Int.natCast_inj] at h hc; simp [h, hc]) (d, v, a, l, most) hp) (by first | rfl | (split <;> rfl)) ho
section
variable {m : Int} {t1 t2 : AV}
theorem od_any {h : Hp} {d : Pos} {v : AV} {a : Int} {l : List UInt8} {r : List AV} (hv : OdV d v l) (hc : Conts h (.ptr d 0 0 :: r) [.own 0, .bsl 0 0] [[v, int64 a], byt l]) :
    ∃ X, XI h.next [d] h ⟨0, ⟨d, 0, true, [v, int64 a]⟩ :: X⟩ h ∧ (∀ j g o l' Y, xcont (⟨adv h.next j, g, o, l'⟩ :: Y) v = xcont Y v) ∧ (∀ l', xcont (⟨d, 0, true, l'⟩ :: X) v = some (byt l)) := by
  rcases od_open hv hc with ⟨rfl, rfl, hX, od⟩ | ⟨q, cap, L, rfl, hq, hcap, hX, tq, aq, hL, od, oq⟩
  · exact ⟨[], .startW h hX (by simp) (by simp), fun _ _ _ _ _ => rfl, fun _ => rfl⟩
  · exact ⟨[⟨q, 0, false, L⟩], .startW h hX (by simpa using hq.symm) (by simp), fun j g o l' Y => by simp [xcont, xget, adv_nf oq], fun l' => by simp [xcont, xget, hq.symm, tq, aq]⟩
theorem rsmall_ok : EntOK Tryz.prog (HasG m t1 t2) e_rsmall := mkEnt_ok ok_rsmall fun z h g hz hc => by
  obtain ⟨d, v, a, l⟩ := z
  have hz1 : OdP d v a l := hz
  obtain ⟨hv, ha, hl, h6⟩ := hz1
  obtain ⟨X, hX, e1, e2⟩ := od_any (d := d) (v := v) (a := (a : Int)) (l := l) hv hc
  refine upd_of (U := []) (K := [e_ornum]) [(d, [v, int64 (numA l a : Int)])] (fun _ o => g.upd o (by simpa using h6)) (by simp) (by simp [ornum_ok.entK]) 0 hX od_had rsmall_code (by simp [rsmall_fu]) rfl ?_
  have N := fun {U b st} (hU : tget U 105 = some e_ornum) hq ho => x_ornum (U := U) (b := b) (st := st) hU d v a l hz hq ho
  have v0 := numV_nonneg l a
  have gd : gOk l a = ((numR l a).isSome && decide (numV l a ≤ 4611686018427387904)) := rfl
  have gv : sV l a = if gOk l a = true then numV l a else -1 := rfl
  cases hs : (numR l a).isSome
  · have eE : numE l a = 4 := by unfold numE; rw [hs]; rfl
    rw [hs] at gd
    rw [gd] at gv
    simp [-xcont, rsmall_fu, N, f_ornum, e1, e2, owns, xown, eE, gd, gv]
  · have eE : numE l a = 0 := by unfold numE; rw [hs]; rfl
    rw [hs] at gd
    rw [gd] at gv
    by_cases c : numV l a ≤ 4611686018427387904
    · have c' := eq_false (show ¬ 4611686018427387904 < numV l a by omega)
      have w := w64 (n := numV l a) (by omega) (by omega)
      have c := eq_true c
      simp [-xcont, rsmall_fu, N, f_ornum, e1, e2, owns, xown, eE, gd, gv, c, c', w]
    · have c' := eq_true (show 4611686018427387904 < numV l a by omega)
      have c := eq_false c
      simp [-xcont, rsmall_fu, N, f_ornum, e1, e2, owns, xown, eE, gd, gv, c, c']
theorem obytes_ok : EntOK Tryz.prog (HasG m t1 t2) e_obytes := mkEnt_ok ok_obytes fun z h g hz hc => by
  obtain ⟨d, v, a, l, most⟩ := z
  obtain ⟨hz1, hm0, hm1⟩ : OdP d v a l ∧ 0 ≤ most ∧ most ≤ 9223372036854775807 := hz
  have hz2 := hz1
  obtain ⟨hv, ha, hl, h6⟩ := hz2
  have gm : ∀ h h', HasG m t1 t2 h → Only [] h h' → HasG m t1 t2 h' := fun _ _ g o => g.more o
  have v0 := numV_nonneg l a
  obtain ⟨nA1, nA2⟩ := numA_le (l := l) (a := a) ha
  have hU : ∀ e ∈ ([] : List Ent), EntOK Tryz.prog (HasG m t1 t2) e := by simp
  have hK : ∀ e ∈ [e_ornum, e_oleft], EntK Tryz.prog (HasG m t1 t2) e := by simp [ornum_ok.entK, (oleft_ok gm).entK]
  have N := fun {U b st} (hU : tget U 105 = some e_ornum) hq ho => x_ornum (U := U) (b := b) (st := st) hU d v a l hz1 hq ho
  have hlv : lenN v = l.length ∧ lenLA v = some (int64 (lenN v : Int)) := by
    rcases hv with ⟨rfl, rfl⟩ | ⟨q, cap, rfl, _, _⟩ <;> exact ⟨rfl, rfl⟩
  have LF := fun {U b st} (hU : tget U 28 = some e_oleft) hq => x_oleft (U := U) (b := b) (st := st) hU d v (numA l a) ⟨by rw [hlv.1]; exact nA2, by rw [hlv.1]; exact hl, hlv.2⟩ hq
  rw [hlv.1] at LF
  show AmFn _ _ _ _ ((if bytE l a most = 0 ∧ bytV l a ≠ [] then XR.updRow _ _ _ else XR.upd _ _).res h).1 ((if bytE l a most = 0 ∧ bytV l a ≠ [] then XR.updRow _ _ _ else XR.upd _ _).res h).2
  have hb : bytE l a most = if cntE l a most = 0 then (if ((l.length - numA l a : Nat) : Int) < numV l a then 4 else 0) else cntE l a most := rfl
  have hba : bytA l a most = if bytE l a most = 0 then numA l a + (numV l a).toNat else a := rfl
  have hce : cntE l a most = if (numR l a).isSome then (if most < numV l a then 3 else 0) else 4 := rfl
  obtain ⟨X, hX, e1, e2⟩ := od_any (d := d) (v := v) (a := (a : Int)) (l := l) hv hc
  have wm : wrapA .u64 most = most := wu64 (by omega) (by omega)
  have wl : wrapA .u64 ((l.length - numA l a : Nat) : Int) = ((l.length - numA l a : Nat) : Int) := wu64 (by omega) (by omega)
  cases hs : (numR l a).isSome
  · have eE : numE l a = 4 := by unfold numE; rw [hs]; rfl
    have hce : cntE l a most = 4 := by rw [hce, hs]; rfl
    have hb : bytE l a most = 4 := by rw [hb, hce]; rfl
    have hba : bytA l a most = a := by rw [hba, hb]; rfl
    rw [hb, hba, if_neg fun c => absurd c.1 (by decide)]
    refine upd_of [(d, [v, int64 (a : Int)])] (fun _ o => g.upd o (by simpa using h6)) hU hK 0 hX od_had obytes_code (by simp [obytes_fu]) rfl ?_
    simp [-xcont, obytes_fu, N, f_ornum, f_oleft, e1, e2, owns, xown, eE]
  · have eE : numE l a = 0 := by unfold numE; rw [hs]; rfl
    rw [hs, if_pos rfl] at hce
    by_cases c0 : most < numV l a
    · rw [if_pos c0] at hce
      have hb : bytE l a most = 3 := by rw [hb, hce]; rfl
      have hba : bytA l a most = a := by rw [hba, hb]; rfl
      rw [hb, hba, if_neg fun c => absurd c.1 (by decide)]
      refine upd_of [(d, [v, int64 (a : Int)])] (fun _ o => g.upd o (by simpa using h6)) hU hK 0 hX od_had obytes_code (by simp [obytes_fu]) rfl ?_
      simp [-xcont, obytes_fu, N, f_ornum, f_oleft, e1, e2, owns, xown, eE, wm, c0]
    · rw [if_neg c0] at hce
      rw [hce, if_pos rfl] at hb
      by_cases c1 : ((l.length - numA l a : Nat) : Int) < numV l a
      · rw [if_pos c1] at hb
        have hba : bytA l a most = a := by rw [hba, hb]; rfl
        rw [hb, hba, if_neg fun c => absurd c.1 (by decide)]
        refine upd_of [(d, [v, int64 (a : Int)])] (fun _ o => g.upd o (by simpa using h6)) hU hK 0 hX od_had obytes_code (by simp [obytes_fu]) rfl ?_
        simp [-xcont, obytes_fu, N, LF, f_ornum, f_oleft, e1, e2, owns, xown, eE, wm, wl, c0, c1]
      · rw [if_neg c1] at hb
        rw [hb, if_pos rfl] at hba
        obtain ⟨n, hn⟩ : ∃ n : Nat, numV l a = n := ⟨(numV l a).toNat, by omega⟩
        have hlen : (bytV l a).length = n := by unfold bytV; rw [List.length_take, List.length_drop]; omega
        have hle : numA l a + n ≤ l.length := by omega
        rcases od_open (d := d) (v := v) (a := (a : Int)) (l := l) hv hc with ⟨rfl, rfl, hX, od⟩ | ⟨q, cap, L, rfl, hq, hcap, hX, tq, aq, hL, od, oq⟩
        · obtain rfl : a = 0 := by simpa using ha
          cases hs
        · have hbv : (L.drop (numA l a)).take n = byt (bytV l a) := by
            unfold bytV
            rw [hn, Int.toNat_natCast]
            have e1 : byt ((l.drop (numA l a)).take n) = ((byt l).drop (numA l a)).take n := by unfold byt; rw [List.map_take, List.map_drop]
            rw [e1, ← tq, List.drop_take, List.take_take, Nat.min_eq_left (show n ≤ l.length - numA l a by omega)]
          have w1 : wrapA .i64 ((numA l a : Int) + (n : Int)) = ((numA l a + n : Nat) : Int) := by rw [w64 (by omega) (by omega)]; rfl
          have w3 : wrapA .i64 (numA l a : Int) = (numA l a : Int) := w64 (by omega) (by omega)
          have w4 : wrapA .i64 (n : Int) = (n : Int) := w64 (by omega) (by omega)
          rw [hn, Int.toNat_natCast] at hba
          rw [hn] at c1 c0
          have hX2 : XI h.next [d] h ⟨0, [⟨d, 0, true, [.sl q 0 0 l.length cap true 1, int64 (a : Int)]⟩, ⟨q, 0, false, L⟩]⟩ h := .startW h hX (by simpa using hq.symm) (by simp)
          have k1 := eq_true (show numA l a ≤ cap by omega)
          have k3 := eq_true (show numA l a ≤ L.length by omega)
          rw [hb, hba]
          by_cases n0 : n = 0
          · subst n0
            have e0 : bytV l a = [] := List.eq_nil_of_length_eq_zero hlen
            rw [if_neg fun c => c.2 e0, Nat.add_zero]
            refine upd_of [(d, [.sl q 0 0 l.length cap true 1, int64 (numA l a : Int)])] (fun _ o => g.upd o (by simpa using h6)) hU hK 0 hX2 od_had obytes_code (by simp [obytes_fu]) rfl ?_
            have c1' := eq_false (show ¬ ((l.length - numA l a : Nat) : Int) < 0 by omega)
            have c0' := eq_false (show ¬ most < 0 by omega)
            have w5 : wrapA .i64 0 = 0 := w64 (by omega) (by omega)
            have RM := fun (s : XS) => xapp_nil (b := h.next) (s := s) (es := 1) (bytes := 0) (n := 0) (c := []) (by omega) (by omega) rfl (by omega)
            have k6 := eq_true (show (if numA l a = cap then 0 else numA l a) ≤ L.length by split <;> omega)
            simp [obytes_fu, N, LF, f_ornum, f_oleft, hq, hq.symm, tq, aq, owns, xown, eE, hn, wm, wl, c0', c1', w3, w5, k1, k3, k6, RM]
          · have e0 : bytV l a ≠ [] := fun c => n0 (by rw [← hlen, c]; rfl)
            rw [if_pos ⟨rfl, e0⟩, hlen]
            refine updRow_of [(d, [.sl q 0 0 l.length cap true 1, int64 ((numA l a + n : Nat) : Int)])] (adv h.next 0) 0 n false (fun _ o => g.upd o (by simpa using h6)) hU hK 0 hX2 od_had obytes_code (by simp [obytes_fu]) rfl (fun y my => ?_) ?_ (.inr rfl) ?_
            · obtain ⟨j, hj, rfl⟩ := List.getElem_of_mem my
              exact plain_byt _ j _ (List.getElem?_eq_getElem hj)
            · have : adv h.next 0 ≠ d := of_eq_false (adv_nf od 0)
              simpa using this
            · have t1 : ((numA l a : Int) + (n : Int)).toNat = numA l a + n := by omega
              have t2 := eq_true (show (0 : Int) ≤ (numA l a : Int) + (n : Int) by omega)
              have t3 := eq_true (show numA l a + n ≤ cap by omega)
              have k2 := eq_false (show ¬ numA l a = cap by omega)
              have t4 := eq_true (show numA l a + n ≤ L.length by omega)
              have RM := fun (s : XS) => xapp_nil (b := h.next) (s := s) (es := 1) (bytes := 0) (n := n) (c := byt (bytV l a)) (by omega) (by omega) (byt_atoms _) (by omega)
              simp [obytes_fu, RM, N, LF, f_ornum, f_oleft, hq, hq.symm, tq, aq, owns, xown, eE, hn, wm, wl, c0, c1, w1, w3, w4, k1, k3, adv_nf oq, adv_fn oq, adv_nf od, adv_fn od, n0, t1, t2, t3, t4, k2, hbv, hlen]
end
end Go.Proofs.YtjhgembcdndmkaaGreatDoor.St

namespace Go.Proofs.YtjhgembcdndmkaaGreatDoor.St
open Go Go.Proofs.YtjhgembcdndmkaaGreatDoor.Am Go.Proofs Go.RowKit
attribute [local simp] xr_mov xd_mov xr_pick xd_pick xr_bin xd_bin xr_un xd_un xr_build xr_convInt xd_convInt xr_mkFn xr_fld xd_fld xr_extract xr_lenS xr_lenL xd_lenL xr_nilPtr xd_nilPtr xr_load1 xd_load1 xr_loadN xd_loadN xr_bytesStr xd_bytesStr xr_eqPtr xr_new xr_box xr_buildSl xd_buildSl xd_strBytes xr_mkSl xr_idxAddrSl xd_idxAddrSl xr_idxStr xd_sliceSl orU_some orU_none lenSA_str lenSA_strOf lenLA_sl lenLA_nil xfn xcode xdrawn xr_nil xr_kg xr_kgu xr_call xr_store xr_append xd_append xap_sl xap_nl xapq_some xsrc_sl xsrc_nil xapp_nil xapp_grow xapp_room xset xown xnx_some xnp_some xnq_some xd_nil xdl_old xdl_new xda_some xd_call xd_kg xdn_some xld xal kindOf isAlloc allocs xins xrem xall xput xget xwhole xmine xcont xq xqs xres XS.add XR.out XR.outU XR.ups xsets XR.res Rs.seq Rs.inSc Rs.block mapO tupleA sv_args adv_eq tget eqs8 eqs7 eqi8 eqi7 eqg8 eql8 eqn8 eqn7 cells_strOf cells_int cells_agg cells_bool cells_str cells_sl cells_nil cells_ptr at_int at_str at_strOf at_bool at_sl at_nil at_ptr unstr_strOf unbyt_byt fill_nil fill_cons replA ev_tm ev_vl sv_stv bin_add bin_sub bin_mul bin_lss bin_leq bin_gtr bin_geq bin_eql bin_neq un_not nth0 nth1 nth2 xst_idxAddrSl xst_idxStr xst_sliceStr xst_sliceSl xsl_sl xbd slN Nat.testBit
noncomputable def cV (l : List UInt8) (a : Nat) : List UInt8 := if bytE l a 99 = 0 then bytV l a else []
noncomputable def rbA (l : List UInt8) (a : Nat) : Nat := bytA l (numA l a) 99
noncomputable def rnA (l : List UInt8) (a : Nat) : Nat := numA l (rbA l a)
theorem rbA_le {l : List UInt8} {a : Nat} (h : a ≤ l.length) : a ≤ rbA l a ∧ rbA l a ≤ l.length := by
  have := numA_le h
  have := bytA_le this.2 99
  unfold rbA
  omega
theorem rnA_le {l : List UInt8} {a : Nat} (h : a ≤ l.length) : a ≤ rnA l a ∧ rnA l a ≤ l.length := by
  have := rbA_le h
  have := numA_le this.2
  unfold rnA
  omega
noncomputable def e_rbr : Ent := mkEnt 67 1 [.own 0, .bsl 0 0] (fun z_ : Pos × AV × Nat × (List UInt8) => [.ptr z_.1 0 0]) (fun z_ => [[z_.2.1, int64 (z_.2.2.1 : Int)], byt z_.2.2.2]) (fun z_ => OdP z_.1 z_.2.1 z_.2.2.1 z_.2.2.2) (fun z_ => .upd [(z_.1, [z_.2.1, int64 (rbA z_.2.2.2 z_.2.2.1 : Int)])] (.agg [int64 (sV z_.2.2.2 z_.2.2.1), strOf (cV z_.2.2.2 (numA z_.2.2.2 z_.2.2.1))]))
theorem f_rbr : e_rbr.f = 67 := rfl
theorem x_rbr {U : List Ent} {b : Pos} {st : XS} (hU : tget U 67 = some e_rbr) (d : Pos) (v : AV) (a : Nat) (l : List UInt8) (hp : OdP d v a l) (hq : xqs st.X [.ptr d 0 0] [.own 0, .bsl 0 0] = some [[v, int64 (a : Int)], byt l]) (ho : ((.upd [(d, [v, int64 (rbA l a : Int)])] (.agg [int64 (sV l a), strOf (cV l (numA l a))]) : XR).ups.all fun x => (xown st.X x.1 0).isSome) = true) : xcall U b 67 [.ptr d 0 0] st = none ∧ xupd U b 67 [.ptr d 0 0] st = some (XR.outU b st (.upd [(d, [v, int64 (rbA l a : Int)])] (.agg [int64 (sV l a), strOf (cV l (numA l a))]))) :=
  xupd_at hU rfl hq (mkEnt_spec (by rintro ⟨a0, a1, a2, a3⟩ ⟨b0, b1, b2, b3⟩ h hc; simp only [List.cons.injEq, AV.agg.injEq, AV.tup.injEq, AV.int.injEq, AV.bool.injEq, AV.ptr.injEq, AV.sl.injEq, strOf_eq, byt_eq, map_strOf_eq, true_and, and_true, Int.natCast_inj] at h hc; simp [h, hc]) (d, v, a, l) hp) (by first | rfl | (split <;> rfl)) ho
noncomputable def e_rnm : Ent := mkEnt 71 1 [.own 0, .bsl 0 0] (fun z_ : Pos × AV × Nat × (List UInt8) => [.ptr z_.1 0 0]) (fun z_ => [[z_.2.1, int64 (z_.2.2.1 : Int)], byt z_.2.2.2]) (fun z_ => OdP z_.1 z_.2.1 z_.2.2.1 z_.2.2.2) (fun z_ => .upd [(z_.1, [z_.2.1, int64 (rnA z_.2.2.2 z_.2.2.1 : Int)])] (.agg [int64 (sV z_.2.2.2 z_.2.2.1), strOf (cV z_.2.2.2 (numA z_.2.2.2 z_.2.2.1)), int64 (sV z_.2.2.2 (rbA z_.2.2.2 z_.2.2.1))]))
theorem f_rnm : e_rnm.f = 71 := rfl
theorem x_rnm {U : List Ent} {b : Pos} {st : XS} (hU : tget U 71 = some e_rnm) (d : Pos) (v : AV) (a : Nat) (l : List UInt8) (hp : OdP d v a l) (hq : xqs st.X [.ptr d 0 0] [.own 0, .bsl 0 0] = some [[v, int64 (a : Int)], byt l]) (ho : ((.upd [(d, [v, int64 (rnA l a : Int)])] (.agg [int64 (sV l a), strOf (cV l (numA l a)), int64 (sV l (rbA l a))]) : XR).ups.all fun x => (xown st.X x.1 0).isSome) = true) : xcall U b 71 [.ptr d 0 0] st = none ∧ xupd U b 71 [.ptr d 0 0] st = some (XR.outU b st (.upd [(d, [v, int64 (rnA l a : Int)])] (.agg [int64 (sV l a), strOf (cV l (numA l a)), int64 (sV l (rbA l a))]))) :=
  xupd_at hU rfl hq (mkEnt_spec (by rintro ⟨a0, a1, a2, a3⟩ ⟨b0, b1, b2, b3⟩ h hc; simp only [List.cons.injEq, AV.agg.injEq, AV.tup.injEq, AV.int.injEq, AV.bool.injEq, AV.ptr.injEq, AV.sl.injEq, strOf_eq, byt_eq, map_strOf_eq, true_and, and_true, Int.natCast_inj] at h hc; simp [h, hc]) (d, v, a, l) hp) (by first | rfl | (split <;> rfl)) ho
section
variable {m : Int} {t1 t2 : AV}
theorem rbr_ok : EntOK Tryz.prog (HasG m t1 t2) e_rbr := mkEnt_ok ok_rbr fun z h g hz hc => by
  obtain ⟨d, v, a, l⟩ := z
  have hz1 : OdP d v a l := hz
  have hz2 := hz1
  obtain ⟨hv, ha, hl, h6⟩ := hz2
  have nA := numA_le (l := l) (a := a) ha
  obtain ⟨X, hX, e1, e2⟩ := od_any (d := d) (v := v) (a := (a : Int)) (l := l) hv hc
  have od : d.num < h.next.num := (hX.all _ (List.mem_cons_self ..)).old
  refine upd_of (U := []) (K := [e_rsmall, e_obytes]) [(d, [v, int64 (rbA l a : Int)])] (fun _ o => g.upd o (by simpa using h6)) (by simp) (by simp [rsmall_ok.entK, obytes_ok.entK]) 0 hX od_had rbr_code (by simp [rbr_fu]) rfl ?_
  have N := fun {U b st} (hU : tget U 76 = some e_rsmall) hq ho => x_rsmall (U := U) (b := b) (st := st) hU d v a l hz1 hq ho
  have B := fun {U b st} (hU : tget U 102 = some e_obytes) hq ho => x_obytes (U := U) (b := b) (st := st) hU d v (numA l a) l 99 ⟨⟨hv, nA.2, hl, h6⟩, by omega, by omega⟩ hq ho
  have cv : cV l (numA l a) = if bytE l (numA l a) 99 = 0 then bytV l (numA l a) else [] := rfl
  have ga : bytA l (numA l a) 99 = rbA l a := rfl
  by_cases c : bytE l (numA l a) 99 = 0
  · rw [if_pos c] at cv
    generalize bytV l (numA l a) = u at *
    by_cases n0 : u = []
    · subst n0
      simp [-xcont, rbr_fu, N, B, f_rsmall, f_obytes, e1, e2, owns, xown, c, cv, ga, adv_nf od, adv_fn od, byt_take, byt_e, unbyt_nil, strOf_nil, byt_length]
    · simp [-xcont, rbr_fu, N, B, f_rsmall, f_obytes, e1, e2, owns, xown, c, cv, ga, n0, adv_nf od, adv_fn od, byt_take, byt_e, unbyt_nil, strOf_nil, byt_length]
  · rw [if_neg c] at cv
    simp [-xcont, rbr_fu, N, B, f_rsmall, f_obytes, e1, e2, owns, xown, c, cv, ga, adv_nf od, adv_fn od, byt_take, byt_e, unbyt_nil, strOf_nil, byt_length]
theorem rnm_ok : EntOK Tryz.prog (HasG m t1 t2) e_rnm := mkEnt_ok ok_rnm fun z h g hz hc => by
  obtain ⟨d, v, a, l⟩ := z
  have hz1 : OdP d v a l := hz
  have hz2 := hz1
  obtain ⟨hv, ha, hl, h6⟩ := hz2
  have nA := rbA_le (l := l) (a := a) ha
  obtain ⟨X, hX, e1, e2⟩ := od_any (d := d) (v := v) (a := (a : Int)) (l := l) hv hc
  have od : d.num < h.next.num := (hX.all _ (List.mem_cons_self ..)).old
  refine upd_of (U := []) (K := [e_rsmall, e_rbr]) [(d, [v, int64 (rnA l a : Int)])] (fun _ o => g.upd o (by simpa using h6)) (by simp) (by simp [rsmall_ok.entK, rbr_ok.entK]) 0 hX od_had rnm_code (by simp [rnm_fu]) rfl ?_
  have B := fun {U b st} (hU : tget U 67 = some e_rbr) hq ho => x_rbr (U := U) (b := b) (st := st) hU d v a l hz1 hq ho
  have N := fun {U b st} (hU : tget U 76 = some e_rsmall) hq ho => x_rsmall (U := U) (b := b) (st := st) hU d v (rbA l a) l ⟨hv, nA.2, hl, h6⟩ hq ho
  have ga : numA l (rbA l a) = rnA l a := rfl
  generalize cV l (numA l a) = u at *
  simp [-xcont, rnm_fu, N, B, f_rsmall, f_rbr, e1, e2, owns, xown, ga, adv_nf od, adv_fn od]
end
end Go.Proofs.YtjhgembcdndmkaaGreatDoor.St

namespace Go.Proofs.YtjhgembcdndmkaaGreatDoor.St
open Go Go.Proofs.YtjhgembcdndmkaaGreatDoor.Am Go.Proofs Go.RowKit
attribute [local simp] xr_mov xd_mov xr_pick xd_pick xr_bin xd_bin xr_un xd_un xr_build xr_convInt xd_convInt xr_mkFn xr_fld xd_fld xr_extract xr_lenS xr_lenL xd_lenL xr_nilPtr xd_nilPtr xr_load1 xd_load1 xr_loadN xd_loadN xr_bytesStr xd_bytesStr xr_eqPtr xr_new xr_box xr_buildSl xd_buildSl xd_strBytes xr_mkSl xr_idxAddrSl xd_idxAddrSl xr_idxStr xd_sliceSl orU_some orU_none lenSA_str lenSA_strOf lenLA_sl lenLA_nil xfn xcode xdrawn xr_nil xr_kg xr_kgu xr_call xr_store xr_append xd_append xap_sl xap_nl xapq_some xsrc_sl xsrc_nil xapp_nil xapp_grow xapp_room xset xown xnx_some xnp_some xnq_some xd_nil xdl_old xdl_new xda_some xd_call xd_kg xdn_some xld xal kindOf isAlloc allocs xins xrem xall xput xget xwhole xmine xcont xq xqs xres XS.add XR.out XR.outU XR.ups xsets XR.res Rs.seq Rs.inSc Rs.block mapO tupleA sv_args adv_eq tget eqs8 eqs7 eqi8 eqi7 eqg8 eql8 eqn8 eqn7 cells_strOf cells_int cells_agg cells_bool cells_str cells_sl cells_nil cells_ptr at_int at_str at_strOf at_bool at_sl at_nil at_ptr unstr_strOf unbyt_byt fill_nil fill_cons replA ev_tm ev_vl sv_stv bin_add bin_sub bin_mul bin_lss bin_leq bin_gtr bin_geq bin_eql bin_neq un_not nth0 nth1 nth2 xst_idxAddrSl xst_idxStr xst_sliceStr xst_sliceSl xsl_sl xbd slN Nat.testBit
theorem branchB_le {r : Int} {s : List UInt8} (h : branchB r s = true) : 0 ≤ r ∧ r < 8 ∧ s.length ≤ 12 := by
  simp [branchB, labelB] at h; omega
end Go.Proofs.YtjhgembcdndmkaaGreatDoor.St

namespace Go.Proofs.YtjhgembcdndmkaaGreatDoor.St
open Go Go.Proofs.YtjhgembcdndmkaaGreatDoor.Am Go.Proofs Go.RowKit
attribute [local simp] xr_mov xd_mov xr_pick xd_pick xr_bin xd_bin xr_un xd_un xr_build xr_convInt xd_convInt xr_mkFn xr_fld xd_fld xr_extract xr_lenS xr_lenL xd_lenL xr_nilPtr xd_nilPtr xr_load1 xd_load1 xr_loadN xd_loadN xr_bytesStr xd_bytesStr xr_eqPtr xr_new xr_box xr_buildSl xd_buildSl xd_strBytes xr_mkSl xr_idxAddrSl xd_idxAddrSl xr_idxStr xd_sliceSl orU_some orU_none lenSA_str lenSA_strOf lenLA_sl lenLA_nil xfn xcode xdrawn xr_nil xr_kg xr_kgu xr_call xr_store xr_append xd_append xap_sl xap_nl xapq_some xsrc_sl xsrc_nil xapp_nil xapp_grow xapp_room xset xown xnx_some xnp_some xnq_some xd_nil xdl_old xdl_new xda_some xd_call xd_kg xdn_some xld xal kindOf isAlloc allocs xins xrem xall xput xget xwhole xmine xcont xq xqs xres XS.add XR.out XR.outU XR.ups xsets XR.res Rs.seq Rs.inSc Rs.block mapO tupleA sv_args adv_eq tget eqs8 eqs7 eqi8 eqi7 eqg8 eql8 eqn8 eqn7 cells_strOf cells_int cells_agg cells_bool cells_str cells_sl cells_nil cells_ptr at_int at_str at_strOf at_bool at_sl at_nil at_ptr unstr_strOf unbyt_byt fill_nil fill_cons replA ev_tm ev_vl sv_stv bin_add bin_sub bin_mul bin_lss bin_leq bin_gtr bin_geq bin_eql bin_neq un_not nth0 nth1 nth2 xst_idxAddrSl xst_idxStr xst_sliceStr xst_sliceSl xsl_sl xbd slN Nat.testBit
noncomputable def e_rlabel : Ent := mkEnt 96 1 [] (fun z_ : (List UInt8) => [strOf z_]) (fun _ => []) (fun z_ => z_.length ≤ 9000) (fun z_ => .plain (.bool (labelB z_)))
theorem f_rlabel : e_rlabel.f = 96 := rfl
theorem x_rlabel {U : List Ent} {b : Pos} {st : XS} (hU : tget U 96 = some e_rlabel) (s : List UInt8) (hp : s.length ≤ 9000) : xcall U b 96 [strOf s] st = some (XR.out b st (.plain (.bool (labelB s)))) :=
  xcall_at hU rfl rfl (mkEnt_spec (by rintro a0 b0 h hc; simp only [List.cons.injEq, AV.agg.injEq, AV.tup.injEq, AV.int.injEq, AV.bool.injEq, AV.ptr.injEq, AV.sl.injEq, strOf_eq, byt_eq, map_strOf_eq, true_and, and_true, Int.natCast_inj] at h hc; simp [h, hc]) s hp) (by first | rfl | (split <;> rfl))
noncomputable def e_rbranch : Ent := mkEnt 51 1 [] (fun z_ : Int × (List UInt8) => [.agg [int64 z_.1, strOf z_.2]]) (fun _ => []) (fun z_ => z_.2.length ≤ 9000) (fun z_ => .plain (.bool (branchB z_.1 z_.2)))
theorem f_rbranch : e_rbranch.f = 51 := rfl
theorem x_rbranch {U : List Ent} {b : Pos} {st : XS} (hU : tget U 51 = some e_rbranch) (r : Int) (s : List UInt8) (hp : s.length ≤ 9000) : xcall U b 51 [.agg [int64 r, strOf s]] st = some (XR.out b st (.plain (.bool (branchB r s)))) :=
  xcall_at hU rfl rfl (mkEnt_spec (by rintro ⟨a0, a1⟩ ⟨b0, b1⟩ h hc; simp only [List.cons.injEq, AV.agg.injEq, AV.tup.injEq, AV.int.injEq, AV.bool.injEq, AV.ptr.injEq, AV.sl.injEq, strOf_eq, byt_eq, map_strOf_eq, true_and, and_true, Int.natCast_inj] at h hc; simp [h, hc]) (r, s) hp) (by first | rfl | (split <;> rfl))
noncomputable def e_rname : Ent := mkEnt 56 1 [] (fun z_ : Int × (List UInt8) × Int => [.agg [int64 z_.1, strOf z_.2.1, int64 z_.2.2]]) (fun _ => []) (fun z_ => z_.2.1.length ≤ 9000) (fun z_ => .plain (.bool (nameB z_.1 z_.2.1 z_.2.2)))
theorem f_rname : e_rname.f = 56 := rfl
theorem x_rname {U : List Ent} {b : Pos} {st : XS} (hU : tget U 56 = some e_rname) (r : Int) (s : List UInt8) (n : Int) (hp : s.length ≤ 9000) : xcall U b 56 [.agg [int64 r, strOf s, int64 n]] st = some (XR.out b st (.plain (.bool (nameB r s n)))) :=
  xcall_at hU rfl rfl (mkEnt_spec (by rintro ⟨a0, a1, a2⟩ ⟨b0, b1, b2⟩ h hc; simp only [List.cons.injEq, AV.agg.injEq, AV.tup.injEq, AV.int.injEq, AV.bool.injEq, AV.ptr.injEq, AV.sl.injEq, strOf_eq, byt_eq, map_strOf_eq, true_and, and_true, Int.natCast_inj] at h hc; simp [h, hc]) (r, s, n) hp) (by first | rfl | (split <;> rfl))
noncomputable def e_rstamp : Ent := mkEnt 59 1 [] (fun z_ : Int × Int × (List UInt8) × Int × Int => [.agg [int64 z_.1, int64 z_.2.1, strOf z_.2.2.1, int64 z_.2.2.2.1, int64 z_.2.2.2.2]]) (fun _ => []) (fun z_ => z_.2.2.1.length ≤ 9000) (fun z_ => .plain (.bool (stampB z_.1 z_.2.1 z_.2.2.1 z_.2.2.2.1 z_.2.2.2.2)))
theorem f_rstamp : e_rstamp.f = 59 := rfl
theorem x_rstamp {U : List Ent} {b : Pos} {st : XS} (hU : tget U 59 = some e_rstamp) (g : Int) (r : Int) (s : List UInt8) (n : Int) (i : Int) (hp : s.length ≤ 9000) : xcall U b 59 [.agg [int64 g, int64 r, strOf s, int64 n, int64 i]] st = some (XR.out b st (.plain (.bool (stampB g r s n i)))) :=
  xcall_at hU rfl rfl (mkEnt_spec (by rintro ⟨a0, a1, a2, a3, a4⟩ ⟨b0, b1, b2, b3, b4⟩ h hc; simp only [List.cons.injEq, AV.agg.injEq, AV.tup.injEq, AV.int.injEq, AV.bool.injEq, AV.ptr.injEq, AV.sl.injEq, strOf_eq, byt_eq, map_strOf_eq, true_and, and_true, Int.natCast_inj] at h hc; simp [h, hc]) (g, r, s, n, i) hp) (by first | rfl | (split <;> rfl))
section
variable {m : Int} {t1 t2 : AV}
theorem low_at {s : List UInt8} (h : low s = true) {k : Nat} (hk : k < s.length) : ¬ (s[k].toNat : Int) < 97 ∧ ¬ 122 < (s[k].toNat : Int) := by
  have := List.all_eq_true.1 h _ (List.getElem_mem hk)
  simp at this; omega
theorem low_not {s : List UInt8} {k : Nat} (hk : k < s.length) (h : (s[k].toNat : Int) < 97 ∨ 122 < (s[k].toNat : Int)) : low s = false := by
  rw [← Bool.not_eq_true]; intro q
  have := low_at q hk; omega
theorem rlabel_loop (s : List UInt8) (hs : s.length ≤ 9000) (b : Pos) (st : XS) (k : Nat) : ∀ (fuel n i : Nat) (env : T AV), sv env 0 = strOf s → sv env 3 = .int .i64 (i : Int) → i + n = s.length → n < fuel → low (s.take i) = true →
    ∃ env', xloop (xcode Tryz.prog [] [] b (k + 1) rlabel_0) fuel env st = some (if low s then .exit 0 else .ret, env', st) ∧ (low s = true → sv env' 0 = strOf s) ∧ (low s = false → sv env' 2 = .bool false)
  | 0, n, i, env, _, _, _, hf, _ => by omega
  | fuel + 1, n, i, env, h0, h3, hi, hf, hlo => by
    unfold xloop
    cases n with
    | zero =>
      obtain rfl : i = s.length := by omega
      rw [List.take_length] at hlo
      simp [rlabel_0, h0, h3, hlo]
    | succ n =>
      have hi1 : i < s.length := by omega
      by_cases c1 : (s[i].toNat : Int) < 97
      · have hno := low_not hi1 (.inl c1)
        simp [rlabel_0, h0, h3, hi1, c1, hno]
      · by_cases c2 : 122 < (s[i].toNat : Int)
        · have hno := low_not hi1 (.inr c2)
          simp [rlabel_0, h0, h3, hi1, c1, c2, hno]
        · have w : wrapA .i64 ((i : Int) + 1) = ((i + 1 : Nat) : Int) := by rw [w64 (by omega) (by omega)]; rfl
          have key := fun env a1 a2 => rlabel_loop s hs b st k fuel n (i + 1) env a1 a2 (by omega) (by omega) (low_step hi1 hlo c1 c2)
          generalize xloop (xcode Tryz.prog [] [] b (k + 1) rlabel_0) fuel = R at key ⊢
          simp [rlabel_0, h0, h3, hi1, c1, c2, w]
          refine key _ ?_ ?_ <;> simp [sv_stv, h0]
theorem rlabel_ok : EntOK Tryz.prog (HasG m t1 t2) e_rlabel := mkEnt_ok ok_rlabel fun s h gg hs _ => by
  have hs : s.length ≤ 9000 := hs
  refine plain_of (U := []) (K := []) (fun _ o => gg.more o) (by simp) (by simp) (s.length + 1) rlabel_code (by simp [rlabel_fu]) rfl ?_
  obtain ⟨env', e, q1, q2⟩ := rlabel_loop s hs h.next ⟨0, []⟩ s.length (s.length + 1) s.length 0 (stv (stv (setArgs .e 0 [strOf s]) 2 (.bool false)) 3 (int64 0)) (by simp [sv_stv, sv_args]) (by simp [sv_stv]) (by omega) (by omega) rfl
  show _ = some (AV.bool (labelB s))
  unfold labelB
  cases hlo : low s
  · have q2 := q2 hlo
    rw [hlo] at e
    simp [rlabel_fu, e, q2]
  · have q1 := q1 hlo
    rw [hlo] at e
    by_cases c1 : 1 ≤ s.length
    · have c1' : (1 : Int) ≤ (s.length : Int) := by omega
      by_cases c2 : s.length ≤ 12
      · have c2' : (s.length : Int) ≤ 12 := by omega
        simp [rlabel_fu, e, q1, c1, c2, c1', c2']
      · have c2' : ¬ (s.length : Int) ≤ 12 := by omega
        simp [rlabel_fu, e, q1, c1, c2, c1', c2']
    · have c1' : ¬ (1 : Int) ≤ (s.length : Int) := by omega
      simp [rlabel_fu, e, q1, c1, c1']
theorem rbranch_ok : EntOK Tryz.prog (HasG m t1 t2) e_rbranch := mkEnt_ok ok_rbranch fun p h g hs _ => by
  obtain ⟨r, s⟩ := p
  have hs : s.length ≤ 9000 := hs
  refine plain_of (U := []) (K := [e_rlabel]) (fun _ o => g.more o) (by simp) (by simp [rlabel_ok.entK]) 0 rbranch_code (by simp [rbranch_fu]) rfl ?_
  show _ = some (AV.bool (branchB r s))
  unfold branchB
  by_cases c0 : 0 ≤ r <;> by_cases c1 : r < 8 <;> simp [rbranch_fu, c0, c1, x_rlabel, f_rlabel, hs]
theorem rname_ok : EntOK Tryz.prog (HasG m t1 t2) e_rname := mkEnt_ok ok_rname fun p h g hs _ => by
  obtain ⟨r, s, n⟩ := p
  have hs : s.length ≤ 9000 := hs
  refine plain_of (U := []) (K := [e_rbranch]) (fun _ o => g.more o) (by simp) (by simp [rbranch_ok.entK]) 0 rname_code (by simp [rname_fu]) rfl ?_
  show _ = some (AV.bool (nameB r s n))
  unfold nameB
  cases c0 : branchB r s <;> by_cases c1 : 1 ≤ n <;> simp [rname_fu, c0, c1, x_rbranch, f_rbranch, hs]
theorem rstamp_ok : EntOK Tryz.prog (HasG m t1 t2) e_rstamp := mkEnt_ok ok_rstamp fun p h g hs _ => by
  obtain ⟨g', r, s, n, i⟩ := p
  have hs : s.length ≤ 9000 := hs
  refine plain_of (U := []) (K := [e_rname]) (fun _ o => g.more o) (by simp) (by simp [rname_ok.entK]) 0 rstamp_code (by simp [rstamp_fu]) rfl ?_
  show _ = some (AV.bool (stampB g' r s n i))
  unfold stampB
  by_cases c1 : 1 ≤ g' <;> by_cases c2 : g' ≤ 4611686018427387904 <;> cases c0 : nameB r s n <;> by_cases c3 : 0 ≤ i <;> simp [rstamp_fu, c0, c1, c2, c3, x_rname, f_rname, hs]
end
end Go.Proofs.YtjhgembcdndmkaaGreatDoor.St

namespace Go.Proofs.YtjhgembcdndmkaaGreatDoor.St
open Go Go.Proofs.YtjhgembcdndmkaaGreatDoor.Am Go.Proofs Go.RowKit
attribute [local simp] xr_mov xd_mov xr_pick xd_pick xr_bin xd_bin xr_un xd_un xr_build xr_convInt xd_convInt xr_mkFn xr_fld xd_fld xr_extract xr_lenS xr_lenL xd_lenL xr_nilPtr xd_nilPtr xr_load1 xd_load1 xr_loadN xd_loadN xr_bytesStr xd_bytesStr xr_eqPtr xr_new xr_box xr_buildSl xd_buildSl xd_strBytes xr_mkSl xr_idxAddrSl xd_idxAddrSl xr_idxStr xd_sliceSl orU_some orU_none lenSA_str lenSA_strOf lenLA_sl lenLA_nil xfn xcode xdrawn xr_nil xr_kg xr_kgu xr_call xr_store xr_append xd_append xap_sl xap_nl xapq_some xsrc_sl xsrc_nil xapp_nil xapp_grow xapp_room xset xown xnx_some xnp_some xnq_some xd_nil xdl_old xdl_new xda_some xd_call xd_kg xdn_some xld xal kindOf isAlloc allocs xins xrem xall xput xget xwhole xmine xcont xq xqs xres XS.add XR.out XR.outU XR.ups xsets XR.res Rs.seq Rs.inSc Rs.block mapO tupleA sv_args adv_eq tget eqs8 eqs7 eqi8 eqi7 eqg8 eql8 eqn8 eqn7 cells_strOf cells_int cells_agg cells_bool cells_str cells_sl cells_nil cells_ptr at_int at_str at_strOf at_bool at_sl at_nil at_ptr unstr_strOf unbyt_byt fill_nil fill_cons replA ev_tm ev_vl sv_stv bin_add bin_sub bin_mul bin_lss bin_leq bin_gtr bin_geq bin_eql bin_neq un_not nth0 nth1 nth2 xst_idxAddrSl xst_idxStr xst_sliceStr xst_sliceSl xsl_sl xbd slN Nat.testBit
theorem xown_xset : ∀ {X : List XB} {id : Pos} {g g' : Nat} {l l' : List AV}, xown X id g = some l → xown (xset X id g' l') id g' = some l'
  | [], _, _, _, _, _, e => by cases e
  | x :: X, id, g, g', l, l', e => by
    unfold xset
    unfold xown at e
    by_cases c : x.id = id
    · rw [if_pos c]; unfold xown; simp
    · rw [if_neg c] at e ⊢
      unfold xown
      rw [if_neg c]
      exact xown_xset e
end Go.Proofs.YtjhgembcdndmkaaGreatDoor.St

namespace Go.Proofs.YtjhgembcdndmkaaGreatDoor.St
open Go Go.Proofs.YtjhgembcdndmkaaGreatDoor.Am Go.Proofs Go.RowKit
attribute [local simp] xr_mov xd_mov xr_pick xd_pick xr_bin xd_bin xr_un xd_un xr_build xr_convInt xd_convInt xr_mkFn xr_fld xd_fld xr_extract xr_lenS xr_lenL xd_lenL xr_nilPtr xd_nilPtr xr_load1 xd_load1 xr_loadN xd_loadN xr_bytesStr xd_bytesStr xr_eqPtr xr_new xr_box xr_buildSl xd_buildSl xd_strBytes xr_mkSl xr_idxAddrSl xd_idxAddrSl xr_idxStr xd_sliceSl orU_some orU_none lenSA_str lenSA_strOf lenLA_sl lenLA_nil xfn xcode xdrawn xr_nil xr_kg xr_kgu xr_call xr_store xr_append xd_append xap_sl xap_nl xapq_some xsrc_sl xsrc_nil xapp_nil xapp_grow xapp_room xset xown xnx_some xnp_some xnq_some xd_nil xdl_old xdl_new xda_some xd_call xd_kg xdn_some xld xal kindOf isAlloc allocs xins xrem xall xput xget xwhole xmine xcont xq xqs xres XS.add XR.out XR.outU XR.ups xsets XR.res Rs.seq Rs.inSc Rs.block mapO tupleA sv_args adv_eq tget eqs8 eqs7 eqi8 eqi7 eqg8 eql8 eqn8 eqn7 cells_strOf cells_int cells_agg cells_bool cells_str cells_sl cells_nil cells_ptr at_int at_str at_strOf at_bool at_sl at_nil at_ptr unstr_strOf unbyt_byt fill_nil fill_cons replA ev_tm ev_vl sv_stv bin_add bin_sub bin_mul bin_lss bin_leq bin_gtr bin_geq bin_eql bin_neq un_not nth0 nth1 nth2 xst_idxAddrSl xst_idxStr xst_sliceStr xst_sliceSl xsl_sl xbd slN Nat.testBit
def BrI (b : Pos) (st : XS) (v : AV) (acc : List UInt8) : Prop :=
  (v = .nilSl ∧ acc = []) ∨ ∃ j g, v = .sl (adv b j) g 0 acc.length acc.length false 1 ∧ j < st.n ∧ xown st.X (adv b j) g = some (byt acc) ∧ acc ≠ []
theorem byt_one (c : UInt8) : byt [c] = [.int .u8 (c.toNat : Int)] := rfl
theorem byt_app (a b : List UInt8) : byt (a ++ b) = byt a ++ byt b := List.map_append ..
theorem num_app {b : Pos} {st : XS} {v : AV} {acc : List UInt8} (si : BrI b st v acc) (d : UInt8) (hl : acc.length ≤ 1000) :
    ∃ v' st', xap b ⟨st.n + 1, ⟨adv b st.n, 0, true, [.int .u8 (d.toNat : Int)]⟩ :: st.X⟩ 1 0 v (.sl (adv b st.n) 0 0 1 1 true 1) = some (v', st') ∧ BrI b st' v' (acc ++ [d]) := by
  rcases si with ⟨rfl, rfl⟩ | ⟨j, g, rfl, hj, hx, hne⟩
  · refine ⟨.sl (adv b (st.n + 1)) 0 0 1 1 false 1, ⟨st.n + 2, ⟨adv b (st.n + 1), 0, true, [.int .u8 (d.toNat : Int)]⟩ :: ⟨adv b st.n, 0, true, [.int .u8 (d.toNat : Int)]⟩ :: st.X⟩, ?_, .inr ⟨st.n + 1, 0, rfl, by simp, by simp [xown, byt_one], by simp⟩⟩
    simp []
  · have hn : ¬ st.n = j := by omega
    have hlen : (byt acc).length = acc.length := byt_length _
    refine ⟨.sl (adv b j) (g + 1) 0 (acc.length + 1) (acc.length + 1) false 1, ⟨st.n + 1, ⟨adv b st.n, 0, true, [.int .u8 (d.toNat : Int)]⟩ :: xset st.X (adv b j) (g + 1) (byt acc ++ [.int .u8 (d.toNat : Int)])⟩, ?_, .inr ⟨j, g + 1, by simp, by simp; omega, ?_, by simp⟩⟩
    · simp [xown, hn, hx, hlen, show acc.length ≤ 1073741823 by omega]
    · unfold xown
      rw [if_neg (by rw [adv_eq]; exact hn), xown_xset hx, byt_app, byt_one]
def numB (n : Nat) : List UInt8 := if n > 127 then UInt8.ofNat (n % 128 + 128) :: numB (n / 128) else [UInt8.ofNat n]
decreasing_by omega
theorem numB_more {m : Nat} (h : 127 < m) : numB m = UInt8.ofNat (m % 128 + 128) :: numB (m / 128) := by rw [numB, if_pos h]
theorem numB_last {m : Nat} (h : ¬ 127 < m) : numB m = [UInt8.ofNat m] := by rw [numB, if_neg h]
theorem numB_len : ∀ (k m : Nat), m < 2 ^ (7 * k) → 0 < k → (numB m).length ≤ k
  | 0, _, _, h => by omega
  | k + 1, m, hm, _ => by
    by_cases c : 127 < m
    · rw [numB_more c, List.length_cons]
      have e : 2 ^ (7 * (k + 1)) = 128 * 2 ^ (7 * k) := by rw [show 7 * (k + 1) = 7 + 7 * k by omega, Nat.pow_add]
      have h1 : m / 128 < 2 ^ (7 * k) := by omega
      have h2 : 0 < k := by
        rcases Nat.eq_zero_or_pos k with q | q
        · subst q
          have : (2 : Nat) ^ (7 * 0) = 1 := rfl
          omega
        · exact q
      have := numB_len k (m / 128) h1 h2
      omega
    · rw [numB_last c]; simp
theorem numB_len10 {m : Nat} (h : m < 18446744073709551616) : (numB m).length ≤ 10 := numB_len 10 m (Nat.lt_of_lt_of_le h (by decide)) (by omega)
theorem numB_ne (m : Nat) : numB m ≠ [] := by
  by_cases c : 127 < m
  · rw [numB_more c]; simp
  · rw [numB_last c]; simp
theorem bin_remU (kd : EK) (no : Bool) (x : Nat) : binA .rem kd no (.int .u64 (x : Int)) (.int .u64 128) = some (.int .u64 ((x % 128 : Nat) : Int)) :=
  intK_eq (((x % 128 : Nat) : Int)) fun r => some (AV.int .u64 r)
theorem bin_quoU (kd : EK) (no : Bool) (x : Nat) (hx : x < 18446744073709551616) : binA .quo kd no (.int .u64 (x : Int)) (.int .u64 128) = some (.int .u64 ((x / 128 : Nat) : Int)) := by
  have e : wrapA .u64 (((x : Nat) : Int).tdiv 128) = ((x / 128 : Nat) : Int) := by
    rw [show ((x : Nat) : Int).tdiv 128 = ((x / 128 : Nat) : Int) from rfl]
    exact wu64 (by omega) (by omega)
  show intK (wrapA .u64 (((x : Nat) : Int).tdiv 128)) (fun r => some (AV.int .u64 r)) = _
  rw [intK_eq, e]
theorem onumber_loop (b : Pos) (k : Nat) : ∀ (fuel m : Nat) (env : T AV) (st : XS) (acc : List UInt8), sv env 0 = .int .u64 (m : Int) → BrI b st (sv env 3) acc → acc.length + fuel ≤ 100 → m < 2 ^ (7 * fuel) → m < 18446744073709551616 → 0 < fuel →
    ∃ env' st' acc' n, xloop (xcode Tryz.prog [] [] b (k + 1) onumber_0) fuel env st = some (.exit 0, env', st') ∧ sv env' 0 = .int .u64 ((n : Nat) : Int) ∧ n ≤ 127 ∧ BrI b st' (sv env' 3) acc' ∧ acc' ++ numB n = acc ++ numB m ∧ acc'.length ≤ 100
  | 0, _, _, _, _, _, _, _, _, _, h => by omega
  | fuel + 1, m, env, st, acc, h0, si, hl, hf, hm, _ => by
    unfold xloop
    have key := onumber_loop b k fuel
    generalize xloop (xcode Tryz.prog [] [] b (k + 1) onumber_0) fuel = R at key ⊢
    by_cases c : 127 < m
    · have c' := eq_true (show (127 : Int) < (m : Int) by omega)
      have hc : (UInt8.ofNat (m % 128 + 128)).toNat = m % 128 + 128 := by rw [UInt8.toNat_ofNat']; omega
      obtain ⟨v', st', e, si'⟩ := num_app si (UInt8.ofNat (m % 128 + 128)) (by omega)
      rw [hc] at e
      have e128 : 2 ^ (7 * (fuel + 1)) = 128 * 2 ^ (7 * fuel) := by rw [show 7 * (fuel + 1) = 7 + 7 * fuel by omega, Nat.pow_add]
      have hfu : 0 < fuel := by
        rcases Nat.eq_zero_or_pos fuel with q | q
        · subst q
          have : (2 : Nat) ^ (7 * (0 + 1)) = 128 := rfl
          omega
        · exact q
      have key := fun env st q0 q3 => key (m / 128) env st (acc ++ [UInt8.ofNat (m % 128 + 128)]) q0 q3 (by simp; omega) (by omega) (by omega) hfu
      have w1 : wrapA .u64 (((m % 128 : Nat) : Int) + 128) = ((m % 128 + 128 : Nat) : Int) := by rw [wu64 (by omega) (by omega)]; rfl
      have w2 : wrapA .u8 ((m % 128 + 128 : Nat) : Int) = ((m % 128 + 128 : Nat) : Int) := by
        show ((Nat.mod (m % 128 + 128) 256 : Nat) : Int) = _
        rw [show Nat.mod (m % 128 + 128) 256 = m % 128 + 128 from Nat.mod_eq_of_lt (by omega)]
      have q1 := bin_remU .other true m
      have q2 := bin_quoU .other true m hm
      rw [numB_more c]
      rw [show acc ++ UInt8.ofNat (m % 128 + 128) :: numB (m / 128) = (acc ++ [UInt8.ofNat (m % 128 + 128)]) ++ numB (m / 128) by simp]
      have hr : m % 128 < 128 := Nat.mod_lt _ (by decide)
      generalize m % 128 = r at *
      generalize m / 128 = t at *
      have w1 : wrapA .u64 ((r : Int) + 128) = (r : Int) + 128 := w1
      have w2 : wrapA .u8 ((r : Int) + 128) = (r : Int) + 128 := w2
      have e : xap b ⟨st.n + 1, ⟨adv b st.n, 0, true, [.int .u8 ((r : Int) + 128)]⟩ :: st.X⟩ 1 0 (sv env 3) (.sl (adv b st.n) 0 0 1 1 true 1) = some (v', st') := e
      have K : ∀ env2, sv env2 0 = .int .u64 (t : Int) → BrI b st' (sv env2 3) (acc ++ [UInt8.ofNat (r + 128)]) → ∃ env' st2, R env2 st' = some (.exit 0, env', st2) ∧ ∃ x n, sv env' 0 = .int .u64 ((n : Nat) : Int) ∧ n ≤ 127 ∧ BrI b st2 (sv env' 3) x ∧ x ++ numB n = acc ++ (UInt8.ofNat r + 128) :: numB t ∧ x.length ≤ 100 := fun env2 q0 q3 => by
        obtain ⟨env', st2, x, n, r1, r2, r3, r4, r5, r6⟩ := key env2 st' q0 q3
        exact ⟨_, _, r1, x, n, r2, r3, r4, by rw [r5]; simp, r6⟩
      simp [onumber_0, -xap_sl, h0, c', q1, q2, w1, w2, e]
      exact K _ (by simp [sv_stv]) (by simpa [sv_stv] using si')
    · have c' := eq_false (show ¬ (127 : Int) < (m : Int) by omega)
      simp [onumber_0, -xap_sl, h0, c']
      exact ⟨_, _, ⟨rfl, rfl⟩, acc, m, by simp [sv_stv, h0], by omega, by simpa [sv_stv] using si, rfl, by omega⟩
noncomputable def e_onumber : Ent := mkEnt 103 1 [] (fun z_ : Nat => [.int .u64 (z_ : Int)]) (fun _ => []) (fun z_ => z_ < 18446744073709551616) (fun z_ => .row (byt (numB z_)) (fun p => slN p (numB z_).length 1))
theorem f_onumber : e_onumber.f = 103 := rfl
theorem x_onumber {U : List Ent} {b : Pos} {st : XS} (hU : tget U 103 = some e_onumber) (n : Nat) (hp : n < 18446744073709551616) : xcall U b 103 [.int .u64 (n : Int)] st = some (XR.out b st (.row (byt (numB n)) (fun p => slN p (numB n).length 1))) :=
  xcall_at hU rfl rfl (mkEnt_spec (by rintro a0 b0 h hc; simp only [List.cons.injEq, AV.agg.injEq, AV.tup.injEq, AV.int.injEq, AV.bool.injEq, AV.ptr.injEq, AV.sl.injEq, strOf_eq, byt_eq, map_strOf_eq, true_and, and_true, Int.natCast_inj] at h hc; simp [h, hc]) n hp) (by first | rfl | (split <;> rfl))
section
variable {m : Int} {t1 t2 : AV}
theorem onumber_ok : EntOK Tryz.prog (HasG m t1 t2) e_onumber := mkEnt_ok ok_onumber fun n h gg hn _ => by
  have hn : n < 18446744073709551616 := hn
  refine row_of (U := []) (K := []) (X := []) (fun _ o => gg.more o) (by simp) (by simp) 12 (.start h) onumber_code (by simp [onumber_fu]) (byt_plain _) ?_
  obtain ⟨env', st', acc, k, e, e0, hk, si, ea, hl⟩ := onumber_loop h.next 11 12 n (stv (stv (setArgs .e 0 [.int .u64 (n : Int)]) 2 .nilSl) 3 .nilSl) ⟨0, []⟩ [] (by simp [sv_stv, sv_args]) (.inl ⟨by simp [sv_stv], rfl⟩) (by simp) (Nat.lt_of_lt_of_le hn (by decide)) hn (by omega)
  have hc : (UInt8.ofNat k).toNat = k := by rw [UInt8.toNat_ofNat']; omega
  obtain ⟨v', st2, e2, si2⟩ := num_app si (UInt8.ofNat k) (by omega)
  rw [numB_last (by omega), List.nil_append] at ea
  rw [hc] at e2
  rw [ea] at si2
  have w : wrapA .u8 (k : Int) = (k : Int) := by
    show ((Nat.mod k 256 : Nat) : Int) = _
    rw [show Nat.mod k 256 = k from Nat.mod_eq_of_lt (by omega)]
  rcases si2 with ⟨_, q⟩ | ⟨j, g, rfl, hj, hx, hne⟩
  · exact absurd q (by simpa using numB_ne n)
  · have hpos : 0 < (numB n).length := List.length_pos_iff.2 hne
    generalize numB n = u at *
    simp [onumber_fu, -xap_sl, e, e0, w, e2, rowOut_sl, hx]
end
end Go.Proofs.YtjhgembcdndmkaaGreatDoor.St

namespace Go.Proofs.YtjhgembcdndmkaaGreatDoor.St
open Go Go.Proofs.YtjhgembcdndmkaaGreatDoor.Am Go.Proofs Go.RowKit
attribute [local simp] xr_mov xd_mov xr_pick xd_pick xr_bin xd_bin xr_un xd_un xr_build xr_convInt xd_convInt xr_mkFn xr_fld xd_fld xr_extract xr_lenS xr_lenL xd_lenL xr_nilPtr xd_nilPtr xr_load1 xd_load1 xr_loadN xd_loadN xr_bytesStr xd_bytesStr xr_eqPtr xr_new xr_box xr_buildSl xd_buildSl xd_strBytes xr_mkSl xr_idxAddrSl xd_idxAddrSl xr_idxStr xd_sliceSl orU_some orU_none lenSA_str lenSA_strOf lenLA_sl lenLA_nil xfn xcode xdrawn xr_nil xr_kg xr_kgu xr_call xr_store xr_append xd_append xap_sl xap_nl xapq_some xsrc_sl xsrc_nil xapp_nil xapp_grow xapp_room xset xown xnx_some xnp_some xnq_some xd_nil xdl_old xdl_new xda_some xd_call xd_kg xdn_some xld xal kindOf isAlloc allocs xins xrem xall xput xget xwhole xmine xcont xq xqs xres XS.add XR.out XR.outU XR.ups xsets XR.res Rs.seq Rs.inSc Rs.block mapO tupleA sv_args adv_eq tget eqs8 eqs7 eqi8 eqi7 eqg8 eql8 eqn8 eqn7 cells_strOf cells_int cells_agg cells_bool cells_str cells_sl cells_nil cells_ptr at_int at_str at_strOf at_bool at_sl at_nil at_ptr unstr_strOf unbyt_byt fill_nil fill_cons replA ev_tm ev_vl sv_stv bin_add bin_sub bin_mul bin_lss bin_leq bin_gtr bin_geq bin_eql bin_neq un_not nth0 nth1 nth2 xst_idxAddrSl xst_idxStr xst_sliceStr xst_sliceSl xsl_sl xbd slN Nat.testBit
def bytB (s : List UInt8) : List UInt8 := numB s.length ++ s
def putbB (r : Nat) (s : List UInt8) : List UInt8 := numB r ++ bytB s
def putnB (r : Nat) (s : List UInt8) (n : Nat) : List UInt8 := putbB r s ++ numB n
def putB (g r : Nat) (s : List UInt8) (n i : Nat) : List UInt8 := (numB g ++ putnB r s n) ++ numB i
noncomputable def e_obyt : Ent := mkEnt 104 1 [.sl 0] (fun z_ : Pos × (List UInt8) => [.sl z_.1 0 0 z_.2.length z_.2.length false 1]) (fun z_ => [byt z_.2]) (fun z_ => z_.2.length ≤ 9000 ∧ z_.2 ≠ []) (fun z_ => .row (byt (bytB z_.2)) (fun p => slN p (bytB z_.2).length 1))
theorem f_obyt : e_obyt.f = 104 := rfl
theorem x_obyt {U : List Ent} {b : Pos} {st : XS} (hU : tget U 104 = some e_obyt) (q : Pos) (s : List UInt8) (hp : s.length ≤ 9000 ∧ s ≠ []) (hq : xqs st.X [.sl q 0 0 s.length s.length false 1] [.sl 0] = some [byt s]) : xcall U b 104 [.sl q 0 0 s.length s.length false 1] st = some (XR.out b st (.row (byt (bytB s)) (fun p => slN p (bytB s).length 1))) :=
  xcall_at hU rfl hq (mkEnt_spec (by rintro ⟨a0, a1⟩ ⟨b0, b1⟩ h hc; simp only [List.cons.injEq, AV.agg.injEq, AV.tup.injEq, AV.int.injEq, AV.bool.injEq, AV.ptr.injEq, AV.sl.injEq, strOf_eq, byt_eq, map_strOf_eq, true_and, and_true, Int.natCast_inj] at h hc; simp [h, hc]) (q, s) hp) (by first | rfl | (split <;> rfl))
noncomputable def e_rputb : Ent := mkEnt 68 1 [] (fun z_ : Nat × (List UInt8) => [.agg [int64 (z_.1 : Int), strOf z_.2]]) (fun _ => []) (fun z_ => z_.1 < 8 ∧ z_.2.length ≤ 12 ∧ z_.2 ≠ []) (fun z_ => .row (byt (putbB z_.1 z_.2)) (fun p => slN p (putbB z_.1 z_.2).length 1))
theorem f_rputb : e_rputb.f = 68 := rfl
theorem x_rputb {U : List Ent} {b : Pos} {st : XS} (hU : tget U 68 = some e_rputb) (r : Nat) (s : List UInt8) (hp : r < 8 ∧ s.length ≤ 12 ∧ s ≠ []) : xcall U b 68 [.agg [int64 (r : Int), strOf s]] st = some (XR.out b st (.row (byt (putbB r s)) (fun p => slN p (putbB r s).length 1))) :=
  xcall_at hU rfl rfl (mkEnt_spec (by rintro ⟨a0, a1⟩ ⟨b0, b1⟩ h hc; simp only [List.cons.injEq, AV.agg.injEq, AV.tup.injEq, AV.int.injEq, AV.bool.injEq, AV.ptr.injEq, AV.sl.injEq, strOf_eq, byt_eq, map_strOf_eq, true_and, and_true, Int.natCast_inj] at h hc; simp [h, hc]) (r, s) hp) (by first | rfl | (split <;> rfl))
noncomputable def e_rputn : Ent := mkEnt 72 1 [] (fun z_ : Nat × (List UInt8) × Nat => [.agg [int64 (z_.1 : Int), strOf z_.2.1, int64 (z_.2.2 : Int)]]) (fun _ => []) (fun z_ => (z_.1 < 8 ∧ z_.2.1.length ≤ 12 ∧ z_.2.1 ≠ []) ∧ z_.2.2 ≤ 4611686018427387904) (fun z_ => .row (byt (putnB z_.1 z_.2.1 z_.2.2)) (fun p => slN p (putnB z_.1 z_.2.1 z_.2.2).length 1))
theorem f_rputn : e_rputn.f = 72 := rfl
theorem x_rputn {U : List Ent} {b : Pos} {st : XS} (hU : tget U 72 = some e_rputn) (r : Nat) (s : List UInt8) (n : Nat) (hp : (r < 8 ∧ s.length ≤ 12 ∧ s ≠ []) ∧ n ≤ 4611686018427387904) : xcall U b 72 [.agg [int64 (r : Int), strOf s, int64 (n : Int)]] st = some (XR.out b st (.row (byt (putnB r s n)) (fun p => slN p (putnB r s n).length 1))) :=
  xcall_at hU rfl rfl (mkEnt_spec (by rintro ⟨a0, a1, a2⟩ ⟨b0, b1, b2⟩ h hc; simp only [List.cons.injEq, AV.agg.injEq, AV.tup.injEq, AV.int.injEq, AV.bool.injEq, AV.ptr.injEq, AV.sl.injEq, strOf_eq, byt_eq, map_strOf_eq, true_and, and_true, Int.natCast_inj] at h hc; simp [h, hc]) (r, s, n) hp) (by first | rfl | (split <;> rfl))
noncomputable def e_rput : Ent := mkEnt 77 1 [] (fun z_ : Nat × Nat × (List UInt8) × Nat × Nat => [.agg [int64 (z_.1 : Int), int64 (z_.2.1 : Int), strOf z_.2.2.1, int64 (z_.2.2.2.1 : Int), int64 (z_.2.2.2.2 : Int)]]) (fun _ => []) (fun z_ => ((z_.2.1 < 8 ∧ z_.2.2.1.length ≤ 12 ∧ z_.2.2.1 ≠ []) ∧ z_.2.2.2.1 ≤ 4611686018427387904) ∧ z_.1 ≤ 4611686018427387904 ∧ z_.2.2.2.2 < 64) (fun z_ => .row (byt (putB z_.1 z_.2.1 z_.2.2.1 z_.2.2.2.1 z_.2.2.2.2)) (fun p => slN p (putB z_.1 z_.2.1 z_.2.2.1 z_.2.2.2.1 z_.2.2.2.2).length 1))
theorem f_rput : e_rput.f = 77 := rfl
theorem x_rput {U : List Ent} {b : Pos} {st : XS} (hU : tget U 77 = some e_rput) (g : Nat) (r : Nat) (s : List UInt8) (n : Nat) (i : Nat) (hp : ((r < 8 ∧ s.length ≤ 12 ∧ s ≠ []) ∧ n ≤ 4611686018427387904) ∧ g ≤ 4611686018427387904 ∧ i < 64) : xcall U b 77 [.agg [int64 (g : Int), int64 (r : Int), strOf s, int64 (n : Int), int64 (i : Int)]] st = some (XR.out b st (.row (byt (putB g r s n i)) (fun p => slN p (putB g r s n i).length 1))) :=
  xcall_at hU rfl rfl (mkEnt_spec (by rintro ⟨a0, a1, a2, a3, a4⟩ ⟨b0, b1, b2, b3, b4⟩ h hc; simp only [List.cons.injEq, AV.agg.injEq, AV.tup.injEq, AV.int.injEq, AV.bool.injEq, AV.ptr.injEq, AV.sl.injEq, strOf_eq, byt_eq, map_strOf_eq, true_and, and_true, Int.natCast_inj] at h hc; simp [h, hc]) (g, r, s, n, i) hp) (by first | rfl | (split <;> rfl))
section
variable {m : Int} {t1 t2 : AV}
theorem obyt_ok : EntOK Tryz.prog (HasG m t1 t2) e_obyt := mkEnt_ok ok_obyt fun z h gg hz hc => by
  obtain ⟨q, s⟩ := z
  obtain ⟨hs, hn⟩ : s.length ≤ 9000 ∧ s ≠ [] := hz
  obtain ⟨_, _, e, ⟨_, ev, w⟩, _⟩ := hc
  cases e; cases ev
  dsimp only at *
  obtain ⟨L, kq, tq, aq⟩ := slc_at' w
  have oq := kq.old
  have hX : AllH [⟨q, 0, false, L⟩] h := by
    intro x mx
    simp only [List.mem_cons, List.not_mem_nil, or_false] at mx
    subst mx; assumption
  refine row_of (U := []) (K := [e_onumber]) (fun _ o => gg.more o) (by simp) (by simp [onumber_ok.entK]) 0 (.startX h hX (by simp) (by simp)) obyt_code (by simp [obyt_fu]) (byt_plain _) ?_
  have l0 : s.length ≠ 0 := fun c => hn (List.length_eq_zero_iff.1 c)
  have w1 : wrapA .u64 (s.length : Int) = (s.length : Int) := wu64 (by omega) (by omega)
  have N := fun {U b st} (hU : tget U 103 = some e_onumber) => x_onumber (U := U) (b := b) (st := st) hU s.length (by omega)
  have hl := numB_len10 (m := s.length) (by omega)
  have hb := numB_ne s.length
  unfold bytB
  generalize numB s.length = u at *
  have hu : 0 < u.length := List.length_pos_iff.2 hb
  have RM := fun (st : XS) (id : Pos) => xapp_grow (b := h.next) (s := st) (es := 1) (bytes := 0) (n := s.length) (k := u.length) (g := 0) (id := id) (c := byt s) (by omega) (by omega) (byt_atoms _) l0 (by omega)
  simp [obyt_fu, RM, N, f_onumber, w1, tq, aq, l0, byt_length, byt_app, rowOut_sl, hu, adv_nf oq, adv_fn oq, byt_atoms]
theorem rputb_ok : EntOK Tryz.prog (HasG m t1 t2) e_rputb := mkEnt_ok ok_rputb fun z h gg hz _ => by
  obtain ⟨r, s⟩ := z
  obtain ⟨hr, hs, hn⟩ : r < 8 ∧ s.length ≤ 12 ∧ s ≠ [] := hz
  refine row_of (U := [e_onumber, e_obyt]) (K := []) (X := []) (fun _ o => gg.more o) (by simp [onumber_ok, obyt_ok]) (by simp) 0 (.start h) rputb_code (by simp [rputb_fu]) (byt_plain _) ?_
  have w1 : wrapA .u64 (r : Int) = (r : Int) := wu64 (by omega) (by omega)
  have N := fun {U b st} (hU : tget U 103 = some e_onumber) => x_onumber (U := U) (b := b) (st := st) hU r (by omega)
  have B := fun {U b st} q (hU : tget U 104 = some e_obyt) hq => x_obyt (U := U) (b := b) (st := st) hU q s ⟨by omega, hn⟩ hq
  have hl := numB_len10 (m := r) (by omega)
  have hb := numB_ne r
  have hl2 := numB_len10 (m := s.length) (by omega)
  have hs0 : 0 < s.length := List.length_pos_iff.2 hn
  have hl3 : (bytB s).length = (numB s.length).length + s.length := List.length_append
  unfold putbB
  generalize bytB s = c at *
  generalize numB r = u at *
  have hu : 0 < u.length := List.length_pos_iff.2 hb
  have c0 : c.length ≠ 0 := by omega
  have RM := fun (st : XS) (id : Pos) => xapp_grow (b := h.next) (s := st) (es := 1) (bytes := 0) (n := c.length) (k := u.length) (g := 0) (id := id) (c := byt c) (by omega) (by omega) (byt_atoms _) c0 (by omega)
  have k1 := eq_true (show s.length ≤ 1000000 by omega)
  simp [rputb_fu, k1, byt_take, RM, N, B, f_onumber, f_obyt, w1, c0, hn, byt_length, byt_app, rowOut_sl, hu, byt_atoms]
theorem rputn_ok : EntOK Tryz.prog (HasG m t1 t2) e_rputn := mkEnt_ok ok_rputn fun z h gg hz _ => by
  obtain ⟨r, s, n⟩ := z
  obtain ⟨h1, hn⟩ : (r < 8 ∧ s.length ≤ 12 ∧ s ≠ []) ∧ n ≤ 4611686018427387904 := hz
  refine row_of (U := [e_onumber, e_rputb]) (K := []) (X := []) (fun _ o => gg.more o) (by simp [onumber_ok, rputb_ok]) (by simp) 0 (.start h) rputn_code (by simp [rputn_fu]) (byt_plain _) ?_
  have w1 : wrapA .u64 (n : Int) = (n : Int) := wu64 (by omega) (by omega)
  have N := fun {U b st} (hU : tget U 103 = some e_onumber) => x_onumber (U := U) (b := b) (st := st) hU n (by omega)
  have B := fun {U b st} (hU : tget U 68 = some e_rputb) => x_rputb (U := U) (b := b) (st := st) hU r s h1
  have hl := numB_len10 (m := n) (by omega)
  have hb := numB_ne n
  have hl2 := numB_len10 (m := s.length) (by omega)
  have hl4 := numB_len10 (m := r) (by omega)
  have hl3 : (putbB r s).length = (numB r).length + ((numB s.length).length + s.length) := by unfold putbB bytB; simp
  have hb2 : putbB r s ≠ [] := by unfold putbB; simp [numB_ne]
  unfold putnB
  generalize putbB r s = u at *
  generalize numB n = c at *
  have hu : 0 < u.length := List.length_pos_iff.2 hb2
  have c0 : c.length ≠ 0 := fun e => hb (List.length_eq_zero_iff.1 e)
  have RM := fun (st : XS) (id : Pos) => xapp_grow (b := h.next) (s := st) (es := 1) (bytes := 0) (n := c.length) (k := u.length) (g := 0) (id := id) (c := byt c) (by omega) (by omega) (byt_atoms _) c0 (by omega)
  simp [rputn_fu, byt_take, RM, N, B, f_onumber, f_rputb, w1, c0, byt_length, byt_app, rowOut_sl, hu, byt_atoms]
theorem rput_ok : EntOK Tryz.prog (HasG m t1 t2) e_rput := mkEnt_ok ok_rput fun z h gg hz _ => by
  obtain ⟨g, r, s, n, i⟩ := z
  obtain ⟨h1, hg, hi⟩ : ((r < 8 ∧ s.length ≤ 12 ∧ s ≠ []) ∧ n ≤ 4611686018427387904) ∧ g ≤ 4611686018427387904 ∧ i < 64 := hz
  refine row_of (U := [e_onumber, e_rputn]) (K := [e_onumber]) (X := []) (fun _ o => gg.more o) (by simp [onumber_ok, rputn_ok]) (by simp [onumber_ok.entK]) 0 (.start h) rput_code (by simp [rput_fu]) (byt_plain _) ?_
  have w1 : wrapA .u64 (g : Int) = (g : Int) := wu64 (by omega) (by omega)
  have w2 : wrapA .u64 (i : Int) = (i : Int) := wu64 (by omega) (by omega)
  have N := fun {U b st} (hU : tget U 103 = some e_onumber) => x_onumber (U := U) (b := b) (st := st) hU g (by omega)
  have N2 := fun {U b st} (hU : tget U 103 = some e_onumber) => x_onumber (U := U) (b := b) (st := st) hU i (by omega)
  have B := fun {U b st} (hU : tget U 72 = some e_rputn) => x_rputn (U := U) (b := b) (st := st) hU r s n h1
  have hl := numB_len10 (m := n) (by omega)
  have hl2 := numB_len10 (m := s.length) (by omega)
  have hl4 := numB_len10 (m := r) (by omega)
  have hl5 := numB_len10 (m := g) (by omega)
  have hl6 := numB_len10 (m := i) (by omega)
  have hl3 : (putnB r s n).length = (numB r).length + ((numB s.length).length + s.length) + (numB n).length := by unfold putnB putbB bytB; simp [Nat.add_assoc]
  have hb2 : putnB r s n ≠ [] := by unfold putnB; simp [numB_ne]
  have hb3 := numB_ne g
  have hb4 := numB_ne i
  unfold putB
  generalize putnB r s n = c at *
  generalize numB g = u at *
  generalize numB i = d at *
  have hu : 0 < u.length := List.length_pos_iff.2 hb3
  have c0 : c.length ≠ 0 := fun e => hb2 (List.length_eq_zero_iff.1 e)
  have d0 : d.length ≠ 0 := fun e => hb4 (List.length_eq_zero_iff.1 e)
  have RM := fun (st : XS) (id : Pos) => xapp_grow (b := h.next) (s := st) (es := 1) (bytes := 0) (n := c.length) (k := u.length) (g := 0) (id := id) (c := byt c) (by omega) (by omega) (byt_atoms _) c0 (by omega)
  have RM2 := fun (st : XS) (id : Pos) => xapp_grow (b := h.next) (s := st) (es := 1) (bytes := 0) (n := d.length) (k := u.length + c.length) (g := 1) (id := id) (c := byt d) (by omega) (by omega) (byt_atoms _) d0 (by omega)
  simp [rput_fu, byt_take, RM, RM2, N, N2, B, f_onumber, f_rputn, w1, w2, c0, d0, byt_length, byt_app, rowOut_sl, hu, byt_atoms]
  omega
end
end Go.Proofs.YtjhgembcdndmkaaGreatDoor.St

namespace Go.Proofs.YtjhgembcdndmkaaGreatDoor.St
open Go Go.Proofs.YtjhgembcdndmkaaGreatDoor.Am Go.Proofs Go.RowKit
attribute [local simp] xr_mov xd_mov xr_pick xd_pick xr_bin xd_bin xr_un xd_un xr_build xr_convInt xd_convInt xr_mkFn xr_fld xd_fld xr_extract xr_lenS xr_lenL xd_lenL xr_nilPtr xd_nilPtr xr_load1 xd_load1 xr_loadN xd_loadN xr_bytesStr xd_bytesStr xr_eqPtr xr_new xr_box xr_buildSl xd_buildSl xd_strBytes xr_mkSl xr_idxAddrSl xd_idxAddrSl xr_idxStr xd_sliceSl orU_some orU_none lenSA_str lenSA_strOf lenLA_sl lenLA_nil xfn xcode xdrawn xr_nil xr_kg xr_kgu xr_call xr_store xr_append xd_append xap_sl xap_nl xapq_some xsrc_sl xsrc_nil xapp_nil xapp_grow xapp_room xset xown xnx_some xnp_some xnq_some xd_nil xdl_old xdl_new xda_some xd_call xd_kg xdn_some xld xal kindOf isAlloc allocs xins xrem xall xput xget xwhole xmine xcont xq xqs xres XS.add XR.out XR.outU XR.ups xsets XR.res Rs.seq Rs.inSc Rs.block mapO tupleA sv_args adv_eq tget eqs8 eqs7 eqi8 eqi7 eqg8 eql8 eqn8 eqn7 cells_strOf cells_int cells_agg cells_bool cells_str cells_sl cells_nil cells_ptr at_int at_str at_strOf at_bool at_sl at_nil at_ptr unstr_strOf unbyt_byt fill_nil fill_cons replA ev_tm ev_vl sv_stv bin_add bin_sub bin_mul bin_lss bin_leq bin_gtr bin_geq bin_eql bin_neq un_not nth0 nth1 nth2 xst_idxAddrSl xst_idxStr xst_sliceStr xst_sliceSl xsl_sl xbd slN Nat.testBit
noncomputable def rtbOk (l : List UInt8) (a : Nat) : Bool := branchB (sV l a) (cV l (numA l a)) && decide ((l.drop a).take (rbA l a - a) = putbB (sV l a).toNat (cV l (numA l a)))
noncomputable def rtbV (l : List UInt8) (a : Nat) : AV := if rtbOk l a = true then .tup [.agg [int64 (sV l a), strOf (cV l (numA l a))], int64 0] else .tup [.agg [int64 0, .str 0 0], int64 4]
theorem cV_len {l : List UInt8} {a : Nat} (h : l.length ≤ 9000) : (cV l a).length ≤ 9000 := by
  unfold cV
  split
  · unfold bytV; rw [List.length_take, List.length_drop]; omega
  · simp
theorem cV_lt {l : List UInt8} {a : Nat} (h : a ≤ l.length) (hn : cV l a ≠ []) : numA l a < bytA l a 99 := by
  unfold cV at hn
  unfold bytA
  split at hn
  · rename_i c
    rw [if_pos c]
    have : 0 < (bytV l a).length := List.length_pos_iff.2 hn
    unfold bytV at this
    rw [List.length_take] at this
    omega
  · exact absurd rfl hn
theorem labelB_ne {s : List UInt8} (h : labelB s = true) : s ≠ [] := by rintro rfl; cases h
theorem rbA_lt {l : List UInt8} {a : Nat} (h : a ≤ l.length) (hb : branchB (sV l a) (cV l (numA l a)) = true) : a < rbA l a := by
  have := numA_le h
  have h2 : labelB (cV l (numA l a)) = true := by unfold branchB at hb; rw [Bool.and_eq_true, Bool.and_eq_true] at hb; exact hb.2.2
  have := cV_lt (numA_le h).2 (labelB_ne h2)
  have := numA_le (numA_le h).2
  unfold rbA
  omega
noncomputable def e_rtb : Ent := mkEnt 23 1 [.own 0, .bsl 0 0] (fun z_ : Pos × AV × Nat × (List UInt8) => [.ptr z_.1 0 0]) (fun z_ => [[z_.2.1, int64 (z_.2.2.1 : Int)], byt z_.2.2.2]) (fun z_ => OdP z_.1 z_.2.1 z_.2.2.1 z_.2.2.2) (fun z_ => .upd [(z_.1, [z_.2.1, int64 ((if rtbOk z_.2.2.2 z_.2.2.1 = true then rbA z_.2.2.2 z_.2.2.1 else z_.2.2.1 : Nat) : Int)])] (rtbV z_.2.2.2 z_.2.2.1))
theorem f_rtb : e_rtb.f = 23 := rfl
theorem x_rtb {U : List Ent} {b : Pos} {st : XS} (hU : tget U 23 = some e_rtb) (d : Pos) (v : AV) (a : Nat) (l : List UInt8) (hp : OdP d v a l) (hq : xqs st.X [.ptr d 0 0] [.own 0, .bsl 0 0] = some [[v, int64 (a : Int)], byt l]) (ho : ((.upd [(d, [v, int64 ((if rtbOk l a = true then rbA l a else a : Nat) : Int)])] (rtbV l a) : XR).ups.all fun x => (xown st.X x.1 0).isSome) = true) : xcall U b 23 [.ptr d 0 0] st = none ∧ xupd U b 23 [.ptr d 0 0] st = some (XR.outU b st (.upd [(d, [v, int64 ((if rtbOk l a = true then rbA l a else a : Nat) : Int)])] (rtbV l a))) :=
  xupd_at hU rfl hq (mkEnt_spec (by rintro ⟨a0, a1, a2, a3⟩ ⟨b0, b1, b2, b3⟩ h hc; simp only [List.cons.injEq, AV.agg.injEq, AV.tup.injEq, AV.int.injEq, AV.bool.injEq, AV.ptr.injEq, AV.sl.injEq, strOf_eq, byt_eq, map_strOf_eq, true_and, and_true, Int.natCast_inj] at h hc; simp [h, hc]) (d, v, a, l) hp) (by first | rfl | (split <;> rfl)) ho
section
variable {m : Int} {t1 t2 : AV}
theorem rtb_ok : EntOK Tryz.prog (HasG m t1 t2) e_rtb := mkEnt_ok ok_rtb fun z h g hz hc => by
  obtain ⟨d, v, a, l⟩ := z
  have hz1 : OdP d v a l := hz
  have hz2 := hz1
  obtain ⟨hv, ha, hl, h6⟩ := hz2
  have nA := rbA_le (l := l) (a := a) ha
  have hU : ∀ e ∈ [e_rbranch, e_rputb], EntOK Tryz.prog (HasG m t1 t2) e := by simp [rbranch_ok, rputb_ok]
  have hK : ∀ e ∈ [e_rbr], EntK Tryz.prog (HasG m t1 t2) e := by simp [rbr_ok.entK]
  have N := fun {U b st} (hU : tget U 67 = some e_rbr) hq ho => x_rbr (U := U) (b := b) (st := st) hU d v a l hz1 hq ho
  have M := fun {U b st} (hU : tget U 51 = some e_rbranch) => x_rbranch (U := U) (b := b) (st := st) hU (sV l a) (cV l (numA l a)) (cV_len hl)
  show AmFn _ _ _ _ (rtbV l a) (updsH h [(d, [v, int64 ((if rtbOk l a = true then rbA l a else a : Nat) : Int)])])
  have tv : rtbV l a = if rtbOk l a = true then .tup [.agg [int64 (sV l a), strOf (cV l (numA l a))], int64 0] else .tup [.agg [int64 0, .str 0 0], int64 4] := rfl
  have td : rtbOk l a = (branchB (sV l a) (cV l (numA l a)) && decide ((l.drop a).take (rbA l a - a) = putbB (sV l a).toNat (cV l (numA l a)))) := rfl
  by_cases c1 : branchB (sV l a) (cV l (numA l a)) = true
  · have hlt := rbA_lt ha c1
    obtain ⟨r0, r8, sl⟩ := branchB_le c1
    have sn : cV l (numA l a) ≠ [] := labelB_ne (by unfold branchB at c1; rw [Bool.and_eq_true, Bool.and_eq_true] at c1; exact c1.2.2)
    obtain ⟨r, hr⟩ : ∃ r : Nat, sV l a = r := ⟨(sV l a).toNat, by omega⟩
    have B := fun {U b st} (hU : tget U 68 = some e_rputb) => x_rputb (U := U) (b := b) (st := st) hU r (cV l (numA l a)) ⟨by omega, sl, sn⟩
    rw [hr] at tv td c1 N M
    rw [c1, Bool.true_and, Int.toNat_natCast] at td
    rcases od_open (d := d) (v := v) (a := (a : Int)) (l := l) hv hc with ⟨rfl, rfl, hX, od⟩ | ⟨q, cap, L, rfl, hq, hcap, hX, tq, aq, hL, od, oq⟩
    · have : ([] : List UInt8).length = 0 := rfl
      omega
    · have hX2 : XI h.next [d] h ⟨0, [⟨d, 0, true, [.sl q 0 0 l.length cap true 1, int64 (a : Int)]⟩, ⟨q, 0, false, L⟩]⟩ h := .startW h hX (by simpa using hq.symm) (by simp)
      have hbv : (L.drop a).take (rbA l a - a) = byt ((l.drop a).take (rbA l a - a)) := by
        have e1 : byt ((l.drop a).take (rbA l a - a)) = ((byt l).drop a).take (rbA l a - a) := by unfold byt; rw [List.map_take, List.map_drop]
        rw [e1, ← tq, List.drop_take, List.take_take, Nat.min_eq_left (show rbA l a - a ≤ l.length - a by omega)]
      have k1 := eq_true (show a ≤ rbA l a by omega)
      have k2 := eq_true (show rbA l a ≤ cap by omega)
      have k3 := eq_false (show ¬ a = cap by omega)
      have k4 := eq_true (show a + (rbA l a - a) ≤ L.length by omega)
      have k5 := eq_true (show rbA l a ≤ L.length by omega)
      generalize cV l (numA l a) = u at *
      generalize (l.drop a).take (rbA l a - a) = y at *
      generalize putbB r u = w at *
      generalize rbA l a = a2 at *
      rw [tv]
      by_cases c2 : y = w
      · have td : rtbOk l a = true := by rw [td]; simpa using c2
        rw [td, if_pos rfl, if_pos rfl]
        refine upd_of [(d, [.sl q 0 0 l.length cap true 1, int64 (a2 : Int)])] (fun _ o => g.upd o (by simpa using h6)) hU hK 0 hX2 od_had rtb_code (by simp [rtb_fu]) rfl ?_
        simp [rtb_fu, N, M, B, f_rbr, f_rbranch, f_rputb, hq, hq.symm, tq, aq, owns, xown, c1, c2, adv_nf oq, adv_fn oq, adv_nf od, adv_fn od, k1, k2, k3, k4, k5, bin_neqS, hbv, byt_take, byt_length]
      · have td : rtbOk l a = false := by rw [td]; simpa using c2
        rw [td, if_neg (by decide), if_neg (by decide)]
        refine upd_of [(d, [.sl q 0 0 l.length cap true 1, int64 (a : Int)])] (fun _ o => g.upd o (by simpa using h6)) hU hK 0 hX2 od_had rtb_code (by simp [rtb_fu]) rfl ?_
        simp [rtb_fu, N, M, B, f_rbr, f_rbranch, f_rputb, hq, hq.symm, tq, aq, owns, xown, c1, c2, adv_nf oq, adv_fn oq, adv_nf od, adv_fn od, k1, k2, k3, k4, k5, bin_neqS, hbv, byt_take, byt_length]
  · have c1 : branchB (sV l a) (cV l (numA l a)) = false := by simpa using c1
    rw [c1, Bool.false_and] at td
    obtain ⟨X, hX, e1, e2⟩ := od_any (d := d) (v := v) (a := (a : Int)) (l := l) hv hc
    have od : d.num < h.next.num := (hX.all _ (List.mem_cons_self ..)).old
    rw [tv, td, if_neg (by decide), if_neg (by decide)]
    refine upd_of [(d, [v, int64 (a : Int)])] (fun _ o => g.upd o (by simpa using h6)) hU hK 0 hX od_had rtb_code (by simp [rtb_fu]) rfl ?_
    generalize cV l (numA l a) = u at *
    simp [-xcont, rtb_fu, N, M, f_rbr, f_rbranch, f_rputb, e1, e2, owns, xown, c1, adv_nf od, adv_fn od]
end
end Go.Proofs.YtjhgembcdndmkaaGreatDoor.St

namespace Go.Proofs.YtjhgembcdndmkaaGreatDoor.St
open Go Go.Proofs.YtjhgembcdndmkaaGreatDoor.Am Go.Proofs Go.RowKit
attribute [local simp] xr_mov xd_mov xr_pick xd_pick xr_bin xd_bin xr_un xd_un xr_build xr_convInt xd_convInt xr_mkFn xr_fld xd_fld xr_extract xr_lenS xr_lenL xd_lenL xr_nilPtr xd_nilPtr xr_load1 xd_load1 xr_loadN xd_loadN xr_bytesStr xd_bytesStr xr_eqPtr xr_new xr_box xr_buildSl xd_buildSl xd_strBytes xr_mkSl xr_idxAddrSl xd_idxAddrSl xr_idxStr xd_sliceSl orU_some orU_none lenSA_str lenSA_strOf lenLA_sl lenLA_nil xfn xcode xdrawn xr_nil xr_kg xr_kgu xr_call xr_store xr_append xd_append xap_sl xap_nl xapq_some xsrc_sl xsrc_nil xapp_nil xapp_grow xapp_room xset xown xnx_some xnp_some xnq_some xd_nil xdl_old xdl_new xda_some xd_call xd_kg xdn_some xld xal kindOf isAlloc allocs xins xrem xall xput xget xwhole xmine xcont xq xqs xres XS.add XR.out XR.outU XR.ups xsets XR.res Rs.seq Rs.inSc Rs.block mapO tupleA sv_args adv_eq tget eqs8 eqs7 eqi8 eqi7 eqg8 eql8 eqn8 eqn7 cells_strOf cells_int cells_agg cells_bool cells_str cells_sl cells_nil cells_ptr at_int at_str at_strOf at_bool at_sl at_nil at_ptr unstr_strOf unbyt_byt fill_nil fill_cons replA ev_tm ev_vl sv_stv bin_add bin_sub bin_mul bin_lss bin_leq bin_gtr bin_geq bin_eql bin_neq un_not nth0 nth1 nth2 xst_idxAddrSl xst_idxStr xst_sliceStr xst_sliceSl xsl_sl xbd slN Nat.testBit
noncomputable def rtnOk (l : List UInt8) (a : Nat) : Bool := nameB (sV l a) (cV l (numA l a)) (sV l (rbA l a)) && decide ((l.drop a).take (rnA l a - a) = putnB (sV l a).toNat (cV l (numA l a)) (sV l (rbA l a)).toNat)
noncomputable def rtnV (l : List UInt8) (a : Nat) : AV := if rtnOk l a = true then .tup [.agg [int64 (sV l a), strOf (cV l (numA l a)), int64 (sV l (rbA l a))], int64 0] else .tup [.agg [int64 0, .str 0 0, int64 0], int64 4]
noncomputable def rsA (l : List UInt8) (a : Nat) : Nat := numA l (rnA l (numA l a))
noncomputable def rtsOk (l : List UInt8) (a : Nat) : Bool := stampB (sV l a) (sV l (numA l a)) (cV l (numA l (numA l a))) (sV l (rbA l (numA l a))) (sV l (rnA l (numA l a))) && decide ((l.drop a).take (rsA l a - a) = putB (sV l a).toNat (sV l (numA l a)).toNat (cV l (numA l (numA l a))) (sV l (rbA l (numA l a))).toNat (sV l (rnA l (numA l a))).toNat)
noncomputable def rtsV (l : List UInt8) (a : Nat) : AV := if rtsOk l a = true then .tup [.agg [int64 (sV l a), int64 (sV l (numA l a)), strOf (cV l (numA l (numA l a))), int64 (sV l (rbA l (numA l a))), int64 (sV l (rnA l (numA l a)))], int64 0] else .tup [.agg [int64 0, int64 0, .str 0 0, int64 0, int64 0], int64 4]
theorem rsA_le {l : List UInt8} {a : Nat} (h : a ≤ l.length) : a ≤ rsA l a ∧ rsA l a ≤ l.length := by
  have := numA_le h
  have := rnA_le this.2
  have := numA_le this.2
  unfold rsA
  omega
theorem nameB_br {r : Int} {s : List UInt8} {n : Int} (h : nameB r s n = true) : branchB r s = true ∧ 1 ≤ n ∧ n ≤ 4611686018427387904 := by
  simp [nameB] at h; exact h
theorem stampB_nm {g r : Int} {s : List UInt8} {n i : Int} (h : stampB g r s n i = true) : 1 ≤ g ∧ g ≤ 4611686018427387904 ∧ nameB r s n = true ∧ 0 ≤ i ∧ i < 64 := by
  simp [stampB] at h; exact h
theorem branchB_all {r : Int} {s : List UInt8} (h : branchB r s = true) : 0 ≤ r ∧ r < 8 ∧ s.length ≤ 12 ∧ s ≠ [] := by
  have h2 := branchB_le h
  exact ⟨h2.1, h2.2.1, h2.2.2, labelB_ne (by unfold branchB at h; rw [Bool.and_eq_true, Bool.and_eq_true] at h; exact h.2.2)⟩
theorem rnA_lt {l : List UInt8} {a : Nat} (h : a ≤ l.length) (hb : branchB (sV l a) (cV l (numA l a)) = true) : a < rnA l a := by
  have h1 := rbA_lt h hb
  have := numA_le (rbA_le h).2
  unfold rnA
  omega
theorem rsA_lt {l : List UInt8} {a : Nat} (h : a ≤ l.length) (hb : branchB (sV l (numA l a)) (cV l (numA l (numA l a))) = true) : a < rsA l a := by
  have h1 := rnA_lt (numA_le h).2 hb
  have := numA_le (rnA_le (numA_le h).2).2
  have := numA_le h
  unfold rsA
  omega
noncomputable def e_rtn : Ent := mkEnt 25 1 [.own 0, .bsl 0 0] (fun z_ : Pos × AV × Nat × (List UInt8) => [.ptr z_.1 0 0]) (fun z_ => [[z_.2.1, int64 (z_.2.2.1 : Int)], byt z_.2.2.2]) (fun z_ => OdP z_.1 z_.2.1 z_.2.2.1 z_.2.2.2) (fun z_ => .upd [(z_.1, [z_.2.1, int64 ((if rtnOk z_.2.2.2 z_.2.2.1 = true then rnA z_.2.2.2 z_.2.2.1 else z_.2.2.1 : Nat) : Int)])] (rtnV z_.2.2.2 z_.2.2.1))
theorem f_rtn : e_rtn.f = 25 := rfl
theorem x_rtn {U : List Ent} {b : Pos} {st : XS} (hU : tget U 25 = some e_rtn) (d : Pos) (v : AV) (a : Nat) (l : List UInt8) (hp : OdP d v a l) (hq : xqs st.X [.ptr d 0 0] [.own 0, .bsl 0 0] = some [[v, int64 (a : Int)], byt l]) (ho : ((.upd [(d, [v, int64 ((if rtnOk l a = true then rnA l a else a : Nat) : Int)])] (rtnV l a) : XR).ups.all fun x => (xown st.X x.1 0).isSome) = true) : xcall U b 25 [.ptr d 0 0] st = none ∧ xupd U b 25 [.ptr d 0 0] st = some (XR.outU b st (.upd [(d, [v, int64 ((if rtnOk l a = true then rnA l a else a : Nat) : Int)])] (rtnV l a))) :=
  xupd_at hU rfl hq (mkEnt_spec (by rintro ⟨a0, a1, a2, a3⟩ ⟨b0, b1, b2, b3⟩ h hc; simp only [List.cons.injEq, AV.agg.injEq, AV.tup.injEq, AV.int.injEq, AV.bool.injEq, AV.ptr.injEq, AV.sl.injEq, strOf_eq, byt_eq, map_strOf_eq, true_and, and_true, Int.natCast_inj] at h hc; simp [h, hc]) (d, v, a, l) hp) (by first | rfl | (split <;> rfl)) ho
noncomputable def e_rtt : Ent := mkEnt 27 1 [.own 0, .bsl 0 0] (fun z_ : Pos × AV × Nat × (List UInt8) => [.ptr z_.1 0 0]) (fun z_ => [[z_.2.1, int64 (z_.2.2.1 : Int)], byt z_.2.2.2]) (fun z_ => OdP z_.1 z_.2.1 z_.2.2.1 z_.2.2.2) (fun z_ => .upd [(z_.1, [z_.2.1, int64 ((if rtsOk z_.2.2.2 z_.2.2.1 = true then rsA z_.2.2.2 z_.2.2.1 else z_.2.2.1 : Nat) : Int)])] (rtsV z_.2.2.2 z_.2.2.1))
theorem f_rtt : e_rtt.f = 27 := rfl
theorem x_rtt {U : List Ent} {b : Pos} {st : XS} (hU : tget U 27 = some e_rtt) (d : Pos) (v : AV) (a : Nat) (l : List UInt8) (hp : OdP d v a l) (hq : xqs st.X [.ptr d 0 0] [.own 0, .bsl 0 0] = some [[v, int64 (a : Int)], byt l]) (ho : ((.upd [(d, [v, int64 ((if rtsOk l a = true then rsA l a else a : Nat) : Int)])] (rtsV l a) : XR).ups.all fun x => (xown st.X x.1 0).isSome) = true) : xcall U b 27 [.ptr d 0 0] st = none ∧ xupd U b 27 [.ptr d 0 0] st = some (XR.outU b st (.upd [(d, [v, int64 ((if rtsOk l a = true then rsA l a else a : Nat) : Int)])] (rtsV l a))) :=
  xupd_at hU rfl hq (mkEnt_spec (by rintro ⟨a0, a1, a2, a3⟩ ⟨b0, b1, b2, b3⟩ h hc; simp only [List.cons.injEq, AV.agg.injEq, AV.tup.injEq, AV.int.injEq, AV.bool.injEq, AV.ptr.injEq, AV.sl.injEq, strOf_eq, byt_eq, map_strOf_eq, true_and, and_true, Int.natCast_inj] at h hc; simp [h, hc]) (d, v, a, l) hp) (by first | rfl | (split <;> rfl)) ho
section
variable {m : Int} {t1 t2 : AV}
theorem rtn_ok : EntOK Tryz.prog (HasG m t1 t2) e_rtn := mkEnt_ok ok_rtn fun z h g hz hc => by
  obtain ⟨d, v, a, l⟩ := z
  have hz1 : OdP d v a l := hz
  have hz2 := hz1
  obtain ⟨hv, ha, hl, h6⟩ := hz2
  have nA := rnA_le (l := l) (a := a) ha
  have hU : ∀ e ∈ [e_rname, e_rputn], EntOK Tryz.prog (HasG m t1 t2) e := by simp [rname_ok, rputn_ok]
  have hK : ∀ e ∈ [e_rnm], EntK Tryz.prog (HasG m t1 t2) e := by simp [rnm_ok.entK]
  have N := fun {U b st} (hU : tget U 71 = some e_rnm) hq ho => x_rnm (U := U) (b := b) (st := st) hU d v a l hz1 hq ho
  have M := fun {U b st} (hU : tget U 56 = some e_rname) => x_rname (U := U) (b := b) (st := st) hU (sV l a) (cV l (numA l a)) (sV l (rbA l a)) (cV_len hl)
  show AmFn _ _ _ _ (rtnV l a) (updsH h [(d, [v, int64 ((if rtnOk l a = true then rnA l a else a : Nat) : Int)])])
  have tv : rtnV l a = if rtnOk l a = true then .tup [.agg [int64 (sV l a), strOf (cV l (numA l a)), int64 (sV l (rbA l a))], int64 0] else .tup [.agg [int64 0, .str 0 0, int64 0], int64 4] := rfl
  have td : rtnOk l a = (nameB (sV l a) (cV l (numA l a)) (sV l (rbA l a)) && decide ((l.drop a).take (rnA l a - a) = putnB (sV l a).toNat (cV l (numA l a)) (sV l (rbA l a)).toNat)) := rfl
  by_cases c1 : nameB (sV l a) (cV l (numA l a)) (sV l (rbA l a)) = true
  · obtain ⟨cb, n1, n2⟩ := nameB_br c1
    have hlt := rnA_lt ha cb
    obtain ⟨r0, r8, sl, sn⟩ := branchB_all cb
    obtain ⟨r, hr⟩ : ∃ r : Nat, sV l a = r := ⟨(sV l a).toNat, by omega⟩
    obtain ⟨n, hn⟩ : ∃ n : Nat, sV l (rbA l a) = n := ⟨(sV l (rbA l a)).toNat, by omega⟩
    have B := fun {U b st} (hU : tget U 72 = some e_rputn) => x_rputn (U := U) (b := b) (st := st) hU r (cV l (numA l a)) n ⟨⟨by omega, sl, sn⟩, by omega⟩
    rw [hr, hn] at tv td c1 N M
    rw [c1, Bool.true_and, Int.toNat_natCast, Int.toNat_natCast] at td
    rcases od_open (d := d) (v := v) (a := (a : Int)) (l := l) hv hc with ⟨rfl, rfl, hX, od⟩ | ⟨q, cap, L, rfl, hq, hcap, hX, tq, aq, hL, od, oq⟩
    · have : ([] : List UInt8).length = 0 := rfl
      omega
    · have hX2 : XI h.next [d] h ⟨0, [⟨d, 0, true, [.sl q 0 0 l.length cap true 1, int64 (a : Int)]⟩, ⟨q, 0, false, L⟩]⟩ h := .startW h hX (by simpa using hq.symm) (by simp)
      have hbv : (L.drop a).take (rnA l a - a) = byt ((l.drop a).take (rnA l a - a)) := by
        have e1 : byt ((l.drop a).take (rnA l a - a)) = ((byt l).drop a).take (rnA l a - a) := by unfold byt; rw [List.map_take, List.map_drop]
        rw [e1, ← tq, List.drop_take, List.take_take, Nat.min_eq_left (show rnA l a - a ≤ l.length - a by omega)]
      have k1 := eq_true (show a ≤ rnA l a by omega)
      have k2 := eq_true (show rnA l a ≤ cap by omega)
      have k3 := eq_false (show ¬ a = cap by omega)
      have k4 := eq_true (show a + (rnA l a - a) ≤ L.length by omega)
      have k5 := eq_true (show rnA l a ≤ L.length by omega)
      generalize cV l (numA l a) = u at *
      generalize (l.drop a).take (rnA l a - a) = y at *
      generalize putnB r u n = w at *
      generalize rnA l a = a2 at *
      rw [tv]
      by_cases c2 : y = w
      · have td : rtnOk l a = true := by rw [td]; simpa using c2
        rw [td, if_pos rfl, if_pos rfl]
        refine upd_of [(d, [.sl q 0 0 l.length cap true 1, int64 (a2 : Int)])] (fun _ o => g.upd o (by simpa using h6)) hU hK 0 hX2 od_had rtn_code (by simp [rtn_fu]) rfl ?_
        simp [rtn_fu, N, M, B, f_rnm, f_rname, f_rputn, hq, hq.symm, tq, aq, owns, xown, c1, c2, adv_nf oq, adv_fn oq, adv_nf od, adv_fn od, k1, k2, k3, k4, k5, bin_neqS, hbv, byt_take, byt_length]
      · have td : rtnOk l a = false := by rw [td]; simpa using c2
        rw [td, if_neg (by decide), if_neg (by decide)]
        refine upd_of [(d, [.sl q 0 0 l.length cap true 1, int64 (a : Int)])] (fun _ o => g.upd o (by simpa using h6)) hU hK 0 hX2 od_had rtn_code (by simp [rtn_fu]) rfl ?_
        simp [rtn_fu, N, M, B, f_rnm, f_rname, f_rputn, hq, hq.symm, tq, aq, owns, xown, c1, c2, adv_nf oq, adv_fn oq, adv_nf od, adv_fn od, k1, k2, k3, k4, k5, bin_neqS, hbv, byt_take, byt_length]
  · have c1 : nameB (sV l a) (cV l (numA l a)) (sV l (rbA l a)) = false := by simpa using c1
    rw [c1, Bool.false_and] at td
    obtain ⟨X, hX, e1, e2⟩ := od_any (d := d) (v := v) (a := (a : Int)) (l := l) hv hc
    have od : d.num < h.next.num := (hX.all _ (List.mem_cons_self ..)).old
    rw [tv, td, if_neg (by decide), if_neg (by decide)]
    refine upd_of [(d, [v, int64 (a : Int)])] (fun _ o => g.upd o (by simpa using h6)) hU hK 0 hX od_had rtn_code (by simp [rtn_fu]) rfl ?_
    generalize cV l (numA l a) = u at *
    simp [-xcont, rtn_fu, N, M, f_rnm, f_rname, f_rputn, e1, e2, owns, xown, c1, adv_nf od, adv_fn od]
theorem rtt_ok : EntOK Tryz.prog (HasG m t1 t2) e_rtt := mkEnt_ok ok_rtt fun z h g hz hc => by
  obtain ⟨d, v, a, l⟩ := z
  have hz1 : OdP d v a l := hz
  have hz2 := hz1
  obtain ⟨hv, ha, hl, h6⟩ := hz2
  have nA := rsA_le (l := l) (a := a) ha
  have nB := numA_le (l := l) (a := a) ha
  have nC := rnA_le (l := l) (a := numA l a) nB.2
  have hU : ∀ e ∈ [e_rstamp, e_rput], EntOK Tryz.prog (HasG m t1 t2) e := by simp [rstamp_ok, rput_ok]
  have hK : ∀ e ∈ [e_rnm, e_rsmall], EntK Tryz.prog (HasG m t1 t2) e := by simp [rnm_ok.entK, rsmall_ok.entK]
  have N1 := fun {U b st} (hU : tget U 76 = some e_rsmall) hq ho => x_rsmall (U := U) (b := b) (st := st) hU d v a l hz1 hq ho
  have N2 := fun {U b st} (hU : tget U 71 = some e_rnm) hq ho => x_rnm (U := U) (b := b) (st := st) hU d v (numA l a) l ⟨hv, nB.2, hl, h6⟩ hq ho
  have N3 := fun {U b st} (hU : tget U 76 = some e_rsmall) hq ho => x_rsmall (U := U) (b := b) (st := st) hU d v (rnA l (numA l a)) l ⟨hv, nC.2, hl, h6⟩ hq ho
  have M := fun {U b st} (hU : tget U 59 = some e_rstamp) => x_rstamp (U := U) (b := b) (st := st) hU (sV l a) (sV l (numA l a)) (cV l (numA l (numA l a))) (sV l (rbA l (numA l a))) (sV l (rnA l (numA l a))) (cV_len hl)
  show AmFn _ _ _ _ (rtsV l a) (updsH h [(d, [v, int64 ((if rtsOk l a = true then rsA l a else a : Nat) : Int)])])
  have ga : numA l (rnA l (numA l a)) = rsA l a := rfl
  have tv : rtsV l a = if rtsOk l a = true then .tup [.agg [int64 (sV l a), int64 (sV l (numA l a)), strOf (cV l (numA l (numA l a))), int64 (sV l (rbA l (numA l a))), int64 (sV l (rnA l (numA l a)))], int64 0] else .tup [.agg [int64 0, int64 0, .str 0 0, int64 0, int64 0], int64 4] := rfl
  have td : rtsOk l a = (stampB (sV l a) (sV l (numA l a)) (cV l (numA l (numA l a))) (sV l (rbA l (numA l a))) (sV l (rnA l (numA l a))) && decide ((l.drop a).take (rsA l a - a) = putB (sV l a).toNat (sV l (numA l a)).toNat (cV l (numA l (numA l a))) (sV l (rbA l (numA l a))).toNat (sV l (rnA l (numA l a))).toNat)) := rfl
  by_cases c1 : stampB (sV l a) (sV l (numA l a)) (cV l (numA l (numA l a))) (sV l (rbA l (numA l a))) (sV l (rnA l (numA l a))) = true
  · obtain ⟨g1, g2, cn, i1, i2⟩ := stampB_nm c1
    obtain ⟨cb, n1, n2⟩ := nameB_br cn
    have hlt := rsA_lt ha cb
    obtain ⟨r0, r8, sl, sn⟩ := branchB_all cb
    obtain ⟨g', hg⟩ : ∃ r : Nat, sV l a = r := ⟨(sV l a).toNat, by omega⟩
    obtain ⟨r, hr⟩ : ∃ r : Nat, sV l (numA l a) = r := ⟨(sV l (numA l a)).toNat, by omega⟩
    obtain ⟨n, hn⟩ : ∃ n : Nat, sV l (rbA l (numA l a)) = n := ⟨(sV l (rbA l (numA l a))).toNat, by omega⟩
    obtain ⟨i', hi⟩ : ∃ n : Nat, sV l (rnA l (numA l a)) = n := ⟨(sV l (rnA l (numA l a))).toNat, by omega⟩
    have B := fun {U b st} (hU : tget U 77 = some e_rput) => x_rput (U := U) (b := b) (st := st) hU g' r (cV l (numA l (numA l a))) n i' ⟨⟨⟨by omega, sl, sn⟩, by omega⟩, by omega, by omega⟩
    rw [hg, hr, hn, hi] at tv td c1 M
    rw [hg] at N1
    rw [hr, hn] at N2
    rw [hi] at N3
    rw [c1, Bool.true_and, Int.toNat_natCast, Int.toNat_natCast, Int.toNat_natCast, Int.toNat_natCast] at td
    rcases od_open (d := d) (v := v) (a := (a : Int)) (l := l) hv hc with ⟨rfl, rfl, hX, od⟩ | ⟨q, cap, L, rfl, hq, hcap, hX, tq, aq, hL, od, oq⟩
    · have : ([] : List UInt8).length = 0 := rfl
      omega
    · have hX2 : XI h.next [d] h ⟨0, [⟨d, 0, true, [.sl q 0 0 l.length cap true 1, int64 (a : Int)]⟩, ⟨q, 0, false, L⟩]⟩ h := .startW h hX (by simpa using hq.symm) (by simp)
      have hbv : (L.drop a).take (rsA l a - a) = byt ((l.drop a).take (rsA l a - a)) := by
        have e1 : byt ((l.drop a).take (rsA l a - a)) = ((byt l).drop a).take (rsA l a - a) := by unfold byt; rw [List.map_take, List.map_drop]
        rw [e1, ← tq, List.drop_take, List.take_take, Nat.min_eq_left (show rsA l a - a ≤ l.length - a by omega)]
      have k1 := eq_true (show a ≤ rsA l a by omega)
      have k2 := eq_true (show rsA l a ≤ cap by omega)
      have k3 := eq_false (show ¬ a = cap by omega)
      have k4 := eq_true (show a + (rsA l a - a) ≤ L.length by omega)
      have k5 := eq_true (show rsA l a ≤ L.length by omega)
      generalize cV l (numA l (numA l a)) = u at *
      generalize (l.drop a).take (rsA l a - a) = y at *
      generalize putB g' r u n i' = w at *
      rw [ga] at N3
      generalize rsA l a = a2 at *
      rw [tv]
      by_cases c2 : y = w
      · have td : rtsOk l a = true := by rw [td]; simpa using c2
        rw [td, if_pos rfl, if_pos rfl]
        refine upd_of [(d, [.sl q 0 0 l.length cap true 1, int64 (a2 : Int)])] (fun _ o => g.upd o (by simpa using h6)) hU hK 0 hX2 od_had rtt_code (by simp [rtt_fu]) rfl ?_
        simp [rtt_fu, N1, N2, N3, M, B, f_rsmall, f_rnm, f_rstamp, f_rput, hq, hq.symm, tq, aq, owns, xown, c1, c2, adv_nf oq, adv_fn oq, adv_nf od, adv_fn od, k1, k2, k3, k4, k5, bin_neqS, hbv, byt_take, byt_length]
      · have td : rtsOk l a = false := by rw [td]; simpa using c2
        rw [td, if_neg (by decide), if_neg (by decide)]
        refine upd_of [(d, [.sl q 0 0 l.length cap true 1, int64 (a : Int)])] (fun _ o => g.upd o (by simpa using h6)) hU hK 0 hX2 od_had rtt_code (by simp [rtt_fu]) rfl ?_
        simp [rtt_fu, N1, N2, N3, M, B, f_rsmall, f_rnm, f_rstamp, f_rput, hq, hq.symm, tq, aq, owns, xown, c1, c2, adv_nf oq, adv_fn oq, adv_nf od, adv_fn od, k1, k2, k3, k4, k5, bin_neqS, hbv, byt_take, byt_length]
  · have c1 : stampB (sV l a) (sV l (numA l a)) (cV l (numA l (numA l a))) (sV l (rbA l (numA l a))) (sV l (rnA l (numA l a))) = false := by simpa using c1
    rw [c1, Bool.false_and] at td
    obtain ⟨X, hX, e1, e2⟩ := od_any (d := d) (v := v) (a := (a : Int)) (l := l) hv hc
    have od : d.num < h.next.num := (hX.all _ (List.mem_cons_self ..)).old
    rw [tv, td, if_neg (by decide), if_neg (by decide)]
    refine upd_of [(d, [v, int64 (a : Int)])] (fun _ o => g.upd o (by simpa using h6)) hU hK 0 hX od_had rtt_code (by simp [rtt_fu]) rfl ?_
    generalize cV l (numA l (numA l a)) = u at *
    simp [-xcont, rtt_fu, N1, N2, N3, M, f_rsmall, f_rnm, f_rstamp, f_rput, e1, e2, owns, xown, c1, adv_nf od, adv_fn od]
end
end Go.Proofs.YtjhgembcdndmkaaGreatDoor.St

namespace Go.Proofs.YtjhgembcdndmkaaGreatDoor.St
open Go Go.Proofs.YtjhgembcdndmkaaGreatDoor.Am Go.Proofs Go.RowKit
theorem wread_form : ∀ {l : List UInt8} {i n k : Nat} {v : Int}, i ≤ 9 → n < 2 ^ (7 * i) → wread anI shU orU64 l i (n : Int) = some (v, k) → ∃ w : Nat, v = ((n + w * 2 ^ (7 * i) : Nat) : Int) ∧ numB w = l.take (k - i) ∧ (0 < i → 0 < w)
  | [], _, _, _, _, _, _, e => by cases e
  | c :: l, i, n, k, v, hi, hn, e => by
    unfold wread at e
    split at e
    · cases e
    · rename_i c1
      have hc := c.toNat_lt
      obtain ⟨h1, _, h3⟩ := num_step (c := c.toNat) hi hn hc (fun q => c1 (.inl q))
      rw [h1] at e
      split at e
      · rename_i c2
        cases e
        refine ⟨c.toNat, by rw [Nat.mod_eq_of_lt c2], ?_, fun h0 => by omega⟩
        rw [numB_last (by omega), show i + 1 - i = 1 by omega]
        simp
      · rename_i c2
        have i9 : i < 9 := by omega
        obtain ⟨w, e1, e2, e3⟩ := wread_form (by omega) (h3 i9) e
        have w0 := e3 (by omega)
        have hk := wread_len e
        refine ⟨c.toNat % 128 + 128 * w, ?_, ?_, fun _ => by omega⟩
        · rw [e1, show 2 ^ (7 * (i + 1)) = 128 * 2 ^ (7 * i) by rw [show 7 * (i + 1) = 7 + 7 * i by omega, Nat.pow_add], Nat.add_mul, Nat.add_assoc, ← Nat.mul_assoc, Nat.mul_comm w 128]
        · rw [numB_more (by omega), show (c.toNat % 128 + 128 * w) / 128 = w by omega, e2, show k - i = (k - (i + 1)) + 1 by omega, List.take_succ_cons]
          congr 1
          apply UInt8.toNat_inj.1
          rw [UInt8.toNat_ofNat']
          omega
theorem numR_form {l : List UInt8} {a : Nat} (h : (numR l a).isSome = true) : numB (numV l a).toNat = (l.drop a).take (numA l a - a) := by
  obtain ⟨⟨v, k⟩, hr⟩ := Option.isSome_iff_exists.1 h
  have hv : numV l a = v := by unfold numV; rw [hr]; rfl
  have ha : numA l a = a + k := by unfold numA; rw [hr]; rfl
  obtain ⟨w, e1, e2, _⟩ := wread_form (n := 0) (by omega) (by decide) hr
  rw [hv, ha, e1, show a + k - a = k - 0 by omega, ← e2, Int.toNat_natCast]
  congr 1
  omega
theorem gOk_some {l : List UInt8} {a : Nat} (h : gOk l a = true) : (numR l a).isSome = true ∧ gV l a = numV l a ∧ sV l a = numV l a := by
  refine ⟨?_, by unfold gV; rw [if_pos h], by unfold sV; rw [if_pos h]⟩
  unfold gOk at h
  rw [Bool.and_eq_true] at h
  exact h.1
theorem sV_ok {l : List UInt8} {a : Nat} (h : 0 ≤ sV l a) : gOk l a = true := by
  unfold sV at h
  split at h
  · assumption
  · exact absurd h (by decide)
theorem bytE_zero {l : List UInt8} {a : Nat} {most : Int} : bytE l a most = 0 ↔ (numR l a).isSome = true ∧ ¬ most < numV l a ∧ ¬ ((l.length - numA l a : Nat) : Int) < numV l a := by
  unfold bytE cntE
  cases (numR l a).isSome
  · simp
  · by_cases c : most < numV l a
    · simp [c]
    · by_cases c2 : ((l.length - numA l a : Nat) : Int) < numV l a <;> simp [c, c2]
theorem bOk_same {l : List UInt8} {a : Nat} (ha : a ≤ l.length) (h : bOk l a = true) : cV l a = bV l a ∧ bytA l a 99 = bytA l a 12 ∧ numB (bV l a).length ++ bV l a = (l.drop a).take (bytA l a 12 - a) := by
  have hb : bytE l a 12 = 0 := by simpa [bOk] using h
  obtain ⟨h1, h2, h3⟩ := bytE_zero.1 hb
  have hb2 : bytE l a 99 = 0 := bytE_zero.2 ⟨h1, by omega, h3⟩
  have v0 := numV_nonneg l a
  have nA := numA_le ha
  obtain ⟨n, hn⟩ : ∃ n : Nat, numV l a = n := ⟨(numV l a).toNat, by omega⟩
  have e1 : bytA l a 12 = numA l a + n := by unfold bytA; rw [if_pos hb, hn]; rfl
  have e2 : bytA l a 99 = numA l a + n := by unfold bytA; rw [if_pos hb2, hn]; rfl
  have e3 : bV l a = bytV l a := by unfold bV; rw [if_pos h]
  have e4 : cV l a = bytV l a := by unfold cV; rw [if_pos hb2]
  have e5 : bytV l a = (l.drop (numA l a)).take n := by unfold bytV; rw [hn]; rfl
  have e6 : (bytV l a).length = n := by rw [e5, List.length_take, List.length_drop]; omega
  refine ⟨by rw [e3, e4], by rw [e1, e2], ?_⟩
  have hf := numR_form h1
  rw [hn, Int.toNat_natCast] at hf
  rw [e3, e6, hf, e1, e5]
  have x1 : numA l a + n - a = (numA l a - a) + n := by omega
  rw [x1, List.take_add, List.drop_drop, show a + (numA l a - a) = numA l a by omega]
theorem cV_ok {l : List UInt8} {a : Nat} (hn : cV l a ≠ []) (hl : (cV l a).length ≤ 12) : bOk l a = true := by
  unfold cV at hn hl
  split at hn
  · rename_i c
    rw [if_pos c] at hl
    obtain ⟨h1, h2, h3⟩ := bytE_zero.1 c
    have v0 := numV_nonneg l a
    have hlen : (bytV l a).length = (numV l a).toNat := by unfold bytV; rw [List.length_take, List.length_drop]; omega
    have : bytE l a 12 = 0 := bytE_zero.2 ⟨h1, by omega, h3⟩
    simpa [bOk] using this
  · exact absurd rfl hn
theorem gb_same {l : List UInt8} {a : Nat} (ha : a ≤ l.length) (h : gbOk l a = true) : sV l a = gV l a ∧ cV l (numA l a) = bV l (numA l a) ∧ rbA l a = gbA l a ∧ putbB (gV l a).toNat (bV l (numA l a)) = (l.drop a).take (gbA l a - a) := by
  unfold gbOk at h
  rw [Bool.and_eq_true] at h
  have nA := numA_le ha
  have nB := gbA_le ha
  obtain ⟨h1, h2, h3⟩ := gOk_some h.1
  obtain ⟨b1, b2, b3⟩ := bOk_same nA.2 h.2
  have nC := bytA_le nA.2 12
  refine ⟨by rw [h2, h3], b1, b2, ?_⟩
  unfold putbB bytB
  rw [b3, h2, numR_form h1]
  unfold gbA
  rw [show bytA l (numA l a) 12 - a = (numA l a - a) + (bytA l (numA l a) 12 - numA l a) by omega, List.take_add, List.drop_drop, show a + (numA l a - a) = numA l a by omega]
theorem gb_of {l : List UInt8} {a : Nat} (h : branchB (sV l a) (cV l (numA l a)) = true) : gbOk l a = true := by
  obtain ⟨h1, _, h3, h4⟩ := branchB_all h
  unfold gbOk
  rw [sV_ok h1, cV_ok h4 h3]; rfl
theorem tb_same {l : List UInt8} {a : Nat} (ha : a ≤ l.length) : tbOk l a = rtbOk l a ∧ tbV l a = rtbV l a ∧ (if tbOk l a = true then gbA l a else a) = if rtbOk l a = true then rbA l a else a := by
  have key : tbOk l a = rtbOk l a ∧ (tbOk l a = true → sV l a = gV l a ∧ cV l (numA l a) = bV l (numA l a) ∧ rbA l a = gbA l a) := by
    by_cases c : gbOk l a = true
    · obtain ⟨h1, h2, h3, h4⟩ := gb_same ha c
      refine ⟨?_, fun _ => ⟨h1, h2, h3⟩⟩
      unfold tbOk rtbOk
      rw [c, h1, h2, h3, h4]
      simp
    · have e1 : tbOk l a = false := by unfold tbOk; rw [Bool.eq_false_iff.2 c]; rfl
      have e2 : rtbOk l a = false := by
        unfold rtbOk
        rw [show branchB (sV l a) (cV l (numA l a)) = false from Bool.eq_false_iff.2 fun q => c (gb_of q)]; rfl
      exact ⟨by rw [e1, e2], fun q => by rw [e1] at q; cases q⟩
  refine ⟨key.1, ?_, ?_⟩
  · unfold tbV rtbV
    rw [← key.1]
    by_cases c : tbOk l a = true
    · obtain ⟨h1, h2, h3⟩ := key.2 c
      rw [if_pos c, if_pos c, h1, h2]
    · rw [if_neg c, if_neg c]
  · rw [← key.1]
    by_cases c : tbOk l a = true
    · obtain ⟨h1, h2, h3⟩ := key.2 c
      rw [if_pos c, if_pos c, h3]
    · rw [if_neg c, if_neg c]
theorem gn_same {l : List UInt8} {a : Nat} (ha : a ≤ l.length) (h : gnOk l a = true) : sV l a = gV l a ∧ cV l (numA l a) = bV l (numA l a) ∧ rbA l a = gbA l a ∧ sV l (gbA l a) = gV l (gbA l a) ∧ rnA l a = gnA l a ∧ putnB (gV l a).toNat (bV l (numA l a)) (gV l (gbA l a)).toNat = (l.drop a).take (gnA l a - a) := by
  unfold gnOk at h
  rw [Bool.and_eq_true] at h
  obtain ⟨h1, h2, h3, h4⟩ := gb_same ha h.1
  obtain ⟨g1, g2, g3⟩ := gOk_some h.2
  have nA := gbA_le ha
  have nB := numA_le nA.2
  refine ⟨h1, h2, h3, by rw [g2, g3], by unfold rnA gnA; rw [h3], ?_⟩
  unfold putnB gnA
  rw [h4, g2, numR_form g1, show numA l (gbA l a) - a = (gbA l a - a) + (numA l (gbA l a) - gbA l a) by omega, List.take_add, List.drop_drop, show a + (gbA l a - a) = gbA l a by omega]
theorem gn_of {l : List UInt8} {a : Nat} (ha : a ≤ l.length) (h : nameB (sV l a) (cV l (numA l a)) (sV l (rbA l a)) = true) : gnOk l a = true := by
  obtain ⟨h1, h2, _⟩ := nameB_br h
  have hb := gb_of h1
  have e := (gb_same ha hb).2.2.1
  unfold gnOk
  rw [hb, ← e, sV_ok (by omega)]; rfl
theorem tn_same {l : List UInt8} {a : Nat} (ha : a ≤ l.length) : tnOk l a = rtnOk l a ∧ tnV l a = rtnV l a ∧ (if tnOk l a = true then gnA l a else a) = if rtnOk l a = true then rnA l a else a := by
  have key : tnOk l a = rtnOk l a ∧ (tnOk l a = true → sV l a = gV l a ∧ cV l (numA l a) = bV l (numA l a) ∧ rbA l a = gbA l a ∧ sV l (gbA l a) = gV l (gbA l a) ∧ rnA l a = gnA l a) := by
    by_cases c : gnOk l a = true
    · obtain ⟨h1, h2, h3, h4, h5, h6⟩ := gn_same ha c
      refine ⟨?_, fun _ => ⟨h1, h2, h3, h4, h5⟩⟩
      unfold tnOk rtnOk
      rw [c, h1, h2, h3, h4, h5, h6]
      simp
    · have e1 : tnOk l a = false := by unfold tnOk; rw [Bool.eq_false_iff.2 c]; rfl
      have e2 : rtnOk l a = false := by
        unfold rtnOk
        rw [show nameB (sV l a) (cV l (numA l a)) (sV l (rbA l a)) = false from Bool.eq_false_iff.2 fun q => c (gn_of ha q)]; rfl
      exact ⟨by rw [e1, e2], fun q => by rw [e1] at q; cases q⟩
  refine ⟨key.1, ?_, ?_⟩
  · unfold tnV rtnV
    rw [← key.1]
    by_cases c : tnOk l a = true
    · obtain ⟨h1, h2, h3, h4, h5⟩ := key.2 c
      rw [if_pos c, if_pos c, h1, h2, h3, h4]
    · rw [if_neg c, if_neg c]
  · rw [← key.1]
    by_cases c : tnOk l a = true
    · obtain ⟨h1, h2, h3, h4, h5⟩ := key.2 c
      rw [if_pos c, if_pos c, h5]
    · rw [if_neg c, if_neg c]
theorem gs_same {l : List UInt8} {a : Nat} (ha : a ≤ l.length) (h : gsOk l a = true) : sV l a = gV l a ∧ sV l (numA l a) = gV l (numA l a) ∧ cV l (numA l (numA l a)) = bV l (numA l (numA l a)) ∧ rbA l (numA l a) = gbA l (numA l a) ∧ sV l (gbA l (numA l a)) = gV l (gbA l (numA l a)) ∧ rnA l (numA l a) = gnA l (numA l a) ∧
    sV l (gnA l (numA l a)) = gV l (gnA l (numA l a)) ∧ rsA l a = gsA l a ∧ putB (gV l a).toNat (gV l (numA l a)).toNat (bV l (numA l (numA l a))) (gV l (gbA l (numA l a))).toNat (gV l (gnA l (numA l a))).toNat = (l.drop a).take (gsA l a - a) := by
  unfold gsOk at h
  rw [Bool.and_eq_true, Bool.and_eq_true] at h
  have nA := numA_le ha
  obtain ⟨k1, k2, k3⟩ := gOk_some h.1
  obtain ⟨h1, h2, h3, h4, h5, h6⟩ := gn_same nA.2 h.2.1
  obtain ⟨g1, g2, g3⟩ := gOk_some h.2.2
  have nB := gnA_le nA.2
  have nC := numA_le nB.2
  refine ⟨by rw [k2, k3], h1, h2, h3, h4, h5, by rw [g2, g3], by unfold rsA gsA; rw [h5], ?_⟩
  unfold putB gsA
  rw [h6, k2, g2, numR_form k1, numR_form g1]
  have x1 : numA l (gnA l (numA l a)) - a = ((numA l a - a) + (gnA l (numA l a) - numA l a)) + (numA l (gnA l (numA l a)) - gnA l (numA l a)) := by omega
  rw [x1, List.take_add, List.take_add, List.drop_drop, List.drop_drop, show a + (numA l a - a) = numA l a by omega, show a + (numA l a - a + (gnA l (numA l a) - numA l a)) = gnA l (numA l a) by omega]
theorem gs_of {l : List UInt8} {a : Nat} (ha : a ≤ l.length) (h : stampB (sV l a) (sV l (numA l a)) (cV l (numA l (numA l a))) (sV l (rbA l (numA l a))) (sV l (rnA l (numA l a))) = true) : gsOk l a = true := by
  obtain ⟨h1, _, h2, h3, _⟩ := stampB_nm h
  have nA := numA_le ha
  have hn := gn_of nA.2 h2
  obtain ⟨_, _, _, _, e, _⟩ := gn_same nA.2 hn
  unfold gsOk
  rw [hn, ← e, sV_ok (a := a) (by omega), sV_ok (by omega)]; rfl
theorem ts_same {l : List UInt8} {a : Nat} (ha : a ≤ l.length) : tsOk l a = rtsOk l a ∧ tsV l a = rtsV l a ∧ (if tsOk l a = true then gsA l a else a) = if rtsOk l a = true then rsA l a else a := by
  by_cases c : gsOk l a = true
  · obtain ⟨h1, h2, h3, h4, h5, h6, h7, h8, h9⟩ := gs_same ha c
    have e : tsOk l a = rtsOk l a := by
      unfold tsOk rtsOk
      rw [c, h1, h2, h3, h4, h5, h6, h7, h8, h9]
      simp
    refine ⟨e, ?_, ?_⟩
    · unfold tsV rtsV
      rw [← e, h1, h2, h3, h4, h5, h6, h7]
    · rw [← e, h8]
  · have e1 : tsOk l a = false := by unfold tsOk; rw [Bool.eq_false_iff.2 c]; rfl
    have e2 : rtsOk l a = false := by
      unfold rtsOk
      rw [show stampB (sV l a) (sV l (numA l a)) (cV l (numA l (numA l a))) (sV l (rbA l (numA l a))) (sV l (rnA l (numA l a))) = false from Bool.eq_false_iff.2 fun q => c (gs_of ha q)]; rfl
    refine ⟨by rw [e1, e2], ?_, ?_⟩
    · unfold tsV rtsV
      rw [e1, e2]; rfl
    · rw [e1, e2]; rfl
end Go.Proofs.YtjhgembcdndmkaaGreatDoor.St

namespace Go.Proofs.YtjhgembcdndmkaaGreatDoor.St
open Go Go.Proofs.YtjhgembcdndmkaaGreatDoor.Am Go.Proofs Go.RowKit
attribute [local simp] xr_mov xd_mov xr_pick xd_pick xr_bin xd_bin xr_un xd_un xr_build xr_convInt xd_convInt xr_mkFn xr_fld xd_fld xr_extract xr_lenS xr_lenL xd_lenL xr_nilPtr xd_nilPtr xr_load1 xd_load1 xr_loadN xd_loadN xr_bytesStr xd_bytesStr xr_eqPtr xr_new xr_box xr_buildSl xd_buildSl xd_strBytes xr_mkSl xr_idxAddrSl xd_idxAddrSl xr_idxStr xd_sliceSl orU_some orU_none lenSA_str lenSA_strOf lenLA_sl lenLA_nil xfn xcode xdrawn xr_nil xr_kg xr_kgu xr_call xr_store xr_append xd_append xap_sl xap_nl xapq_some xsrc_sl xsrc_nil xapp_nil xapp_grow xapp_room xset xown xnx_some xnp_some xnq_some xd_nil xdl_old xdl_new xda_some xd_call xd_kg xdn_some xld xal kindOf isAlloc allocs xins xrem xall xput xget xwhole xmine xcont xq xqs xres XS.add XR.out XR.outU XR.ups xsets XR.res Rs.seq Rs.inSc Rs.block mapO tupleA sv_args adv_eq tget eqs8 eqs7 eqi8 eqi7 eqg8 eql8 eqn8 eqn7 cells_strOf cells_int cells_agg cells_bool cells_str cells_sl cells_nil cells_ptr at_int at_str at_strOf at_bool at_sl at_nil at_ptr unstr_strOf unbyt_byt fill_nil fill_cons replA ev_tm ev_vl sv_stv bin_add bin_sub bin_mul bin_lss bin_leq bin_gtr bin_geq bin_eql bin_neq un_not nth0 nth1 nth2 xst_idxAddrSl xst_idxStr xst_sliceStr xst_sliceSl xsl_sl xbd slN Nat.testBit
noncomputable def e_num : Ent := mkEnt 17 1 [] (fun z_ : Int => [int64 z_]) (fun _ => []) (fun _ => True) (fun z_ => .plain (int64 z_))
theorem f_num : e_num.f = 17 := rfl
theorem x_num {U : List Ent} {b : Pos} {st : XS} (hU : tget U 17 = some e_num) (n : Int) : xcall U b 17 [int64 n] st = some (XR.out b st (.plain (int64 n))) :=
  xcall_at hU rfl rfl (mkEnt_spec (by rintro a0 b0 h hc; simp only [List.cons.injEq, AV.agg.injEq, AV.tup.injEq, AV.int.injEq, AV.bool.injEq, AV.ptr.injEq, AV.sl.injEq, strOf_eq, byt_eq, map_strOf_eq, true_and, and_true, Int.natCast_inj] at h hc; simp [h, hc]) n trivial) (by first | rfl | (split <;> rfl))
section
variable {m : Int} {t1 t2 : AV}
theorem num_ok : EntOK Tryz.prog (HasG m t1 t2) e_num := mkEnt_ok ok_num fun n h g _ _ => by
  refine plain_of (U := []) (K := []) (fun _ o => g.more o) (by simp) (by simp) 0 num_code (by simp [num_fu]) rfl ?_
  simp [num_fu]
end
end Go.Proofs.YtjhgembcdndmkaaGreatDoor.St

namespace Go.Proofs.YtjhgembcdndmkaaGreatDoor.St
open Go Go.Proofs.YtjhgembcdndmkaaGreatDoor.Am Go.Proofs Go.RowKit
attribute [local simp] xr_mov xd_mov xr_pick xd_pick xr_bin xd_bin xr_un xd_un xr_build xr_convInt xd_convInt xr_mkFn xr_fld xd_fld xr_extract xr_lenS xr_lenL xd_lenL xr_nilPtr xd_nilPtr xr_load1 xd_load1 xr_loadN xd_loadN xr_bytesStr xd_bytesStr xr_eqPtr xr_new xr_box xr_buildSl xd_buildSl xd_strBytes xr_mkSl xr_idxAddrSl xd_idxAddrSl xr_idxStr xd_sliceSl orU_some orU_none lenSA_str lenSA_strOf lenLA_sl lenLA_nil xfn xcode xdrawn xr_nil xr_kg xr_kgu xr_call xr_store xr_append xd_append xap_sl xap_nl xapq_some xsrc_sl xsrc_nil xapp_nil xapp_grow xapp_room xset xown xnx_some xnp_some xnq_some xd_nil xdl_old xdl_new xda_some xd_call xd_kg xdn_some xld xal kindOf isAlloc allocs xins xrem xall xput xget xwhole xmine xcont xq xqs xres XS.add XR.out XR.outU XR.ups xsets XR.res Rs.seq Rs.inSc Rs.block mapO tupleA sv_args adv_eq tget eqs8 eqs7 eqi8 eqi7 eqg8 eql8 eqn8 eqn7 cells_strOf cells_int cells_agg cells_bool cells_str cells_sl cells_nil cells_ptr at_int at_str at_strOf at_bool at_sl at_nil at_ptr unstr_strOf unbyt_byt fill_nil fill_cons replA ev_tm ev_vl sv_stv bin_add bin_sub bin_mul bin_lss bin_leq bin_gtr bin_geq bin_eql bin_neq un_not nth0 nth1 nth2 xst_idxAddrSl xst_idxStr xst_sliceStr xst_sliceSl xsl_sl xbd slN Nat.testBit
noncomputable def e_known : Ent := mkEnt 8 0 [] (fun z_ : Unit => []) (fun _ => []) (fun _ => True) (fun _ => .plain (.bool true))
theorem f_known : e_known.f = 8 := rfl
theorem x_known {U : List Ent} {b : Pos} {st : XS} (hU : tget U 8 = some e_known)  : xcall U b 8 [] st = some (XR.out b st (.plain (.bool true))) :=
  xcall_at hU rfl rfl (mkEnt_spec (fun _ _ _ _ => rfl) () trivial) (by first | rfl | (split <;> rfl))
theorem sk_int (z : Int) : sameK .int (int64 z) (int64 z) = some true := by
  show (if IntKind.i64 = IntKind.i64 then some (match cmpA z z with | .eq => true | _ => false) else none) = _
  rw [if_pos rfl, cmpA_eq, if_neg (by omega), if_pos rfl]
theorem sk_str (u : List UInt8) : sameK .str (strOf u) (strOf u) = some true := by
  show some (Nat.beq _ _ && Nat.beq _ _) = _
  rw [beq_iff.2 rfl, beq_iff.2 rfl]; rfl
theorem sks_cons {k : LK} {ks : List LK} {a : AV} {l : List AV} (h1 : sameK k a a = some true) (h2 : sameKs ks l l = some true) : sameKs (k :: ks) (a :: l) (a :: l) = some true := by
  unfold sameKs; rw [h1, h2]; rfl
theorem eqF {ks : List LK} {l : List AV} (no : Bool) (h : sameKs ks l l = some true) : binA .eql (.flat ks) no (.agg l) (.agg l) = some (.bool true) := by
  show (match sameKs ks l l with | some b => notIf false b | none => none) = _
  rw [h]; rfl
theorem sks_nil : sameKs [] [] [] = some true := by unfold sameKs; rfl
theorem eqF2 (no : Bool) (r : Int) (l : List UInt8) : binA .eql (.flat [.int, .str]) no (.agg [int64 r, strOf l]) (.agg [int64 r, strOf l]) = some (.bool true) := eqF no (sks_cons (sk_int _) (sks_cons (sk_str _) sks_nil))
theorem eqF3 (no : Bool) (r : Int) (l : List UInt8) (n : Int) : binA .eql (.flat [.int, .str, .int]) no (.agg [int64 r, strOf l, int64 n]) (.agg [int64 r, strOf l, int64 n]) = some (.bool true) := eqF no (sks_cons (sk_int _) (sks_cons (sk_str _) (sks_cons (sk_int _) sks_nil)))
theorem eqF5 (no : Bool) (g r : Int) (l : List UInt8) (n i : Int) : binA .eql (.flat [.int, .int, .str, .int, .int]) no (.agg [int64 g, int64 r, strOf l, int64 n, int64 i]) (.agg [int64 g, int64 r, strOf l, int64 n, int64 i]) = some (.bool true) := eqF no (sks_cons (sk_int _) (sks_cons (sk_int _) (sks_cons (sk_str _) (sks_cons (sk_int _) (sks_cons (sk_int _) sks_nil)))))
end Go.Proofs.YtjhgembcdndmkaaGreatDoor.St
