import Derived.Test.YtjhgembcdndmkaaGreatDoorSxA
/- THE WALK'S PARTS, part B: what the functions of the law compute, over the abstract machine that stands beside this text. No condition. -/
set_option linter.unusedSimpArgs false
set_option linter.unusedVariables false
namespace Go.Proofs.YtjhgembcdndmkaaGreatDoor.St
open Go Go.Proofs.YtjhgembcdndmkaaGreatDoor.Am Go.Proofs Go.RowKit
attribute [local simp] xr_mov xd_mov xr_pick xd_pick xr_bin xd_bin xr_un xd_un xr_build xr_convInt xd_convInt xr_mkFn xr_fld xd_fld xr_extract xr_lenS xr_lenL xd_lenL xr_nilPtr xd_nilPtr xr_load1 xd_load1 xr_loadN xd_loadN xr_bytesStr xd_bytesStr xr_eqPtr xr_new xr_box xr_buildSl xd_buildSl xd_strBytes xr_mkSl xr_idxAddrSl xd_idxAddrSl xr_idxStr xd_sliceSl orU_some orU_none lenSA_str lenSA_strOf lenLA_sl lenLA_nil xfn xcode xdrawn xr_nil xr_kg xr_kgu xr_call xr_store xr_append xd_append xap_sl xap_nl xapq_some xsrc_sl xsrc_nil xapp_nil xapp_grow xapp_room xset xown xnx_some xnp_some xnq_some xd_nil xdl_old xdl_new xda_some xd_call xd_kg xdn_some xld xal kindOf isAlloc allocs xins xrem xall xput xget xwhole xmine xcont xq xqs xres XS.add XR.out XR.outU XR.ups xsets XR.res Rs.seq Rs.inSc Rs.block mapO tupleA sv_args adv_eq tget eqs8 eqs7 eqi8 eqi7 eqg8 eql8 eqn8 eqn7 cells_strOf cells_int cells_agg cells_bool cells_str cells_sl cells_nil cells_ptr at_int at_str at_strOf at_bool at_sl at_nil at_ptr unstr_strOf unbyt_byt fill_nil fill_cons replA ev_tm ev_vl sv_stv bin_add bin_sub bin_mul bin_lss bin_leq bin_gtr bin_geq bin_eql bin_neq un_not nth0 nth1 nth2 xst_idxAddrSl xst_idxStr xst_sliceStr xst_sliceSl xsl_sl xbd slN Nat.testBit
noncomputable def cntE (l : List UInt8) (a : Nat) (most : Int) : Int := if (numR l a).isSome then (if most < numV l a then 3 else 0) else 4
noncomputable def cntV (l : List UInt8) (a : Nat) (most : Int) : Int := if cntE l a most = 0 then numV l a else 0
noncomputable def e_wcount : Ent := mkEnt 119 2 [.own 0, .bsl 0 0] (fun z_ : Pos × Pos × Nat × (List UInt8) × Int => [.ptr z_.1 0 0, int64 z_.2.2.2.2]) (fun z_ => [[.sl z_.2.1 0 0 z_.2.2.2.1.length (z_.2.2.2.1.length + 1) true 1, int64 (z_.2.2.1 : Int)], byt z_.2.2.2.1]) (fun z_ => (z_.1 ≠ z_.2.1 ∧ z_.2.2.1 ≤ z_.2.2.2.1.length ∧ z_.2.2.2.1.length ≤ 9000 ∧ (Pos.ofNat 6).num ≤ z_.1.num) ∧ 0 ≤ z_.2.2.2.2 ∧ z_.2.2.2.2 ≤ 9223372036854775807) (fun z_ => .upd [(z_.1, [.sl z_.2.1 0 0 z_.2.2.2.1.length (z_.2.2.2.1.length + 1) true 1, int64 (numA z_.2.2.2.1 z_.2.2.1 : Int)])] (.tup [int64 (cntV z_.2.2.2.1 z_.2.2.1 z_.2.2.2.2), int64 (cntE z_.2.2.2.1 z_.2.2.1 z_.2.2.2.2)]))
theorem f_wcount : e_wcount.f = 119 := rfl
theorem x_wcount {U : List Ent} {b : Pos} {st : XS} (hU : tget U 119 = some e_wcount) (p : Pos) (q : Pos) (a : Nat) (l : List UInt8) (most : Int) (hp : (p ≠ q ∧ a ≤ l.length ∧ l.length ≤ 9000 ∧ (Pos.ofNat 6).num ≤ p.num) ∧ 0 ≤ most ∧ most ≤ 9223372036854775807) (hq : xqs st.X [.ptr p 0 0, int64 most] [.own 0, .bsl 0 0] = some [[.sl q 0 0 l.length (l.length + 1) true 1, int64 (a : Int)], byt l]) (ho : ((.upd [(p, [.sl q 0 0 l.length (l.length + 1) true 1, int64 (numA l a : Int)])] (.tup [int64 (cntV l a most), int64 (cntE l a most)]) : XR).ups.all fun x => (xown st.X x.1 0).isSome) = true) : xcall U b 119 [.ptr p 0 0, int64 most] st = none ∧ xupd U b 119 [.ptr p 0 0, int64 most] st = some (XR.outU b st (.upd [(p, [.sl q 0 0 l.length (l.length + 1) true 1, int64 (numA l a : Int)])] (.tup [int64 (cntV l a most), int64 (cntE l a most)]))) :=
  xupd_at hU rfl hq (mkEnt_spec (by rintro ⟨a0, a1, a2, a3, a4⟩ ⟨b0, b1, b2, b3, b4⟩ h hc; simp only [List.cons.injEq, AV.agg.injEq, AV.tup.injEq, AV.int.injEq, AV.bool.injEq, AV.ptr.injEq, AV.sl.injEq, strOf_eq, byt_eq, map_strOf_eq, true_and, and_true, Int.natCast_inj] at h hc; simp [h, hc]) (p, q, a, l, most) hp) (by first | rfl | (split <;> rfl)) ho
section
variable {m : Int} {t1 t2 : AV}
theorem wcount_ok : EntOK Tryz.prog (HasG m t1 t2) e_wcount := mkEnt_ok ok_wcount fun z h g hz hc => by
  obtain ⟨p, q, a, l, most⟩ := z
  obtain ⟨⟨hpq, ha, hl, h6⟩, hm0, hm1⟩ : (p ≠ q ∧ a ≤ l.length ∧ l.length ≤ 9000 ∧ (Pos.ofNat 6).num ≤ p.num) ∧ 0 ≤ most ∧ most ≤ 9223372036854775807 := hz
  obtain ⟨_, _, e, ⟨_, ev, w⟩, _, _, e', ⟨_, C, _, ev', w', k', s'⟩, _⟩ := hc
  cases e; cases e'; cases ev; cases ev'
  cases Holds.eq w w'
  cases k'
  dsimp only at *
  obtain ⟨L, kq, tq, aq⟩ := slc_at' s'
  have hX : AllH [⟨p, 0, true, [.sl q 0 0 l.length (l.length + 1) true 1, int64 (a : Int)]⟩, ⟨q, 0, false, L⟩] h := by
    intro x mx
    simp only [List.mem_cons, List.not_mem_nil, or_false] at mx
    rcases mx with rfl | rfl <;> assumption
  refine upd_of [(p, [.sl q 0 0 l.length (l.length + 1) true 1, int64 (numA l a : Int)])] (U := []) (K := [e_wnum]) (fun _ o => g.upd o (by simpa using h6)) (by simp) (by simp [wnum_ok.entK]) 0 (.startW h hX (by simpa using hpq) (by simp)) (fun x mx => ?_) wcount_code (by simp [wcount_fu]) rfl ?_
  · simp only [List.mem_singleton] at mx
    subst mx
    exact ⟨_, List.mem_cons_self .., fun y hy => by
      simp only [List.mem_cons, List.not_mem_nil, or_false] at hy
      rcases hy with rfl | rfl
      · right; simp
      · left; rfl⟩
  · have hm' : ¬ most < 0 := by omega
    have N := fun {U b st} (hU : tget U 21 = some e_wnum) hq ho => x_wnum (U := U) (b := b) (st := st) hU p q a l ⟨hpq, ha, hl, h6⟩ hq ho
    have v0 := numV_nonneg l a
    have wm : wrapA .u64 most = most := wu64 (by omega) (by omega)
    show _ = some (AV.tup [int64 (cntV l a most), int64 (cntE l a most)], _)
    unfold cntV cntE
    cases hs : (numR l a).isSome
    · have eE : numE l a = 4 := by unfold numE; rw [hs]; rfl
      simp [wcount_fu, N, f_wnum, hpq, hpq.symm, hm', eE, tq, aq, owns, xown]
    · have eE : numE l a = 0 := by unfold numE; rw [hs]; rfl
      by_cases c : most < numV l a
      · simp [wcount_fu, N, f_wnum, hpq, hpq.symm, hm', eE, tq, aq, owns, xown, wm, c]
      · have wv : wrapA .i64 (numV l a) = numV l a := w64 (by omega) (by omega)
        simp [wcount_fu, N, f_wnum, hpq, hpq.symm, hm', eE, tq, aq, owns, xown, wm, c, wv]
end
end Go.Proofs.YtjhgembcdndmkaaGreatDoor.St

namespace Go.Proofs.YtjhgembcdndmkaaGreatDoor.St
open Go Go.Proofs.YtjhgembcdndmkaaGreatDoor.Am Go.Proofs Go.RowKit
attribute [local simp] xr_mov xd_mov xr_pick xd_pick xr_bin xd_bin xr_un xd_un xr_build xr_convInt xd_convInt xr_mkFn xr_fld xd_fld xr_extract xr_lenS xr_lenL xd_lenL xr_nilPtr xd_nilPtr xr_load1 xd_load1 xr_loadN xd_loadN xr_bytesStr xd_bytesStr xr_eqPtr xr_new xr_box xr_buildSl xd_buildSl xd_strBytes xr_mkSl xr_idxAddrSl xd_idxAddrSl xr_idxStr xd_sliceSl orU_some orU_none lenSA_str lenSA_strOf lenLA_sl lenLA_nil xfn xcode xdrawn xr_nil xr_kg xr_kgu xr_call xr_store xr_append xd_append xap_sl xap_nl xapq_some xsrc_sl xsrc_nil xapp_nil xapp_grow xapp_room xset xown xnx_some xnp_some xnq_some xd_nil xdl_old xdl_new xda_some xd_call xd_kg xdn_some xld xal kindOf isAlloc allocs xins xrem xall xput xget xwhole xmine xcont xq xqs xres XS.add XR.out XR.outU XR.ups xsets XR.res Rs.seq Rs.inSc Rs.block mapO tupleA sv_args adv_eq tget eqs8 eqs7 eqi8 eqi7 eqg8 eql8 eqn8 eqn7 cells_strOf cells_int cells_agg cells_bool cells_str cells_sl cells_nil cells_ptr at_int at_str at_strOf at_bool at_sl at_nil at_ptr unstr_strOf unbyt_byt fill_nil fill_cons replA ev_tm ev_vl sv_stv bin_add bin_sub bin_mul bin_lss bin_leq bin_gtr bin_geq bin_eql bin_neq un_not nth0 nth1 nth2 xst_idxAddrSl xst_idxStr xst_sliceStr xst_sliceSl xsl_sl xbd slN Nat.testBit
def flOk (l : List UInt8) (a : Nat) : Bool := match l[a]? with
  | some c => decide (c.toNat ≤ 1)
  | none => false
def flV (l : List UInt8) (a : Nat) : Bool := match l[a]? with
  | some c => decide (c.toNat = 1)
  | none => false
noncomputable def e_wflag : Ent := mkEnt 20 1 [.own 0, .bsl 0 0] (fun z_ : Pos × Pos × Nat × (List UInt8) => [.ptr z_.1 0 0]) (fun z_ => [[.sl z_.2.1 0 0 z_.2.2.2.length (z_.2.2.2.length + 1) true 1, int64 (z_.2.2.1 : Int)], byt z_.2.2.2]) (fun z_ => z_.1 ≠ z_.2.1 ∧ z_.2.2.1 ≤ z_.2.2.2.length ∧ z_.2.2.2.length ≤ 9000 ∧ (Pos.ofNat 6).num ≤ z_.1.num) (fun z_ => .upd [(z_.1, [.sl z_.2.1 0 0 z_.2.2.2.length (z_.2.2.2.length + 1) true 1, int64 ((if flOk z_.2.2.2 z_.2.2.1 then z_.2.2.1 + 1 else z_.2.2.1 : Nat) : Int)])] (.tup [.bool (flOk z_.2.2.2 z_.2.2.1 && flV z_.2.2.2 z_.2.2.1), int64 (if flOk z_.2.2.2 z_.2.2.1 then 0 else 4)]))
theorem f_wflag : e_wflag.f = 20 := rfl
theorem x_wflag {U : List Ent} {b : Pos} {st : XS} (hU : tget U 20 = some e_wflag) (p : Pos) (q : Pos) (a : Nat) (l : List UInt8) (hp : p ≠ q ∧ a ≤ l.length ∧ l.length ≤ 9000 ∧ (Pos.ofNat 6).num ≤ p.num) (hq : xqs st.X [.ptr p 0 0] [.own 0, .bsl 0 0] = some [[.sl q 0 0 l.length (l.length + 1) true 1, int64 (a : Int)], byt l]) (ho : ((.upd [(p, [.sl q 0 0 l.length (l.length + 1) true 1, int64 ((if flOk l a then a + 1 else a : Nat) : Int)])] (.tup [.bool (flOk l a && flV l a), int64 (if flOk l a then 0 else 4)]) : XR).ups.all fun x => (xown st.X x.1 0).isSome) = true) : xcall U b 20 [.ptr p 0 0] st = none ∧ xupd U b 20 [.ptr p 0 0] st = some (XR.outU b st (.upd [(p, [.sl q 0 0 l.length (l.length + 1) true 1, int64 ((if flOk l a then a + 1 else a : Nat) : Int)])] (.tup [.bool (flOk l a && flV l a), int64 (if flOk l a then 0 else 4)]))) :=
  xupd_at hU rfl hq (mkEnt_spec (by rintro ⟨a0, a1, a2, a3⟩ ⟨b0, b1, b2, b3⟩ h hc; simp only [List.cons.injEq, AV.agg.injEq, AV.tup.injEq, AV.int.injEq, AV.bool.injEq, AV.ptr.injEq, AV.sl.injEq, strOf_eq, byt_eq, map_strOf_eq, true_and, and_true, Int.natCast_inj] at h hc; simp [h, hc]) (p, q, a, l) hp) (by first | rfl | (split <;> rfl)) ho
section
variable {m : Int} {t1 t2 : AV}
theorem wflag_ok : EntOK Tryz.prog (HasG m t1 t2) e_wflag := mkEnt_ok ok_wflag fun z h g hz hc => by
  obtain ⟨p, q, a, l⟩ := z
  obtain ⟨hpq, ha, hl, h6⟩ : p ≠ q ∧ a ≤ l.length ∧ l.length ≤ 9000 ∧ (Pos.ofNat 6).num ≤ p.num := hz
  obtain ⟨_, _, e, ⟨_, ev, w⟩, _, _, e', ⟨_, C, _, ev', w', k', s'⟩, _⟩ := hc
  cases e; cases e'; cases ev; cases ev'
  cases Holds.eq w w'
  cases k'
  dsimp only at *
  obtain ⟨L, kq, tq, aq⟩ := slc_at' s'
  have hX : AllH [⟨p, 0, true, [.sl q 0 0 l.length (l.length + 1) true 1, int64 (a : Int)]⟩, ⟨q, 0, false, L⟩] h := by
    intro x mx
    simp only [List.mem_cons, List.not_mem_nil, or_false] at mx
    rcases mx with rfl | rfl <;> assumption
  have hL : ∀ (j : Nat) (hj : j < l.length), L[j]? = some (.int .u8 (l[j].toNat : Int)) := fun j hj => by
    have e1 : (L.take l.length)[j]? = L[j]? := List.getElem?_take_of_lt hj
    rw [← e1, tq]
    show (l.map _)[j]? = _
    rw [List.getElem?_map, List.getElem?_eq_getElem hj]; rfl
  have gm : ∀ h h', HasG m t1 t2 h → Only [] h h' → HasG m t1 t2 h' := fun _ _ g o => g.more o
  refine upd_of [(p, [.sl q 0 0 l.length (l.length + 1) true 1, int64 ((if flOk l a then a + 1 else a : Nat) : Int)])] (U := [e_wleft]) (K := [e_there]) (fun _ o => g.upd o (by simpa using h6)) (by simp [wleft_ok gm]) (by simp [(there_ok gm).entK]) 0 (.startW h hX (by simpa using hpq) (by simp)) (fun x mx => ?_) wflag_code (by simp [wflag_fu]) rfl ?_
  · simp only [List.mem_singleton] at mx
    subst mx
    exact ⟨_, List.mem_cons_self .., fun y hy => by
      simp only [List.mem_cons, List.not_mem_nil, or_false] at hy
      rcases hy with rfl | rfl
      · right; simp
      · left; rfl⟩
  · show _ = some (AV.tup [.bool (flOk l a && flV l a), int64 (if flOk l a then 0 else 4)], _)
    by_cases hlt : a < l.length
    · have hla := hL a hlt
      have e1 : l[a]? = some l[a] := List.getElem?_eq_getElem hlt
      have hne := eq_false (show ¬ l.length ≤ a by omega)
      have hne2 := eq_false (show ¬ l.length - a = 0 by omega)
      have w1 : wrapA .i64 ((a : Int) + 1) = ((a + 1 : Nat) : Int) := by rw [w64 (by omega) (by omega)]; rfl
      have w2 : wrapA .i64 (a : Int) = (a : Int) := w64 (by omega) (by omega)
      unfold flOk flV
      rw [e1]
      generalize l[a] = c at hla
      by_cases c1 : 1 < c.toNat
      · have c2 := eq_false (show ¬ c.toNat ≤ 1 by omega)
        have c1i := eq_true (show (1 : Int) < (c.toNat : Int) by omega)
        simp [wflag_fu, x_there (q := q) (n := l.length) (a := (a : Int)), f_there, x_wleft (q := q) (n := l.length) (a := a), f_wleft, hpq, hpq.symm, hne, hne2, ha, hl, hlt, hla, w1, w2, c1, c1i, c2, owns, xown]
      · have c2 := eq_true (show c.toNat ≤ 1 by omega)
        have c1i := eq_false (show ¬ (1 : Int) < (c.toNat : Int) by omega)
        have c1 := eq_false c1
        by_cases c3 : c.toNat = 1 <;> simp [wflag_fu, x_there (q := q) (n := l.length) (a := (a : Int)), f_there, x_wleft (q := q) (n := l.length) (a := a), f_wleft, hpq, hpq.symm, hne, hne2, ha, hl, hlt, hla, w1, w2, c1, c1i, c2, c3, owns, xown] <;> omega
    · have e1 : l[a]? = none := List.getElem?_eq_none (by omega)
      have hne := eq_true (show l.length ≤ a by omega)
      have hne2 := eq_true (show l.length - a = 0 by omega)
      unfold flOk flV
      rw [e1]
      simp [wflag_fu, x_there (q := q) (n := l.length) (a := (a : Int)), f_there, x_wleft (q := q) (n := l.length) (a := a), f_wleft, hpq, hpq.symm, hne, hne2, ha, hl, owns, xown]
end
end Go.Proofs.YtjhgembcdndmkaaGreatDoor.St

namespace Go.Proofs.YtjhgembcdndmkaaGreatDoor.St
open Go Go.Proofs.YtjhgembcdndmkaaGreatDoor.Am Go.Proofs Go.RowKit
theorem rd_open {h : Hp} {p q : Pos} {a : Int} {l : List UInt8} {r : List AV} (hc : Conts h (.ptr p 0 0 :: r) [.own 0, .bsl 0 0] [[.sl q 0 0 l.length (l.length + 1) true 1, int64 a], byt l]) :
    ∃ L, AllH [⟨p, 0, true, [.sl q 0 0 l.length (l.length + 1) true 1, int64 a]⟩, ⟨q, 0, false, L⟩] h ∧ L.take l.length = byt l ∧ l.length ≤ L.length ∧ ∀ (j : Nat) (hj : j < l.length), L[j]? = some (.int .u8 (l[j].toNat : Int)) := by
  obtain ⟨_, _, e, ⟨_, ev, w⟩, _, _, e', ⟨_, C, _, ev', w', k', s'⟩, _⟩ := hc
  cases e; cases e'; cases ev; cases ev'
  cases Holds.eq w w'
  cases k'
  obtain ⟨L, kq, tq, aq⟩ := slc_at' s'
  refine ⟨L, ?_, tq, aq, fun j hj => ?_⟩
  · intro x mx
    simp only [List.mem_cons, List.not_mem_nil, or_false] at mx
    rcases mx with rfl | rfl <;> assumption
  · have e1 : (L.take l.length)[j]? = L[j]? := List.getElem?_take_of_lt hj
    rw [← e1, tq]
    show (l.map _)[j]? = _
    rw [List.getElem?_map, List.getElem?_eq_getElem hj]; rfl
theorem rd_had {p q : Pos} {n m : Nat} {a b : Int} {X : List XB} : Had (⟨p, 0, true, [.sl q 0 0 n m true 1, int64 a]⟩ :: X) [(p, [.sl q 0 0 n m true 1, int64 b])] := fun x mx => by
  simp only [List.mem_singleton] at mx
  subst mx
  exact ⟨_, List.mem_cons_self .., fun y hy => by
    simp only [List.mem_cons, List.not_mem_nil, or_false] at hy
    rcases hy with rfl | rfl
    · right; simp
    · left; rfl⟩
theorem updRow_of0 {P : Program} {f : FuncId} {args : List AV} {h : Hp} {G : Hp → Prop} {U K : List Ent} {X : List XB} (u : List (Pos × List AV)) (rid : Pos) (g : Nat) (hG : ∀ h', Only (u.map (·.1)) h h' → G h') (hT : ∀ e ∈ U, EntOK P G e) (hK : ∀ e ∈ K, EntK P G e) (n : Nat) {fu : Fu} {z : AV} {row : List AV} {es : Nat} (i : XI h.next (u.map (·.1)) h ⟨0, X⟩ h) (hu : Had X u) (hc : compFn P f = some fu) (hn : args.length ≤ fu.nargs) (hz : z.plain = true) (hr : ∀ y ∈ row, y.plain = true) (hne : rid ∉ u.map (·.1))
    (e : (xfn P U K h.next n fu args ⟨0, X⟩).bind (fun p => (owns p.2.X (u.map (·.1))).bind fun l => (xown p.2.X rid g).map fun r => (p.1, l, r)) = some (.tup [.sl rid g 0 0 0 true es, z], u.map (·.2), row)) : AmFn P f args h (.tup [.sl h.next 0 0 0 0 true es, z]) (rowN (updsH h u) row) := by
  obtain ⟨p, q, e⟩ := Option.bind_eq_some_iff.1 e
  obtain ⟨w, s'⟩ := p
  obtain ⟨l', kk, e⟩ := Option.bind_eq_some_iff.1 e
  obtain ⟨r', w', e⟩ := Option.map_eq_some_iff.1 e
  cases e
  obtain ⟨h', a, i'⟩ := xfn_ok hG hT hK hc hn i q
  obtain ⟨y', my', rfl, rfl, yo', rfl⟩ := xown_mem w'
  have hid := (i'.own y' my' yo').resolve_left hne
  refine a.updRow i'.only (changed_of i i' hu kk) ((i'.all y' my').gro yo') hid (fun j y q => ⟨q, hr y (List.mem_of_getElem? q)⟩) fun φ ψ x kk r => ?_
  cases r with
  | @tup _ la q => cases la with
    | mk la => cases q with
      | cons q1 q2 => cases q2 with
        | cons q2 q3 =>
          cases q3
          refine .tup (.cons ?_ (.cons (q2.anyφ hz) .nil))
          cases q1 with
          | sl h hb hs hl hc hlc hx ho => exact .sl (kk _ h) hb hs hl hc hlc hx ho
          | sl0 => exact .sl0
theorem adv_nf {h : Hp} {q : Pos} (o : q.num < h.next.num) (j : Nat) : (adv h.next j = q) = False := eq_false fun e => by
  have := congrArg Pos.num e
  rw [adv_num] at this
  omega
theorem adv_fn {h : Hp} {q : Pos} (o : q.num < h.next.num) (j : Nat) : (q = adv h.next j) = False := eq_false fun e => by
  have := congrArg Pos.num e
  rw [adv_num] at this
  omega
theorem xapp_zero {b : Pos} {s : XS} {es bytes g off k cap : Nat} {id : Pos} {ex : Bool} (h1 : 0 < es) (h2 : bytes ≤ 4096) : xapp b s es bytes (.sl id g off k cap ex es) 0 [] = (xsrc s.X es (.sl id g off k cap ex es)).map fun _ => (.sl id g off k cap ex es, s) := by
  unfold xapp
  rw [if_pos ⟨h1, h2, rfl⟩]
  simp
theorem byt_atoms (u : List UInt8) : (byt u).all AV.atom = true := by
  unfold byt
  rw [List.all_map]
  exact List.all_eq_true.2 fun _ _ => rfl
theorem byt_e : byt [] = [] := rfl
noncomputable def bytE (l : List UInt8) (a : Nat) (most : Int) : Int := if cntE l a most = 0 then (if ((l.length - numA l a : Nat) : Int) < numV l a then 4 else 0) else cntE l a most
noncomputable def bytV (l : List UInt8) (a : Nat) : List UInt8 := (l.drop (numA l a)).take (numV l a).toNat
noncomputable def bytA (l : List UInt8) (a : Nat) (most : Int) : Nat := if bytE l a most = 0 then numA l a + (numV l a).toNat else a
noncomputable def slR (r : Pos) (n : Nat) : AV := if n = 0 then .sl r 0 0 0 0 true 1 else slN r n 1
theorem bytV_length {l : List UInt8} {a : Nat} {most : Int} (h : bytE l a most = 0) (hn : 0 ≤ numV l a) : (bytV l a).length = (numV l a).toNat ∧ numA l a + (numV l a).toNat ≤ max l.length (numA l a) := by
  unfold bytE at h
  split at h
  · split at h
    · cases h
    · unfold bytV
      rw [List.length_take, List.length_drop]
      omega
  · exact absurd h (by assumption)
noncomputable def e_wbytes : Ent := mkEnt 101 2 [.own 0, .bsl 0 0] (fun z_ : Pos × Pos × Nat × (List UInt8) × Int => [.ptr z_.1 0 0, int64 z_.2.2.2.2]) (fun z_ => [[.sl z_.2.1 0 0 z_.2.2.2.1.length (z_.2.2.2.1.length + 1) true 1, int64 (z_.2.2.1 : Int)], byt z_.2.2.2.1]) (fun z_ => (z_.1 ≠ z_.2.1 ∧ z_.2.2.1 ≤ z_.2.2.2.1.length ∧ z_.2.2.2.1.length ≤ 9000 ∧ (Pos.ofNat 6).num ≤ z_.1.num) ∧ 0 ≤ z_.2.2.2.2 ∧ z_.2.2.2.2 ≤ 9223372036854775807) (fun z_ => if bytE z_.2.2.2.1 z_.2.2.1 z_.2.2.2.2 = 0 then .updRow [(z_.1, [.sl z_.2.1 0 0 z_.2.2.2.1.length (z_.2.2.2.1.length + 1) true 1, int64 (bytA z_.2.2.2.1 z_.2.2.1 z_.2.2.2.2 : Int)])] (byt (bytV z_.2.2.2.1 z_.2.2.1)) (fun r => .tup [slR r (bytV z_.2.2.2.1 z_.2.2.1).length, int64 0]) else .upd [(z_.1, [.sl z_.2.1 0 0 z_.2.2.2.1.length (z_.2.2.2.1.length + 1) true 1, int64 (bytA z_.2.2.2.1 z_.2.2.1 z_.2.2.2.2 : Int)])] (.tup [.nilSl, int64 (bytE z_.2.2.2.1 z_.2.2.1 z_.2.2.2.2)]))
theorem f_wbytes : e_wbytes.f = 101 := rfl
theorem x_wbytes {U : List Ent} {b : Pos} {st : XS} (hU : tget U 101 = some e_wbytes) (p : Pos) (q : Pos) (a : Nat) (l : List UInt8) (most : Int) (hp : (p ≠ q ∧ a ≤ l.length ∧ l.length ≤ 9000 ∧ (Pos.ofNat 6).num ≤ p.num) ∧ 0 ≤ most ∧ most ≤ 9223372036854775807) (hq : xqs st.X [.ptr p 0 0, int64 most] [.own 0, .bsl 0 0] = some [[.sl q 0 0 l.length (l.length + 1) true 1, int64 (a : Int)], byt l]) (ho : ((if bytE l a most = 0 then .updRow [(p, [.sl q 0 0 l.length (l.length + 1) true 1, int64 (bytA l a most : Int)])] (byt (bytV l a)) (fun r => .tup [slR r (bytV l a).length, int64 0]) else .upd [(p, [.sl q 0 0 l.length (l.length + 1) true 1, int64 (bytA l a most : Int)])] (.tup [.nilSl, int64 (bytE l a most)]) : XR).ups.all fun x => (xown st.X x.1 0).isSome) = true) : xcall U b 101 [.ptr p 0 0, int64 most] st = none ∧ xupd U b 101 [.ptr p 0 0, int64 most] st = some (XR.outU b st (if bytE l a most = 0 then .updRow [(p, [.sl q 0 0 l.length (l.length + 1) true 1, int64 (bytA l a most : Int)])] (byt (bytV l a)) (fun r => .tup [slR r (bytV l a).length, int64 0]) else .upd [(p, [.sl q 0 0 l.length (l.length + 1) true 1, int64 (bytA l a most : Int)])] (.tup [.nilSl, int64 (bytE l a most)]))) :=
  xupd_at hU rfl hq (mkEnt_spec (by rintro ⟨a0, a1, a2, a3, a4⟩ ⟨b0, b1, b2, b3, b4⟩ h hc; simp only [List.cons.injEq, AV.agg.injEq, AV.tup.injEq, AV.int.injEq, AV.bool.injEq, AV.ptr.injEq, AV.sl.injEq, strOf_eq, byt_eq, map_strOf_eq, true_and, and_true, Int.natCast_inj] at h hc; simp [h, hc]) (p, q, a, l, most) hp) (by first | rfl | (split <;> rfl)) ho
end Go.Proofs.YtjhgembcdndmkaaGreatDoor.St

namespace Go.Proofs.YtjhgembcdndmkaaGreatDoor.St
open Go Go.Proofs.YtjhgembcdndmkaaGreatDoor.Am Go.Proofs Go.RowKit
attribute [local simp] xr_mov xd_mov xr_pick xd_pick xr_bin xd_bin xr_un xd_un xr_build xr_convInt xd_convInt xr_mkFn xr_fld xd_fld xr_extract xr_lenS xr_lenL xd_lenL xr_nilPtr xd_nilPtr xr_load1 xd_load1 xr_loadN xd_loadN xr_bytesStr xd_bytesStr xr_eqPtr xr_new xr_box xr_buildSl xd_buildSl xd_strBytes xr_mkSl xr_idxAddrSl xd_idxAddrSl xr_idxStr xd_sliceSl orU_some orU_none lenSA_str lenSA_strOf lenLA_sl lenLA_nil xfn xcode xdrawn xr_nil xr_kg xr_kgu xr_call xr_store xr_append xd_append xap_sl xap_nl xapq_some xsrc_sl xsrc_nil xapp_nil xapp_grow xapp_room xset xown xnx_some xnp_some xnq_some xd_nil xdl_old xdl_new xda_some xd_call xd_kg xdn_some xld xal kindOf isAlloc allocs xins xrem xall xput xget xwhole xmine xcont xq xqs xres XS.add XR.out XR.outU XR.ups xsets XR.res Rs.seq Rs.inSc Rs.block mapO tupleA sv_args adv_eq tget eqs8 eqs7 eqi8 eqi7 eqg8 eql8 eqn8 eqn7 cells_strOf cells_int cells_agg cells_bool cells_str cells_sl cells_nil cells_ptr at_int at_str at_strOf at_bool at_sl at_nil at_ptr unstr_strOf unbyt_byt fill_nil fill_cons replA ev_tm ev_vl sv_stv bin_add bin_sub bin_mul bin_lss bin_leq bin_gtr bin_geq bin_eql bin_neq un_not nth0 nth1 nth2 xst_idxAddrSl xst_idxStr xst_sliceStr xst_sliceSl xsl_sl xbd slN Nat.testBit
section
variable {m : Int} {t1 t2 : AV}
theorem numV_zero_of {l : List UInt8} {a : Nat} {most : Int} (h : cntE l a most = 0) : (numR l a).isSome = true ∧ ¬ most < numV l a := by
  unfold cntE at h
  split at h
  · rename_i c
    split at h
    · cases h
    · exact ⟨c, by assumption⟩
  · cases h
theorem wbytes_ok : EntOK Tryz.prog (HasG m t1 t2) e_wbytes := mkEnt_ok ok_wbytes fun z h g hz hc => by
  obtain ⟨p, q, a, l, most⟩ := z
  have hz' := hz
  obtain ⟨⟨hpq, ha, hl, h6⟩, hm0, hm1⟩ : (p ≠ q ∧ a ≤ l.length ∧ l.length ≤ 9000 ∧ (Pos.ofNat 6).num ≤ p.num) ∧ 0 ≤ most ∧ most ≤ 9223372036854775807 := hz
  obtain ⟨L, hX, tq, aq, hL⟩ := rd_open (p := p) (q := q) (a := (a : Int)) (l := l) hc
  have oq : q.num < h.next.num := (hX _ (List.mem_cons_of_mem _ (List.mem_cons_self ..))).old
  have op : p.num < h.next.num := (hX _ (List.mem_cons_self ..)).old
  have gm : ∀ h h', HasG m t1 t2 h → Only [] h h' → HasG m t1 t2 h' := fun _ _ g o => g.more o
  have v0 := numV_nonneg l a
  obtain ⟨nA1, nA2⟩ := numA_le (l := l) (a := a) ha
  have hU : ∀ e ∈ ([] : List Ent), EntOK Tryz.prog (HasG m t1 t2) e := by simp
  have hK : ∀ e ∈ [e_there, e_wleft, e_wcount], EntK Tryz.prog (HasG m t1 t2) e := by simp [(there_ok gm).entK, (wleft_ok gm).entK, wcount_ok.entK]
  have N := fun {U b st} (hU : tget U 119 = some e_wcount) hq ho => x_wcount (U := U) (b := b) (st := st) hU p q a l most hz' hq ho
  have TH := fun {U b st} (hU : tget U 64 = some e_there) hq => x_there (U := U) (b := b) (st := st) hU p q l.length (a : Int) hq
  have LF := fun {U b st} (hU : tget U 19 = some e_wleft) hq => x_wleft (U := U) (b := b) (st := st) hU p q l.length (numA l a) ⟨nA2, hl⟩ hq
  show AmFn _ _ _ _ ((if bytE l a most = 0 then XR.updRow _ _ _ else XR.upd _ _).res h).1 ((if bytE l a most = 0 then XR.updRow _ _ _ else XR.upd _ _).res h).2
  have hb : bytE l a most = if cntE l a most = 0 then (if ((l.length - numA l a : Nat) : Int) < numV l a then 4 else 0) else cntE l a most := rfl
  have hba : bytA l a most = if bytE l a most = 0 then numA l a + (numV l a).toNat else a := rfl
  have hcv : cntV l a most = if cntE l a most = 0 then numV l a else 0 := rfl
  have hX2 : XI h.next [p] h ⟨0, [⟨p, 0, true, [.sl q 0 0 l.length (l.length + 1) true 1, int64 (a : Int)]⟩, ⟨q, 0, false, L⟩]⟩ h := .startW h hX (by simpa using hpq) (by simp)
  by_cases c0 : cntE l a most = 0
  · obtain ⟨s1, s2⟩ := numV_zero_of c0
    rw [if_pos c0] at hb hcv
    by_cases c1 : ((l.length - numA l a : Nat) : Int) < numV l a
    · rw [if_pos c1] at hb
      rw [hb, if_neg (by decide)] at hba
      rw [hb, hba, if_neg (by decide)]
      refine upd_of [(p, [.sl q 0 0 l.length (l.length + 1) true 1, int64 (a : Int)])] (fun _ o => g.upd o (by simpa using h6)) hU hK 0 hX2 rd_had wbytes_code (by simp [wbytes_fu]) rfl ?_
      simp [wbytes_fu, TH, N, LF, f_there, f_wcount, f_wleft, hpq, hpq.symm, tq, aq, owns, xown, c0, hcv, c1]
    · rw [if_neg c1] at hb
      rw [hb, if_pos rfl] at hba
      obtain ⟨n, hn⟩ : ∃ n : Nat, numV l a = n := ⟨(numV l a).toNat, by omega⟩
      have hlen : (bytV l a).length = n := by unfold bytV; rw [List.length_take, List.length_drop]; omega
      have hle : numA l a + n ≤ l.length := by omega
      have hbv : (L.drop (numA l a)).take n = byt (bytV l a) := by
        unfold bytV
        rw [hn, Int.toNat_natCast]
        have e1 : byt ((l.drop (numA l a)).take n) = ((byt l).drop (numA l a)).take n := by unfold byt; rw [List.map_take, List.map_drop]
        rw [e1, ← tq, List.drop_take, List.take_take, Nat.min_eq_left (show n ≤ l.length - numA l a by omega)]
      have w1 : wrapA .i64 ((numA l a : Int) + (n : Int)) = ((numA l a + n : Nat) : Int) := by rw [w64 (by omega) (by omega)]; rfl
      have w3 : wrapA .i64 (numA l a : Int) = (numA l a : Int) := w64 (by omega) (by omega)
      rw [hn, Int.toNat_natCast] at hba
      rw [hn] at hcv c1
      rw [hb, hba, if_pos rfl]
      have eR : ∀ (u : List (Pos × List AV)) (row : List AV) (v : Pos → AV), (XR.updRow u row v).res h = (v h.next, rowN (updsH h u) row) := fun _ _ _ => rfl
      rw [eR, hlen]
      dsimp only
      have k1 := eq_true (show numA l a ≤ l.length + 1 by omega)
      have k2 := eq_false (show ¬ numA l a = l.length + 1 by omega)
      have k3 := eq_true (show numA l a ≤ L.length by omega)
      by_cases n0 : n = 0
      · subst n0
        have e0 : byt (bytV l a) = [] := by rw [← hbv]; rfl
        rw [show slR h.next 0 = .sl h.next 0 0 0 0 true 1 from if_pos rfl]
        rw [Nat.add_zero] at hba ⊢
        refine updRow_of0 [(p, [.sl q 0 0 l.length (l.length + 1) true 1, int64 (numA l a : Int)])] h.next 0 (fun _ o => g.upd o (by simpa using h6)) hU hK 0 hX2 rd_had wbytes_code (by simp [wbytes_fu]) rfl (fun y my => by rw [e0] at my; cases my) ?_ ?_
        · have : h.next ≠ p := fun e => by rw [← e] at op; omega
          simpa using this
        · have c1' := eq_false (show ¬ ((l.length - numA l a : Nat) : Int) < 0 by omega)
          simp [wbytes_fu, TH, N, LF, f_there, f_wcount, f_wleft, hpq, hpq.symm, tq, aq, owns, xown, c0, hcv, c1', w1, w3, k1, k2, k3, e0, adv_nf oq, adv_fn oq, adv_nf op, adv_fn op, xapp_zero]
          rfl
      · have hlr : slR h.next n = slN h.next n 1 := if_neg n0
        rw [hlr]
        refine updRow_of [(p, [.sl q 0 0 l.length (l.length + 1) true 1, int64 ((numA l a + n : Nat) : Int)])] (adv h.next 1) 0 n false (fun _ o => g.upd o (by simpa using h6)) hU hK 0 hX2 rd_had wbytes_code (by simp [wbytes_fu]) rfl (fun y my => ?_) ?_ (.inr rfl) ?_
        · obtain ⟨j, hj, rfl⟩ := List.getElem_of_mem my
          exact plain_byt _ j _ (List.getElem?_eq_getElem hj)
        · have : adv h.next 1 ≠ p := fun e => by rw [← e, adv_num] at op; omega
          simpa using this
        · have t1 : ((numA l a : Int) + (n : Int)).toNat = numA l a + n := by omega
          have t2 := eq_true (show (0 : Int) ≤ (numA l a : Int) + (n : Int) by omega)
          have t3 := eq_true (show numA l a + n ≤ l.length + 1 by omega)
          have t4 := eq_true (show numA l a + n ≤ L.length by omega)
          have t5 := eq_true (show n ≤ 1073741824 by omega)
          have RM := fun (s : XS) => xapp_room (b := h.next) (s := s) (bytes := 0) (k := 0) (cap := 0) (n := n) (id := adv h.next 0) (c := byt (bytV l a)) (by omega) (byt_atoms _) (by unfold byt; rw [List.length_map, hlen]) n0 (by omega)
          simp [wbytes_fu, RM, TH, N, LF, f_there, f_wcount, f_wleft, hpq, hpq.symm, tq, aq, owns, xown, c0, hcv, c1, w1, w3, k1, k2, k3, adv_nf oq, adv_fn oq, adv_nf op, adv_fn op, n0, t1, t2, t3, t4, t5, hbv, hlen]
  · rw [if_neg c0] at hb hcv
    rw [hb] at hba ⊢
    rw [if_neg c0] at hba
    rw [hba, if_neg c0]
    refine upd_of [(p, [.sl q 0 0 l.length (l.length + 1) true 1, int64 (a : Int)])] (fun _ o => g.upd o (by simpa using h6)) hU hK 0 hX2 rd_had wbytes_code (by simp [wbytes_fu]) rfl ?_
    simp [wbytes_fu, TH, N, LF, f_there, f_wcount, f_wleft, hpq, hpq.symm, tq, aq, owns, xown, c0, hcv]
end
end Go.Proofs.YtjhgembcdndmkaaGreatDoor.St

namespace Go.Proofs.YtjhgembcdndmkaaGreatDoor.St
open Go Go.Proofs.YtjhgembcdndmkaaGreatDoor.Am Go.Proofs Go.RowKit
attribute [local simp] xr_mov xd_mov xr_pick xd_pick xr_bin xd_bin xr_un xd_un xr_build xr_convInt xd_convInt xr_mkFn xr_fld xd_fld xr_extract xr_lenS xr_lenL xd_lenL xr_nilPtr xd_nilPtr xr_load1 xd_load1 xr_loadN xd_loadN xr_bytesStr xd_bytesStr xr_eqPtr xr_new xr_box xr_buildSl xd_buildSl xd_strBytes xr_mkSl xr_idxAddrSl xd_idxAddrSl xr_idxStr xd_sliceSl orU_some orU_none lenSA_str lenSA_strOf lenLA_sl lenLA_nil xfn xcode xdrawn xr_nil xr_kg xr_kgu xr_call xr_store xr_append xd_append xap_sl xap_nl xapq_some xsrc_sl xsrc_nil xapp_nil xapp_grow xapp_room xset xown xnx_some xnp_some xnq_some xd_nil xdl_old xdl_new xda_some xd_call xd_kg xdn_some xld xal kindOf isAlloc allocs xins xrem xall xput xget xwhole xmine xcont xq xqs xres XS.add XR.out XR.outU XR.ups xsets XR.res Rs.seq Rs.inSc Rs.block mapO tupleA sv_args adv_eq tget eqs8 eqs7 eqi8 eqi7 eqg8 eql8 eqn8 eqn7 cells_strOf cells_int cells_agg cells_bool cells_str cells_sl cells_nil cells_ptr at_int at_str at_strOf at_bool at_sl at_nil at_ptr unstr_strOf unbyt_byt fill_nil fill_cons replA ev_tm ev_vl sv_stv bin_add bin_sub bin_mul bin_lss bin_leq bin_gtr bin_geq bin_eql bin_neq un_not nth0 nth1 nth2 xst_idxAddrSl xst_idxStr xst_sliceStr xst_sliceSl xsl_sl xbd slN Nat.testBit
theorem rx_open {h : Hp} {x p q : Pos} {a : Int} {bad : Bool} {l : List UInt8} {r : List AV} (hc : Conts h (.ptr x 0 0 :: r) [.own 0, .ownAt 0 0, .bslAt 0 0 0] [[.ptr p 0 0, .bool bad], [.sl q 0 0 l.length (l.length + 1) true 1, int64 a], byt l]) :
    ∃ L, AllH [⟨x, 0, true, [.ptr p 0 0, .bool bad]⟩, ⟨p, 0, true, [.sl q 0 0 l.length (l.length + 1) true 1, int64 a]⟩, ⟨q, 0, false, L⟩] h ∧ L.take l.length = byt l ∧ l.length ≤ L.length := by
  obtain ⟨_, _, e, ⟨_, ev, w⟩, _, _, e', ⟨_, A, _, ev', w', k', s'⟩, _, _, e2, ⟨_, B, _, C, _, ev2, w2, k2, w3, k3, s3⟩, _⟩ := hc
  cases e; cases e'; cases e2; cases ev; cases ev'; cases ev2
  cases Holds.eq w w'
  cases Holds.eq w w2
  cases k'; cases k2
  cases Holds.eq s' w3
  cases k3
  obtain ⟨L, kq, tq, aq⟩ := slc_at' s3
  refine ⟨L, ?_, tq, aq⟩
  intro y mx
  simp only [List.mem_cons, List.not_mem_nil, or_false] at mx
  rcases mx with rfl | rfl | rfl <;> assumption
theorem rx_had {x p q : Pos} {n m : Nat} {a a' : Int} {b b' : Bool} {X : List XB} : Had (⟨x, 0, true, [.ptr p 0 0, .bool b]⟩ :: ⟨p, 0, true, [.sl q 0 0 n m true 1, int64 a]⟩ :: X) [(x, [.ptr p 0 0, .bool b']), (p, [.sl q 0 0 n m true 1, int64 a'])] := fun y my => by
  simp only [List.mem_cons, List.not_mem_nil, or_false] at my
  rcases my with rfl | rfl
  · exact ⟨_, List.mem_cons_self .., fun y hy => by
      simp only [List.mem_cons, List.not_mem_nil, or_false] at hy
      rcases hy with rfl | rfl
      · right; simp
      · left; rfl⟩
  · exact ⟨_, List.mem_cons_of_mem _ (List.mem_cons_self ..), fun y hy => by
      simp only [List.mem_cons, List.not_mem_nil, or_false] at hy
      rcases hy with rfl | rfl
      · right; simp
      · left; rfl⟩
noncomputable def gOk (l : List UInt8) (a : Nat) : Bool := (numR l a).isSome && decide (numV l a ≤ 4611686018427387904)
noncomputable def gV (l : List UInt8) (a : Nat) : Int := if gOk l a = true then numV l a else 0
def RdP (x p q : Pos) (a : Nat) (l : List UInt8) : Prop := (p ≠ q ∧ a ≤ l.length ∧ l.length ≤ 9000 ∧ (Pos.ofNat 6).num ≤ p.num) ∧ x ≠ p ∧ x ≠ q ∧ (Pos.ofNat 6).num ≤ x.num
noncomputable def e_gnumber : Ent := mkEnt 75 1 [.own 0, .ownAt 0 0, .bslAt 0 0 0] (fun z_ : Pos × Pos × Pos × Nat × Bool × (List UInt8) => [.ptr z_.1 0 0]) (fun z_ => [[.ptr z_.2.1 0 0, .bool z_.2.2.2.2.1], [.sl z_.2.2.1 0 0 z_.2.2.2.2.2.length (z_.2.2.2.2.2.length + 1) true 1, int64 (z_.2.2.2.1 : Int)], byt z_.2.2.2.2.2]) (fun z_ => RdP z_.1 z_.2.1 z_.2.2.1 z_.2.2.2.1 z_.2.2.2.2.2) (fun z_ => .upd [(z_.1, [.ptr z_.2.1 0 0, .bool (z_.2.2.2.2.1 || !gOk z_.2.2.2.2.2 z_.2.2.2.1)]), (z_.2.1, [.sl z_.2.2.1 0 0 z_.2.2.2.2.2.length (z_.2.2.2.2.2.length + 1) true 1, int64 (numA z_.2.2.2.2.2 z_.2.2.2.1 : Int)])] (int64 (gV z_.2.2.2.2.2 z_.2.2.2.1)))
theorem f_gnumber : e_gnumber.f = 75 := rfl
theorem x_gnumber {U : List Ent} {b : Pos} {st : XS} (hU : tget U 75 = some e_gnumber) (x : Pos) (p : Pos) (q : Pos) (a : Nat) (bad : Bool) (l : List UInt8) (hp : RdP x p q a l) (hq : xqs st.X [.ptr x 0 0] [.own 0, .ownAt 0 0, .bslAt 0 0 0] = some [[.ptr p 0 0, .bool bad], [.sl q 0 0 l.length (l.length + 1) true 1, int64 (a : Int)], byt l]) (ho : ((.upd [(x, [.ptr p 0 0, .bool (bad || !gOk l a)]), (p, [.sl q 0 0 l.length (l.length + 1) true 1, int64 (numA l a : Int)])] (int64 (gV l a)) : XR).ups.all fun x => (xown st.X x.1 0).isSome) = true) : xcall U b 75 [.ptr x 0 0] st = none ∧ xupd U b 75 [.ptr x 0 0] st = some (XR.outU b st (.upd [(x, [.ptr p 0 0, .bool (bad || !gOk l a)]), (p, [.sl q 0 0 l.length (l.length + 1) true 1, int64 (numA l a : Int)])] (int64 (gV l a)))) :=
  xupd_at hU rfl hq (mkEnt_spec (by rintro ⟨a0, a1, a2, a3, a4, a5⟩ ⟨b0, b1, b2, b3, b4, b5⟩ h hc; simp only [List.cons.injEq, AV.agg.injEq, AV.tup.injEq, AV.int.injEq, AV.bool.injEq, AV.ptr.injEq, AV.sl.injEq, strOf_eq, byt_eq, map_strOf_eq, true_and, and_true, Int.natCast_inj] at h hc; simp [h, hc]) (x, p, q, a, bad, l) hp) (by first | rfl | (split <;> rfl)) ho
section
variable {m : Int} {t1 t2 : AV}
theorem gnumber_ok : EntOK Tryz.prog (HasG m t1 t2) e_gnumber := mkEnt_ok ok_gnumber fun z h g hz hc => by
  obtain ⟨x, p, q, a, bad, l⟩ := z
  obtain ⟨⟨hpq, ha, hl, h6⟩, hxp, hxq, h6x⟩ : RdP x p q a l := hz
  obtain ⟨L, hX, tq, aq⟩ := rx_open (x := x) (p := p) (q := q) (a := (a : Int)) (bad := bad) (l := l) hc
  have N := fun {U b st} (hU : tget U 21 = some e_wnum) hq ho => x_wnum (U := U) (b := b) (st := st) hU p q a l ⟨hpq, ha, hl, h6⟩ hq ho
  have v0 := numV_nonneg l a
  have gd : gOk l a = ((numR l a).isSome && decide (numV l a ≤ 4611686018427387904)) := rfl
  have gv : gV l a = if gOk l a = true then numV l a else 0 := rfl
  have hX2 : XI h.next [x, p] h ⟨0, [⟨x, 0, true, [.ptr p 0 0, .bool bad]⟩, ⟨p, 0, true, [.sl q 0 0 l.length (l.length + 1) true 1, int64 (a : Int)]⟩, ⟨q, 0, false, L⟩]⟩ h := .startW h hX (by simpa using ⟨⟨hxp, hxq⟩, hpq⟩) (by simp)
  refine upd_of (U := []) (K := [e_wnum]) [(x, [.ptr p 0 0, .bool (bad || !gOk l a)]), (p, [.sl q 0 0 l.length (l.length + 1) true 1, int64 (numA l a : Int)])] (fun _ o => g.upd o (by simpa using ⟨h6x, h6⟩)) (by simp) (by simp [wnum_ok.entK]) 0 hX2 rx_had gnumber_code (by simp [gnumber_fu]) rfl ?_
  cases hs : (numR l a).isSome
  · have eE : numE l a = 4 := by unfold numE; rw [hs]; rfl
    rw [hs] at gd
    rw [gd] at gv
    simp [gnumber_fu, N, f_wnum, hpq, hpq.symm, hxp, hxp.symm, hxq, hxq.symm, tq, aq, owns, xown, eE, gd, gv]
  · have eE : numE l a = 0 := by unfold numE; rw [hs]; rfl
    rw [hs] at gd
    by_cases c : numV l a ≤ 4611686018427387904
    · have c' := eq_false (show ¬ 4611686018427387904 < numV l a by omega)
      have w := w64 (n := numV l a) (by omega) (by omega)
      have c := eq_true c
      rw [gd] at gv
      simp [gnumber_fu, N, f_wnum, hpq, hpq.symm, hxp, hxp.symm, hxq, hxq.symm, tq, aq, owns, xown, eE, gd, gv, c, c', w]
    · have c' := eq_true (show 4611686018427387904 < numV l a by omega)
      have c := eq_false c
      rw [gd] at gv
      simp [gnumber_fu, N, f_wnum, hpq, hpq.symm, hxp, hxp.symm, hxq, hxq.symm, tq, aq, owns, xown, eE, gd, gv, c, c']
end
end Go.Proofs.YtjhgembcdndmkaaGreatDoor.St

namespace Go.Proofs.YtjhgembcdndmkaaGreatDoor.St
open Go Go.Proofs.YtjhgembcdndmkaaGreatDoor.Am Go.Proofs Go.RowKit
attribute [local simp] xr_mov xd_mov xr_pick xd_pick xr_bin xd_bin xr_un xd_un xr_build xr_convInt xd_convInt xr_mkFn xr_fld xd_fld xr_extract xr_lenS xr_lenL xd_lenL xr_nilPtr xd_nilPtr xr_load1 xd_load1 xr_loadN xd_loadN xr_bytesStr xd_bytesStr xr_eqPtr xr_new xr_box xr_buildSl xd_buildSl xd_strBytes xr_mkSl xr_idxAddrSl xd_idxAddrSl xr_idxStr xd_sliceSl orU_some orU_none lenSA_str lenSA_strOf lenLA_sl lenLA_nil xfn xcode xdrawn xr_nil xr_kg xr_kgu xr_call xr_store xr_append xd_append xap_sl xap_nl xapq_some xsrc_sl xsrc_nil xapp_nil xapp_grow xapp_room xset xown xnx_some xnp_some xnq_some xd_nil xdl_old xdl_new xda_some xd_call xd_kg xdn_some xld xal kindOf isAlloc allocs xins xrem xall xput xget xwhole xmine xcont xq xqs xres XS.add XR.out XR.outU XR.ups xsets XR.res Rs.seq Rs.inSc Rs.block mapO tupleA sv_args adv_eq tget eqs8 eqs7 eqi8 eqi7 eqg8 eql8 eqn8 eqn7 cells_strOf cells_int cells_agg cells_bool cells_str cells_sl cells_nil cells_ptr at_int at_str at_strOf at_bool at_sl at_nil at_ptr unstr_strOf unbyt_byt fill_nil fill_cons replA ev_tm ev_vl sv_stv bin_add bin_sub bin_mul bin_lss bin_leq bin_gtr bin_geq bin_eql bin_neq un_not nth0 nth1 nth2 xst_idxAddrSl xst_idxStr xst_sliceStr xst_sliceSl xsl_sl xbd slN Nat.testBit
noncomputable def bOk (l : List UInt8) (a : Nat) : Bool := decide (bytE l a 12 = 0)
noncomputable def bV (l : List UInt8) (a : Nat) : List UInt8 := if bOk l a = true then bytV l a else []
noncomputable def gbA (l : List UInt8) (a : Nat) : Nat := bytA l (numA l a) 12
noncomputable def gbOk (l : List UInt8) (a : Nat) : Bool := gOk l a && bOk l (numA l a)
theorem bytA_le {l : List UInt8} {a : Nat} (h : a ≤ l.length) (most : Int) : a ≤ bytA l a most ∧ bytA l a most ≤ l.length := by
  unfold bytA
  have := numA_le h
  split
  · rename_i c
    have := bytV_length c (numV_nonneg l a)
    unfold bytE at c
    split at c
    · split at c
      · cases c
      · have := numV_nonneg l a
        omega
    · exact absurd c (by assumption)
  · exact ⟨Nat.le_refl _, h⟩
noncomputable def e_gbranch : Ent := mkEnt 66 1 [.own 0, .ownAt 0 0, .bslAt 0 0 0] (fun z_ : Pos × Pos × Pos × Nat × Bool × (List UInt8) => [.ptr z_.1 0 0]) (fun z_ => [[.ptr z_.2.1 0 0, .bool z_.2.2.2.2.1], [.sl z_.2.2.1 0 0 z_.2.2.2.2.2.length (z_.2.2.2.2.2.length + 1) true 1, int64 (z_.2.2.2.1 : Int)], byt z_.2.2.2.2.2]) (fun z_ => RdP z_.1 z_.2.1 z_.2.2.1 z_.2.2.2.1 z_.2.2.2.2.2) (fun z_ => .upd [(z_.1, [.ptr z_.2.1 0 0, .bool (z_.2.2.2.2.1 || !gbOk z_.2.2.2.2.2 z_.2.2.2.1)]), (z_.2.1, [.sl z_.2.2.1 0 0 z_.2.2.2.2.2.length (z_.2.2.2.2.2.length + 1) true 1, int64 (gbA z_.2.2.2.2.2 z_.2.2.2.1 : Int)])] (.agg [int64 (gV z_.2.2.2.2.2 z_.2.2.2.1), strOf (bV z_.2.2.2.2.2 (numA z_.2.2.2.2.2 z_.2.2.2.1))]))
theorem f_gbranch : e_gbranch.f = 66 := rfl
theorem x_gbranch {U : List Ent} {b : Pos} {st : XS} (hU : tget U 66 = some e_gbranch) (x : Pos) (p : Pos) (q : Pos) (a : Nat) (bad : Bool) (l : List UInt8) (hp : RdP x p q a l) (hq : xqs st.X [.ptr x 0 0] [.own 0, .ownAt 0 0, .bslAt 0 0 0] = some [[.ptr p 0 0, .bool bad], [.sl q 0 0 l.length (l.length + 1) true 1, int64 (a : Int)], byt l]) (ho : ((.upd [(x, [.ptr p 0 0, .bool (bad || !gbOk l a)]), (p, [.sl q 0 0 l.length (l.length + 1) true 1, int64 (gbA l a : Int)])] (.agg [int64 (gV l a), strOf (bV l (numA l a))]) : XR).ups.all fun x => (xown st.X x.1 0).isSome) = true) : xcall U b 66 [.ptr x 0 0] st = none ∧ xupd U b 66 [.ptr x 0 0] st = some (XR.outU b st (.upd [(x, [.ptr p 0 0, .bool (bad || !gbOk l a)]), (p, [.sl q 0 0 l.length (l.length + 1) true 1, int64 (gbA l a : Int)])] (.agg [int64 (gV l a), strOf (bV l (numA l a))]))) :=
  xupd_at hU rfl hq (mkEnt_spec (by rintro ⟨a0, a1, a2, a3, a4, a5⟩ ⟨b0, b1, b2, b3, b4, b5⟩ h hc; simp only [List.cons.injEq, AV.agg.injEq, AV.tup.injEq, AV.int.injEq, AV.bool.injEq, AV.ptr.injEq, AV.sl.injEq, strOf_eq, byt_eq, map_strOf_eq, true_and, and_true, Int.natCast_inj] at h hc; simp [h, hc]) (x, p, q, a, bad, l) hp) (by first | rfl | (split <;> rfl)) ho
section
variable {m : Int} {t1 t2 : AV}
theorem gbranch_ok : EntOK Tryz.prog (HasG m t1 t2) e_gbranch := mkEnt_ok ok_gbranch fun z h g hz hc => by
  obtain ⟨x, p, q, a, bad, l⟩ := z
  have hz1 := hz
  obtain ⟨⟨hpq, ha, hl, h6⟩, hxp, hxq, h6x⟩ : RdP x p q a l := hz
  obtain ⟨L, hX, tq, aq⟩ := rx_open (x := x) (p := p) (q := q) (a := (a : Int)) (bad := bad) (l := l) hc
  have nA := numA_le (l := l) (a := a) ha
  have N := fun {U b st} (hU : tget U 75 = some e_gnumber) hq ho => x_gnumber (U := U) (b := b) (st := st) hU x p q a bad l hz1 hq ho
  have B := fun {U b st} (hU : tget U 101 = some e_wbytes) hq ho => x_wbytes (U := U) (b := b) (st := st) hU p q (numA l a) l 12 ⟨⟨hpq, nA.2, hl, h6⟩, by omega, by omega⟩ hq ho
  have ox : x.num < h.next.num := (hX _ (List.mem_cons_self ..)).old
  have op : p.num < h.next.num := (hX _ (List.mem_cons_of_mem _ (List.mem_cons_self ..))).old
  have oq : q.num < h.next.num := (hX _ (List.mem_cons_of_mem _ (List.mem_cons_of_mem _ (List.mem_cons_self ..)))).old
  have hX2 : XI h.next [x, p] h ⟨0, [⟨x, 0, true, [.ptr p 0 0, .bool bad]⟩, ⟨p, 0, true, [.sl q 0 0 l.length (l.length + 1) true 1, int64 (a : Int)]⟩, ⟨q, 0, false, L⟩]⟩ h := .startW h hX (by simpa using ⟨⟨hxp, hxq⟩, hpq⟩) (by simp)
  refine upd_of (U := []) (K := [e_gnumber, e_wbytes]) [(x, [.ptr p 0 0, .bool (bad || !gbOk l a)]), (p, [.sl q 0 0 l.length (l.length + 1) true 1, int64 (gbA l a : Int)])] (fun _ o => g.upd o (by simpa using ⟨h6x, h6⟩)) (by simp) (by simp [gnumber_ok.entK, wbytes_ok.entK]) 0 hX2 rx_had gbranch_code (by simp [gbranch_fu]) rfl ?_
  have gd : gbOk l a = (gOk l a && bOk l (numA l a)) := rfl
  have bd : bOk l (numA l a) = decide (bytE l (numA l a) 12 = 0) := rfl
  have bv : bV l (numA l a) = if bOk l (numA l a) = true then bytV l (numA l a) else [] := rfl
  have ga : bytA l (numA l a) 12 = gbA l a := rfl
  have hE : bytE l (numA l a) 12 = 0 ∨ bytE l (numA l a) 12 ≠ 0 := Decidable.em _
  rcases hE with c | c
  · have bd : bOk l (numA l a) = true := by rw [bd, c]; rfl
    rw [if_pos bd] at bv
    rw [bd] at gd
    generalize bytV l (numA l a) = u at *
    generalize bytA l (numA l a) 12 = a2 at *
    generalize gV l a = v at *
    by_cases n0 : u.length = 0
    · obtain rfl : u = [] := List.eq_nil_of_length_eq_zero n0
      cases bad <;> cases hg : gOk l a <;> rw [hg] at gd <;> simp [gbranch_fu, N, B, f_gnumber, f_wbytes, hpq, hpq.symm, hxp, hxp.symm, hxq, hxq.symm, tq, aq, owns, xown, c, gd, bv, hg, slR, ga, adv_nf oq, adv_fn oq, adv_nf op, adv_fn op, adv_nf ox, adv_fn ox, byt_take, byt_e, unbyt_nil, strOf_nil, byt_length]
    · cases bad <;> cases hg : gOk l a <;> rw [hg] at gd <;> simp [gbranch_fu, N, B, f_gnumber, f_wbytes, hpq, hpq.symm, hxp, hxp.symm, hxq, hxq.symm, tq, aq, owns, xown, c, gd, bv, hg, slR, n0, ga, adv_nf oq, adv_fn oq, adv_nf op, adv_fn op, adv_nf ox, adv_fn ox, byt_take, byt_e, unbyt_nil, strOf_nil, byt_length]
  · have bd : bOk l (numA l a) = false := by rw [bd]; simpa using c
    rw [bd, if_neg (by decide)] at bv
    rw [bd] at gd
    generalize bytA l (numA l a) 12 = a2 at *
    generalize gV l a = v at *
    cases bad <;> cases hg : gOk l a <;> rw [hg] at gd <;> simp [gbranch_fu, N, B, f_gnumber, f_wbytes, hpq, hpq.symm, hxp, hxp.symm, hxq, hxq.symm, tq, aq, owns, xown, c, gd, bv, hg, slR, ga, adv_nf oq, adv_fn oq, adv_nf op, adv_fn op, adv_nf ox, adv_fn ox, byt_take, byt_e, unbyt_nil, strOf_nil, byt_length]
end
end Go.Proofs.YtjhgembcdndmkaaGreatDoor.St

namespace Go.Proofs.YtjhgembcdndmkaaGreatDoor.St
open Go Go.Proofs.YtjhgembcdndmkaaGreatDoor.Am Go.Proofs Go.RowKit
attribute [local simp] xr_mov xd_mov xr_pick xd_pick xr_bin xd_bin xr_un xd_un xr_build xr_convInt xd_convInt xr_mkFn xr_fld xd_fld xr_extract xr_lenS xr_lenL xd_lenL xr_nilPtr xd_nilPtr xr_load1 xd_load1 xr_loadN xd_loadN xr_bytesStr xd_bytesStr xr_eqPtr xr_new xr_box xr_buildSl xd_buildSl xd_strBytes xr_mkSl xr_idxAddrSl xd_idxAddrSl xr_idxStr xd_sliceSl orU_some orU_none lenSA_str lenSA_strOf lenLA_sl lenLA_nil xfn xcode xdrawn xr_nil xr_kg xr_kgu xr_call xr_store xr_append xd_append xap_sl xap_nl xapq_some xsrc_sl xsrc_nil xapp_nil xapp_grow xapp_room xset xown xnx_some xnp_some xnq_some xd_nil xdl_old xdl_new xda_some xd_call xd_kg xdn_some xld xal kindOf isAlloc allocs xins xrem xall xput xget xwhole xmine xcont xq xqs xres XS.add XR.out XR.outU XR.ups xsets XR.res Rs.seq Rs.inSc Rs.block mapO tupleA sv_args adv_eq tget eqs8 eqs7 eqi8 eqi7 eqg8 eql8 eqn8 eqn7 cells_strOf cells_int cells_agg cells_bool cells_str cells_sl cells_nil cells_ptr at_int at_str at_strOf at_bool at_sl at_nil at_ptr unstr_strOf unbyt_byt fill_nil fill_cons replA ev_tm ev_vl sv_stv bin_add bin_sub bin_mul bin_lss bin_leq bin_gtr bin_geq bin_eql bin_neq un_not nth0 nth1 nth2 xst_idxAddrSl xst_idxStr xst_sliceStr xst_sliceSl xsl_sl xbd slN Nat.testBit
noncomputable def gnA (l : List UInt8) (a : Nat) : Nat := numA l (gbA l a)
noncomputable def gnOk (l : List UInt8) (a : Nat) : Bool := gbOk l a && gOk l (gbA l a)
noncomputable def gsA (l : List UInt8) (a : Nat) : Nat := numA l (gnA l (numA l a))
noncomputable def gsOk (l : List UInt8) (a : Nat) : Bool := gOk l a && (gnOk l (numA l a) && gOk l (gnA l (numA l a)))
theorem gbA_le {l : List UInt8} {a : Nat} (h : a ≤ l.length) : a ≤ gbA l a ∧ gbA l a ≤ l.length := by
  have := numA_le h
  have := bytA_le this.2 12
  unfold gbA
  omega
theorem gnA_le {l : List UInt8} {a : Nat} (h : a ≤ l.length) : a ≤ gnA l a ∧ gnA l a ≤ l.length := by
  have := gbA_le h
  have := numA_le this.2
  unfold gnA
  omega
theorem gsA_le {l : List UInt8} {a : Nat} (h : a ≤ l.length) : a ≤ gsA l a ∧ gsA l a ≤ l.length := by
  have := numA_le h
  have := gnA_le this.2
  have := numA_le this.2
  unfold gsA
  omega
noncomputable def e_gname : Ent := mkEnt 70 1 [.own 0, .ownAt 0 0, .bslAt 0 0 0] (fun z_ : Pos × Pos × Pos × Nat × Bool × (List UInt8) => [.ptr z_.1 0 0]) (fun z_ => [[.ptr z_.2.1 0 0, .bool z_.2.2.2.2.1], [.sl z_.2.2.1 0 0 z_.2.2.2.2.2.length (z_.2.2.2.2.2.length + 1) true 1, int64 (z_.2.2.2.1 : Int)], byt z_.2.2.2.2.2]) (fun z_ => RdP z_.1 z_.2.1 z_.2.2.1 z_.2.2.2.1 z_.2.2.2.2.2) (fun z_ => .upd [(z_.1, [.ptr z_.2.1 0 0, .bool (z_.2.2.2.2.1 || !gnOk z_.2.2.2.2.2 z_.2.2.2.1)]), (z_.2.1, [.sl z_.2.2.1 0 0 z_.2.2.2.2.2.length (z_.2.2.2.2.2.length + 1) true 1, int64 (gnA z_.2.2.2.2.2 z_.2.2.2.1 : Int)])] (.agg [int64 (gV z_.2.2.2.2.2 z_.2.2.2.1), strOf (bV z_.2.2.2.2.2 (numA z_.2.2.2.2.2 z_.2.2.2.1)), int64 (gV z_.2.2.2.2.2 (gbA z_.2.2.2.2.2 z_.2.2.2.1))]))
theorem f_gname : e_gname.f = 70 := rfl
theorem x_gname {U : List Ent} {b : Pos} {st : XS} (hU : tget U 70 = some e_gname) (x : Pos) (p : Pos) (q : Pos) (a : Nat) (bad : Bool) (l : List UInt8) (hp : RdP x p q a l) (hq : xqs st.X [.ptr x 0 0] [.own 0, .ownAt 0 0, .bslAt 0 0 0] = some [[.ptr p 0 0, .bool bad], [.sl q 0 0 l.length (l.length + 1) true 1, int64 (a : Int)], byt l]) (ho : ((.upd [(x, [.ptr p 0 0, .bool (bad || !gnOk l a)]), (p, [.sl q 0 0 l.length (l.length + 1) true 1, int64 (gnA l a : Int)])] (.agg [int64 (gV l a), strOf (bV l (numA l a)), int64 (gV l (gbA l a))]) : XR).ups.all fun x => (xown st.X x.1 0).isSome) = true) : xcall U b 70 [.ptr x 0 0] st = none ∧ xupd U b 70 [.ptr x 0 0] st = some (XR.outU b st (.upd [(x, [.ptr p 0 0, .bool (bad || !gnOk l a)]), (p, [.sl q 0 0 l.length (l.length + 1) true 1, int64 (gnA l a : Int)])] (.agg [int64 (gV l a), strOf (bV l (numA l a)), int64 (gV l (gbA l a))]))) :=
  xupd_at hU rfl hq (mkEnt_spec (by rintro ⟨a0, a1, a2, a3, a4, a5⟩ ⟨b0, b1, b2, b3, b4, b5⟩ h hc; simp only [List.cons.injEq, AV.agg.injEq, AV.tup.injEq, AV.int.injEq, AV.bool.injEq, AV.ptr.injEq, AV.sl.injEq, strOf_eq, byt_eq, map_strOf_eq, true_and, and_true, Int.natCast_inj] at h hc; simp [h, hc]) (x, p, q, a, bad, l) hp) (by first | rfl | (split <;> rfl)) ho
noncomputable def e_take1 : Ent := mkEnt 74 1 [.own 0, .ownAt 0 0, .bslAt 0 0 0] (fun z_ : Pos × Pos × Pos × Nat × Bool × (List UInt8) => [.ptr z_.1 0 0]) (fun z_ => [[.ptr z_.2.1 0 0, .bool z_.2.2.2.2.1], [.sl z_.2.2.1 0 0 z_.2.2.2.2.2.length (z_.2.2.2.2.2.length + 1) true 1, int64 (z_.2.2.2.1 : Int)], byt z_.2.2.2.2.2]) (fun z_ => RdP z_.1 z_.2.1 z_.2.2.1 z_.2.2.2.1 z_.2.2.2.2.2) (fun z_ => .upd [(z_.1, [.ptr z_.2.1 0 0, .bool (z_.2.2.2.2.1 || !gsOk z_.2.2.2.2.2 z_.2.2.2.1)]), (z_.2.1, [.sl z_.2.2.1 0 0 z_.2.2.2.2.2.length (z_.2.2.2.2.2.length + 1) true 1, int64 (gsA z_.2.2.2.2.2 z_.2.2.2.1 : Int)])] (.agg [int64 (gV z_.2.2.2.2.2 z_.2.2.2.1), int64 (gV z_.2.2.2.2.2 (numA z_.2.2.2.2.2 z_.2.2.2.1)), strOf (bV z_.2.2.2.2.2 (numA z_.2.2.2.2.2 (numA z_.2.2.2.2.2 z_.2.2.2.1))), int64 (gV z_.2.2.2.2.2 (gbA z_.2.2.2.2.2 (numA z_.2.2.2.2.2 z_.2.2.2.1))), int64 (gV z_.2.2.2.2.2 (gnA z_.2.2.2.2.2 (numA z_.2.2.2.2.2 z_.2.2.2.1)))]))
theorem f_take1 : e_take1.f = 74 := rfl
theorem x_take1 {U : List Ent} {b : Pos} {st : XS} (hU : tget U 74 = some e_take1) (x : Pos) (p : Pos) (q : Pos) (a : Nat) (bad : Bool) (l : List UInt8) (hp : RdP x p q a l) (hq : xqs st.X [.ptr x 0 0] [.own 0, .ownAt 0 0, .bslAt 0 0 0] = some [[.ptr p 0 0, .bool bad], [.sl q 0 0 l.length (l.length + 1) true 1, int64 (a : Int)], byt l]) (ho : ((.upd [(x, [.ptr p 0 0, .bool (bad || !gsOk l a)]), (p, [.sl q 0 0 l.length (l.length + 1) true 1, int64 (gsA l a : Int)])] (.agg [int64 (gV l a), int64 (gV l (numA l a)), strOf (bV l (numA l (numA l a))), int64 (gV l (gbA l (numA l a))), int64 (gV l (gnA l (numA l a)))]) : XR).ups.all fun x => (xown st.X x.1 0).isSome) = true) : xcall U b 74 [.ptr x 0 0] st = none ∧ xupd U b 74 [.ptr x 0 0] st = some (XR.outU b st (.upd [(x, [.ptr p 0 0, .bool (bad || !gsOk l a)]), (p, [.sl q 0 0 l.length (l.length + 1) true 1, int64 (gsA l a : Int)])] (.agg [int64 (gV l a), int64 (gV l (numA l a)), strOf (bV l (numA l (numA l a))), int64 (gV l (gbA l (numA l a))), int64 (gV l (gnA l (numA l a)))]))) :=
  xupd_at hU rfl hq (mkEnt_spec (by rintro ⟨a0, a1, a2, a3, a4, a5⟩ ⟨b0, b1, b2, b3, b4, b5⟩ h hc; simp only [List.cons.injEq, AV.agg.injEq, AV.tup.injEq, AV.int.injEq, AV.bool.injEq, AV.ptr.injEq, AV.sl.injEq, strOf_eq, byt_eq, map_strOf_eq, true_and, and_true, Int.natCast_inj] at h hc; simp [h, hc]) (x, p, q, a, bad, l) hp) (by first | rfl | (split <;> rfl)) ho
section
variable {m : Int} {t1 t2 : AV}
theorem gname_ok : EntOK Tryz.prog (HasG m t1 t2) e_gname := mkEnt_ok ok_gname fun z h g hz hc => by
  obtain ⟨x, p, q, a, bad, l⟩ := z
  have hz1 := hz
  obtain ⟨⟨hpq, ha, hl, h6⟩, hxp, hxq, h6x⟩ : RdP x p q a l := hz
  obtain ⟨L, hX, tq, aq⟩ := rx_open (x := x) (p := p) (q := q) (a := (a : Int)) (bad := bad) (l := l) hc
  have nA := gbA_le (l := l) (a := a) ha
  have N := fun {U b st} (hU : tget U 66 = some e_gbranch) hq ho => x_gbranch (U := U) (b := b) (st := st) hU x p q a bad l hz1 hq ho
  have B := fun {U b st} bad (hU : tget U 75 = some e_gnumber) hq ho => x_gnumber (U := U) (b := b) (st := st) hU x p q (gbA l a) bad l ⟨⟨hpq, nA.2, hl, h6⟩, hxp, hxq, h6x⟩ hq ho
  have ox : x.num < h.next.num := (hX _ (List.mem_cons_self ..)).old
  have op : p.num < h.next.num := (hX _ (List.mem_cons_of_mem _ (List.mem_cons_self ..))).old
  have oq : q.num < h.next.num := (hX _ (List.mem_cons_of_mem _ (List.mem_cons_of_mem _ (List.mem_cons_self ..)))).old
  have hX2 : XI h.next [x, p] h ⟨0, [⟨x, 0, true, [.ptr p 0 0, .bool bad]⟩, ⟨p, 0, true, [.sl q 0 0 l.length (l.length + 1) true 1, int64 (a : Int)]⟩, ⟨q, 0, false, L⟩]⟩ h := .startW h hX (by simpa using ⟨⟨hxp, hxq⟩, hpq⟩) (by simp)
  refine upd_of (U := []) (K := [e_gnumber, e_gbranch]) [(x, [.ptr p 0 0, .bool (bad || !gnOk l a)]), (p, [.sl q 0 0 l.length (l.length + 1) true 1, int64 (gnA l a : Int)])] (fun _ o => g.upd o (by simpa using ⟨h6x, h6⟩)) (by simp) (by simp [gnumber_ok.entK, gbranch_ok.entK]) 0 hX2 rx_had gname_code (by simp [gname_fu]) rfl ?_
  have gd : gnOk l a = (gbOk l a && gOk l (gbA l a)) := rfl
  have ga : numA l (gbA l a) = gnA l a := rfl
  generalize bV l (numA l a) = u at *
  simp [gname_fu, N, B (bad || !gbOk l a), f_gnumber, f_gbranch, hpq, hpq.symm, hxp, hxp.symm, hxq, hxq.symm, tq, aq, owns, xown, gd, ga, adv_nf oq, adv_fn oq, adv_nf op, adv_fn op, adv_nf ox, adv_fn ox, Bool.or_assoc]
theorem take1_ok : EntOK Tryz.prog (HasG m t1 t2) e_take1 := mkEnt_ok ok_take1 fun z h g hz hc => by
  obtain ⟨x, p, q, a, bad, l⟩ := z
  have hz1 := hz
  obtain ⟨⟨hpq, ha, hl, h6⟩, hxp, hxq, h6x⟩ : RdP x p q a l := hz
  obtain ⟨L, hX, tq, aq⟩ := rx_open (x := x) (p := p) (q := q) (a := (a : Int)) (bad := bad) (l := l) hc
  have nA := numA_le (l := l) (a := a) ha
  have nB := gnA_le (l := l) (a := numA l a) nA.2
  have N := fun {U b st} bad (hU : tget U 70 = some e_gname) hq ho => x_gname (U := U) (b := b) (st := st) hU x p q (numA l a) bad l ⟨⟨hpq, nA.2, hl, h6⟩, hxp, hxq, h6x⟩ hq ho
  have A := fun {U b st} (hU : tget U 75 = some e_gnumber) hq ho => x_gnumber (U := U) (b := b) (st := st) hU x p q a bad l hz1 hq ho
  have B := fun {U b st} bad (hU : tget U 75 = some e_gnumber) hq ho => x_gnumber (U := U) (b := b) (st := st) hU x p q (gnA l (numA l a)) bad l ⟨⟨hpq, nB.2, hl, h6⟩, hxp, hxq, h6x⟩ hq ho
  have ox : x.num < h.next.num := (hX _ (List.mem_cons_self ..)).old
  have op : p.num < h.next.num := (hX _ (List.mem_cons_of_mem _ (List.mem_cons_self ..))).old
  have oq : q.num < h.next.num := (hX _ (List.mem_cons_of_mem _ (List.mem_cons_of_mem _ (List.mem_cons_self ..)))).old
  have hX2 : XI h.next [x, p] h ⟨0, [⟨x, 0, true, [.ptr p 0 0, .bool bad]⟩, ⟨p, 0, true, [.sl q 0 0 l.length (l.length + 1) true 1, int64 (a : Int)]⟩, ⟨q, 0, false, L⟩]⟩ h := .startW h hX (by simpa using ⟨⟨hxp, hxq⟩, hpq⟩) (by simp)
  refine upd_of (U := []) (K := [e_gnumber, e_gname]) [(x, [.ptr p 0 0, .bool (bad || !gsOk l a)]), (p, [.sl q 0 0 l.length (l.length + 1) true 1, int64 (gsA l a : Int)])] (fun _ o => g.upd o (by simpa using ⟨h6x, h6⟩)) (by simp) (by simp [gnumber_ok.entK, gname_ok.entK]) 0 hX2 rx_had take1_code (by simp [take1_fu]) rfl ?_
  have gd : gsOk l a = (gOk l a && (gnOk l (numA l a) && gOk l (gnA l (numA l a)))) := rfl
  have ga : gsA l a = numA l (gnA l (numA l a)) := rfl
  generalize bV l (numA l (numA l a)) = u at *
  simp [take1_fu, N, A, B, f_gnumber, f_gname, hpq, hpq.symm, hxp, hxp.symm, hxq, hxq.symm, tq, aq, owns, xown, gd, ga, adv_nf oq, adv_fn oq, adv_nf op, adv_fn op, adv_nf ox, adv_fn ox, Bool.or_assoc]
end
end Go.Proofs.YtjhgembcdndmkaaGreatDoor.St

namespace Go.Proofs.YtjhgembcdndmkaaGreatDoor.St
open Go Go.Proofs.YtjhgembcdndmkaaGreatDoor.Am Go.Proofs Go.RowKit
attribute [local simp] xr_mov xd_mov xr_pick xd_pick xr_bin xd_bin xr_un xd_un xr_build xr_convInt xd_convInt xr_mkFn xr_fld xd_fld xr_extract xr_lenS xr_lenL xd_lenL xr_nilPtr xd_nilPtr xr_load1 xd_load1 xr_loadN xd_loadN xr_bytesStr xd_bytesStr xr_eqPtr xr_new xr_box xr_buildSl xd_buildSl xd_strBytes xr_mkSl xr_idxAddrSl xd_idxAddrSl xr_idxStr xd_sliceSl orU_some orU_none lenSA_str lenSA_strOf lenLA_sl lenLA_nil xfn xcode xdrawn xr_nil xr_kg xr_kgu xr_call xr_store xr_append xd_append xap_sl xap_nl xapq_some xsrc_sl xsrc_nil xapp_nil xapp_grow xapp_room xset xown xnx_some xnp_some xnq_some xd_nil xdl_old xdl_new xda_some xd_call xd_kg xdn_some xld xal kindOf isAlloc allocs xins xrem xall xput xget xwhole xmine xcont xq xqs xres XS.add XR.out XR.outU XR.ups xsets XR.res Rs.seq Rs.inSc Rs.block mapO tupleA sv_args adv_eq tget eqs8 eqs7 eqi8 eqi7 eqg8 eql8 eqn8 eqn7 cells_strOf cells_int cells_agg cells_bool cells_str cells_sl cells_nil cells_ptr at_int at_str at_strOf at_bool at_sl at_nil at_ptr unstr_strOf unbyt_byt fill_nil fill_cons replA ev_tm ev_vl sv_stv bin_add bin_sub bin_mul bin_lss bin_leq bin_gtr bin_geq bin_eql bin_neq un_not nth0 nth1 nth2 xst_idxAddrSl xst_idxStr xst_sliceStr xst_sliceSl xsl_sl xbd slN Nat.testBit
noncomputable def tbOk (l : List UInt8) (a : Nat) : Bool := gbOk l a && branchB (gV l a) (bV l (numA l a))
noncomputable def tnOk (l : List UInt8) (a : Nat) : Bool := gnOk l a && nameB (gV l a) (bV l (numA l a)) (gV l (gbA l a))
noncomputable def tsOk (l : List UInt8) (a : Nat) : Bool := gsOk l a && stampB (gV l a) (gV l (numA l a)) (bV l (numA l (numA l a))) (gV l (gbA l (numA l a))) (gV l (gnA l (numA l a)))
noncomputable def tbV (l : List UInt8) (a : Nat) : AV := if tbOk l a = true then .tup [.agg [int64 (gV l a), strOf (bV l (numA l a))], int64 0] else .tup [.agg [int64 0, .str 0 0], int64 4]
noncomputable def tnV (l : List UInt8) (a : Nat) : AV := if tnOk l a = true then .tup [.agg [int64 (gV l a), strOf (bV l (numA l a)), int64 (gV l (gbA l a))], int64 0] else .tup [.agg [int64 0, .str 0 0, int64 0], int64 4]
noncomputable def tsV (l : List UInt8) (a : Nat) : AV := if tsOk l a = true then .tup [.agg [int64 (gV l a), int64 (gV l (numA l a)), strOf (bV l (numA l (numA l a))), int64 (gV l (gbA l (numA l a))), int64 (gV l (gnA l (numA l a)))], int64 0] else .tup [.agg [int64 0, int64 0, .str 0 0, int64 0, int64 0], int64 4]
theorem bV_len {l : List UInt8} {a : Nat} (h : l.length ≤ 9000) : (bV l a).length ≤ 9000 := by
  unfold bV
  split
  · unfold bytV; rw [List.length_take, List.length_drop]; omega
  · simp
noncomputable def e_takenb : Ent := mkEnt 65 3 [.own 0, .bsl 0 0] (fun z_ : Pos × Pos × Nat × (List UInt8) => [.ptr z_.1 0 0, .fn (.func 66) [] [], .fn (.func 41) [] []]) (fun z_ => [[.sl z_.2.1 0 0 z_.2.2.2.length (z_.2.2.2.length + 1) true 1, int64 (z_.2.2.1 : Int)], byt z_.2.2.2]) (fun z_ => z_.1 ≠ z_.2.1 ∧ z_.2.2.1 ≤ z_.2.2.2.length ∧ z_.2.2.2.length ≤ 9000 ∧ (Pos.ofNat 6).num ≤ z_.1.num) (fun z_ => .upd [(z_.1, [.sl z_.2.1 0 0 z_.2.2.2.length (z_.2.2.2.length + 1) true 1, int64 ((if tbOk z_.2.2.2 z_.2.2.1 = true then gbA z_.2.2.2 z_.2.2.1 else z_.2.2.1 : Nat) : Int)])] (tbV z_.2.2.2 z_.2.2.1))
theorem f_takenb : e_takenb.f = 65 := rfl
theorem x_takenb {U : List Ent} {b : Pos} {st : XS} (hU : tget U 65 = some e_takenb) (p : Pos) (q : Pos) (a : Nat) (l : List UInt8) (hp : p ≠ q ∧ a ≤ l.length ∧ l.length ≤ 9000 ∧ (Pos.ofNat 6).num ≤ p.num) (hq : xqs st.X [.ptr p 0 0, .fn (.func 66) [] [], .fn (.func 41) [] []] [.own 0, .bsl 0 0] = some [[.sl q 0 0 l.length (l.length + 1) true 1, int64 (a : Int)], byt l]) (ho : ((.upd [(p, [.sl q 0 0 l.length (l.length + 1) true 1, int64 ((if tbOk l a = true then gbA l a else a : Nat) : Int)])] (tbV l a) : XR).ups.all fun x => (xown st.X x.1 0).isSome) = true) : xcall U b 65 [.ptr p 0 0, .fn (.func 66) [] [], .fn (.func 41) [] []] st = none ∧ xupd U b 65 [.ptr p 0 0, .fn (.func 66) [] [], .fn (.func 41) [] []] st = some (XR.outU b st (.upd [(p, [.sl q 0 0 l.length (l.length + 1) true 1, int64 ((if tbOk l a = true then gbA l a else a : Nat) : Int)])] (tbV l a))) :=
  xupd_at hU rfl hq (mkEnt_spec (by rintro ⟨a0, a1, a2, a3⟩ ⟨b0, b1, b2, b3⟩ h hc; simp only [List.cons.injEq, AV.agg.injEq, AV.tup.injEq, AV.int.injEq, AV.bool.injEq, AV.ptr.injEq, AV.sl.injEq, strOf_eq, byt_eq, map_strOf_eq, true_and, and_true, Int.natCast_inj] at h hc; simp [h, hc]) (p, q, a, l) hp) (by first | rfl | (split <;> rfl)) ho
noncomputable def e_takenn : Ent := mkEnt 69 3 [.own 0, .bsl 0 0] (fun z_ : Pos × Pos × Nat × (List UInt8) => [.ptr z_.1 0 0, .fn (.func 70) [] [], .fn (.func 42) [] []]) (fun z_ => [[.sl z_.2.1 0 0 z_.2.2.2.length (z_.2.2.2.length + 1) true 1, int64 (z_.2.2.1 : Int)], byt z_.2.2.2]) (fun z_ => z_.1 ≠ z_.2.1 ∧ z_.2.2.1 ≤ z_.2.2.2.length ∧ z_.2.2.2.length ≤ 9000 ∧ (Pos.ofNat 6).num ≤ z_.1.num) (fun z_ => .upd [(z_.1, [.sl z_.2.1 0 0 z_.2.2.2.length (z_.2.2.2.length + 1) true 1, int64 ((if tnOk z_.2.2.2 z_.2.2.1 = true then gnA z_.2.2.2 z_.2.2.1 else z_.2.2.1 : Nat) : Int)])] (tnV z_.2.2.2 z_.2.2.1))
theorem f_takenn : e_takenn.f = 69 := rfl
theorem x_takenn {U : List Ent} {b : Pos} {st : XS} (hU : tget U 69 = some e_takenn) (p : Pos) (q : Pos) (a : Nat) (l : List UInt8) (hp : p ≠ q ∧ a ≤ l.length ∧ l.length ≤ 9000 ∧ (Pos.ofNat 6).num ≤ p.num) (hq : xqs st.X [.ptr p 0 0, .fn (.func 70) [] [], .fn (.func 42) [] []] [.own 0, .bsl 0 0] = some [[.sl q 0 0 l.length (l.length + 1) true 1, int64 (a : Int)], byt l]) (ho : ((.upd [(p, [.sl q 0 0 l.length (l.length + 1) true 1, int64 ((if tnOk l a = true then gnA l a else a : Nat) : Int)])] (tnV l a) : XR).ups.all fun x => (xown st.X x.1 0).isSome) = true) : xcall U b 69 [.ptr p 0 0, .fn (.func 70) [] [], .fn (.func 42) [] []] st = none ∧ xupd U b 69 [.ptr p 0 0, .fn (.func 70) [] [], .fn (.func 42) [] []] st = some (XR.outU b st (.upd [(p, [.sl q 0 0 l.length (l.length + 1) true 1, int64 ((if tnOk l a = true then gnA l a else a : Nat) : Int)])] (tnV l a))) :=
  xupd_at hU rfl hq (mkEnt_spec (by rintro ⟨a0, a1, a2, a3⟩ ⟨b0, b1, b2, b3⟩ h hc; simp only [List.cons.injEq, AV.agg.injEq, AV.tup.injEq, AV.int.injEq, AV.bool.injEq, AV.ptr.injEq, AV.sl.injEq, strOf_eq, byt_eq, map_strOf_eq, true_and, and_true, Int.natCast_inj] at h hc; simp [h, hc]) (p, q, a, l) hp) (by first | rfl | (split <;> rfl)) ho
noncomputable def e_takens : Ent := mkEnt 73 3 [.own 0, .bsl 0 0] (fun z_ : Pos × Pos × Nat × (List UInt8) => [.ptr z_.1 0 0, .fn (.func 74) [] [], .fn (.func 43) [] []]) (fun z_ => [[.sl z_.2.1 0 0 z_.2.2.2.length (z_.2.2.2.length + 1) true 1, int64 (z_.2.2.1 : Int)], byt z_.2.2.2]) (fun z_ => z_.1 ≠ z_.2.1 ∧ z_.2.2.1 ≤ z_.2.2.2.length ∧ z_.2.2.2.length ≤ 9000 ∧ (Pos.ofNat 6).num ≤ z_.1.num) (fun z_ => .upd [(z_.1, [.sl z_.2.1 0 0 z_.2.2.2.length (z_.2.2.2.length + 1) true 1, int64 ((if tsOk z_.2.2.2 z_.2.2.1 = true then gsA z_.2.2.2 z_.2.2.1 else z_.2.2.1 : Nat) : Int)])] (tsV z_.2.2.2 z_.2.2.1))
theorem f_takens : e_takens.f = 73 := rfl
theorem x_takens {U : List Ent} {b : Pos} {st : XS} (hU : tget U 73 = some e_takens) (p : Pos) (q : Pos) (a : Nat) (l : List UInt8) (hp : p ≠ q ∧ a ≤ l.length ∧ l.length ≤ 9000 ∧ (Pos.ofNat 6).num ≤ p.num) (hq : xqs st.X [.ptr p 0 0, .fn (.func 74) [] [], .fn (.func 43) [] []] [.own 0, .bsl 0 0] = some [[.sl q 0 0 l.length (l.length + 1) true 1, int64 (a : Int)], byt l]) (ho : ((.upd [(p, [.sl q 0 0 l.length (l.length + 1) true 1, int64 ((if tsOk l a = true then gsA l a else a : Nat) : Int)])] (tsV l a) : XR).ups.all fun x => (xown st.X x.1 0).isSome) = true) : xcall U b 73 [.ptr p 0 0, .fn (.func 74) [] [], .fn (.func 43) [] []] st = none ∧ xupd U b 73 [.ptr p 0 0, .fn (.func 74) [] [], .fn (.func 43) [] []] st = some (XR.outU b st (.upd [(p, [.sl q 0 0 l.length (l.length + 1) true 1, int64 ((if tsOk l a = true then gsA l a else a : Nat) : Int)])] (tsV l a))) :=
  xupd_at hU rfl hq (mkEnt_spec (by rintro ⟨a0, a1, a2, a3⟩ ⟨b0, b1, b2, b3⟩ h hc; simp only [List.cons.injEq, AV.agg.injEq, AV.tup.injEq, AV.int.injEq, AV.bool.injEq, AV.ptr.injEq, AV.sl.injEq, strOf_eq, byt_eq, map_strOf_eq, true_and, and_true, Int.natCast_inj] at h hc; simp [h, hc]) (p, q, a, l) hp) (by first | rfl | (split <;> rfl)) ho
noncomputable def e_tb : Ent := mkEnt 22 1 [.own 0, .bsl 0 0] (fun z_ : Pos × Pos × Nat × (List UInt8) => [.ptr z_.1 0 0]) (fun z_ => [[.sl z_.2.1 0 0 z_.2.2.2.length (z_.2.2.2.length + 1) true 1, int64 (z_.2.2.1 : Int)], byt z_.2.2.2]) (fun z_ => z_.1 ≠ z_.2.1 ∧ z_.2.2.1 ≤ z_.2.2.2.length ∧ z_.2.2.2.length ≤ 9000 ∧ (Pos.ofNat 6).num ≤ z_.1.num) (fun z_ => .upd [(z_.1, [.sl z_.2.1 0 0 z_.2.2.2.length (z_.2.2.2.length + 1) true 1, int64 ((if tbOk z_.2.2.2 z_.2.2.1 = true then gbA z_.2.2.2 z_.2.2.1 else z_.2.2.1 : Nat) : Int)])] (tbV z_.2.2.2 z_.2.2.1))
theorem f_tb : e_tb.f = 22 := rfl
theorem x_tb {U : List Ent} {b : Pos} {st : XS} (hU : tget U 22 = some e_tb) (p : Pos) (q : Pos) (a : Nat) (l : List UInt8) (hp : p ≠ q ∧ a ≤ l.length ∧ l.length ≤ 9000 ∧ (Pos.ofNat 6).num ≤ p.num) (hq : xqs st.X [.ptr p 0 0] [.own 0, .bsl 0 0] = some [[.sl q 0 0 l.length (l.length + 1) true 1, int64 (a : Int)], byt l]) (ho : ((.upd [(p, [.sl q 0 0 l.length (l.length + 1) true 1, int64 ((if tbOk l a = true then gbA l a else a : Nat) : Int)])] (tbV l a) : XR).ups.all fun x => (xown st.X x.1 0).isSome) = true) : xcall U b 22 [.ptr p 0 0] st = none ∧ xupd U b 22 [.ptr p 0 0] st = some (XR.outU b st (.upd [(p, [.sl q 0 0 l.length (l.length + 1) true 1, int64 ((if tbOk l a = true then gbA l a else a : Nat) : Int)])] (tbV l a))) :=
  xupd_at hU rfl hq (mkEnt_spec (by rintro ⟨a0, a1, a2, a3⟩ ⟨b0, b1, b2, b3⟩ h hc; simp only [List.cons.injEq, AV.agg.injEq, AV.tup.injEq, AV.int.injEq, AV.bool.injEq, AV.ptr.injEq, AV.sl.injEq, strOf_eq, byt_eq, map_strOf_eq, true_and, and_true, Int.natCast_inj] at h hc; simp [h, hc]) (p, q, a, l) hp) (by first | rfl | (split <;> rfl)) ho
noncomputable def e_tn : Ent := mkEnt 24 1 [.own 0, .bsl 0 0] (fun z_ : Pos × Pos × Nat × (List UInt8) => [.ptr z_.1 0 0]) (fun z_ => [[.sl z_.2.1 0 0 z_.2.2.2.length (z_.2.2.2.length + 1) true 1, int64 (z_.2.2.1 : Int)], byt z_.2.2.2]) (fun z_ => z_.1 ≠ z_.2.1 ∧ z_.2.2.1 ≤ z_.2.2.2.length ∧ z_.2.2.2.length ≤ 9000 ∧ (Pos.ofNat 6).num ≤ z_.1.num) (fun z_ => .upd [(z_.1, [.sl z_.2.1 0 0 z_.2.2.2.length (z_.2.2.2.length + 1) true 1, int64 ((if tnOk z_.2.2.2 z_.2.2.1 = true then gnA z_.2.2.2 z_.2.2.1 else z_.2.2.1 : Nat) : Int)])] (tnV z_.2.2.2 z_.2.2.1))
theorem f_tn : e_tn.f = 24 := rfl
theorem x_tn {U : List Ent} {b : Pos} {st : XS} (hU : tget U 24 = some e_tn) (p : Pos) (q : Pos) (a : Nat) (l : List UInt8) (hp : p ≠ q ∧ a ≤ l.length ∧ l.length ≤ 9000 ∧ (Pos.ofNat 6).num ≤ p.num) (hq : xqs st.X [.ptr p 0 0] [.own 0, .bsl 0 0] = some [[.sl q 0 0 l.length (l.length + 1) true 1, int64 (a : Int)], byt l]) (ho : ((.upd [(p, [.sl q 0 0 l.length (l.length + 1) true 1, int64 ((if tnOk l a = true then gnA l a else a : Nat) : Int)])] (tnV l a) : XR).ups.all fun x => (xown st.X x.1 0).isSome) = true) : xcall U b 24 [.ptr p 0 0] st = none ∧ xupd U b 24 [.ptr p 0 0] st = some (XR.outU b st (.upd [(p, [.sl q 0 0 l.length (l.length + 1) true 1, int64 ((if tnOk l a = true then gnA l a else a : Nat) : Int)])] (tnV l a))) :=
  xupd_at hU rfl hq (mkEnt_spec (by rintro ⟨a0, a1, a2, a3⟩ ⟨b0, b1, b2, b3⟩ h hc; simp only [List.cons.injEq, AV.agg.injEq, AV.tup.injEq, AV.int.injEq, AV.bool.injEq, AV.ptr.injEq, AV.sl.injEq, strOf_eq, byt_eq, map_strOf_eq, true_and, and_true, Int.natCast_inj] at h hc; simp [h, hc]) (p, q, a, l) hp) (by first | rfl | (split <;> rfl)) ho
noncomputable def e_tt : Ent := mkEnt 26 1 [.own 0, .bsl 0 0] (fun z_ : Pos × Pos × Nat × (List UInt8) => [.ptr z_.1 0 0]) (fun z_ => [[.sl z_.2.1 0 0 z_.2.2.2.length (z_.2.2.2.length + 1) true 1, int64 (z_.2.2.1 : Int)], byt z_.2.2.2]) (fun z_ => z_.1 ≠ z_.2.1 ∧ z_.2.2.1 ≤ z_.2.2.2.length ∧ z_.2.2.2.length ≤ 9000 ∧ (Pos.ofNat 6).num ≤ z_.1.num) (fun z_ => .upd [(z_.1, [.sl z_.2.1 0 0 z_.2.2.2.length (z_.2.2.2.length + 1) true 1, int64 ((if tsOk z_.2.2.2 z_.2.2.1 = true then gsA z_.2.2.2 z_.2.2.1 else z_.2.2.1 : Nat) : Int)])] (tsV z_.2.2.2 z_.2.2.1))
theorem f_tt : e_tt.f = 26 := rfl
theorem x_tt {U : List Ent} {b : Pos} {st : XS} (hU : tget U 26 = some e_tt) (p : Pos) (q : Pos) (a : Nat) (l : List UInt8) (hp : p ≠ q ∧ a ≤ l.length ∧ l.length ≤ 9000 ∧ (Pos.ofNat 6).num ≤ p.num) (hq : xqs st.X [.ptr p 0 0] [.own 0, .bsl 0 0] = some [[.sl q 0 0 l.length (l.length + 1) true 1, int64 (a : Int)], byt l]) (ho : ((.upd [(p, [.sl q 0 0 l.length (l.length + 1) true 1, int64 ((if tsOk l a = true then gsA l a else a : Nat) : Int)])] (tsV l a) : XR).ups.all fun x => (xown st.X x.1 0).isSome) = true) : xcall U b 26 [.ptr p 0 0] st = none ∧ xupd U b 26 [.ptr p 0 0] st = some (XR.outU b st (.upd [(p, [.sl q 0 0 l.length (l.length + 1) true 1, int64 ((if tsOk l a = true then gsA l a else a : Nat) : Int)])] (tsV l a))) :=
  xupd_at hU rfl hq (mkEnt_spec (by rintro ⟨a0, a1, a2, a3⟩ ⟨b0, b1, b2, b3⟩ h hc; simp only [List.cons.injEq, AV.agg.injEq, AV.tup.injEq, AV.int.injEq, AV.bool.injEq, AV.ptr.injEq, AV.sl.injEq, strOf_eq, byt_eq, map_strOf_eq, true_and, and_true, Int.natCast_inj] at h hc; simp [h, hc]) (p, q, a, l) hp) (by first | rfl | (split <;> rfl)) ho
section
variable {m : Int} {t1 t2 : AV}
theorem takenb_ok : EntOK Tryz.prog (HasG m t1 t2) e_takenb := mkEnt_ok ok_takenb fun z h g hz hc => by
  obtain ⟨p, q, a, l⟩ := z
  obtain ⟨hpq, ha, hl, h6⟩ : p ≠ q ∧ a ≤ l.length ∧ l.length ≤ 9000 ∧ (Pos.ofNat 6).num ≤ p.num := hz
  obtain ⟨L, hX, tq, aq, hL⟩ := rd_open (p := p) (q := q) (a := (a : Int)) (l := l) hc
  have oq : q.num < h.next.num := (hX _ (List.mem_cons_of_mem _ (List.mem_cons_self ..))).old
  have op : p.num < h.next.num := (hX _ (List.mem_cons_self ..)).old
  have h6n : ∀ j, (Pos.ofNat 6).num ≤ (adv h.next j).num := fun j => by rw [adv_num]; omega
  have nep : ∀ j, adv h.next j ≠ p := fun j => of_eq_false (adv_nf op j)
  have neq : ∀ j, adv h.next j ≠ q := fun j => of_eq_false (adv_nf oq j)
  have gm : ∀ h h', HasG m t1 t2 h → Only [] h h' → HasG m t1 t2 h' := fun _ _ g o => g.more o
  have E := fun {U b st} (hU : tget U 100 = some e_wend) hq => x_wend (U := U) (b := b) (st := st) hU p q l.length a ⟨ha, hl⟩ hq
  have R := fun {U b st} (hU : tget U 66 = some e_gbranch) hq ho => x_gbranch (U := U) (b := b) (st := st) hU (adv h.next 3) p q a false l ⟨⟨hpq, ha, hl, h6⟩, nep 3, neq 3, h6n 3⟩ hq ho
  have M := fun {U b st} (hU : tget U 41 = some e_branch) => x_branch (U := U) (b := b) (st := st) hU (gV l a) (bV l (numA l a)) (bV_len hl)
  have tv : tbV l a = if tbOk l a = true then .tup [.agg [int64 (gV l a), strOf (bV l (numA l a))], int64 0] else .tup [.agg [int64 0, .str 0 0], int64 4] := rfl
  have td : tbOk l a = (gbOk l a && branchB (gV l a) (bV l (numA l a))) := rfl
  have hX2 : XI h.next [p] h ⟨0, [⟨p, 0, true, [.sl q 0 0 l.length (l.length + 1) true 1, int64 (a : Int)]⟩, ⟨q, 0, false, L⟩]⟩ h := .startW h hX (by simpa using hpq) (by simp)
  refine upd_of (U := []) (K := [e_wend, e_gbranch, e_branch]) [(p, [.sl q 0 0 l.length (l.length + 1) true 1, int64 ((if tbOk l a = true then gbA l a else a : Nat) : Int)])] (fun _ o => g.upd o (by simpa using h6)) (by simp) (by simp [(wend_ok gm).entK, gbranch_ok.entK, branch_ok.entK]) 0 hX2 rd_had takenb_code (by simp [takenb_fu]) (by unfold tbV; split <;> rfl) ?_
  show _ = some (tbV l a, _)
  rw [tv]
  generalize bV l (numA l a) = u at *
  have ne1 : ((if a < l.length then (4 : Int) else 0) = 1) = False := eq_false (by split <;> decide)
  by_cases c1 : gbOk l a = true
  · by_cases c2 : branchB (gV l a) u = true
    · rw [c1, c2] at td
      simp [takenb_fu, E, R, M, f_wend, f_gbranch, f_branch, hpq, hpq.symm, tq, aq, owns, xown, c1, c2, td, adv_nf oq, adv_fn oq, adv_nf op, adv_fn op, ne1]
    · have c2 : branchB (gV l a) u = false := by simpa using c2
      rw [c1, c2] at td
      simp [takenb_fu, E, R, M, f_wend, f_gbranch, f_branch, hpq, hpq.symm, tq, aq, owns, xown, c1, c2, td, adv_nf oq, adv_fn oq, adv_nf op, adv_fn op, ne1]
  · have c1 : gbOk l a = false := by simpa using c1
    rw [c1] at td
    simp [takenb_fu, E, R, M, f_wend, f_gbranch, f_branch, hpq, hpq.symm, tq, aq, owns, xown, c1, td, adv_nf oq, adv_fn oq, adv_nf op, adv_fn op, ne1]
theorem takenn_ok : EntOK Tryz.prog (HasG m t1 t2) e_takenn := mkEnt_ok ok_takenn fun z h g hz hc => by
  obtain ⟨p, q, a, l⟩ := z
  obtain ⟨hpq, ha, hl, h6⟩ : p ≠ q ∧ a ≤ l.length ∧ l.length ≤ 9000 ∧ (Pos.ofNat 6).num ≤ p.num := hz
  obtain ⟨L, hX, tq, aq, hL⟩ := rd_open (p := p) (q := q) (a := (a : Int)) (l := l) hc
  have oq : q.num < h.next.num := (hX _ (List.mem_cons_of_mem _ (List.mem_cons_self ..))).old
  have op : p.num < h.next.num := (hX _ (List.mem_cons_self ..)).old
  have h6n : ∀ j, (Pos.ofNat 6).num ≤ (adv h.next j).num := fun j => by rw [adv_num]; omega
  have nep : ∀ j, adv h.next j ≠ p := fun j => of_eq_false (adv_nf op j)
  have neq : ∀ j, adv h.next j ≠ q := fun j => of_eq_false (adv_nf oq j)
  have gm : ∀ h h', HasG m t1 t2 h → Only [] h h' → HasG m t1 t2 h' := fun _ _ g o => g.more o
  have E := fun {U b st} (hU : tget U 100 = some e_wend) hq => x_wend (U := U) (b := b) (st := st) hU p q l.length a ⟨ha, hl⟩ hq
  have R := fun {U b st} (hU : tget U 70 = some e_gname) hq ho => x_gname (U := U) (b := b) (st := st) hU (adv h.next 3) p q a false l ⟨⟨hpq, ha, hl, h6⟩, nep 3, neq 3, h6n 3⟩ hq ho
  have M := fun {U b st} (hU : tget U 42 = some e_name) => x_name (U := U) (b := b) (st := st) hU (gV l a) (bV l (numA l a)) (gV l (gbA l a)) (bV_len hl)
  have tv : tnV l a = if tnOk l a = true then .tup [.agg [int64 (gV l a), strOf (bV l (numA l a)), int64 (gV l (gbA l a))], int64 0] else .tup [.agg [int64 0, .str 0 0, int64 0], int64 4] := rfl
  have td : tnOk l a = (gnOk l a && nameB (gV l a) (bV l (numA l a)) (gV l (gbA l a))) := rfl
  have hX2 : XI h.next [p] h ⟨0, [⟨p, 0, true, [.sl q 0 0 l.length (l.length + 1) true 1, int64 (a : Int)]⟩, ⟨q, 0, false, L⟩]⟩ h := .startW h hX (by simpa using hpq) (by simp)
  refine upd_of (U := []) (K := [e_wend, e_gname, e_name]) [(p, [.sl q 0 0 l.length (l.length + 1) true 1, int64 ((if tnOk l a = true then gnA l a else a : Nat) : Int)])] (fun _ o => g.upd o (by simpa using h6)) (by simp) (by simp [(wend_ok gm).entK, gname_ok.entK, name_ok.entK]) 0 hX2 rd_had takenn_code (by simp [takenn_fu]) (by unfold tnV; split <;> rfl) ?_
  show _ = some (tnV l a, _)
  rw [tv]
  generalize bV l (numA l a) = u at *
  have ne1 : ((if a < l.length then (4 : Int) else 0) = 1) = False := eq_false (by split <;> decide)
  by_cases c1 : gnOk l a = true
  · by_cases c2 : nameB (gV l a) u (gV l (gbA l a)) = true
    · rw [c1, c2] at td
      simp [takenn_fu, E, R, M, f_wend, f_gname, f_name, hpq, hpq.symm, tq, aq, owns, xown, c1, c2, td, adv_nf oq, adv_fn oq, adv_nf op, adv_fn op, ne1]
    · have c2 : nameB (gV l a) u (gV l (gbA l a)) = false := by simpa using c2
      rw [c1, c2] at td
      simp [takenn_fu, E, R, M, f_wend, f_gname, f_name, hpq, hpq.symm, tq, aq, owns, xown, c1, c2, td, adv_nf oq, adv_fn oq, adv_nf op, adv_fn op, ne1]
  · have c1 : gnOk l a = false := by simpa using c1
    rw [c1] at td
    simp [takenn_fu, E, R, M, f_wend, f_gname, f_name, hpq, hpq.symm, tq, aq, owns, xown, c1, td, adv_nf oq, adv_fn oq, adv_nf op, adv_fn op, ne1]
theorem takens_ok : EntOK Tryz.prog (HasG m t1 t2) e_takens := mkEnt_ok ok_takens fun z h g hz hc => by
  obtain ⟨p, q, a, l⟩ := z
  obtain ⟨hpq, ha, hl, h6⟩ : p ≠ q ∧ a ≤ l.length ∧ l.length ≤ 9000 ∧ (Pos.ofNat 6).num ≤ p.num := hz
  obtain ⟨L, hX, tq, aq, hL⟩ := rd_open (p := p) (q := q) (a := (a : Int)) (l := l) hc
  have oq : q.num < h.next.num := (hX _ (List.mem_cons_of_mem _ (List.mem_cons_self ..))).old
  have op : p.num < h.next.num := (hX _ (List.mem_cons_self ..)).old
  have h6n : ∀ j, (Pos.ofNat 6).num ≤ (adv h.next j).num := fun j => by rw [adv_num]; omega
  have nep : ∀ j, adv h.next j ≠ p := fun j => of_eq_false (adv_nf op j)
  have neq : ∀ j, adv h.next j ≠ q := fun j => of_eq_false (adv_nf oq j)
  have gm : ∀ h h', HasG m t1 t2 h → Only [] h h' → HasG m t1 t2 h' := fun _ _ g o => g.more o
  have E := fun {U b st} (hU : tget U 100 = some e_wend) hq => x_wend (U := U) (b := b) (st := st) hU p q l.length a ⟨ha, hl⟩ hq
  have R := fun {U b st} (hU : tget U 74 = some e_take1) hq ho => x_take1 (U := U) (b := b) (st := st) hU (adv h.next 3) p q a false l ⟨⟨hpq, ha, hl, h6⟩, nep 3, neq 3, h6n 3⟩ hq ho
  have M := fun {U b st} (hU : tget U 43 = some e_stamp) => x_stamp (U := U) (b := b) (st := st) hU (gV l a) (gV l (numA l a)) (bV l (numA l (numA l a))) (gV l (gbA l (numA l a))) (gV l (gnA l (numA l a))) (bV_len hl)
  have tv : tsV l a = if tsOk l a = true then .tup [.agg [int64 (gV l a), int64 (gV l (numA l a)), strOf (bV l (numA l (numA l a))), int64 (gV l (gbA l (numA l a))), int64 (gV l (gnA l (numA l a)))], int64 0] else .tup [.agg [int64 0, int64 0, .str 0 0, int64 0, int64 0], int64 4] := rfl
  have td : tsOk l a = (gsOk l a && stampB (gV l a) (gV l (numA l a)) (bV l (numA l (numA l a))) (gV l (gbA l (numA l a))) (gV l (gnA l (numA l a)))) := rfl
  have hX2 : XI h.next [p] h ⟨0, [⟨p, 0, true, [.sl q 0 0 l.length (l.length + 1) true 1, int64 (a : Int)]⟩, ⟨q, 0, false, L⟩]⟩ h := .startW h hX (by simpa using hpq) (by simp)
  refine upd_of (U := []) (K := [e_wend, e_take1, e_stamp]) [(p, [.sl q 0 0 l.length (l.length + 1) true 1, int64 ((if tsOk l a = true then gsA l a else a : Nat) : Int)])] (fun _ o => g.upd o (by simpa using h6)) (by simp) (by simp [(wend_ok gm).entK, take1_ok.entK, stamp_ok.entK]) 0 hX2 rd_had takens_code (by simp [takens_fu]) (by unfold tsV; split <;> rfl) ?_
  show _ = some (tsV l a, _)
  rw [tv]
  generalize bV l (numA l (numA l a)) = u at *
  have ne1 : ((if a < l.length then (4 : Int) else 0) = 1) = False := eq_false (by split <;> decide)
  by_cases c1 : gsOk l a = true
  · by_cases c2 : stampB (gV l a) (gV l (numA l a)) u (gV l (gbA l (numA l a))) (gV l (gnA l (numA l a))) = true
    · rw [c1, c2] at td
      simp [takens_fu, E, R, M, f_wend, f_take1, f_stamp, hpq, hpq.symm, tq, aq, owns, xown, c1, c2, td, adv_nf oq, adv_fn oq, adv_nf op, adv_fn op, ne1]
    · have c2 : stampB (gV l a) (gV l (numA l a)) u (gV l (gbA l (numA l a))) (gV l (gnA l (numA l a))) = false := by simpa using c2
      rw [c1, c2] at td
      simp [takens_fu, E, R, M, f_wend, f_take1, f_stamp, hpq, hpq.symm, tq, aq, owns, xown, c1, c2, td, adv_nf oq, adv_fn oq, adv_nf op, adv_fn op, ne1]
  · have c1 : gsOk l a = false := by simpa using c1
    rw [c1] at td
    simp [takens_fu, E, R, M, f_wend, f_take1, f_stamp, hpq, hpq.symm, tq, aq, owns, xown, c1, td, adv_nf oq, adv_fn oq, adv_nf op, adv_fn op, ne1]
theorem tb_ok : EntOK Tryz.prog (HasG m t1 t2) e_tb := mkEnt_ok ok_tb fun z h g hz hc => by
  obtain ⟨p, q, a, l⟩ := z
  have hz1 := hz
  obtain ⟨hpq, ha, hl, h6⟩ : p ≠ q ∧ a ≤ l.length ∧ l.length ≤ 9000 ∧ (Pos.ofNat 6).num ≤ p.num := hz
  obtain ⟨L, hX, tq, aq, hL⟩ := rd_open (p := p) (q := q) (a := (a : Int)) (l := l) hc
  have oq : q.num < h.next.num := (hX _ (List.mem_cons_of_mem _ (List.mem_cons_self ..))).old
  have op : p.num < h.next.num := (hX _ (List.mem_cons_self ..)).old
  have R := fun {U b st} (hU : tget U 65 = some e_takenb) hq ho => x_takenb (U := U) (b := b) (st := st) hU p q a l hz1 hq ho
  have hX2 : XI h.next [p] h ⟨0, [⟨p, 0, true, [.sl q 0 0 l.length (l.length + 1) true 1, int64 (a : Int)]⟩, ⟨q, 0, false, L⟩]⟩ h := .startW h hX (by simpa using hpq) (by simp)
  refine upd_of (U := []) (K := [e_takenb]) [(p, [.sl q 0 0 l.length (l.length + 1) true 1, int64 ((if tbOk l a = true then gbA l a else a : Nat) : Int)])] (fun _ o => g.upd o (by simpa using h6)) (by simp) (by simp [takenb_ok.entK]) 0 hX2 rd_had tb_code (by simp [tb_fu]) (by unfold tbV; split <;> rfl) ?_
  show _ = some (tbV l a, _)
  unfold tbV at R ⊢
  cases hk : tbOk l a <;> simp [hk] at R <;> simp [tb_fu, R, f_takenb, hpq, hpq.symm, tq, aq, owns, xown, hk, adv_nf oq, adv_fn oq, adv_nf op, adv_fn op]
theorem tn_ok : EntOK Tryz.prog (HasG m t1 t2) e_tn := mkEnt_ok ok_tn fun z h g hz hc => by
  obtain ⟨p, q, a, l⟩ := z
  have hz1 := hz
  obtain ⟨hpq, ha, hl, h6⟩ : p ≠ q ∧ a ≤ l.length ∧ l.length ≤ 9000 ∧ (Pos.ofNat 6).num ≤ p.num := hz
  obtain ⟨L, hX, tq, aq, hL⟩ := rd_open (p := p) (q := q) (a := (a : Int)) (l := l) hc
  have oq : q.num < h.next.num := (hX _ (List.mem_cons_of_mem _ (List.mem_cons_self ..))).old
  have op : p.num < h.next.num := (hX _ (List.mem_cons_self ..)).old
  have R := fun {U b st} (hU : tget U 69 = some e_takenn) hq ho => x_takenn (U := U) (b := b) (st := st) hU p q a l hz1 hq ho
  have hX2 : XI h.next [p] h ⟨0, [⟨p, 0, true, [.sl q 0 0 l.length (l.length + 1) true 1, int64 (a : Int)]⟩, ⟨q, 0, false, L⟩]⟩ h := .startW h hX (by simpa using hpq) (by simp)
  refine upd_of (U := []) (K := [e_takenn]) [(p, [.sl q 0 0 l.length (l.length + 1) true 1, int64 ((if tnOk l a = true then gnA l a else a : Nat) : Int)])] (fun _ o => g.upd o (by simpa using h6)) (by simp) (by simp [takenn_ok.entK]) 0 hX2 rd_had tn_code (by simp [tn_fu]) (by unfold tnV; split <;> rfl) ?_
  show _ = some (tnV l a, _)
  unfold tnV at R ⊢
  cases hk : tnOk l a <;> simp [hk] at R <;> simp [tn_fu, R, f_takenn, hpq, hpq.symm, tq, aq, owns, xown, hk, adv_nf oq, adv_fn oq, adv_nf op, adv_fn op]
theorem tt_ok : EntOK Tryz.prog (HasG m t1 t2) e_tt := mkEnt_ok ok_tt fun z h g hz hc => by
  obtain ⟨p, q, a, l⟩ := z
  have hz1 := hz
  obtain ⟨hpq, ha, hl, h6⟩ : p ≠ q ∧ a ≤ l.length ∧ l.length ≤ 9000 ∧ (Pos.ofNat 6).num ≤ p.num := hz
  obtain ⟨L, hX, tq, aq, hL⟩ := rd_open (p := p) (q := q) (a := (a : Int)) (l := l) hc
  have oq : q.num < h.next.num := (hX _ (List.mem_cons_of_mem _ (List.mem_cons_self ..))).old
  have op : p.num < h.next.num := (hX _ (List.mem_cons_self ..)).old
  have R := fun {U b st} (hU : tget U 73 = some e_takens) hq ho => x_takens (U := U) (b := b) (st := st) hU p q a l hz1 hq ho
  have hX2 : XI h.next [p] h ⟨0, [⟨p, 0, true, [.sl q 0 0 l.length (l.length + 1) true 1, int64 (a : Int)]⟩, ⟨q, 0, false, L⟩]⟩ h := .startW h hX (by simpa using hpq) (by simp)
  refine upd_of (U := []) (K := [e_takens]) [(p, [.sl q 0 0 l.length (l.length + 1) true 1, int64 ((if tsOk l a = true then gsA l a else a : Nat) : Int)])] (fun _ o => g.upd o (by simpa using h6)) (by simp) (by simp [takens_ok.entK]) 0 hX2 rd_had tt_code (by simp [tt_fu]) (by unfold tsV; split <;> rfl) ?_
  show _ = some (tsV l a, _)
  unfold tsV at R ⊢
  cases hk : tsOk l a <;> simp [hk] at R <;> simp [tt_fu, R, f_takens, hpq, hpq.symm, tq, aq, owns, xown, hk, adv_nf oq, adv_fn oq, adv_nf op, adv_fn op]
end
end Go.Proofs.YtjhgembcdndmkaaGreatDoor.St

namespace Go.Proofs.YtjhgembcdndmkaaGreatDoor.St
open Go Go.Proofs.YtjhgembcdndmkaaGreatDoor.Am Go.Proofs Go.RowKit
attribute [local simp] xr_mov xd_mov xr_pick xd_pick xr_bin xd_bin xr_un xd_un xr_build xr_convInt xd_convInt xr_mkFn xr_fld xd_fld xr_extract xr_lenS xr_lenL xd_lenL xr_nilPtr xd_nilPtr xr_load1 xd_load1 xr_loadN xd_loadN xr_bytesStr xd_bytesStr xr_eqPtr xr_new xr_box xr_buildSl xd_buildSl xd_strBytes xr_mkSl xr_idxAddrSl xd_idxAddrSl xr_idxStr xd_sliceSl orU_some orU_none lenSA_str lenSA_strOf lenLA_sl lenLA_nil xfn xcode xdrawn xr_nil xr_kg xr_kgu xr_call xr_store xr_append xd_append xap_sl xap_nl xapq_some xsrc_sl xsrc_nil xapp_nil xapp_grow xapp_room xset xown xnx_some xnp_some xnq_some xd_nil xdl_old xdl_new xda_some xd_call xd_kg xdn_some xld xal kindOf isAlloc allocs xins xrem xall xput xget xwhole xmine xcont xq xqs xres XS.add XR.out XR.outU XR.ups xsets XR.res Rs.seq Rs.inSc Rs.block mapO tupleA sv_args adv_eq tget eqs8 eqs7 eqi8 eqi7 eqg8 eql8 eqn8 eqn7 cells_strOf cells_int cells_agg cells_bool cells_str cells_sl cells_nil cells_ptr at_int at_str at_strOf at_bool at_sl at_nil at_ptr unstr_strOf unbyt_byt fill_nil fill_cons replA ev_tm ev_vl sv_stv bin_add bin_sub bin_mul bin_lss bin_leq bin_gtr bin_geq bin_eql bin_neq un_not nth0 nth1 nth2 xst_idxAddrSl xst_idxStr xst_sliceStr xst_sliceSl xsl_sl xbd slN Nat.testBit
noncomputable def adU (x y : Int) : Int := wrapA .u64 (x + y)
theorem ornum_loop (rm : Int → Int) (sh : Int → Int → Int) (h1 : ∀ kd no x, binA .rem kd no (.int .u8 x) (.int .u8 128) = some (.int .u8 (rm x))) (h0 : ∀ x : Nat, wrapA .u64 (rm (x : Int)) = rm (x : Int)) (h2 : ∀ kd no x (y : Nat), binA .shl kd no (.int .u64 x) (.int .i64 (y : Int)) = some (.int .u64 (sh x (y : Int))))
    (b : List UInt8) (hb : b.length ≤ 9000) (B p q : Pos) (cap : Nat) (hpq : p ≠ q) (sn : Nat) (a0 : Nat) (L : List AV) (hL : ∀ (j : Nat) (hj : j < b.length), L[j]? = some (.int .u8 (b[j].toNat : Int))) (k : Nat) :
    ∀ (fuel i : Nat) (n : Int) (env : T AV), sv env 0 = .ptr p 0 0 → sv env 4 = .int .u64 n → sv env 5 = int64 (i : Int) → i ≤ 9 → 10 < fuel + i → a0 + i ≤ b.length →
    ∃ env' r st', xloop (xcode Tryz.prog [] [] B (k + 1) ornum_0) fuel env ⟨sn, [⟨p, 0, true, [.sl q 0 0 b.length cap true 1, int64 (a0 : Int)]⟩, ⟨q, 0, false, L⟩]⟩ = some (r, env', st') ∧
      (match wread rm sh adU (b.drop (a0 + i)) i n with
        | some (v, m) => r = .ret ∧ sv env' 2 = .int .u64 v ∧ sv env' 3 = int64 0 ∧ st' = ⟨sn, [⟨p, 0, true, [.sl q 0 0 b.length cap true 1, int64 ((a0 + m : Nat) : Int)]⟩, ⟨q, 0, false, L⟩]⟩
        | none => (r = .ret ∧ sv env' 2 = .int .u64 0 ∧ sv env' 3 = int64 4 ∨ r = .exit 0) ∧ st' = ⟨sn, [⟨p, 0, true, [.sl q 0 0 b.length cap true 1, int64 (a0 : Int)]⟩, ⟨q, 0, false, L⟩]⟩)
  | 0, i, n, env, _, _, _, hi, hf, _ => by omega
  | fuel + 1, i, n, env, e0, e4, e5, hi, hf, ha => by
    unfold xloop
    have hi10 := eq_true (show (i : Int) < 10 by omega)
    have w0 : wrapA .i64 ((a0 : Int) + (i : Int)) = (a0 : Int) + (i : Int) := w64 (by omega) (by omega)
    have w1 : wrapA .i64 ((i : Int) + 1) = (i : Int) + 1 := w64 (by omega) (by omega)
    have w2 : wrapA .i64 (7 * (i : Int)) = 7 * (i : Int) := w64 (by omega) (by omega)
    have w3 : wrapA .i64 ((a0 : Int) + (i : Int) + 1) = (a0 : Int) + ((i : Int) + 1) := by rw [w64 (by omega) (by omega)]; omega
    by_cases hlt : a0 + i < b.length
    · have key := fun n env e0 e4 e5 hi' => ornum_loop rm sh h1 h0 h2 b hb B p q cap hpq sn a0 L hL k fuel (i + 1) n env e0 e4 e5 hi' (by omega) (by omega)
      generalize xloop (xcode Tryz.prog [] [] B (k + 1) ornum_0) fuel = R at key ⊢
      have hd : b.drop (a0 + i) = b[a0 + i] :: b.drop (a0 + (i + 1)) := List.drop_eq_getElem_cons hlt
      have hl := hL (a0 + i) hlt
      rw [hd]
      unfold wread
      generalize b[a0 + i] = c at hl
      have hc := c.toNat_lt
      have h2' : ∀ kd no x, binA .shl kd no (.int .u64 x) (.int .i64 (7 * (i : Int))) = some (.int .u64 (sh x (7 * (i : Int)))) := fun kd no x => h2 kd no x (7 * i)
      have hlt' := eq_true (show (a0 : Int) + (i : Int) < (b.length : Int) by omega)
      have tn : ((a0 : Int) + (i : Int)).toNat = a0 + i := by omega
      have nn := eq_true (show (0 : Int) ≤ (a0 : Int) + (i : Int) by omega)
      have ad : ∀ x y : Int, wrapA .u64 (x + y) = adU x y := fun _ _ => rfl
      have S : ((i = 9) = True ∧ ((i : Int) = 9) = True ∧ (0 < i) = True ∧ ((0 : Int) < (i : Int)) = True) ∨ ((i = 9) = False ∧ ((i : Int) = 9) = False ∧ (0 < i) = True ∧ ((0 : Int) < (i : Int)) = True) ∨ ((i = 9) = False ∧ ((i : Int) = 9) = False ∧ (0 < i) = False ∧ ((0 : Int) < (i : Int)) = False) := by
        simp only [eq_iff_iff, iff_true, iff_false]; omega
      have T : ((c.toNat = 0) = True ∧ ((c.toNat : Int) = 0) = True ∧ (1 < c.toNat) = False ∧ ((1 : Int) < (c.toNat : Int)) = False ∧ (c.toNat < 128) = True ∧ ((c.toNat : Int) < 128) = True) ∨ ((c.toNat = 0) = False ∧ ((c.toNat : Int) = 0) = False ∧ (1 < c.toNat) = False ∧ ((1 : Int) < (c.toNat : Int)) = False ∧ (c.toNat < 128) = True ∧ ((c.toNat : Int) < 128) = True) ∨
          ((c.toNat = 0) = False ∧ ((c.toNat : Int) = 0) = False ∧ (1 < c.toNat) = True ∧ ((1 : Int) < (c.toNat : Int)) = True ∧ (c.toNat < 128) = True ∧ ((c.toNat : Int) < 128) = True) ∨ ((c.toNat = 0) = False ∧ ((c.toNat : Int) = 0) = False ∧ (1 < c.toNat) = True ∧ ((1 : Int) < (c.toNat : Int)) = True ∧ (c.toNat < 128) = False ∧ ((c.toNat : Int) < 128) = False) := by
        simp only [eq_iff_iff, iff_true, iff_false]; omega
      rcases S with ⟨s1, s2, s3, s4⟩ | ⟨s1, s2, s3, s4⟩ | ⟨s1, s2, s3, s4⟩ <;> rcases T with ⟨t1, t2, t3, t4, t5, t6⟩ | ⟨t1, t2, t3, t4, t5, t6⟩ | ⟨t1, t2, t3, t4, t5, t6⟩ | ⟨t1, t2, t3, t4, t5, t6⟩ <;>
        simp [ornum_0, e0, e4, e5, hi10, w0, w1, w2, w3, hpq, hpq.symm, hlt', tn, nn, hl, h1, h0, h2', ad, s1, s2, s3, s4, t1, t2, t3, t4, t5, t6]
      all_goals first
        | exact ⟨_, _, ⟨rfl, rfl⟩, .inl ⟨rfl, by simp [sv_stv], by simp [sv_stv]⟩⟩
        | exact ⟨_, _, _, ⟨rfl, rfl, rfl⟩, rfl, by simp [sv_stv], by simp [sv_stv], rfl⟩
        | (have h9 : i ≠ 9 := of_eq_false s1
           refine key _ _ ?_ ?_ ?_ (by omega) <;> simp [sv_stv, e0])
    · have hz : b.drop (a0 + i) = [] := List.drop_eq_nil_of_le (by omega)
      rw [hz]
      unfold wread
      have hn2 := eq_false (show ¬ (a0 : Int) + (i : Int) < (b.length : Int) by omega)
      simp [ornum_0, e0, e5, hi10, w0, hpq, hpq.symm, hn2]
      exact ⟨_, _, ⟨rfl, rfl⟩, .inr rfl⟩
noncomputable def rmI (x : Int) : Int := x.tmod 128
theorem bin_rem8 (kd : EK) (no : Bool) (x : Int) : binA .rem kd no (.int .u8 x) (.int .u8 128) = some (.int .u8 (rmI x)) :=
  intK_eq (rmI x) fun r => some (AV.int .u8 r)
theorem rmI_nat (x : Nat) : rmI (x : Int) = ((x % 128 : Nat) : Int) := rfl
theorem wrap_rmI (x : Nat) : wrapA .u64 (rmI (x : Int)) = rmI (x : Int) := by
  rw [rmI_nat]
  exact wu64 (by omega) (by omega)
theorem bin_shlI (kd : EK) (no : Bool) (x : Int) (y : Nat) : binA .shl kd no (.int .u64 x) (.int .i64 (y : Int)) = some (.int .u64 (shU x (y : Int))) :=
  intK_eq (shU x (y : Int)) fun r => some (AV.int .u64 r)
theorem anI_nat (c : Nat) (hc : c < 256) : anI (c : Int) = ((c % 128 : Nat) : Int) := by
  show ((bif Nat.blt c (Nat.pow 2 8) && Nat.blt 127 (Nat.pow 2 8) then some (Int.ofNat (Nat.land c 127)) else bitsA .and .u8 (Int.ofNat c) (Int.ofNat 127)) : Option Int).getD 0 = _
  rw [blt_iff.2 (show c < Nat.pow 2 8 from hc), blt_iff.2 (show 127 < Nat.pow 2 8 by decide)]
  show ((c &&& 2 ^ 7 - 1 : Nat) : Int) = _
  rw [Nat.and_two_pow_sub_one_eq_mod]
theorem orU_nat (a b : Nat) (ha : a < 18446744073709551616) (hb : b < 18446744073709551616) : orU64 (a : Int) (b : Int) = ((a ||| b : Nat) : Int) := by
  show ((bif Nat.blt a (Nat.pow 2 64) && Nat.blt b (Nat.pow 2 64) then some (Int.ofNat (Nat.lor a b)) else bitsA .or .u64 (Int.ofNat a) (Int.ofNat b)) : Option Int).getD 0 = _
  rw [blt_iff.2 (show a < Nat.pow 2 64 from ha), blt_iff.2 (show b < Nat.pow 2 64 from hb)]
  rfl
theorem shU_nat (a y : Nat) (hy : y ≤ 64) : shU (a : Int) (y : Int) = ((a * 2 ^ y % 18446744073709551616 : Nat) : Int) := by
  unfold shU
  rw [Int.toNat_natCast, ble_iff.2 hy]
  rfl
theorem adU_nat (a b : Nat) : adU (a : Int) (b : Int) = (((a + b) % 18446744073709551616 : Nat) : Int) := rfl
theorem num_step {i n c : Nat} (hi : i ≤ 9) (hn : n < 2 ^ (7 * i)) (hc : c < 256) (h9 : ¬ (i = 9 ∧ 1 < c)) : orU64 (n : Int) (shU (anI (c : Int)) (7 * (i : Int))) = ((n + c % 128 * 2 ^ (7 * i) : Nat) : Int) ∧ adU (n : Int) (shU (rmI (c : Int)) (7 * (i : Int))) = ((n + c % 128 * 2 ^ (7 * i) : Nat) : Int) ∧ (i < 9 → n + c % 128 * 2 ^ (7 * i) < 2 ^ (7 * (i + 1))) := by
  have e7 : 7 * (i : Int) = ((7 * i : Nat) : Int) := rfl
  have hp : 2 ^ (7 * (i + 1)) = 128 * 2 ^ (7 * i) := by rw [show 7 * (i + 1) = 7 + 7 * i by omega, Nat.pow_add]
  have hm : c % 128 < 128 := Nat.mod_lt _ (by decide)
  have hmul : c % 128 * 2 ^ (7 * i) ≤ 127 * 2 ^ (7 * i) := Nat.mul_le_mul_right _ (by omega)
  have hlt : n + c % 128 * 2 ^ (7 * i) < 2 ^ (7 * (i + 1)) := by rw [hp]; omega
  have hs : c % 128 * 2 ^ (7 * i) + n < 18446744073709551616 := by
    rcases Nat.lt_or_ge i 9 with c9 | c9
    · have : 2 ^ (7 * (i + 1)) ≤ 2 ^ 63 := Nat.pow_le_pow_right (by decide) (by omega)
      have e : (2 : Nat) ^ 63 = 9223372036854775808 := by decide
      omega
    · have i9 : i = 9 := by omega
      subst i9
      have h1 : c ≤ 1 := by omega
      have h2 : c % 128 = c := Nat.mod_eq_of_lt (by omega)
      have e : (2 : Nat) ^ (7 * 9) = 9223372036854775808 := by decide
      have : c % 128 * 2 ^ (7 * 9) ≤ 1 * 2 ^ (7 * 9) := Nat.mul_le_mul_right _ (by omega)
      omega
  rw [anI_nat c hc, rmI_nat, e7, shU_nat _ _ (by omega), Nat.mod_eq_of_lt (show c % 128 * 2 ^ (7 * i) < 18446744073709551616 by omega), adU_nat, orU_nat _ _ (by omega) (by omega), Nat.mod_eq_of_lt (show n + c % 128 * 2 ^ (7 * i) < 18446744073709551616 by omega)]
  refine ⟨?_, rfl, fun _ => hlt⟩
  rw [Nat.or_comm, Nat.mul_comm, ← Nat.two_pow_add_eq_or_of_lt hn, Nat.add_comm]
theorem wread_same : ∀ {l : List UInt8} {i n : Nat}, i ≤ 9 → n < 2 ^ (7 * i) → wread rmI shU adU l i (n : Int) = wread anI shU orU64 l i (n : Int)
  | [], _, _, _, _ => rfl
  | c :: l, i, n, hi, hn => by
    unfold wread
    by_cases c1 : (i = 9 ∧ 1 < c.toNat) ∨ (0 < i ∧ c.toNat = 0)
    · rw [if_pos c1, if_pos c1]
    · rw [if_neg c1, if_neg c1]
      obtain ⟨h1, h2, h3⟩ := num_step (c := c.toNat) hi hn c.toNat_lt (fun q => c1 (.inl q))
      rw [h1, h2]
      by_cases c2 : c.toNat < 128
      · rw [if_pos c2, if_pos c2]
      · rw [if_neg c2, if_neg c2]
        have i9 : i < 9 := by omega
        exact wread_same (by omega) (h3 i9)
theorem numR_same (l : List UInt8) (a : Nat) : wread rmI shU adU (l.drop a) 0 0 = numR l a := wread_same (n := 0) (by omega) (by decide)
end Go.Proofs.YtjhgembcdndmkaaGreatDoor.St

namespace Go.Proofs.YtjhgembcdndmkaaGreatDoor.St
open Go Go.Proofs.YtjhgembcdndmkaaGreatDoor.Am Go.Proofs Go.RowKit
attribute [local simp] xr_mov xd_mov xr_pick xd_pick xr_bin xd_bin xr_un xd_un xr_build xr_convInt xd_convInt xr_mkFn xr_fld xd_fld xr_extract xr_lenS xr_lenL xd_lenL xr_nilPtr xd_nilPtr xr_load1 xd_load1 xr_loadN xd_loadN xr_bytesStr xd_bytesStr xr_eqPtr xr_new xr_box xr_buildSl xd_buildSl xd_strBytes xr_mkSl xr_idxAddrSl xd_idxAddrSl xr_idxStr xd_sliceSl orU_some orU_none lenSA_str lenSA_strOf lenLA_sl lenLA_nil xfn xcode xdrawn xr_nil xr_kg xr_kgu xr_call xr_store xr_append xd_append xap_sl xap_nl xapq_some xsrc_sl xsrc_nil xapp_nil xapp_grow xapp_room xset xown xnx_some xnp_some xnq_some xd_nil xdl_old xdl_new xda_some xd_call xd_kg xdn_some xld xal kindOf isAlloc allocs xins xrem xall xput xget xwhole xmine xcont xq xqs xres XS.add XR.out XR.outU XR.ups xsets XR.res Rs.seq Rs.inSc Rs.block mapO tupleA sv_args adv_eq tget eqs8 eqs7 eqi8 eqi7 eqg8 eql8 eqn8 eqn7 cells_strOf cells_int cells_agg cells_bool cells_str cells_sl cells_nil cells_ptr at_int at_str at_strOf at_bool at_sl at_nil at_ptr unstr_strOf unbyt_byt fill_nil fill_cons replA ev_tm ev_vl sv_stv bin_add bin_sub bin_mul bin_lss bin_leq bin_gtr bin_geq bin_eql bin_neq un_not nth0 nth1 nth2 xst_idxAddrSl xst_idxStr xst_sliceStr xst_sliceSl xsl_sl xbd slN Nat.testBit
def OdV (d : Pos) (v : AV) (l : List UInt8) : Prop := (v = .nilSl ∧ l = []) ∨ ∃ q cap, v = .sl q 0 0 l.length cap true 1 ∧ q ≠ d ∧ l.length ≤ cap
def OdP (d : Pos) (v : AV) (a : Nat) (l : List UInt8) : Prop := OdV d v l ∧ a ≤ l.length ∧ l.length ≤ 9000 ∧ (Pos.ofNat 6).num ≤ d.num
theorem od_open {h : Hp} {d : Pos} {v : AV} {a : Int} {l : List UInt8} {r : List AV} (hv : OdV d v l) (hc : Conts h (.ptr d 0 0 :: r) [.own 0, .bsl 0 0] [[v, int64 a], byt l]) :
    (v = .nilSl ∧ l = [] ∧ AllH [⟨d, 0, true, [.nilSl, int64 a]⟩] h ∧ d.num < h.next.num) ∨ ∃ q cap L, v = .sl q 0 0 l.length cap true 1 ∧ q ≠ d ∧ l.length ≤ cap ∧ AllH [⟨d, 0, true, [.sl q 0 0 l.length cap true 1, int64 a]⟩, ⟨q, 0, false, L⟩] h ∧ L.take l.length = byt l ∧ l.length ≤ L.length ∧
      (∀ (j : Nat) (hj : j < l.length), L[j]? = some (.int .u8 (l[j].toNat : Int))) ∧ d.num < h.next.num ∧ q.num < h.next.num := by
  obtain ⟨_, _, e, ⟨_, ev, w⟩, _, _, e', ⟨_, C, _, ev', w', k', s'⟩, _⟩ := hc
  cases e; cases e'; cases ev; cases ev'
  cases Holds.eq w w'
  cases k'
  rcases hv with ⟨rfl, rfl⟩ | ⟨q, cap, rfl, hq, hcap⟩
  · refine .inl ⟨rfl, rfl, fun x mx => ?_, w.old⟩
    simp only [List.mem_cons, List.not_mem_nil, or_false] at mx
    subst mx; exact w
  · obtain ⟨L, kq, tq, aq⟩ := slc_at' s'
    refine .inr ⟨q, cap, L, rfl, hq, hcap, ?_, tq, aq, fun j hj => ?_, w.old, kq.old⟩
    · intro x mx
      simp only [List.mem_cons, List.not_mem_nil, or_false] at mx
      rcases mx with rfl | rfl <;> assumption
    · have e1 : (L.take l.length)[j]? = L[j]? := List.getElem?_take_of_lt hj
      rw [← e1, tq]
      show (l.map _)[j]? = _
      rw [List.getElem?_map, List.getElem?_eq_getElem hj]; rfl
theorem od_had {d : Pos} {v : AV} {a b : Int} {X : List XB} : Had (⟨d, 0, true, [v, int64 a]⟩ :: X) [(d, [v, int64 b])] := fun x mx => by
  simp only [List.mem_singleton] at mx
  subst mx
  exact ⟨_, List.mem_cons_self .., fun y hy => by
    simp only [List.mem_cons, List.not_mem_nil, or_false] at hy
    rcases hy with rfl | rfl
    · right; simp
    · left; rfl⟩
theorem xdl_nil {P : Program} {U : List Ent} {b : Pos} {X0 : List XB} {i : Nat} {l : List O} {env : T AV} {s : XS} {pend : List (Nat × XB)} {rid am m d : Nat} (y : Option AV) : xdl P U b X0 i l env s pend rid am m d (some .nilSl) y = xdrs P U b X0 (i + 1) l ⟨stv env d .nilSl, s, pend, rid, am, false⟩ := xdl_old .nilSl y eqn8
noncomputable def e_ornum : Ent := mkEnt 105 1 [.own 0, .bsl 0 0] (fun z_ : Pos × AV × Nat × (List UInt8) => [.ptr z_.1 0 0]) (fun z_ => [[z_.2.1, int64 (z_.2.2.1 : Int)], byt z_.2.2.2]) (fun z_ => OdP z_.1 z_.2.1 z_.2.2.1 z_.2.2.2) (fun z_ => .upd [(z_.1, [z_.2.1, int64 (numA z_.2.2.2 z_.2.2.1 : Int)])] (.tup [.int .u64 (numV z_.2.2.2 z_.2.2.1), int64 (numE z_.2.2.2 z_.2.2.1)]))
theorem f_ornum : e_ornum.f = 105 := rfl
theorem x_ornum {U : List Ent} {b : Pos} {st : XS} (hU : tget U 105 = some e_ornum) (d : Pos) (v : AV) (a : Nat) (l : List UInt8) (hp : OdP d v a l) (hq : xqs st.X [.ptr d 0 0] [.own 0, .bsl 0 0] = some [[v, int64 (a : Int)], byt l]) (ho : ((.upd [(d, [v, int64 (numA l a : Int)])] (.tup [.int .u64 (numV l a), int64 (numE l a)]) : XR).ups.all fun x => (xown st.X x.1 0).isSome) = true) : xcall U b 105 [.ptr d 0 0] st = none ∧ xupd U b 105 [.ptr d 0 0] st = some (XR.outU b st (.upd [(d, [v, int64 (numA l a : Int)])] (.tup [.int .u64 (numV l a), int64 (numE l a)]))) :=
  xupd_at hU rfl hq (mkEnt_spec (by rintro ⟨a0, a1, a2, a3⟩ ⟨b0, b1, b2, b3⟩ h hc; simp only [List.cons.injEq, AV.agg.injEq, AV.tup.injEq, AV.int.injEq, AV.bool.injEq, AV.ptr.injEq, AV.sl.injEq, strOf_eq, byt_eq, map_strOf_eq, true_and, and_true, Int.natCast_inj] at h hc; simp [h, hc]) (d, v, a, l) hp) (by first | rfl | (split <;> rfl)) ho
section
variable {m : Int} {t1 t2 : AV}
theorem ornum_ok : EntOK Tryz.prog (HasG m t1 t2) e_ornum := mkEnt_ok ok_ornum fun z h g hz hc => by
  obtain ⟨d, v, a, l⟩ := z
  obtain ⟨hv, ha, hl, h6⟩ : OdP d v a l := hz
  rcases od_open (d := d) (v := v) (a := (a : Int)) (l := l) hv hc with ⟨rfl, rfl, hX, od⟩ | ⟨q, cap, L, rfl, hq, hcap, hX, tq, aq, hL, od, oq⟩
  · obtain rfl : a = 0 := by simpa using ha
    refine upd_of (U := []) (K := []) [(d, [.nilSl, int64 ((0 : Nat) : Int)])] (fun _ o => g.upd o (by simpa using h6)) (by simp) (by simp) 12 (.startW h hX (by simp) (by simp)) od_had ornum_code (by simp [ornum_fu]) rfl ?_
    show _ = some (AV.tup [.int .u64 0, int64 4], _)
    simp [ornum_fu, ornum_0, xdl_nil, xloop, owns, xown, w64]
  · have hX2 : XI h.next [d] h ⟨0, [⟨d, 0, true, [.sl q 0 0 l.length cap true 1, int64 (a : Int)]⟩, ⟨q, 0, false, L⟩]⟩ h := .startW h hX (by simpa using hq.symm) (by simp)
    refine upd_of (U := []) (K := []) [(d, [.sl q 0 0 l.length cap true 1, int64 (numA l a : Int)])] (fun _ o => g.upd o (by simpa using h6)) (by simp) (by simp) 12 hX2 od_had ornum_code (by simp [ornum_fu]) rfl ?_
    have LP := fun env e0 e4 e5 => ornum_loop rmI shU bin_rem8 wrap_rmI bin_shlI l hl h.next d q cap hq.symm 0 a L hL 11 12 0 0 env e0 e4 e5 (by omega) (by omega) (by simpa using ha)
    obtain ⟨env', r, st', e, hm⟩ := LP (stv (stv (stv (stv (setArgs .e 0 [.ptr d 0 0]) 2 (.int .u64 0)) 3 (int64 0)) 4 (.int .u64 0)) 5 (int64 0)) (by simp [sv_stv, sv_args]) (by simp [sv_stv]) (by simp [sv_stv])
    rw [Nat.add_zero, numR_same] at hm
    cases hw : numR l a with
    | none =>
      rw [hw] at hm
      obtain ⟨hm, rfl⟩ := hm
      have x1 : numV l a = 0 := by unfold numV; rw [hw]; rfl
      have x2 : numA l a = a := by unfold numA; rw [hw]; rfl
      have x3 : numE l a = 4 := by unfold numE; rw [hw]; rfl
      rcases hm with ⟨rfl, m1, m2⟩ | rfl
      · simp [ornum_fu, hq, hq.symm, e, m1, m2, owns, xown, x1, x2, x3]
      · simp [ornum_fu, hq, hq.symm, e, owns, xown, x1, x2, x3]
    | some vk =>
      obtain ⟨v, k⟩ := vk
      rw [hw] at hm
      obtain ⟨rfl, m1, m2, rfl⟩ := hm
      have x1 : numV l a = v := by unfold numV; rw [hw]; rfl
      have x2 : numA l a = a + k := by unfold numA; rw [hw]; rfl
      have x3 : numE l a = 0 := by unfold numE; rw [hw]; rfl
      simp [ornum_fu, hq, hq.symm, e, m1, m2, owns, xown, x1, x2, x3]
end
end Go.Proofs.YtjhgembcdndmkaaGreatDoor.St
