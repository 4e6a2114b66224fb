import Derived.Test.YtjhgembcdndmkaaGreatDoorSxB
/- THE WALK'S PARTS, part C: what the functions of the law compute, over the abstract machine that stands beside this text. No condition. -/
set_option linter.unusedSimpArgs false
set_option linter.unusedVariables false
namespace Go.Proofs.YtjhgembcdndmkaaGreatDoor.St
open Go Go.Proofs.YtjhgembcdndmkaaGreatDoor.Am Go.Proofs Go.RowKit
attribute [local simp] xr_mov xd_mov xr_pick xd_pick xr_bin xd_bin xr_un xd_un xr_build xd_build xr_convInt xd_convInt xr_mkFn xr_fld xd_fld xr_extract xd_extract xr_lenL xd_lenL xr_nilPtr xd_nilPtr xr_load1 xd_load1 xr_loadN xd_loadN xr_bytesStr xd_bytesStr xr_eqPtr xr_eqIfc xr_new xd_new xr_box xr_buildSl xd_buildSl xd_strBytes xr_mkSl xr_idxAddrSl xd_idxAddrSl xd_sliceSl orU_some orU_none lenSA_str lenSA_strOf lenLA_sl lenLA_nil xfn xcode xdrawn xr_nil xr_kg xr_kgu xr_cmp xcmp_some xr_call xr_store xr_append xd_append xap_sl xap_nl xapq_some xsrc_sl xsrc_nil xapp_grow xapp_room xset xown xnx_some xnp_some xnq_some xd_nil xdl_old xdl_new xda_some xd_call xd_store xd_kg xdn_some xld xal kindOf isAlloc allocs xins xrem xall xput xget xwhole xmine xcont xq xqs xres XS.add XR.out XR.outU XR.ups xsets XR.res Rs.seq Rs.inSc Rs.block mapO tupleA sv_args adv_eq tget eqs8 eqs7 eqi8 eqi7 eqg8 eql8 eqn8 eqn7 cells_strOf cells_int cells_agg cells_bool cells_str cells_sl cells_nil cells_ptr at_int at_str at_strOf at_bool at_sl at_nil at_ptr unstr_strOf unbyt_byt fill_nil fill_cons replA ev_tm ev_vl sv_stv bin_add bin_sub bin_mul bin_lss bin_leq bin_gtr bin_geq bin_eql bin_neq un_not un_neg nth0 nth1 nth2 xst_idxAddrSl xst_idxStr xst_sliceStr xst_sliceSl xsl_sl xbd slN Nat.testBit
noncomputable def anI (x : Int) : Int := (bitsF .and .u8 x 127).getD 0
noncomputable def shU (x y : Int) : Int := wrapA .u64 (x * Int.ofNat (Nat.pow 2 (bif Nat.ble y.toNat 64 then y.toNat else 64)))
noncomputable def orU64 (x y : Int) : Int := (bitsF .or .u64 x y).getD 0
theorem bitsF_some (op : BinOp) (hop : op = .and ∨ op = .or) (k : IntKind) (x y : Int) : bitsF op k x y = some ((bitsF op k x y).getD 0) := by
  have : ∃ z, bitsF op k x y = some z := by
    unfold bitsF
    rcases hop with rfl | rfl <;> (cases x with
    | ofNat a => cases y with
      | ofNat b =>
        dsimp only
        cases (Nat.blt a (Nat.pow 2 (topBits k)) && Nat.blt b (Nat.pow 2 (topBits k))) <;> exact ⟨_, rfl⟩
      | negSucc b => exact ⟨_, rfl⟩
    | negSucc a => exact ⟨_, rfl⟩)
  obtain ⟨z, e⟩ := this
  rw [e]; rfl
theorem bin_and8 (kd : EK) (no : Bool) (x : Int) : binA .and kd no (.int .u8 x) (.int .u8 127) = some (.int .u8 (anI x)) := by
  show (if IntKind.u8 = IntKind.u8 then intBin .and .u8 x 127 else none) = _
  rw [if_pos rfl]
  unfold intBin
  have e : bitsF .and .u8 x 127 = some (anI x) := bitsF_some .and (.inl rfl) .u8 x 127
  simp only [e, intK_eq]
theorem bin_orU (kd : EK) (no : Bool) (x y : Int) : binA .or kd no (.int .u64 x) (.int .u64 y) = some (.int .u64 (orU64 x y)) := by
  show (if IntKind.u64 = IntKind.u64 then intBin .or .u64 x y else none) = _
  rw [if_pos rfl]
  unfold intBin
  have e : bitsF .or .u64 x y = some (orU64 x y) := bitsF_some .or (.inr rfl) .u64 x y
  simp only [e, intK_eq]
theorem bin_shlU (kd : EK) (no : Bool) (x : Int) (y : Nat) : binA .shl kd no (.int .u64 x) (.int .u64 (y : Int)) = some (.int .u64 (shU x (y : Int))) :=
  intK_eq (shU x (y : Int)) fun r => some (AV.int .u64 r)
theorem and8_range {a : Int} {z : Int} (e : bitsF .and .u8 a (Int.ofNat 127) = some z) : 0 ≤ z ∧ z ≤ 255 := by
  have hA : ∀ n : Nat, 0 ≤ IntKind.wrap .u8 (n : Int) ∧ IntKind.wrap .u8 (n : Int) ≤ 255 := fun n => by unfold IntKind.wrap; simp [IntKind.signed, IntKind.bits]; omega
  unfold bitsF at e
  cases a with
  | ofNat a =>
    dsimp only at e
    cases h : (Nat.blt a (Nat.pow 2 (topBits .u8)) && Nat.blt 127 (Nat.pow 2 (topBits .u8))) with
    | true =>
      rw [h, cond_true] at e
      cases e
      have : Nat.land a 127 ≤ 127 := Nat.and_le_right
      exact ⟨Int.natCast_nonneg _, by show ((Nat.land a 127 : Nat) : Int) ≤ 255; omega⟩
    | false =>
      rw [h, cond_false] at e
      cases e
      exact hA _
  | negSucc a => cases e; exact hA _
theorem anI_range (x : Int) : 0 ≤ anI x ∧ anI x ≤ 255 := and8_range (bitsF_some .and (.inl rfl) .u8 x 127)
theorem wrap_anI (x : Int) : wrapA .u64 (anI x) = anI x := by
  have := anI_range x
  exact wu64 (by omega) (by omega)
noncomputable def numR (b : List UInt8) (a : Nat) : Option (Int × Nat) := wread anI shU orU64 (b.drop a) 0 0
noncomputable def numV (b : List UInt8) (a : Nat) : Int := ((numR b a).map (·.1)).getD 0
noncomputable def numA (b : List UInt8) (a : Nat) : Nat := ((numR b a).map fun p => a + p.2).getD a
noncomputable def numE (b : List UInt8) (a : Nat) : Int := if (numR b a).isSome then 0 else 4
theorem HasG.upd {m : Int} {t1 t2 : AV} {h h' : Hp} {S : List Pos} (g : HasG m t1 t2 h) (o : Only S h h') (hS : ∀ p ∈ S, (Pos.ofNat 6).num ≤ p.num) : HasG m t1 t2 h' := by
  have n : ∀ i, i < 6 → (Pos.ofNat i).num < h.next.num := fun i hi => by have := g.old; rw [Pos.num_ofNat] at this ⊢; omega
  have ne : ∀ i, i < 6 → Pos.ofNat i ∉ S := fun i hi c => by have := hS _ c; rw [Pos.num_ofNat, Pos.num_ofNat] at this; omega
  exact ⟨by rw [o.same _ (n 0 (by omega)) (ne 0 (by omega))]; exact g.max, by rw [o.same _ (n 1 (by omega)) (ne 1 (by omega))]; exact g.syn, by rw [o.same _ (n 2 (by omega)) (ne 2 (by omega))]; exact g.rng, by rw [o.same _ (n 3 (by omega)) (ne 3 (by omega))]; exact g.tab, g.isA, g.isB, Nat.le_trans g.old o.next⟩
theorem slc_at' {h : Hp} {p : Pos} {n cap0 : Nat} {l : List AV} {ex : Bool} (c : SlC h (.sl p 0 0 n cap0 ex 1) l) : ∃ L, XB.Holds h ⟨p, 0, false, L⟩ ∧ List.take n L = l ∧ n ≤ L.length := by
  generalize hv : AV.sl p 0 0 n cap0 ex 1 = v at c
  cases c with
  | nil => cases hv
  | @mk id gg off n cap es e' L k hn =>
    cases hv
    exact ⟨L, k, by simp, by omega⟩
noncomputable def e_wnum : Ent := mkEnt 21 1 [.own 0, .bsl 0 0] (fun z_ : Pos × Pos × Nat × (List UInt8) => [.ptr z_.1 0 0]) (fun z_ => [[.sl z_.2.1 0 0 z_.2.2.2.length (z_.2.2.2.length + 1) true 1, int64 (z_.2.2.1 : Int)], byt z_.2.2.2]) (fun z_ => z_.1 ≠ z_.2.1 ∧ z_.2.2.1 ≤ z_.2.2.2.length ∧ z_.2.2.2.length ≤ 9000 ∧ (Pos.ofNat 6).num ≤ z_.1.num) (fun z_ => .upd [(z_.1, [.sl z_.2.1 0 0 z_.2.2.2.length (z_.2.2.2.length + 1) true 1, int64 (numA z_.2.2.2 z_.2.2.1 : Int)])] (.tup [.int .u64 (numV z_.2.2.2 z_.2.2.1), int64 (numE z_.2.2.2 z_.2.2.1)]))
theorem f_wnum : e_wnum.f = 21 := rfl
theorem x_wnum {U : List Ent} {b : Pos} {st : XS} (hU : tget U 21 = some e_wnum) (p : Pos) (q : Pos) (a : Nat) (l : List UInt8) (hp : p ≠ q ∧ a ≤ l.length ∧ l.length ≤ 9000 ∧ (Pos.ofNat 6).num ≤ p.num) (hq : xqs st.X [.ptr p 0 0] [.own 0, .bsl 0 0] = some [[.sl q 0 0 l.length (l.length + 1) true 1, int64 (a : Int)], byt l]) (ho : ((.upd [(p, [.sl q 0 0 l.length (l.length + 1) true 1, int64 (numA l a : Int)])] (.tup [.int .u64 (numV l a), int64 (numE l a)]) : XR).ups.all fun x => (xown st.X x.1 0).isSome) = true) : xcall U b 21 [.ptr p 0 0] st = none ∧ xupd U b 21 [.ptr p 0 0] st = some (XR.outU b st (.upd [(p, [.sl q 0 0 l.length (l.length + 1) true 1, int64 (numA l a : Int)])] (.tup [.int .u64 (numV l a), int64 (numE l a)]))) :=
  xupd_at hU rfl hq (mkEnt_spec (by rintro ⟨a0, a1, a2, a3⟩ ⟨b0, b1, b2, b3⟩ h hc; simp only [List.cons.injEq, AV.agg.injEq, AV.tup.injEq, AV.int.injEq, AV.bool.injEq, AV.ptr.injEq, AV.sl.injEq, strOf_eq, byt_eq, map_strOf_eq, true_and, and_true, Int.natCast_inj] at h hc; simp [h, hc]) (p, q, a, l) hp) (by first | rfl | (split <;> rfl)) ho
section
variable {m : Int} {t1 t2 : AV}
theorem wnum_ok : EntOK Tryz.prog (HasG m t1 t2) e_wnum := mkEnt_ok ok_wnum fun z h g hz hc => by
  obtain ⟨p, q, a, l⟩ := z
  obtain ⟨hpq, ha, hl, h6⟩ : p ≠ q ∧ a ≤ l.length ∧ l.length ≤ 9000 ∧ (Pos.ofNat 6).num ≤ p.num := hz
  obtain ⟨_, _, e, ⟨_, ev, w⟩, _, _, e', ⟨_, C, _, ev', w', k', s'⟩, _⟩ := hc
  cases e; cases e'; cases ev; cases ev'
  cases Holds.eq w w'
  cases k'
  dsimp only at *
  obtain ⟨L, kq, tq, aq⟩ := slc_at' s'
  have hX : AllH [⟨p, 0, true, [.sl q 0 0 l.length (l.length + 1) true 1, int64 (a : Int)]⟩, ⟨q, 0, false, L⟩] h := by
    intro x mx
    simp only [List.mem_cons, List.not_mem_nil, or_false] at mx
    rcases mx with rfl | rfl <;> assumption
  have hL : ∀ (j : Nat) (hj : j < l.length), L[j]? = some (.int .u8 (l[j].toNat : Int)) := fun j hj => by
    have e1 : (L.take l.length)[j]? = L[j]? := List.getElem?_take_of_lt hj
    rw [← e1, tq]
    show (l.map _)[j]? = _
    rw [List.getElem?_map, List.getElem?_eq_getElem hj]; rfl
  refine upd_of [(p, [.sl q 0 0 l.length (l.length + 1) true 1, int64 (numA l a : Int)])] (U := []) (K := [e_there]) (fun _ o => g.upd o (by simpa using h6)) (by simp) (by simp [(there_ok (G := HasG m t1 t2) (fun _ _ g o => g.more o)).entK]) 12 (.startW h hX (by simpa using hpq) (by simp)) (fun x mx => ?_) wnum_code (by simp [wnum_fu]) rfl ?_
  · simp only [List.mem_singleton] at mx
    subst mx
    exact ⟨_, List.mem_cons_self .., fun y hy => by
      simp only [List.mem_cons, List.not_mem_nil, or_false] at hy
      rcases hy with rfl | rfl
      · right; simp
      · left; rfl⟩
  · have LP := fun env e0 e4 e5 e6 => wnum_loop anI shU orU64 bin_and8 wrap_anI bin_shlU bin_orU l hl h.next p q hpq 0 a L hL 11 12 0 0 env e0 e4 e5 e6 (by omega) (by omega) (by simpa using ha)
    obtain ⟨env', r, st', e, hm⟩ := LP (stv (stv (stv (stv (stv (stv (stv (stv (stv (stv (stv (stv (setArgs .e 0 [.ptr p 0 0]) 2 (.int .u64 0)) 3 (int64 0)) 8 (.ptr p 0 0)) 9 (.bool true)) 10 (.bool false)) 11 (.ptr p 0 0)) 12 (.ptr p 0 0)) 13 (.ptr p 0 1)) 14 (int64 (a : Int))) 4 (.int .u64 0)) 5 (int64 (a : Int))) 6 (.int .u64 0)) (by simp [sv_stv, sv_args]) (by simp [sv_stv]) (by simp [sv_stv]) (by simp [sv_stv])
    simp only [rdC, Nat.add_zero] at e hm
    cases hw : wread anI shU orU64 (l.drop a) 0 0 with
    | none =>
      rw [hw] at hm
      obtain ⟨rfl, rfl⟩ := hm
      simp [wnum_fu, x_there (q := q) (n := l.length) (a := (a : Int)), f_there, hpq, hpq.symm, e, owns, xown, numV, numA, numE, numR, hw]
    | some vk =>
      obtain ⟨v, k⟩ := vk
      rw [hw] at hm
      obtain ⟨rfl, m1, m2, rfl⟩ := hm
      simp [wnum_fu, x_there (q := q) (n := l.length) (a := (a : Int)), f_there, hpq, hpq.symm, e, m1, m2, owns, xown, numV, numA, numE, numR, hw]
end
end Go.Proofs.YtjhgembcdndmkaaGreatDoor.St

namespace Go.Proofs.YtjhgembcdndmkaaGreatDoor.St
open Go Go.Proofs.YtjhgembcdndmkaaGreatDoor.Am Go.Proofs Go.RowKit
theorem orF_nonneg {x y z : Int} (e : bitsF .or .u64 x y = some z) : 0 ≤ z := by
  have hA : ∀ n : Nat, 0 ≤ IntKind.wrap .u64 (n : Int) := fun n => by unfold IntKind.wrap; simp [IntKind.signed, IntKind.bits]; omega
  unfold bitsF at e
  cases x with
  | ofNat a => cases y with
    | ofNat b =>
      dsimp only at e
      cases h : (Nat.blt a (Nat.pow 2 (topBits .u64)) && Nat.blt b (Nat.pow 2 (topBits .u64))) with
      | true =>
        rw [h, cond_true] at e
        cases e
        exact Int.natCast_nonneg _
      | false =>
        rw [h, cond_false] at e
        cases e
        exact hA _
    | negSucc b => cases e; exact hA _
  | negSucc a => cases e; exact hA _
theorem orU64_nonneg (x y : Int) : 0 ≤ orU64 x y := orF_nonneg (bitsF_some .or (.inr rfl) .u64 x y)
theorem wread_or {an : Int → Int} {sh or : Int → Int → Int} : ∀ {l : List UInt8} {i : Nat} {n v : Int} {k : Nat}, wread an sh or l i n = some (v, k) → ∃ x y, v = or x y
  | [], _, _, _, _, e => by cases e
  | c :: l, i, n, v, k, e => by
    unfold wread at e
    split at e
    · cases e
    · split at e
      · cases e; exact ⟨_, _, rfl⟩
      · exact wread_or e
theorem numV_nonneg (l : List UInt8) (a : Nat) : 0 ≤ numV l a := by
  unfold numV numR
  cases h : wread anI shU orU64 (l.drop a) 0 0 with
  | none => exact Int.le_refl _
  | some p =>
    obtain ⟨v, k⟩ := p
    obtain ⟨x, y, rfl⟩ := wread_or h
    exact orU64_nonneg x y
theorem wread_len {an : Int → Int} {sh or : Int → Int → Int} : ∀ {l : List UInt8} {i : Nat} {n v : Int} {k : Nat}, wread an sh or l i n = some (v, k) → i < k ∧ k ≤ i + l.length
  | [], _, _, _, _, e => by cases e
  | c :: l, i, n, v, k, e => by
    unfold wread at e
    split at e
    · cases e
    · split at e
      · cases e; simp
      · have := wread_len e; simp; omega
theorem numA_le {l : List UInt8} {a : Nat} (h : a ≤ l.length) : a ≤ numA l a ∧ numA l a ≤ l.length := by
  unfold numA numR
  cases e : wread anI shU orU64 (l.drop a) 0 0 with
  | none => exact ⟨Nat.le_refl _, h⟩
  | some p =>
    obtain ⟨v, k⟩ := p
    have := wread_len e
    rw [List.length_drop] at this
    show a ≤ a + k ∧ a + k ≤ l.length
    omega
end Go.Proofs.YtjhgembcdndmkaaGreatDoor.St

namespace Go.Proofs.YtjhgembcdndmkaaGreatDoor.St
open Go Go.Proofs.YtjhgembcdndmkaaGreatDoor.Am Go.Proofs Go.RowKit
attribute [local simp] xr_mov xd_mov xr_pick xd_pick xr_bin xd_bin xr_un xd_un xr_build xd_build xr_convInt xd_convInt xr_mkFn xr_fld xd_fld xr_extract xd_extract xr_lenL xd_lenL xr_nilPtr xd_nilPtr xr_load1 xd_load1 xr_loadN xd_loadN xr_bytesStr xd_bytesStr xr_eqPtr xr_eqIfc xr_new xd_new xr_box xr_buildSl xd_buildSl xd_strBytes xr_mkSl xr_idxAddrSl xd_idxAddrSl xd_sliceSl orU_some orU_none lenSA_str lenSA_strOf lenLA_sl lenLA_nil xfn xcode xdrawn xr_nil xr_kg xr_kgu xr_cmp xcmp_some xr_call xr_store xr_append xd_append xap_sl xap_nl xapq_some xsrc_sl xsrc_nil xapp_grow xapp_room xset xown xnx_some xnp_some xnq_some xd_nil xdl_old xdl_new xda_some xd_call xd_store xd_kg xdn_some xld xal kindOf isAlloc allocs xins xrem xall xput xget xwhole xmine xcont xq xqs xres XS.add XR.out XR.outU XR.ups xsets XR.res Rs.seq Rs.inSc Rs.block mapO tupleA sv_args adv_eq tget eqs8 eqs7 eqi8 eqi7 eqg8 eql8 eqn8 eqn7 cells_strOf cells_int cells_agg cells_bool cells_str cells_sl cells_nil cells_ptr at_int at_str at_strOf at_bool at_sl at_nil at_ptr unstr_strOf unbyt_byt fill_nil fill_cons replA ev_tm ev_vl sv_stv bin_add bin_sub bin_mul bin_lss bin_leq bin_gtr bin_geq bin_eql bin_neq un_not un_neg nth0 nth1 nth2 xst_idxAddrSl xst_idxStr xst_sliceStr xst_sliceSl xsl_sl xbd slN Nat.testBit
noncomputable def cntE (l : List UInt8) (a : Nat) (most : Int) : Int := if (numR l a).isSome then (if most < numV l a then 3 else 0) else 4
noncomputable def cntV (l : List UInt8) (a : Nat) (most : Int) : Int := if cntE l a most = 0 then numV l a else 0
noncomputable def e_wcount : Ent := mkEnt 119 2 [.own 0, .bsl 0 0] (fun z_ : Pos × Pos × Nat × (List UInt8) × Int => [.ptr z_.1 0 0, int64 z_.2.2.2.2]) (fun z_ => [[.sl z_.2.1 0 0 z_.2.2.2.1.length (z_.2.2.2.1.length + 1) true 1, int64 (z_.2.2.1 : Int)], byt z_.2.2.2.1]) (fun z_ => (z_.1 ≠ z_.2.1 ∧ z_.2.2.1 ≤ z_.2.2.2.1.length ∧ z_.2.2.2.1.length ≤ 9000 ∧ (Pos.ofNat 6).num ≤ z_.1.num) ∧ 0 ≤ z_.2.2.2.2 ∧ z_.2.2.2.2 ≤ 9223372036854775807) (fun z_ => .upd [(z_.1, [.sl z_.2.1 0 0 z_.2.2.2.1.length (z_.2.2.2.1.length + 1) true 1, int64 (numA z_.2.2.2.1 z_.2.2.1 : Int)])] (.tup [int64 (cntV z_.2.2.2.1 z_.2.2.1 z_.2.2.2.2), int64 (cntE z_.2.2.2.1 z_.2.2.1 z_.2.2.2.2)]))
theorem f_wcount : e_wcount.f = 119 := rfl
theorem x_wcount {U : List Ent} {b : Pos} {st : XS} (hU : tget U 119 = some e_wcount) (p : Pos) (q : Pos) (a : Nat) (l : List UInt8) (most : Int) (hp : (p ≠ q ∧ a ≤ l.length ∧ l.length ≤ 9000 ∧ (Pos.ofNat 6).num ≤ p.num) ∧ 0 ≤ most ∧ most ≤ 9223372036854775807) (hq : xqs st.X [.ptr p 0 0, int64 most] [.own 0, .bsl 0 0] = some [[.sl q 0 0 l.length (l.length + 1) true 1, int64 (a : Int)], byt l]) (ho : ((.upd [(p, [.sl q 0 0 l.length (l.length + 1) true 1, int64 (numA l a : Int)])] (.tup [int64 (cntV l a most), int64 (cntE l a most)]) : XR).ups.all fun x => (xown st.X x.1 0).isSome) = true) : xcall U b 119 [.ptr p 0 0, int64 most] st = none ∧ xupd U b 119 [.ptr p 0 0, int64 most] st = some (XR.outU b st (.upd [(p, [.sl q 0 0 l.length (l.length + 1) true 1, int64 (numA l a : Int)])] (.tup [int64 (cntV l a most), int64 (cntE l a most)]))) :=
  xupd_at hU rfl hq (mkEnt_spec (by rintro ⟨a0, a1, a2, a3, a4⟩ ⟨b0, b1, b2, b3, b4⟩ h hc; simp only [List.cons.injEq, AV.agg.injEq, AV.tup.injEq, AV.int.injEq, AV.bool.injEq, AV.ptr.injEq, AV.sl.injEq, strOf_eq, byt_eq, map_strOf_eq, true_and, and_true, Int.natCast_inj] at h hc; simp [h, hc]) (p, q, a, l, most) hp) (by first | rfl | (split <;> rfl)) ho
section
variable {m : Int} {t1 t2 : AV}
theorem wcount_ok : EntOK Tryz.prog (HasG m t1 t2) e_wcount := mkEnt_ok ok_wcount fun z h g hz hc => by
  obtain ⟨p, q, a, l, most⟩ := z
  obtain ⟨⟨hpq, ha, hl, h6⟩, hm0, hm1⟩ : (p ≠ q ∧ a ≤ l.length ∧ l.length ≤ 9000 ∧ (Pos.ofNat 6).num ≤ p.num) ∧ 0 ≤ most ∧ most ≤ 9223372036854775807 := hz
  obtain ⟨_, _, e, ⟨_, ev, w⟩, _, _, e', ⟨_, C, _, ev', w', k', s'⟩, _⟩ := hc
  cases e; cases e'; cases ev; cases ev'
  cases Holds.eq w w'
  cases k'
  dsimp only at *
  obtain ⟨L, kq, tq, aq⟩ := slc_at' s'
  have hX : AllH [⟨p, 0, true, [.sl q 0 0 l.length (l.length + 1) true 1, int64 (a : Int)]⟩, ⟨q, 0, false, L⟩] h := by
    intro x mx
    simp only [List.mem_cons, List.not_mem_nil, or_false] at mx
    rcases mx with rfl | rfl <;> assumption
  refine upd_of [(p, [.sl q 0 0 l.length (l.length + 1) true 1, int64 (numA l a : Int)])] (U := []) (K := [e_wnum]) (fun _ o => g.upd o (by simpa using h6)) (by simp) (by simp [wnum_ok.entK]) 0 (.startW h hX (by simpa using hpq) (by simp)) (fun x mx => ?_) wcount_code (by simp [wcount_fu]) rfl ?_
  · simp only [List.mem_singleton] at mx
    subst mx
    exact ⟨_, List.mem_cons_self .., fun y hy => by
      simp only [List.mem_cons, List.not_mem_nil, or_false] at hy
      rcases hy with rfl | rfl
      · right; simp
      · left; rfl⟩
  · have hm' : ¬ most < 0 := by omega
    have N := fun {U b st} (hU : tget U 21 = some e_wnum) hq ho => x_wnum (U := U) (b := b) (st := st) hU p q a l ⟨hpq, ha, hl, h6⟩ hq ho
    have v0 := numV_nonneg l a
    have wm : wrapA .u64 most = most := wu64 (by omega) (by omega)
    show _ = some (AV.tup [int64 (cntV l a most), int64 (cntE l a most)], _)
    unfold cntV cntE
    cases hs : (numR l a).isSome
    · have eE : numE l a = 4 := by unfold numE; rw [hs]; rfl
      simp [wcount_fu, N, f_wnum, hpq, hpq.symm, hm', eE, tq, aq, owns, xown]
    · have eE : numE l a = 0 := by unfold numE; rw [hs]; rfl
      by_cases c : most < numV l a
      · simp [wcount_fu, N, f_wnum, hpq, hpq.symm, hm', eE, tq, aq, owns, xown, wm, c]
      · have wv : wrapA .i64 (numV l a) = numV l a := w64 (by omega) (by omega)
        simp [wcount_fu, N, f_wnum, hpq, hpq.symm, hm', eE, tq, aq, owns, xown, wm, c, wv]
end
end Go.Proofs.YtjhgembcdndmkaaGreatDoor.St

namespace Go.Proofs.YtjhgembcdndmkaaGreatDoor.St
open Go Go.Proofs.YtjhgembcdndmkaaGreatDoor.Am Go.Proofs Go.RowKit
theorem rd_open {h : Hp} {p q : Pos} {a : Int} {l : List UInt8} {r : List AV} (hc : Conts h (.ptr p 0 0 :: r) [.own 0, .bsl 0 0] [[.sl q 0 0 l.length (l.length + 1) true 1, int64 a], byt l]) :
    ∃ L, AllH [⟨p, 0, true, [.sl q 0 0 l.length (l.length + 1) true 1, int64 a]⟩, ⟨q, 0, false, L⟩] h ∧ L.take l.length = byt l ∧ l.length ≤ L.length ∧ ∀ (j : Nat) (hj : j < l.length), L[j]? = some (.int .u8 (l[j].toNat : Int)) := by
  obtain ⟨_, _, e, ⟨_, ev, w⟩, _, _, e', ⟨_, C, _, ev', w', k', s'⟩, _⟩ := hc
  cases e; cases e'; cases ev; cases ev'
  cases Holds.eq w w'
  cases k'
  obtain ⟨L, kq, tq, aq⟩ := slc_at' s'
  refine ⟨L, ?_, tq, aq, fun j hj => ?_⟩
  · intro x mx
    simp only [List.mem_cons, List.not_mem_nil, or_false] at mx
    rcases mx with rfl | rfl <;> assumption
  · have e1 : (L.take l.length)[j]? = L[j]? := List.getElem?_take_of_lt hj
    rw [← e1, tq]
    show (l.map _)[j]? = _
    rw [List.getElem?_map, List.getElem?_eq_getElem hj]; rfl
theorem rd_had {p q : Pos} {n m : Nat} {a b : Int} {X : List XB} : Had (⟨p, 0, true, [.sl q 0 0 n m true 1, int64 a]⟩ :: X) [(p, [.sl q 0 0 n m true 1, int64 b])] := fun x mx => by
  simp only [List.mem_singleton] at mx
  subst mx
  exact ⟨_, List.mem_cons_self .., fun y hy => by
    simp only [List.mem_cons, List.not_mem_nil, or_false] at hy
    rcases hy with rfl | rfl
    · right; simp
    · left; rfl⟩
theorem updRow_of0 {P : Program} {f : FuncId} {args : List AV} {h : Hp} {G : Hp → Prop} {U K : List Ent} {X : List XB} (u : List (Pos × List AV)) (rid : Pos) (g : Nat) (hG : ∀ h', Only (u.map (·.1)) h h' → G h') (hT : ∀ e ∈ U, EntOK P G e) (hK : ∀ e ∈ K, EntK P G e) (n : Nat) {fu : Fu} {z : AV} {row : List AV} {es : Nat} (i : XI h.next (u.map (·.1)) h ⟨0, X⟩ h) (hu : Had X u) (hc : compFn P f = some fu) (hn : args.length ≤ fu.nargs) (hz : z.plain = true) (hr : ∀ y ∈ row, y.plain = true) (hne : rid ∉ u.map (·.1))
    (e : (xfn P U K h.next n fu args ⟨0, X⟩).bind (fun p => (owns p.2.X (u.map (·.1))).bind fun l => (xown p.2.X rid g).map fun r => (p.1, l, r)) = some (.tup [.sl rid g 0 0 0 true es, z], u.map (·.2), row)) : AmFn P f args h (.tup [.sl h.next 0 0 0 0 true es, z]) (rowN (updsH h u) row) := by
  obtain ⟨p, q, e⟩ := Option.bind_eq_some_iff.1 e
  obtain ⟨w, s'⟩ := p
  obtain ⟨l', kk, e⟩ := Option.bind_eq_some_iff.1 e
  obtain ⟨r', w', e⟩ := Option.map_eq_some_iff.1 e
  cases e
  obtain ⟨h', a, i'⟩ := xfn_ok hG hT hK hc hn i q
  obtain ⟨y', my', rfl, rfl, yo', rfl⟩ := xown_mem w'
  have hid := (i'.own y' my' yo').resolve_left hne
  refine a.updRow i'.only (changed_of i i' hu kk) ((i'.all y' my').gro yo') hid (fun j y q => ⟨q, hr y (List.mem_of_getElem? q)⟩) fun φ ψ x kk r => ?_
  cases r with
  | @tup _ la q => cases la with
    | mk la => cases q with
      | cons q1 q2 => cases q2 with
        | cons q2 q3 =>
          cases q3
          refine .tup (.cons ?_ (.cons (q2.anyφ hz) .nil))
          cases q1 with
          | sl h hb hs hl hc hlc hx ho => exact .sl (kk _ h) hb hs hl hc hlc hx ho
          | sl0 => exact .sl0
theorem adv_nf {h : Hp} {q : Pos} (o : q.num < h.next.num) (j : Nat) : (adv h.next j = q) = False := eq_false fun e => by
  have := congrArg Pos.num e
  rw [adv_num] at this
  omega
theorem adv_fn {h : Hp} {q : Pos} (o : q.num < h.next.num) (j : Nat) : (q = adv h.next j) = False := eq_false fun e => by
  have := congrArg Pos.num e
  rw [adv_num] at this
  omega
theorem xapp_zero {b : Pos} {s : XS} {es bytes g off k cap : Nat} {id : Pos} {ex : Bool} (h1 : 0 < es) (h2 : bytes ≤ 4096) : xapp b s es bytes (.sl id g off k cap ex es) 0 [] = (xsrc s.X es (.sl id g off k cap ex es)).map fun _ => (.sl id g off k cap ex es, s) := by
  unfold xapp
  rw [if_pos ⟨h1, h2, rfl⟩]
  simp
theorem byt_atoms (u : List UInt8) : (byt u).all AV.atom = true := by
  unfold byt
  rw [List.all_map]
  exact List.all_eq_true.2 fun _ _ => rfl
theorem byt_e : byt [] = [] := rfl
noncomputable def bytE (l : List UInt8) (a : Nat) (most : Int) : Int := if cntE l a most = 0 then (if ((l.length - numA l a : Nat) : Int) < numV l a then 4 else 0) else cntE l a most
noncomputable def bytV (l : List UInt8) (a : Nat) : List UInt8 := (l.drop (numA l a)).take (numV l a).toNat
noncomputable def bytA (l : List UInt8) (a : Nat) (most : Int) : Nat := if bytE l a most = 0 then numA l a + (numV l a).toNat else a
noncomputable def slR (r : Pos) (n : Nat) : AV := if n = 0 then .sl r 0 0 0 0 true 1 else slN r n 1
theorem bytV_length {l : List UInt8} {a : Nat} {most : Int} (h : bytE l a most = 0) (hn : 0 ≤ numV l a) : (bytV l a).length = (numV l a).toNat ∧ numA l a + (numV l a).toNat ≤ max l.length (numA l a) := by
  unfold bytE at h
  split at h
  · split at h
    · cases h
    · unfold bytV
      rw [List.length_take, List.length_drop]
      omega
  · exact absurd h (by assumption)
noncomputable def e_wbytes : Ent := mkEnt 101 2 [.own 0, .bsl 0 0] (fun z_ : Pos × Pos × Nat × (List UInt8) × Int => [.ptr z_.1 0 0, int64 z_.2.2.2.2]) (fun z_ => [[.sl z_.2.1 0 0 z_.2.2.2.1.length (z_.2.2.2.1.length + 1) true 1, int64 (z_.2.2.1 : Int)], byt z_.2.2.2.1]) (fun z_ => (z_.1 ≠ z_.2.1 ∧ z_.2.2.1 ≤ z_.2.2.2.1.length ∧ z_.2.2.2.1.length ≤ 9000 ∧ (Pos.ofNat 6).num ≤ z_.1.num) ∧ 0 ≤ z_.2.2.2.2 ∧ z_.2.2.2.2 ≤ 9223372036854775807) (fun z_ => if bytE z_.2.2.2.1 z_.2.2.1 z_.2.2.2.2 = 0 then .updRow [(z_.1, [.sl z_.2.1 0 0 z_.2.2.2.1.length (z_.2.2.2.1.length + 1) true 1, int64 (bytA z_.2.2.2.1 z_.2.2.1 z_.2.2.2.2 : Int)])] (byt (bytV z_.2.2.2.1 z_.2.2.1)) (fun r => .tup [slR r (bytV z_.2.2.2.1 z_.2.2.1).length, int64 0]) else .upd [(z_.1, [.sl z_.2.1 0 0 z_.2.2.2.1.length (z_.2.2.2.1.length + 1) true 1, int64 (bytA z_.2.2.2.1 z_.2.2.1 z_.2.2.2.2 : Int)])] (.tup [.nilSl, int64 (bytE z_.2.2.2.1 z_.2.2.1 z_.2.2.2.2)]))
theorem f_wbytes : e_wbytes.f = 101 := rfl
theorem x_wbytes {U : List Ent} {b : Pos} {st : XS} (hU : tget U 101 = some e_wbytes) (p : Pos) (q : Pos) (a : Nat) (l : List UInt8) (most : Int) (hp : (p ≠ q ∧ a ≤ l.length ∧ l.length ≤ 9000 ∧ (Pos.ofNat 6).num ≤ p.num) ∧ 0 ≤ most ∧ most ≤ 9223372036854775807) (hq : xqs st.X [.ptr p 0 0, int64 most] [.own 0, .bsl 0 0] = some [[.sl q 0 0 l.length (l.length + 1) true 1, int64 (a : Int)], byt l]) (ho : ((if bytE l a most = 0 then .updRow [(p, [.sl q 0 0 l.length (l.length + 1) true 1, int64 (bytA l a most : Int)])] (byt (bytV l a)) (fun r => .tup [slR r (bytV l a).length, int64 0]) else .upd [(p, [.sl q 0 0 l.length (l.length + 1) true 1, int64 (bytA l a most : Int)])] (.tup [.nilSl, int64 (bytE l a most)]) : XR).ups.all fun x => (xown st.X x.1 0).isSome) = true) : xcall U b 101 [.ptr p 0 0, int64 most] st = none ∧ xupd U b 101 [.ptr p 0 0, int64 most] st = some (XR.outU b st (if bytE l a most = 0 then .updRow [(p, [.sl q 0 0 l.length (l.length + 1) true 1, int64 (bytA l a most : Int)])] (byt (bytV l a)) (fun r => .tup [slR r (bytV l a).length, int64 0]) else .upd [(p, [.sl q 0 0 l.length (l.length + 1) true 1, int64 (bytA l a most : Int)])] (.tup [.nilSl, int64 (bytE l a most)]))) :=
  xupd_at hU rfl hq (mkEnt_spec (by rintro ⟨a0, a1, a2, a3, a4⟩ ⟨b0, b1, b2, b3, b4⟩ h hc; simp only [List.cons.injEq, AV.agg.injEq, AV.tup.injEq, AV.int.injEq, AV.bool.injEq, AV.ptr.injEq, AV.sl.injEq, strOf_eq, byt_eq, map_strOf_eq, true_and, and_true, Int.natCast_inj] at h hc; simp [h, hc]) (p, q, a, l, most) hp) (by first | rfl | (split <;> rfl)) ho
end Go.Proofs.YtjhgembcdndmkaaGreatDoor.St

namespace Go.Proofs.YtjhgembcdndmkaaGreatDoor.St
open Go Go.Proofs.YtjhgembcdndmkaaGreatDoor.Am Go.Proofs Go.RowKit
attribute [local simp] xr_mov xd_mov xr_pick xd_pick xr_bin xd_bin xr_un xd_un xr_build xd_build xr_convInt xd_convInt xr_mkFn xr_fld xd_fld xr_extract xd_extract xr_lenL xd_lenL xr_nilPtr xd_nilPtr xr_load1 xd_load1 xr_loadN xd_loadN xr_bytesStr xd_bytesStr xr_eqPtr xr_eqIfc xr_new xd_new xr_box xr_buildSl xd_buildSl xd_strBytes xr_mkSl xr_idxAddrSl xd_idxAddrSl xd_sliceSl orU_some orU_none lenSA_str lenSA_strOf lenLA_sl lenLA_nil xfn xcode xdrawn xr_nil xr_kg xr_kgu xr_cmp xcmp_some xr_call xr_store xr_append xd_append xap_sl xap_nl xapq_some xsrc_sl xsrc_nil xapp_grow xapp_room xset xown xnx_some xnp_some xnq_some xd_nil xdl_old xdl_new xda_some xd_call xd_store xd_kg xdn_some xld xal kindOf isAlloc allocs xins xrem xall xput xget xwhole xmine xcont xq xqs xres XS.add XR.out XR.outU XR.ups xsets XR.res Rs.seq Rs.inSc Rs.block mapO tupleA sv_args adv_eq tget eqs8 eqs7 eqi8 eqi7 eqg8 eql8 eqn8 eqn7 cells_strOf cells_int cells_agg cells_bool cells_str cells_sl cells_nil cells_ptr at_int at_str at_strOf at_bool at_sl at_nil at_ptr unstr_strOf unbyt_byt fill_nil fill_cons replA ev_tm ev_vl sv_stv bin_add bin_sub bin_mul bin_lss bin_leq bin_gtr bin_geq bin_eql bin_neq un_not un_neg nth0 nth1 nth2 xst_idxAddrSl xst_idxStr xst_sliceStr xst_sliceSl xsl_sl xbd slN Nat.testBit
section
variable {m : Int} {t1 t2 : AV}
theorem numV_zero_of {l : List UInt8} {a : Nat} {most : Int} (h : cntE l a most = 0) : (numR l a).isSome = true ∧ ¬ most < numV l a := by
  unfold cntE at h
  split at h
  · rename_i c
    split at h
    · cases h
    · exact ⟨c, by assumption⟩
  · cases h
theorem wbytes_ok : EntOK Tryz.prog (HasG m t1 t2) e_wbytes := mkEnt_ok ok_wbytes fun z h g hz hc => by
  obtain ⟨p, q, a, l, most⟩ := z
  have hz' := hz
  obtain ⟨⟨hpq, ha, hl, h6⟩, hm0, hm1⟩ : (p ≠ q ∧ a ≤ l.length ∧ l.length ≤ 9000 ∧ (Pos.ofNat 6).num ≤ p.num) ∧ 0 ≤ most ∧ most ≤ 9223372036854775807 := hz
  obtain ⟨L, hX, tq, aq, hL⟩ := rd_open (p := p) (q := q) (a := (a : Int)) (l := l) hc
  have oq : q.num < h.next.num := (hX _ (List.mem_cons_of_mem _ (List.mem_cons_self ..))).old
  have op : p.num < h.next.num := (hX _ (List.mem_cons_self ..)).old
  have gm : ∀ h h', HasG m t1 t2 h → Only [] h h' → HasG m t1 t2 h' := fun _ _ g o => g.more o
  have v0 := numV_nonneg l a
  obtain ⟨nA1, nA2⟩ := numA_le (l := l) (a := a) ha
  have hU : ∀ e ∈ ([] : List Ent), EntOK Tryz.prog (HasG m t1 t2) e := by simp
  have hK : ∀ e ∈ [e_there, e_wleft, e_wcount], EntK Tryz.prog (HasG m t1 t2) e := by simp [(there_ok gm).entK, (wleft_ok gm).entK, wcount_ok.entK]
  have N := fun {U b st} (hU : tget U 119 = some e_wcount) hq ho => x_wcount (U := U) (b := b) (st := st) hU p q a l most hz' hq ho
  have TH := fun {U b st} (hU : tget U 64 = some e_there) hq => x_there (U := U) (b := b) (st := st) hU p q l.length (a : Int) hq
  have LF := fun {U b st} (hU : tget U 19 = some e_wleft) hq => x_wleft (U := U) (b := b) (st := st) hU p q l.length (numA l a) ⟨nA2, hl⟩ hq
  show AmFn _ _ _ _ ((if bytE l a most = 0 then XR.updRow _ _ _ else XR.upd _ _).res h).1 ((if bytE l a most = 0 then XR.updRow _ _ _ else XR.upd _ _).res h).2
  have hb : bytE l a most = if cntE l a most = 0 then (if ((l.length - numA l a : Nat) : Int) < numV l a then 4 else 0) else cntE l a most := rfl
  have hba : bytA l a most = if bytE l a most = 0 then numA l a + (numV l a).toNat else a := rfl
  have hcv : cntV l a most = if cntE l a most = 0 then numV l a else 0 := rfl
  have hX2 : XI h.next [p] h ⟨0, [⟨p, 0, true, [.sl q 0 0 l.length (l.length + 1) true 1, int64 (a : Int)]⟩, ⟨q, 0, false, L⟩]⟩ h := .startW h hX (by simpa using hpq) (by simp)
  by_cases c0 : cntE l a most = 0
  · obtain ⟨s1, s2⟩ := numV_zero_of c0
    rw [if_pos c0] at hb hcv
    by_cases c1 : ((l.length - numA l a : Nat) : Int) < numV l a
    · rw [if_pos c1] at hb
      rw [hb, if_neg (by decide)] at hba
      rw [hb, hba, if_neg (by decide)]
      refine upd_of [(p, [.sl q 0 0 l.length (l.length + 1) true 1, int64 (a : Int)])] (fun _ o => g.upd o (by simpa using h6)) hU hK 0 hX2 rd_had wbytes_code (by simp [wbytes_fu]) rfl ?_
      simp [wbytes_fu, TH, N, LF, f_there, f_wcount, f_wleft, hpq, hpq.symm, tq, aq, owns, xown, c0, hcv, c1]
    · rw [if_neg c1] at hb
      rw [hb, if_pos rfl] at hba
      obtain ⟨n, hn⟩ : ∃ n : Nat, numV l a = n := ⟨(numV l a).toNat, by omega⟩
      have hlen : (bytV l a).length = n := by unfold bytV; rw [List.length_take, List.length_drop]; omega
      have hle : numA l a + n ≤ l.length := by omega
      have hbv : (L.drop (numA l a)).take n = byt (bytV l a) := by
        unfold bytV
        rw [hn, Int.toNat_natCast]
        have e1 : byt ((l.drop (numA l a)).take n) = ((byt l).drop (numA l a)).take n := by unfold byt; rw [List.map_take, List.map_drop]
        rw [e1, ← tq, List.drop_take, List.take_take, Nat.min_eq_left (show n ≤ l.length - numA l a by omega)]
      have w1 : wrapA .i64 ((numA l a : Int) + (n : Int)) = ((numA l a + n : Nat) : Int) := by rw [w64 (by omega) (by omega)]; rfl
      have w3 : wrapA .i64 (numA l a : Int) = (numA l a : Int) := w64 (by omega) (by omega)
      rw [hn, Int.toNat_natCast] at hba
      rw [hn] at hcv c1
      rw [hb, hba, if_pos rfl]
      have eR : ∀ (u : List (Pos × List AV)) (row : List AV) (v : Pos → AV), (XR.updRow u row v).res h = (v h.next, rowN (updsH h u) row) := fun _ _ _ => rfl
      rw [eR, hlen]
      dsimp only
      have k1 := eq_true (show numA l a ≤ l.length + 1 by omega)
      have k2 := eq_false (show ¬ numA l a = l.length + 1 by omega)
      have k3 := eq_true (show numA l a ≤ L.length by omega)
      by_cases n0 : n = 0
      · subst n0
        have e0 : byt (bytV l a) = [] := by rw [← hbv]; rfl
        rw [show slR h.next 0 = .sl h.next 0 0 0 0 true 1 from if_pos rfl]
        rw [Nat.add_zero] at hba ⊢
        refine updRow_of0 [(p, [.sl q 0 0 l.length (l.length + 1) true 1, int64 (numA l a : Int)])] h.next 0 (fun _ o => g.upd o (by simpa using h6)) hU hK 0 hX2 rd_had wbytes_code (by simp [wbytes_fu]) rfl (fun y my => by rw [e0] at my; cases my) ?_ ?_
        · have : h.next ≠ p := fun e => by rw [← e] at op; omega
          simpa using this
        · have c1' := eq_false (show ¬ ((l.length - numA l a : Nat) : Int) < 0 by omega)
          simp [wbytes_fu, TH, N, LF, f_there, f_wcount, f_wleft, hpq, hpq.symm, tq, aq, owns, xown, c0, hcv, c1', w1, w3, k1, k2, k3, e0, adv_nf oq, adv_fn oq, adv_nf op, adv_fn op, xapp_zero]
          rfl
      · have hlr : slR h.next n = slN h.next n 1 := if_neg n0
        rw [hlr]
        refine updRow_of [(p, [.sl q 0 0 l.length (l.length + 1) true 1, int64 ((numA l a + n : Nat) : Int)])] (adv h.next 1) 0 n false (fun _ o => g.upd o (by simpa using h6)) hU hK 0 hX2 rd_had wbytes_code (by simp [wbytes_fu]) rfl (fun y my => ?_) ?_ (.inr rfl) ?_
        · obtain ⟨j, hj, rfl⟩ := List.getElem_of_mem my
          exact plain_byt _ j _ (List.getElem?_eq_getElem hj)
        · have : adv h.next 1 ≠ p := fun e => by rw [← e, adv_num] at op; omega
          simpa using this
        · have t1 : ((numA l a : Int) + (n : Int)).toNat = numA l a + n := by omega
          have t2 := eq_true (show (0 : Int) ≤ (numA l a : Int) + (n : Int) by omega)
          have t3 := eq_true (show numA l a + n ≤ l.length + 1 by omega)
          have t4 := eq_true (show numA l a + n ≤ L.length by omega)
          have t5 := eq_true (show n ≤ 1073741824 by omega)
          have RM := fun (s : XS) => xapp_room (b := h.next) (s := s) (bytes := 0) (k := 0) (cap := 0) (n := n) (id := adv h.next 0) (c := byt (bytV l a)) (by omega) (byt_atoms _) (by unfold byt; rw [List.length_map, hlen]) n0 (by omega)
          simp [wbytes_fu, RM, TH, N, LF, f_there, f_wcount, f_wleft, hpq, hpq.symm, tq, aq, owns, xown, c0, hcv, c1, w1, w3, k1, k2, k3, adv_nf oq, adv_fn oq, adv_nf op, adv_fn op, n0, t1, t2, t3, t4, t5, hbv, hlen]
  · rw [if_neg c0] at hb hcv
    rw [hb] at hba ⊢
    rw [if_neg c0] at hba
    rw [hba, if_neg c0]
    refine upd_of [(p, [.sl q 0 0 l.length (l.length + 1) true 1, int64 (a : Int)])] (fun _ o => g.upd o (by simpa using h6)) hU hK 0 hX2 rd_had wbytes_code (by simp [wbytes_fu]) rfl ?_
    simp [wbytes_fu, TH, N, LF, f_there, f_wcount, f_wleft, hpq, hpq.symm, tq, aq, owns, xown, c0, hcv]
end
end Go.Proofs.YtjhgembcdndmkaaGreatDoor.St

namespace Go.Proofs.YtjhgembcdndmkaaGreatDoor.St
open Go Go.Proofs.YtjhgembcdndmkaaGreatDoor.Am Go.Proofs Go.RowKit
attribute [local simp] xr_mov xd_mov xr_pick xd_pick xr_bin xd_bin xr_un xd_un xr_build xd_build xr_convInt xd_convInt xr_mkFn xr_fld xd_fld xr_extract xd_extract xr_lenL xd_lenL xr_nilPtr xd_nilPtr xr_load1 xd_load1 xr_loadN xd_loadN xr_bytesStr xd_bytesStr xr_eqPtr xr_eqIfc xr_new xd_new xr_box xr_buildSl xd_buildSl xd_strBytes xr_mkSl xr_idxAddrSl xd_idxAddrSl xd_sliceSl orU_some orU_none lenSA_str lenSA_strOf lenLA_sl lenLA_nil xfn xcode xdrawn xr_nil xr_kg xr_kgu xr_cmp xcmp_some xr_call xr_store xr_append xd_append xap_sl xap_nl xapq_some xsrc_sl xsrc_nil xapp_grow xapp_room xset xown xnx_some xnp_some xnq_some xd_nil xdl_old xdl_new xda_some xd_call xd_store xd_kg xdn_some xld xal kindOf isAlloc allocs xins xrem xall xput xget xwhole xmine xcont xq xqs xres XS.add XR.out XR.outU XR.ups xsets XR.res Rs.seq Rs.inSc Rs.block mapO tupleA sv_args adv_eq tget eqs8 eqs7 eqi8 eqi7 eqg8 eql8 eqn8 eqn7 cells_strOf cells_int cells_agg cells_bool cells_str cells_sl cells_nil cells_ptr at_int at_str at_strOf at_bool at_sl at_nil at_ptr unstr_strOf unbyt_byt fill_nil fill_cons replA ev_tm ev_vl sv_stv bin_add bin_sub bin_mul bin_lss bin_leq bin_gtr bin_geq bin_eql bin_neq un_not un_neg nth0 nth1 nth2 xst_idxAddrSl xst_idxStr xst_sliceStr xst_sliceSl xsl_sl xbd slN Nat.testBit
theorem rx_open {h : Hp} {x p q : Pos} {a : Int} {bad : Bool} {l : List UInt8} {r : List AV} (hc : Conts h (.ptr x 0 0 :: r) [.own 0, .ownAt 0 0, .bslAt 0 0 0] [[.ptr p 0 0, .bool bad], [.sl q 0 0 l.length (l.length + 1) true 1, int64 a], byt l]) :
    ∃ L, AllH [⟨x, 0, true, [.ptr p 0 0, .bool bad]⟩, ⟨p, 0, true, [.sl q 0 0 l.length (l.length + 1) true 1, int64 a]⟩, ⟨q, 0, false, L⟩] h ∧ L.take l.length = byt l ∧ l.length ≤ L.length := by
  obtain ⟨_, _, e, ⟨_, ev, w⟩, _, _, e', ⟨_, A, _, ev', w', k', s'⟩, _, _, e2, ⟨_, B, _, C, _, ev2, w2, k2, w3, k3, s3⟩, _⟩ := hc
  cases e; cases e'; cases e2; cases ev; cases ev'; cases ev2
  cases Holds.eq w w'
  cases Holds.eq w w2
  cases k'; cases k2
  cases Holds.eq s' w3
  cases k3
  obtain ⟨L, kq, tq, aq⟩ := slc_at' s3
  refine ⟨L, ?_, tq, aq⟩
  intro y mx
  simp only [List.mem_cons, List.not_mem_nil, or_false] at mx
  rcases mx with rfl | rfl | rfl <;> assumption
theorem rx_had {x p q : Pos} {n m : Nat} {a a' : Int} {b b' : Bool} {X : List XB} : Had (⟨x, 0, true, [.ptr p 0 0, .bool b]⟩ :: ⟨p, 0, true, [.sl q 0 0 n m true 1, int64 a]⟩ :: X) [(x, [.ptr p 0 0, .bool b']), (p, [.sl q 0 0 n m true 1, int64 a'])] := fun y my => by
  simp only [List.mem_cons, List.not_mem_nil, or_false] at my
  rcases my with rfl | rfl
  · exact ⟨_, List.mem_cons_self .., fun y hy => by
      simp only [List.mem_cons, List.not_mem_nil, or_false] at hy
      rcases hy with rfl | rfl
      · right; simp
      · left; rfl⟩
  · exact ⟨_, List.mem_cons_of_mem _ (List.mem_cons_self ..), fun y hy => by
      simp only [List.mem_cons, List.not_mem_nil, or_false] at hy
      rcases hy with rfl | rfl
      · right; simp
      · left; rfl⟩
noncomputable def gOk (l : List UInt8) (a : Nat) : Bool := (numR l a).isSome && decide (numV l a ≤ 4611686018427387904)
noncomputable def gV (l : List UInt8) (a : Nat) : Int := if gOk l a = true then numV l a else 0
def RdP (x p q : Pos) (a : Nat) (l : List UInt8) : Prop := (p ≠ q ∧ a ≤ l.length ∧ l.length ≤ 9000 ∧ (Pos.ofNat 6).num ≤ p.num) ∧ x ≠ p ∧ x ≠ q ∧ (Pos.ofNat 6).num ≤ x.num
noncomputable def e_gnumber : Ent := mkEnt 75 1 [.own 0, .ownAt 0 0, .bslAt 0 0 0] (fun z_ : Pos × Pos × Pos × Nat × Bool × (List UInt8) => [.ptr z_.1 0 0]) (fun z_ => [[.ptr z_.2.1 0 0, .bool z_.2.2.2.2.1], [.sl z_.2.2.1 0 0 z_.2.2.2.2.2.length (z_.2.2.2.2.2.length + 1) true 1, int64 (z_.2.2.2.1 : Int)], byt z_.2.2.2.2.2]) (fun z_ => RdP z_.1 z_.2.1 z_.2.2.1 z_.2.2.2.1 z_.2.2.2.2.2) (fun z_ => .upd [(z_.1, [.ptr z_.2.1 0 0, .bool (z_.2.2.2.2.1 || !gOk z_.2.2.2.2.2 z_.2.2.2.1)]), (z_.2.1, [.sl z_.2.2.1 0 0 z_.2.2.2.2.2.length (z_.2.2.2.2.2.length + 1) true 1, int64 (numA z_.2.2.2.2.2 z_.2.2.2.1 : Int)])] (int64 (gV z_.2.2.2.2.2 z_.2.2.2.1)))
theorem f_gnumber : e_gnumber.f = 75 := rfl
theorem x_gnumber {U : List Ent} {b : Pos} {st : XS} (hU : tget U 75 = some e_gnumber) (x : Pos) (p : Pos) (q : Pos) (a : Nat) (bad : Bool) (l : List UInt8) (hp : RdP x p q a l) (hq : xqs st.X [.ptr x 0 0] [.own 0, .ownAt 0 0, .bslAt 0 0 0] = some [[.ptr p 0 0, .bool bad], [.sl q 0 0 l.length (l.length + 1) true 1, int64 (a : Int)], byt l]) (ho : ((.upd [(x, [.ptr p 0 0, .bool (bad || !gOk l a)]), (p, [.sl q 0 0 l.length (l.length + 1) true 1, int64 (numA l a : Int)])] (int64 (gV l a)) : XR).ups.all fun x => (xown st.X x.1 0).isSome) = true) : xcall U b 75 [.ptr x 0 0] st = none ∧ xupd U b 75 [.ptr x 0 0] st = some (XR.outU b st (.upd [(x, [.ptr p 0 0, .bool (bad || !gOk l a)]), (p, [.sl q 0 0 l.length (l.length + 1) true 1, int64 (numA l a : Int)])] (int64 (gV l a)))) :=
  xupd_at hU rfl hq (mkEnt_spec (by rintro ⟨a0, a1, a2, a3, a4, a5⟩ ⟨b0, b1, b2, b3, b4, b5⟩ h hc; simp only [List.cons.injEq, AV.agg.injEq, AV.tup.injEq, AV.int.injEq, AV.bool.injEq, AV.ptr.injEq, AV.sl.injEq, strOf_eq, byt_eq, map_strOf_eq, true_and, and_true, Int.natCast_inj] at h hc; simp [h, hc]) (x, p, q, a, bad, l) hp) (by first | rfl | (split <;> rfl)) ho
section
variable {m : Int} {t1 t2 : AV}
theorem gnumber_ok : EntOK Tryz.prog (HasG m t1 t2) e_gnumber := mkEnt_ok ok_gnumber fun z h g hz hc => by
  obtain ⟨x, p, q, a, bad, l⟩ := z
  obtain ⟨⟨hpq, ha, hl, h6⟩, hxp, hxq, h6x⟩ : RdP x p q a l := hz
  obtain ⟨L, hX, tq, aq⟩ := rx_open (x := x) (p := p) (q := q) (a := (a : Int)) (bad := bad) (l := l) hc
  have N := fun {U b st} (hU : tget U 21 = some e_wnum) hq ho => x_wnum (U := U) (b := b) (st := st) hU p q a l ⟨hpq, ha, hl, h6⟩ hq ho
  have v0 := numV_nonneg l a
  have gd : gOk l a = ((numR l a).isSome && decide (numV l a ≤ 4611686018427387904)) := rfl
  have gv : gV l a = if gOk l a = true then numV l a else 0 := rfl
  have hX2 : XI h.next [x, p] h ⟨0, [⟨x, 0, true, [.ptr p 0 0, .bool bad]⟩, ⟨p, 0, true, [.sl q 0 0 l.length (l.length + 1) true 1, int64 (a : Int)]⟩, ⟨q, 0, false, L⟩]⟩ h := .startW h hX (by simpa using ⟨⟨hxp, hxq⟩, hpq⟩) (by simp)
  refine upd_of (U := []) (K := [e_wnum]) [(x, [.ptr p 0 0, .bool (bad || !gOk l a)]), (p, [.sl q 0 0 l.length (l.length + 1) true 1, int64 (numA l a : Int)])] (fun _ o => g.upd o (by simpa using ⟨h6x, h6⟩)) (by simp) (by simp [wnum_ok.entK]) 0 hX2 rx_had gnumber_code (by simp [gnumber_fu]) rfl ?_
  cases hs : (numR l a).isSome
  · have eE : numE l a = 4 := by unfold numE; rw [hs]; rfl
    rw [hs] at gd
    rw [gd] at gv
    simp [gnumber_fu, N, f_wnum, hpq, hpq.symm, hxp, hxp.symm, hxq, hxq.symm, tq, aq, owns, xown, eE, gd, gv]
  · have eE : numE l a = 0 := by unfold numE; rw [hs]; rfl
    rw [hs] at gd
    by_cases c : numV l a ≤ 4611686018427387904
    · have c' := eq_false (show ¬ 4611686018427387904 < numV l a by omega)
      have w := w64 (n := numV l a) (by omega) (by omega)
      have c := eq_true c
      rw [gd] at gv
      simp [gnumber_fu, N, f_wnum, hpq, hpq.symm, hxp, hxp.symm, hxq, hxq.symm, tq, aq, owns, xown, eE, gd, gv, c, c', w]
    · have c' := eq_true (show 4611686018427387904 < numV l a by omega)
      have c := eq_false c
      rw [gd] at gv
      simp [gnumber_fu, N, f_wnum, hpq, hpq.symm, hxp, hxp.symm, hxq, hxq.symm, tq, aq, owns, xown, eE, gd, gv, c, c']
end
end Go.Proofs.YtjhgembcdndmkaaGreatDoor.St

namespace Go.Proofs.YtjhgembcdndmkaaGreatDoor.St
open Go Go.Proofs.YtjhgembcdndmkaaGreatDoor.Am Go.Proofs Go.RowKit
attribute [local simp] xr_mov xd_mov xr_pick xd_pick xr_bin xd_bin xr_un xd_un xr_build xd_build xr_convInt xd_convInt xr_mkFn xr_fld xd_fld xr_extract xd_extract xr_lenL xd_lenL xr_nilPtr xd_nilPtr xr_load1 xd_load1 xr_loadN xd_loadN xr_bytesStr xd_bytesStr xr_eqPtr xr_eqIfc xr_new xd_new xr_box xr_buildSl xd_buildSl xd_strBytes xr_mkSl xr_idxAddrSl xd_idxAddrSl xd_sliceSl orU_some orU_none lenSA_str lenSA_strOf lenLA_sl lenLA_nil xfn xcode xdrawn xr_nil xr_kg xr_kgu xr_cmp xcmp_some xr_call xr_store xr_append xd_append xap_sl xap_nl xapq_some xsrc_sl xsrc_nil xapp_grow xapp_room xset xown xnx_some xnp_some xnq_some xd_nil xdl_old xdl_new xda_some xd_call xd_store xd_kg xdn_some xld xal kindOf isAlloc allocs xins xrem xall xput xget xwhole xmine xcont xq xqs xres XS.add XR.out XR.outU XR.ups xsets XR.res Rs.seq Rs.inSc Rs.block mapO tupleA sv_args adv_eq tget eqs8 eqs7 eqi8 eqi7 eqg8 eql8 eqn8 eqn7 cells_strOf cells_int cells_agg cells_bool cells_str cells_sl cells_nil cells_ptr at_int at_str at_strOf at_bool at_sl at_nil at_ptr unstr_strOf unbyt_byt fill_nil fill_cons replA ev_tm ev_vl sv_stv bin_add bin_sub bin_mul bin_lss bin_leq bin_gtr bin_geq bin_eql bin_neq un_not un_neg nth0 nth1 nth2 xst_idxAddrSl xst_idxStr xst_sliceStr xst_sliceSl xsl_sl xbd slN Nat.testBit
noncomputable def bOk (l : List UInt8) (a : Nat) : Bool := decide (bytE l a 12 = 0)
noncomputable def bV (l : List UInt8) (a : Nat) : List UInt8 := if bOk l a = true then bytV l a else []
noncomputable def gbA (l : List UInt8) (a : Nat) : Nat := bytA l (numA l a) 12
noncomputable def gbOk (l : List UInt8) (a : Nat) : Bool := gOk l a && bOk l (numA l a)
theorem bytA_le {l : List UInt8} {a : Nat} (h : a ≤ l.length) (most : Int) : a ≤ bytA l a most ∧ bytA l a most ≤ l.length := by
  unfold bytA
  have := numA_le h
  split
  · rename_i c
    have := bytV_length c (numV_nonneg l a)
    unfold bytE at c
    split at c
    · split at c
      · cases c
      · have := numV_nonneg l a
        omega
    · exact absurd c (by assumption)
  · exact ⟨Nat.le_refl _, h⟩
noncomputable def e_gbranch : Ent := mkEnt 66 1 [.own 0, .ownAt 0 0, .bslAt 0 0 0] (fun z_ : Pos × Pos × Pos × Nat × Bool × (List UInt8) => [.ptr z_.1 0 0]) (fun z_ => [[.ptr z_.2.1 0 0, .bool z_.2.2.2.2.1], [.sl z_.2.2.1 0 0 z_.2.2.2.2.2.length (z_.2.2.2.2.2.length + 1) true 1, int64 (z_.2.2.2.1 : Int)], byt z_.2.2.2.2.2]) (fun z_ => RdP z_.1 z_.2.1 z_.2.2.1 z_.2.2.2.1 z_.2.2.2.2.2) (fun z_ => .upd [(z_.1, [.ptr z_.2.1 0 0, .bool (z_.2.2.2.2.1 || !gbOk z_.2.2.2.2.2 z_.2.2.2.1)]), (z_.2.1, [.sl z_.2.2.1 0 0 z_.2.2.2.2.2.length (z_.2.2.2.2.2.length + 1) true 1, int64 (gbA z_.2.2.2.2.2 z_.2.2.2.1 : Int)])] (.agg [int64 (gV z_.2.2.2.2.2 z_.2.2.2.1), strOf (bV z_.2.2.2.2.2 (numA z_.2.2.2.2.2 z_.2.2.2.1))]))
theorem f_gbranch : e_gbranch.f = 66 := rfl
theorem x_gbranch {U : List Ent} {b : Pos} {st : XS} (hU : tget U 66 = some e_gbranch) (x : Pos) (p : Pos) (q : Pos) (a : Nat) (bad : Bool) (l : List UInt8) (hp : RdP x p q a l) (hq : xqs st.X [.ptr x 0 0] [.own 0, .ownAt 0 0, .bslAt 0 0 0] = some [[.ptr p 0 0, .bool bad], [.sl q 0 0 l.length (l.length + 1) true 1, int64 (a : Int)], byt l]) (ho : ((.upd [(x, [.ptr p 0 0, .bool (bad || !gbOk l a)]), (p, [.sl q 0 0 l.length (l.length + 1) true 1, int64 (gbA l a : Int)])] (.agg [int64 (gV l a), strOf (bV l (numA l a))]) : XR).ups.all fun x => (xown st.X x.1 0).isSome) = true) : xcall U b 66 [.ptr x 0 0] st = none ∧ xupd U b 66 [.ptr x 0 0] st = some (XR.outU b st (.upd [(x, [.ptr p 0 0, .bool (bad || !gbOk l a)]), (p, [.sl q 0 0 l.length (l.length + 1) true 1, int64 (gbA l a : Int)])] (.agg [int64 (gV l a), strOf (bV l (numA l a))]))) :=
  xupd_at hU rfl hq (mkEnt_spec (by rintro ⟨a0, a1, a2, a3, a4, a5⟩ ⟨b0, b1, b2, b3, b4, b5⟩ h hc; simp only [List.cons.injEq, AV.agg.injEq, AV.tup.injEq, AV.int.injEq, AV.bool.injEq, AV.ptr.injEq, AV.sl.injEq, strOf_eq, byt_eq, map_strOf_eq, true_and, and_true, Int.natCast_inj] at h hc; simp [h, hc]) (x, p, q, a, bad, l) hp) (by first | rfl | (split <;> rfl)) ho
section
variable {m : Int} {t1 t2 : AV}
theorem gbranch_ok : EntOK Tryz.prog (HasG m t1 t2) e_gbranch := mkEnt_ok ok_gbranch fun z h g hz hc => by
  obtain ⟨x, p, q, a, bad, l⟩ := z
  have hz1 := hz
  obtain ⟨⟨hpq, ha, hl, h6⟩, hxp, hxq, h6x⟩ : RdP x p q a l := hz
  obtain ⟨L, hX, tq, aq⟩ := rx_open (x := x) (p := p) (q := q) (a := (a : Int)) (bad := bad) (l := l) hc
  have nA := numA_le (l := l) (a := a) ha
  have N := fun {U b st} (hU : tget U 75 = some e_gnumber) hq ho => x_gnumber (U := U) (b := b) (st := st) hU x p q a bad l hz1 hq ho
  have B := fun {U b st} (hU : tget U 101 = some e_wbytes) hq ho => x_wbytes (U := U) (b := b) (st := st) hU p q (numA l a) l 12 ⟨⟨hpq, nA.2, hl, h6⟩, by omega, by omega⟩ hq ho
  have ox : x.num < h.next.num := (hX _ (List.mem_cons_self ..)).old
  have op : p.num < h.next.num := (hX _ (List.mem_cons_of_mem _ (List.mem_cons_self ..))).old
  have oq : q.num < h.next.num := (hX _ (List.mem_cons_of_mem _ (List.mem_cons_of_mem _ (List.mem_cons_self ..)))).old
  have hX2 : XI h.next [x, p] h ⟨0, [⟨x, 0, true, [.ptr p 0 0, .bool bad]⟩, ⟨p, 0, true, [.sl q 0 0 l.length (l.length + 1) true 1, int64 (a : Int)]⟩, ⟨q, 0, false, L⟩]⟩ h := .startW h hX (by simpa using ⟨⟨hxp, hxq⟩, hpq⟩) (by simp)
  refine upd_of (U := []) (K := [e_gnumber, e_wbytes]) [(x, [.ptr p 0 0, .bool (bad || !gbOk l a)]), (p, [.sl q 0 0 l.length (l.length + 1) true 1, int64 (gbA l a : Int)])] (fun _ o => g.upd o (by simpa using ⟨h6x, h6⟩)) (by simp) (by simp [gnumber_ok.entK, wbytes_ok.entK]) 0 hX2 rx_had gbranch_code (by simp [gbranch_fu]) rfl ?_
  have gd : gbOk l a = (gOk l a && bOk l (numA l a)) := rfl
  have bd : bOk l (numA l a) = decide (bytE l (numA l a) 12 = 0) := rfl
  have bv : bV l (numA l a) = if bOk l (numA l a) = true then bytV l (numA l a) else [] := rfl
  have ga : bytA l (numA l a) 12 = gbA l a := rfl
  have hE : bytE l (numA l a) 12 = 0 ∨ bytE l (numA l a) 12 ≠ 0 := Decidable.em _
  rcases hE with c | c
  · have bd : bOk l (numA l a) = true := by rw [bd, c]; rfl
    rw [if_pos bd] at bv
    rw [bd] at gd
    generalize bytV l (numA l a) = u at *
    generalize bytA l (numA l a) 12 = a2 at *
    generalize gV l a = v at *
    by_cases n0 : u.length = 0
    · obtain rfl : u = [] := List.eq_nil_of_length_eq_zero n0
      cases bad <;> cases hg : gOk l a <;> rw [hg] at gd <;> simp [gbranch_fu, N, B, f_gnumber, f_wbytes, hpq, hpq.symm, hxp, hxp.symm, hxq, hxq.symm, tq, aq, owns, xown, c, gd, bv, hg, slR, ga, adv_nf oq, adv_fn oq, adv_nf op, adv_fn op, adv_nf ox, adv_fn ox, byt_take, byt_e, unbyt_nil, strOf_nil, byt_length]
    · cases bad <;> cases hg : gOk l a <;> rw [hg] at gd <;> simp [gbranch_fu, N, B, f_gnumber, f_wbytes, hpq, hpq.symm, hxp, hxp.symm, hxq, hxq.symm, tq, aq, owns, xown, c, gd, bv, hg, slR, n0, ga, adv_nf oq, adv_fn oq, adv_nf op, adv_fn op, adv_nf ox, adv_fn ox, byt_take, byt_e, unbyt_nil, strOf_nil, byt_length]
  · have bd : bOk l (numA l a) = false := by rw [bd]; simpa using c
    rw [bd, if_neg (by decide)] at bv
    rw [bd] at gd
    generalize bytA l (numA l a) 12 = a2 at *
    generalize gV l a = v at *
    cases bad <;> cases hg : gOk l a <;> rw [hg] at gd <;> simp [gbranch_fu, N, B, f_gnumber, f_wbytes, hpq, hpq.symm, hxp, hxp.symm, hxq, hxq.symm, tq, aq, owns, xown, c, gd, bv, hg, slR, ga, adv_nf oq, adv_fn oq, adv_nf op, adv_fn op, adv_nf ox, adv_fn ox, byt_take, byt_e, unbyt_nil, strOf_nil, byt_length]
end
end Go.Proofs.YtjhgembcdndmkaaGreatDoor.St

namespace Go.Proofs.YtjhgembcdndmkaaGreatDoor.St
open Go Go.Proofs.YtjhgembcdndmkaaGreatDoor.Am Go.Proofs Go.RowKit
attribute [local simp] xr_mov xd_mov xr_pick xd_pick xr_bin xd_bin xr_un xd_un xr_build xd_build xr_convInt xd_convInt xr_mkFn xr_fld xd_fld xr_extract xd_extract xr_lenL xd_lenL xr_nilPtr xd_nilPtr xr_load1 xd_load1 xr_loadN xd_loadN xr_bytesStr xd_bytesStr xr_eqPtr xr_eqIfc xr_new xd_new xr_box xr_buildSl xd_buildSl xd_strBytes xr_mkSl xr_idxAddrSl xd_idxAddrSl xd_sliceSl orU_some orU_none lenSA_str lenSA_strOf lenLA_sl lenLA_nil xfn xcode xdrawn xr_nil xr_kg xr_kgu xr_cmp xcmp_some xr_call xr_store xr_append xd_append xap_sl xap_nl xapq_some xsrc_sl xsrc_nil xapp_grow xapp_room xset xown xnx_some xnp_some xnq_some xd_nil xdl_old xdl_new xda_some xd_call xd_store xd_kg xdn_some xld xal kindOf isAlloc allocs xins xrem xall xput xget xwhole xmine xcont xq xqs xres XS.add XR.out XR.outU XR.ups xsets XR.res Rs.seq Rs.inSc Rs.block mapO tupleA sv_args adv_eq tget eqs8 eqs7 eqi8 eqi7 eqg8 eql8 eqn8 eqn7 cells_strOf cells_int cells_agg cells_bool cells_str cells_sl cells_nil cells_ptr at_int at_str at_strOf at_bool at_sl at_nil at_ptr unstr_strOf unbyt_byt fill_nil fill_cons replA ev_tm ev_vl sv_stv bin_add bin_sub bin_mul bin_lss bin_leq bin_gtr bin_geq bin_eql bin_neq un_not un_neg nth0 nth1 nth2 xst_idxAddrSl xst_idxStr xst_sliceStr xst_sliceSl xsl_sl xbd slN Nat.testBit
noncomputable def gnA (l : List UInt8) (a : Nat) : Nat := numA l (gbA l a)
noncomputable def gnOk (l : List UInt8) (a : Nat) : Bool := gbOk l a && gOk l (gbA l a)
noncomputable def gsA (l : List UInt8) (a : Nat) : Nat := numA l (gnA l (numA l a))
noncomputable def gsOk (l : List UInt8) (a : Nat) : Bool := gOk l a && (gnOk l (numA l a) && gOk l (gnA l (numA l a)))
theorem gbA_le {l : List UInt8} {a : Nat} (h : a ≤ l.length) : a ≤ gbA l a ∧ gbA l a ≤ l.length := by
  have := numA_le h
  have := bytA_le this.2 12
  unfold gbA
  omega
theorem gnA_le {l : List UInt8} {a : Nat} (h : a ≤ l.length) : a ≤ gnA l a ∧ gnA l a ≤ l.length := by
  have := gbA_le h
  have := numA_le this.2
  unfold gnA
  omega
noncomputable def e_gname : Ent := mkEnt 70 1 [.own 0, .ownAt 0 0, .bslAt 0 0 0] (fun z_ : Pos × Pos × Pos × Nat × Bool × (List UInt8) => [.ptr z_.1 0 0]) (fun z_ => [[.ptr z_.2.1 0 0, .bool z_.2.2.2.2.1], [.sl z_.2.2.1 0 0 z_.2.2.2.2.2.length (z_.2.2.2.2.2.length + 1) true 1, int64 (z_.2.2.2.1 : Int)], byt z_.2.2.2.2.2]) (fun z_ => RdP z_.1 z_.2.1 z_.2.2.1 z_.2.2.2.1 z_.2.2.2.2.2) (fun z_ => .upd [(z_.1, [.ptr z_.2.1 0 0, .bool (z_.2.2.2.2.1 || !gnOk z_.2.2.2.2.2 z_.2.2.2.1)]), (z_.2.1, [.sl z_.2.2.1 0 0 z_.2.2.2.2.2.length (z_.2.2.2.2.2.length + 1) true 1, int64 (gnA z_.2.2.2.2.2 z_.2.2.2.1 : Int)])] (.agg [int64 (gV z_.2.2.2.2.2 z_.2.2.2.1), strOf (bV z_.2.2.2.2.2 (numA z_.2.2.2.2.2 z_.2.2.2.1)), int64 (gV z_.2.2.2.2.2 (gbA z_.2.2.2.2.2 z_.2.2.2.1))]))
theorem f_gname : e_gname.f = 70 := rfl
theorem x_gname {U : List Ent} {b : Pos} {st : XS} (hU : tget U 70 = some e_gname) (x : Pos) (p : Pos) (q : Pos) (a : Nat) (bad : Bool) (l : List UInt8) (hp : RdP x p q a l) (hq : xqs st.X [.ptr x 0 0] [.own 0, .ownAt 0 0, .bslAt 0 0 0] = some [[.ptr p 0 0, .bool bad], [.sl q 0 0 l.length (l.length + 1) true 1, int64 (a : Int)], byt l]) (ho : ((.upd [(x, [.ptr p 0 0, .bool (bad || !gnOk l a)]), (p, [.sl q 0 0 l.length (l.length + 1) true 1, int64 (gnA l a : Int)])] (.agg [int64 (gV l a), strOf (bV l (numA l a)), int64 (gV l (gbA l a))]) : XR).ups.all fun x => (xown st.X x.1 0).isSome) = true) : xcall U b 70 [.ptr x 0 0] st = none ∧ xupd U b 70 [.ptr x 0 0] st = some (XR.outU b st (.upd [(x, [.ptr p 0 0, .bool (bad || !gnOk l a)]), (p, [.sl q 0 0 l.length (l.length + 1) true 1, int64 (gnA l a : Int)])] (.agg [int64 (gV l a), strOf (bV l (numA l a)), int64 (gV l (gbA l a))]))) :=
  xupd_at hU rfl hq (mkEnt_spec (by rintro ⟨a0, a1, a2, a3, a4, a5⟩ ⟨b0, b1, b2, b3, b4, b5⟩ h hc; simp only [List.cons.injEq, AV.agg.injEq, AV.tup.injEq, AV.int.injEq, AV.bool.injEq, AV.ptr.injEq, AV.sl.injEq, strOf_eq, byt_eq, map_strOf_eq, true_and, and_true, Int.natCast_inj] at h hc; simp [h, hc]) (x, p, q, a, bad, l) hp) (by first | rfl | (split <;> rfl)) ho
noncomputable def e_take1 : Ent := mkEnt 74 1 [.own 0, .ownAt 0 0, .bslAt 0 0 0] (fun z_ : Pos × Pos × Pos × Nat × Bool × (List UInt8) => [.ptr z_.1 0 0]) (fun z_ => [[.ptr z_.2.1 0 0, .bool z_.2.2.2.2.1], [.sl z_.2.2.1 0 0 z_.2.2.2.2.2.length (z_.2.2.2.2.2.length + 1) true 1, int64 (z_.2.2.2.1 : Int)], byt z_.2.2.2.2.2]) (fun z_ => RdP z_.1 z_.2.1 z_.2.2.1 z_.2.2.2.1 z_.2.2.2.2.2) (fun z_ => .upd [(z_.1, [.ptr z_.2.1 0 0, .bool (z_.2.2.2.2.1 || !gsOk z_.2.2.2.2.2 z_.2.2.2.1)]), (z_.2.1, [.sl z_.2.2.1 0 0 z_.2.2.2.2.2.length (z_.2.2.2.2.2.length + 1) true 1, int64 (gsA z_.2.2.2.2.2 z_.2.2.2.1 : Int)])] (.agg [int64 (gV z_.2.2.2.2.2 z_.2.2.2.1), int64 (gV z_.2.2.2.2.2 (numA z_.2.2.2.2.2 z_.2.2.2.1)), strOf (bV z_.2.2.2.2.2 (numA z_.2.2.2.2.2 (numA z_.2.2.2.2.2 z_.2.2.2.1))), int64 (gV z_.2.2.2.2.2 (gbA z_.2.2.2.2.2 (numA z_.2.2.2.2.2 z_.2.2.2.1))), int64 (gV z_.2.2.2.2.2 (gnA z_.2.2.2.2.2 (numA z_.2.2.2.2.2 z_.2.2.2.1)))]))
theorem f_take1 : e_take1.f = 74 := rfl
theorem x_take1 {U : List Ent} {b : Pos} {st : XS} (hU : tget U 74 = some e_take1) (x : Pos) (p : Pos) (q : Pos) (a : Nat) (bad : Bool) (l : List UInt8) (hp : RdP x p q a l) (hq : xqs st.X [.ptr x 0 0] [.own 0, .ownAt 0 0, .bslAt 0 0 0] = some [[.ptr p 0 0, .bool bad], [.sl q 0 0 l.length (l.length + 1) true 1, int64 (a : Int)], byt l]) (ho : ((.upd [(x, [.ptr p 0 0, .bool (bad || !gsOk l a)]), (p, [.sl q 0 0 l.length (l.length + 1) true 1, int64 (gsA l a : Int)])] (.agg [int64 (gV l a), int64 (gV l (numA l a)), strOf (bV l (numA l (numA l a))), int64 (gV l (gbA l (numA l a))), int64 (gV l (gnA l (numA l a)))]) : XR).ups.all fun x => (xown st.X x.1 0).isSome) = true) : xcall U b 74 [.ptr x 0 0] st = none ∧ xupd U b 74 [.ptr x 0 0] st = some (XR.outU b st (.upd [(x, [.ptr p 0 0, .bool (bad || !gsOk l a)]), (p, [.sl q 0 0 l.length (l.length + 1) true 1, int64 (gsA l a : Int)])] (.agg [int64 (gV l a), int64 (gV l (numA l a)), strOf (bV l (numA l (numA l a))), int64 (gV l (gbA l (numA l a))), int64 (gV l (gnA l (numA l a)))]))) :=
  xupd_at hU rfl hq (mkEnt_spec (by rintro ⟨a0, a1, a2, a3, a4, a5⟩ ⟨b0, b1, b2, b3, b4, b5⟩ h hc; simp only [List.cons.injEq, AV.agg.injEq, AV.tup.injEq, AV.int.injEq, AV.bool.injEq, AV.ptr.injEq, AV.sl.injEq, strOf_eq, byt_eq, map_strOf_eq, true_and, and_true, Int.natCast_inj] at h hc; simp [h, hc]) (x, p, q, a, bad, l) hp) (by first | rfl | (split <;> rfl)) ho
section
variable {m : Int} {t1 t2 : AV}
theorem gname_ok : EntOK Tryz.prog (HasG m t1 t2) e_gname := mkEnt_ok ok_gname fun z h g hz hc => by
  obtain ⟨x, p, q, a, bad, l⟩ := z
  have hz1 := hz
  obtain ⟨⟨hpq, ha, hl, h6⟩, hxp, hxq, h6x⟩ : RdP x p q a l := hz
  obtain ⟨L, hX, tq, aq⟩ := rx_open (x := x) (p := p) (q := q) (a := (a : Int)) (bad := bad) (l := l) hc
  have nA := gbA_le (l := l) (a := a) ha
  have N := fun {U b st} (hU : tget U 66 = some e_gbranch) hq ho => x_gbranch (U := U) (b := b) (st := st) hU x p q a bad l hz1 hq ho
  have B := fun {U b st} bad (hU : tget U 75 = some e_gnumber) hq ho => x_gnumber (U := U) (b := b) (st := st) hU x p q (gbA l a) bad l ⟨⟨hpq, nA.2, hl, h6⟩, hxp, hxq, h6x⟩ hq ho
  have ox : x.num < h.next.num := (hX _ (List.mem_cons_self ..)).old
  have op : p.num < h.next.num := (hX _ (List.mem_cons_of_mem _ (List.mem_cons_self ..))).old
  have oq : q.num < h.next.num := (hX _ (List.mem_cons_of_mem _ (List.mem_cons_of_mem _ (List.mem_cons_self ..)))).old
  have hX2 : XI h.next [x, p] h ⟨0, [⟨x, 0, true, [.ptr p 0 0, .bool bad]⟩, ⟨p, 0, true, [.sl q 0 0 l.length (l.length + 1) true 1, int64 (a : Int)]⟩, ⟨q, 0, false, L⟩]⟩ h := .startW h hX (by simpa using ⟨⟨hxp, hxq⟩, hpq⟩) (by simp)
  refine upd_of (U := []) (K := [e_gnumber, e_gbranch]) [(x, [.ptr p 0 0, .bool (bad || !gnOk l a)]), (p, [.sl q 0 0 l.length (l.length + 1) true 1, int64 (gnA l a : Int)])] (fun _ o => g.upd o (by simpa using ⟨h6x, h6⟩)) (by simp) (by simp [gnumber_ok.entK, gbranch_ok.entK]) 0 hX2 rx_had gname_code (by simp [gname_fu]) rfl ?_
  have gd : gnOk l a = (gbOk l a && gOk l (gbA l a)) := rfl
  have ga : numA l (gbA l a) = gnA l a := rfl
  generalize bV l (numA l a) = u at *
  simp [gname_fu, N, B (bad || !gbOk l a), f_gnumber, f_gbranch, hpq, hpq.symm, hxp, hxp.symm, hxq, hxq.symm, tq, aq, owns, xown, gd, ga, adv_nf oq, adv_fn oq, adv_nf op, adv_fn op, adv_nf ox, adv_fn ox, Bool.or_assoc]
theorem take1_ok : EntOK Tryz.prog (HasG m t1 t2) e_take1 := mkEnt_ok ok_take1 fun z h g hz hc => by
  obtain ⟨x, p, q, a, bad, l⟩ := z
  have hz1 := hz
  obtain ⟨⟨hpq, ha, hl, h6⟩, hxp, hxq, h6x⟩ : RdP x p q a l := hz
  obtain ⟨L, hX, tq, aq⟩ := rx_open (x := x) (p := p) (q := q) (a := (a : Int)) (bad := bad) (l := l) hc
  have nA := numA_le (l := l) (a := a) ha
  have nB := gnA_le (l := l) (a := numA l a) nA.2
  have N := fun {U b st} bad (hU : tget U 70 = some e_gname) hq ho => x_gname (U := U) (b := b) (st := st) hU x p q (numA l a) bad l ⟨⟨hpq, nA.2, hl, h6⟩, hxp, hxq, h6x⟩ hq ho
  have A := fun {U b st} (hU : tget U 75 = some e_gnumber) hq ho => x_gnumber (U := U) (b := b) (st := st) hU x p q a bad l hz1 hq ho
  have B := fun {U b st} bad (hU : tget U 75 = some e_gnumber) hq ho => x_gnumber (U := U) (b := b) (st := st) hU x p q (gnA l (numA l a)) bad l ⟨⟨hpq, nB.2, hl, h6⟩, hxp, hxq, h6x⟩ hq ho
  have ox : x.num < h.next.num := (hX _ (List.mem_cons_self ..)).old
  have op : p.num < h.next.num := (hX _ (List.mem_cons_of_mem _ (List.mem_cons_self ..))).old
  have oq : q.num < h.next.num := (hX _ (List.mem_cons_of_mem _ (List.mem_cons_of_mem _ (List.mem_cons_self ..)))).old
  have hX2 : XI h.next [x, p] h ⟨0, [⟨x, 0, true, [.ptr p 0 0, .bool bad]⟩, ⟨p, 0, true, [.sl q 0 0 l.length (l.length + 1) true 1, int64 (a : Int)]⟩, ⟨q, 0, false, L⟩]⟩ h := .startW h hX (by simpa using ⟨⟨hxp, hxq⟩, hpq⟩) (by simp)
  refine upd_of (U := []) (K := [e_gnumber, e_gname]) [(x, [.ptr p 0 0, .bool (bad || !gsOk l a)]), (p, [.sl q 0 0 l.length (l.length + 1) true 1, int64 (gsA l a : Int)])] (fun _ o => g.upd o (by simpa using ⟨h6x, h6⟩)) (by simp) (by simp [gnumber_ok.entK, gname_ok.entK]) 0 hX2 rx_had take1_code (by simp [take1_fu]) rfl ?_
  have gd : gsOk l a = (gOk l a && (gnOk l (numA l a) && gOk l (gnA l (numA l a)))) := rfl
  have ga : gsA l a = numA l (gnA l (numA l a)) := rfl
  generalize bV l (numA l (numA l a)) = u at *
  simp [take1_fu, N, A, B, f_gnumber, f_gname, hpq, hpq.symm, hxp, hxp.symm, hxq, hxq.symm, tq, aq, owns, xown, gd, ga, adv_nf oq, adv_fn oq, adv_nf op, adv_fn op, adv_nf ox, adv_fn ox, Bool.or_assoc]
end
end Go.Proofs.YtjhgembcdndmkaaGreatDoor.St

namespace Go.Proofs.YtjhgembcdndmkaaGreatDoor.St
open Go Go.Proofs.YtjhgembcdndmkaaGreatDoor.Am Go.Proofs Go.RowKit
attribute [local simp] xr_mov xd_mov xr_pick xd_pick xr_bin xd_bin xr_un xd_un xr_build xd_build xr_convInt xd_convInt xr_mkFn xr_fld xd_fld xr_extract xd_extract xr_lenL xd_lenL xr_nilPtr xd_nilPtr xr_load1 xd_load1 xr_loadN xd_loadN xr_bytesStr xd_bytesStr xr_eqPtr xr_eqIfc xr_new xd_new xr_box xr_buildSl xd_buildSl xd_strBytes xr_mkSl xr_idxAddrSl xd_idxAddrSl xd_sliceSl orU_some orU_none lenSA_str lenSA_strOf lenLA_sl lenLA_nil xfn xcode xdrawn xr_nil xr_kg xr_kgu xr_cmp xcmp_some xr_call xr_store xr_append xd_append xap_sl xap_nl xapq_some xsrc_sl xsrc_nil xapp_grow xapp_room xset xown xnx_some xnp_some xnq_some xd_nil xdl_old xdl_new xda_some xd_call xd_store xd_kg xdn_some xld xal kindOf isAlloc allocs xins xrem xall xput xget xwhole xmine xcont xq xqs xres XS.add XR.out XR.outU XR.ups xsets XR.res Rs.seq Rs.inSc Rs.block mapO tupleA sv_args adv_eq tget eqs8 eqs7 eqi8 eqi7 eqg8 eql8 eqn8 eqn7 cells_strOf cells_int cells_agg cells_bool cells_str cells_sl cells_nil cells_ptr at_int at_str at_strOf at_bool at_sl at_nil at_ptr unstr_strOf unbyt_byt fill_nil fill_cons replA ev_tm ev_vl sv_stv bin_add bin_sub bin_mul bin_lss bin_leq bin_gtr bin_geq bin_eql bin_neq un_not un_neg nth0 nth1 nth2 xst_idxAddrSl xst_idxStr xst_sliceStr xst_sliceSl xsl_sl xbd slN Nat.testBit
noncomputable def tsOk (l : List UInt8) (a : Nat) : Bool := gsOk l a && stampB (gV l a) (gV l (numA l a)) (bV l (numA l (numA l a))) (gV l (gbA l (numA l a))) (gV l (gnA l (numA l a)))
noncomputable def tsV (l : List UInt8) (a : Nat) : AV := if tsOk l a = true then .tup [.agg [int64 (gV l a), int64 (gV l (numA l a)), strOf (bV l (numA l (numA l a))), int64 (gV l (gbA l (numA l a))), int64 (gV l (gnA l (numA l a)))], int64 0] else .tup [.agg [int64 0, int64 0, .str 0 0, int64 0, int64 0], int64 4]
theorem bV_len {l : List UInt8} {a : Nat} (h : l.length ≤ 9000) : (bV l a).length ≤ 9000 := by
  unfold bV
  split
  · unfold bytV; rw [List.length_take, List.length_drop]; omega
  · simp
noncomputable def e_takens : Ent := mkEnt 73 3 [.own 0, .bsl 0 0] (fun z_ : Pos × Pos × Nat × (List UInt8) => [.ptr z_.1 0 0, .fn (.func 74) [] [], .fn (.func 43) [] []]) (fun z_ => [[.sl z_.2.1 0 0 z_.2.2.2.length (z_.2.2.2.length + 1) true 1, int64 (z_.2.2.1 : Int)], byt z_.2.2.2]) (fun z_ => z_.1 ≠ z_.2.1 ∧ z_.2.2.1 ≤ z_.2.2.2.length ∧ z_.2.2.2.length ≤ 9000 ∧ (Pos.ofNat 6).num ≤ z_.1.num) (fun z_ => .upd [(z_.1, [.sl z_.2.1 0 0 z_.2.2.2.length (z_.2.2.2.length + 1) true 1, int64 ((if tsOk z_.2.2.2 z_.2.2.1 = true then gsA z_.2.2.2 z_.2.2.1 else z_.2.2.1 : Nat) : Int)])] (tsV z_.2.2.2 z_.2.2.1))
theorem f_takens : e_takens.f = 73 := rfl
theorem x_takens {U : List Ent} {b : Pos} {st : XS} (hU : tget U 73 = some e_takens) (p : Pos) (q : Pos) (a : Nat) (l : List UInt8) (hp : p ≠ q ∧ a ≤ l.length ∧ l.length ≤ 9000 ∧ (Pos.ofNat 6).num ≤ p.num) (hq : xqs st.X [.ptr p 0 0, .fn (.func 74) [] [], .fn (.func 43) [] []] [.own 0, .bsl 0 0] = some [[.sl q 0 0 l.length (l.length + 1) true 1, int64 (a : Int)], byt l]) (ho : ((.upd [(p, [.sl q 0 0 l.length (l.length + 1) true 1, int64 ((if tsOk l a = true then gsA l a else a : Nat) : Int)])] (tsV l a) : XR).ups.all fun x => (xown st.X x.1 0).isSome) = true) : xcall U b 73 [.ptr p 0 0, .fn (.func 74) [] [], .fn (.func 43) [] []] st = none ∧ xupd U b 73 [.ptr p 0 0, .fn (.func 74) [] [], .fn (.func 43) [] []] st = some (XR.outU b st (.upd [(p, [.sl q 0 0 l.length (l.length + 1) true 1, int64 ((if tsOk l a = true then gsA l a else a : Nat) : Int)])] (tsV l a))) :=
  xupd_at hU rfl hq (mkEnt_spec (by rintro ⟨a0, a1, a2, a3⟩ ⟨b0, b1, b2, b3⟩ h hc; simp only [List.cons.injEq, AV.agg.injEq, AV.tup.injEq, AV.int.injEq, AV.bool.injEq, AV.ptr.injEq, AV.sl.injEq, strOf_eq, byt_eq, map_strOf_eq, true_and, and_true, Int.natCast_inj] at h hc; simp [h, hc]) (p, q, a, l) hp) (by first | rfl | (split <;> rfl)) ho
noncomputable def e_tt : Ent := mkEnt 26 1 [.own 0, .bsl 0 0] (fun z_ : Pos × Pos × Nat × (List UInt8) => [.ptr z_.1 0 0]) (fun z_ => [[.sl z_.2.1 0 0 z_.2.2.2.length (z_.2.2.2.length + 1) true 1, int64 (z_.2.2.1 : Int)], byt z_.2.2.2]) (fun z_ => z_.1 ≠ z_.2.1 ∧ z_.2.2.1 ≤ z_.2.2.2.length ∧ z_.2.2.2.length ≤ 9000 ∧ (Pos.ofNat 6).num ≤ z_.1.num) (fun z_ => .upd [(z_.1, [.sl z_.2.1 0 0 z_.2.2.2.length (z_.2.2.2.length + 1) true 1, int64 ((if tsOk z_.2.2.2 z_.2.2.1 = true then gsA z_.2.2.2 z_.2.2.1 else z_.2.2.1 : Nat) : Int)])] (tsV z_.2.2.2 z_.2.2.1))
theorem f_tt : e_tt.f = 26 := rfl
theorem x_tt {U : List Ent} {b : Pos} {st : XS} (hU : tget U 26 = some e_tt) (p : Pos) (q : Pos) (a : Nat) (l : List UInt8) (hp : p ≠ q ∧ a ≤ l.length ∧ l.length ≤ 9000 ∧ (Pos.ofNat 6).num ≤ p.num) (hq : xqs st.X [.ptr p 0 0] [.own 0, .bsl 0 0] = some [[.sl q 0 0 l.length (l.length + 1) true 1, int64 (a : Int)], byt l]) (ho : ((.upd [(p, [.sl q 0 0 l.length (l.length + 1) true 1, int64 ((if tsOk l a = true then gsA l a else a : Nat) : Int)])] (tsV l a) : XR).ups.all fun x => (xown st.X x.1 0).isSome) = true) : xcall U b 26 [.ptr p 0 0] st = none ∧ xupd U b 26 [.ptr p 0 0] st = some (XR.outU b st (.upd [(p, [.sl q 0 0 l.length (l.length + 1) true 1, int64 ((if tsOk l a = true then gsA l a else a : Nat) : Int)])] (tsV l a))) :=
  xupd_at hU rfl hq (mkEnt_spec (by rintro ⟨a0, a1, a2, a3⟩ ⟨b0, b1, b2, b3⟩ h hc; simp only [List.cons.injEq, AV.agg.injEq, AV.tup.injEq, AV.int.injEq, AV.bool.injEq, AV.ptr.injEq, AV.sl.injEq, strOf_eq, byt_eq, map_strOf_eq, true_and, and_true, Int.natCast_inj] at h hc; simp [h, hc]) (p, q, a, l) hp) (by first | rfl | (split <;> rfl)) ho
section
variable {m : Int} {t1 t2 : AV}
theorem takens_ok : EntOK Tryz.prog (HasG m t1 t2) e_takens := mkEnt_ok ok_takens fun z h g hz hc => by
  obtain ⟨p, q, a, l⟩ := z
  obtain ⟨hpq, ha, hl, h6⟩ : p ≠ q ∧ a ≤ l.length ∧ l.length ≤ 9000 ∧ (Pos.ofNat 6).num ≤ p.num := hz
  obtain ⟨L, hX, tq, aq, hL⟩ := rd_open (p := p) (q := q) (a := (a : Int)) (l := l) hc
  have oq : q.num < h.next.num := (hX _ (List.mem_cons_of_mem _ (List.mem_cons_self ..))).old
  have op : p.num < h.next.num := (hX _ (List.mem_cons_self ..)).old
  have h6n : ∀ j, (Pos.ofNat 6).num ≤ (adv h.next j).num := fun j => by rw [adv_num]; omega
  have nep : ∀ j, adv h.next j ≠ p := fun j => of_eq_false (adv_nf op j)
  have neq : ∀ j, adv h.next j ≠ q := fun j => of_eq_false (adv_nf oq j)
  have gm : ∀ h h', HasG m t1 t2 h → Only [] h h' → HasG m t1 t2 h' := fun _ _ g o => g.more o
  have E := fun {U b st} (hU : tget U 100 = some e_wend) hq => x_wend (U := U) (b := b) (st := st) hU p q l.length a ⟨ha, hl⟩ hq
  have R := fun {U b st} (hU : tget U 74 = some e_take1) hq ho => x_take1 (U := U) (b := b) (st := st) hU (adv h.next 3) p q a false l ⟨⟨hpq, ha, hl, h6⟩, nep 3, neq 3, h6n 3⟩ hq ho
  have M := fun {U b st} (hU : tget U 43 = some e_stamp) => x_stamp (U := U) (b := b) (st := st) hU (gV l a) (gV l (numA l a)) (bV l (numA l (numA l a))) (gV l (gbA l (numA l a))) (gV l (gnA l (numA l a))) (bV_len hl)
  have tv : tsV l a = if tsOk l a = true then .tup [.agg [int64 (gV l a), int64 (gV l (numA l a)), strOf (bV l (numA l (numA l a))), int64 (gV l (gbA l (numA l a))), int64 (gV l (gnA l (numA l a)))], int64 0] else .tup [.agg [int64 0, int64 0, .str 0 0, int64 0, int64 0], int64 4] := rfl
  have td : tsOk l a = (gsOk l a && stampB (gV l a) (gV l (numA l a)) (bV l (numA l (numA l a))) (gV l (gbA l (numA l a))) (gV l (gnA l (numA l a)))) := rfl
  have hX2 : XI h.next [p] h ⟨0, [⟨p, 0, true, [.sl q 0 0 l.length (l.length + 1) true 1, int64 (a : Int)]⟩, ⟨q, 0, false, L⟩]⟩ h := .startW h hX (by simpa using hpq) (by simp)
  refine upd_of (U := []) (K := [e_wend, e_take1, e_stamp]) [(p, [.sl q 0 0 l.length (l.length + 1) true 1, int64 ((if tsOk l a = true then gsA l a else a : Nat) : Int)])] (fun _ o => g.upd o (by simpa using h6)) (by simp) (by simp [(wend_ok gm).entK, take1_ok.entK, stamp_ok.entK]) 0 hX2 rd_had takens_code (by simp [takens_fu]) (by unfold tsV; split <;> rfl) ?_
  show _ = some (tsV l a, _)
  rw [tv]
  generalize bV l (numA l (numA l a)) = u at *
  have ne1 : ((if a < l.length then (4 : Int) else 0) = 1) = False := eq_false (by split <;> decide)
  by_cases c1 : gsOk l a = true
  · by_cases c2 : stampB (gV l a) (gV l (numA l a)) u (gV l (gbA l (numA l a))) (gV l (gnA l (numA l a))) = true
    · rw [c1, c2] at td
      simp [takens_fu, E, R, M, f_wend, f_take1, f_stamp, hpq, hpq.symm, tq, aq, owns, xown, c1, c2, td, adv_nf oq, adv_fn oq, adv_nf op, adv_fn op, ne1]
    · have c2 : stampB (gV l a) (gV l (numA l a)) u (gV l (gbA l (numA l a))) (gV l (gnA l (numA l a))) = false := by simpa using c2
      rw [c1, c2] at td
      simp [takens_fu, E, R, M, f_wend, f_take1, f_stamp, hpq, hpq.symm, tq, aq, owns, xown, c1, c2, td, adv_nf oq, adv_fn oq, adv_nf op, adv_fn op, ne1]
  · have c1 : gsOk l a = false := by simpa using c1
    rw [c1] at td
    simp [takens_fu, E, R, M, f_wend, f_take1, f_stamp, hpq, hpq.symm, tq, aq, owns, xown, c1, td, adv_nf oq, adv_fn oq, adv_nf op, adv_fn op, ne1]
theorem tt_ok : EntOK Tryz.prog (HasG m t1 t2) e_tt := mkEnt_ok ok_tt fun z h g hz hc => by
  obtain ⟨p, q, a, l⟩ := z
  have hz1 := hz
  obtain ⟨hpq, ha, hl, h6⟩ : p ≠ q ∧ a ≤ l.length ∧ l.length ≤ 9000 ∧ (Pos.ofNat 6).num ≤ p.num := hz
  obtain ⟨L, hX, tq, aq, hL⟩ := rd_open (p := p) (q := q) (a := (a : Int)) (l := l) hc
  have oq : q.num < h.next.num := (hX _ (List.mem_cons_of_mem _ (List.mem_cons_self ..))).old
  have op : p.num < h.next.num := (hX _ (List.mem_cons_self ..)).old
  have R := fun {U b st} (hU : tget U 73 = some e_takens) hq ho => x_takens (U := U) (b := b) (st := st) hU p q a l hz1 hq ho
  have hX2 : XI h.next [p] h ⟨0, [⟨p, 0, true, [.sl q 0 0 l.length (l.length + 1) true 1, int64 (a : Int)]⟩, ⟨q, 0, false, L⟩]⟩ h := .startW h hX (by simpa using hpq) (by simp)
  refine upd_of (U := []) (K := [e_takens]) [(p, [.sl q 0 0 l.length (l.length + 1) true 1, int64 ((if tsOk l a = true then gsA l a else a : Nat) : Int)])] (fun _ o => g.upd o (by simpa using h6)) (by simp) (by simp [takens_ok.entK]) 0 hX2 rd_had tt_code (by simp [tt_fu]) (by unfold tsV; split <;> rfl) ?_
  show _ = some (tsV l a, _)
  unfold tsV at R ⊢
  cases hk : tsOk l a <;> simp [hk] at R <;> simp [tt_fu, R, f_takens, hpq, hpq.symm, tq, aq, owns, xown, hk, adv_nf oq, adv_fn oq, adv_nf op, adv_fn op]
end
end Go.Proofs.YtjhgembcdndmkaaGreatDoor.St

namespace Go.Proofs.YtjhgembcdndmkaaGreatDoor.St
open Go Go.Proofs.YtjhgembcdndmkaaGreatDoor.Am Go.Proofs Go.RowKit
attribute [local simp] xr_mov xd_mov xr_pick xd_pick xr_bin xd_bin xr_un xd_un xr_build xd_build xr_convInt xd_convInt xr_mkFn xr_fld xd_fld xr_extract xd_extract xr_lenL xd_lenL xr_nilPtr xd_nilPtr xr_load1 xd_load1 xr_loadN xd_loadN xr_bytesStr xd_bytesStr xr_eqPtr xr_eqIfc xr_new xd_new xr_box xr_buildSl xd_buildSl xd_strBytes xr_mkSl xr_idxAddrSl xd_idxAddrSl xd_sliceSl orU_some orU_none lenSA_str lenSA_strOf lenLA_sl lenLA_nil xfn xcode xdrawn xr_nil xr_kg xr_kgu xr_cmp xcmp_some xr_call xr_store xr_append xd_append xap_sl xap_nl xapq_some xsrc_sl xsrc_nil xapp_grow xapp_room xset xown xnx_some xnp_some xnq_some xd_nil xdl_old xdl_new xda_some xd_call xd_store xd_kg xdn_some xld xal kindOf isAlloc allocs xins xrem xall xput xget xwhole xmine xcont xq xqs xres XS.add XR.out XR.outU XR.ups xsets XR.res Rs.seq Rs.inSc Rs.block mapO tupleA sv_args adv_eq tget eqs8 eqs7 eqi8 eqi7 eqg8 eql8 eqn8 eqn7 cells_strOf cells_int cells_agg cells_bool cells_str cells_sl cells_nil cells_ptr at_int at_str at_strOf at_bool at_sl at_nil at_ptr unstr_strOf unbyt_byt fill_nil fill_cons replA ev_tm ev_vl sv_stv bin_add bin_sub bin_mul bin_lss bin_leq bin_gtr bin_geq bin_eql bin_neq un_not un_neg nth0 nth1 nth2 xst_idxAddrSl xst_idxStr xst_sliceStr xst_sliceSl xsl_sl xbd slN Nat.testBit
noncomputable def adU (x y : Int) : Int := wrapA .u64 (x + y)
noncomputable def rmI (x : Int) : Int := x.tmod 128
theorem rmI_nat (x : Nat) : rmI (x : Int) = ((x % 128 : Nat) : Int) := rfl
theorem anI_nat (c : Nat) (hc : c < 256) : anI (c : Int) = ((c % 128 : Nat) : Int) := by
  show ((bif Nat.blt c (Nat.pow 2 8) && Nat.blt 127 (Nat.pow 2 8) then some (Int.ofNat (Nat.land c 127)) else bitsA .and .u8 (Int.ofNat c) (Int.ofNat 127)) : Option Int).getD 0 = _
  rw [blt_iff.2 (show c < Nat.pow 2 8 from hc), blt_iff.2 (show 127 < Nat.pow 2 8 by decide)]
  show ((c &&& 2 ^ 7 - 1 : Nat) : Int) = _
  rw [Nat.and_two_pow_sub_one_eq_mod]
theorem orU_nat (a b : Nat) (ha : a < 18446744073709551616) (hb : b < 18446744073709551616) : orU64 (a : Int) (b : Int) = ((a ||| b : Nat) : Int) := by
  show ((bif Nat.blt a (Nat.pow 2 64) && Nat.blt b (Nat.pow 2 64) then some (Int.ofNat (Nat.lor a b)) else bitsA .or .u64 (Int.ofNat a) (Int.ofNat b)) : Option Int).getD 0 = _
  rw [blt_iff.2 (show a < Nat.pow 2 64 from ha), blt_iff.2 (show b < Nat.pow 2 64 from hb)]
  rfl
theorem shU_nat (a y : Nat) (hy : y ≤ 64) : shU (a : Int) (y : Int) = ((a * 2 ^ y % 18446744073709551616 : Nat) : Int) := by
  unfold shU
  rw [Int.toNat_natCast, ble_iff.2 hy]
  rfl
theorem adU_nat (a b : Nat) : adU (a : Int) (b : Int) = (((a + b) % 18446744073709551616 : Nat) : Int) := rfl
theorem num_step {i n c : Nat} (hi : i ≤ 9) (hn : n < 2 ^ (7 * i)) (hc : c < 256) (h9 : ¬ (i = 9 ∧ 1 < c)) : orU64 (n : Int) (shU (anI (c : Int)) (7 * (i : Int))) = ((n + c % 128 * 2 ^ (7 * i) : Nat) : Int) ∧ adU (n : Int) (shU (rmI (c : Int)) (7 * (i : Int))) = ((n + c % 128 * 2 ^ (7 * i) : Nat) : Int) ∧ (i < 9 → n + c % 128 * 2 ^ (7 * i) < 2 ^ (7 * (i + 1))) := by
  have e7 : 7 * (i : Int) = ((7 * i : Nat) : Int) := rfl
  have hp : 2 ^ (7 * (i + 1)) = 128 * 2 ^ (7 * i) := by rw [show 7 * (i + 1) = 7 + 7 * i by omega, Nat.pow_add]
  have hm : c % 128 < 128 := Nat.mod_lt _ (by decide)
  have hmul : c % 128 * 2 ^ (7 * i) ≤ 127 * 2 ^ (7 * i) := Nat.mul_le_mul_right _ (by omega)
  have hlt : n + c % 128 * 2 ^ (7 * i) < 2 ^ (7 * (i + 1)) := by rw [hp]; omega
  have hs : c % 128 * 2 ^ (7 * i) + n < 18446744073709551616 := by
    rcases Nat.lt_or_ge i 9 with c9 | c9
    · have : 2 ^ (7 * (i + 1)) ≤ 2 ^ 63 := Nat.pow_le_pow_right (by decide) (by omega)
      have e : (2 : Nat) ^ 63 = 9223372036854775808 := by decide
      omega
    · have i9 : i = 9 := by omega
      subst i9
      have h1 : c ≤ 1 := by omega
      have h2 : c % 128 = c := Nat.mod_eq_of_lt (by omega)
      have e : (2 : Nat) ^ (7 * 9) = 9223372036854775808 := by decide
      have : c % 128 * 2 ^ (7 * 9) ≤ 1 * 2 ^ (7 * 9) := Nat.mul_le_mul_right _ (by omega)
      omega
  rw [anI_nat c hc, rmI_nat, e7, shU_nat _ _ (by omega), Nat.mod_eq_of_lt (show c % 128 * 2 ^ (7 * i) < 18446744073709551616 by omega), adU_nat, orU_nat _ _ (by omega) (by omega), Nat.mod_eq_of_lt (show n + c % 128 * 2 ^ (7 * i) < 18446744073709551616 by omega)]
  refine ⟨?_, rfl, fun _ => hlt⟩
  rw [Nat.or_comm, Nat.mul_comm, ← Nat.two_pow_add_eq_or_of_lt hn, Nat.add_comm]
end Go.Proofs.YtjhgembcdndmkaaGreatDoor.St

namespace Go.Proofs.YtjhgembcdndmkaaGreatDoor.St
open Go Go.Proofs.YtjhgembcdndmkaaGreatDoor.Am Go.Proofs Go.RowKit
attribute [local simp] xr_mov xd_mov xr_pick xd_pick xr_bin xd_bin xr_un xd_un xr_build xd_build xr_convInt xd_convInt xr_mkFn xr_fld xd_fld xr_extract xd_extract xr_lenL xd_lenL xr_nilPtr xd_nilPtr xr_load1 xd_load1 xr_loadN xd_loadN xr_bytesStr xd_bytesStr xr_eqPtr xr_eqIfc xr_new xd_new xr_box xr_buildSl xd_buildSl xd_strBytes xr_mkSl xr_idxAddrSl xd_idxAddrSl xd_sliceSl orU_some orU_none lenSA_str lenSA_strOf lenLA_sl lenLA_nil xfn xcode xdrawn xr_nil xr_kg xr_kgu xr_cmp xcmp_some xr_call xr_store xr_append xd_append xap_sl xap_nl xapq_some xsrc_sl xsrc_nil xapp_grow xapp_room xset xown xnx_some xnp_some xnq_some xd_nil xdl_old xdl_new xda_some xd_call xd_store xd_kg xdn_some xld xal kindOf isAlloc allocs xins xrem xall xput xget xwhole xmine xcont xq xqs xres XS.add XR.out XR.outU XR.ups xsets XR.res Rs.seq Rs.inSc Rs.block mapO tupleA sv_args adv_eq tget eqs8 eqs7 eqi8 eqi7 eqg8 eql8 eqn8 eqn7 cells_strOf cells_int cells_agg cells_bool cells_str cells_sl cells_nil cells_ptr at_int at_str at_strOf at_bool at_sl at_nil at_ptr unstr_strOf unbyt_byt fill_nil fill_cons replA ev_tm ev_vl sv_stv bin_add bin_sub bin_mul bin_lss bin_leq bin_gtr bin_geq bin_eql bin_neq un_not un_neg nth0 nth1 nth2 xst_idxAddrSl xst_idxStr xst_sliceStr xst_sliceSl xsl_sl xbd slN Nat.testBit
theorem byt_one (c : UInt8) : byt [c] = [.int .u8 (c.toNat : Int)] := rfl
theorem byt_app (a b : List UInt8) : byt (a ++ b) = byt a ++ byt b := List.map_append ..
def numB (n : Nat) : List UInt8 := if n > 127 then UInt8.ofNat (n % 128 + 128) :: numB (n / 128) else [UInt8.ofNat n]
decreasing_by omega
theorem numB_more {m : Nat} (h : 127 < m) : numB m = UInt8.ofNat (m % 128 + 128) :: numB (m / 128) := by rw [numB, if_pos h]
theorem numB_last {m : Nat} (h : ¬ 127 < m) : numB m = [UInt8.ofNat m] := by rw [numB, if_neg h]
theorem numB_len : ∀ (k m : Nat), m < 2 ^ (7 * k) → 0 < k → (numB m).length ≤ k
  | 0, _, _, h => by omega
  | k + 1, m, hm, _ => by
    by_cases c : 127 < m
    · rw [numB_more c, List.length_cons]
      have e : 2 ^ (7 * (k + 1)) = 128 * 2 ^ (7 * k) := by rw [show 7 * (k + 1) = 7 + 7 * k by omega, Nat.pow_add]
      have h1 : m / 128 < 2 ^ (7 * k) := by omega
      have h2 : 0 < k := by
        rcases Nat.eq_zero_or_pos k with q | q
        · subst q
          have : (2 : Nat) ^ (7 * 0) = 1 := rfl
          omega
        · exact q
      have := numB_len k (m / 128) h1 h2
      omega
    · rw [numB_last c]; simp
theorem numB_len10 {m : Nat} (h : m < 18446744073709551616) : (numB m).length ≤ 10 := numB_len 10 m (Nat.lt_of_lt_of_le h (by decide)) (by omega)
theorem numB_ne (m : Nat) : numB m ≠ [] := by
  by_cases c : 127 < m
  · rw [numB_more c]; simp
  · rw [numB_last c]; simp
end Go.Proofs.YtjhgembcdndmkaaGreatDoor.St

namespace Go.Proofs.YtjhgembcdndmkaaGreatDoor.St
open Go Go.Proofs.YtjhgembcdndmkaaGreatDoor.Am Go.Proofs Go.RowKit
attribute [local simp] xr_mov xd_mov xr_pick xd_pick xr_bin xd_bin xr_un xd_un xr_build xd_build xr_convInt xd_convInt xr_mkFn xr_fld xd_fld xr_extract xd_extract xr_lenL xd_lenL xr_nilPtr xd_nilPtr xr_load1 xd_load1 xr_loadN xd_loadN xr_bytesStr xd_bytesStr xr_eqPtr xr_eqIfc xr_new xd_new xr_box xr_buildSl xd_buildSl xd_strBytes xr_mkSl xr_idxAddrSl xd_idxAddrSl xd_sliceSl orU_some orU_none lenSA_str lenSA_strOf lenLA_sl lenLA_nil xfn xcode xdrawn xr_nil xr_kg xr_kgu xr_cmp xcmp_some xr_call xr_store xr_append xd_append xap_sl xap_nl xapq_some xsrc_sl xsrc_nil xapp_grow xapp_room xset xown xnx_some xnp_some xnq_some xd_nil xdl_old xdl_new xda_some xd_call xd_store xd_kg xdn_some xld xal kindOf isAlloc allocs xins xrem xall xput xget xwhole xmine xcont xq xqs xres XS.add XR.out XR.outU XR.ups xsets XR.res Rs.seq Rs.inSc Rs.block mapO tupleA sv_args adv_eq tget eqs8 eqs7 eqi8 eqi7 eqg8 eql8 eqn8 eqn7 cells_strOf cells_int cells_agg cells_bool cells_str cells_sl cells_nil cells_ptr at_int at_str at_strOf at_bool at_sl at_nil at_ptr unstr_strOf unbyt_byt fill_nil fill_cons replA ev_tm ev_vl sv_stv bin_add bin_sub bin_mul bin_lss bin_leq bin_gtr bin_geq bin_eql bin_neq un_not un_neg nth0 nth1 nth2 xst_idxAddrSl xst_idxStr xst_sliceStr xst_sliceSl xsl_sl xbd slN Nat.testBit
def bytB (s : List UInt8) : List UInt8 := numB s.length ++ s
def putbB (r : Nat) (s : List UInt8) : List UInt8 := numB r ++ bytB s
def putnB (r : Nat) (s : List UInt8) (n : Nat) : List UInt8 := putbB r s ++ numB n
def putB (g r : Nat) (s : List UInt8) (n i : Nat) : List UInt8 := (numB g ++ putnB r s n) ++ numB i
end Go.Proofs.YtjhgembcdndmkaaGreatDoor.St

namespace Go.Proofs.YtjhgembcdndmkaaGreatDoor.St
open Go Go.Proofs.YtjhgembcdndmkaaGreatDoor.Am Go.Proofs Go.RowKit
attribute [local simp] xr_mov xd_mov xr_pick xd_pick xr_bin xd_bin xr_un xd_un xr_build xd_build xr_convInt xd_convInt xr_mkFn xr_fld xd_fld xr_extract xd_extract xr_lenL xd_lenL xr_nilPtr xd_nilPtr xr_load1 xd_load1 xr_loadN xd_loadN xr_bytesStr xd_bytesStr xr_eqPtr xr_eqIfc xr_new xd_new xr_box xr_buildSl xd_buildSl xd_strBytes xr_mkSl xr_idxAddrSl xd_idxAddrSl xd_sliceSl orU_some orU_none lenSA_str lenSA_strOf lenLA_sl lenLA_nil xfn xcode xdrawn xr_nil xr_kg xr_kgu xr_cmp xcmp_some xr_call xr_store xr_append xd_append xap_sl xap_nl xapq_some xsrc_sl xsrc_nil xapp_grow xapp_room xset xown xnx_some xnp_some xnq_some xd_nil xdl_old xdl_new xda_some xd_call xd_store xd_kg xdn_some xld xal kindOf isAlloc allocs xins xrem xall xput xget xwhole xmine xcont xq xqs xres XS.add XR.out XR.outU XR.ups xsets XR.res Rs.seq Rs.inSc Rs.block mapO tupleA sv_args adv_eq tget eqs8 eqs7 eqi8 eqi7 eqg8 eql8 eqn8 eqn7 cells_strOf cells_int cells_agg cells_bool cells_str cells_sl cells_nil cells_ptr at_int at_str at_strOf at_bool at_sl at_nil at_ptr unstr_strOf unbyt_byt fill_nil fill_cons replA ev_tm ev_vl sv_stv bin_add bin_sub bin_mul bin_lss bin_leq bin_gtr bin_geq bin_eql bin_neq un_not un_neg nth0 nth1 nth2 xst_idxAddrSl xst_idxStr xst_sliceStr xst_sliceSl xsl_sl xbd slN Nat.testBit
def BwI (b : Pos) (st : XS) (v : AV) (acc : List UInt8) : Prop :=
  ∃ j, v = .sl (adv b j) 0 0 acc.length 10 true 1 ∧ j < st.n ∧ xown st.X (adv b j) 0 = some (byt acc ++ List.replicate (10 - acc.length) (.int .u8 0)) ∧ acc.length ≤ 10
theorem wnf_app {b : Pos} {st : XS} {v : AV} {acc : List UInt8} (si : BwI b st v acc) (d : UInt8) (hl : acc.length ≤ 9) :
    ∃ v' st', xap b ⟨st.n + 1, ⟨adv b st.n, 0, true, [.int .u8 (d.toNat : Int)]⟩ :: st.X⟩ 1 0 v (.sl (adv b st.n) 0 0 1 1 true 1) = some (v', st') ∧ BwI b st' v' (acc ++ [d]) := by
  obtain ⟨j, rfl, hj, hx, _⟩ := si
  have hn : ¬ st.n = j := by omega
  have hlen : (byt acc).length = acc.length := byt_length _
  have hL : (byt acc ++ List.replicate (10 - acc.length) (AV.int .u8 0)).length = 10 := by rw [List.length_append, List.length_replicate, hlen]; omega
  have hT : (byt acc ++ List.replicate (10 - acc.length) (AV.int .u8 0)).take acc.length = byt acc := by rw [List.take_append_of_le_length (by omega), byt_take]
  have hD : (byt acc ++ List.replicate (10 - acc.length) (AV.int .u8 0)).drop (acc.length + 1) = List.replicate (10 - (acc.length + 1)) (AV.int .u8 0) := by
    rw [List.drop_append, List.drop_eq_nil_of_le (by omega), hlen, List.nil_append, List.drop_replicate]
    congr 1; omega
  refine ⟨.sl (adv b j) 0 0 (acc.length + 1) 10 true 1, ⟨st.n + 1, ⟨adv b st.n, 0, true, [.int .u8 (d.toNat : Int)]⟩ :: xset st.X (adv b j) 0 (byt acc ++ [.int .u8 (d.toNat : Int)] ++ List.replicate (10 - (acc.length + 1)) (AV.int .u8 0))⟩, ?_, j, by simp, by simp; omega, ?_, by simp; omega⟩
  · have RM := fun (s : XS) (id : Pos) => xapp_room (b := b) (s := s) (bytes := 0) (k := acc.length) (cap := 10) (n := 1) (id := id) (c := [.int .u8 (d.toNat : Int)]) (by omega) rfl rfl (by omega) (by omega)
    generalize byt acc ++ List.replicate (10 - acc.length) (AV.int .u8 0) = L at *
    simp [RM, xown, hn, hx, hL, hT, hD, show acc.length + 1 ≤ 10 by omega]
  · unfold xown
    rw [if_neg (by rw [adv_eq]; exact hn), xown_xset hx, byt_app, byt_one, List.length_append]; rfl
set_option maxRecDepth 100000 in
theorem or128 : ∀ x : Nat, x < 256 → x ||| 128 = x % 128 + 128 := by decide
theorem bin_or8 (kd : EK) (no : Bool) (x : Nat) (hx : x < 256) : binA .or kd no (.int .u8 (x : Int)) (.int .u8 128) = some (.int .u8 ((x % 128 + 128 : Nat) : Int)) := by
  show (if IntKind.u8 = IntKind.u8 then intBin .or .u8 (x : Int) 128 else none) = _
  rw [if_pos rfl]
  show (match (bif Nat.blt x (Nat.pow 2 8) && Nat.blt 128 (Nat.pow 2 8) then some (Int.ofNat (Nat.lor x 128)) else bitsA .or .u8 (Int.ofNat x) (Int.ofNat 128) : Option Int) with
    | some r => intK r fun r => some (AV.int .u8 r)
    | none => none) = _
  rw [blt_iff.2 (show x < Nat.pow 2 8 from hx), blt_iff.2 (show 128 < Nat.pow 2 8 by decide)]
  show intK (Int.ofNat (x ||| 128)) (fun r => some (AV.int .u8 r)) = _
  rw [intK_eq, or128 x hx]; rfl
theorem bin_shr7 (kd : EK) (no : Bool) (x : Nat) : binA .shr kd no (.int .u64 (x : Int)) (.int .u64 7) = some (.int .u64 ((x / 128 : Nat) : Int)) := rfl
theorem wnf_loop (b : Pos) (k : Nat) : ∀ (fuel m : Nat) (env : T AV) (st : XS) (acc : List UInt8), sv env 0 = .int .u64 (m : Int) → BwI b st (sv env 3) acc → acc.length + (numB m).length ≤ 10 → m < 2 ^ (7 * fuel) → 0 < fuel →
    ∃ env' st' acc' n, xloop (xcode Tryz.prog [] [] b (k + 1) wnf_0) fuel env st = some (.exit 0, env', st') ∧ sv env' 0 = .int .u64 ((n : Nat) : Int) ∧ n ≤ 127 ∧ BwI b st' (sv env' 3) acc' ∧ acc' ++ numB n = acc ++ numB m ∧ acc'.length ≤ 9
  | 0, _, _, _, _, _, _, _, _, h => by omega
  | fuel + 1, m, env, st, acc, h0, si, hl, hf, _ => by
    unfold xloop
    have key := wnf_loop b k fuel
    generalize xloop (xcode Tryz.prog [] [] b (k + 1) wnf_0) fuel = R at key ⊢
    by_cases c : 127 < m
    · have c' := eq_true (show (127 : Int) < (m : Int) by omega)
      have hc : (UInt8.ofNat (m % 128 + 128)).toNat = m % 128 + 128 := by rw [UInt8.toNat_ofNat']; omega
      rw [numB_more c, List.length_cons] at hl
      obtain ⟨v', st', e, si'⟩ := wnf_app si (UInt8.ofNat (m % 128 + 128)) (by omega)
      rw [hc] at e
      have e128 : 2 ^ (7 * (fuel + 1)) = 128 * 2 ^ (7 * fuel) := by rw [show 7 * (fuel + 1) = 7 + 7 * fuel by omega, Nat.pow_add]
      have hfu : 0 < fuel := by
        rcases Nat.eq_zero_or_pos fuel with q | q
        · subst q
          have : (2 : Nat) ^ (7 * (0 + 1)) = 128 := rfl
          omega
        · exact q
      have key := fun env st q0 q3 => key (m / 128) env st (acc ++ [UInt8.ofNat (m % 128 + 128)]) q0 q3 (by simp; omega) (by omega) hfu
      have w8 : wrapA .u8 (m : Int) = ((m % 256 : Nat) : Int) := rfl
      have q1 := bin_or8 .other true (m % 256) (by omega)
      rw [show m % 256 % 128 = m % 128 by omega] at q1
      have q2 := bin_shr7 .other true m
      rw [numB_more c]
      generalize m % 256 = m2 at *
      generalize hr : m % 128 = r at *
      generalize m / 128 = t at *
      have q1 : binA .or .other true (.int .u8 (m2 : Int)) (.int .u8 128) = some (.int .u8 ((r : Int) + 128)) := q1
      have e : xap b ⟨st.n + 1, ⟨adv b st.n, 0, true, [.int .u8 ((r : Int) + 128)]⟩ :: st.X⟩ 1 0 (sv env 3) (.sl (adv b st.n) 0 0 1 1 true 1) = some (v', st') := e
      have K : ∀ env2, sv env2 0 = .int .u64 (t : Int) → BwI b st' (sv env2 3) (acc ++ [UInt8.ofNat (r + 128)]) → ∃ env' st2, R env2 st' = some (.exit 0, env', st2) ∧ ∃ x n, sv env' 0 = .int .u64 ((n : Nat) : Int) ∧ n ≤ 127 ∧ BwI b st2 (sv env' 3) x ∧ x ++ numB n = acc ++ (UInt8.ofNat r + 128) :: numB t ∧ x.length ≤ 9 := fun env2 q0 q3 => by
        obtain ⟨env', st2, x, n, r1, r2, r3, r4, r5, r6⟩ := key env2 st' q0 q3
        exact ⟨_, _, r1, x, n, r2, r3, r4, by rw [r5]; simp, r6⟩
      simp [wnf_0, -xap_sl, h0, c', q1, q2, w8, e]
      exact K _ (by simp [sv_stv]) (by simpa [sv_stv] using si')
    · have c' := eq_false (show ¬ (127 : Int) < (m : Int) by omega)
      rw [numB_last c] at hl
      have hl : acc.length + 1 ≤ 10 := hl
      simp [wnf_0, -xap_sl, h0, c']
      exact ⟨_, _, ⟨rfl, rfl⟩, acc, m, by simp [sv_stv, h0], by omega, by simpa [sv_stv] using si, rfl, by omega⟩
theorem row_ofP {P : Program} {h : Hp} {G : Hp → Prop} {U K : List Ent} (l : List AV) (hG : ∀ h', Only [] h h' → G h') (hT : ∀ e ∈ U, EntOK P G e) (hK : ∀ e ∈ K, EntK P G e) (n : Nat) {f : FuncId} {fu : Fu} {args : List AV} {L : List AV} {m es : Nat} {X : List XB} (i : XI h.next [] h ⟨0, X⟩ h) (hc : compFn P f = some fu) (hl : args.length ≤ fu.nargs) (hp : ∀ y ∈ l, y.plain = true) (hL : ∃ r, L = l ++ r)
    (e : (xfn P U K h.next n fu args ⟨0, X⟩).bind (fun p => rowOut p.2.X p.1) = some (L, m, es)) : AmFn P f args h (slN h.next m es) (rowN h l) := by
  obtain ⟨p, q, e⟩ := Option.bind_eq_some_iff.1 e
  obtain ⟨u, s'⟩ := p
  obtain ⟨h', a, i⟩ := xfn_ok hG hT hK hc hl i q
  change rowOut s'.X u = _ at e
  unfold rowOut at e
  split at e
  · split at e
    · rename_i h0
      obtain ⟨l', w, e⟩ := Option.map_eq_some_iff.1 e
      cases e
      obtain ⟨z, mz, rfl, rfl, zo, rfl⟩ := xown_mem w
      obtain ⟨r, hr⟩ := hL
      have hid := (i.own z mz zo).resolve_left (by simp)
      refine a.row i.only ((i.all z mz).gro zo) hid (fun j y q => ⟨?_, hp y (List.mem_of_getElem? q)⟩) fun φ ψ x kk r => rel_slN h0 kk r
      rw [hr, List.getElem?_append_left (List.getElem?_eq_some_iff.1 q).1]; exact q
    · cases e
  · cases e
noncomputable def e_wnf : Ent := mkEnt 83 1 [] (fun z_ : Nat => [.int .u64 (z_ : Int)]) (fun _ => []) (fun z_ => z_ < 18446744073709551616) (fun z_ => .row (byt (numB z_)) (fun p => slN p (numB z_).length 1))
theorem f_wnf : e_wnf.f = 83 := rfl
theorem x_wnf {U : List Ent} {b : Pos} {st : XS} (hU : tget U 83 = some e_wnf) (n : Nat) (hp : n < 18446744073709551616) : xcall U b 83 [.int .u64 (n : Int)] st = some (XR.out b st (.row (byt (numB n)) (fun p => slN p (numB n).length 1))) :=
  xcall_at hU rfl rfl (mkEnt_spec (by rintro a0 b0 h hc; simp only [List.cons.injEq, AV.agg.injEq, AV.tup.injEq, AV.int.injEq, AV.bool.injEq, AV.ptr.injEq, AV.sl.injEq, strOf_eq, byt_eq, map_strOf_eq, true_and, and_true, Int.natCast_inj] at h hc; simp [h, hc]) n hp) (by first | rfl | (split <;> rfl))
noncomputable def e_wbf : Ent := mkEnt 112 1 [.sl 0] (fun z_ : Pos × (List UInt8) => [.sl z_.1 0 0 z_.2.length z_.2.length false 1]) (fun z_ => [byt z_.2]) (fun z_ => z_.2.length ≤ 9000 ∧ z_.2 ≠ []) (fun z_ => .row (byt (bytB z_.2)) (fun p => slN p (bytB z_.2).length 1))
theorem f_wbf : e_wbf.f = 112 := rfl
theorem x_wbf {U : List Ent} {b : Pos} {st : XS} (hU : tget U 112 = some e_wbf) (q : Pos) (s : List UInt8) (hp : s.length ≤ 9000 ∧ s ≠ []) (hq : xqs st.X [.sl q 0 0 s.length s.length false 1] [.sl 0] = some [byt s]) : xcall U b 112 [.sl q 0 0 s.length s.length false 1] st = some (XR.out b st (.row (byt (bytB s)) (fun p => slN p (bytB s).length 1))) :=
  xcall_at hU rfl hq (mkEnt_spec (by rintro ⟨a0, a1⟩ ⟨b0, b1⟩ h hc; simp only [List.cons.injEq, AV.agg.injEq, AV.tup.injEq, AV.int.injEq, AV.bool.injEq, AV.ptr.injEq, AV.sl.injEq, strOf_eq, byt_eq, map_strOf_eq, true_and, and_true, Int.natCast_inj] at h hc; simp [h, hc]) (q, s) hp) (by first | rfl | (split <;> rfl))
section
variable {m : Int} {t1 t2 : AV}
theorem wnf_ok : EntOK Tryz.prog (HasG m t1 t2) e_wnf := mkEnt_ok ok_wnf fun n h gg hn _ => by
  have hn : n < 18446744073709551616 := hn
  have h10 := numB_len10 hn
  obtain ⟨env', st', acc, k, e, e0, hk, si, ea, hl⟩ := wnf_loop h.next 11 12 n (stv (stv (stv (setArgs .e 0 [.int .u64 (n : Int)]) 2 .nilSl) 4 (.sl (adv h.next 0) 0 0 0 10 true 1)) 3 (.sl (adv h.next 0) 0 0 0 10 true 1)) ⟨1, [⟨adv h.next 0, 0, true, List.replicate 10 (.int .u8 0)⟩]⟩ [] (by simp [sv_stv, sv_args]) ⟨0, by simp [sv_stv], by simp, by simp [xown, byt_e], by simp⟩ (by simpa using h10) (Nat.lt_of_lt_of_le hn (by decide)) (by omega)
  rw [show List.replicate 10 (AV.int .u8 0) = [.int .u8 0, .int .u8 0, .int .u8 0, .int .u8 0, .int .u8 0, .int .u8 0, .int .u8 0, .int .u8 0, .int .u8 0, .int .u8 0] from rfl] at e
  have hc : (UInt8.ofNat k).toNat = k := by rw [UInt8.toNat_ofNat']; omega
  obtain ⟨v', st2, e2, si2⟩ := wnf_app si (UInt8.ofNat k) (by omega)
  rw [numB_last (by omega), List.nil_append] at ea
  rw [hc] at e2
  rw [ea] at si2
  have w : wrapA .u8 (k : Int) = (k : Int) := by
    show ((Nat.mod k 256 : Nat) : Int) = _
    rw [show Nat.mod k 256 = k from Nat.mod_eq_of_lt (by omega)]
  obtain ⟨j, rfl, hj, hx, hle⟩ := si2
  have hpos : 0 < (numB n).length := List.length_pos_iff.2 (numB_ne n)
  refine row_ofP (byt (numB n)) (U := []) (K := []) (X := []) (fun _ o => gg.more o) (by simp) (by simp) 12 (.start h) wnf_code (by simp [wnf_fu]) (byt_plain _) ⟨_, rfl⟩ (L := byt (numB n) ++ List.replicate (10 - (numB n).length) (.int .u8 0)) ?_
  generalize numB n = u at *
  simp [wnf_fu, -xap_sl, replA, e, e0, w, e2, rowOut_sl, hx, hpos]
end
end Go.Proofs.YtjhgembcdndmkaaGreatDoor.St
