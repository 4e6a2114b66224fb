import Derived.Lib.LaidTab
import Derived.ProofKit
import Derived.OpenShut
import Derived.DataReads
import Derived.WideShapes
import Derived.Test.YtjhgembcdndmkaaGreatDoorSxC
/- THE WALK'S PARTS, part D: what the functions of the law compute, over the abstract machine that stands beside this text. No condition. -/
set_option linter.unusedSimpArgs false
set_option linter.unusedVariables false
namespace Go.Proofs.YtjhgembcdndmkaaGreatDoor.St
open Go Go.Proofs.YtjhgembcdndmkaaGreatDoor.Am Go.Proofs Go.RowKit
attribute [local simp] xr_mov xd_mov xr_pick xd_pick xr_bin xd_bin xr_un xd_un xr_build xr_convInt xd_convInt xr_mkFn xr_fld xd_fld xr_extract xr_lenS xr_lenL xd_lenL xr_nilPtr xd_nilPtr xr_load1 xd_load1 xr_loadN xd_loadN xr_bytesStr xd_bytesStr xr_eqPtr xr_new xr_box xr_buildSl xd_buildSl xd_strBytes xr_mkSl xr_idxAddrSl xd_idxAddrSl xr_idxStr xd_sliceSl orU_some orU_none lenSA_str lenSA_strOf lenLA_sl lenLA_nil xfn xcode xdrawn xr_nil xr_kg xr_kgu xr_call xr_store xr_append xd_append xap_sl xap_nl xapq_some xsrc_sl xsrc_nil xapp_nil xapp_grow xapp_room xset xown xnx_some xnp_some xnq_some xd_nil xdl_old xdl_new xda_some xd_call xd_kg xdn_some xld xal kindOf isAlloc allocs xins xrem xall xput xget xwhole xmine xcont xq xqs xres XS.add XR.out XR.outU XR.ups xsets XR.res Rs.seq Rs.inSc Rs.block mapO tupleA sv_args adv_eq tget eqs8 eqs7 eqi8 eqi7 eqg8 eql8 eqn8 eqn7 cells_strOf cells_int cells_agg cells_bool cells_str cells_sl cells_nil cells_ptr at_int at_str at_strOf at_bool at_sl at_nil at_ptr unstr_strOf unbyt_byt fill_nil fill_cons replA ev_tm ev_vl sv_stv bin_add bin_sub bin_mul bin_lss bin_leq bin_gtr bin_geq bin_eql bin_neq un_not nth0 nth1 nth2 xst_idxAddrSl xst_idxStr xst_sliceStr xst_sliceSl xsl_sl xbd slN Nat.testBit
def ArgV (v : AV) (l : List UInt8) : Prop := (v = .nilSl ∧ l = []) ∨ ∃ q cap, v = .sl q 0 0 l.length cap true 1 ∧ l.length ≤ cap
noncomputable def e_wopen : Ent := mkEnt 18 1 [.sl 0] (fun z_ : AV × (List UInt8) => [z_.1]) (fun z_ => [byt z_.2]) (fun z_ => z_.2.length ≤ 9000 ∧ ArgV z_.1 z_.2) (fun z_ => .outs [] (fun b => [byt z_.2 ++ [.int .u8 0], [.sl b 0 0 z_.2.length (z_.2.length + 1) true 1, int64 0]]) (fun b => .ptr (adv b 1) 0 0))
theorem f_wopen : e_wopen.f = 18 := rfl
theorem x_wopen {U : List Ent} {b : Pos} {st : XS} (hU : tget U 18 = some e_wopen) (v : AV) (l : List UInt8) (hp : l.length ≤ 9000 ∧ ArgV v l) (hq : xqs st.X [v] [.sl 0] = some [byt l]) (ho : ((.outs [] (fun b => [byt l ++ [.int .u8 0], [.sl b 0 0 l.length (l.length + 1) true 1, int64 0]]) (fun b => .ptr (adv b 1) 0 0) : XR).ups.all fun x => (xown st.X x.1 0).isSome) = true) : xcall U b 18 [v] st = none ∧ xupd U b 18 [v] st = some (XR.outU b st (.outs [] (fun b => [byt l ++ [.int .u8 0], [.sl b 0 0 l.length (l.length + 1) true 1, int64 0]]) (fun b => .ptr (adv b 1) 0 0))) :=
  xupd_at hU rfl hq (mkEnt_spec (by rintro ⟨a0, a1⟩ ⟨b0, b1⟩ h hc; simp only [List.cons.injEq, AV.agg.injEq, AV.tup.injEq, AV.int.injEq, AV.bool.injEq, AV.ptr.injEq, AV.sl.injEq, strOf_eq, byt_eq, map_strOf_eq, true_and, and_true, Int.natCast_inj] at h hc; simp [h, hc]) (v, l) hp) (by first | rfl | (split <;> rfl)) ho
theorem replA_eq {α : Type} (z : α) : ∀ (n : Nat) (acc : List α), replA n [z] acc = List.replicate n z ++ acc
  | 0, _ => rfl
  | n + 1, acc => by
    show replA n [z] ([z] ++ acc) = _
    rw [replA_eq z n, List.replicate_succ', List.append_assoc]
section
variable {m : Int} {t1 t2 : AV}
theorem wopen_ok : EntOK Tryz.prog (HasG m t1 t2) e_wopen := mkEnt_ok ok_wopen fun z h g hz hc => by
  obtain ⟨v, l⟩ := z
  obtain ⟨hl, hv⟩ : l.length ≤ 9000 ∧ ArgV v l := hz
  obtain ⟨_, _, e, ⟨_, ev, w⟩, _⟩ := hc
  cases e; cases ev
  dsimp only at *
  have w1 : wrapA .i64 ((l.length : Int) + 1) = (l.length : Int) + 1 := w64 (by omega) (by omega)
  rcases hv with ⟨rfl, rfl⟩ | ⟨q, cap, rfl, hcap⟩
  · refine outs_of [] _ _ [(adv h.next 0, 0), (adv h.next 1, 0)] (fun _ o => g.more o) (U := []) (K := []) (X := []) (by simp) (by simp) 0 (.start h) (by simp) wopen_code (by simp [wopen_fu]) (by simp) (by simp [adv_eq]) (w := .ptr (adv h.next 1) 0 0) (l1 := []) (l2 := [[.int .u8 0], [.sl (adv h.next 0) 0 0 0 1 true 1, int64 0]]) ?_ .nil ?_ ?_
    · have w0 : wrapA .i64 1 = 1 := w64 (by omega) (by omega)
      have RM := fun (st : XS) (id : Pos) => xapp_nil (b := h.next) (s := st) (es := 1) (bytes := 0) (n := 0) (c := []) (by omega) (by omega) rfl (by omega)
      simp [wopen_fu, owns, ownsG, xown, w0, replA, xap_nl, xapp_zero]
    · exact .cons (.self (by simp; rfl)) (.cons (.cons (.sl 0 rfl) (.cons (.plain rfl) .nil)) .nil)
    · exact .ptr 1 rfl
  · obtain ⟨L, kq, tq, aq⟩ := slc_at' w
    have oq := kq.old
    have hX : AllH [⟨q, 0, false, L⟩] h := by
      intro x mx
      simp only [List.mem_cons, List.not_mem_nil, or_false] at mx
      subst mx; assumption
    refine outs_of [] _ _ [(adv h.next 0, 0), (adv h.next 1, 0)] (fun _ o => g.more o) (U := []) (K := []) (X := [⟨q, 0, false, L⟩]) (by simp) (by simp) 0 (.startX h hX (by simp) (by simp)) (by simp) wopen_code (by simp [wopen_fu]) (by simp) (by simp [adv_eq]) (w := .ptr (adv h.next 1) 0 0) (l1 := []) (l2 := [byt l ++ [.int .u8 0], [.sl (adv h.next 0) 0 0 l.length (l.length + 1) true 1, int64 0]]) ?_ .nil ?_ ?_
    · have g1 := eq_true (show (0 : Int) ≤ (l.length : Int) + 1 by omega)
      have g2 := eq_true (show (l.length : Int) + 1 ≤ 1073741824 by omega)
      have hd : (List.replicate l.length (AV.int .u8 0) ++ [AV.int .u8 0]).drop l.length = [.int .u8 0] := by rw [List.drop_append, List.drop_eq_nil_of_le (by simp)]; simp
      by_cases n0 : l = []
      · subst n0
        simp [wopen_fu, owns, ownsG, xown, w64, replA, xapp_zero, byt_e, adv_nf oq, adv_fn oq]
      · have n0 : l.length ≠ 0 := fun c => n0 (List.length_eq_zero_iff.1 c)
        have RM := fun (st : XS) (id : Pos) => xapp_room (b := h.next) (s := st) (bytes := 0) (k := 0) (cap := l.length + 1) (n := l.length) (id := id) (c := byt l) (by omega) (byt_atoms _) (byt_length _) n0 (by omega)
        simp [wopen_fu, owns, ownsG, xown, w1, tq, aq, g1, g2, replA_eq, RM, hd, adv_nf oq, adv_fn oq]
    · exact .cons (.self fun y my => by
        rcases List.mem_append.1 my with q | q
        · obtain ⟨j, hj, rfl⟩ := List.getElem_of_mem q
          exact plain_byt _ j _ (List.getElem?_eq_getElem hj)
        · simp at q; subst q; rfl) (.cons (.cons (.sl 0 rfl) (.cons (.plain rfl) .nil)) .nil)
    · exact .ptr 1 rfl
end
end Go.Proofs.YtjhgembcdndmkaaGreatDoor.St

namespace Go.Proofs.YtjhgembcdndmkaaGreatDoor.St
open Go Go.Proofs.YtjhgembcdndmkaaGreatDoor.Am Go.Proofs Go.RowKit
attribute [local simp] xr_mov xd_mov xr_pick xd_pick xr_bin xd_bin xr_un xd_un xr_build xr_convInt xd_convInt xr_mkFn xr_fld xd_fld xr_extract xr_lenS xr_lenL xd_lenL xr_nilPtr xd_nilPtr xr_load1 xd_load1 xr_loadN xd_loadN xr_bytesStr xd_bytesStr xr_eqPtr xr_new xr_box xr_buildSl xd_buildSl xd_strBytes xr_mkSl xr_idxAddrSl xd_idxAddrSl xr_idxStr xd_sliceSl orU_some orU_none lenSA_str lenSA_strOf lenLA_sl lenLA_nil xfn xcode xdrawn xr_nil xr_kg xr_kgu xr_call xr_store xr_append xd_append xap_sl xap_nl xapq_some xsrc_sl xsrc_nil xapp_nil xapp_grow xapp_room xset xown xnx_some xnp_some xnq_some xd_nil xdl_old xdl_new xda_some xd_call xd_kg xdn_some xld xal kindOf isAlloc allocs xins xrem xall xput xget xwhole xmine xcont xq xqs xres XS.add XR.out XR.outU XR.ups xsets XR.res Rs.seq Rs.inSc Rs.block mapO tupleA sv_args adv_eq tget eqs8 eqs7 eqi8 eqi7 eqg8 eql8 eqn8 eqn7 cells_strOf cells_int cells_agg cells_bool cells_str cells_sl cells_nil cells_ptr at_int at_str at_strOf at_bool at_sl at_nil at_ptr unstr_strOf unbyt_byt fill_nil fill_cons replA ev_tm ev_vl sv_stv bin_add bin_sub bin_mul bin_lss bin_leq bin_gtr bin_geq bin_eql bin_neq un_not nth0 nth1 nth2 xst_idxAddrSl xst_idxStr xst_sliceStr xst_sliceSl xsl_sl xbd slN Nat.testBit
noncomputable def e_takes : Ent := mkEnt 4 2 [.sl 0] (fun z_ : AV × Int × (List UInt8) => [z_.1, int64 z_.2.1]) (fun z_ => [byt z_.2.2]) (fun z_ => ArgV z_.1 z_.2.2) (fun _ => .plain (.bool true))
theorem takeB (l : List UInt8) (x : AV) : (byt l ++ [x]).take l.length = byt l := by
  rw [List.take_append_of_le_length (by rw [byt_length]; exact Nat.le_refl _), byt_take]
noncomputable def tkK : List Ent := [e_known, e_wopen, e_wleft, e_wflag, e_wnum, e_tb, e_rtb, e_tn, e_rtn, e_tt, e_rtt, e_num, e_oleft]
theorem takes_inner (l : List UInt8) (hl : l.length ≤ 9000) (at' : Nat) (hat : at' ≤ l.length) (v : AV) (hv : lenLA v = some (int64 (l.length : Int))) (B p q : Pos) (hpq : p ≠ q) (h6 : (Pos.ofNat 6).num ≤ p.num) (n : Nat) (X0 : List XB) (k : Nat) :
    ∀ (fuel i a : Nat) (env : T AV), sv env 0 = v → sv env 1 = int64 (at' : Int) → sv env 6 = .ptr p 0 0 → sv env 7 = int64 (i : Int) → i ≤ at' → at' < fuel + i → a ≤ l.length →
    ∃ env' a', xloop (xcode Tryz.prog [] tkK B (k + 1) takes_0) fuel env ⟨n, ⟨p, 0, true, [.sl q 0 0 l.length (l.length + 1) true 1, int64 (a : Int)]⟩ :: ⟨q, 0, true, byt l ++ [.int .u8 0]⟩ :: X0⟩ = some (.exit 2, env', ⟨n, ⟨p, 0, true, [.sl q 0 0 l.length (l.length + 1) true 1, int64 ((a' : Nat) : Int)]⟩ :: ⟨q, 0, true, byt l ++ [.int .u8 0]⟩ :: X0⟩) ∧ a' ≤ l.length ∧
      sv env' 0 = v ∧ sv env' 1 = int64 (at' : Int) ∧ sv env' 5 = sv env 5 ∧ sv env' 6 = .ptr p 0 0
  | 0, i, a, env, _, _, _, _, hi, hf, _ => by omega
  | fuel + 1, i, a, env, e0, e1, e6, e7, hi, hf, ha => by
    unfold xloop
    have key := fun a env q0 q1 q6 q7 h1 ha => takes_inner l hl at' hat v hv B p q hpq h6 n X0 k fuel (i + 1) a env q0 q1 q6 q7 h1 (by omega) ha
    generalize xloop (xcode Tryz.prog [] tkK B (k + 1) takes_0) fuel = R at key ⊢
    by_cases c : i < at'
    · have c' := eq_true (show (i : Int) < (at' : Int) by omega)
      have w1 : wrapA .i64 ((l.length : Int) - (at' : Int)) = (l.length : Int) - (at' : Int) := w64 (by omega) (by omega)
      have w2 : wrapA .i64 ((i : Int) + 1) = (i : Int) + 1 := w64 (by omega) (by omega)
      have LF := fun {U b st} (hU : tget U 19 = some e_wleft) hq => x_wleft (U := U) (b := b) (st := st) hU p q l.length a ⟨ha, hl⟩ hq
      have FL := fun {U b st} (hU : tget U 20 = some e_wflag) hq ho => x_wflag (U := U) (b := b) (st := st) hU p q a l ⟨hpq, ha, hl, h6⟩ hq ho
      have hfa : (if flOk l a then a + 1 else a) ≤ l.length := by
        split
        · rename_i hf
          unfold flOk at hf
          split at hf
          · rename_i h2
            have := (List.getElem?_eq_some_iff.1 h2).1
            omega
          · cases hf
        · exact ha
      have NM := fun {U b st} (hU : tget U 21 = some e_wnum) hq ho => x_wnum (U := U) (b := b) (st := st) hU p q (if flOk l a then a + 1 else a) l ⟨hpq, hfa, hl, h6⟩ hq ho
      have K2 : ∀ {a1 : Nat}, a1 ≤ l.length → ∀ env2, sv env2 0 = v → sv env2 1 = int64 (at' : Int) → sv env2 6 = .ptr p 0 0 → sv env2 7 = int64 ((i : Int) + 1) → sv env2 5 = sv env 5 → ∃ env' a', R env2 ⟨n, ⟨p, 0, true, [.sl q 0 0 l.length (l.length + 1) true 1, int64 (a1 : Int)]⟩ :: ⟨q, 0, true, byt l ++ [.int .u8 0]⟩ :: X0⟩ = some (.exit 2, env', ⟨n, ⟨p, 0, true, [.sl q 0 0 l.length (l.length + 1) true 1, int64 ((a' : Nat) : Int)]⟩ :: ⟨q, 0, true, byt l ++ [.int .u8 0]⟩ :: X0⟩) ∧ a' ≤ l.length ∧
          sv env' 0 = v ∧ sv env' 1 = int64 (at' : Int) ∧ sv env' 5 = sv env 5 ∧ sv env' 6 = .ptr p 0 0 := fun h1 env2 z0 z1 z6 z7 z5 => by
        have := key _ env2 z0 z1 z6 z7 (by omega) h1
        rw [z5] at this
        exact this
      by_cases c2 : a < at'
      · have c2' := eq_true (show (l.length : Int) - (at' : Int) < ((l.length - a : Nat) : Int) by omega)
        simp [takes_0, tkK, e0, e1, e6, e7, hv, c', w1, w2, LF, FL, NM, f_wleft, f_wflag, f_wnum, f_known, f_wopen, hpq, hpq.symm, takeB, byt_length, byt_take, c2']
        exact K2 (numA_le hfa).2 _ (by simp [sv_stv, e0]) (by simp [sv_stv, e1]) (by simp [sv_stv, e6]) (by simp [sv_stv]) (by simp [sv_stv])
      · have c2' := eq_false (show ¬ (l.length : Int) - (at' : Int) < ((l.length - a : Nat) : Int) by omega)
        simp [takes_0, tkK, e0, e1, e6, e7, hv, c', w1, w2, LF, FL, NM, f_wleft, f_wflag, f_wnum, f_known, f_wopen, hpq, hpq.symm, takeB, byt_length, byt_take, c2']
        exact K2 ha _ (by simp [sv_stv, e0]) (by simp [sv_stv, e1]) (by simp [sv_stv, e6]) (by simp [sv_stv]) (by simp [sv_stv])
    · have c' := eq_false (show ¬ (i : Int) < (at' : Int) by omega)
      simp [takes_0, e0, e1, e6, e7, c']
      exact ⟨_, _, ⟨rfl, rfl⟩, ha, by simp [sv_stv, e0], by simp [sv_stv, e1], by simp [sv_stv], by simp [sv_stv, e6]⟩
theorem xcont_sl (X : List XB) (id : Pos) (g off n cap : Nat) (ex : Bool) (es : Nat) : xcont X (.sl id g off n cap ex es) = (xget X id g).bind fun l => if off + n * es ≤ l.length then some ((l.drop off).take (n * es)) else none := rfl
theorem adv_adv (b : Pos) (m : Nat) : ∀ n, adv (adv b m) n = adv b (m + n)
  | 0 => rfl
  | n + 1 => by show (adv (adv b m) n).succ = (adv b (m + n)).succ; rw [adv_adv b m n]
theorem form_tb (l : List UInt8) (a : Nat) : ∃ r s e, tbV l a = .tup [.agg [int64 r, strOf s], int64 e] := by
  unfold tbV
  split
  · exact ⟨_, _, _, rfl⟩
  · exact ⟨0, [], 4, rfl⟩
theorem form_tn (l : List UInt8) (a : Nat) : ∃ r s n e, tnV l a = .tup [.agg [int64 r, strOf s, int64 n], int64 e] := by
  unfold tnV
  split
  · exact ⟨_, _, _, _, rfl⟩
  · exact ⟨0, [], 0, 4, rfl⟩
theorem form_ts (l : List UInt8) (a : Nat) : ∃ g r s n i e, tsV l a = .tup [.agg [int64 g, int64 r, strOf s, int64 n, int64 i], int64 e] := by
  unfold tsV
  split
  · exact ⟨_, _, _, _, _, _, rfl⟩
  · exact ⟨0, 0, [], 0, 0, 4, rfl⟩
theorem takes_round (l : List UInt8) (hl : l.length ≤ 9000) (at' : Nat) (hat : at' ≤ l.length) (v : AV) (hv : lenLA v = some (int64 (l.length : Int))) (hn : lenN v = l.length) (hA : ArgV v l) (B : Pos) (h6 : ∀ j, (Pos.ofNat 6).num ≤ (adv B j).num) (hO : ∀ j, OdV (adv B j) v l) (hs : ∀ j g o l' Y, xcont (⟨adv B j, g, o, l'⟩ :: Y) v = xcont Y v) (n : Nat) (X0 : List XB) (hx : xcont X0 v = some (byt l)) (k : Nat) (hk : at' ≤ k) (w : Int) (hw : w = 0 ∨ w = 1 ∨ w = 2) (env : T AV)
    (e0 : sv env 0 = v) (e1 : sv env 1 = int64 (at' : Int)) (e5 : sv env 5 = int64 w) :
    ∃ env' n' X', xcode Tryz.prog [] tkK B (k + 1) takes_1 env ⟨n, X0⟩ = some (.upt [], env', ⟨n', X'⟩) ∧ xcont X' v = some (byt l) ∧ sv env' 0 = v ∧ sv env' 1 = int64 (at' : Int) ∧ sv env' 5 = int64 (w + 1) := by
  have OP := fun {U b st} (hU : tget U 18 = some e_wopen) hq => x_wopen (U := U) (b := b) (st := st) hU v l ⟨hl, hA⟩ hq
  have hpq : adv B (n + 1) ≠ adv B n := by rw [Ne, adv_eq]; omega
  obtain ⟨env1, a, e, ha, f0, f1, f5, f6⟩ := takes_inner l hl at' hat v hv B (adv B (n + 1)) (adv B n) hpq (h6 _) (n + 1 + 1) X0 k (k + 1) 0 0 (stv (stv (stv (stv (stv (stv (stv (stv env 36 (int64 w)) 37 (.bool true)) 40 v) 41 (.ptr (adv B (n + 1)) 0 0)) 6 (.ptr (adv B (n + 1)) 0 0)) 42 (.ptr (adv B (n + 1)) 0 0)) 43 (.bool false)) 7 (int64 0)) (by simp [sv_stv, e0]) (by simp [sv_stv, e1]) (by simp [sv_stv]) (by simp [sv_stv]) (by omega) (by omega) (by omega)
  rw [show sv (stv (stv (stv (stv (stv (stv (stv (stv env 36 (int64 w)) 37 (.bool true)) 40 v) 41 (.ptr (adv B (n + 1)) 0 0)) 6 (.ptr (adv B (n + 1)) 0 0)) 42 (.ptr (adv B (n + 1)) 0 0)) 43 (.bool false)) 7 (int64 0)) 5 = int64 w by simp [sv_stv, e5]] at f5
  have LF := fun {U b st} a (ha : a ≤ l.length) (hU : tget U 19 = some e_wleft) hq => x_wleft (U := U) (b := b) (st := st) hU (adv B (n + 1)) (adv B n) l.length a ⟨ha, hl⟩ hq
  have LF1 := fun {U b st} => LF (U := U) (b := b) (st := st) a ha
  have w1 : wrapA .i64 ((l.length : Int) - ((l.length - a : Nat) : Int)) = (a : Int) := by rw [w64 (by omega) (by omega)]; omega
  have OL := fun {U b st} a (ha : a ≤ l.length) (hU : tget U 28 = some e_oleft) hq => x_oleft (U := U) (b := b) (st := st) hU (adv B (n + 1 + 1)) v a ⟨by rw [hn]; exact ha, by rw [hn]; exact hl, by rw [hn]; exact hv⟩ hq
  rw [hn] at OL
  have hP : OdP (adv B (n + 1 + 1)) v a l := ⟨hO _, ha, hl, h6 _⟩
  have n2 : ∀ m : Nat, (m + 1 + 1 = m) = False := fun m => eq_false (by omega)
  have n3 : ∀ m : Nat, (m + 1 + 1 + 1 = m) = False := fun m => eq_false (by omega)
  have n4 : ∀ m : Nat, (m + 1 + 1 + 1 + 1 = m) = False := fun m => eq_false (by omega)
  have n5 : ∀ m : Nat, (m = m + 1 + 1) = False := fun m => eq_false (by omega)
  have n6 : ∀ m : Nat, (m = m + 1 + 1 + 1) = False := fun m => eq_false (by omega)
  have n7 : ∀ m : Nat, (m = m + 1 + 1 + 1 + 1) = False := fun m => eq_false (by omega)
  have hvc : v.cells = [v] := by rcases hA with ⟨rfl, _⟩ | ⟨q, cap, rfl, _⟩ <;> rfl
  unfold tkK at e
  rw [show ((0 : Nat) : Int) = 0 from rfl] at e
  rcases hw with rfl | rfl | rfl
  · have T := fun {U b st} (hU : tget U 22 = some e_tb) hq ho => x_tb (U := U) (b := b) (st := st) hU (adv B (n + 1)) (adv B n) a l ⟨hpq, ha, hl, h6 _⟩ hq ho
    have R := fun {U b st} (hU : tget U 23 = some e_rtb) hq ho => x_rtb (U := U) (b := b) (st := st) hU (adv B (n + 1 + 1)) v a l hP hq ho
    obtain ⟨_, s2, s3⟩ := tb_same (l := l) (a := a) ha
    rw [← s2, ← s3] at R
    have ha2 : (if tbOk l a = true then gbA l a else a) ≤ l.length := by split; exact (gbA_le ha).2; exact ha
    have LF2 := fun {U b st} => LF (U := U) (b := b) (st := st) _ ha2
    have OL2 := fun {U b st} => OL (U := U) (b := b) (st := st) _ ha2
    obtain ⟨r, s, er, fm⟩ := form_tb l a
    rw [fm] at T R
    generalize (if tbOk l a = true then gbA l a else a) = a2 at *
    simp [-xcont, takes_1, tkK, xcont_sl, XS.adds, atP, adv_adv, e0, e1, e5, hx, hs, OP, e, f0, f1, f5, f6, hv, LF1, w1, T, R, LF2, OL2, hvc, n2, n3, n4, n5, n6, n7, eqF2, x_num, f_num, f_wopen, f_known, f_wleft, f_wflag, f_wnum, f_tb, f_rtb, f_tn, f_rtn, f_tt, f_rtt, f_oleft, byt_length, byt_take, takeB]
    exact ⟨_, _, _, ⟨rfl, rfl, rfl⟩, by simp [-xcont, hs, hx], by simp [sv_stv, f0], by simp [sv_stv, f1], by simp [sv_stv, w64]⟩
  · have T := fun {U b st} (hU : tget U 24 = some e_tn) hq ho => x_tn (U := U) (b := b) (st := st) hU (adv B (n + 1)) (adv B n) a l ⟨hpq, ha, hl, h6 _⟩ hq ho
    have R := fun {U b st} (hU : tget U 25 = some e_rtn) hq ho => x_rtn (U := U) (b := b) (st := st) hU (adv B (n + 1 + 1)) v a l hP hq ho
    obtain ⟨_, s2, s3⟩ := tn_same (l := l) (a := a) ha
    rw [← s2, ← s3] at R
    have ha2 : (if tnOk l a = true then gnA l a else a) ≤ l.length := by split; exact (gnA_le ha).2; exact ha
    have LF2 := fun {U b st} => LF (U := U) (b := b) (st := st) _ ha2
    have OL2 := fun {U b st} => OL (U := U) (b := b) (st := st) _ ha2
    obtain ⟨r, s, nn, er, fm⟩ := form_tn l a
    rw [fm] at T R
    generalize (if tnOk l a = true then gnA l a else a) = a2 at *
    simp [-xcont, takes_1, tkK, xcont_sl, XS.adds, atP, adv_adv, e0, e1, e5, hx, hs, OP, e, f0, f1, f5, f6, hv, LF1, w1, T, R, LF2, OL2, hvc, n2, n3, n4, n5, n6, n7, eqF3, x_num, f_num, f_wopen, f_known, f_wleft, f_wflag, f_wnum, f_tb, f_rtb, f_tn, f_rtn, f_tt, f_rtt, f_oleft, byt_length, byt_take, takeB]
    exact ⟨_, _, _, ⟨rfl, rfl, rfl⟩, by simp [-xcont, hs, hx], by simp [sv_stv, f0], by simp [sv_stv, f1], by simp [sv_stv, w64]⟩
  · have T := fun {U b st} (hU : tget U 26 = some e_tt) hq ho => x_tt (U := U) (b := b) (st := st) hU (adv B (n + 1)) (adv B n) a l ⟨hpq, ha, hl, h6 _⟩ hq ho
    have R := fun {U b st} (hU : tget U 27 = some e_rtt) hq ho => x_rtt (U := U) (b := b) (st := st) hU (adv B (n + 1 + 1)) v a l hP hq ho
    obtain ⟨_, s2, s3⟩ := ts_same (l := l) (a := a) ha
    rw [← s2, ← s3] at R
    have ha2 : (if tsOk l a = true then gsA l a else a) ≤ l.length := by split; exact (gsA_le ha).2; exact ha
    have LF2 := fun {U b st} => LF (U := U) (b := b) (st := st) _ ha2
    have OL2 := fun {U b st} => OL (U := U) (b := b) (st := st) _ ha2
    obtain ⟨gg, r, s, nn, ii, er, fm⟩ := form_ts l a
    rw [fm] at T R
    generalize (if tsOk l a = true then gsA l a else a) = a2 at *
    simp [-xcont, takes_1, tkK, xcont_sl, XS.adds, atP, adv_adv, e0, e1, e5, hx, hs, OP, e, f0, f1, f5, f6, hv, LF1, w1, T, R, LF2, OL2, hvc, n2, n3, n4, n5, n6, n7, eqF5, x_num, f_num, f_wopen, f_known, f_wleft, f_wflag, f_wnum, f_tb, f_rtb, f_tn, f_rtn, f_tt, f_rtt, f_oleft, byt_length, byt_take, takeB]
    exact ⟨_, _, _, ⟨rfl, rfl, rfl⟩, by simp [-xcont, hs, hx], by simp [sv_stv, f0], by simp [sv_stv, f1], by simp [sv_stv, w64]⟩
end Go.Proofs.YtjhgembcdndmkaaGreatDoor.St

namespace Go.Proofs.YtjhgembcdndmkaaGreatDoor.St
open Go Go.Proofs.YtjhgembcdndmkaaGreatDoor.Am Go.Proofs
theorem known_closed : closed Tryz.prog 8 (globN Tryz.prog) = true := by kernel_rfl
theorem known_fn (h : Hp) : AmFn Tryz.prog 8 [] h (.bool true) h := closed_fn known_closed h
end Go.Proofs.YtjhgembcdndmkaaGreatDoor.St

namespace Go.Proofs.YtjhgembcdndmkaaGreatDoor.St
open Go Go.Proofs.YtjhgembcdndmkaaGreatDoor.Am Go.Proofs Go.RowKit
noncomputable def putP (φ : Phi) (p : Pos) (r : Nat × Int × Nat) : Phi := fun j k => if j = p ∧ k = 0 then some r else φ j k
theorem HR.place {P : Program} {φ : Phi} {h : Hp} {w : World} {r : Nat × Int × Nat} (hR : HR P φ h w) (hz : h.lim = 0) (he : h.heap = .e) (hp : (Pos.ofNat (globN P)).num ≤ h.next.num) (hr : r.1 < w.heap.size) : HR P (putP φ h.next r) ⟨.e, h.next.succ, h.ser, h.lim⟩ w := by
  have key : ∀ {id : Pos} {g : Nat} {x : Nat × Int × Nat}, putP φ h.next r id g = some x → (id = h.next ∧ x = r) ∨ φ id g = some x := fun {id g x} e => by
    unfold putP at e
    split at e
    · rename_i c; cases e; exact .inl ⟨c.1, rfl⟩
    · exact .inr e
  have nro : ∀ id, ¬ Nonro (⟨.e, h.next.succ, h.ser, h.lim⟩ : Hp) id := fun id ⟨x, e, _⟩ => by rw [T.get_e] at e; cases e
  refine ⟨fun id x e => (by rw [T.get_e] at e; cases e), fun id g x e => ?_, fun id x e => (by rw [T.get_e] at e; cases e), fun id g b s n id' g' s' n' _ _ => .inr ⟨nro _, nro _⟩, fun id g b s n e => ?_, fun g hg => ?_⟩
  · rcases key e with ⟨c, _⟩ | c
    · subst c; exact .inl (by rw [Pos.num_succ]; omega)
    · rcases hR.used _ _ _ c with q | ⟨q, _⟩
      · exact .inl (by show _ < h.next.succ.num; rw [Pos.num_succ]; omega)
      · exact absurd hz q
  · rcases key e with ⟨_, c⟩ | c
    · rw [← c] at hr; exact hr
    · exact hR.inb _ _ _ _ _ c
  · unfold putP
    rw [if_neg]
    · exact hR.glob g hg
    · rintro ⟨c, _⟩
      rw [Pos.num_ofNat] at hp
      have := congrArg Pos.num c
      rw [Pos.num_ofNat] at this
      omega
theorem HR.var {P : Program} {φ : Phi} {h : Hp} {w : World} {g : Nat} {l : List AV} {C : Array Value} {el : TypeId} {fr : Nat × Nat} (hR : HR P φ h w) (ho : AllRo h) (hz : h.lim = 0) (hn : (Pos.ofNat g).num < h.next.num) (hg : g < globN P) (hb : w.heap[g]? = some (.cells C el fr)) (hs : C.size = globSz g) (hr : RelL φ l C.toList) (hj : ∀ j, j ≠ 0 → φ (Pos.ofNat g) j = none) :
    HR P φ ⟨T.set (Pos.ofNat g) (some (tabB l)) h.heap, h.next, h.ser, h.lim⟩ w ∧ AllRo ⟨T.set (Pos.ofNat g) (some (tabB l)) h.heap, h.next, h.ser, h.lim⟩ := by
  have hget : ∀ id, T.get id (T.set (Pos.ofNat g) (some (tabB l)) h.heap) = if id = Pos.ofNat g then some (tabB l) else T.get id h.heap := fun id => T.get_set ..
  have ro : AllRo ⟨T.set (Pos.ofNat g) (some (tabB l)) h.heap, h.next, h.ser, h.lim⟩ := fun id ⟨x, e, q⟩ => by
    rw [hget] at e
    split at e
    · cases e
      have := q _ _ _ _ _ _ _ _ rfl
      cases this
    · exact ho id ⟨x, e, q⟩
  have hl : l.length = C.size := by have := hr.length; simpa using this
  refine ⟨⟨fun id x e => ?_, hR.used, fun id x e => ?_, fun id g y s n id' g' s' n' _ _ => .inr ⟨ro _, ro _⟩, hR.inb, hR.glob⟩, ro⟩
  · rw [hget] at e
    split at e
    · rename_i c
      cases e
      subst c
      refine ⟨⟨rfl, Nat.le_refl _, fun q => absurd q (Nat.lt_irrefl _), fun j hj' => hj j (by omega), fun j j' b1 s1 n1 s2 n2 k1 k2 k3 k4 e1 e2 => ?_, fun j k1 k2 => ?_⟩, fun _ _ _ _ _ _ _ _ _ _ _ => .inl rfl⟩
      · have : j = j' := by omega
        subst this
        rw [e1] at e2; cases e2; rfl
      · have : j = 0 := by omega
        subst this
        refine ⟨g, 0, globSz g, C, el, fr, hR.glob g hg, hb, hs, fun c => (by cases c), fun i v _ hi2 hv => ?_⟩
        have hv : l[i]? = some v := hv
        obtain ⟨x, hx, rx⟩ := hr.get hv
        exact ⟨i, x, by omega, by rw [← hx]; simp, rx⟩
    · exact hR.blk _ _ e
  · rw [hget] at e
    split at e
    · rename_i c
      subst c
      exact .inl hn
    · exact hR.dom _ _ e
noncomputable def gH (m : Int) (e1 e2 : AV) : Hp :=
  ⟨T.set (Pos.ofNat 3) (some (tabB (Lib.pow10Tab.map fun z => .int .u64 z))) (T.set (Pos.ofNat 2) (some (tabB [e2])) (T.set (Pos.ofNat 1) (some (tabB [e1])) (T.set (Pos.ofNat 0) (some (tabB [int64 m])) .e))), Pos.ofNat 6, 0, 0⟩
theorem gH_has (m : Int) {e1 e2 : AV} (h1 : ∃ t v, e1 = .ifc t v) (h2 : ∃ t v, e2 = .ifc t v) : HasG m e1 e2 (gH m e1 e2) := by
  have ne : ∀ i j : Nat, i ≠ j → Pos.ofNat i ≠ Pos.ofNat j := fun i j h c => by
    have := congrArg Pos.num c
    rw [Pos.num_ofNat, Pos.num_ofNat] at this; omega
  refine ⟨?_, ?_, ?_, ?_, h1, h2, Nat.le_refl _⟩ <;> unfold gH <;> simp only [T.get_set]
  · rw [if_neg (ne _ _ (by omega)), if_neg (ne _ _ (by omega)), if_neg (ne _ _ (by omega)), if_pos trivial]
  · rw [if_neg (ne _ _ (by omega)), if_neg (ne _ _ (by omega)), if_pos trivial]
  · rw [if_neg (ne _ _ (by omega)), if_pos trivial]
  · rw [if_pos trivial]
structure IsErr (w : World) (u : TypeId) (v : Value) (a : Addr) : Prop where
  val : v = .pointer (some a) ∨ v = .agg #[.pointer (some a)]
  spot : a.spot = none
  lies : a.block < w.heap.size
theorem IsErr.av {w : World} {u : TypeId} {v : Value} {a : Addr} (e : IsErr w u v a) (p : Pos) : ∃ x, (∃ t y, x = AV.ifc t y) ∧ ∀ φ, φ p 0 = some (a.block, (a.off : Int), 0) → Rel φ x (.iface u v) := by
  rcases e.val with rfl | rfl
  · exact ⟨.ifc u (.ptr p 0 0), ⟨_, _, rfl⟩, fun φ h => .ifc (.ptr h rfl (by simp) e.spot)⟩
  · exact ⟨.ifc u (.agg [.ptr p 0 0]), ⟨_, _, rfl⟩, fun φ h => .ifc (.agg (.cons (.ptr h rfl (by simp) e.spot) .nil))⟩
theorem start_has {W : World} {m : Int} {u1 u2 : TypeId} {v1 v2 : Value} {a1 a2 : Addr} {l0 l1 l2 l3 : TypeId} {f0 f1 f2 f3 : Nat × Nat} (hsz : 4 ≤ W.heap.size)
    (c0 : W.heap[0]? = some (.cells #[.int .i64 m] l0 f0)) (c1 : W.heap[1]? = some (.cells #[.iface u1 v1] l1 f1)) (c2 : W.heap[2]? = some (.cells #[.iface u2 v2] l2 f2)) (c3 : W.heap[3]? = some (.cells (Lib.pow10Tab.map fun z => Value.int .u64 z).toArray l3 f3))
    (i1 : IsErr W u1 v1 a1) (i2 : IsErr W u2 v2 a2) : ∃ φ e1 e2, HR Tryz.prog φ (gH m e1 e2) W ∧ AllRo (gH m e1 e2) ∧ HasG m e1 e2 (gH m e1 e2) := by
  have h0 : HR Tryz.prog (phi0 Tryz.prog) ⟨.e, Pos.ofNat 4, 0, 0⟩ W := start_rel (P := Tryz.prog) hsz
  have s4 : (Pos.ofNat 4).succ = Pos.ofNat 5 := by kernel_rfl
  have s5 : (Pos.ofNat 5).succ = Pos.ofNat 6 := by kernel_rfl
  have hA := HR.place h0 rfl rfl (by show (Pos.ofNat 4).num ≤ _; exact Nat.le_refl _) (r := (a1.block, (a1.off : Int), 0)) i1.lies
  have hB := HR.place hA rfl rfl (by show (Pos.ofNat 4).num ≤ (Pos.ofNat 4).succ.num; rw [Pos.num_succ]; omega) (r := (a2.block, (a2.off : Int), 0)) i2.lies
  obtain ⟨e1, k1, r1⟩ := i1.av (Pos.ofNat 4)
  obtain ⟨e2, k2, r2⟩ := i2.av (Pos.ofNat 5)
  have hne : Pos.ofNat 4 ≠ Pos.ofNat 5 := fun c => by
    have := congrArg Pos.num c
    rw [Pos.num_ofNat, Pos.num_ofNat] at this; omega
  have hB : HR Tryz.prog (putP (putP (phi0 Tryz.prog) (Pos.ofNat 4) (a1.block, (a1.off : Int), 0)) (Pos.ofNat 5) (a2.block, (a2.off : Int), 0)) ⟨.e, Pos.ofNat 6, 0, 0⟩ W := by rw [← s5, ← s4]; exact hB
  generalize hφ : putP (putP (phi0 Tryz.prog) (Pos.ofNat 4) (a1.block, (a1.off : Int), 0)) (Pos.ofNat 5) (a2.block, (a2.off : Int), 0) = φ at hB
  have q1 := r1 φ (by rw [← hφ]; unfold putP; rw [if_neg (fun c => hne c.1), if_pos ⟨rfl, rfl⟩])
  have q2 := r2 φ (by rw [← hφ]; unfold putP; rw [if_pos ⟨rfl, rfl⟩])
  have hj : ∀ g, ∀ j, j ≠ 0 → φ (Pos.ofNat g) j = none := fun g j h => by
    rw [← hφ]; unfold putP phi0
    rw [if_neg (fun c => h c.2), if_neg (fun c => h c.2), if_neg (fun c => h c.1)]
  have hn : ∀ g, g < 4 → (Pos.ofNat g).num < (Pos.ofNat 6).num := fun g h => by rw [Pos.num_ofNat, Pos.num_ofNat]; omega
  have ro0 : AllRo (⟨.e, Pos.ofNat 6, 0, 0⟩ : Hp) := fun id ⟨x, e, _⟩ => by rw [T.get_e] at e; cases e
  obtain ⟨d0, o0⟩ := HR.var hB ro0 rfl (hn 0 (by omega)) (show 0 < 4 by omega) c0 rfl (.cons (.int .i64 m) .nil) (hj 0)
  obtain ⟨d1, o1⟩ := HR.var d0 o0 rfl (hn 1 (by omega)) (show 1 < 4 by omega) c1 rfl (.cons q1 .nil) (hj 1)
  obtain ⟨d2, o2⟩ := HR.var d1 o1 rfl (hn 2 (by omega)) (show 2 < 4 by omega) c2 rfl (.cons q2 .nil) (hj 2)
  have hT : RelL φ (Lib.pow10Tab.map fun z => AV.int .u64 z) (Lib.pow10Tab.map fun z => Value.int .u64 z).toArray.toList := by
    generalize Lib.pow10Tab = L
    show RelL φ (L.map _) (L.map _)
    induction L with
    | nil => exact .nil
    | cons x L ih => exact .cons (.int _ _) ih
  obtain ⟨d3, o3⟩ := HR.var d2 o2 rfl (hn 3 (by omega)) (show 3 < 4 by omega) c3 rfl hT (hj 3)
  exact ⟨φ, e1, e2, d3, o3, gH_has m k1 k2⟩
theorem known_ok {m : Int} {t1 t2 : AV} : EntOK Tryz.prog (HasG m t1 t2) e_known := mkEnt_ok ok_known fun _ h _ _ _ => known_fn h
end Go.Proofs.YtjhgembcdndmkaaGreatDoor.St

namespace Go.Proofs.YtjhgembcdndmkaaGreatDoor.St
open Go Go.Proofs.YtjhgembcdndmkaaGreatDoor.Am Go.Proofs Go.RowKit
attribute [local simp] xr_mov xd_mov xr_pick xd_pick xr_bin xd_bin xr_un xd_un xr_build xr_convInt xd_convInt xr_mkFn xr_fld xd_fld xr_extract xr_lenS xr_lenL xd_lenL xr_nilPtr xd_nilPtr xr_load1 xd_load1 xr_loadN xd_loadN xr_bytesStr xd_bytesStr xr_eqPtr xr_new xr_box xr_buildSl xd_buildSl xd_strBytes xr_mkSl xr_idxAddrSl xd_idxAddrSl xr_idxStr xd_sliceSl orU_some orU_none lenSA_str lenSA_strOf lenLA_sl lenLA_nil xfn xcode xdrawn xr_nil xr_kg xr_kgu xr_call xr_store xr_append xd_append xap_sl xap_nl xapq_some xsrc_sl xsrc_nil xapp_nil xapp_grow xapp_room xset xown xnx_some xnp_some xnq_some xd_nil xdl_old xdl_new xda_some xd_call xd_kg xdn_some xld xal kindOf isAlloc allocs xins xrem xall xput xget xwhole xmine xcont xq xqs xres XS.add XR.out XR.outU XR.ups xsets XR.res Rs.seq Rs.inSc Rs.block mapO tupleA sv_args adv_eq tget eqs8 eqs7 eqi8 eqi7 eqg8 eql8 eqn8 eqn7 cells_strOf cells_int cells_agg cells_bool cells_str cells_sl cells_nil cells_ptr at_int at_str at_strOf at_bool at_sl at_nil at_ptr unstr_strOf unbyt_byt fill_nil fill_cons replA ev_tm ev_vl sv_stv bin_add bin_sub bin_mul bin_lss bin_leq bin_gtr bin_geq bin_eql bin_neq un_not nth0 nth1 nth2 xst_idxAddrSl xst_idxStr xst_sliceStr xst_sliceSl xsl_sl xbd slN Nat.testBit
theorem takes_loop (l : List UInt8) (hl : l.length ≤ 9000) (at' : Nat) (hat : at' ≤ l.length) (v : AV) (hv : lenLA v = some (int64 (l.length : Int))) (hn : lenN v = l.length) (hA : ArgV v l) (B : Pos) (h6 : ∀ j, (Pos.ofNat 6).num ≤ (adv B j).num) (hO : ∀ j, OdV (adv B j) v l) (hs : ∀ j g o l' Y, xcont (⟨adv B j, g, o, l'⟩ :: Y) v = xcont Y v) (X0 : List XB) (hx : xcont X0 v = some (byt l)) (k : Nat) (hk : at' ≤ k + 3) (env : T AV)
    (e0 : sv env 0 = v) (e1 : sv env 1 = int64 (at' : Int)) (e5 : sv env 5 = int64 0) :
    ∃ env' st', xloop (xcode Tryz.prog [] tkK B (k + 3 + 1) takes_1) (k + 3 + 1) env ⟨0, X0⟩ = some (.exit 0, env', st') := by
  obtain ⟨env1, n1, X1, r1, x1, p0, p1, p5⟩ := takes_round l hl at' hat v hv hn hA B h6 hO hs 0 X0 hx (k + 3) hk 0 (.inl rfl) env e0 e1 e5
  obtain ⟨env2, n2, X2, r2, x2, q0, q1, q5⟩ := takes_round l hl at' hat v hv hn hA B h6 hO hs n1 X1 x1 (k + 3) hk 1 (.inr (.inl rfl)) env1 p0 p1 p5
  obtain ⟨env3, n3, X3, r3, x3, s0, s1, s5⟩ := takes_round l hl at' hat v hv hn hA B h6 hO hs n2 X2 x2 (k + 3) hk 2 (.inr (.inr rfl)) env2 q0 q1 q5
  have e3 : ∃ env', xcode Tryz.prog [] tkK B (k + 3 + 1) takes_1 env3 ⟨n3, X3⟩ = some (.exit 0, env', ⟨n3, X3⟩) := by
    have s5 : sv env3 5 = int64 3 := s5
    simp [takes_1, s5]
  obtain ⟨env4, r4⟩ := e3
  unfold xloop
  rw [r1]
  dsimp only
  unfold xloop
  rw [r2]
  dsimp only
  unfold xloop
  rw [r3]
  dsimp only
  unfold xloop
  rw [r4]
  exact ⟨_, _, rfl⟩
section
variable {m : Int} {t1 t2 : AV}
theorem takes_ok : EntOK Tryz.prog (HasG m t1 t2) e_takes := mkEnt_ok ok_takes fun z h gg hz hc => by
  obtain ⟨v, at', l⟩ := z
  have hA : ArgV v l := hz
  have gm : ∀ h h', HasG m t1 t2 h → Only [] h h' → HasG m t1 t2 h' := fun _ _ g o => g.more o
  obtain ⟨_, _, e, ⟨_, ev, sc⟩, _⟩ := hc
  cases e; cases ev
  dsimp only at *
  have hlv : lenN v = l.length ∧ lenLA v = some (int64 (l.length : Int)) := by
    rcases hA with ⟨rfl, rfl⟩ | ⟨q, cap, rfl, _⟩ <;> exact ⟨rfl, rfl⟩
  have hX : ∃ X0, XI h.next [] h ⟨0, X0⟩ h ∧ xcont X0 v = some (byt l) ∧ (∀ j g o l' Y, xcont (⟨adv h.next j, g, o, l'⟩ :: Y) v = xcont Y v) ∧ ∀ j, OdV (adv h.next j) v l := by
    rcases hA with ⟨rfl, rfl⟩ | ⟨q, cap, rfl, hcap⟩
    · exact ⟨[], .start h, rfl, fun _ _ _ _ _ => rfl, fun _ => .inl ⟨rfl, rfl⟩⟩
    · obtain ⟨L, kq, tq, aq⟩ := slc_at' sc
      have oq := kq.old
      have hX : AllH [⟨q, 0, false, L⟩] h := by
        intro x mx
        simp only [List.mem_cons, List.not_mem_nil, or_false] at mx
        subst mx; assumption
      exact ⟨[⟨q, 0, false, L⟩], .startX h hX (by simp) (by simp), by simp [xcont, xget, tq, aq], fun j g o l' Y => by simp [xcont, xget, adv_nf oq], fun j => .inr ⟨q, cap, rfl, fun e => (of_eq_false (adv_fn oq j)) e, hcap⟩⟩
  obtain ⟨X0, hX, hx, hs, hO⟩ := hX
  have h6 : ∀ j, (Pos.ofNat 6).num ≤ (adv h.next j).num := fun j => by have := gg.old; rw [adv_num]; omega
  refine plain_ofX (U := []) (K := tkK) (fun _ o => gg.more o) (by simp) (by simp [tkK, known_ok.entK, wopen_ok.entK, (wleft_ok gm).entK, wflag_ok.entK, wnum_ok.entK, tb_ok.entK, rtb_ok.entK, tn_ok.entK, rtn_ok.entK, tt_ok.entK, rtt_ok.entK, num_ok.entK, (oleft_ok gm).entK]) (l.length + 3 + 1) hX takes_code (by simp [takes_fu]) rfl ?_
  have hll := hlv.2
  by_cases c1 : 9000 < l.length
  · have c1' := eq_true (show (9000 : Int) < (l.length : Int) by omega)
    simp [takes_fu, tkK, hll, c1', x_known, f_known]
  · have c1' := eq_false (show ¬ (9000 : Int) < (l.length : Int) by omega)
    by_cases c2 : at' < 0
    · simp [takes_fu, tkK, hll, c1', c2, x_known, f_known]
    · have c2' := eq_false c2
      by_cases c3 : (l.length : Int) < at'
      · simp [takes_fu, tkK, hll, c1', c2', c3, x_known, f_known]
      · obtain ⟨a, rfl⟩ : ∃ a : Nat, at' = a := ⟨at'.toNat, by omega⟩
        have c3' := eq_false c3
        obtain ⟨env', st', LP⟩ := takes_loop l (by omega) a (by omega) v hll hlv.1 hA h.next h6 hO hs X0 hx l.length (by omega) (stv (stv (stv (stv (stv (stv (stv (stv (stv (stv (stv (stv (stv (stv (stv (setArgs .e 0 [v, int64 (a : Int)]) 4 (.bool false)) 22 v) 23 (int64 (l.length : Int))) 24 (.bool false)) 25 (.bool false)) 26 (int64 (a : Int))) 27 (.bool false)) 28 (.bool false)) 29 (.bool false)) 30 (int64 (a : Int))) 31 v) 32 (int64 (l.length : Int))) 33 (.bool false)) 34 (.bool false)) 5 (int64 0)) (by simp [sv_stv, sv_args]) (by simp [sv_stv, sv_args]) (by simp [sv_stv])
        unfold tkK at LP
        simp [takes_fu, tkK, hll, c1', c2', c3', x_known, f_known, LP]
end
end Go.Proofs.YtjhgembcdndmkaaGreatDoor.St

namespace Go.Proofs.YtjhgembcdndmkaaGreatDoor.St
open Go Go.Proofs.YtjhgembcdndmkaaGreatDoor.Am Go.Proofs Go.RowKit
section
attribute [local irreducible] Tree
theorem fix_holds {h : Hp} {id : Pos} {L : List AV} (f : Fix h id L) : XB.Holds h ⟨id, 0, false, L⟩ := by
  obtain ⟨ho, ser, c, hi, m, ro, fz, e, hw, hl⟩ := f
  exact ⟨ho, ser, c, hi, m, ro, fz, e, hw, hl, fun q => by cases q⟩
theorem arg_bytes {P : Program} {h : Hp} {d : Nat} {t e : TypeId} {v : AV} {p0 : Pos} (hd : P.underlying t = some (.slice e)) (he : P.underlying e = some (.int .u8)) (hc : P.cellsOf e = 1) (a : Tree P h (d + 2) t [v]) (hz : ∃ ser c hi m ro fz, T.get p0 h.heap = some (.cells ser c 0 hi 0 m ro fz) ∧ c.wf ∧ p0.num < h.next.num) : ∃ v' l, (∀ φ x, Rel φ v x → Rel φ v' x) ∧ ArgV v' l ∧ SlC h v' (byt l) := by
  rcases a.of_slice hd with q | ⟨id, g, off, q⟩ | ⟨id, n, cap, L, q, hn, hw, fx, hL, hx⟩
  · cases q; exact ⟨.nilSl, [], fun _ _ r => r, .inl ⟨rfl, rfl⟩, .nil⟩
  · rw [hc] at q
    cases q
    obtain ⟨ser, c, hi, m, ro, fz, e1, e2, e3⟩ := hz
    refine ⟨.sl p0 0 0 0 0 true 1, [], fun φ x r => ?_, .inr ⟨p0, 0, rfl, Nat.le_refl _⟩, ?_⟩
    · cases r with
      | @sl _ _ _ _ _ _ _ _ _ _ _ c h hb hs hl hc hlc hx ho =>
        have : c = 0 := hx rfl
        subst this
        exact .sl0
      | sl0 => exact .sl0
    have k : XB.Holds h ⟨p0, 0, false, c.toL⟩ := ⟨e3, ser, c, hi, m, ro, fz, e1, e2, rfl, fun q => by cases q⟩
    exact .mk (off := 0) (n := 0) (es := 1) k (Nat.zero_le _)
  · rw [hc] at q
    cases q
    rw [hc, Nat.mul_one] at hL
    have key : ∀ (k : Nat), k ≤ cap → ∃ l : List UInt8, L.take k = byt l ∧ l.length = k := by
      intro k
      induction k with
      | zero => exact fun _ => ⟨[], rfl, rfl⟩
      | succ k ih =>
        intro hk
        obtain ⟨l, e1, e2⟩ := ih (by omega)
        have := hx k (by omega)
        rw [hc, Nat.mul_one] at this
        obtain ⟨x, e3, wf⟩ := this.of_int (d := d) he
        obtain ⟨b, e4⟩ := u8_of wf
        subst e4
        refine ⟨l ++ [b], ?_, by simp [e2]⟩
        rw [List.take_add, e1, e3, byt_app]; rfl
    obtain ⟨l, e1, e2⟩ := key n hn
    refine ⟨_, l, fun _ _ r => r, .inr ⟨id, cap, by rw [e2], by rw [e2]; exact hn⟩, ?_⟩
    have := SlC.mk (off := 0) (n := n) (es := 1) (cap := cap) (ex := true) (fix_holds fx) (by show 0 + n * 1 ≤ L.length; omega)
    rw [List.drop_zero, Nat.mul_one, e1] at this
    exact this
theorem tree44 : treeB Tryz.prog (0 + 3 + 1) 44 = true := by kernel_rfl
theorem takes_walk {H : Type} {enc : TypeId × Value → H} {W : World} {vb : Value} {d : DataW H} {p : List MemPlace} (hc : vb.cells.toList = [vb]) (h0 : DataW.Trod enc Tryz.prog W 0 (fun _ => true) true 44 vb d p) (hw : ∀ n ∈ d.weights Tryz.prog 44, n ≤ reachBytes) (at' : Int)
    {m : Int} {u1 u2 : TypeId} {v1 v2 : Value} {a1 a2 : Addr} {l0 l1 l2 l3 : TypeId} {f0 f1 f2 f3 : Nat × Nat} (hsz : 4 ≤ W.heap.size)
    (c0 : W.heap[0]? = some (.cells #[.int .i64 m] l0 f0)) (c1 : W.heap[1]? = some (.cells #[.iface u1 v1] l1 f1)) (c2 : W.heap[2]? = some (.cells #[.iface u2 v2] l2 f2)) (c3 : W.heap[3]? = some (.cells (Lib.pow10Tab.map fun z => Value.int .u64 z).toArray l3 f3))
    (i1 : IsErr W u1 v1 a1) (i2 : IsErr W u2 v2 a2) : Calls Tryz.prog 4 #[vb, .int .i64 at'] W fun e w' => e = .returned (.bool true) ∧ Below W.heap.size W w' := by
  obtain ⟨φ, e1, e2, hR, ro, hg⟩ := start_has hsz c0 c1 c2 c3 i1 i2
  obtain ⟨fuel, hf⟩ := h0
  obtain ⟨φ1, h1, l, r1, z1, o1, _, m1, s1, t1, _⟩ := open_treeT (0 + 3 + 1) fuel 44 _ _ tree44 hf hw _ _ hR rfl ro
  have hc' : RelL φ1 l [vb] := by rw [← hc]; exact s1
  have hg1 := hg.more m1
  match l, hc'.length with
  | [vs], _ =>
    obtain ⟨q1, q2, _⟩ := Cells.ofL_spec [int64 m]
    obtain ⟨v', l, hr, hA, sc⟩ := arg_bytes (d := 2) (p0 := Pos.ofNat 0) Tryz.underlying44 Tryz.underlying5 (by kernel_rfl) t1 ⟨_, _, _, _, _, _, hg1.max, q1, by have := hg1.old; rw [Pos.num_ofNat] at this ⊢; omega⟩
    have hf : AmFn Tryz.prog 4 [v', int64 at'] h1 (.bool true) h1 :=
      takes_ok.2 _ [byt l] _ _ hg1 rfl (mkEnt_spec (by
        rintro ⟨x0, x1, x2⟩ ⟨y0, y1, y2⟩ h hc
        simp only [List.cons.injEq, AV.int.injEq, byt_eq, true_and, and_true] at h hc
        simp [h, hc]) (v', at', l) hA) ⟨byt l, [], rfl, ⟨v', rfl, sc⟩, rfl⟩
    have hc2 : RelL φ1 [v', int64 at'] [vb, .int .i64 at'] := by
      cases hc' with
      | cons q _ => exact .cons (hr _ _ q) (.cons (.int _ _) .nil)
    refine (hf.calls r1 z1 (xs := #[vb, .int .i64 at']) hc2).mono fun e w' ⟨φ', z, q1, q2, q3, q4⟩ => ?_
    cases q2
    exact ⟨q1, q4.below o1⟩
end
end Go.Proofs.YtjhgembcdndmkaaGreatDoor.St

namespace Go.Proofs.YtjhgembcdndmkaaGreatDoor.St
open Go Go.Proofs.YtjhgembcdndmkaaGreatDoor.Am Go.Proofs Go.RowKit
theorem laid_mem {P : Program} {w : World} : ∀ {laid : List (String × DataW Unit)} {ps : List MemPlace}, DataW.LaidVars P w laid ps → ∀ x ∈ laid, ∃ g t cs fuel p, P.globalNamed x.1 = some g ∧ (P.globals[g]?).map (·.type) = some t ∧ w.var? P x.1 = some cs ∧
    DataW.trod (fun _ => ()) P w 0 (fun _ => true) false fuel t cs.toList = some (x.2, p)
  | [], _, _, x, m => by cases m
  | (n, d) :: r, ps, h, x, m => by
    obtain ⟨g, t, cs, fuel, p, q, h1, h2, h3, h4, h5, _⟩ := h
    rcases List.mem_cons.1 m with rfl | m
    · exact ⟨g, t, cs, fuel, p, h1, h2, h3, h4⟩
    · exact laid_mem h5 x m
theorem var_cells {P : Program} {w : World} {n : String} {g : Nat} {cs : Array Value} (hg : P.globalNamed n = some g) (hv : w.var? P n = some cs) : ∃ el fr, w.heap[g]? = some (.cells cs el fr) := by
  unfold World.var? at hv
  rw [hg, Option.bind_some] at hv
  split at hv
  · rename_i C el fr h
    cases hv
    exact ⟨el, fr, h⟩
  · cases hv
theorem nil_lit {P : Program} {w : World} {fuel : Nat} {t : TypeId} {x : Lit} {p : List MemPlace} (h : DataW.trod (fun _ => ()) P w 0 (fun _ => true) false fuel t [] = some (.lit x, p)) : False := by
  cases fuel with
  | zero => cases h
  | succ fuel =>
    unfold DataW.trod at h
    split at h <;> first | contradiction | skip
    all_goals (split at h <;> first | (cases h; done) | (obtain ⟨_, _, q⟩ := Option.map_eq_some_iff.1 h; cases q; done))
theorem some_cells {P : Program} {w : World} {fuel : Nat} {t : TypeId} {c : List Value} {x : Lit} {p : List MemPlace} (h : DataW.trod (fun _ => ()) P w 0 (fun _ => true) false fuel t c = some (.agg [.lit x], p)) : c ≠ [] := by
  rintro rfl
  cases fuel with
  | zero => cases h
  | succ fuel =>
    unfold DataW.trod at h
    split at h <;> first | contradiction | skip
    · split at h
      · obtain ⟨xs, q, e⟩ := Option.map_eq_some_iff.1 h
        simp only [Prod.mk.injEq, DataW.agg.injEq] at e
        cases xs with
        | nil => cases e.1
        | cons y ys =>
          rename_i fs _ _
          have hl := mapM_some_length q
          have : 0 < fs.toList.length := by rw [← hl]; simp
          have q0 := mapM_some_get q 0 fs.toList[0] (by rw [List.getElem?_eq_getElem this])
          obtain ⟨e1, _⟩ := e
          simp only [List.map_cons, List.cons.injEq] at e1
          obtain ⟨y1, y2⟩ := y
          obtain ⟨rfl, _⟩ := e1
          simp only [List.drop_nil, List.take_nil, List.getElem?_cons_zero] at q0
          exact nil_lit q0
      · cases h
    · split at h
      · obtain ⟨xs, q, e⟩ := Option.map_eq_some_iff.1 h
        simp only [Prod.mk.injEq, DataW.agg.injEq] at e
        cases xs with
        | nil => cases e.1
        | cons y ys =>
          rename_i n _ _ _
          have hl := mapM_some_length q
          have : 0 < (List.range n).length := by rw [← hl]; simp
          have q0 := mapM_some_get q 0 (List.range n)[0] (by rw [List.getElem?_eq_getElem this])
          obtain ⟨e1, _⟩ := e
          simp only [List.map_cons, List.cons.injEq] at e1
          obtain ⟨y1, y2⟩ := y
          obtain ⟨rfl, _⟩ := e1
          simp only [List.drop_nil, List.take_nil, List.getElem?_cons_zero] at q0
          exact nil_lit q0
      · cases h
theorem ptr_told {P : Program} {w : World} {fuel : Nat} {t : TypeId} {c : List Value} {x : Lit} {p : List MemPlace} (h : DataW.trod (fun _ => ()) P w 0 (fun _ => true) false fuel t c = some (.ptr (.agg [.lit x]), p)) : ∃ a, c = [.pointer (some a)] ∧ a.spot = none ∧ a.block < w.heap.size := by
  cases fuel with
  | zero => cases h
  | succ fuel =>
    unfold DataW.trod at h
    split at h <;> first | (cases h; done) | skip
    case h_6 =>
      rename_i e a _
      obtain ⟨y, q, e1⟩ := Option.map_eq_some_iff.1 h
      obtain ⟨l, q1, q2⟩ := Option.bind_eq_some_iff.1 q
      obtain ⟨y1, y2⟩ := y
      cases e1
      have hne := some_cells q2
      unfold World.cells? at q1
      split at q1
      · have hl := mapM_some_length q1
        have hpos : 0 < (List.range (P.cellsOf e)).length := by rw [← hl]; exact List.length_pos_iff.2 hne
        have q0 := mapM_some_get q1 0 (List.range (P.cellsOf e))[0] (by rw [List.getElem?_eq_getElem hpos])
        have hl0 : 0 < l.length := List.length_pos_iff.2 hne
        rw [List.getElem?_eq_getElem hl0] at q0
        refine ⟨a, rfl, ?_⟩
        have ha : a.add (List.range (P.cellsOf e))[0] = a := by rw [List.getElem_range]; rfl
        rw [ha] at q0
        unfold World.cell? at q0
        split at q0
        · rename_i hc
          have hb := (Array.getElem?_eq_some_iff.1 hc).1
          split at q0
          · cases q0
          · rename_i hs
            refine ⟨?_, hb⟩
            cases hz : a.spot with
            | none => rfl
            | some _ => rw [hz] at hs; exact absurd rfl hs
        · cases q0
      · cases q1
    all_goals (try (split at h))
    all_goals (first | (cases h; done) | (obtain ⟨_, _, q⟩ := Option.map_eq_some_iff.1 h; cases q; done) | (obtain ⟨_, _, q⟩ := Option.bind_eq_some_iff.1 h; obtain ⟨_, _, q⟩ := Option.map_eq_some_iff.1 q; cases q; done) | (split at h; (obtain ⟨_, _, q⟩ := Option.bind_eq_some_iff.1 h; dsimp only at q; split at q <;> cases q); cases h; done) | skip)
theorem iface_told {P : Program} {w : World} {n : String} {g : Nat} {cs : Array Value} {t : TypeId} {fuel : Nat} {nm : String} {x : Lit} {p : List MemPlace} {ms : Array (String × TypeId)} (hg : P.globalNamed n = some g) (hv : w.var? P n = some cs)
    (ht : P.underlying t = some (.interface ms)) (h : DataW.trod (fun _ => ()) P w 0 (fun _ => true) false fuel t cs.toList = some (.iface nm (.ptr (.agg [.lit x])), p)) : ∃ u v a el fr, w.heap[g]? = some (.cells #[.iface u v] el fr) ∧ IsErr w u v a := by
  obtain ⟨el, fr, hc⟩ := var_cells hg hv
  have key : ∃ u v, cs.toList = [.iface u v] ∧ ∃ q, DataW.trod (fun _ => ()) P w 0 (fun _ => true) false (fuel - 1) u v.cells.toList = some (.ptr (.agg [.lit x]), q) := by
    cases fuel with
    | zero => cases h
    | succ fuel =>
      unfold DataW.trod at h
      rw [ht] at h
      generalize cs.toList = l at h
      cases l with
      | nil => cases h
      | cons y r => cases r with
        | cons z r => cases y <;> cases h
        | nil =>
          cases y <;> first | (cases h; done) | skip
          rename_i u v
          simp only at h
          cases hn : P.typeName? 3 u with
          | none => rw [hn] at h; cases h
          | some nn =>
            rw [hn] at h
            obtain ⟨⟨y1, y2⟩, q, e1⟩ := Option.map_eq_some_iff.1 h
            cases e1
            exact ⟨u, v, rfl, y2, q⟩
  obtain ⟨u, v, e, q, k⟩ := key
  obtain ⟨a, k1, k2, k3⟩ := ptr_told k
  have ec : cs = #[.iface u v] := by rw [← Array.toList_inj]; exact e
  subst ec
  refine ⟨u, v, a, el, fr, hc, ?_, k2, k3⟩
  cases v <;> first | (cases k1; exact .inl rfl) | (right; congr 1; rw [← Array.toList_inj]; exact k1) | (exfalso; cases k1; done)
end Go.Proofs.YtjhgembcdndmkaaGreatDoor.St
