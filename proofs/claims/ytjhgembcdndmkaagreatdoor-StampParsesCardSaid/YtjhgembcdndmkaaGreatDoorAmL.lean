import Derived.Test.YtjhgembcdndmkaaGreatDoorAmK
/- THE ABSTRACT MACHINE, part L: a machine over values without block numbers, and the proof that the model's machine does what it does. No condition. -/
set_option linter.unusedSimpArgs false
set_option linter.unusedVariables false
namespace Go.Proofs.YtjhgembcdndmkaaGreatDoor.Am
open Go.RowKit
noncomputable def stv (env : T AV) (d : Nat) (v : AV) : T AV := T.set (Pos.ofNat d) (some v) env
theorem sv_stv (env : T AV) (m n : Nat) (v : AV) : sv (stv env m v) n = if n = m then v else sv env n := sv_set env m n v
noncomputable def xnx (P : Program) (K : List Ent) (b : Pos) (l : List O) (env : T AV) (d : Nat) (s : XS) : Option AV → Option (T AV × XS)
  | some v => xrun P K b l (stv env d v) s
  | none => none
noncomputable def xnp (P : Program) (K : List Ent) (b : Pos) (l : List O) (env : T AV) (d : Nat) : Option (AV × XS) → Option (T AV × XS)
  | some p => xrun P K b l (stv env d p.1) p.2
  | none => none
noncomputable def xnq (P : Program) (K : List Ent) (b : Pos) (l : List O) (env : T AV) : Option (AV × XS) → Option (T AV × XS)
  | some p => xrun P K b l env p.2
  | none => none
noncomputable def lenSA : AV → Option AV
  | .str n _ => some (.int .i64 (n : Int))
  | _ => none
theorem lenSA_str (n v : Nat) : lenSA (.str n v) = some (.int .i64 (n : Int)) := rfl
theorem lenSA_strOf (u : List UInt8) : lenSA (strOf u) = some (.int .i64 (u.length : Int)) := rfl
noncomputable def lenLA : AV → Option AV
  | .sl _ _ _ n _ _ _ => some (.int .i64 (n : Int))
  | .nilSl => some (.int .i64 0)
  | _ => none
theorem lenLA_sl (id : Pos) (g o n c : Nat) (e : Bool) (k : Nat) : lenLA (.sl id g o n c e k) = some (.int .i64 (n : Int)) := rfl
theorem lenLA_nil : lenLA .nilSl = some (.int .i64 0) := rfl
section
variable {P : Program} {U K : List Ent} {b : Pos} {l : List O} {env : T AV} {s : XS} {d g m i rid am : Nat} {w fin : Bool} {X0 : List XB} {pend : List (Nat × XB)}
theorem xnx_some (v : AV) : xnx P K b l env d s (some v) = xrun P K b l (stv env d v) s := rfl
theorem xnp_some (v : AV) (s' : XS) : xnp P K b l env d (some (v, s')) = xrun P K b l (stv env d v) s' := rfl
theorem xnq_some (v : AV) (s' : XS) : xnq P K b l env (some (v, s')) = xrun P K b l env s' := rfl
theorem xr_nil : xrun P K b [] env s = some (env, s) := rfl
theorem xr_still {o : AOp} (h : kindOf o = .still) : xrun P K b (k d o m :: l) env s = xnx P K b l env d s (xst P env o) := by
  show (match xop P K b env s o with
    | some p => xrun P K b l (setD env (some (Pos.ofNat d)) p.1) p.2
    | none => none) = _
  unfold xop
  rw [h]
  show (match (xst P env o).map fun v => (v, s) with | some p => xrun P K b l (setD env (some (Pos.ofNat d)) p.1) p.2 | none => none) = _
  cases xst P env o <;> rfl
theorem xr_load {o : AOp} (h : kindOf o = .load) : xrun P K b (k d o m :: l) env s = xnx P K b l env d s (xld s.X env o) := by
  show (match xop P K b env s o with
    | some p => xrun P K b l (setD env (some (Pos.ofNat d)) p.1) p.2
    | none => none) = _
  unfold xop
  rw [h]
  show (match (xld s.X env o).map fun v => (v, s) with | some p => xrun P K b l (setD env (some (Pos.ofNat d)) p.1) p.2 | none => none) = _
  cases xld s.X env o <;> rfl
theorem xr_alloc {o : AOp} (h : kindOf o = .alloc) : xrun P K b (k d o m :: l) env s = xnp P K b l env d ((xal env (adv b s.n) o).map fun p => (p.1, s.add b p.2)) := by
  show (match xop P K b env s o with
    | some p => xrun P K b l (setD env (some (Pos.ofNat d)) p.1) p.2
    | none => none) = _
  unfold xop
  rw [h]
  show (match (xal env (adv b s.n) o).map fun p => (p.1, s.add b p.2) with | some p => xrun P K b l (setD env (some (Pos.ofNat d)) p.1) p.2 | none => none) = _
  cases (xal env (adv b s.n) o).map fun p => (p.1, s.add b p.2) <;> rfl
theorem xr_kg {o : AOp} {x : Bool} (h : sv env g = .bool x) : xrun P K b (kg d g w o m :: l) env s = if x = w then xrun P K b (k d o m :: l) env s else xrun P K b l (stv env d .undef) s := by
  have e : wantedA (kg d g w o m) env = (if w = true then x else !x) := by rw [wanted_sv, h]; cases w <;> rfl
  show (if wantedA (kg d g w o m) env = true then (match xop P K b env s o with
    | some p => xrun P K b l (setD env (some (Pos.ofNat d)) p.1) p.2
    | none => none) else xrun P K b l (setD env (some (Pos.ofNat d)) .undef) s) = _
  rw [e]
  cases x <;> cases w <;> rfl
theorem xr_kh {o : AOp} {x : Bool} (h : sv env g = .bool x) : xrun P K b (kh g w o m :: l) env s = if x = w then xrun P K b (kn o m :: l) env s else xrun P K b l env s := by
  have e : wantedA (kh g w o m) env = (if w = true then x else !x) := by rw [wanted_sv, h]; cases w <;> rfl
  show (if wantedA (kh g w o m) env = true then (match xop P K b env s o with
    | some p => xrun P K b l (setD env none p.1) p.2
    | none => none) else xrun P K b l (setD env none .undef) s) = _
  rw [e]
  cases x <;> cases w <;> rfl
theorem xr_call {f : Opd} {args : List Opd} : xrun P K b (k d (.call (.value f) args) m :: l) env s = xnp P K b l env d (match ev env f with
    | .fn (.func g) fi ca => xcall K b g (fi ++ (args.map (ev env) ++ ca)) s
    | _ => none) := by
  show (match (match ev env f with
    | .fn (.func g) fi ca => xcall K b g (fi ++ (args.map (ev env) ++ ca)) s
    | _ => none) with
    | some p => xrun P K b l (setD env (some (Pos.ofNat d)) p.1) p.2
    | none => none) = _
  split <;> rename_i h
  · rw [h]; rfl
  · rw [h]; rfl
theorem xr_callN {f : Opd} {args : List Opd} : xrun P K b (kn (.call (.value f) args) m :: l) env s = xnq P K b l env (match ev env f with
    | .fn (.func g) fi ca => xcall K b g (fi ++ (args.map (ev env) ++ ca)) s
    | _ => none) := by
  show (match (match ev env f with
    | .fn (.func g) fi ca => xcall K b g (fi ++ (args.map (ev env) ++ ca)) s
    | _ => none) with
    | some p => xrun P K b l (setD env none p.1) p.2
    | none => none) = _
  split <;> rename_i h
  · rw [h]; rfl
  · rw [h]; rfl
theorem xr_store {n : Nat} {a x : Opd} : xrun P K b (kn (.store n a x) m :: l) env s = xnq P K b l env (if (ev env x).cells.length = n ∧ 0 < n ∧ (ev env x).cells.all AV.atom = true then (match ev env a with
    | .ptr id 0 off => (xput s.X id off (ev env x).cells).map fun X => (.undef, ⟨s.n, X⟩)
    | _ => none) else none) := by
  show (match xact K b env s (.store n a x) with
    | some p => xrun P K b l (setD env none p.1) p.2
    | none => none) = _
  unfold xnq
  rfl
theorem xr_append {es bytes : Nat} {x y : Opd} : xrun P K b (k d (.append es bytes x y) m :: l) env s = xnp P K b l env d (xap b s es bytes (ev env x) (ev env y)) := by
  show (match xap b s es bytes (ev env x) (ev env y) with
    | some p => xrun P K b l (setD env (some (Pos.ofNat d)) p.1) p.2
    | none => none) = _
  cases xap b s es bytes (ev env x) (ev env y) <;> rfl
theorem xst_mov (x : Opd) : xst P env (.mov x) = (some (ev env x)) := by
  first | rfl | (unfold xst xst0 evalOp; dsimp only; generalize binA _ _ _ _ _ = r; cases r <;> rfl) | (unfold xst xst0 evalOp; dsimp only; generalize unA _ _ = r; cases r <;> rfl) | (unfold xst xst0 evalOp; dsimp only; generalize fillA _ _ _ = r; cases r <;> rfl)
theorem xst_pick (c x y : Opd) : xst P env (.pick c x y) = (match ev env c with | .bool true => some (ev env x) | .bool false => some (ev env y) | _ => none) := by
  first | rfl | (unfold xst xst0 evalOp; dsimp only; generalize ev env c = v; cases v <;> first | rfl | (rename_i q; cases q <;> rfl) | (simp only [natK_eq, intK_eq]; done) | (simp only [natK_eq, intK_eq]; rfl) | (rename_i q _ _; cases q <;> rfl) | (dsimp only; generalize nth _ _ = r; cases r <;> rfl))
theorem xst_bin (op : BinOp) (kd : EK) (no : Bool) (x y : Opd) : xst P env (.bin op kd no x y) = (binA op kd no (ev env x) (ev env y)) := by
  first | rfl | (unfold xst xst0 evalOp; dsimp only; generalize binA _ _ _ _ _ = r; cases r <;> rfl) | (unfold xst xst0 evalOp; dsimp only; generalize unA _ _ = r; cases r <;> rfl) | (unfold xst xst0 evalOp; dsimp only; generalize fillA _ _ _ = r; cases r <;> rfl)
theorem xst_un (op : UnOp) (x : Opd) : xst P env (.un op x) = (unA op (ev env x)) := by
  first | rfl | (unfold xst xst0 evalOp; dsimp only; generalize binA _ _ _ _ _ = r; cases r <;> rfl) | (unfold xst xst0 evalOp; dsimp only; generalize unA _ _ = r; cases r <;> rfl) | (unfold xst xst0 evalOp; dsimp only; generalize fillA _ _ _ = r; cases r <;> rfl)
theorem xst_build (z : List AV) (p : List (Nat × Nat × Opd)) : xst P env (.build z p) = ((fillA env z p).map .agg) := by
  first | rfl | (unfold xst xst0 evalOp; dsimp only; generalize binA _ _ _ _ _ = r; cases r <;> rfl) | (unfold xst xst0 evalOp; dsimp only; generalize unA _ _ = r; cases r <;> rfl) | (unfold xst xst0 evalOp; dsimp only; generalize fillA _ _ _ = r; cases r <;> rfl)
theorem xst_convInt (kk : IntKind) (x : Opd) : xst P env (.convInt kk x) = (match ev env x with | .int _ n => some (.int kk (wrapA kk n)) | _ => none) := by
  first | rfl | (unfold xst xst0 evalOp; dsimp only; generalize ev env x = v; cases v <;> first | rfl | (rename_i q; cases q <;> rfl) | (simp only [natK_eq, intK_eq]; done) | (simp only [natK_eq, intK_eq]; rfl) | (rename_i q _ _; cases q <;> rfl) | (dsimp only; generalize nth _ _ = r; cases r <;> rfl))
theorem xst_mkIfc (t : TypeId) (x : Opd) : xst P env (.mkIfc t x) = (some (.ifc t (ev env x))) := by
  first | rfl | (unfold xst xst0 evalOp; dsimp only; generalize binA _ _ _ _ _ = r; cases r <;> rfl) | (unfold xst xst0 evalOp; dsimp only; generalize unA _ _ = r; cases r <;> rfl) | (unfold xst xst0 evalOp; dsimp only; generalize fillA _ _ _ = r; cases r <;> rfl)
theorem xst_mkFn (f : Fn) (x y : List Opd) : xst P env (.mkFn f x y) = (some (.fn f (x.map (ev env)) (y.map (ev env)))) := by
  first | rfl | (unfold xst xst0 evalOp; dsimp only; generalize binA _ _ _ _ _ = r; cases r <;> rfl) | (unfold xst xst0 evalOp; dsimp only; generalize unA _ _ = r; cases r <;> rfl) | (unfold xst xst0 evalOp; dsimp only; generalize fillA _ _ _ = r; cases r <;> rfl)
theorem xst_fld (off : Nat) (x : Opd) : xst P env (.fieldAddr off x) = (match ev env x with | .ptr id g o => some (.ptr id g (o + off)) | _ => none) := by
  first | rfl | (unfold xst xst0 evalOp; dsimp only; generalize ev env x = v; cases v <;> first | rfl | (rename_i q; cases q <;> rfl) | (simp only [natK_eq, intK_eq]; done) | (simp only [natK_eq, intK_eq]; rfl) | (rename_i q _ _; cases q <;> rfl) | (dsimp only; generalize nth _ _ = r; cases r <;> rfl))
theorem xst_part1 (off : Nat) (x : Opd) : xst P env (.part1 off x) = (match ev env x with | .agg l => nth l off | _ => none) := by
  first | rfl | (unfold xst xst0 evalOp; dsimp only; generalize ev env x = v; cases v <;> first | rfl | (rename_i q; cases q <;> rfl) | (simp only [natK_eq, intK_eq]; done) | (simp only [natK_eq, intK_eq]; rfl) | (rename_i q _ _; cases q <;> rfl) | (dsimp only; generalize nth _ _ = r; cases r <;> rfl))
theorem xst_partN (off n : Nat) (x : Opd) : xst P env (.partN off n x) = (match ev env x with | .agg l => some (.agg ((l.drop off).take n)) | _ => none) := by
  first | rfl | (unfold xst xst0 evalOp; dsimp only; generalize ev env x = v; cases v <;> first | rfl | (rename_i q; cases q <;> rfl) | (simp only [natK_eq, intK_eq]; done) | (simp only [natK_eq, intK_eq]; rfl) | (rename_i q _ _; cases q <;> rfl) | (dsimp only; generalize nth _ _ = r; cases r <;> rfl))
theorem xst_extract (x : Opd) (j : Nat) : xst P env (.extract x j) = (match ev env x with | .tup l => nth l j | _ => none) := by
  first | rfl | (unfold xst xst0 evalOp; dsimp only; generalize ev env x = v; cases v <;> first | rfl | (rename_i q; cases q <;> rfl) | (simp only [natK_eq, intK_eq]; done) | (simp only [natK_eq, intK_eq]; rfl) | (rename_i q _ _; cases q <;> rfl) | (dsimp only; generalize nth _ _ = r; cases r <;> rfl))
theorem xst_lenS (x : Opd) : xst P env (.lenS x) = (lenSA (ev env x)) := by
  first | rfl | (unfold xst xst0 evalOp; dsimp only; generalize ev env x = v; cases v <;> first | rfl | (rename_i q; cases q <;> rfl) | (simp only [natK_eq, intK_eq]; done) | (simp only [natK_eq, intK_eq]; rfl) | (rename_i q _ _; cases q <;> rfl) | (dsimp only; generalize nth _ _ = r; cases r <;> rfl))
theorem xst_lenL (x : Opd) : xst P env (.lenL x) = (lenLA (ev env x)) := by
  first | rfl | (unfold xst xst0 evalOp; dsimp only; generalize ev env x = v; cases v <;> first | rfl | (rename_i q; cases q <;> rfl) | (simp only [natK_eq, intK_eq]; done) | (simp only [natK_eq, intK_eq]; rfl) | (rename_i q _ _; cases q <;> rfl) | (dsimp only; generalize nth _ _ = r; cases r <;> rfl))
theorem xst_lenArr (n : Nat) : xst P env (.lenArr n) = (some (.int .i64 (n : Int))) := by
  first | rfl | (unfold xst xst0 evalOp; dsimp only; generalize binA _ _ _ _ _ = r; cases r <;> rfl) | (unfold xst xst0 evalOp; dsimp only; generalize unA _ _ = r; cases r <;> rfl) | (unfold xst xst0 evalOp; dsimp only; generalize fillA _ _ _ = r; cases r <;> rfl)
theorem xst_nilPtr (x : Opd) : xst P env (.nilCheck x) = (match ev env x with | .ptr id g o => some (.ptr id g o) | .ifc t v => some (.ifc t v) | .yield l => some (.yield l) | .fn (.func f) a b => some (.fn (.func f) a b) | _ => none) := by
  first | rfl | (unfold xst xst0 evalOp; dsimp only; generalize ev env x = v; cases v <;> first | rfl | (rename_i q; cases q <;> rfl) | (simp only [natK_eq, intK_eq]; done) | (simp only [natK_eq, intK_eq]; rfl) | (rename_i q _ _; cases q <;> rfl) | (dsimp only; generalize nth _ _ = r; cases r <;> rfl))
noncomputable def xdn (P : Program) (U : List Ent) (b : Pos) (X0 : List XB) (i : Nat) (l : List O) (env : T AV) (s : XS) (pend : List (Nat × XB)) (rid am : Nat) (fin : Bool) (d : Nat) : Option AV → Option XQ
  | some v => xdrs P U b X0 i l ⟨stv env d v, s, pend, rid, am, fin⟩
  | none => none
theorem xdn_some (v : AV) : xdn P U b X0 i l env s pend rid am fin d (some v) = xdrs P U b X0 i l ⟨stv env d v, s, pend, rid, am, fin⟩ := rfl
theorem xd_nil (q : XQ) : xdrs P U b X0 i [] q = some q := rfl
theorem xd_still {o : AOp} (h : kindOf o = .still) : xdrs P U b X0 i (k d o m :: l) ⟨env, s, pend, rid, am, fin⟩ = xdn P U b X0 (i + 1) l env s pend rid am fin d (xst P env o) := by
  unfold xdrs xdr
  simp only [h, show wantedA (k d o m) env = true from rfl, if_true]
  cases xst P env o <;> rfl
theorem xd_load {o : AOp} (h : kindOf o = .load) : xdrs P U b X0 i (k d o m :: l) ⟨env, s, pend, rid, am, false⟩ = (match xld X0 env o with
    | some v => if eqAV 8 v v = true then xdrs P U b X0 (i + 1) l ⟨stv env d v, s, pend, rid, am, false⟩ else none
    | none => if am &&& m = am then (match xld s.X env o with
      | some v => if eqAV 8 v v = true then xdrs P U b X0 (i + 1) l ⟨stv env d v, s, pend, rid, am, false⟩ else none
      | none => none) else none) := by
  rw [xdrs]
  unfold xdr
  simp only [h, show wantedA (k d o m) env = true from rfl, if_true, Bool.false_eq_true, if_false]
  cases xld X0 env o with
  | some v =>
    dsimp only
    by_cases c : eqAV 8 v v = true
    · rw [if_pos c, if_pos c]; rfl
    · rw [if_neg c, if_neg c]
  | none =>
    dsimp only
    by_cases c : am &&& m = am
    · rw [if_pos c, if_pos c]
      cases xld s.X env o with
      | some v =>
        dsimp only
        by_cases c : eqAV 8 v v = true
        · rw [if_pos c, if_pos c]; rfl
        · rw [if_neg c, if_neg c]
      | none => rfl
    · rw [if_neg c, if_neg c]
theorem xd_alloc {o : AOp} (h : kindOf o = .alloc) : xdrs P U b X0 i (k d o m :: l) ⟨env, s, pend, rid, am, fin⟩ = (match xal env (adv b rid) o with
    | some p => xdrs P U b X0 (i + 1) l ⟨stv env d p.1, s, (i, ⟨adv b rid, 0, true, p.2⟩) :: pend, rid + 1, am, fin⟩
    | none => none) := by
  rw [xdrs]
  unfold xdr
  simp only [h, show wantedA (k d o m) env = true from rfl, if_true]
  cases xal env (adv b rid) o <;> rfl
noncomputable def xdl (P : Program) (U : List Ent) (b : Pos) (X0 : List XB) (i : Nat) (l : List O) (env : T AV) (s : XS) (pend : List (Nat × XB)) (rid am m d : Nat) (x y : Option AV) : Option XQ :=
  match x with
    | some v => if eqAV 8 v v = true then xdrs P U b X0 (i + 1) l ⟨stv env d v, s, pend, rid, am, false⟩ else none
    | none => if am &&& m = am then (match y with
      | some v => if eqAV 8 v v = true then xdrs P U b X0 (i + 1) l ⟨stv env d v, s, pend, rid, am, false⟩ else none
      | none => none) else none
theorem xdl_old (v : AV) (y : Option AV) (h : eqAV 8 v v = true) : xdl P U b X0 i l env s pend rid am m d (some v) y = xdrs P U b X0 (i + 1) l ⟨stv env d v, s, pend, rid, am, false⟩ := if_pos h
theorem xdl_new (v : AV) (h : eqAV 8 v v = true) (c : am &&& m = am) : xdl P U b X0 i l env s pend rid am m d none (some v) = xdrs P U b X0 (i + 1) l ⟨stv env d v, s, pend, rid, am, false⟩ := by
  unfold xdl
  simp only [if_pos c, if_pos h]
noncomputable def xda (P : Program) (U : List Ent) (b : Pos) (X0 : List XB) (i : Nat) (l : List O) (env : T AV) (s : XS) (pend : List (Nat × XB)) (rid am : Nat) (fin : Bool) (d : Nat) : Option (AV × List AV) → Option XQ
    | some p => xdrs P U b X0 (i + 1) l ⟨stv env d p.1, s, (i, ⟨adv b rid, 0, true, p.2⟩) :: pend, rid + 1, am, fin⟩
    | none => none
theorem xda_some (v : AV) (c : List AV) : xda P U b X0 i l env s pend rid am fin d (some (v, c)) = xdrs P U b X0 (i + 1) l ⟨stv env d v, s, (i, ⟨adv b rid, 0, true, c⟩) :: pend, rid + 1, am, fin⟩ := rfl
theorem xd_call {f : Opd} {args : List Opd} : xdrs P U b X0 i (k d (.call (.value f) args) m :: l) ⟨env, s, pend, rid, am, false⟩ = (match (match ev env f with
      | .fn (.func g) fi ca => xcall U b g (fi ++ (args.map (ev env) ++ ca)) ⟨s.n, xins m pend s.X⟩
      | _ => none) with
    | some p => xdrs P U b X0 (i + 1) l ⟨stv env d p.1, p.2, xrem m pend, rid, am ||| 2 ^ i, false⟩
    | none => none) := by
  rw [xdrs]
  unfold xdr
  simp only [show kindOf (AOp.call (.value f) args) = .actor from rfl, show wantedA (k d (.call (.value f) args) m) env = true from rfl, if_true, Bool.false_eq_true, if_false]
  show (match (match xact U b env ⟨s.n, xins m pend s.X⟩ (.call (.value f) args) with
    | some p => some ⟨setD env (some (Pos.ofNat d)) p.1, p.2, xrem m pend, rid, am ||| 2 ^ i, false⟩
    | none => none) with
    | some q' => xdrs P U b X0 (i + 1) l q'
    | none => none) = _
  show (match (match (match ev env f with
      | .fn (.func g) fi ca => xcall U b g (fi ++ (args.map (ev env) ++ ca)) ⟨s.n, xins m pend s.X⟩
      | _ => none) with
    | some p => some (⟨setD env (some (Pos.ofNat d)) p.1, p.2, xrem m pend, rid, am ||| 2 ^ i, false⟩ : XQ)
    | none => none) with
    | some q' => xdrs P U b X0 (i + 1) l q'
    | none => none) = _
  generalize (match ev env f with
      | .fn (.func g) fi ca => xcall U b g (fi ++ (args.map (ev env) ++ ca)) ⟨s.n, xins m pend s.X⟩
      | _ => none) = r
  cases r <;> rfl
theorem xd_append {es bytes : Nat} {x y : Opd} : xdrs P U b X0 i (k d (.append es bytes x y) m :: l) ⟨env, s, pend, rid, am, fin⟩ = (if (2 ^ i - 1) &&& m = 2 ^ i - 1 then (match xap b ⟨s.n, xins m pend s.X⟩ es bytes (ev env x) (ev env y) with
    | some p => xdrs P U b X0 (i + 1) l ⟨stv env d p.1, p.2, xrem m pend, rid, am ||| 2 ^ i, true⟩
    | none => none) else none) := by
  rw [xdrs]
  unfold xdr
  simp only [show kindOf (AOp.append es bytes x y) = .actor from rfl, show wantedA (k d (.append es bytes x y) m) env = true from rfl, if_true]
  by_cases c : (2 ^ i - 1) &&& m = 2 ^ i - 1
  · rw [if_pos c, if_pos c]
    show (match (match xap b ⟨s.n, xins m pend s.X⟩ es bytes (ev env x) (ev env y) with
    | some p => some (⟨setD env (some (Pos.ofNat d)) p.1, p.2, xrem m pend, rid, am ||| 2 ^ i, true⟩ : XQ)
    | none => none) with
    | some q' => xdrs P U b X0 (i + 1) l q'
    | none => none) = _
    generalize xap b ⟨s.n, xins m pend s.X⟩ es bytes (ev env x) (ev env y) = r
    cases r <;> rfl
  · rw [if_neg c, if_neg c]
theorem xd_store {n : Nat} {a x : Opd} : xdrs P U b X0 i (kn (.store n a x) m :: l) ⟨env, s, pend, rid, am, fin⟩ = (if (2 ^ i - 1) &&& m = 2 ^ i - 1 then (match (if (ev env x).cells.length = n ∧ 0 < n ∧ (ev env x).cells.all AV.atom = true then (match ev env a with
      | .ptr id 0 off => (xput (xins m pend s.X) id off (ev env x).cells).map fun X => ((.undef : AV), (⟨s.n, X⟩ : XS))
      | _ => none) else none) with
    | some p => xdrs P U b X0 (i + 1) l ⟨env, p.2, xrem m pend, rid, am ||| 2 ^ i, true⟩
    | none => none) else none) := by
  rw [xdrs]
  unfold xdr
  simp only [show kindOf (AOp.store n a x) = .actor from rfl, show wantedA (kn (.store n a x) m) env = true from rfl, if_true]
  by_cases c : (2 ^ i - 1) &&& m = 2 ^ i - 1
  · rw [if_pos c, if_pos c]
    show (match (match (if (ev env x).cells.length = n ∧ 0 < n ∧ (ev env x).cells.all AV.atom = true then (match ev env a with
      | .ptr id 0 off => (xput (xins m pend s.X) id off (ev env x).cells).map fun X => ((.undef : AV), (⟨s.n, X⟩ : XS))
      | _ => none) else none) with
    | some p => some (⟨setD env none p.1, p.2, xrem m pend, rid, am ||| 2 ^ i, true⟩ : XQ)
    | none => none) with
    | some q' => xdrs P U b X0 (i + 1) l q'
    | none => none) = _
    generalize (if (ev env x).cells.length = n ∧ 0 < n ∧ (ev env x).cells.all AV.atom = true then (match ev env a with
      | .ptr id 0 off => (xput (xins m pend s.X) id off (ev env x).cells).map fun X => ((.undef : AV), (⟨s.n, X⟩ : XS))
      | _ => none) else none) = r
    cases r <;> rfl
  · rw [if_neg c, if_neg c]
theorem xd_kg {o : AOp} {x : Bool} (ha : isAlloc o = false) (h : sv env g = .bool x) : xdrs P U b X0 i (kg d g w o m :: l) ⟨env, s, pend, rid, am, fin⟩ = if x = w then xdrs P U b X0 i (k d o m :: l) ⟨env, s, pend, rid, am, fin⟩ else xdrs P U b X0 (i + 1) l ⟨stv env d .undef, s, pend, rid, am, fin⟩ := by
  have e : wantedA (kg d g w o m) env = (if w = true then x else !x) := by rw [wanted_sv, h]; cases w <;> rfl
  by_cases c : x = w
  · rw [if_pos c, xdrs, xdrs]
    have e1 : wantedA (kg d g w o m) env = true := by rw [e, c]; cases w <;> rfl
    have e2 : wantedA (k d o m) env = true := rfl
    have : xdr P U b X0 i ⟨env, s, pend, rid, am, fin⟩ (kg d g w o m) = xdr P U b X0 i ⟨env, s, pend, rid, am, fin⟩ (k d o m) := by
      unfold xdr
      simp only [e1, e2]
    rw [this]
  · rw [if_neg c, xdrs]
    have e1 : wantedA (kg d g w o m) env = false := by rw [e]; cases x <;> cases w <;> first | rfl | exact absurd rfl c
    have : xdr P U b X0 i ⟨env, s, pend, rid, am, fin⟩ (kg d g w o m) = some ⟨stv env d .undef, s, pend, rid, am, fin⟩ := by
      unfold xdr
      simp only [e1, Bool.false_eq_true, if_false]
      unfold isAlloc at ha
      cases hk : kindOf o <;> first | rfl | (rw [hk] at ha; cases ha)
    rw [this]
theorem xr_mov (x : Opd) : xrun P K b (k d (.mov x) m :: l) env s = xnx P K b l env d s (some (ev env x)) := (xr_still rfl).trans (by rw [xst_mov])
theorem xd_mov (x : Opd) : xdrs P U b X0 i (k d (.mov x) m :: l) ⟨env, s, pend, rid, am, fin⟩ = xdn P U b X0 (i + 1) l env s pend rid am fin d (some (ev env x)) := (xd_still rfl).trans (by rw [xst_mov])
theorem xr_pick (c x y : Opd) : xrun P K b (k d (.pick c x y) m :: l) env s = xnx P K b l env d s (match ev env c with | .bool true => some (ev env x) | .bool false => some (ev env y) | _ => none) := (xr_still rfl).trans (by rw [xst_pick])
theorem xd_pick (c x y : Opd) : xdrs P U b X0 i (k d (.pick c x y) m :: l) ⟨env, s, pend, rid, am, fin⟩ = xdn P U b X0 (i + 1) l env s pend rid am fin d (match ev env c with | .bool true => some (ev env x) | .bool false => some (ev env y) | _ => none) := (xd_still rfl).trans (by rw [xst_pick])
theorem xr_bin (op : BinOp) (kd : EK) (no : Bool) (x y : Opd) : xrun P K b (k d (.bin op kd no x y) m :: l) env s = xnx P K b l env d s (binA op kd no (ev env x) (ev env y)) := (xr_still rfl).trans (by rw [xst_bin])
theorem xd_bin (op : BinOp) (kd : EK) (no : Bool) (x y : Opd) : xdrs P U b X0 i (k d (.bin op kd no x y) m :: l) ⟨env, s, pend, rid, am, fin⟩ = xdn P U b X0 (i + 1) l env s pend rid am fin d (binA op kd no (ev env x) (ev env y)) := (xd_still rfl).trans (by rw [xst_bin])
theorem xr_un (op : UnOp) (x : Opd) : xrun P K b (k d (.un op x) m :: l) env s = xnx P K b l env d s (unA op (ev env x)) := (xr_still rfl).trans (by rw [xst_un])
theorem xd_un (op : UnOp) (x : Opd) : xdrs P U b X0 i (k d (.un op x) m :: l) ⟨env, s, pend, rid, am, fin⟩ = xdn P U b X0 (i + 1) l env s pend rid am fin d (unA op (ev env x)) := (xd_still rfl).trans (by rw [xst_un])
theorem xr_build (z : List AV) (p : List (Nat × Nat × Opd)) : xrun P K b (k d (.build z p) m :: l) env s = xnx P K b l env d s ((fillA env z p).map .agg) := (xr_still rfl).trans (by rw [xst_build])
theorem xd_build (z : List AV) (p : List (Nat × Nat × Opd)) : xdrs P U b X0 i (k d (.build z p) m :: l) ⟨env, s, pend, rid, am, fin⟩ = xdn P U b X0 (i + 1) l env s pend rid am fin d ((fillA env z p).map .agg) := (xd_still rfl).trans (by rw [xst_build])
theorem xr_convInt (kk : IntKind) (x : Opd) : xrun P K b (k d (.convInt kk x) m :: l) env s = xnx P K b l env d s (match ev env x with | .int _ n => some (.int kk (wrapA kk n)) | _ => none) := (xr_still rfl).trans (by rw [xst_convInt])
theorem xd_convInt (kk : IntKind) (x : Opd) : xdrs P U b X0 i (k d (.convInt kk x) m :: l) ⟨env, s, pend, rid, am, fin⟩ = xdn P U b X0 (i + 1) l env s pend rid am fin d (match ev env x with | .int _ n => some (.int kk (wrapA kk n)) | _ => none) := (xd_still rfl).trans (by rw [xst_convInt])
theorem xr_mkIfc (t : TypeId) (x : Opd) : xrun P K b (k d (.mkIfc t x) m :: l) env s = xnx P K b l env d s (some (.ifc t (ev env x))) := (xr_still rfl).trans (by rw [xst_mkIfc])
theorem xd_mkIfc (t : TypeId) (x : Opd) : xdrs P U b X0 i (k d (.mkIfc t x) m :: l) ⟨env, s, pend, rid, am, fin⟩ = xdn P U b X0 (i + 1) l env s pend rid am fin d (some (.ifc t (ev env x))) := (xd_still rfl).trans (by rw [xst_mkIfc])
theorem xr_mkFn (f : Fn) (x y : List Opd) : xrun P K b (k d (.mkFn f x y) m :: l) env s = xnx P K b l env d s (some (.fn f (x.map (ev env)) (y.map (ev env)))) := (xr_still rfl).trans (by rw [xst_mkFn])
theorem xd_mkFn (f : Fn) (x y : List Opd) : xdrs P U b X0 i (k d (.mkFn f x y) m :: l) ⟨env, s, pend, rid, am, fin⟩ = xdn P U b X0 (i + 1) l env s pend rid am fin d (some (.fn f (x.map (ev env)) (y.map (ev env)))) := (xd_still rfl).trans (by rw [xst_mkFn])
theorem xr_fld (off : Nat) (x : Opd) : xrun P K b (k d (.fieldAddr off x) m :: l) env s = xnx P K b l env d s (match ev env x with | .ptr id g o => some (.ptr id g (o + off)) | _ => none) := (xr_still rfl).trans (by rw [xst_fld])
theorem xd_fld (off : Nat) (x : Opd) : xdrs P U b X0 i (k d (.fieldAddr off x) m :: l) ⟨env, s, pend, rid, am, fin⟩ = xdn P U b X0 (i + 1) l env s pend rid am fin d (match ev env x with | .ptr id g o => some (.ptr id g (o + off)) | _ => none) := (xd_still rfl).trans (by rw [xst_fld])
theorem xr_part1 (off : Nat) (x : Opd) : xrun P K b (k d (.part1 off x) m :: l) env s = xnx P K b l env d s (match ev env x with | .agg l => nth l off | _ => none) := (xr_still rfl).trans (by rw [xst_part1])
theorem xd_part1 (off : Nat) (x : Opd) : xdrs P U b X0 i (k d (.part1 off x) m :: l) ⟨env, s, pend, rid, am, fin⟩ = xdn P U b X0 (i + 1) l env s pend rid am fin d (match ev env x with | .agg l => nth l off | _ => none) := (xd_still rfl).trans (by rw [xst_part1])
theorem xr_partN (off n : Nat) (x : Opd) : xrun P K b (k d (.partN off n x) m :: l) env s = xnx P K b l env d s (match ev env x with | .agg l => some (.agg ((l.drop off).take n)) | _ => none) := (xr_still rfl).trans (by rw [xst_partN])
theorem xd_partN (off n : Nat) (x : Opd) : xdrs P U b X0 i (k d (.partN off n x) m :: l) ⟨env, s, pend, rid, am, fin⟩ = xdn P U b X0 (i + 1) l env s pend rid am fin d (match ev env x with | .agg l => some (.agg ((l.drop off).take n)) | _ => none) := (xd_still rfl).trans (by rw [xst_partN])
theorem xr_extract (x : Opd) (j : Nat) : xrun P K b (k d (.extract x j) m :: l) env s = xnx P K b l env d s (match ev env x with | .tup l => nth l j | _ => none) := (xr_still rfl).trans (by rw [xst_extract])
theorem xd_extract (x : Opd) (j : Nat) : xdrs P U b X0 i (k d (.extract x j) m :: l) ⟨env, s, pend, rid, am, fin⟩ = xdn P U b X0 (i + 1) l env s pend rid am fin d (match ev env x with | .tup l => nth l j | _ => none) := (xd_still rfl).trans (by rw [xst_extract])
theorem xr_lenS (x : Opd) : xrun P K b (k d (.lenS x) m :: l) env s = xnx P K b l env d s (lenSA (ev env x)) := (xr_still rfl).trans (by rw [xst_lenS])
theorem xd_lenS (x : Opd) : xdrs P U b X0 i (k d (.lenS x) m :: l) ⟨env, s, pend, rid, am, fin⟩ = xdn P U b X0 (i + 1) l env s pend rid am fin d (lenSA (ev env x)) := (xd_still rfl).trans (by rw [xst_lenS])
theorem xr_lenL (x : Opd) : xrun P K b (k d (.lenL x) m :: l) env s = xnx P K b l env d s (lenLA (ev env x)) := (xr_still rfl).trans (by rw [xst_lenL])
theorem xd_lenL (x : Opd) : xdrs P U b X0 i (k d (.lenL x) m :: l) ⟨env, s, pend, rid, am, fin⟩ = xdn P U b X0 (i + 1) l env s pend rid am fin d (lenLA (ev env x)) := (xd_still rfl).trans (by rw [xst_lenL])
theorem xr_lenArr (n : Nat) : xrun P K b (k d (.lenArr n) m :: l) env s = xnx P K b l env d s (some (.int .i64 (n : Int))) := (xr_still rfl).trans (by rw [xst_lenArr])
theorem xd_lenArr (n : Nat) : xdrs P U b X0 i (k d (.lenArr n) m :: l) ⟨env, s, pend, rid, am, fin⟩ = xdn P U b X0 (i + 1) l env s pend rid am fin d (some (.int .i64 (n : Int))) := (xd_still rfl).trans (by rw [xst_lenArr])
theorem xr_nilPtr (x : Opd) : xrun P K b (k d (.nilCheck x) m :: l) env s = xnx P K b l env d s (match ev env x with | .ptr id g o => some (.ptr id g o) | .ifc t v => some (.ifc t v) | .yield l => some (.yield l) | .fn (.func f) a b => some (.fn (.func f) a b) | _ => none) := (xr_still rfl).trans (by rw [xst_nilPtr])
theorem xd_nilPtr (x : Opd) : xdrs P U b X0 i (k d (.nilCheck x) m :: l) ⟨env, s, pend, rid, am, fin⟩ = xdn P U b X0 (i + 1) l env s pend rid am fin d (match ev env x with | .ptr id g o => some (.ptr id g o) | .ifc t v => some (.ifc t v) | .yield l => some (.yield l) | .fn (.func f) a b => some (.fn (.func f) a b) | _ => none) := (xd_still rfl).trans (by rw [xst_nilPtr])
theorem xr_load1 (a : Opd) : xrun P K b (k d (.load1 a) m :: l) env s = xnx P K b l env d s (xld s.X env (.load1 a)) := xr_load rfl
theorem xd_load1 (a : Opd) : xdrs P U b X0 i (k d (.load1 a) m :: l) ⟨env, s, pend, rid, am, false⟩ = xdl P U b X0 i l env s pend rid am m d (xld X0 env (.load1 a)) (xld s.X env (.load1 a)) := xd_load rfl
theorem xr_loadN (n : Nat) (a : Opd) : xrun P K b (k d (.loadN n a) m :: l) env s = xnx P K b l env d s (xld s.X env (.loadN n a)) := xr_load rfl
theorem xd_loadN (n : Nat) (a : Opd) : xdrs P U b X0 i (k d (.loadN n a) m :: l) ⟨env, s, pend, rid, am, false⟩ = xdl P U b X0 i l env s pend rid am m d (xld X0 env (.loadN n a)) (xld s.X env (.loadN n a)) := xd_load rfl
theorem xr_bytesStr (a : Opd) : xrun P K b (k d (.bytesStr a) m :: l) env s = xnx P K b l env d s (xld s.X env (.bytesStr a)) := xr_load rfl
theorem xd_bytesStr (a : Opd) : xdrs P U b X0 i (k d (.bytesStr a) m :: l) ⟨env, s, pend, rid, am, false⟩ = xdl P U b X0 i l env s pend rid am m d (xld X0 env (.bytesStr a)) (xld s.X env (.bytesStr a)) := xd_load rfl
theorem xr_eqPtr (ng : Bool) (x y : Opd) : xrun P K b (k d (.eqPtr ng x y) m :: l) env s = xnx P K b l env d s (xld s.X env (.eqPtr ng x y)) := xr_load rfl
theorem xd_eqPtr (ng : Bool) (x y : Opd) : xdrs P U b X0 i (k d (.eqPtr ng x y) m :: l) ⟨env, s, pend, rid, am, false⟩ = xdl P U b X0 i l env s pend rid am m d (xld X0 env (.eqPtr ng x y)) (xld s.X env (.eqPtr ng x y)) := xd_load rfl
theorem xr_eqIfc (ng no : Bool) (x y : Opd) : xrun P K b (k d (.eqIfc ng no x y) m :: l) env s = xnx P K b l env d s (xld s.X env (.eqIfc ng no x y)) := xr_load rfl
theorem xd_eqIfc (ng no : Bool) (x y : Opd) : xdrs P U b X0 i (k d (.eqIfc ng no x y) m :: l) ⟨env, s, pend, rid, am, false⟩ = xdl P U b X0 i l env s pend rid am m d (xld X0 env (.eqIfc ng no x y)) (xld s.X env (.eqIfc ng no x y)) := xd_load rfl
theorem xr_new (z : List AV) : xrun P K b (k d (.new z) m :: l) env s = xnp P K b l env d ((xal env (adv b s.n) (.new z)).map fun p => (p.1, s.add b p.2)) := xr_alloc rfl
theorem xd_new (z : List AV) : xdrs P U b X0 i (k d (.new z) m :: l) ⟨env, s, pend, rid, am, fin⟩ = xda P U b X0 i l env s pend rid am fin d (xal env (adv b rid) (.new z)) := xd_alloc rfl
theorem xr_box (a : Opd) : xrun P K b (k d (.box a) m :: l) env s = xnp P K b l env d ((xal env (adv b s.n) (.box a)).map fun p => (p.1, s.add b p.2)) := xr_alloc rfl
theorem xd_box (a : Opd) : xdrs P U b X0 i (k d (.box a) m :: l) ⟨env, s, pend, rid, am, fin⟩ = xda P U b X0 i l env s pend rid am fin d (xal env (adv b rid) (.box a)) := xd_alloc rfl
theorem xr_buildSl (n es : Nat) (z : List AV) (p : List (Nat × Nat × Opd)) : xrun P K b (k d (.buildSl n es z p) m :: l) env s = xnp P K b l env d ((xal env (adv b s.n) (.buildSl n es z p)).map fun p => (p.1, s.add b p.2)) := xr_alloc rfl
theorem xd_buildSl (n es : Nat) (z : List AV) (p : List (Nat × Nat × Opd)) : xdrs P U b X0 i (k d (.buildSl n es z p) m :: l) ⟨env, s, pend, rid, am, fin⟩ = xda P U b X0 i l env s pend rid am fin d (xal env (adv b rid) (.buildSl n es z p)) := xd_alloc rfl
theorem xr_strBytes (x : Opd) : xrun P K b (k d (.strBytes x) m :: l) env s = xnp P K b l env d ((xal env (adv b s.n) (.strBytes x)).map fun p => (p.1, s.add b p.2)) := xr_alloc rfl
theorem xd_strBytes (x : Opd) : xdrs P U b X0 i (k d (.strBytes x) m :: l) ⟨env, s, pend, rid, am, fin⟩ = xda P U b X0 i l env s pend rid am fin d (xal env (adv b rid) (.strBytes x)) := xd_alloc rfl
theorem xr_mkSl (es bytes : Nat) (z : List AV) (x y : Opd) : xrun P K b (k d (.mkSl es bytes z x y) m :: l) env s = xnp P K b l env d ((xal env (adv b s.n) (.mkSl es bytes z x y)).map fun p => (p.1, s.add b p.2)) := xr_alloc rfl
theorem xd_mkSl (es bytes : Nat) (z : List AV) (x y : Opd) : xdrs P U b X0 i (k d (.mkSl es bytes z x y) m :: l) ⟨env, s, pend, rid, am, fin⟩ = xda P U b X0 i l env s pend rid am fin d (xal env (adv b rid) (.mkSl es bytes z x y)) := xd_alloc rfl
theorem xr_idxAddrSl (es : Nat) (x y : Opd) : xrun P K b (k d (.idxAddrSl es x y) m :: l) env s = xnx P K b l env d s (xst P env (.idxAddrSl es x y)) := xr_still rfl
theorem xd_idxAddrSl (es : Nat) (x y : Opd) : xdrs P U b X0 i (k d (.idxAddrSl es x y) m :: l) ⟨env, s, pend, rid, am, fin⟩ = xdn P U b X0 (i + 1) l env s pend rid am fin d (xst P env (.idxAddrSl es x y)) := xd_still rfl
theorem xr_idxAddrArr (n es : Nat) (x y : Opd) : xrun P K b (k d (.idxAddrArr n es x y) m :: l) env s = xnx P K b l env d s (xst P env (.idxAddrArr n es x y)) := xr_still rfl
theorem xd_idxAddrArr (n es : Nat) (x y : Opd) : xdrs P U b X0 i (k d (.idxAddrArr n es x y) m :: l) ⟨env, s, pend, rid, am, fin⟩ = xdn P U b X0 (i + 1) l env s pend rid am fin d (xst P env (.idxAddrArr n es x y)) := xd_still rfl
theorem xr_idxStr (x y : Opd) : xrun P K b (k d (.idxStr x y) m :: l) env s = xnx P K b l env d s (xst P env (.idxStr x y)) := xr_still rfl
theorem xd_idxStr (x y : Opd) : xdrs P U b X0 i (k d (.idxStr x y) m :: l) ⟨env, s, pend, rid, am, fin⟩ = xdn P U b X0 (i + 1) l env s pend rid am fin d (xst P env (.idxStr x y)) := xd_still rfl
theorem xr_sliceStr (x : Opd) (lo hi : Option Opd) : xrun P K b (k d (.sliceStr x lo hi) m :: l) env s = xnx P K b l env d s (xst P env (.sliceStr x lo hi)) := xr_still rfl
theorem xd_sliceStr (x : Opd) (lo hi : Option Opd) : xdrs P U b X0 i (k d (.sliceStr x lo hi) m :: l) ⟨env, s, pend, rid, am, fin⟩ = xdn P U b X0 (i + 1) l env s pend rid am fin d (xst P env (.sliceStr x lo hi)) := xd_still rfl
theorem xr_sliceSl (es : Nat) (x : Opd) (lo hi mx : Option Opd) : xrun P K b (k d (.sliceSl es x lo hi mx) m :: l) env s = xnx P K b l env d s (xst P env (.sliceSl es x lo hi mx)) := xr_still rfl
theorem xd_sliceSl (es : Nat) (x : Opd) (lo hi mx : Option Opd) : xdrs P U b X0 i (k d (.sliceSl es x lo hi mx) m :: l) ⟨env, s, pend, rid, am, fin⟩ = xdn P U b X0 (i + 1) l env s pend rid am fin d (xst P env (.sliceSl es x lo hi mx)) := xd_still rfl
theorem xst_idxAddrSl (es : Nat) (x y : Opd) : xst P env (.idxAddrSl es x y) = (match ev env x, ev env y with
    | .sl id g off n _ _ es', .int _ z => if 0 ≤ z ∧ z < (n : Int) ∧ es = es' then some (.ptr id g (off + z.toNat * es)) else none
    | _, _ => none) := rfl
theorem xst_idxStr (x y : Opd) : xst P env (.idxStr x y) = (match unstr (ev env x), ev env y with
    | some u, .int _ z => if h : 0 ≤ z ∧ z.toNat < u.length then some (.int .u8 ((u[z.toNat]'h.2).toNat : Int)) else none
    | _, _ => none) := rfl
theorem xst_sliceStr (x : Opd) (lo hi : Option Opd) : xst P env (.sliceStr x lo hi) = (match unstr (ev env x) with
    | some u => match xbd env lo 0, xbd env hi u.length with
      | some l, some r => if l ≤ r ∧ r ≤ u.length then some (strOf ((u.drop l).take (r - l))) else none
      | _, _ => none
    | none => none) := rfl
theorem eq_int (n : Nat) (kk : IntKind) (z : Int) : eqAV (n + 1) (.int kk z) (.int kk z) = true := eqAV_int n kk z
theorem eq_str (n : Nat) (u : List UInt8) : eqAV (n + 1) (strOf u) (strOf u) = true := by
  show (Nat.beq _ _ && Nat.beq _ _) = true
  rw [beq_iff.2 rfl, beq_iff.2 rfl]; rfl
theorem eq_str' (n a v : Nat) : eqAV (n + 1) (.str a v) (.str a v) = true := by
  show (Nat.beq _ _ && Nat.beq _ _) = true
  rw [beq_iff.2 rfl, beq_iff.2 rfl]; rfl
theorem eq_agg {n : Nat} {l : List AV} (h : (l.all fun x => eqAV n x x) = true) : eqAV (n + 1) (.agg l) (.agg l) = true := eqAV_agg n (List.all_eq_true.1 h)
theorem eq_sl (m : Nat) (id : Pos) (g' off n cap es : Nat) (ex : Bool) : eqAV (m + 1) (.sl id g' off n cap ex es) (.sl id g' off n cap ex es) = true := by
  unfold eqAV
  simp only [eqP_iff.2 (rfl), beq_iff.2 (rfl : _ = _), eqB_iff.2 (rfl), Bool.and_self]
theorem eqs8 (u : List UInt8) : eqAV 8 (strOf u) (strOf u) = true := eq_str 7 u
theorem eqs7 (u : List UInt8) : eqAV 7 (strOf u) (strOf u) = true := eq_str 6 u
theorem eqt8 (a v : Nat) : eqAV 8 (.str a v) (.str a v) = true := eq_str' 7 a v
theorem eqt7 (a v : Nat) : eqAV 7 (.str a v) (.str a v) = true := eq_str' 6 a v
theorem eqi8 (kk : IntKind) (z : Int) : eqAV 8 (.int kk z) (.int kk z) = true := eq_int 7 kk z
theorem eqi7 (kk : IntKind) (z : Int) : eqAV 7 (.int kk z) (.int kk z) = true := eq_int 6 kk z
theorem eqb8 (z : Bool) : eqAV 8 (.bool z) (.bool z) = true := by cases z <;> rfl
theorem eqb7 (z : Bool) : eqAV 7 (.bool z) (.bool z) = true := by cases z <;> rfl
theorem eqg8 {l : List AV} (h : (l.all fun x => eqAV 7 x x) = true) : eqAV 8 (.agg l) (.agg l) = true := eq_agg h
theorem eql8 (id : Pos) (g' off n cap es : Nat) (ex : Bool) : eqAV 8 (.sl id g' off n cap ex es) (.sl id g' off n cap ex es) = true := eq_sl 7 id g' off n cap es ex
theorem eql7 (id : Pos) (g' off n cap es : Nat) (ex : Bool) : eqAV 7 (.sl id g' off n cap ex es) (.sl id g' off n cap ex es) = true := eq_sl 6 id g' off n cap es ex
theorem eqn8 : eqAV 8 .nilSl .nilSl = true := rfl
theorem eqn7 : eqAV 7 .nilSl .nilSl = true := rfl
theorem fill_nil (cells : List AV) : fillA env cells [] = some cells := rfl
theorem fill_cons (cells : List AV) (off size : Nat) (x : Opd) (r : List (Nat × Nat × Opd)) : fillA env cells ((off, size, x) :: r) = if (ev env x).cells.length = size ∧ off + size ≤ cells.length then fillA env (cells.take off ++ ((ev env x).cells ++ cells.drop (off + size))) r else none := by
  show (bif Nat.beq (ev env x).cells.length size && Nat.ble (Nat.add off size) cells.length then fillA env (cells.take off ++ ((ev env x).cells ++ cells.drop (Nat.add off size))) r else none) = _
  by_cases c : (ev env x).cells.length = size ∧ off + size ≤ cells.length
  · rw [if_pos c, beq_iff.2 c.1, show Nat.ble (Nat.add off size) cells.length = true from ble_iff.2 c.2]; rfl
  · rw [if_neg c]
    cases h1 : Nat.beq (ev env x).cells.length size with
    | false => rfl
    | true =>
      cases h2 : Nat.ble (Nat.add off size) cells.length with
      | false => rfl
      | true => exact absurd ⟨beq_iff.1 h1, ble_iff.1 h2⟩ c
end
end Go.Proofs.YtjhgembcdndmkaaGreatDoor.Am

namespace Go.Proofs.YtjhgembcdndmkaaGreatDoor.Am
open Go.RowKit
variable {b : Pos} {s : XS}
noncomputable def xapq (b : Pos) (s : XS) (es bytes : Nat) (sv : AV) : Option (Nat × List AV) → Option (AV × XS)
  | some (n, c) => xapp b s es bytes sv n c
  | none => none
theorem xap_sl (es bytes : Nat) (sv : AV) (id : Pos) (g off n cap : Nat) (ex : Bool) (es' : Nat) : xap b s es bytes sv (.sl id g off n cap ex es') = xapq b s es bytes sv (xsrc s.X es (.sl id g off n cap ex es')) := by
  unfold xap
  cases xsrc s.X es (.sl id g off n cap ex es') with
  | some p => rfl
  | none =>
    show xapS s es bytes sv (.sl id g off n cap ex es') = none
    unfold xapS
    split
    · rename_i e1; have q := unstr_ok e1; unfold strOf at q; cases q
    · rfl
theorem xap_nl (es bytes : Nat) (sv : AV) : xap b s es bytes sv .nilSl = xapp b s es bytes sv 0 [] := rfl
theorem xapq_some (es bytes : Nat) (sv : AV) (n : Nat) (c : List AV) : xapq b s es bytes sv (some (n, c)) = xapp b s es bytes sv n c := rfl
theorem xapp_nil {es bytes n : Nat} {c : List AV} (h1 : 0 < es) (h2 : bytes ≤ 4096) (h3 : c.all AV.atom = true) (h4 : n ≤ 1073741824) : xapp b s es bytes .nilSl n c = if n = 0 then some (.nilSl, s) else some (.sl (adv b s.n) 0 0 n n false es, s.add b c) := by
  unfold xapp
  rw [if_pos ⟨h1, h2, h3⟩]
  by_cases c : n = 0
  · simp only [if_pos c]
  · simp only [if_neg c, if_pos h4]
theorem xapp_grow {es bytes n k g : Nat} {id : Pos} {c : List AV} (h1 : 0 < es) (h2 : bytes ≤ 4096) (h3 : c.all AV.atom = true) (h0 : n ≠ 0) (h4 : k + n ≤ 1073741824) : xapp b s es bytes (.sl id g 0 k k false es) n c = (xown s.X id g).bind fun l => if l.length = k * es then some (.sl id (g + 1) 0 (k + n) (k + n) false es, ⟨s.n, xset s.X id (g + 1) (l ++ c)⟩) else none := by
  unfold xapp
  rw [if_pos ⟨h1, h2, h3⟩]
  simp only [if_neg h0, h4, and_self, if_true]
theorem xapp_room {bytes k cap n : Nat} {id : Pos} {c : List AV} (h2 : bytes ≤ 4096) (h3 : c.all AV.atom = true) (hc : c.length = n) (h0 : n ≠ 0) (h4 : k + n ≤ 1073741824) : xapp b s 1 bytes (.sl id 0 0 k cap true 1) n c = (xown s.X id 0).bind fun l =>
          if k + n ≤ cap then (if k + n ≤ l.length then some (.sl id 0 0 (k + n) cap true 1, ⟨s.n, xset s.X id 0 (l.take k ++ c ++ l.drop (k + n))⟩) else none)
          else if k ≤ l.length then some (.sl (adv b s.n) 0 0 (k + n) (k + n) false 1, s.add b (l.take k ++ c)) else none := by
  subst hc
  unfold xapp
  rw [if_pos ⟨by omega, h2, h3⟩]
  simp only [if_neg h0, h4, and_self, if_true]
theorem xap_text {bytes k g : Nat} {id : Pos} {u : List UInt8} (hb : bytes ≤ 4096) (h0 : 0 < u.length) (h4 : k + u.length ≤ 1073741824) : xap b s 1 bytes (.sl id g 0 k k false 1) (strOf u) = (xown s.X id g).bind fun l => if l.length = k then some (.sl id (g + 1) 0 (k + u.length) (k + u.length) false 1, ⟨s.n, xset s.X id (g + 1) (l ++ byt u)⟩) else none := by
  unfold xap
  have : xsrc s.X 1 (strOf u) = none := rfl
  rw [this]
  show xapS s 1 bytes (.sl id g 0 k k false 1) (strOf u) = _
  unfold xapS
  have hu : unstr (strOf u) = some u := unstr_strOf u
  split
  · rename_i e1 e2
    rw [hu] at e1
    cases e1
    cases e2
    rw [if_pos ⟨rfl, rfl, hb, h0, h4⟩]
  · rename_i a
    exact absurd rfl (a u id g k k hu)
theorem xsrc_sl (X : List XB) (es : Nat) (id : Pos) (g off n cap : Nat) (ex : Bool) : xsrc X es (.sl id g off n cap ex es) = (xget X id g).bind fun l => if off + n * es ≤ l.length then some (n, (l.drop off).take (n * es)) else none := by
  unfold xsrc
  simp only [if_true]
theorem xsrc_nil (X : List XB) (es : Nat) : xsrc X es .nilSl = some (0, []) := rfl
noncomputable def shlI (x : Int) (n : Nat) : Int := wrapA .i64 (x * Int.ofNat (Nat.pow 2 (bif Nat.ble n 64 then n else 64)))
noncomputable def shrI (x : Int) (n : Nat) : Int := match x with
  | .ofNat x => .ofNat (Nat.div x (Nat.pow 2 (bif Nat.ble n 64 then n else 64)))
  | x => x.fdiv (2 ^ (bif Nat.ble n 64 then n else 64))
noncomputable def orI (x y : Int) : Int := (bitsF .or .i64 x y).getD 0
def u8I (z : Int) : UInt8 := UInt8.ofNat (z % 256).toNat
theorem bin_shl (kd : EK) (no : Bool) (x : Int) (kk : IntKind) (n : Nat) : binA .shl kd no (.int .i64 x) (.int kk (n : Int)) = some (.int .i64 (shlI x n)) :=
  intK_eq (shlI x n) fun r => some (AV.int .i64 r)
theorem bin_shr (kd : EK) (no : Bool) (x : Int) (kk : IntKind) (n : Nat) : binA .shr kd no (.int .i64 x) (.int kk (n : Int)) = some (.int .i64 (shrI x n)) := by
  cases x with
  | ofNat x => rfl
  | negSucc x => exact intK_eq (shrI (.negSucc x) n) fun r => some (AV.int .i64 r)
theorem bin_shl' (kd : EK) (no : Bool) (x : Int) (kk : IntKind) {y : Int} (h : 0 ≤ y) : binA .shl kd no (.int .i64 x) (.int kk y) = some (.int .i64 (shlI x y.toNat)) := by
  obtain ⟨n, rfl⟩ := Int.eq_ofNat_of_zero_le h
  exact bin_shl kd no x kk n
theorem bin_shr' (kd : EK) (no : Bool) (x : Int) (kk : IntKind) {y : Int} (h : 0 ≤ y) : binA .shr kd no (.int .i64 x) (.int kk y) = some (.int .i64 (shrI x y.toNat)) := by
  obtain ⟨n, rfl⟩ := Int.eq_ofNat_of_zero_le h
  exact bin_shr kd no x kk n
theorem bitsF_or (x y : Int) : bitsF .or .i64 x y = some (orI x y) := by
  have : ∃ z, bitsF .or .i64 x y = some z := by
    unfold bitsF
    cases x with
    | ofNat a => cases y with
      | ofNat b =>
        dsimp only
        cases (Nat.blt a (Nat.pow 2 (topBits .i64)) && Nat.blt b (Nat.pow 2 (topBits .i64))) <;> exact ⟨_, rfl⟩
      | negSucc b => exact ⟨_, rfl⟩
    | negSucc a => exact ⟨_, rfl⟩
  obtain ⟨z, e⟩ := this
  unfold orI
  rw [e]; rfl
theorem bin_or (kd : EK) (no : Bool) (x y : Int) : binA .or kd no (.int .i64 x) (.int .i64 y) = some (.int .i64 (orI x y)) := by
  show (if IntKind.i64 = IntKind.i64 then intBin .or .i64 x y else none) = _
  rw [if_pos rfl]
  unfold intBin
  simp only [bitsF_or, intK_eq]
theorem w64 {n : Int} (h1 : -9223372036854775808 ≤ n) (h2 : n ≤ 9223372036854775807) : wrapA .i64 n = n := by
  rw [wrapA_eq]; unfold IntKind.wrap; simp [IntKind.signed, IntKind.bits]; omega
theorem wu64 {n : Int} (h1 : 0 ≤ n) (h2 : n ≤ 18446744073709551615) : wrapA .u64 n = n := by
  rw [wrapA_eq]; unfold IntKind.wrap; simp [IntKind.signed, IntKind.bits]; omega
theorem w64_u8 (c : UInt8) : wrapA .i64 (c.toNat : Int) = (c.toNat : Int) := w64 (by omega) (by have := c.toNat_lt; omega)
theorem w8 (z : Int) : wrapA .u8 z = ((u8I z).toNat : Int) := by
  rw [wrapA_eq]; unfold IntKind.wrap u8I; simp [IntKind.signed, IntKind.bits]; omega
theorem byt_all (l : List UInt8) : (byt l).all AV.atom = true := List.all_eq_true.2 fun y hy => by obtain ⟨c, _, rfl⟩ := List.mem_map.1 hy; rfl
theorem byt_len (l : List UInt8) : (byt l).length = l.length := List.length_map ..
theorem byt_app (a c : List UInt8) : byt (a ++ c) = byt a ++ byt c := List.map_append ..
theorem byt_take (l : List UInt8) : (byt l).take l.length = byt l := List.take_of_length_le (Nat.le_of_eq (byt_len l))
theorem byt_one (c : UInt8) : byt [c] = [.int .u8 (c.toNat : Int)] := rfl
theorem byt_plain (l : List UInt8) : ∀ y ∈ byt l, y.plain = true := fun y hy => by obtain ⟨c, _, rfl⟩ := List.mem_map.1 hy; rfl
end Go.Proofs.YtjhgembcdndmkaaGreatDoor.Am

namespace Go.Proofs.YtjhgembcdndmkaaGreatDoor.Am
open Go.RowKit
section
variable {P : Program} {φ : Phi} {h : Hp} {w w' : World} {N n : Nat} {s : Int}
noncomputable def putN (φ : Phi) (p : Pos) (r : Nat × Int × Nat) : Phi := fun j k => if j = p ∧ k = 0 then some r else φ j k
theorem putN_new (p : Pos) (r : Nat × Int × Nat) : putN φ p r p 0 = some r := if_pos ⟨rfl, rfl⟩
theorem putN_old {p j : Pos} {r : Nat × Int × Nat} (h : j ≠ p) (k : Nat) : putN φ p r j k = φ j k := if_neg fun c => h c.1
theorem HR.fresh (hR : HR P φ h w) (hz : h.lim = 0) (hb : Below w.heap.size w w') (h1 : w.heap.size ≤ N) (h2 : N < w'.heap.size) {t : T Blk} (ht : ∀ j, j ≠ h.next → T.get j t = T.get j h.heap) (hn : ∀ x, T.get h.next t = some x → BR P (putN φ h.next (N, s, n)) w' h.next x) (ser : Nat) :
    HR P (putN φ h.next (N, s, n)) ⟨t, h.next.succ, ser, h.lim⟩ w' ∧ Adv h w φ ⟨t, h.next.succ, ser, h.lim⟩ w' (putN φ h.next (N, s, n)) := by
  have hnum := hR.num hz
  have ne : ∀ {j : Pos}, j.num < h.next.num → j ≠ h.next := fun {j} hj q => by subst q; omega
  have nx : h.next.succ.num = h.next.num + 1 := Pos.num_succ _
  have hx : ∀ j k r, putN φ h.next (N, s, n) j k = some r → (j.num < h.next.num ∧ φ j k = some r) ∨ (j = h.next ∧ k = 0 ∧ r = (N, s, n)) := fun j k r q => by
    unfold putN at q
    split at q
    · rename_i c; cases q; exact .inr ⟨c.1, c.2, rfl⟩
    · exact .inl ⟨hnum _ _ _ q, q⟩
  have le : Le φ (putN φ h.next (N, s, n)) := fun j k r q => by rw [putN_old (ne (hnum _ _ _ q))]; exact q
  have hdom : ∀ j x, T.get j h.heap = some x → j.num < h.next.num := fun j x q => by
    rcases hR.dom j x q with c | ⟨c, _⟩
    · exact c
    · exact absurd hz c
  have nr : ∀ {j : Pos}, j ≠ h.next → (Nonro ⟨t, h.next.succ, ser, h.lim⟩ j ↔ Nonro h j) := fun {j} hj => by
    unfold Nonro
    show (∃ b, T.get j t = some b ∧ _) ↔ _
    rw [ht j hj]
  have was : ∀ {j : Pos}, Was h ⟨t, h.next.succ, ser, h.lim⟩ j → j ≠ h.next := fun {j} c q => by
    subst q
    rcases c with c | c
    · omega
    · change h.next.succ.num ≤ _ at c; omega
  refine ⟨⟨fun j x q => ?_, fun j k r q => ?_, fun j x q => ?_, fun j k b1 s1 n1 j' k' s2 n2 q q' => ?_, fun j k b1 s1 n1 q => ?_, fun k hk => ?_⟩, ⟨le, hb.os, hb.output, hb.tape, hb.size, ?_, fun j k b1 s1 n1 q hlt => ?_, fun j c q => ?_, fun b1 hlt _ => hb.block b1 hlt, rfl, fun j c q => ?_, fun j k r c _ q => ?_⟩⟩
  · by_cases c : j = h.next
    · subst c; exact hn x q
    · have q : T.get j t = some x := q
      rw [ht j c] at q
      exact BR.mono le (fun g r e => by rw [putN_old c] at e; exact e) (fun g b' s' n' e => hb.block b' (hR.inb _ _ _ _ _ e)) (hR.blk j x q)
  · left
    show _ < h.next.succ.num
    rcases hx j k r q with ⟨c, _⟩ | ⟨c, _, _⟩
    · omega
    · subst c; omega
  · left
    show _ < h.next.succ.num
    by_cases c : j = h.next
    · subst c; omega
    · have q : T.get j t = some x := q
      rw [ht j c] at q
      have := hdom j x q
      omega
  · rcases hx j k _ q with ⟨c, d⟩ | ⟨c, _, d⟩ <;> rcases hx j' k' _ q' with ⟨c', d'⟩ | ⟨c', _, d'⟩
    · rcases hR.sep j k b1 s1 n1 j' k' s2 n2 d d' with r | ⟨r1, r2⟩
      · exact .inl r
      · exact .inr ⟨fun z => r1 ((nr (ne c)).1 z), fun z => r2 ((nr (ne c')).1 z)⟩
    · cases d'
      have := hR.inb _ _ _ _ _ d
      omega
    · cases d
      have := hR.inb _ _ _ _ _ d'
      omega
    · exact .inl (c.trans c'.symm)
  · rcases hx j k _ q with ⟨_, d⟩ | ⟨_, _, d⟩
    · exact Nat.lt_of_lt_of_le (hR.inb _ _ _ _ _ d) hb.size
    · cases d; exact h2
  · exact le _ _ _ (hR.glob k hk)
  · show _ ≤ h.next.succ.num; omega
  · rcases hx j k _ q with ⟨_, d⟩ | ⟨_, _, d⟩
    · exact ⟨k, s1, n1, d⟩
    · cases d; omega
  · exact (nr (was c)).1 q
  · show T.get j t = none
    rw [ht j (was c)]; exact q
  · rw [putN_old (was c)] at q; exact q
theorem HR.blind (hR : HR P φ h w) (hz : h.lim = 0) (hb : Below w.heap.size w w') (h1 : w.heap.size ≤ N) (h2 : N < w'.heap.size) :
    HR P (putN φ h.next (N, s, n)) ⟨h.heap, h.next.succ, h.ser, h.lim⟩ w' ∧ Adv h w φ ⟨h.heap, h.next.succ, h.ser, h.lim⟩ w' (putN φ h.next (N, s, n)) :=
  hR.fresh hz hb h1 h2 (fun _ _ => rfl) (fun x q => by
    rcases hR.dom _ x q with c | ⟨c, _⟩
    · exact absurd c (Nat.lt_irrefl _)
    · exact absurd hz c) _
theorem HR.rowAt (hR : HR P φ h w) (hz : h.lim = 0) (hb : Below w.heap.size w w') (h1 : w.heap.size ≤ N) {C : Array Value} {el : TypeId} {fr : Nat × Nat} (hC : w'.heap[N]? = some (.cells C el fr)) (hf : fr.2 ≤ fr.1) {l : List AV} (hl : ∀ (i : Nat) (v : AV), l[i]? = some v → ∃ x, C[i]? = some x ∧ ∀ φ, Rel φ v x) :
    HR P (putN φ h.next (N, 0, C.size)) (rowN h l) w' ∧ Adv h w φ (rowN h l) w' (putN φ h.next (N, 0, C.size)) := by
  refine hR.fresh (t := (rowN h l).heap) hz hb h1 (Array.getElem?_eq_some_iff.1 hC).1 (fun j hj => by rw [rowN_get, if_neg hj]) (fun x q => ?_) _
  rw [rowN_get, if_pos rfl] at q
  cases q
  obtain ⟨w1, w2, w3⟩ := Cells.ofL_spec l
  refine ⟨⟨w1, Nat.le_refl _, fun c => absurd c (Nat.lt_irrefl _), fun k hk => ?_, fun k k' c1 c2 c3 c4 c5 k1 k2 k3 k4 f1 f2 => ?_, fun k k1 k2 => ?_⟩, fun _ _ _ _ _ _ _ _ _ _ _ => .inl rfl⟩
  · unfold putN
    rw [if_neg fun q => by omega]
    cases e : φ h.next k with
    | none => rfl
    | some r => exact absurd (hR.num hz _ _ _ e) (Nat.lt_irrefl _)
  · have : k = k' := by omega
    subst this; rw [f1] at f2; cases f2; rfl
  · obtain rfl : k = 0 := by omega
    refine ⟨N, 0, C.size, C, el, fr, putN_new _ _, hC, rfl, fun _ => ?_, fun i v _ i2 hv => ?_⟩
    · unfold Thawed; rw [if_pos rfl]; exact .inr hf
    · rw [w2] at hv
      obtain ⟨x, e1, e2⟩ := hl i v hv
      exact ⟨i, x, by omega, e1, e2 _⟩
end
end Go.Proofs.YtjhgembcdndmkaaGreatDoor.Am

namespace Go.Proofs.YtjhgembcdndmkaaGreatDoor.Am
open Go.RowKit
noncomputable def tabB (l : List AV) : Blk := .cells 0 (.lst l.length l) 0 0 0 0 true false
noncomputable def tabH (P : Program) (g : Nat) (l : List AV) : Hp := ⟨T.set (Pos.ofNat g) (some (tabB l)) .e, Pos.ofNat (globN P), 0, 0⟩
section
variable {P : Program} {φ : Phi} {h : Hp} {w : World} {g : Nat} {l : List AV} {C : Array Value} {el : TypeId} {fr : Nat × Nat}
theorem tabH_get (id : Pos) : T.get id (tabH P g l).heap = if id = Pos.ofNat g then some (tabB l) else none := by
  show T.get id (T.set (Pos.ofNat g) _ .e) = _
  rw [T.get_set, T.get_e]
theorem tabH_ro : AllRo (tabH P g l) := fun id ⟨x, e, q⟩ => by
  rw [tabH_get] at e
  split at e
  · cases e
    have := q _ _ _ _ _ _ _ _ rfl
    cases this
  · cases e
theorem tab_rel (hw : globN P ≤ w.heap.size) (hg : g < globN P) (hb : w.heap[g]? = some (.cells C el fr)) (hs : C.size = globSz g) (hr : ∀ φ, RelL φ l C.toList) : HR P (phi0 P) (tabH P g l) w := by
  have hR := start_rel (P := P) hw
  have hl : l.length = C.size := by have := (hr (phi0 P)).length; simpa using this
  refine ⟨fun id x e => ?_, hR.used, fun id x e => ?_, fun id g y s n id' g' s' n' _ _ => .inr ⟨tabH_ro _, tabH_ro _⟩, hR.inb, hR.glob⟩
  · rw [tabH_get] at e
    split at e
    · rename_i c
      cases e
      subst c
      have gz : ∀ j, j ≠ 0 → phi0 P (Pos.ofNat g) j = none := fun j hj => by unfold phi0; rw [if_neg fun c => hj c.1]
      refine ⟨⟨rfl, Nat.le_refl _, fun q => absurd q (Nat.lt_irrefl _), fun j hj => gz j (by omega), fun j j' b1 s1 n1 s2 n2 k1 k2 k3 k4 e1 e2 => ?_, fun j k1 k2 => ?_⟩, fun _ _ _ _ _ _ _ _ _ _ _ => .inl rfl⟩
      · have : j = j' := by omega
        subst this
        rw [e1] at e2; cases e2; rfl
      · have : j = 0 := by omega
        subst this
        refine ⟨g, 0, globSz g, C, el, fr, hR.glob g hg, hb, hs, fun c => (by cases c), fun i v _ hi2 hv => ?_⟩
        have hv : l[i]? = some v := hv
        obtain ⟨x, hx, rx⟩ := (hr (phi0 P)).get hv
        exact ⟨i, x, by omega, by rw [← hx]; simp, rx⟩
    · cases e
  · rw [tabH_get] at e
    split at e
    · rename_i c
      subst c
      exact .inl (by show (Pos.ofNat g).num < (Pos.ofNat (globN P)).num; rw [Pos.num_ofNat, Pos.num_ofNat]; omega)
    · cases e
theorem tab_of {k : IntKind} {ns : List Int} (hR : HR P φ h w) (hg : g < globN P) (hn : ns.length = globSz g) (ht : T.get (Pos.ofNat g) h.heap = some (tabB (ns.map fun z => .int k z))) :
    ∃ el fr, w.heap[g]? = some (.cells (ns.map fun z => Value.int k z).toArray el fr) := by
  obtain ⟨⟨_, _, _, _, _, h5⟩, _⟩ := hR.blk _ _ ht
  obtain ⟨b, s, n, C, el, fr, e1, e2, e3, _, e5⟩ := h5 0 (Nat.le_refl _) (Nat.le_refl _)
  rw [hR.glob g hg] at e1
  cases e1
  refine ⟨el, fr, ?_⟩
  rw [e2]
  congr 2
  apply Array.ext
  · rw [e3]; simp [hn]
  · intro i h1 h2
    have hi : i < ns.length := by simpa using h2
    obtain ⟨o, x, q1, q2, q3⟩ := e5 i (.int k ns[i]) (Nat.zero_le _) (by rw [if_pos rfl]; show i < List.length _; simpa using hi) (by show (ns.map _)[i]? = _; simp [hi])
    have : o = i := by omega
    subst this
    cases q3
    rw [Array.getElem?_eq_getElem h1] at q2
    simpa using q2
end
end Go.Proofs.YtjhgembcdndmkaaGreatDoor.Am
