import Derived.Test.YtmifpiglcphmoaaAmM
/- THE ABSTRACT MACHINE, part N: a machine over values without block numbers, run by the kernel, and the proof that the model's machine does what it does. No condition. -/
set_option linter.unusedSimpArgs false
set_option linter.unusedVariables false
namespace Go.Proofs.Ytmifpiglcphmoaa.Am
open Go.RowKit

/-- From s the machine comes to s'. -/
def Leads (P : Program) (s s' : St) : Prop := ∀ r, Ans P s' r → Ans P s r

theorem Leads.refl {P : Program} (s : St) : Leads P s s := fun _ h => h
theorem Leads.trans {P : Program} {s s' s'' : St} (a : Leads P s s') (b : Leads P s' s'') : Leads P s s'' := fun r h => a r (b r h)

def noRec (_ : St) : Out := .fail ""
theorem noRec_sound (P : Program) : Sound P noRec := fun _ _ _ _ _ _ _ _ _ => trivial

theorem leads_step {P : Program} {rec : St → Out} (hrec : Sound P rec) {s s' : St} (e : step P rec s = .next s') : Leads P s s' := fun _ h => Ans.step hrec e h

/-- What is answered behind an outcome. -/
def AnsO (P : Program) (o r : Out) : Prop :=
  match o with
  | .next s' => Ans P s' r
  | .done v h => r = .done v h
  | .fail _ => False

/-- What a call of a function comes to: the value, and the heap behind it. -/
def AmFn (P : Program) (f : FuncId) (args : List AV) (h : Hp) (v : AV) (h' : Hp) : Prop :=
  ∃ fr, beginFn P f args = some fr ∧ ∀ callers r, AnsO P (backTo v callers h') r → Ans P ⟨fr, callers, h⟩ r

/-- An outcome of a step. -/
theorem ans_out {P : Program} {rec : St → Out} (hrec : Sound P rec) {s : St} {r : Out} (h : AnsO P (step P rec s) r) : Ans P s r := by
  cases e : step P rec s with
  | next s' => rw [e] at h; exact Ans.step hrec e h
  | done v h' => rw [e] at h; rw [show r = .done v h' from h]; exact ans_last hrec e
  | fail why => rw [e] at h; exact h.elim

section
variable {P : Program} {cx : Cx} {env env' : T AV} {h h' : Hp} {k : List Item}

theorem leads_ctl {td td' : List Item} (c : Ctl1 td td') : Leads P (sOf cx td env h) (sOf cx td' env h) := leads_step (noRec_sound P) (c P noRec cx env h)

theorem leads_seq {a b : C} : Leads P (sOf cx (.code (.seq a b) :: k) env h) (sOf cx (.code a :: .code b :: k) env h) := leads_ctl fun _ _ _ _ _ => rfl
theorem leads_skip : Leads P (sOf cx (.code .skip :: k) env h) (sOf cx k env h) := leads_ctl fun _ _ _ _ _ => rfl
theorem leads_label : Leads P (sOf cx (.code .label :: k) env h) (sOf cx k env h) := leads_ctl fun _ _ _ _ _ => rfl
theorem leads_block {i : Nat} {b : C} : Leads P (sOf cx (.code (.block i b) :: k) env h) (sOf cx (.code b :: .inBlock i :: k) env h) := leads_ctl fun _ _ _ _ _ => rfl
theorem leads_scope {b : C} : Leads P (sOf cx (.code (.scope b) :: k) env h) (sOf cx (.code b :: .inScope :: k) env h) := leads_ctl fun _ _ _ _ _ => rfl
theorem leads_loop {b : C} : Leads P (sOf cx (.code (.loop b) :: k) env h) (sOf cx (.code b :: .inLoop b :: k) env h) := leads_ctl fun _ _ _ _ _ => rfl
theorem leads_inLoop {b : C} : Leads P (sOf cx (.inLoop b :: k) env h) (sOf cx (.code b :: .inLoop b :: k) env h) := leads_ctl fun _ _ _ _ _ => rfl
theorem leads_inBlock {i : Nat} : Leads P (sOf cx (.inBlock i :: k) env h) (sOf cx k env h) := leads_ctl fun _ _ _ _ _ => rfl
theorem leads_inScope : Leads P (sOf cx (.inScope :: k) env h) (sOf cx k env h) := leads_ctl fun _ _ _ _ _ => rfl
theorem leads_opsNil : Leads P (sOf cx (.ops [] :: k) env h) (sOf cx k env h) := leads_ctl fun _ _ _ _ _ => rfl
theorem leads_enter {l : List O} : Leads P (sOf cx (.code (.region l) :: k) env h) (sOf cx (.ops l :: k) env h) := leads_ctl fun _ _ _ _ _ => rfl
theorem leads_exit {i : Nat} {k' : List Item} (e : exitA i k = some k') : Leads P (sOf cx (.code (.exit i) :: k) env h) (sOf cx k' env h) :=
  leads_ctl fun _ _ _ _ _ => by unfold step; simp only [sOf, e]

theorem leads_cond {c : Opd} {a b : C} {t : Bool} (e : ev env c = .bool t) : Leads P (sOf cx (.code (.cond c a b) :: k) env h) (sOf cx (.code (if t = true then a else b) :: k) env h) := by
  cases t <;> exact leads_step (noRec_sound P) (by unfold step; simp only [sOf, e]; rfl)

/-- Operations one behind another, none of which calls. -/
noncomputable def runOps (P : Program) : List O → T AV → Hp → Option (T AV × Hp)
  | [], env, h => some (env, h)
  | o :: l, env, h => if o.ok = true then (if wantedA o env = true then (match evalOp P o.op env h with
    | .val v h' => runOps P l (setD env o.dst v) h'
    | _ => none) else runOps P l (setD env o.dst .undef) h) else none

theorem leads_ops {rest : List O} : ∀ {l : List O} {env : T AV} {h : Hp}, runOps P l env h = some (env', h') → Leads P (sOf cx (.ops (l ++ rest) :: k) env h) (sOf cx (.ops rest :: k) env' h')
  | [], env, h, e => by cases e; exact .refl _
  | o :: l, env, h, e => by
    unfold runOps at e
    split at e
    · rename_i ho
      split at e
      · rename_i hw
        split at e
        · rename_i v h1 he
          exact (leads_step (noRec_sound P) (op_step ho hw he)).trans (leads_ops e)
        · cases e
      · rename_i hw
        exact (leads_step (noRec_sound P) (op_skip ho (by simpa using hw))).trans (leads_ops e)
    · cases e

theorem leads_region {l : List O} (e : runOps P l env h = some (env', h')) : Leads P (sOf cx (.code (.region l) :: k) env h) (sOf cx k env' h') := by
  have q := leads_ops (cx := cx) (k := k) (rest := []) e
  rw [List.append_nil] at q
  exact leads_enter.trans (q.trans leads_opsNil)

theorem back_give {o : O} {rest : List O} {v : AV} (ho : o.ok = true) (r : Out) (q : Ans P (sOf cx (.ops rest :: k) (setD env o.dst v) h') r) :
    AnsO P (backTo v (⟨cx.fn, env, .ops (o :: rest) :: k, cx.defers, .run, cx.dk, cx.round⟩ :: cx.callers) h') r := by
  have e : backTo v (⟨cx.fn, env, .ops (o :: rest) :: k, cx.defers, .run, cx.dk, cx.round⟩ :: cx.callers) h' = .next (sOf cx (.ops rest :: k) (setD env o.dst v) h') := by
    unfold backTo give
    simp only [ho, cond_true]
    cases o.dst with
    | none => rfl
    | some d => simp only [T.setK_eq, setD]; rfl
  rw [e]; exact q

theorem leads_call {o : O} {rest : List O} {f : FuncId} {args : List AV} {v : AV} (ho : o.ok = true) (hw : wantedA o env = true) (he : evalOp P o.op env h = .enter f args h) (hf : AmFn P f args h v h') :
    Leads P (sOf cx (.ops (o :: rest) :: k) env h) (sOf cx (.ops rest :: k) (setD env o.dst v) h') := by
  obtain ⟨fr, e1, e2⟩ := hf
  intro r q
  refine Ans.step (noRec_sound P) (s' := ⟨fr, ⟨cx.fn, env, .ops (o :: rest) :: k, cx.defers, .run, cx.dk, cx.round⟩ :: cx.callers, h⟩) ?_ (e2 _ r (back_give ho r q))
  unfold step
  simp only [sOf, ho, hw, he, Bool.not_true, cond_false, cond_true, apply, e1]
end

/-- A function's frame. -/
def cxF (f : FuncId) (callers : List Fr) : Cx := ⟨noRec, f, [], false, none, callers⟩

theorem ret_back {P : Program} {f : FuncId} {callers : List Fr} {k : List Item} {env : T AV} {h : Hp} {fu : Fu} {vs : List AV} (hc : compFn P f = some fu) (hm : mapO (result1 env h) fu.results = some vs) {r : Out}
    (q : AnsO P (backTo (tupleA vs) callers h) r) : Ans P (sOf (cxF f callers) (.code .ret :: k) env h) r := by
  refine Ans.step (noRec_sound P) (s' := ⟨⟨f, env, .code .ret :: k, [], .ret, false, none⟩, callers, h⟩) rfl (ans_out (noRec_sound P) ?_)
  have e : step P noRec ⟨⟨f, env, .code .ret :: k, [], .ret, false, none⟩, callers, h⟩ = backTo (tupleA vs) callers h := by
    unfold step
    simp only [unwindA, hc, hm, cond_false]
  rw [e]; exact q

/-- The end of a body without a return. -/
theorem end_out {P : Program} {f : FuncId} {callers : List Fr} {env : T AV} {h : Hp} {fu : Fu} {vs : List AV} (hc : compFn P f = some fu) (hm : mapO (result1 env h) fu.results = some vs) {r : Out}
    (q : AnsO P (backTo (tupleA vs) callers h) r) : Ans P (sOf (cxF f callers) [] env h) r := by
  refine Ans.step (noRec_sound P) (s' := ⟨⟨f, env, [], [], .ret, false, none⟩, callers, h⟩) rfl (ans_out (noRec_sound P) ?_)
  have e : step P noRec ⟨⟨f, env, [], [], .ret, false, none⟩, callers, h⟩ = backTo (tupleA vs) callers h := by
    unfold step
    simp only [unwindA, hc, hm, cond_false]
  rw [e]; exact q

theorem AmFn.intro {P : Program} {f : FuncId} {args : List AV} {h h' : Hp} {v : AV} {fu : Fu} (hc : compFn P f = some fu) (hl : args.length ≤ fu.nargs)
    (hr : ∀ callers, ∃ k env', Leads P (sOf (cxF f callers) [.code fu.body] (setArgs .e 0 args) h) (sOf (cxF f callers) (.code .ret :: k) env' h') ∧ ∃ vs, mapO (result1 env' h') fu.results = some vs ∧ tupleA vs = v) : AmFn P f args h v h' := by
  refine ⟨⟨f, setArgs .e 0 args, [.code fu.body], [], .run, false, none⟩, ?_, fun callers r q => ?_⟩
  · unfold beginFn
    simp only [hc, ble_iff.2 hl, cond_true]
  · obtain ⟨k, env', e1, vs, e2, e3⟩ := hr callers
    subst e3
    exact e1 r (ret_back hc e2 q)

/-- Answers that are known. -/
noncomputable def recL (L : List (St × AV × Hp)) (s : St) : Out :=
  match L with
  | [] => .fail ""
  | x :: l => open Classical in if s = x.1 then .done x.2.1 x.2.2 else recL l s

theorem recL_sound {P : Program} : ∀ {L : List (St × AV × Hp)}, (∀ x ∈ L, Ans P x.1 (.done x.2.1 x.2.2)) → Sound P (recL L)
  | [], _ => fun _ _ _ _ _ _ _ _ _ => trivial
  | x :: l, h => fun s φ w g c0 hs hR hz hF => by
    unfold recL
    split
    · rename_i e
      subst e
      exact h x (by simp) φ w g [] c0 hR hz hF (by rw [hs]; exact .nil)
    · exact recL_sound (fun y hy => h y (List.mem_cons_of_mem _ hy)) s φ w g c0 hs hR hz hF

theorem AmFn.ans {P : Program} {f : FuncId} {args : List AV} {h h' : Hp} {v : AV} (hf : AmFn P f args h v h') : ∃ fr, beginFn P f args = some fr ∧ Ans P ⟨fr, [], h⟩ (.done v h') := by
  obtain ⟨fr, e1, e2⟩ := hf
  exact ⟨fr, e1, e2 [] _ rfl⟩

/-! ### Slots by number -/

noncomputable abbrev tm (n : Nat) : Opd := .tmp (Pos.ofNat n)
noncomputable abbrev vl (v : AV) : Opd := .val v
noncomputable abbrev int64 (n : Int) : AV := .int .i64 n

/-- A slot's value. -/
noncomputable def sv (env : T AV) (n : Nat) : AV := ev env (tm n)

theorem ev_tm (env : T AV) (n : Nat) : ev env (.tmp (Pos.ofNat n)) = sv env n := rfl
theorem ev_vl (env : T AV) (v : AV) : ev env (.val v) = v := rfl

theorem sv_set (env : T AV) (m n : Nat) (v : AV) : sv (T.set (Pos.ofNat m) (some v) env) n = if n = m then v else sv env n := by
  unfold sv
  rw [ev_set]
  by_cases c : n = m
  · rw [if_pos c, if_pos (by rw [c])]
  · rw [if_neg c, if_neg fun e => c (Pos.ofNat_inj e)]

theorem sv_setD (env : T AV) (m n : Nat) (v : AV) : sv (setD env (some (Pos.ofNat m)) v) n = if n = m then v else sv env n := sv_set env m n v

theorem wanted_no (d : Option Pos) (op : AOp) (ok : Bool) (b : Nat) (env : T AV) : wantedA ⟨d, none, op, ok, b⟩ env = true := rfl

theorem wanted_sv (d : Option Pos) (n : Nat) (w : Bool) (op : AOp) (ok : Bool) (b : Nat) (env : T AV) : wantedA ⟨d, some (Pos.ofNat n, w), op, ok, b⟩ env = (match sv env n with | .bool x => bif w then x else !x | _ => false) := by
  have e : sv env n = (match T.get (Pos.ofNat n) env with | some v => v | none => .undef) := rfl
  rw [e]
  show (match T.get (Pos.ofNat n) env with | some (.bool b) => bif w then b else !b | _ => false) = _
  cases T.get (Pos.ofNat n) env with
  | none => rfl
  | some v => cases v <;> rfl

theorem setD_none (env : T AV) (v : AV) : setD env none v = env := rfl

theorem sv_args (xs : List AV) : ∀ (i n : Nat) (env : T AV), sv (setArgs env i xs) n = if h : i ≤ n ∧ n < i + xs.length then xs[n - i]'(by omega) else sv env n := by
  induction xs with
  | nil =>
    intro i n env
    rw [dif_neg (by simp)]
    rfl
  | cons x xs ih =>
    intro i n env
    unfold setArgs
    rw [T.setK_eq, ih, sv_set]
    by_cases c : n = i
    · subst c; simp; intro a; omega
    · by_cases d : i + 1 ≤ n ∧ n < i + 1 + xs.length
      · rw [dif_pos d, dif_pos ⟨by omega, by simp; omega⟩]
        rw [List.getElem_cons]
        rw [dif_neg (by omega)]
        congr 1
      · rw [dif_neg d, if_neg c, dif_neg]
        simp; omega

theorem sv_undef (n : Nat) : sv .e n = .undef := by
  have e : sv .e n = (match T.get (Pos.ofNat n) (T.e : T AV) with | some v => v | none => .undef) := rfl
  rw [e, T.get_e]

/-! ### Operations on numbers with variables -/

theorem cmpA_cases (x y : Int) : (x < y ∧ cmpA x y = .lt) ∨ (x = y ∧ cmpA x y = .eq) ∨ (y < x ∧ cmpA x y = .gt) := by
  rcases Int.lt_trichotomy x y with h | h | h
  · exact .inl ⟨h, by rw [cmpA_eq, if_pos h]⟩
  · exact .inr (.inl ⟨h, by rw [cmpA_eq, if_neg (by omega), if_pos h]⟩)
  · exact .inr (.inr ⟨h, by rw [cmpA_eq, if_neg (by omega), if_neg (by omega)]⟩)

section
variable (kd : EK) (no : Bool) (k : IntKind) (a b : Int)
theorem bin_add : binA .add kd no (.int k a) (.int k b) = some (.int k (wrapA k (a + b))) := by
  show (if k = k then intBin .add k a b else none) = _
  rw [if_pos rfl]; exact intK_eq (wrapA k (a + b)) fun r => some (AV.int k r)
theorem bin_sub : binA .sub kd no (.int k a) (.int k b) = some (.int k (wrapA k (a - b))) := by
  show (if k = k then intBin .sub k a b else none) = _
  rw [if_pos rfl]; exact intK_eq (wrapA k (a - b)) fun r => some (AV.int k r)
theorem bin_mul : binA .mul kd no (.int k a) (.int k b) = some (.int k (wrapA k (a * b))) := by
  show (if k = k then intBin .mul k a b else none) = _
  rw [if_pos rfl]; exact intK_eq (wrapA k (a * b)) fun r => some (AV.int k r)
theorem bin_quo (h : b ≠ 0) : binA .quo kd no (.int k a) (.int k b) = some (.int k (wrapA k (a.tdiv b))) := by
  show (if k = k then intBin .quo k a b else none) = _
  rw [if_pos rfl]
  match b, h with
  | .ofNat 0, h => exact absurd rfl h
  | .ofNat (n + 1), _ => exact intK_eq (wrapA k (a.tdiv (.ofNat (n + 1)))) fun r => some (AV.int k r)
  | .negSucc n, _ => exact intK_eq (wrapA k (a.tdiv (.negSucc n))) fun r => some (AV.int k r)
theorem bin_rem (h : b ≠ 0) : binA .rem kd no (.int k a) (.int k b) = some (.int k (a.tmod b)) := by
  show (if k = k then intBin .rem k a b else none) = _
  rw [if_pos rfl]
  match b, h with
  | .ofNat 0, h => exact absurd rfl h
  | .ofNat (n + 1), _ => exact intK_eq (a.tmod (.ofNat (n + 1))) fun r => some (AV.int k r)
  | .negSucc n, _ => exact intK_eq (a.tmod (.negSucc n)) fun r => some (AV.int k r)
theorem bin_lss : binA .lss kd no (.int k a) (.int k b) = some (.bool (decide (a < b))) := by
  show (if k = k then intBin .lss k a b else none) = _
  rw [if_pos rfl]
  unfold intBin
  rcases cmpA_cases a b with ⟨h, e⟩ | ⟨h, e⟩ | ⟨h, e⟩ <;> simp only [e, ordOp] <;> simp <;> omega
theorem bin_leq : binA .leq kd no (.int k a) (.int k b) = some (.bool (decide (a ≤ b))) := by
  show (if k = k then intBin .leq k a b else none) = _
  rw [if_pos rfl]
  unfold intBin
  rcases cmpA_cases a b with ⟨h, e⟩ | ⟨h, e⟩ | ⟨h, e⟩ <;> simp only [e, ordOp] <;> simp <;> omega
theorem bin_gtr : binA .gtr kd no (.int k a) (.int k b) = some (.bool (decide (b < a))) := by
  show (if k = k then intBin .gtr k a b else none) = _
  rw [if_pos rfl]
  unfold intBin
  rcases cmpA_cases a b with ⟨h, e⟩ | ⟨h, e⟩ | ⟨h, e⟩ <;> simp only [e, ordOp] <;> simp <;> omega
theorem bin_geq : binA .geq kd no (.int k a) (.int k b) = some (.bool (decide (b ≤ a))) := by
  show (if k = k then intBin .geq k a b else none) = _
  rw [if_pos rfl]
  unfold intBin
  rcases cmpA_cases a b with ⟨h, e⟩ | ⟨h, e⟩ | ⟨h, e⟩ <;> simp only [e, ordOp] <;> simp <;> omega
theorem bin_eql : binA .eql kd no (.int k a) (.int k b) = some (.bool (decide (a = b))) := by
  show (if k = k then intBin .eql k a b else none) = _
  rw [if_pos rfl]
  unfold intBin
  rcases cmpA_cases a b with ⟨h, e⟩ | ⟨h, e⟩ | ⟨h, e⟩ <;> simp only [e, ordOp] <;> simp <;> omega
theorem bin_neq : binA .neq kd no (.int k a) (.int k b) = some (.bool (decide (a ≠ b))) := by
  show (if k = k then intBin .neq k a b else none) = _
  rw [if_pos rfl]
  unfold intBin
  rcases cmpA_cases a b with ⟨h, e⟩ | ⟨h, e⟩ | ⟨h, e⟩ <;> simp only [e, ordOp] <;> simp <;> omega
end
theorem un_not (b : Bool) : unA .not (.bool b) = some (.bool (!b)) := by cases b <;> rfl
theorem un_neg (k : IntKind) (a : Int) : unA .neg (.int k a) = some (.int k (wrapA k (0 - a))) := intK_eq (wrapA k (0 - a)) fun r => some (AV.int k r)

section
variable (P : Program) (env : T AV) (h : Hp)
theorem qev_mov (x : Opd) : evalOp P (.mov x) env h = .val (ev env x) h := rfl
theorem qev_bin (op : BinOp) (kd : EK) (no : Bool) (x y : Opd) : evalOp P (.bin op kd no x y) env h = opt h "bin" (binA op kd no (ev env x) (ev env y)) := rfl
theorem qev_un (op : UnOp) (x : Opd) : evalOp P (.un op x) env h = opt h "un" (unA op (ev env x)) := rfl
theorem qev_mkFn (f : Fn) (a b : List Opd) : evalOp P (.mkFn f a b) env h = .val (.fn f (a.map (ev env)) (b.map (ev env))) h := rfl
theorem opt_some (why : String) (v : AV) : opt h why (some v) = .val v h := rfl
theorem qev_lenL (x : Opd) : evalOp P (.lenL x) env h = (match ev env x with | .sl _ _ _ len _ _ _ => .val (.int .i64 (.ofNat len)) h | .nilSl => .val (.int .i64 (.ofNat 0)) h | _ => .fail "len") := rfl
theorem qev_pick (c a b : Opd) : evalOp P (.pick c a b) env h = (match ev env c with | .bool true => .val (ev env a) h | .bool false => .val (ev env b) h | _ => .fail "pick") := rfl
theorem qev_load1 (a : Opd) : evalOp P (.load1 a) env h = (match ev env a with | .ptr id g off => opt h "load1" (read1 h id g off) | _ => .fail "load1 what") := rfl
end

theorem wrap64 {n : Int} (h1 : -9223372036854775808 ≤ n) (h2 : n < 9223372036854775808) : wrapA .i64 n = n := by
  rw [wrapA_eq]
  unfold IntKind.wrap
  simp only [IntKind.bits, IntKind.signed]
  have e : (2 : Int) ^ 64 = 18446744073709551616 := by decide
  have e' : (2 : Int) ^ (64 - 1) = 9223372036854775808 := by decide
  simp only [e, e', Bool.true_and, decide_eq_true_eq, ge_iff_le]
  split <;> omega

/-! ### Slices -/

/-- Cells that read so. -/
structure Row (h : Hp) (id : Pos) (g off : Nat) (l : List AV) : Prop where
  old : id.num < h.next.num
  all : ∃ c, readN h id g off l.length = some c ∧ c.wf ∧ c.toL = l
  one : ∀ i, i < l.length → read1 h id g (off + i) = l[i]?

/-- The heap goes on: what was there is there. -/
structure More (h h' : Hp) : Prop where
  next : h.next.num ≤ h'.next.num
  same : ∀ id, id.num < h.next.num → T.get id h'.heap = T.get id h.heap

theorem More.refl (h : Hp) : More h h := ⟨Nat.le_refl _, fun _ _ => rfl⟩
theorem More.trans {h h' h'' : Hp} (a : More h h') (b : More h' h'') : More h h'' := ⟨Nat.le_trans a.next b.next, fun id k => (b.same id (Nat.lt_of_lt_of_le k a.next)).trans (a.same id k)⟩

theorem readN_same {h h' : Hp} {id : Pos} (e : T.get id h'.heap = T.get id h.heap) (g off n : Nat) : readN h' id g off n = readN h id g off n := by
  unfold readN; rw [e]

theorem read1_same {h h' : Hp} {id : Pos} (e : T.get id h'.heap = T.get id h.heap) (g off : Nat) : read1 h' id g off = read1 h id g off := by
  unfold read1; rw [e]

theorem Row.more {h h' : Hp} {id : Pos} {g off : Nat} {l : List AV} (r : Row h id g off l) (m : More h h') : Row h' id g off l :=
  ⟨Nat.lt_of_lt_of_le r.old m.next, by rw [readN_same (m.same id r.old)]; exact r.all, fun i hi => by rw [read1_same (m.same id r.old)]; exact r.one i hi⟩

/-- A slice of elements of one cell. -/
inductive SlR (h : Hp) : AV → List AV → Prop where
  | nil : SlR h .nilSl []
  | emp {id : Pos} {g off : Nat} : SlR h (.sl id g off 0 0 true 1) []
  | mk {id : Pos} {g off n cap : Nat} {ex : Bool} {l : List AV} (hn : n = l.length) (r : Row h id g off l) : SlR h (.sl id g off n cap ex 1) l

theorem SlR.more {h h' : Hp} {v : AV} {l : List AV} (r : SlR h v l) (m : More h h') : SlR h' v l := by
  cases r with
  | nil => exact .nil
  | emp => exact .emp
  | mk hn r => exact .mk hn (r.more m)

theorem Row.of_block {h : Hp} {id : Pos} {ser lo hh g m off n : Nat} {c : Cells} {ro fz : Bool} (hb : T.get id h.heap = some (.cells ser c lo hh g m ro fz)) (hw : c.wf) (hid : id.num < h.next.num) (h1 : lo ≤ off) (h2 : off + n ≤ c.size) :
    Row h id g off ((c.toL.drop off).take n) := by
  have hl : ((c.toL.drop off).take n).length = n := by
    rw [List.length_take, List.length_drop, Cells.toL_length hw]; omega
  refine ⟨hid, ?_, fun i hi => ?_⟩
  · rw [hl]
    unfold readN
    cases hn : Nat.beq n 0 with
    | true =>
      have hn := beq_iff.1 hn
      subst hn
      exact ⟨.lst 0 [], rfl, rfl, by simp [Cells.toL]⟩
    | false =>
      have e : seeable c lo hh g m g off n = true := by
        unfold seeable
        rw [beq_iff.2 rfl, ble_iff.2 h1, show Nat.ble (Nat.add off n) c.size = true from ble_iff.2 h2]; rfl
      obtain ⟨q1, q2, q3⟩ := Cells.sub_spec hw h2
      refine ⟨c.sub off n, ?_, q1, q2⟩
      simp only [hb, e, cond_true, cond_false]
  · rw [hl] at hi
    unfold read1
    have e : seeable c lo hh g m g (off + i) 1 = true := by
      unfold seeable
      rw [beq_iff.2 rfl, ble_iff.2 (show lo ≤ off + i by omega), show Nat.ble (Nat.add (off + i) 1) c.size = true from ble_iff.2 (show off + i + 1 ≤ c.size by omega)]; rfl
    simp only [hb, e, cond_true]
    rw [Cells.get_eq hw, List.getElem?_take_of_lt hi, List.getElem?_drop]

section
variable (P : Program) (env : T AV) (h : Hp)
noncomputable def idx2 (es : Nat) (x i : AV) (h : Hp) : Res :=
  match x, i with
  | .sl id g off len _ _ es', .int _ (.ofNat i) =>
    bif Nat.blt i len && Nat.beq es es' then natK (Nat.add off (Nat.mul i es)) fun o => .val (.ptr id g o) h else .fail "idxAddrSl bounds"
  | _, _ => .fail "idxAddrSl"

theorem qev_idxSl (es : Nat) (x i : Opd) : evalOp P (.idxAddrSl es x i) env h = idx2 es (ev env x) (ev env i) h := rfl

theorem idx2_sl (es es' : Nat) (id : Pos) (g off len cap : Nat) (ex : Bool) (k : IntKind) (z : Int) :
    idx2 es (.sl id g off len cap ex es') (.int k z) h = if 0 ≤ z ∧ z < (len : Int) ∧ es = es' then .val (.ptr id g (off + z.toNat * es)) h else .fail (if 0 ≤ z then "idxAddrSl bounds" else "idxAddrSl") := by
  cases z with
  | ofNat n =>
    unfold idx2
    simp only [natK_eq]
    by_cases c : n < len
    · by_cases d : es = es'
      · rw [blt_iff.2 c, beq_iff.2 d, if_pos ⟨by simp, by simpa using c, d⟩]; rfl
      · rw [beq_false.2 d, Bool.and_false, if_neg fun q => d q.2.2]; simp
    · rw [blt_false.2 (by omega), if_neg fun q => c (by simpa using q.2.1)]; simp
  | negSucc n =>
    rw [if_neg (by simp), if_neg (by simp)]
    rfl

theorem qev_lenI (x : Opd) : evalOp P (.lenL x) env h = (match ev env x with | .sl _ _ _ len _ _ _ => .val (.int .i64 (len : Int)) h | .nilSl => .val (.int .i64 0) h | _ => .fail "len") := rfl
end

/-! ### Regions that draw their order -/

noncomputable def kD (env : T AV) (h : Hp) : Out := .next ⟨⟨0, env, [], [], .run, false, none⟩, [], h⟩

noncomputable def outD : Out → Option (T AV × Hp)
  | .next s => some (s.cur.env, s.hp)
  | _ => none

theorem actK_or (P : Program) (rec : St → Out) (op : AOp) (env : T AV) (h : Hp) : (∃ v h', ∀ k, actK P rec op env h k = k v h') ∨ ∃ why, ∀ k, actK P rec op env h k = .fail why := by
  have of : ∀ (o : Out), (∃ v h', ∀ k : AV → Hp → Out, (match o with | .done v h => k v h | .next _ => Out.fail "drawn fuel" | .fail why => Out.fail why : Out) = k v h') ∨
      ∃ why, ∀ k : AV → Hp → Out, (match o with | .done v h => k v h | .next _ => Out.fail "drawn fuel" | .fail why => Out.fail why : Out) = .fail why := fun o => by
    cases o with
    | done v h => exact .inl ⟨v, h, fun _ => rfl⟩
    | next s => exact .inr ⟨_, fun _ => rfl⟩
    | fail why => exact .inr ⟨_, fun _ => rfl⟩
  unfold actK
  cases evalOp P op env h with
  | val v h' => exact .inl ⟨v, h', fun _ => rfl⟩
  | enter f args h' =>
    simp only
    cases beginFn P f args with
    | none => exact .inr ⟨_, fun _ => rfl⟩
    | some fr => exact of (rec ⟨fr, [], h'⟩)
  | round l args =>
    simp only
    cases beginRound h l args with
    | none => exact .inr ⟨_, fun _ => rfl⟩
    | some fr => exact of (rec ⟨fr, [], h⟩)
  | defer f args => exact .inr ⟨_, fun _ => rfl⟩
  | recover => exact .inr ⟨_, fun _ => rfl⟩
  | panic v => exact .inr ⟨_, fun _ => rfl⟩
  | fail why => exact .inr ⟨_, fun _ => rfl⟩

theorem drawnGo_K {P : Program} {rec : St → Out} {K : T AV → Hp → Out} {env' : T AV} {h' : Hp} : ∀ {l : List O} {i : Nat} {acts : List Actor} {lds : List Ld} {als : List Al} {rid : Pos} {env : T AV} {h : Hp},
    outD (drawnGo P rec kD i acts lds als rid env h l) = some (env', h') → drawnGo P rec K i acts lds als rid env h l = K env' h'
  | [], i, acts, lds, als, rid, env, h, e => by
    unfold drawnGo at e ⊢
    rw [insAll_eq] at e ⊢
    cases e; rfl
  | o :: l, i, acts, lds, als, rid, env, h, e => by
    unfold drawnGo at e ⊢
    revert e
    cases kindOf o.op with
    | still =>
      simp only
      cases wantedA o env with
      | false => simp only [cond_false, setDst_eq]; exact drawnGo_K
      | true =>
        simp only [cond_true]
        cases evalOp P o.op env h with
        | val v h2 => simp only [setDst_eq]; exact drawnGo_K
        | _ => intro e; cases e
    | load =>
      simp only
      cases wantedA o env with
      | false => simp only [cond_false, setDst_eq]; exact drawnGo_K
      | true =>
        simp only [cond_true]
        cases evalOp P o.op env h with
        | val v h2 =>
          simp only
          cases lookBack P o.op env v o.before acts with
          | true => simp only [cond_true, setDst_eq]; exact drawnGo_K
          | false => intro e; cases e
        | _ => intro e; cases e
    | alloc =>
      simp only
      cases wantedA o env with
      | false => simp only [cond_false, setDst_eq]; exact drawnGo_K
      | true =>
        simp only [cond_true]
        cases evalOp P o.op env ⟨.e, rid, h.ser, rid.num + 1⟩ with
        | val v h2 =>
          simp only
          cases T.get rid h2.heap with
          | some b => simp only [setDst_eq]; exact drawnGo_K
          | none => simp only [setDst_eq]; exact drawnGo_K
        | _ => intro e; cases e
    | actor =>
      simp only
      cases wantedA o env with
      | false => simp only [cond_false, setDst_eq]; exact drawnGo_K
      | true =>
        simp only [cond_true, insK_eq]
        rcases actK_or P rec o.op env ⟨insT o.before als h.heap, h.next, h.ser, h.lim⟩ with ⟨v, h2, q⟩ | ⟨why, q⟩
        · rw [q, q]
          cases lookAgain P h2 o.before lds with
          | true => simp only [cond_true, setDst_eq]; exact drawnGo_K
          | false => intro e; cases e
        · rw [q, q]; intro e; cases e

/-- A region that draws its order. -/
noncomputable def runDrawn (P : Program) (rec : St → Out) (l : List O) (env : T AV) (h : Hp) : Option (T AV × Hp) :=
  outD (drawnGo P rec kD 0 [] [] [] h.next env ⟨h.heap, skipIds l h.next, h.ser, h.lim⟩ l)

theorem leads_drawn {P : Program} {rec : St → Out} (hrec : Sound P rec) {cx : Cx} {k : List Item} {env env' : T AV} {h h' : Hp} {l : List O} (e : runDrawn P rec l env h = some (env', h')) :
    Leads P (sOf cx (.code (.drawn l) :: k) env h) (sOf cx k env' h') := by
  refine leads_step hrec ?_
  have q := drawnGo_K (K := fun env h => .next (sOf cx k env h)) e
  unfold step
  simp only [sOf] at q ⊢
  exact q

/-! ### Calls -/

noncomputable def okCall (P : Program) (f : FuncId) : Bool :=
  match P.funcs[f]? with
  | some fn => fn.body.isSome && !(fn.name == "runtime.NumGoroutine")
  | none => false

theorem callA_ok {P : Program} {f : FuncId} (hc : okCall P f = true) (h : Hp) (args : List AV) : callA P h f args = .enter f args h := by
  unfold okCall at hc
  split at hc
  · rename_i fn hf
    simp only [Bool.and_eq_true, Bool.not_eq_true'] at hc
    unfold callA
    simp only [hf]
    cases hb : fn.body with
    | none => rw [hb] at hc; cases hc.1
    | some b =>
      simp only
      unfold enterA
      simp only [hf, hb, hc.2, cond_false]
  · cases hc

theorem qev_callv (P : Program) (env : T AV) (h : Hp) (f : Opd) (args : List Opd) : evalOp P (.call (.value f) args) env h = (match ev env f with
    | .fn (.func f) first captured => callA P h f (first ++ (args.map (ev env) ++ captured))
    | .yield l => .round l (args.map (ev env))
    | _ => .fail "call what") := rfl

/-! ### To a function's end -/

/-- From s the function comes back with v. -/
def AmEnds (P : Program) (callers : List Fr) (s : St) (v : AV) (h' : Hp) : Prop := ∀ r, AnsO P (backTo v callers h') r → Ans P s r

theorem Leads.ends {P : Program} {callers : List Fr} {s s' : St} {v : AV} {h' : Hp} (a : Leads P s s') (b : AmEnds P callers s' v h') : AmEnds P callers s v h' := fun r q => a r (b r q)

theorem ends_ret {P : Program} {f : FuncId} {callers : List Fr} {k : List Item} {env : T AV} {h : Hp} {fu : Fu} {vs : List AV} {v : AV} (hc : compFn P f = some fu) (hm : mapO (result1 env h) fu.results = some vs) (hv : tupleA vs = v) :
    AmEnds P callers (sOf (cxF f callers) (.code .ret :: k) env h) v h := fun r q => ret_back hc hm (by rw [hv]; exact q)

theorem ends_nil {P : Program} {f : FuncId} {callers : List Fr} {env : T AV} {h : Hp} {fu : Fu} {vs : List AV} {v : AV} (hc : compFn P f = some fu) (hm : mapO (result1 env h) fu.results = some vs) (hv : tupleA vs = v) :
    AmEnds P callers (sOf (cxF f callers) [] env h) v h := fun r q => end_out hc hm (by rw [hv]; exact q)

theorem AmFn.ends {P : Program} {f : FuncId} {args : List AV} {h h' : Hp} {v : AV} {fu : Fu} (hc : compFn P f = some fu) (hl : args.length ≤ fu.nargs)
    (hr : ∀ callers, AmEnds P callers (sOf (cxF f callers) [.code fu.body] (setArgs .e 0 args) h) v h') : AmFn P f args h v h' := by
  refine ⟨⟨f, setArgs .e 0 args, [.code fu.body], [], .run, false, none⟩, ?_, fun callers r q => hr callers r q⟩
  unfold beginFn
  simp only [hc, ble_iff.2 hl, cond_true]

/-- A function of one result, in a slot. -/
theorem ends_ret1 {P : Program} {f : FuncId} {callers : List Fr} {k : List Item} {env : T AV} {h : Hp} {n na : Nat} {b : C} {v : AV} (hc : compFn P f = some ⟨[.tmp (Pos.ofNat n)], na, b⟩) (hv : sv env n = v) :
    AmEnds P callers (sOf (cxF f callers) (.code .ret :: k) env h) v h := ends_ret hc (vs := [sv env n]) rfl hv

theorem SlR.sl_or {h : Hp} {v : AV} {l : List AV} (r : SlR h v l) {x : AV} (hx : x ∈ l) : ∃ id g off cap ex, v = .sl id g off l.length cap ex 1 ∧ Row h id g off l := by
  cases r with
  | nil => cases hx
  | emp => cases hx
  | mk hn r => subst hn; exact ⟨_, _, _, _, _, rfl, r⟩

/-- The length of a slice, as an operation says it. -/
theorem SlR.len {h : Hp} {v : AV} {l : List AV} (r : SlR h v l) (P : Program) (env : T AV) (x : Opd) (hx : ev env x = v) : evalOp P (.lenL x) env h = .val (int64 (l.length : Int)) h := by
  rw [qev_lenI, hx]
  cases r with
  | nil => rfl
  | emp => rfl
  | mk hn r => subst hn; rfl

end Go.Proofs.Ytmifpiglcphmoaa.Am

namespace Go.Proofs.Ytmifpiglcphmoaa.Am
open Go.RowKit

/-- The heap goes on, but for some blocks that were there. -/
structure Only (S : List Pos) (h h' : Hp) : Prop where
  next : h.next.num ≤ h'.next.num
  lim : h'.lim = h.lim
  same : ∀ id, id.num < h.next.num → id ∉ S → T.get id h'.heap = T.get id h.heap

theorem Only.refl (S : List Pos) (h : Hp) : Only S h h := ⟨Nat.le_refl _, rfl, fun _ _ _ => rfl⟩
theorem Only.trans {S : List Pos} {h h' h'' : Hp} (a : Only S h h') (b : Only S h' h'') : Only S h h'' :=
  ⟨Nat.le_trans a.next b.next, b.lim.trans a.lim, fun id k q => (b.same id (Nat.lt_of_lt_of_le k a.next) q).trans (a.same id k q)⟩
theorem Only.mono {S S' : List Pos} {h h' : Hp} (a : Only S h h') (hs : ∀ id, id ∈ S → id ∈ S' ∨ h.next.num ≤ id.num) : Only S' h h' :=
  ⟨a.next, a.lim, fun id k q => a.same id k fun c => by rcases hs id c with r | r; exact q r; omega⟩
theorem Only.more {h h' : Hp} (a : Only [] h h') : More h h' := ⟨a.next, fun id k => a.same id k (by simp)⟩

theorem Row.only {S : List Pos} {h h' : Hp} {id : Pos} {g off : Nat} {l : List AV} (r : Row h id g off l) (m : Only S h h') (hs : id ∉ S) : Row h' id g off l :=
  ⟨Nat.lt_of_lt_of_le r.old m.next, by rw [readN_same (m.same id r.old hs)]; exact r.all, fun i hi => by rw [read1_same (m.same id r.old hs)]; exact r.one i hi⟩

/-- A variable of one cell in memory. -/
structure Box (h : Hp) (id : Pos) (x : AV) : Prop where
  old : id.num < h.next.num
  mem : ∃ ser fz, T.get id h.heap = some (.cells ser (Cells.ofL [x]) 0 0 0 0 false fz)

theorem Box.only {S : List Pos} {h h' : Hp} {id : Pos} {x : AV} (b : Box h id x) (m : Only S h h') (hs : id ∉ S) : Box h' id x :=
  ⟨Nat.lt_of_lt_of_le b.old m.next, by rw [m.same id b.old hs]; exact b.mem⟩

theorem Box.load {h : Hp} {id : Pos} {x : AV} (b : Box h id x) : read1 h id 0 0 = some x := by
  obtain ⟨ser, fz, e⟩ := b.mem
  unfold read1
  obtain ⟨q1, q2, q3⟩ := Cells.ofL_spec [x]
  have s : seeable (Cells.ofL [x]) 0 0 0 0 0 0 1 = true := by
    unfold seeable
    rw [q3]; rfl
  simp only [e, s, cond_true]
  rw [Cells.get_eq q1, q2]; rfl

noncomputable def newH (h : Hp) (b : Nat → Blk) : Hp := ⟨T.set h.next (some (b h.ser)) h.heap, h.next.succ, Nat.succ h.ser, h.lim⟩

theorem newK_newH {β : Type} (h : Hp) (b : Nat → Blk) (k : Pos → Hp → β) : newK h b k = k h.next (newH h b) := newK_eq h b k

theorem newH_only (S : List Pos) (h : Hp) (b : Nat → Blk) : Only S h (newH h b) :=
  ⟨by show _ ≤ h.next.succ.num; rw [Pos.num_succ]; omega, rfl, fun id k _ => by
    show T.get id (T.set h.next _ h.heap) = _
    rw [T.get_set, if_neg fun e => by rw [e] at k; omega]⟩

theorem newH_get (h : Hp) (b : Nat → Blk) : T.get h.next (newH h b).heap = some (b h.ser) := by
  show T.get h.next (T.set h.next _ h.heap) = _
  rw [T.get_set, if_pos rfl]

theorem newH_next (h : Hp) (b : Nat → Blk) : (newH h b).next.num = h.next.num + 1 := Pos.num_succ _

noncomputable def newB (h : Hp) (x : AV) : Hp := newH h fun s => .cells s (Cells.ofL [x]) 0 0 0 0 false false

theorem newB_box (h : Hp) (x : AV) : Box (newB h x) h.next x := ⟨by unfold newB; rw [newH_next]; omega, _, _, newH_get h _⟩

/-- A variable written. -/
noncomputable def putB (h : Hp) (id : Pos) (x : AV) : Hp :=
  ⟨T.set id ((T.get id h.heap).map fun b => match b with | .cells ser _ lo hi g m ro fz => .cells ser (Cells.ofL [x]) lo hi g m ro fz | b => b) h.heap, h.next, h.ser, h.lim⟩

theorem putB_only (h : Hp) (id : Pos) (x : AV) : Only [id] h (putB h id x) := ⟨Nat.le_refl _, rfl, fun j _ q => by
  show T.get j (T.set id _ h.heap) = _
  rw [T.get_set, if_neg (by simpa using q)]⟩

theorem putB_box {h : Hp} {id : Pos} {x : AV} (b : Box h id x) (y : AV) : Box (putB h id y) id y := by
  obtain ⟨ser, fz, e⟩ := b.mem
  refine ⟨b.old, ser, fz, ?_⟩
  show T.get id (T.set id _ h.heap) = _
  rw [T.get_set, if_pos rfl, e]; rfl

section
variable (P : Program) (env : T AV) (h : Hp)
theorem qev_new1 (x : AV) : evalOp P (.new [x]) env h = .val (.ptr h.next 0 0) (newB h x) := by
  show newCells h (Cells.ofL [x]) _ = _
  unfold newCells
  rw [newK_newH]; rfl

theorem qev_box (x : Opd) (hx : (ev env x).cells = [ev env x]) : evalOp P (.box x) env h = .val (.ptr h.next 0 0) (newB h (ev env x)) := by
  show newCells h (Cells.ofL (ev env x).cells) _ = _
  rw [hx]
  unfold newCells
  rw [newK_newH]; rfl

noncomputable def storeR (a v : AV) (h : Hp) : Res :=
  match a with
  | .ptr id g off => bif Nat.beq v.cells.length 1 then writeN h id g off (Cells.ofL v.cells) fun h => .val .undef h else .fail "store size"
  | _ => .fail "store what"

theorem qev_store1 (a x : Opd) : evalOp P (.store 1 a x) env h = storeR (ev env a) (ev env x) h := rfl

theorem storeR_box {h : Hp} {id : Pos} {x : AV} (b : Box h id x) (y : AV) (ha : y.atom = true) (hc : y.cells = [y]) : storeR (.ptr id 0 0) y h = .val .undef (putB h id y) := by
  obtain ⟨ser, fz, e⟩ := b.mem
  unfold storeR
  simp only [hc]
  unfold writeN putB
  simp only [e, ofL_size1, ofL_atoms ha, T.setK_eq, splice1 (ofL_size1 x) (ofL_size1 y)]
  rfl
end

/-! ### Goings over by a function -/

/-- What a round of a loop over a function comes to. -/
def RoundFn (P : Program) (l : Pos) (args : List AV) (h : Hp) (v : AV) (h' : Hp) : Prop :=
  ∃ fr, beginRound h l args = some fr ∧ ∀ callers r, AnsO P (backTo v callers h') r → Ans P ⟨fr, callers, h⟩ r

theorem leads_round {P : Program} {cx : Cx} {env : T AV} {h h' : Hp} {k : List Item} {o : O} {rest : List O} {l : Pos} {args : List AV} {v : AV} (ho : o.ok = true) (hw : wantedA o env = true)
    (he : evalOp P o.op env h = .round l args) (hf : RoundFn P l args h v h') : Leads P (sOf cx (.ops (o :: rest) :: k) env h) (sOf cx (.ops rest :: k) (setD env o.dst v) h') := by
  obtain ⟨fr, e1, e2⟩ := hf
  intro r q
  refine Ans.step (noRec_sound P) (s' := ⟨fr, ⟨cx.fn, env, .ops (o :: rest) :: k, cx.defers, .run, cx.dk, cx.round⟩ :: cx.callers, h⟩) ?_ (e2 _ r (back_give ho r q))
  unfold step
  simp only [sOf, ho, hw, he, Bool.not_true, cond_false, cond_true, apply, e1]

/-- A round's frame. -/
def cxR (f : FuncId) (l : Pos) (callers : List Fr) : Cx := ⟨noRec, f, [], false, some l, callers⟩

/-- A loop's block. -/
structure LoopAt (h : Hp) (l : Pos) (st : LState) (fn : FuncId) (env : T AV) (params : List Pos) (assign body : C) : Prop where
  old : l.num < h.next.num
  mem : ∃ ser around, T.get l h.heap = some (.loop ser st none fn env params assign body around)

noncomputable def putL (h : Hp) (l : Pos) (st : LState) : Hp :=
  ⟨T.set l ((T.get l h.heap).map fun b => match b with | .loop ser _ p fn env params assign body around => .loop ser st p fn env params assign body around | b => b) h.heap, h.next, h.ser, h.lim⟩

theorem putL_only (h : Hp) (l : Pos) (st : LState) : Only [l] h (putL h l st) := ⟨Nat.le_refl _, rfl, fun j _ q => by
  show T.get j (T.set l _ h.heap) = _
  rw [T.get_set, if_neg (by simpa using q)]⟩

section
variable {P : Program} {h h' : Hp} {l : Pos} {st : LState} {fn : FuncId} {env : T AV} {params : List Pos} {assign body : C}

theorem LoopAt.only {S : List Pos} (a : LoopAt h l st fn env params assign body) (m : Only S h h') (hs : l ∉ S) : LoopAt h' l st fn env params assign body :=
  ⟨Nat.lt_of_lt_of_le a.old m.next, by rw [m.same l a.old hs]; exact a.mem⟩

theorem LoopAt.put (a : LoopAt h l st fn env params assign body) (st' : LState) : LoopAt (putL h l st') l st' fn env params assign body := by
  obtain ⟨ser, ar, e⟩ := a.mem
  refine ⟨a.old, ser, ar, ?_⟩
  show T.get l (T.set l _ h.heap) = _
  rw [T.get_set, if_pos rfl, e]; rfl

theorem setLoop_at (a : LoopAt h l st fn env params assign body) {ok : LState → Bool} (hok : ok st = true) (st' : LState) {pend : Option C → Option C} (hp : pend none = none) (k : Option C → Hp → Out) :
    setLoop h l ok st' pend k = k none (putL h l st') := by
  obtain ⟨ser, ar, e⟩ := a.mem
  unfold setLoop putL
  simp only [e, hok, cond_true, hp, T.setK_eq]
  rfl

/-- A round, from its beginning to its end by itself. -/
theorem RoundFn.intro {args : List AV} {env0 : T AV} (a : LoopAt h l .ready fn env params assign body) (hs : setParams env params args = some env0)
    (hr : ∀ callers, ∃ env1 h1 env2 h2, Leads P (sOf (cxR fn l callers) [.code assign, .beginRound, .code body] env0 h) (sOf (cxR fn l callers) [.beginRound, .code body] env1 h1) ∧ LoopAt h1 l .ready fn env params assign body ∧
      Leads P (sOf (cxR fn l callers) [.code body] env1 (putL h1 l .busy)) (sOf (cxR fn l callers) [] env2 h2) ∧ LoopAt h2 l .busy fn env params assign body ∧ h' = putL h2 l .ready) : RoundFn P l args h (.bool true) h' := by
  refine ⟨⟨fn, env0, [.code assign, .beginRound, .code body], [], .run, false, some l⟩, ?_, fun callers r q => ?_⟩
  · obtain ⟨ser, ar, e⟩ := a.mem
    unfold beginRound
    simp only [e, hs]
  · obtain ⟨env1, h1, env2, h2, L1, a1, L2, a2, e⟩ := hr callers
    subst e
    refine L1 r (Ans.step (noRec_sound P) (s' := sOf (cxR fn l callers) [.code body] env1 (putL h1 l .busy)) ?_ (L2 r (ans_out (noRec_sound P) ?_)))
    · unfold step
      simp only [sOf, cxR]
      rw [setLoop_at a1 rfl _ rfl]
    · have e : step P noRec (sOf (cxR fn l callers) [] env2 h2) = backTo (.bool true) callers (putL h2 l .ready) := by
        unfold step
        simp only [sOf, cxR, leaveRound]
        rw [setLoop_at a2 rfl _ rfl]
        rfl
      rw [e]; exact q
end

noncomputable def dfrH (h : Hp) : Hp := newH h fun s => .dfr s
noncomputable def loopH (h : Hp) (fn : FuncId) (env : T AV) (params : List Pos) (assign body : C) (around : Pos) : Hp := newH h fun s => .loop s .ready none fn env params assign body around

/-- A going over by a function, from its beginning to its end. -/
theorem leads_range {P : Program} {cx : Cx} (hcr : cx.round = none) {env : T AV} {h h3 : Hp} {k : List Item} {f : Opd} {params : List Pos} {assign body : C} {g : FuncId} {first captured : List AV} {v : AV} (hk : okCall P g = true)
    (hf : ev env f = .fn (.func g) first captured)
    (hg : AmFn P g (first ++ (.yield (dfrH h).next :: captured)) (loopH (dfrH h) cx.fn env params assign body h.next) v h3)
    (ha : LoopAt h3 (dfrH h).next .ready cx.fn env params assign body) :
    Leads P (sOf cx (.code (.rangeFunc f params assign body) :: k) env h) (sOf ⟨cx.fall, cx.fn, .mark h.next :: cx.defers, cx.dk, cx.round, cx.callers⟩ k env (putL h3 (dfrH h).next .exhausted)) := by
  obtain ⟨fr, e1, e2⟩ := hg
  intro r q
  have en : enterA P (loopH (dfrH h) cx.fn env params assign body h.next) g (first ++ (.yield (dfrH h).next :: captured)) = .enter g (first ++ (.yield (dfrH h).next :: captured)) (loopH (dfrH h) cx.fn env params assign body h.next) := by
    unfold okCall at hk
    split at hk
    · rename_i fn hfn
      simp only [Bool.and_eq_true, Bool.not_eq_true'] at hk
      unfold enterA
      cases hb : fn.body with
      | none => rw [hb] at hk; cases hk.1
      | some b => simp only [hfn, hb, hk.2, cond_false]
    · cases hk
  refine Ans.step (noRec_sound P) (s' := ⟨fr, ⟨cx.fn, env, .inRange (dfrH h).next :: k, .mark h.next :: cx.defers, .run, cx.dk, cx.round⟩ :: cx.callers, loopH (dfrH h) cx.fn env params assign body h.next⟩) ?_ (e2 _ r ?_)
  · unfold step
    simp only [sOf, hcr, newK_newH, hf]
    have en' := en
    unfold dfrH loopH at en'
    simp only [en', apply]
    unfold dfrH at e1
    simp only [e1]
    rfl
  · show Ans P (sOf ⟨cx.fall, cx.fn, .mark h.next :: cx.defers, cx.dk, cx.round, cx.callers⟩ (.endRange (dfrH h).next :: k) env h3) r
    refine Ans.step (noRec_sound P) (s' := sOf ⟨cx.fall, cx.fn, .mark h.next :: cx.defers, cx.dk, cx.round, cx.callers⟩ k env (putL h3 (dfrH h).next .exhausted)) ?_ q
    unfold step
    simp only [sOf]
    rw [setLoop_at ha rfl _ rfl]

theorem SlR.only {S : List Pos} {h h' : Hp} {v : AV} {l : List AV} (r : SlR h v l) (m : Only S h h') (hs : ∀ id g off n cap ex, v = .sl id g off n cap ex 1 → id ∉ S) : SlR h' v l := by
  cases r with
  | nil => exact .nil
  | emp => exact .emp
  | mk hn r => exact .mk hn (r.only m (hs _ _ _ _ _ _ rfl))

noncomputable def remH (h : Hp) (r : Pos) : Hp := ⟨T.set r none h.heap, h.next, h.ser, h.lim⟩

theorem remH_only (h : Hp) (r : Pos) : Only [r] h (remH h r) := ⟨Nat.le_refl _, rfl, fun j _ q => by
  show T.get j (T.set r _ h.heap) = _
  rw [T.get_set, if_neg (by simpa using q)]⟩

/-- A function that went over something, at its end. -/
theorem ends_retM {P : Program} {f : FuncId} {callers : List Fr} {k : List Item} {env : T AV} {h : Hp} {fu : Fu} {vs : List AV} {v : AV} {r : Pos} (hc : compFn P f = some fu) (hd : ∃ s, T.get r h.heap = some (.dfr s))
    (hm : mapO (result1 env (remH h r)) fu.results = some vs) (hv : tupleA vs = v) :
    AmEnds P callers (sOf ⟨noRec, f, [.mark r], false, none, callers⟩ (.code .ret :: k) env h) v (remH h r) := by
  intro x q
  obtain ⟨s, hd⟩ := hd
  refine Ans.step (noRec_sound P) (s' := ⟨⟨f, env, .code .ret :: k, [.mark r], .ret, false, none⟩, callers, h⟩) rfl ?_
  refine Ans.step (noRec_sound P) (s' := ⟨⟨f, env, .code .ret :: k, [], .ret, false, none⟩, callers, remH h r⟩) ?_ (ans_out (noRec_sound P) ?_)
  · unfold step
    simp only [unwindA, hd, T.setK_eq]
    rfl
  · have e : step P noRec ⟨⟨f, env, .code .ret :: k, [], .ret, false, none⟩, callers, remH h r⟩ = backTo (tupleA vs) callers (remH h r) := by
      unfold step
      simp only [unwindA, hc, hm, cond_false]
    rw [e, hv]; exact q

/-! ### Slices made -/

theorem Row.nil {h : Hp} {id : Pos} (hid : id.num < h.next.num) (g off : Nat) : Row h id g off [] := ⟨hid, ⟨.lst 0 [], rfl, rfl, rfl⟩, fun i hi => by simp at hi⟩

theorem newH_row {h : Hp} {c : Cells} (hw : c.wf) {ser : Nat → Nat} {fz : Bool} : Row (newH h fun s => .cells (ser s) c 0 0 0 0 false fz) h.next 0 0 c.toL := by
  have q := Row.of_block (h := newH h fun s => .cells (ser s) c 0 0 0 0 false fz) (id := h.next) (off := 0) (n := c.size) (newH_get h _) hw (by rw [newH_next]; omega) (Nat.le_refl _) (by omega)
  rw [List.drop_zero, List.take_of_length_le (by rw [Cells.toL_length hw]; omega)] at q
  exact q

/-- Appended to nothing: a new row. -/
theorem append_new (P : Program) {env : T AV} {h : Hp} {s x : Opd} {v : AV} {l : List AV} {bytes : Nat} (hx : ev env x = v) (hv : SlR h v l) (hl : l.length ≤ 1073741824) (hb : bytes ≤ 4096)
    (hs : ev env s = .nilSl ∨ ∃ id g off, ev env s = .sl id g off 0 0 true 1 ∧ id.num < h.next.num) :
    ∃ v' h', evalOp P (.append 1 bytes s x) env h = .val v' h' ∧ SlR h' v' l ∧ Only [] h h' ∧
      ((l = [] ∧ v' = ev env s ∧ h' = h) ∨ ∃ n, v' = .sl h.next 0 0 n n false 1 ∧ n = l.length ∧ h'.next.num = h.next.num + 1) := by
  have e : evalOp P (.append 1 bytes s x) env h = appendA h 1 bytes (ev env s) (ev env x) := rfl
  rw [e, hx]
  cases hv with
  | nil =>
    rcases hs with hs | ⟨id, g, off, hs, hid⟩
    · exact ⟨_, h, by rw [hs]; rfl, .nil, Only.refl _ _, .inl ⟨rfl, hs.symm, rfl⟩⟩
    · exact ⟨_, h, by rw [hs]; rfl, .mk rfl (Row.nil hid _ _), Only.refl _ _, .inl ⟨rfl, hs.symm, rfl⟩⟩
  | emp =>
    rcases hs with hs | ⟨id, g, off, hs, hid⟩
    · exact ⟨_, h, by rw [hs]; rfl, .nil, Only.refl _ _, .inl ⟨rfl, hs.symm, rfl⟩⟩
    · exact ⟨_, h, by rw [hs]; rfl, .mk rfl (Row.nil hid _ _), Only.refl _ _, .inl ⟨rfl, hs.symm, rfl⟩⟩
  | mk hn r =>
    rename_i id g off n cap ex
    subst hn
    by_cases h0 : l.length = 0
    · have : l = [] := List.length_eq_zero_iff.1 h0
      subst this
      rcases hs with hs | ⟨id, g, off, hs, hid⟩
      · exact ⟨_, h, by rw [hs]; rfl, .nil, Only.refl _ _, .inl ⟨rfl, hs.symm, rfl⟩⟩
      · exact ⟨_, h, by rw [hs]; rfl, .mk rfl (Row.nil hid _ _), Only.refl _ _, .inl ⟨rfl, hs.symm, rfl⟩⟩
    · obtain ⟨c, c1, c2, c3⟩ := r.all
      have hc : c.size = l.length := by rw [← Cells.toL_length c2, c3]
      have src : srcCells h 1 l.length (.sl id g off l.length cap ex 1) = some c := by
        show readN h id g off (l.length * 1) = some c
        rw [Nat.mul_one]; exact c1
      have ok : okSize l.length bytes = true := by
        exact okSize_small hl hb
      have fin : Row (newH h fun s => .cells s c 0 0 0 0 false false) h.next 0 0 l := by
        have q := newH_row (h := h) (ser := fun s => s) (fz := false) c2
        rw [c3] at q; exact q
      refine ⟨.sl h.next 0 0 l.length l.length false 1, newH h fun s => .cells s c 0 0 0 0 false false, ?_, .mk rfl fin, newH_only _ _ _, .inr ⟨_, rfl, rfl, newH_next _ _⟩⟩
      unfold appendA
      simp only [lenA, beq_false.2 h0, cond_false, src]
      rcases hs with hs | ⟨id', g', off', hs, hid⟩
      · rw [hs]
        unfold appendSeg
        simp only [ok, show Nat.blt 0 1 = true from rfl, Bool.and_true, cond_true]
        unfold newCells
        rw [newK_newH]
      · rw [hs]
        unfold appendSeg
        simp only [natK_eq, show Nat.add 0 l.length = l.length from Nat.zero_add _, ok, show Nat.beq 1 1 = true from rfl, show Nat.blt 0 1 = true from rfl, Bool.and_true, Bool.and_self, Bool.not_true, cond_false, cond_true,
          ble_false.2 (show 0 < l.length by omega), show readN h id' g' off' (Nat.mul 0 1) = some (.lst 0 []) from rfl]
        unfold newCells
        rw [newK_newH]
        have ea : (Cells.lst 0 []).app c = c := by unfold Cells.app; rfl
        rw [ea]

theorem SlR.atom {h : Hp} {v : AV} {l : List AV} (r : SlR h v l) : v.atom = true ∧ v.cells = [v] := by cases r <;> exact ⟨rfl, rfl⟩

/-! ### Rows written -/

/-- A row of cells that is there from its beginning on. -/
structure Arr (h : Hp) (id : Pos) (l : List AV) : Prop where
  old : id.num < h.next.num
  mem : ∃ ser c fz, T.get id h.heap = some (.cells ser c 0 0 0 0 false fz) ∧ c.wf ∧ c.toL = l

theorem Arr.only {S : List Pos} {h h' : Hp} {id : Pos} {l : List AV} (b : Arr h id l) (m : Only S h h') (hs : id ∉ S) : Arr h' id l :=
  ⟨Nat.lt_of_lt_of_le b.old m.next, by rw [m.same id b.old hs]; exact b.mem⟩

theorem Arr.row {h : Hp} {id : Pos} {l : List AV} (b : Arr h id l) : Row h id 0 0 l := by
  obtain ⟨ser, c, fz, e, hw, hl⟩ := b.mem
  have q := Row.of_block (off := 0) (n := c.size) e hw b.old (Nat.le_refl _) (by omega)
  rw [List.drop_zero, List.take_of_length_le (by rw [Cells.toL_length hw]; omega), hl] at q
  exact q

theorem Arr.one {h : Hp} {id : Pos} {l : List AV} (b : Arr h id l) {i : Nat} (hi : i < l.length) : read1 h id 0 i = some l[i] := by
  have := b.row.one i hi
  rw [Nat.zero_add, List.getElem?_eq_getElem hi] at this
  exact this

noncomputable def putA (h : Hp) (id : Pos) (i : Nat) (x : AV) : Hp :=
  ⟨T.set id ((T.get id h.heap).map fun b => match b with | .cells ser c lo hi g m ro fz => .cells ser (c.splice i (Cells.ofL [x])) lo hi g m ro fz | b => b) h.heap, h.next, h.ser, h.lim⟩

theorem putA_only (h : Hp) (id : Pos) (i : Nat) (x : AV) : Only [id] h (putA h id i x) := ⟨Nat.le_refl _, rfl, fun j _ q => by
  show T.get j (T.set id _ h.heap) = _
  rw [T.get_set, if_neg (by simpa using q)]⟩

theorem putA_arr {h : Hp} {id : Pos} {l : List AV} (b : Arr h id l) {i : Nat} (hi : i < l.length) (y : AV) : Arr (putA h id i y) id (l.set i y) := by
  obtain ⟨ser, c, fz, e, hw, hl⟩ := b.mem
  have hc : c.size = l.length := by rw [← Cells.toL_length hw, hl]
  obtain ⟨p1, p2, p3⟩ := Cells.ofL_spec [y]
  have hsz : i + (Cells.ofL [y]).size ≤ c.size := by rw [p3, hc]; simp; omega
  obtain ⟨q1, q2, q3⟩ := Cells.splice_spec hw p1 hsz
  refine ⟨b.old, ser, c.splice i (Cells.ofL [y]), fz, ?_, q1, ?_⟩
  · show T.get id (T.set id _ h.heap) = _
    rw [T.get_set, if_pos rfl, e]; rfl
  · rw [q2, p2, p3, hl, List.set_eq_take_append_cons_drop, if_pos hi]
    rfl

theorem storeR_arr {h : Hp} {id : Pos} {l : List AV} (b : Arr h id l) {i : Nat} (hi : i < l.length) (y : AV) (ha : y.atom = true) (hc : y.cells = [y]) : storeR (.ptr id 0 i) y h = .val .undef (putA h id i y) := by
  obtain ⟨ser, c, fz, e, hw, hl⟩ := b.mem
  have hz : c.size = l.length := by rw [← Cells.toL_length hw, hl]
  unfold storeR
  simp only [hc]
  unfold writeN putA
  have h1 : Nat.ble (Nat.add i 1) c.size = true := ble_iff.2 (by show i + 1 ≤ _; omega)
  have h2 : Nat.ble 0 i = true := ble_iff.2 (by omega)
  have h3 : Nat.blt i 0 = false := blt_false.2 (by omega)
  simp only [e, h1, h2, h3, ofL_size1, ofL_atoms ha, T.setK_eq]
  rfl

theorem replA_one (z : AV) : ∀ (n : Nat) (acc : List AV), replA n [z] acc = List.replicate n z ++ acc
  | 0, _ => rfl
  | n + 1, acc => by
    show replA n [z] ([z] ++ acc) = _
    rw [replA_one z n, List.replicate_succ', List.append_assoc]

/-- A slice made. -/
theorem mkSl_arr (P : Program) {env : T AV} {h : Hp} {x y : Opd} {p bytes : Nat} {z : AV} (hx : ev env x = int64 p) (hy : ev env y = int64 p) (hp : p ≤ 1073741824) (hb : bytes ≤ 4096) :
    ∃ h', evalOp P (.mkSl 1 bytes [z] x y) env h = .val (.sl h.next 0 0 p p true 1) h' ∧ Arr h' h.next (List.replicate p z) ∧ Only [] h h' ∧ h'.next.num = h.next.num + 1 := by
  refine ⟨newH h fun s => .cells s (Cells.ofL (replA p [z] [])) 0 0 0 0 false false, ?_, ⟨by rw [newH_next]; omega, _, _, _, newH_get _ _, (Cells.ofL_spec _).1, ?_⟩, newH_only _ _ _, newH_next _ _⟩
  · have e : evalOp P (.mkSl 1 bytes [z] x y) env h = (match ev env x, ev env y with
      | .int _ (.ofNat l), .int _ (.ofNat c) =>
        bif Nat.ble l c && okSize c bytes && Nat.blt 0 1 then newCells h (Cells.ofL (replA c [z] [])) fun id h => .val (.sl id 0 0 l c true 1) h else .fail "mkSl size"
      | _, _ => .fail "mkSl") := rfl
    rw [e, hx, hy]
    have ok : okSize p bytes = true := by
      exact okSize_small hp hb
    show (bif Nat.ble p p && okSize p bytes && Nat.blt 0 1 then newCells h (Cells.ofL (replA p [z] [])) fun id h => Res.val (.sl id 0 0 p p true 1) h else .fail "mkSl size") = _
    rw [ok, ble_iff.2 (Nat.le_refl p)]
    show newCells h (Cells.ofL (replA p [z] [])) _ = _
    unfold newCells
    rw [newK_newH]
  · rw [(Cells.ofL_spec _).2.1, replA_one, List.append_nil]

/-! ### Regions with calls -/

/-- A call whose answer is known. -/
structure KC where
  f : FuncId
  args : List AV
  h : Hp
  v : AV
  h' : Hp

open Classical in
noncomputable def runC (P : Program) : List KC → List O → T AV → Hp → Option (T AV × Hp)
  | _, [], env, h => some (env, h)
  | A, o :: l, env, h => if o.ok = true then (if wantedA o env = true then (match evalOp P o.op env h with
    | .val v h' => runC P A l (setD env o.dst v) h'
    | .enter f args h0 => (match A with
      | a :: A' => if f = a.f ∧ args = a.args ∧ h0 = a.h ∧ h0 = h then runC P A' l (setD env o.dst a.v) a.h' else none
      | [] => none)
    | _ => none) else runC P A l (setD env o.dst .undef) h) else none

theorem leads_runC {P : Program} {cx : Cx} {k : List Item} {env' : T AV} {h' : Hp} : ∀ {l : List O} {A : List KC} {env : T AV} {h : Hp}, (∀ a ∈ A, AmFn P a.f a.args a.h a.v a.h') → runC P A l env h = some (env', h') →
    Leads P (sOf cx (.ops l :: k) env h) (sOf cx (.ops [] :: k) env' h')
  | [], A, env, h, _, e => by unfold runC at e; cases e; exact .refl _
  | o :: l, A, env, h, hA, e => by
    unfold runC at e
    split at e
    · rename_i ho
      split at e
      · rename_i hw
        split at e
        · rename_i v h1 he
          exact (leads_step (noRec_sound P) (op_step ho hw he)).trans (leads_runC hA e)
        · rename_i f args h0 he
          split at e
          · rename_i a A'
            split at e
            · rename_i c
              obtain ⟨c1, c2, c3, c4⟩ := c
              subst c1 c2 c4
              have q := hA a (by simp)
              rw [← c3] at q
              exact (leads_call ho hw he q).trans (leads_runC (fun x hx => hA x (List.mem_cons_of_mem _ hx)) e)
            · cases e
          · cases e
        · cases e
      · rename_i hw
        exact (leads_step (noRec_sound P) (op_skip ho (by simpa using hw))).trans (leads_runC hA e)
    · cases e

theorem leads_regionC {P : Program} {cx : Cx} {k : List Item} {env env' : T AV} {h h' : Hp} {l : List O} (A : List KC) (hA : ∀ a ∈ A, AmFn P a.f a.args a.h a.v a.h') (e : runC P A l env h = some (env', h')) :
    Leads P (sOf cx (.code (.region l) :: k) env h) (sOf cx k env' h') := leads_enter.trans ((leads_runC hA e).trans leads_opsNil)

/-- As append_new, with the new row told. -/
theorem append_new' (P : Program) {env : T AV} {h : Hp} {s x : Opd} {v : AV} {l : List AV} {bytes : Nat} (hx : ev env x = v) (hv : SlR h v l) (h0 : l ≠ []) (hl : l.length ≤ 1073741824) (hb : bytes ≤ 4096)
    (hs : ev env s = .nilSl ∨ ∃ id g off, ev env s = .sl id g off 0 0 true 1 ∧ id.num < h.next.num) :
    ∃ h', evalOp P (.append 1 bytes s x) env h = .val (.sl h.next 0 0 l.length l.length false 1) h' ∧ Arr h' h.next l ∧ Only [] h h' ∧ h'.next.num = h.next.num + 1 := by
  have e : evalOp P (.append 1 bytes s x) env h = appendA h 1 bytes (ev env s) (ev env x) := rfl
  rw [e, hx]
  cases hv with
  | nil => exact absurd rfl h0
  | emp => exact absurd rfl h0
  | mk hn r =>
    rename_i id g off n cap ex
    subst hn
    have hpos : 0 < l.length := List.length_pos_iff.2 h0
    obtain ⟨c, c1, c2, c3⟩ := r.all
    have src : srcCells h 1 l.length (.sl id g off l.length cap ex 1) = some c := by
      show readN h id g off (l.length * 1) = some c
      rw [Nat.mul_one]; exact c1
    have ok : okSize l.length bytes = true := by
      exact okSize_small hl hb
    refine ⟨newH h fun s => .cells s c 0 0 0 0 false false, ?_, ⟨by rw [newH_next]; omega, _, _, _, newH_get _ _, c2, c3⟩, newH_only _ _ _, newH_next _ _⟩
    unfold appendA
    simp only [lenA, beq_false.2 (show l.length ≠ 0 by omega), cond_false, src]
    rcases hs with hs | ⟨id', g', off', hs, hid⟩
    · rw [hs]
      unfold appendSeg
      simp only [ok, show Nat.blt 0 1 = true from rfl, Bool.and_true, cond_true]
      unfold newCells
      rw [newK_newH]
    · rw [hs]
      unfold appendSeg
      simp only [natK_eq, show Nat.add 0 l.length = l.length from Nat.zero_add _, ok, show Nat.beq 1 1 = true from rfl, show Nat.blt 0 1 = true from rfl, Bool.and_true, Bool.and_self, Bool.not_true, cond_false, cond_true,
        ble_false.2 hpos, show readN h id' g' off' (Nat.mul 0 1) = some (.lst 0 []) from rfl]
      unfold newCells
      rw [newK_newH]
      have ea : (Cells.lst 0 []).app c = c := by unfold Cells.app; rfl
      rw [ea]

/-- A row that may have been laid anew when it grew. -/
structure Gro (h : Hp) (id : Pos) (g : Nat) (l : List AV) : Prop where
  old : id.num < h.next.num
  mem : ∃ ser c hi m fz, T.get id h.heap = some (.cells ser c 0 hi g m false fz) ∧ c.wf ∧ c.toL = l

theorem Arr.gro {h : Hp} {id : Pos} {l : List AV} (a : Arr h id l) : Gro h id 0 l :=
  let ⟨ser, c, fz, e, hw, hl⟩ := a.mem
  ⟨a.old, ser, c, 0, 0, fz, e, hw, hl⟩

theorem Gro.row {h : Hp} {id : Pos} {g : Nat} {l : List AV} (b : Gro h id g l) : Row h id g 0 l := by
  obtain ⟨ser, c, hi, m, fz, e, hw, hl⟩ := b.mem
  have q := Row.of_block (off := 0) (n := c.size) e hw b.old (Nat.le_refl _) (by omega)
  rw [List.drop_zero, List.take_of_length_le (by rw [Cells.toL_length hw]; omega), hl] at q
  exact q

theorem Gro.only {S : List Pos} {h h' : Hp} {id : Pos} {g : Nat} {l : List AV} (b : Gro h id g l) (m : Only S h h') (hs : id ∉ S) : Gro h' id g l :=
  ⟨Nat.lt_of_lt_of_le b.old m.next, by rw [m.same id b.old hs]; exact b.mem⟩

/-- Appended to a row whose room is not known: laid anew. -/
theorem append_gro (P : Program) {env : T AV} {h : Hp} {s x : Opd} {v : AV} {id : Pos} {g : Nat} {l l2 : List AV} {bytes : Nat} (hs : ev env s = .sl id g 0 l.length l.length false 1) (ha : Gro h id g l) (hx : ev env x = v) (hv : SlR h v l2) (h0 : l2 ≠ [])
    (hl : l.length + l2.length ≤ 1073741824) (hb : bytes ≤ 4096) (hat : ∀ y ∈ l2, y.atom = true) :
    ∃ h', evalOp P (.append 1 bytes s x) env h = .val (.sl id (g + 1) 0 (l.length + l2.length) (l.length + l2.length) false 1) h' ∧ Gro h' id (g + 1) (l ++ l2) ∧ Only [id] h h' ∧ h'.next = h.next := by
  have e : evalOp P (.append 1 bytes s x) env h = appendA h 1 bytes (ev env s) (ev env x) := rfl
  rw [e, hx, hs]
  cases hv with
  | nil => exact absurd rfl h0
  | emp => exact absurd rfl h0
  | mk hn r =>
    rename_i id2 g2 off2 n2 cap2 ex2
    subst hn
    have hpos : 0 < l2.length := List.length_pos_iff.2 h0
    obtain ⟨seg, c1, c2, c3⟩ := r.all
    have src : srcCells h 1 l2.length (.sl id2 g2 off2 l2.length cap2 ex2 1) = some seg := by
      show readN h id2 g2 off2 (l2.length * 1) = some seg
      rw [Nat.mul_one]; exact c1
    have ok : okSize (Nat.add l.length l2.length) bytes = true := by
      exact okSize_small (show Nat.add l.length l2.length ≤ _ from hl) hb
    obtain ⟨ser, c, hi, m, fz, eb, hw, hcl⟩ := ha.mem
    have hcs : c.size = l.length := by rw [← Cells.toL_length hw, hcl]
    have ats : seg.atoms = true := by
      cases seg with
      | byt n v => rfl
      | lst n L =>
        have : L = l2 := c3
        subst this
        show List.all _ _ = true
        rw [List.all_eq_true]
        exact hat
    obtain ⟨q1, q2, q3⟩ := Cells.sub_spec hw (off := 0) (n := l.length) (by omega)
    obtain ⟨p1, p2, p3⟩ := Cells.app_spec q1 c2
    have hn1 : Nat.ble (Nat.add l.length l2.length) l.length = false := ble_false.2 (show l.length < l.length + l2.length by omega)
    have ht : Nat.add 0 (Nat.mul l.length 1) = l.length := by show 0 + l.length * 1 = _; omega
    refine ⟨⟨T.set id (some (.cells ser ((c.sub 0 l.length).app seg) 0 (bif Nat.blt m g then (bif Nat.ble hi l.length then hi else l.length) else l.length) (Nat.succ g) m false fz)) h.heap, h.next, h.ser, h.lim⟩, ?_, ⟨ha.old, ser, (c.sub 0 l.length).app seg, (bif Nat.blt m g then (bif Nat.ble hi l.length then hi else l.length) else l.length), m, fz, ?_, p1, ?_⟩, ⟨Nat.le_refl _, rfl, fun j _ q => ?_⟩, rfl⟩
    · unfold appendA
      simp only [lenA, beq_false.2 (show l2.length ≠ 0 by omega), cond_false, src]
      unfold appendSeg
      simp only [natK_eq, ok, show Nat.beq 1 1 = true from rfl, show Nat.blt 0 1 = true from rfl, Bool.and_true, Bool.and_self, Bool.not_true, cond_false, hn1, eb, ht, beq_iff.2 (rfl : g = g), ble_iff.2 (show l.length ≤ c.size by omega), ats, T.setK_eq,
        show Nat.ble 0 0 = true from rfl, Bool.not_false, cond_true]
      rfl
    · show T.get id (T.set id _ h.heap) = _
      rw [T.get_set, if_pos rfl]
    · rw [p2, q2, c3, List.drop_zero, hcl, List.take_length]
    · show T.get j (T.set id _ h.heap) = _
      rw [T.get_set, if_neg (by simpa using q)]

theorem qev_boxL (P : Program) (env : T AV) (h : Hp) (x : Opd) : evalOp P (.box x) env h = .val (.ptr h.next 0 0) (newH h fun s => .cells s (Cells.ofL (ev env x).cells) 0 0 0 0 false false) := by
  show newCells h (Cells.ofL (ev env x).cells) _ = _
  unfold newCells
  rw [newK_newH]

theorem newH_arr (h : Hp) (l : List AV) : Arr (newH h fun s => .cells s (Cells.ofL l) 0 0 0 0 false false) h.next l :=
  ⟨by rw [newH_next]; omega, _, _, _, newH_get _ _, (Cells.ofL_spec l).1, (Cells.ofL_spec l).2.1⟩

end Go.Proofs.Ytmifpiglcphmoaa.Am
