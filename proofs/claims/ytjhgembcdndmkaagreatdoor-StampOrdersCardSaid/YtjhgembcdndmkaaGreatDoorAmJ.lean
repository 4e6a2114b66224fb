import Derived.Calls
import Derived.Test.YtjhgembcdndmkaaGreatDoorAmI
/- THE ABSTRACT MACHINE, part J: a machine over values without block numbers, and the proof that the model's machine does what it does. No condition. -/
set_option linter.unusedSimpArgs false
set_option linter.unusedVariables false
namespace Go.Proofs.YtjhgembcdndmkaaGreatDoor.Am
open Go.RowKit
noncomputable abbrev k (d : Nat) (o : AOp) (m : Nat) : O := ⟨some (Pos.ofNat d), none, o, true, m⟩
noncomputable abbrev kg (d g : Nat) (w : Bool) (o : AOp) (m : Nat) : O := ⟨some (Pos.ofNat d), some (Pos.ofNat g, w), o, true, m⟩
noncomputable abbrev kn (o : AOp) (m : Nat) : O := ⟨none, none, o, true, m⟩
noncomputable def xloop (r : T AV → XS → Option (Rs × T AV × XS)) : Nat → T AV → XS → Option (Rs × T AV × XS)
  | 0, _, _ => none
  | n + 1, env, s => match r env s with
    | some (.upt [], env', s') => xloop r n env' s'
    | some (.exit i, env', s') => some (.exit i, env', s')
    | some (.ret, env', s') => some (.ret, env', s')
    | _ => none
noncomputable def Rs.inSc : Rs → Rs
  | .upt [] => .upt []
  | .upt (x :: l) => .upt (x :: l ++ [.inScope])
  | r => r
noncomputable def xcode (P : Program) (U K : List Ent) (b : Pos) (n : Nat) : C → T AV → XS → Option (Rs × T AV × XS)
  | .skip, env, s => some (.upt [], env, s)
  | .label, env, s => some (.upt [], env, s)
  | .region l, env, s => (xrun P K b l env s).map fun p => (.upt [], p.1, p.2)
  | .drawn l, env, s => (xdrawn P U b l env s).map fun p => (.upt [], p.1, p.2)
  | .seq c d, env, s => match xcode P U K b n c env s with
    | some (.upt [], env', s') => xcode P U K b n d env' s'
    | some (r, env', s') => some (r.seq d, env', s')
    | none => none
  | .cond x c d, env, s => match ev env x with
    | .bool true => xcode P U K b n c env s
    | .bool false => xcode P U K b n d env s
    | _ => none
  | .block i c, env, s => (xcode P U K b n c env s).map fun p => (p.1.block i, p.2.1, p.2.2)
  | .loop c, env, s => match n with
    | 0 => some (.upt [.code (.loop c)], env, s)
    | n' + 1 => xloop (xcode P U K b (n' + 1) c) (n' + 1) env s
  | .scope c, env, s => (xcode P U K b n c env s).map fun p => (p.1.inSc, p.2.1, p.2.2)
  | .exit i, env, s => some (.exit i, env, s)
  | .ret, env, s => some (.ret, env, s)
  | c, env, s => some (.upt [.code c], env, s)
section
variable {P : Program} {G : Hp → Prop} {U K : List Ent} {b : Pos} {W : List Pos} {h0 h : Hp} {s s' : XS}
theorem xloop_ok {c : C} {r : T AV → XS → Option (Rs × T AV × XS)} (hr : ∀ {env env' : T AV} {s s' : XS} {h : Hp} {q : Rs}, XI b W h0 s h → r env s = some (q, env', s') → ∃ h', XI b W h0 s' h' ∧ Upto P c env h q env' h') :
    ∀ {n : Nat} {env env' : T AV} {s s' : XS} {h : Hp} {q : Rs}, XI b W h0 s h → xloop r n env s = some (q, env', s') →
      ∃ h', XI b W h0 s' h' ∧ ((∃ i, q = .exit i) ∨ q = .ret) ∧ ∀ cx k, match q with
        | .upt _ => False
        | .exit i => ∃ k', exitA i k' = exitA i k ∧ Leads P (sOf cx (.code c :: .inLoop c :: k) env h) (sOf cx (.code (.exit i) :: k') env' h')
        | .ret => ∃ k', Leads P (sOf cx (.code c :: .inLoop c :: k) env h) (sOf cx (.code .ret :: k') env' h')
  | 0, _, _, _, _, _, _, _, e => by cases e
  | n + 1, env, env', s, s', h, q, i, e => by
    unfold xloop at e
    split at e
    · rename_i e1 s1 he
      obtain ⟨h1, i1, u1⟩ := hr i he
      obtain ⟨h', i', hq, u⟩ := xloop_ok hr i1 e
      refine ⟨h', i', hq, fun cx k => ?_⟩
      have l1 : Leads P (sOf cx (.code c :: .inLoop c :: k) env h) (sOf cx (.code c :: .inLoop c :: k) e1 h1) := (show Leads P _ (sOf cx ([] ++ .inLoop c :: k) e1 h1) from u1 cx (.inLoop c :: k)).trans leads_inLoop
      have x := u cx k
      cases q with
      | upt l => exact x
      | exit j => obtain ⟨k', p, x⟩ := x; exact ⟨k', p, l1.trans x⟩
      | ret => obtain ⟨k', x⟩ := x; exact ⟨k', l1.trans x⟩
    · rename_i j e1 s1 he
      cases e
      obtain ⟨h1, i1, u1⟩ := hr i he
      refine ⟨h1, i1, .inl ⟨j, rfl⟩, fun cx k => ?_⟩
      obtain ⟨k', p, x⟩ := u1 cx (.inLoop c :: k)
      exact ⟨k', exitA_cons (fun _ => by simp) p, x⟩
    · rename_i e1 s1 he
      cases e
      obtain ⟨h1, i1, u1⟩ := hr i he
      refine ⟨h1, i1, .inr rfl, fun cx k => ?_⟩
      obtain ⟨k', x⟩ := u1 cx (.inLoop c :: k)
      exact ⟨k', x⟩
    · cases e
theorem xcode_ok (hG : ∀ h, Only W h0 h → G h) (hT : ∀ e ∈ U, EntOK P G e) (hK : ∀ e ∈ K, EntK P G e) {n : Nat} : ∀ {c : C} {env env' : T AV} {s s' : XS} {h : Hp} {r : Rs}, XI b W h0 s h → xcode P U K b n c env s = some (r, env', s') → ∃ h', XI b W h0 s' h' ∧ Upto P c env h r env' h'
  | .skip, _, _, _, _, h, _, i, e => by cases e; exact ⟨h, i, fun _ _ => leads_skip⟩
  | .label, _, _, _, _, h, _, i, e => by cases e; exact ⟨h, i, fun _ _ => leads_label⟩
  | .ret, _, _, _, _, h, _, i, e => by cases e; exact ⟨h, i, fun _ k => ⟨k, .refl _⟩⟩
  | .exit _, _, _, _, _, h, _, i, e => by cases e; exact ⟨h, i, fun _ k => ⟨k, rfl, .refl _⟩⟩
  | .bad _, _, _, _, _, h, _, i, e => by cases e; exact ⟨h, i, .self⟩
  | .rangeFunc _ _ _ _, _, _, _, _, h, _, i, e => by cases e; exact ⟨h, i, .self⟩
  | .region l, env, _, s, _, h, _, i, e => by
    unfold xcode at e
    cases q : xrun P K b l env s with
    | none => rw [q] at e; cases e
    | some p =>
      rw [q] at e
      cases e
      obtain ⟨h', i', L⟩ := leads_xrun hG hK i q
      exact ⟨h', i', fun cx k => leads_enter.trans ((L cx k).trans leads_opsNil)⟩
  | .drawn l, env, _, s, _, h, _, i, e => by
    unfold xcode at e
    cases q : xdrawn P U b l env s with
    | none => rw [q] at e; cases e
    | some p =>
      rw [q] at e
      cases e
      obtain ⟨h', i', L⟩ := xdrawn_ok hG hT i q
      exact ⟨h', i', fun cx k => leads_drawn (recT_sound hT) L⟩
  | .loop c, env, env', s, s', h, r, i, e => by
    cases n with
    | zero => unfold xcode at e; cases e; exact ⟨h, i, .self⟩
    | succ n =>
      unfold xcode at e
      obtain ⟨h', i', hq, u⟩ := xloop_ok (c := c) (fun i e => xcode_ok hG hT hK i e) i e
      refine ⟨h', i', fun cx k => ?_⟩
      have x := u cx k
      rcases hq with ⟨j, rfl⟩ | rfl
      · obtain ⟨k', p, x⟩ := x; exact ⟨k', p, leads_loop.trans x⟩
      · obtain ⟨k', x⟩ := x; exact ⟨k', leads_loop.trans x⟩
  | .seq a c, env, env', s, s', h, r, i, e => by
    unfold xcode at e
    split at e
    · rename_i e1 s1 he
      obtain ⟨h1, i1, u1⟩ := xcode_ok hG hT hK i he
      obtain ⟨h', i', u2⟩ := xcode_ok hG hT hK i1 e
      refine ⟨h', i', fun cx k => ?_⟩
      have l1 := leads_seq.trans (show Leads P _ (sOf cx ([] ++ .code c :: k) e1 h1) from u1 cx (.code c :: k))
      have x := u2 cx k
      cases r with
      | upt l => exact l1.trans x
      | ret => obtain ⟨k', x⟩ := x; exact ⟨k', l1.trans x⟩
      | exit j => obtain ⟨k', p, x⟩ := x; exact ⟨k', p, l1.trans x⟩
    · rename_i r1 e1 s1 hne he
      cases e
      obtain ⟨h1, i1, u1⟩ := xcode_ok hG hT hK i he
      refine ⟨h1, i1, fun cx k => ?_⟩
      have x := u1 cx (.code c :: k)
      cases r1 with
      | upt l =>
        show Leads P _ (sOf cx ((l ++ [.code c]) ++ k) _ _)
        rw [List.append_assoc]
        exact leads_seq.trans x
      | ret => obtain ⟨k', x⟩ := x; exact ⟨k', leads_seq.trans x⟩
      | exit j => obtain ⟨k', p, x⟩ := x; exact ⟨k', exitA_cons (fun _ => by simp) p, leads_seq.trans x⟩
    · cases e
  | .cond x a c, env, env', s, s', h, r, i, e => by
    unfold xcode at e
    split at e
    · rename_i hx
      obtain ⟨h', i', u⟩ := xcode_ok hG hT hK i e
      exact ⟨h', i', u.pre fun _ _ => leads_cond (t := true) hx⟩
    · rename_i hx
      obtain ⟨h', i', u⟩ := xcode_ok hG hT hK i e
      exact ⟨h', i', u.pre fun _ _ => (leads_cond (t := false) hx).trans (by rw [if_neg (by simp)]; exact .refl _)⟩
    · cases e
  | .block j c, env, env', s, s', h, r, i, e => by
    unfold xcode at e
    cases he : xcode P U K b n c env s with
    | none => rw [he] at e; cases e
    | some p =>
      obtain ⟨r1, e1, s1⟩ := p
      rw [he] at e
      cases e
      obtain ⟨h1, i1, u1⟩ := xcode_ok hG hT hK i he
      refine ⟨h1, i1, fun cx k => ?_⟩
      have x := u1 cx (.inBlock j :: k)
      cases r1 with
      | upt l =>
        cases l with
        | nil => exact leads_block.trans (Leads.trans x leads_inBlock)
        | cons y l =>
          show Leads P _ (sOf cx ((y :: l ++ [.inBlock j]) ++ k) _ _)
          rw [List.append_assoc]
          exact leads_block.trans x
      | ret => obtain ⟨k', x⟩ := x; exact ⟨k', leads_block.trans x⟩
      | exit m =>
        obtain ⟨k', e, x⟩ := x
        by_cases c : m = j
        · subst c
          rw [show (Rs.exit m).block m = .upt [] from if_pos rfl]
          have e : exitA m k' = some k := by
            rw [e]
            show (bif Nat.beq m m then some k else exitA m k) = _
            rw [beq_iff.2 rfl]; rfl
          exact leads_block.trans (x.trans (leads_exit e))
        · rw [show (Rs.exit m).block j = .exit m from if_neg c]
          have e : exitA m k' = exitA m k := by
            rw [e]
            show (bif Nat.beq j m then some k else exitA m k) = _
            rw [beq_false.2 fun x => c x.symm]; rfl
          exact ⟨k', e, leads_block.trans x⟩
  | .scope c, env, env', s, s', h, r, i, e => by
    unfold xcode at e
    cases he : xcode P U K b n c env s with
    | none => rw [he] at e; cases e
    | some p =>
      obtain ⟨r1, e1, s1⟩ := p
      rw [he] at e
      cases e
      obtain ⟨h1, i1, u1⟩ := xcode_ok hG hT hK i he
      refine ⟨h1, i1, fun cx k => ?_⟩
      have x := u1 cx (.inScope :: k)
      cases r1 with
      | upt l =>
        cases l with
        | nil => exact leads_scope.trans (Leads.trans x leads_inScope)
        | cons y l =>
          show Leads P _ (sOf cx ((y :: l ++ [.inScope]) ++ k) _ _)
          rw [List.append_assoc]
          exact leads_scope.trans x
      | ret => obtain ⟨k', x⟩ := x; exact ⟨k', leads_scope.trans x⟩
      | exit m =>
        obtain ⟨k', e, x⟩ := x
        exact ⟨k', e.trans rfl, leads_scope.trans x⟩
noncomputable def xres (X : List XB) (env : T AV) : RV → Option AV
  | .tmp p => some (ev env (.tmp p))
  | .cell1 p => match ev env (.tmp p) with
    | .ptr id g off => (xget X id g).bind fun l => l[off]?
    | _ => none
  | .cellN p n => match ev env (.tmp p) with
    | .ptr id g off => (xget X id g).bind fun l => if off + n ≤ l.length then some (.agg ((l.drop off).take n)) else none
    | _ => none
theorem xres_ok {X : List XB} (hX : AllH X h) {env : T AV} {r : RV} {v : AV} (e : xres X env r = some v) : result1 env h r = some v := by
  cases r with
  | tmp p => exact e
  | cell1 p =>
    change (match ev env (.tmp p) with | .ptr id g off => (xget X id g).bind fun l => l[off]? | _ => none) = _ at e
    show (match ev env (.tmp p) with | .ptr id g off => read1 h id g off | _ => none) = _
    split at e
    · rename_i id g off ha
      cases q : xget X id g with
      | none => rw [q] at e; cases e
      | some l =>
        rw [q, Option.bind_some] at e
        have hlt : off < l.length := (List.getElem?_eq_some_iff.1 e).1
        have r := (xget_part hX q (off := off) (n := 1) (by omega)).one 0 (by simp; omega)
        rw [show off = off + 0 from rfl, r, List.getElem?_take_of_lt (by omega), List.getElem?_drop, Nat.add_zero, e]
    · cases e
  | cellN p n =>
    change (match ev env (.tmp p) with | .ptr id g off => (xget X id g).bind fun l => if off + n ≤ l.length then some (AV.agg ((l.drop off).take n)) else none | _ => none) = _ at e
    show (match ev env (.tmp p) with | .ptr id g off => (match readN h id g off n with | some c => some (AV.agg c.toL) | none => none) | _ => none) = _
    split at e
    · rename_i id g off ha
      cases q : xget X id g with
      | none => rw [q] at e; cases e
      | some l =>
        rw [q, Option.bind_some] at e
        split at e
        · rename_i hn
          cases e
          obtain ⟨c, c1, _, c3⟩ := (xget_part hX q hn).all
          rw [List.length_take, List.length_drop, Nat.min_eq_left (by omega)] at c1
          simp only [c1, c3]
        · cases e
    · cases e
theorem xmap_ok {X : List XB} (hX : AllH X h) {env : T AV} : ∀ {rs : List RV} {vs : List AV}, mapO (xres X env) rs = some vs → mapO (result1 env h) rs = some vs
  | [], _, e => e
  | r :: rs, vs, e => by
    unfold mapO at e ⊢
    cases q : xres X env r with
    | none => rw [q] at e; cases e
    | some v =>
      rw [q] at e
      rw [xres_ok hX q]
      cases w : mapO (xres X env) rs with
      | none => rw [w] at e; cases e
      | some l =>
        rw [w] at e
        rw [xmap_ok hX w]
        exact e
noncomputable def xfn (P : Program) (U K : List Ent) (b : Pos) (n : Nat) (fu : Fu) (args : List AV) (s : XS) : Option (AV × XS) :=
  match xcode P U K b n fu.body (setArgs .e 0 args) s with
  | some (.ret, env, s') => (mapO (xres s'.X env) fu.results).map fun vs => (tupleA vs, s')
  | _ => none
theorem xfn_ok (hG : ∀ h, Only W h0 h → G h) (hT : ∀ e ∈ U, EntOK P G e) (hK : ∀ e ∈ K, EntK P G e) {n : Nat} {f : FuncId} {fu : Fu} {args : List AV} {v : AV} (hc : compFn P f = some fu) (hl : args.length ≤ fu.nargs) (i : XI b W h0 s h) (e : xfn P U K b n fu args s = some (v, s')) :
    ∃ h', AmFn P f args h v h' ∧ XI b W h0 s' h' := by
  unfold xfn at e
  split at e
  · rename_i env s1 q
    cases m : mapO (xres s1.X env) fu.results with
    | none => rw [m] at e; cases e
    | some vs =>
      rw [m] at e
      cases e
      obtain ⟨h', i', u⟩ := xcode_ok hG hT hK i q
      obtain ⟨res, na, body⟩ := fu
      exact ⟨h', AmFn.dos hc hl (fun cx k _ => u cx k) (xmap_ok i'.all m) rfl, i'⟩
  · cases e
theorem XI.start (h : Hp) : XI h.next [] h ⟨0, []⟩ h := ⟨rfl, fun x m => (by cases m), .nil, fun x m => (by cases m), .refl _ _, rfl⟩
theorem XI.startX (h : Hp) {X : List XB} (hX : AllH X h) (ha : X.Pairwise fun x y => x.id ≠ y.id) (ho : ∀ x ∈ X, x.own = false) : XI h.next [] h ⟨0, X⟩ h :=
  ⟨rfl, hX, ha, (fun x m c => by rw [ho x m] at c; cases c), Only.refl _ _, rfl⟩
theorem XI.start1 {h : Hp} {x : XB} (hx : x.Holds h) (ho : x.own = false) : XI h.next [] h ⟨0, [x]⟩ h :=
  .startX h (fun y m => by rcases List.mem_singleton.1 m with rfl; exact hx) (List.pairwise_singleton _ _) (fun y m => by rcases List.mem_singleton.1 m with rfl; exact ho)
theorem plain_ofX (hG : ∀ h', Only [] h h' → G h') (hT : ∀ e ∈ U, EntOK P G e) (hK : ∀ e ∈ K, EntK P G e) (n : Nat) {f : FuncId} {fu : Fu} {args : List AV} {v : AV} {X : List XB} (i : XI h.next [] h ⟨0, X⟩ h) (hc : compFn P f = some fu) (hl : args.length ≤ fu.nargs) (hv : v.plain = true)
    (e : (xfn P U K h.next n fu args ⟨0, X⟩).map (·.1) = some v) : AmFn P f args h v h := by
  cases q : xfn P U K h.next n fu args ⟨0, X⟩ with
  | none => rw [q] at e; cases e
  | some p =>
    obtain ⟨u, s'⟩ := p
    rw [q] at e
    cases e
    obtain ⟨h', a, i⟩ := xfn_ok hG hT hK hc hl i q
    exact a.plain i.only hv
theorem plain_of (hG : ∀ h', Only [] h h' → G h') (hT : ∀ e ∈ U, EntOK P G e) (hK : ∀ e ∈ K, EntK P G e) (n : Nat) {f : FuncId} {fu : Fu} {args : List AV} {v : AV} (hc : compFn P f = some fu) (hl : args.length ≤ fu.nargs) (hv : v.plain = true)
    (e : (xfn P U K h.next n fu args ⟨0, []⟩).map (·.1) = some v) : AmFn P f args h v h := by
  cases q : xfn P U K h.next n fu args ⟨0, []⟩ with
  | none => rw [q] at e; cases e
  | some p =>
    obtain ⟨u, s'⟩ := p
    rw [q] at e
    cases e
    obtain ⟨h', a, i⟩ := xfn_ok hG hT hK hc hl (XI.start h) q
    exact a.plain i.only hv
noncomputable def mkEnt {α : Type} (f : FuncId) (np : Nat) (qs : List Qy) (enc : α → List AV) (con : α → List (List AV)) (pre : α → Prop) (res : α → XR) : Ent :=
  ⟨f, np, qs, fun args cs => open Classical in if q : ∃ a, args = enc a ∧ cs = con a ∧ pre a then some (res q.choose) else none⟩
open Classical in
theorem mkEnt_spec {α : Type} {f : FuncId} {np : Nat} {qs : List Qy} {enc : α → List AV} {con : α → List (List AV)} {pre : α → Prop} {res : α → XR} (inj : ∀ a a', enc a = enc a' → con a = con a' → res a = res a') (a : α) (ha : pre a) :
    (mkEnt f np qs enc con pre res).spec (enc a) (con a) = some (res a) := by
  show (if q : ∃ x, enc a = enc x ∧ con a = con x ∧ pre x then some (res q.choose) else none) = _
  have q : ∃ x, enc a = enc x ∧ con a = con x ∧ pre x := ⟨a, rfl, rfl, ha⟩
  rw [dif_pos q]
  exact congrArg some (inj _ _ q.choose_spec.1.symm q.choose_spec.2.1.symm)
open Classical in
theorem mkEnt_ok {α : Type} {f : FuncId} {np : Nat} {qs : List Qy} {enc : α → List AV} {con : α → List (List AV)} {pre : α → Prop} {res : α → XR} (hk : okCall P f = true)
    (H : ∀ a h, G h → pre a → Conts h (enc a) qs (con a) → AmFn P f (enc a) h ((res a).res h).1 ((res a).res h).2) : EntOK P G (mkEnt f np qs enc con pre res) := by
  refine ⟨hk, fun args cs r h g _ e c => ?_⟩
  change (if q : ∃ x, args = enc x ∧ cs = con x ∧ pre x then some (res q.choose) else none) = _ at e
  split at e
  · rename_i q
    have key : ∀ x, args = enc x → cs = con x → pre x → AmFn P f args h ((res x).res h).1 ((res x).res h).2 := fun x q1 q2 q3 => by
      subst q1 q2
      exact H x h g q3 c
    obtain ⟨q1, q2, q3⟩ := q.choose_spec
    cases e
    exact key _ q1 q2 q3
  · cases e
noncomputable def XR.out (b : Pos) (s : XS) : XR → AV × XS
  | .plain v => (v, s)
  | .row l v => (v (adv b s.n), s.add b l)
  | .blind v => (v (adv b s.n), ⟨s.n + 1, s.X⟩)
  | .upd _ v => (v, s)
  | .updRow _ _ v => (v (adv b s.n), s)
  | .outs _ _ v => (v (adv b s.n), s)
open Classical in
theorem mkEnt_kit {α : Type} {f : FuncId} {np : Nat} {qs : List Qy} {enc : α → List AV} {con : α → List (List AV)} {pre : α → Prop} {res : α → XR} (hk : okCall P f = true)
    (H : ∀ a h, G h → pre a → Conts h (enc a) qs (con a) → KitH P f (enc a) h ((res a).res h).1 ((res a).res h).2) : EntK P G (mkEnt f np qs enc con pre res) := by
  refine ⟨hk, fun args cs r h g _ e c => ?_⟩
  change (if q : ∃ x, args = enc x ∧ cs = con x ∧ pre x then some (res q.choose) else none) = _ at e
  split at e
  · rename_i q
    have key : ∀ x, args = enc x → cs = con x → pre x → KitH P f args h ((res x).res h).1 ((res x).res h).2 := fun x q1 q2 q3 => by
      subst q1 q2
      exact H x h g q3 c
    obtain ⟨q1, q2, q3⟩ := q.choose_spec
    cases e
    exact key _ q1 q2 q3
  · cases e
theorem xcall_at {en : Ent} {args : List AV} {cs : List (List AV)} {r : XR} {f : FuncId} (ht : tget U f = some en) (hn : args.length = en.np) (hq : xqs s.X args en.qs = some cs) (hs : en.spec args cs = some r) (hr : r.calm = true) :
    xcall U b f args s = some (r.out b s) := by
  unfold xcall
  rw [ht, Option.bind_some, if_pos hn, hq, Option.bind_some, hs]
  cases r <;> first | rfl | cases hr
noncomputable def XR.ups : XR → List (Pos × List AV)
  | .upd u _ => u
  | .updRow u _ _ => u
  | .outs u _ _ => atP u Pos.first
  | _ => []
noncomputable def XR.outU (b : Pos) (s : XS) : XR → AV × XS
  | .upd u v => (v, ⟨s.n, xsets s.X u⟩)
  | .updRow u c v => (v (adv b s.n), XS.add b ⟨s.n, xsets s.X u⟩ c)
  | .outs u rows v => (v (adv b s.n), XS.adds b ⟨s.n, xsets s.X (atP u (adv b s.n))⟩ (rows (adv b s.n)))
  | r => r.out b s
theorem xupd_at {en : Ent} {args : List AV} {cs : List (List AV)} {r : XR} {f : FuncId} (ht : tget U f = some en) (hn : args.length = en.np) (hq : xqs s.X args en.qs = some cs) (hs : en.spec args cs = some r) (hr : r.calm = false) (ho : (r.ups.all fun x => (xown s.X x.1 0).isSome) = true) :
    xcall U b f args s = none ∧ xupd U b f args s = some (r.outU b s) := by
  unfold xcall xupd
  rw [ht, Option.bind_some, Option.bind_some, if_pos hn, if_pos hn, hq, Option.bind_some, Option.bind_some, hs]
  cases r with
  | plain _ => cases hr
  | row _ _ => cases hr
  | blind _ => cases hr
  | upd u v => exact ⟨rfl, if_pos ho⟩
  | updRow u c v => exact ⟨rfl, if_pos ho⟩
  | outs u rows v =>
    have ho : ((atP u (adv b s.n)).all fun x => (xown s.X x.1 0).isSome) = true := (atP_all u _ _ fun p => (xown s.X p 0).isSome).trans ho
    exact ⟨rfl, if_pos ho⟩
end
end Go.Proofs.YtjhgembcdndmkaaGreatDoor.Am

namespace Go.Proofs.YtjhgembcdndmkaaGreatDoor.Am
open Go.RowKit
noncomputable def stv (env : T AV) (d : Nat) (v : AV) : T AV := T.set (Pos.ofNat d) (some v) env
theorem sv_stv (env : T AV) (m n : Nat) (v : AV) : sv (stv env m v) n = if n = m then v else sv env n := sv_set env m n v
noncomputable def xnx (P : Program) (K : List Ent) (b : Pos) (l : List O) (env : T AV) (d : Nat) (s : XS) : Option AV → Option (T AV × XS)
  | some v => xrun P K b l (stv env d v) s
  | none => none
noncomputable def xnp (P : Program) (K : List Ent) (b : Pos) (l : List O) (env : T AV) (d : Nat) : Option (AV × XS) → Option (T AV × XS)
  | some p => xrun P K b l (stv env d p.1) p.2
  | none => none
noncomputable def xnq (P : Program) (K : List Ent) (b : Pos) (l : List O) (env : T AV) : Option (AV × XS) → Option (T AV × XS)
  | some p => xrun P K b l env p.2
  | none => none
noncomputable def lenSA : AV → Option AV
  | .str n _ => some (.int .i64 (n : Int))
  | _ => none
theorem lenSA_str (n v : Nat) : lenSA (.str n v) = some (.int .i64 (n : Int)) := rfl
theorem lenSA_strOf (u : List UInt8) : lenSA (strOf u) = some (.int .i64 (u.length : Int)) := rfl
noncomputable def lenLA : AV → Option AV
  | .sl _ _ _ n _ _ _ => some (.int .i64 (n : Int))
  | .nilSl => some (.int .i64 0)
  | _ => none
theorem lenLA_sl (id : Pos) (g o n c : Nat) (e : Bool) (k : Nat) : lenLA (.sl id g o n c e k) = some (.int .i64 (n : Int)) := rfl
theorem lenLA_nil : lenLA .nilSl = some (.int .i64 0) := rfl
section
variable {P : Program} {U K : List Ent} {b : Pos} {l : List O} {env : T AV} {s : XS} {d g m i rid am : Nat} {w fin : Bool} {X0 : List XB} {pend : List (Nat × XB)}
theorem xnx_some (v : AV) : xnx P K b l env d s (some v) = xrun P K b l (stv env d v) s := rfl
theorem xnp_some (v : AV) (s' : XS) : xnp P K b l env d (some (v, s')) = xrun P K b l (stv env d v) s' := rfl
theorem xnq_some (v : AV) (s' : XS) : xnq P K b l env (some (v, s')) = xrun P K b l env s' := rfl
theorem xr_nil : xrun P K b [] env s = some (env, s) := rfl
theorem xr_still {o : AOp} (h : kindOf o = .still) : xrun P K b (k d o m :: l) env s = xnx P K b l env d s (xst P env o) := by
  show (match xop P K b env s o with
    | some p => xrun P K b l (setD env (some (Pos.ofNat d)) p.1) p.2
    | none => none) = _
  unfold xop
  rw [h]
  show (match (xst P env o).map fun v => (v, s) with | some p => xrun P K b l (setD env (some (Pos.ofNat d)) p.1) p.2 | none => none) = _
  cases xst P env o <;> rfl
theorem xr_load {o : AOp} (h : kindOf o = .load) : xrun P K b (k d o m :: l) env s = xnx P K b l env d s (xld s.X env o) := by
  show (match xop P K b env s o with
    | some p => xrun P K b l (setD env (some (Pos.ofNat d)) p.1) p.2
    | none => none) = _
  unfold xop
  rw [h]
  show (match (xld s.X env o).map fun v => (v, s) with | some p => xrun P K b l (setD env (some (Pos.ofNat d)) p.1) p.2 | none => none) = _
  cases xld s.X env o <;> rfl
theorem xr_alloc {o : AOp} (h : kindOf o = .alloc) : xrun P K b (k d o m :: l) env s = xnp P K b l env d ((xal env (adv b s.n) o).map fun p => (p.1, s.add b p.2)) := by
  show (match xop P K b env s o with
    | some p => xrun P K b l (setD env (some (Pos.ofNat d)) p.1) p.2
    | none => none) = _
  unfold xop
  rw [h]
  show (match (xal env (adv b s.n) o).map fun p => (p.1, s.add b p.2) with | some p => xrun P K b l (setD env (some (Pos.ofNat d)) p.1) p.2 | none => none) = _
  cases (xal env (adv b s.n) o).map fun p => (p.1, s.add b p.2) <;> rfl
theorem xr_kg {o : AOp} {x : Bool} (h : sv env g = .bool x) : xrun P K b (kg d g w o m :: l) env s = if x = w then xrun P K b (k d o m :: l) env s else xrun P K b l (stv env d .undef) s := by
  have e : wantedA (kg d g w o m) env = (if w = true then x else !x) := by rw [wanted_sv, h]; cases w <;> rfl
  show (if wantedA (kg d g w o m) env = true then (match xop P K b env s o with
    | some p => xrun P K b l (setD env (some (Pos.ofNat d)) p.1) p.2
    | none => none) else xrun P K b l (setD env (some (Pos.ofNat d)) .undef) s) = _
  rw [e]
  cases x <;> cases w <;> rfl
theorem xr_cmp {x y : Opd} : xrun P K b (k d (.ext 3 [x, y]) m :: l) env s = xnx P K b l env d s (xcmp (unstr (ev env x)) (unstr (ev env y))) := by
  show (match (xcmp (unstr (ev env x)) (unstr (ev env y))).map (fun v => (v, s)) with
    | some p => xrun P K b l (setD env (some (Pos.ofNat d)) p.1) p.2
    | none => none) = _
  cases xcmp (unstr (ev env x)) (unstr (ev env y)) <;> rfl
theorem xr_call {f : Opd} {args : List Opd} : xrun P K b (k d (.call (.value f) args) m :: l) env s = xnp P K b l env d (match ev env f with
    | .fn (.func g) fi ca => orU (xcall K b g (fi ++ (args.map (ev env) ++ ca)) s) (xupd K b g (fi ++ (args.map (ev env) ++ ca)) s)
    | _ => none) := by
  show (match (match ev env f with
    | .fn (.func g) fi ca => orU (xcall K b g (fi ++ (args.map (ev env) ++ ca)) s) (xupd K b g (fi ++ (args.map (ev env) ++ ca)) s)
    | _ => none) with
    | some p => xrun P K b l (setD env (some (Pos.ofNat d)) p.1) p.2
    | none => none) = _
  split <;> rename_i h
  · rw [h]; rfl
  · rw [h]; rfl
theorem xr_store {n : Nat} {a x : Opd} : xrun P K b (kn (.store n a x) m :: l) env s = xnq P K b l env (if (ev env x).cells.length = n ∧ 0 < n ∧ (ev env x).cells.all AV.atom = true then (match ev env a with
    | .ptr id 0 off => (xput s.X id off (ev env x).cells).map fun X => (.undef, ⟨s.n, X⟩)
    | _ => none) else none) := by
  show (match xact K b env s (.store n a x) with
    | some p => xrun P K b l (setD env none p.1) p.2
    | none => none) = _
  unfold xnq
  rfl
theorem xr_append {es bytes : Nat} {x y : Opd} : xrun P K b (k d (.append es bytes x y) m :: l) env s = xnp P K b l env d (xap b s es bytes (ev env x) (ev env y)) := by
  show (match xap b s es bytes (ev env x) (ev env y) with
    | some p => xrun P K b l (setD env (some (Pos.ofNat d)) p.1) p.2
    | none => none) = _
  cases xap b s es bytes (ev env x) (ev env y) <;> rfl
theorem xst_mov (x : Opd) : xst P env (.mov x) = (some (ev env x)) := by
  first | rfl | (unfold xst xst0 evalOp; dsimp only; generalize binA _ _ _ _ _ = r; cases r <;> rfl) | (unfold xst xst0 evalOp; dsimp only; generalize unA _ _ = r; cases r <;> rfl) | (unfold xst xst0 evalOp; dsimp only; generalize fillA _ _ _ = r; cases r <;> rfl)
theorem xst_pick (c x y : Opd) : xst P env (.pick c x y) = (match ev env c with | .bool true => some (ev env x) | .bool false => some (ev env y) | _ => none) := by
  first | rfl | (unfold xst xst0 evalOp; dsimp only; generalize ev env c = v; cases v <;> first | rfl | (rename_i q; cases q <;> rfl) | (simp only [natK_eq, intK_eq]; done) | (simp only [natK_eq, intK_eq]; rfl) | (rename_i q _ _; cases q <;> rfl) | (dsimp only; generalize nth _ _ = r; cases r <;> rfl))
theorem xst_bin (op : BinOp) (kd : EK) (no : Bool) (x y : Opd) : xst P env (.bin op kd no x y) = (binA op kd no (ev env x) (ev env y)) := by
  first | rfl | (unfold xst xst0 evalOp; dsimp only; generalize binA _ _ _ _ _ = r; cases r <;> rfl) | (unfold xst xst0 evalOp; dsimp only; generalize unA _ _ = r; cases r <;> rfl) | (unfold xst xst0 evalOp; dsimp only; generalize fillA _ _ _ = r; cases r <;> rfl)
theorem xst_build (z : List AV) (p : List (Nat × Nat × Opd)) : xst P env (.build z p) = ((fillA env z p).map .agg) := by
  first | rfl | (unfold xst xst0 evalOp; dsimp only; generalize binA _ _ _ _ _ = r; cases r <;> rfl) | (unfold xst xst0 evalOp; dsimp only; generalize unA _ _ = r; cases r <;> rfl) | (unfold xst xst0 evalOp; dsimp only; generalize fillA _ _ _ = r; cases r <;> rfl)
theorem xst_fld (off : Nat) (x : Opd) : xst P env (.fieldAddr off x) = (match ev env x with | .ptr id g o => some (.ptr id g (o + off)) | _ => none) := by
  first | rfl | (unfold xst xst0 evalOp; dsimp only; generalize ev env x = v; cases v <;> first | rfl | (rename_i q; cases q <;> rfl) | (simp only [natK_eq, intK_eq]; done) | (simp only [natK_eq, intK_eq]; rfl) | (rename_i q _ _; cases q <;> rfl) | (dsimp only; generalize nth _ _ = r; cases r <;> rfl))
theorem xst_partN (off n : Nat) (x : Opd) : xst P env (.partN off n x) = (match ev env x with | .agg l => some (.agg ((l.drop off).take n)) | _ => none) := by
  first | rfl | (unfold xst xst0 evalOp; dsimp only; generalize ev env x = v; cases v <;> first | rfl | (rename_i q; cases q <;> rfl) | (simp only [natK_eq, intK_eq]; done) | (simp only [natK_eq, intK_eq]; rfl) | (rename_i q _ _; cases q <;> rfl) | (dsimp only; generalize nth _ _ = r; cases r <;> rfl))
theorem xst_lenS (x : Opd) : xst P env (.lenS x) = (lenSA (ev env x)) := by
  first | rfl | (unfold xst xst0 evalOp; dsimp only; generalize ev env x = v; cases v <;> first | rfl | (rename_i q; cases q <;> rfl) | (simp only [natK_eq, intK_eq]; done) | (simp only [natK_eq, intK_eq]; rfl) | (rename_i q _ _; cases q <;> rfl) | (dsimp only; generalize nth _ _ = r; cases r <;> rfl))
theorem xst_lenL (x : Opd) : xst P env (.lenL x) = (lenLA (ev env x)) := by
  first | rfl | (unfold xst xst0 evalOp; dsimp only; generalize ev env x = v; cases v <;> first | rfl | (rename_i q; cases q <;> rfl) | (simp only [natK_eq, intK_eq]; done) | (simp only [natK_eq, intK_eq]; rfl) | (rename_i q _ _; cases q <;> rfl) | (dsimp only; generalize nth _ _ = r; cases r <;> rfl))
noncomputable def xdn (P : Program) (U : List Ent) (b : Pos) (X0 : List XB) (i : Nat) (l : List O) (env : T AV) (s : XS) (pend : List (Nat × XB)) (rid am : Nat) (fin : Bool) (d : Nat) : Option AV → Option XQ
  | some v => xdrs P U b X0 i l ⟨stv env d v, s, pend, rid, am, fin⟩
  | none => none
theorem xdn_some (v : AV) : xdn P U b X0 i l env s pend rid am fin d (some v) = xdrs P U b X0 i l ⟨stv env d v, s, pend, rid, am, fin⟩ := rfl
theorem xd_nil (q : XQ) : xdrs P U b X0 i [] q = some q := rfl
theorem xd_still {o : AOp} (h : kindOf o = .still) : xdrs P U b X0 i (k d o m :: l) ⟨env, s, pend, rid, am, fin⟩ = xdn P U b X0 (i + 1) l env s pend rid am fin d (xst P env o) := by
  unfold xdrs xdr
  simp only [h, show wantedA (k d o m) env = true from rfl, if_true]
  cases xst P env o <;> rfl
theorem xd_load {o : AOp} (h : kindOf o = .load) : xdrs P U b X0 i (k d o m :: l) ⟨env, s, pend, rid, am, false⟩ = (match xld X0 env o with
    | some v => if eqAV 8 v v = true then xdrs P U b X0 (i + 1) l ⟨stv env d v, s, pend, rid, am, false⟩ else none
    | none => if am &&& m = am then (match xld s.X env o with
      | some v => if eqAV 8 v v = true then xdrs P U b X0 (i + 1) l ⟨stv env d v, s, pend, rid, am, false⟩ else none
      | none => none) else none) := by
  rw [xdrs]
  unfold xdr
  simp only [h, show wantedA (k d o m) env = true from rfl, if_true, Bool.false_eq_true, if_false]
  cases xld X0 env o with
  | some v =>
    dsimp only
    by_cases c : eqAV 8 v v = true
    · rw [if_pos c, if_pos c]; rfl
    · rw [if_neg c, if_neg c]
  | none =>
    dsimp only
    by_cases c : am &&& m = am
    · rw [if_pos c, if_pos c]
      cases xld s.X env o with
      | some v =>
        dsimp only
        by_cases c : eqAV 8 v v = true
        · rw [if_pos c, if_pos c]; rfl
        · rw [if_neg c, if_neg c]
      | none => rfl
    · rw [if_neg c, if_neg c]
theorem xd_alloc {o : AOp} (h : kindOf o = .alloc) : xdrs P U b X0 i (k d o m :: l) ⟨env, s, pend, rid, am, fin⟩ = (match xal env (adv b rid) o with
    | some p => xdrs P U b X0 (i + 1) l ⟨stv env d p.1, s, (i, ⟨adv b rid, 0, true, p.2⟩) :: pend, rid + 1, am, fin⟩
    | none => none) := by
  rw [xdrs]
  unfold xdr
  simp only [h, show wantedA (k d o m) env = true from rfl, if_true]
  cases xal env (adv b rid) o <;> rfl
noncomputable def xdl (P : Program) (U : List Ent) (b : Pos) (X0 : List XB) (i : Nat) (l : List O) (env : T AV) (s : XS) (pend : List (Nat × XB)) (rid am m d : Nat) (x y : Option AV) : Option XQ :=
  match x with
    | some v => if eqAV 8 v v = true then xdrs P U b X0 (i + 1) l ⟨stv env d v, s, pend, rid, am, false⟩ else none
    | none => if am &&& m = am then (match y with
      | some v => if eqAV 8 v v = true then xdrs P U b X0 (i + 1) l ⟨stv env d v, s, pend, rid, am, false⟩ else none
      | none => none) else none
theorem xdl_old (v : AV) (y : Option AV) (h : eqAV 8 v v = true) : xdl P U b X0 i l env s pend rid am m d (some v) y = xdrs P U b X0 (i + 1) l ⟨stv env d v, s, pend, rid, am, false⟩ := if_pos h
noncomputable def xda (P : Program) (U : List Ent) (b : Pos) (X0 : List XB) (i : Nat) (l : List O) (env : T AV) (s : XS) (pend : List (Nat × XB)) (rid am : Nat) (fin : Bool) (d : Nat) : Option (AV × List AV) → Option XQ
    | some p => xdrs P U b X0 (i + 1) l ⟨stv env d p.1, s, (i, ⟨adv b rid, 0, true, p.2⟩) :: pend, rid + 1, am, fin⟩
    | none => none
theorem xda_some (v : AV) (c : List AV) : xda P U b X0 i l env s pend rid am fin d (some (v, c)) = xdrs P U b X0 (i + 1) l ⟨stv env d v, s, (i, ⟨adv b rid, 0, true, c⟩) :: pend, rid + 1, am, fin⟩ := rfl
theorem xd_call {f : Opd} {args : List Opd} : xdrs P U b X0 i (k d (.call (.value f) args) m :: l) ⟨env, s, pend, rid, am, false⟩ = (match (match ev env f with
      | .fn (.func g) fi ca => xcall U b g (fi ++ (args.map (ev env) ++ ca)) ⟨s.n, xins m pend s.X⟩
      | _ => none) with
    | some p => xdrs P U b X0 (i + 1) l ⟨stv env d p.1, p.2, xrem m pend, rid, am ||| 2 ^ i, false⟩
    | none => none) := by
  rw [xdrs]
  unfold xdr
  simp only [show kindOf (AOp.call (.value f) args) = .actor from rfl, show wantedA (k d (.call (.value f) args) m) env = true from rfl, if_true, Bool.false_eq_true, if_false]
  show (match (match xact U b env ⟨s.n, xins m pend s.X⟩ (.call (.value f) args) with
    | some p => some ⟨setD env (some (Pos.ofNat d)) p.1, p.2, xrem m pend, rid, am ||| 2 ^ i, false⟩
    | none => none) with
    | some q' => xdrs P U b X0 (i + 1) l q'
    | none => none) = _
  show (match (match (match ev env f with
      | .fn (.func g) fi ca => xcall U b g (fi ++ (args.map (ev env) ++ ca)) ⟨s.n, xins m pend s.X⟩
      | _ => none) with
    | some p => some (⟨setD env (some (Pos.ofNat d)) p.1, p.2, xrem m pend, rid, am ||| 2 ^ i, false⟩ : XQ)
    | none => none) with
    | some q' => xdrs P U b X0 (i + 1) l q'
    | none => none) = _
  generalize (match ev env f with
      | .fn (.func g) fi ca => xcall U b g (fi ++ (args.map (ev env) ++ ca)) ⟨s.n, xins m pend s.X⟩
      | _ => none) = r
  cases r <;> rfl
theorem xd_append {es bytes : Nat} {x y : Opd} : xdrs P U b X0 i (k d (.append es bytes x y) m :: l) ⟨env, s, pend, rid, am, fin⟩ = (if (2 ^ i - 1) &&& m = 2 ^ i - 1 then (match xap b ⟨s.n, xins m pend s.X⟩ es bytes (ev env x) (ev env y) with
    | some p => xdrs P U b X0 (i + 1) l ⟨stv env d p.1, p.2, xrem m pend, rid, am ||| 2 ^ i, !(!fin && xapF ⟨s.n, xins m pend s.X⟩ es (ev env y) p.2)⟩
    | none => none) else none) := by
  rw [xdrs]
  unfold xdr
  simp only [show kindOf (AOp.append es bytes x y) = .actor from rfl, show wantedA (k d (.append es bytes x y) m) env = true from rfl, if_true]
  by_cases c : (2 ^ i - 1) &&& m = 2 ^ i - 1
  · rw [if_pos c, if_pos c]
    show (match (match xap b ⟨s.n, xins m pend s.X⟩ es bytes (ev env x) (ev env y) with
    | some p => some (⟨setD env (some (Pos.ofNat d)) p.1, p.2, xrem m pend, rid, am ||| 2 ^ i, !(!fin && xapF ⟨s.n, xins m pend s.X⟩ es (ev env y) p.2)⟩ : XQ)
    | none => none) with
    | some q' => xdrs P U b X0 (i + 1) l q'
    | none => none) = _
    generalize xap b ⟨s.n, xins m pend s.X⟩ es bytes (ev env x) (ev env y) = r
    cases r <;> rfl
  · rw [if_neg c, if_neg c]
theorem xd_store {n : Nat} {a x : Opd} : xdrs P U b X0 i (kn (.store n a x) m :: l) ⟨env, s, pend, rid, am, fin⟩ = (if (2 ^ i - 1) &&& m = 2 ^ i - 1 then (match (if (ev env x).cells.length = n ∧ 0 < n ∧ (ev env x).cells.all AV.atom = true then (match ev env a with
      | .ptr id 0 off => (xput (xins m pend s.X) id off (ev env x).cells).map fun X => ((.undef : AV), (⟨s.n, X⟩ : XS))
      | _ => none) else none) with
    | some p => xdrs P U b X0 (i + 1) l ⟨env, p.2, xrem m pend, rid, am ||| 2 ^ i, true⟩
    | none => none) else if fin = false ∧ xfresh pend (ev env a) = true then (match (if (ev env x).cells.length = n ∧ 0 < n ∧ (ev env x).cells.all AV.atom = true then (match ev env a with
      | .ptr id 0 off => (xput (xins m pend s.X) id off (ev env x).cells).map fun X => ((.undef : AV), (⟨s.n, X⟩ : XS))
      | _ => none) else none) with
    | some p => xdrs P U b X0 (i + 1) l ⟨env, p.2, xrem m pend, rid, am ||| 2 ^ i, false⟩
    | none => none) else none) := by
  rw [xdrs]
  unfold xdr
  simp only [show kindOf (AOp.store n a x) = .actor from rfl, show wantedA (kn (.store n a x) m) env = true from rfl, if_true]
  by_cases c : (2 ^ i - 1) &&& m = 2 ^ i - 1
  · rw [if_pos c, if_pos c]
    show (match (match (if (ev env x).cells.length = n ∧ 0 < n ∧ (ev env x).cells.all AV.atom = true then (match ev env a with
      | .ptr id 0 off => (xput (xins m pend s.X) id off (ev env x).cells).map fun X => ((.undef : AV), (⟨s.n, X⟩ : XS))
      | _ => none) else none) with
    | some p => some (⟨setD env none p.1, p.2, xrem m pend, rid, am ||| 2 ^ i, true⟩ : XQ)
    | none => none) with
    | some q' => xdrs P U b X0 (i + 1) l q'
    | none => none) = _
    generalize (if (ev env x).cells.length = n ∧ 0 < n ∧ (ev env x).cells.all AV.atom = true then (match ev env a with
      | .ptr id 0 off => (xput (xins m pend s.X) id off (ev env x).cells).map fun X => ((.undef : AV), (⟨s.n, X⟩ : XS))
      | _ => none) else none) = r
    cases r <;> rfl
  · rw [if_neg c, if_neg c]
    by_cases c2 : fin = false ∧ xfresh pend (ev env a) = true
    · rw [if_pos c2, if_pos c2]
      show (match (match (if (ev env x).cells.length = n ∧ 0 < n ∧ (ev env x).cells.all AV.atom = true then (match ev env a with
      | .ptr id 0 off => (xput (xins m pend s.X) id off (ev env x).cells).map fun X => ((.undef : AV), (⟨s.n, X⟩ : XS))
      | _ => none) else none) with
      | some p => some (⟨setD env none p.1, p.2, xrem m pend, rid, am ||| 2 ^ i, false⟩ : XQ)
      | none => none) with
      | some q' => xdrs P U b X0 (i + 1) l q'
      | none => none) = _
      generalize (if (ev env x).cells.length = n ∧ 0 < n ∧ (ev env x).cells.all AV.atom = true then (match ev env a with
      | .ptr id 0 off => (xput (xins m pend s.X) id off (ev env x).cells).map fun X => ((.undef : AV), (⟨s.n, X⟩ : XS))
      | _ => none) else none) = r
      cases r <;> rfl
    · rw [if_neg c2, if_neg c2]
theorem xd_kg0 {o : AOp} {x : Bool} (ha : isAlloc o = false) (h : sv env g = .bool x) : xdrs P U b X0 i (kg d g w o m :: l) ⟨env, s, pend, rid, am, fin⟩ = if x = w then xdrs P U b X0 i (k d o m :: l) ⟨env, s, pend, rid, am, fin⟩ else xdrs P U b X0 (i + 1) l ⟨stv env d .undef, s, pend, rid, am, fin⟩ := by
  have e : wantedA (kg d g w o m) env = (if w = true then x else !x) := by rw [wanted_sv, h]; cases w <;> rfl
  by_cases c : x = w
  · rw [if_pos c, xdrs, xdrs]
    have e1 : wantedA (kg d g w o m) env = true := by rw [e, c]; cases w <;> rfl
    have e2 : wantedA (k d o m) env = true := rfl
    have : xdr P U b X0 i ⟨env, s, pend, rid, am, fin⟩ (kg d g w o m) = xdr P U b X0 i ⟨env, s, pend, rid, am, fin⟩ (k d o m) := by
      unfold xdr
      simp only [e1, e2]
    rw [this]
  · rw [if_neg c, xdrs]
    have e1 : wantedA (kg d g w o m) env = false := by rw [e]; cases x <;> cases w <;> first | rfl | exact absurd rfl c
    have : xdr P U b X0 i ⟨env, s, pend, rid, am, fin⟩ (kg d g w o m) = some ⟨stv env d .undef, s, pend, rid, am, fin⟩ := by
      unfold xdr
      simp only [e1, Bool.false_eq_true, if_false]
      unfold isAlloc at ha
      cases hk : kindOf o <;> first | rfl | (rw [hk] at ha; cases ha)
    rw [this]
theorem xd_kg {o : AOp} {x : Bool} (h : sv env g = .bool x) : xdrs P U b X0 i (kg d g w o m :: l) ⟨env, s, pend, rid, am, fin⟩ = if x = w then xdrs P U b X0 i (k d o m :: l) ⟨env, s, pend, rid, am, fin⟩ else if isAlloc o = true then (match xdr P U b X0 i ⟨env, s, pend, rid, am, fin⟩ (kg d g w o m) with | some q => xdrs P U b X0 (i + 1) l q | none => none) else xdrs P U b X0 (i + 1) l ⟨stv env d .undef, s, pend, rid, am, fin⟩ := by
  by_cases c : isAlloc o = true
  · by_cases cw : x = w
    · rw [if_pos cw, xdrs, xdrs]
      have e1 : wantedA (kg d g w o m) env = true := by rw [show wantedA (kg d g w o m) env = (if w = true then x else !x) by rw [wanted_sv, h]; cases w <;> rfl, cw]; cases w <;> rfl
      have e2 : wantedA (k d o m) env = true := rfl
      have : xdr P U b X0 i ⟨env, s, pend, rid, am, fin⟩ (kg d g w o m) = xdr P U b X0 i ⟨env, s, pend, rid, am, fin⟩ (k d o m) := by
        unfold xdr
        simp only [e1, e2]
      rw [this]
    · rw [if_neg cw, if_pos c, xdrs]; rfl
  · rw [if_neg c, xd_kg0 (by simpa using c) h]
theorem xr_mov (x : Opd) : xrun P K b (k d (.mov x) m :: l) env s = xnx P K b l env d s (some (ev env x)) := (xr_still rfl).trans (by rw [xst_mov])
theorem xd_mov (x : Opd) : xdrs P U b X0 i (k d (.mov x) m :: l) ⟨env, s, pend, rid, am, fin⟩ = xdn P U b X0 (i + 1) l env s pend rid am fin d (some (ev env x)) := (xd_still rfl).trans (by rw [xst_mov])
theorem xr_pick (c x y : Opd) : xrun P K b (k d (.pick c x y) m :: l) env s = xnx P K b l env d s (match ev env c with | .bool true => some (ev env x) | .bool false => some (ev env y) | _ => none) := (xr_still rfl).trans (by rw [xst_pick])
theorem xd_pick (c x y : Opd) : xdrs P U b X0 i (k d (.pick c x y) m :: l) ⟨env, s, pend, rid, am, fin⟩ = xdn P U b X0 (i + 1) l env s pend rid am fin d (match ev env c with | .bool true => some (ev env x) | .bool false => some (ev env y) | _ => none) := (xd_still rfl).trans (by rw [xst_pick])
theorem xr_bin (op : BinOp) (kd : EK) (no : Bool) (x y : Opd) : xrun P K b (k d (.bin op kd no x y) m :: l) env s = xnx P K b l env d s (binA op kd no (ev env x) (ev env y)) := (xr_still rfl).trans (by rw [xst_bin])
theorem xd_bin (op : BinOp) (kd : EK) (no : Bool) (x y : Opd) : xdrs P U b X0 i (k d (.bin op kd no x y) m :: l) ⟨env, s, pend, rid, am, fin⟩ = xdn P U b X0 (i + 1) l env s pend rid am fin d (binA op kd no (ev env x) (ev env y)) := (xd_still rfl).trans (by rw [xst_bin])
theorem xr_build (z : List AV) (p : List (Nat × Nat × Opd)) : xrun P K b (k d (.build z p) m :: l) env s = xnx P K b l env d s ((fillA env z p).map .agg) := (xr_still rfl).trans (by rw [xst_build])
theorem xd_build (z : List AV) (p : List (Nat × Nat × Opd)) : xdrs P U b X0 i (k d (.build z p) m :: l) ⟨env, s, pend, rid, am, fin⟩ = xdn P U b X0 (i + 1) l env s pend rid am fin d ((fillA env z p).map .agg) := (xd_still rfl).trans (by rw [xst_build])
theorem xr_fld (off : Nat) (x : Opd) : xrun P K b (k d (.fieldAddr off x) m :: l) env s = xnx P K b l env d s (match ev env x with | .ptr id g o => some (.ptr id g (o + off)) | _ => none) := (xr_still rfl).trans (by rw [xst_fld])
theorem xd_fld (off : Nat) (x : Opd) : xdrs P U b X0 i (k d (.fieldAddr off x) m :: l) ⟨env, s, pend, rid, am, fin⟩ = xdn P U b X0 (i + 1) l env s pend rid am fin d (match ev env x with | .ptr id g o => some (.ptr id g (o + off)) | _ => none) := (xd_still rfl).trans (by rw [xst_fld])
theorem xr_partN (off n : Nat) (x : Opd) : xrun P K b (k d (.partN off n x) m :: l) env s = xnx P K b l env d s (match ev env x with | .agg l => some (.agg ((l.drop off).take n)) | _ => none) := (xr_still rfl).trans (by rw [xst_partN])
theorem xd_partN (off n : Nat) (x : Opd) : xdrs P U b X0 i (k d (.partN off n x) m :: l) ⟨env, s, pend, rid, am, fin⟩ = xdn P U b X0 (i + 1) l env s pend rid am fin d (match ev env x with | .agg l => some (.agg ((l.drop off).take n)) | _ => none) := (xd_still rfl).trans (by rw [xst_partN])
theorem xr_lenS (x : Opd) : xrun P K b (k d (.lenS x) m :: l) env s = xnx P K b l env d s (lenSA (ev env x)) := (xr_still rfl).trans (by rw [xst_lenS])
theorem xr_lenL (x : Opd) : xrun P K b (k d (.lenL x) m :: l) env s = xnx P K b l env d s (lenLA (ev env x)) := (xr_still rfl).trans (by rw [xst_lenL])
theorem xd_lenL (x : Opd) : xdrs P U b X0 i (k d (.lenL x) m :: l) ⟨env, s, pend, rid, am, fin⟩ = xdn P U b X0 (i + 1) l env s pend rid am fin d (lenLA (ev env x)) := (xd_still rfl).trans (by rw [xst_lenL])
theorem xr_load1 (a : Opd) : xrun P K b (k d (.load1 a) m :: l) env s = xnx P K b l env d s (xld s.X env (.load1 a)) := xr_load rfl
theorem xd_load1 (a : Opd) : xdrs P U b X0 i (k d (.load1 a) m :: l) ⟨env, s, pend, rid, am, false⟩ = xdl P U b X0 i l env s pend rid am m d (xld X0 env (.load1 a)) (xld s.X env (.load1 a)) := xd_load rfl
theorem xr_loadN (n : Nat) (a : Opd) : xrun P K b (k d (.loadN n a) m :: l) env s = xnx P K b l env d s (xld s.X env (.loadN n a)) := xr_load rfl
theorem xd_loadN (n : Nat) (a : Opd) : xdrs P U b X0 i (k d (.loadN n a) m :: l) ⟨env, s, pend, rid, am, false⟩ = xdl P U b X0 i l env s pend rid am m d (xld X0 env (.loadN n a)) (xld s.X env (.loadN n a)) := xd_load rfl
theorem xr_new (z : List AV) : xrun P K b (k d (.new z) m :: l) env s = xnp P K b l env d ((xal env (adv b s.n) (.new z)).map fun p => (p.1, s.add b p.2)) := xr_alloc rfl
theorem xd_new (z : List AV) : xdrs P U b X0 i (k d (.new z) m :: l) ⟨env, s, pend, rid, am, fin⟩ = xda P U b X0 i l env s pend rid am fin d (xal env (adv b rid) (.new z)) := xd_alloc rfl
theorem xr_box (a : Opd) : xrun P K b (k d (.box a) m :: l) env s = xnp P K b l env d ((xal env (adv b s.n) (.box a)).map fun p => (p.1, s.add b p.2)) := xr_alloc rfl
theorem xr_buildSl (n es : Nat) (z : List AV) (p : List (Nat × Nat × Opd)) : xrun P K b (k d (.buildSl n es z p) m :: l) env s = xnp P K b l env d ((xal env (adv b s.n) (.buildSl n es z p)).map fun p => (p.1, s.add b p.2)) := xr_alloc rfl
theorem xd_buildSl (n es : Nat) (z : List AV) (p : List (Nat × Nat × Opd)) : xdrs P U b X0 i (k d (.buildSl n es z p) m :: l) ⟨env, s, pend, rid, am, fin⟩ = xda P U b X0 i l env s pend rid am fin d (xal env (adv b rid) (.buildSl n es z p)) := xd_alloc rfl
theorem xr_idxAddrSl (es : Nat) (x y : Opd) : xrun P K b (k d (.idxAddrSl es x y) m :: l) env s = xnx P K b l env d s (xst P env (.idxAddrSl es x y)) := xr_still rfl
theorem xd_idxAddrSl (es : Nat) (x y : Opd) : xdrs P U b X0 i (k d (.idxAddrSl es x y) m :: l) ⟨env, s, pend, rid, am, fin⟩ = xdn P U b X0 (i + 1) l env s pend rid am fin d (xst P env (.idxAddrSl es x y)) := xd_still rfl
theorem xd_idxAddrArr (n es : Nat) (x y : Opd) : xdrs P U b X0 i (k d (.idxAddrArr n es x y) m :: l) ⟨env, s, pend, rid, am, fin⟩ = xdn P U b X0 (i + 1) l env s pend rid am fin d (xst P env (.idxAddrArr n es x y)) := xd_still rfl
theorem xd_idxStr (x y : Opd) : xdrs P U b X0 i (k d (.idxStr x y) m :: l) ⟨env, s, pend, rid, am, fin⟩ = xdn P U b X0 (i + 1) l env s pend rid am fin d (xst P env (.idxStr x y)) := xd_still rfl
theorem xr_sliceSl (es : Nat) (x : Opd) (lo hi mx : Option Opd) : xrun P K b (k d (.sliceSl es x lo hi mx) m :: l) env s = xnx P K b l env d s (xst P env (.sliceSl es x lo hi mx)) := xr_still rfl
theorem xd_sliceSl (es : Nat) (x : Opd) (lo hi mx : Option Opd) : xdrs P U b X0 i (k d (.sliceSl es x lo hi mx) m :: l) ⟨env, s, pend, rid, am, fin⟩ = xdn P U b X0 (i + 1) l env s pend rid am fin d (xst P env (.sliceSl es x lo hi mx)) := xd_still rfl
theorem xst_idxAddrSl (es : Nat) (x y : Opd) : xst P env (.idxAddrSl es x y) = (match ev env x, ev env y with
    | .sl id g off n _ _ es', .int _ z => if 0 ≤ z ∧ z < (n : Int) ∧ es = es' then some (.ptr id g (off + z.toNat * es)) else none
    | _, _ => none) := rfl
theorem xst_idxStr (x y : Opd) : xst P env (.idxStr x y) = (match unstr (ev env x), ev env y with
    | some u, .int _ z => if h : 0 ≤ z ∧ z.toNat < u.length then some (.int .u8 ((u[z.toNat]'h.2).toNat : Int)) else none
    | _, _ => none) := rfl
theorem xst_sliceStr (x : Opd) (lo hi : Option Opd) : xst P env (.sliceStr x lo hi) = (match unstr (ev env x) with
    | some u => match xbd env lo 0, xbd env hi u.length with
      | some l, some r => if l ≤ r ∧ r ≤ u.length then some (strOf ((u.drop l).take (r - l))) else none
      | _, _ => none
    | none => none) := rfl
noncomputable def xsl (es : Nat) (v : AV) (lo : Option Nat) (hi : Nat → Option Nat) (fb : Option AV) : Option AV := match v with
  | .sl id g off len cap ex es' => match lo, hi len with
    | some l, some r => if es = es' ∧ l ≤ r ∧ r ≤ cap then some (.sl id g (if l = cap ∧ ex = true then off else off + l * es) (r - l) (cap - l) ex es) else fb
    | _, _ => fb
  | _ => fb
theorem xsl_sl (es l : Nat) (id : Pos) (g off len cap : Nat) (ex : Bool) (es' : Nat) (hi : Nat → Option Nat) (fb : Option AV) : xsl es (.sl id g off len cap ex es') (some l) hi fb = match hi len with
    | some r => if es = es' ∧ l ≤ r ∧ r ≤ cap then some (.sl id g (if l = cap ∧ ex = true then off else off + l * es) (r - l) (cap - l) ex es) else fb
    | none => fb := by
  show (match some l, hi len with | some l, some r => _ | _, _ => fb) = _
  cases hi len <;> rfl
theorem xst_sliceSl (es : Nat) (x : Opd) (lo hi : Option Opd) : xst P env (.sliceSl es x lo hi none) = xsl es (ev env x) (xbd env lo 0) (fun n => xbd env hi n) (xst0 P env (.sliceSl es x lo hi none)) := by
  show xst0 P env (.sliceSl es x lo hi none) = _
  unfold xsl
  split
  · rename_i id g off len cap ex es' hx
    split
    · rename_i l r hl hr
      split
      · rename_i c
        obtain ⟨rfl, c1, c2⟩ := c
        have e : evalOp P (.sliceSl es x lo hi none) env hp0 = (match ev env x with
          | .nilSl => (match evO env lo 0, evO env hi 0, evO env none 0 with
            | some 0, some 0, some 0 => .val .nilSl hp0
            | _, _, _ => .fail "sliceSl nil")
          | .sl id g off len cap ex es' =>
            (match evO env lo 0, evO env hi len, evO env none cap with
            | some l, some r, some m =>
              bif Nat.beq es es' && Nat.ble l r && Nat.ble r m && Nat.ble m cap then
                natK (Nat.sub r l) fun n => natK (Nat.sub m l) fun c => natK (Nat.add off (Nat.mul l es)) fun off' =>
                  .val (.sl id g (bif Nat.beq l m && (bif ex then true else (none : Option Opd).isSome) then off else off') n c (bif ex then true else (none : Option Opd).isSome) es) hp0
              else .fail "sliceSl bounds"
            | _, _, _ => .fail "sliceSl")
          | _ => .fail "sliceSl what") := rfl
        have e3 : evO env none cap = some cap := rfl
        unfold xst0
        rw [e, hx]
        dsimp only
        rw [xbd_ok hl, xbd_ok hr, e3]
        have b1 : Nat.beq es es = true := by simp
        simp only [b1, ble_iff.2 c1, ble_iff.2 c2, ble_iff.2 (Nat.le_refl cap), Bool.and_self, cond_true, natK_eq]
        by_cases cc : l = cap
        · subst cc
          have b2 : Nat.beq l l = true := by simp
          cases ex <;> simp
        · have b2 : Nat.beq l cap = false := by
            cases q : Nat.beq l cap with
            | false => rfl
            | true => exact absurd (Nat.eq_of_beq_eq_true q) cc
          rw [b2]
          cases ex <;> simp [cc]
      · rfl
    · rfl
  · rfl
theorem eq_int (n : Nat) (kk : IntKind) (z : Int) : eqAV (n + 1) (.int kk z) (.int kk z) = true := eqAV_int n kk z
theorem eq_str (n : Nat) (u : List UInt8) : eqAV (n + 1) (strOf u) (strOf u) = true := by
  show (Nat.beq _ _ && Nat.beq _ _) = true
  rw [beq_iff.2 rfl, beq_iff.2 rfl]; rfl
theorem eq_agg {n : Nat} {l : List AV} (h : (l.all fun x => eqAV n x x) = true) : eqAV (n + 1) (.agg l) (.agg l) = true := eqAV_agg n (List.all_eq_true.1 h)
theorem eqs8 (u : List UInt8) : eqAV 8 (strOf u) (strOf u) = true := eq_str 7 u
theorem eqs7 (u : List UInt8) : eqAV 7 (strOf u) (strOf u) = true := eq_str 6 u
theorem eqi8 (kk : IntKind) (z : Int) : eqAV 8 (.int kk z) (.int kk z) = true := eq_int 7 kk z
theorem eqi7 (kk : IntKind) (z : Int) : eqAV 7 (.int kk z) (.int kk z) = true := eq_int 6 kk z
theorem eqg8 {l : List AV} (h : (l.all fun x => eqAV 7 x x) = true) : eqAV 8 (.agg l) (.agg l) = true := eq_agg h
theorem eqn8 : eqAV 8 .nilSl .nilSl = true := rfl
theorem eqn7 : eqAV 7 .nilSl .nilSl = true := rfl
theorem fill_nil (cells : List AV) : fillA env cells [] = some cells := rfl
theorem fill_cons (cells : List AV) (off size : Nat) (x : Opd) (r : List (Nat × Nat × Opd)) : fillA env cells ((off, size, x) :: r) = if (ev env x).cells.length = size ∧ off + size ≤ cells.length then fillA env (cells.take off ++ ((ev env x).cells ++ cells.drop (off + size))) r else none := by
  show (bif Nat.beq (ev env x).cells.length size && Nat.ble (Nat.add off size) cells.length then fillA env (cells.take off ++ ((ev env x).cells ++ cells.drop (Nat.add off size))) r else none) = _
  by_cases c : (ev env x).cells.length = size ∧ off + size ≤ cells.length
  · rw [if_pos c, beq_iff.2 c.1, show Nat.ble (Nat.add off size) cells.length = true from ble_iff.2 c.2]; rfl
  · rw [if_neg c]
    cases h1 : Nat.beq (ev env x).cells.length size with
    | false => rfl
    | true =>
      cases h2 : Nat.ble (Nat.add off size) cells.length with
      | false => rfl
      | true => exact absurd ⟨beq_iff.1 h1, ble_iff.1 h2⟩ c
end
end Go.Proofs.YtjhgembcdndmkaaGreatDoor.Am

namespace Go.Proofs.YtjhgembcdndmkaaGreatDoor.Am
open Go.RowKit
variable {b : Pos} {s : XS}
noncomputable def xapq (b : Pos) (s : XS) (es bytes : Nat) (sv : AV) : Option (Nat × List AV) → Option (AV × XS)
  | some (n, c) => xapp b s es bytes sv n c
  | none => none
theorem xap_sl (es bytes : Nat) (sv : AV) (id : Pos) (g off n cap : Nat) (ex : Bool) (es' : Nat) : xap b s es bytes sv (.sl id g off n cap ex es') = xapq b s es bytes sv (xsrc s.X es (.sl id g off n cap ex es')) := by
  unfold xap
  cases xsrc s.X es (.sl id g off n cap ex es') with
  | some p => rfl
  | none =>
    show xapS s es bytes sv (.sl id g off n cap ex es') = none
    unfold xapS
    split
    · rename_i e1; have q := unstr_ok e1; unfold strOf at q; cases q
    · rfl
theorem xap_nl (es bytes : Nat) (sv : AV) : xap b s es bytes sv .nilSl = xapp b s es bytes sv 0 [] := rfl
theorem xapq_some (es bytes : Nat) (sv : AV) (n : Nat) (c : List AV) : xapq b s es bytes sv (some (n, c)) = xapp b s es bytes sv n c := rfl
theorem xapp_nil {es bytes n : Nat} {c : List AV} (h1 : 0 < es) (h2 : bytes ≤ 4096) (h3 : c.all AV.atom = true) (h4 : n ≤ 1073741824) : xapp b s es bytes .nilSl n c = if n = 0 then some (.nilSl, s) else some (.sl (adv b s.n) 0 0 n n false es, s.add b c) := by
  unfold xapp
  rw [if_pos ⟨h1, h2, h3⟩]
  by_cases c : n = 0
  · simp only [if_pos c]
  · simp only [if_neg c, if_pos h4]
theorem xapp_grow {es bytes n k g : Nat} {id : Pos} {c : List AV} (h1 : 0 < es) (h2 : bytes ≤ 4096) (h3 : c.all AV.atom = true) (h0 : n ≠ 0) (h4 : k + n ≤ 1073741824) : xapp b s es bytes (.sl id g 0 k k false es) n c = (xown s.X id g).bind fun l => if l.length = k * es then some (.sl id (g + 1) 0 (k + n) (k + n) false es, ⟨s.n, xset s.X id (g + 1) (l ++ c)⟩) else none := by
  unfold xapp
  rw [if_pos ⟨h1, h2, h3⟩]
  simp only [if_neg h0, h4, and_self, if_true]
theorem xapp_zero {bytes n g off : Nat} {id : Pos} {c : List AV} (h2 : bytes ≤ 4096) (h3 : c.all AV.atom = true) (h0 : n ≠ 0) (h4 : n ≤ 1073741824) : xapp b s 3 bytes (.sl id g off 0 0 true 3) n c = some (.sl (adv b s.n) 0 0 n n false 3, s.add b c) := by
  unfold xapp
  rw [if_pos ⟨by omega, h2, h3⟩]
  simp only [if_neg h0, h4, and_self, if_true]
theorem xsrc_sl (X : List XB) (es : Nat) (id : Pos) (g off n cap : Nat) (ex : Bool) : xsrc X es (.sl id g off n cap ex es) = (xget X id g).bind fun l => if off + n * es ≤ l.length then some (n, (l.drop off).take (n * es)) else none := by
  unfold xsrc
  simp only [if_true]
theorem xsrc_nil (X : List XB) (es : Nat) : xsrc X es .nilSl = some (0, []) := rfl
theorem w64 {n : Int} (h1 : -9223372036854775808 ≤ n) (h2 : n ≤ 9223372036854775807) : wrapA .i64 n = n := by
  rw [wrapA_eq]; unfold IntKind.wrap; simp [IntKind.signed, IntKind.bits]; omega
end Go.Proofs.YtjhgembcdndmkaaGreatDoor.Am

namespace Go.Proofs.YtjhgembcdndmkaaGreatDoor.Am
open Go.RowKit
variable {P : Program} {h h' : Hp} {f : FuncId} {args : List AV} {v : AV} {u : List (Pos × List AV)}
section
variable {G : Hp → Prop} {U K : List Ent} {W : List Pos} {X : List XB}
theorem XI.startW (h : Hp) (hX : AllH X h) (ha : X.Pairwise fun x y => x.id ≠ y.id) (ho : ∀ x ∈ X, x.own = true → x.id ∈ W) : XI h.next W h ⟨0, X⟩ h :=
  ⟨rfl, hX, ha, fun x m c => .inl (ho x m c), Only.refl _ _, rfl⟩
noncomputable def owns (X : List XB) : List Pos → Option (List (List AV))
  | [] => some []
  | p :: l => (xown X p 0).bind fun c => (owns X l).map fun r => c :: r
end
end Go.Proofs.YtjhgembcdndmkaaGreatDoor.Am

namespace Go.Proofs.YtjhgembcdndmkaaGreatDoor.Am
open Go.RowKit
variable {P : Program} {h h' : Hp} {f : FuncId} {args : List AV} {v v2 : AV} {u : List (Pos × List AV)} {rid : Nat → Pos} {rg : Nat → Nat} {K : Nat}
def RR (N : Nat) (b : Pos) (K : Nat) (rid : Nat → Pos) (rg : Nat → Nat) (y y2 : AV) : Prop :=
  ∀ φ ψ : Phi, (∀ j k r, j.num < N → φ j k = some r → ψ j k = some r) → (∀ i r, i < K → φ (rid i) (rg i) = some r → ψ (adv b i) 0 = some r) → ∀ x, Rel φ y x → Rel ψ y2 x
def CellsR (N : Nat) (b : Pos) (K : Nat) (rid : Nat → Pos) (rg : Nat → Nat) (L l : List AV) : Prop := ∀ (i : Nat) (y2 : AV), l[i]? = some y2 → ∃ y, L[i]? = some y ∧ RR N b K rid rg y y2
theorem AmFn.outs (rows : List (List AV)) (RL : Nat → List AV) (a : AmFn P f args h v h') (o : Only (u.map (·.1)) h h')
    (hu : ∀ x ∈ u, ∃ l0 l1, Gro h x.1 0 l0 ∧ Gro h' x.1 0 l1 ∧ CellsR h.next.num h.next rows.length rid rg l1 x.2)
    (hr : ∀ i (hi : i < rows.length), Gro h' (rid i) (rg i) (RL i) ∧ h.next.num ≤ (rid i).num ∧ CellsR h.next.num h.next rows.length rid rg (RL i) rows[i])
    (hinj : ∀ i j, i < rows.length → j < rows.length → rid i = rid j → i = j) (hv : RR h.next.num h.next rows.length rid rg v v2) : AmFn P f args h v2 (rowsN (updsH h u) rows) := by
  refine a.renorm fun φ w φ' w' hR hz hR' hA => ?_
  have hnum := hR.num hz
  let ψ : Phi := fun j k => if j.num < h.next.num then φ' j k else if j.num < h.next.num + rows.length ∧ k = 0 then φ' (rid (j.num - h.next.num)) (rg (j.num - h.next.num)) else none
  have hψ : ∀ j k, j.num < h.next.num → ψ j k = φ' j k := fun j k q => if_pos q
  have hψn : ∀ i, i < rows.length → ψ (adv h.next i) 0 = φ' (rid i) (rg i) := fun i hi => by
    show (if _ then _ else _) = _
    rw [adv_num, if_neg (by omega), if_pos ⟨by omega, rfl⟩, show h.next.num + i - h.next.num = i by omega]
  have hψx : ∀ j k r, ψ j k = some r → (j.num < h.next.num ∧ φ' j k = some r) ∨ ∃ i, i < rows.length ∧ j = adv h.next i ∧ k = 0 ∧ φ' (rid i) (rg i) = some r := fun j k r q => by
    change (if _ then _ else _) = _ at q
    split at q
    · exact .inl ⟨by assumption, q⟩
    · rename_i c
      split at q
      · rename_i c2
        refine .inr ⟨j.num - h.next.num, by omega, ?_, c2.2, q⟩
        exact Pos.num_inj (by rw [adv_num]; omega)
      · cases q
  have rr1 : ∀ j k r, j.num < h.next.num → φ' j k = some r → ψ j k = some r := fun j k r q e => by rw [hψ j k q]; exact e
  have rr2 : ∀ i r, i < rows.length → φ' (rid i) (rg i) = some r → ψ (adv h.next i) 0 = some r := fun i r q e => by rw [hψn i q]; exact e
  have hnx : (updsH h u).next = h.next := updsH_next h u
  have hnr : (rowsN (updsH h u) rows).next = adv h.next rows.length := by rw [rowsN_next, hnx]
  have hnn : (rowsN (updsH h u) rows).next.num = h.next.num + rows.length := by rw [hnr, adv_num]
  have nrI : ∀ i, i < rows.length → Nonro h' (rid i) := fun i hi => by
    obtain ⟨⟨_, ser, c, hi', m, fz, e, _, _⟩, _⟩ := hr i hi
    exact ⟨_, e, fun _ _ _ _ _ _ _ _ q => by cases q; rfl⟩
  have uNr : ∀ x ∈ u, Nonro h' x.1 ∧ Nonro h x.1 ∧ x.1.num < h.next.num ∧ T.get x.1 h.heap ≠ none := fun x mx => by
    obtain ⟨l0, l1, ⟨k1, ser0, c0, hi0, m0, fz0, e0, hw0, hL0⟩, ⟨_, ser, c, hi, m, fz, e, hw, hL⟩, _⟩ := hu x mx
    exact ⟨⟨_, e, fun _ _ _ _ _ _ _ _ q => by cases q; rfl⟩, ⟨_, e0, fun _ _ _ _ _ _ _ _ q => by cases q; rfl⟩, k1, by rw [e0]; simp⟩
  have getN : ∀ j, (∃ i, ∃ hi : i < rows.length, j = adv h.next i ∧ T.get j (rowsN (updsH h u) rows).heap = some (.cells 0 (Cells.ofL rows[i]) 0 0 0 0 false true)) ∨ ((∀ i, i < rows.length → j ≠ adv h.next i) ∧ T.get j (rowsN (updsH h u) rows).heap = T.get j (updsH h u).heap) := fun j => by
    have := rowsN_get j rows (updsH h u)
    rw [hnx] at this
    exact this
  have getO : ∀ {j : Pos}, (j.num < h.next.num ∨ h.next.num + rows.length ≤ j.num) → T.get j (rowsN (updsH h u) rows).heap = T.get j (updsH h u).heap := fun {j} hj => by
    rcases getN j with ⟨i, hi, e1, _⟩ | ⟨_, e⟩
    · have := congrArg Pos.num e1
      rw [adv_num] at this; omega
    · exact e
  have new : ∀ {j : Pos}, j.num < h.next.num → Nonro (rowsN (updsH h u) rows) j → Nonro h' j := fun {j} hj ⟨x, k, q⟩ => by
    rw [getO (.inl hj)] at k
    rcases updsH_get (h := h) j u with ⟨y, m, rfl, _⟩ | ⟨cj, ej⟩
    · exact (uNr y m).1
    · exact ⟨x, by rw [o.same j hj cj, ← ej]; exact k, q⟩
  have hdom : ∀ j x, T.get j h.heap = some x → j.num < h.next.num := fun j x q => by
    rcases hR.dom j x q with c | ⟨c, _⟩
    · exact c
    · exact absurd hz c
  have was : ∀ {j : Pos}, Was h (rowsN (updsH h u) rows) j → j.num < h.next.num ∨ h.next.num + rows.length ≤ j.num := fun {j} c => by
    rcases c with c | c
    · exact .inl c
    · right; rw [hnn] at c; exact c
  have blk : ∀ {id j : Pos} {k : Nat} {L l : List AV}, Gro h' id k L → CellsR h.next.num h.next rows.length rid rg L l → ψ j 0 = φ' id k → (∀ k, 0 < k → ψ j k = none) → BR P ψ w' j (.cells 0 (Cells.ofL l) 0 0 0 0 false true) := fun {id j k L l} hg hl hj0 hjk => by
    obtain ⟨_, ser, c, hi, m, fz, e, hw, hL⟩ := hg
    obtain ⟨⟨_, b2, _, b4, b5, b6⟩, _⟩ := hR'.blk id _ e
    obtain ⟨b, s, n, C, el, fr, e1, e2, e3, e4, e5⟩ := b6 k b2 (Nat.le_refl _)
    obtain ⟨w1, w2, w3⟩ := Cells.ofL_spec l
    refine ⟨⟨w1, Nat.le_refl _, fun c => absurd c (Nat.lt_irrefl _), fun k hk => hjk k hk, fun k k' c1 c2 c3 c4 c5 k1 k2 k3 k4 f1 f2 => ?_, fun k0 k1 k2 => ?_⟩, fun _ _ _ _ _ _ _ _ _ _ _ => .inl rfl⟩
    · have : k = k' := by omega
      subst this; rw [f1] at f2; cases f2; rfl
    · obtain rfl : k0 = 0 := by omega
      refine ⟨b, s, n, C, el, fr, by rw [hj0]; exact e1, e2, e3, fun _ => thawed_t (e4 rfl), fun i y2 _ i2 hy => ?_⟩
      rw [w2] at hy
      obtain ⟨y, g1, g2⟩ := hl i y2 hy
      have hc : i < c.size := by
        have := (List.getElem?_eq_some_iff.1 g1).1
        rw [← hL, Cells.toL_length hw] at this
        exact this
      obtain ⟨o', x', q1, q2, q3⟩ := e5 i y (Nat.zero_le _) (by rw [if_pos rfl]; exact hc) (by rw [hL]; exact g1)
      exact ⟨o', x', q1, q2, g2 φ' ψ rr1 rr2 x' q3⟩
  refine ⟨ψ, ⟨fun j x q => ?_, fun j k r q => ?_, fun j x q => ?_, fun j k b1 s1 n1 j' k' s2 n2 q q' => ?_, fun j k b1 s1 n1 q => ?_, fun k hk => ?_⟩, ⟨fun j k r q => ?_, hA.os, hA.output, hA.tape, hA.size, ?_, fun j k b1 s1 n1 q hb => ?_, fun j hw' q => ?_, hA.keep, ?_, fun j hw' q => ?_, fun j k r hw' q e' => ?_⟩, fun x q => hv φ' ψ rr1 rr2 x q⟩
  · rcases getN j with ⟨i, hi, rfl, e2⟩ | ⟨_, e2⟩
    · rw [e2] at q
      cases q
      obtain ⟨g1, g2, g3⟩ := hr i hi
      exact blk g1 g3 (hψn i hi) fun k hk => by
        show (if _ then _ else _) = _
        rw [adv_num, if_neg (by omega), if_neg fun q => by omega]
    · rw [e2] at q
      rcases updsH_get (h := h) j u with ⟨y, m, rfl, ej⟩ | ⟨cj, ej⟩
      · rw [ej] at q
        cases q
        obtain ⟨l0, l1, g0, g1, gl⟩ := hu y m
        have hy := (uNr y m).2.2.1
        obtain ⟨_, ser, c, hi, mm, fz, e, hw, hL⟩ := id g1
        obtain ⟨⟨_, b2, _, b4, b5, b6⟩, _⟩ := hR'.blk y.1 _ e
        exact blk g1 gl (hψ _ _ hy) fun k hk => by rw [hψ _ _ hy]; exact b4 k hk
      · rw [ej] at q
        have hj := hdom j x q
        exact BR.cut hψ hnum hj (hR.blk j x q) (hR'.blk j x (by rw [o.same j hj cj]; exact q))
  · left
    rw [hnn]
    rcases hψx j k r q with ⟨c, _⟩ | ⟨i, hi, rfl, _⟩
    · omega
    · rw [adv_num]; omega
  · left
    rw [hnn]
    rcases getN j with ⟨i, hi, rfl, e2⟩ | ⟨_, e2⟩
    · rw [adv_num]; omega
    · rw [e2] at q
      rcases updsH_get (h := h) j u with ⟨y, m, rfl, ej⟩ | ⟨cj, ej⟩
      · have := (uNr y m).2.2.1; omega
      · rw [ej] at q; have := hdom j x q; omega
  · rcases hψx j k _ q with ⟨c, d⟩ | ⟨i, hi, rfl, _, d⟩ <;> rcases hψx j' k' _ q' with ⟨c', d'⟩ | ⟨i', hi', rfl, _, d'⟩
    · rcases hR'.sep j k b1 s1 n1 j' k' s2 n2 d d' with r | ⟨r1, r2⟩
      · exact .inl r
      · exact .inr ⟨fun z => r1 (new c z), fun z => r2 (new c' z)⟩
    · rcases hR'.sep j k b1 s1 n1 (rid i') (rg i') s2 n2 d d' with r | ⟨_, r2⟩
      · have := (hr i' hi').2.1
        rw [← r] at this; omega
      · exact absurd (nrI i' hi') r2
    · rcases hR'.sep (rid i) (rg i) b1 s1 n1 j' k' s2 n2 d d' with r | ⟨r1, _⟩
      · have := (hr i hi).2.1
        rw [r] at this; omega
      · exact absurd (nrI i hi) r1
    · rcases hR'.sep (rid i) (rg i) b1 s1 n1 (rid i') (rg i') s2 n2 d d' with r | ⟨r1, _⟩
      · exact .inl (by rw [hinj i i' hi hi' r])
      · exact absurd (nrI i hi) r1
  · rcases hψx j k _ q with ⟨_, d⟩ | ⟨i, hi, _, _, d⟩
    · exact hR'.inb _ _ _ _ _ d
    · exact hR'.inb _ _ _ _ _ d
  · have := hR.glob k hk
    rw [hψ _ _ (hnum _ _ _ this)]; exact hA.le _ _ _ this
  · rw [hψ _ _ (hnum _ _ _ q)]; exact hA.le _ _ _ q
  · rw [hnn]; omega
  · rcases hψx j k _ q with ⟨_, d⟩ | ⟨i, hi, rfl, _, d⟩
    · exact hA.new _ _ _ _ _ d hb
    · obtain ⟨g0, s0, n0, q0⟩ := hA.new _ _ _ _ _ d hb
      have := hnum _ _ _ q0
      have := (hr i hi).2.1
      omega
  · obtain ⟨x, k1, k2⟩ := q
    rw [getO (was hw')] at k1
    rcases updsH_get (h := h) j u with ⟨y, m, rfl, ej⟩ | ⟨cj, ej⟩
    · exact (uNr y m).2.1
    · exact ⟨x, by rw [ej] at k1; exact k1, k2⟩
  · exact (rowsN_lim rows _).trans (updsH_lim h u)
  · rw [getO (was hw')]
    rcases updsH_get (h := h) j u with ⟨y, m, rfl, ej⟩ | ⟨cj, ej⟩
    · exact absurd q (uNr y m).2.2.2
    · rw [ej]; exact q
  · rcases hψx j k _ e' with ⟨c, d⟩ | ⟨i, hi, rfl, _, _⟩
    · exact hA.same j k r (.inl c) q d
    · have := was hw'
      rw [adv_num] at this
      omega
theorem xr_clear {K : List Ent} {b : Pos} {l : List O} {env : T AV} {s : XS} {es m : Nat} {zero : List AV} {x : Opd} : xrun P K b (kn (.clear es zero x) m :: l) env s = xnq P K b l env (xclr s es zero (ev env x)) := by
  show (match xclr s es zero (ev env x) with
    | some p => xrun P K b l (setD env none p.1) p.2
    | none => none) = _
  unfold xnq
  rfl
def RN (N : Nat) (b : Pos) (news : List (Pos × Nat)) (y y2 : AV) : Prop :=
  ∀ φ ψ : Phi, (∀ j k r, j.num < N → φ j k = some r → ψ j k = some r) → (∀ i p, news[i]? = some p → ∀ r, φ p.1 p.2 = some r → ψ (adv b i) 0 = some r) → ∀ x, Rel φ y x → Rel ψ y2 x
inductive RNL (N : Nat) (b : Pos) (news : List (Pos × Nat)) : List AV → List AV → Prop where
  | nil {l : List AV} : RNL N b news l []
  | cons {y y2 : AV} {l l2 : List AV} (a : RN N b news y y2) (r : RNL N b news l l2) : RNL N b news (y :: l) (y2 :: l2)
section
variable {N : Nat} {b : Pos} {news : List (Pos × Nat)}
theorem RN.plain {y : AV} (h : y.plain = true) : RN N b news y y := fun _ _ _ _ _ r => r.anyφ h
theorem RN.sl_old {id : Pos} {g off n cap es : Nat} {ex : Bool} (h : id.num < N) : RN N b news (.sl id g off n cap ex es) (.sl id g off n cap ex es) := fun φ ψ a _ x r => by
  cases r with
  | sl h' hb hs hl hc hlc hx ho => exact .sl (a _ _ _ h h') hb hs hl hc hlc hx ho
  | sl0 => exact .sl0
theorem RN.sl (i : Nat) {id : Pos} {g off n cap es : Nat} {ex : Bool} (h : news[i]? = some (id, g)) : RN N b news (.sl id g off n cap ex es) (.sl (adv b i) 0 off n cap ex es) := fun φ ψ _ a x r => by
  cases r with
  | sl h' hb hs hl hc hlc hx ho => exact .sl (a _ _ h _ h') hb hs hl hc hlc hx ho
  | sl0 => exact .sl0
theorem RN.slN (i : Nat) {id : Pos} {g n cap es : Nat} {ex : Bool} (h : news[i]? = some (id, g)) (h0 : 0 < n ∨ ex = false) : RN N b news (.sl id g 0 n cap ex es) (slN (adv b i) n es) := fun φ ψ _ a x r => rel_slN h0 (a _ _ h) r
theorem RNL.get {l l2 : List AV} (a : RNL N b news l l2) : ∀ (i : Nat) (y2 : AV), l2[i]? = some y2 → ∃ y, l[i]? = some y ∧ RN N b news y y2 := by
  induction a with
  | nil => intro i y2 e; simp at e
  | cons a r ih =>
    intro i y2 e
    cases i with
    | zero => simp at e; subst e; exact ⟨_, rfl, a⟩
    | succ i => simpa using ih i y2 (by simpa using e)
theorem RNL.same : ∀ {l : List AV}, (∀ y ∈ l, y.plain = true) → ∀ {m : List AV}, RNL N b news (l ++ m) l
  | [], _, _ => .nil
  | y :: l, h, _ => .cons (.plain (h y (by simp))) (RNL.same fun z m => h z (List.mem_cons_of_mem _ m))
theorem RNL.self {l : List AV} (h : ∀ y ∈ l, y.plain = true) : RNL N b news l l := by
  have := RNL.same (N := N) (b := b) (news := news) h (m := [])
  rwa [List.append_nil] at this
inductive RNS (N : Nat) (b : Pos) (news : List (Pos × Nat)) : List (List AV) → List (List AV) → Prop where
  | nil : RNS N b news [] []
  | cons {L l : List AV} {Ls ls : List (List AV)} (a : RNL N b news L l) (r : RNS N b news Ls ls) : RNS N b news (L :: Ls) (l :: ls)
theorem RNS.get {Ls ls : List (List AV)} (a : RNS N b news Ls ls) : Ls.length = ls.length ∧ ∀ (i : Nat) (l : List AV), ls[i]? = some l → ∃ L, Ls[i]? = some L ∧ RNL N b news L l := by
  induction a with
  | nil => exact ⟨rfl, fun i l e => by simp at e⟩
  | cons a r ih =>
    refine ⟨by simp [ih.1], fun i l e => ?_⟩
    cases i with
    | zero => simp at e; subst e; exact ⟨_, rfl, a⟩
    | succ i => simpa using ih.2 i l (by simpa using e)
end
noncomputable def ownsG (X : List XB) : List (Pos × Nat) → Option (List (List AV))
  | [] => some []
  | p :: l => (xown X p.1 p.2).bind fun c => (ownsG X l).map fun r => c :: r
theorem ownsG_get {X : List XB} : ∀ {l : List (Pos × Nat)} {r : List (List AV)}, ownsG X l = some r → r.length = l.length ∧ ∀ (i : Nat) (p : Pos × Nat), l[i]? = some p → ∃ c, r[i]? = some c ∧ xown X p.1 p.2 = some c
  | [], r, e => by cases e; exact ⟨rfl, fun i p e => by simp at e⟩
  | p :: l, r, e => by
    unfold ownsG at e
    obtain ⟨c, w, e⟩ := Option.bind_eq_some_iff.1 e
    obtain ⟨r', w2, e⟩ := Option.map_eq_some_iff.1 e
    subst e
    obtain ⟨h1, h2⟩ := ownsG_get w2
    refine ⟨by simp [h1], fun i q e => ?_⟩
    cases i with
    | zero => simp at e; subst e; exact ⟨c, rfl, w⟩
    | succ i => simpa using h2 i q (by simpa using e)
theorem owns_get {X : List XB} : ∀ {l : List Pos} {r : List (List AV)}, owns X l = some r → r.length = l.length ∧ ∀ (i : Nat) (p : Pos), l[i]? = some p → ∃ c, r[i]? = some c ∧ xown X p 0 = some c
  | [], r, e => by cases e; exact ⟨rfl, fun i p e => by simp at e⟩
  | p :: l, r, e => by
    unfold owns at e
    obtain ⟨c, w, e⟩ := Option.bind_eq_some_iff.1 e
    obtain ⟨r', w2, e⟩ := Option.map_eq_some_iff.1 e
    subst e
    obtain ⟨h1, h2⟩ := owns_get w2
    refine ⟨by simp [h1], fun i q e => ?_⟩
    cases i with
    | zero => simp at e; subst e; exact ⟨c, rfl, w⟩
    | succ i => simpa using h2 i q (by simpa using e)
section
variable {G : Hp → Prop} {U K : List Ent} {X : List XB}
theorem outs_of (u : List (Pos × (Pos → List AV))) (rows : Pos → List (List AV)) (v : Pos → AV) (news : List (Pos × Nat)) (hG : ∀ h', Only (u.map (·.1)) h h' → G h') (hT : ∀ e ∈ U, EntOK P G e) (hK : ∀ e ∈ K, EntK P G e) (n : Nat) {fu : Fu} (i : XI h.next (u.map (·.1)) h ⟨0, X⟩ h)
    (hu : ∀ p ∈ u.map (·.1), ∃ l0, (⟨p, 0, true, l0⟩ : XB) ∈ X) (hc : compFn P f = some fu) (hn : args.length ≤ fu.nargs) (hne : ∀ p ∈ news, p.1 ∉ u.map (·.1)) (hd : (news.map (·.1)).Nodup) {w : AV} {l1 l2 : List (List AV)}
    (e : (xfn P U K h.next n fu args ⟨0, X⟩).bind (fun p => (owns p.2.X (u.map (·.1))).bind fun l => (ownsG p.2.X news).map fun r => (p.1, l, r)) = some (w, l1, l2))
    (h1 : RNS h.next.num h.next news l1 ((atP u h.next).map (·.2))) (h2 : RNS h.next.num h.next news l2 (rows h.next)) (hv : RN h.next.num h.next news w (v h.next)) : AmFn P f args h ((XR.outs u rows v).res h).1 ((XR.outs u rows v).res h).2 := by
  obtain ⟨p, q, e⟩ := Option.bind_eq_some_iff.1 e
  obtain ⟨w', s'⟩ := p
  obtain ⟨l', kk, e⟩ := Option.bind_eq_some_iff.1 e
  obtain ⟨r', w2, e⟩ := Option.map_eq_some_iff.1 e
  cases e
  obtain ⟨h', a, i'⟩ := xfn_ok hG hT hK hc hn i q
  obtain ⟨m1, m2⟩ := h1.get
  obtain ⟨n1, n2⟩ := h2.get
  obtain ⟨o1, o2⟩ := owns_get kk
  obtain ⟨g1, g2⟩ := ownsG_get w2
  have hids : (atP u h.next).map (·.1) = u.map (·.1) := atP_ids u _
  have hKn : (rows h.next).length = news.length := by rw [← n1, g1]
  have hrr : ∀ {y y2 : AV}, RN h.next.num h.next news y y2 → RR h.next.num h.next (rows h.next).length (fun i => (news[i]?.getD (h.next, 0)).1) (fun i => (news[i]?.getD (h.next, 0)).2) y y2 := fun r φ ψ a1 a2 x rx => r φ ψ a1 (fun i p hp r0 e0 => a2 i r0 (by rw [hKn]; exact (List.getElem?_eq_some_iff.1 hp).1) (by simp only [hp, Option.getD_some]; exact e0)) x rx
  refine AmFn.outs (u := atP u h.next) (rid := fun i => (news[i]?.getD (h.next, 0)).1) (rg := fun i => (news[i]?.getD (h.next, 0)).2) (rows h.next) (fun i => l2[i]?.getD []) a (by rw [hids]; exact i'.only) (fun x mx => ?_) (fun j hj => ?_) (fun j k hj hk e => ?_) (hrr hv)
  · obtain ⟨j, hj⟩ := List.mem_iff_getElem?.1 mx
    have e1 : (u.map (·.1))[j]? = some x.1 := by rw [← hids, List.getElem?_map, hj]; rfl
    have e2 : ((atP u h.next).map (·.2))[j]? = some x.2 := by rw [List.getElem?_map, hj]; rfl
    obtain ⟨c, c1, c2⟩ := o2 j _ e1
    obtain ⟨L, d1, d2⟩ := m2 j _ e2
    rw [c1] at d1
    cases d1
    obtain ⟨l0, ml0⟩ := hu x.1 (List.mem_of_getElem? e1)
    obtain ⟨z, mz, z1, zg, zo, zl⟩ := xown_mem c2
    have gz := (i'.all z mz).gro zo
    rw [zg, z1, zl] at gz
    exact ⟨l0, c, (i.all _ ml0).gro rfl, gz, fun k y2 hy => let ⟨y, q1, q2⟩ := d2.get k y2 hy; ⟨y, q1, hrr q2⟩⟩
  · have hj' : j < news.length := by rw [← hKn]; exact hj
    have e1 : news[j]? = some news[j] := List.getElem?_eq_getElem hj'
    obtain ⟨c, c1, c2⟩ := g2 j _ e1
    obtain ⟨L, d1, d2⟩ := n2 j _ (List.getElem?_eq_getElem hj)
    rw [c1] at d1
    cases d1
    obtain ⟨z, mz, z1, zg, zo, zl⟩ := xown_mem c2
    have gz := (i'.all z mz).gro zo
    rw [zg, z1, zl] at gz
    have hid := (i'.own z mz zo).resolve_left (by rw [z1]; exact hne _ (List.getElem_mem hj'))
    simp only [e1, c1, Option.getD_some]
    refine ⟨gz, by rw [← z1]; exact hid, fun k y2 hy => let ⟨y, q1, q2⟩ := d2.get k y2 hy; ⟨y, q1, hrr q2⟩⟩
  · rw [hKn] at hj hk
    simp only [List.getElem?_eq_getElem hj, List.getElem?_eq_getElem hk, Option.getD_some] at e
    exact (List.getElem_inj (h₀ := by simpa using hj) (h₁ := by simpa using hk) hd).1 (by simpa using e)
end
end Go.Proofs.YtjhgembcdndmkaaGreatDoor.Am

namespace Go.Proofs.YtjhgembcdndmkaaGreatDoor.Am
open Go.RowKit
noncomputable def tabB (l : List AV) : Blk := .cells 0 (.lst l.length l) 0 0 0 0 true false
end Go.Proofs.YtjhgembcdndmkaaGreatDoor.Am

namespace Go.Proofs.YtjhgembcdndmkaaGreatDoor.Am
open Go
def rW {α : Type} : Result α → World
  | .ok _ w => w
  | .halt _ w => w
def gW : GStep → World
  | .go _ w _ => w
  | .comm _ _ _ _ w _ => w
  | .spawn _ _ w _ => w
  | .count _ w _ => w
  | .timer _ _ w _ => w
  | .alone _ _ w _ => w
  | .newcoro _ _ _ w _ => w
  | .coroswitch _ _ _ w _ => w
  | .collect _ w _ => w
  | .watch _ w _ => w
  | .ended _ w _ => w
theorem gW_after (es : Array Event) (s : GStep) : gW (GStep.after es s) = gW s := by cases s <;> rfl
variable {p : Program}
theorem viewStore_drawn {w w' : World} {a k : Addr} {u : TypeId} {v : Value} {b : Bool} {l : List Addr} (h : w.viewStore p a u k v b = .ok (w', l)) : w'.drawn = w.drawn := by
  unfold World.viewStore at h
  simp only [bind, Except.bind, pure, Except.pure, throw, throwThe, MonadExceptOf.throw] at h
  repeat' split at h
  all_goals first | (cases h; done) | (cases h; rfl) | skip
theorem farStore_drawn {w w' : World} {a : Addr} {v : Value} {b : Bool} {l : List Addr} (h : w.farStore p a v b = .ok (w', l)) : w'.drawn = w.drawn := by
  unfold World.farStore at h
  split at h
  · split at h
    · rename_i q
      cases h
      exact viewStore_drawn q
    · cases h
  · cases h
theorem ask_drawn {α : Type} (s : Ask α) : ∀ w : World, w.drawn ≤ (w.ask s).2.drawn := by
  induction s with
  | done a => intro w; exact Nat.le_refl _
  | ask what range k ih =>
    intro w
    unfold World.ask
    dsimp only
    split
    · exact ih _ _
    · exact Nat.le_trans (Nat.le_succ w.drawn) (ih _ { w with drawn := w.drawn + 1 })
theorem sys_drawn (w : World) (c : Sys) : w.drawn ≤ (w.sys c).2.drawn := by
  unfold World.sys
  have := ask_drawn (Kernel.perform c w.os) w
  split
  · exact Nat.le_refl _
  · rename_i q
    rw [q] at this
    exact this
theorem run_drawn {α : Type} (s : Sem α) (w : World) : w.drawn ≤ (rW (s.run p w)).drawn := by
  fun_induction Sem.run p s w
  all_goals first
    | exact Nat.le_refl _
    | assumption
    | (rename_i q ih; exact Nat.le_trans (Nat.le_of_eq (farStore_drawn q).symm) ih)
    | (rename_i ih; exact Nat.le_trans (Nat.le_succ _) ih)
    | (rename_i ih; refine Nat.le_trans ?_ ih; first | exact Nat.le_refl _ | exact sys_drawn _ _ | (unfold World.freeze; split <;> exact Nat.le_refl _))
    | skip
theorem runT_drawn {α : Type} (s : Sem α) (w : World) (es : Array Event) : w.drawn ≤ (rW (s.runT p w es).1).drawn := by
  fun_induction Sem.runT p s w es
  all_goals first
    | exact Nat.le_refl _
    | assumption
    | (rename_i q ih; exact Nat.le_trans (Nat.le_of_eq (farStore_drawn q).symm) ih)
    | (rename_i ih; exact Nat.le_trans (Nat.le_succ _) ih)
    | (rename_i ih; refine Nat.le_trans ?_ ih; first | exact Nat.le_refl _ | exact sys_drawn _ _ | (unfold World.freeze; split <;> exact Nat.le_refl _))
    | skip
theorem ok_le {α : Type} {s : Sem α} {w w1 : World} {a : α} (h : s.run p w = .ok a w1) : w.drawn ≤ w1.drawn := by
  have := run_drawn (p := p) s w; rw [h] at this; exact this
theorem halt_le {α : Type} {s : Sem α} {w w1 : World} {a : Halt} (h : s.run p w = .halt a w1) : w.drawn ≤ w1.drawn := by
  have := run_drawn (p := p) s w; rw [h] at this; exact this
theorem okT_le {α : Type} {s : Sem α} {w w1 : World} {a : α} {es es' : Array Event} (h : s.runT p w es = (.ok a w1, es')) : w.drawn ≤ w1.drawn := by
  have := runT_drawn (p := p) s w es; rw [h] at this; exact this
theorem haltT_le {α : Type} {s : Sem α} {w w1 : World} {a : Halt} {es es' : Array Event} (h : s.runT p w es = (.halt a w1, es')) : w.drawn ≤ w1.drawn := by
  have := runT_drawn (p := p) s w es; rw [h] at this; exact this
theorem doReturn_w (main : Bool) (fr : Frame) (cs : List Frame) (dy : Option Dying) (v : Value) (w : World) : gW (doReturn p main fr cs dy v w) = w := by
  unfold doReturn
  repeat' split
  all_goals rfl
theorem dieOf_w (fr : Frame) (l : List ByteArray) (m : String) (b : Bool) (w : World) : gW (dieOf fr l m b w) = w := rfl
theorem endThrow_w (fr : Frame) (m : String) (w : World) : gW (endThrow fr m w) = w := rfl
theorem endPrinting_w (fr : Frame) (v : Value) (w : World) : gW (endPrinting p fr v w) = w := by
  unfold endPrinting
  dsimp only
  split <;> rfl
theorem endWith_w (w : World) (fd : Nat) (t : ByteArray) (o : Outcome) : w.drawn ≤ (gW (endWith w fd t o)).drawn := by
  unfold endWith
  have := sys_drawn w (.write fd t)
  dsimp only
  split <;> rename_i q <;> rw [q] at this
  · split <;> exact this
  · exact this
  · exact this
theorem endFatal_w (fr : Frame) (cs : List Frame) (dy : Option Dying) (m : String) (w : World) : w.drawn ≤ (gW (endFatal p fr cs dy m w)).drawn := by
  unfold endFatal
  dsimp only
  split <;> rename_i q
  · rw [dieOf_w]; exact ok_le q
  · exact halt_le q
  · exact halt_le q
theorem writeOn_w (fr : Frame) (d : Dying) (f : Fatal) (w : World) : w.drawn ≤ (gW (writeOn p fr d f w)).drawn := by
  unfold writeOn
  dsimp only
  split
  · exact Nat.le_refl _
  · split <;> rename_i q
    · exact okT_le q
    · exact haltT_le q
    · exact haltT_le q
    · exact haltT_le q
theorem die_w (fr : Frame) (d : Dying) (w : World) : w.drawn ≤ (gW (die p fr d w)).drawn := by
  unfold die
  dsimp only
  split
  · exact writeOn_w ..
  · split
    · split
      · exact Nat.le_refl _
      · exact endWith_w ..
    · split
      · exact Nat.le_refl _
      · split <;> rename_i q
        · exact ok_le q
        · exact halt_le q
      · rw [gW_after]
        generalize hq : Sem.runT p _ w #[] = r
        obtain ⟨r, es⟩ := r
        dsimp only
        split
        · exact okT_le hq
        · exact okT_le hq
        · exact haltT_le hq
        · rw [endPrinting_w]; exact haltT_le hq
        · exact Nat.le_refl _
      · exact Nat.le_refl _
theorem early_w (fr : Frame) (cs : List Frame) (dy : Option Dying) (g : Nat) (w : World) : w.drawn ≤ (gW (early p fr cs dy g w)).drawn := by
  unfold early
  dsimp only
  repeat' split
  all_goals first | exact Nat.le_refl _ | exact ok_le (by assumption) | exact halt_le (by assumption) | (have := ok_le ‹Sem.run p _ w = Result.ok _ _›; exact this)
theorem apply_w (main : Bool) (g : Goroutine) (listen : Bool) (fr : Frame) (cs : List Frame) (dy : Option Dying) (s : Sem Next) (w : World) : w.drawn ≤ (gW (stepG.apply p listen fr cs dy s w)).drawn := by
  unfold stepG.apply
  dsimp only
  rw [gW_after]
  generalize hq : (if listen = true then s.runT p w #[] else (s.run p w, #[])) = r
  have key : w.drawn ≤ (rW r.1).drawn := by
    rw [← hq]
    split
    · exact runT_drawn s w #[]
    · exact run_drawn s w
  clear hq
  obtain ⟨r, es⟩ := r
  dsimp only at key ⊢
  repeat' split
  all_goals first
    | exact key
    | exact Nat.le_trans key (endFatal_w ..)
    | exact Nat.le_trans key (early_w ..)
    | skip
theorem ite_w {c : Prop} [Decidable c] {a b : GStep} {n : Nat} (h1 : n ≤ (gW a).drawn) (h2 : n ≤ (gW b).drawn) : n ≤ (gW (if c then a else b)).drawn := by
  split
  · exact h1
  · exact h2
theorem results_w (main : Bool) (fr : Frame) (cs : List Frame) (dy : Option Dying) (d : Deferred) (w : World) : w.drawn ≤ (gW (callDeferred p fr cs dy d w)).drawn := by
  unfold callDeferred
  refine ite_w (Nat.le_refl _) ?_
  · dsimp only
    rw [gW_after]
    generalize hq : Sem.runT p _ w #[] = r
    obtain ⟨r, es⟩ := r
    have key : w.drawn ≤ (rW r).drawn := by
      have := runT_drawn (p := p) (invoke d.target d.args) w #[]
      rw [hq] at this
      exact this
    clear hq
    dsimp only
    repeat' split
    all_goals first
      | exact key
      | exact Nat.le_trans key (endFatal_w ..)
      | skip
theorem unwind_w (main : Bool) (fr : Frame) (cs : List Frame) (dy : Option Dying) (w : World) : w.drawn ≤ (gW (unwind p main fr cs dy w)).drawn := by
  unfold unwind
  split
  · dsimp only
    rw [gW_after]
    generalize hq : Sem.runT p _ w #[] = r
    obtain ⟨r, es⟩ := r
    dsimp only
    split
    · exact okT_le hq
    · exact haltT_le hq
  · exact results_w main ..
  · split
    · exact Nat.le_refl _
    · split
      · exact Nat.le_refl _
      · split
        · exact Nat.le_refl _
        · split
          · split
            · exact Nat.le_refl _
            · split
              · exact ok_le (by assumption)
              · exact halt_le (by assumption)
              · exact halt_le (by assumption)
          · split
            · rw [endPrinting_w]; exact Nat.le_refl _
            · exact Nat.le_refl _
    · split
      · rw [doReturn_w]; exact Nat.le_refl _
      · dsimp only
        rw [gW_after]
        generalize hq : Sem.runT p _ w #[] = r
        obtain ⟨r, es⟩ := r
        dsimp only
        split
        · rw [doReturn_w]; exact okT_le hq
        · exact haltT_le hq
        · exact haltT_le hq
theorem elim_w {α : Type} {o : Option α} {d : GStep} {f : α → GStep} {n : Nat} (h1 : n ≤ (gW d).drawn) (h2 : ∀ x, n ≤ (gW (f x)).drawn) : n ≤ (gW (o.elim d f)).drawn := by
  cases o
  · exact h1
  · exact h2 _
theorem oper_w (main : Bool) (g : Goroutine) (listen : Bool) (fr : Frame) (cs : List Frame) (dy : Option Dying) (w : World) : w.drawn ≤ (gW (stepG.oper p listen fr cs dy w)).drawn := by
  unfold stepG.oper
  split
  · exact Nat.le_refl _
  · split
    · exact apply_w main g ..
    · exact apply_w main g ..
theorem exec_w (main : Bool) (listen : Bool) (fr : Frame) (cs : List Frame) (dy : Option Dying) (w : World) : w.drawn ≤ (gW (stepG.exec p main listen fr cs dy w)).drawn := by
  have lv : ∀ (l : Nat) (j : Option Code) (es : Array Event), w.drawn ≤ (gW (GStep.after es (match (Sem.runT p (Instr.endRound l j) w #[]).fst with
        | .ok v w => doReturn p main fr cs dy v w
        | .halt _ w => .ended (.stuck "range over a function: no such loop" (fr.pos p)) w))).drawn := fun l j es => by
    rw [gW_after]
    generalize hq : Sem.runT p _ w #[] = r
    obtain ⟨r, es⟩ := r
    dsimp only
    split
    · rw [doReturn_w]; exact okT_le hq
    · exact haltT_le hq
  unfold stepG.exec
  dsimp only
  split
  all_goals first
    | exact Nat.le_refl _
    | exact apply_w main default ..
    | skip
  · split
    · exact Nat.le_refl _
    · exact lv _ _ _
  · split
    · exact Nat.le_refl _
    · exact lv _ _ _
  · split <;> exact Nat.le_refl _
  · refine elim_w ?_ fun _ => Nat.le_refl _
    split
    · exact ite_w (Nat.le_refl _) (Nat.le_refl _)
    · exact lv _ _ _
  · refine elim_w ?_ fun _ => Nat.le_refl _
    split
    · exact ite_w (Nat.le_refl _) (Nat.le_refl _)
    · exact lv _ _ _
  · rw [gW_after]
    generalize hq : Sem.runT p _ w #[] = r
    obtain ⟨r, es⟩ := r
    dsimp only
    split
    · exact Nat.le_trans (okT_le hq) (apply_w main default ..)
    · exact haltT_le hq
  · rw [gW_after]
    generalize hq : Sem.runT p _ w #[] = r
    obtain ⟨r, es⟩ := r
    dsimp only
    split
    · exact okT_le hq
    · exact haltT_le hq
    · exact haltT_le hq
  · exact elim_w (Nat.le_refl _) fun _ => apply_w main default ..
  · refine ite_w (Nat.le_refl _) ?_
    split
    · exact ok_le (by assumption)
    · exact halt_le (by assumption)
  · exact ite_w (oper_w main default ..) (Nat.le_refl _)
theorem stepG_w (main : Bool) (g : Goroutine) (w : World) (listen : Bool) : w.drawn ≤ (gW (stepG p main g w listen)).drawn := by
  unfold stepG
  dsimp only
  split
  · exact die_w ..
  · exact exec_w ..
  · exact unwind_w ..
def NX (n : Nat) (s : Stepped) : Prop := ∀ m, s = .next m → n ≤ m.world.drawn
theorem NX.mk {n : Nat} {m : Machine} (h : n ≤ m.world.drawn) : NX n (.next m) := fun m' e => by cases e; exact h
theorem NX.end {n : Nat} {o : Outcome} {w : World} : NX n (.ended o w) := fun m e => by cases e
theorem NX.ite {c : Prop} [Decidable c] {a b : Stepped} {n : Nat} (h1 : NX n a) (h2 : NX n b) : NX n (if c then a else b) := by
  split
  · exact h1
  · exact h2
theorem waiting_w {rest : Rest} {cases : Array CommCase} {w w' : World} (h : waitingAt rest cases w = some w') : w'.drawn = w.drawn := by
  unfold waitingAt at h
  split at h
  · split at h
    · cases h; rfl
    · cases h
  · cases h; rfl
theorem comm_w (rest : Rest) (gs : Array Goroutine) (i : Nat) (g : Goroutine) (cases : Array CommCase) (blocking : Bool) (shape : CommShape) (w : World) : NX w.drawn (communicate p rest gs i g cases blocking shape w).1 := by
  unfold communicate
  dsimp only
  split
  · exact NX.end
  split
  · split
    · split
      · exact NX.mk (Nat.le_of_eq (waiting_w (by assumption)).symm)
      · exact NX.end
    · exact NX.mk (Nat.le_refl _)
  split
  · exact NX.end
  rename_i q
  have key := ok_le q
  clear q
  repeat' split
  all_goals first
    | exact NX.end
    | exact NX.mk key
    | exact NX.mk (Nat.le_trans key (ok_le (by assumption)))
    | exact NX.mk (Nat.le_trans key (halt_le (by assumption)))
    | (have := ok_le ‹Sem.run p _ _ = Result.ok _ _›; exact NX.mk (Nat.le_trans key this))
    | skip
theorem look_w (gs : Array Goroutine) (rest : Rest) (w : World) : NX w.drawn (look p gs rest w) := by
  unfold look
  dsimp only
  repeat' split
  all_goals first
    | exact NX.end
    | (have := ok_le ‹Sem.run p _ w = Result.ok _ _›; exact NX.mk this)
    | skip
theorem withTimers_w (m : Machine) (l : Array Timer) : (m.withTimers l).world.drawn = m.world.drawn := by
  unfold Machine.withTimers
  repeat' split
  all_goals first | rfl | skip
theorem drain_w (w : World) (c : Nat) : (drain w c).2.drawn = w.drawn := by
  unfold drain
  split <;> rfl
theorem retime_w (m : Machine) (k : Nat) (t : Timer) (a b : Nat) : (retime m k t a b).2.world.drawn = m.world.drawn := by
  unfold retime
  dsimp only
  split
  · exact drain_w ..
  · rfl
theorem opened_w {m m' : Machine} {a : Addr} (h : timerOp.opened m a = some m') : m'.world.drawn = m.world.drawn := by
  unfold timerOp.opened at h
  split at h
  · split at h
    · cases h; rfl
    · cases h
  · cases h; rfl
theorem named_w {m m0 m' : Machine} {a : Addr} {f : Nat → Timer → Value × Machine} {v : Value} (hf : ∀ k t, (f k t).2.world.drawn = m0.world.drawn) (h : timerOp.named m a f = .ok (v, m')) : m'.world.drawn = m0.world.drawn := by
  unfold timerOp.named at h
  split at h
  · rename_i k q
    have e := Except.ok.inj h
    have := hf k (m.rest.timers.getD k default)
    rw [e] at this
    exact this
  · cases h
theorem timerOp_w {m m' : Machine} {op : TimerOp} {v : Value} (h : timerOp m op = .ok (v, m')) : m'.world.drawn = m.world.drawn := by
  unfold timerOp at h
  split at h
  · split at h
    · cases h; exact withTimers_w ..
    · split at h
      · split at h
        · cases h
        · cases h; rfl
      · cases h
  · exact named_w (fun k t => retime_w ..) h
  · split at h
    · rename_i q
      rw [named_w (fun k t => retime_w ..) h, opened_w q]
    · cases h
  · cases h; exact withTimers_w ..
theorem serve_w (m : Machine) (k : Nat) : NX m.world.drawn (serve p m k) := by
  unfold serve
  split
  · exact NX.end
  · exact NX.mk (Nat.le_refl _)
  · dsimp only
    split
    · exact NX.end
    · exact NX.mk (Nat.le_refl _)
theorem runT_w (m : Machine) (i : Nat) (listen : Bool) : NX m.world.drawn (runT p m i listen).1 := by
  unfold Go.runT
  dsimp only
  generalize hs : stepG p _ _ m.world listen = s
  have key : m.world.drawn ≤ (gW s).drawn := by rw [← hs]; exact stepG_w ..
  clear hs
  split
  · exact NX.end
  · intro m' e
    exact Nat.le_trans key (comm_w _ _ _ _ _ _ _ _ m' e)
  · exact NX.mk key
  · exact NX.mk key
  · exact NX.ite NX.end (NX.mk key)
  · exact NX.mk key
  · intro m' e
    exact Nat.le_trans key (look_w _ _ _ m' e)
  · exact NX.mk key
  · exact NX.mk key
  · split
    · exact NX.mk key
    · split
      · rename_i q
        refine NX.mk (Nat.le_trans key (Nat.le_of_eq ?_))
        have := congrArg gW q
        rw [endThrow_w] at this
        exact congrArg World.drawn this
      · exact NX.end
    · exact NX.end
  · split
    · rename_i q
      have := timerOp_w q
      refine NX.mk (Nat.le_trans key (Nat.le_of_eq this.symm))
    · split
      · rename_i q
        refine NX.mk (Nat.le_trans key (Nat.le_of_eq ?_))
        have := congrArg gW q
        rw [endThrow_w] at this
        exact congrArg World.drawn this
      · exact NX.end
    · exact NX.end
    · exact NX.end
def MV (n : Nat) : Move → Prop
  | .goroutine m _ => n ≤ m.world.drawn
  | .machine s _ => NX n s
theorem askOn_w (m : Machine) : MV m.world.drawn (askOn p m) := by
  unfold askOn
  dsimp only
  split
  · exact NX.end
  · rename_i q
    have key := ok_le q
    clear q
    split
    · intro m' e
      exact Nat.le_trans key (serve_w _ _ m' e)
    · split
      · split
        · exact NX.mk key
        · split
          · exact NX.mk key
          · split
            · exact NX.end
            · exact NX.end
      · split
        · skip
          split
          · exact NX.end
          · rename_i q3
            split
            · exact Nat.le_trans key (ok_le q3)
            · split
              · exact NX.end
              · rename_i q4
                exact Nat.le_trans key (Nat.le_trans (ok_le q3) (ok_le q4))
        · split
          · exact NX.end
          · rename_i q2
            have k2 := Nat.le_trans key (ok_le q2)
            split
            · exact NX.end
            · rename_i q3
              split
              · exact Nat.le_trans k2 (ok_le q3)
              · split
                · exact NX.end
                · rename_i q4
                  exact Nat.le_trans k2 (Nat.le_trans (ok_le q3) (ok_le q4))
          · rename_i q2
            have k2 := Nat.le_trans key (ok_le q2)
            exact NX.mk k2
          · rename_i q2
            have k2 := Nat.le_trans key (ok_le q2)
            split
            · exact NX.end
            · rename_i q3
              split
              · have k3 := ok_le q3
                exact Nat.le_trans k2 k3
              · split
                · exact NX.end
                · rename_i q4
                  have k3 := ok_le q3
                  exact Nat.le_trans k2 (Nat.le_trans k3 (ok_le q4))
theorem MV.mono {a b : Nat} {m : Move} (h : a ≤ b) (k : MV b m) : MV a m := by
  cases m with
  | goroutine m i => exact Nat.le_trans h k
  | machine s o => exact fun m' e => Nat.le_trans h (k m' e)
theorem ask_w (m : Machine) : MV m.world.drawn (ask p m) := by
  unfold ask
  split
  · split
    · exact NX.end
    · rename_i q
      have key := ok_le q
      split
      · rename_i q2
        exact MV.mono (Nat.le_trans key (look_w _ _ _ _ q2)) (askOn_w _)
      · intro m' e
        exact Nat.le_trans key (look_w _ _ _ m' e)
    · rename_i q
      exact MV.mono (ok_le q) (askOn_w _)
  · exact askOn_w _
theorem move_w (m : Machine) : MV m.world.drawn (move p m) := by
  unfold move
  split
  · split
    · exact Nat.le_refl _
    · exact NX.end
  · split
    · split
      · exact Nat.le_refl _
      · exact ask_w _
    · exact ask_w _
theorem step_w (m : Machine) : NX m.world.drawn (Go.step p m) := by
  unfold Go.step Go.stepT
  have := move_w (p := p) m
  split
  · rename_i q
    rw [q] at this
    intro m' e
    exact Nat.le_trans this (runT_w _ _ _ m' e)
  · rename_i q
    rw [q] at this
    exact this
theorem runN_w : ∀ (n : Nat) (m : Machine), NX m.world.drawn (runN p n m)
  | 0, m => NX.mk (Nat.le_refl _)
  | n + 1, m => by
    unfold runN
    have := step_w (p := p) m
    split
    · rename_i q
      intro m' e
      exact Nat.le_trans (this _ q) (runN_w n _ m' e)
    · exact this
theorem steps_drawn {m m' : Machine} (h : Go.Steps p m m') : m.world.drawn ≤ m'.world.drawn := by
  obtain ⟨n, e⟩ := h
  exact runN_w n m m' e
theorem calls_drawn {f : FuncId} {args : Array Value} {w : World} {R : Ending → World → Prop} (h : Calls p f args w fun e w' => (∃ v, e = .returned v) ∧ R e w') : Calls p f args w fun e w' => R e w' ∧ w.drawn ≤ w'.drawn := fun cs => by
  obtain ⟨e, w', fr, ⟨⟨v, rfl⟩, r⟩, s, x⟩ := h cs
  refine ⟨_, w', fr, ⟨r, ?_⟩, s, x⟩
  exact steps_drawn (show Steps p _ _ from s)
end Go.Proofs.YtjhgembcdndmkaaGreatDoor.Am
