import Derived.ChangeArms
import Derived.SizedLaws
import Derived.OpenShut
import Derived.Test.YtjhgembcdndmkaaGreatDoorAmG
/- THE ABSTRACT MACHINE, part H: a machine over values without block numbers, and the proof that the model's machine does what it does. No condition. -/
set_option linter.unusedSimpArgs false
set_option linter.unusedVariables false
namespace Go.Proofs.YtjhgembcdndmkaaGreatDoor.Am
open Go.RowKit
noncomputable def cutP (N : Nat) (φ : Phi) : Phi := fun id g => if id.num < N then φ id g else none
theorem cutP_old {N : Nat} {φ : Phi} {id : Pos} (h : id.num < N) (g : Nat) : cutP N φ id g = φ id g := if_pos h
theorem cutP_le {N : Nat} {φ : Phi} : Le (cutP N φ) φ := fun id g r e => by
  unfold cutP at e
  split at e
  · exact e
  · cases e
theorem cutP_num {N : Nat} {φ : Phi} {id : Pos} {g : Nat} {r : Nat × Int × Nat} (e : cutP N φ id g = some r) : id.num < N := by
  unfold cutP at e
  split at e
  · assumption
  · cases e
section
variable {N : Nat} {φ φ' ψ : Phi}
mutual
theorem Rel.cut (hψ : ∀ id g, id.num < N → ψ id g = φ' id g) (hu : ∀ id g r, φ id g = some r → id.num < N) {v : AV} {x x' : Value} : Rel φ v x → Rel φ' v x' → Rel ψ v x'
  | .bool _, r => by cases r; exact .bool _
  | .int _ _, r => by cases r; exact .int _ _
  | .str _ _, r => by cases r with | str h hv => exact .str h hv
  | .ptr h _ _ _, r => by cases r with | ptr h' hb ho hs => exact .ptr (by rw [hψ _ _ (hu _ _ _ h)]; exact h') hb ho hs
  | .nilPtr, r => by cases r; exact .nilPtr
  | .sl h _ _ _ _ _ _ _, r => by
    cases r with
    | sl h' hb hs hl hc hlc hx ho => exact .sl (by rw [hψ _ _ (hu _ _ _ h)]; exact h') hb hs hl hc hlc hx ho
    | sl0 => exact .sl0
  | .sl0, r => by
    cases r with
    | sl h' hb hs hl hc hlc hx ho =>
      obtain rfl := hx rfl
      exact .sl0
    | sl0 => exact .sl0
  | .nilSl, r => by cases r; exact .nilSl
  | .map h, r => by cases r with | map h' => exact .map (by rw [hψ _ _ (hu _ _ _ h)]; exact h')
  | .nilMap, r => by cases r; exact .nilMap
  | .fn h h', r => by cases r with | fn k k' => exact .fn (RelL.cut hψ hu h k) (RelL.cut hψ hu h' k')
  | .yield h, r => by cases r with | yield h' => exact .yield (by rw [hψ _ _ (hu _ _ _ h)]; exact h')
  | .nilFn, r => by cases r; exact .nilFn
  | .ifc h, r => by cases r with | ifc k => exact .ifc (Rel.cut hψ hu h k)
  | .nilIfc, r => by cases r; exact .nilIfc
  | .agg h, r => by cases r with | agg k => exact .agg (RelL.cut hψ hu h k)
  | .tup h, r => by cases r with | tup k => exact .tup (RelL.cut hψ hu h k)
theorem RelL.cut (hψ : ∀ id g, id.num < N → ψ id g = φ' id g) (hu : ∀ id g r, φ id g = some r → id.num < N) {l : List AV} {r r' : List Value} : RelL φ l r → RelL φ' l r' → RelL ψ l r'
  | .nil, k => by cases k; exact .nil
  | .cons h t, k => by cases k with | cons h' t' => exact .cons (Rel.cut hψ hu h h') (RelL.cut hψ hu t t')
end
theorem EntsR.cut (hψ : ∀ id g, id.num < N → ψ id g = φ' id g) (hu : ∀ id g r, φ id g = some r → id.num < N) {l : List (AV × AV × Nat)} {r : List MapEntry} (h : EntsR φ l r) : ∀ {r' : List MapEntry}, EntsR φ' l r' → EntsR ψ l r' := by
  induction h with
  | nil => intro r' k; cases k; exact .nil
  | cons hk hv _ ih => intro r' k; cases k with | cons hk' hv' t' => exact .cons (hk.cut hψ hu hk') (hv.cut hψ hu hv') (ih t')
theorem BR.cut {P : Program} {w w' : World} (hψ : ∀ id g, id.num < N → ψ id g = φ' id g) (hu : ∀ id g r, φ id g = some r → id.num < N) {id : Pos} (hid : id.num < N) {b : Blk} (h : BR P φ w id b) (k : BR P φ' w' id b) : BR P ψ w' id b := by
  cases b with
  | cells note c lo hi g m ro fz =>
    obtain ⟨⟨a1, a2, a3, a4, a5, a6⟩, _⟩ := h
    obtain ⟨⟨b1, b2, b3, b4, b5, b6⟩, b7⟩ := k
    refine ⟨⟨b1, b2, b3, fun j hj => by rw [hψ _ _ hid]; exact b4 j hj, fun j j' b s n s' n' q1 q2 q3 q4 e1 e2 => b5 j j' b s n s' n' q1 q2 q3 q4 ((hψ _ _ hid).symm.trans e1) ((hψ _ _ hid).symm.trans e2), fun j q1 q2 => ?_⟩, fun j b s n C el fr q1 q2 e => b7 j b s n C el fr q1 q2 ((hψ _ _ hid).symm.trans e)⟩
    obtain ⟨b, s, n, C, el, fr, e1, e2, e3, e4, e5⟩ := b6 j q1 q2
    refine ⟨b, s, n, C, el, fr, by rw [hψ _ _ hid]; exact e1, e2, e3, e4, fun i v i1 i2 hv => ?_⟩
    obtain ⟨o, x, f1, f2, f3⟩ := e5 i v i1 i2 hv
    obtain ⟨_, _, _, _, _, _, _, _, _, _, g5⟩ := a6 j q1 q2
    obtain ⟨_, _, _, _, g3⟩ := g5 i v i1 i2 hv
    exact ⟨o, x, f1, f2, g3.cut hψ hu f3⟩
  | sit _ n v pos =>
    obtain ⟨b, s, e, q⟩ := k
    exact ⟨b, s, by rw [hψ _ _ hid]; exact e, q⟩
  | mit _ mm since seen last =>
    obtain ⟨b0, bm0, _, _, e0⟩ := h
    obtain ⟨b, bm, e, q1, q2⟩ := k
    refine ⟨b, bm, by rw [hψ _ _ hid]; exact e, q1, ?_⟩
    cases mm with
    | none => cases bm <;> exact q2
    | some mm =>
      cases bm with
      | none => exact q2
      | some c =>
        cases bm0 with
        | none => exact e0.elim
        | some c0 => show ψ mm 0 = _; rw [hψ _ _ (hu _ _ _ e0)]; exact q2
  | map _ es clock =>
    obtain ⟨_, _, _, _, t0⟩ := h
    obtain ⟨b, E, e, q, t⟩ := k
    exact ⟨b, E, by rw [hψ _ _ hid]; exact e, q, t0.cut hψ hu t⟩
  | loop _ st pending fn env params assign body around =>
    obtain ⟨_, _, _, _, _, _, _, a0, _, _, _, _, _, c0⟩ := h
    obtain ⟨b, L, e, q1, q2, q3, q4, q5, q6, q7, q8, q9, q10, q11⟩ := k
    exact ⟨b, L, by rw [hψ _ _ hid]; exact e, q1, q2, q3, q4, fun t => (a0 t).cut hψ hu (q5 t), q6, q7, q8, q9, q10, by rw [hψ _ _ (hu _ _ _ c0)]; exact q11⟩
  | dfr _ =>
    obtain ⟨b, e, q⟩ := k
    exact ⟨b, by rw [hψ _ _ hid]; exact e, q⟩
end
section
variable {P : Program} {φ φ' : Phi} {h h' : Hp} {w w' : World}
theorem HR.num (hR : HR P φ h w) (hz : h.lim = 0) : ∀ id g r, φ id g = some r → id.num < h.next.num := fun id g r e => by
  rcases hR.used id g r e with q | ⟨q, _⟩
  · exact q
  · exact absurd hz q
theorem HR.cut (hR : HR P φ h w) (hz : h.lim = 0) (hR' : HR P φ' h' w') (o : Only [] h h') (hA : Adv h w φ h' w' φ') : HR P (cutP h.next.num φ') h w' where
  blk id b e := by
    have hid : id.num < h.next.num := by
      rcases hR.dom id b e with q | ⟨q, _⟩
      · exact q
      · exact absurd hz q
    exact BR.cut (fun _ _ k => cutP_old k _) (hR.num hz) hid (hR.blk id b e) (hR'.blk id b (by rw [o.same id hid (by simp)]; exact e))
  used id g r e := .inl (cutP_num e)
  dom := hR.dom
  sep id g b s n id' g' s' n' e e' := by
    have nr : ∀ {j : Pos}, j.num < h.next.num → Nonro h j → Nonro h' j := fun {j} hj ⟨x, k, q⟩ => ⟨x, by rw [o.same j hj (by simp)]; exact k, q⟩
    rcases hR'.sep id g b s n id' g' s' n' (cutP_le _ _ _ e) (cutP_le _ _ _ e') with q | ⟨q1, q2⟩
    · exact .inl q
    · exact .inr ⟨fun k => q1 (nr (cutP_num e) k), fun k => q2 (nr (cutP_num e') k)⟩
  inb id g b s n e := hR'.inb id g b s n (cutP_le _ _ _ e)
  glob g hg := by rw [cutP_old (hR.num hz _ _ _ (hR.glob g hg))]; exact hA.le _ _ _ (hR.glob g hg)
theorem Adv.cut (hR : HR P φ h w) (hz : h.lim = 0) (hA : Adv h w φ h' w' φ') : Adv h w φ h w' (cutP h.next.num φ') :=
  ⟨fun id g r e => by rw [cutP_old (hR.num hz _ _ _ e)]; exact hA.le _ _ _ e, hA.os, hA.output, hA.tape, hA.size, Nat.le_refl _, fun id g b s n e hb => hA.new id g b s n (cutP_le _ _ _ e) hb, fun _ _ k => k,
    hA.keep, rfl, fun _ _ e => e, fun id g r _ q e => hA.same id g r (.inl (cutP_num e)) q (cutP_le _ _ _ e)⟩
theorem AmFn.renorm {f : FuncId} {args : List AV} {v v2 : AV} {h2 : Hp} (a : AmFn P f args h v h')
    (k : ∀ φ w φ' w', HR P φ h w → h.lim = 0 → HR P φ' h' w' → Adv h w φ h' w' φ' → ∃ φ2, HR P φ2 h2 w' ∧ Adv h w φ h2 w' φ2 ∧ ∀ x, Rel φ' v x → Rel φ2 v2 x) : AmFn P f args h v2 h2 := by
  obtain ⟨fr, e1, e2⟩ := a
  have D := e2 [] _ (rfl : AnsO P (backTo v [] h') (.done v h'))
  refine ⟨fr, e1, fun callers r q φ w g cs c0 hR hz hF hC => ?_⟩
  obtain ⟨w', φ', x, hR', hA, hv, st1, st2⟩ := D φ w g [] (cs ++ c0) hR hz hF .nil
  obtain ⟨φ2, hR2, hA2, hv2⟩ := k φ w φ' w' hR hz hR' hA
  cases callers with
  | nil =>
    cases hC
    change r = .done v2 h2 at q
    subst q
    exact ⟨w', φ2, x, hR2, hA2, hv2 x hv, st1, st2⟩
  | cons c cl =>
    cases hC with
    | cons hc hcl =>
      rename_i y ys
      rcases give_run (fun c => Out.next ⟨c, cl, h2⟩) (hc.mono hA2.le) (hv2 x hv) with ⟨why, e⟩ | ⟨fr', e, f1, f2, f3⟩
      · rw [show backTo v2 (c :: cl) h2 = give c v2 fun c => .next ⟨c, cl, h2⟩ from rfl, e] at q
        exact q.elim
      · rw [show backTo v2 (c :: cl) h2 = give c v2 fun c => .next ⟨c, cl, h2⟩ from rfl, e] at q
        refine OutR.then (s' := ⟨fr', cl, h2⟩) (cs' := ys) hR hz (st1 y (ys ++ c0) rfl) hA2 ?_ ?_ (q φ2 w' (y.finish x) ys c0 hR2 (hA2.lim.trans hz) f1 (hcl.mono hA2.le))
        · cases cl with
          | nil => exact f2
          | cons d l => simp [bot, List.getLast?_cons]
        · cases cl with
          | nil => exact f3
          | cons d l => simp [bot, List.getLast?_cons]
mutual
noncomputable def AV.plain : AV → Bool
  | .bool _ | .int _ _ | .str _ _ | .nilPtr | .nilSl | .nilMap | .nilFn | .nilIfc => true
  | .ifc _ v => AV.plain v
  | .agg l | .tup l => plainL l
  | _ => false
noncomputable def plainL : List AV → Bool
  | [] => true
  | v :: l => AV.plain v && plainL l
end
mutual
theorem Rel.anyφ {φ ψ : Phi} : ∀ {v : AV} {x : Value}, v.plain = true → Rel φ v x → Rel ψ v x
  | .bool _, _, _, r => by cases r; exact .bool _
  | .int _ _, _, _, r => by cases r; exact .int _ _
  | .str _ _, _, _, r => by cases r with | str h hv => exact .str h hv
  | .nilPtr, _, _, r => by cases r; exact .nilPtr
  | .nilSl, _, _, r => by cases r; exact .nilSl
  | .nilMap, _, _, r => by cases r; exact .nilMap
  | .nilFn, _, _, r => by cases r; exact .nilFn
  | .nilIfc, _, _, r => by cases r; exact .nilIfc
  | .ifc _ v, _, p, r => by cases r with | ifc h => exact .ifc (Rel.anyφ (v := v) (by rw [AV.plain] at p; exact p) h)
  | .agg l, _, p, r => by cases r with | agg h => exact .agg (RelL.anyφ (by rw [AV.plain] at p; exact p) h)
  | .tup l, _, p, r => by cases r with | tup h => exact .tup (RelL.anyφ (by rw [AV.plain] at p; exact p) h)
  | .ptr .., _, p, _ => by rw [AV.plain] at p <;> first | cases p | simp
  | .sl .., _, p, _ => by rw [AV.plain] at p <;> first | cases p | simp
  | .map .., _, p, _ => by rw [AV.plain] at p <;> first | cases p | simp
  | .fn .., _, p, _ => by rw [AV.plain] at p <;> first | cases p | simp
  | .yield .., _, p, _ => by rw [AV.plain] at p <;> first | cases p | simp
theorem RelL.anyφ {φ ψ : Phi} : ∀ {l : List AV} {r : List Value}, plainL l = true → RelL φ l r → RelL ψ l r
  | [], _, _, r => by cases r; exact .nil
  | v :: l, _, p, r => by
    rw [plainL, Bool.and_eq_true] at p
    cases r with | cons h t => exact .cons (Rel.anyφ p.1 h) (RelL.anyφ p.2 t)
end
theorem AmFn.plain {f : FuncId} {args : List AV} {v : AV} (a : AmFn P f args h v h') (o : Only [] h h') (hv : v.plain = true) : AmFn P f args h v h :=
  a.renorm fun _ _ _ _ hR hz hR' hA => ⟨_, hR.cut hz hR' o hA, hA.cut hR hz, fun _ q => q.anyφ hv⟩
end
end Go.Proofs.YtjhgembcdndmkaaGreatDoor.Am

namespace Go.Proofs.YtjhgembcdndmkaaGreatDoor.Am
open Go.RowKit
inductive Sg where
  | go
  | exit (i : Nat)
  | ret
def Cx.add (M : List AD) (cx : Cx) : Cx := ⟨cx.fall, cx.fn, M ++ cx.defers, cx.dk, cx.round, cx.callers⟩
def Dos (P : Program) (F : FuncId) (c : C) (env : T AV) (h : Hp) (o : Sg) (M : List AD) (env' : T AV) (h' : Hp) : Prop :=
  ∀ (cx : Cx) (k : List Item), M = [] ∨ (cx.round = none ∧ cx.fn = F) → match o with
    | .go => Leads P (sOf cx (.code c :: k) env h) (sOf (cx.add M) k env' h')
    | .exit i => ∃ k', exitA i k' = exitA i k ∧ Leads P (sOf cx (.code c :: k) env h) (sOf (cx.add M) (.code (.exit i) :: k') env' h')
    | .ret => ∃ k', Leads P (sOf cx (.code c :: k) env h) (sOf (cx.add M) (.code .ret :: k') env' h')
section
variable {P : Program} {F : FuncId} {env env' env1 : T AV} {h h' h1 : Hp} {a b c : C} {o : Sg} {M M1 : List AD}
theorem exitA_cons {i : Nat} {x : Item} {k k' : List Item} (hx : ∀ j, x ≠ .inBlock j) (e : exitA i k' = exitA i (x :: k)) : exitA i k' = exitA i k := by
  rw [e]
  cases x with
  | inBlock j => exact absurd rfl (hx j)
  | _ => rfl
theorem AmFn.dos {f : FuncId} {args : List AV} {v : AV} {res : List RV} {n : Nat} {b : C} {vs : List AV} (hc : compFn P f = some ⟨res, n, b⟩) (hl : args.length ≤ n) (hb : Dos P f b (setArgs .e 0 args) h .ret [] env' h')
    (hm : mapO (result1 env' h') res = some vs) (hv : tupleA vs = v) : AmFn P f args h v h' := by
  refine AmFn.ends hc hl fun callers => ?_
  obtain ⟨k', q⟩ := hb (cxF f callers) [] (.inl rfl)
  exact Leads.ends q (ends_ret hc hm hv)
end
end Go.Proofs.YtjhgembcdndmkaaGreatDoor.Am

namespace Go.Proofs.YtjhgembcdndmkaaGreatDoor.Am
open Go.RowKit
section
variable {P : Program} {F : FuncId} {env env' env1 env2 : T AV} {h h' h1 h2 : Hp} {a b c c' : C} {o : Sg} {M M1 : List AD} {l l' : List Item}
inductive Rs where
  | upt (l : List Item)
  | exit (i : Nat)
  | ret
def Upto (P : Program) (c : C) (env : T AV) (h : Hp) (r : Rs) (env' : T AV) (h' : Hp) : Prop :=
  ∀ (cx : Cx) (k : List Item), match r with
    | .upt l => Leads P (sOf cx (.code c :: k) env h) (sOf cx (l ++ k) env' h')
    | .exit i => ∃ k', exitA i k' = exitA i k ∧ Leads P (sOf cx (.code c :: k) env h) (sOf cx (.code (.exit i) :: k') env' h')
    | .ret => ∃ k', Leads P (sOf cx (.code c :: k) env h) (sOf cx (.code .ret :: k') env' h')
noncomputable def Rs.seq (b : C) : Rs → Rs
  | .upt l => .upt (l ++ [.code b])
  | r => r
noncomputable def Rs.block (i : Nat) : Rs → Rs
  | .upt [] => .upt []
  | .upt (x :: l) => .upt (x :: l ++ [.inBlock i])
  | .exit j => if j = i then .upt [] else .exit j
  | .ret => .ret
theorem Upto.pre {r : Rs} (u : Upto P a env1 h1 r env' h') (hl : ∀ cx k, Leads P (sOf cx (.code c :: k) env h) (sOf cx (.code a :: k) env1 h1)) : Upto P c env h r env' h' := fun cx k => by
  have q := u cx k
  cases r with
  | upt l => exact (hl cx k).trans q
  | ret => obtain ⟨k', q⟩ := q; exact ⟨k', (hl cx k).trans q⟩
  | exit i => obtain ⟨k', e, q⟩ := q; exact ⟨k', e, (hl cx k).trans q⟩
theorem Upto.self : Upto P c env h (.upt [.code c]) env h := fun _ _ => .refl _
end
structure Fix (h : Hp) (id : Pos) (l : List AV) : Prop where
  old : id.num < h.next.num
  mem : ∃ ser c hi m ro fz, T.get id h.heap = some (.cells ser c 0 hi 0 m ro fz) ∧ c.wf ∧ c.toL = l
theorem Fix.only {S : List Pos} {h h' : Hp} {id : Pos} {l : List AV} (b : Fix h id l) (m : Only S h h') (hs : id ∉ S) : Fix h' id l :=
  ⟨Nat.lt_of_lt_of_le b.old m.next, by rw [m.same id b.old hs]; exact b.mem⟩
end Go.Proofs.YtjhgembcdndmkaaGreatDoor.Am

namespace Go.Proofs.YtjhgembcdndmkaaGreatDoor.Am
open Go.RowKit
noncomputable def addRow (h : Hp) (l : List AV) : Hp := ⟨T.set h.next (some (.cells 0 (.lst l.length l) 0 0 0 0 true false)) h.heap, h.next.succ, h.ser, h.lim⟩
def AllRo (h : Hp) : Prop := ∀ id, ¬ Nonro h id
section
variable {P : Program} {φ : Phi} {h : Hp} {w : World} {l : List AV} {ys : List Value} {b off : Nat} {C : Array Value} {el : TypeId} {fr : Nat × Nat}
theorem addRow_get (id : Pos) : T.get id (addRow h l).heap = if id = h.next then some (.cells 0 (.lst l.length l) 0 0 0 0 true false) else T.get id h.heap := by
  show T.get id (T.set h.next _ h.heap) = _
  rw [T.get_set]
theorem addRow_only : Only [] h (addRow h l) := by
  refine ⟨by show h.next.num ≤ h.next.succ.num; rw [Pos.num_succ]; omega, rfl, fun id hid _ => ?_⟩
  rw [addRow_get, if_neg fun c => by subst c; omega]
theorem addRow_ro (hr : AllRo h) : AllRo (addRow h l) := fun id ⟨x, e, q⟩ => by
  rw [addRow_get] at e
  split at e
  · cases e
    have := q _ _ _ _ _ _ _ _ rfl
    cases this
  · exact hr id ⟨x, e, q⟩
end
end Go.Proofs.YtjhgembcdndmkaaGreatDoor.Am

namespace Go.Proofs.YtjhgembcdndmkaaGreatDoor.Am
open Go.RowKit
theorem HR.globs {P : Program} {φ : Phi} {h : Hp} {w : World} (hR : HR P φ h w) : globN P ≤ w.heap.size := by
  rcases Nat.lt_or_ge w.heap.size (globN P) with c | c
  · have := hR.inb _ _ _ _ _ (hR.glob w.heap.size c); omega
  · exact c
theorem closed_fn {P : Program} {f : FuncId} (hc : closed P f (globN P) = true) (h : Hp) : AmFn P f [] h (.bool true) h := by
  unfold closed at hc
  split at hc
  · rename_i s hs
    unfold start at hs
    split at hs
    · rename_i fr hb
      cases hs
      refine ⟨fr, hb, fun callers r q φ w g cs c0 hR hz hF hC => ?_⟩
      have hfr : ∃ fu : Fu, fr = ⟨f, .e, [.code fu.body], [], .run, false, none⟩ := by
        unfold beginFn at hb
        split at hb
        · rename_i fu _
          refine ⟨fu, ?_⟩
          cases hl : Nat.ble ([] : List AV).length fu.nargs with
          | true => rw [hl] at hb; cases hb; rfl
          | false => rw [hl] at hb; cases hb
        · cases hb
      obtain ⟨fu, hfr⟩ := hfr
      have hF0 : FrR P (phi0 P) fr g := by
        subst hfr
        have htodo : ItemsR P (phi0 P) (numT P f) [.code fu.body] g.todo := by
          have := hF.todo
          generalize g.todo = td at this ⊢
          cases this with
          | @cons _ y _ r h1 h2 =>
            cases h2
            refine .cons ?_ .nil
            cases y <;> exact h1
        have hdef : DefsR (phi0 P) [] g.defers := by
          have := hF.defers
          generalize g.defers = ds at this ⊢
          cases this
          exact .nil
        have hround : RoundR (phi0 P) none g.roundOf := by
          have := hF.round
          generalize g.roundOf = ro at this ⊢
          cases ro with
          | none => trivial
          | some b => exact this.elim
        refine ⟨hF.fn, fun t => ?_, hF.size, htodo, hdef, hF.mode, hF.kind, hround⟩
        have e : Rel φ (ev (.e : T AV) (.tmp (Pos.ofNat t))) (g.tmps.getD t Go.undef) := hF.env t
        have u : ev (.e : T AV) (.tmp (Pos.ofNat t)) = .undef := sv_undef t
        show Rel (phi0 P) (ev (.e : T AV) (.tmp (Pos.ofNat t))) (g.tmps.getD t Go.undef)
        rw [u] at e ⊢
        revert e
        generalize g.tmps.getD t Go.undef = X
        intro e
        cases e with
        | @tup _ a hl =>
          refine .tup ?_
          generalize a.toList = L at hl ⊢
          cases hl
          exact .nil
      have hR0 := start_rel (P := P) (w := w) hR.globs
      have ho := run_sounds P 40 ⟨fr, [], ⟨.e, Pos.ofNat (globN P), 0, 0⟩⟩ (phi0 P) w g [] (cs ++ c0) hR0 rfl hF0 .nil
      have hc : isTrue (run P 40 ⟨fr, [], ⟨.e, Pos.ofNat (globN P), 0, 0⟩⟩) = true := hc
      generalize run P 40 ⟨fr, [], ⟨.e, Pos.ofNat (globN P), 0, 0⟩⟩ = o at hc ho
      unfold isTrue at hc
      split at hc
      · rename_i h'
        obtain ⟨w', φ', x, r1, r2, r3, r4, r5⟩ := ho
        cases r3
        have hk : ∀ b, b < w.heap.size → w'.heap[b]? = w.heap[b]? := fun b hb => r2.keep b hb fun id g s n _ ⟨b, e, _⟩ => by
          rw [T.get_e] at e
          cases e
        have hR' := hR.grown r2.size hk
        have hA' : Adv h w φ h w' φ := Adv.grown r2.os r2.output r2.tape r2.size hk
        have back := backTo_run (fr := fr) (c0 := c0) (v := .bool true) (x := .bool true) (callers := callers) hR' hC (.bool true) hA' (fun c cs1 e => r4 c cs1 e) (fun hr hcl => by
          subst hcl
          cases hC
          obtain ⟨g', s1, s2, s3⟩ := r5 hr
          exact ⟨g', s1, s2, s3⟩)
        unfold AnsO at q
        cases hb : backTo (.bool true) callers h with
        | next s' =>
          rw [hb] at q back
          obtain ⟨g', cs', w2, φ2, q1, q2, q3, q4, q5, q6, q7⟩ := back
          exact OutR.then hR hz q1 q5 q6 q7 (q φ2 w2 g' cs' c0 q2 (q5.lim.trans hz) q3 q4)
        | done v h2 =>
          rw [hb] at q back
          rw [q]
          exact back
        | fail why => rw [hb] at q; exact q.elim
      · cases hc
    · cases hs
  · cases hc
end Go.Proofs.YtjhgembcdndmkaaGreatDoor.Am

namespace Go.Proofs.YtjhgembcdndmkaaGreatDoor.Am
open Go.RowKit
section
variable (P : Program) (env : T AV) (h : Hp)
theorem qev_eqPtr (neg : Bool) (x y : Opd) : evalOp P (.eqPtr neg x y) env h = opt h "eqPtr" (match sameP h (ev env x) (ev env y) with
  | some b => notIf neg b
  | none => none) := rfl
theorem sameP_nil (id : Pos) (g off : Nat) : sameP h (.ptr id g off) .nilPtr = some false := rfl
end
theorem Gro.part {h : Hp} {id : Pos} {g : Nat} {l : List AV} (b : Gro h id g l) {off n : Nat} (hn : off + n ≤ l.length) : Row h id g off ((l.drop off).take n) := by
  obtain ⟨ser, c, hi, m, fz, e, hw, hl⟩ := b.mem
  have hs : c.size = l.length := by rw [← Cells.toL_length hw, hl]
  have q := Row.of_block (off := off) (n := n) e hw b.old (Nat.zero_le _) (by omega)
  rw [hl] at q
  exact q
theorem append_room (P : Program) {h : Hp} {v : AV} {id : Pos} {g k cap : Nat} {ex : Bool} {L l2 : List AV} {bytes : Nat} (ha : Gro h id g L) (hv : SlR h v l2) (hk : k + l2.length ≤ cap) (hL : k + l2.length ≤ L.length) (hl : k + l2.length ≤ 1073741824) (hb : bytes ≤ 4096) (hat : ∀ y ∈ l2, y.atom = true) :
    ∃ h', (∀ env s x, ev env s = .sl id g 0 k cap ex 1 → ev env x = v → evalOp P (.append 1 bytes s x) env h = .val (.sl id g 0 (k + l2.length) cap ex 1) h') ∧ Gro h' id g (L.take k ++ l2 ++ L.drop (k + l2.length)) ∧ Only [id] h h' ∧ h'.next = h.next := by
  by_cases h0 : l2 = []
  · subst h0
    refine ⟨h, fun env s x hs hx => ?_, by simpa using ha, .refl _ _, rfl⟩
    show appendA h 1 bytes (ev env s) (ev env x) = _
    rw [hs, hx]
    generalize hq : ([] : List AV) = l0 at hv
    cases hv with
    | nil => rfl
    | emp => rfl
    | mk hn r =>
      subst hq
      simp at hn
      subst hn
      rfl
  · cases hv with
    | nil => exact absurd rfl h0
    | emp => exact absurd rfl h0
    | mk hn r =>
      rename_i id2 g2 off2 n2 cap2 ex2
      subst hn
      have hpos : 0 < l2.length := List.length_pos_iff.2 h0
      obtain ⟨seg, c1, c2, c3⟩ := r.all
      have hseg : seg.size = l2.length := by rw [← Cells.toL_length c2, c3]
      have src : srcCells h 1 l2.length (.sl id2 g2 off2 l2.length cap2 ex2 1) = some seg := by
        show readN h id2 g2 off2 (l2.length * 1) = some seg
        rw [Nat.mul_one]; exact c1
      have ok : okSize (Nat.add k l2.length) bytes = true := by
        exact okSize_small (show Nat.add k l2.length ≤ _ from hl) hb
      obtain ⟨ser, c, hi, m, fz, eb, hw, hcl⟩ := ha.mem
      have hcs : c.size = L.length := by rw [← Cells.toL_length hw, hcl]
      have ats : seg.atoms = true := by
        cases seg with
        | byt n v => rfl
        | lst n L =>
          have : L = l2 := c3
          subst this
          show List.all _ _ = true
          rw [List.all_eq_true]
          exact hat
      obtain ⟨q1, q2, q3⟩ := Cells.splice_spec hw c2 (off := k) (by omega)
      refine ⟨⟨T.set id (some (.cells ser (c.splice k seg) 0 hi g (bif Nat.blt k hi then g else m) false fz)) h.heap, h.next, h.ser, h.lim⟩, fun env s x hs hx => ?_, ⟨ha.old, ser, c.splice k seg, hi, (bif Nat.blt k hi then g else m), fz, ?_, q1, ?_⟩, ⟨Nat.le_refl _, rfl, fun j _ q => ?_⟩, rfl⟩
      · show appendA h 1 bytes (ev env s) (ev env x) = _
        rw [hs, hx]
        unfold appendA
        simp only [lenA, beq_false.2 (show l2.length ≠ 0 by omega), cond_false, src]
        unfold appendSeg
        have ht : Nat.add 0 (Nat.mul k 1) = k := by show 0 + k * 1 = _; omega
        have hfit : Nat.ble (Nat.add k seg.size) c.size = true := ble_iff.2 (show k + seg.size ≤ c.size by omega)
        simp only [natK_eq, ok, show Nat.beq 1 1 = true from rfl, show Nat.blt 0 1 = true from rfl, Bool.and_true, Bool.and_self, Bool.not_true, cond_false, cond_true, show Nat.ble (Nat.add k l2.length) cap = true from ble_iff.2 hk, ht]
        unfold extendN
        simp only [eb, beq_iff.2 (rfl : g = g), show Nat.ble 0 k = true from ble_iff.2 (Nat.zero_le k), show Nat.ble k c.size = true from ble_iff.2 (by omega), ats, hfit, Bool.not_false, Bool.and_self, Bool.and_true, cond_true, T.setK_eq]
        rfl
      · show T.get id (T.set id _ h.heap) = _
        rw [T.get_set, if_pos rfl]
      · rw [q2, c3, hcl, hseg, List.append_assoc]
      · show T.get j (T.set id _ h.heap) = _
        rw [T.get_set, if_neg (by simpa using q)]
noncomputable def stepE (P : Program) (rec : St → Out) (i : Nat) (s : DS) (o : O) : Option DS :=
  match kindOf o.op with
  | .alloc => if wantedA o s.env = true then (match evalOp P o.op s.env ⟨.e, s.rid, s.h.ser, s.rid.num + 1⟩ with
    | .val v h' => (match T.get s.rid h'.heap with
      | some b => some ⟨s.acts, s.lds, ⟨i, s.rid, b⟩ :: s.als, s.rid.succ, setD s.env o.dst v, s.h⟩
      | none => none)
    | _ => none) else some ⟨s.acts, s.lds, s.als, s.rid.succ, setD s.env o.dst .undef, s.h⟩
  | _ => stepD P rec i s o
noncomputable def runE (P : Program) (rec : St → Out) : Nat → List O → DS → Option DS
  | _, [], s => some s
  | i, o :: l, s => match stepE P rec i s o with
    | some s' => runE P rec (i + 1) l s'
    | none => none
theorem stepE_go {P : Program} {rec : St → Out} {K : T AV → Hp → Out} {i : Nat} {s s' : DS} {o : O} (e : stepE P rec i s o = some s') (rest : List O) :
    drawnGo P rec K i s.acts s.lds s.als s.rid s.env s.h (o :: rest) = drawnGo P rec K (i + 1) s'.acts s'.lds s'.als s'.rid s'.env s'.h rest := by
  unfold stepE at e
  split at e
  · rename_i hk
    rw [show drawnGo P rec K i s.acts s.lds s.als s.rid s.env s.h (o :: rest) = _ from by unfold drawnGo; rfl]
    rw [hk]
    split at e
    · rename_i hw
      rw [hw]
      split at e
      · rename_i v h1 he
        split at e
        · rename_i b hb
          cases e
          simp only [cond_true, he, hb, setDst_eq]
        · cases e
      · cases e
    · rename_i hw
      have hw : wantedA o s.env = false := by simpa using hw
      rw [hw]
      cases e
      simp only [cond_false, setDst_eq]
  · exact stepD_go e rest
theorem runE_go {P : Program} {rec : St → Out} {K : T AV → Hp → Out} {rest : List O} : ∀ {l : List O} {i : Nat} {s s' : DS}, runE P rec i l s = some s' →
    drawnGo P rec K i s.acts s.lds s.als s.rid s.env s.h (l ++ rest) = drawnGo P rec K (i + l.length) s'.acts s'.lds s'.als s'.rid s'.env s'.h rest
  | [], i, s, s', e => by cases e; rfl
  | o :: l, i, s, s', e => by
    unfold runE at e
    split at e
    · rename_i s1 he
      rw [List.cons_append, stepE_go he, runE_go e, List.length_cons, show i + 1 + l.length = i + (l.length + 1) by omega]
    · cases e
theorem nth0 (x : AV) (l : List AV) : nth (x :: l) 0 = some x := rfl
theorem nth1 (x y : AV) (l : List AV) : nth (x :: y :: l) 1 = some y := rfl
theorem nth2 (x y z : AV) (l : List AV) : nth (x :: y :: z :: l) 2 = some z := rfl
end Go.Proofs.YtjhgembcdndmkaaGreatDoor.Am

namespace Go.Proofs.YtjhgembcdndmkaaGreatDoor.Am
open Go.RowKit
noncomputable def strOf (b : List UInt8) : AV := .str b.length (pack b)
theorem strOf_rel (φ : Phi) (s : ByteArray) : Rel φ (strOf s.data.toList) (.string s) := .str (unpack_pack _).symm (pack_lt _)
theorem addr_add (a : Addr) (m k : Nat) : (a.add m).add k = a.add (m + k) := by
  unfold Addr.add
  by_cases hm : m = 0
  · subst hm; simp
  · by_cases hk : k = 0
    · subst hk; simp
    · rw [if_neg hm, if_neg hk, if_neg (by omega)]
      simp [Nat.add_assoc]
theorem cells_get {w : World} {base : Nat} {a : Addr} {n : Nat} {cs : List Value} (h : w.cells? base a n = some cs) : cs.length = n ∧ ∀ j, j < n → w.cell? (a.add j) = cs[j]? := by
  unfold World.cells? at h
  split at h
  · exact ⟨by simpa using mapM_some_length h, fun j hj => mapM_some_get h j j (by simp [hj])⟩
  · cases h
theorem addRow_relφ {P : Program} {φ : Phi} {h : Hp} {w : World} {l : List AV} {ys : List Value} {b off : Nat} {C : Array Value} {el : TypeId} {fr : Nat × Nat} (hR : HR P φ h w) (hz : h.lim = 0) (hro : AllRo h) (hb : w.heap[b]? = some (.cells C el fr)) (hl : l.length = ys.length) (hC : ∀ i, i < ys.length → C[off + i]? = ys[i]?) (hr : RelL φ l ys) :
    HR P (φ.put h.next 0 (b, (off : Int), C.size)) (addRow h l) w := by
  have blt : b < w.heap.size := by
    rcases Nat.lt_or_ge b w.heap.size with q | q
    · exact q
    · rw [Array.getElem?_eq_none q] at hb; cases hb
  have nn := hR.next_none (.inl hz)
  have hle : Le φ (φ.put h.next 0 (b, (off : Int), C.size)) := Phi.le_put (nn 0)
  have hin : ∀ {id g r}, φ.put h.next 0 (b, (off : Int), C.size) id g = some r → (id = h.next ∧ g = 0 ∧ r = (b, (off : Int), C.size)) ∨ (id ≠ h.next ∧ φ id g = some r) := fun {id g r} e => by
    by_cases c : id = h.next
    · subst c
      by_cases c : g = 0
      · subst c; rw [Phi.put_same] at e; cases e; exact .inl ⟨rfl, rfl, rfl⟩
      · rw [Phi.put_gen c, nn] at e; cases e
    · rw [Phi.put_id c] at e; exact .inr ⟨c, e⟩
  have old : ∀ {id}, Old h.next.num h.lim id → Old (addRow h l).next.num (addRow h l).lim id := fun {id} o => o.mono addRow_only.next
  have new : Old (addRow h l).next.num (addRow h l).lim h.next := .inl (by show h.next.num < h.next.succ.num; rw [Pos.num_succ]; omega)
  refine ⟨fun id x e => ?_, fun id g r e => ?_, fun id x e => ?_, fun id g y s n id' g' s' n' _ _ => .inr ⟨addRow_ro hro _, addRow_ro hro _⟩, fun id g y s n e => ?_, fun g hg => hle _ _ _ (hR.glob g hg)⟩
  · rw [addRow_get] at e
    split at e
    · rename_i c
      cases e
      subst c
      refine ⟨⟨rfl, Nat.le_refl _, fun q => absurd q (Nat.lt_irrefl _), fun j hj => ?_, fun j j' b1 s1 n1 s2 n2 k1 k2 k3 k4 e1 e2 => ?_, fun j k1 k2 => ?_⟩, fun _ _ _ _ _ _ _ _ _ _ _ => .inl rfl⟩
      · rw [Phi.put_gen (by omega)]; exact nn j
      · rcases hin e1 with ⟨_, _, q1⟩ | ⟨q, _⟩
        · rcases hin e2 with ⟨_, _, q2⟩ | ⟨q, _⟩
          · cases q1; cases q2; rfl
          · exact absurd rfl q
        · exact absurd rfl q
      · have : j = 0 := by omega
        subst this
        refine ⟨b, off, C.size, C, el, fr, Phi.put_same _ _ _ _, hb, rfl, fun c => (by cases c), fun i v _ hi2 hv => ?_⟩
        have hv : l[i]? = some v := hv
        have hil : i < l.length := by
          rcases Nat.lt_or_ge i l.length with q | q
          · exact q
          · rw [List.getElem?_eq_none q] at hv; cases hv
        obtain ⟨x, hx, rx⟩ := (hr.mono hle).get hv
        exact ⟨off + i, x, by omega, by rw [hC i (by omega), hx], rx⟩
    · rename_i c
      exact BR.mono hle (fun g r k => by rwa [Phi.put_id c] at k) (fun _ _ _ _ _ => rfl) (hR.blk id x e)
  · rcases hin e with ⟨q, _, _⟩ | ⟨_, q⟩
    · subst q; exact new
    · exact old (hR.used _ _ _ q)
  · rw [addRow_get] at e
    split at e
    · rename_i c; subst c; exact new
    · exact old (hR.dom _ _ e)
  · rcases hin e with ⟨_, _, q⟩ | ⟨_, q⟩
    · cases q; exact blt
    · exact hR.inb _ _ _ _ _ q
theorem addRow_fix {h : Hp} {l : List AV} : Fix (addRow h l) h.next l :=
  ⟨by show h.next.num < h.next.succ.num; rw [Pos.num_succ]; omega, 0, .lst l.length l, 0, 0, true, false, by rw [addRow_get, if_pos rfl], rfl, rfl⟩
def Opens {H : Type} (P : Program) (w : World) (φ : Phi) (h : Hp) (cs : List Value) (s : Hp → List AV → Prop) : Prop :=
  ∃ φ' h' l, HR P φ' h' w ∧ h'.lim = 0 ∧ AllRo h' ∧ Le φ φ' ∧ Only [] h h' ∧ RelL φ' l cs ∧ s h' l
end Go.Proofs.YtjhgembcdndmkaaGreatDoor.Am

namespace Go.Proofs.YtjhgembcdndmkaaGreatDoor.Am
open Go.RowKit
theorem cmp_str (a b : List UInt8) : strCmp a.length (pack a) b.length (pack b) = cmpL a b := by
  rw [strCmp_eq _ _ _ _ (pack_lt a) (pack_lt b), unpack_pack, unpack_pack]
theorem strOf_inj {a b : List UInt8} (e : strOf a = strOf b) : a = b := by
  have e : AV.str a.length (pack a) = AV.str b.length (pack b) := e
  injection e with e1 e2
  rw [← unpack_pack a, ← unpack_pack b, e1, e2]
end Go.Proofs.YtjhgembcdndmkaaGreatDoor.Am

namespace Go.Proofs.YtjhgembcdndmkaaGreatDoor.Am
open Go.RowKit
def tilesB (P : Program) : List Field → Nat → Option Nat
  | [], n => some n
  | f :: l, n => if f.offset = n then tilesB P l (n + P.cellsOf f.type) else none
def treeB (P : Program) : Nat → TypeId → Bool
  | 0, _ => false
  | d + 1, t => match P.underlying t with
    | some .bool | some (.int _) | some .string => true
    | some (.slice e) => treeB P d e && decide (0 < P.cellsOf e)
    | some (.array n e) => treeB P d e && decide (P.cellsOf t = n * P.cellsOf e)
    | some (.struct fs) => fs.toList.all (fun f => treeB P d f.type) && tilesB P fs.toList 0 == some (P.cellsOf t)
    | _ => false
def Tree (P : Program) (h : Hp) : Nat → TypeId → List AV → Prop
  | 0, _, _ => False
  | d + 1, t, l => match P.underlying t with
    | some .bool => ∃ b, l = [.bool b]
    | some (.int k) => ∃ n, l = [.int k n] ∧ (Lit.int k n).wf = true
    | some .string => ∃ b, l = [strOf b] ∧ b.length ≤ reachBytes
    | some (.slice e) => l = [.nilSl] ∨ (∃ id g off, l = [.sl id g off 0 0 true (P.cellsOf e)]) ∨
        ∃ id n cap L, l = [.sl id 0 0 n cap true (P.cellsOf e)] ∧ n ≤ cap ∧ cap * P.bytesOf e ≤ reachBytes ∧ Fix h id L ∧ L.length = cap * P.cellsOf e ∧ ∀ i, i < cap → Tree P h d e ((L.drop (i * P.cellsOf e)).take (P.cellsOf e))
    | some (.array n e) => l.length = n * P.cellsOf e ∧ ∀ i, i < n → Tree P h d e ((l.drop (i * P.cellsOf e)).take (P.cellsOf e))
    | some (.struct fs) => l.length = P.cellsOf t ∧ ∀ f, f ∈ fs.toList → Tree P h d f.type ((l.drop f.offset).take (P.cellsOf f.type))
    | _ => False
theorem Tree.more {P : Program} {h h' : Hp} (m : Only [] h h') : ∀ {d : Nat} {t : TypeId} {l : List AV}, Tree P h d t l → Tree P h' d t l
  | 0, _, _, a => a
  | d + 1, t, l, a => by
    unfold Tree at a ⊢
    split
    · rename_i hd; rw [hd] at a; exact a
    · rename_i hd; rw [hd] at a; exact a
    · rename_i hd; rw [hd] at a; exact a
    · rename_i e hd
      rw [hd] at a
      rcases a with a | a | ⟨id, n, cap, L, a1, a2, a3, a4, a5, a6⟩
      · exact .inl a
      · exact .inr (.inl a)
      · exact .inr (.inr ⟨id, n, cap, L, a1, a2, a3, a4.only m (by simp), a5, fun i hi => (a6 i hi).more m⟩)
    · rename_i n e hd
      rw [hd] at a
      exact ⟨a.1, fun i hi => (a.2 i hi).more m⟩
    · rename_i fs hd
      rw [hd] at a
      exact ⟨a.1, fun f hf => (a.2 f hf).more m⟩
    · rename_i h1 h2 h3 h4 h5 h6
      split at a <;> simp_all
section
variable {H : Type} {enc : TypeId × Value → H} {P : Program} {w : World} {base : Nat} {held : Bool}
theorem weights_all {e : TypeId} : ∀ {ds : List (DataW H)}, (∀ n ∈ DataW.weightsAll P e ds, n ≤ reachBytes) → ∀ d ∈ ds, ∀ n ∈ d.weights P e, n ≤ reachBytes
  | [], _, d, hd, _, _ => by cases hd
  | x :: ds, h, d, hd, n, hn => by
    unfold DataW.weightsAll at h
    rcases List.mem_cons.1 hd with q | q
    · subst q; exact h n (List.mem_append_left _ hn)
    · exact weights_all (fun m hm => h m (List.mem_append_right _ hm)) d q n hn
theorem weights_each : ∀ {ts : List TypeId} {ds : List (DataW H)}, (∀ n ∈ DataW.weightsEach P ts ds, n ≤ reachBytes) → ∀ (i : Nat) t d, ts[i]? = some t → ds[i]? = some d → ∀ n ∈ d.weights P t, n ≤ reachBytes :=
  fun h _ _ _ ht hd n hn => h n (DataW.weights_mem_each ht hd n hn)
theorem open_elemsT {n es d : Nat} {e : TypeId} {a : Addr}
    (ih : ∀ (cs : List Value) (x : DataW H × List MemPlace), DataW.trod enc P w base (fun _ => true) held n e cs = some x → (∀ n ∈ x.1.weights P e, n ≤ reachBytes) → ∀ φ h, HR P φ h w → h.lim = 0 → AllRo h → Opens (H := H) P w φ h cs fun h' l => Tree P h' d e l ∧ l.length = cs.length) :
    ∀ (ds : List (DataW H × List MemPlace)) (i0 : Nat), (∀ x ∈ ds, ∀ n ∈ x.1.weights P e, n ≤ reachBytes) → (∀ i, i < ds.length → (w.cells? base (a.add ((i0 + i) * es)) es).bind (DataW.trod enc P w base (fun _ => true) held n e) = ds[i]?) → ∀ φ h, HR P φ h w → h.lim = 0 → AllRo h →
      ∃ φ' h' L ys, HR P φ' h' w ∧ h'.lim = 0 ∧ AllRo h' ∧ Le φ φ' ∧ Only [] h h' ∧ RelL φ' L ys ∧ (∀ i, i < ds.length → Tree P h' d e ((L.drop (i * es)).take es)) ∧ ys.length = ds.length * es ∧ ∀ j, j < ys.length → w.cell? (a.add (i0 * es + j)) = ys[j]?
  | [], i0, hw, hd, φ, h, hR, hz, hro => ⟨φ, h, [], [], hR, hz, hro, Le.refl φ, .refl _ _, .nil, fun i hi => by simp at hi, by simp, fun j hj => by simp at hj⟩
  | x :: ds, i0, hw, hd, φ, h, hR, hz, hro => by
    have h0 := hd 0 (by simp)
    simp only [Nat.add_zero, List.getElem?_cons_zero] at h0
    obtain ⟨cs, hcs, ht⟩ := Option.bind_eq_some_iff.1 h0
    obtain ⟨hlen, hget⟩ := cells_get hcs
    obtain ⟨φ1, h1, l, r1, r2, r3, r4, r5, r6, r7, r8⟩ := ih cs x ht (hw x (by simp)) φ h hR hz hro
    obtain ⟨φ2, h2, L, ys, s1, s2, s3, s4, s5, s6, s7, s8, s9⟩ := open_elemsT ih ds (i0 + 1) (fun y hy => hw y (by simp [hy])) (fun i hi => by
      have := hd (i + 1) (by simp; omega)
      rw [List.getElem?_cons_succ] at this
      rw [← this, show i0 + 1 + i = i0 + (i + 1) by omega]) φ1 h1 r1 r2 r3
    have hll : l.length = es := by omega
    refine ⟨φ2, h2, l ++ L, cs ++ ys, s1, s2, s3, r4.trans s4, r5.trans s5, (r6.mono s4).append s6, fun i hi => ?_, by simp [hlen, s8, Nat.add_mul]; omega, fun j hj => ?_⟩
    · cases i with
      | zero =>
        rw [Nat.zero_mul, List.drop_zero, List.take_append_of_le_length (by omega), List.take_of_length_le (by omega)]
        exact r7.more s5
      | succ i =>
        rw [List.drop_append, List.drop_eq_nil_of_le (by rw [hll, Nat.add_mul]; omega), List.nil_append, hll, show (i + 1) * es - es = i * es by rw [Nat.add_mul]; omega]
        exact s7 i (by simpa using hi)
    · by_cases hjl : j < cs.length
      · rw [List.getElem?_append_left hjl, ← hget j (by omega), addr_add]
      · have hj' : j - cs.length < ys.length := by simp at hj; omega
        rw [List.getElem?_append_right (by omega), ← s9 _ hj', show i0 * es + j = (i0 + 1) * es + (j - cs.length) by rw [Nat.add_mul]; omega]
theorem open_fieldsT {n d : Nat} {cs : List Value} :
    ∀ (fs : List Field) (off : Nat) (xs : List (DataW H × List MemPlace)),
      (∀ (i : Nat) f x, fs[i]? = some f → xs[i]? = some x → ∀ n ∈ x.1.weights P f.type, n ≤ reachBytes) →
      (∀ f ∈ fs, ∀ (cs : List Value) (x : DataW H × List MemPlace), DataW.trod enc P w base (fun _ => true) held n f.type cs = some x → (∀ n ∈ x.1.weights P f.type, n ≤ reachBytes) → ∀ φ h, HR P φ h w → h.lim = 0 → AllRo h → Opens (H := H) P w φ h cs fun h' l => Tree P h' d f.type l ∧ l.length = cs.length) →
      tilesB P fs off = some cs.length → xs.length = fs.length → (∀ (i : Nat) (f : Field), fs[i]? = some f → DataW.trod enc P w base (fun _ => true) held n f.type ((cs.drop f.offset).take (P.cellsOf f.type)) = xs[i]?) → ∀ φ h, HR P φ h w → h.lim = 0 → AllRo h →
      Opens (H := H) P w φ h (cs.drop off) fun h' l => ∀ f ∈ fs, off ≤ f.offset ∧ Tree P h' d f.type ((l.drop (f.offset - off)).take (P.cellsOf f.type))
  | [], off, xs, _, _, ht, hx, _, φ, h, hR, hz, hro => by
    have ht : some off = some cs.length := ht
    cases ht
    refine ⟨φ, h, [], hR, hz, hro, Le.refl φ, .refl _ _, ?_, fun f hf => by cases hf⟩
    rw [List.drop_length]
    exact .nil
  | f :: fs, off, xs, hw, ih, ht, hx, hf, φ, h, hR, hz, hro => by
    unfold tilesB at ht
    split at ht
    · rename_i ho
      match xs, hx with
      | x :: xs, hx =>
        have h0 := hf 0 f (by simp)
        simp only [List.getElem?_cons_zero] at h0
        obtain ⟨φ1, h1, l, r1, r2, r3, r4, r5, r6, r7, r8⟩ := ih f (by simp) _ x h0 (hw 0 f x (by simp) (by simp)) φ h hR hz hro
        obtain ⟨φ2, h2, L, s1, s2, s3, s4, s5, s6, s7⟩ := open_fieldsT fs (off + P.cellsOf f.type) xs (fun i g y hg hy => hw (i + 1) g y (by simpa using hg) (by simpa using hy)) (fun g hg => ih g (by simp [hg])) ht (by simpa using hx) (fun i g hg => by
          have := hf (i + 1) g (by simpa using hg)
          rwa [List.getElem?_cons_succ] at this) φ1 h1 r1 r2 r3
        have hle : off + P.cellsOf f.type ≤ cs.length := by
          clear s7 s6 ih hf h0 r6 r8 hw hx
          have mono : ∀ (fs : List Field) (k m : Nat), tilesB P fs k = some m → k ≤ m := by
            intro fs
            induction fs with
            | nil => intro k m e; cases e; exact Nat.le_refl _
            | cons g fs ih =>
              intro k m e
              unfold tilesB at e
              split at e
              · have := ih _ _ e; omega
              · cases e
          exact mono _ _ _ ht
        have hll : l.length = P.cellsOf f.type := by
          rw [r8, List.length_take, List.length_drop, ho]; omega
        refine ⟨φ2, h2, l ++ L, s1, s2, s3, r4.trans s4, r5.trans s5, ?_, fun g hg => ?_⟩
        · rw [ho] at r6
          have e : cs.drop off = (cs.drop off).take (P.cellsOf f.type) ++ cs.drop (off + P.cellsOf f.type) := by
            rw [← List.drop_drop, List.take_append_drop]
          rw [e]
          exact (r6.mono s4).append s6
        · rcases List.mem_cons.1 hg with q | q
          · subst q
            refine ⟨by omega, ?_⟩
            rw [ho, Nat.sub_self, List.drop_zero, List.take_append_of_le_length (by omega), List.take_of_length_le (by omega)]
            exact r7.more s5
          · obtain ⟨q1, q2⟩ := s7 g q
            refine ⟨by omega, ?_⟩
            rw [List.drop_append, List.drop_eq_nil_of_le (by omega), List.nil_append, hll, show g.offset - off - P.cellsOf f.type = g.offset - (off + P.cellsOf f.type) by omega]
            exact q2
    · cases ht
theorem open_partsT {n d es : Nat} {e : TypeId} {cs : List Value}
    (ih : ∀ (cs : List Value) (x : DataW H × List MemPlace), DataW.trod enc P w base (fun _ => true) held n e cs = some x → (∀ n ∈ x.1.weights P e, n ≤ reachBytes) → ∀ φ h, HR P φ h w → h.lim = 0 → AllRo h → Opens (H := H) P w φ h cs fun h' l => Tree P h' d e l ∧ l.length = cs.length) :
    ∀ (xs : List (DataW H × List MemPlace)) (i0 : Nat), (∀ x ∈ xs, ∀ n ∈ x.1.weights P e, n ≤ reachBytes) → cs.length = (i0 + xs.length) * es → (∀ i, i < xs.length → DataW.trod enc P w base (fun _ => true) held n e ((cs.drop ((i0 + i) * es)).take es) = xs[i]?) → ∀ φ h, HR P φ h w → h.lim = 0 → AllRo h →
      Opens (H := H) P w φ h (cs.drop (i0 * es)) fun h' l => ∀ i, i < xs.length → Tree P h' d e ((l.drop (i * es)).take es)
  | [], i0, hw, hl, hd, φ, h, hR, hz, hro => by
    refine ⟨φ, h, [], hR, hz, hro, Le.refl φ, .refl _ _, ?_, fun i hi => by simp at hi⟩
    rw [List.drop_eq_nil_of_le (by rw [hl, List.length_nil, Nat.add_zero]; exact Nat.le_refl _)]
    exact .nil
  | x :: xs, i0, hw, hl, hd, φ, h, hR, hz, hro => by
    have h0 := hd 0 (by simp)
    simp only [Nat.add_zero, List.getElem?_cons_zero] at h0
    obtain ⟨φ1, h1, l, r1, r2, r3, r4, r5, r6, r7, r8⟩ := ih _ x h0 (hw x (by simp)) φ h hR hz hro
    obtain ⟨φ2, h2, L, s1, s2, s3, s4, s5, s6, s7⟩ := open_partsT (es := es) (cs := cs) ih xs (i0 + 1) (fun y hy => hw y (by simp [hy])) (by rw [hl]; simp; congr 1; omega) (fun i hi => by
      have := hd (i + 1) (by simp; omega)
      rw [List.getElem?_cons_succ] at this
      rw [← this, show i0 + 1 + i = i0 + (i + 1) by omega]) φ1 h1 r1 r2 r3
    have hcl : (i0 + 1) * es ≤ cs.length := by
      rw [hl]
      exact Nat.mul_le_mul_right _ (by rw [List.length_cons]; omega)
    have hll : l.length = es := by
      rw [r8, List.length_take, List.length_drop]
      rw [Nat.add_mul, Nat.one_mul] at hcl
      omega
    refine ⟨φ2, h2, l ++ L, s1, s2, s3, r4.trans s4, r5.trans s5, ?_, fun i hi => ?_⟩
    · have e1 : cs.drop (i0 * es) = (cs.drop (i0 * es)).take es ++ cs.drop ((i0 + 1) * es) := by
        rw [show (i0 + 1) * es = i0 * es + es by rw [Nat.add_mul, Nat.one_mul], ← List.drop_drop, List.take_append_drop]
      rw [e1]
      exact (r6.mono s4).append s6
    · cases i with
      | zero =>
        rw [Nat.zero_mul, List.drop_zero, List.take_append_of_le_length (by omega), List.take_of_length_le (by omega)]
        exact r7.more s5
      | succ i =>
        rw [List.drop_append, List.drop_eq_nil_of_le (by rw [hll, Nat.add_mul]; omega), List.nil_append, hll, show (i + 1) * es - es = i * es by rw [Nat.add_mul]; omega]
        exact s7 i (by simpa using hi)
theorem open_treeT : ∀ (d n : Nat) (t : TypeId) (cs : List Value) (x : DataW H × List MemPlace), treeB P d t = true → DataW.trod enc P w base (fun _ => true) held n t cs = some x → (∀ n ∈ x.1.weights P t, n ≤ reachBytes) → ∀ φ h, HR P φ h w → h.lim = 0 → AllRo h →
    Opens (H := H) P w φ h cs fun h' l => Tree P h' d t l ∧ l.length = cs.length
  | 0, _, _, _, _, hk, _, _, _, _, _, _, _ => by cases hk
  | d + 1, n, t, cs, x, hk, ht, hwt, φ, h, hR, hz, hro => by
    unfold treeB at hk
    unfold Tree
    split at hk
    · rename_i hd
      obtain ⟨b, rfl, rfl⟩ := DataW.trod_bool hd ht
      exact ⟨φ, h, [.bool b], hR, hz, hro, Le.refl φ, .refl _ _, .cons (.bool b) .nil, ⟨b, rfl⟩, rfl⟩
    · rename_i k hd
      obtain ⟨b, rfl, rfl, hwf⟩ := DataW.trod_int hd ht
      exact ⟨φ, h, [.int k b], hR, hz, hro, Le.refl φ, .refl _ _, .cons (.int k b) .nil, ⟨b, rfl, hwf⟩, rfl⟩
    · rename_i hd
      obtain ⟨b, rfl, rfl, _⟩ := DataW.trod_string hd ht
      exact ⟨φ, h, [strOf b.data.toList], hR, hz, hro, Le.refl φ, .refl _ _, .cons (strOf_rel φ b) .nil, ⟨b.data.toList, rfl, hwt _ (by simp [DataW.weights])⟩, rfl⟩
    · rename_i e hd
      rw [Bool.and_eq_true, decide_eq_true_eq] at hk
      rcases DataW.trod_slice hd ht with ⟨rfl, rfl⟩ | ⟨a, len, cap, elems, rest, m, rfl, rfl, rfl, hb, hlc, hcm, hel, he, hr, _⟩
      · exact ⟨φ, h, [.nilSl], hR, hz, hro, Le.refl φ, .refl _ _, .cons .nilSl .nil, .inl rfl, rfl⟩
      · obtain ⟨hrl, hr⟩ := hr rfl
        have ih := fun cs x q => open_treeT d m e cs x hk.1 q
        have hwt : ∀ n ∈ ((elems.map (·.1)).length + (rest.map (·.1)).length) * P.bytesOf e :: (DataW.weightsAll P e (elems.map (·.1)) ++ DataW.weightsAll P e (rest.map (·.1))), n ≤ reachBytes := by
          intro n hn
          refine hwt n ?_
          unfold DataW.weights
          rw [hd]
          exact hn
        have hwc : cap * P.bytesOf e ≤ reachBytes := by
          have := hwt _ (List.mem_cons_self)
          rw [List.length_map, List.length_map, hel, hrl, show len + (cap - len) = cap by omega] at this
          exact this
        have hw1 : ∀ x ∈ elems, ∀ n ∈ x.1.weights P e, n ≤ reachBytes := fun x hx => weights_all (fun n hn => hwt n (List.mem_cons_of_mem _ (List.mem_append_left _ hn))) x.1 (List.mem_map_of_mem hx)
        have hw2 : ∀ x ∈ rest, ∀ n ∈ x.1.weights P e, n ≤ reachBytes := fun x hx => weights_all (fun n hn => hwt n (List.mem_cons_of_mem _ (List.mem_append_right _ hn))) x.1 (List.mem_map_of_mem hx)
        by_cases hc : cap = 0
        · subst hc
          have hl0 : len = 0 := by omega
          subst hl0
          have e1 : elems = [] := List.length_eq_zero_iff.1 hel
          have e2 : rest = [] := List.length_eq_zero_iff.1 (by omega)
          subst e1 e2
          exact ⟨φ, h, [.sl Pos.first 0 0 0 0 true (P.cellsOf e)], hR, hz, hro, Le.refl φ, .refl _ _, .cons .sl0 .nil, .inr (.inl ⟨_, _, _, rfl⟩), rfl⟩
        · obtain ⟨φ1, h1, L1, ys1, r1, r2, r3, r4, r5, r6, r7, r8, r9⟩ := open_elemsT (a := a) (es := P.cellsOf e) ih elems 0 hw1 (fun i hi => by rw [Nat.zero_add]; exact he i (by omega)) φ h hR hz hro
          obtain ⟨φ2, h2, L2, ys2, s1, s2, s3, s4, s5, s6, s7, s8, s9⟩ := open_elemsT (a := a) (es := P.cellsOf e) ih rest len hw2 (fun i hi => hr i (by omega)) φ1 h1 r1 r2 r3
          have hlen : (ys1 ++ ys2).length = cap * P.cellsOf e := by
            rw [List.length_append, r8, s8, hel, hrl, ← Nat.add_mul, show len + (cap - len) = cap by omega]
          have hcell : ∀ j, j < (ys1 ++ ys2).length → w.cell? (a.add j) = (ys1 ++ ys2)[j]? := fun j hj => by
            by_cases hjl : j < ys1.length
            · rw [List.getElem?_append_left hjl, ← r9 j hjl, Nat.zero_mul, Nat.zero_add]
            · have hj' : j - ys1.length < ys2.length := by simp at hj; omega
              rw [List.getElem?_append_right (by omega), ← s9 _ hj', show len * P.cellsOf e + (j - ys1.length) = j by rw [r8, hel] at hjl ⊢; omega]
          have hpos : 0 < (ys1 ++ ys2).length := by rw [hlen]; exact Nat.mul_pos (by omega) hk.2
          have hc0 := hcell 0 hpos
          have hsome : (ys1 ++ ys2)[0]? ≠ none := by
            rw [List.getElem?_eq_getElem hpos]; simp
          obtain ⟨b, off, spot⟩ := a
          have hadd0 : (⟨b, off, spot⟩ : Addr).add 0 = ⟨b, off, spot⟩ := rfl
          rw [hadd0] at hc0
          obtain ⟨C, el, fr, hheap, hsp⟩ : ∃ C el fr, w.heap[b]? = some (.cells C el fr) ∧ spot = none := by
            unfold World.cell? at hc0
            cases hq : w.heap[b]? with
            | none => simp only [hq] at hc0; exact absurd hc0.symm hsome
            | some o =>
              simp only [hq] at hc0
              cases o with
              | cells C el fr =>
                refine ⟨C, el, fr, rfl, ?_⟩
                cases spot with
                | none => rfl
                | some s => exact absurd hc0.symm hsome
              | _ => exact absurd hc0.symm hsome
          subst hsp
          have hC : ∀ j, j < (ys1 ++ ys2).length → C[off + j]? = (ys1 ++ ys2)[j]? := fun j hj => by
            rw [← hcell j hj]
            have : (⟨b, off, none⟩ : Addr).add j = ⟨b, off + j, none⟩ := by
              unfold Addr.add
              split
              · rename_i h0; subst h0; rfl
              · rfl
            rw [this]
            unfold World.cell?
            simp [hheap]
          have hRL := (r6.mono s4).append s6
          have hR3 := addRow_relφ s1 s2 s3 hheap hRL.length hC hRL
          have hle3 := Phi.le_put (s1.next_none (.inl s2) 0) (r := (b, (off : Int), C.size))
          have hsz : off + cap * P.cellsOf e ≤ C.size := by
            have := hC ((ys1 ++ ys2).length - 1) (by omega)
            rcases Nat.lt_or_ge (off + ((ys1 ++ ys2).length - 1)) C.size with q | q
            · omega
            · rw [Array.getElem?_eq_none q, List.getElem?_eq_getElem (by omega)] at this; cases this
          have hL1 : L1.length = len * P.cellsOf e := by rw [r6.length, r8, hel]
          refine ⟨_, addRow h2 (L1 ++ L2), [.sl h2.next 0 0 len cap true (P.cellsOf e)], hR3, s2, addRow_ro s3, (r4.trans s4).trans hle3, (r5.trans s5).trans addRow_only, .cons ?_ .nil, .inr (.inr ⟨h2.next, len, cap, L1 ++ L2, rfl, hlc, hwc, addRow_fix, by rw [hRL.length, hlen], fun i hi => ?_⟩), rfl⟩
          · exact .sl (Phi.put_same _ _ _ _) rfl rfl hlc (Nat.le_refl _) hlc (fun _ => rfl) fun _ => ⟨by simp, hsz⟩
          · by_cases hil : i < len
            · have q := (r7 i (by omega)).more (s5.trans (addRow_only (l := L1 ++ L2)))
              have hm : i * P.cellsOf e + P.cellsOf e ≤ len * P.cellsOf e := by
                rw [← Nat.succ_mul]; exact Nat.mul_le_mul_right _ hil
              rw [List.drop_append_of_le_length (by rw [hL1]; omega), List.take_append_of_le_length (by rw [List.length_drop, hL1]; omega)]
              exact q
            · have q := (s7 (i - len) (by omega)).more (addRow_only (l := L1 ++ L2))
              have hm : len * P.cellsOf e ≤ i * P.cellsOf e := Nat.mul_le_mul_right _ (by omega)
              rw [List.drop_append, List.drop_eq_nil_of_le (by rw [hL1]; exact hm), List.nil_append, hL1, ← Nat.sub_mul]
              exact q
    · rename_i k e hd
      rw [Bool.and_eq_true, decide_eq_true_eq] at hk
      obtain ⟨xs, m, rfl, rfl, hl, hxs, hf⟩ := DataW.trod_array hd ht
      have hwt : ∀ x ∈ xs, ∀ n ∈ x.1.weights P e, n ≤ reachBytes := fun x hx => weights_all (ds := xs.map (·.1)) (fun n hn => hwt n (by
        show n ∈ DataW.weights P t (.agg (xs.map (·.1)))
        unfold DataW.weights
        rw [hd]
        exact hn)) x.1 (List.mem_map_of_mem hx)
      obtain ⟨φ1, h1, L, r1, r2, r3, r4, r5, r6, r7⟩ := open_partsT (es := P.cellsOf e) (cs := cs) (fun cs x q => open_treeT d m e cs x hk.1 q) xs 0 hwt (by rw [hl, hk.2, hxs, Nat.zero_add]) (fun i hi => by rw [Nat.zero_add]; exact hf i (by omega)) φ h hR hz hro
      rw [Nat.zero_mul, List.drop_zero] at r6
      exact ⟨φ1, h1, L, r1, r2, r3, r4, r5, r6, ⟨by rw [r6.length, hl, hk.2], fun i hi => r7 i (by omega)⟩, r6.length⟩
    · rename_i fs hd
      rw [Bool.and_eq_true] at hk
      obtain ⟨xs, m, rfl, rfl, hl, hxs, hf⟩ := DataW.trod_struct hd ht
      have htile : tilesB P fs.toList 0 = some (P.cellsOf t) := by simpa using hk.2
      have hwt : ∀ (i : Nat) f x, fs.toList[i]? = some f → xs[i]? = some x → ∀ n ∈ x.1.weights P f.type, n ≤ reachBytes := fun i f x h1 h2 => weights_each (ts := fs.toList.map (·.type)) (ds := xs.map (·.1)) (fun n hn => hwt n (by
        show n ∈ DataW.weights P t (.agg (xs.map (·.1)))
        unfold DataW.weights
        rw [hd]
        exact hn)) i f.type x.1 (by rw [List.getElem?_map, h1]; rfl) (by rw [List.getElem?_map, h2]; rfl)
      obtain ⟨φ1, h1, L, r1, r2, r3, r4, r5, r6, r7⟩ := open_fieldsT (cs := cs) fs.toList 0 xs hwt (fun f hf cs x q => open_treeT d m f.type cs x (List.all_eq_true.1 hk.1 f hf) q) (by rw [htile, hl]) (by simpa using hxs) (fun i f hq => hf i f (by simpa using hq)) φ h hR hz hro
      rw [List.drop_zero] at r6
      exact ⟨φ1, h1, L, r1, r2, r3, r4, r5, r6, ⟨by rw [r6.length, hl], fun f hf => (r7 f hf).2⟩, r6.length⟩
    · cases hk
end
theorem qev_loadN (P : Program) {env : T AV} {h : Hp} {n : Nat} {a : Opd} {id : Pos} {g off : Nat} {c : Cells} (ha : ev env a = .ptr id g off) (hc : readN h id g off n = some c) : evalOp P (.loadN n a) env h = .val (.agg c.toL) h := by
  have e : evalOp P (.loadN n a) env h = (match ev env a with
    | .ptr id g off => match readN h id g off n with
      | some c => .val (.agg c.toL) h
      | none => .fail "loadN"
    | _ => .fail "loadN what") := rfl
  rw [e, ha]
  simp only [hc]
end Go.Proofs.YtjhgembcdndmkaaGreatDoor.Am

namespace Go.Proofs.YtjhgembcdndmkaaGreatDoor.Am
open Go.RowKit
section
variable {P : Program} {h : Hp} {d : Nat} {t e : TypeId} {l : List AV}
theorem Tree.of_int {k : IntKind} (hd : P.underlying t = some (.int k)) (a : Tree P h (d + 1) t l) : ∃ n, l = [.int k n] ∧ (Lit.int k n).wf = true := by
  unfold Tree at a; rw [hd] at a; exact a
theorem Tree.of_string (hd : P.underlying t = some .string) (a : Tree P h (d + 1) t l) : ∃ b, l = [strOf b] ∧ b.length ≤ reachBytes := by
  unfold Tree at a; rw [hd] at a; exact a
theorem Tree.of_slice (hd : P.underlying t = some (.slice e)) (a : Tree P h (d + 1) t l) : l = [.nilSl] ∨ (∃ id g off, l = [.sl id g off 0 0 true (P.cellsOf e)]) ∨
    ∃ id n cap L, l = [.sl id 0 0 n cap true (P.cellsOf e)] ∧ n ≤ cap ∧ cap * P.bytesOf e ≤ reachBytes ∧ Fix h id L ∧ L.length = cap * P.cellsOf e ∧ ∀ i, i < cap → Tree P h d e ((L.drop (i * P.cellsOf e)).take (P.cellsOf e)) := by
  unfold Tree at a; rw [hd] at a; exact a
theorem Tree.of_array {n : Nat} (hd : P.underlying t = some (.array n e)) (a : Tree P h (d + 1) t l) : l.length = n * P.cellsOf e ∧ ∀ i, i < n → Tree P h d e ((l.drop (i * P.cellsOf e)).take (P.cellsOf e)) := by
  unfold Tree at a; rw [hd] at a; exact a
theorem Tree.of_struct {fs : Array Field} (hd : P.underlying t = some (.struct fs)) (a : Tree P h (d + 1) t l) : l.length = P.cellsOf t ∧ ∀ f, f ∈ fs.toList → Tree P h d f.type ((l.drop f.offset).take (P.cellsOf f.type)) := by
  unfold Tree at a; rw [hd] at a; exact a
end
end Go.Proofs.YtjhgembcdndmkaaGreatDoor.Am

namespace Go.Proofs.YtjhgembcdndmkaaGreatDoor.Am
open Go.RowKit
inductive SlN (h : Hp) (es : Nat) : AV → Nat → List AV → Prop where
  | nil : SlN h es .nilSl 0 []
  | emp {id : Pos} {g off : Nat} : SlN h es (.sl id g off 0 0 true es) 0 []
  | mk {id : Pos} {g off n cap : Nat} {ex : Bool} {l : List AV} (hn : l.length = n * es) (r : Row h id g off l) : SlN h es (.sl id g off n cap ex es) n l
theorem SlN.length {h : Hp} {es n : Nat} {v : AV} {l : List AV} (r : SlN h es v n l) : l.length = n * es := by
  cases r with
  | nil => simp
  | emp => simp
  | mk hn r => exact hn
theorem appendN_gro (P : Program) {h : Hp} {v : AV} {id : Pos} {g es n n2 : Nat} {l l2 : List AV} {bytes : Nat} (ha : Gro h id g l) (hn : l.length = n * es) (hv : SlN h es v n2 l2) (h0 : n2 ≠ 0) (hes : 0 < es)
    (ok : okSize (n + n2) bytes = true) (hat : ∀ y ∈ l2, y.atom = true) :
    ∃ h', (∀ env s x, ev env s = .sl id g 0 n n false es → ev env x = v → evalOp P (.append es bytes s x) env h = .val (.sl id (g + 1) 0 (n + n2) (n + n2) false es) h') ∧ Gro h' id (g + 1) (l ++ l2) ∧ Only [id] h h' ∧ h'.next = h.next := by
  cases hv with
  | nil => exact absurd rfl h0
  | emp => exact absurd rfl h0
  | mk hn2 r =>
    rename_i id2 g2 off2 cap2 ex2
    obtain ⟨seg, c1, c2, c3⟩ := r.all
    rw [hn2] at c1
    have src : srcCells h es n2 (.sl id2 g2 off2 n2 cap2 ex2 es) = some seg := c1
    have ok : okSize (Nat.add n n2) bytes = true := ok
    obtain ⟨ser, c, hi, m, fz, eb, hw, hcl⟩ := ha.mem
    have hcs : c.size = n * es := by rw [← Cells.toL_length hw, hcl, hn]
    have ats : seg.atoms = true := by
      cases seg with
      | byt n v => rfl
      | lst n L =>
        have : L = l2 := c3
        subst this
        show List.all _ _ = true
        rw [List.all_eq_true]
        exact hat
    obtain ⟨q1, q2, q3⟩ := Cells.sub_spec hw (off := 0) (n := n * es) (by omega)
    obtain ⟨p1, p2, p3⟩ := Cells.app_spec q1 c2
    have hn1 : Nat.ble (Nat.add n n2) n = false := ble_false.2 (show n < n + n2 by omega)
    have ht : Nat.add 0 (Nat.mul n es) = n * es := by show 0 + n * es = _; omega
    refine ⟨⟨T.set id (some (.cells (noteG bytes ser) ((c.sub 0 (n * es)).app seg) 0 (bif Nat.blt m g then (bif Nat.ble hi (n * es) then hi else n * es) else n * es) (Nat.succ g) m false fz)) h.heap, h.next, h.ser, h.lim⟩, fun env s x hs hx => ?_, ⟨ha.old, noteG bytes ser, (c.sub 0 (n * es)).app seg, (bif Nat.blt m g then (bif Nat.ble hi (n * es) then hi else n * es) else n * es), m, fz, ?_, p1, ?_⟩, ⟨Nat.le_refl _, rfl, fun j _ q => ?_⟩, rfl⟩
    · show appendA h es bytes (ev env s) (ev env x) = _
      rw [hs, hx]
      unfold appendA
      simp only [lenA, beq_false.2 h0, cond_false, src]
      unfold appendSeg
      simp only [natK_eq, ok, beq_iff.2 (rfl : es = es), blt_iff.2 hes, Bool.and_true, Bool.and_self, Bool.not_true, cond_false, hn1, eb, ht, beq_iff.2 (rfl : g = g), ble_iff.2 (show n * es ≤ c.size by omega), ats, T.setK_eq,
        show Nat.ble 0 0 = true from rfl, Bool.not_false, cond_true]
      rfl
    · show T.get id (T.set id _ h.heap) = _
      rw [T.get_set, if_pos rfl]
    · rw [p2, q2, c3, List.drop_zero, hcl, ← hn, List.take_length]
    · show T.get j (T.set id _ h.heap) = _
      rw [T.get_set, if_neg (by simpa using q)]
theorem appendN_none (P : Program) {h : Hp} {v w : AV} {es m : Nat} {l l2 : List AV} {bytes : Nat} (hw : SlN h es w m l) (hv : SlN h es v 0 l2) :
    ∀ env s x, ev env s = w → ev env x = v → evalOp P (.append es bytes s x) env h = .val w h := by
  intro env s x hs hx
  show appendA h es bytes (ev env s) (ev env x) = _
  rw [hs, hx]
  have hl0 : lenA v = some 0 := by cases hv <;> rfl
  unfold appendA
  rw [hl0]
  cases hw <;> rfl
end Go.Proofs.YtjhgembcdndmkaaGreatDoor.Am

namespace Go.Proofs.YtjhgembcdndmkaaGreatDoor.Am
open Go.RowKit
noncomputable def byt (b : List UInt8) : List AV := b.map fun x => byteV x.toNat
theorem byt_length (b : List UInt8) : (byt b).length = b.length := List.length_map _
theorem byt_atom (b : List UInt8) : ∀ y ∈ byt b, y.atom = true := fun y hy => by
  obtain ⟨x, _, rfl⟩ := List.mem_map.1 hy
  rfl
theorem byt_inj : ∀ {a b : List UInt8}, byt a = byt b → a = b
  | [], [], _ => rfl
  | [], _ :: _, e => by cases e
  | _ :: _, [], e => by cases e
  | x :: a, y :: b, e => by
    have e : byteV x.toNat :: byt a = byteV y.toNat :: byt b := e
    obtain ⟨e1, e2⟩ := List.cons.inj e
    have e3 : x.toNat = y.toNat := by
      unfold byteV at e1
      injection e1 with _ e1
      exact Int.ofNat.inj e1
    rw [byt_inj e2, UInt8.toNat_inj.1 e3]
theorem packAV_byt : ∀ (b : List UInt8) (n v : Nat), packAV (byt b) n v = some (n + b.length, b.foldl (fun a b => a * 256 + b.toNat) v)
  | [], n, v => rfl
  | x :: b, n, v => by
    have e : packAV (byt (x :: b)) n v = bif Nat.blt x.toNat 256 then packAV (byt b) (n + 1) (v * 256 + x.toNat) else none := rfl
    rw [e, blt_iff.2 x.toNat_lt, cond_true, packAV_byt b, List.length_cons, List.foldl_cons]
    congr 2
    omega
theorem SlN.str {P : Program} {h : Hp} {v : AV} {n : Nat} {b : List UInt8} (r : SlN h 1 v n (byt b)) : ∀ env x, ev env x = v → evalOp P (.bytesStr x) env h = .val (strOf b) h := by
  intro env x hx
  have hn : n = b.length := by have := r.length; rw [byt_length] at this; omega
  have e : evalOp P (.bytesStr x) env h = (match ev env x with
    | .nilSl => .val (.str 0 0) h
    | .sl id g off len _ _ es => bif Nat.beq len 0 then .val (.str 0 0) h else
      bif Nat.beq es 1 then (match readN h id g off len with
      | some (.byt n v) => natK v fun v => .val (.str n v) h
      | some (.lst _ l) => (match packAV l 0 0 with
        | some (n, v) => .val (.str n v) h
        | none => .fail "bytesStr bytes")
      | none => .fail "bytesStr") else .fail "bytesStr size"
    | _ => .fail "bytesStr what") := rfl
  rw [e, hx]
  generalize hq : byt b = q at r
  cases r with
  | nil =>
    have : b = [] := List.length_eq_zero_iff.1 hn.symm
    subst this; rfl
  | emp =>
    have : b = [] := List.length_eq_zero_iff.1 hn.symm
    subst this; rfl
  | mk hl r =>
    by_cases h0 : n = 0
    · subst h0
      have : b = [] := List.length_eq_zero_iff.1 hn.symm
      subst this; rfl
    · obtain ⟨c, c1, c2, c3⟩ := r.all
      rw [hl, Nat.mul_one] at c1
      simp only [beq_false.2 h0, cond_false, show Nat.beq 1 1 = true from rfl, cond_true, c1]
      subst hq
      cases c with
      | byt m u =>
        have hm : m = b.length := by
          have := Cells.toL_length c2
          rw [c3, byt_length] at this
          exact this.symm
        subst hm
        have e2 : bytesL b.length u = byt b := c3
        rw [bytesL_eq] at e2
        have e3 : unpack b.length u = b := byt_inj e2
        have hu : u = pack b := by
          have := pack_unpack b.length u
          rw [e3, Nat.mod_eq_of_lt c2] at this
          exact this.symm
        subst hu
        simp only [natK_eq]
        rfl
      | lst m l =>
        have e2 : l = byt b := c3
        subst e2
        show (match packAV (byt b) 0 0 with
          | some (n, v) => Res.val (.str n v) h
          | none => Res.fail "bytesStr bytes") = _
        rw [packAV_byt]
        show Res.val (.str (0 + b.length) _) h = _
        rw [Nat.zero_add]
        rfl
end Go.Proofs.YtjhgembcdndmkaaGreatDoor.Am

namespace Go.Proofs.YtjhgembcdndmkaaGreatDoor.Am
open Go.RowKit
theorem frOf_fn {P : Program} {f f' : FuncId} {args args' : List AV} {h h' h1 h1' : Hp} {v v' : AV} (a : AmFn P f args h v h') (b : AmFn P f' args' h1 v' h1') (e : frOf P f args = frOf P f' args') : f = f' := by
  rw [← a.begins.2, ← b.begins.2, e]
theorem frOf_env {P : Program} {f : FuncId} {args : List AV} {h h' : Hp} {v : AV} (a : AmFn P f args h v h') : (frOf P f args).env = setArgs .e 0 args := by
  obtain ⟨e, _⟩ := a.begins
  have e0 := e
  unfold beginFn at e
  split at e
  · rename_i fu _
    cases hl : Nat.ble args.length fu.nargs with
    | true => rw [hl] at e; have := Option.some.inj e; rw [← this]
    | false => rw [hl] at e; cases e
  · cases e
theorem eqLs_refl {f : AV → AV → Bool} : ∀ {l : List AV}, (∀ x ∈ l, f x x = true) → eqLs f l l = true
  | [], _ => rfl
  | x :: l, h => by
    unfold eqLs
    rw [h x (by simp), eqLs_refl fun y hy => h y (List.mem_cons_of_mem _ hy)]
    rfl
theorem eqAV_agg (n : Nat) {l : List AV} (h : ∀ x ∈ l, eqAV n x x = true) : eqAV (n + 1) (.agg l) (.agg l) = true := by
  unfold eqAV
  exact eqLs_refl h
end Go.Proofs.YtjhgembcdndmkaaGreatDoor.Am

namespace Go.Proofs.YtjhgembcdndmkaaGreatDoor.Am
open Go.RowKit
theorem byt_toL (b : List UInt8) : (Cells.byt b.length (pack b)).toL = byt b := by
  show bytesL b.length (pack b) = _
  rw [bytesL_eq, unpack_pack]; rfl
end Go.Proofs.YtjhgembcdndmkaaGreatDoor.Am

namespace Go.Proofs.YtjhgembcdndmkaaGreatDoor.Am
open Go.RowKit
theorem pack_append (a b : List UInt8) : pack (a ++ b) = pack a * 256 ^ b.length + pack b := by
  induction a with
  | nil => show pack b = pack [] * _ + _; rw [show pack [] = 0 from rfl]; omega
  | cons x a ih =>
    rw [List.cons_append, pack_cons, ih, pack_cons, List.length_append, Nat.pow_add, Nat.add_mul, Nat.mul_assoc]; omega
theorem byteAt_pack {s : List UInt8} {i : Nat} (hi : i < s.length) : byteAt s.length (pack s) i = s[i].toNat := by
  have h := byteAt_get (s := ⟨s.toArray⟩) (n := s.length) (v := pack s) (by show s = _; rw [unpack_pack]) hi
  rw [← h]
  show (s.toArray[i]!).toNat = _
  rw [getElem!_pos s.toArray i (by simpa using hi)]
  simp
end Go.Proofs.YtjhgembcdndmkaaGreatDoor.Am

namespace Go.Proofs.YtjhgembcdndmkaaGreatDoor.Am
open Go.RowKit
theorem src_str (h : Hp) (b : List UInt8) : ∃ c, srcCells h 1 b.length (strOf b) = some c ∧ c.wf ∧ c.toL = byt b := by
  have hw : (Cells.byt b.length (pack b)).wf := pack_lt b
  obtain ⟨q1, q2, q3⟩ := Cells.sub_spec hw (off := 0) (n := b.length) (by show 0 + b.length ≤ b.length; omega)
  refine ⟨_, ?_, q1, ?_⟩
  · show (bif Nat.beq 1 1 && Nat.ble b.length b.length then some ((Cells.byt b.length (pack b)).sub 0 b.length) else none) = _
    rw [ble_iff.2 (Nat.le_refl _)]
    rfl
  · rw [q2, byt_toL, List.drop_zero, List.take_of_length_le (by rw [byt_length]; omega)]
theorem append_groS (P : Program) {h : Hp} {id : Pos} {g : Nat} {l : List AV} {b : List UInt8} {bytes : Nat} (ha : Gro h id g l) (h0 : b ≠ []) (hl : l.length + b.length ≤ 1073741824) (hb : bytes ≤ 4096) :
    ∃ h', (∀ env s x, ev env s = .sl id g 0 l.length l.length false 1 → ev env x = strOf b → evalOp P (.append 1 bytes s x) env h = .val (.sl id (g + 1) 0 (l.length + b.length) (l.length + b.length) false 1) h') ∧ Gro h' id (g + 1) (l ++ byt b) ∧ Only [id] h h' ∧ h'.next = h.next := by
  have hpos : 0 < b.length := List.length_pos_iff.2 h0
  obtain ⟨seg, src, c2, c3⟩ := src_str h b
  have ok : okSize (Nat.add l.length b.length) bytes = true := okSize_small (show Nat.add l.length b.length ≤ _ from hl) hb
  obtain ⟨ser, c, hi, m, fz, eb, hw, hcl⟩ := ha.mem
  have hcs : c.size = l.length := by rw [← Cells.toL_length hw, hcl]
  have ats : seg.atoms = true := by
    cases seg with
    | byt n v => rfl
    | lst n L =>
      have : L = byt b := c3
      subst this
      show List.all _ _ = true
      rw [List.all_eq_true]
      exact byt_atom b
  obtain ⟨q1, q2, q3⟩ := Cells.sub_spec hw (off := 0) (n := l.length) (by omega)
  obtain ⟨p1, p2, p3⟩ := Cells.app_spec q1 c2
  have hn1 : Nat.ble (Nat.add l.length b.length) l.length = false := ble_false.2 (show l.length < l.length + b.length by omega)
  have ht : Nat.add 0 (Nat.mul l.length 1) = l.length := by show 0 + l.length * 1 = _; omega
  refine ⟨⟨T.set id (some (.cells (noteG bytes ser) ((c.sub 0 l.length).app seg) 0 (bif Nat.blt m g then (bif Nat.ble hi l.length then hi else l.length) else l.length) (Nat.succ g) m false fz)) h.heap, h.next, h.ser, h.lim⟩, fun env s x hs hx => ?_, ⟨ha.old, noteG bytes ser, (c.sub 0 l.length).app seg, (bif Nat.blt m g then (bif Nat.ble hi l.length then hi else l.length) else l.length), m, fz, ?_, p1, ?_⟩, ⟨Nat.le_refl _, rfl, fun j _ q => ?_⟩, rfl⟩
  · show appendA h 1 bytes (ev env s) (ev env x) = _
    rw [hs, hx]
    unfold appendA
    simp only [show lenA (strOf b) = some b.length from rfl, beq_false.2 (show b.length ≠ 0 by omega), cond_false, src]
    unfold appendSeg
    simp only [natK_eq, ok, show Nat.beq 1 1 = true from rfl, show Nat.blt 0 1 = true from rfl, Bool.and_true, Bool.and_self, Bool.not_true, cond_false, hn1, eb, ht, beq_iff.2 (rfl : g = g), ble_iff.2 (show l.length ≤ c.size by omega), ats, T.setK_eq,
      show Nat.ble 0 0 = true from rfl, Bool.not_false, cond_true]
    rfl
  · show T.get id (T.set id _ h.heap) = _
    rw [T.get_set, if_pos rfl]
  · rw [p2, q2, c3, List.drop_zero, hcl, List.take_length]
  · show T.get j (T.set id _ h.heap) = _
    rw [T.get_set, if_neg (by simpa using q)]
end Go.Proofs.YtjhgembcdndmkaaGreatDoor.Am

namespace Go.Proofs.YtjhgembcdndmkaaGreatDoor.Am
open Go.RowKit
noncomputable def rowN (h : Hp) (l : List AV) : Hp := newH h fun _ => .cells 0 (Cells.ofL l) 0 0 0 0 false true
theorem rowN_get {h : Hp} {l : List AV} (id : Pos) : T.get id (rowN h l).heap = if id = h.next then some (.cells 0 (Cells.ofL l) 0 0 0 0 false true) else T.get id h.heap := by
  show T.get id (T.set h.next _ h.heap) = _
  rw [T.get_set]
theorem rowN_gro (h : Hp) (l : List AV) : Gro (rowN h l) h.next 0 l := by
  obtain ⟨q1, q2, _⟩ := Cells.ofL_spec l
  exact ⟨by unfold rowN; rw [newH_next]; omega, 0, _, 0, 0, true, by rw [rowN_get, if_pos rfl], q1, q2⟩
theorem rowN_only (h : Hp) (l : List AV) : Only [] h (rowN h l) := newH_only _ _ _
theorem rowN_next (h : Hp) (l : List AV) : (rowN h l).next = h.next.succ := rfl
theorem thawed_t {fz : Bool} {C : Array Value} {fr : Nat × Nat} (h : Thawed fz C fr) : Thawed true C fr := by
  unfold Thawed at *
  cases fz with
  | true => exact h
  | false => rw [if_neg (by simp)] at h; subst h; rw [if_pos rfl]; exact .inr (Nat.le_refl _)
section
variable {P : Program} {h h' : Hp} {f : FuncId} {args : List AV} {v v2 : AV} {id : Pos} {g : Nat} {L l : List AV}
noncomputable abbrev slN (id : Pos) (n : Nat) (es : Nat) : AV := .sl id 0 0 n n false es
theorem rel_slN {φ ψ : Phi} {id j : Pos} {g n cap es : Nat} {ex : Bool} {x : Value} (h0 : 0 < n ∨ ex = false) (k : ∀ r, φ id g = some r → ψ j 0 = some r) (r : Rel φ (.sl id g 0 n cap ex es) x) : Rel ψ (slN j n es) x := by
  cases r with
  | sl h hb hs hl hc hlc hx ho => exact .sl (k _ h) hb hs hl (by omega) (Nat.le_refl _) (fun q => by cases q) ho
  | sl0 =>
    rcases h0 with h0 | h0
    · omega
    · cases h0
end
end Go.Proofs.YtjhgembcdndmkaaGreatDoor.Am

namespace Go.Proofs.YtjhgembcdndmkaaGreatDoor.Am
open Go.RowKit
noncomputable def adv (b : Pos) : Nat → Pos
  | 0 => b
  | n + 1 => (adv b n).succ
theorem adv_num (b : Pos) : ∀ n, (adv b n).num = b.num + n
  | 0 => rfl
  | n + 1 => by show (adv b n).succ.num = _; rw [Pos.num_succ, adv_num b n]; omega
theorem adv_eq (b : Pos) (m n : Nat) : (adv b m = adv b n) = (m = n) := propext ⟨fun e => by
  have := congrArg Pos.num e
  rw [adv_num, adv_num] at this
  omega, fun e => by rw [e]⟩
structure XB where
  id : Pos
  g : Nat
  own : Bool
  l : List AV
structure XB.Holds (h : Hp) (x : XB) : Prop where
  old : x.id.num < h.next.num
  mem : ∃ ser c hi m ro fz, T.get x.id h.heap = some (.cells ser c 0 hi x.g m ro fz) ∧ c.wf ∧ c.toL = x.l ∧ (x.own = true → ro = false)
theorem XB.Holds.only {S : List Pos} {h h' : Hp} {x : XB} (k : x.Holds h) (o : Only S h h') (hx : x.id ∉ S) : x.Holds h' :=
  ⟨Nat.lt_of_lt_of_le k.old o.next, by rw [o.same _ k.old hx]; exact k.mem⟩
theorem XB.Holds.part {h : Hp} {x : XB} (k : x.Holds h) {off n : Nat} (hn : off + n ≤ x.l.length) : Row h x.id x.g off ((x.l.drop off).take n) := by
  obtain ⟨ser, c, hi, m, ro, fz, e, hw, hl, _⟩ := k.mem
  have hz : c.size = x.l.length := by rw [← Cells.toL_length hw, hl]
  have q := Row.of_block (off := off) (n := n) e hw k.old (Nat.zero_le _) (by omega)
  rw [hl] at q
  exact q
theorem XB.Holds.gro {h : Hp} {x : XB} (k : x.Holds h) (o : x.own = true) : Gro h x.id x.g x.l := by
  obtain ⟨ser, c, hi, m, ro, fz, e, hw, hl, hr⟩ := k.mem
  obtain rfl := hr o
  exact ⟨k.old, ser, c, hi, m, fz, e, hw, hl⟩
theorem XB.Holds.of_gro {h : Hp} {id : Pos} {g : Nat} {l : List AV} (k : Gro h id g l) (o : Bool) : XB.Holds h ⟨id, g, o, l⟩ := by
  obtain ⟨k1, ser, c, hi, m, fz, e, hw, hl⟩ := k
  exact ⟨k1, ser, c, hi, m, false, fz, e, hw, hl, fun _ => rfl⟩
def AllH (X : List XB) (h : Hp) : Prop := ∀ x ∈ X, x.Holds h
def xget : List XB → Pos → Nat → Option (List AV)
  | [], _, _ => none
  | x :: X, id, g => if x.id = id then (if x.g = g then some x.l else none) else xget X id g
theorem xget_mem : ∀ {X : List XB} {id : Pos} {g : Nat} {l : List AV}, xget X id g = some l → ∃ x ∈ X, x.id = id ∧ x.g = g ∧ x.l = l
  | [], _, _, _, e => by cases e
  | x :: X, id, g, l, e => by
    unfold xget at e
    split at e
    · split at e
      · cases e; exact ⟨x, by simp, by assumption, by assumption, rfl⟩
      · cases e
    · obtain ⟨y, h1, h2⟩ := xget_mem e
      exact ⟨y, List.mem_cons_of_mem _ h1, h2⟩
theorem xget_part {X : List XB} {h : Hp} (hX : AllH X h) {id : Pos} {g : Nat} {l : List AV} (e : xget X id g = some l) {off n : Nat} (hn : off + n ≤ l.length) : Row h id g off ((l.drop off).take n) := by
  obtain ⟨x, m, rfl, rfl, rfl⟩ := xget_mem e
  exact (hX x m).part hn
def xcont (X : List XB) : AV → Option (List AV)
  | .nilSl => some []
  | .sl id g off n _ _ es => (xget X id g).bind fun l => if off + n * es ≤ l.length then some ((l.drop off).take (n * es)) else none
  | _ => none
inductive SlC (h : Hp) : AV → List AV → Prop where
  | nil : SlC h .nilSl []
  | mk {id : Pos} {g off n cap es : Nat} {ex : Bool} {L : List AV} (k : XB.Holds h ⟨id, g, false, L⟩) (hn : off + n * es ≤ L.length) : SlC h (.sl id g off n cap ex es) ((L.drop off).take (n * es))
theorem XB.Holds.look {h : Hp} {x : XB} (k : x.Holds h) : XB.Holds h ⟨x.id, x.g, false, x.l⟩ :=
  let ⟨k1, ser, c, hi, m, ro, fz, e, hw, hl, _⟩ := k
  ⟨k1, ser, c, hi, m, ro, fz, e, hw, hl, fun c => by cases c⟩
theorem xcont_ok {X : List XB} {h : Hp} (hX : AllH X h) {v : AV} {l : List AV} (e : xcont X v = some l) : SlC h v l := by
  cases v with
  | nilSl => cases e; exact .nil
  | sl id g off n cap ex es =>
    change ((xget X id g).bind fun l => if off + n * es ≤ l.length then some ((l.drop off).take (n * es)) else none) = _ at e
    cases q : xget X id g with
    | none => rw [q] at e; cases e
    | some L =>
      rw [q, Option.bind_some] at e
      split at e
      · rename_i hn
        cases e
        obtain ⟨x, m, rfl, rfl, rfl⟩ := xget_mem q
        exact .mk (hX x m).look hn
      · cases e
  | _ => cases e
inductive Qy where
  | sl (i : Nat)
  | blk (i : Nat)
  | bsl (i k : Nat)
  | ssl (i k : Nat)
  | own (i : Nat)
  | ownAt (i k : Nat)
  | bslAt (i k j : Nat)
  | osl (i : Nat)
def Whole (h : Hp) (id : Pos) (l : List AV) : Prop := XB.Holds h ⟨id, 0, false, l⟩
theorem Whole.eq {h : Hp} {id : Pos} {l l' : List AV} (a : Whole h id l) (b : Whole h id l') : l = l' := by
  obtain ⟨_, ser, c, hi, m, ro, fz, e, _, hl, _⟩ := a
  obtain ⟨_, ser', c', hi', m', ro', fz', e', _, hl', _⟩ := b
  rw [e] at e'
  cases e'
  exact hl.symm.trans hl'
theorem Holds.eq {h : Hp} {id : Pos} {g : Nat} {o o' : Bool} {l l' : List AV} (a : XB.Holds h ⟨id, g, o, l⟩) (b : XB.Holds h ⟨id, g, o', l'⟩) : l = l' := by
  obtain ⟨_, ser, c, hi, m, ro, fz, e, _, hl, _⟩ := a
  obtain ⟨_, ser', c', hi', m', ro', fz', e', _, hl', _⟩ := b
  rw [e] at e'
  cases e'
  exact hl.symm.trans hl'
theorem SlC.eq {h : Hp} {v : AV} {l l' : List AV} (a : SlC h v l) (b : SlC h v l') : l = l' := by
  cases a with
  | nil => cases b; rfl
  | mk k hn => cases b with
    | mk k' hn' => rw [Holds.eq k k']
def ContQ (h : Hp) (args : List AV) : Qy → List AV → Prop
  | .sl i, l => ∃ v, args[i]? = some v ∧ SlC h v l
  | .blk i, l => ∃ id, args[i]? = some (.ptr id 0 0) ∧ Whole h id l
  | .bsl i k, l => ∃ id L v, args[i]? = some (.ptr id 0 0) ∧ Whole h id L ∧ L[k]? = some v ∧ SlC h v l
  | .ssl i k, l => ∃ u L v, args[i]? = some u ∧ SlC h u L ∧ L[k]? = some v ∧ SlC h v l
  | .own i, l => ∃ id, args[i]? = some (.ptr id 0 0) ∧ XB.Holds h ⟨id, 0, true, l⟩
  | .ownAt i k, l => ∃ id L p, args[i]? = some (.ptr id 0 0) ∧ Whole h id L ∧ L[k]? = some (.ptr p 0 0) ∧ XB.Holds h ⟨p, 0, true, l⟩
  | .bslAt i k j, l => ∃ id L p M v, args[i]? = some (.ptr id 0 0) ∧ Whole h id L ∧ L[k]? = some (.ptr p 0 0) ∧ Whole h p M ∧ M[j]? = some v ∧ SlC h v l
  | .osl i, l => ∃ id off n cap ex es, args[i]? = some (.sl id 0 off n cap ex es) ∧ XB.Holds h ⟨id, 0, true, l⟩
theorem ContQ.eq {h : Hp} {args : List AV} {q : Qy} {l l' : List AV} (a : ContQ h args q l) (b : ContQ h args q l') : l = l' := by
  cases q with
  | sl i =>
    obtain ⟨v, e, r⟩ := a
    obtain ⟨v', e', r'⟩ := b
    rw [e] at e'; cases e'
    exact r.eq r'
  | blk i =>
    obtain ⟨id, e, r⟩ := a
    obtain ⟨id', e', r'⟩ := b
    rw [e] at e'; cases e'
    exact r.eq r'
  | bsl i k =>
    obtain ⟨id, L, v, e, r, w, s⟩ := a
    obtain ⟨id', L', v', e', r', w', s'⟩ := b
    rw [e] at e'; cases e'
    cases r.eq r'
    rw [w] at w'; cases w'
    exact s.eq s'
  | ssl i k =>
    obtain ⟨u, L, v, e, r, w, s⟩ := a
    obtain ⟨u', L', v', e', r', w', s'⟩ := b
    rw [e] at e'; cases e'
    cases r.eq r'
    rw [w] at w'; cases w'
    exact s.eq s'
  | own i =>
    obtain ⟨id, e, r⟩ := a
    obtain ⟨id', e', r'⟩ := b
    rw [e] at e'; cases e'
    exact Holds.eq r r'
  | ownAt i k =>
    obtain ⟨id, L, p, e, r, w, s⟩ := a
    obtain ⟨id', L', p', e', r', w', s'⟩ := b
    rw [e] at e'; cases e'
    cases r.eq r'
    rw [w] at w'; cases w'
    exact Holds.eq s s'
  | bslAt i k j =>
    obtain ⟨id, L, p, M, v, e, r, w, m, q, s⟩ := a
    obtain ⟨id', L', p', M', v', e', r', w', m', q', s'⟩ := b
    rw [e] at e'; cases e'
    cases r.eq r'
    rw [w] at w'; cases w'
    cases m.eq m'
    rw [q] at q'; cases q'
    exact s.eq s'
  | osl i =>
    obtain ⟨id, off, n, cap, ex, es, e, r⟩ := a
    obtain ⟨id', off', n', cap', ex', es', e', r'⟩ := b
    rw [e] at e'; cases e'
    exact Holds.eq r r'
def Conts (h : Hp) (args : List AV) : List Qy → List (List AV) → Prop
  | [], cs => cs = []
  | q :: qs, cs => ∃ c r, cs = c :: r ∧ ContQ h args q c ∧ Conts h args qs r
theorem Conts.eq {h : Hp} {args : List AV} : ∀ {qs : List Qy} {cs cs' : List (List AV)}, Conts h args qs cs → Conts h args qs cs' → cs = cs'
  | [], _, _, a, b => by rw [show _ = [] from a, show _ = [] from b]
  | _ :: qs, _, _, ⟨_, _, e, a, t⟩, ⟨_, _, e', a', t'⟩ => by subst e e'; rw [a.eq a', Conts.eq t t']
def xwhole : List XB → Pos → Option (List AV)
  | [], _ => none
  | x :: X, id => if x.id = id then (if x.g = 0 then some x.l else none) else xwhole X id
theorem xwhole_ok {X : List XB} {h : Hp} (hX : AllH X h) : ∀ {id : Pos} {l : List AV}, xwhole X id = some l → Whole h id l := by
  induction X with
  | nil => intro id l e; cases e
  | cons x X ih =>
    intro id l e
    unfold xwhole at e
    split at e
    · rename_i c
      split at e
      · rename_i c0
        cases e
        obtain ⟨k1, ser, cc, hi, m, ro, fz, q, hw, hl, _⟩ := hX x (by simp)
        subst c
        exact ⟨k1, ser, cc, hi, m, ro, fz, by rw [c0] at q; exact q, hw, hl, fun c => by cases c⟩
      · cases e
    · exact ih (fun y hy => hX y (List.mem_cons_of_mem _ hy)) e
def xmine : List XB → Pos → Option (List AV)
  | [], _ => none
  | x :: X, id => if x.id = id then (if x.g = 0 ∧ x.own = true then some x.l else none) else xmine X id
theorem xmine_ok {X : List XB} {h : Hp} (hX : AllH X h) : ∀ {id : Pos} {l : List AV}, xmine X id = some l → XB.Holds h ⟨id, 0, true, l⟩ := by
  induction X with
  | nil => intro id l e; cases e
  | cons x X ih =>
    intro id l e
    unfold xmine at e
    split at e
    · rename_i c
      split at e
      · rename_i c0
        cases e
        obtain ⟨k1, ser, cc, hi, m, ro, fz, q, hw, hl, hr⟩ := hX x (by simp)
        subst c
        exact ⟨k1, ser, cc, hi, m, ro, fz, by rw [c0.1] at q; exact q, hw, hl, fun _ => hr c0.2⟩
      · cases e
    · exact ih (fun y hy => hX y (List.mem_cons_of_mem _ hy)) e
def xq (X : List XB) (args : List AV) : Qy → Option (List AV)
  | .sl i => (args[i]?).bind (xcont X)
  | .blk i => match args[i]? with
    | some (.ptr id 0 0) => xwhole X id
    | _ => none
  | .bsl i k => match args[i]? with
    | some (.ptr id 0 0) => (xwhole X id).bind fun L => (L[k]?).bind (xcont X)
    | _ => none
  | .ssl i k => (args[i]?).bind fun u => (xcont X u).bind fun L => (L[k]?).bind (xcont X)
  | .own i => match args[i]? with
    | some (.ptr id 0 0) => xmine X id
    | _ => none
  | .ownAt i k => match args[i]? with
    | some (.ptr id 0 0) => (xwhole X id).bind fun L => match L[k]? with
      | some (.ptr p 0 0) => xmine X p
      | _ => none
    | _ => none
  | .bslAt i k j => match args[i]? with
    | some (.ptr id 0 0) => (xwhole X id).bind fun L => match L[k]? with
      | some (.ptr p 0 0) => (xwhole X p).bind fun M => (M[j]?).bind (xcont X)
      | _ => none
    | _ => none
  | .osl i => match args[i]? with
    | some (.sl id 0 _ _ _ _ _) => xmine X id
    | _ => none
theorem xq_ok {X : List XB} {h : Hp} (hX : AllH X h) {args : List AV} {q : Qy} {l : List AV} (e : xq X args q = some l) : ContQ h args q l := by
  cases q with
  | sl i =>
    change (args[i]?).bind (xcont X) = _ at e
    cases q : args[i]? with
    | none => rw [q] at e; cases e
    | some v =>
      rw [q, Option.bind_some] at e
      exact ⟨v, q, xcont_ok hX e⟩
  | blk i =>
    change (match args[i]? with | some (.ptr id 0 0) => xwhole X id | _ => none) = _ at e
    split at e
    · rename_i id q
      exact ⟨id, q, xwhole_ok hX e⟩
    · cases e
  | bsl i k =>
    change (match args[i]? with | some (.ptr id 0 0) => (xwhole X id).bind fun L => (L[k]?).bind (xcont X) | _ => none) = _ at e
    split at e
    · rename_i id q
      cases w : xwhole X id with
      | none => rw [w] at e; cases e
      | some L =>
        rw [w, Option.bind_some] at e
        cases u : L[k]? with
        | none => rw [u] at e; cases e
        | some v =>
          rw [u, Option.bind_some] at e
          exact ⟨id, L, v, q, xwhole_ok hX w, u, xcont_ok hX e⟩
    · cases e
  | ssl i k =>
    change ((args[i]?).bind fun u => (xcont X u).bind fun L => (L[k]?).bind (xcont X)) = _ at e
    cases q : args[i]? with
    | none => rw [q] at e; cases e
    | some u =>
      rw [q, Option.bind_some] at e
      cases w : xcont X u with
      | none => rw [w] at e; cases e
      | some L =>
        rw [w, Option.bind_some] at e
        cases z : L[k]? with
        | none => rw [z] at e; cases e
        | some v =>
          rw [z, Option.bind_some] at e
          exact ⟨u, L, v, q, xcont_ok hX w, z, xcont_ok hX e⟩
  | own i =>
    change (match args[i]? with | some (.ptr id 0 0) => xmine X id | _ => none) = _ at e
    split at e
    · rename_i id q; exact ⟨id, q, xmine_ok hX e⟩
    · cases e
  | ownAt i k =>
    change (match args[i]? with | some (.ptr id 0 0) => (xwhole X id).bind fun L => (match L[k]? with | some (.ptr p 0 0) => xmine X p | _ => none) | _ => none) = _ at e
    split at e
    · rename_i id q
      obtain ⟨L, w, e⟩ := Option.bind_eq_some_iff.1 e
      split at e
      · rename_i p w'
        exact ⟨id, L, p, q, xwhole_ok hX w, w', xmine_ok hX e⟩
      · cases e
    · cases e
  | osl i =>
    change (match args[i]? with | some (.sl id 0 _ _ _ _ _) => xmine X id | _ => none) = _ at e
    split at e
    · rename_i id off n cap ex es q; exact ⟨id, off, n, cap, ex, es, q, xmine_ok hX e⟩
    · cases e
  | bslAt i k j =>
    change (match args[i]? with | some (.ptr id 0 0) => (xwhole X id).bind fun L => (match L[k]? with | some (.ptr p 0 0) => (xwhole X p).bind fun M => (M[j]?).bind (xcont X) | _ => none) | _ => none) = _ at e
    split at e
    · rename_i id q
      obtain ⟨L, w, e⟩ := Option.bind_eq_some_iff.1 e
      split at e
      · rename_i p w'
        obtain ⟨M, m, e⟩ := Option.bind_eq_some_iff.1 e
        obtain ⟨v, z, e⟩ := Option.bind_eq_some_iff.1 e
        exact ⟨id, L, p, M, v, q, xwhole_ok hX w, w', xwhole_ok hX m, z, xcont_ok hX e⟩
      · cases e
    · cases e
def xqs (X : List XB) (args : List AV) : List Qy → Option (List (List AV))
  | [] => some []
  | q :: qs => (xq X args q).bind fun c => (xqs X args qs).map fun r => c :: r
theorem xqs_ok {X : List XB} {h : Hp} (hX : AllH X h) {args : List AV} : ∀ {qs : List Qy} {cs : List (List AV)}, xqs X args qs = some cs → Conts h args qs cs
  | [], cs, e => by cases e; exact rfl
  | q :: qs, cs, e => by
    unfold xqs at e
    cases c : xq X args q with
    | none => rw [c] at e; cases e
    | some l =>
      rw [c, Option.bind_some] at e
      cases d : xqs X args qs with
      | none => rw [d] at e; cases e
      | some r => rw [d] at e; cases e; exact ⟨l, r, rfl, xq_ok hX c, xqs_ok hX d⟩
def KitH (P : Program) (f : FuncId) (args : List AV) (h : Hp) (v : AV) (h' : Hp) : Prop :=
  ∀ (φ : Phi) (w : World) (xs : Array Value), HR P φ h w → h.lim = 0 → RelL φ args xs.toList → Calls P f xs w fun e w' => ∃ φ' x, e = .returned x ∧ Rel φ' v x ∧ HR P φ' h' w' ∧ Adv h w φ h' w' φ'
theorem AmFn.kitH {P : Program} {f : FuncId} {args : List AV} {h h' : Hp} {v : AV} (a : AmFn P f args h v h') : KitH P f args h v h' := fun _ _ _ hR hz hx => a.calls hR hz hx
theorem KitFn.kitH {P : Program} {f : FuncId} {args : List AV} {h : Hp} {v : AV} (a : KitFn P f args h v) : KitH P f args h v h := fun φ w xs hR _ hx =>
  (a φ w xs hR hx).mono fun e w' ⟨x, he, hv, hb⟩ => ⟨φ, x, he, hv, hR.grown hb.size fun b hb' => hb.block b hb', Adv.grown hb.os hb.output hb.tape hb.size fun b hb' => hb.block b hb'⟩
theorem leads_kitH {P : Program} {h h' : Hp} {cx : Cx} {k : List Item} {env : T AV} {o : O} {rest : List O} {f : FuncId} {args : List AV} {v : AV} (ho : o.ok = true) (hw : wantedA o env = true) (he : evalOp P o.op env h = .enter f args h) (hf : KitH P f args h v h') :
    Leads P (sOf cx (.ops (o :: rest) :: k) env h) (sOf cx (.ops rest :: k) (setD env o.dst v) h') := by
  intro r q φ w g cs c0 hR hz hF hC
  obtain ⟨xs, hx, hst⟩ := ops_enter hR hz hF ho hw he
  obtain ⟨e, w', fr, ⟨φ', x, rfl, hv, hR', hA⟩, hc, _, hl⟩ := hf φ w xs hR hz hx (g :: (cs ++ c0))
  have st : Steps P (lone g (cs ++ c0) w) (lone (g.finish x) (cs ++ c0) w') :=
    (Steps.one (hst _)).trans ((show Steps P _ _ from hc).trans (.one (step_leave_returned hl)))
  have hg := give_head (fun fr => Out.next ⟨fr, cx.callers, h'⟩) (fn := cx.fn) (env := env) (rest := rest) (k := k) (defers := cx.defers) (dk := cx.dk) (round := cx.round) (v := v) ho
  rcases give_run (fun fr => Out.next ⟨fr, cx.callers, h'⟩) (hF.mono hA.le) hv with ⟨why, e⟩ | ⟨fr', e, e1, e2, e3⟩
  · exact absurd (hg.symm.trans e) (by intro q; cases q)
  · have hfr := hg.symm.trans e
    cases hfr
    exact OutR.then (s' := sOf cx (.ops rest :: k) (setD env o.dst v) h') hR hz st hA (by cases hcs : cx.callers <;> simp [bot, sOf, hcs, List.getLast?_cons]) (by cases hcs : cx.callers <;> simp [bot, sOf, hcs, List.getLast?_cons]) (q φ' w' (g.finish x) cs c0 hR' (hA.lim.trans hz) e1 (hC.mono hA.le))
noncomputable def updH (h : Hp) (id : Pos) (l : List AV) : Hp := ⟨T.set id (some (.cells 0 (Cells.ofL l) 0 0 0 0 false true)) h.heap, h.next, h.ser, h.lim⟩
theorem updH_get {h : Hp} {id : Pos} {l : List AV} (j : Pos) : T.get j (updH h id l).heap = if j = id then some (.cells 0 (Cells.ofL l) 0 0 0 0 false true) else T.get j h.heap := T.get_set ..
theorem updH_gro {h : Hp} {id : Pos} {l : List AV} (hid : id.num < h.next.num) : Gro (updH h id l) id 0 l := by
  obtain ⟨w1, w2, w3⟩ := Cells.ofL_spec l
  exact ⟨hid, 0, _, 0, 0, true, by rw [updH_get, if_pos rfl], w1, w2⟩
noncomputable def updsH (h : Hp) : List (Pos × List AV) → Hp
  | [] => h
  | x :: u => updH (updsH h u) x.1 x.2
theorem updsH_next (h : Hp) : ∀ u, (updsH h u).next = h.next
  | [] => rfl
  | _ :: u => updsH_next h u
theorem updsH_lim (h : Hp) : ∀ u, (updsH h u).lim = h.lim
  | [] => rfl
  | _ :: u => updsH_lim h u
theorem updsH_get {h : Hp} (j : Pos) : ∀ u : List (Pos × List AV), (∃ x ∈ u, x.1 = j ∧ T.get j (updsH h u).heap = some (.cells 0 (Cells.ofL x.2) 0 0 0 0 false true)) ∨ (j ∉ u.map (·.1) ∧ T.get j (updsH h u).heap = T.get j h.heap)
  | [] => .inr ⟨by simp, rfl⟩
  | x :: u => by
    by_cases c : j = x.1
    · exact .inl ⟨x, by simp, c.symm, by show T.get j (updH (updsH h u) x.1 x.2).heap = _; rw [updH_get, if_pos c]⟩
    · have e : T.get j (updsH h (x :: u)).heap = T.get j (updsH h u).heap := by show T.get j (updH (updsH h u) x.1 x.2).heap = _; rw [updH_get, if_neg c]
      rcases updsH_get j u with ⟨y, m, e1, e2⟩ | ⟨e1, e2⟩
      · exact .inl ⟨y, List.mem_cons_of_mem _ m, e1, e.trans e2⟩
      · exact .inr ⟨by simpa [c] using e1, e.trans e2⟩
theorem updH_only (h : Hp) (id : Pos) (l : List AV) : Only [id] h (updH h id l) := ⟨Nat.le_refl _, rfl, fun j _ q => by rw [updH_get, if_neg (by simpa using q)]⟩
noncomputable def rowsN (h : Hp) : List (List AV) → Hp
  | [] => h
  | l :: ls => rowsN (rowN h l) ls
theorem rowsN_next : ∀ (ls : List (List AV)) (h : Hp), (rowsN h ls).next = adv h.next ls.length
  | [], _ => rfl
  | l :: ls, h => by
    show (rowsN (rowN h l) ls).next = _
    rw [rowsN_next ls, rowN_next, List.length_cons]
    have : ∀ n, adv h.next.succ n = adv h.next (n + 1) := fun n => by
      induction n with
      | zero => rfl
      | succ n ih => show (adv h.next.succ n).succ = (adv h.next (n + 1)).succ; rw [ih]
    exact this _
theorem rowsN_lim : ∀ (ls : List (List AV)) (h : Hp), (rowsN h ls).lim = h.lim
  | [], _ => rfl
  | l :: ls, h => (rowsN_lim ls (rowN h l)).trans rfl
theorem adv_succ (b : Pos) : ∀ n, adv b.succ n = adv b (n + 1)
  | 0 => rfl
  | n + 1 => by show (adv b.succ n).succ = (adv b (n + 1)).succ; rw [adv_succ b n]
theorem rowsN_get (j : Pos) : ∀ (ls : List (List AV)) (h : Hp), (∃ i, ∃ hi : i < ls.length, j = adv h.next i ∧ T.get j (rowsN h ls).heap = some (.cells 0 (Cells.ofL ls[i]) 0 0 0 0 false true)) ∨ ((∀ i, i < ls.length → j ≠ adv h.next i) ∧ T.get j (rowsN h ls).heap = T.get j h.heap)
  | [], _ => .inr ⟨(fun i hi => absurd hi (Nat.not_lt_zero i)), rfl⟩
  | l :: ls, h => by
    rcases rowsN_get j ls (rowN h l) with ⟨i, hi, e1, e2⟩ | ⟨e1, e2⟩
    · exact .inl ⟨i + 1, by simpa using hi, by rw [e1, rowN_next, adv_succ], e2⟩
    · by_cases c : j = h.next
      · exact .inl ⟨0, by simp, c, by show T.get j (rowsN (rowN h l) ls).heap = _; rw [e2, rowN_get, if_pos c]; rfl⟩
      · refine .inr ⟨fun i hi => ?_, by show T.get j (rowsN (rowN h l) ls).heap = _; rw [e2, rowN_get, if_neg c]⟩
        cases i with
        | zero => exact c
        | succ i =>
          have := e1 i (by simpa using hi)
          rw [rowN_next, adv_succ] at this
          exact this
def atP (u : List (Pos × (Pos → List AV))) (p : Pos) : List (Pos × List AV) := u.map fun x => (x.1, x.2 p)
theorem atP_ids (u : List (Pos × (Pos → List AV))) (p : Pos) : (atP u p).map (·.1) = u.map (·.1) := by unfold atP; rw [List.map_map]; rfl
theorem atP_all (u : List (Pos × (Pos → List AV))) (p q : Pos) (f : Pos → Bool) : ((atP u p).all fun x => f x.1) = (atP u q).all fun x => f x.1 := by unfold atP; rw [List.all_map, List.all_map]; rfl
inductive XR where
  | plain (v : AV)
  | row (l : List AV) (v : Pos → AV)
  | blind (v : Pos → AV)
  | upd (u : List (Pos × List AV)) (v : AV)
  | updRow (u : List (Pos × List AV)) (row : List AV) (v : Pos → AV)
  | outs (u : List (Pos × (Pos → List AV))) (rows : Pos → List (List AV)) (v : Pos → AV)
def XR.calm : XR → Bool
  | .plain _ | .row _ _ | .blind _ => true
  | _ => false
noncomputable def XR.res (r : XR) (h : Hp) : AV × Hp := match r with
  | .plain v => (v, h)
  | .row l v => (v h.next, rowN h l)
  | .blind v => (v h.next, ⟨h.heap, h.next.succ, h.ser, h.lim⟩)
  | .upd u v => (v, updsH h u)
  | .updRow u c v => (v h.next, rowN (updsH h u) c)
  | .outs u rows v => (v h.next, rowsN (updsH h (atP u h.next)) (rows h.next))
structure Ent where
  f : FuncId
  np : Nat
  qs : List Qy
  spec : List AV → List (List AV) → Option XR
def EntOK (P : Program) (G : Hp → Prop) (e : Ent) : Prop :=
  okCall P e.f = true ∧ ∀ args cs r h, G h → args.length = e.np → e.spec args cs = some r → Conts h args e.qs cs → AmFn P e.f args h (r.res h).1 (r.res h).2
def EntK (P : Program) (G : Hp → Prop) (e : Ent) : Prop :=
  okCall P e.f = true ∧ ∀ args cs r h, G h → args.length = e.np → e.spec args cs = some r → Conts h args e.qs cs → KitH P e.f args h (r.res h).1 (r.res h).2
theorem EntOK.entK {P : Program} {G : Hp → Prop} {e : Ent} (a : EntOK P G e) : EntK P G e := ⟨a.1, fun args cs r h g n q c => (a.2 args cs r h g n q c).kitH⟩
def tget : List Ent → FuncId → Option Ent
  | [], _ => none
  | e :: T, f => if e.f = f then some e else tget T f
theorem tget_mem : ∀ {T : List Ent} {f : FuncId} {e : Ent}, tget T f = some e → e ∈ T ∧ e.f = f
  | [], _, _, q => by cases q
  | x :: T, f, e, q => by
    unfold tget at q
    split at q
    · cases q; exact ⟨by simp, by assumption⟩
    · obtain ⟨h1, h2⟩ := tget_mem q; exact ⟨List.mem_cons_of_mem _ h1, h2⟩
def TabFn (G : Hp → Prop) (T : List Ent) (f : FuncId) (args : List AV) (h : Hp) (v : AV) (h' : Hp) : Prop :=
  G h ∧ ∃ e cs r, tget T f = some e ∧ args.length = e.np ∧ e.spec args cs = some r ∧ Conts h args e.qs cs ∧ r.res h = (v, h')
section
variable {P : Program} {G : Hp → Prop} {T : List Ent}
theorem TabFn.fn (hT : ∀ e ∈ T, EntOK P G e) {f : FuncId} {args : List AV} {h h' : Hp} {v : AV} (t : TabFn G T f args h v h') : AmFn P f args h v h' := by
  obtain ⟨q0, e, cs, r, q1, q2, q3, q4, q5⟩ := t
  obtain ⟨m, rfl⟩ := tget_mem q1
  have := (hT e m).2 args cs r h q0 q2 q3 q4
  rw [q5] at this
  exact this
theorem TabFn.kit (hT : ∀ e ∈ T, EntK P G e) {f : FuncId} {args : List AV} {h h' : Hp} {v : AV} (t : TabFn G T f args h v h') : KitH P f args h v h' := by
  obtain ⟨q0, e, cs, r, q1, q2, q3, q4, q5⟩ := t
  obtain ⟨m, rfl⟩ := tget_mem q1
  have := (hT e m).2 args cs r h q0 q2 q3 q4
  rw [q5] at this
  exact this
theorem TabFn.eq {f : FuncId} {args : List AV} {h h1 h2 : Hp} {v1 v2 : AV} (a : TabFn G T f args h v1 h1) (b : TabFn G T f args h v2 h2) : v1 = v2 ∧ h1 = h2 := by
  obtain ⟨_, e, cs, r, q1, q2, q3, q4, q5⟩ := a
  obtain ⟨_, e', cs', r', p1, p2, p3, p4, p5⟩ := b
  rw [q1] at p1; cases p1
  cases q4.eq p4
  rw [q3] at p3; cases p3
  rw [q5] at p5; cases p5
  exact ⟨rfl, rfl⟩
theorem setArgs_inj {xs ys : List AV} (hl : xs.length = ys.length) (e : setArgs .e 0 xs = setArgs .e 0 ys) : xs = ys := by
  apply List.ext_getElem hl fun i h1 h2 => ?_
  have a := sv_args xs 0 i .e
  have b := sv_args ys 0 i .e
  rw [dif_pos ⟨Nat.zero_le _, by omega⟩] at a b
  rw [e, b] at a
  simpa using a.symm
theorem TabFn.frame (hT : ∀ e ∈ T, EntOK P G e) {f f' : FuncId} {args args' : List AV} {h h' h1 : Hp} {v v1 : AV} (a : TabFn G T f args h v h') (b : TabFn G T f' args' h v1 h1) (e : frOf P f args = frOf P f' args') : v = v1 ∧ h' = h1 := by
  have A := a.fn hT
  have B := b.fn hT
  cases frOf_fn A B e
  have env : setArgs .e 0 args = setArgs .e 0 args' := by rw [← frOf_env A, ← frOf_env B, e]
  obtain ⟨_, x, _, _, q1, q2, _⟩ := id a
  obtain ⟨_, y, _, _, p1, p2, _⟩ := id b
  rw [q1] at p1; cases p1
  cases setArgs_inj (q2.trans p2.symm) env
  exact a.eq b
open Classical in
noncomputable def recT (P : Program) (G : Hp → Prop) (T : List Ent) (s : St) : Out :=
  if q : ∃ p : AV × Hp, ∃ f args, TabFn G T f args s.hp p.1 p.2 ∧ s = ⟨frOf P f args, [], s.hp⟩ then .done q.choose.1 q.choose.2 else .fail ""
theorem recT_sound (hT : ∀ e ∈ T, EntOK P G e) : Sound P (recT P G T) := fun s φ w g c0 hs hR hz hF => by
  unfold recT
  split
  · rename_i q
    obtain ⟨f, args, t, e⟩ := q.choose_spec
    have key : ∀ p : AV × Hp, TabFn G T f args s.hp p.1 p.2 → Ans P s (.done p.1 p.2) := fun p t => by
      obtain ⟨fr, e1, an⟩ := (t.fn hT).ans
      have e2 : fr = frOf P f args := by have := (t.fn hT).begins.1; rw [e1] at this; exact Option.some.inj this
      subst e2
      rw [← e] at an
      exact an
    exact key _ t φ w g [] c0 hR hz hF (by rw [hs]; exact .nil)
  · trivial
theorem recT_hit (hT : ∀ e ∈ T, EntOK P G e) {f : FuncId} {args : List AV} {h h' : Hp} {v : AV} (t : TabFn G T f args h v h') : recT P G T ⟨frOf P f args, [], h⟩ = .done v h' := by
  unfold recT
  have q : ∃ p : AV × Hp, ∃ f' args', TabFn G T f' args' h p.1 p.2 ∧ (⟨frOf P f args, [], h⟩ : St) = ⟨frOf P f' args', [], h⟩ := ⟨(v, h'), f, args, t, rfl⟩
  rw [dif_pos q]
  obtain ⟨f', args', t', e⟩ := q.choose_spec
  obtain ⟨k1, k2⟩ := t.frame hT t' (congrArg St.cur e)
  rw [← k1, ← k2]
end
end Go.Proofs.YtjhgembcdndmkaaGreatDoor.Am
