import Derived.ChangeArms
import Derived.Test.YtmifpiglcphmoaaAmJ
/- THE ABSTRACT MACHINE, part K: a machine over values without block numbers, run by the kernel, and the proof that the model's machine does what it does. No condition. -/
set_option linter.unusedSimpArgs false
set_option linter.unusedVariables false
namespace Go.Proofs.Ytmifpiglcphmoaa.Am
open Go.RowKit

/-- What a list of things to do does. -/
def DosL (P : Program) (F : FuncId) (l : List Item) (env : T AV) (h : Hp) (o : Sg) (M : List AD) (env' : T AV) (h' : Hp) : Prop :=
  ∀ (cx : Cx) (k : List Item), M = [] ∨ (cx.round = none ∧ cx.fn = F) → match o with
    | .go => Leads P (sOf cx (l ++ k) env h) (sOf (cx.add M) k env' h')
    | .exit i => ∃ k', exitA i k' = exitA i k ∧ Leads P (sOf cx (l ++ k) env h) (sOf (cx.add M) (.code (.exit i) :: k') env' h')
    | .ret => ∃ k', Leads P (sOf cx (l ++ k) env h) (sOf (cx.add M) (.code .ret :: k') env' h')

section
variable {P : Program} {F : FuncId} {env env' env1 env2 : T AV} {h h' h1 h2 : Hp} {a b c c' : C} {o : Sg} {M M1 : List AD} {l l' : List Item}

theorem DosL.dos (d : DosL P F [.code c] env h o M env' h') : Dos P F c env h o M env' h' := d
theorem Dos.one (d : Dos P F c env h o M env' h') : DosL P F [.code c] env h o M env' h' := d
theorem DosL.nil : DosL P F [] env h .go [] env h := fun _ _ _ => .refl _

theorem DosL.after (hl : ∀ cx k, M1 = [] ∨ (cx.round = none ∧ cx.fn = F) → Leads P (sOf cx (l ++ k) env h) (sOf (cx.add M1) (l' ++ k) env1 h1)) (d : DosL P F l' env1 h1 o M env' h') : DosL P F l env h o (M ++ M1) env' h' := by
  intro cx k hr
  have hr1 : M1 = [] ∨ (cx.round = none ∧ cx.fn = F) := hr.imp (fun e => (List.append_eq_nil_iff.1 e).2) id
  have hr2 : M = [] ∨ ((cx.add M1).round = none ∧ (cx.add M1).fn = F) := hr.imp (fun e => (List.append_eq_nil_iff.1 e).1) id
  have q := d (cx.add M1) k hr2
  have l1 := hl cx k hr1
  cases o with
  | go => have q := l1.trans q; rw [add_add] at q; exact q
  | exit i =>
    obtain ⟨k', e, q⟩ := q
    have q := l1.trans q
    rw [add_add] at q
    exact ⟨k', e, q⟩
  | ret =>
    obtain ⟨k', q⟩ := q
    have q := l1.trans q
    rw [add_add] at q
    exact ⟨k', q⟩

theorem exitA_app {i : Nat} : ∀ {l l' : List Item}, exitA i l = some l' → ∀ k, exitA i (l ++ k) = some (l' ++ k)
  | [], _, e, _ => by cases e
  | x :: l, l', e, k => by
    cases x with
    | inBlock j =>
      have e : (bif Nat.beq j i then some l else exitA i l) = some l' := e
      show (bif Nat.beq j i then some (l ++ k) else exitA i (l ++ k)) = _
      cases hb : Nat.beq j i with
      | true => rw [hb] at e; cases e; rfl
      | false => rw [hb] at e; exact exitA_app e k
    | _ => exact exitA_app (l := l) e k

theorem exitA_none {i : Nat} : ∀ {l : List Item}, exitA i l = none → ∀ k, exitA i (l ++ k) = exitA i k
  | [], _, _ => rfl
  | x :: l, e, k => by
    cases x with
    | inBlock j =>
      have e : (bif Nat.beq j i then some l else exitA i l) = none := e
      show (bif Nat.beq j i then some (l ++ k) else exitA i (l ++ k)) = _
      cases hb : Nat.beq j i with
      | true => rw [hb] at e; cases e
      | false => rw [hb] at e; exact exitA_none e k
    | _ => exact exitA_none (l := l) e k

/-- The first thing goes on. -/
theorem DosL.more (d : Dos P F c env h .go M1 env1 h1) (r : DosL P F l env1 h1 o M env' h') : DosL P F (.code c :: l) env h o (M ++ M1) env' h' :=
  .after (l' := l) (fun cx k hr => d cx (l ++ k) hr) r

/-- The first thing leaves a block. -/
theorem DosL.leave {i : Nat} (d : Dos P F c env h (.exit i) M1 env1 h1) (e : exitA i l = some l') (r : DosL P F l' env1 h1 o M env' h') : DosL P F (.code c :: l) env h o (M ++ M1) env' h' :=
  .after (l' := l') (fun cx k hr => by
    obtain ⟨k', ek, q⟩ := d cx (l ++ k) hr
    exact q.trans (leads_exit (ek.trans (exitA_app e k)))) r

/-- The first thing leaves the whole list. -/
theorem DosL.out {i : Nat} (d : Dos P F c env h (.exit i) M env' h') (hl : exitA i l = none) : DosL P F (.code c :: l) env h (.exit i) M env' h' := fun cx k hr => by
  obtain ⟨k', ek, q⟩ := d cx (l ++ k) hr
  exact ⟨k', ek.trans (exitA_none hl k), q⟩

theorem DosL.ret (d : Dos P F c env h .ret M env' h') : DosL P F (.code c :: l) env h .ret M env' h' := fun cx k hr => d cx (l ++ k) hr

theorem DosL.inBlock {i : Nat} (r : DosL P F l env h o M env' h') : DosL P F (.inBlock i :: l) env h o M env' h' := by
  have q := DosL.after (M1 := []) (l := .inBlock i :: l) (l' := l) (fun _ _ _ => leads_inBlock) r
  rw [List.append_nil] at q
  exact q

/-- How far a piece of code was run: to a list of things to do, or it was left. -/
inductive Rs where
  | upt (l : List Item)
  | exit (i : Nat)
  | ret

def Upto (P : Program) (c : C) (env : T AV) (h : Hp) (r : Rs) (env' : T AV) (h' : Hp) : Prop :=
  ∀ (cx : Cx) (k : List Item), match r with
    | .upt l => Leads P (sOf cx (.code c :: k) env h) (sOf cx (l ++ k) env' h')
    | .exit i => ∃ k', exitA i k' = exitA i k ∧ Leads P (sOf cx (.code c :: k) env h) (sOf cx (.code (.exit i) :: k') env' h')
    | .ret => ∃ k', Leads P (sOf cx (.code c :: k) env h) (sOf cx (.code .ret :: k') env' h')

noncomputable def Rs.seq (b : C) : Rs → Rs
  | .upt l => .upt (l ++ [.code b])
  | r => r

noncomputable def Rs.block (i : Nat) : Rs → Rs
  | .upt [] => .upt []
  | .upt (x :: l) => .upt (x :: l ++ [.inBlock i])
  | .exit j => if j = i then .upt [] else .exit j
  | .ret => .ret

/-- Code is run up to its next loop (or, as one wishes, to the next region that draws its order). -/
noncomputable def runS (P : Program) (dr : Bool) : C → List KC → T AV → Hp → Option (Rs × List KC × T AV × Hp)
  | .skip, A, env, h => some (.upt [], A, env, h)
  | .label, A, env, h => some (.upt [], A, env, h)
  | .region l, A, env, h => match runR P A l env h with
    | some (A', env', h') => some (.upt [], A', env', h')
    | none => none
  | .drawn l, A, env, h => if dr = true then (match runDrawn P noRec l env h with
    | some (env', h') => some (.upt [], A, env', h')
    | none => none) else some (.upt [.code (.drawn l)], A, env, h)
  | .seq a b, A, env, h => match runS P dr a A env h with
    | some (.upt [], A', env', h') => runS P dr b A' env' h'
    | some (r, A', env', h') => some (r.seq b, A', env', h')
    | none => none
  | .cond x a b, A, env, h => match ev env x with
    | .bool true => runS P dr a A env h
    | .bool false => runS P dr b A env h
    | _ => none
  | .block i b, A, env, h => match runS P dr b A env h with
    | some (r, A', env', h') => some (r.block i, A', env', h')
    | none => none
  | .exit i, A, env, h => some (.exit i, A, env, h)
  | .ret, A, env, h => some (.ret, A, env, h)
  | c, A, env, h => some (.upt [.code c], A, env, h)

theorem Upto.pre {r : Rs} (u : Upto P a env1 h1 r env' h') (hl : ∀ cx k, Leads P (sOf cx (.code c :: k) env h) (sOf cx (.code a :: k) env1 h1)) : Upto P c env h r env' h' := fun cx k => by
  have q := u cx k
  cases r with
  | upt l => exact (hl cx k).trans q
  | ret => obtain ⟨k', q⟩ := q; exact ⟨k', (hl cx k).trans q⟩
  | exit i => obtain ⟨k', e, q⟩ := q; exact ⟨k', e, (hl cx k).trans q⟩

theorem Upto.self : Upto P c env h (.upt [.code c]) env h := fun _ _ => .refl _

theorem upto_run {dr : Bool} : ∀ {c : C} {A A1 : List KC} {env env' : T AV} {h h' : Hp} {r : Rs}, (∀ a ∈ A, AmFn P a.f a.args a.h a.v a.h') → runS P dr c A env h = some (r, A1, env', h') → Upto P c env h r env' h' ∧ ∀ a ∈ A1, a ∈ A
  | .skip, _, _, _, _, _, _, _, _, e => by cases e; exact ⟨fun _ _ => leads_skip, fun _ q => q⟩
  | .label, _, _, _, _, _, _, _, _, e => by cases e; exact ⟨fun _ _ => leads_label, fun _ q => q⟩
  | .ret, _, _, _, _, _, _, _, _, e => by cases e; exact ⟨fun _ k => ⟨k, .refl _⟩, fun _ q => q⟩
  | .exit _, _, _, _, _, _, _, _, _, e => by cases e; exact ⟨fun _ k => ⟨k, rfl, .refl _⟩, fun _ q => q⟩
  | .bad _, _, _, _, _, _, _, _, _, e => by cases e; exact ⟨.self, fun _ q => q⟩
  | .loop _, _, _, _, _, _, _, _, _, e => by cases e; exact ⟨.self, fun _ q => q⟩
  | .scope _, _, _, _, _, _, _, _, _, e => by cases e; exact ⟨.self, fun _ q => q⟩
  | .rangeFunc _ _ _ _, _, _, _, _, _, _, _, _, e => by cases e; exact ⟨.self, fun _ q => q⟩
  | .region l, A, _, env, _, h, _, _, hA, e => by
    unfold runS at e
    split at e
    · rename_i A1 e1 h1 he
      cases e
      exact ⟨fun cx k => leads_enter.trans ((leads_runR hA he).1.trans leads_opsNil), (leads_runR (cx := cxF 0 []) (k := []) hA he).2⟩
    · cases e
  | .drawn l, A, _, env, _, h, _, _, hA, e => by
    unfold runS at e
    split at e
    · split at e
      · rename_i e1 h1 he
        cases e; exact ⟨fun _ _ => leads_drawn (noRec_sound P) he, fun _ q => q⟩
      · cases e
    · cases e; exact ⟨.self, fun _ q => q⟩
  | .seq a b, A, A1, env, env', h, h', r, hA, e => by
    unfold runS at e
    split at e
    · rename_i A2 e1 h1 he
      obtain ⟨q1, q2⟩ := upto_run hA he
      obtain ⟨r1, r2⟩ := upto_run (fun a ha => hA a (q2 a ha)) e
      refine ⟨fun cx k => ?_, fun a ha => q2 a (r2 a ha)⟩
      have l1 := leads_seq.trans (q1 cx (.code b :: k))
      have x := r1 cx k
      cases r with
      | upt l => exact l1.trans x
      | ret => obtain ⟨k', x⟩ := x; exact ⟨k', l1.trans x⟩
      | exit i => obtain ⟨k', e, x⟩ := x; exact ⟨k', e, l1.trans x⟩
    · rename_i r1 A2 e1 h1 hne he
      cases e
      obtain ⟨q1, q2⟩ := upto_run hA he
      refine ⟨fun cx k => ?_, q2⟩
      have x := q1 cx (.code b :: k)
      cases r1 with
      | upt l =>
        show Leads P _ (sOf cx ((l ++ [.code b]) ++ k) _ _)
        rw [List.append_assoc]
        exact leads_seq.trans x
      | ret => obtain ⟨k', x⟩ := x; exact ⟨k', leads_seq.trans x⟩
      | exit i => obtain ⟨k', e, x⟩ := x; exact ⟨k', exitA_cons (fun _ => by simp) e, leads_seq.trans x⟩
    · cases e
  | .cond x a b, A, A1, env, env', h, h', r, hA, e => by
    unfold runS at e
    split at e
    · rename_i hx
      obtain ⟨q1, q2⟩ := upto_run hA e
      exact ⟨q1.pre fun _ _ => leads_cond (t := true) hx, q2⟩
    · rename_i hx
      obtain ⟨q1, q2⟩ := upto_run hA e
      exact ⟨q1.pre fun _ _ => (leads_cond (t := false) hx).trans (by rw [if_neg (by simp)]; exact .refl _), q2⟩
    · cases e
  | .block i b, A, A1, env, env', h, h', r, hA, e => by
    unfold runS at e
    split at e
    · rename_i r1 A2 e1 h1 he
      cases e
      obtain ⟨q1, q2⟩ := upto_run hA he
      refine ⟨fun cx k => ?_, q2⟩
      have x := q1 cx (.inBlock i :: k)
      cases r1 with
      | upt l =>
        cases l with
        | nil => exact leads_block.trans (Leads.trans x leads_inBlock)
        | cons y l =>
          show Leads P _ (sOf cx ((y :: l ++ [.inBlock i]) ++ k) _ _)
          rw [List.append_assoc]
          exact leads_block.trans x
      | ret => obtain ⟨k', x⟩ := x; exact ⟨k', leads_block.trans x⟩
      | exit j =>
        obtain ⟨k', e, x⟩ := x
        by_cases c : j = i
        · subst c
          rw [show Rs.block j (.exit j) = .upt [] from if_pos rfl]
          have e : exitA j k' = some k := by
            rw [e]
            show (bif Nat.beq j j then some k else exitA j k) = _
            rw [beq_iff.2 rfl]; rfl
          exact leads_block.trans (x.trans (leads_exit e))
        · rw [show Rs.block i (.exit j) = .exit j from if_neg c]
          have e : exitA j k' = exitA j k := by
            rw [e]
            show (bif Nat.beq i j then some k else exitA j k) = _
            rw [beq_false.2 fun x => c x.symm]; rfl
          exact ⟨k', e, leads_block.trans x⟩
    · cases e

/-- Code that is run up to its next loop, and what is done from there. -/
theorem Dos.run {dr : Bool} {A1 : List KC} (A : List KC) (hA : ∀ a ∈ A, AmFn P a.f a.args a.h a.v a.h') (e : runS P dr c A env h = some (.upt l, A1, env1, h1)) (d : DosL P F l env1 h1 o M env' h') : Dos P F c env h o M env' h' := by
  have q := DosL.after (M1 := []) (l := [.code c]) (l' := l) (fun cx k _ => (upto_run hA e).1 cx k) d
  rw [List.append_nil] at q
  exact q
theorem Dos.runGo {dr : Bool} {A1 : List KC} (A : List KC) (hA : ∀ a ∈ A, AmFn P a.f a.args a.h a.v a.h') (e : runS P dr c A env h = some (.upt [], A1, env', h')) : Dos P F c env h .go [] env' h' := fun cx k _ => (upto_run hA e).1 cx k
theorem Dos.runRet {dr : Bool} {A1 : List KC} (A : List KC) (hA : ∀ a ∈ A, AmFn P a.f a.args a.h a.v a.h') (e : runS P dr c A env h = some (.ret, A1, env', h')) : Dos P F c env h .ret [] env' h' := fun cx k _ => (upto_run hA e).1 cx k
theorem Dos.runExit {dr : Bool} {A1 : List KC} {i : Nat} (A : List KC) (hA : ∀ a ∈ A, AmFn P a.f a.args a.h a.v a.h') (e : runS P dr c A env h = some (.exit i, A1, env', h')) : Dos P F c env h (.exit i) [] env' h' := fun cx k _ => (upto_run hA e).1 cx k
end

/-! ### Slices that are handed in -/

/-- A block that is read. -/
structure Fix (h : Hp) (id : Pos) (l : List AV) : Prop where
  old : id.num < h.next.num
  mem : ∃ ser c hi m ro fz, T.get id h.heap = some (.cells ser c 0 hi 0 m ro fz) ∧ c.wf ∧ c.toL = l

theorem Fix.only {S : List Pos} {h h' : Hp} {id : Pos} {l : List AV} (b : Fix h id l) (m : Only S h h') (hs : id ∉ S) : Fix h' id l :=
  ⟨Nat.lt_of_lt_of_le b.old m.next, by rw [m.same id b.old hs]; exact b.mem⟩

theorem Fix.part {h : Hp} {id : Pos} {l : List AV} (b : Fix h id l) {off n : Nat} (hn : off + n ≤ l.length) : Row h id 0 off ((l.drop off).take n) := by
  obtain ⟨ser, c, hi, m, ro, fz, e, hw, hl⟩ := b.mem
  have hs : c.size = l.length := by rw [← Cells.toL_length hw, hl]
  have q := Row.of_block (off := off) (n := n) e hw b.old (Nat.zero_le _) (by omega)
  rw [hl] at q
  exact q

/-- A slice of elements of one cell, within a block that is read. -/
def ArgS (h : Hp) (v : AV) (l : List AV) : Prop :=
  (v = .nilSl ∧ l = []) ∨ ∃ id off cap ex L, v = .sl id 0 off l.length cap ex 1 ∧ l.length ≤ cap ∧ Fix h id L ∧ (L.drop off).take l.length = l ∧ off + l.length ≤ L.length

theorem ArgS.sl {h : Hp} {v : AV} {l : List AV} (a : ArgS h v l) : SlR h v l := by
  rcases a with ⟨q1, q2⟩ | ⟨id, off, cap, ex, L, q1, q2, q3, q4, q5⟩
  · subst q1 q2; exact .nil
  · subst q1
    have r := q3.part q5
    rw [q4] at r
    exact .mk rfl r

theorem ArgS.only {S : List Pos} {h h' : Hp} {v : AV} {l : List AV} (a : ArgS h v l) (m : Only S h h') {N : Nat} (hS : ∀ id ∈ S, N ≤ id.num) (hv : ∀ id g off n cap ex, v = .sl id g off n cap ex 1 → id.num < N) : ArgS h' v l := by
  rcases a with q | ⟨id, off, cap, ex, L, q1, q2, q3, q4, q5⟩
  · exact .inl q
  · exact .inr ⟨id, off, cap, ex, L, q1, q2, q3.only m fun c => by have := hS _ c; have := hv _ _ _ _ _ _ q1; omega, q4, q5⟩

theorem ArgS.more {h h' : Hp} {v : AV} {l : List AV} (a : ArgS h v l) (m : Only [] h h') : ArgS h' v l := by
  rcases a with q | ⟨id, off, cap, ex, L, q1, q2, q3, q4, q5⟩
  · exact .inl q
  · exact .inr ⟨id, off, cap, ex, L, q1, q2, q3.only m (by simp), q4, q5⟩

theorem ArgS.old {h : Hp} {v : AV} {l : List AV} (a : ArgS h v l) : ∀ id g off n cap ex, v = .sl id g off n cap ex 1 → id.num < h.next.num := by
  intro id g off n cap ex e
  rcases a with ⟨q1, _⟩ | ⟨id', off', cap', ex', L, q1, q2, q3, q4, q5⟩
  · rw [e] at q1; cases q1
  · rw [e] at q1; cases q1; exact q3.old

/-- The first n of a slice. -/
theorem ArgS.front {h : Hp} {v : AV} {l : List AV} (a : ArgS h v l) (P : Program) {n : Nat} (h0 : 0 < n) (hn : n ≤ l.length) :
    ∃ w, (∀ env x y, ev env x = v → ev env y = int64 n → evalOp P (.sliceSl 1 x none (some y) none) env h = .val w h) ∧ SlR h w (l.take n) := by
  rcases a with ⟨q1, q2⟩ | ⟨id, off, cap, ex, L, q1, q2, q3, q4, q5⟩
  · subst q2; simp at hn; omega
  · subst q1
    refine ⟨.sl id 0 off n cap ex 1, fun env x y hx hy => ?_, .mk (by simp; omega) ?_⟩
    · have e : evalOp P (.sliceSl 1 x none (some y) none) env h = (match ev env x with
        | .nilSl => (match evO env none 0, evO env (some y) 0, evO env none 0 with
          | some 0, some 0, some 0 => .val .nilSl h
          | _, _, _ => .fail "sliceSl nil")
        | .sl id g off len cap ex es' =>
          (match evO env none 0, evO env (some y) len, evO env none cap with
          | some l, some r, some m =>
            bif Nat.beq 1 es' && Nat.ble l r && Nat.ble r m && Nat.ble m cap then
              natK (Nat.sub r l) fun n => natK (Nat.sub m l) fun c => natK (Nat.add off (Nat.mul l 1)) fun off' =>
                .val (.sl id g (bif Nat.beq l m && (bif ex then true else (none : Option Opd).isSome) then off else off') n c (bif ex then true else (none : Option Opd).isSome) 1) h
            else .fail "sliceSl bounds"
          | _, _, _ => .fail "sliceSl")
        | _ => .fail "sliceSl what") := rfl
      have ey : ∀ d, evO env (some y) d = some n := fun d => by
        show (match ev env y with | .int _ (.ofNat n) => some n | _ => none) = _
        rw [hy]
      rw [e, hx]
      simp only [ey, show evO env none 0 = some 0 from rfl, show evO env none cap = some cap from rfl, natK_eq, show Nat.ble 0 n = true from ble_iff.2 (Nat.zero_le n), ble_iff.2 (show n ≤ cap by omega), ble_iff.2 (Nat.le_refl cap)]
      cases ex <;> simp
    · have r := q3.part (off := off) (n := n) (by omega)
      have : (L.drop off).take n = l.take n := by
        rw [← q4, List.take_take, Nat.min_eq_left hn]
      rw [this] at r
      exact r
end Go.Proofs.Ytmifpiglcphmoaa.Am

namespace Go.Proofs.Ytmifpiglcphmoaa.Am
open Go.RowKit

/-- One more block that is only read. -/
noncomputable def addRow (h : Hp) (l : List AV) : Hp := ⟨T.set h.next (some (.cells 0 (.lst l.length l) 0 0 0 0 true false)) h.heap, h.next.succ, h.ser, h.lim⟩

/-- Nothing may be written. -/
def AllRo (h : Hp) : Prop := ∀ id, ¬ Nonro h id

section
variable {P : Program} {φ : Phi} {h : Hp} {w : World} {l : List AV} {ys : List Value} {b off : Nat} {C : Array Value} {el : TypeId} {fr : Nat × Nat}

theorem addRow_get (id : Pos) : T.get id (addRow h l).heap = if id = h.next then some (.cells 0 (.lst l.length l) 0 0 0 0 true false) else T.get id h.heap := by
  show T.get id (T.set h.next _ h.heap) = _
  rw [T.get_set]

theorem addRow_only : Only [] h (addRow h l) := by
  refine ⟨by show h.next.num ≤ h.next.succ.num; rw [Pos.num_succ]; omega, rfl, fun id hid _ => ?_⟩
  rw [addRow_get, if_neg fun c => by subst c; omega]

theorem addRow_ro (hr : AllRo h) : AllRo (addRow h l) := fun id ⟨x, e, q⟩ => by
  rw [addRow_get] at e
  split at e
  · cases e
    have := q _ _ _ _ _ _ _ _ rfl
    cases this
  · exact hr id ⟨x, e, q⟩

theorem addRow_rel (hR : HR P φ h w) (hz : h.lim = 0) (hro : AllRo h) (hb : w.heap[b]? = some (.cells C el fr)) (hl : l.length = ys.length) (hC : ∀ i, i < ys.length → C[off + i]? = ys[i]?) (hr : ∀ φ, RelL φ l ys) :
    HR P (φ.put h.next 0 (b, (off : Int), C.size)) (addRow h l) w := by
  have blt : b < w.heap.size := by
    rcases Nat.lt_or_ge b w.heap.size with q | q
    · exact q
    · rw [Array.getElem?_eq_none q] at hb; cases hb
  have nn := hR.next_none (.inl hz)
  have hle : Le φ (φ.put h.next 0 (b, (off : Int), C.size)) := Phi.le_put (nn 0)
  have hin : ∀ {id g r}, φ.put h.next 0 (b, (off : Int), C.size) id g = some r → (id = h.next ∧ g = 0 ∧ r = (b, (off : Int), C.size)) ∨ (id ≠ h.next ∧ φ id g = some r) := fun {id g r} e => by
    by_cases c : id = h.next
    · subst c
      by_cases c : g = 0
      · subst c; rw [Phi.put_same] at e; cases e; exact .inl ⟨rfl, rfl, rfl⟩
      · rw [Phi.put_gen c, nn] at e; cases e
    · rw [Phi.put_id c] at e; exact .inr ⟨c, e⟩
  have old : ∀ {id}, Old h.next.num h.lim id → Old (addRow h l).next.num (addRow h l).lim id := fun {id} o => o.mono addRow_only.next
  have new : Old (addRow h l).next.num (addRow h l).lim h.next := .inl (by show h.next.num < h.next.succ.num; rw [Pos.num_succ]; omega)
  refine ⟨fun id x e => ?_, fun id g r e => ?_, fun id x e => ?_, fun id g y s n id' g' s' n' _ _ => .inr ⟨addRow_ro hro _, addRow_ro hro _⟩, fun id g y s n e => ?_, fun g hg => let ⟨n, e⟩ := hR.glob g hg; ⟨n, hle _ _ _ e⟩⟩
  · rw [addRow_get] at e
    split at e
    · rename_i c
      cases e
      subst c
      refine ⟨rfl, Nat.le_refl _, fun q => absurd q (Nat.lt_irrefl _), fun j hj => ?_, fun j j' b1 s1 n1 s2 n2 k1 k2 k3 k4 e1 e2 => ?_, fun j k1 k2 => ?_⟩
      · rw [Phi.put_gen (by omega)]; exact nn j
      · rcases hin e1 with ⟨_, _, q1⟩ | ⟨q, _⟩
        · rcases hin e2 with ⟨_, _, q2⟩ | ⟨q, _⟩
          · cases q1; cases q2; rfl
          · exact absurd rfl q
        · exact absurd rfl q
      · have : j = 0 := by omega
        subst this
        refine ⟨b, off, C.size, C, el, fr, Phi.put_same _ _ _ _, hb, rfl, fun c => (by cases c), fun i v _ hi2 hv => ?_⟩
        have hv : l[i]? = some v := hv
        have hil : i < l.length := by
          rcases Nat.lt_or_ge i l.length with q | q
          · exact q
          · rw [List.getElem?_eq_none q] at hv; cases hv
        obtain ⟨x, hx, rx⟩ := (hr (φ.put h.next 0 (b, (off : Int), C.size))).get hv
        exact ⟨off + i, x, by omega, by rw [hC i (by omega), hx], rx⟩
    · rename_i c
      exact BR.mono hle (fun g r k => by rwa [Phi.put_id c] at k) (fun _ _ _ _ _ => rfl) (hR.blk id x e)
  · rcases hin e with ⟨q, _, _⟩ | ⟨_, q⟩
    · subst q; exact new
    · exact old (hR.used _ _ _ q)
  · rw [addRow_get] at e
    split at e
    · rename_i c; subst c; exact new
    · exact old (hR.dom _ _ e)
  · rcases hin e with ⟨_, _, q⟩ | ⟨_, q⟩
    · cases q; exact blt
    · exact hR.inb _ _ _ _ _ q

theorem addRow_slice {cap n : Nat} (h1 : l.length ≤ cap) (hn : 0 < cap → off + cap ≤ n) : Rel (φ.put h.next 0 (b, (off : Int), n)) (.sl h.next 0 0 l.length l.length false 1) (.slice (some ⟨b, off, none⟩) l.length cap) := by
  refine .sl (b := b) (s := off) (n := n) (Phi.put_same _ _ _ _) rfl rfl h1 h1 (Nat.le_refl _) (fun c => by cases c) fun hc => ⟨by simp, ?_⟩
  have := hn hc
  show off + cap * 1 ≤ n
  omega

theorem addRow_arg : ArgS (addRow h l) (.sl h.next 0 0 l.length l.length false 1) l :=
  .inr ⟨h.next, 0, l.length, false, l, rfl, Nat.le_refl _, ⟨by show h.next.num < h.next.succ.num; rw [Pos.num_succ]; omega, 0, .lst l.length l, 0, 0, true, false, by rw [addRow_get, if_pos rfl], rfl, rfl⟩, by simp, by simp⟩
end

/-- Nothing handed in yet. -/
theorem start_ro (P : Program) : AllRo ⟨.e, Pos.ofNat (globN P), 0, 0⟩ := fun id ⟨b, e, _⟩ => by
  rw [T.get_e] at e
  cases e

/-- A slice of elements of one cell, handed in: from a heap in which nothing may be written to one in which it reads as it does. -/
theorem handed {P : Program} {φ : Phi} {h : Hp} {w : World} {a : Option Addr} {len cap : Nat} {l : List AV} (hR : HR P φ h w) (hz : h.lim = 0) (hro : AllRo h)
    (hs : (a = none ∧ len = 0 ∧ cap = 0 ∧ l = []) ∨ ∃ b off C el fr, a = some ⟨b, off, none⟩ ∧ w.heap[b]? = some (.cells C el fr) ∧ l.length = len ∧ len ≤ cap ∧ (0 < cap → off + cap ≤ C.size) ∧ ∃ ys : List Value, ys.length = len ∧ (∀ i, i < len → C[off + i]? = ys[i]?) ∧ ∀ φ, RelL φ l ys) :
    ∃ φ' h' v, HR P φ' h' w ∧ h'.lim = 0 ∧ AllRo h' ∧ Le φ φ' ∧ Only [] h h' ∧ Rel φ' v (.slice a len cap) ∧ ArgS h' v l := by
  rcases hs with ⟨rfl, rfl, rfl, rfl⟩ | ⟨b, off, C, el, fr, rfl, hb, rfl, hle, hn, ys, hy, hC, hr⟩
  · exact ⟨φ, h, .nilSl, hR, hz, hro, Le.refl φ, .refl _ _, .nilSl, .inl ⟨rfl, rfl⟩⟩
  · exact ⟨_, addRow h l, .sl h.next 0 0 l.length l.length false 1, addRow_rel hR hz hro hb hy.symm (fun i hi => hC i (by omega)) hr, hz, addRow_ro hro, Phi.le_put (hR.next_none (.inl hz) 0), addRow_only, addRow_slice hle hn, addRow_arg⟩
end Go.Proofs.Ytmifpiglcphmoaa.Am

namespace Go.Proofs.Ytmifpiglcphmoaa.Am
open Go.RowKit

/-- The world has more behind it, and is as it was. -/
theorem HR.grown {P : Program} {φ : Phi} {h : Hp} {w w' : World} (hR : HR P φ h w) (hs : w.heap.size ≤ w'.heap.size) (hk : ∀ b, b < w.heap.size → w'.heap[b]? = w.heap[b]?) : HR P φ h w' :=
  ⟨fun id b e => BR.mono (Le.refl φ) (fun _ _ e => e) (fun g b' s n e' => hk b' (hR.inb _ _ _ _ _ e')) (hR.blk id b e), hR.used, hR.dom, hR.sep, fun id g b s n e => Nat.lt_of_lt_of_le (hR.inb _ _ _ _ _ e) hs, hR.glob⟩

theorem Adv.grown {h : Hp} {w w' : World} {φ : Phi} (os : w'.os = w.os) (output : w'.output = w.output) (tape : w'.tape = w.tape) (hs : w.heap.size ≤ w'.heap.size) (hk : ∀ b, b < w.heap.size → w'.heap[b]? = w.heap[b]?) : Adv h w φ h w' φ :=
  ⟨Le.refl φ, os, output, tape, hs, Nat.le_refl _, fun id g b s n e _ => ⟨g, s, n, e⟩, fun _ _ k => k, fun b hb _ => hk b hb, rfl, fun _ _ e => e, fun _ _ _ _ _ e => e⟩

/-- A function that returns true when it is run by itself, called from anywhere. -/
theorem closed_fn {P : Program} {f : FuncId} (hc : closed P f 0 = true) (h : Hp) : AmFn P f [] h (.bool true) h := by
  have hc : closed P f (globN P) = true := hc
  unfold closed at hc
  split at hc
  · rename_i s hs
    unfold start at hs
    split at hs
    · rename_i fr hb
      cases hs
      refine ⟨fr, hb, fun callers r q φ w g cs c0 hR hz hF hC => ?_⟩
      have hfr : ∃ fu : Fu, fr = ⟨f, .e, [.code fu.body], [], .run, false, none⟩ := by
        unfold beginFn at hb
        split at hb
        · rename_i fu _
          refine ⟨fu, ?_⟩
          cases hl : Nat.ble ([] : List AV).length fu.nargs with
          | true => rw [hl] at hb; cases hb; rfl
          | false => rw [hl] at hb; cases hb
        · cases hb
      obtain ⟨fu, hfr⟩ := hfr
      have hF0 : FrR P (phi0 P) fr g := by
        subst hfr
        have htodo : ItemsR P (phi0 P) (numT P f) [.code fu.body] g.todo := by
          have := hF.todo
          generalize g.todo = td at this ⊢
          cases this with
          | @cons _ y _ r h1 h2 =>
            cases h2
            refine .cons ?_ .nil
            cases y <;> exact h1
        have hdef : DefsR (phi0 P) [] g.defers := by
          have := hF.defers
          generalize g.defers = ds at this ⊢
          cases this
          exact .nil
        have hround : RoundR (phi0 P) none g.roundOf := by
          have := hF.round
          generalize g.roundOf = ro at this ⊢
          cases ro with
          | none => trivial
          | some b => exact this.elim
        refine ⟨hF.fn, fun t => ?_, hF.size, htodo, hdef, hF.mode, hF.kind, hround⟩
        have e : Rel φ (ev (.e : T AV) (.tmp (Pos.ofNat t))) (g.tmps.getD t Go.undef) := hF.env t
        have u : ev (.e : T AV) (.tmp (Pos.ofNat t)) = .undef := sv_undef t
        show Rel (phi0 P) (ev (.e : T AV) (.tmp (Pos.ofNat t))) (g.tmps.getD t Go.undef)
        rw [u] at e ⊢
        revert e
        generalize g.tmps.getD t Go.undef = X
        intro e
        cases e with
        | @tup _ a hl =>
          refine .tup ?_
          generalize a.toList = L at hl ⊢
          cases hl
          exact .nil
      have hR0 := start_rel (P := P) (w := w) (Nat.zero_le _)
      have ho := run_sounds P 40 ⟨fr, [], ⟨.e, Pos.ofNat 0, 0, 0⟩⟩ (phi0 P) w g [] (cs ++ c0) hR0 rfl hF0 .nil
      have hc : isTrue (run P 40 ⟨fr, [], ⟨.e, Pos.ofNat 0, 0, 0⟩⟩) = true := hc
      generalize run P 40 ⟨fr, [], ⟨.e, Pos.ofNat 0, 0, 0⟩⟩ = o at hc ho
      unfold isTrue at hc
      split at hc
      · rename_i h'
        obtain ⟨w', φ', x, r1, r2, r3, r4, r5⟩ := ho
        cases r3
        have hk : ∀ b, b < w.heap.size → w'.heap[b]? = w.heap[b]? := fun b hb => r2.keep b hb fun id g s n _ ⟨b, e, _⟩ => by
          rw [T.get_e] at e
          cases e
        have hR' := hR.grown r2.size hk
        have hA' : Adv h w φ h w' φ := Adv.grown r2.os r2.output r2.tape r2.size hk
        have back := backTo_run (fr := fr) (c0 := c0) (v := .bool true) (x := .bool true) (callers := callers) hR' hC (.bool true) hA' (fun c cs1 e => r4 c cs1 e) (fun hr hcl => by
          subst hcl
          cases hC
          obtain ⟨g', s1, s2, s3⟩ := r5 hr
          exact ⟨g', s1, s2, s3⟩)
        unfold AnsO at q
        cases hb : backTo (.bool true) callers h with
        | next s' =>
          rw [hb] at q back
          obtain ⟨g', cs', w2, φ2, q1, q2, q3, q4, q5, q6, q7⟩ := back
          exact OutR.then hR hz q1 q5 q6 q7 (q φ2 w2 g' cs' c0 q2 (q5.lim.trans hz) q3 q4)
        | done v h2 =>
          rw [hb] at q back
          rw [q]
          exact back
        | fail why => rw [hb] at q; exact q.elim
      · cases hc
    · cases hs
  · cases hc
end Go.Proofs.Ytmifpiglcphmoaa.Am

namespace Go.Proofs.Ytmifpiglcphmoaa.Am
open Go.RowKit

section
variable (P : Program) (env : T AV) (h : Hp)
noncomputable def nilC (x : AV) (h : Hp) : Res := match x with
  | .ptr id g off => .val (.ptr id g off) h
  | .ifc t v => .val (.ifc t v) h
  | .yield l => .val (.yield l) h
  | .fn (.func f) a b => .val (.fn (.func f) a b) h
  | _ => .fail "nilCheck"
theorem qev_nilC (x : Opd) : evalOp P (.nilCheck x) env h = nilC (ev env x) h := rfl
theorem nilC_ptr (id : Pos) (g off : Nat) : nilC (.ptr id g off) h = .val (.ptr id g off) h := rfl
noncomputable def fldA (off : Nat) (x : AV) (h : Hp) : Res := match x with
  | .ptr id g o => .val (.ptr id g (o + off)) h
  | _ => .fail "fieldAddr"
theorem qev_fld (off : Nat) (x : Opd) : evalOp P (.fieldAddr off x) env h = fldA off (ev env x) h := by
  show (match ev env x with
    | .ptr id g o => natK (Nat.add o off) fun o => Res.val (.ptr id g o) h
    | _ => .fail "fieldAddr") = _
  unfold fldA
  cases ev env x <;> simp only [natK_eq] <;> rfl
theorem fldA_ptr (off : Nat) (id : Pos) (g o : Nat) : fldA off (.ptr id g o) h = .val (.ptr id g (o + off)) h := rfl
theorem qev_extract (x : Opd) (i : Nat) : evalOp P (.extract x i) env h = (match ev env x with
  | .tup l => opt h "extract" (nth l i)
  | _ => .fail "extract what") := rfl
theorem qev_eqPtr (neg : Bool) (x y : Opd) : evalOp P (.eqPtr neg x y) env h = opt h "eqPtr" (match sameP h (ev env x) (ev env y) with
  | some b => notIf neg b
  | none => none) := rfl
theorem sameP_nil (id : Pos) (g off : Nat) : sameP h (.ptr id g off) .nilPtr = some false := rfl
theorem qev_build (zero : List AV) (parts : List (Nat × Nat × Opd)) : evalOp P (.build zero parts) env h = (match fillA env zero parts with
  | some l => .val (.agg l) h
  | none => .fail "build") := rfl
end

theorem Gro.part {h : Hp} {id : Pos} {g : Nat} {l : List AV} (b : Gro h id g l) {off n : Nat} (hn : off + n ≤ l.length) : Row h id g off ((l.drop off).take n) := by
  obtain ⟨ser, c, hi, m, fz, e, hw, hl⟩ := b.mem
  have hs : c.size = l.length := by rw [← Cells.toL_length hw, hl]
  have q := Row.of_block (off := off) (n := n) e hw b.old (Nat.zero_le _) (by omega)
  rw [hl] at q
  exact q

noncomputable def slcA (x : AV) (l r : Nat) (h : Hp) : Res := match x with
  | .sl id g off _ cap _ _ => .val (.sl id g (off + l) (r - l) (cap - l) false 1) h
  | _ => .fail "slcA"

/-- What a slice expression without a third number comes to. -/
theorem slice_ev (P : Program) {env : T AV} {h : Hp} {x : Opd} {lo hi : Option Opd} {id : Pos} {g off len cap l r : Nat} (hx : ev env x = .sl id g off len cap false 1) (hl : evO env lo 0 = some l) (hr : evO env hi len = some r) (h1 : l ≤ r) (h2 : r ≤ cap) :
    evalOp P (.sliceSl 1 x lo hi none) env h = .val (.sl id g (off + l) (r - l) (cap - l) false 1) h := by
  have e : evalOp P (.sliceSl 1 x lo hi none) env h = (match ev env x with
    | .nilSl => (match evO env lo 0, evO env hi 0, evO env none 0 with
      | some 0, some 0, some 0 => .val .nilSl h
      | _, _, _ => .fail "sliceSl nil")
    | .sl id g off len cap ex es' =>
      (match evO env lo 0, evO env hi len, evO env none cap with
      | some l, some r, some m =>
        bif Nat.beq 1 es' && Nat.ble l r && Nat.ble r m && Nat.ble m cap then
          natK (Nat.sub r l) fun n => natK (Nat.sub m l) fun c => natK (Nat.add off (Nat.mul l 1)) fun off' =>
            .val (.sl id g (bif Nat.beq l m && (bif ex then true else (none : Option Opd).isSome) then off else off') n c (bif ex then true else (none : Option Opd).isSome) 1) h
        else .fail "sliceSl bounds"
      | _, _, _ => .fail "sliceSl")
    | _ => .fail "sliceSl what") := rfl
  rw [e, hx]
  simp only [hl, hr, show evO env none cap = some cap from rfl, natK_eq, ble_iff.2 h1, ble_iff.2 h2, ble_iff.2 (Nat.le_refl cap)]
  simp

theorem evO_int {env : T AV} {y : Opd} {n d : Nat} (h : ev env y = int64 (n : Int)) : evO env (some y) d = some n := by
  show (match ev env y with | .int _ (.ofNat n) => some n | _ => none) = _
  rw [h]

/-- So many zeros, appended to nothing. -/
theorem appendZ_new (P : Program) {env : T AV} {h : Hp} {s x : Opd} {n bytes : Nat} {z : AV} (hs : ev env s = .nilSl) (hx : ev env x = int64 n) (h0 : 0 < n) (hl : n ≤ 1073741824) (hb : bytes ≤ 4096) :
    evalOp P (.appendZ 1 bytes [z] s x) env h = .val (.sl h.next 0 0 n n false 1) (newH h fun s => .cells s (Cells.ofL (List.replicate n z)) 0 0 0 0 false false) := by
  have e : evalOp P (.appendZ 1 bytes [z] s x) env h = (match ev env x with
    | .int _ (.ofNat n) =>
      bif Nat.ble n 1073741824 && Nat.ble bytes 4096 then
        (bif Nat.beq n 0 then (match ev env s with | .sl id g off len cap ex es' => .val (.sl id g off len cap ex es') h | .nilSl => .val .nilSl h | _ => .fail "append")
        else appendSeg h 1 bytes (ev env s) n (Cells.ofL (replA n [z] [])))
      else .fail "appendZ size"
    | _ => .fail "appendZ") := rfl
  rw [e, hx, hs]
  have ok : okSize n bytes = true := by
    exact okSize_small hl hb
  show (bif Nat.ble n 1073741824 && Nat.ble bytes 4096 then (bif Nat.beq n 0 then Res.val .nilSl h else appendSeg h 1 bytes .nilSl n (Cells.ofL (replA n [z] []))) else .fail "appendZ size") = _
  rw [ble_iff.2 hl, ble_iff.2 hb, beq_false.2 (show n ≠ 0 by omega)]
  simp only [Bool.and_self, cond_true, cond_false]
  unfold appendSeg
  simp only [ok, show Nat.blt 0 1 = true from rfl, Bool.and_true, cond_true]
  unfold newCells
  rw [newK_newH, replA_one, List.append_nil]

/-- Appended within the room that is there. -/
theorem append_room (P : Program) {h : Hp} {v : AV} {id : Pos} {g k cap : Nat} {L l2 : List AV} {bytes : Nat} (ha : Gro h id g L) (hv : SlR h v l2) (hk : k + l2.length ≤ cap) (hL : k + l2.length ≤ L.length) (hl : k + l2.length ≤ 1073741824) (hb : bytes ≤ 4096) (hat : ∀ y ∈ l2, y.atom = true) :
    ∃ h', (∀ env s x, ev env s = .sl id g 0 k cap false 1 → ev env x = v → evalOp P (.append 1 bytes s x) env h = .val (.sl id g 0 (k + l2.length) cap false 1) h') ∧ Gro h' id g (L.take k ++ l2 ++ L.drop (k + l2.length)) ∧ Only [id] h h' ∧ h'.next = h.next := by
  by_cases h0 : l2 = []
  · subst h0
    refine ⟨h, fun env s x hs hx => ?_, by simpa using ha, .refl _ _, rfl⟩
    show appendA h 1 bytes (ev env s) (ev env x) = _
    rw [hs, hx]
    generalize hq : ([] : List AV) = l0 at hv
    cases hv with
    | nil => rfl
    | emp => rfl
    | mk hn r =>
      subst hq
      simp at hn
      subst hn
      rfl
  · cases hv with
    | nil => exact absurd rfl h0
    | emp => exact absurd rfl h0
    | mk hn r =>
      rename_i id2 g2 off2 n2 cap2 ex2
      subst hn
      have hpos : 0 < l2.length := List.length_pos_iff.2 h0
      obtain ⟨seg, c1, c2, c3⟩ := r.all
      have hseg : seg.size = l2.length := by rw [← Cells.toL_length c2, c3]
      have src : srcCells h 1 l2.length (.sl id2 g2 off2 l2.length cap2 ex2 1) = some seg := by
        show readN h id2 g2 off2 (l2.length * 1) = some seg
        rw [Nat.mul_one]; exact c1
      have ok : okSize (Nat.add k l2.length) bytes = true := by
        exact okSize_small (show Nat.add k l2.length ≤ _ from hl) hb
      obtain ⟨ser, c, hi, m, fz, eb, hw, hcl⟩ := ha.mem
      have hcs : c.size = L.length := by rw [← Cells.toL_length hw, hcl]
      have ats : seg.atoms = true := by
        cases seg with
        | byt n v => rfl
        | lst n L =>
          have : L = l2 := c3
          subst this
          show List.all _ _ = true
          rw [List.all_eq_true]
          exact hat
      obtain ⟨q1, q2, q3⟩ := Cells.splice_spec hw c2 (off := k) (by omega)
      refine ⟨⟨T.set id (some (.cells ser (c.splice k seg) 0 hi g (bif Nat.blt k hi then g else m) false fz)) h.heap, h.next, h.ser, h.lim⟩, fun env s x hs hx => ?_, ⟨ha.old, ser, c.splice k seg, hi, (bif Nat.blt k hi then g else m), fz, ?_, q1, ?_⟩, ⟨Nat.le_refl _, rfl, fun j _ q => ?_⟩, rfl⟩
      · show appendA h 1 bytes (ev env s) (ev env x) = _
        rw [hs, hx]
        unfold appendA
        simp only [lenA, beq_false.2 (show l2.length ≠ 0 by omega), cond_false, src]
        unfold appendSeg
        have ht : Nat.add 0 (Nat.mul k 1) = k := by show 0 + k * 1 = _; omega
        have hfit : Nat.ble (Nat.add k seg.size) c.size = true := ble_iff.2 (show k + seg.size ≤ c.size by omega)
        simp only [natK_eq, ok, show Nat.beq 1 1 = true from rfl, show Nat.blt 0 1 = true from rfl, Bool.and_true, Bool.and_self, Bool.not_true, cond_false, cond_true, show Nat.ble (Nat.add k l2.length) cap = true from ble_iff.2 hk, ht]
        unfold extendN
        simp only [eb, beq_iff.2 (rfl : g = g), show Nat.ble 0 k = true from ble_iff.2 (Nat.zero_le k), show Nat.ble k c.size = true from ble_iff.2 (by omega), ats, hfit, Bool.not_false, Bool.and_self, Bool.and_true, cond_true, T.setK_eq]
        rfl
      · show T.get id (T.set id _ h.heap) = _
        rw [T.get_set, if_pos rfl]
      · rw [q2, c3, hcl, hseg, List.append_assoc]
      · show T.get j (T.set id _ h.heap) = _
        rw [T.get_set, if_neg (by simpa using q)]

/-! ### Lists of one's own, that grow -/

def Own (N : Nat) (h : Hp) (v : AV) (l : List AV) : Prop :=
  (l = [] ∧ v = .nilSl) ∨ ∃ id g, N ≤ id.num ∧ v = .sl id g 0 l.length l.length false 1 ∧ Gro h id g l

theorem Own.sl {N : Nat} {h : Hp} {v : AV} {l : List AV} (o : Own N h v l) : SlR h v l := by
  rcases o with ⟨q1, q2⟩ | ⟨id, g, _, q2, q3⟩
  · subst q1 q2; exact .nil
  · subst q2; exact .mk rfl q3.row

theorem Own.only {N : Nat} {h h' : Hp} {v : AV} {l : List AV} {S : List Pos} (o : Own N h v l) (m : Only S h h') (hS : ∀ id g, v = .sl id g 0 l.length l.length false 1 → id ∉ S) : Own N h' v l :=
  o.imp id fun ⟨id, g, q0, q2, q3⟩ => ⟨id, g, q0, q2, q3.only m (hS id g q2)⟩

theorem Own.more {N : Nat} {h h' : Hp} {v : AV} {l : List AV} (o : Own N h v l) (m : Only [] h h') : Own N h' v l := o.only m fun _ _ _ => by simp

theorem Own.old {N : Nat} {h : Hp} {v : AV} {l : List AV} (o : Own N h v l) : ∀ id g off n cap ex, v = .sl id g off n cap ex 1 → N ≤ id.num ∧ id.num < h.next.num := by
  intro id g off n cap ex e
  rcases o with ⟨_, q⟩ | ⟨id', g', q0, q, q3⟩
  · rw [q] at e; cases e
  · rw [q] at e; cases e; exact ⟨q0, q3.old⟩

theorem append_env (P : Program) {env env' : T AV} {h : Hp} {s s' x x' : Opd} {n bytes : Nat} (hs : ev env s = ev env' s') (hx : ev env x = ev env' x') : evalOp P (.append n bytes s x) env h = evalOp P (.append n bytes s' x') env' h := by
  show appendA h n bytes (ev env s) (ev env x) = appendA h n bytes (ev env' s') (ev env' x')
  rw [hs, hx]

/-- More is appended. -/
theorem Own.push {N : Nat} {h : Hp} {v : AV} {l l2 : List AV} (o : Own N h v l) (P : Program) {v2 : AV} {bytes : Nat} (hv : SlR h v2 l2) (hy : ∀ y ∈ l2, y.atom = true) (hl : l.length + l2.length ≤ 1073741824) (hb : bytes ≤ 4096) (hN : N ≤ h.next.num) :
    ∃ v' h' S, (∀ env s x, ev env s = v → ev env x = v2 → evalOp P (.append 1 bytes s x) env h = .val v' h') ∧ Own N h' v' (l ++ l2) ∧ Only S h h' ∧ (∀ id ∈ S, N ≤ id.num ∧ ∃ g off n cap ex, v = .sl id g off n cap ex 1) ∧
      ∀ id g off n cap ex, v' = .sl id g off n cap ex 1 → (∃ g off n cap ex, v = .sl id g off n cap ex 1) ∨ h.next.num ≤ id.num := by
  by_cases h0 : l2 = []
  · subst h0
    refine ⟨v, h, [], fun env s x hs hx => ?_, by simpa using o, .refl _ _, by simp, fun id g off n cap ex e => .inl ⟨g, off, n, cap, ex, e⟩⟩
    show appendA h 1 bytes (ev env s) (ev env x) = _
    rw [hs, hx]
    generalize hq : ([] : List AV) = l0 at hv
    have hl0 : lenA v2 = some 0 := by
      cases hv with
      | nil => rfl
      | emp => rfl
      | mk hn r => subst hq; simp at hn; subst hn; rfl
    unfold appendA
    rw [hl0]
    rcases o with ⟨_, q⟩ | ⟨id, g, _, q, _⟩ <;> subst q <;> rfl
  · rcases o with ⟨q1, q2⟩ | ⟨id, g, q0, q2, q3⟩
    · subst q1 q2
      obtain ⟨h', e, a, o, n⟩ := append_new' P (env := .e) (h := h) (s := vl .nilSl) (x := vl v2) (bytes := bytes) rfl hv h0 (by simpa using hl) hb (.inl rfl)
      exact ⟨_, h', [], fun env s x hs hx => (append_env P (env := env) (env' := .e) (s := s) (s' := vl .nilSl) (x := x) (x' := vl v2) hs hx).trans e, .inr ⟨h.next, 0, hN, rfl, a.gro⟩, o, by simp, fun id g off n cap ex e => by cases e; exact .inr (Nat.le_refl _)⟩
    · subst q2
      obtain ⟨h', e, a, o, n⟩ := append_gro P (env := .e) (h := h) (s := vl (.sl id g 0 l.length l.length false 1)) (x := vl v2) (bytes := bytes) (l2 := l2) rfl q3 rfl hv h0 hl hb hy
      exact ⟨_, h', [id], fun env s x hs hx => (append_env P (env := env) (env' := .e) (s := s) (s' := vl (.sl id g 0 l.length l.length false 1)) (x := x) (x' := vl v2) hs hx).trans e, .inr ⟨id, g + 1, q0, by simp, a⟩, o,
        fun id' hid => by simp at hid; subst hid; exact ⟨q0, _, _, _, _, _, rfl⟩, fun id' g' off n cap ex e => by cases e; exact .inl ⟨_, _, _, _, _, rfl⟩⟩

/-- A list of one, made. -/
theorem build1' (P : Program) (h : Hp) (z y : AV) (hc : y.cells = [y]) : ∃ h', (∀ env x, ev env x = y → evalOp P (.buildSl 1 1 [z] [(0, 1, x)]) env h = .val (.sl h.next 0 0 1 1 true 1) h') ∧ SlR h' (.sl h.next 0 0 1 1 true 1) [y] ∧ Only [] h h' ∧ h'.next.num = h.next.num + 1 := by
  refine ⟨newH h fun s => .cells s (Cells.ofL [y]) 0 0 0 0 false false, fun env x hx => ?_, ?_, newH_only _ _ _, newH_next _ _⟩
  · have e : evalOp P (.buildSl 1 1 [z] [(0, 1, x)]) env h = (match fillA env (replA 1 [z] []) [(0, 1, x)] with
      | some l => bif Nat.blt 0 1 then newCells h (Cells.ofL l) fun id h => .val (.sl id 0 0 1 1 true 1) h else .fail "buildSl"
      | none => .fail "buildSl") := rfl
    have f : fillA env (replA 1 [z] []) [(0, 1, x)] = some [y] := by simp [fillA, replA, hx, hc]; rfl
    rw [e, f]
    show (bif Nat.blt 0 1 then newCells h (Cells.ofL _) fun id h => Res.val (.sl id 0 0 1 1 true 1) h else .fail "buildSl") = _
    rw [show Nat.blt 0 1 = true from rfl, cond_true]
    unfold newCells
    rw [newK_newH]
  · have q := newH_row (h := h) (c := Cells.ofL [y]) (Cells.ofL_spec _).1 (ser := fun s => s) (fz := false)
    rw [(Cells.ofL_spec _).2.1] at q
    exact .mk rfl q

/-! ### A region that draws its order and makes one block -/

noncomputable def resvH (h : Hp) (b : Blk) : Hp := ⟨T.set h.next (some b) h.heap, h.next.succ, h.ser, h.lim⟩

theorem resvH_only (h : Hp) (b : Blk) : Only [] h (resvH h b) :=
  ⟨by show h.next.num ≤ h.next.succ.num; rw [Pos.num_succ]; omega, rfl, fun id hid _ => by
    show T.get id (T.set h.next _ h.heap) = _
    rw [T.get_set, if_neg fun c => by subst c; omega]⟩

theorem resvH_next (h : Hp) (b : Blk) : (resvH h b).next.num = h.next.num + 1 := Pos.num_succ _

theorem resvH_row (h : Hp) (ser : Nat) (l : List AV) : SlR (resvH h (.cells ser (Cells.ofL l) 0 0 0 0 false false)) (.sl h.next 0 0 l.length l.length true 1) l := by
  refine .mk rfl ?_
  have hw := (Cells.ofL_spec l).1
  have hl := (Cells.ofL_spec l).2.1
  have hs : (Cells.ofL l).size = l.length := by rw [← Cells.toL_length hw, hl]
  have q := Row.of_block (h := resvH h (.cells ser (Cells.ofL l) 0 0 0 0 false false)) (id := h.next) (off := 0) (n := l.length) (c := Cells.ofL l) (by show T.get h.next (T.set h.next _ h.heap) = _; rw [T.get_set, if_pos rfl]) hw (by rw [resvH_next]; omega) (Nat.le_refl _) (by omega)
  rw [List.drop_zero, hl, List.take_length] at q
  exact q

/-- A list of two, made in its own small heap. -/
theorem build2_resv (P : Program) {env : T AV} {id : Pos} {ser lim : Nat} {z x y : AV} {a b : Opd} (ha : ev env a = x) (hb : ev env b = y) (cx : x.cells = [x]) (cy : y.cells = [y]) :
    evalOp P (.buildSl 2 1 [z] [(0, 1, a), (1, 1, b)]) env ⟨.e, id, ser, lim⟩ = .val (.sl id 0 0 2 2 true 1) ⟨T.set id (some (.cells ser (Cells.ofL [x, y]) 0 0 0 0 false false)) .e, id.succ, Nat.succ ser, lim⟩ := by
  have e : evalOp P (.buildSl 2 1 [z] [(0, 1, a), (1, 1, b)]) env ⟨.e, id, ser, lim⟩ = (match fillA env (replA 2 [z] []) [(0, 1, a), (1, 1, b)] with
    | some l => bif Nat.blt 0 1 then newCells ⟨.e, id, ser, lim⟩ (Cells.ofL l) fun id h => .val (.sl id 0 0 2 2 true 1) h else .fail "buildSl"
    | none => .fail "buildSl") := rfl
  have f : fillA env (replA 2 [z] []) [(0, 1, a), (1, 1, b)] = some [x, y] := by simp [fillA, replA, ha, hb, cx, cy]; rfl
  rw [e, f]
  show (bif Nat.blt 0 1 then newCells _ (Cells.ofL _) fun id h => Res.val (.sl id 0 0 2 2 true 1) h else .fail "buildSl") = _
  rw [show Nat.blt 0 1 = true from rfl, cond_true]
  unfold newCells
  rw [newK_newH]
  rfl

/-- As stepD, new blocks too. -/
noncomputable def stepE (P : Program) (rec : St → Out) (i : Nat) (s : DS) (o : O) : Option DS :=
  match kindOf o.op with
  | .alloc => if wantedA o s.env = true then (match evalOp P o.op s.env ⟨.e, s.rid, s.h.ser, s.rid.num + 1⟩ with
    | .val v h' => (match T.get s.rid h'.heap with
      | some b => some ⟨s.acts, s.lds, ⟨i, s.rid, b⟩ :: s.als, s.rid.succ, setD s.env o.dst v, s.h⟩
      | none => none)
    | _ => none) else some ⟨s.acts, s.lds, s.als, s.rid.succ, setD s.env o.dst .undef, s.h⟩
  | _ => stepD P rec i s o

noncomputable def runE (P : Program) (rec : St → Out) : Nat → List O → DS → Option DS
  | _, [], s => some s
  | i, o :: l, s => match stepE P rec i s o with
    | some s' => runE P rec (i + 1) l s'
    | none => none

theorem stepE_go {P : Program} {rec : St → Out} {K : T AV → Hp → Out} {i : Nat} {s s' : DS} {o : O} (e : stepE P rec i s o = some s') (rest : List O) :
    drawnGo P rec K i s.acts s.lds s.als s.rid s.env s.h (o :: rest) = drawnGo P rec K (i + 1) s'.acts s'.lds s'.als s'.rid s'.env s'.h rest := by
  unfold stepE at e
  split at e
  · rename_i hk
    rw [show drawnGo P rec K i s.acts s.lds s.als s.rid s.env s.h (o :: rest) = _ from by unfold drawnGo; rfl]
    rw [hk]
    split at e
    · rename_i hw
      rw [hw]
      split at e
      · rename_i v h1 he
        split at e
        · rename_i b hb
          cases e
          simp only [cond_true, he, hb, setDst_eq]
        · cases e
      · cases e
    · rename_i hw
      have hw : wantedA o s.env = false := by simpa using hw
      rw [hw]
      cases e
      simp only [cond_false, setDst_eq]
  · exact stepD_go e rest

theorem runE_go {P : Program} {rec : St → Out} {K : T AV → Hp → Out} {rest : List O} : ∀ {l : List O} {i : Nat} {s s' : DS}, runE P rec i l s = some s' →
    drawnGo P rec K i s.acts s.lds s.als s.rid s.env s.h (l ++ rest) = drawnGo P rec K (i + l.length) s'.acts s'.lds s'.als s'.rid s'.env s'.h rest
  | [], i, s, s', e => by cases e; rfl
  | o :: l, i, s, s', e => by
    unfold runE at e
    split at e
    · rename_i s1 he
      rw [List.cons_append, stepE_go he, runE_go e, List.length_cons, show i + 1 + l.length = i + (l.length + 1) by omega]
    · cases e

theorem runE_app {P : Program} {rec : St → Out} : ∀ {l r : List O} {i : Nat} {s s1 : DS}, runE P rec i l s = some s1 → runE P rec i (l ++ r) s = runE P rec (i + l.length) r s1
  | [], r, i, s, s1, e => by cases e; rfl
  | o :: l, r, i, s, s1, e => by
    unfold runE at e
    show runE P rec i (o :: (l ++ r)) s = _
    rw [runE]
    split at e
    · rename_i s2 he
      rw [runE_app e, List.length_cons, show i + 1 + l.length = i + (l.length + 1) by omega]
    · cases e

/-- A region that draws its order: all that it made has been seen. -/
theorem runDrawn_ofE {P : Program} {rec : St → Out} {l : List O} {env env' : T AV} {h h' : Hp} {acts : List Actor} {lds : List Ld} {rid : Pos} (e : runE P rec 0 l ⟨[], [], [], h.next, env, ⟨h.heap, skipIds l h.next, h.ser, h.lim⟩⟩ = some ⟨acts, lds, [], rid, env', h'⟩) :
    runDrawn P rec l env h = some (env', h') := by
  unfold runDrawn
  have q := runE_go (K := kD) (rest := []) e
  rw [List.append_nil] at q
  have q : drawnGo P rec kD 0 [] [] [] h.next env ⟨h.heap, skipIds l h.next, h.ser, h.lim⟩ l = drawnGo P rec kD (0 + l.length) acts lds [] rid env' h' [] := q
  rw [q]
  rfl

theorem nth0 (x : AV) (l : List AV) : nth (x :: l) 0 = some x := rfl
theorem nth1 (x y : AV) (l : List AV) : nth (x :: y :: l) 1 = some y := rfl
theorem nth2 (x y z : AV) (l : List AV) : nth (x :: y :: z :: l) 2 = some z := rfl

/-! ### Operations that the machine does not do, by their place -/

noncomputable def badsO : List O → List String
  | [] => []
  | o :: l => match o.op with
    | .bad w => w :: badsO l
    | _ => badsO l

noncomputable def badsC : C → List String
  | .region l => badsO l
  | .drawn l => badsO l
  | .seq a b => badsC a ++ badsC b
  | .cond _ a b => badsC a ++ badsC b
  | .block _ b => badsC b
  | .loop b => badsC b
  | .scope b => badsC b
  | .rangeFunc _ _ a b => badsC a ++ badsC b
  | .bad w => [w]
  | _ => []

noncomputable def badN (P : Program) (f : FuncId) (i : Nat) : String := match compFn P f with
  | some fu => (badsC fu.body).getD i ""
  | none => ""
end Go.Proofs.Ytmifpiglcphmoaa.Am

namespace Go.Proofs.Ytmifpiglcphmoaa.Am
open Go.RowKit

/-- A text, as the machine holds it. -/
noncomputable def strOf (b : List UInt8) : AV := .str b.length (pack b)

theorem strOf_rel (φ : Phi) (s : ByteArray) : Rel φ (strOf s.data.toList) (.string s) := .str (unpack_pack _).symm (pack_lt _)

/-- Types of trees: numbers, truth values, texts, and rows and structures of these. -/
def treeOK (P : Program) : Nat → TypeId → Bool
  | 0, _ => false
  | d + 1, t => match P.underlying t with
    | some .bool | some (.int _) | some .string => true
    | some (.slice e) => treeOK P d e && decide (0 < P.cellsOf e)
    | some (.struct fs) => fs.toList.all (fun f => treeOK P d f.type) && tiles P fs.toList 0 == some (P.cellsOf t)
    | _ => false
where
  /-- Fields that lie side by side. -/
  tiles (P : Program) : List Field → Nat → Option Nat
    | [], n => some n
    | f :: l, n => if f.offset = n then tiles P l (n + P.cellsOf f.type) else none

mutual
/-- What a value of data is, in the machine's cells. -/
inductive Seen {H : Type} (h : Hp) : DataW H → List AV → Prop where
  | bool (b : Bool) : Seen h (.lit (.bool b)) [.bool b]
  | int (k : IntKind) (n : Int) : Seen h (.lit (.int k n)) [.int k n]
  | str (b : List UInt8) : Seen h (.lit (.string b)) [strOf b]
  | nil : Seen h .nil [.nilSl]
  | emp {id : Pos} {g off es : Nat} : Seen h (.slice [] []) [.sl id g off 0 0 true es]
  | slice {elems spare : List (DataW H)} {id : Pos} {es : Nat} {L1 L2 : List AV} (h1 : SeenL h (some es) elems L1) (h2 : SeenL h (some es) spare L2) (hf : Fix h id (L1 ++ L2)) :
      Seen h (.slice elems spare) [.sl id 0 0 elems.length (elems.length + spare.length) true es]
  | agg {parts : List (DataW H)} {L : List AV} (h1 : SeenL h none parts L) : Seen h (.agg parts) L
inductive SeenL {H : Type} (h : Hp) : Option Nat → List (DataW H) → List AV → Prop where
  | nil (o : Option Nat) : SeenL h o [] []
  | cons {o : Option Nat} {d : DataW H} {l : List AV} {ds : List (DataW H)} {L : List AV} (h1 : Seen h d l) (hl : ∀ es, o = some es → l.length = es) (h2 : SeenL h o ds L) : SeenL h o (d :: ds) (l ++ L)
end

mutual
theorem Seen.more {H : Type} {h h' : Hp} (m : Only [] h h') {d : DataW H} {l : List AV} : Seen h d l → Seen h' d l
  | .bool b => .bool b
  | .int k n => .int k n
  | .str b => .str b
  | .nil => .nil
  | .emp => .emp
  | .slice h1 h2 hf => .slice (h1.more m) (h2.more m) (hf.only m (by simp))
  | .agg h1 => .agg (h1.more m)
theorem SeenL.more {H : Type} {h h' : Hp} (m : Only [] h h') {o : Option Nat} {d : List (DataW H)} {l : List AV} : SeenL h o d l → SeenL h' o d l
  | .nil o => .nil o
  | .cons h1 hl h2 => .cons (h1.more m) hl (h2.more m)
end

theorem addr_add (a : Addr) (m k : Nat) : (a.add m).add k = a.add (m + k) := by
  unfold Addr.add
  by_cases hm : m = 0
  · subst hm; simp
  · by_cases hk : k = 0
    · subst hk; simp
    · rw [if_neg hm, if_neg hk, if_neg (by omega)]
      simp [Nat.add_assoc]

theorem cells_get {w : World} {base : Nat} {a : Addr} {n : Nat} {cs : List Value} (h : w.cells? base a n = some cs) : cs.length = n ∧ ∀ j, j < n → w.cell? (a.add j) = cs[j]? := by
  unfold World.cells? at h
  split at h
  · exact ⟨by simpa using mapM_some_length h, fun j hj => mapM_some_get h j j (by simp [hj])⟩
  · cases h

/-- One more block that is only read, its cells by what is known so far. -/
theorem addRow_relφ {P : Program} {φ : Phi} {h : Hp} {w : World} {l : List AV} {ys : List Value} {b off : Nat} {C : Array Value} {el : TypeId} {fr : Nat × Nat} (hR : HR P φ h w) (hz : h.lim = 0) (hro : AllRo h) (hb : w.heap[b]? = some (.cells C el fr)) (hl : l.length = ys.length) (hC : ∀ i, i < ys.length → C[off + i]? = ys[i]?) (hr : RelL φ l ys) :
    HR P (φ.put h.next 0 (b, (off : Int), C.size)) (addRow h l) w := by
  have blt : b < w.heap.size := by
    rcases Nat.lt_or_ge b w.heap.size with q | q
    · exact q
    · rw [Array.getElem?_eq_none q] at hb; cases hb
  have nn := hR.next_none (.inl hz)
  have hle : Le φ (φ.put h.next 0 (b, (off : Int), C.size)) := Phi.le_put (nn 0)
  have hin : ∀ {id g r}, φ.put h.next 0 (b, (off : Int), C.size) id g = some r → (id = h.next ∧ g = 0 ∧ r = (b, (off : Int), C.size)) ∨ (id ≠ h.next ∧ φ id g = some r) := fun {id g r} e => by
    by_cases c : id = h.next
    · subst c
      by_cases c : g = 0
      · subst c; rw [Phi.put_same] at e; cases e; exact .inl ⟨rfl, rfl, rfl⟩
      · rw [Phi.put_gen c, nn] at e; cases e
    · rw [Phi.put_id c] at e; exact .inr ⟨c, e⟩
  have old : ∀ {id}, Old h.next.num h.lim id → Old (addRow h l).next.num (addRow h l).lim id := fun {id} o => o.mono addRow_only.next
  have new : Old (addRow h l).next.num (addRow h l).lim h.next := .inl (by show h.next.num < h.next.succ.num; rw [Pos.num_succ]; omega)
  refine ⟨fun id x e => ?_, fun id g r e => ?_, fun id x e => ?_, fun id g y s n id' g' s' n' _ _ => .inr ⟨addRow_ro hro _, addRow_ro hro _⟩, fun id g y s n e => ?_, fun g hg => let ⟨n, e⟩ := hR.glob g hg; ⟨n, hle _ _ _ e⟩⟩
  · rw [addRow_get] at e
    split at e
    · rename_i c
      cases e
      subst c
      refine ⟨rfl, Nat.le_refl _, fun q => absurd q (Nat.lt_irrefl _), fun j hj => ?_, fun j j' b1 s1 n1 s2 n2 k1 k2 k3 k4 e1 e2 => ?_, fun j k1 k2 => ?_⟩
      · rw [Phi.put_gen (by omega)]; exact nn j
      · rcases hin e1 with ⟨_, _, q1⟩ | ⟨q, _⟩
        · rcases hin e2 with ⟨_, _, q2⟩ | ⟨q, _⟩
          · cases q1; cases q2; rfl
          · exact absurd rfl q
        · exact absurd rfl q
      · have : j = 0 := by omega
        subst this
        refine ⟨b, off, C.size, C, el, fr, Phi.put_same _ _ _ _, hb, rfl, fun c => (by cases c), fun i v _ hi2 hv => ?_⟩
        have hv : l[i]? = some v := hv
        have hil : i < l.length := by
          rcases Nat.lt_or_ge i l.length with q | q
          · exact q
          · rw [List.getElem?_eq_none q] at hv; cases hv
        obtain ⟨x, hx, rx⟩ := (hr.mono hle).get hv
        exact ⟨off + i, x, by omega, by rw [hC i (by omega), hx], rx⟩
    · rename_i c
      exact BR.mono hle (fun g r k => by rwa [Phi.put_id c] at k) (fun _ _ _ _ _ => rfl) (hR.blk id x e)
  · rcases hin e with ⟨q, _, _⟩ | ⟨_, q⟩
    · subst q; exact new
    · exact old (hR.used _ _ _ q)
  · rw [addRow_get] at e
    split at e
    · rename_i c; subst c; exact new
    · exact old (hR.dom _ _ e)
  · rcases hin e with ⟨_, _, q⟩ | ⟨_, q⟩
    · cases q; exact blt
    · exact hR.inb _ _ _ _ _ q

theorem addRow_fix {h : Hp} {l : List AV} : Fix (addRow h l) h.next l :=
  ⟨by show h.next.num < h.next.succ.num; rw [Pos.num_succ]; omega, 0, .lst l.length l, 0, 0, true, false, by rw [addRow_get, if_pos rfl], rfl, rfl⟩

/-- What opening comes to. -/
def Opens {H : Type} (P : Program) (w : World) (φ : Phi) (h : Hp) (cs : List Value) (s : Hp → List AV → Prop) : Prop :=
  ∃ φ' h' l, HR P φ' h' w ∧ h'.lim = 0 ∧ AllRo h' ∧ Le φ φ' ∧ Only [] h h' ∧ RelL φ' l cs ∧ s h' l

section
variable {H : Type} {enc : TypeId × Value → H} {P : Program} {w : World} {base : Nat} {held : Bool}

/-- Elements of a slice, one behind another. -/
theorem open_elems {n es : Nat} {e : TypeId} {a : Addr}
    (ih : ∀ (cs : List Value) (x : DataW H × List MemPlace), DataW.trod enc P w base (fun _ => true) held n e cs = some x → ∀ φ h, HR P φ h w → h.lim = 0 → AllRo h → Opens (H := H) P w φ h cs fun h' l => Seen h' x.1 l ∧ l.length = cs.length) :
    ∀ (ds : List (DataW H × List MemPlace)) (i0 : Nat), (∀ i, i < ds.length → (w.cells? base (a.add ((i0 + i) * es)) es).bind (DataW.trod enc P w base (fun _ => true) held n e) = ds[i]?) → ∀ φ h, HR P φ h w → h.lim = 0 → AllRo h →
      ∃ φ' h' L ys, HR P φ' h' w ∧ h'.lim = 0 ∧ AllRo h' ∧ Le φ φ' ∧ Only [] h h' ∧ RelL φ' L ys ∧ SeenL h' (some es) (ds.map (·.1)) L ∧ ys.length = ds.length * es ∧ ∀ j, j < ys.length → w.cell? (a.add (i0 * es + j)) = ys[j]?
  | [], i0, hd, φ, h, hR, hz, hro => ⟨φ, h, [], [], hR, hz, hro, Le.refl φ, .refl _ _, .nil, .nil _, by simp, fun j hj => by simp at hj⟩
  | d :: ds, i0, hd, φ, h, hR, hz, hro => by
    have h0 := hd 0 (by simp)
    simp only [Nat.add_zero, List.getElem?_cons_zero] at h0
    obtain ⟨cs, hcs, ht⟩ := Option.bind_eq_some_iff.1 h0
    obtain ⟨hlen, hget⟩ := cells_get hcs
    obtain ⟨φ1, h1, l, r1, r2, r3, r4, r5, r6, r7, r8⟩ := ih cs d ht φ h hR hz hro
    obtain ⟨φ2, h2, L, ys, s1, s2, s3, s4, s5, s6, s7, s8, s9⟩ := open_elems ih ds (i0 + 1) (fun i hi => by
      have := hd (i + 1) (by simp; omega)
      rw [List.getElem?_cons_succ] at this
      rw [← this, show i0 + 1 + i = i0 + (i + 1) by omega]) φ1 h1 r1 r2 r3
    refine ⟨φ2, h2, l ++ L, cs ++ ys, s1, s2, s3, r4.trans s4, r5.trans s5, (r6.mono s4).append s6, .cons (r7.more s5) (fun es' e' => by cases e'; omega) s7, by simp [hlen, s8, Nat.add_mul]; omega, fun j hj => ?_⟩
    by_cases hjl : j < cs.length
    · rw [List.getElem?_append_left hjl, ← hget j (by omega), addr_add]
    · have hj' : j - cs.length < ys.length := by simp at hj; omega
      rw [List.getElem?_append_right (by omega), ← s9 _ hj', show i0 * es + j = (i0 + 1) * es + (j - cs.length) by rw [Nat.add_mul]; omega]

/-- Fields of a structure, one behind another. -/
theorem open_fields {n : Nat} {cs : List Value} :
    ∀ (fs : List Field) (off : Nat) (xs : List (DataW H × List MemPlace)),
      (∀ f ∈ fs, ∀ (cs : List Value) (x : DataW H × List MemPlace), DataW.trod enc P w base (fun _ => true) held n f.type cs = some x → ∀ φ h, HR P φ h w → h.lim = 0 → AllRo h → Opens (H := H) P w φ h cs fun h' l => Seen h' x.1 l ∧ l.length = cs.length) →
      treeOK.tiles P fs off = some cs.length → xs.length = fs.length → (∀ (i : Nat) (f : Field), fs[i]? = some f → DataW.trod enc P w base (fun _ => true) held n f.type ((cs.drop f.offset).take (P.cellsOf f.type)) = xs[i]?) → ∀ φ h, HR P φ h w → h.lim = 0 → AllRo h →
      Opens (H := H) P w φ h (cs.drop off) fun h' l => SeenL h' none (xs.map (·.1)) l
  | [], off, xs, _, ht, hx, _, φ, h, hR, hz, hro => by
    have ht : some off = some cs.length := ht
    cases ht
    have : xs = [] := List.length_eq_zero_iff.1 (by simpa using hx)
    subst this
    refine ⟨φ, h, [], hR, hz, hro, Le.refl φ, .refl _ _, ?_, .nil _⟩
    rw [List.drop_length]
    exact .nil
  | f :: fs, off, xs, ih, ht, hx, hf, φ, h, hR, hz, hro => by
    unfold treeOK.tiles at ht
    split at ht
    · rename_i ho
      match xs, hx with
      | x :: xs, hx =>
        have h0 := hf 0 f (by simp)
        simp only [List.getElem?_cons_zero] at h0
        obtain ⟨φ1, h1, l, r1, r2, r3, r4, r5, r6, r7, r8⟩ := ih f (by simp) _ x h0 φ h hR hz hro
        obtain ⟨φ2, h2, L, s1, s2, s3, s4, s5, s6, s7⟩ := open_fields fs (off + P.cellsOf f.type) xs (fun g hg => ih g (by simp [hg])) ht (by simpa using hx) (fun i g hg => by
          have := hf (i + 1) g (by simpa using hg)
          rwa [List.getElem?_cons_succ] at this) φ1 h1 r1 r2 r3
        refine ⟨φ2, h2, l ++ L, s1, s2, s3, r4.trans s4, r5.trans s5, ?_, .cons (r7.more s5) (fun _ c => by cases c) s7⟩
        rw [ho] at r6
        have e : cs.drop off = (cs.drop off).take (P.cellsOf f.type) ++ cs.drop (off + P.cellsOf f.type) := by
          rw [← List.drop_drop, List.take_append_drop]
        rw [e]
        exact (r6.mono s4).append s6
    · cases ht

theorem RelL.len {φ : Phi} {l : List AV} {r : List Value} (h : RelL φ l r) : l.length = r.length := h.length

/-- Whatever is read as a tree is opened. -/
theorem open_tree : ∀ (d n : Nat) (t : TypeId) (cs : List Value) (x : DataW H × List MemPlace), treeOK P d t = true → DataW.trod enc P w base (fun _ => true) held n t cs = some x → ∀ φ h, HR P φ h w → h.lim = 0 → AllRo h →
    Opens (H := H) P w φ h cs fun h' l => Seen h' x.1 l ∧ l.length = cs.length
  | 0, _, _, _, _, hk, _, _, _, _, _, _ => by cases hk
  | d + 1, n, t, cs, x, hk, ht, φ, h, hR, hz, hro => by
    unfold treeOK at hk
    split at hk
    · rename_i hd
      obtain ⟨b, rfl, rfl⟩ := DataW.trod_bool hd ht
      exact ⟨φ, h, [.bool b], hR, hz, hro, Le.refl φ, .refl _ _, .cons (.bool b) .nil, .bool b, rfl⟩
    · rename_i k hd
      obtain ⟨b, rfl, rfl, _⟩ := DataW.trod_int hd ht
      exact ⟨φ, h, [.int k b], hR, hz, hro, Le.refl φ, .refl _ _, .cons (.int k b) .nil, .int k b, rfl⟩
    · rename_i hd
      obtain ⟨b, rfl, rfl, _⟩ := DataW.trod_string hd ht
      exact ⟨φ, h, [strOf b.data.toList], hR, hz, hro, Le.refl φ, .refl _ _, .cons (strOf_rel φ b) .nil, .str _, rfl⟩
    · rename_i e hd
      rw [Bool.and_eq_true, decide_eq_true_eq] at hk
      rcases DataW.trod_slice hd ht with ⟨rfl, rfl⟩ | ⟨a, len, cap, elems, rest, m, rfl, rfl, rfl, hb, hlc, hcm, hel, he, hr, _⟩
      · exact ⟨φ, h, [.nilSl], hR, hz, hro, Le.refl φ, .refl _ _, .cons .nilSl .nil, .nil, rfl⟩
      · obtain ⟨hrl, hr⟩ := hr rfl
        have ih := fun cs x q => open_tree d m e cs x hk.1 q
        by_cases hc : cap = 0
        · subst hc
          have hl0 : len = 0 := by omega
          subst hl0
          have e1 : elems = [] := List.length_eq_zero_iff.1 hel
          have e2 : rest = [] := List.length_eq_zero_iff.1 (by omega)
          subst e1 e2
          exact ⟨φ, h, [.sl Pos.first 0 0 0 0 true (P.cellsOf e)], hR, hz, hro, Le.refl φ, .refl _ _, .cons .sl0 .nil, .emp, rfl⟩
        · obtain ⟨φ1, h1, L1, ys1, r1, r2, r3, r4, r5, r6, r7, r8, r9⟩ := open_elems (a := a) (es := P.cellsOf e) ih elems 0 (fun i hi => by rw [Nat.zero_add]; exact he i (by omega)) φ h hR hz hro
          obtain ⟨φ2, h2, L2, ys2, s1, s2, s3, s4, s5, s6, s7, s8, s9⟩ := open_elems (a := a) (es := P.cellsOf e) ih rest len (fun i hi => hr i (by omega)) φ1 h1 r1 r2 r3
          have hlen : (ys1 ++ ys2).length = cap * P.cellsOf e := by
            rw [List.length_append, r8, s8, hel, hrl, ← Nat.add_mul, show len + (cap - len) = cap by omega]
          have hcell : ∀ j, j < (ys1 ++ ys2).length → w.cell? (a.add j) = (ys1 ++ ys2)[j]? := fun j hj => by
            by_cases hjl : j < ys1.length
            · rw [List.getElem?_append_left hjl, ← r9 j hjl, Nat.zero_mul, Nat.zero_add]
            · have hj' : j - ys1.length < ys2.length := by simp at hj; omega
              rw [List.getElem?_append_right (by omega), ← s9 _ hj', show len * P.cellsOf e + (j - ys1.length) = j by rw [r8, hel] at hjl ⊢; omega]
          have hpos : 0 < (ys1 ++ ys2).length := by rw [hlen]; exact Nat.mul_pos (by omega) hk.2
          have hc0 := hcell 0 hpos
          have hsome : (ys1 ++ ys2)[0]? ≠ none := by
            rw [List.getElem?_eq_getElem hpos]; simp
          obtain ⟨b, off, spot⟩ := a
          have hadd0 : (⟨b, off, spot⟩ : Addr).add 0 = ⟨b, off, spot⟩ := rfl
          rw [hadd0] at hc0
          obtain ⟨C, el, fr, hheap, hsp⟩ : ∃ C el fr, w.heap[b]? = some (.cells C el fr) ∧ spot = none := by
            unfold World.cell? at hc0
            cases hq : w.heap[b]? with
            | none => simp only [hq] at hc0; exact absurd hc0.symm hsome
            | some o =>
              simp only [hq] at hc0
              cases o with
              | cells C el fr =>
                refine ⟨C, el, fr, rfl, ?_⟩
                cases spot with
                | none => rfl
                | some s => exact absurd hc0.symm hsome
              | _ => exact absurd hc0.symm hsome
          subst hsp
          have hC : ∀ j, j < (ys1 ++ ys2).length → C[off + j]? = (ys1 ++ ys2)[j]? := fun j hj => by
            rw [← hcell j hj]
            have : (⟨b, off, none⟩ : Addr).add j = ⟨b, off + j, none⟩ := by
              unfold Addr.add
              split
              · rename_i h0; subst h0; rfl
              · rfl
            rw [this]
            unfold World.cell?
            simp [hheap]
          have hRL := (r6.mono s4).append s6
          have hR3 := addRow_relφ s1 s2 s3 hheap hRL.length hC hRL
          have hle3 := Phi.le_put (s1.next_none (.inl s2) 0) (r := (b, (off : Int), C.size))
          have hsz : off + cap * P.cellsOf e ≤ C.size := by
            have := hC ((ys1 ++ ys2).length - 1) (by omega)
            rcases Nat.lt_or_ge (off + ((ys1 ++ ys2).length - 1)) C.size with q | q
            · omega
            · rw [Array.getElem?_eq_none q, List.getElem?_eq_getElem (by omega)] at this; cases this
          refine ⟨_, addRow h2 (L1 ++ L2), [.sl h2.next 0 0 len cap true (P.cellsOf e)], hR3, s2, addRow_ro s3, (r4.trans s4).trans hle3, (r5.trans s5).trans addRow_only, .cons ?_ .nil, ?_, rfl⟩
          · exact .sl (Phi.put_same _ _ _ _) rfl rfl hlc (Nat.le_refl _) hlc (fun _ => rfl) fun _ => ⟨by simp, hsz⟩
          · have q := Seen.slice (h := addRow h2 (L1 ++ L2)) ((r7.more s5).more addRow_only) (s7.more addRow_only) addRow_fix
            simp only [List.length_map, hel, hrl] at q
            rw [show len + (cap - len) = cap by omega] at q
            exact q
    · rename_i fs hd
      rw [Bool.and_eq_true] at hk
      obtain ⟨xs, m, rfl, rfl, hl, hxs, hf⟩ := DataW.trod_struct hd ht
      have htile : treeOK.tiles P fs.toList 0 = some (P.cellsOf t) := by simpa using hk.2
      obtain ⟨φ1, h1, L, r1, r2, r3, r4, r5, r6, r7⟩ := open_fields (cs := cs) fs.toList 0 xs (fun f hf cs x q => open_tree d m f.type cs x (List.all_eq_true.1 hk.1 f hf) q) (by rw [htile, hl]) (by simpa using hxs) (fun i f hq => hf i f (by simpa using hq)) φ h hR hz hro
      rw [List.drop_zero] at r6
      exact ⟨φ1, h1, L, r1, r2, r3, r4, r5, r6, .agg r7, r6.length⟩
    · cases hk
end
end Go.Proofs.Ytmifpiglcphmoaa.Am
