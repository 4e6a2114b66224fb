import Derived.ChangeArms
import Derived.SizedLaws
import Derived.OpenShut
import Derived.Test.YtjhgembcdndmkaaGreatDoorAmH
/- THE ABSTRACT MACHINE, part I: a machine over values without block numbers, and the proof that the model's machine does what it does. No condition. -/
set_option linter.unusedSimpArgs false
set_option linter.unusedVariables false
namespace Go.Proofs.YtjhgembcdndmkaaGreatDoor.Am
open Go.RowKit
noncomputable def addRow (h : Hp) (l : List AV) : Hp := ⟨T.set h.next (some (.cells 0 (.lst l.length l) 0 0 0 0 true false)) h.heap, h.next.succ, h.ser, h.lim⟩
def AllRo (h : Hp) : Prop := ∀ id, ¬ Nonro h id
section
variable {P : Program} {φ : Phi} {h : Hp} {w : World} {l : List AV} {ys : List Value} {b off : Nat} {C : Array Value} {el : TypeId} {fr : Nat × Nat}
theorem addRow_get (id : Pos) : T.get id (addRow h l).heap = if id = h.next then some (.cells 0 (.lst l.length l) 0 0 0 0 true false) else T.get id h.heap := by
  show T.get id (T.set h.next _ h.heap) = _
  rw [T.get_set]
theorem addRow_only : Only [] h (addRow h l) := by
  refine ⟨by show h.next.num ≤ h.next.succ.num; rw [Pos.num_succ]; omega, rfl, fun id hid _ => ?_⟩
  rw [addRow_get, if_neg fun c => by subst c; omega]
theorem addRow_ro (hr : AllRo h) : AllRo (addRow h l) := fun id ⟨x, e, q⟩ => by
  rw [addRow_get] at e
  split at e
  · cases e
    have := q _ _ _ _ _ _ _ _ rfl
    cases this
  · exact hr id ⟨x, e, q⟩
theorem addRow_rel (hR : HR P φ h w) (hz : h.lim = 0) (hro : AllRo h) (hb : w.heap[b]? = some (.cells C el fr)) (hl : l.length = ys.length) (hC : ∀ i, i < ys.length → C[off + i]? = ys[i]?) (hr : ∀ φ, RelL φ l ys) :
    HR P (φ.put h.next 0 (b, (off : Int), C.size)) (addRow h l) w := by
  have blt : b < w.heap.size := by
    rcases Nat.lt_or_ge b w.heap.size with q | q
    · exact q
    · rw [Array.getElem?_eq_none q] at hb; cases hb
  have nn := hR.next_none (.inl hz)
  have hle : Le φ (φ.put h.next 0 (b, (off : Int), C.size)) := Phi.le_put (nn 0)
  have hin : ∀ {id g r}, φ.put h.next 0 (b, (off : Int), C.size) id g = some r → (id = h.next ∧ g = 0 ∧ r = (b, (off : Int), C.size)) ∨ (id ≠ h.next ∧ φ id g = some r) := fun {id g r} e => by
    by_cases c : id = h.next
    · subst c
      by_cases c : g = 0
      · subst c; rw [Phi.put_same] at e; cases e; exact .inl ⟨rfl, rfl, rfl⟩
      · rw [Phi.put_gen c, nn] at e; cases e
    · rw [Phi.put_id c] at e; exact .inr ⟨c, e⟩
  have old : ∀ {id}, Old h.next.num h.lim id → Old (addRow h l).next.num (addRow h l).lim id := fun {id} o => o.mono addRow_only.next
  have new : Old (addRow h l).next.num (addRow h l).lim h.next := .inl (by show h.next.num < h.next.succ.num; rw [Pos.num_succ]; omega)
  refine ⟨fun id x e => ?_, fun id g r e => ?_, fun id x e => ?_, fun id g y s n id' g' s' n' _ _ => .inr ⟨addRow_ro hro _, addRow_ro hro _⟩, fun id g y s n e => ?_, fun g hg => hle _ _ _ (hR.glob g hg)⟩
  · rw [addRow_get] at e
    split at e
    · rename_i c
      cases e
      subst c
      refine ⟨⟨rfl, Nat.le_refl _, fun q => absurd q (Nat.lt_irrefl _), fun j hj => ?_, fun j j' b1 s1 n1 s2 n2 k1 k2 k3 k4 e1 e2 => ?_, fun j k1 k2 => ?_⟩, fun _ _ _ _ _ _ _ _ _ _ _ => .inl rfl⟩
      · rw [Phi.put_gen (by omega)]; exact nn j
      · rcases hin e1 with ⟨_, _, q1⟩ | ⟨q, _⟩
        · rcases hin e2 with ⟨_, _, q2⟩ | ⟨q, _⟩
          · cases q1; cases q2; rfl
          · exact absurd rfl q
        · exact absurd rfl q
      · have : j = 0 := by omega
        subst this
        refine ⟨b, off, C.size, C, el, fr, Phi.put_same _ _ _ _, hb, rfl, fun c => (by cases c), fun i v _ hi2 hv => ?_⟩
        have hv : l[i]? = some v := hv
        have hil : i < l.length := by
          rcases Nat.lt_or_ge i l.length with q | q
          · exact q
          · rw [List.getElem?_eq_none q] at hv; cases hv
        obtain ⟨x, hx, rx⟩ := (hr (φ.put h.next 0 (b, (off : Int), C.size))).get hv
        exact ⟨off + i, x, by omega, by rw [hC i (by omega), hx], rx⟩
    · rename_i c
      exact BR.mono hle (fun g r k => by rwa [Phi.put_id c] at k) (fun _ _ _ _ _ => rfl) (hR.blk id x e)
  · rcases hin e with ⟨q, _, _⟩ | ⟨_, q⟩
    · subst q; exact new
    · exact old (hR.used _ _ _ q)
  · rw [addRow_get] at e
    split at e
    · rename_i c; subst c; exact new
    · exact old (hR.dom _ _ e)
  · rcases hin e with ⟨_, _, q⟩ | ⟨_, q⟩
    · cases q; exact blt
    · exact hR.inb _ _ _ _ _ q
theorem addRow_slice {cap n : Nat} (h1 : l.length ≤ cap) (hn : 0 < cap → off + cap ≤ n) : Rel (φ.put h.next 0 (b, (off : Int), n)) (.sl h.next 0 0 l.length l.length false 1) (.slice (some ⟨b, off, none⟩) l.length cap) := by
  refine .sl (b := b) (s := off) (n := n) (Phi.put_same _ _ _ _) rfl rfl h1 h1 (Nat.le_refl _) (fun c => by cases c) fun hc => ⟨by simp, ?_⟩
  have := hn hc
  show off + cap * 1 ≤ n
  omega
theorem addRow_arg : ArgS (addRow h l) (.sl h.next 0 0 l.length l.length false 1) l :=
  .inr ⟨h.next, 0, l.length, false, l, rfl, Nat.le_refl _, ⟨by show h.next.num < h.next.succ.num; rw [Pos.num_succ]; omega, 0, .lst l.length l, 0, 0, true, false, by rw [addRow_get, if_pos rfl], rfl, rfl⟩, by simp, by simp⟩
end
theorem start_ro (P : Program) : AllRo ⟨.e, Pos.ofNat (globN P), 0, 0⟩ := fun id ⟨b, e, _⟩ => by
  rw [T.get_e] at e
  cases e
theorem handed {P : Program} {φ : Phi} {h : Hp} {w : World} {a : Option Addr} {len cap : Nat} {l : List AV} (hR : HR P φ h w) (hz : h.lim = 0) (hro : AllRo h)
    (hs : (a = none ∧ len = 0 ∧ cap = 0 ∧ l = []) ∨ ∃ b off C el fr, a = some ⟨b, off, none⟩ ∧ w.heap[b]? = some (.cells C el fr) ∧ l.length = len ∧ len ≤ cap ∧ (0 < cap → off + cap ≤ C.size) ∧ ∃ ys : List Value, ys.length = len ∧ (∀ i, i < len → C[off + i]? = ys[i]?) ∧ ∀ φ, RelL φ l ys) :
    ∃ φ' h' v, HR P φ' h' w ∧ h'.lim = 0 ∧ AllRo h' ∧ Le φ φ' ∧ Only [] h h' ∧ Rel φ' v (.slice a len cap) ∧ ArgS h' v l := by
  rcases hs with ⟨rfl, rfl, rfl, rfl⟩ | ⟨b, off, C, el, fr, rfl, hb, rfl, hle, hn, ys, hy, hC, hr⟩
  · exact ⟨φ, h, .nilSl, hR, hz, hro, Le.refl φ, .refl _ _, .nilSl, .inl ⟨rfl, rfl⟩⟩
  · exact ⟨_, addRow h l, .sl h.next 0 0 l.length l.length false 1, addRow_rel hR hz hro hb hy.symm (fun i hi => hC i (by omega)) hr, hz, addRow_ro hro, Phi.le_put (hR.next_none (.inl hz) 0), addRow_only, addRow_slice hle hn, addRow_arg⟩
end Go.Proofs.YtjhgembcdndmkaaGreatDoor.Am

namespace Go.Proofs.YtjhgembcdndmkaaGreatDoor.Am
open Go.RowKit
theorem HR.globs {P : Program} {φ : Phi} {h : Hp} {w : World} (hR : HR P φ h w) : globN P ≤ w.heap.size := by
  rcases Nat.lt_or_ge w.heap.size (globN P) with c | c
  · have := hR.inb _ _ _ _ _ (hR.glob w.heap.size c); omega
  · exact c
theorem closed_fn {P : Program} {f : FuncId} (hc : closed P f (globN P) = true) (h : Hp) : AmFn P f [] h (.bool true) h := by
  unfold closed at hc
  split at hc
  · rename_i s hs
    unfold start at hs
    split at hs
    · rename_i fr hb
      cases hs
      refine ⟨fr, hb, fun callers r q φ w g cs c0 hR hz hF hC => ?_⟩
      have hfr : ∃ fu : Fu, fr = ⟨f, .e, [.code fu.body], [], .run, false, none⟩ := by
        unfold beginFn at hb
        split at hb
        · rename_i fu _
          refine ⟨fu, ?_⟩
          cases hl : Nat.ble ([] : List AV).length fu.nargs with
          | true => rw [hl] at hb; cases hb; rfl
          | false => rw [hl] at hb; cases hb
        · cases hb
      obtain ⟨fu, hfr⟩ := hfr
      have hF0 : FrR P (phi0 P) fr g := by
        subst hfr
        have htodo : ItemsR P (phi0 P) (numT P f) [.code fu.body] g.todo := by
          have := hF.todo
          generalize g.todo = td at this ⊢
          cases this with
          | @cons _ y _ r h1 h2 =>
            cases h2
            refine .cons ?_ .nil
            cases y <;> exact h1
        have hdef : DefsR (phi0 P) [] g.defers := by
          have := hF.defers
          generalize g.defers = ds at this ⊢
          cases this
          exact .nil
        have hround : RoundR (phi0 P) none g.roundOf := by
          have := hF.round
          generalize g.roundOf = ro at this ⊢
          cases ro with
          | none => trivial
          | some b => exact this.elim
        refine ⟨hF.fn, fun t => ?_, hF.size, htodo, hdef, hF.mode, hF.kind, hround⟩
        have e : Rel φ (ev (.e : T AV) (.tmp (Pos.ofNat t))) (g.tmps.getD t Go.undef) := hF.env t
        have u : ev (.e : T AV) (.tmp (Pos.ofNat t)) = .undef := sv_undef t
        show Rel (phi0 P) (ev (.e : T AV) (.tmp (Pos.ofNat t))) (g.tmps.getD t Go.undef)
        rw [u] at e ⊢
        revert e
        generalize g.tmps.getD t Go.undef = X
        intro e
        cases e with
        | @tup _ a hl =>
          refine .tup ?_
          generalize a.toList = L at hl ⊢
          cases hl
          exact .nil
      have hR0 := start_rel (P := P) (w := w) hR.globs
      have ho := run_sounds P 40 ⟨fr, [], ⟨.e, Pos.ofNat (globN P), 0, 0⟩⟩ (phi0 P) w g [] (cs ++ c0) hR0 rfl hF0 .nil
      have hc : isTrue (run P 40 ⟨fr, [], ⟨.e, Pos.ofNat (globN P), 0, 0⟩⟩) = true := hc
      generalize run P 40 ⟨fr, [], ⟨.e, Pos.ofNat (globN P), 0, 0⟩⟩ = o at hc ho
      unfold isTrue at hc
      split at hc
      · rename_i h'
        obtain ⟨w', φ', x, r1, r2, r3, r4, r5⟩ := ho
        cases r3
        have hk : ∀ b, b < w.heap.size → w'.heap[b]? = w.heap[b]? := fun b hb => r2.keep b hb fun id g s n _ ⟨b, e, _⟩ => by
          rw [T.get_e] at e
          cases e
        have hR' := hR.grown r2.size hk
        have hA' : Adv h w φ h w' φ := Adv.grown r2.os r2.output r2.tape r2.size hk
        have back := backTo_run (fr := fr) (c0 := c0) (v := .bool true) (x := .bool true) (callers := callers) hR' hC (.bool true) hA' (fun c cs1 e => r4 c cs1 e) (fun hr hcl => by
          subst hcl
          cases hC
          obtain ⟨g', s1, s2, s3⟩ := r5 hr
          exact ⟨g', s1, s2, s3⟩)
        unfold AnsO at q
        cases hb : backTo (.bool true) callers h with
        | next s' =>
          rw [hb] at q back
          obtain ⟨g', cs', w2, φ2, q1, q2, q3, q4, q5, q6, q7⟩ := back
          exact OutR.then hR hz q1 q5 q6 q7 (q φ2 w2 g' cs' c0 q2 (q5.lim.trans hz) q3 q4)
        | done v h2 =>
          rw [hb] at q back
          rw [q]
          exact back
        | fail why => rw [hb] at q; exact q.elim
      · cases hc
    · cases hs
  · cases hc
end Go.Proofs.YtjhgembcdndmkaaGreatDoor.Am

namespace Go.Proofs.YtjhgembcdndmkaaGreatDoor.Am
open Go.RowKit
section
variable (P : Program) (env : T AV) (h : Hp)
noncomputable def nilC (x : AV) (h : Hp) : Res := match x with
  | .ptr id g off => .val (.ptr id g off) h
  | .ifc t v => .val (.ifc t v) h
  | .yield l => .val (.yield l) h
  | .fn (.func f) a b => .val (.fn (.func f) a b) h
  | _ => .fail "nilCheck"
theorem qev_nilC (x : Opd) : evalOp P (.nilCheck x) env h = nilC (ev env x) h := rfl
theorem nilC_ptr (id : Pos) (g off : Nat) : nilC (.ptr id g off) h = .val (.ptr id g off) h := rfl
noncomputable def fldA (off : Nat) (x : AV) (h : Hp) : Res := match x with
  | .ptr id g o => .val (.ptr id g (o + off)) h
  | _ => .fail "fieldAddr"
theorem qev_fld (off : Nat) (x : Opd) : evalOp P (.fieldAddr off x) env h = fldA off (ev env x) h := by
  show (match ev env x with
    | .ptr id g o => natK (Nat.add o off) fun o => Res.val (.ptr id g o) h
    | _ => .fail "fieldAddr") = _
  unfold fldA
  cases ev env x <;> simp only [natK_eq] <;> rfl
theorem fldA_ptr (off : Nat) (id : Pos) (g o : Nat) : fldA off (.ptr id g o) h = .val (.ptr id g (o + off)) h := rfl
theorem qev_extract (x : Opd) (i : Nat) : evalOp P (.extract x i) env h = (match ev env x with
  | .tup l => opt h "extract" (nth l i)
  | _ => .fail "extract what") := rfl
theorem qev_eqPtr (neg : Bool) (x y : Opd) : evalOp P (.eqPtr neg x y) env h = opt h "eqPtr" (match sameP h (ev env x) (ev env y) with
  | some b => notIf neg b
  | none => none) := rfl
theorem sameP_nil (id : Pos) (g off : Nat) : sameP h (.ptr id g off) .nilPtr = some false := rfl
theorem qev_build (zero : List AV) (parts : List (Nat × Nat × Opd)) : evalOp P (.build zero parts) env h = (match fillA env zero parts with
  | some l => .val (.agg l) h
  | none => .fail "build") := rfl
end
theorem Gro.part {h : Hp} {id : Pos} {g : Nat} {l : List AV} (b : Gro h id g l) {off n : Nat} (hn : off + n ≤ l.length) : Row h id g off ((l.drop off).take n) := by
  obtain ⟨ser, c, hi, m, fz, e, hw, hl⟩ := b.mem
  have hs : c.size = l.length := by rw [← Cells.toL_length hw, hl]
  have q := Row.of_block (off := off) (n := n) e hw b.old (Nat.zero_le _) (by omega)
  rw [hl] at q
  exact q
noncomputable def slcA (x : AV) (l r : Nat) (h : Hp) : Res := match x with
  | .sl id g off _ cap _ _ => .val (.sl id g (off + l) (r - l) (cap - l) false 1) h
  | _ => .fail "slcA"
theorem slice_ev (P : Program) {env : T AV} {h : Hp} {x : Opd} {lo hi : Option Opd} {id : Pos} {g off len cap l r : Nat} (hx : ev env x = .sl id g off len cap false 1) (hl : evO env lo 0 = some l) (hr : evO env hi len = some r) (h1 : l ≤ r) (h2 : r ≤ cap) :
    evalOp P (.sliceSl 1 x lo hi none) env h = .val (.sl id g (off + l) (r - l) (cap - l) false 1) h := by
  have e : evalOp P (.sliceSl 1 x lo hi none) env h = (match ev env x with
    | .nilSl => (match evO env lo 0, evO env hi 0, evO env none 0 with
      | some 0, some 0, some 0 => .val .nilSl h
      | _, _, _ => .fail "sliceSl nil")
    | .sl id g off len cap ex es' =>
      (match evO env lo 0, evO env hi len, evO env none cap with
      | some l, some r, some m =>
        bif Nat.beq 1 es' && Nat.ble l r && Nat.ble r m && Nat.ble m cap then
          natK (Nat.sub r l) fun n => natK (Nat.sub m l) fun c => natK (Nat.add off (Nat.mul l 1)) fun off' =>
            .val (.sl id g (bif Nat.beq l m && (bif ex then true else (none : Option Opd).isSome) then off else off') n c (bif ex then true else (none : Option Opd).isSome) 1) h
        else .fail "sliceSl bounds"
      | _, _, _ => .fail "sliceSl")
    | _ => .fail "sliceSl what") := rfl
  rw [e, hx]
  simp only [hl, hr, show evO env none cap = some cap from rfl, natK_eq, ble_iff.2 h1, ble_iff.2 h2, ble_iff.2 (Nat.le_refl cap)]
  simp
theorem evO_int {env : T AV} {y : Opd} {n d : Nat} (h : ev env y = int64 (n : Int)) : evO env (some y) d = some n := by
  show (match ev env y with | .int _ (.ofNat n) => some n | _ => none) = _
  rw [h]
theorem appendZ_new (P : Program) {env : T AV} {h : Hp} {s x : Opd} {n bytes : Nat} {z : AV} (hs : ev env s = .nilSl) (hx : ev env x = int64 n) (h0 : 0 < n) (hl : n ≤ 1073741824) (hb : bytes ≤ 4096) :
    evalOp P (.appendZ 1 bytes [z] s x) env h = .val (.sl h.next 0 0 n n false 1) (newH h fun _ => .cells (noteB bytes) (Cells.ofL (List.replicate n z)) 0 0 0 0 false false) := by
  have e : evalOp P (.appendZ 1 bytes [z] s x) env h = (match ev env x with
    | .int _ (.ofNat n) =>
      bif Nat.ble n 1073741824 && Nat.ble bytes 4096 then
        (bif Nat.beq n 0 then (match ev env s with | .sl id g off len cap ex es' => .val (.sl id g off len cap ex es') h | .nilSl => .val .nilSl h | _ => .fail "append")
        else appendSeg h 1 bytes (ev env s) n (Cells.ofL (replA n [z] [])))
      else .fail "appendZ size"
    | _ => .fail "appendZ") := rfl
  rw [e, hx, hs]
  have ok : okSize n bytes = true := by
    exact okSize_small hl hb
  show (bif Nat.ble n 1073741824 && Nat.ble bytes 4096 then (bif Nat.beq n 0 then Res.val .nilSl h else appendSeg h 1 bytes .nilSl n (Cells.ofL (replA n [z] []))) else .fail "appendZ size") = _
  rw [ble_iff.2 hl, ble_iff.2 hb, beq_false.2 (show n ≠ 0 by omega)]
  simp only [Bool.and_self, cond_true, cond_false]
  unfold appendSeg
  simp only [ok, show Nat.blt 0 1 = true from rfl, Bool.and_true, cond_true]
  unfold newCellsN
  rw [newK_newH, replA_one, List.append_nil]
theorem append_room (P : Program) {h : Hp} {v : AV} {id : Pos} {g k cap : Nat} {ex : Bool} {L l2 : List AV} {bytes : Nat} (ha : Gro h id g L) (hv : SlR h v l2) (hk : k + l2.length ≤ cap) (hL : k + l2.length ≤ L.length) (hl : k + l2.length ≤ 1073741824) (hb : bytes ≤ 4096) (hat : ∀ y ∈ l2, y.atom = true) :
    ∃ h', (∀ env s x, ev env s = .sl id g 0 k cap ex 1 → ev env x = v → evalOp P (.append 1 bytes s x) env h = .val (.sl id g 0 (k + l2.length) cap ex 1) h') ∧ Gro h' id g (L.take k ++ l2 ++ L.drop (k + l2.length)) ∧ Only [id] h h' ∧ h'.next = h.next := by
  by_cases h0 : l2 = []
  · subst h0
    refine ⟨h, fun env s x hs hx => ?_, by simpa using ha, .refl _ _, rfl⟩
    show appendA h 1 bytes (ev env s) (ev env x) = _
    rw [hs, hx]
    generalize hq : ([] : List AV) = l0 at hv
    cases hv with
    | nil => rfl
    | emp => rfl
    | mk hn r =>
      subst hq
      simp at hn
      subst hn
      rfl
  · cases hv with
    | nil => exact absurd rfl h0
    | emp => exact absurd rfl h0
    | mk hn r =>
      rename_i id2 g2 off2 n2 cap2 ex2
      subst hn
      have hpos : 0 < l2.length := List.length_pos_iff.2 h0
      obtain ⟨seg, c1, c2, c3⟩ := r.all
      have hseg : seg.size = l2.length := by rw [← Cells.toL_length c2, c3]
      have src : srcCells h 1 l2.length (.sl id2 g2 off2 l2.length cap2 ex2 1) = some seg := by
        show readN h id2 g2 off2 (l2.length * 1) = some seg
        rw [Nat.mul_one]; exact c1
      have ok : okSize (Nat.add k l2.length) bytes = true := by
        exact okSize_small (show Nat.add k l2.length ≤ _ from hl) hb
      obtain ⟨ser, c, hi, m, fz, eb, hw, hcl⟩ := ha.mem
      have hcs : c.size = L.length := by rw [← Cells.toL_length hw, hcl]
      have ats : seg.atoms = true := by
        cases seg with
        | byt n v => rfl
        | lst n L =>
          have : L = l2 := c3
          subst this
          show List.all _ _ = true
          rw [List.all_eq_true]
          exact hat
      obtain ⟨q1, q2, q3⟩ := Cells.splice_spec hw c2 (off := k) (by omega)
      refine ⟨⟨T.set id (some (.cells ser (c.splice k seg) 0 hi g (bif Nat.blt k hi then g else m) false fz)) h.heap, h.next, h.ser, h.lim⟩, fun env s x hs hx => ?_, ⟨ha.old, ser, c.splice k seg, hi, (bif Nat.blt k hi then g else m), fz, ?_, q1, ?_⟩, ⟨Nat.le_refl _, rfl, fun j _ q => ?_⟩, rfl⟩
      · show appendA h 1 bytes (ev env s) (ev env x) = _
        rw [hs, hx]
        unfold appendA
        simp only [lenA, beq_false.2 (show l2.length ≠ 0 by omega), cond_false, src]
        unfold appendSeg
        have ht : Nat.add 0 (Nat.mul k 1) = k := by show 0 + k * 1 = _; omega
        have hfit : Nat.ble (Nat.add k seg.size) c.size = true := ble_iff.2 (show k + seg.size ≤ c.size by omega)
        simp only [natK_eq, ok, show Nat.beq 1 1 = true from rfl, show Nat.blt 0 1 = true from rfl, Bool.and_true, Bool.and_self, Bool.not_true, cond_false, cond_true, show Nat.ble (Nat.add k l2.length) cap = true from ble_iff.2 hk, ht]
        unfold extendN
        simp only [eb, beq_iff.2 (rfl : g = g), show Nat.ble 0 k = true from ble_iff.2 (Nat.zero_le k), show Nat.ble k c.size = true from ble_iff.2 (by omega), ats, hfit, Bool.not_false, Bool.and_self, Bool.and_true, cond_true, T.setK_eq]
        rfl
      · show T.get id (T.set id _ h.heap) = _
        rw [T.get_set, if_pos rfl]
      · rw [q2, c3, hcl, hseg, List.append_assoc]
      · show T.get j (T.set id _ h.heap) = _
        rw [T.get_set, if_neg (by simpa using q)]
def Own (N : Nat) (h : Hp) (v : AV) (l : List AV) : Prop :=
  (l = [] ∧ v = .nilSl) ∨ ∃ id g, N ≤ id.num ∧ v = .sl id g 0 l.length l.length false 1 ∧ Gro h id g l
theorem Own.sl {N : Nat} {h : Hp} {v : AV} {l : List AV} (o : Own N h v l) : SlR h v l := by
  rcases o with ⟨q1, q2⟩ | ⟨id, g, _, q2, q3⟩
  · subst q1 q2; exact .nil
  · subst q2; exact .mk rfl q3.row
theorem Own.only {N : Nat} {h h' : Hp} {v : AV} {l : List AV} {S : List Pos} (o : Own N h v l) (m : Only S h h') (hS : ∀ id g, v = .sl id g 0 l.length l.length false 1 → id ∉ S) : Own N h' v l :=
  o.imp id fun ⟨id, g, q0, q2, q3⟩ => ⟨id, g, q0, q2, q3.only m (hS id g q2)⟩
theorem Own.more {N : Nat} {h h' : Hp} {v : AV} {l : List AV} (o : Own N h v l) (m : Only [] h h') : Own N h' v l := o.only m fun _ _ _ => by simp
theorem Own.old {N : Nat} {h : Hp} {v : AV} {l : List AV} (o : Own N h v l) : ∀ id g off n cap ex, v = .sl id g off n cap ex 1 → N ≤ id.num ∧ id.num < h.next.num := by
  intro id g off n cap ex e
  rcases o with ⟨_, q⟩ | ⟨id', g', q0, q, q3⟩
  · rw [q] at e; cases e
  · rw [q] at e; cases e; exact ⟨q0, q3.old⟩
theorem append_env (P : Program) {env env' : T AV} {h : Hp} {s s' x x' : Opd} {n bytes : Nat} (hs : ev env s = ev env' s') (hx : ev env x = ev env' x') : evalOp P (.append n bytes s x) env h = evalOp P (.append n bytes s' x') env' h := by
  show appendA h n bytes (ev env s) (ev env x) = appendA h n bytes (ev env' s') (ev env' x')
  rw [hs, hx]
theorem Own.push {N : Nat} {h : Hp} {v : AV} {l l2 : List AV} (o : Own N h v l) (P : Program) {v2 : AV} {bytes : Nat} (hv : SlR h v2 l2) (hy : ∀ y ∈ l2, y.atom = true) (hl : l.length + l2.length ≤ 1073741824) (hb : bytes ≤ 4096) (hN : N ≤ h.next.num) :
    ∃ v' h' S, (∀ env s x, ev env s = v → ev env x = v2 → evalOp P (.append 1 bytes s x) env h = .val v' h') ∧ Own N h' v' (l ++ l2) ∧ Only S h h' ∧ (∀ id ∈ S, N ≤ id.num ∧ ∃ g off n cap ex, v = .sl id g off n cap ex 1) ∧
      ∀ id g off n cap ex, v' = .sl id g off n cap ex 1 → (∃ g off n cap ex, v = .sl id g off n cap ex 1) ∨ h.next.num ≤ id.num := by
  by_cases h0 : l2 = []
  · subst h0
    refine ⟨v, h, [], fun env s x hs hx => ?_, by simpa using o, .refl _ _, by simp, fun id g off n cap ex e => .inl ⟨g, off, n, cap, ex, e⟩⟩
    show appendA h 1 bytes (ev env s) (ev env x) = _
    rw [hs, hx]
    generalize hq : ([] : List AV) = l0 at hv
    have hl0 : lenA v2 = some 0 := by
      cases hv with
      | nil => rfl
      | emp => rfl
      | mk hn r => subst hq; simp at hn; subst hn; rfl
    unfold appendA
    rw [hl0]
    rcases o with ⟨_, q⟩ | ⟨id, g, _, q, _⟩ <;> subst q <;> rfl
  · rcases o with ⟨q1, q2⟩ | ⟨id, g, q0, q2, q3⟩
    · subst q1 q2
      obtain ⟨h', e, a, o, n⟩ := append_new' P (env := .e) (h := h) (s := vl .nilSl) (x := vl v2) (bytes := bytes) rfl hv h0 (by simpa using hl) hb (.inl rfl)
      exact ⟨_, h', [], fun env s x hs hx => (append_env P (env := env) (env' := .e) (s := s) (s' := vl .nilSl) (x := x) (x' := vl v2) hs hx).trans e, .inr ⟨h.next, 0, hN, rfl, a.gro⟩, o, by simp, fun id g off n cap ex e => by cases e; exact .inr (Nat.le_refl _)⟩
    · subst q2
      obtain ⟨h', e, a, o, n⟩ := append_gro P (env := .e) (h := h) (s := vl (.sl id g 0 l.length l.length false 1)) (x := vl v2) (bytes := bytes) (l2 := l2) rfl q3 rfl hv h0 hl hb hy
      exact ⟨_, h', [id], fun env s x hs hx => (append_env P (env := env) (env' := .e) (s := s) (s' := vl (.sl id g 0 l.length l.length false 1)) (x := x) (x' := vl v2) hs hx).trans e, .inr ⟨id, g + 1, q0, by simp, a⟩, o,
        fun id' hid => by simp at hid; subst hid; exact ⟨q0, _, _, _, _, _, rfl⟩, fun id' g' off n cap ex e => by cases e; exact .inl ⟨_, _, _, _, _, rfl⟩⟩
theorem build1' (P : Program) (h : Hp) (z y : AV) (hc : y.cells = [y]) : ∃ h', (∀ env x, ev env x = y → evalOp P (.buildSl 1 1 [z] [(0, 1, x)]) env h = .val (.sl h.next 0 0 1 1 true 1) h') ∧ SlR h' (.sl h.next 0 0 1 1 true 1) [y] ∧ Only [] h h' ∧ h'.next.num = h.next.num + 1 := by
  refine ⟨newH h fun _ => .cells 0 (Cells.ofL [y]) 0 0 0 0 false false, fun env x hx => ?_, ?_, newH_only _ _ _, newH_next _ _⟩
  · have e : evalOp P (.buildSl 1 1 [z] [(0, 1, x)]) env h = (match fillA env (replA 1 [z] []) [(0, 1, x)] with
      | some l => bif Nat.blt 0 1 then newCells h (Cells.ofL l) fun id h => .val (.sl id 0 0 1 1 true 1) h else .fail "buildSl"
      | none => .fail "buildSl") := rfl
    have f : fillA env (replA 1 [z] []) [(0, 1, x)] = some [y] := by simp [fillA, replA, hx, hc]; rfl
    rw [e, f]
    show (bif Nat.blt 0 1 then newCells h (Cells.ofL _) fun id h => Res.val (.sl id 0 0 1 1 true 1) h else .fail "buildSl") = _
    rw [show Nat.blt 0 1 = true from rfl, cond_true]
    unfold newCells
    rw [newK_newH]
  · have q := newH_row (h := h) (c := Cells.ofL [y]) (Cells.ofL_spec _).1 (ser := fun _ => 0) (fz := false)
    rw [(Cells.ofL_spec _).2.1] at q
    exact .mk rfl q
noncomputable def resvH (h : Hp) (b : Blk) : Hp := ⟨T.set h.next (some b) h.heap, h.next.succ, h.ser, h.lim⟩
theorem resvH_only (h : Hp) (b : Blk) : Only [] h (resvH h b) :=
  ⟨by show h.next.num ≤ h.next.succ.num; rw [Pos.num_succ]; omega, rfl, fun id hid _ => by
    show T.get id (T.set h.next _ h.heap) = _
    rw [T.get_set, if_neg fun c => by subst c; omega]⟩
theorem resvH_next (h : Hp) (b : Blk) : (resvH h b).next.num = h.next.num + 1 := Pos.num_succ _
theorem resvH_row (h : Hp) (ser : Nat) (l : List AV) : SlR (resvH h (.cells ser (Cells.ofL l) 0 0 0 0 false false)) (.sl h.next 0 0 l.length l.length true 1) l := by
  refine .mk rfl ?_
  have hw := (Cells.ofL_spec l).1
  have hl := (Cells.ofL_spec l).2.1
  have hs : (Cells.ofL l).size = l.length := by rw [← Cells.toL_length hw, hl]
  have q := Row.of_block (h := resvH h (.cells ser (Cells.ofL l) 0 0 0 0 false false)) (id := h.next) (off := 0) (n := l.length) (c := Cells.ofL l) (by show T.get h.next (T.set h.next _ h.heap) = _; rw [T.get_set, if_pos rfl]) hw (by rw [resvH_next]; omega) (Nat.le_refl _) (by omega)
  rw [List.drop_zero, hl, List.take_length] at q
  exact q
theorem build2_resv (P : Program) {env : T AV} {id : Pos} {ser lim : Nat} {z x y : AV} {a b : Opd} (ha : ev env a = x) (hb : ev env b = y) (cx : x.cells = [x]) (cy : y.cells = [y]) :
    evalOp P (.buildSl 2 1 [z] [(0, 1, a), (1, 1, b)]) env ⟨.e, id, ser, lim⟩ = .val (.sl id 0 0 2 2 true 1) ⟨T.set id (some (.cells 0 (Cells.ofL [x, y]) 0 0 0 0 false false)) .e, id.succ, Nat.succ ser, lim⟩ := by
  have e : evalOp P (.buildSl 2 1 [z] [(0, 1, a), (1, 1, b)]) env ⟨.e, id, ser, lim⟩ = (match fillA env (replA 2 [z] []) [(0, 1, a), (1, 1, b)] with
    | some l => bif Nat.blt 0 1 then newCells ⟨.e, id, ser, lim⟩ (Cells.ofL l) fun id h => .val (.sl id 0 0 2 2 true 1) h else .fail "buildSl"
    | none => .fail "buildSl") := rfl
  have f : fillA env (replA 2 [z] []) [(0, 1, a), (1, 1, b)] = some [x, y] := by simp [fillA, replA, ha, hb, cx, cy]; rfl
  rw [e, f]
  show (bif Nat.blt 0 1 then newCells _ (Cells.ofL _) fun id h => Res.val (.sl id 0 0 2 2 true 1) h else .fail "buildSl") = _
  rw [show Nat.blt 0 1 = true from rfl, cond_true]
  unfold newCells
  rw [newK_newH]
  rfl
noncomputable def stepE (P : Program) (rec : St → Out) (i : Nat) (s : DS) (o : O) : Option DS :=
  match kindOf o.op with
  | .alloc => if wantedA o s.env = true then (match evalOp P o.op s.env ⟨.e, s.rid, s.h.ser, s.rid.num + 1⟩ with
    | .val v h' => (match T.get s.rid h'.heap with
      | some b => some ⟨s.acts, s.lds, ⟨i, s.rid, b⟩ :: s.als, s.rid.succ, setD s.env o.dst v, s.h⟩
      | none => none)
    | _ => none) else some ⟨s.acts, s.lds, s.als, s.rid.succ, setD s.env o.dst .undef, s.h⟩
  | _ => stepD P rec i s o
noncomputable def runE (P : Program) (rec : St → Out) : Nat → List O → DS → Option DS
  | _, [], s => some s
  | i, o :: l, s => match stepE P rec i s o with
    | some s' => runE P rec (i + 1) l s'
    | none => none
theorem stepE_go {P : Program} {rec : St → Out} {K : T AV → Hp → Out} {i : Nat} {s s' : DS} {o : O} (e : stepE P rec i s o = some s') (rest : List O) :
    drawnGo P rec K i s.acts s.lds s.als s.rid s.env s.h (o :: rest) = drawnGo P rec K (i + 1) s'.acts s'.lds s'.als s'.rid s'.env s'.h rest := by
  unfold stepE at e
  split at e
  · rename_i hk
    rw [show drawnGo P rec K i s.acts s.lds s.als s.rid s.env s.h (o :: rest) = _ from by unfold drawnGo; rfl]
    rw [hk]
    split at e
    · rename_i hw
      rw [hw]
      split at e
      · rename_i v h1 he
        split at e
        · rename_i b hb
          cases e
          simp only [cond_true, he, hb, setDst_eq]
        · cases e
      · cases e
    · rename_i hw
      have hw : wantedA o s.env = false := by simpa using hw
      rw [hw]
      cases e
      simp only [cond_false, setDst_eq]
  · exact stepD_go e rest
theorem runE_go {P : Program} {rec : St → Out} {K : T AV → Hp → Out} {rest : List O} : ∀ {l : List O} {i : Nat} {s s' : DS}, runE P rec i l s = some s' →
    drawnGo P rec K i s.acts s.lds s.als s.rid s.env s.h (l ++ rest) = drawnGo P rec K (i + l.length) s'.acts s'.lds s'.als s'.rid s'.env s'.h rest
  | [], i, s, s', e => by cases e; rfl
  | o :: l, i, s, s', e => by
    unfold runE at e
    split at e
    · rename_i s1 he
      rw [List.cons_append, stepE_go he, runE_go e, List.length_cons, show i + 1 + l.length = i + (l.length + 1) by omega]
    · cases e
theorem runE_app {P : Program} {rec : St → Out} : ∀ {l r : List O} {i : Nat} {s s1 : DS}, runE P rec i l s = some s1 → runE P rec i (l ++ r) s = runE P rec (i + l.length) r s1
  | [], r, i, s, s1, e => by cases e; rfl
  | o :: l, r, i, s, s1, e => by
    unfold runE at e
    show runE P rec i (o :: (l ++ r)) s = _
    rw [runE]
    split at e
    · rename_i s2 he
      rw [runE_app e, List.length_cons, show i + 1 + l.length = i + (l.length + 1) by omega]
    · cases e
theorem runDrawn_ofE {P : Program} {rec : St → Out} {l : List O} {env env' : T AV} {h h' : Hp} {acts : List Actor} {lds : List Ld} {rid : Pos} (e : runE P rec 0 l ⟨[], [], [], h.next, env, ⟨h.heap, skipIds l h.next, h.ser, h.lim⟩⟩ = some ⟨acts, lds, [], rid, env', h'⟩) :
    runDrawn P rec l env h = some (env', h') := by
  unfold runDrawn
  have q := runE_go (K := kD) (rest := []) e
  rw [List.append_nil] at q
  have q : drawnGo P rec kD 0 [] [] [] h.next env ⟨h.heap, skipIds l h.next, h.ser, h.lim⟩ l = drawnGo P rec kD (0 + l.length) acts lds [] rid env' h' [] := q
  rw [q]
  rfl
theorem nth0 (x : AV) (l : List AV) : nth (x :: l) 0 = some x := rfl
theorem nth1 (x y : AV) (l : List AV) : nth (x :: y :: l) 1 = some y := rfl
theorem nth2 (x y z : AV) (l : List AV) : nth (x :: y :: z :: l) 2 = some z := rfl
noncomputable def badsO : List O → List String
  | [] => []
  | o :: l => match o.op with
    | .bad w => w :: badsO l
    | _ => badsO l
noncomputable def badsC : C → List String
  | .region l => badsO l
  | .drawn l => badsO l
  | .seq a b => badsC a ++ badsC b
  | .cond _ a b => badsC a ++ badsC b
  | .block _ b => badsC b
  | .loop b => badsC b
  | .scope b => badsC b
  | .rangeFunc _ _ a b => badsC a ++ badsC b
  | .bad w => [w]
  | _ => []
noncomputable def badN (P : Program) (f : FuncId) (i : Nat) : String := match compFn P f with
  | some fu => (badsC fu.body).getD i ""
  | none => ""
end Go.Proofs.YtjhgembcdndmkaaGreatDoor.Am

namespace Go.Proofs.YtjhgembcdndmkaaGreatDoor.Am
open Go.RowKit
noncomputable def strOf (b : List UInt8) : AV := .str b.length (pack b)
theorem strOf_rel (φ : Phi) (s : ByteArray) : Rel φ (strOf s.data.toList) (.string s) := .str (unpack_pack _).symm (pack_lt _)
def treeOK (P : Program) : Nat → TypeId → Bool
  | 0, _ => false
  | d + 1, t => match P.underlying t with
    | some .bool | some (.int _) | some .string => true
    | some (.slice e) => treeOK P d e && decide (0 < P.cellsOf e)
    | some (.struct fs) => fs.toList.all (fun f => treeOK P d f.type) && tiles P fs.toList 0 == some (P.cellsOf t)
    | _ => false
where
  tiles (P : Program) : List Field → Nat → Option Nat
    | [], n => some n
    | f :: l, n => if f.offset = n then tiles P l (n + P.cellsOf f.type) else none
mutual
inductive Seen {H : Type} (h : Hp) : DataW H → List AV → Prop where
  | bool (b : Bool) : Seen h (.lit (.bool b)) [.bool b]
  | int (k : IntKind) (n : Int) : Seen h (.lit (.int k n)) [.int k n]
  | str (b : List UInt8) : Seen h (.lit (.string b)) [strOf b]
  | nil : Seen h .nil [.nilSl]
  | emp {id : Pos} {g off es : Nat} : Seen h (.slice [] []) [.sl id g off 0 0 true es]
  | slice {elems spare : List (DataW H)} {id : Pos} {es : Nat} {L1 L2 : List AV} (h1 : SeenL h (some es) elems L1) (h2 : SeenL h (some es) spare L2) (hf : Fix h id (L1 ++ L2)) :
      Seen h (.slice elems spare) [.sl id 0 0 elems.length (elems.length + spare.length) true es]
  | agg {parts : List (DataW H)} {L : List AV} (h1 : SeenL h none parts L) : Seen h (.agg parts) L
inductive SeenL {H : Type} (h : Hp) : Option Nat → List (DataW H) → List AV → Prop where
  | nil (o : Option Nat) : SeenL h o [] []
  | cons {o : Option Nat} {d : DataW H} {l : List AV} {ds : List (DataW H)} {L : List AV} (h1 : Seen h d l) (hl : ∀ es, o = some es → l.length = es) (h2 : SeenL h o ds L) : SeenL h o (d :: ds) (l ++ L)
end
mutual
theorem Seen.more {H : Type} {h h' : Hp} (m : Only [] h h') {d : DataW H} {l : List AV} : Seen h d l → Seen h' d l
  | .bool b => .bool b
  | .int k n => .int k n
  | .str b => .str b
  | .nil => .nil
  | .emp => .emp
  | .slice h1 h2 hf => .slice (h1.more m) (h2.more m) (hf.only m (by simp))
  | .agg h1 => .agg (h1.more m)
theorem SeenL.more {H : Type} {h h' : Hp} (m : Only [] h h') {o : Option Nat} {d : List (DataW H)} {l : List AV} : SeenL h o d l → SeenL h' o d l
  | .nil o => .nil o
  | .cons h1 hl h2 => .cons (h1.more m) hl (h2.more m)
end
theorem addr_add (a : Addr) (m k : Nat) : (a.add m).add k = a.add (m + k) := by
  unfold Addr.add
  by_cases hm : m = 0
  · subst hm; simp
  · by_cases hk : k = 0
    · subst hk; simp
    · rw [if_neg hm, if_neg hk, if_neg (by omega)]
      simp [Nat.add_assoc]
theorem cells_get {w : World} {base : Nat} {a : Addr} {n : Nat} {cs : List Value} (h : w.cells? base a n = some cs) : cs.length = n ∧ ∀ j, j < n → w.cell? (a.add j) = cs[j]? := by
  unfold World.cells? at h
  split at h
  · exact ⟨by simpa using mapM_some_length h, fun j hj => mapM_some_get h j j (by simp [hj])⟩
  · cases h
theorem addRow_relφ {P : Program} {φ : Phi} {h : Hp} {w : World} {l : List AV} {ys : List Value} {b off : Nat} {C : Array Value} {el : TypeId} {fr : Nat × Nat} (hR : HR P φ h w) (hz : h.lim = 0) (hro : AllRo h) (hb : w.heap[b]? = some (.cells C el fr)) (hl : l.length = ys.length) (hC : ∀ i, i < ys.length → C[off + i]? = ys[i]?) (hr : RelL φ l ys) :
    HR P (φ.put h.next 0 (b, (off : Int), C.size)) (addRow h l) w := by
  have blt : b < w.heap.size := by
    rcases Nat.lt_or_ge b w.heap.size with q | q
    · exact q
    · rw [Array.getElem?_eq_none q] at hb; cases hb
  have nn := hR.next_none (.inl hz)
  have hle : Le φ (φ.put h.next 0 (b, (off : Int), C.size)) := Phi.le_put (nn 0)
  have hin : ∀ {id g r}, φ.put h.next 0 (b, (off : Int), C.size) id g = some r → (id = h.next ∧ g = 0 ∧ r = (b, (off : Int), C.size)) ∨ (id ≠ h.next ∧ φ id g = some r) := fun {id g r} e => by
    by_cases c : id = h.next
    · subst c
      by_cases c : g = 0
      · subst c; rw [Phi.put_same] at e; cases e; exact .inl ⟨rfl, rfl, rfl⟩
      · rw [Phi.put_gen c, nn] at e; cases e
    · rw [Phi.put_id c] at e; exact .inr ⟨c, e⟩
  have old : ∀ {id}, Old h.next.num h.lim id → Old (addRow h l).next.num (addRow h l).lim id := fun {id} o => o.mono addRow_only.next
  have new : Old (addRow h l).next.num (addRow h l).lim h.next := .inl (by show h.next.num < h.next.succ.num; rw [Pos.num_succ]; omega)
  refine ⟨fun id x e => ?_, fun id g r e => ?_, fun id x e => ?_, fun id g y s n id' g' s' n' _ _ => .inr ⟨addRow_ro hro _, addRow_ro hro _⟩, fun id g y s n e => ?_, fun g hg => hle _ _ _ (hR.glob g hg)⟩
  · rw [addRow_get] at e
    split at e
    · rename_i c
      cases e
      subst c
      refine ⟨⟨rfl, Nat.le_refl _, fun q => absurd q (Nat.lt_irrefl _), fun j hj => ?_, fun j j' b1 s1 n1 s2 n2 k1 k2 k3 k4 e1 e2 => ?_, fun j k1 k2 => ?_⟩, fun _ _ _ _ _ _ _ _ _ _ _ => .inl rfl⟩
      · rw [Phi.put_gen (by omega)]; exact nn j
      · rcases hin e1 with ⟨_, _, q1⟩ | ⟨q, _⟩
        · rcases hin e2 with ⟨_, _, q2⟩ | ⟨q, _⟩
          · cases q1; cases q2; rfl
          · exact absurd rfl q
        · exact absurd rfl q
      · have : j = 0 := by omega
        subst this
        refine ⟨b, off, C.size, C, el, fr, Phi.put_same _ _ _ _, hb, rfl, fun c => (by cases c), fun i v _ hi2 hv => ?_⟩
        have hv : l[i]? = some v := hv
        have hil : i < l.length := by
          rcases Nat.lt_or_ge i l.length with q | q
          · exact q
          · rw [List.getElem?_eq_none q] at hv; cases hv
        obtain ⟨x, hx, rx⟩ := (hr.mono hle).get hv
        exact ⟨off + i, x, by omega, by rw [hC i (by omega), hx], rx⟩
    · rename_i c
      exact BR.mono hle (fun g r k => by rwa [Phi.put_id c] at k) (fun _ _ _ _ _ => rfl) (hR.blk id x e)
  · rcases hin e with ⟨q, _, _⟩ | ⟨_, q⟩
    · subst q; exact new
    · exact old (hR.used _ _ _ q)
  · rw [addRow_get] at e
    split at e
    · rename_i c; subst c; exact new
    · exact old (hR.dom _ _ e)
  · rcases hin e with ⟨_, _, q⟩ | ⟨_, q⟩
    · cases q; exact blt
    · exact hR.inb _ _ _ _ _ q
theorem addRow_fix {h : Hp} {l : List AV} : Fix (addRow h l) h.next l :=
  ⟨by show h.next.num < h.next.succ.num; rw [Pos.num_succ]; omega, 0, .lst l.length l, 0, 0, true, false, by rw [addRow_get, if_pos rfl], rfl, rfl⟩
def Opens {H : Type} (P : Program) (w : World) (φ : Phi) (h : Hp) (cs : List Value) (s : Hp → List AV → Prop) : Prop :=
  ∃ φ' h' l, HR P φ' h' w ∧ h'.lim = 0 ∧ AllRo h' ∧ Le φ φ' ∧ Only [] h h' ∧ RelL φ' l cs ∧ s h' l
section
variable {H : Type} {enc : TypeId × Value → H} {P : Program} {w : World} {base : Nat} {held : Bool}
theorem open_elems {n es : Nat} {e : TypeId} {a : Addr}
    (ih : ∀ (cs : List Value) (x : DataW H × List MemPlace), DataW.trod enc P w base (fun _ => true) held n e cs = some x → ∀ φ h, HR P φ h w → h.lim = 0 → AllRo h → Opens (H := H) P w φ h cs fun h' l => Seen h' x.1 l ∧ l.length = cs.length) :
    ∀ (ds : List (DataW H × List MemPlace)) (i0 : Nat), (∀ i, i < ds.length → (w.cells? base (a.add ((i0 + i) * es)) es).bind (DataW.trod enc P w base (fun _ => true) held n e) = ds[i]?) → ∀ φ h, HR P φ h w → h.lim = 0 → AllRo h →
      ∃ φ' h' L ys, HR P φ' h' w ∧ h'.lim = 0 ∧ AllRo h' ∧ Le φ φ' ∧ Only [] h h' ∧ RelL φ' L ys ∧ SeenL h' (some es) (ds.map (·.1)) L ∧ ys.length = ds.length * es ∧ ∀ j, j < ys.length → w.cell? (a.add (i0 * es + j)) = ys[j]?
  | [], i0, hd, φ, h, hR, hz, hro => ⟨φ, h, [], [], hR, hz, hro, Le.refl φ, .refl _ _, .nil, .nil _, by simp, fun j hj => by simp at hj⟩
  | d :: ds, i0, hd, φ, h, hR, hz, hro => by
    have h0 := hd 0 (by simp)
    simp only [Nat.add_zero, List.getElem?_cons_zero] at h0
    obtain ⟨cs, hcs, ht⟩ := Option.bind_eq_some_iff.1 h0
    obtain ⟨hlen, hget⟩ := cells_get hcs
    obtain ⟨φ1, h1, l, r1, r2, r3, r4, r5, r6, r7, r8⟩ := ih cs d ht φ h hR hz hro
    obtain ⟨φ2, h2, L, ys, s1, s2, s3, s4, s5, s6, s7, s8, s9⟩ := open_elems ih ds (i0 + 1) (fun i hi => by
      have := hd (i + 1) (by simp; omega)
      rw [List.getElem?_cons_succ] at this
      rw [← this, show i0 + 1 + i = i0 + (i + 1) by omega]) φ1 h1 r1 r2 r3
    refine ⟨φ2, h2, l ++ L, cs ++ ys, s1, s2, s3, r4.trans s4, r5.trans s5, (r6.mono s4).append s6, .cons (r7.more s5) (fun es' e' => by cases e'; omega) s7, by simp [hlen, s8, Nat.add_mul]; omega, fun j hj => ?_⟩
    by_cases hjl : j < cs.length
    · rw [List.getElem?_append_left hjl, ← hget j (by omega), addr_add]
    · have hj' : j - cs.length < ys.length := by simp at hj; omega
      rw [List.getElem?_append_right (by omega), ← s9 _ hj', show i0 * es + j = (i0 + 1) * es + (j - cs.length) by rw [Nat.add_mul]; omega]
theorem open_fields {n : Nat} {cs : List Value} :
    ∀ (fs : List Field) (off : Nat) (xs : List (DataW H × List MemPlace)),
      (∀ f ∈ fs, ∀ (cs : List Value) (x : DataW H × List MemPlace), DataW.trod enc P w base (fun _ => true) held n f.type cs = some x → ∀ φ h, HR P φ h w → h.lim = 0 → AllRo h → Opens (H := H) P w φ h cs fun h' l => Seen h' x.1 l ∧ l.length = cs.length) →
      treeOK.tiles P fs off = some cs.length → xs.length = fs.length → (∀ (i : Nat) (f : Field), fs[i]? = some f → DataW.trod enc P w base (fun _ => true) held n f.type ((cs.drop f.offset).take (P.cellsOf f.type)) = xs[i]?) → ∀ φ h, HR P φ h w → h.lim = 0 → AllRo h →
      Opens (H := H) P w φ h (cs.drop off) fun h' l => SeenL h' none (xs.map (·.1)) l
  | [], off, xs, _, ht, hx, _, φ, h, hR, hz, hro => by
    have ht : some off = some cs.length := ht
    cases ht
    have : xs = [] := List.length_eq_zero_iff.1 (by simpa using hx)
    subst this
    refine ⟨φ, h, [], hR, hz, hro, Le.refl φ, .refl _ _, ?_, .nil _⟩
    rw [List.drop_length]
    exact .nil
  | f :: fs, off, xs, ih, ht, hx, hf, φ, h, hR, hz, hro => by
    unfold treeOK.tiles at ht
    split at ht
    · rename_i ho
      match xs, hx with
      | x :: xs, hx =>
        have h0 := hf 0 f (by simp)
        simp only [List.getElem?_cons_zero] at h0
        obtain ⟨φ1, h1, l, r1, r2, r3, r4, r5, r6, r7, r8⟩ := ih f (by simp) _ x h0 φ h hR hz hro
        obtain ⟨φ2, h2, L, s1, s2, s3, s4, s5, s6, s7⟩ := open_fields fs (off + P.cellsOf f.type) xs (fun g hg => ih g (by simp [hg])) ht (by simpa using hx) (fun i g hg => by
          have := hf (i + 1) g (by simpa using hg)
          rwa [List.getElem?_cons_succ] at this) φ1 h1 r1 r2 r3
        refine ⟨φ2, h2, l ++ L, s1, s2, s3, r4.trans s4, r5.trans s5, ?_, .cons (r7.more s5) (fun _ c => by cases c) s7⟩
        rw [ho] at r6
        have e : cs.drop off = (cs.drop off).take (P.cellsOf f.type) ++ cs.drop (off + P.cellsOf f.type) := by
          rw [← List.drop_drop, List.take_append_drop]
        rw [e]
        exact (r6.mono s4).append s6
    · cases ht
theorem RelL.len {φ : Phi} {l : List AV} {r : List Value} (h : RelL φ l r) : l.length = r.length := h.length
theorem open_tree : ∀ (d n : Nat) (t : TypeId) (cs : List Value) (x : DataW H × List MemPlace), treeOK P d t = true → DataW.trod enc P w base (fun _ => true) held n t cs = some x → ∀ φ h, HR P φ h w → h.lim = 0 → AllRo h →
    Opens (H := H) P w φ h cs fun h' l => Seen h' x.1 l ∧ l.length = cs.length
  | 0, _, _, _, _, hk, _, _, _, _, _, _ => by cases hk
  | d + 1, n, t, cs, x, hk, ht, φ, h, hR, hz, hro => by
    unfold treeOK at hk
    split at hk
    · rename_i hd
      obtain ⟨b, rfl, rfl⟩ := DataW.trod_bool hd ht
      exact ⟨φ, h, [.bool b], hR, hz, hro, Le.refl φ, .refl _ _, .cons (.bool b) .nil, .bool b, rfl⟩
    · rename_i k hd
      obtain ⟨b, rfl, rfl, _⟩ := DataW.trod_int hd ht
      exact ⟨φ, h, [.int k b], hR, hz, hro, Le.refl φ, .refl _ _, .cons (.int k b) .nil, .int k b, rfl⟩
    · rename_i hd
      obtain ⟨b, rfl, rfl, _⟩ := DataW.trod_string hd ht
      exact ⟨φ, h, [strOf b.data.toList], hR, hz, hro, Le.refl φ, .refl _ _, .cons (strOf_rel φ b) .nil, .str _, rfl⟩
    · rename_i e hd
      rw [Bool.and_eq_true, decide_eq_true_eq] at hk
      rcases DataW.trod_slice hd ht with ⟨rfl, rfl⟩ | ⟨a, len, cap, elems, rest, m, rfl, rfl, rfl, hb, hlc, hcm, hel, he, hr, _⟩
      · exact ⟨φ, h, [.nilSl], hR, hz, hro, Le.refl φ, .refl _ _, .cons .nilSl .nil, .nil, rfl⟩
      · obtain ⟨hrl, hr⟩ := hr rfl
        have ih := fun cs x q => open_tree d m e cs x hk.1 q
        by_cases hc : cap = 0
        · subst hc
          have hl0 : len = 0 := by omega
          subst hl0
          have e1 : elems = [] := List.length_eq_zero_iff.1 hel
          have e2 : rest = [] := List.length_eq_zero_iff.1 (by omega)
          subst e1 e2
          exact ⟨φ, h, [.sl Pos.first 0 0 0 0 true (P.cellsOf e)], hR, hz, hro, Le.refl φ, .refl _ _, .cons .sl0 .nil, .emp, rfl⟩
        · obtain ⟨φ1, h1, L1, ys1, r1, r2, r3, r4, r5, r6, r7, r8, r9⟩ := open_elems (a := a) (es := P.cellsOf e) ih elems 0 (fun i hi => by rw [Nat.zero_add]; exact he i (by omega)) φ h hR hz hro
          obtain ⟨φ2, h2, L2, ys2, s1, s2, s3, s4, s5, s6, s7, s8, s9⟩ := open_elems (a := a) (es := P.cellsOf e) ih rest len (fun i hi => hr i (by omega)) φ1 h1 r1 r2 r3
          have hlen : (ys1 ++ ys2).length = cap * P.cellsOf e := by
            rw [List.length_append, r8, s8, hel, hrl, ← Nat.add_mul, show len + (cap - len) = cap by omega]
          have hcell : ∀ j, j < (ys1 ++ ys2).length → w.cell? (a.add j) = (ys1 ++ ys2)[j]? := fun j hj => by
            by_cases hjl : j < ys1.length
            · rw [List.getElem?_append_left hjl, ← r9 j hjl, Nat.zero_mul, Nat.zero_add]
            · have hj' : j - ys1.length < ys2.length := by simp at hj; omega
              rw [List.getElem?_append_right (by omega), ← s9 _ hj', show len * P.cellsOf e + (j - ys1.length) = j by rw [r8, hel] at hjl ⊢; omega]
          have hpos : 0 < (ys1 ++ ys2).length := by rw [hlen]; exact Nat.mul_pos (by omega) hk.2
          have hc0 := hcell 0 hpos
          have hsome : (ys1 ++ ys2)[0]? ≠ none := by
            rw [List.getElem?_eq_getElem hpos]; simp
          obtain ⟨b, off, spot⟩ := a
          have hadd0 : (⟨b, off, spot⟩ : Addr).add 0 = ⟨b, off, spot⟩ := rfl
          rw [hadd0] at hc0
          obtain ⟨C, el, fr, hheap, hsp⟩ : ∃ C el fr, w.heap[b]? = some (.cells C el fr) ∧ spot = none := by
            unfold World.cell? at hc0
            cases hq : w.heap[b]? with
            | none => simp only [hq] at hc0; exact absurd hc0.symm hsome
            | some o =>
              simp only [hq] at hc0
              cases o with
              | cells C el fr =>
                refine ⟨C, el, fr, rfl, ?_⟩
                cases spot with
                | none => rfl
                | some s => exact absurd hc0.symm hsome
              | _ => exact absurd hc0.symm hsome
          subst hsp
          have hC : ∀ j, j < (ys1 ++ ys2).length → C[off + j]? = (ys1 ++ ys2)[j]? := fun j hj => by
            rw [← hcell j hj]
            have : (⟨b, off, none⟩ : Addr).add j = ⟨b, off + j, none⟩ := by
              unfold Addr.add
              split
              · rename_i h0; subst h0; rfl
              · rfl
            rw [this]
            unfold World.cell?
            simp [hheap]
          have hRL := (r6.mono s4).append s6
          have hR3 := addRow_relφ s1 s2 s3 hheap hRL.length hC hRL
          have hle3 := Phi.le_put (s1.next_none (.inl s2) 0) (r := (b, (off : Int), C.size))
          have hsz : off + cap * P.cellsOf e ≤ C.size := by
            have := hC ((ys1 ++ ys2).length - 1) (by omega)
            rcases Nat.lt_or_ge (off + ((ys1 ++ ys2).length - 1)) C.size with q | q
            · omega
            · rw [Array.getElem?_eq_none q, List.getElem?_eq_getElem (by omega)] at this; cases this
          refine ⟨_, addRow h2 (L1 ++ L2), [.sl h2.next 0 0 len cap true (P.cellsOf e)], hR3, s2, addRow_ro s3, (r4.trans s4).trans hle3, (r5.trans s5).trans addRow_only, .cons ?_ .nil, ?_, rfl⟩
          · exact .sl (Phi.put_same _ _ _ _) rfl rfl hlc (Nat.le_refl _) hlc (fun _ => rfl) fun _ => ⟨by simp, hsz⟩
          · have q := Seen.slice (h := addRow h2 (L1 ++ L2)) ((r7.more s5).more addRow_only) (s7.more addRow_only) addRow_fix
            simp only [List.length_map, hel, hrl] at q
            rw [show len + (cap - len) = cap by omega] at q
            exact q
    · rename_i fs hd
      rw [Bool.and_eq_true] at hk
      obtain ⟨xs, m, rfl, rfl, hl, hxs, hf⟩ := DataW.trod_struct hd ht
      have htile : treeOK.tiles P fs.toList 0 = some (P.cellsOf t) := by simpa using hk.2
      obtain ⟨φ1, h1, L, r1, r2, r3, r4, r5, r6, r7⟩ := open_fields (cs := cs) fs.toList 0 xs (fun f hf cs x q => open_tree d m f.type cs x (List.all_eq_true.1 hk.1 f hf) q) (by rw [htile, hl]) (by simpa using hxs) (fun i f hq => hf i f (by simpa using hq)) φ h hR hz hro
      rw [List.drop_zero] at r6
      exact ⟨φ1, h1, L, r1, r2, r3, r4, r5, r6, .agg r7, r6.length⟩
    · cases hk
end
end Go.Proofs.YtjhgembcdndmkaaGreatDoor.Am

namespace Go.Proofs.YtjhgembcdndmkaaGreatDoor.Am
open Go.RowKit
section
variable {P : Program} {F : FuncId} {env env' env1 : T AV} {h h' h1 h2 : Hp} {o : Sg}
theorem Dos.regionY {l1 l2 : List O} {y : O} {l : Pos} {args : List AV} {v : AV} (e1 : runOps P l1 env h = some (env1, h1)) (ho : y.ok = true) (hw : wantedA y env1 = true) (he : evalOp P y.op env1 h1 = .round l args)
    (hr : RoundFn P l args h1 v h2) (e2 : runOps P l2 (setD env1 y.dst v) h2 = some (env', h')) : Dos P F (.region (l1 ++ y :: l2)) env h .go [] env' h' := dos_go fun cx k => by
  have q := leads_ops (cx := cx) (k := k) (rest := []) e2
  rw [List.append_nil] at q
  exact leads_enter.trans ((leads_ops e1).trans ((leads_round ho hw he hr).trans (q.trans leads_opsNil)))
theorem AmFn.dosE {f : FuncId} {args : List AV} {v : AV} {res : List RV} {n : Nat} {b : C} {vs : List AV} {rs : List Pos} (ho : o = .go ∨ o = .ret) (hc : compFn P f = some ⟨res, n, b⟩) (hl : args.length ≤ n)
    (hb : Dos P f b (setArgs .e 0 args) h o (rs.map AD.mark) env' h') (hd : ∀ r ∈ rs, ∃ s, T.get r h'.heap = some (.dfr s)) (hn : rs.Nodup)
    (hm : mapO (result1 env' (remMs h' rs)) res = some vs) (hv : tupleA vs = v) : AmFn P f args h v (remMs h' rs) := by
  rcases ho with ho | ho
  · subst ho
    refine AmFn.ends hc hl fun callers => ?_
    have q := hb (cxF f callers) [] (.inr ⟨rfl, rfl⟩)
    refine Leads.ends q ?_
    intro x qx
    refine Ans.step (noRec_sound P) (s' := ⟨⟨f, env', [], rs.map AD.mark ++ [], .ret, false, none⟩, callers, h'⟩) rfl ?_
    clear q hb
    induction rs generalizing h' with
    | nil =>
      refine ans_out (noRec_sound P) ?_
      have e : step P noRec ⟨⟨f, env', [], [], .ret, false, none⟩, callers, h'⟩ = backTo (tupleA vs) callers h' := by
        unfold step
        simp only [unwindA, hc, show mapO (result1 env' h') res = some vs from hm, cond_false]
      rw [show (([] : List Pos).map AD.mark ++ []) = [] from rfl, e, hv]; exact qx
    | cons r rs ih =>
      obtain ⟨s, hs⟩ := hd r (by simp)
      have hn' := List.nodup_cons.1 hn
      refine Ans.step (noRec_sound P) (s' := ⟨⟨f, env', [], rs.map AD.mark ++ [], .ret, false, none⟩, callers, remH h' r⟩) ?_ (ih (fun r' hr' => ?_) hn'.2 hm qx)
      · show step P noRec ⟨⟨f, env', [], AD.mark r :: (rs.map AD.mark ++ []), .ret, false, none⟩, callers, h'⟩ = _
        unfold step
        simp only [unwindA, hs, T.setK_eq]
        rfl
      · obtain ⟨s', hs'⟩ := hd r' (by simp [hr'])
        refine ⟨s', ?_⟩
        show T.get r' (T.set r none h'.heap) = _
        rw [T.get_set, if_neg (show ¬ r' = r from fun c => hn'.1 (by rw [← c]; exact hr'))]
        exact hs'
  · subst ho
    exact AmFn.dosM hc hl hb hd hn hm hv
end
theorem cmp_str (a b : List UInt8) : strCmp a.length (pack a) b.length (pack b) = cmpL a b := by
  rw [strCmp_eq _ _ _ _ (pack_lt a) (pack_lt b), unpack_pack, unpack_pack]
theorem bin_eqlS (kd : EK) (no : Bool) (a b : List UInt8) : binA .eql kd no (strOf a) (strOf b) = some (.bool (decide (a = b))) := by
  show (match ordOp .eql (strCmp a.length (pack a) b.length (pack b)) with | some b => some (AV.bool b) | none => none) = _
  rw [cmp_str]
  show some (AV.bool (match cmpL a b with | .eq => true | _ => false)) = _
  have q := cmpL_eq a b
  by_cases c : a = b
  · subst c
    rw [beq_self_eq_true] at q
    revert q
    cases cmpL a a <;> simp
  · rw [show (a == b) = false from by simpa using c] at q
    revert q
    cases cmpL a b <;> simp [c]
theorem bin_neqS (kd : EK) (no : Bool) (a b : List UInt8) : binA .neq kd no (strOf a) (strOf b) = some (.bool (decide (a ≠ b))) := by
  have q := bin_eqlS kd no a b
  have q : (match ordOp .eql (strCmp a.length (pack a) b.length (pack b)) with | some b => some (AV.bool b) | none => none) = some (AV.bool (decide (a = b))) := q
  show (match ordOp .neq (strCmp a.length (pack a) b.length (pack b)) with | some b => some (AV.bool b) | none => none) = _
  revert q
  cases strCmp a.length (pack a) b.length (pack b) <;> (unfold ordOp; by_cases c : a = b <;> simp [c])
theorem qev_lenS (P : Program) (env : T AV) (h : Hp) (x : Opd) : evalOp P (.lenS x) env h = (match ev env x with
    | .str n _ => .val (.int .i64 (n : Int)) h
    | _ => .fail "len") := rfl
theorem strOf_nil : strOf [] = .str 0 0 := rfl
theorem strOf_inj {a b : List UInt8} (e : strOf a = strOf b) : a = b := by
  have e : AV.str a.length (pack a) = AV.str b.length (pack b) := e
  injection e with e1 e2
  rw [← unpack_pack a, ← unpack_pack b, e1, e2]
theorem strOf_atom (l : List (List UInt8)) : ∀ y ∈ l.map strOf, y.atom = true := fun y hy => by
  obtain ⟨_, _, rfl⟩ := List.mem_map.1 hy; rfl
theorem append_newB (P : Program) {env : T AV} {h : Hp} {s x : Opd} {v : AV} {l : List AV} {bytes : Nat} (hx : ev env x = v) (hv : SlR h v l) (h0 : l ≠ []) (ok : okSize l.length bytes = true) (hs : ev env s = .nilSl) :
    ∃ h', evalOp P (.append 1 bytes s x) env h = .val (.sl h.next 0 0 l.length l.length false 1) h' ∧ Arr h' h.next l ∧ Only [] h h' ∧ h'.next.num = h.next.num + 1 := by
  have e : evalOp P (.append 1 bytes s x) env h = appendA h 1 bytes (ev env s) (ev env x) := rfl
  rw [e, hx]
  cases hv with
  | nil => exact absurd rfl h0
  | emp => exact absurd rfl h0
  | mk hn r =>
    rename_i id g off n cap ex
    subst hn
    have hpos : 0 < l.length := List.length_pos_iff.2 h0
    obtain ⟨c, c1, c2, c3⟩ := r.all
    have src : srcCells h 1 l.length (.sl id g off l.length cap ex 1) = some c := by
      show readN h id g off (l.length * 1) = some c
      rw [Nat.mul_one]; exact c1
    refine ⟨newH h fun _ => .cells (noteB bytes) c 0 0 0 0 false false, ?_, ⟨by rw [newH_next]; omega, _, _, _, newH_get _ _, c2, c3⟩, newH_only _ _ _, newH_next _ _⟩
    unfold appendA
    simp only [lenA, beq_false.2 (show l.length ≠ 0 by omega), cond_false, src]
    rw [hs]
    unfold appendSeg
    simp only [ok, show Nat.blt 0 1 = true from rfl, Bool.and_true, cond_true]
    unfold newCellsN
    rw [newK_newH]
theorem append_none (P : Program) {env : T AV} {h : Hp} {s x : Opd} {v : AV} {bytes : Nat} (hx : ev env x = v) (hv : SlR h v []) (hs : (ev env s).atom = true ∧ (ev env s = .nilSl ∨ ∃ id g off n cap ex, ev env s = .sl id g off n cap ex 1)) :
    evalOp P (.append 1 bytes s x) env h = .val (ev env s) h := by
  show appendA h 1 bytes (ev env s) (ev env x) = _
  rw [hx]
  generalize hq : ([] : List AV) = l0 at hv
  have hl0 : lenA v = some 0 := by
    cases hv with
    | nil => rfl
    | emp => rfl
    | mk hn r => subst hq; simp at hn; subst hn; rfl
  unfold appendA
  rw [hl0]
  rcases hs.2 with e | ⟨id, g, off, n, cap, ex, e⟩ <;> rw [e] <;> rfl
theorem build0 (P : Program) (h : Hp) (z : AV) : ∃ h', (∀ env, evalOp P (.buildSl 0 1 [z] []) env h = .val (.sl h.next 0 0 0 0 true 1) h') ∧ Only [] h h' ∧ h'.next.num = h.next.num + 1 := by
  refine ⟨newH h fun _ => .cells 0 (Cells.ofL []) 0 0 0 0 false false, fun env => ?_, newH_only _ _ _, newH_next _ _⟩
  have e : evalOp P (.buildSl 0 1 [z] []) env h = (match fillA env (replA 0 [z] []) [] with
    | some l => bif Nat.blt 0 1 then newCells h (Cells.ofL l) fun id h => .val (.sl id 0 0 0 0 true 1) h else .fail "buildSl"
    | none => .fail "buildSl") := rfl
  have f : fillA env (replA 0 [z] []) [] = some [] := rfl
  rw [e, f]
  show (bif Nat.blt 0 1 then newCells h (Cells.ofL _) fun id h => Res.val (.sl id 0 0 0 0 true 1) h else .fail "buildSl") = _
  rw [show Nat.blt 0 1 = true from rfl, cond_true]
  unfold newCells
  rw [newK_newH]
def AV.isNil : AV → Bool
  | .nilSl => true
  | _ => false
theorem sl_eql (P : Program) {env : T AV} {h : Hp} {x : Opd} {v : AV} {l : List AV} (hx : ev env x = v) (hv : SlR h v l) : evalOp P (.bin .eql .slice true x (vl .nilSl)) env h = .val (.bool v.isNil) h := by
  show opt h "bin" (binA .eql .slice true (ev env x) .nilSl) = _
  rw [hx]
  cases hv <;> rfl
noncomputable def skipH (h : Hp) : Hp := ⟨h.heap, h.next.succ, h.ser, h.lim⟩
theorem skipH_only (h : Hp) : Only [] h (skipH h) := ⟨by show h.next.num ≤ h.next.succ.num; rw [Pos.num_succ]; omega, rfl, fun _ _ _ => rfl⟩
theorem skipH_next (h : Hp) : (skipH h).next.num = h.next.num + 1 := Pos.num_succ _
noncomputable def layH (h : Hp) (id : Pos) (b : Blk) : Hp := ⟨T.set id (some b) h.heap, h.next, h.ser, h.lim⟩
theorem layH_only (h : Hp) (id : Pos) (b : Blk) : Only [id] h (layH h id b) := ⟨Nat.le_refl _, rfl, fun j _ q => by
  show T.get j (T.set id _ h.heap) = _
  rw [T.get_set, if_neg (by simpa using q)]⟩
theorem layH_arr {h : Hp} {id : Pos} (hid : id.num < h.next.num) (ser : Nat) (l : List AV) : Arr (layH h id (.cells ser (Cells.ofL l) 0 0 0 0 false false)) id l :=
  ⟨hid, ser, Cells.ofL l, false, by show T.get id (T.set id _ h.heap) = _; rw [T.get_set, if_pos rfl], (Cells.ofL_spec l).1, (Cells.ofL_spec l).2.1⟩
theorem box_resv (P : Program) {env : T AV} {id : Pos} {ser lim : Nat} {x : Opd} {v : AV} (hx : ev env x = v) :
    evalOp P (.box x) env ⟨.e, id, ser, lim⟩ = .val (.ptr id 0 0) ⟨T.set id (some (.cells 0 (Cells.ofL v.cells) 0 0 0 0 false false)) .e, id.succ, Nat.succ ser, lim⟩ := by
  rw [qev_boxL, hx]
  rfl
theorem runDrawn_ofE1 {P : Program} {rec : St → Out} {l : List O} {env env' : T AV} {h h' : Hp} {acts : List Actor} {lds : List Ld} {rid : Pos} {a : Al} (e : runE P rec 0 l ⟨[], [], [], h.next, env, ⟨h.heap, skipIds l h.next, h.ser, h.lim⟩⟩ = some ⟨acts, lds, [a], rid, env', h'⟩) :
    runDrawn P rec l env h = some (env', layH h' a.id a.b) := by
  unfold runDrawn
  have q := runE_go (K := kD) (rest := []) e
  rw [List.append_nil] at q
  have q : drawnGo P rec kD 0 [] [] [] h.next env ⟨h.heap, skipIds l h.next, h.ser, h.lim⟩ l = drawnGo P rec kD (0 + l.length) acts lds [a] rid env' h' [] := q
  rw [q]
  show outD (insAll [a] h'.heap fun t => kD env' ⟨t, h'.next, h'.ser, h'.lim⟩) = _
  unfold insAll
  rw [T.setK_eq]
  rfl
end Go.Proofs.YtjhgembcdndmkaaGreatDoor.Am

namespace Go.Proofs.YtjhgembcdndmkaaGreatDoor.Am
open Go.RowKit
theorem num_ne {a b : Pos} (h : a.num ≠ b.num) : a ≠ b := fun e => h (by rw [e])
theorem Only.weak {S : List Pos} {h h' : Hp} (a : Only S h h') {N : Nat} (hN : ∀ id ∈ S, N ≤ id.num) {h0 : Hp} (hb : Only [] h0 h) (hn : h0.next.num ≤ N) : Only [] h0 h' :=
  ((hb.mono (S' := S) (by simp)).trans a).mono fun id hid => .inr (Nat.le_trans hn (hN id hid))
def GoesOver (P : Program) (g : FuncId) (captured : List AV) (n : Nat) (y : Nat → List AV) (M : Pos → Prop) (h : Hp) : Prop :=
  ∀ (l : Pos) (S : List Pos) (J : Nat → Hp → Prop) (Q : Hp → Prop) (K : Nat) (h0 : Hp), K ≤ n → Only [] h h0 → (∀ id ∈ S, ¬ M id ∧ id.num < h0.next.num) →
    (∀ i h1 h2 S', J i h1 → Only S' h1 h2 → (∀ id ∈ S', h0.next.num ≤ id.num) → J i h2) → (∀ h1 h2 S', Q h1 → Only S' h1 h2 → (∀ id ∈ S', h0.next.num ≤ id.num) → Q h2) →
    (∀ i h1, i < K → J i h1 → h0.next.num ≤ h1.next.num → ∃ h', RoundFn P l (y i) h1 (.bool true) h' ∧ J (i + 1) h' ∧ Only S h1 h') → (K = n → ∀ h1, J K h1 → Q h1) →
    (K < n → ∀ h1, J K h1 → h0.next.num ≤ h1.next.num → ∃ h', RoundFn P l (y K) h1 (.bool false) h' ∧ Q h' ∧ Only S h1 h') → J 0 h0 →
    ∃ h', AmFn P g (.yield l :: captured) h0 (.tup []) h' ∧ Q h' ∧ Only S h0 h'
theorem GoesOver.only {P : Program} {g : FuncId} {captured : List AV} {n : Nat} {y : Nat → List AV} {M : Pos → Prop} {h h' : Hp} (a : GoesOver P g captured n y M h) (m : Only [] h h') : GoesOver P g captured n y M h' :=
  fun l S J Q K h0 hK ho => a l S J Q K h0 hK (m.trans ho)
theorem Dos.over {P : Program} {F : FuncId} {env : T AV} {h : Hp} {f : Opd} {params : List Pos} {assign body : C} {g : FuncId} {captured : List AV} {n : Nat} {y : Nat → List AV} {M : Pos → Prop} (hg : GoesOver P g captured n y M h) (hM : ∀ id, M id → id.num < h.next.num)
    (hk : okCall P g = true) (hf : ev env f = .fn (.func g) [] captured) {E : Nat → T AV} (hass : ∀ i h1, i < n → ∃ env0, setParams env params (y i) = some env0 ∧ Dos P F assign env0 h1 .go [] (E i) h1)
    {S : List Pos} (hS : ∀ id ∈ S, ¬ M id ∧ id.num < h.next.num) {K : Nat} (hK : K ≤ n) {j : C} {o : Sg} (hj : (o = .ret ∧ j = .ret) ∨ ∃ i, o = .exit i ∧ j = .exit i) (J : Nat → Hp → Prop) (Q : Hp → Prop)
    (hJ : ∀ i h1 h2 S', J i h1 → Only S' h1 h2 → (∀ id ∈ S', h.next.num ≤ id.num) → J i h2) (hQ : ∀ h1 h2 S', Q h1 → Only S' h1 h2 → (∀ id ∈ S', h.next.num ≤ id.num) → Q h2)
    (hb : ∀ i h1, i < K → J i h1 → h.next.num ≤ h1.next.num → ∃ env2 h2, Dos P F body (E i) h1 .go [] env2 h2 ∧ J (i + 1) h2 ∧ Only S h1 h2) (hq : K = n → ∀ h1, J K h1 → Q h1)
    (hs : K < n → ∀ h1, J K h1 → h.next.num ≤ h1.next.num → ∃ env2 h2, Dos P F body (E K) h1 o [] env2 h2 ∧ Q h2 ∧ Only S h1 h2) (j0 : J 0 h) :
    ∃ h', Dos P F (.rangeFunc f params assign body) env h (if K = n then .go else o) [.mark h.next] env h' ∧ Q h' ∧ Only S h h' ∧ (∃ s, T.get h.next h'.heap = some (.dfr s)) ∧ h.next.num + 2 ≤ h'.next.num := by
  have od : Only [] h (dfrH h) := newH_only _ _ _
  have nd : (dfrH h).next.num = h.next.num + 1 := newH_next _ _
  have ol : Only [] (dfrH h) (loopH (dfrH h) F env params assign body h.next) := newH_only _ _ _
  have nl : (loopH (dfrH h) F env params assign body h.next).next.num = (dfrH h).next.num + 1 := newH_next _ _
  have gd : T.get h.next (dfrH h).heap = some (.dfr h.ser) := newH_get _ _
  have gl : LoopAt (loopH (dfrH h) F env params assign body h.next) (dfrH h).next .ready F env params assign body := ⟨by omega, _, _, newH_get _ _⟩
  have gd' : T.get h.next (loopH (dfrH h) F env params assign body h.next).heap = some (.dfr h.ser) := (ol.same _ (by omega) (by simp)).trans gd
  have hl0 : ∀ st : Hp, st = loopH (dfrH h) F env params assign body h.next → loopH (dfrH h) F env params assign body h.next = st := fun _ e => e.symm
  generalize hhl : loopH (dfrH h) F env params assign body h.next = hl at *
  have odl : Only [] h hl := od.trans ol
  generalize hlp : (dfrH h).next = l at *
  have hlS : l ∉ S := fun c => by have := (hS _ c).2; omega
  have hS2 : ∀ id ∈ l :: S, ¬ M id ∧ id.num < hl.next.num := fun id hid => by
    rcases List.mem_cons.1 hid with q | q
    · subst q; exact ⟨fun c => by have := hM _ c; omega, by omega⟩
    · have := hS _ q; exact ⟨this.1, by omega⟩
  have jc : ∀ i h1 h2 st, J i h1 → h2 = putL h1 l st → J i h2 := fun i h1 h2 st q e => by
    subst e
    exact hJ i h1 _ [l] q (putL_only _ _ _) (by intro id hid; simp at hid; subst hid; omega)
  obtain ⟨h3, hgo, ⟨q1, q2⟩, o3⟩ := hg l (l :: S) (fun i h1 => LoopAt h1 l .ready F env params assign body ∧ J i h1)
    (fun h3 => Q h3 ∧ ((K = n ∧ LoopAt h3 l .ready F env params assign body) ∨ (K < n ∧ LoopJ h3 l .done j))) K hl hK odl hS2
    (fun i h1 h2 S' jq oq hS' => ⟨jq.1.only oq fun c => by have := hS' _ c; omega, hJ i h1 h2 S' jq.2 oq fun id hid => by have := hS' id hid; omega⟩)
    (fun h1 h2 S' jq oq hS' => ⟨hQ h1 h2 S' jq.1 oq fun id hid => by have := hS' id hid; omega, jq.2.imp (fun q => ⟨q.1, q.2.only oq fun c => by have := hS' _ c; omega⟩) fun q => ⟨q.1, q.2.only oq fun c => by have := hS' _ c; omega⟩⟩)
    (fun i h1 hi jq hn => by
      obtain ⟨x, ji⟩ := jq
      obtain ⟨env0, e0, d1⟩ := hass i h1 (by omega)
      have n1 := (putL_only h1 l .busy).next
      obtain ⟨env2, h2, d2, j2, o2⟩ := hb i (putL h1 l .busy) hi (jc i h1 _ .busy ji rfl) (by omega)
      have x2 := (x.put .busy).only o2 hlS
      refine ⟨putL h2 l .ready, RoundFn.dos x e0 d1 x d2 x2, ⟨x2.put .ready, jc _ _ _ .ready j2 rfl⟩, ?_⟩
      exact (((putL_only h1 l .busy).mono fun id hid => .inl (by simp at hid; simp [hid])).trans (o2.mono fun id hid => .inl (by simp [hid]))).trans ((putL_only h2 l .ready).mono fun id hid => .inl (by simp at hid; simp [hid])))
    (fun e h1 jq => ⟨hq e h1 jq.2, .inl ⟨e, jq.1⟩⟩)
    (fun hi h1 jq hn => by
      obtain ⟨x, ji⟩ := jq
      obtain ⟨env0, e0, d1⟩ := hass K h1 hi
      have n1 := (putL_only h1 l .busy).next
      obtain ⟨env2, h2, d2, j2, o2⟩ := hs hi (putL h1 l .busy) (jc K h1 _ .busy ji rfl) (by omega)
      have x2 := (x.put .busy).only o2 hlS
      have hQj : Q (putJ h2 l j) := hQ h2 _ [l] j2 (putJ_only _ _ _) (by intro id hid; simp at hid; subst hid; omega)
      refine ⟨putJ h2 l j, RoundFn.jumps hj x e0 d1 x d2 x2, ⟨hQj, .inr ⟨hi, x2.jump j⟩⟩, ?_⟩
      exact (((putL_only h1 l .busy).mono fun id hid => .inl (by simp at hid; simp [hid])).trans (o2.mono fun id hid => .inl (by simp [hid]))).trans ((putJ_only h2 l j).mono fun id hid => .inl (by simp at hid; simp [hid])))
    ⟨gl, hJ 0 h hl [] j0 odl (by simp)⟩
  have on := putL_only h3 l .exhausted
  have n3 := o3.next
  have nn := on.next
  have dfrFin : ∃ s, T.get h.next (putL h3 l .exhausted).heap = some (.dfr s) := by
    refine ⟨h.ser, ?_⟩
    rw [on.same _ (by omega) (by simp only [List.mem_singleton]; exact num_ne (by omega)), o3.same _ (by omega) (by
      simp only [List.mem_cons, not_or]
      exact ⟨num_ne (by omega), fun c => by have := (hS _ c).2; omega⟩)]
    exact gd'
  have onlyFin : Only S h (putL h3 l .exhausted) := by
    refine ((odl.mono (S' := l :: S) (by simp)).trans (o3.trans (on.mono fun id hid => .inl (by simp at hid; simp [hid])))).mono fun id hid => ?_
    rcases List.mem_cons.1 hid with q | q
    · exact .inr (by rw [q]; omega)
    · exact .inl q
  have qFin : Q (putL h3 l .exhausted) := hQ h3 _ [l] q1 on (by intro id hid; simp at hid; subst hid; omega)
  have hgo' : AmFn P g ([] ++ (.yield (dfrH h).next :: captured)) (loopH (dfrH h) F env params assign body h.next) (.tup []) h3 := by
    rw [hlp, hhl]; exact hgo
  rcases q2 with ⟨e, q2⟩ | ⟨e, q2⟩
  · rw [← hlp] at q2
    have d := Dos.range (P := P) (F := F) (env := env) (h := h) (f := f) (params := params) (assign := assign) (body := body) hk hf hgo' q2
    rw [hlp] at d
    rw [if_pos e]
    exact ⟨_, d, qFin, onlyFin, dfrFin, by omega⟩
  · rw [← hlp] at q2
    have d := Dos.rangeJ (P := P) (F := F) (env := env) (h := h) (f := f) (params := params) (assign := assign) (body := body) (hj.imp (fun q => q.2) fun ⟨i, q⟩ => ⟨i, q.2⟩) hk hf hgo' q2
    rw [hlp] at d
    have eo : Sg.ofC j = o := by
      rcases hj with ⟨a, b⟩ | ⟨i, a, b⟩ <;> subst a b <;> rfl
    rw [eo] at d
    rw [if_neg (by omega)]
    exact ⟨_, d, qFin, onlyFin, dfrFin, by omega⟩
end Go.Proofs.YtjhgembcdndmkaaGreatDoor.Am

namespace Go.Proofs.YtjhgembcdndmkaaGreatDoor.Am
open Go.RowKit
def tilesB (P : Program) : List Field → Nat → Option Nat
  | [], n => some n
  | f :: l, n => if f.offset = n then tilesB P l (n + P.cellsOf f.type) else none
def treeB (P : Program) : Nat → TypeId → Bool
  | 0, _ => false
  | d + 1, t => match P.underlying t with
    | some .bool | some (.int _) | some .string => true
    | some (.slice e) => treeB P d e && decide (0 < P.cellsOf e)
    | some (.array n e) => treeB P d e && decide (P.cellsOf t = n * P.cellsOf e)
    | some (.struct fs) => fs.toList.all (fun f => treeB P d f.type) && tilesB P fs.toList 0 == some (P.cellsOf t)
    | _ => false
def Tree (P : Program) (h : Hp) : Nat → TypeId → List AV → Prop
  | 0, _, _ => False
  | d + 1, t, l => match P.underlying t with
    | some .bool => ∃ b, l = [.bool b]
    | some (.int k) => ∃ n, l = [.int k n] ∧ (Lit.int k n).wf = true
    | some .string => ∃ b, l = [strOf b] ∧ b.length ≤ reachBytes
    | some (.slice e) => l = [.nilSl] ∨ (∃ id g off, l = [.sl id g off 0 0 true (P.cellsOf e)]) ∨
        ∃ id n cap L, l = [.sl id 0 0 n cap true (P.cellsOf e)] ∧ n ≤ cap ∧ cap * P.bytesOf e ≤ reachBytes ∧ Fix h id L ∧ L.length = cap * P.cellsOf e ∧ ∀ i, i < cap → Tree P h d e ((L.drop (i * P.cellsOf e)).take (P.cellsOf e))
    | some (.array n e) => l.length = n * P.cellsOf e ∧ ∀ i, i < n → Tree P h d e ((l.drop (i * P.cellsOf e)).take (P.cellsOf e))
    | some (.struct fs) => l.length = P.cellsOf t ∧ ∀ f, f ∈ fs.toList → Tree P h d f.type ((l.drop f.offset).take (P.cellsOf f.type))
    | _ => False
theorem Tree.more {P : Program} {h h' : Hp} (m : Only [] h h') : ∀ {d : Nat} {t : TypeId} {l : List AV}, Tree P h d t l → Tree P h' d t l
  | 0, _, _, a => a
  | d + 1, t, l, a => by
    unfold Tree at a ⊢
    split
    · rename_i hd; rw [hd] at a; exact a
    · rename_i hd; rw [hd] at a; exact a
    · rename_i hd; rw [hd] at a; exact a
    · rename_i e hd
      rw [hd] at a
      rcases a with a | a | ⟨id, n, cap, L, a1, a2, a3, a4, a5, a6⟩
      · exact .inl a
      · exact .inr (.inl a)
      · exact .inr (.inr ⟨id, n, cap, L, a1, a2, a3, a4.only m (by simp), a5, fun i hi => (a6 i hi).more m⟩)
    · rename_i n e hd
      rw [hd] at a
      exact ⟨a.1, fun i hi => (a.2 i hi).more m⟩
    · rename_i fs hd
      rw [hd] at a
      exact ⟨a.1, fun f hf => (a.2 f hf).more m⟩
    · rename_i h1 h2 h3 h4 h5 h6
      split at a <;> simp_all
section
variable {H : Type} {enc : TypeId × Value → H} {P : Program} {w : World} {base : Nat} {held : Bool}
theorem weights_all {e : TypeId} : ∀ {ds : List (DataW H)}, (∀ n ∈ DataW.weightsAll P e ds, n ≤ reachBytes) → ∀ d ∈ ds, ∀ n ∈ d.weights P e, n ≤ reachBytes
  | [], _, d, hd, _, _ => by cases hd
  | x :: ds, h, d, hd, n, hn => by
    unfold DataW.weightsAll at h
    rcases List.mem_cons.1 hd with q | q
    · subst q; exact h n (List.mem_append_left _ hn)
    · exact weights_all (fun m hm => h m (List.mem_append_right _ hm)) d q n hn
theorem weights_each : ∀ {ts : List TypeId} {ds : List (DataW H)}, (∀ n ∈ DataW.weightsEach P ts ds, n ≤ reachBytes) → ∀ (i : Nat) t d, ts[i]? = some t → ds[i]? = some d → ∀ n ∈ d.weights P t, n ≤ reachBytes :=
  fun h _ _ _ ht hd n hn => h n (DataW.weights_mem_each ht hd n hn)
theorem open_elemsT {n es d : Nat} {e : TypeId} {a : Addr}
    (ih : ∀ (cs : List Value) (x : DataW H × List MemPlace), DataW.trod enc P w base (fun _ => true) held n e cs = some x → (∀ n ∈ x.1.weights P e, n ≤ reachBytes) → ∀ φ h, HR P φ h w → h.lim = 0 → AllRo h → Opens (H := H) P w φ h cs fun h' l => Tree P h' d e l ∧ l.length = cs.length) :
    ∀ (ds : List (DataW H × List MemPlace)) (i0 : Nat), (∀ x ∈ ds, ∀ n ∈ x.1.weights P e, n ≤ reachBytes) → (∀ i, i < ds.length → (w.cells? base (a.add ((i0 + i) * es)) es).bind (DataW.trod enc P w base (fun _ => true) held n e) = ds[i]?) → ∀ φ h, HR P φ h w → h.lim = 0 → AllRo h →
      ∃ φ' h' L ys, HR P φ' h' w ∧ h'.lim = 0 ∧ AllRo h' ∧ Le φ φ' ∧ Only [] h h' ∧ RelL φ' L ys ∧ (∀ i, i < ds.length → Tree P h' d e ((L.drop (i * es)).take es)) ∧ ys.length = ds.length * es ∧ ∀ j, j < ys.length → w.cell? (a.add (i0 * es + j)) = ys[j]?
  | [], i0, hw, hd, φ, h, hR, hz, hro => ⟨φ, h, [], [], hR, hz, hro, Le.refl φ, .refl _ _, .nil, fun i hi => by simp at hi, by simp, fun j hj => by simp at hj⟩
  | x :: ds, i0, hw, hd, φ, h, hR, hz, hro => by
    have h0 := hd 0 (by simp)
    simp only [Nat.add_zero, List.getElem?_cons_zero] at h0
    obtain ⟨cs, hcs, ht⟩ := Option.bind_eq_some_iff.1 h0
    obtain ⟨hlen, hget⟩ := cells_get hcs
    obtain ⟨φ1, h1, l, r1, r2, r3, r4, r5, r6, r7, r8⟩ := ih cs x ht (hw x (by simp)) φ h hR hz hro
    obtain ⟨φ2, h2, L, ys, s1, s2, s3, s4, s5, s6, s7, s8, s9⟩ := open_elemsT ih ds (i0 + 1) (fun y hy => hw y (by simp [hy])) (fun i hi => by
      have := hd (i + 1) (by simp; omega)
      rw [List.getElem?_cons_succ] at this
      rw [← this, show i0 + 1 + i = i0 + (i + 1) by omega]) φ1 h1 r1 r2 r3
    have hll : l.length = es := by omega
    refine ⟨φ2, h2, l ++ L, cs ++ ys, s1, s2, s3, r4.trans s4, r5.trans s5, (r6.mono s4).append s6, fun i hi => ?_, by simp [hlen, s8, Nat.add_mul]; omega, fun j hj => ?_⟩
    · cases i with
      | zero =>
        rw [Nat.zero_mul, List.drop_zero, List.take_append_of_le_length (by omega), List.take_of_length_le (by omega)]
        exact r7.more s5
      | succ i =>
        rw [List.drop_append, List.drop_eq_nil_of_le (by rw [hll, Nat.add_mul]; omega), List.nil_append, hll, show (i + 1) * es - es = i * es by rw [Nat.add_mul]; omega]
        exact s7 i (by simpa using hi)
    · by_cases hjl : j < cs.length
      · rw [List.getElem?_append_left hjl, ← hget j (by omega), addr_add]
      · have hj' : j - cs.length < ys.length := by simp at hj; omega
        rw [List.getElem?_append_right (by omega), ← s9 _ hj', show i0 * es + j = (i0 + 1) * es + (j - cs.length) by rw [Nat.add_mul]; omega]
theorem open_fieldsT {n d : Nat} {cs : List Value} :
    ∀ (fs : List Field) (off : Nat) (xs : List (DataW H × List MemPlace)),
      (∀ (i : Nat) f x, fs[i]? = some f → xs[i]? = some x → ∀ n ∈ x.1.weights P f.type, n ≤ reachBytes) →
      (∀ f ∈ fs, ∀ (cs : List Value) (x : DataW H × List MemPlace), DataW.trod enc P w base (fun _ => true) held n f.type cs = some x → (∀ n ∈ x.1.weights P f.type, n ≤ reachBytes) → ∀ φ h, HR P φ h w → h.lim = 0 → AllRo h → Opens (H := H) P w φ h cs fun h' l => Tree P h' d f.type l ∧ l.length = cs.length) →
      tilesB P fs off = some cs.length → xs.length = fs.length → (∀ (i : Nat) (f : Field), fs[i]? = some f → DataW.trod enc P w base (fun _ => true) held n f.type ((cs.drop f.offset).take (P.cellsOf f.type)) = xs[i]?) → ∀ φ h, HR P φ h w → h.lim = 0 → AllRo h →
      Opens (H := H) P w φ h (cs.drop off) fun h' l => ∀ f ∈ fs, off ≤ f.offset ∧ Tree P h' d f.type ((l.drop (f.offset - off)).take (P.cellsOf f.type))
  | [], off, xs, _, _, ht, hx, _, φ, h, hR, hz, hro => by
    have ht : some off = some cs.length := ht
    cases ht
    refine ⟨φ, h, [], hR, hz, hro, Le.refl φ, .refl _ _, ?_, fun f hf => by cases hf⟩
    rw [List.drop_length]
    exact .nil
  | f :: fs, off, xs, hw, ih, ht, hx, hf, φ, h, hR, hz, hro => by
    unfold tilesB at ht
    split at ht
    · rename_i ho
      match xs, hx with
      | x :: xs, hx =>
        have h0 := hf 0 f (by simp)
        simp only [List.getElem?_cons_zero] at h0
        obtain ⟨φ1, h1, l, r1, r2, r3, r4, r5, r6, r7, r8⟩ := ih f (by simp) _ x h0 (hw 0 f x (by simp) (by simp)) φ h hR hz hro
        obtain ⟨φ2, h2, L, s1, s2, s3, s4, s5, s6, s7⟩ := open_fieldsT fs (off + P.cellsOf f.type) xs (fun i g y hg hy => hw (i + 1) g y (by simpa using hg) (by simpa using hy)) (fun g hg => ih g (by simp [hg])) ht (by simpa using hx) (fun i g hg => by
          have := hf (i + 1) g (by simpa using hg)
          rwa [List.getElem?_cons_succ] at this) φ1 h1 r1 r2 r3
        have hle : off + P.cellsOf f.type ≤ cs.length := by
          clear s7 s6 ih hf h0 r6 r8 hw hx
          have mono : ∀ (fs : List Field) (k m : Nat), tilesB P fs k = some m → k ≤ m := by
            intro fs
            induction fs with
            | nil => intro k m e; cases e; exact Nat.le_refl _
            | cons g fs ih =>
              intro k m e
              unfold tilesB at e
              split at e
              · have := ih _ _ e; omega
              · cases e
          exact mono _ _ _ ht
        have hll : l.length = P.cellsOf f.type := by
          rw [r8, List.length_take, List.length_drop, ho]; omega
        refine ⟨φ2, h2, l ++ L, s1, s2, s3, r4.trans s4, r5.trans s5, ?_, fun g hg => ?_⟩
        · rw [ho] at r6
          have e : cs.drop off = (cs.drop off).take (P.cellsOf f.type) ++ cs.drop (off + P.cellsOf f.type) := by
            rw [← List.drop_drop, List.take_append_drop]
          rw [e]
          exact (r6.mono s4).append s6
        · rcases List.mem_cons.1 hg with q | q
          · subst q
            refine ⟨by omega, ?_⟩
            rw [ho, Nat.sub_self, List.drop_zero, List.take_append_of_le_length (by omega), List.take_of_length_le (by omega)]
            exact r7.more s5
          · obtain ⟨q1, q2⟩ := s7 g q
            refine ⟨by omega, ?_⟩
            rw [List.drop_append, List.drop_eq_nil_of_le (by omega), List.nil_append, hll, show g.offset - off - P.cellsOf f.type = g.offset - (off + P.cellsOf f.type) by omega]
            exact q2
    · cases ht
theorem open_partsT {n d es : Nat} {e : TypeId} {cs : List Value}
    (ih : ∀ (cs : List Value) (x : DataW H × List MemPlace), DataW.trod enc P w base (fun _ => true) held n e cs = some x → (∀ n ∈ x.1.weights P e, n ≤ reachBytes) → ∀ φ h, HR P φ h w → h.lim = 0 → AllRo h → Opens (H := H) P w φ h cs fun h' l => Tree P h' d e l ∧ l.length = cs.length) :
    ∀ (xs : List (DataW H × List MemPlace)) (i0 : Nat), (∀ x ∈ xs, ∀ n ∈ x.1.weights P e, n ≤ reachBytes) → cs.length = (i0 + xs.length) * es → (∀ i, i < xs.length → DataW.trod enc P w base (fun _ => true) held n e ((cs.drop ((i0 + i) * es)).take es) = xs[i]?) → ∀ φ h, HR P φ h w → h.lim = 0 → AllRo h →
      Opens (H := H) P w φ h (cs.drop (i0 * es)) fun h' l => ∀ i, i < xs.length → Tree P h' d e ((l.drop (i * es)).take es)
  | [], i0, hw, hl, hd, φ, h, hR, hz, hro => by
    refine ⟨φ, h, [], hR, hz, hro, Le.refl φ, .refl _ _, ?_, fun i hi => by simp at hi⟩
    rw [List.drop_eq_nil_of_le (by rw [hl, List.length_nil, Nat.add_zero]; exact Nat.le_refl _)]
    exact .nil
  | x :: xs, i0, hw, hl, hd, φ, h, hR, hz, hro => by
    have h0 := hd 0 (by simp)
    simp only [Nat.add_zero, List.getElem?_cons_zero] at h0
    obtain ⟨φ1, h1, l, r1, r2, r3, r4, r5, r6, r7, r8⟩ := ih _ x h0 (hw x (by simp)) φ h hR hz hro
    obtain ⟨φ2, h2, L, s1, s2, s3, s4, s5, s6, s7⟩ := open_partsT (es := es) (cs := cs) ih xs (i0 + 1) (fun y hy => hw y (by simp [hy])) (by rw [hl]; simp; congr 1; omega) (fun i hi => by
      have := hd (i + 1) (by simp; omega)
      rw [List.getElem?_cons_succ] at this
      rw [← this, show i0 + 1 + i = i0 + (i + 1) by omega]) φ1 h1 r1 r2 r3
    have hcl : (i0 + 1) * es ≤ cs.length := by
      rw [hl]
      exact Nat.mul_le_mul_right _ (by rw [List.length_cons]; omega)
    have hll : l.length = es := by
      rw [r8, List.length_take, List.length_drop]
      rw [Nat.add_mul, Nat.one_mul] at hcl
      omega
    refine ⟨φ2, h2, l ++ L, s1, s2, s3, r4.trans s4, r5.trans s5, ?_, fun i hi => ?_⟩
    · have e1 : cs.drop (i0 * es) = (cs.drop (i0 * es)).take es ++ cs.drop ((i0 + 1) * es) := by
        rw [show (i0 + 1) * es = i0 * es + es by rw [Nat.add_mul, Nat.one_mul], ← List.drop_drop, List.take_append_drop]
      rw [e1]
      exact (r6.mono s4).append s6
    · cases i with
      | zero =>
        rw [Nat.zero_mul, List.drop_zero, List.take_append_of_le_length (by omega), List.take_of_length_le (by omega)]
        exact r7.more s5
      | succ i =>
        rw [List.drop_append, List.drop_eq_nil_of_le (by rw [hll, Nat.add_mul]; omega), List.nil_append, hll, show (i + 1) * es - es = i * es by rw [Nat.add_mul]; omega]
        exact s7 i (by simpa using hi)
theorem open_treeT : ∀ (d n : Nat) (t : TypeId) (cs : List Value) (x : DataW H × List MemPlace), treeB P d t = true → DataW.trod enc P w base (fun _ => true) held n t cs = some x → (∀ n ∈ x.1.weights P t, n ≤ reachBytes) → ∀ φ h, HR P φ h w → h.lim = 0 → AllRo h →
    Opens (H := H) P w φ h cs fun h' l => Tree P h' d t l ∧ l.length = cs.length
  | 0, _, _, _, _, hk, _, _, _, _, _, _, _ => by cases hk
  | d + 1, n, t, cs, x, hk, ht, hwt, φ, h, hR, hz, hro => by
    unfold treeB at hk
    unfold Tree
    split at hk
    · rename_i hd
      obtain ⟨b, rfl, rfl⟩ := DataW.trod_bool hd ht
      exact ⟨φ, h, [.bool b], hR, hz, hro, Le.refl φ, .refl _ _, .cons (.bool b) .nil, ⟨b, rfl⟩, rfl⟩
    · rename_i k hd
      obtain ⟨b, rfl, rfl, hwf⟩ := DataW.trod_int hd ht
      exact ⟨φ, h, [.int k b], hR, hz, hro, Le.refl φ, .refl _ _, .cons (.int k b) .nil, ⟨b, rfl, hwf⟩, rfl⟩
    · rename_i hd
      obtain ⟨b, rfl, rfl, _⟩ := DataW.trod_string hd ht
      exact ⟨φ, h, [strOf b.data.toList], hR, hz, hro, Le.refl φ, .refl _ _, .cons (strOf_rel φ b) .nil, ⟨b.data.toList, rfl, hwt _ (by simp [DataW.weights])⟩, rfl⟩
    · rename_i e hd
      rw [Bool.and_eq_true, decide_eq_true_eq] at hk
      rcases DataW.trod_slice hd ht with ⟨rfl, rfl⟩ | ⟨a, len, cap, elems, rest, m, rfl, rfl, rfl, hb, hlc, hcm, hel, he, hr, _⟩
      · exact ⟨φ, h, [.nilSl], hR, hz, hro, Le.refl φ, .refl _ _, .cons .nilSl .nil, .inl rfl, rfl⟩
      · obtain ⟨hrl, hr⟩ := hr rfl
        have ih := fun cs x q => open_treeT d m e cs x hk.1 q
        have hwt : ∀ n ∈ ((elems.map (·.1)).length + (rest.map (·.1)).length) * P.bytesOf e :: (DataW.weightsAll P e (elems.map (·.1)) ++ DataW.weightsAll P e (rest.map (·.1))), n ≤ reachBytes := by
          intro n hn
          refine hwt n ?_
          unfold DataW.weights
          rw [hd]
          exact hn
        have hwc : cap * P.bytesOf e ≤ reachBytes := by
          have := hwt _ (List.mem_cons_self)
          rw [List.length_map, List.length_map, hel, hrl, show len + (cap - len) = cap by omega] at this
          exact this
        have hw1 : ∀ x ∈ elems, ∀ n ∈ x.1.weights P e, n ≤ reachBytes := fun x hx => weights_all (fun n hn => hwt n (List.mem_cons_of_mem _ (List.mem_append_left _ hn))) x.1 (List.mem_map_of_mem hx)
        have hw2 : ∀ x ∈ rest, ∀ n ∈ x.1.weights P e, n ≤ reachBytes := fun x hx => weights_all (fun n hn => hwt n (List.mem_cons_of_mem _ (List.mem_append_right _ hn))) x.1 (List.mem_map_of_mem hx)
        by_cases hc : cap = 0
        · subst hc
          have hl0 : len = 0 := by omega
          subst hl0
          have e1 : elems = [] := List.length_eq_zero_iff.1 hel
          have e2 : rest = [] := List.length_eq_zero_iff.1 (by omega)
          subst e1 e2
          exact ⟨φ, h, [.sl Pos.first 0 0 0 0 true (P.cellsOf e)], hR, hz, hro, Le.refl φ, .refl _ _, .cons .sl0 .nil, .inr (.inl ⟨_, _, _, rfl⟩), rfl⟩
        · obtain ⟨φ1, h1, L1, ys1, r1, r2, r3, r4, r5, r6, r7, r8, r9⟩ := open_elemsT (a := a) (es := P.cellsOf e) ih elems 0 hw1 (fun i hi => by rw [Nat.zero_add]; exact he i (by omega)) φ h hR hz hro
          obtain ⟨φ2, h2, L2, ys2, s1, s2, s3, s4, s5, s6, s7, s8, s9⟩ := open_elemsT (a := a) (es := P.cellsOf e) ih rest len hw2 (fun i hi => hr i (by omega)) φ1 h1 r1 r2 r3
          have hlen : (ys1 ++ ys2).length = cap * P.cellsOf e := by
            rw [List.length_append, r8, s8, hel, hrl, ← Nat.add_mul, show len + (cap - len) = cap by omega]
          have hcell : ∀ j, j < (ys1 ++ ys2).length → w.cell? (a.add j) = (ys1 ++ ys2)[j]? := fun j hj => by
            by_cases hjl : j < ys1.length
            · rw [List.getElem?_append_left hjl, ← r9 j hjl, Nat.zero_mul, Nat.zero_add]
            · have hj' : j - ys1.length < ys2.length := by simp at hj; omega
              rw [List.getElem?_append_right (by omega), ← s9 _ hj', show len * P.cellsOf e + (j - ys1.length) = j by rw [r8, hel] at hjl ⊢; omega]
          have hpos : 0 < (ys1 ++ ys2).length := by rw [hlen]; exact Nat.mul_pos (by omega) hk.2
          have hc0 := hcell 0 hpos
          have hsome : (ys1 ++ ys2)[0]? ≠ none := by
            rw [List.getElem?_eq_getElem hpos]; simp
          obtain ⟨b, off, spot⟩ := a
          have hadd0 : (⟨b, off, spot⟩ : Addr).add 0 = ⟨b, off, spot⟩ := rfl
          rw [hadd0] at hc0
          obtain ⟨C, el, fr, hheap, hsp⟩ : ∃ C el fr, w.heap[b]? = some (.cells C el fr) ∧ spot = none := by
            unfold World.cell? at hc0
            cases hq : w.heap[b]? with
            | none => simp only [hq] at hc0; exact absurd hc0.symm hsome
            | some o =>
              simp only [hq] at hc0
              cases o with
              | cells C el fr =>
                refine ⟨C, el, fr, rfl, ?_⟩
                cases spot with
                | none => rfl
                | some s => exact absurd hc0.symm hsome
              | _ => exact absurd hc0.symm hsome
          subst hsp
          have hC : ∀ j, j < (ys1 ++ ys2).length → C[off + j]? = (ys1 ++ ys2)[j]? := fun j hj => by
            rw [← hcell j hj]
            have : (⟨b, off, none⟩ : Addr).add j = ⟨b, off + j, none⟩ := by
              unfold Addr.add
              split
              · rename_i h0; subst h0; rfl
              · rfl
            rw [this]
            unfold World.cell?
            simp [hheap]
          have hRL := (r6.mono s4).append s6
          have hR3 := addRow_relφ s1 s2 s3 hheap hRL.length hC hRL
          have hle3 := Phi.le_put (s1.next_none (.inl s2) 0) (r := (b, (off : Int), C.size))
          have hsz : off + cap * P.cellsOf e ≤ C.size := by
            have := hC ((ys1 ++ ys2).length - 1) (by omega)
            rcases Nat.lt_or_ge (off + ((ys1 ++ ys2).length - 1)) C.size with q | q
            · omega
            · rw [Array.getElem?_eq_none q, List.getElem?_eq_getElem (by omega)] at this; cases this
          have hL1 : L1.length = len * P.cellsOf e := by rw [r6.length, r8, hel]
          refine ⟨_, addRow h2 (L1 ++ L2), [.sl h2.next 0 0 len cap true (P.cellsOf e)], hR3, s2, addRow_ro s3, (r4.trans s4).trans hle3, (r5.trans s5).trans addRow_only, .cons ?_ .nil, .inr (.inr ⟨h2.next, len, cap, L1 ++ L2, rfl, hlc, hwc, addRow_fix, by rw [hRL.length, hlen], fun i hi => ?_⟩), rfl⟩
          · exact .sl (Phi.put_same _ _ _ _) rfl rfl hlc (Nat.le_refl _) hlc (fun _ => rfl) fun _ => ⟨by simp, hsz⟩
          · by_cases hil : i < len
            · have q := (r7 i (by omega)).more (s5.trans (addRow_only (l := L1 ++ L2)))
              have hm : i * P.cellsOf e + P.cellsOf e ≤ len * P.cellsOf e := by
                rw [← Nat.succ_mul]; exact Nat.mul_le_mul_right _ hil
              rw [List.drop_append_of_le_length (by rw [hL1]; omega), List.take_append_of_le_length (by rw [List.length_drop, hL1]; omega)]
              exact q
            · have q := (s7 (i - len) (by omega)).more (addRow_only (l := L1 ++ L2))
              have hm : len * P.cellsOf e ≤ i * P.cellsOf e := Nat.mul_le_mul_right _ (by omega)
              rw [List.drop_append, List.drop_eq_nil_of_le (by rw [hL1]; exact hm), List.nil_append, hL1, ← Nat.sub_mul]
              exact q
    · rename_i k e hd
      rw [Bool.and_eq_true, decide_eq_true_eq] at hk
      obtain ⟨xs, m, rfl, rfl, hl, hxs, hf⟩ := DataW.trod_array hd ht
      have hwt : ∀ x ∈ xs, ∀ n ∈ x.1.weights P e, n ≤ reachBytes := fun x hx => weights_all (ds := xs.map (·.1)) (fun n hn => hwt n (by
        show n ∈ DataW.weights P t (.agg (xs.map (·.1)))
        unfold DataW.weights
        rw [hd]
        exact hn)) x.1 (List.mem_map_of_mem hx)
      obtain ⟨φ1, h1, L, r1, r2, r3, r4, r5, r6, r7⟩ := open_partsT (es := P.cellsOf e) (cs := cs) (fun cs x q => open_treeT d m e cs x hk.1 q) xs 0 hwt (by rw [hl, hk.2, hxs, Nat.zero_add]) (fun i hi => by rw [Nat.zero_add]; exact hf i (by omega)) φ h hR hz hro
      rw [Nat.zero_mul, List.drop_zero] at r6
      exact ⟨φ1, h1, L, r1, r2, r3, r4, r5, r6, ⟨by rw [r6.length, hl, hk.2], fun i hi => r7 i (by omega)⟩, r6.length⟩
    · rename_i fs hd
      rw [Bool.and_eq_true] at hk
      obtain ⟨xs, m, rfl, rfl, hl, hxs, hf⟩ := DataW.trod_struct hd ht
      have htile : tilesB P fs.toList 0 = some (P.cellsOf t) := by simpa using hk.2
      have hwt : ∀ (i : Nat) f x, fs.toList[i]? = some f → xs[i]? = some x → ∀ n ∈ x.1.weights P f.type, n ≤ reachBytes := fun i f x h1 h2 => weights_each (ts := fs.toList.map (·.type)) (ds := xs.map (·.1)) (fun n hn => hwt n (by
        show n ∈ DataW.weights P t (.agg (xs.map (·.1)))
        unfold DataW.weights
        rw [hd]
        exact hn)) i f.type x.1 (by rw [List.getElem?_map, h1]; rfl) (by rw [List.getElem?_map, h2]; rfl)
      obtain ⟨φ1, h1, L, r1, r2, r3, r4, r5, r6, r7⟩ := open_fieldsT (cs := cs) fs.toList 0 xs hwt (fun f hf cs x q => open_treeT d m f.type cs x (List.all_eq_true.1 hk.1 f hf) q) (by rw [htile, hl]) (by simpa using hxs) (fun i f hq => hf i f (by simpa using hq)) φ h hR hz hro
      rw [List.drop_zero] at r6
      exact ⟨φ1, h1, L, r1, r2, r3, r4, r5, r6, ⟨by rw [r6.length, hl], fun f hf => (r7 f hf).2⟩, r6.length⟩
    · cases hk
end
theorem Fix.record {h : Hp} {id : Pos} {L : List AV} (b : Fix h id L) {i es : Nat} (hi : (i + 1) * es ≤ L.length) : ∃ c, readN h id 0 (i * es) es = some c ∧ c.toL = (L.drop (i * es)).take es := by
  rw [Nat.add_mul, Nat.one_mul] at hi
  obtain ⟨c, c1, _, c3⟩ := (b.part (off := i * es) (n := es) hi).all
  rw [List.length_take, List.length_drop, Nat.min_eq_left (by omega)] at c1
  exact ⟨c, c1, c3⟩
theorem qev_loadN (P : Program) {env : T AV} {h : Hp} {n : Nat} {a : Opd} {id : Pos} {g off : Nat} {c : Cells} (ha : ev env a = .ptr id g off) (hc : readN h id g off n = some c) : evalOp P (.loadN n a) env h = .val (.agg c.toL) h := by
  have e : evalOp P (.loadN n a) env h = (match ev env a with
    | .ptr id g off => match readN h id g off n with
      | some c => .val (.agg c.toL) h
      | none => .fail "loadN"
    | _ => .fail "loadN what") := rfl
  rw [e, ha]
  simp only [hc]
theorem qev_newL (P : Program) (env : T AV) (h : Hp) (l : List AV) : evalOp P (.new l) env h = .val (.ptr h.next 0 0) (newH h fun _ => .cells 0 (Cells.ofL l) 0 0 0 0 false false) := by
  show newCells h (Cells.ofL l) _ = _
  unfold newCells
  rw [newK_newH]
theorem storeN_arr (P : Program) {h : Hp} {id : Pos} {l xs : List AV} (b : Arr h id l) (hl : xs.length = l.length) (h0 : 0 < l.length) (hat : ∀ x ∈ xs, x.atom = true) :
    ∃ h', (∀ env a x, ev env a = .ptr id 0 0 → ev env x = .agg xs → evalOp P (.store l.length a x) env h = .val .undef h') ∧ Arr h' id xs ∧ Only [id] h h' ∧ h'.next = h.next := by
  obtain ⟨ser, c, fz, e, hw, hc⟩ := b.mem
  have hcs : c.size = l.length := by rw [← Cells.toL_length hw, hc]
  obtain ⟨p1, p2, p3⟩ := Cells.ofL_spec xs
  have hsz : 0 + (Cells.ofL xs).size ≤ c.size := by rw [p3, hcs, hl]; omega
  obtain ⟨q1, q2, q3⟩ := Cells.splice_spec hw p1 hsz
  have ats : (Cells.ofL xs).atoms = true := by
    have hall : xs.all AV.atom = true := List.all_eq_true.2 hat
    unfold Cells.ofL
    split
    · split
      · rfl
      · exact hall
    · exact hall
  refine ⟨⟨T.set id (some (.cells ser (c.splice 0 (Cells.ofL xs)) 0 0 0 0 false fz)) h.heap, h.next, h.ser, h.lim⟩, fun env a x ha hx => ?_, ⟨b.old, ser, c.splice 0 (Cells.ofL xs), fz, ?_, q1, ?_⟩, ⟨Nat.le_refl _, rfl, fun j _ q => ?_⟩, rfl⟩
  · have e1 : evalOp P (.store l.length a x) env h = (match ev env a with
      | .ptr id g off => bif Nat.beq (ev env x).cells.length l.length then writeN h id g off (Cells.ofL (ev env x).cells) fun h => .val .undef h else .fail "store size"
      | _ => .fail "store what") := rfl
    rw [e1, ha, hx]
    show (bif Nat.beq xs.length l.length then writeN h id 0 0 (Cells.ofL xs) fun h => Res.val .undef h else .fail "store size") = _
    rw [beq_iff.2 hl, cond_true]
    unfold writeN
    have hne : Nat.beq (Cells.ofL xs).size 0 = false := beq_false.2 (by rw [p3, hl]; omega)
    have hfit : Nat.ble (Nat.add 0 (Cells.ofL xs).size) c.size = true := ble_iff.2 hsz
    simp only [hne, cond_false, e, hfit, ats, show Nat.beq 0 0 = true from rfl, show Nat.ble 0 0 = true from rfl, show Nat.blt 0 0 = false from rfl, Bool.not_false, Bool.and_self, cond_true, cond_false, T.setK_eq]
  · show T.get id (T.set id _ h.heap) = _
    rw [T.get_set, if_pos rfl]
  · rw [q2, p2, p3, hc, Nat.zero_add, List.drop_eq_nil_of_le (by omega), List.append_nil]; rfl
  · show T.get j (T.set id _ h.heap) = _
    rw [T.get_set, if_neg (by simpa using q)]
end Go.Proofs.YtjhgembcdndmkaaGreatDoor.Am

namespace Go.Proofs.YtjhgembcdndmkaaGreatDoor.Am
open Go.RowKit
section
variable {P : Program} {h : Hp} {d : Nat} {t e : TypeId} {l : List AV}
theorem Tree.of_bool (hd : P.underlying t = some .bool) (a : Tree P h (d + 1) t l) : ∃ b, l = [.bool b] := by
  unfold Tree at a; rw [hd] at a; exact a
theorem Tree.of_int {k : IntKind} (hd : P.underlying t = some (.int k)) (a : Tree P h (d + 1) t l) : ∃ n, l = [.int k n] ∧ (Lit.int k n).wf = true := by
  unfold Tree at a; rw [hd] at a; exact a
theorem Tree.of_string (hd : P.underlying t = some .string) (a : Tree P h (d + 1) t l) : ∃ b, l = [strOf b] ∧ b.length ≤ reachBytes := by
  unfold Tree at a; rw [hd] at a; exact a
theorem Tree.of_slice (hd : P.underlying t = some (.slice e)) (a : Tree P h (d + 1) t l) : l = [.nilSl] ∨ (∃ id g off, l = [.sl id g off 0 0 true (P.cellsOf e)]) ∨
    ∃ id n cap L, l = [.sl id 0 0 n cap true (P.cellsOf e)] ∧ n ≤ cap ∧ cap * P.bytesOf e ≤ reachBytes ∧ Fix h id L ∧ L.length = cap * P.cellsOf e ∧ ∀ i, i < cap → Tree P h d e ((L.drop (i * P.cellsOf e)).take (P.cellsOf e)) := by
  unfold Tree at a; rw [hd] at a; exact a
theorem Tree.of_array {n : Nat} (hd : P.underlying t = some (.array n e)) (a : Tree P h (d + 1) t l) : l.length = n * P.cellsOf e ∧ ∀ i, i < n → Tree P h d e ((l.drop (i * P.cellsOf e)).take (P.cellsOf e)) := by
  unfold Tree at a; rw [hd] at a; exact a
theorem Tree.of_struct {fs : Array Field} (hd : P.underlying t = some (.struct fs)) (a : Tree P h (d + 1) t l) : l.length = P.cellsOf t ∧ ∀ f, f ∈ fs.toList → Tree P h d f.type ((l.drop f.offset).take (P.cellsOf f.type)) := by
  unfold Tree at a; rw [hd] at a; exact a
end
theorem okSize_reach {n b : Nat} (hb : 1 ≤ b ∧ b ≤ 4096) (hn : n * b ≤ reachBytes) : okSize n b = true := by
  have hr : reachBytes ≤ 140737488355328 := by decide
  have h1 : n ≤ n * b := Nat.le_mul_of_pos_right n (by omega)
  unfold okSize
  rw [ble_iff.2 (show n ≤ 140737488355328 by omega), ble_iff.2 (show Nat.mul n b ≤ 140737488355328 from Nat.le_trans hn hr), ble_iff.2 hb.2]
  rfl
theorem Tree.ones {P : Program} {h : Hp} {d : Nat} {t e : TypeId} {v : AV} (hd : P.underlying t = some (.slice e)) (hc : P.cellsOf e = 1) (hb : 1 ≤ P.bytesOf e ∧ P.bytesOf e ≤ 4096) (a : Tree P h (d + 1) t [v]) {α : Type} (f : α → AV) (hf : ∀ x, Tree P h d e [x] → ∃ y, x = f y) :
    ∃ ys : List α, SlR h v (ys.map f) ∧ ((∃ id g off, v = .sl id g off 0 0 true 1 ∧ ys = []) ∨ ∀ id g off n cap ex, v = .sl id g off n cap ex 1 → id.num < h.next.num) ∧ okSize ys.length (P.bytesOf e) = true := by
  rcases a.of_slice hd with q | ⟨id, g, off, q⟩ | ⟨id, n, cap, L, q, hn, hw, fx, hL, hx⟩
  · cases q
    exact ⟨[], .nil, .inr (fun _ _ _ _ _ _ c => by cases c), okSize_reach hb (by simp)⟩
  · rw [hc] at q
    cases q
    exact ⟨[], .emp, .inl ⟨id, g, off, rfl, rfl⟩, okSize_reach hb (by simp)⟩
  · rw [hc] at q hL hx
    cases q
    have all : ∀ (m : Nat) (M : List AV), M.length = m → (∀ i, i < m → Tree P h d e ((M.drop (i * 1)).take 1)) → ∃ ys : List α, M = ys.map f := by
      intro m
      induction m with
      | zero => intro M hM _; exact ⟨[], by simpa using List.length_eq_zero_iff.1 hM⟩
      | succ m ih =>
        intro M hM hx
        match M, hM with
        | x :: M, hM =>
          obtain ⟨ys, e1⟩ := ih M (by simpa using hM) (fun i hi => by
            have := hx (i + 1) (by omega)
            rw [Nat.mul_one] at this ⊢
            simpa using this)
          obtain ⟨y, e2⟩ := hf x (by have := hx 0 (by omega); simpa using this)
          exact ⟨y :: ys, by rw [e1, e2]; rfl⟩
    obtain ⟨ys, e1⟩ := all cap L (by simpa using hL) hx
    have hys : ys.length = cap := by rw [← Nat.mul_one cap, ← hL, e1, List.length_map]
    have rw1 := fx.part (off := 0) (n := n) (by omega)
    refine ⟨ys.take n, .mk (by simp; omega) ?_, .inr (fun id' g off n' cap' ex c => by cases c; exact fx.old), okSize_reach hb ?_⟩
    · have : ((L.drop 0).take n) = (ys.take n).map f := by rw [List.drop_zero, e1, List.map_take]
      rw [this] at rw1
      exact rw1
    · exact Nat.le_trans (Nat.mul_le_mul_right _ (by rw [List.length_take]; omega)) hw
end Go.Proofs.YtjhgembcdndmkaaGreatDoor.Am

namespace Go.Proofs.YtjhgembcdndmkaaGreatDoor.Am
open Go.RowKit
def lenOf : AV → Nat
  | .sl _ _ _ n _ _ _ => n
  | _ => 0
theorem Tree.lenI {P : Program} {h : Hp} {d : Nat} {t e : TypeId} {v : AV} (hd : P.underlying t = some (.slice e)) (a : Tree P h (d + 1) t [v]) (h' : Hp) : ∀ env x, ev env x = v → evalOp P (.lenL x) env h' = .val (int64 (lenOf v : Nat)) h' := by
  intro env x hx
  rw [qev_lenI, hx]
  rcases a.of_slice hd with q | ⟨id, g, off, q⟩ | ⟨id, n, cap, L, q, _⟩ <;> cases q <;> rfl
theorem Tree.record {P : Program} {h : Hp} {d : Nat} {t e : TypeId} {v : AV} (hd : P.underlying t = some (.slice e)) (a : Tree P h (d + 1) t [v]) {i : Nat} (hi : i < lenOf v) :
    ∃ id cap l, v = .sl id 0 0 (lenOf v) cap true (P.cellsOf e) ∧ Tree P h d e l ∧ ∀ h', Only [] h h' → ∃ c, readN h' id 0 (i * P.cellsOf e) (P.cellsOf e) = some c ∧ c.toL = l := by
  rcases a.of_slice hd with q | ⟨id, g, off, q⟩ | ⟨id, n, cap, L, q, hn, hw, fx, hL, hx⟩
  · cases q; cases hi
  · cases q; cases hi
  · cases q
    have hi : i < n := hi
    exact ⟨id, cap, _, rfl, hx i (by omega), fun h' m => (fx.only m (by simp)).record (by rw [hL]; exact Nat.mul_le_mul_right _ (by omega))⟩
end Go.Proofs.YtjhgembcdndmkaaGreatDoor.Am
