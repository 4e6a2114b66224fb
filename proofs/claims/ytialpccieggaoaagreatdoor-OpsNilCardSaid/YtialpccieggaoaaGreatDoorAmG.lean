import Derived.Lib.Bytealg
import Derived.Lib.MakeNoZero
import Derived.Lib.Builder
import Derived.Lib.IndexEntry
import Derived.Test.YtialpccieggaoaaGreatDoorAmF
/- THE ABSTRACT MACHINE, part G: a machine over values without block numbers, run by the kernel, and the proof that the model's machine does what it does. No condition. -/
set_option linter.unusedSimpArgs false
set_option linter.unusedVariables false
namespace Go.Proofs.YtialpccieggaoaaGreatDoor.Am

section
variable {P : Program} {φ : Phi} {h : Hp} {w : World} {env : T AV} {a : Act} {o : Oper}

theorem map_plain {E : Array MapEntry} {n : Nat} : ∀ c e f, Obj.map E n ≠ .cells c e f := fun _ _ _ q => by cases q
theorem mit_plain {m : Option Nat} {s : Nat} {l : Array Nat} {n : Nat} : ∀ c e f, Obj.mapIter m s l n ≠ .cells c e f := fun _ _ _ q => by cases q

theorem op_update (hR : HR P φ h w) (hE : EnvR φ env a.tmps) {t : TypeId} {m k v : Operand} {m' k' v' : Opd} {kk : KK} (hkk : keyT P t = some kk) (hm : compOpd P m = some m') (hk : compOpd P k = some k') (hv : compOpd P v = some v')
    (ho : o.op = .mapUpdate t m k v ∨ o.op = .insert t m k v) : ResR P φ h w (evalOp P (.update kk m' k' v') env h) ((execOp a.eval o).run P w) := by
  have rm := opd_rel hR hE hm
  have rk := opd_rel hR hE hk
  have rv := opd_rel hR hE hv
  obtain ⟨kt, et, hd, hK⟩ := keyT_facts hkk
  have hrun : ∃ nx, NV nx Go.undef ∧ (execOp a.eval o).run P w = ((Instr.mapUpdate t (a.eval m) (a.eval k) (a.eval v)).run P w).andThen fun _ w' => .ok nx w' := by
    rcases ho with ho | ho <;> exact ⟨.skip, .inr ⟨rfl, rfl⟩, by simp only [execOp, ho, Sem.run_bind]; rfl⟩
  obtain ⟨nx, hnx, hrun⟩ := hrun
  rw [hrun]
  unfold evalOp
  simp only
  generalize hkv : ev env k' = kv at *
  generalize hmv : ev env m' = mv at *
  generalize hvv : ev env v' = vv at *
  generalize hX : a.eval m = X at *
  generalize hY : a.eval k = Y at *
  generalize hZ : a.eval v = Z at *
  cases hok : keyOk P kk kv with
  | false => trivial
  | true =>
    rw [cond_true]
    split
    · rename_i id
      cases rm with
      | @map _ b s0 m0 hφ =>
        split
        · rename_i ser es clock hid
          obtain ⟨b', d, n0, E, clk, e1, e2, e3⟩ := hR.blk _ _ hid
          rw [hφ] at e1
          cases e1
          have hck := checkKey_run (w := w) hK rk hok false
          cases hs : Nat.beq ser 0 with
          | false => trivial
          | true =>
          rw [cond_true]
          have hfree : ser = 0 := beq_iff.1 hs
          have put : ∀ (es' : List (AV × AV × Nat)) (clock' : Nat) (E' : Array MapEntry) (clk' : Nat), MapR φ id b s0 m0 es' clock' E'.toList clk' → (Instr.mapUpdate t (.map (some b)) Y Z).run P w = .ok () (putO w b (.map E' clk')) →
              ResR P φ h w (.val .undef ⟨T.set id (some (.map ser es' clock')) h.heap, h.next, h.ser, h.lim⟩) (((Instr.mapUpdate t (.map (some b)) Y Z).run P w).andThen fun _ w' => .ok nx w') := by
            intro es' clock' E' clk' hE' e
            rw [e]
            obtain ⟨q1, q2⟩ := put_block hR hid hfree hφ h.ser (blk' := .map ser es' clock') (o' := .map E' clk') ⟨b, s0, m0, E', clk', hφ, putO_same e2, hE'⟩
            exact ⟨nx, Go.undef, _, φ, rfl, hnx, q1, q2, Rel.undef⟩
          split
          · rename_i i v0 hf
            obtain ⟨A, k0, n1, B, A', B', y0, h1, h2, h3, h4, h5, f1, f2⟩ := (findM_run hR hK rk e3).2 _ _ hf
            subst h2
            obtain ⟨x1, y1, n1', g4, g5, _, _⟩ := h5.get (j := A'.length) (k := k0) (v := v0) (n := n1) (by rw [List.getElem?_append_right (Nat.le_refl _), Nat.sub_self]; rfl)
            have hbits := bits_key hR rk g5 h4
            simp only [T.setK_eq]
            refine put _ _ (E.modify A'.length fun e => { e with key := Y, val := Z }) clk ?_ ?_
            · rw [Array.toList_modify]; exact e3.set h1 h3 h5 rk rv
            · unfold Instr.mapUpdate
              rw [Sem.run_bind, run_underlying hd, Result.andThen_ok]
              rw [Array.getElem?_toList] at g4
              simp only [Sem.run_bind, run_getObj e2 map_plain, Result.andThen_ok, hck, f1, g4, Option.map_some, Option.getD_some, Instr.keyThatStays, hbits, if_true, Sem.run_pure, run_setObj e2 map_plain]
          · rename_i hf
            have f1 := (findM_run hR hK rk e3).1 hf
            simp only [natK_eq, T.setK_eq]
            refine put _ _ (E.push { key := Y, val := Z, born := clk }) (clk + 1) ?_ ?_
            · rw [Array.toList_push]; exact e3.push rk rv
            · unfold Instr.mapUpdate
              rw [Sem.run_bind, run_underlying hd, Result.andThen_ok]
              simp only [Sem.run_bind, run_getObj e2 map_plain, Result.andThen_ok, hck, f1, run_setObj e2 map_plain]
          · trivial
        · trivial
    · trivial

theorem op_delete (hR : HR P φ h w) (hE : EnvR φ env a.tmps) {c : Call} {t : TypeId} {ts : List TypeId} {m k : Operand} {m' k' : Opd} {kk : KK} (hkk : keyT P t = some kk) (hm : compOpd P m = some m') (hk : compOpd P k = some k')
    (hc : c.callee = .builtin .delete) (ha : c.args.toList = [m, k]) (htt : c.argTypes.toList = t :: ts) (ho : o.op = .call c) : ResR P φ h w (evalOp P (.delete kk m' k') env h) ((execOp a.eval o).run P w) := by
  have rm := opd_rel hR hE hm
  have rk := opd_rel hR hE hk
  obtain ⟨kt, et, hd, hK⟩ := keyT_facts hkk
  have ha : c.args = #[m, k] := by rw [← Array.toArray_toList (xs := c.args), ha]
  have ht0 : c.argTypes[0]? = some t := by rw [← Array.getElem?_toList, htt]; rfl
  have hrun : (execOp a.eval o).run P w = ((Builtin.delete_ c.argTypes o.type #[a.eval m, a.eval k]).run P w).andThen fun v w' => .ok (.value v) w' := by
    rw [exec_builtin ho hc, ha]
    show (do pure (Next.value (← Builtin.delete_ c.argTypes o.type (#[m, k].map a.eval))) : Sem Next).run P w = _
    rw [Sem.run_bind, show #[m, k].map a.eval = #[a.eval m, a.eval k] by simp]
    rfl
  rw [hrun]
  unfold evalOp
  simp only
  generalize hkv : ev env k' = kv at *
  generalize hmv : ev env m' = mv at *
  generalize hX : a.eval m = X at *
  generalize hY : a.eval k = Y at *
  cases hok : keyOk P kk kv with
  | false => trivial
  | true =>
    rw [cond_true]
    have hck : ∀ e, (Instr.checkKey e 10000 kt Y).run P w = .ok () w := fun e => checkKey_run hK rk hok e
    have a0 : (#[X, Y] : Array Value)[0]? = some X := rfl
    have a1 : (#[X, Y] : Array Value)[1]? = some Y := rfl
    split
    · cases rm
      refine ResR.pure hR (x := .tuple #[]) (.tup .nil) ?_
      simp [Builtin.delete_, ht0, Sem.run_bind, run_underlying hd, hck]
    · rename_i id
      cases rm with
      | @map _ b s0 m0 hφ =>
        split
        · rename_i ser es clock hid
          obtain ⟨b', d, n0, E, clk, e1, e2, e3⟩ := hR.blk _ _ hid
          rw [hφ] at e1
          cases e1
          cases hs : Nat.beq ser 0 with
          | false => trivial
          | true =>
          rw [cond_true]
          have hfree : ser = 0 := beq_iff.1 hs
          split
          · rename_i i v0 hf
            obtain ⟨A, k0, n1, B, A', B', y0, h1, h2, h3, h4, h5, f1, f2⟩ := (findM_run hR hK rk e3).2 _ _ hf
            subst h2
            simp only [T.setK_eq]
            obtain ⟨q1, q2⟩ := put_block hR hid hfree hφ h.ser (blk' := .map ser (es.eraseIdx A.length) clock) (o' := .map (E.eraseIdxIfInBounds A'.length) clk)
              ⟨b, s0, m0, _, clk, hφ, putO_same e2, by rw [Array.toList_eraseIdxIfInBounds]; exact e3.erase h1 h3 h5⟩
            refine ⟨_, .tuple #[], _, φ, ?_, .inl rfl, q1, q2, .tup .nil⟩
            simp [Builtin.delete_, ht0, Sem.run_bind, run_underlying hd, hck, run_getObj e2 map_plain, f1, run_setObj e2 map_plain]
          · rename_i hf
            have f1 := (findM_run hR hK rk e3).1 hf
            refine ResR.pure hR (x := .tuple #[]) (.tup .nil) ?_
            simp [Builtin.delete_, ht0, Sem.run_bind, run_underlying hd, hck, run_getObj e2 map_plain, f1, run_setObj e2 map_plain, putO_self e2]
          · trivial
        · trivial
    · trivial

theorem op_rangeMap (hR : HR P φ h w) (hE : EnvR φ env a.tmps) (hm : Room h) {t : TypeId} {x : Operand} {x' : Opd} (hx : compOpd P x = some x') (hd : isMapT P t = true) (ho : o.op = .range t x) : ResR P φ h w (evalOp P (.rangeMap x') env h) ((execOp a.eval o).run P w) := by
  have rx := opd_rel hR hE hx
  obtain ⟨kt, et, hd⟩ := isMapT_facts hd
  unfold evalOp
  simp only
  generalize hX : a.eval x = X at *
  split
  · rename_i e
    rw [e] at rx
    cases rx
    rw [newK_eq]
    obtain ⟨q1, q2, q3⟩ := new_block hR hm (Nat.succ h.ser) (o := .mapIter none 0 #[] 0) (blk := .mit h.ser none 0 [] 0) ⟨w.heap.size, none, 0, #[], 0, Phi.put_same _ _ _ _, alloc_new _ _, trivial⟩
    refine ⟨_, .pointer (some ⟨w.heap.size, 0, none⟩), w.alloc (.mapIter none 0 #[] 0), _, ?_, .inl rfl, q1, q2, .ptr (Phi.put_same _ _ _ _) rfl rfl rfl⟩
    simp only [execOp, ho, hX, Instr.range, Sem.run_bind, run_underlying hd, Result.andThen_ok, Sem.run_pure, run_newObj]
    rfl
  · rename_i m e
    rw [e] at rx
    cases rx with
    | @map _ b s0 m0 hφ =>
      split
      · rename_i ser es clock hid
        obtain ⟨b', d, n0, E, clk, e1, e2, e3⟩ := hR.blk _ _ hid
        rw [hφ] at e1
        cases e1
        rw [newK_eq]
        have u := Upd.alloc hR hm (.mapIter (some b) clk #[] clk) 0
        obtain ⟨q1, q2, q3⟩ := new_block hR hm (Nat.succ h.ser) (o := .mapIter (some b) clk #[] clk) (blk := .mit h.ser (some m) clock [] clock)
          ⟨w.heap.size, some b, clk, #[], clk, Phi.put_same _ _ _ _, alloc_new _ _, s0, m0, u.le _ _ _ hφ, e3.le, e3.le, e3.ck, e3.ck, .nil⟩
        refine ⟨_, .pointer (some ⟨w.heap.size, 0, none⟩), w.alloc (.mapIter (some b) clk #[] clk), _, ?_, .inl rfl, q1, q2, .ptr (Phi.put_same _ _ _ _) rfl rfl rfl⟩
        simp only [execOp, ho, hX, Instr.range, Sem.run_bind, run_underlying hd, Result.andThen_ok, run_getObj e2 map_plain, Sem.run_pure, run_newObj]
        rfl
      · trivial
  · trivial

theorem ptr_zero {id : Pos} {X : Value} {b : Nat} (hx : Rel φ (.ptr id 0 0) X) (hφ : φ id 0 = some (b, 0, 0)) : X = .pointer (some ⟨b, 0, none⟩) := by
  cases hx with
  | @ptr _ _ _ b1 s1 n1 a1 p1 q1 r1 t1 =>
    rw [hφ] at p1
    cases p1
    obtain ⟨ab, ao, as⟩ := a1
    simp only at q1 r1 t1
    subst q1; subst t1
    have : ao = 0 := by omega
    subst this; rfl

theorem Adv.undrew {h' : Hp} {w' : World} {φ' : Phi} {d : Nat} (A : Adv h { w with drawn := d } φ h' w' φ') : Adv h w φ h' w' φ' :=
  ⟨A.le, A.os, A.output, A.tape, A.size, A.next, A.new, A.old, A.keep, A.lim, A.hid, A.same⟩

theorem op_nextMap (hR : HR P φ h w) (hE : EnvR φ env a.tmps) {x : Operand} {x' : Opd} (hx : compOpd P x = some x') (ho : o.op = .next x false) : ResR P φ h w (evalOp P (.nextMap x') env h) ((execOp a.eval o).run P w) := by
  have rx := opd_rel hR hE hx
  have hrun : (execOp a.eval o).run P w = ((Instr.next (a.eval x) false o.type).run P w).andThen fun v w' => .ok (.value v) w' := by
    simp only [execOp, ho, Sem.run_bind]; rfl
  rw [hrun]
  unfold evalOp
  simp only
  generalize hX : a.eval x = X at *
  split
  · rename_i id g off e
    rw [e] at rx
    cases hb : (Nat.beq g 0 && Nat.beq off 0) with
    | false => trivial
    | true =>
      rw [cond_true]
      rw [Bool.and_eq_true] at hb
      have hg : g = 0 := Nat.eq_of_beq_eq_true hb.1
      have ho' : off = 0 := Nat.eq_of_beq_eq_true hb.2
      subst hg; subst ho'
      split
      · rename_i ser since seen last hid
        obtain ⟨b, bm, since', seen', last', e1, e2, e3⟩ := hR.blk _ _ hid
        cases bm with
        | some c => cases e3
        | none =>
          have hXe := ptr_zero rx e1
          subst hXe
          refine ResR.pure hR (x := .tuple #[.bool false]) (.tup (.cons (.bool false) .nil)) ?_
          simp only [Instr.next, Sem.run_bind, run_getObj e2 mit_plain, Result.andThen_ok, Sem.run_pure]
      · rename_i ser m since seen last hid
        obtain ⟨b, bm, since', seen', last', e1, e2, e3⟩ := hR.blk _ _ hid
        cases bm with
        | none => cases e3
        | some c =>
          have hXe := ptr_zero rx e1
          subst hXe
          obtain ⟨d, n0, m1, m2, m3, m4, m5, m6⟩ := e3
          split
          · rename_i ser' es clock hid'
            obtain ⟨b', d', n0', E, clk, f1, f2, f3⟩ := hR.blk _ _ hid'
            rw [m1] at f1
            cases f1
            obtain ⟨l, hp, hE⟩ := f3.ents
            have hpq : ∀ n x, BornR φ m c d n0 n x → (!seen.contains n) = !seen'.toList.contains x := fun n x k => by rw [f3.seen m6 k]
            have hleft := hE.filter hpq
            have hpf : List.Perm (l.filter fun e => !seen.contains e.2.2) (es.filter fun e => !seen.contains e.2.2) := hp.filter _
            cases hcond : (!seen.isEmpty && !es.isEmpty && es.all (fun e => Nat.ble last e.2.2)) with
            | true => trivial
            | false =>
              rw [cond_false]
              have hcond' : (!seen'.isEmpty && !E.isEmpty && E.all (fun e => decide (e.born ≥ last'))) = false := by
                rw [← hcond, hE.empty]
                have q : (l.all fun e => Nat.ble last e.2.2) = E.toList.all fun e => decide (e.born ≥ last') := hE.all (p := fun n => Nat.ble last n) (q := fun x => decide (x ≥ last')) fun n x k => by
                  have := f3.bornLt k m3 m5
                  by_cases c : last ≤ n
                  · rw [ble_iff.2 c]
                    have : last' ≤ x := by omega
                    simp [this]
                  · rw [ble_false.2 (by omega)]
                    have : ¬ last' ≤ x := by omega
                    simp [this]
                have q2 : (es.all fun e => Nat.ble last e.2.2) = l.all fun e => Nat.ble last e.2.2 := hp.symm.all_eq
                have q3 : es.isEmpty = l.isEmpty := by
                  cases es with
                  | nil => rw [hp.eq_nil]
                  | cons e es => cases l with
                    | nil => have := hp.length_eq; simp at this
                    | cons e l => rfl
                rw [q2, q, q3, m6.empty]
                congr 1
                · congr 1
                  congr 1
                  obtain ⟨sl⟩ := seen'
                  cases sl <;> rfl
                · rw [← Array.all_toList]
              generalize hl : (es.filter fun e => !seen.contains e.2.2) = left at hpf
              generalize hl2 : (l.filter fun e => !seen.contains e.2.2) = left2 at hleft hpf
              generalize hL : (E.toList.filter fun e => !seen'.toList.contains e.born) = Left at hleft
              have hfil : (E.filter fun e => !seen'.contains e.born) = Left.toArray := by
                rw [← hL]
                apply Array.toList_inj.1
                rw [Array.toList_filter]
                simp
              have hrun2 : ∀ (R : Result Value), Left = [] → R = .ok (.tuple #[.bool false]) w → (Instr.next (.pointer (some ⟨b, 0, none⟩)) false o.type).run P w = R := by
                intro R hE0 hR0
                subst hE0
                rw [hR0]
                simp only [Instr.next, Sem.run_bind, run_getObj e2 mit_plain, Result.andThen_ok, run_getObj f2 map_plain, hcond', Bool.false_eq_true, if_false, hfil]
                simp [Question.forced]
              split
              · have : left2 = [] := List.length_eq_zero_iff.1 (by rw [hpf.length_eq]; rfl)
                subst this
                cases hleft
                exact ResR.pure hR (x := .tuple #[.bool false]) (.tup (.cons (.bool false) .nil)) (by rw [hrun2 _ rfl rfl]; rfl)
              · rename_i e0
                have : left2 = [e0] := List.perm_singleton.1 hpf
                subst this
                cases hleft with
                | @cons k v n n' x y _ r hk hv hn ht =>
                  cases ht
                  cases hlt : Nat.blt n since with
                  | false =>
                    simp only [cond_false]
                    trivial
                  | true =>
                    simp only [cond_true, T.setK_eq]
                    have hlt := (f3.bornLt hn m2 m4).1 (blt_iff.1 hlt)
                    obtain ⟨q1, q2⟩ := put_block hR hid trivial e1 h.ser (blk' := .mit ser (some m) since (seen ++ [n]) clock) (o' := .mapIter (some c) since' (seen'.push n') clk)
                      ⟨b, some c, since', seen'.push n', clk, e1, putO_same e2, d, n0, m1, m2, f3.le, m4, f3.ck, by rw [Array.toList_push]; exact m6.push hn⟩
                    refine ⟨_, .tuple #[.bool true, x, y], _, φ, ?_, .inl rfl, q1, q2, .tup (.cons (.bool true) (.cons hk (.cons hv .nil)))⟩
                    simp only [Instr.next, Sem.run_bind, run_getObj e2 mit_plain, Result.andThen_ok, run_getObj f2 map_plain, hcond', Bool.false_eq_true, if_false, hfil]
                    have hge : ¬ (since' ≤ n') := by omega
                    simp [Question.forced, hlt, hge, run_setObj e2 mit_plain]
              · rename_i n1 n2
                cases hall : left.all (fun e => Nat.blt e.2.2 since) with
                | false => trivial
                | true =>
                  rw [cond_true]
                  have hlen : 2 ≤ Left.length := by
                    rw [← hleft.length, hpf.length_eq]
                    cases left with
                    | nil => exact absurd rfl n1
                    | cons a r => cases r with
                      | nil => exact absurd rfl (n2 a)
                      | cons b r => simp
                  have hold : ∀ e ∈ Left, e.born < since' := by
                    have hall2 : left2.all (fun e => Nat.blt e.2.2 since) = true := by rw [hpf.all_eq]; exact hall
                    rw [hleft.all (p := fun n => Nat.blt n since) (q := fun x => decide (x < since')) fun n x k => by
                      have := f3.bornLt k m2 m4
                      by_cases c : n < since
                      · rw [blt_iff.2 c]; have := this.1 c; simp [this]
                      · have h1 : ¬ x < since' := fun q => c (this.2 q)
                        cases q : Nat.blt n since with
                        | false => simp [h1]
                        | true => exact absurd (blt_iff.1 q) c] at hall2
                    exact fun e he => by simpa using List.all_eq_true.1 hall2 e he
                  have hF1 : (Left.toArray.filter fun e => decide (e.born < since')) = Left.toArray := by
                    apply Array.toList_inj.1
                    rw [Array.toList_filter]
                    exact List.filter_eq_self.2 fun e he => by simpa using hold e he
                  have hF2 : (Left.toArray.filter fun e => decide (e.born ≥ since')) = #[] := by
                    apply Array.toList_inj.1
                    rw [Array.toList_filter]
                    exact List.filter_eq_nil_iff.2 fun e he => by have := hold e he; simp; omega
                  have hi : w.tape w.drawn (.mapNext Left.length) % Left.length < Left.length := Nat.mod_lt _ (by omega)
                  have hi' : w.tape w.drawn (.mapNext Left.length) % Left.length < left2.length := by rw [hleft.length]; exact hi
                  obtain ⟨x, y, n', g1, g2, g3, g4⟩ := hleft.get (List.getElem?_eq_getElem hi')
                  have hmem : left2[w.tape w.drawn (.mapNext Left.length) % Left.length] ∈ left := hpf.mem_iff.1 (List.getElem_mem _)
                  have hch : (choose (.mapNext Left.length)).run P w = .ok (w.tape w.drawn (.mapNext Left.length) % Left.length) { w with drawn := w.drawn + 1 } := by
                    have : ¬ Left.length ≤ 1 := by omega
                    simp [choose, Sem.run, Question.forced, this, Question.cut]
                  have hR1 := hR.drew (w.drawn + 1)
                  obtain ⟨q1, q2⟩ := put_block hR1 hid trivial e1 h.ser (blk' := .mit ser (some m) since (seen ++ [(left2[w.tape w.drawn (.mapNext Left.length) % Left.length]).2.2]) clock) (o' := .mapIter (some c) since' (seen'.push n') clk)
                    ⟨b, some c, since', seen'.push n', clk, e1, putO_same e2, d, n0, m1, m2, f3.le, m4, f3.ck, by rw [Array.toList_push]; exact m6.push g4⟩
                  refine ⟨_, _, List.mem_map.2 ⟨left2[w.tape w.drawn (.mapNext Left.length) % Left.length], hmem, rfl⟩, .value (.tuple #[.bool true, x, y]), .tuple #[.bool true, x, y], _, φ, ?_, .inl rfl, q1, q2.undrew, .tup (.cons (.bool true) (.cons g2 (.cons g3 .nil)))⟩
                  have hne : Left.toArray.isEmpty = false := by
                    cases Left with
                    | nil => simp at hlen
                    | cons a r => rfl
                  have hcand : ((if Left.toArray.isEmpty = true then #[none] else #[]) ++ Array.map some (Left.toArray ++ #[])) = (Left.map some).toArray := by
                    rw [hne]; simp
                  have hsz : (Left.map some).toArray.size = Left.length := by simp
                  have hget : (Left.map some).toArray[w.tape w.drawn (.mapNext Left.length) % Left.length]? = some (some { key := x, val := y, born := n' }) := by
                    rw [List.getElem?_toArray, List.getElem?_map, g1]; rfl
                  simp only [Instr.next, Sem.run_bind, run_getObj e2 mit_plain, Result.andThen_ok, run_getObj f2 map_plain, hcond', Bool.false_eq_true, if_false, hfil, hF1, hF2, hcand, hsz, hch, hget]
                  have hso := run_setObj (P := P) (w := { w with drawn := w.drawn + 1 }) (o' := .mapIter (some c) since' (seen'.push n') clk) e2 mit_plain
                  rw [hso]
                  rfl
          · trivial
      · trivial
  · trivial

theorem op_defer (hR : HR P φ h w) (hE : EnvR φ env a.tmps) {c : Call} {f : Operand} {f' : Opd} {l : List Opd} (hf : compOpd P f = some f') (hl : mapO (compOpd P) c.args.toList = some l) (hc : c.callee = .value f) (ho : o.op = .defer c) :
    ResR P φ h w (evalOp P (.defer f' l) env h) ((execOp a.eval o).run P w) := by
  have rf := opd_rel hR hE hf
  have rl := opds_rel hR hE hl
  have hrun : (execOp a.eval o).run P w = (do let d ← Deferred.ofValue (a.eval f) (c.args.map a.eval); pure (.defer d) : Sem Next).run P w := by
    simp only [execOp, ho, resolve, hc]
  rw [hrun]
  unfold evalOp
  simp only
  generalize hF : a.eval f = F at *
  split
  · rename_i g first captured e
    rw [e] at rf
    cases rf with
    | fn h1 h2 =>
      rename_i X Y
      refine ⟨{ target := .fn (.func g) Y, args := X ++ c.args.map a.eval }, rfl, Y, rfl, ?_⟩
      simp only [Array.toList_append, Array.toList_map, List.append_assoc]
      exact h1.append (rl.append h2)
  · trivial

theorem op_panic (hR : HR P φ h w) (hE : EnvR φ env a.tmps) {x : Operand} {x' : Opd} (hx : compOpd P x = some x') (ho : o.op = .panic x) : ResR P φ h w (evalOp P (.panic x') env h) ((execOp a.eval o).run P w) := by
  have rx := opd_rel hR hE hx
  have hrun : (execOp a.eval o).run P w = (do let v ← Instr.panic (a.eval x); pure (.value v) : Sem Next).run P w := by
    simp only [execOp, ho]
  rw [hrun]
  unfold evalOp
  simp only
  generalize hX : a.eval x = X at *
  split
  · rename_i t v e
    rw [e] at rx
    cases rx with
    | ifc hv => exact ⟨_, rfl, .ifc hv⟩
  · trivial

theorem find_born : ∀ {E : List MapEntry} {e : MapEntry}, (E.map (·.born)).Nodup → e ∈ E → E.find? (fun x => x.born == e.born) = some e
  | [], _, _, m => by cases m
  | a :: E, e, hn, m => by
    rw [List.map_cons, List.nodup_cons] at hn
    rw [List.find?_cons]
    rcases List.mem_cons.1 m with rfl | m
    · rw [beq_self_eq_true]
    · have : a.born ≠ e.born := fun q => hn.1 (by rw [q]; exact List.mem_map.2 ⟨e, m, rfl⟩)
      rw [beq_false_of_ne this]
      exact find_born hn.2 m

theorem op_entry (hR : HR P φ h w) (hE : EnvR φ env a.tmps) {x : Operand} {x' : Opd} (hx : compOpd P x = some x') (ho : o.op = .entry x) : ResR P φ h w (evalOp P (.entry x') env h) ((execOp a.eval o).run P w) := by
  have rx := opd_rel hR hE hx
  have hrun : (execOp a.eval o).run P w = ((Instr.entry (a.eval x)).run P w).andThen fun v w' => .ok (.value v) w' := by
    simp only [execOp, ho, Sem.run_bind]; rfl
  rw [hrun]
  unfold evalOp
  simp only
  generalize hX : a.eval x = X at *
  split
  · rename_i id g off e
    rw [e] at rx
    cases hb : (Nat.beq g 0 && Nat.beq off 0) with
    | false => trivial
    | true =>
      rw [cond_true]
      rw [Bool.and_eq_true] at hb
      have hg : g = 0 := Nat.eq_of_beq_eq_true hb.1
      have ho' : off = 0 := Nat.eq_of_beq_eq_true hb.2
      subst hg; subst ho'
      split
      · rename_i ser m since seen stepped hid
        obtain ⟨b, bm, since', seen', last', e1, e2, e3⟩ := hR.blk _ _ hid
        cases bm with
        | none => cases e3
        | some c =>
          have hXe := ptr_zero rx e1
          subst hXe
          obtain ⟨d, n0, m1, m2, m3, m4, m5, m6⟩ := e3
          split
          · rename_i ser' es clock st hid' hst
            obtain ⟨b', d', n0', E, clk, f1, f2, f3⟩ := hR.blk _ _ hid'
            rw [m1] at f1
            cases f1
            cases hc : Nat.beq clock stepped with
            | false => trivial
            | true =>
              rw [cond_true]
              have hc := Nat.eq_of_beq_eq_true hc
              subst hc
              have hlc : last' = clk := by have := f3.ck; omega
              subst hlc
              split
              · rename_i en hen
                obtain ⟨st', s1, s2⟩ := m6.last hst
                obtain ⟨l, hp, hE⟩ := f3.ents
                -- the one entry with that number
                have hpq : ∀ n x, BornR φ m c d n0 n x → Nat.beq n st = (x == st') := fun n x k => by
                  by_cases c : n = st
                  · subst c
                    rw [k.fn s2]; simp
                  · have c' : x ≠ st' := fun q => c (f3.bornInj k (by rw [q]; exact s2))
                    rw [beq_false_of_ne c']
                    cases q : Nat.beq n st with
                    | false => rfl
                    | true => exact absurd (Nat.eq_of_beq_eq_true q) c
                have hst' : en.2.2 = st := by simpa using List.find?_some hen
                have hmem : en ∈ l := hp.mem_iff.2 (List.mem_of_find?_eq_some hen)
                obtain ⟨i, hi⟩ := List.getElem?_of_mem hmem
                obtain ⟨x, y, n', g1, g2, g3, g4⟩ := hE.get (k := en.1) (v := en.2.1) (n := en.2.2) hi
                rw [hst'] at g4
                have hn' : n' = st' := g4.fn s2
                subst hn'
                refine ResR.pure hR (x := .tuple #[x, y]) (.tup (.cons g2 (.cons g3 .nil))) ?_
                have hback : seen'.back? = some n' := by
                  obtain ⟨sl⟩ := seen'
                  simpa using s1
                have hfind : E.find? (fun e => e.born == n') = some { key := x, val := y, born := n' } := by
                  rw [← Array.find?_toList]
                  exact find_born f3.nodup (List.mem_of_getElem? g1)
                simp only [Instr.entry, Sem.run_bind, run_getObj e2 mit_plain, Result.andThen_ok, run_getObj f2 map_plain, hback, bne_self_eq_false, Bool.false_eq_true, if_false, hfind, Sem.run_pure]
              · trivial
          · trivial
      · trivial
  · trivial

theorem sameP_odd {a b : AV} {x y : Value} {r : Bool} (hx : Rel φ a x) (hy : Rel φ b y) (e : sameP h a b = some r) : Odd x ∧ ∃ q, x = .pointer q := by
  unfold sameP at e
  split at e
  · cases hx; exact ⟨trivial, _, rfl⟩
  · cases hx; exact ⟨trivial, _, rfl⟩
  · cases hx; exact ⟨trivial, _, rfl⟩
  · cases hx; exact ⟨trivial, _, rfl⟩
  · cases e

theorem op_eqPtr (hR : HR P φ h w) (hE : EnvR φ env a.tmps) {op : BinOp} {neg : Bool} (hop : (op = .eql ∧ neg = false) ∨ (op = .neq ∧ neg = true)) {t yt : TypeId} {x y : Operand} {x' y' : Opd} (hx : compOpd P x = some x') (hy : compOpd P y = some y')
    {el : TypeId} (ht : P.underlying t = some (.pointer el)) (hk : okT P el = true) (hz : 0 < P.cellsOf el) (ho : o.op = .binOp op t x y yt) : ResR P φ h w (evalOp P (.eqPtr neg x' y') env h) ((execOp a.eval o).run P w) := by
  have rx := opd_rel hR hE hx
  have ry := opd_rel hR hE hy
  unfold evalOp
  refine ResR.opt hR fun v e => ?_
  split at e
  · rename_i b hb
    obtain ⟨hodd, q, hq⟩ := sameP_odd rx ry hb
    have heq : (Op.equal t (a.eval x) (a.eval y)).run P w = .ok b w := sameP_run hR rx ry hb ht hk hz 9999
    have hg : (eqGuard op t x y (a.eval x) (a.eval y)).run P w = .ok () w := guard_none (fun a' e' => by rw [hq] at e'; cases e') (fun ⟨e', _⟩ => by rw [hq] at e'; cases e') P w
    unfold notIf at e
    cases e
    simp only [execOp, ho]
    rcases hop with ⟨rfl, rfl⟩ | ⟨rfl, rfl⟩
    · refine ⟨.bool b, ?_, .bool _⟩
      rw [binOp_eql hodd]
      simp only [Sem.run_bind, hg, heq, Result.andThen_ok, Sem.run_pure]
    · refine ⟨.bool (!b), ?_, .bool _⟩
      rw [binOp_neq hodd]
      simp only [Sem.run_bind, hg, heq, Result.andThen_ok, Sem.run_pure]
  · cases e

theorem sameI_run (hR : HR P φ h w) {a b : AV} {x y : Value} {nilOk r : Bool} (hx : Rel φ a x) (hy : Rel φ b y) (e : sameI P h nilOk a b = some r) {t : TypeId} {ms : Array (String × TypeId)} (ht : P.underlying t = some (.interface ms)) :
    Odd x ∧ (Op.equal t x y).run P w = .ok r w ∧ (∀ a', x ≠ .agg a') ∧ ((x = .nilIface ∧ y = .nilIface) → nilOk = true) := by
  unfold sameI at e
  split at e
  · cases hx; cases hy
    cases nilOk with
    | false => cases e
    | true =>
      cases e
      refine ⟨trivial, ?_, fun a' q => (by cases q), fun _ => rfl⟩
      show (Op.equalIn (9999 + 1) t _ _).run P w = _
      unfold Op.equalIn
      rw [Sem.run_bind, run_underlying ht, Result.andThen_ok]; rfl
  · cases hx; cases hy; cases e
    refine ⟨trivial, ?_, fun a' q => (by cases q), fun q => (by cases q.2)⟩
    show (Op.equalIn (9999 + 1) t _ _).run P w = _
    unfold Op.equalIn
    rw [Sem.run_bind, run_underlying ht, Result.andThen_ok]; rfl
  · cases hx; cases hy; cases e
    refine ⟨trivial, ?_, fun a' q => (by cases q), fun q => (by cases q.1)⟩
    show (Op.equalIn (9999 + 1) t _ _).run P w = _
    unfold Op.equalIn
    rw [Sem.run_bind, run_underlying ht, Result.andThen_ok]; rfl
  · have := keyEq_run (w := w) (kk := .any) hR (t := t) ⟨ms, ht⟩ hx hy e
    cases hx; cases hy
    exact ⟨trivial, this, fun a' q => (by cases q), fun q => (by cases q.1)⟩
  · cases e

theorem op_eqIfc (hR : HR P φ h w) (hE : EnvR φ env a.tmps) {op : BinOp} {neg : Bool} (hop : (op = .eql ∧ neg = false) ∨ (op = .neq ∧ neg = true)) {t yt : TypeId} {x y : Operand} {x' y' : Opd} (hx : compOpd P x = some x') (hy : compOpd P y = some y')
    {ms : Array (String × TypeId)} (ht : P.underlying t = some (.interface ms)) (ho : o.op = .binOp op t x y yt) : ResR P φ h w (evalOp P (.eqIfc neg (nilOkT P t x y) x' y') env h) ((execOp a.eval o).run P w) := by
  have rx := opd_rel hR hE hx
  have ry := opd_rel hR hE hy
  unfold evalOp
  refine ResR.opt hR fun v e => ?_
  split at e
  · rename_i b hb
    obtain ⟨hodd, heq, hag, hnil⟩ := sameI_run hR rx ry hb ht
    have hg : (eqGuard op t x y (a.eval x) (a.eval y)).run P w = .ok () w := by
      by_cases hn : a.eval x = .nilIface ∧ a.eval y = .nilIface
      · rw [hn.1, hn.2]; exact nilOk_guard (hnil hn) op
      · exact guard_none hag hn P w
    unfold notIf at e
    cases e
    simp only [execOp, ho]
    rcases hop with ⟨rfl, rfl⟩ | ⟨rfl, rfl⟩
    · refine ⟨.bool b, ?_, .bool _⟩
      rw [binOp_eql hodd]
      simp only [Sem.run_bind, hg, heq, Result.andThen_ok, Sem.run_pure]
    · refine ⟨.bool (!b), ?_, .bool _⟩
      rw [binOp_neq hodd]
      simp only [Sem.run_bind, hg, heq, Result.andThen_ok, Sem.run_pure]
  · cases e
end
end Go.Proofs.YtialpccieggaoaaGreatDoor.Am

namespace Go.Proofs.YtialpccieggaoaaGreatDoor.Am

section
variable {P : Program} {φ : Phi} {h : Hp} {w : World} {env : T AV} {a : Act} {o : Oper}

theorem op_sliceData (hR : HR P φ h w) (hE : EnvR φ env a.tmps) {c : Call} {x : Operand} {x' : Opd} (hx : compOpd P x = some x') (hc : c.callee = .builtin .unsafeSliceData) (ha : c.args.toList = [x]) (ho : o.op = .call c) :
    ResR P φ h w (evalOp P (.sliceData x') env h) ((execOp a.eval o).run P w) := by
  have rx := opd_rel hR hE hx
  have ha : c.args = #[x] := by rw [← Array.toArray_toList (xs := c.args), ha]
  have hrun : (execOp a.eval o).run P w = (do pure (Next.value (← Builtin.unsafeSliceData_ c.argTypes o.type #[a.eval x])) : Sem Next).run P w := by
    rw [exec_builtin ho hc, ha, show #[x].map a.eval = #[a.eval x] by simp]; rfl
  rw [hrun]
  unfold evalOp
  simp only
  generalize hX : a.eval x = X at *
  split
  · rename_i e
    rw [e] at rx
    cases rx
    exact ResR.pure hR .nilPtr rfl
  · rename_i id g off len cap ex es e
    rw [e] at rx
    cases hb : Nat.blt 0 cap with
    | false => trivial
    | true =>
      have hb := blt_iff.1 hb
      rw [cond_true]
      rcases rel_sl rx with ⟨ad, cc, b, s, n, rfl, k1, k2, k3, k4, k5, k6, k7, k8⟩ | ⟨_, _, _, q, _⟩
      · obtain ⟨q1, _⟩ := k8 (by omega)
        refine ResR.pure hR (x := .pointer (some ad)) (.ptr k1 k2 q1 k3) ?_
        rw [Sem.run_bind, Lib.run_unsafeSliceData_row (P := P) w c.argTypes o.type ad len cc (by omega)]
        rfl
      · omega
  · trivial

theorem op_clearSl (hR : HR P φ h w) (hE : EnvR φ env a.tmps) {c : Call} {x : Operand} {x' : Opd} {t e : TypeId} {r : List TypeId} {z : AV} (ht : elemOfSlice P t = some e) (hz : zeroT P e = some z) (hzl : z.cells.length = P.cellsOf e) (hx : compOpd P x = some x')
    (hc : c.callee = .builtin .clear) (ha : c.args.toList = [x]) (htt : c.argTypes.toList = t :: r) (ho : o.op = .call c) : ResR P φ h w (evalOp P (.clearSl (P.cellsOf e) z.cells x') env h) ((execOp a.eval o).run P w) := by
  have rx := opd_rel hR hE hx
  have ha : c.args = #[x] := by rw [← Array.toArray_toList (xs := c.args), ha]
  have hts : c.argTypes[0]? = some t := by rw [← Array.toArray_toList (xs := c.argTypes), htt]; rfl
  obtain ⟨hd, hk⟩ := elem_underlying ht
  obtain ⟨Z, z1, z2⟩ := zeroT_run hz φ w
  have hZ : Z.cells.size = P.cellsOf e := by rw [← hzl, z2.cells.length, Array.length_toList]
  have hrun : (execOp a.eval o).run P w = (do pure (Next.value (← Builtin.clear_ c.argTypes o.type #[a.eval x])) : Sem Next).run P w := by
    rw [exec_builtin ho hc, ha, show #[x].map a.eval = #[a.eval x] by simp]; rfl
  rw [hrun]
  unfold evalOp
  simp only
  generalize hX : a.eval x = X at *
  split
  · rename_i e0
    rw [e0] at rx
    cases rx
    exact ResR.pure hR (x := .tuple #[]) (.tup .nil) (by simp [Builtin.clear_, hts, run_underlying hd])
  · rename_i id g off len cap ex es e0
    rw [e0] at rx
    cases hb : Nat.beq len 0 with
    | true =>
      have hb := beq_iff.1 hb
      subst hb
      obtain ⟨ad, c', rfl, _⟩ := rel_slS rx
      exact ResR.pure hR (x := .tuple #[]) (.tup .nil) (by simp [Builtin.clear_, hts, run_underlying hd])
    | false =>
      have hb := beq_false.1 hb
      rw [cond_false]
      cases he : Nat.beq (P.cellsOf e) es with
      | false => trivial
      | true =>
        have he := beq_iff.1 he
        subst he
        rw [cond_true]
        rcases rel_sl rx with ⟨ad, cc, b, s, n, rfl, k1, k2, k3, k4, k5, k6, k7, k8⟩ | ⟨_, _, q, _⟩
        · obtain ⟨w1, t1, s1⟩ := Cells.ofL_spec (replA len z.cells [])
          have hr := repl_rel z2.cells len
          have hrel : RelL φ (Cells.ofL (replA len z.cells [])).toL (Builtin.zeroCells Z.cells len).toList := by rw [t1]; exact hr
          obtain ⟨m, rfl⟩ : ∃ m, len = m + 1 := ⟨len - 1, by omega⟩
          rcases writeN_run hR (k := fun h => .val (.tup []) h) k1 k2 k3 (fun _ => (k8 (by omega)).1) w1 hrel with ⟨why, e1⟩ | ⟨h', w', e1, p1, p2, p3⟩
          · rw [e1]; trivial
          · rw [e1]
            refine ⟨_, .tuple #[], w', φ, ?_, .inl rfl, p2, p3, .tup .nil⟩
            simp only [Builtin.clear_, Sem.run_bind, hts, List.getElem?_toArray, List.getElem?_cons_zero, run_underlying hd, Result.andThen_ok, z1, p1, Sem.run_pure]
        · omega
  · trivial

/-- So many bytes lie side by side in a row of bytes. -/
theorem liesAt_row {e u : TypeId} (hc : P.cellsOf e = 1) (he : P.underlying e = some (.int .u8)) (hu : P.underlying u = some (.int .u8)) {count off n : Nat} (hn : off + n ≤ count) : liesAt P P.depth e count off u n = true := by
  have hd : P.depth = (2 * (P.types.size + Made.depth) + 1) + 1 := rfl
  rw [hd]
  simp only [liesAt, Bool.or_eq_true]
  left
  rw [hd]
  have : off % 1 = 0 := by omega
  simp [rowAt, hc, hn, sameLayout, he, hu, this]

theorem run_unsafeStr {ts : Array TypeId} {pt ty pe el : TypeId} {ad : Addr} {cells : Nat} (hts : ts[0]? = some pt) (hp : P.underlying pt = some (.pointer pe)) (hpe : P.underlying pe = some (.int .u8)) (hc : P.cellsOf el = 1) (he : P.underlying el = some (.int .u8)) (hsh : w.shape? ad.block = some (el, cells)) (l : List UInt8) (h0 : l ≠ []) (hn : ad.off + l.length ≤ cells) (h63 : l.length ≤ 9223372036854775807)
    (hcell : ∀ j x, l[j]? = some x → w.cell? (ad.add j) = some (.int .u8 x.toNat)) :
    (Builtin.unsafeString_ ts ty #[.pointer (some ad), .int .i64 l.length]).run P w = .ok (.string ⟨l.toArray⟩) (w.freeze ad l.length) := by
  have hl : l.length ≠ 0 := by simpa using h0
  have hlb := Lib.run_loadBytes (P := P) w l ad .empty hcell
  have hlies : liesAt P P.depth el (cells / P.cellsOf el) ad.off pe l.length = true := liesAt_row hc he hpe (by rw [hc]; simpa using hn)
  have h63' : ¬ (9223372036854775807 : Int) < (l.length : Int) := by omega
  have hdef : Builtin.unsafeString_ ts ty #[.pointer (some ad), .int .i64 l.length] =
      (do
        let n ← asInt (.int .i64 l.length)
        let some pt := ts[0]? | stuck _
        if n < 0 then runtimePanic (.error _)
        if n > IntKind.i64.max then unsupported (.unsafePointer _)
        if n = 0 then pure (.string .empty)
        else if ← variablesAt ad (← elemOf pt) n.toNat then do
          let s ← loadBytes ad .empty n.toNat
          freeze ad n.toNat
          pure (.string s)
        else unsupported (.unsafePointer _)) := rfl
  rw [hdef]
  have hmax : IntKind.i64.max = 9223372036854775807 := rfl
  have hneg : ¬ (l.length : Int) < 0 := by omega
  simp [asInt, asIntOf, hmax, h63', hneg, hl, variablesAt, hsh, elemOf, run_underlying hp, hlies, hlb, hts]

theorem run_unsafeStr0 {ts : Array TypeId} {pt ty : TypeId} (hts : ts[0]? = some pt) (p : Option Addr) : (Builtin.unsafeString_ ts ty #[.pointer p, .int .i64 0]).run P w = .ok (.string .empty) w := by
  have hmax : IntKind.i64.max = 9223372036854775807 := rfl
  cases p with
  | none =>
    obtain ⟨s1, s2, s3, s4, hdef⟩ : ∃ s1 s2 s3 s4 : String, Builtin.unsafeString_ ts ty #[.pointer none, .int .i64 0] =
        (do
          let n ← asInt (.int .i64 0)
          let some pt := ts[0]? | stuck s1
          if n < 0 then runtimePanic (.error s2)
          if n > IntKind.i64.max then unsupported (.unsafePointer s3)
          if n = 0 then pure (.string .empty)
          else runtimePanic (.error s4)) := ⟨_, _, _, _, rfl⟩
    rw [hdef]
    simp [asInt, asIntOf, hmax, hts]
  | some a =>
    have hdef : Builtin.unsafeString_ ts ty #[.pointer (some a), .int .i64 0] =
        (do
          let n ← asInt (.int .i64 0)
          let some pt := ts[0]? | stuck _
          if n < 0 then runtimePanic (.error _)
          if n > IntKind.i64.max then unsupported (.unsafePointer _)
          if n = 0 then pure (.string .empty)
          else if ← variablesAt a (← elemOf pt) n.toNat then do
            let s ← loadBytes a .empty n.toNat
            freeze a n.toNat
            pure (.string s)
          else unsupported (.unsafePointer _)) := rfl
    rw [hdef]
    simp [asInt, asIntOf, hmax, hts]

theorem freeze_same {C : Array Value} {el : TypeId} {fr : Nat × Nat} {ad : Addr} {n : Nat} (hn : n ≠ 0) (hb : w.heap[ad.block]? = some (.cells C el fr)) : ∃ fr', (w.freeze ad n).heap[ad.block]? = some (.cells C el fr') := by
  obtain ⟨lo, hi⟩ := fr
  unfold World.freeze
  rw [if_neg hn]
  exact ⟨_, by simp only [Array.getElem?_modify, if_pos, hb]; rfl⟩

theorem freeze_else {ad : Addr} {n b : Nat} (hb : b ≠ ad.block) : (w.freeze ad n).heap[b]? = w.heap[b]? := by
  unfold World.freeze
  split
  · rfl
  · simp only [Array.getElem?_modify]
    rw [if_neg (Ne.symm hb)]

/-- A row is read by a text for good: nothing of it may be written any more. -/
theorem freeze_hr (hR : HR P φ h w) {id : Pos} {note lo hi g m : Nat} {c : Cells} {fz : Bool} (hid : T.get id h.heap = some (.cells note c lo hi g m false fz)) {b : Nat} {s : Int} {n : Nat} (hφ : φ id g = some (b, s, n)) {ad : Addr} (hb : ad.block = b) (k ser : Nat) :
    HR P φ ⟨T.set id (some (.cells note c lo hi g m true fz)) h.heap, h.next, ser, h.lim⟩ (w.freeze ad k) ∧ Adv h w φ ⟨T.set id (some (.cells note c lo hi g m true fz)) h.heap, h.next, ser, h.lim⟩ (w.freeze ad k) φ := by
  obtain ⟨⟨h1, h2, h3, h4, h6, h5⟩, ty⟩ := hR.blk _ _ hid
  have hsz : (w.freeze ad k).heap.size = w.heap.size := by unfold World.freeze; split <;> simp
  have u : Upd h w φ id h.next (w.freeze ad k) φ :=
    Upd.same hR hid hsz (fun y hy q => freeze_else fun c => q g s n (by rw [c, hb]; exact hφ)) (by unfold World.freeze; split <;> rfl) (by unfold World.freeze; split <;> rfl) (by unfold World.freeze; split <;> rfl)
  refine ⟨hR.update u (.inr ⟨_, hid, rfl⟩) fun x hx => ?_, Adv.update hR u (.inr ⟨_, hid, rfl⟩)⟩
  cases hx
  have same : ∀ {b' : Nat} {C : Array Value} {el : TypeId} {fr : Nat × Nat}, w.heap[b']? = some (.cells C el fr) → ∃ fr', (w.freeze ad k).heap[b']? = some (.cells C el fr') := fun {b' C el fr} e => by
    by_cases hk : k = 0
    · refine ⟨fr, ?_⟩
      unfold World.freeze
      rw [if_pos hk]; exact e
    · by_cases hbb : b' = ad.block
      · subst hbb; exact freeze_same hk e
      · exact ⟨fr, by rw [freeze_else hbb]; exact e⟩
  refine ⟨⟨h1, h2, h3, h4, h6, fun j hj1 hj2 => ?_⟩, fun j b' s' n' C el fr a1 a2 q1 q2 => ?_⟩
  · obtain ⟨b', s', n', C', el', fr', f1, f2, f3, f4, f5⟩ := h5 j hj1 hj2
    obtain ⟨fr2, e2⟩ := same f2
    exact ⟨b', s', n', C', el', fr2, f1, e2, f3, (fun q => by cases q), f5⟩
  · obtain ⟨b2, s2, n2, C2, el2, fr2, f1, f2, _⟩ := h5 j a1 a2
    rw [q1] at f1
    cases f1
    obtain ⟨fr3, e3⟩ := same f2
    rw [e3] at q2
    cases q2
    exact ty j _ _ _ _ _ _ a1 a2 q1 f2

theorem op_unsafeStr (hR : HR P φ h w) (hE : EnvR φ env a.tmps) {c : Call} {p n : Operand} {p' n' : Opd} {t e : TypeId} {r : List TypeId} (hp : compOpd P p = some p') (hn : compOpd P n = some n') (hc : c.callee = .builtin .unsafeString) (ha : c.args.toList = [p, n]) (htt : c.argTypes.toList = t :: r)
    (hd : P.underlying t = some (.pointer e)) (he : byteT P e = true) (ho : o.op = .call c) : ResR P φ h w (evalOp P (.unsafeStr p' n') env h) ((execOp a.eval o).run P w) := by
  have rp := opd_rel hR hE hp
  have rn := opd_rel hR hE hn
  have ha : c.args = #[p, n] := by rw [← Array.toArray_toList (xs := c.args), ha]
  have hts : c.argTypes[0]? = some t := by rw [← Array.toArray_toList (xs := c.argTypes), htt]; rfl
  have hu8 : P.underlying e = some (.int .u8) := by
    unfold byteT at he
    rw [Bool.and_eq_true, Bool.and_eq_true] at he
    have := he.1.1
    split at this
    · rename_i q; exact q
    · cases this
  have hrun : (execOp a.eval o).run P w = (do pure (Next.value (← Builtin.unsafeString_ c.argTypes o.type #[a.eval p, a.eval n])) : Sem Next).run P w := by
    rw [exec_builtin ho hc, ha, show #[p, n].map a.eval = #[a.eval p, a.eval n] by simp]; rfl
  rw [hrun]
  unfold evalOp
  simp only
  generalize hX : a.eval p = X at *
  generalize hY : a.eval n = Y at *
  split
  · rename_i k ek
    rw [ek] at rn
    cases rn
    have hempty : ∀ (q : Option Addr), (do pure (Next.value (← Builtin.unsafeString_ c.argTypes o.type #[.pointer q, .int .i64 0])) : Sem Next).run P w = .ok (.value (.string .empty)) w := fun q => by
      rw [Sem.run_bind, run_unsafeStr0 hts q]; rfl
    cases hk : Nat.beq k 0 with
    | true =>
      have hk := beq_iff.1 hk
      subst hk
      rw [cond_true]
      split
      · rename_i ep
        rw [ep] at rp
        cases rp
        exact ResR.pure hR (x := .string .empty) (.str rfl (by simp)) (hempty none)
      · rename_i id g off ep
        rw [ep] at rp
        obtain ⟨ad, b, s, N, rfl, _⟩ := rel_ptr rp
        exact ResR.pure hR (x := .string .empty) (.str rfl (by simp)) (hempty (some ad))
      · trivial
    | false =>
      rw [cond_false]
      have hk := beq_false.1 hk
      split
      · rename_i id g off ep
        rw [ep] at rp
        obtain ⟨ad, b, s, N, rfl, k1, k2, k3, k4⟩ := rel_ptr rp
        split
        · rename_i note cc lo hi g' m ro fz hid
          cases hb : (!ro && Nat.beq note 1 && Nat.beq g g' && Nat.ble k i64max) with
          | false => trivial
          | true =>
            simp only [Bool.and_eq_true, Bool.not_eq_true'] at hb
            obtain ⟨⟨⟨f1, f2⟩, f3⟩, f4⟩ := hb
            subst f1
            have f2 := beq_iff.1 f2
            have f3 := beq_iff.1 f3
            subst f2 f3
            have f4 := ble_iff.1 f4
            rw [cond_true]
            cases hr : readN h id g off k with
            | none => trivial
            | some c' =>
              obtain ⟨xs, r1, r2, r3, r4⟩ := readN_run hR hr k1 k2 k3 (fun _ => k4)
              cases c' with
              | lst _ _ => trivial
              | byt k2' v =>
                have hkk : k2' = k := r4
                subst hkk
                simp only [natK_eq, T.setK_eq]
                obtain ⟨⟨_, c2, _, _, _, c5⟩, ty⟩ := hR.blk _ _ hid
                obtain ⟨b', s2, n2, C, el, fr, e1, e2, e3, _, _⟩ := c5 g c2 (Nat.le_refl _)
                rw [k1] at e1
                cases e1
                have hty : P.underlying el = some (.int .u8) ∧ P.cellsOf el = 1 := by
                  rcases ty g _ _ _ _ _ _ c2 (Nat.le_refl _) k1 e2 with q | ⟨_, q⟩ | ⟨u, q, _⟩
                  · cases q
                  · exact q
                  · have : 1 = u + 2 := q; omega
                -- the cells
                have hrd : ∃ hs : seeable cc lo hi g m g off k2' = true, True := by
                  unfold readN at hr
                  rw [show Nat.beq k2' 0 = false from beq_false.2 hk, cond_false, hid] at hr
                  simp only at hr
                  cases hs : seeable cc lo hi g m g off k2' with
                  | false => rw [hs] at hr; cases hr
                  | true => exact ⟨rfl, trivial⟩
                obtain ⟨hs, _⟩ := hrd
                have hcc : cc.sub off k2' = .byt k2' v := by
                  unfold readN at hr
                  rw [show Nat.beq k2' 0 = false from beq_false.2 hk, cond_false, hid] at hr
                  simp only [hs, cond_true, Option.some.injEq] at hr
                  exact hr
                obtain ⟨hle, C', el', fr', g1, g2, g3⟩ := seen hR hid k1 hs
                rw [e2] at g1
                cases g1
                have hwf := (hR.blk _ _ hid).1.1
                have htl : (cc.toL.drop off).take k2' = bytesL k2' v := by
                  have := (Cells.sub_spec hwf (off := off) (n := k2') hle).2.1
                  rw [hcc] at this
                  exact this.symm
                have hcell : ∀ j x, (unpack k2' v)[j]? = some x → w.cell? (ad.add j) = some (.int .u8 x.toNat) := fun j x hj => by
                  have hjl : j < k2' := by have := (List.getElem?_eq_some_iff.1 hj).1; rwa [unpack_length] at this
                  obtain ⟨o, av, xv, o1, o2, o3, o4⟩ := g3 j hjl
                  have : (bytesL k2' v)[j]? = some (byteV x.toNat) := by rw [bytesL_eq, List.getElem?_map, hj]; rfl
                  rw [← htl, List.getElem?_take_of_lt hjl, List.getElem?_drop, o2] at this
                  cases this
                  cases o4
                  rw [add_eq ad k3, k2, cell_eq e2, show ad.off + j = o by omega, o3]
                  rfl
                have hlen : (unpack k2' v).length = k2' := unpack_length _ _
                have hlast : ad.off + k2' ≤ C.size := by
                  obtain ⟨o, av, xv, o1, o2, o3, o4⟩ := g3 (k2' - 1) (by omega)
                  have := (Array.getElem?_eq_some_iff.1 o3).1
                  omega
                have run := run_unsafeStr (P := P) (w := w) (ts := c.argTypes) (ty := o.type) (ad := ad) (cells := C.size) hts hd hu8 hty.2 hty.1 (by unfold World.shape?; rw [k2, e2]) (unpack k2' v) (by intro q; rw [q] at hlen; simp at hlen; omega) (by rw [hlen]; exact hlast) (by rw [hlen]; exact f4) hcell
                rw [hlen] at run
                obtain ⟨n1, n2⟩ := freeze_hr hR hid k1 k2 k2' h.ser
                refine ⟨_, .string ⟨(unpack k2' v).toArray⟩, w.freeze ad k2', φ, ?_, .inl rfl, n1, n2, .str (by simp) r3⟩
                have run' : (Builtin.unsafeString_ c.argTypes o.type #[.pointer (some ad), .int .i64 (Int.ofNat k2')]).run P w = _ := run
                rw [Sem.run_bind, run']
                rfl
        · trivial
      · trivial
  · trivial

theorem idxL_eq (c : Nat) (hc : c < 256) : ∀ (l : List UInt8) (i : Nat), idxL c l i = if Lib.indexByte l (UInt8.ofNat c) == -1 then -1 else Lib.indexByte l (UInt8.ofNat c) + i
  | [], i => by simp [idxL, Lib.indexByte]
  | b :: l, i => by
    have ge := Lib.indexByte_ge l (UInt8.ofNat c)
    unfold idxL Lib.indexByte
    by_cases hb : b.toNat = c
    · have e : b = UInt8.ofNat c := by apply UInt8.toNat_inj.1; rw [hb]; simp; omega
      rw [show Nat.beq b.toNat c = true from beq_iff.2 hb, cond_true, e]
      simp
    · have e : ¬ b = UInt8.ofNat c := fun q => hb (by rw [q]; simp; omega)
      rw [show Nat.beq b.toNat c = false from beq_false.2 hb, cond_false, idxL_eq c hc l (Nat.succ i)]
      have e' : (b == UInt8.ofNat c) = false := by simpa using e
      rw [e']
      simp only [Bool.false_eq_true, if_false]
      by_cases q : Lib.indexByte l (UInt8.ofNat c) = -1
      · simp [q]
      · have q1 : (Lib.indexByte l (UInt8.ofNat c) == -1) = false := by simpa using q
        have q2 : (Lib.indexByte l (UInt8.ofNat c) + 1 == -1) = false := by rw [beq_eq_false_iff_ne]; omega
        simp only [q1, q2, Bool.false_eq_true, if_false]
        show _ + ((i + 1 : Nat) : Int) = _
        omega

theorem cntL_eq (c : Nat) (hc : c < 256) : ∀ (l : List UInt8) (n : Nat), cntL c l n = n + Lib.countByte l (UInt8.ofNat c)
  | [], n => by simp [cntL, Lib.countByte]
  | b :: l, n => by
    unfold cntL Lib.countByte
    rw [List.count_cons]
    by_cases hb : b.toNat = c
    · have e : b = UInt8.ofNat c := by apply UInt8.toNat_inj.1; rw [hb]; simp; omega
      rw [show Nat.beq b.toNat c = true from beq_iff.2 hb, cond_true, e, cntL_eq c hc]
      simp [Lib.countByte]; omega
    · have e : ¬ b = UInt8.ofNat c := fun q => hb (by rw [q]; simp; omega)
      rw [show Nat.beq b.toNat c = false from beq_false.2 hb, cond_false, cntL_eq c hc]
      simp [Lib.countByte, e]

theorem cmpI_eq : ∀ (l m : List UInt8), cmpI (cmpL l m) = Lib.compareBytes l m
  | [], [] => rfl
  | [], _ :: _ => rfl
  | _ :: _, [] => rfl
  | a :: l, b :: m => by
    have ih := cmpI_eq l m
    unfold cmpL Lib.compareBytes
    by_cases h1 : a < b
    · have h1' := UInt8.lt_iff_toNat_lt.1 h1
      simp [h1, h1', cmpI]
    · by_cases h2 : b < a
      · have : ¬ a = b := fun q => by subst q; exact UInt8.lt_irrefl a h2
        have h2' := UInt8.lt_iff_toNat_lt.1 h2
        have h3 : ¬ a.toNat < b.toNat := by omega
        have h4 : ¬ a.toNat = b.toNat := by omega
        simp [h1, h2, h3, h4, cmpI]
      · have : a = b := UInt8.le_antisymm (UInt8.not_lt.1 h2) (UInt8.not_lt.1 h1)
        simp [h1, h2, this, ih]

theorem ext_find {fn : Func} (ho : fn.origin = "") {k : Nat} (hk : extName fn = k + 1) :
    Extern.findNext fn = none ∧ ∃ e, Extern.find fn = some e ∧ (k = 0 → e = Extern.AbiNoEscape.same) ∧ (k = 1 → e = Extern.BytealgMakeNoZero.makeNoZero fn.params fn.resultTypes) ∧ (k = 2 → e = Extern.BytealgCompare.compare) ∧ (k = 3 → e = Extern.BytealgIndexByte.indexByte) ∧ (k = 4 → e = Extern.BytealgCount.count) ∧ (k = 5 → e = Extern.BytealgIndex.index) := by
  unfold extName at hk
  cases h1 : fn.name == slash "internal" "abi.NoEscape" with
  | true =>
    rw [h1, cond_true] at hk
    cases hk
    unfold Extern.findNext Extern.find
    rw [eq_of_beq h1, ho]
    exact ⟨rfl, _, rfl, fun _ => rfl, (by intro q; cases q), (by intro q; cases q), (by intro q; cases q), (by intro q; cases q), (by intro q; cases q)⟩
  | false =>
  rw [h1, cond_false] at hk
  cases h1 : fn.name == slash "internal" "bytealg.MakeNoZero" with
  | true =>
    rw [h1, cond_true] at hk
    cases hk
    unfold Extern.findNext Extern.find
    rw [eq_of_beq h1, ho]
    exact ⟨rfl, _, rfl, (by intro q; cases q), fun _ => rfl, (by intro q; cases q), (by intro q; cases q), (by intro q; cases q), (by intro q; cases q)⟩
  | false =>
  rw [h1, cond_false] at hk
  cases h1 : fn.name == slash "internal" "bytealg.abigen_runtime_cmpstring" with
  | true =>
    rw [h1, cond_true] at hk
    cases hk
    unfold Extern.findNext Extern.find
    rw [eq_of_beq h1, ho]
    exact ⟨rfl, _, rfl, (by intro q; cases q), (by intro q; cases q), fun _ => rfl, (by intro q; cases q), (by intro q; cases q), (by intro q; cases q)⟩
  | false =>
  rw [h1, cond_false] at hk
  cases h1 : fn.name == slash "internal" "bytealg.IndexByteString" with
  | true =>
    rw [h1, cond_true] at hk
    cases hk
    unfold Extern.findNext Extern.find
    rw [eq_of_beq h1, ho]
    exact ⟨rfl, _, rfl, (by intro q; cases q), (by intro q; cases q), (by intro q; cases q), fun _ => rfl, (by intro q; cases q), (by intro q; cases q)⟩
  | false =>
  rw [h1, cond_false] at hk
  cases h1 : fn.name == slash "internal" "bytealg.CountString" with
  | true =>
    rw [h1, cond_true] at hk
    cases hk
    unfold Extern.findNext Extern.find
    rw [eq_of_beq h1, ho]
    exact ⟨rfl, _, rfl, (by intro q; cases q), (by intro q; cases q), (by intro q; cases q), (by intro q; cases q), fun _ => rfl, (by intro q; cases q)⟩
  | false =>
  rw [h1, cond_false] at hk
  cases h1 : fn.name == slash "internal" "bytealg.IndexString" with
  | true =>
    rw [h1, cond_true] at hk
    cases hk
    unfold Extern.findNext Extern.find
    rw [eq_of_beq h1, ho]
    exact ⟨rfl, _, rfl, (by intro q; cases q), (by intro q; cases q), (by intro q; cases q), (by intro q; cases q), (by intro q; cases q), fun _ => rfl⟩
  | false => rw [h1, cond_false] at hk; cases hk

theorem ext_name {fn : Func} {k : Nat} (hk : extName fn = k + 1) : (fn.name == "runtime.NumGoroutine") = false := by
  cases hn : fn.name == "runtime.NumGoroutine" with
  | false => rfl
  | true =>
    exfalso
    have hn := eq_of_beq hn
    unfold extName at hk
    rw [hn] at hk
    revert hk
    simp only [slash]
    intro hk
    have e : (0 : Nat) = k + 1 := hk
    cases e

theorem preL_eq : ∀ (a b : List UInt8), preL a b = a.isPrefixOf b
  | [], b => by cases b <;> rfl
  | _ :: _, [] => rfl
  | a :: l, b :: r => by
    unfold preL
    rw [preL_eq l r, List.isPrefixOf_cons_cons]
    by_cases c : a = b
    · subst c; rw [beq_iff.2 rfl, cond_true]; simp
    · rw [beq_false.2 fun q => c (UInt8.toNat_inj.1 q), cond_false]
      have : (a == b) = false := by simpa using c
      rw [this, Bool.false_and]

theorem idxS_eq (sub : List UInt8) : ∀ (s : List UInt8) (i : Nat), idxS sub s i = if Lib.index s sub = -1 then -1 else Lib.index s sub + (i : Int)
  | [], i => by
    unfold idxS Lib.index
    cases sub with
    | nil => simp
    | cons a l => simp
  | b :: l, i => by
    unfold idxS Lib.index
    rw [preL_eq]
    cases hp : sub.isPrefixOf (b :: l) with
    | true => simp
    | false =>
      rw [cond_false, idxS_eq sub l (Nat.succ i)]
      have ge := Lib.index_ge l sub
      by_cases q : Lib.index l sub = -1
      · simp [q]
      · have q2 : ¬ Lib.index l sub + 1 = -1 := by omega
        simp [q, q2]
        omega

theorem maxOk_spec (h : maxOk P = true) : ∃ g, P.globals.findIdx? (fun g => g.name == slash "internal" "bytealg.MaxLen") = some g ∧ g = maxGlob ∧ globOk g = true := by
  unfold maxOk at h
  split at h
  · rename_i g hg
    rw [Bool.and_eq_true] at h
    exact ⟨g, hg, beq_iff.1 h.1, h.2⟩
  · cases h

theorem byteT_ok {e : TypeId} (hb : byteT P e = true) : P.underlying e = some (.int .u8) ∧ P.cellsOf e = 1 := by
  unfold byteT at hb
  rw [Bool.and_eq_true, Bool.and_eq_true] at hb
  refine ⟨?_, beq_iff.1 hb.1.2⟩
  have := hb.1.1
  split at this
  · assumption
  · cases this

theorem extKind_ok {f : FuncId} {k : Nat} (hk : extKind P f = k + 1) : ∃ fn, P.funcs[f]? = some fn ∧ fn.body = none ∧ fn.origin = "" ∧ extName fn = k + 1 ∧
    (k = 1 → ∃ t r e, fn.resultTypes.toList = t :: r ∧ P.underlying t = some (.slice e) ∧ P.underlying e = some (.int .u8) ∧ P.cellsOf e = 1) ∧ (k = 5 → maxOk P = true) := by
  unfold extKind at hk
  split at hk
  · rename_i fn hf
    split at hk
    · cases hk
    · rename_i hb
      cases ho : fn.origin == "" with
      | false => rw [ho] at hk; cases hk
      | true =>
        rw [ho, cond_true] at hk
        refine ⟨fn, hf, hb, eq_of_beq ho, ?_⟩
        split at hk
        · rename_i hx
          split at hk
          · rename_i t r hrt
            split at hk
            · rename_i e he
              cases hbt : byteT P e with
              | false => rw [hbt] at hk; cases hk
              | true =>
                rw [hbt] at hk
                cases hk
                exact ⟨hx, fun _ => ⟨t, r, e, hrt, (elem_underlying he).1, byteT_ok hbt⟩, fun q => by cases q⟩
            · cases hk
          · cases hk
        · rename_i hx
          cases hmx : maxOk P with
          | false => rw [hmx] at hk; cases hk
          | true =>
            rw [hmx, cond_true] at hk
            cases hk
            exact ⟨hx, (fun q => by cases q), fun _ => rfl⟩
        · rename_i hx1 hx2
          refine ⟨hk, fun q => ?_, fun q => ?_⟩
          · subst q
            exact absurd hk hx1
          · subst q
            exact absurd hk hx2
  · cases hk

set_option maxRecDepth 20000 in
theorem op_ext (hR : HR P φ h w) (hE : EnvR φ env a.tmps) (hm : Room h) {c : Call} {f : FuncId} {k : Nat} {l : List Opd} (hk : extKind P f = k + 1) (hl : mapO (compOpd P) c.args.toList = some l) (hc : c.callee = .value (.func f)) (ho : o.op = .call c) :
    ResR P φ h w (evalOp P (.ext (k + 1) l) env h) ((execOp a.eval o).run P w) := by
  have rl := opds_rel hR hE hl
  obtain ⟨fn, hf, hb, hor, hx, hres⟩ := extKind_ok hk
  obtain ⟨f1, e, f2, f3⟩ := ext_find hor hx
  have hrun : (execOp a.eval o).run P w = ((e (c.args.map a.eval)).run P w).andThen fun v w' => .ok (.value v) w' := by
    rw [← callExt_run hf hb (ext_name hx) f1 f2]
    simp only [execOp, ho, resolve, hc]
    show (callFunc f ((#[] ++ c.args.map a.eval) ++ #[])).run P w = _
    rw [Array.empty_append, Array.append_empty]
  rw [hrun]
  show ResR P φ h w (extE h (k + 1) (l.map (ev env))) _
  generalize hA : c.args.map a.eval = A
  have rl : RelL φ (l.map (ev env)) A.toList := by rw [← hA]; simpa using rl
  generalize l.map (ev env) = al at rl
  obtain ⟨A⟩ := A
  unfold extE
  split
  · rename_i hk1
    cases hk1
    cases rl with
    | cons r1 r2 =>
      cases r2
      rw [(f3.1 rfl)]
      exact ResR.pure hR r1 (by rw [Lib.run_noEscape]; rfl)
  · rename_i hk1
    cases hk1
    cases rl with
    | cons r1 r2 =>
      cases r2
      rw [(f3.1 rfl)]
      exact ResR.pure hR r1 (by rw [Lib.run_noEscape]; rfl)
  · rename_i n hk1
    cases hk1
    cases rl with
    | cons r1 r2 =>
      cases r2
      cases r1
      cases hb1 : Nat.ble n 140737488355328 with
      | false => trivial
      | true =>
        have hb1 := ble_iff.1 hb1
        rw [cond_true, newCellsN_eq, f3.2.1 rfl]
        obtain ⟨t, r, el, q1, q2, q3, q4⟩ := hres.1 rfl
        have hmk : Extern.BytealgMakeNoZero.makeNoZero fn.params fn.resultTypes #[.int .i64 (Int.ofNat n)] = Extern.BytealgMakeNoZero.makeNoZero fn.params #[t] #[.int .i64 (Int.ofNat n)] := by
          have q : fn.resultTypes[0]? = some t := by rw [← Array.getElem?_toList, q1]; rfl
          have hdef : ∀ rs : Array TypeId, Extern.BytealgMakeNoZero.makeNoZero fn.params rs #[.int .i64 (Int.ofNat n)] =
              (do
                let some t := rs[0]? | stuck _
                let .slice elem ← underlying t | stuck _
                if Int.ofNat n < 0 || Int.ofNat n > 2 ^ 48 then runtimePanic (.error _)
                let cap ← choose (.appendCap (Int.ofNat n).toNat 0 elem)
                askRoom cap
                let bytes ← choose _
                let a ← newRow elem (Extern.BytealgMakeNoZero.digits cap bytes #[])
                pure (.slice (some a) (Int.ofNat n).toNat cap)) := fun _ => rfl
          rw [hdef, hdef, q]
          rfl
        obtain ⟨cs, e1, e2, _⟩ := Lib.run_makeNoZero (P := P) w fn.params t el q2 n (by omega)
        have e1 : (Extern.BytealgMakeNoZero.makeNoZero fn.params #[t] #[.int .i64 (Int.ofNat n)]).run P w = _ := e1
        have hR1 := hR.drew (w.drawn + 2)
        have hA1 := Adv.drew h w φ (w.drawn + 2)
        obtain ⟨n1, n2⟩ := newCells_run hR1 hm (c := .byt 0 0) (xs := []) (spare := cs.toList) (by simp [Cells.wf]) .nil el (0, 0) false rfl 1 (Nat.succ h.ser) (.inr (.inl ⟨rfl, q3, q4⟩))
        simp only [List.nil_append, Array.toArray_toList] at n1 n2
        refine ⟨.value (.slice (some ⟨w.heap.size, 0, none⟩) n cs.size), .slice (some ⟨w.heap.size, 0, none⟩) n cs.size, _, _, ?_, .inl rfl, n1, hA1.trans hR n2 (hm.was (by simp only [Pos.num_succ]; omega)), ?_⟩
        · show Result.andThen ((Extern.BytealgMakeNoZero.makeNoZero fn.params fn.resultTypes #[.int .i64 (Int.ofNat n)]).run P w) _ = _
          rw [hmk, e1]
          rfl
        · exact .sl (Phi.put_same _ _ _ _) rfl rfl e2 e2 (Nat.le_refl _) (fun q => by cases q) fun _ => ⟨rfl, by simp⟩
  · rename_i n v m u hk1
    cases hk1
    cases rl with
    | cons r1 r2 =>
      cases r2 with
      | cons r2 r3 =>
        cases r3
        obtain ⟨s, rfl, s1, s2, s3⟩ := rel_str r1
        obtain ⟨s', rfl, s1', s2', s3'⟩ := rel_str r2
        rw [intK_eq, f3.2.2.1 rfl, strCmp_eq _ _ _ _ s2 s2', ← s1, ← s1', cmpI_eq]
        exact ResR.pure hR (.int _ _) (by show Result.andThen ((Extern.BytealgCompare.compare #[.string s, .string s']).run P w) _ = _; rw [Lib.run_compareString]; rfl)
  · rename_i n v b hk1
    cases hk1
    cases rl with
    | cons r1 r2 =>
      cases r2 with
      | cons r2 r3 =>
        cases r3
        obtain ⟨s, rfl, s1, s2, s3⟩ := rel_str r1
        cases r2
        cases hb1 : Nat.blt b 256 with
        | false => trivial
        | true =>
          have hb1 := blt_iff.1 hb1
          rw [cond_true, intK_eq, f3.2.2.2.1 rfl, ← s1, idxL_eq b hb1]
          have ge := Lib.indexByte_ge s.data.toList (UInt8.ofNat b)
          have e0 : (if Lib.indexByte s.data.toList (UInt8.ofNat b) == -1 then -1 else Lib.indexByte s.data.toList (UInt8.ofNat b) + ((0 : Nat) : Int)) = Lib.indexByte s.data.toList (UInt8.ofNat b) := by
            by_cases q : Lib.indexByte s.data.toList (UInt8.ofNat b) = -1
            · simp [q]
            · simp [q]
          rw [e0]
          exact ResR.pure hR (.int _ _) (by show Result.andThen ((Extern.BytealgIndexByte.indexByte #[.string s, .int .u8 (Int.ofNat b)]).run P w) _ = _; rw [Lib.run_indexByteString]; rfl)
  · rename_i n v b hk1
    cases hk1
    cases rl with
    | cons r1 r2 =>
      cases r2 with
      | cons r2 r3 =>
        cases r3
        obtain ⟨s, rfl, s1, s2, s3⟩ := rel_str r1
        cases r2
        cases hb1 : Nat.blt b 256 with
        | false => trivial
        | true =>
          have hb1 := blt_iff.1 hb1
          rw [cond_true, natK_eq, f3.2.2.2.2.1 rfl, ← s1, cntL_eq b hb1, Nat.zero_add]
          exact ResR.pure hR (.int _ _) (by show Result.andThen ((Extern.BytealgCount.count #[.string s, .int .u8 (Int.ofNat b)]).run P w) _ = _; rw [Lib.run_countString]; rfl)
  · rename_i n v m u hk1
    generalize hG : read1 h (Pos.ofNat maxGlob) 0 0 = G
    cases hk1
    cases rl with
    | cons r1 r2 =>
      cases r2 with
      | cons r2 r3 =>
        cases r3
        obtain ⟨s, rfl, s1, s2, s3⟩ := rel_str r1
        obtain ⟨s', rfl, s1', s2', s3'⟩ := rel_str r2
        unfold idxE
        split
        · rename_i c k
          have hrd := hG
          cases hb1 : (Nat.beq c 1 && Nat.ble m k && Nat.ble 2 m && Nat.blt n lim32) with
          | false => trivial
          | true =>
            simp only [Bool.and_eq_true] at hb1
            obtain ⟨⟨⟨b1, b2⟩, b3⟩, b4⟩ := hb1
            have b1 := beq_iff.1 b1
            have b2 := ble_iff.1 b2
            have b3 := ble_iff.1 b3
            have b4 : n < lim32 := blt_iff.1 b4
            subst b1
            obtain ⟨gg, hgi, hgm, hgk⟩ := maxOk_spec (hres.2 rfl)
            obtain ⟨nn, hφ⟩ := hR.glob gg hgk
            subst hgm
            obtain ⟨x, e1, e2⟩ := read1_run hR hrd (a := ⟨maxGlob, 0, none⟩) hφ rfl rfl rfl
            cases e2
            rename_i mm hmm
            have hmm : (k : Int) ≤ mm := hmm
            have l1 : s.size = n := by rw [Lib.size_eq, s1, unpack_length]
            have l2 : s'.size = m := by rw [Lib.size_eq, s1', unpack_length]
            rw [cond_true, intK_eq, f3.2.2.2.2.2 rfl, ← s1, ← s1', idxS_eq]
            have e0 : (if Lib.index s.data.toList s'.data.toList = -1 then -1 else Lib.index s.data.toList s'.data.toList + ((0 : Nat) : Int)) = Lib.index s.data.toList s'.data.toList := by
              by_cases q : Lib.index s.data.toList s'.data.toList = -1
              · simp [q]
              · simp [q]
            rw [e0]
            exact ResR.pure hR (.int _ _) (by
              show Result.andThen ((Extern.BytealgIndex.index #[.string s, .string s']).run P w) _ = _
              rw [Lib.run_indexString s s' w maxGlob mm hgi e1 (by omega) (by omega) (by rw [l1]; exact b4)]; rfl)
        · trivial
  · trivial

end
end Go.Proofs.YtialpccieggaoaaGreatDoor.Am

namespace Go.Proofs.YtialpccieggaoaaGreatDoor.Am

theorem eqP_iff {p q : Pos} : eqP p q = true ↔ p = q := samePos_iff

theorem eqB_iff {a b : Bool} : eqB a b = true ↔ a = b := by cases a <;> cases b <;> decide
theorem eqI_iff {a b : Int} : eqI a b = true ↔ a = b := by
  cases a <;> cases b
  · show Nat.beq _ _ = true ↔ _
    rw [beq_iff]; exact ⟨fun h => by rw [h], fun h => by cases h; rfl⟩
  · exact ⟨fun h => (by cases h), fun h => (by cases h)⟩
  · exact ⟨fun h => (by cases h), fun h => (by cases h)⟩
  · show Nat.beq _ _ = true ↔ _
    rw [beq_iff]; exact ⟨fun h => by rw [h], fun h => by cases h; rfl⟩
theorem eqK_iff {a b : IntKind} : eqK a b = true ↔ a = b := by simp [eqK]

theorem eqLs_sound {f : AV → AV → Bool} (h : ∀ x y, f x y = true → x = y) : ∀ {l r : List AV}, eqLs f l r = true → l = r
  | [], [], _ => rfl
  | [], _ :: _, e => by cases e
  | _ :: _, [], e => by cases e
  | x :: l, y :: r, e => by
    simp only [eqLs, Bool.and_eq_true] at e
    rw [h x y e.1, eqLs_sound h e.2]

theorem eqAV_sound : ∀ (n : Nat) {x y : AV}, eqAV n x y = true → x = y
  | 0, _, _, e => by cases e
  | n + 1, x, y, e => by
    have ih := fun x y => eqAV_sound n (x := x) (y := y)
    unfold eqAV at e
    split at e <;> (try simp only [Bool.and_eq_true, eqB_iff, eqI_iff, eqK_iff, eqP_iff, beq_iff] at e)
    all_goals first
      | rfl
      | (cases e; done)
      | (subst e; rfl)
      | (obtain ⟨rfl, rfl⟩ := e; rfl)
      | (obtain ⟨⟨rfl, rfl⟩, rfl⟩ := e; rfl)
      | (obtain ⟨⟨⟨⟨⟨⟨rfl, rfl⟩, rfl⟩, rfl⟩, rfl⟩, rfl⟩, rfl⟩ := e; rfl)
      | (obtain ⟨⟨rfl, e1⟩, e2⟩ := e; rw [eqLs_sound ih e1, eqLs_sound ih e2])
      | (obtain ⟨rfl, e1⟩ := e; rw [ih _ _ e1])
      | (rw [eqLs_sound ih e])

end Go.Proofs.YtialpccieggaoaaGreatDoor.Am
