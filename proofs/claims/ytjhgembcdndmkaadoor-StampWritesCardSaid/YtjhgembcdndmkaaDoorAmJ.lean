import Derived.Test.YtjhgembcdndmkaaDoorAmI
/- THE ABSTRACT MACHINE, part J: a machine over values without block numbers, and the proof that the model's machine does what it does. No condition. -/
set_option linter.unusedSimpArgs false
set_option linter.unusedVariables false
namespace Go.Proofs.YtjhgembcdndmkaaDoor.Am
open Go.RowKit

/-- The function goes over n things: what its round K answers with false ends it. What it reads is M; what round i is told is Y, with new memory T. Between rounds it writes only what it laid ahead of the first one (below B), or lays then. -/
def GoesAll (P : Program) (g : FuncId) (captured : List AV) (n : Nat) (Y : Nat → Hp → List AV → List Pos → Prop) (M : Pos → Prop) (h : Hp) : Prop :=
  ∀ (l : Pos) (S : List Pos) (K : Nat) (h0 : Hp), K ≤ n → Only [] h h0 → (∀ id ∈ S, ¬ M id ∧ id.num < h0.next.num) →
    ∃ B, h0.next.num ≤ B ∧ ∀ (J : Nat → Hp → Prop) (Q : Hp → Prop),
    (∀ i h1 h2 S', J i h1 → Only S' h1 h2 → (∀ id ∈ S', h0.next.num ≤ id.num ∧ id.num < B) → J i h2) → (∀ h1 h2 S', Q h1 → Only S' h1 h2 → (∀ id ∈ S', h0.next.num ≤ id.num ∧ id.num < B) → Q h2) →
    (∀ i hO h1 ys T, i < K → J i hO → B ≤ hO.next.num → Only [] hO h1 → Y i h1 ys T → (∀ id ∈ T, hO.next.num ≤ id.num ∧ id.num < h1.next.num) → ∃ h' S', RoundFn P l ys h1 (.bool true) h' ∧ J (i + 1) h' ∧ Only S' h1 h' ∧ ∀ id ∈ S', id ∈ S ∨ B ≤ id.num) → (K = n → ∀ h1, J K h1 → Q h1) →
    (K < n → ∀ hO h1 ys T, J K hO → B ≤ hO.next.num → Only [] hO h1 → Y K h1 ys T → (∀ id ∈ T, hO.next.num ≤ id.num ∧ id.num < h1.next.num) → ∃ h' S', RoundFn P l ys h1 (.bool false) h' ∧ Q h' ∧ Only S' h1 h' ∧ ∀ id ∈ S', id ∈ S ∨ B ≤ id.num) → J 0 h0 →
    ∃ h', AmFn P g (.yield l :: captured) h0 (.tup []) h' ∧ Q h' ∧ Only S h0 h'

theorem GoesAll.only {P : Program} {g : FuncId} {captured : List AV} {n : Nat} {Y : Nat → Hp → List AV → List Pos → Prop} {M : Pos → Prop} {h h' : Hp} (a : GoesAll P g captured n Y M h) (m : Only [] h h') : GoesAll P g captured n Y M h' :=
  fun l S K h0 hK ho => a l S K h0 hK (m.trans ho)

/-- What is changed, seen from what there was. -/
theorem Only.back {S : List Pos} {h h' : Hp} (a : Only S h h') : ∃ hO, Only S h hO ∧ Only [] hO h' ∧ hO.next = h.next :=
  ⟨⟨h'.heap, h.next, h'.ser, h'.lim⟩, ⟨Nat.le_refl _, a.lim, a.same⟩, ⟨a.next, rfl, fun _ _ _ => rfl⟩, rfl⟩

/-- A going over, by what its rounds do. -/
theorem Dos.overA {P : Program} {F : FuncId} {env : T AV} {h : Hp} {f : Opd} {params : List Pos} {assign body : C} {g : FuncId} {captured : List AV} {n : Nat} {Y : Nat → Hp → List AV → List Pos → Prop} {M : Pos → Prop} (hg : GoesAll P g captured n Y M h) (hM : ∀ id, M id → id.num < h.next.num)
    (hk : okCall P g = true) (hf : ev env f = .fn (.func g) [] captured) {S : List Pos} (hS : ∀ id ∈ S, ¬ M id ∧ id.num < h.next.num) {K : Nat} (hK : K ≤ n) {j : C} {o : Sg} (hj : (o = .ret ∧ j = .ret) ∨ ∃ i, o = .exit i ∧ j = .exit i) :
    ∃ B, h.next.num + 2 ≤ B ∧ ∀ (J : Nat → Hp → Prop) (Q : Hp → Prop) (A : Nat → T AV → List Pos → Hp → Prop),
    (∀ i h1 h2 S', J i h1 → Only S' h1 h2 → (∀ id ∈ S', h.next.num ≤ id.num ∧ id.num < B) → J i h2) → (∀ h1 h2 S', Q h1 → Only S' h1 h2 → (∀ id ∈ S', h.next.num ≤ id.num ∧ id.num < B) → Q h2) →
    (∀ i env1 T h1 h2 id, A i env1 T h1 → Only [id] h1 h2 → h.next.num ≤ id.num → id.num < B → id ∉ T → A i env1 T h2) →
    (∀ i hO h1 ys T, i ≤ K → i < n → J i hO → B ≤ hO.next.num → Only [] hO h1 → Y i h1 ys T → (∀ id ∈ T, hO.next.num ≤ id.num ∧ id.num < h1.next.num) → ∃ env0 env1 h2, setParams env params ys = some env0 ∧ Dos P F assign env0 h1 .go [] env1 h2 ∧ Only [] h1 h2 ∧ A i env1 T h2) →
    (∀ i env1 T h1, i < K → A i env1 T h1 → B ≤ h1.next.num → (∀ id ∈ T, B ≤ id.num ∧ id.num < h1.next.num) → ∃ env2 h2 S', Dos P F body env1 h1 .go [] env2 h2 ∧ J (i + 1) h2 ∧ Only S' h1 h2 ∧ ∀ id ∈ S', id ∈ S ∨ B ≤ id.num) → (K = n → ∀ h1, J K h1 → Q h1) →
    (K < n → ∀ env1 T h1, A K env1 T h1 → B ≤ h1.next.num → (∀ id ∈ T, B ≤ id.num ∧ id.num < h1.next.num) → ∃ env2 h2 S', Dos P F body env1 h1 o [] env2 h2 ∧ Q h2 ∧ Only S' h1 h2 ∧ ∀ id ∈ S', id ∈ S ∨ B ≤ id.num) → J 0 h →
    ∃ h', Dos P F (.rangeFunc f params assign body) env h (if K = n then .go else o) [.mark h.next] env h' ∧ Q h' ∧ Only S h h' ∧ (∃ s, T.get h.next h'.heap = some (.dfr s)) ∧ h.next.num + 2 ≤ h'.next.num := by
  have od : Only [] h (dfrH h) := newH_only _ _ _
  have nd : (dfrH h).next.num = h.next.num + 1 := newH_next _ _
  have ol : Only [] (dfrH h) (loopH (dfrH h) F env params assign body h.next) := newH_only _ _ _
  have nl : (loopH (dfrH h) F env params assign body h.next).next.num = (dfrH h).next.num + 1 := newH_next _ _
  have gd : T.get h.next (dfrH h).heap = some (.dfr h.ser) := newH_get _ _
  have gl : LoopAt (loopH (dfrH h) F env params assign body h.next) (dfrH h).next .ready F env params assign body := ⟨by omega, _, _, newH_get _ _⟩
  have gd' : T.get h.next (loopH (dfrH h) F env params assign body h.next).heap = some (.dfr h.ser) := (ol.same _ (by omega) (by simp)).trans gd
  generalize hhl : loopH (dfrH h) F env params assign body h.next = hl at *
  have odl : Only [] h hl := od.trans ol
  generalize hlp : (dfrH h).next = l at *
  have hlS : l ∉ S := fun c => by have := (hS _ c).2; omega
  have hS2 : ∀ id ∈ l :: S, ¬ M id ∧ id.num < hl.next.num := fun id hid => by
    rcases List.mem_cons.1 hid with q | q
    · subst q; exact ⟨fun c => by have := hM _ c; omega, by omega⟩
    · have := hS _ q; exact ⟨this.1, by omega⟩
  obtain ⟨B, hB, hgo⟩ := hg l (l :: S) K hl hK odl hS2
  refine ⟨B, by omega, fun J Q A hJ hQ hA hass hb hq hs j0 => ?_⟩
  -- a round, up to its body
  have start : ∀ i hO h1 ys T, i ≤ K → i < n → LoopAt hO l .ready F env params assign body → J i hO → B ≤ hO.next.num → Only [] hO h1 → Y i h1 ys T → (∀ id ∈ T, hO.next.num ≤ id.num ∧ id.num < h1.next.num) →
      ∃ env0 env1 h2, setParams env params ys = some env0 ∧ LoopAt h1 l .ready F env params assign body ∧ Dos P F assign env0 h1 .go [] env1 h2 ∧ Only [] h1 h2 ∧ LoopAt h2 l .ready F env params assign body ∧ A i env1 T (putL h2 l .busy) ∧ B ≤ (putL h2 l .busy).next.num ∧ (∀ id ∈ T, B ≤ id.num ∧ id.num < (putL h2 l .busy).next.num) := by
    intro i hO h1 ys T hi hin x ji hn oO y hT
    obtain ⟨env0, env1, h2, e0, d1, o1, a⟩ := hass i hO h1 ys T hi hin ji hn oO y hT
    have n0 := oO.next
    have n1 := o1.next
    have n2 := (putL_only h2 l .busy).next
    have hlT : l ∉ T := fun c => by have := (hT _ c).1; omega
    exact ⟨env0, env1, h2, e0, x.only oO (by simp), d1, o1, (x.only oO (by simp)).only o1 (by simp), hA i env1 T h2 _ l a (putL_only _ _ _) (by omega) (by omega) hlT, by omega, fun id hid => by have := hT id hid; omega⟩
  obtain ⟨h3, hgo, ⟨q1, q2⟩, o3⟩ := hgo (fun i h1 => LoopAt h1 l .ready F env params assign body ∧ J i h1)
    (fun h3 => Q h3 ∧ ((K = n ∧ LoopAt h3 l .ready F env params assign body) ∨ (K < n ∧ LoopJ h3 l .done j)))
    (fun i h1 h2 S' jq oq hS' => ⟨jq.1.only oq fun c => by have := hS' _ c; omega, hJ i h1 h2 S' jq.2 oq fun id hid => by have := hS' id hid; omega⟩)
    (fun h1 h2 S' jq oq hS' => ⟨hQ h1 h2 S' jq.1 oq fun id hid => by have := hS' id hid; omega, jq.2.imp (fun q => ⟨q.1, q.2.only oq fun c => by have := hS' _ c; omega⟩) fun q => ⟨q.1, q.2.only oq fun c => by have := hS' _ c; omega⟩⟩)
    (fun i hO h1 ys T hi jq hn oO y hT => by
      obtain ⟨env0, env1, h2, e0, x, d1, o1, x1, a, k1, k2⟩ := start i hO h1 ys T (by omega) (by omega) jq.1 jq.2 hn oO y hT
      obtain ⟨env2, h4, S', d2, j2, o2, hS'⟩ := hb i env1 T _ hi a k1 k2
      have x2 := (x1.put .busy).only o2 fun c => by rcases hS' _ c with q | q; exact hlS q; omega
      refine ⟨putL h4 l .ready, S' ++ [l], RoundFn.dos x e0 d1 x1 d2 x2, ⟨x2.put .ready, hJ _ h4 _ [l] j2 (putL_only _ _ _) (by intro id hid; simp at hid; subst hid; omega)⟩, ?_⟩
      refine ⟨(((o1.mono (S' := S' ++ [l]) (by simp)).trans ((putL_only h2 l .busy).mono fun id hid => .inl (by simp at hid; simp [hid]))).trans (o2.mono fun id hid => .inl (by simp [hid]))).trans ((putL_only h4 l .ready).mono fun id hid => .inl (by simp at hid; simp [hid])), fun id hid => ?_⟩
      rcases List.mem_append.1 hid with hid | hid
      · exact (hS' id hid).imp (fun q => List.mem_cons_of_mem _ q) fun q => q
      · exact .inl (by simp only [List.mem_singleton] at hid; simp [hid]))
    (fun e h1 jq => ⟨hq e h1 jq.2, .inl ⟨e, jq.1⟩⟩)
    (fun hi hO h1 ys T jq hn oO y hT => by
      obtain ⟨env0, env1, h2, e0, x, d1, o1, x1, a, k1, k2⟩ := start K hO h1 ys T (Nat.le_refl _) hi jq.1 jq.2 hn oO y hT
      obtain ⟨env2, h4, S', d2, j2, o2, hS'⟩ := hs hi env1 T _ a k1 k2
      have x2 := (x1.put .busy).only o2 fun c => by rcases hS' _ c with q | q; exact hlS q; omega
      refine ⟨putJ h4 l j, S' ++ [l], RoundFn.jumps hj x e0 d1 x1 d2 x2, ⟨hQ h4 _ [l] j2 (putJ_only _ _ _) (by intro id hid; simp at hid; subst hid; omega), .inr ⟨hi, x2.jump j⟩⟩, ?_⟩
      refine ⟨(((o1.mono (S' := S' ++ [l]) (by simp)).trans ((putL_only h2 l .busy).mono fun id hid => .inl (by simp at hid; simp [hid]))).trans (o2.mono fun id hid => .inl (by simp [hid]))).trans ((putJ_only h4 l j).mono fun id hid => .inl (by simp at hid; simp [hid])), fun id hid => ?_⟩
      rcases List.mem_append.1 hid with hid | hid
      · exact (hS' id hid).imp (fun q => List.mem_cons_of_mem _ q) fun q => q
      · exact .inl (by simp only [List.mem_singleton] at hid; simp [hid]))
    ⟨gl, hJ 0 h hl [] j0 odl (by simp)⟩
  have on := putL_only h3 l .exhausted
  have n3 := o3.next
  have nn := on.next
  have dfrFin : ∃ s, T.get h.next (putL h3 l .exhausted).heap = some (.dfr s) := by
    refine ⟨h.ser, ?_⟩
    rw [on.same _ (by omega) (by simp only [List.mem_singleton]; exact num_ne (by omega)), o3.same _ (by omega) (by
      simp only [List.mem_cons, not_or]
      exact ⟨num_ne (by omega), fun c => by have := (hS _ c).2; omega⟩)]
    exact gd'
  have onlyFin : Only S h (putL h3 l .exhausted) := by
    refine ((odl.mono (S' := l :: S) (by simp)).trans (o3.trans (on.mono fun id hid => .inl (by simp at hid; simp [hid])))).mono fun id hid => ?_
    rcases List.mem_cons.1 hid with q | q
    · exact .inr (by rw [q]; omega)
    · exact .inl q
  have qFin : Q (putL h3 l .exhausted) := hQ h3 _ [l] q1 on (by intro id hid; simp at hid; subst hid; omega)
  have hgo' : AmFn P g ([] ++ (.yield (dfrH h).next :: captured)) (loopH (dfrH h) F env params assign body h.next) (.tup []) h3 := by
    rw [hlp, hhl]; exact hgo
  rcases q2 with ⟨e, q2⟩ | ⟨e, q2⟩
  · rw [← hlp] at q2
    have d := Dos.range (P := P) (F := F) (env := env) (h := h) (f := f) (params := params) (assign := assign) (body := body) hk hf hgo' q2
    rw [hlp] at d
    rw [if_pos e]
    exact ⟨_, d, qFin, onlyFin, dfrFin, by omega⟩
  · rw [← hlp] at q2
    have d := Dos.rangeJ (P := P) (F := F) (env := env) (h := h) (f := f) (params := params) (assign := assign) (body := body) (hj.imp (fun q => q.2) fun ⟨i, q⟩ => ⟨i, q.2⟩) hk hf hgo' q2
    rw [hlp] at d
    have eo : Sg.ofC j = o := by
      rcases hj with ⟨a, b⟩ | ⟨i, a, b⟩ <;> subst a b <;> rfl
    rw [eo] at d
    rw [if_neg (by omega)]
    exact ⟨_, d, qFin, onlyFin, dfrFin, by omega⟩
end Go.Proofs.YtjhgembcdndmkaaDoor.Am

namespace Go.Proofs.YtjhgembcdndmkaaDoor.Am
open Go.RowKit

/-! ### Bytes -/

noncomputable def byt (b : List UInt8) : List AV := b.map fun x => byteV x.toNat

theorem byt_length (b : List UInt8) : (byt b).length = b.length := List.length_map _

theorem byt_append (a b : List UInt8) : byt (a ++ b) = byt a ++ byt b := List.map_append

theorem byt_atom (b : List UInt8) : ∀ y ∈ byt b, y.atom = true := fun y hy => by
  obtain ⟨x, _, rfl⟩ := List.mem_map.1 hy
  rfl

theorem byt_inj : ∀ {a b : List UInt8}, byt a = byt b → a = b
  | [], [], _ => rfl
  | [], _ :: _, e => by cases e
  | _ :: _, [], e => by cases e
  | x :: a, y :: b, e => by
    have e : byteV x.toNat :: byt a = byteV y.toNat :: byt b := e
    obtain ⟨e1, e2⟩ := List.cons.inj e
    have e3 : x.toNat = y.toNat := by
      unfold byteV at e1
      injection e1 with _ e1
      exact Int.ofNat.inj e1
    rw [byt_inj e2, UInt8.toNat_inj.1 e3]

theorem packAV_byt : ∀ (b : List UInt8) (n v : Nat), packAV (byt b) n v = some (n + b.length, b.foldl (fun a b => a * 256 + b.toNat) v)
  | [], n, v => rfl
  | x :: b, n, v => by
    have e : packAV (byt (x :: b)) n v = bif Nat.blt x.toNat 256 then packAV (byt b) (n + 1) (v * 256 + x.toNat) else none := rfl
    rw [e, blt_iff.2 x.toNat_lt, cond_true, packAV_byt b, List.length_cons, List.foldl_cons]
    congr 2
    omega

/-- The text of bytes. -/
theorem SlN.str {P : Program} {h : Hp} {v : AV} {n : Nat} {b : List UInt8} (r : SlN h 1 v n (byt b)) : ∀ env x, ev env x = v → evalOp P (.bytesStr x) env h = .val (strOf b) h := by
  intro env x hx
  have hn : n = b.length := by have := r.length; rw [byt_length] at this; omega
  have e : evalOp P (.bytesStr x) env h = (match ev env x with
    | .nilSl => .val (.str 0 0) h
    | .sl id g off len _ _ es => bif Nat.beq len 0 then .val (.str 0 0) h else
      bif Nat.beq es 1 then (match readN h id g off len with
      | some (.byt n v) => natK v fun v => .val (.str n v) h
      | some (.lst _ l) => (match packAV l 0 0 with
        | some (n, v) => .val (.str n v) h
        | none => .fail "bytesStr bytes")
      | none => .fail "bytesStr") else .fail "bytesStr size"
    | _ => .fail "bytesStr what") := rfl
  rw [e, hx]
  generalize hq : byt b = q at r
  cases r with
  | nil =>
    have : b = [] := List.length_eq_zero_iff.1 hn.symm
    subst this; rfl
  | emp =>
    have : b = [] := List.length_eq_zero_iff.1 hn.symm
    subst this; rfl
  | mk hl r =>
    by_cases h0 : n = 0
    · subst h0
      have : b = [] := List.length_eq_zero_iff.1 hn.symm
      subst this; rfl
    · obtain ⟨c, c1, c2, c3⟩ := r.all
      rw [hl, Nat.mul_one] at c1
      simp only [beq_false.2 h0, cond_false, show Nat.beq 1 1 = true from rfl, cond_true, c1]
      subst hq
      cases c with
      | byt m u =>
        have hm : m = b.length := by
          have := Cells.toL_length c2
          rw [c3, byt_length] at this
          exact this.symm
        subst hm
        have e2 : bytesL b.length u = byt b := c3
        rw [bytesL_eq] at e2
        have e3 : unpack b.length u = b := byt_inj e2
        have hu : u = pack b := by
          have := pack_unpack b.length u
          rw [e3, Nat.mod_eq_of_lt c2] at this
          exact this.symm
        subst hu
        simp only [natK_eq]
        rfl
      | lst m l =>
        have e2 : l = byt b := c3
        subst e2
        show (match packAV (byt b) 0 0 with
          | some (n, v) => Res.val (.str n v) h
          | none => Res.fail "bytesStr bytes") = _
        rw [packAV_byt]
        show Res.val (.str (0 + b.length) _) h = _
        rw [Nat.zero_add]
        rfl

/-- Nothing, in new memory. -/
theorem emptySl (P : Program) (es : Nat) (z : List AV) (hes : 0 < es) (h : Hp) : ∃ h', (∀ env, evalOp P (.buildSl 0 es z []) env h = .val (.sl h.next 0 0 0 0 true es) h') ∧ Only [] h h' ∧ h'.next.num = h.next.num + 1 := by
  refine ⟨newH h fun _ => .cells 0 (Cells.ofL []) 0 0 0 0 false false, fun env => ?_, newH_only _ _ _, newH_next _ _⟩
  have e : evalOp P (.buildSl 0 es z []) env h = bif Nat.blt 0 es then newCells h (Cells.ofL []) fun id h => .val (.sl id 0 0 0 0 true es) h else .fail "buildSl" := rfl
  rw [e, blt_iff.2 hes, cond_true]
  unfold newCells
  rw [newK_newH]

/-- One record, in new memory. -/
theorem oneSl (P : Program) {es : Nat} {z l : List AV} (hes : 0 < es) (hz : z.length = es) (hl : l.length = es) (h : Hp) : ∃ h', (∀ env x, (ev env x).cells = l → evalOp P (.buildSl 1 es z [(0, es, x)]) env h = .val (.sl h.next 0 0 1 1 true es) h') ∧ Arr h' h.next l ∧ Only [] h h' ∧ h'.next.num = h.next.num + 1 := by
  refine ⟨newH h fun _ => .cells 0 (Cells.ofL l) 0 0 0 0 false false, fun env x hx => ?_, newH_arr h l, newH_only _ _ _, newH_next _ _⟩
  have e : evalOp P (.buildSl 1 es z [(0, es, x)]) env h = (match fillA env (replA 1 z []) [(0, es, x)] with
    | some l => bif Nat.blt 0 es then newCells h (Cells.ofL l) fun id h => .val (.sl id 0 0 1 1 true es) h else .fail "buildSl"
    | none => .fail "buildSl") := rfl
  have f : fillA env (replA 1 z []) [(0, es, x)] = some l := by
    have r : replA 1 z [] = z := by show z ++ [] = z; simp
    rw [r]
    unfold fillA
    simp only [hx, hl, hz, beq_iff.2 (rfl : es = es), show Nat.ble (Nat.add 0 es) es = true from ble_iff.2 (by show 0 + es ≤ es; omega), Bool.and_self, cond_true]
    unfold fillA
    simp [show Nat.add 0 es = z.length from by show 0 + es = _; omega, hz]
  rw [e, f]
  show (bif Nat.blt 0 es then newCells h (Cells.ofL l) fun id h => Res.val (.sl id 0 0 1 1 true es) h else .fail "buildSl") = _
  rw [blt_iff.2 hes, cond_true]
  unfold newCells
  rw [newK_newH]

/-- A slice is compared with nil. -/
theorem SlN.eqlNil {P : Program} {h : Hp} {es n : Nat} {v : AV} {l : List AV} (r : SlN h es v n l) : ∀ env x, ev env x = v → evalOp P (.bin .eql .slice true x (vl .nilSl)) env h = .val (.bool v.isNil) h := by
  intro env x hx
  rw [qev_bin, hx]
  cases r <;> rfl

/-! ### Who holds which memory -/

/-- What is changed of what was there is of the kinds K. -/
def Chg (κ : Pos → Nat) (K : Nat → Prop) (h h' : Hp) : Prop := ∃ S, Only S h h' ∧ ∀ id ∈ S, id.num < h.next.num → K (κ id)

/-- The kinds of what was there stay. -/
def Agr (h : Hp) (κ κ' : Pos → Nat) : Prop := ∀ id, id.num < h.next.num → κ' id = κ id

/-- New memory is of the kind k. -/
noncomputable def newK' (κ : Pos → Nat) (h : Hp) (k : Nat) : Pos → Nat := fun id => if id.num < h.next.num then κ id else k

theorem newK'_agr (κ : Pos → Nat) (h : Hp) (k : Nat) : Agr h κ (newK' κ h k) := fun id q => by unfold newK'; rw [if_pos q]

theorem newK'_new (κ : Pos → Nat) {h : Hp} (k : Nat) {id : Pos} (q : h.next.num ≤ id.num) : newK' κ h k id = k := by unfold newK'; rw [if_neg (by omega)]

section
variable {κ κ' κ'' : Pos → Nat} {K K' : Nat → Prop} {h h' h'' : Hp} {k : Nat}

theorem Agr.refl : Agr h κ κ := fun _ _ => rfl

theorem Agr.trans (a : Agr h κ κ') (b : Agr h' κ' κ'') (n : h.next.num ≤ h'.next.num) : Agr h κ κ'' := fun id q => (b id (by omega)).trans (a id q)

theorem Chg.next (a : Chg κ K h h') : h.next.num ≤ h'.next.num := let ⟨_, o, _⟩ := a; o.next

theorem Chg.of (o : Only [] h h') : Chg κ K h h' := ⟨[], o, by simp⟩

theorem Chg.refl : Chg κ K h h := .of (.refl _ _)

theorem Chg.only {S : List Pos} (o : Only S h h') (hS : ∀ id ∈ S, id.num < h.next.num → K (κ id)) : Chg κ K h h' := ⟨S, o, hS⟩

theorem Chg.mono (a : Chg κ K h h') (q : ∀ k, K k → K' k) : Chg κ K' h h' := let ⟨S, o, c⟩ := a; ⟨S, o, fun id m n => q _ (c id m n)⟩

theorem Chg.trans (a : Chg κ K h h') (g : Agr h κ κ') (b : Chg κ' K h' h'') : Chg κ K h h'' := by
  obtain ⟨S, o, c⟩ := a
  obtain ⟨S', o', c'⟩ := b
  refine ⟨S ++ S', (o.mono fun id q => .inl (by simp [q])).trans (o'.mono fun id q => .inl (by simp [q])), fun id m n => ?_⟩
  rcases List.mem_append.1 m with q | q
  · exact c id q n
  · rw [← g id n]; exact c' id q (by have := o.next; omega)

/-- Nothing of the kinds is there yet: it is as if nothing had changed. -/
theorem Chg.fresh (a : Chg κ K h h') (q : ∀ id, id.num < h.next.num → ¬ K (κ id)) : Only [] h h' := by
  obtain ⟨S, o, c⟩ := a
  exact o.mono fun id m => .inr (by rcases Nat.lt_or_ge id.num h.next.num with n | n; exact absurd (c id m n) (q id n); exact n)

/-- A slice that is of one kind. -/
structure KSl (κ : Pos → Nat) (k : Nat) (h : Hp) (es : Nat) (v : AV) (n : Nat) (l : List AV) : Prop where
  sl : SlN h es v n l
  k : ∀ id, InN es v id → κ id = k ∧ id.num < h.next.num

/-- A list that grows and is of one kind. -/
structure KHd (κ : Pos → Nat) (k : Nat) (h : Hp) (es : Nat) (v : AV) (n : Nat) (l : List AV) : Prop where
  hd : Held 0 h es v n l
  k : ∀ id, InN es v id → κ id = k

/-- A block that is of one kind. -/
structure KArr (κ : Pos → Nat) (k : Nat) (h : Hp) (p : Pos) (l : List AV) : Prop where
  arr : Arr h p l
  k : κ p = k

variable {es n : Nat} {v : AV} {l : List AV} {p : Pos}

theorem KHd.sl (a : KHd κ k h es v n l) : KSl κ k h es v n l := ⟨a.hd.sl, fun id q => ⟨a.k id q, (a.hd.old q).2⟩⟩

theorem KSl.chg (a : KSl κ k h es v n l) (c : Chg κ K h h') (g : Agr h κ κ') (hk : ¬ K k) : KSl κ' k h' es v n l := by
  obtain ⟨S, o, c⟩ := c
  refine ⟨a.sl.only o fun id q m => ?_, fun id q => ?_⟩
  · obtain ⟨k1, k2⟩ := a.k id q
    have := c id m k2
    rw [k1] at this
    exact hk this
  · obtain ⟨k1, k2⟩ := a.k id q
    exact ⟨(g id k2).trans k1, Nat.lt_of_lt_of_le k2 o.next⟩

theorem KHd.chg (a : KHd κ k h es v n l) (c : Chg κ K h h') (g : Agr h κ κ') (hk : ¬ K k) : KHd κ' k h' es v n l := by
  obtain ⟨S, o, c⟩ := c
  refine ⟨a.hd.only o fun id q m => ?_, fun id q => (g id (a.hd.old q).2).trans (a.k id q)⟩
  have := c id m (a.hd.old q).2
  rw [a.k id q] at this
  exact hk this

theorem KArr.chg (a : KArr κ k h p l) (c : Chg κ K h h') (g : Agr h κ κ') (hk : ¬ K k) : KArr κ' k h' p l := by
  obtain ⟨S, o, c⟩ := c
  refine ⟨a.arr.only o fun m => ?_, (g p a.arr.old).trans a.k⟩
  have := c p m a.arr.old
  rw [a.k] at this
  exact hk this

theorem KHd.nil : KHd κ k h es .nilSl 0 [] := ⟨.nil, fun id ⟨_, _, _, _, _, e⟩ => by cases e⟩
theorem KSl.nil : KSl κ k h es .nilSl 0 [] := ⟨.nil, fun id ⟨_, _, _, _, _, e⟩ => by cases e⟩

/-- More is appended. -/
theorem KHd.push (a : KHd κ k h es v n l) (P : Program) {v2 : AV} {n2 : Nat} {l2 : List AV} {bytes : Nat} (hv : SlN h es v2 n2 l2) (hy : ∀ y ∈ l2, y.atom = true) (hes : 0 < es) (ok : okSize (n + n2) bytes = true) :
    ∃ v' h', (∀ env s x, ev env s = v → ev env x = v2 → evalOp P (.append es bytes s x) env h = .val v' h') ∧ KHd (newK' κ h k) k h' es v' (n + n2) (l ++ l2) ∧ Chg κ (fun j => j = k) h h' := by
  obtain ⟨v', h', S, e, o, m, hS, hv'⟩ := a.hd.push P hv hy hes ok (Nat.zero_le _)
  refine ⟨v', h', e, ⟨o, fun id q => ?_⟩, ⟨S, m, fun id q _ => a.k id (hS id q)⟩⟩
  rcases Nat.lt_or_ge id.num h.next.num with c | c
  · rw [newK'_agr κ h k id c]
    rcases hv' id q with q | q
    · exact a.k id q
    · omega
  · exact newK'_new κ k c

/-- A block is written. -/
theorem KArr.put (a : KArr κ k h p l) {i : Nat} (hi : i < l.length) (y : AV) : KArr κ k (putA h p i y) p (l.set i y) ∧ Chg κ (fun j => j = k) h (putA h p i y) :=
  ⟨⟨putA_arr a.arr hi y, a.k⟩, ⟨[p], putA_only _ _ _ _, fun id q _ => by simp at q; subst q; exact a.k⟩⟩

/-- New memory takes its kind. -/
theorem Held.new (a : Held h.next.num h' es v n l) (κ : Pos → Nat) (k : Nat) : KHd (newK' κ h k) k h' es v n l := ⟨a.weak (Nat.zero_le _), fun id q => newK'_new κ k (a.old q).1⟩

theorem Arr.new (a : Arr h' p l) (q : h.next.num ≤ p.num) (κ : Pos → Nat) (k : Nat) : KArr (newK' κ h k) k h' p l := ⟨a, newK'_new κ k q⟩
end
end Go.Proofs.YtjhgembcdndmkaaDoor.Am

namespace Go.Proofs.YtjhgembcdndmkaaDoor.Am
open Go.RowKit

open Classical in
/-- Answers that are known, by the call. -/
noncomputable def recG (P : Program) : List KC → St → Out
  | [], _ => .fail ""
  | a :: A, s => if s = ⟨frOf P a.f a.args, [], a.h⟩ then .done a.v a.h' else recG P A s

theorem recG_sound {P : Program} : ∀ {A : List KC}, (∀ a ∈ A, AmFn P a.f a.args a.h a.v a.h') → Sound P (recG P A)
  | [], _ => fun _ _ _ _ _ _ _ _ _ => trivial
  | a :: A, h => fun s φ w g c0 hs hR hz hF => by
    unfold recG
    split
    · rename_i e
      subst e
      have q1 := h a (by simp)
      have q2 := q1.begins.1
      obtain ⟨fr', e1, e2⟩ := q1.ans
      rw [q2] at e1
      cases e1
      exact e2 φ w g [] c0 hR hz hF .nil
    · exact recG_sound (fun y hy => h y (List.mem_cons_of_mem _ hy)) s φ w g c0 hs hR hz hF

theorem recG_hit {P : Program} (f : FuncId) (args : List AV) (h : Hp) (v : AV) (h' : Hp) (A : List KC) : recG P (⟨f, args, h, v, h'⟩ :: A) ⟨frOf P f args, [], h⟩ = .done v h' := by
  unfold recG
  rw [if_pos rfl]

/-- A call with another answer ahead of it: it is another call, or the answer is the same. -/
theorem recG_next {P : Program} {a : KC} {A : List KC} {f : FuncId} {args : List AV} {h : Hp} {o : Out} (e : recG P A ⟨frOf P f args, [], h⟩ = o) (q : frOf P f args = frOf P a.f a.args → h = a.h → o = .done a.v a.h') : recG P (a :: A) ⟨frOf P f args, [], h⟩ = o := by
  unfold recG
  split
  · rename_i c
    injection c with c1 _ c2
    exact (q c1 c2).symm
  · exact e

theorem frOf_fn {P : Program} {f f' : FuncId} {args args' : List AV} {h h' h1 h1' : Hp} {v v' : AV} (a : AmFn P f args h v h') (b : AmFn P f' args' h1 v' h1') (e : frOf P f args = frOf P f' args') : f = f' := by
  rw [← a.begins.2, ← b.begins.2, e]

theorem frOf_env {P : Program} {f : FuncId} {args : List AV} {h h' : Hp} {v : AV} (a : AmFn P f args h v h') : (frOf P f args).env = setArgs .e 0 args := by
  obtain ⟨e, _⟩ := a.begins
  have e0 := e
  unfold beginFn at e
  split at e
  · rename_i fu _
    cases hl : Nat.ble args.length fu.nargs with
    | true => rw [hl] at e; have := Option.some.inj e; rw [← this]
    | false => rw [hl] at e; cases e
  · cases e

/-- One record, laid within a region. -/
theorem oneSl_resv (P : Program) {es : Nat} {z l : List AV} (hes : 0 < es) (hz : z.length = es) (hl : l.length = es) {env : T AV} {id : Pos} {ser lim : Nat} {x : Opd} (hx : (ev env x).cells = l) :
    evalOp P (.buildSl 1 es z [(0, es, x)]) env ⟨.e, id, ser, lim⟩ = .val (.sl id 0 0 1 1 true es) ⟨T.set id (some (.cells 0 (Cells.ofL l) 0 0 0 0 false false)) .e, id.succ, Nat.succ ser, lim⟩ := by
  have e : evalOp P (.buildSl 1 es z [(0, es, x)]) env ⟨.e, id, ser, lim⟩ = (match fillA env (replA 1 z []) [(0, es, x)] with
    | some l => bif Nat.blt 0 es then newCells ⟨.e, id, ser, lim⟩ (Cells.ofL l) fun id h => .val (.sl id 0 0 1 1 true es) h else .fail "buildSl"
    | none => .fail "buildSl") := rfl
  have f : fillA env (replA 1 z []) [(0, es, x)] = some l := by
    have r : replA 1 z [] = z := by show z ++ [] = z; simp
    rw [r]
    unfold fillA
    simp only [hx, hl, hz, beq_iff.2 (rfl : es = es), show Nat.ble (Nat.add 0 es) es = true from ble_iff.2 (by show 0 + es ≤ es; omega), Bool.and_self, cond_true]
    unfold fillA
    simp [show Nat.add 0 es = z.length from by show 0 + es = _; omega, hz]
  rw [e, f]
  show (bif Nat.blt 0 es then newCells _ (Cells.ofL l) fun id h => Res.val (.sl id 0 0 1 1 true es) h else .fail "buildSl") = _
  rw [blt_iff.2 hes, cond_true]
  unfold newCells
  rw [newK_newH]
  rfl

theorem resvH_arr (h : Hp) (ser : Nat) (l : List AV) : Arr (resvH h (.cells ser (Cells.ofL l) 0 0 0 0 false false)) h.next l :=
  ⟨by rw [resvH_next]; omega, ser, Cells.ofL l, false, by show T.get h.next (T.set h.next _ h.heap) = _; rw [T.get_set, if_pos rfl], (Cells.ofL_spec l).1, (Cells.ofL_spec l).2.1⟩

theorem eqLs_refl {f : AV → AV → Bool} : ∀ {l : List AV}, (∀ x ∈ l, f x x = true) → eqLs f l l = true
  | [], _ => rfl
  | x :: l, h => by
    unfold eqLs
    rw [h x (by simp), eqLs_refl fun y hy => h y (List.mem_cons_of_mem _ hy)]
    rfl

theorem eqAV_agg (n : Nat) {l : List AV} (h : ∀ x ∈ l, eqAV n x x = true) : eqAV (n + 1) (.agg l) (.agg l) = true := by
  unfold eqAV
  exact eqLs_refl h

theorem SlN.eqv {h : Hp} {es n : Nat} {v : AV} {l : List AV} (r : SlN h es v n l) (k : Nat) : eqAV (k + 1) v v = true := by
  cases r
  · rfl
  · unfold eqAV
    simp only [eqP_iff.2 (rfl), beq_iff.2 (rfl : _ = _), eqB_iff.2 (rfl), Bool.and_self]
  · unfold eqAV
    simp only [eqP_iff.2 (rfl), beq_iff.2 (rfl : _ = _), eqB_iff.2 (rfl), Bool.and_self]

/-- A record of a list of one's own. -/
theorem Held.record {N : Nat} {h : Hp} {es n : Nat} {v : AV} {l : List AV} (o : Held N h es v n l) {i : Nat} (hi : i < n) : ∃ id g c, v = .sl id g 0 n n false es ∧ readN h id g (i * es) es = some c ∧ c.toL = (l.drop (i * es)).take es := by
  rcases o with ⟨q, _⟩ | ⟨id, g, _, q2, q3, q4⟩
  · omega
  · have hle : (i + 1) * es ≤ l.length := by rw [q4]; exact Nat.mul_le_mul_right _ hi
    rw [Nat.add_mul, Nat.one_mul] at hle
    obtain ⟨c, c1, _, c3⟩ := (q3.part (off := i * es) (n := es) hle).all
    rw [List.length_take, List.length_drop, Nat.min_eq_left (by omega)] at c1
    exact ⟨id, g, c, q2, c1, c3⟩

/-- A whole block is read. -/
theorem Arr.whole {h : Hp} {id : Pos} {l : List AV} (a : Arr h id l) (P : Program) {n : Nat} (hn : l.length = n) : ∀ env x, ev env x = .ptr id 0 0 → evalOp P (.loadN n x) env h = .val (.agg l) h := by
  intro env x hx
  obtain ⟨c, c1, _, c3⟩ := a.row.all
  rw [hn] at c1
  rw [qev_loadN P hx c1, c3]

theorem Arr.slN {h : Hp} {id : Pos} {l : List AV} (a : Arr h id l) {es n cap : Nat} {ex : Bool} (hl : l.length = n * es) : SlN h es (.sl id 0 0 n cap ex es) n l := .mk hl a.row

/-- The blocks of a stretch. -/
theorem stretch (a : Nat) : ∀ b : Nat, ∃ S : List Pos, ∀ id : Pos, id ∈ S ↔ a ≤ id.num ∧ id.num < b
  | 0 => ⟨[], fun id => by simp⟩
  | b + 1 => by
    obtain ⟨S, hS⟩ := stretch a b
    by_cases c : ∃ id : Pos, id.num = b ∧ a ≤ b
    · obtain ⟨id0, e, hab⟩ := c
      refine ⟨id0 :: S, fun id => ?_⟩
      rw [List.mem_cons, hS]
      refine ⟨fun q => ?_, fun q => ?_⟩
      · rcases q with q | q
        · subst q; omega
        · omega
      · by_cases e2 : id.num = b
        · exact .inl (Pos.num_inj (by omega))
        · exact .inr (by omega)
    · refine ⟨S, fun id => ?_⟩
      rw [hS]
      refine ⟨fun q => by omega, fun q => ⟨q.1, ?_⟩⟩
      by_cases e2 : id.num = b
      · exact absurd ⟨id, e2, by omega⟩ c
      · omega

/-- A block of one cell, laid within a region. -/
theorem new_resv (P : Program) {env : T AV} {id : Pos} {ser lim : Nat} (x : AV) :
    evalOp P (.new [x]) env ⟨.e, id, ser, lim⟩ = .val (.ptr id 0 0) ⟨T.set id (some (.cells 0 (Cells.ofL [x]) 0 0 0 0 false false)) .e, id.succ, Nat.succ ser, lim⟩ := by
  rw [qev_newL]
  rfl

theorem Box.arr {h : Hp} {id : Pos} {x : AV} (b : Box h id x) : Arr h id [x] :=
  let ⟨ser, fz, e⟩ := b.mem
  ⟨b.old, ser, Cells.ofL [x], fz, e, (Cells.ofL_spec [x]).1, (Cells.ofL_spec [x]).2.1⟩

theorem Arr.load {h : Hp} {id : Pos} {x : AV} (b : Arr h id [x]) : read1 h id 0 0 = some x := b.one (i := 0) (by simp)

/-- A record of a slice that is handed in, cell by cell. -/
theorem Tree.recordOne {P : Program} {h : Hp} {d : Nat} {t e : TypeId} {v : AV} (hd : P.underlying t = some (.slice e)) (a : Tree P h (d + 1) t [v]) {i : Nat} (hi : i < lenOf v) :
    ∃ id cap l, v = .sl id 0 0 (lenOf v) cap true (P.cellsOf e) ∧ Tree P h d e l ∧ ∀ h', Only [] h h' → ∀ k, k < l.length → read1 h' id 0 (i * P.cellsOf e + k) = l[k]? := by
  rcases a.of_slice hd with q | ⟨id, g, off, q⟩ | ⟨id, n, cap, L, q, hn, hw, fx, hL, hx⟩
  · cases q; cases hi
  · cases q; cases hi
  · cases q
    have hi : i < n := hi
    have hle : (i + 1) * P.cellsOf e ≤ L.length := by rw [hL]; exact Nat.mul_le_mul_right _ (by omega)
    rw [Nat.add_mul, Nat.one_mul] at hle
    exact ⟨id, cap, _, rfl, hx i (by omega), fun h' m k hk => ((fx.only m (by simp)).part (off := i * P.cellsOf e) (n := P.cellsOf e) hle).one k hk⟩

theorem u8_of {n : Int} (h : (Lit.int .u8 n).wf = true) : ∃ b : UInt8, n = (b.toNat : Int) := by
  have : 0 ≤ n ∧ n < 256 := by
    simp [Lit.wf, IntKind.min, IntKind.max, IntKind.bits, IntKind.signed] at h
    omega
  refine ⟨UInt8.ofNat n.toNat, ?_⟩
  rw [UInt8.toNat_ofNat']
  omega

/-- A slice of bytes that is handed in. -/
theorem Tree.bytes {P : Program} {h : Hp} {d : Nat} {t e : TypeId} {v : AV} (hd : P.underlying t = some (.slice e)) (he : P.underlying e = some (.int .u8)) (hc : P.cellsOf e = 1) (hb : 1 ≤ P.bytesOf e ∧ P.bytesOf e ≤ 4096) (a : Tree P h (d + 2) t [v]) :
    ∃ b : List UInt8, SlN h 1 v b.length (byt b) ∧ okSize b.length (P.bytesOf e) = true := by
  obtain ⟨ys, r, _, ok⟩ := Tree.ones (d := d + 1) hd hc hb a (fun x : UInt8 => byteV x.toNat) (fun x hx => by
    obtain ⟨n, e1, wf⟩ := hx.of_int (d := d) he
    obtain ⟨b, e2⟩ := u8_of wf
    cases e1
    subst e2
    exact ⟨b, rfl⟩)
  have hy : (ys.map fun x : UInt8 => byteV x.toNat) = byt ys := rfl
  rw [hy] at r
  refine ⟨ys, ?_, ok⟩
  have hlen : (byt ys).length = ys.length := byt_length ys
  generalize hq : byt ys = L at r hlen
  cases r with
  | nil =>
    have : ys.length = 0 := by rw [← hlen]; rfl
    rw [this]; exact .nil
  | emp =>
    have : ys.length = 0 := by rw [← hlen]; rfl
    rw [this]; exact .emp
  | mk hn r =>
    rw [hlen] at hn
    subst hn
    exact .mk (by rw [hlen, Nat.mul_one]) r
end Go.Proofs.YtjhgembcdndmkaaDoor.Am

namespace Go.Proofs.YtjhgembcdndmkaaDoor.Am
open Go.RowKit

/-- A cell of a row that grew is written. -/
noncomputable def putG (h : Hp) (id : Pos) (i : Nat) (x : AV) : Hp :=
  ⟨T.set id ((T.get id h.heap).map fun b => match b with | .cells ser c lo hi g m ro fz => .cells ser (c.splice i (Cells.ofL [x])) lo hi g (bif Nat.blt i hi then g else m) ro fz | b => b) h.heap, h.next, h.ser, h.lim⟩

theorem putG_only (h : Hp) (id : Pos) (i : Nat) (x : AV) : Only [id] h (putG h id i x) := ⟨Nat.le_refl _, rfl, fun j _ q => by
  show T.get j (T.set id _ h.heap) = _
  rw [T.get_set, if_neg (by simpa using q)]⟩

theorem putG_gro {h : Hp} {id : Pos} {g : Nat} {l : List AV} (b : Gro h id g l) {i : Nat} (hi : i < l.length) (y : AV) : Gro (putG h id i y) id g (l.set i y) := by
  obtain ⟨ser, c, hh, m, fz, e, hw, hl⟩ := b.mem
  have hc : c.size = l.length := by rw [← Cells.toL_length hw, hl]
  obtain ⟨p1, p2, p3⟩ := Cells.ofL_spec [y]
  have hsz : i + (Cells.ofL [y]).size ≤ c.size := by rw [p3, hc]; simp; omega
  obtain ⟨q1, q2, q3⟩ := Cells.splice_spec hw p1 hsz
  refine ⟨b.old, ser, c.splice i (Cells.ofL [y]), hh, (bif Nat.blt i hh then g else m), fz, ?_, q1, ?_⟩
  · show T.get id (T.set id _ h.heap) = _
    rw [T.get_set, if_pos rfl, e]; rfl
  · rw [q2, p2, p3, hl, List.set_eq_take_append_cons_drop, if_pos hi]
    rfl

theorem storeR_gro {h : Hp} {id : Pos} {g : Nat} {l : List AV} (b : Gro h id g l) {i : Nat} (hi : i < l.length) (y : AV) (ha : y.atom = true) (hc : y.cells = [y]) : storeR (.ptr id g i) y h = .val .undef (putG h id i y) := by
  obtain ⟨ser, c, hh, m, fz, e, hw, hl⟩ := b.mem
  have hz : c.size = l.length := by rw [← Cells.toL_length hw, hl]
  unfold storeR
  simp only [hc]
  unfold writeN putG
  have h1 : Nat.ble (Nat.add i 1) c.size = true := ble_iff.2 (by show i + 1 ≤ _; omega)
  have h2 : Nat.ble 0 i = true := ble_iff.2 (by omega)
  have h3 : Nat.beq g g = true := by simp
  simp only [e, h1, h2, h3, ofL_size1, ofL_atoms ha, T.setK_eq]
  rfl

/-- A cell of a row that grew is read. -/
theorem Gro.one {h : Hp} {id : Pos} {g : Nat} {l : List AV} (b : Gro h id g l) {i : Nat} (hi : i < l.length) : read1 h id g i = some l[i] := by
  have := b.row.one i hi
  rw [Nat.zero_add, List.getElem?_eq_getElem hi] at this
  exact this

/-- The first n of a row that grew, as records of one cell. -/
theorem Gro.sl {h : Hp} {id : Pos} {g : Nat} {l : List AV} (b : Gro h id g l) {n cap : Nat} {ex : Bool} (hn : n ≤ l.length) : SlN h 1 (.sl id g 0 n cap ex 1) n (l.take n) := by
  refine .mk (by simp; omega) ?_
  have := b.part (off := 0) (n := n) (by omega)
  simpa using this
/-! ### Guards that are known -/

section
variable {d : Option Pos} {n : Nat} {op : AOp} {ok : Bool} {b : Nat} {env : T AV} {h : Hp} {P : Program}

theorem wanted_tt (q : sv env n = .bool true) : wantedA ⟨d, some (Pos.ofNat n, true), op, ok, b⟩ env = true := by rw [wanted_sv, q]; rfl
theorem wanted_tf (q : sv env n = .bool false) : wantedA ⟨d, some (Pos.ofNat n, true), op, ok, b⟩ env = false := by rw [wanted_sv, q]; rfl
theorem wanted_ft (q : sv env n = .bool true) : wantedA ⟨d, some (Pos.ofNat n, false), op, ok, b⟩ env = false := by rw [wanted_sv, q]; rfl
theorem wanted_ff (q : sv env n = .bool false) : wantedA ⟨d, some (Pos.ofNat n, false), op, ok, b⟩ env = true := by rw [wanted_sv, q]; rfl

theorem pick_t {x y : Opd} (q : sv env n = .bool true) : evalOp P (.pick (tm n) x y) env h = .val (ev env x) h := by rw [qev_pick, ev_tm, q]
theorem pick_f {x y : Opd} (q : sv env n = .bool false) : evalOp P (.pick (tm n) x y) env h = .val (ev env y) h := by rw [qev_pick, ev_tm, q]

theorem fld0 {id : Pos} {g o : Nat} : fldA 0 (.ptr id g o) h = .val (.ptr id g o) h := (fldA_ptr _ _ _ _ _).trans (by rw [Nat.add_zero])
theorem fldN {off : Nat} (hn : off ≠ 0) {id : Pos} {g o : Nat} : fldA off (.ptr id g o) h = .val (.ptr id g (o + off)) h := fldA_ptr _ _ _ _ _
end
/-- A row made with room. -/
theorem mkSl_room (P : Program) {h : Hp} {l c bytes : Nat} {z : AV} (hlc : l ≤ c) (hc : c ≤ 1073741824) (hb : bytes ≤ 4096) :
    ∃ h', (∀ env x y, ev env x = int64 (l : Nat) → ev env y = int64 (c : Nat) → evalOp P (.mkSl 1 bytes [z] x y) env h = .val (.sl h.next 0 0 l c true 1) h') ∧ Gro h' h.next 0 (List.replicate c z) ∧ Only [] h h' ∧ h'.next.num = h.next.num + 1 := by
  refine ⟨newH h fun _ => .cells 0 (Cells.ofL (replA c [z] [])) 0 0 0 0 false false, fun env x y hx hy => ?_, ?_, newH_only _ _ _, newH_next _ _⟩
  · have e : evalOp P (.mkSl 1 bytes [z] x y) env h = (match ev env x, ev env y with
      | .int _ (.ofNat l), .int _ (.ofNat c) => bif Nat.ble l c && okSize c bytes && Nat.blt 0 1 then newCells h (Cells.ofL (replA c [z] [])) fun id h => .val (.sl id 0 0 l c true 1) h else .fail "mkSl size"
      | _, _ => .fail "mkSl") := rfl
    rw [e, hx, hy]
    show (bif Nat.ble l c && okSize c bytes && Nat.blt 0 1 then newCells h (Cells.ofL (replA c [z] [])) fun id h => Res.val (.sl id 0 0 l c true 1) h else .fail "mkSl size") = _
    rw [ble_iff.2 hlc, okSize_small hc hb]
    simp only [show Nat.blt 0 1 = true from rfl, Bool.and_self, cond_true]
    unfold newCells
    rw [newK_newH]
  · have q := (newH_arr h (replA c [z] [])).gro
    have e : replA c [z] [] = List.replicate c z := by rw [replA_one, List.append_nil]
    rw [e] at q ⊢
    exact q

end Go.Proofs.YtjhgembcdndmkaaDoor.Am

namespace Go.Proofs.YtjhgembcdndmkaaDoor.Am
open Go.RowKit

noncomputable def tabB (l : List AV) : Blk := .cells 0 (.lst l.length l) 0 0 0 0 true false

/-- The memory that a call begins with: one table. -/
noncomputable def tabH (P : Program) (g : Nat) (l : List AV) : Hp := ⟨T.set (Pos.ofNat g) (some (tabB l)) .e, Pos.ofNat (globN P), 0, 0⟩

section
variable {P : Program} {φ : Phi} {h : Hp} {w : World} {g : Nat} {l : List AV} {C : Array Value} {el : TypeId} {fr : Nat × Nat}

theorem tabH_get (id : Pos) : T.get id (tabH P g l).heap = if id = Pos.ofNat g then some (tabB l) else none := by
  show T.get id (T.set (Pos.ofNat g) _ .e) = _
  rw [T.get_set, T.get_e]

theorem tabH_ro : AllRo (tabH P g l) := fun id ⟨x, e, q⟩ => by
  rw [tabH_get] at e
  split at e
  · cases e
    have := q _ _ _ _ _ _ _ _ rfl
    cases this
  · cases e

theorem tab_rel (hw : globN P ≤ w.heap.size) (hg : g < globN P) (hb : w.heap[g]? = some (.cells C el fr)) (hs : C.size = globSz g) (hr : ∀ φ, RelL φ l C.toList) : HR P (phi0 P) (tabH P g l) w := by
  have hR := start_rel (P := P) hw
  have hl : l.length = C.size := by have := (hr (phi0 P)).length; simpa using this
  refine ⟨fun id x e => ?_, hR.used, fun id x e => ?_, fun id g y s n id' g' s' n' _ _ => .inr ⟨tabH_ro _, tabH_ro _⟩, hR.inb, hR.glob⟩
  · rw [tabH_get] at e
    split at e
    · rename_i c
      cases e
      subst c
      have gz : ∀ j, j ≠ 0 → phi0 P (Pos.ofNat g) j = none := fun j hj => by unfold phi0; rw [if_neg fun c => hj c.1]
      refine ⟨⟨rfl, Nat.le_refl _, fun q => absurd q (Nat.lt_irrefl _), fun j hj => gz j (by omega), fun j j' b1 s1 n1 s2 n2 k1 k2 k3 k4 e1 e2 => ?_, fun j k1 k2 => ?_⟩, fun _ _ _ _ _ _ _ _ _ _ _ => .inl rfl⟩
      · have : j = j' := by omega
        subst this
        rw [e1] at e2; cases e2; rfl
      · have : j = 0 := by omega
        subst this
        refine ⟨g, 0, globSz g, C, el, fr, hR.glob g hg, hb, hs, fun c => (by cases c), fun i v _ hi2 hv => ?_⟩
        have hv : l[i]? = some v := hv
        obtain ⟨x, hx, rx⟩ := (hr (phi0 P)).get hv
        exact ⟨i, x, by omega, by rw [← hx]; simp, rx⟩
    · cases e
  · rw [tabH_get] at e
    split at e
    · rename_i c
      subst c
      exact .inl (by show (Pos.ofNat g).num < (Pos.ofNat (globN P)).num; rw [Pos.num_ofNat, Pos.num_ofNat]; omega)
    · cases e

/-- The table as it lies in memory. -/
theorem tab_of {k : IntKind} {ns : List Int} (hR : HR P φ h w) (hg : g < globN P) (hn : ns.length = globSz g) (ht : T.get (Pos.ofNat g) h.heap = some (tabB (ns.map fun z => .int k z))) :
    ∃ el fr, w.heap[g]? = some (.cells (ns.map fun z => Value.int k z).toArray el fr) := by
  obtain ⟨⟨_, _, _, _, _, h5⟩, _⟩ := hR.blk _ _ ht
  obtain ⟨b, s, n, C, el, fr, e1, e2, e3, _, e5⟩ := h5 0 (Nat.le_refl _) (Nat.le_refl _)
  rw [hR.glob g hg] at e1
  cases e1
  refine ⟨el, fr, ?_⟩
  rw [e2]
  congr 2
  apply Array.ext
  · rw [e3]; simp [hn]
  · intro i h1 h2
    have hi : i < ns.length := by simpa using h2
    obtain ⟨o, x, q1, q2, q3⟩ := e5 i (.int k ns[i]) (Nat.zero_le _) (by rw [if_pos rfl]; show i < List.length _; simpa using hi) (by show (ns.map _)[i]? = _; simp [hi])
    have : o = i := by omega
    subst this
    cases q3
    rw [Array.getElem?_eq_getElem h1] at q2
    simpa using q2
end
end Go.Proofs.YtjhgembcdndmkaaDoor.Am

namespace Go.Proofs.YtjhgembcdndmkaaDoor.Am
open Go.RowKit

/-- Appended where there is no room: all of it is laid anew. -/
theorem append_over (P : Program) {h : Hp} {v : AV} {id : Pos} {g k cap : Nat} {L l2 : List AV} {bytes : Nat} (ha : Gro h id g L) (hv : SlR h v l2) (hk : cap < k + l2.length) (hL : k ≤ L.length) (h0 : l2 ≠ []) (hl : k + l2.length ≤ 1073741824) (hb : bytes ≤ 4096) :
    ∃ h', (∀ env s x, ev env s = .sl id g 0 k cap true 1 → ev env x = v → evalOp P (.append 1 bytes s x) env h = .val (.sl h.next 0 0 (k + l2.length) (k + l2.length) false 1) h') ∧ Gro h' h.next 0 (L.take k ++ l2) ∧ Only [] h h' ∧ h'.next.num = h.next.num + 1 := by
  cases hv with
  | nil => exact absurd rfl h0
  | emp => exact absurd rfl h0
  | mk hn r =>
    rename_i id2 g2 off2 n2 cap2 ex2
    subst hn
    have hpos : 0 < l2.length := List.length_pos_iff.2 h0
    obtain ⟨seg, c1, c2, c3⟩ := r.all
    have src : srcCells h 1 l2.length (.sl id2 g2 off2 l2.length cap2 ex2 1) = some seg := by
      show readN h id2 g2 off2 (l2.length * 1) = some seg
      rw [Nat.mul_one]; exact c1
    have ok : okSize (Nat.add k l2.length) bytes = true := by
      exact okSize_small (show Nat.add k l2.length ≤ _ from hl) hb
    obtain ⟨old, o1, o2, o3⟩ := (ha.part (off := 0) (n := k) (by omega)).all
    rw [List.length_take, List.drop_zero, Nat.min_eq_left hL] at o1
    rw [List.drop_zero] at o3
    obtain ⟨p1, p2, p3⟩ := Cells.app_spec o2 c2
    have q := (⟨by rw [newH_next]; omega, _, _, _, newH_get h (fun _ => .cells (noteB bytes) (old.app seg) 0 0 0 0 false false), p1, rfl⟩ : Arr (newH h fun _ => .cells (noteB bytes) (old.app seg) 0 0 0 0 false false) h.next (old.app seg).toL)
    refine ⟨newH h fun _ => .cells (noteB bytes) (old.app seg) 0 0 0 0 false false, fun env s x hs hx => ?_, ?_, newH_only _ _ _, newH_next _ _⟩
    · show appendA h 1 bytes (ev env s) (ev env x) = _
      rw [hs, hx]
      unfold appendA
      simp only [lenA, beq_false.2 (show l2.length ≠ 0 by omega), cond_false, src]
      unfold appendSeg
      have hm : Nat.mul k 1 = k := Nat.mul_one k
      simp only [natK_eq, ok, show Nat.beq 1 1 = true from rfl, show Nat.blt 0 1 = true from rfl, Bool.and_true, Bool.and_self, Bool.not_true, cond_false, cond_true, show Nat.ble (Nat.add k l2.length) cap = false from ble_false.2 hk, hm, o1]
      unfold newCellsN
      rw [newK_newH]
      rfl
    · have := q.gro
      rw [p2, o3, c3] at this
      exact this

/-- A row of bytes of one's own: with room that is known, or without. -/
def Mine (N : Nat) (h : Hp) (v : AV) (l : List UInt8) : Prop :=
  Held N h 1 v l.length (byt l) ∨ ∃ id L, N ≤ id.num ∧ v = .sl id 0 0 l.length L.length true 1 ∧ Gro h id 0 L ∧ L.take l.length = byt l ∧ l.length ≤ L.length

section
variable {N : Nat} {h : Hp} {v : AV} {l : List UInt8}

theorem Mine.sl (o : Mine N h v l) : SlN h 1 v l.length (byt l) := by
  rcases o with o | ⟨id, L, _, q, g, e, hl⟩
  · exact o.sl
  · subst q
    have := g.sl (n := l.length) (cap := L.length) (ex := true) hl
    rwa [e] at this

theorem Mine.old (o : Mine N h v l) {id : Pos} (q : InN 1 v id) : N ≤ id.num ∧ id.num < h.next.num := by
  rcases o with o | ⟨id', L, hN, e, g, _, _⟩
  · exact o.old q
  · obtain ⟨g', off, k, cap, ex, e'⟩ := q
    rw [e] at e'; cases e'
    exact ⟨hN, g.old⟩

theorem Mine.only {h' : Hp} {S : List Pos} (o : Mine N h v l) (m : Only S h h') (hS : ∀ id, InN 1 v id → id ∉ S) : Mine N h' v l := by
  rcases o with o | ⟨id, L, hN, e, g, q⟩
  · exact .inl (o.only m hS)
  · exact .inr ⟨id, L, hN, e, g.only m (hS id ⟨_, _, _, _, _, e⟩), q⟩

theorem Mine.more {h' : Hp} (o : Mine N h v l) (m : Only [] h h') : Mine N h' v l := o.only m (by simp)

theorem Mine.weak {N' : Nat} (o : Mine N h v l) (hN : N' ≤ N) : Mine N' h v l := by
  rcases o with o | ⟨id, L, q, r⟩
  · exact .inl (o.weak hN)
  · exact .inr ⟨id, L, by omega, r⟩

theorem SlN.slR {n : Nat} {L : List AV} (r : SlN h 1 v n L) : SlR h v L := by
  cases r with
  | nil => exact .nil
  | emp => exact .emp
  | mk hn r => rw [Nat.mul_one] at hn; exact .mk hn.symm r

/-- Bytes appended to a row of one's own. -/
theorem Mine.push (o : Mine N h v l) (P : Program) {v2 : AV} {l2 : List UInt8} {bytes : Nat} (hv : SlN h 1 v2 l2.length (byt l2)) (hl : l.length + l2.length ≤ 1000000) (hb : bytes ≤ 4096) (hN : N ≤ h.next.num) :
    ∃ v' h' S, (∀ env s x, ev env s = v → ev env x = v2 → evalOp P (.append 1 bytes s x) env h = .val v' h') ∧ Mine N h' v' (l ++ l2) ∧ Only S h h' ∧ (∀ id ∈ S, InN 1 v id) ∧ ∀ id, InN 1 v' id → InN 1 v id ∨ h.next.num ≤ id.num := by
  rcases o with o | ⟨id, L, hN', e, g, ht, hlL⟩
  · obtain ⟨v', h', S, q1, q2, q3, q4, q5⟩ := o.push P hv (byt_atom l2) (by omega) (okSize_small (show l.length + l2.length ≤ _ by omega) hb) hN
    exact ⟨v', h', S, q1, .inl (by rw [List.length_append, byt_append]; exact q2), q3, q4, q5⟩
  · subst e
    have hlen : (byt l2).length = l2.length := byt_length l2
    by_cases hfit : l.length + l2.length ≤ L.length
    · obtain ⟨h', q1, q2, q3, q4⟩ := append_room P (ex := true) (cap := L.length) g hv.slR (k := l.length) (by rw [hlen]; exact hfit) (by rw [hlen]; exact hfit) (by rw [hlen]; omega) hb (byt_atom l2)
      rw [hlen] at q1 q2
      have e2 : (List.take l.length L ++ byt l2 ++ List.drop (l.length + l2.length) L).length = L.length := by
        simp [hlen]; omega
      refine ⟨_, h', [id], q1, .inr ⟨id, _, hN', by rw [e2, List.length_append], q2, ?_, by rw [e2, List.length_append]; exact hfit⟩, q3, fun j hj => by simp at hj; subst hj; exact ⟨_, _, _, _, _, rfl⟩, fun j ⟨_, _, _, _, _, e⟩ => by cases e; exact .inl ⟨_, _, _, _, _, rfl⟩⟩
      rw [ht, List.length_append, ← byt_append, ← List.length_append, ← byt_length (l ++ l2), List.take_left]
    · have h0 : byt l2 ≠ [] := by
        intro c
        have := congrArg List.length c
        rw [hlen] at this
        simp at this
        rw [this] at hfit
        simp at hfit
        omega
      obtain ⟨h', q1, q2, q3, q4⟩ := append_over P (cap := L.length) g hv.slR (k := l.length) (by rw [hlen]; omega) hlL h0 (by rw [hlen]; omega) hb
      rw [hlen] at q1
      rw [ht, ← byt_append] at q2
      exact ⟨_, h', [], q1, .inl (.inr ⟨h.next, 0, hN, by rw [List.length_append], q2, by rw [byt_length, Nat.mul_one]⟩), q3, by simp, fun j ⟨_, _, _, _, _, e⟩ => by cases e; exact .inr (Nat.le_refl _)⟩
end

/-- One byte, made a list. -/
theorem oneB (P : Program) (h : Hp) (b : UInt8) (z : AV) : ∃ h', (∀ env x, ev env x = .int .u8 b.toNat → evalOp P (.buildSl 1 1 [z] [(0, 1, x)]) env h = .val (.sl h.next 0 0 1 1 true 1) h') ∧ SlN h' 1 (.sl h.next 0 0 1 1 true 1) [b].length (byt [b]) ∧ Only [] h h' ∧ h'.next.num = h.next.num + 1 := by
  obtain ⟨h', q1, q2, q3, q4⟩ := build1' P h z (.int .u8 b.toNat) rfl
  refine ⟨h', q1, ?_, q3, q4⟩
  cases q2 with
  | mk hn r => exact .mk (by simp [byt_length]) r
end Go.Proofs.YtjhgembcdndmkaaDoor.Am

namespace Go.Proofs.YtjhgembcdndmkaaDoor.Am
open Go.RowKit
section
variable {P : Program} {env : T AV} {h : Hp} {x : Opd} {k : IntKind} {kd : EK} {no : Bool}

/-- A byte, as a value. -/
noncomputable abbrev u8v (n : Nat) : AV := .int .u8 ((n : Nat) : Int)
noncomputable abbrev u64v (n : Nat) : AV := .int .u64 ((n : Nat) : Int)

theorem qev_conv (t : IntKind) : evalOp P (.convInt t x) env h = (match ev env x with | .int _ n => .val (.int t (wrapA t n)) h | _ => .fail "conv") := by
  show (match ev env x with | .int _ n => intK (wrapA t n) fun r => Res.val (.int t r) h | _ => .fail "conv") = _
  split
  · rw [intK_eq]
  · rfl

theorem wrap8 (n : Nat) : wrapA .u8 ((n : Nat) : Int) = ((n % 256 : Nat) : Int) := rfl
theorem wrapU (n : Nat) : wrapA .u64 ((n : Nat) : Int) = ((n % 18446744073709551616 : Nat) : Int) := rfl

theorem bin_or128 (n : Nat) : binA .or kd no (.int .u8 ((n % 256 : Nat) : Int)) (.int .u8 128) = some (u8v (n % 128 + 128)) := by
  have key : ∀ q : Fin 256, intBin .or .u8 ((q.1 : Nat) : Int) 128 = some (u8v (q.1 % 128 + 128)) := by
    intro q
    show (match bitsF .or .u8 ((q.1 : Nat) : Int) 128 with | some r => intK r fun r => some (AV.int .u8 r) | none => none) = _
    have : bitsF .or .u8 ((q.1 : Nat) : Int) 128 = some ((q.1 % 128 + 128 : Nat) : Int) := by revert q; decide +kernel
    rw [this]
    exact intK_eq _ _
  have := key ⟨n % 256, Nat.mod_lt _ (by omega)⟩
  simp only at this
  show (if IntKind.u8 = IntKind.u8 then intBin .or .u8 ((n % 256 : Nat) : Int) 128 else none) = _
  rw [if_pos rfl, this]
  have : n % 256 % 128 = n % 128 := by omega
  rw [this]

theorem bin_or128' (n : Nat) : binA .or kd no (.int .u8 ((n : Int) % 256)) (.int .u8 128) = some (u8v (n % 128 + 128)) := bin_or128 n

theorem bin_shrN {k' : IntKind} (n s : Nat) (hs : s ≤ k.bits) : binA .shr kd no (.int k ((n : Nat) : Int)) (.int k' ((s : Nat) : Int)) = some (.int k ((n / 2 ^ s : Nat) : Int)) := by
  show shiftA .shr k ((n : Nat) : Int) ((s : Nat) : Int) = _
  show (some (AV.int k (.ofNat (Nat.div n (Nat.pow 2 (bif Nat.ble s k.bits then s else k.bits))))) : Option AV) = _
  rw [ble_iff.2 hs]
  rfl

theorem bin_shr7 (n : Nat) : binA .shr kd no (.int .u64 ((n : Nat) : Int)) (.int .u64 7) = some (u64v (n / 128)) := bin_shrN (k := .u64) (k' := .u64) n 7 (by decide)
theorem toNat8 {n : Nat} (hn : n < 256) : (UInt8.ofNat n).toNat = n := by simp; omega
end
end Go.Proofs.YtjhgembcdndmkaaDoor.Am

namespace Go.Proofs.YtjhgembcdndmkaaDoor.Am
open Go.RowKit

/-- Calls that are told apart by their functions or by the heaps they begin with: all answers at once. -/
theorem rec_of {P : Program} (A : List KC) (hA : ∀ a ∈ A, AmFn P a.f a.args a.h a.v a.h') (hd : A.Pairwise fun a b => a.f ≠ b.f ∨ a.h.next ≠ b.h.next) :
    ∃ R, Sound P R ∧ (∀ a ∈ A, R ⟨frOf P a.f a.args, [], a.h⟩ = .done a.v a.h') ∧ ∀ a ∈ A, beginFn P a.f a.args = some (frOf P a.f a.args) := by
  refine ⟨recG P A, recG_sound hA, ?_, fun a ha => (hA a ha).begins.1⟩
  induction A with
  | nil => intro a ha; cases ha
  | cons b A ih =>
    intro a ha
    rcases List.mem_cons.1 ha with e | m
    · subst e; exact recG_hit _ _ _ _ _ _
    · rw [List.pairwise_cons] at hd
      refine recG_next (ih (fun x hx => hA x (List.mem_cons_of_mem _ hx)) hd.2 a m) fun q1 q2 => ?_
      rcases hd.1 a m with c | c
      · exact absurd (frOf_fn (hA b (by simp)) (hA a ha) q1.symm) c
      · exact absurd (by rw [q2]) c

/-- A list, laid within a region. -/
theorem buildN_resv (P : Program) {env : T AV} {id : Pos} {ser lim n : Nat} {z : AV} {parts : List (Nat × Nat × Opd)} {l : List AV} (f : fillA env (replA n [z] []) parts = some l) :
    evalOp P (.buildSl n 1 [z] parts) env ⟨.e, id, ser, lim⟩ = .val (.sl id 0 0 n n true 1) ⟨T.set id (some (.cells 0 (Cells.ofL l) 0 0 0 0 false false)) .e, id.succ, Nat.succ ser, lim⟩ := by
  have e : evalOp P (.buildSl n 1 [z] parts) env ⟨.e, id, ser, lim⟩ = (match fillA env (replA n [z] []) parts with
    | some l => bif Nat.blt 0 1 then newCells ⟨.e, id, ser, lim⟩ (Cells.ofL l) fun id h => .val (.sl id 0 0 n n true 1) h else .fail "buildSl"
    | none => .fail "buildSl") := rfl
  rw [e, f]
  show (bif Nat.blt 0 1 then newCells _ (Cells.ofL _) fun id h => Res.val (.sl id 0 0 n n true 1) h else .fail "buildSl") = _
  rw [show Nat.blt 0 1 = true from rfl, cond_true]
  unfold newCells
  rw [newK_newH]
  rfl
/-- A text's bytes. -/
noncomputable def bytB' (b : List UInt8) : Blk := .cells 0 (.byt b.length (pack b)) 0 0 0 0 false true

theorem byt_toL (b : List UInt8) : (Cells.byt b.length (pack b)).toL = byt b := by
  show bytesL b.length (pack b) = _
  rw [bytesL_eq, unpack_pack]; rfl

theorem strBytes_resv (P : Program) {env : T AV} {id : Pos} {ser lim : Nat} {x : Opd} {b : List UInt8} (hx : ev env x = strOf b) (hb : b.length ≤ 1000000) :
    evalOp P (.strBytes x) env ⟨.e, id, ser, lim⟩ = .val (.sl id 0 0 b.length b.length false 1) ⟨T.set id (some (bytB' b)) .e, id.succ, Nat.succ ser, lim⟩ := by
  have e : evalOp P (.strBytes x) env ⟨.e, id, ser, lim⟩ = (match ev env x with
    | .str n v => bif Nat.ble n 1073741824 then newK ⟨.e, id, ser, lim⟩ (fun _ => .cells 0 (.byt n v) 0 0 0 0 false true) fun id h => .val (.sl id 0 0 n n false 1) h else .fail "strBytes"
    | _ => .fail "strBytes") := rfl
  rw [e, hx]
  show (bif Nat.ble b.length 1073741824 then newK ⟨.e, id, ser, lim⟩ (fun _ => .cells 0 (.byt b.length (pack b)) 0 0 0 0 false true) fun id h => Res.val (.sl id 0 0 b.length b.length false 1) h else .fail "strBytes") = _
  rw [ble_iff.2 (by omega), cond_true, newK_newH]
  rfl

theorem layH_byt {h : Hp} {id : Pos} (hid : id.num < h.next.num) (b : List UInt8) : SlN (layH h id (bytB' b)) 1 (.sl id 0 0 b.length b.length false 1) b.length (byt b) := by
  have q := Row.of_block (h := layH h id (bytB' b)) (id := id) (off := 0) (n := b.length) (c := .byt b.length (pack b)) (by show T.get id (T.set id _ h.heap) = _; rw [T.get_set, if_pos rfl]; rfl) (pack_lt b) hid (Nat.le_refl _) (Nat.le_of_eq (Nat.zero_add _))
  rw [byt_toL, List.drop_zero, List.take_of_length_le (by rw [byt_length]; omega)] at q
  exact .mk (by rw [byt_length, Nat.mul_one]) q

theorem strBytes_new (P : Program) {h : Hp} {b : List UInt8} (hb : b.length ≤ 1000000) : ∃ h', (∀ env x, ev env x = strOf b → evalOp P (.strBytes x) env h = .val (.sl h.next 0 0 b.length b.length false 1) h') ∧ SlN h' 1 (.sl h.next 0 0 b.length b.length false 1) b.length (byt b) ∧ Only [] h h' ∧ h'.next.num = h.next.num + 1 := by
  refine ⟨newH h fun _ => bytB' b, fun env x hx => ?_, ?_, newH_only _ _ _, newH_next _ _⟩
  · have e : evalOp P (.strBytes x) env h = (match ev env x with
      | .str n v => bif Nat.ble n 1073741824 then newK h (fun _ => .cells 0 (.byt n v) 0 0 0 0 false true) fun id h => .val (.sl id 0 0 n n false 1) h else .fail "strBytes"
      | _ => .fail "strBytes") := rfl
    rw [e, hx]
    show (bif Nat.ble b.length 1073741824 then newK h (fun _ => .cells 0 (.byt b.length (pack b)) 0 0 0 0 false true) fun id h => Res.val (.sl id 0 0 b.length b.length false 1) h else .fail "strBytes") = _
    rw [ble_iff.2 (by omega), cond_true, newK_newH]
    rfl
  · have q := Row.of_block (h := newH h fun _ => bytB' b) (id := h.next) (off := 0) (n := b.length) (c := .byt b.length (pack b)) (newH_get _ _) (pack_lt b) (by rw [newH_next]; omega) (Nat.le_refl _) (Nat.le_of_eq (Nat.zero_add _))
    rw [byt_toL, List.drop_zero, List.take_of_length_le (by rw [byt_length]; omega)] at q
    exact .mk (by rw [byt_length, Nat.mul_one]) q

end Go.Proofs.YtjhgembcdndmkaaDoor.Am

namespace Go.Proofs.YtjhgembcdndmkaaDoor.Am
open Go.RowKit

theorem pack_append (a b : List UInt8) : pack (a ++ b) = pack a * 256 ^ b.length + pack b := by
  induction a with
  | nil => show pack b = pack [] * _ + _; rw [show pack [] = 0 from rfl]; omega
  | cons x a ih =>
    rw [List.cons_append, pack_cons, ih, pack_cons, List.length_append, Nat.pow_add, Nat.add_mul, Nat.mul_assoc]; omega

theorem bin_addS (kd : EK) (no : Bool) (a b : List UInt8) (h : a.length + b.length ≤ 1000000) : binA .add kd no (strOf a) (strOf b) = some (strOf (a ++ b)) := by
  have e : binA .add kd no (strOf a) (strOf b) = natK (Nat.add a.length b.length) fun l => bif Nat.ble l i64max then natK (Nat.add (Nat.mul (pack a) (Nat.pow 256 b.length)) (pack b)) fun r => some (.str l r) else none := rfl
  rw [e]
  simp only [natK_eq]
  rw [ble_iff.2 (show Nat.add a.length b.length ≤ i64max from by show a.length + b.length ≤ 9223372036854775807; omega), cond_true]
  show some (AV.str (a.length + b.length) (pack a * 256 ^ b.length + pack b)) = some (AV.str (a ++ b).length (pack (a ++ b)))
  rw [List.length_append, pack_append]

theorem byteAt_pack {s : List UInt8} {i : Nat} (hi : i < s.length) : byteAt s.length (pack s) i = s[i].toNat := by
  have h := byteAt_get (s := ⟨s.toArray⟩) (n := s.length) (v := pack s) (by show s = _; rw [unpack_pack]) hi
  rw [← h]
  show (s.toArray[i]!).toNat = _
  rw [getElem!_pos s.toArray i (by simpa using hi)]
  simp

theorem qev_idxStr (P : Program) {env : T AV} {h : Hp} {x y : Opd} {s : List UInt8} {i : Nat} (hx : ev env x = strOf s) (hy : ev env y = .int .i64 (i : Int)) (hi : i < s.length) : evalOp P (.idxStr x y) env h = .val (.int .u8 (s[i].toNat : Int)) h := by
  have e : evalOp P (.idxStr x y) env h = (match ev env x, ev env y with
    | .str n v, .int _ (.ofNat i) => bif Nat.blt i n then natK (byteAt n v i) fun b => .val (byteV b) h else .fail "idxStr bounds"
    | _, _ => .fail "idxStr") := rfl
  rw [e, hx, hy]
  show (bif Nat.blt i s.length then natK (byteAt s.length (pack s) i) fun b => Res.val (byteV b) h else .fail "idxStr bounds") = _
  simp only [natK_eq]
  rw [show Nat.blt i s.length = true from by rw [Nat.blt]; exact ble_iff.2 hi, cond_true, byteAt_pack hi]
  rfl

theorem frOf_arg {P : Program} {f : FuncId} {x y : AV} {h h' h1 h1' : Hp} {v v1 : AV} (a : AmFn P f [x] h v h') (b : AmFn P f [y] h1 v1 h1') (e : frOf P f [x] = frOf P f [y]) : x = y := by
  have q1 := a.begins.1
  have q2 := b.begins.1
  rw [e] at q1
  have q : beginFn P f [x] = beginFn P f [y] := q1.trans q2.symm
  unfold beginFn at q
  unfold beginFn at q1 q2
  split at q1
  · rename_i fu hfu
    rw [hfu] at q
    cases hl : Nat.ble ([x] : List AV).length fu.nargs with
    | true =>
      have hl2 : Nat.ble ([y] : List AV).length fu.nargs = true := hl
      simp only [hl, hl2, cond_true] at q
      have q' := congrArg (fun o : Option Fr => match o with | some fr => sv fr.env 0 | none => .undef) q
      simpa [sv_args] using q'
    | false => rw [hl] at q1; cases q1
  · cases q1

/-- As rec_of, calls of one argument too that begin with the same heap. -/
theorem rec_of1 {P : Program} (A : List KC) (hA : ∀ a ∈ A, AmFn P a.f a.args a.h a.v a.h') (hd : A.Pairwise fun a b => a.f ≠ b.f ∨ a.h.next ≠ b.h.next ∨ ∃ x y, a.args = [x] ∧ b.args = [y] ∧ x ≠ y) :
    ∃ R, Sound P R ∧ (∀ a ∈ A, R ⟨frOf P a.f a.args, [], a.h⟩ = .done a.v a.h') ∧ ∀ a ∈ A, beginFn P a.f a.args = some (frOf P a.f a.args) := by
  refine ⟨recG P A, recG_sound hA, ?_, fun a ha => (hA a ha).begins.1⟩
  induction A with
  | nil => intro a ha; cases ha
  | cons b A ih =>
    intro a ha
    rcases List.mem_cons.1 ha with e | m
    · subst e; exact recG_hit _ _ _ _ _ _
    · rw [List.pairwise_cons] at hd
      refine recG_next (ih (fun x hx => hA x (List.mem_cons_of_mem _ hx)) hd.2 a m) fun q1 q2 => ?_
      have hf := frOf_fn (hA b (by simp)) (hA a ha) q1.symm
      rcases hd.1 a m with c | c | ⟨x, y, ex, ey, c⟩
      · exact absurd hf c
      · exact absurd (by rw [q2]) c
      · have k1 := hA b (by simp)
        have k2 := hA a ha
        rw [← hf, ey] at k2 q1
        rw [ex] at k1 q1
        exact absurd (frOf_arg k1 k2 q1.symm) c
end Go.Proofs.YtjhgembcdndmkaaDoor.Am

namespace Go.Proofs.YtjhgembcdndmkaaDoor.Am
open Go.RowKit

theorem src_str (h : Hp) (b : List UInt8) : ∃ c, srcCells h 1 b.length (strOf b) = some c ∧ c.wf ∧ c.toL = byt b := by
  have hw : (Cells.byt b.length (pack b)).wf := pack_lt b
  obtain ⟨q1, q2, q3⟩ := Cells.sub_spec hw (off := 0) (n := b.length) (by show 0 + b.length ≤ b.length; omega)
  refine ⟨_, ?_, q1, ?_⟩
  · show (bif Nat.beq 1 1 && Nat.ble b.length b.length then some ((Cells.byt b.length (pack b)).sub 0 b.length) else none) = _
    rw [ble_iff.2 (Nat.le_refl _)]
    rfl
  · rw [q2, byt_toL, List.drop_zero, List.take_of_length_le (by rw [byt_length]; omega)]

/-- A text appended to a row whose room is not known: laid anew. -/
theorem append_groS (P : Program) {h : Hp} {id : Pos} {g : Nat} {l : List AV} {b : List UInt8} {bytes : Nat} (ha : Gro h id g l) (h0 : b ≠ []) (hl : l.length + b.length ≤ 1073741824) (hb : bytes ≤ 4096) :
    ∃ h', (∀ env s x, ev env s = .sl id g 0 l.length l.length false 1 → ev env x = strOf b → evalOp P (.append 1 bytes s x) env h = .val (.sl id (g + 1) 0 (l.length + b.length) (l.length + b.length) false 1) h') ∧ Gro h' id (g + 1) (l ++ byt b) ∧ Only [id] h h' ∧ h'.next = h.next := by
  have hpos : 0 < b.length := List.length_pos_iff.2 h0
  obtain ⟨seg, src, c2, c3⟩ := src_str h b
  have ok : okSize (Nat.add l.length b.length) bytes = true := okSize_small (show Nat.add l.length b.length ≤ _ from hl) hb
  obtain ⟨ser, c, hi, m, fz, eb, hw, hcl⟩ := ha.mem
  have hcs : c.size = l.length := by rw [← Cells.toL_length hw, hcl]
  have ats : seg.atoms = true := by
    cases seg with
    | byt n v => rfl
    | lst n L =>
      have : L = byt b := c3
      subst this
      show List.all _ _ = true
      rw [List.all_eq_true]
      exact byt_atom b
  obtain ⟨q1, q2, q3⟩ := Cells.sub_spec hw (off := 0) (n := l.length) (by omega)
  obtain ⟨p1, p2, p3⟩ := Cells.app_spec q1 c2
  have hn1 : Nat.ble (Nat.add l.length b.length) l.length = false := ble_false.2 (show l.length < l.length + b.length by omega)
  have ht : Nat.add 0 (Nat.mul l.length 1) = l.length := by show 0 + l.length * 1 = _; omega
  refine ⟨⟨T.set id (some (.cells (noteG bytes ser) ((c.sub 0 l.length).app seg) 0 (bif Nat.blt m g then (bif Nat.ble hi l.length then hi else l.length) else l.length) (Nat.succ g) m false fz)) h.heap, h.next, h.ser, h.lim⟩, fun env s x hs hx => ?_, ⟨ha.old, noteG bytes ser, (c.sub 0 l.length).app seg, (bif Nat.blt m g then (bif Nat.ble hi l.length then hi else l.length) else l.length), m, fz, ?_, p1, ?_⟩, ⟨Nat.le_refl _, rfl, fun j _ q => ?_⟩, rfl⟩
  · show appendA h 1 bytes (ev env s) (ev env x) = _
    rw [hs, hx]
    unfold appendA
    simp only [show lenA (strOf b) = some b.length from rfl, beq_false.2 (show b.length ≠ 0 by omega), cond_false, src]
    unfold appendSeg
    simp only [natK_eq, ok, show Nat.beq 1 1 = true from rfl, show Nat.blt 0 1 = true from rfl, Bool.and_true, Bool.and_self, Bool.not_true, cond_false, hn1, eb, ht, beq_iff.2 (rfl : g = g), ble_iff.2 (show l.length ≤ c.size by omega), ats, T.setK_eq,
      show Nat.ble 0 0 = true from rfl, Bool.not_false, cond_true]
    rfl
  · show T.get id (T.set id _ h.heap) = _
    rw [T.get_set, if_pos rfl]
  · rw [p2, q2, c3, List.drop_zero, hcl, List.take_length]
  · show T.get j (T.set id _ h.heap) = _
    rw [T.get_set, if_neg (by simpa using q)]

/-- A row of bytes of one's own, whose room is not known. -/
def Byts (N : Nat) (h : Hp) (v : AV) (l : List UInt8) : Prop := Held N h 1 v l.length (byt l)

theorem Byts.sl {N : Nat} {h : Hp} {v : AV} {l : List UInt8} (o : Byts N h v l) : SlN h 1 v l.length (byt l) := Held.sl o
theorem Byts.old {N : Nat} {h : Hp} {v : AV} {l : List UInt8} (o : Byts N h v l) {id : Pos} (q : InN 1 v id) : N ≤ id.num ∧ id.num < h.next.num := Held.old o q
theorem Byts.only {N : Nat} {h h' : Hp} {S : List Pos} {v : AV} {l : List UInt8} (o : Byts N h v l) (m : Only S h h') (hS : ∀ id, InN 1 v id → id ∉ S) : Byts N h' v l := Held.only o m hS
theorem Byts.more {N : Nat} {h h' : Hp} {v : AV} {l : List UInt8} (o : Byts N h v l) (m : Only [] h h') : Byts N h' v l := o.only m (by simp)
theorem Byts.nil (N : Nat) (h : Hp) : Byts N h .nilSl [] := .inl ⟨rfl, rfl, .inl rfl⟩

theorem Byts.push {N : Nat} {h : Hp} {v : AV} {l : List UInt8} (o : Byts N h v l) (P : Program) {v2 : AV} {l2 : List UInt8} {bytes : Nat} (hv : SlN h 1 v2 l2.length (byt l2)) (hl : l.length + l2.length ≤ 1000000) (hb : bytes ≤ 4096) (hN : N ≤ h.next.num) :
    ∃ v' h' S, (∀ env s x, ev env s = v → ev env x = v2 → evalOp P (.append 1 bytes s x) env h = .val v' h') ∧ Byts N h' v' (l ++ l2) ∧ Only S h h' ∧ ∀ id ∈ S, InN 1 v id := by
  obtain ⟨v', h', S, q1, q2, q3, q4, _⟩ := Held.push o P hv (byt_atom l2) (by omega) (okSize_small (show l.length + l2.length ≤ _ by omega) hb) hN
  exact ⟨v', h', S, q1, by unfold Byts; rw [List.length_append, byt_append]; exact q2, q3, q4⟩

theorem Byts.pushS {N : Nat} {h : Hp} {v : AV} {l : List UInt8} (o : Byts N h v l) (P : Program) {b : List UInt8} {bytes : Nat} (h1 : l ≠ []) (h0 : b ≠ []) (hl : l.length + b.length ≤ 1000000) (hb : bytes ≤ 4096) :
    ∃ v' h' S, (∀ env s x, ev env s = v → ev env x = strOf b → evalOp P (.append 1 bytes s x) env h = .val v' h') ∧ Byts N h' v' (l ++ b) ∧ Only S h h' ∧ ∀ id ∈ S, InN 1 v id := by
  rcases o with ⟨q1, _⟩ | ⟨id, g, q0, q2, q3, q4⟩
  · exact absurd (List.length_eq_zero_iff.1 q1) h1
  · subst q2
    obtain ⟨h', e, a, o, k⟩ := append_groS P q3 h0 (by rw [byt_length]; omega) hb
    rw [byt_length] at e
    refine ⟨_, h', [id], e, .inr ⟨id, g + 1, q0, by rw [List.length_append], by rw [byt_append]; exact a, by rw [byt_length, Nat.mul_one]⟩, o, fun id' hid => by simp at hid; subst hid; exact ⟨_, _, _, _, _, rfl⟩⟩
end Go.Proofs.YtjhgembcdndmkaaDoor.Am

namespace Go.Proofs.YtjhgembcdndmkaaDoor.Am
open Go.RowKit

theorem runR_app {P : Program} : ∀ {l1 l2 : List O} {A : List KC} {env : T AV} {h : Hp} {A1 : List KC} {env1 : T AV} {h1 : Hp}, runR P A l1 env h = some (A1, env1, h1) → runR P A (l1 ++ l2) env h = runR P A1 l2 env1 h1
  | [], l2, A, env, h, A1, env1, h1, e => by unfold runR at e; cases e; rfl
  | o :: l1, l2, A, env, h, A1, env1, h1, e => by
    unfold runR at e
    show runR P A (o :: (l1 ++ l2)) env h = _
    rw [runR]
    split at e
    · rename_i ho
      rw [if_pos ho]
      split at e
      · rename_i hw
        rw [if_pos hw]
        split at e
        · rename_i he; exact runR_app e
        · rename_i he
          split at e
          · rename_i A'
            split at e
            · rename_i hc
              rw [if_pos hc]
              exact runR_app e
            · cases e
          · cases e
        · cases e
      · rename_i hw
        rw [if_neg hw]
        exact runR_app e
    · cases e
end Go.Proofs.YtjhgembcdndmkaaDoor.Am
