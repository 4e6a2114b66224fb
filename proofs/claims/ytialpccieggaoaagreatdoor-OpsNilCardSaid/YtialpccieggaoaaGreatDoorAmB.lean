import Derived.Laws.Sem
import Derived.Laws.Cells
import Derived.Laws.Entries
import Derived.Laws.World
import Derived.Test.YtialpccieggaoaaGreatDoorAmA
/- THE ABSTRACT MACHINE, part B: a machine over values without block numbers, run by the kernel, and the proof that the model's machine does what it does. No condition. -/
set_option linter.unusedSimpArgs false
set_option linter.unusedVariables false
namespace Go.Proofs.YtialpccieggaoaaGreatDoor.Am

abbrev Phi := Pos → Nat → Option (Nat × Int × Nat)

/-- An interface value that is not nil. -/
def isIfc : Value → Bool
  | .iface _ _ => true
  | _ => false

/-- What is known of a number: nothing, that it is n at the least, that it is less. -/
def rngOk (c n : Nat) (m : Int) : Prop :=
  match c with
  | 0 => True
  | 1 => (n : Int) ≤ m
  | 2 => m < (n : Int)
  | _ => False

mutual
inductive Rel (φ : Phi) : AV → Value → Prop where
  | bool (b : Bool) : Rel φ (.bool b) (.bool b)
  | int (k : IntKind) (n : Int) : Rel φ (.int k n) (.int k n)
  | str {n v : Nat} {s : ByteArray} (h : s.data.toList = unpack n v) (hv : v < 256 ^ n) : Rel φ (.str n v) (.string s)
  | ptr {id : Pos} {g off b : Nat} {s : Int} {n : Nat} {a : Addr} (h : φ id g = some (b, s, n)) (hb : a.block = b) (ho : (a.off : Int) = off + s) (hs : a.spot = none) :
      Rel φ (.ptr id g off) (.pointer (some a))
  | nilPtr : Rel φ .nilPtr (.pointer none)
  | sl {id : Pos} {g off len cap : Nat} {ex : Bool} {es b : Nat} {s : Int} {n : Nat} {a : Addr} {c : Nat} (h : φ id g = some (b, s, n)) (hb : a.block = b) (hs : a.spot = none)
      (hl : len ≤ c) (hc : cap ≤ c) (hlc : len ≤ cap) (hx : ex = true → c = cap) (ho : 0 < c → (a.off : Int) = off + s ∧ a.off + c * es ≤ n) :
      Rel φ (.sl id g off len cap ex es) (.slice (some a) len c)
  | sl0 {id : Pos} {g off es : Nat} {a : Addr} : Rel φ (.sl id g off 0 0 true es) (.slice (some a) 0 0)
  | nilSl : Rel φ .nilSl (.slice none 0 0)
  | map {id : Pos} {b : Nat} {s : Int} {n : Nat} (h : φ id 0 = some (b, s, n)) : Rel φ (.map id) (.map (some b))
  | nilMap : Rel φ .nilMap (.map none)
  | fn {f : Fn} {first captured : List AV} {first' captured' : Array Value} (h : RelL φ first first'.toList) (h' : RelL φ captured captured'.toList) :
      Rel φ (.fn f first captured) (.func f first' captured')
  | yield {id : Pos} {b : Nat} (h : φ id 0 = some (b, 0, 0)) : Rel φ (.yield id) (.func (.yield b) #[] #[])
  | nilFn : Rel φ .nilFn .nilFunc
  | ifc {t : TypeId} {v : AV} {x : Value} (h : Rel φ v x) : Rel φ (.ifc t v) (.iface t x)
  | nilIfc : Rel φ .nilIfc .nilIface
  | agg {l : List AV} {a : Array Value} (h : RelL φ l a.toList) : Rel φ (.agg l) (.agg a)
  | tup {l : List AV} {a : Array Value} (h : RelL φ l a.toList) : Rel φ (.tup l) (.tuple a)
  | unk {x : Value} (h : isIfc x = true) : Rel φ .unk x
  | rng {c n : Nat} {m : Int} (h : rngOk c n m) : Rel φ (.rng c n) (.int .i64 m)
inductive RelL (φ : Phi) : List AV → List Value → Prop where
  | nil : RelL φ [] []
  | cons {v : AV} {x : Value} {l : List AV} {r : List Value} (h : Rel φ v x) (t : RelL φ l r) : RelL φ (v :: l) (x :: r)
end

def Le (φ ψ : Phi) : Prop := ∀ id g r, φ id g = some r → ψ id g = some r

theorem Le.refl (φ : Phi) : Le φ φ := fun _ _ _ h => h
theorem Le.trans {φ ψ χ : Phi} (h : Le φ ψ) (k : Le ψ χ) : Le φ χ := fun _ _ _ e => k _ _ _ (h _ _ _ e)

mutual
theorem Rel.mono {φ ψ : Phi} (hle : Le φ ψ) {v : AV} {x : Value} : Rel φ v x → Rel ψ v x
  | .bool b => .bool b
  | .int k n => .int k n
  | .str h hv => .str h hv
  | .ptr h hb ho hs => .ptr (hle _ _ _ h) hb ho hs
  | .nilPtr => .nilPtr
  | .sl h hb hs hl hc hlc hx ho => .sl (hle _ _ _ h) hb hs hl hc hlc hx ho
  | .sl0 => .sl0
  | .nilSl => .nilSl
  | .map h => .map (hle _ _ _ h)
  | .nilMap => .nilMap
  | .fn h h' => .fn (RelL.mono hle h) (RelL.mono hle h')
  | .yield h => .yield (hle _ _ _ h)
  | .nilFn => .nilFn
  | .ifc h => .ifc (Rel.mono hle h)
  | .nilIfc => .nilIfc
  | .agg h => .agg (RelL.mono hle h)
  | .tup h => .tup (RelL.mono hle h)
  | .unk h => .unk h
  | .rng h => .rng h
theorem RelL.mono {φ ψ : Phi} (hle : Le φ ψ) {l : List AV} {r : List Value} : RelL φ l r → RelL ψ l r
  | .nil => .nil
  | .cons h t => .cons (Rel.mono hle h) (RelL.mono hle t)
end

theorem RelL.length {φ : Phi} {l : List AV} {r : List Value} (h : RelL φ l r) : l.length = r.length := by
  induction l generalizing r with
  | nil => cases h; rfl
  | cons v l ih => cases h with | cons h t => simp [ih t]

theorem RelL.get {φ : Phi} {l : List AV} {r : List Value} (h : RelL φ l r) {i : Nat} {v : AV} (hv : l[i]? = some v) : ∃ x, r[i]? = some x ∧ Rel φ v x := by
  induction l generalizing r i with
  | nil => simp at hv
  | cons u l ih =>
    cases h with
    | cons h t =>
      cases i with
      | zero => simp at hv; subst hv; exact ⟨_, rfl, h⟩
      | succ i => simpa using ih t (by simpa using hv)

theorem RelL.of_get {φ : Phi} {l : List AV} {r : List Value} (hl : l.length = r.length) (h : ∀ (i : Nat) (v : AV) (x : Value), l[i]? = some v → r[i]? = some x → Rel φ v x) : RelL φ l r := by
  induction l generalizing r with
  | nil => cases r with
    | nil => exact .nil
    | cons x r => simp at hl
  | cons v l ih => cases r with
    | nil => simp at hl
    | cons x r =>
      exact .cons (h 0 v x rfl rfl) (ih (by simpa using hl) fun i v x hv hx => h (i + 1) v x (by simpa using hv) (by simpa using hx))

theorem RelL.append {φ : Phi} {l m : List AV} {r s : List Value} (h : RelL φ l r) (k : RelL φ m s) : RelL φ (l ++ m) (r ++ s) := by
  induction l generalizing r with
  | nil => cases h; exact k
  | cons v l ih => cases h with | cons h t => exact .cons h (ih t)

theorem RelL.take {φ : Phi} {l : List AV} {r : List Value} (h : RelL φ l r) (n : Nat) : RelL φ (l.take n) (r.take n) := by
  induction l generalizing r n with
  | nil => cases h; simp; exact .nil
  | cons v l ih => cases h with
    | cons h t => cases n with
      | zero => exact .nil
      | succ n => exact .cons h (ih t n)

theorem RelL.drop {φ : Phi} {l : List AV} {r : List Value} (h : RelL φ l r) (n : Nat) : RelL φ (l.drop n) (r.drop n) := by
  induction l generalizing r n with
  | nil => cases h; simp; exact .nil
  | cons v l ih => cases h with
    | cons h t => cases n with
      | zero => exact .cons h t
      | succ n => exact ih t n

theorem ifc_cells {x : Value} (h : isIfc x = true) : x.cells.toList = [x] := by
  cases x <;> first | rfl | (cases h)

theorem Rel.cells {φ : Phi} {v : AV} {x : Value} (h : Rel φ v x) : RelL φ v.cells x.cells.toList := by
  cases h with
  | agg h => exact h
  | bool b => exact .cons (.bool b) .nil
  | int k n => exact .cons (.int k n) .nil
  | str h hv => exact .cons (.str h hv) .nil
  | ptr h hb ho hs => exact .cons (.ptr h hb ho hs) .nil
  | nilPtr => exact .cons .nilPtr .nil
  | sl h hb hs hl hc hlc hx ho => exact .cons (.sl h hb hs hl hc hlc hx ho) .nil
  | sl0 => exact .cons .sl0 .nil
  | nilSl => exact .cons .nilSl .nil
  | map h => exact .cons (.map h) .nil
  | nilMap => exact .cons .nilMap .nil
  | fn h h' => exact .cons (.fn h h') .nil
  | yield h => exact .cons (.yield h) .nil
  | nilFn => exact .cons .nilFn .nil
  | ifc h => exact .cons (.ifc h) .nil
  | nilIfc => exact .cons .nilIfc .nil
  | tup h => exact .cons (.tup h) .nil
  | unk h => rw [ifc_cells h]; exact .cons (.unk h) .nil
  | rng h => exact .cons (.rng h) .nil

theorem Rel.undef {φ : Phi} : Rel φ .undef Go.undef := .tup .nil

/-- The slots of a frame. -/
def EnvR (φ : Phi) (env : T AV) (tmps : Array Value) : Prop := ∀ t, Rel φ (ev env (.tmp (Pos.ofNat t))) (tmps.getD t Go.undef)

theorem EnvR.mono {φ ψ : Phi} (hle : Le φ ψ) {env : T AV} {tmps : Array Value} (h : EnvR φ env tmps) : EnvR ψ env tmps := fun t => (h t).mono hle

theorem ev_set (env : T AV) (p q : Pos) (v : AV) : ev (T.set p (some v) env) (.tmp q) = if q = p then v else ev env (.tmp q) := by
  simp only [ev, T.get_set]
  by_cases h : q = p <;> simp [h]

theorem EnvR.set {φ : Phi} {env : T AV} {tmps : Array Value} (h : EnvR φ env tmps) {d : Nat} {v : AV} {x : Value} (hv : Rel φ v x) (hd : d < tmps.size) :
    EnvR φ (T.set (Pos.ofNat d) (some v) env) (tmps.setIfInBounds d x) := by
  intro t
  rw [ev_set]
  by_cases e : t = d
  · subst e
    rw [if_pos rfl, Array.getD_eq_getD_getElem?, Array.getElem?_setIfInBounds_self_of_lt hd]
    exact hv
  · rw [if_neg fun c => e (Pos.ofNat_inj c), Array.getD_eq_getD_getElem?, Array.getElem?_setIfInBounds_ne (Ne.symm e), ← Array.getD_eq_getD_getElem?]
    exact h t

def numT (P : Program) (f : FuncId) : Nat := ((P.funcs[f]?).map (·.ntmps)).getD 0

def Thawed (fz : Bool) (C : Array Value) (fr : Nat × Nat) : Prop := if fz = true then C.size ≤ fr.1 ∨ fr.2 ≤ fr.1 else fr = (0, 0)

def PendR (P : Program) (n : Nat) : Option C → Option Code → Prop
  | none, none => True
  | some c, some k => ∀ m, n ≤ n + m → c = comp P m k
  | _, _ => False

def LSR : LState → LoopState → Prop
  | .ready, .ready | .busy, .busy | .done, .done | .exhausted, .exhausted => True
  | _, _ => False

/-- A deferred call. -/
def DefR (φ : Phi) (f : FuncId) (args : List AV) (d : Deferred) : Prop := ∃ Y : Array Value, d.target = .fn (.func f) Y ∧ RelL φ args (d.args ++ Y).toList

/-- A map's entries are told by the numbers they were born with. Those from n0 on are counted as the model counts them, but for d; the model's number of each one ahead of n0 is kept by itself. -/
def BornR (φ : Phi) (id : Pos) (b : Nat) (d : Int) (n0 n n' : Nat) : Prop := (n < n0 ∧ φ id (n + 1) = some (b, (n' : Int), 0)) ∨ (n0 ≤ n ∧ (n' : Int) = n + d)

theorem BornR.mono {φ ψ : Phi} (hle : Le φ ψ) {id : Pos} {b : Nat} {d : Int} {n0 n n' : Nat} (h : BornR φ id b d n0 n n') : BornR ψ id b d n0 n n' := h.imp (fun k => ⟨k.1, hle _ _ _ k.2⟩) _root_.id

theorem BornR.fn {φ : Phi} {id : Pos} {b : Nat} {d : Int} {n0 n x y : Nat} (h : BornR φ id b d n0 n x) (k : BornR φ id b d n0 n y) : x = y := by
  rcases h with ⟨h1, h2⟩ | ⟨h1, h2⟩ <;> rcases k with ⟨k1, k2⟩ | ⟨k1, k2⟩
  · rw [h2] at k2
    injection k2 with k2
    injection k2 with _ k2
    injection k2 with k2 _
    omega
  · omega
  · omega
  · omega

/-- A map's entries. -/
inductive EntsR (φ : Phi) (R : Nat → Nat → Prop) : List (AV × AV × Nat) → List MapEntry → Prop where
  | nil : EntsR φ R [] []
  | cons {k v : AV} {n n' : Nat} {x y : Value} {l : List (AV × AV × Nat)} {r : List MapEntry} (hk : Rel φ k x) (hv : Rel φ v y) (hn : R n n') (t : EntsR φ R l r) : EntsR φ R ((k, v, n) :: l) ({ key := x, val := y, born := n' } :: r)

theorem EntsR.mono {φ ψ : Phi} {R S : Nat → Nat → Prop} (hle : Le φ ψ) (hRS : ∀ n n', R n n' → S n n') {l : List (AV × AV × Nat)} {r : List MapEntry} (h : EntsR φ R l r) : EntsR ψ S l r := by
  induction h with
  | nil => exact .nil
  | cons hk hv hn _ ih => exact .cons (hk.mono hle) (hv.mono hle) (hRS _ _ hn) ih

/-- The numbers of an iterator. -/
inductive SeenR (R : Nat → Nat → Prop) : List Nat → List Nat → Prop where
  | nil : SeenR R [] []
  | cons {n n' : Nat} {l r : List Nat} (h : R n n') (t : SeenR R l r) : SeenR R (n :: l) (n' :: r)

theorem SeenR.mono {R S : Nat → Nat → Prop} (hRS : ∀ n n', R n n' → S n n') {l r : List Nat} (h : SeenR R l r) : SeenR S l r := by
  induction h with
  | nil => exact .nil
  | cons hn _ ih => exact .cons (hRS _ _ hn) ih

/-- What a map says of the model's: entries in another order, perhaps. -/
structure MapR (φ : Phi) (id : Pos) (b : Nat) (d : Int) (n0 : Nat) (es : List (AV × AV × Nat)) (clock : Nat) (E : List MapEntry) (clk : Nat) : Prop where
  le : n0 ≤ clock
  ck : (clk : Int) = clock + d
  ents : ∃ l, List.Perm l es ∧ EntsR φ (BornR φ id b d n0) l E
  first : ∀ n, n < n0 → ∃ n' : Nat, φ id (n + 1) = some (b, (n' : Int), 0) ∧ (n' : Int) < n0 + d
  inj : ∀ i j r, i < n0 → j < n0 → φ id (i + 1) = some r → φ id (j + 1) = some r → i = j
  born : ∀ x ∈ E.map (·.born), x < clk
  nodup : (E.map (·.born)).Nodup

theorem MapR.mono {φ ψ : Phi} (hle : Le φ ψ) {id : Pos} {b : Nat} {d : Int} {n0 : Nat} {es : List (AV × AV × Nat)} {clock : Nat} {E : List MapEntry} {clk : Nat} (h : MapR φ id b d n0 es clock E clk) : MapR ψ id b d n0 es clock E clk where
  le := h.le
  ck := h.ck
  ents := let ⟨l, p, q⟩ := h.ents; ⟨l, p, q.mono hle fun _ _ k => k.mono hle⟩
  first := fun n hn => let ⟨n', p, q⟩ := h.first n hn; ⟨n', hle _ _ _ p, q⟩
  inj := fun i j r hi hj ki kj => by
    obtain ⟨i', p, _⟩ := h.first i hi
    obtain ⟨j', q, _⟩ := h.first j hj
    have p' := hle _ _ _ p
    have q' := hle _ _ _ q
    rw [ki] at p'; rw [kj] at q'
    rw [← p'] at p; rw [← q'] at q
    exact h.inj i j r hi hj p q
  born := h.born
  nodup := h.nodup

/-- A map with another name, and the same entries. -/
theorem MapR.copy {φ ψ : Phi} (hle : Le φ ψ) {id id' : Pos} {b b' : Nat} {d : Int} {n0 : Nat} {es : List (AV × AV × Nat)} {clock : Nat} {E : List MapEntry} {clk : Nat} (hν : ∀ j, ψ id' j = (φ id j).map fun r => (b', r.2))
    (h : MapR φ id b d n0 es clock E clk) : MapR ψ id' b' d n0 es clock E clk where
  le := h.le
  ck := h.ck
  ents := let ⟨l, p, q⟩ := h.ents; ⟨l, p, q.mono hle fun _ _ k => k.imp (fun k => ⟨k.1, by rw [hν, k.2]; rfl⟩) _root_.id⟩
  first := fun n hn => let ⟨n', p, q⟩ := h.first n hn; ⟨n', by rw [hν, p]; rfl, q⟩
  inj := fun i j r hi hj ki kj => by
    obtain ⟨i', p, _⟩ := h.first i hi
    obtain ⟨j', q, _⟩ := h.first j hj
    rw [hν, p] at ki
    rw [hν, q] at kj
    cases ki
    simp only [Option.map_some, Option.some.injEq, Prod.mk.injEq, true_and, and_true] at kj
    rw [kj] at q
    exact h.inj i j _ hi hj p q
  born := h.born
  nodup := h.nodup

theorem MapR.nil (φ : Phi) (id : Pos) (b : Nat) : MapR φ id b 0 0 [] 0 [] 0 where
  le := Nat.le_refl _
  ck := rfl
  ents := ⟨[], .refl _, .nil⟩
  first := fun n hn => absurd hn (Nat.not_lt_zero _)
  inj := fun i _ _ hi => absurd hi (Nat.not_lt_zero _)
  born := fun _ q => by cases q
  nodup := .nil

/-- A going over a map. -/
def MitR (φ : Phi) (since : Nat) (seen : List Nat) (last since' : Nat) (seen' : List Nat) (last' : Nat) : Option Pos → Option Nat → Prop
  | none, none => True
  | some m, some c => ∃ d n0, φ m 0 = some (c, d, n0) ∧ n0 ≤ since ∧ n0 ≤ last ∧ (since' : Int) = since + d ∧ (last' : Int) = last + d ∧ SeenR (BornR φ m c d n0) seen seen'
  | _, _ => False

theorem MitR.mono {φ ψ : Phi} (hle : Le φ ψ) {since : Nat} {seen : List Nat} {last since' : Nat} {seen' : List Nat} {last' : Nat} {m : Option Pos} {c : Option Nat} (h : MitR φ since seen last since' seen' last' m c) : MitR ψ since seen last since' seen' last' m c := by
  cases m <;> cases c <;> first | exact h | skip
  obtain ⟨d, n0, h1, h2, h3, h4, h5, h6⟩ := h
  exact ⟨d, n0, hle _ _ _ h1, h2, h3, h4, h5, h6.mono fun _ _ k => k.mono hle⟩

/-- What is known of a row's type. -/
def NoteR (P : Program) (note : Nat) (s : Int) (n : Nat) (el : TypeId) : Prop :=
  note = 0 ∨ (note = 1 ∧ P.underlying el = some (.int .u8) ∧ P.cellsOf el = 1) ∨ ∃ u, note = u + 2 ∧ el = u ∧ s = 0 ∧ n = P.cellsOf u

def TyR (P : Program) (φ : Phi) (w : World) (id : Pos) (note m g : Nat) : Prop :=
  ∀ j b s n C el fr, m ≤ j → j ≤ g → φ id j = some (b, s, n) → w.heap[b]? = some (.cells C el fr) → NoteR P note s n el

/-- What cells say of the model's heap. -/
def CelR (φ : Phi) (w : World) (id : Pos) (c : Cells) (lo hi g m : Nat) (ro fz : Bool) : Prop := c.wf ∧ m ≤ g ∧ (m < g → hi ≤ c.size) ∧ (∀ j, g < j → φ id j = none) ∧
      (∀ j j' b s n s' n', m ≤ j → j ≤ g → m ≤ j' → j' ≤ g → φ id j = some (b, s, n) → φ id j' = some (b, s', n') → s = s') ∧
      ∀ j, m ≤ j → j ≤ g → ∃ b s n C el fr, φ id j = some (b, s, n) ∧ w.heap[b]? = some (.cells C el fr) ∧ C.size = n ∧ (ro = false → Thawed fz C fr) ∧
        ∀ (i : Nat) (v : AV), lo ≤ i → i < (if j = g then c.size else hi) → c.toL[i]? = some v → ∃ (o : Nat) (x : Value), (o : Int) = i + s ∧ C[o]? = some x ∧ Rel φ v x

/-- What a block of the abstract heap says of the model's heap. -/
def BR (P : Program) (φ : Phi) (w : World) (id : Pos) : Blk → Prop
  | .cells note c lo hi g m ro fz => CelR φ w id c lo hi g m ro fz ∧ TyR P φ w id note m g
  | .sit _ n v pos => ∃ b s, φ id 0 = some (b, 0, 0) ∧ w.heap[b]? = some (.stringIter s pos) ∧ s.data.toList = unpack n v ∧ v < 256 ^ n
  | .mit _ m since seen last => ∃ b bm since' seen' last', φ id 0 = some (b, 0, 0) ∧ w.heap[b]? = some (.mapIter bm since' seen' last') ∧ MitR φ since seen last since' seen'.toList last' m bm
  | .map _ es clock => ∃ b d n0 E clk, φ id 0 = some (b, d, n0) ∧ w.heap[b]? = some (.map E clk) ∧ MapR φ id b d n0 es clock E.toList clk
  | .loop _ st pending fn env params assign body around => ∃ b L, φ id 0 = some (b, 0, 0) ∧ w.heap[b]? = some (.loop L) ∧ LSR st L.state ∧ PendR P (numT P fn) pending L.pending ∧ L.fn = fn ∧
      EnvR φ env L.tmps ∧ numT P fn ≤ L.tmps.size ∧ L.params.toList.map Pos.ofNat = params ∧ (∀ t ∈ L.params.toList, t < numT P fn) ∧ assign = comp P (numT P fn) L.assign ∧ body = comp P (numT P fn) L.body ∧
      φ around 0 = some (L.defers, 0, 0)
  | .dfr _ => ∃ b, φ id 0 = some (b, 0, 0) ∧ w.heap[b]? = some (.deferred (some []))

/-- A block that was there, or one of those that are kept for later. -/
def Old (n lim : Nat) (id : Pos) : Prop := id.num < n ∨ (lim ≠ 0 ∧ lim ≤ id.num)

/-- There is room for one more block. -/
def Room (h : Hp) : Prop := h.lim = 0 ∨ h.next.num < h.lim

/-- May the block be written: cells that no text shares, a map that is not held fast. -/
def Blk.free : Blk → Prop
  | .cells _ _ _ _ _ _ ro _ => ro = false
  | .map s _ _ => s = 0
  | _ => True

/-- May the block be written? -/
def Nonro (h : Hp) (id : Pos) : Prop := ∃ b, T.get id h.heap = some b ∧ b.free

structure HR (P : Program) (φ : Phi) (h : Hp) (w : World) : Prop where
  blk : ∀ id b, T.get id h.heap = some b → BR P φ w id b
  used : ∀ id g r, φ id g = some r → Old h.next.num h.lim id
  dom : ∀ id b, T.get id h.heap = some b → Old h.next.num h.lim id
  sep : ∀ id g b s n id' g' s' n', φ id g = some (b, s, n) → φ id' g' = some (b, s', n') → id = id' ∨ (¬ Nonro h id ∧ ¬ Nonro h id')
  inb : ∀ id g b s n, φ id g = some (b, s, n) → b < w.heap.size
  glob : ∀ g, globOk g = true → ∃ n, φ (Pos.ofNat g) 0 = some (g, 0, n)

/-- Not one of the blocks that were made between. -/
def Was (h h' : Hp) (id : Pos) : Prop := id.num < h.next.num ∨ h'.next.num ≤ id.num

structure Adv (h : Hp) (w : World) (φ : Phi) (h' : Hp) (w' : World) (φ' : Phi) : Prop where
  le : Le φ φ'
  os : w'.os = w.os
  output : w'.output = w.output
  tape : w'.tape = w.tape
  size : w.heap.size ≤ w'.heap.size
  next : h.next.num ≤ h'.next.num
  new : ∀ id g b s n, φ' id g = some (b, s, n) → b < w.heap.size → ∃ g₀ s₀ n₀, φ id g₀ = some (b, s₀, n₀)
  old : ∀ id, Was h h' id → Nonro h' id → Nonro h id
  keep : ∀ b, b < w.heap.size → (∀ id g s n, φ id g = some (b, s, n) → ¬ Nonro h id) → w'.heap[b]? = w.heap[b]?
  lim : h'.lim = h.lim
  hid : ∀ id, Was h h' id → T.get id h.heap = none → T.get id h'.heap = none
  same : ∀ id g r, Was h h' id → ¬ Nonro h id → φ' id g = some r → φ id g = some r

theorem Adv.refl (h : Hp) (w : World) (φ : Phi) : Adv h w φ h w φ :=
  ⟨Le.refl φ, rfl, rfl, rfl, Nat.le_refl _, Nat.le_refl _, fun _ g _ s n e _ => ⟨g, s, n, e⟩, fun _ _ k => k, fun _ _ _ => rfl, rfl, fun _ _ e => e, fun _ _ _ _ _ e => e⟩

theorem Was.left {h h₁ h₂ : Hp} {id : Pos} (w : Was h h₂ id) (b : h₁.next.num ≤ h₂.next.num) : Was h h₁ id := by
  rcases w with k | k
  · exact .inl k
  · exact .inr (by omega)

theorem Was.right {h h₁ h₂ : Hp} {id : Pos} (w : Was h h₂ id) (a : h.next.num ≤ h₁.next.num) : Was h₁ h₂ id := by
  rcases w with k | k
  · exact .inl (by omega)
  · exact .inr k

theorem Room.was {h h₂ : Hp} (hm : Room h) (hn : h₂.next.num ≤ h.next.num + 1) : ∀ id, Old h.next.num h.lim id → Was h h₂ id := by
  intro id ho
  rcases ho with k | ⟨k1, k2⟩
  · exact .inl k
  · rcases hm with hm | hm
    · exact absurd hm k1
    · exact .inr (by omega)

theorem Room.was0 {h h₂ : Hp} (hm : h.lim = 0) : ∀ id, Old h.next.num h.lim id → Was h h₂ id := by
  intro id ho
  rcases ho with k | ⟨k1, _⟩
  · exact .inl k
  · exact absurd hm k1

theorem Adv.trans {P : Program} {h h₁ h₂ : Hp} {w w₁ w₂ : World} {φ φ₁ φ₂ : Phi} (hR : HR P φ h w) (a : Adv h w φ h₁ w₁ φ₁) (b : Adv h₁ w₁ φ₁ h₂ w₂ φ₂) (hl : ∀ id, Old h.next.num h.lim id → Was h h₂ id) : Adv h w φ h₂ w₂ φ₂ where
  le := a.le.trans b.le
  os := b.os.trans a.os
  output := b.output.trans a.output
  tape := b.tape.trans a.tape
  size := Nat.le_trans a.size b.size
  next := Nat.le_trans a.next b.next
  new := fun id g x s n e hx =>
    let ⟨g₁, s₁, n₁, e₁⟩ := b.new id g x s n e (Nat.lt_of_lt_of_le hx a.size)
    a.new id g₁ x s₁ n₁ e₁ hx
  old := fun id hw k => a.old id (hw.left b.next) (b.old id (hw.right a.next) k)
  keep := fun x hx k => by
    rw [← a.keep x hx k]
    refine b.keep x (Nat.lt_of_lt_of_le hx a.size) fun id g s n e hn => ?_
    obtain ⟨g₀, s₀, n₀, e₀⟩ := a.new id g x s n e hx
    have hw := hl id (hR.used id g₀ _ e₀)
    exact k id g₀ s₀ n₀ e₀ (a.old id (hw.left b.next) hn)
  lim := b.lim.trans a.lim
  hid := fun id hw e => b.hid id (hw.right a.next) (a.hid id (hw.left b.next) e)
  same := fun id g r hw e k => a.same id g r (hw.left b.next) e (b.same id g r (hw.right a.next) (fun q => e (a.old id (hw.left b.next) q)) k)

end Go.Proofs.YtialpccieggaoaaGreatDoor.Am

namespace Go.Proofs.YtialpccieggaoaaGreatDoor.Am

theorem add_eq (a : Addr) (h : a.spot = none) (n : Nat) : a.add n = ⟨a.block, a.off + n, none⟩ := by
  obtain ⟨b, o, s⟩ := a
  simp only at h; subst h
  unfold Addr.add
  by_cases e : n = 0
  · subst e; simp
  · simp [e]

/-- A row with other cells in a part's place. -/
def spliceV (C : List Value) (k : Nat) (vs : List Value) : List Value := C.take k ++ (vs ++ C.drop (k + vs.length))

theorem spliceV_length {C : List Value} {k : Nat} {vs : List Value} (h : k + vs.length ≤ C.length) : (spliceV C k vs).length = C.length := by
  simp [spliceV]; omega

theorem spliceV_get {C : List Value} {k : Nat} {vs : List Value} (h : k + vs.length ≤ C.length) (i : Nat) :
    (spliceV C k vs)[i]? = if k ≤ i ∧ i < k + vs.length then vs[i - k]? else C[i]? := by
  unfold spliceV
  by_cases h1 : i < k
  · rw [List.getElem?_append_left (by simp; omega), List.getElem?_take_of_lt h1, if_neg (by omega)]
  · rw [List.getElem?_append_right (by simp; omega)]
    have hk : (C.take k).length = k := by simp; omega
    rw [hk]
    by_cases h2 : i < k + vs.length
    · rw [List.getElem?_append_left (by omega), if_pos ⟨by omega, h2⟩]
    · rw [List.getElem?_append_right (by omega), List.getElem?_drop, if_neg (by omega)]
      congr 1; omega

def putRow (w : World) (b : Nat) (C : Array Value) (el : TypeId) (fr : Nat × Nat) : World := { w with heap := w.heap.setIfInBounds b (.cells C el fr) }

theorem heap_lt {w : World} {b : Nat} {o : Obj} (h : w.heap[b]? = some o) : b < w.heap.size := by
  rcases Nat.lt_or_ge b w.heap.size with h' | h'
  · exact h'
  · rw [Array.getElem?_eq_none h'] at h; cases h

theorem putRow_heap_same {w : World} {b : Nat} (hb : b < w.heap.size) (C : Array Value) (el : TypeId) (fr : Nat × Nat) : (putRow w b C el fr).heap[b]? = some (.cells C el fr) := by
  simp [putRow, hb]

theorem putRow_heap_ne {w : World} {b c : Nat} (h : c ≠ b) (C : Array Value) (el : TypeId) (fr : Nat × Nat) : (putRow w b C el fr).heap[c]? = w.heap[c]? := by
  simp only [putRow]
  exact Array.getElem?_setIfInBounds_ne (Ne.symm h)

theorem setCell_eq {w : World} {b o : Nat} {C : Array Value} {el : TypeId} {fr : Nat × Nat} (h : w.heap[b]? = some (.cells C el fr)) (v : Value) :
    w.setCell ⟨b, o, none⟩ v = putRow w b (C.setIfInBounds o v) el fr := by
  unfold World.setCell putRow
  congr 1
  have hb := heap_lt h
  apply Array.ext_getElem?
  intro i
  rw [Array.getElem?_modify]
  by_cases e : b = i
  · subst e
    rw [if_pos rfl, h, Array.getElem?_setIfInBounds_self_of_lt hb]
    rfl
  · rw [if_neg e, Array.getElem?_setIfInBounds_ne e]

theorem cell_eq {w : World} {b o : Nat} {C : Array Value} {el : TypeId} {fr : Nat × Nat} (h : w.heap[b]? = some (.cells C el fr)) : w.cell? ⟨b, o, none⟩ = C[o]? := by
  simp [World.cell?, h]

theorem frozen_eq {w : World} {b o : Nat} {C : Array Value} {el : TypeId} {fr : Nat × Nat} (h : w.heap[b]? = some (.cells C el fr)) : w.frozen? ⟨b, o, none⟩ = (decide (fr.1 ≤ o) && decide (o < fr.2)) := by
  obtain ⟨lo, hi⟩ := fr
  simp [World.frozen?, h]

theorem run_storeCells_g (P : Program) (a : Addr) (ha : a.spot = none) (el : TypeId) (fr : Nat × Nat) : ∀ (vs : List Value) (i : Nat) (C : Array Value) (w : World), w.heap[a.block]? = some (.cells C el fr) →
    (∀ j, j < C.size → ¬ (fr.1 ≤ j ∧ j < fr.2)) → a.off + i + vs.length ≤ C.size → (∀ v ∈ vs, v.oneCell' = true) →
    (storeCells a vs i).run P w = .ok () (putRow w a.block (spliceV C.toList (a.off + i) vs).toArray el fr)
  | [], i, C, w, h, _, _, _ => by
    unfold storeCells
    simp only [Sem.run_pure, spliceV, List.nil_append, List.length_nil, Nat.add_zero, List.take_append_drop]
    congr 1
    have hb := heap_lt h
    have e : w.heap.setIfInBounds a.block (.cells C el fr) = w.heap := by
      apply Array.ext_getElem?
      intro k
      by_cases e : a.block = k
      · subst e; rw [h, Array.getElem?_setIfInBounds_self_of_lt hb]
      · rw [Array.getElem?_setIfInBounds_ne e]
    unfold putRow
    rw [Array.toArray_toList, e]
  | v :: rest, i, C, w, h, hf, hs, hv => by
    have hlen : a.off + i < C.size := by simp at hs; omega
    have hc : w.cell? (a.add i) = some C[a.off + i] := by rw [add_eq a ha, cell_eq h, Array.getElem?_eq_getElem hlen]
    have hz : w.frozen? (a.add i) = false := by
      rw [add_eq a ha, frozen_eq h]
      have := hf (a.off + i) hlen
      by_cases h1 : fr.1 ≤ a.off + i <;> by_cases h2 : a.off + i < fr.2 <;> simp [h1, h2] <;> omega
    unfold storeCells
    rw [Sem.run_bind, run_store P w (a.add i) v .plain (hv v (by simp)), hc]
    simp only [hz, Bool.false_eq_true, if_false, Result.andThen_ok]
    rw [add_eq a ha, setCell_eq h]
    have hb := heap_lt h
    have h' : (putRow w a.block (C.setIfInBounds (a.off + i) v) el fr).heap[a.block]? = some (.cells (C.setIfInBounds (a.off + i) v) el fr) := putRow_heap_same hb _ _ _
    rw [run_storeCells_g P a ha el fr rest (i + 1) _ _ h' (by simpa using hf) (by simp at hs ⊢; omega) (fun x hx => hv x (by simp [hx]))]
    congr 1
    unfold putRow
    simp only [Array.setIfInBounds_setIfInBounds]
    congr 3
    refine congrArg List.toArray ?_
    apply List.ext_getElem?
    intro k
    rw [spliceV_get (by simp at hs ⊢; omega), spliceV_get (by simp at hs ⊢; omega)]
    simp only [Array.toList_setIfInBounds, List.length_cons, List.getElem?_set]
    by_cases e : k = a.off + i
    · subst e
      rw [if_neg (by omega), if_pos rfl, if_pos (by simpa using hlen), if_pos ⟨by omega, by omega⟩, Nat.sub_self]
      rfl
    · by_cases e2 : a.off + (i + 1) ≤ k ∧ k < a.off + (i + 1) + rest.length
      · rw [if_pos e2, if_pos ⟨by omega, by omega⟩, show k - (a.off + i) = (k - (a.off + (i + 1))) + 1 by omega, List.getElem?_cons_succ]
      · rw [if_neg e2, if_neg (by omega), if_neg (by omega)]

end Go.Proofs.YtialpccieggaoaaGreatDoor.Am

namespace Go.Proofs.YtialpccieggaoaaGreatDoor.Am

theorem BR.mono {P : Program} {φ φ' : Phi} {w w' : World} {id : Pos} {b : Blk} (hle : Le φ φ') (hsame : ∀ g r, φ' id g = some r → φ id g = some r)
    (hheap : ∀ g b s n, φ id g = some (b, s, n) → w'.heap[b]? = w.heap[b]?) (h : BR P φ w id b) : BR P φ' w' id b := by
  cases b with
  | cells ser c lo hi g m ro fz =>
    obtain ⟨⟨h1, h2, h3, h4, h6, h5⟩, ty⟩ := h
    refine ⟨⟨h1, h2, h3, fun j hj => ?_, fun j j' b s n s' n' a1 a2 a3 a4 k k' => h6 j j' b s n s' n' a1 a2 a3 a4 (hsame _ _ k) (hsame _ _ k'), fun j hm hg => ?_⟩, fun j b s n C el fr a1 a2 k k' => ty j b s n C el fr a1 a2 (hsame _ _ k) (by rw [← hheap _ _ _ _ (hsame _ _ k)]; exact k')⟩
    · cases e : φ' id j with
      | none => rfl
      | some r => have := hsame j r e; rw [h4 j hj] at this; cases this
    · obtain ⟨b, s, n, C, el, fr, e1, e2, e3, e4, e5⟩ := h5 j hm hg
      refine ⟨b, s, n, C, el, fr, hle _ _ _ e1, by rw [hheap _ _ _ _ e1, e2], e3, e4, fun i v hi1 hi2 hv => ?_⟩
      obtain ⟨o, x, f1, f2, f3⟩ := e5 i v hi1 hi2 hv
      exact ⟨o, x, f1, f2, f3.mono hle⟩
  | sit ser n v pos =>
    obtain ⟨b, s, e1, e2, e3, e4⟩ := h
    exact ⟨b, s, hle _ _ _ e1, by rw [hheap _ _ _ _ e1, e2], e3, e4⟩
  | mit ser m since seen last =>
    obtain ⟨b, bm, s', sn', l', e1, e2, e3⟩ := h
    exact ⟨b, bm, s', sn', l', hle _ _ _ e1, by rw [hheap _ _ _ _ e1, e2], e3.mono hle⟩
  | map ser es clock =>
    obtain ⟨b, d, n0, E, clk, e1, e2, e3⟩ := h
    exact ⟨b, d, n0, E, clk, hle _ _ _ e1, by rw [hheap _ _ _ _ e1, e2], e3.mono hle⟩
  | loop ser st pending fn env params assign body around =>
    obtain ⟨b, L, e1, e2, e3, e4, e5, e6, e7, e8, e9, e10, e11, e12⟩ := h
    exact ⟨b, L, hle _ _ _ e1, by rw [hheap _ _ _ _ e1, e2], e3, e4, e5, e6.mono hle, e7, e8, e9, e10, e11, hle _ _ _ e12⟩
  | dfr ser =>
    obtain ⟨b, e1, e2⟩ := h
    exact ⟨b, hle _ _ _ e1, by rw [hheap _ _ _ _ e1, e2]⟩

theorem Old.mono {n m lim : Nat} {id : Pos} (h : Old n lim id) (hle : n ≤ m) : Old m lim id := by
  rcases h with k | k
  · exact .inl (by omega)
  · exact .inr k

/-- What one block's change asks. -/
structure Upd (h : Hp) (w : World) (φ : Phi) (id : Pos) (nx : Pos) (w' : World) (φ' : Phi) : Prop where
  le : Le φ φ'
  only : ∀ id' g r, id' ≠ id → φ' id' g = some r → φ id' g = some r
  new : ∀ g b s n, φ' id g = some (b, s, n) → (∃ g₀ s₀ n₀, φ id g₀ = some (b, s₀, n₀)) ∨ w.heap.size ≤ b
  inb : ∀ g b s n, φ' id g = some (b, s, n) → b < w'.heap.size
  lt : Old nx.num h.lim id
  nx : h.next.num ≤ nx.num
  size : w.heap.size ≤ w'.heap.size
  keep : ∀ b, b < w.heap.size → (∀ g s n, φ id g ≠ some (b, s, n)) → w'.heap[b]? = w.heap[b]?
  os : w'.os = w.os
  output : w'.output = w.output
  tape : w'.tape = w.tape

/-- What may be written stands alone. -/
theorem HR.alone {P : Program} {φ : Phi} {h : Hp} {w : World} (hR : HR P φ h w) {id id' nx : Pos} (hn : (h.next.num ≤ id.num ∧ id.num < nx.num ∧ ∀ g, φ id g = none) ∨ Nonro h id) (c : id' ≠ id) {g g' b s s' n n' : _}
    (k : φ id' g = some (b, s, n)) (k' : φ id g' = some (b, s', n')) : False := by
  rcases hn with ⟨_, _, q⟩ | q
  · rw [q] at k'; cases k'
  · rcases hR.sep _ _ _ _ _ _ _ _ _ k k' with e | e
    · exact c e
    · exact e.2 q

theorem HR.update {P : Program} {φ φ' : Phi} {h : Hp} {w w' : World} {id nx : Pos} {b : Option Blk} {ser : Nat} (hR : HR P φ h w) (u : Upd h w φ id nx w' φ')
    (hn : (h.next.num ≤ id.num ∧ id.num < nx.num ∧ ∀ g, φ id g = none) ∨ Nonro h id) (hb : ∀ x, b = some x → BR P φ' w' id x) : HR P φ' ⟨T.set id b h.heap, nx, ser, h.lim⟩ w' where
  blk := fun id' x e => by
    simp only [T.get_set] at e
    by_cases c : id' = id
    · subst c; rw [if_pos rfl] at e; exact hb x e
    · rw [if_neg c] at e
      refine BR.mono u.le (fun g r k => u.only id' g r c k) (fun g y s n k => ?_) (hR.blk id' x e)
      exact u.keep y (hR.inb _ _ _ _ _ k) fun g' s' n' k' => hR.alone hn c k k'
  used := fun id' g r e => by
    by_cases c : id' = id
    · subst c; exact u.lt
    · exact (hR.used id' g r (u.only id' g r c e)).mono u.nx
  dom := fun id' x e => by
    simp only [T.get_set] at e
    by_cases c : id' = id
    · subst c; exact u.lt
    · rw [if_neg c] at e; exact (hR.dom id' x e).mono u.nx
  sep := fun i g y s n i' g' s' n' e e' => by
    by_cases c : i = id
    · by_cases c' : i' = id
      · exact .inl (by rw [c, c'])
      · subst c
        have k' := u.only i' g' _ c' e'
        rcases u.new g y s n e with ⟨g₀, s₀, n₀, k⟩ | k
        · exact (hR.alone hn c' k' k).elim
        · have := hR.inb _ _ _ _ _ k'; omega
    · have k := u.only i g _ c e
      by_cases c' : i' = id
      · subst c'
        rcases u.new g' y s' n' e' with ⟨g₀, s₀, n₀, k'⟩ | k'
        · exact (hR.alone hn c k k').elim
        · have := hR.inb _ _ _ _ _ k; omega
      · have nr : ∀ {i : Pos}, i ≠ id → ¬ Nonro h i → ¬ Nonro ⟨T.set id b h.heap, nx, ser, h.lim⟩ i := fun {i} hi q ⟨b', e, q'⟩ => by
          simp only [T.get_set, if_neg hi] at e
          exact q ⟨b', e, q'⟩
        exact (hR.sep _ _ _ _ _ _ _ _ _ k (u.only i' g' _ c' e')).imp _root_.id fun q => ⟨nr c q.1, nr c' q.2⟩
  inb := fun i g y s n e => by
    by_cases c : i = id
    · subst c; exact u.inb g y s n e
    · exact Nat.lt_of_lt_of_le (hR.inb _ _ _ _ _ (u.only i g _ c e)) u.size
  glob := fun g hg => let ⟨n, e⟩ := hR.glob g hg; ⟨n, u.le _ _ _ e⟩

theorem Adv.update {P : Program} {φ φ' : Phi} {h : Hp} {w w' : World} {id nx : Pos} {b : Option Blk} {ser : Nat} (hR : HR P φ h w) (u : Upd h w φ id nx w' φ')
    (hn : (h.next.num ≤ id.num ∧ id.num < nx.num ∧ ∀ g, φ id g = none) ∨ Nonro h id) : Adv h w φ ⟨T.set id b h.heap, nx, ser, h.lim⟩ w' φ' where
  le := u.le
  os := u.os
  output := u.output
  tape := u.tape
  size := u.size
  next := u.nx
  new := fun i g y s n e hy => by
    by_cases c : i = id
    · subst c
      rcases u.new g y s n e with k | k
      · exact k
      · omega
    · exact ⟨g, s, n, u.only i g _ c e⟩
  old := fun i hi ⟨x, e, k⟩ => by
    simp only [T.get_set] at e
    by_cases c : i = id
    · subst c
      rcases hn with hn | hn
      · rcases hi with hi | hi
        · omega
        · have : nx.num ≤ i.num := hi
          omega
      · exact hn
    · rw [if_neg c] at e; exact ⟨x, e, k⟩
  keep := fun y hy k => by
    refine u.keep y hy fun g s n e => ?_
    rcases hn with hn | hn
    · rw [hn.2.2 g] at e; cases e
    · exact k id g s n e hn
  lim := rfl
  hid := fun i hi e => by
    simp only [T.get_set]
    by_cases c : i = id
    · subst c
      rcases hn with hn | ⟨y, e', _⟩
      · rcases hi with hi | hi
        · omega
        · have : nx.num ≤ i.num := hi
          omega
      · rw [e] at e'; cases e'
    · rw [if_neg c]; exact e
  same := fun i g r hi e k => by
    by_cases c : i = id
    · subst c
      rcases hn with hn | hn
      · rcases hi with hi | hi
        · omega
        · have : nx.num ≤ i.num := hi
          omega
      · exact absurd hn e
    · exact u.only i g r c k

def Phi.put (φ : Phi) (id : Pos) (g : Nat) (r : Nat × Int × Nat) : Phi := fun i j => if i = id ∧ j = g then some r else φ i j

theorem Phi.put_same (φ : Phi) (id : Pos) (g : Nat) (r : Nat × Int × Nat) : φ.put id g r id g = some r := by simp [Phi.put]
theorem Phi.put_id {φ : Phi} {id id' : Pos} (h : id' ≠ id) (g j : Nat) (r : Nat × Int × Nat) : φ.put id g r id' j = φ id' j := by simp [Phi.put, h]
theorem Phi.put_gen {φ : Phi} {id id' : Pos} {g j : Nat} (h : j ≠ g) (r : Nat × Int × Nat) : φ.put id g r id' j = φ id' j := by simp [Phi.put, h]
theorem Phi.le_put {φ : Phi} {id : Pos} {g : Nat} {r : Nat × Int × Nat} (h : φ id g = none) : Le φ (φ.put id g r) := by
  intro i j x e
  by_cases c : i = id ∧ j = g
  · obtain ⟨rfl, rfl⟩ := c; rw [h] at e; cases e
  · simp [Phi.put, c, e]

theorem alloc_new (w : World) (o : Obj) : (w.alloc o).heap[w.heap.size]? = some o := by
  unfold World.alloc; rw [Array.getElem?_push, if_pos rfl]
theorem alloc_old (w : World) (o : Obj) {b : Nat} (h : b < w.heap.size) : (w.alloc o).heap[b]? = w.heap[b]? := by
  unfold World.alloc; simp only [Array.getElem?_push]; rw [if_neg (by omega)]
theorem alloc_size (w : World) (o : Obj) : (w.alloc o).heap.size = w.heap.size + 1 := by unfold World.alloc; simp

theorem HR.next_none {P : Program} {φ : Phi} {h : Hp} {w : World} (hR : HR P φ h w) (hl : Room h) (g : Nat) : φ h.next g = none := by
  cases e : φ h.next g with
  | none => rfl
  | some r =>
    rcases hR.used _ _ _ e with k | ⟨k1, k2⟩
    · omega
    · rcases hl with hl | hl
      · exact absurd hl k1
      · omega

theorem Upd.alloc {P : Program} {φ : Phi} {h : Hp} {w : World} (hR : HR P φ h w) (hl : Room h) (o : Obj) (n : Nat) :
    Upd h w φ h.next h.next.succ (w.alloc o) (φ.put h.next 0 (w.heap.size, 0, n)) where
  le := Phi.le_put (hR.next_none hl 0)
  only := fun id' g r c e => by rwa [Phi.put_id c] at e
  new := fun g b s m e => by
    by_cases c : g = 0
    · subst c; rw [Phi.put_same] at e; cases e; exact .inr (Nat.le_refl _)
    · rw [Phi.put_gen c, hR.next_none hl] at e; cases e
  inb := fun g b s m e => by
    by_cases c : g = 0
    · subst c; rw [Phi.put_same] at e; cases e; rw [alloc_size]; omega
    · rw [Phi.put_gen c, hR.next_none hl] at e; cases e
  lt := .inl (by rw [Pos.num_succ]; omega)
  nx := by rw [Pos.num_succ]; omega
  size := by rw [alloc_size]; omega
  keep := fun b hb _ => alloc_old w o hb
  os := rfl
  output := rfl
  tape := rfl

def Phi.row (φ : Phi) (id : Pos) (ν : Nat → Option (Nat × Int × Nat)) : Phi := fun i j => if i = id then ν j else φ i j

theorem Phi.row_same (φ : Phi) (id : Pos) (ν : Nat → Option (Nat × Int × Nat)) (j : Nat) : φ.row id ν id j = ν j := by simp [Phi.row]
theorem Phi.row_id {φ : Phi} {id id' : Pos} (h : id' ≠ id) (ν : Nat → Option (Nat × Int × Nat)) (j : Nat) : φ.row id ν id' j = φ id' j := by simp [Phi.row, h]

theorem Upd.allocRow {P : Program} {φ : Phi} {h : Hp} {w : World} (hR : HR P φ h w) (hl : Room h) (o : Obj) (ν : Nat → Option (Nat × Int × Nat)) (hν : ∀ g r, ν g = some r → r.1 = w.heap.size) :
    Upd h w φ h.next h.next.succ (w.alloc o) (φ.row h.next ν) where
  le := fun i j x e => by
    have c : i ≠ h.next := fun q => by rw [q, hR.next_none hl] at e; cases e
    rw [Phi.row_id c]; exact e
  only := fun id' g r c e => by rwa [Phi.row_id c] at e
  new := fun g b s m e => by
    rw [Phi.row_same] at e
    exact .inr (by rw [← hν g _ e]; exact Nat.le_refl _)
  inb := fun g b s m e => by
    rw [Phi.row_same] at e
    have := hν g _ e
    rw [alloc_size]
    simp only at this
    omega
  lt := .inl (by rw [Pos.num_succ]; omega)
  nx := by rw [Pos.num_succ]; omega
  size := by rw [alloc_size]; omega
  keep := fun b hb _ => alloc_old w o hb
  os := rfl
  output := rfl
  tape := rfl

/-- A block's own change. -/
theorem Upd.same {P : Program} {φ : Phi} {h : Hp} {w w' : World} {id : Pos} {b : Blk} (hR : HR P φ h w) (hid : T.get id h.heap = some b) (hs : w'.heap.size = w.heap.size)
    (hk : ∀ y, y < w.heap.size → (∀ g s n, φ id g ≠ some (y, s, n)) → w'.heap[y]? = w.heap[y]?) (ho : w'.os = w.os) (hp : w'.output = w.output) (ht : w'.tape = w.tape) :
    Upd h w φ id h.next w' φ where
  le := Le.refl φ
  only := fun _ _ _ _ e => e
  new := fun g b s n e => .inl ⟨g, s, n, e⟩
  inb := fun g b s n e => by rw [hs]; exact hR.inb _ _ _ _ _ e
  lt := hR.dom _ _ hid
  nx := Nat.le_refl _
  size := by rw [hs]; exact Nat.le_refl _
  keep := hk
  os := ho
  output := hp
  tape := ht

end Go.Proofs.YtialpccieggaoaaGreatDoor.Am

namespace Go.Proofs.YtialpccieggaoaaGreatDoor.Am

/-- What a generation that may be seen says. -/
theorem seen {P : Program} {φ : Phi} {h : Hp} {w : World} (hR : HR P φ h w) {id : Pos} {ser lo hi g' m : Nat} {c : Cells} {ro fz : Bool}
    (hid : T.get id h.heap = some (.cells ser c lo hi g' m ro fz)) {g off k b : Nat} {s : Int} {n : Nat} (hφ : φ id g = some (b, s, n)) (hs : seeable c lo hi g' m g off k = true) :
    off + k ≤ c.size ∧ ∃ C el fr, w.heap[b]? = some (.cells C el fr) ∧ C.size = n ∧
      ∀ j, j < k → ∃ (o : Nat) (v : AV) (x : Value), (o : Int) = (off + j : Nat) + s ∧ c.toL[off + j]? = some v ∧ C[o]? = some x ∧ Rel φ v x := by
  obtain ⟨h1, h2, h3, h4, _, h5⟩ := (hR.blk _ _ hid).1
  unfold seeable at hs
  rw [Bool.and_eq_true] at hs
  obtain ⟨hlo, hs⟩ := hs
  have hlo := ble_iff.1 hlo
  by_cases e : g = g'
  · rw [beq_iff.2 e, cond_true] at hs
    have hs : off + k ≤ c.size := ble_iff.1 hs
    subst e
    obtain ⟨b', s', n', C, el, fr, e1, e2, e3, _, e5⟩ := h5 g h2 (Nat.le_refl _)
    rw [hφ] at e1; cases e1
    refine ⟨hs, C, el, fr, e2, e3, fun j hj => ?_⟩
    have hlt : off + j < c.toL.length := by rw [Cells.toL_length h1]; omega
    obtain ⟨o, x, f1, f2, f3⟩ := e5 (off + j) _ (by omega) (by rw [if_pos rfl]; omega) (List.getElem?_eq_getElem hlt)
    exact ⟨o, _, x, f1, List.getElem?_eq_getElem hlt, f2, f3⟩
  · rw [beq_false.2 e, cond_false, Bool.and_eq_true, Bool.and_eq_true] at hs
    obtain ⟨⟨hm, hg⟩, hs⟩ := hs
    have hm := ble_iff.1 hm
    have hg := blt_iff.1 hg
    have hs : off + k ≤ hi := ble_iff.1 hs
    have hh := h3 (by omega)
    obtain ⟨b', s', n', C, el, fr, e1, e2, e3, _, e5⟩ := h5 g hm (by omega)
    rw [hφ] at e1; cases e1
    refine ⟨by omega, C, el, fr, e2, e3, fun j hj => ?_⟩
    have hlt : off + j < c.toL.length := by rw [Cells.toL_length h1]; omega
    obtain ⟨o, x, f1, f2, f3⟩ := e5 (off + j) _ (by omega) (by rw [if_neg e]; omega) (List.getElem?_eq_getElem hlt)
    exact ⟨o, _, x, f1, List.getElem?_eq_getElem hlt, f2, f3⟩

theorem readN_run {P : Program} {φ : Phi} {h : Hp} {w : World} (hR : HR P φ h w) {id : Pos} {g off k b : Nat} {s : Int} {n : Nat} {c : Cells} {a : Addr}
    (hr : readN h id g off k = some c) (hφ : φ id g = some (b, s, n)) (hb : a.block = b) (hs : a.spot = none) (ho : 0 < k → (a.off : Int) = off + s) :
    ∃ xs : List Value, (loadCells a k).run P w = .ok xs.toArray w ∧ RelL φ c.toL xs ∧ c.wf ∧ c.size = k := by
  unfold readN at hr
  by_cases hk : k = 0
  · subst hk
    rw [beq_iff.2 rfl, cond_true] at hr
    cases hr
    exact ⟨[], run_loadCells_list w a [] (fun j v e => by simp at e), .nil, rfl, rfl⟩
  · rw [beq_false.2 hk, cond_false] at hr
    have ho := ho (by omega)
    split at hr
    · rename_i ser c' lo hi g' m ro fz hid
      cases hse : seeable c' lo hi g' m g off k with
      | false => rw [hse, cond_false] at hr; cases hr
      | true =>
        rw [hse, cond_true] at hr
        cases hr
        obtain ⟨hsz, C, el, fr, e2, e3, e5⟩ := seen hR hid hφ hse
        have hwf : c'.wf := (hR.blk _ _ hid).1.1
        obtain ⟨w1, t1, s1⟩ := Cells.sub_spec hwf hsz
        have hla : ∀ j, j < k → ∃ x, C[a.off + j]? = some x := fun j hj => by
          obtain ⟨o, v, x, f1, f2, f3, f4⟩ := e5 j hj
          have : o = a.off + j := by omega
          exact ⟨x, by rw [← this]; exact f3⟩
        have hlen : ((C.toList.drop a.off).take k).length = k := by
          rw [List.length_take, List.length_drop, Array.length_toList]
          have : a.off + k ≤ C.size := by
            obtain ⟨x, hx⟩ := hla (k - 1) (by omega)
            have := (Array.getElem?_eq_some_iff.1 hx).1
            omega
          omega
        refine ⟨(C.toList.drop a.off).take k, ?_, ?_, w1, s1⟩
        · have := run_loadCells_list (P := P) w a ((C.toList.drop a.off).take k) fun j v e => by
            rw [add_eq a hs, hb, cell_eq e2]
            have hj : j < k := by
              have := (List.getElem?_eq_some_iff.1 e).1; omega
            rw [List.getElem?_take_of_lt hj, List.getElem?_drop, Array.getElem?_toList] at e
            exact e
          rw [hlen] at this
          exact this
        · refine RelL.of_get (by rw [hlen, Cells.toL_length w1, s1]) fun i v x hv hx => ?_
          have hi : i < k := by have := (List.getElem?_eq_some_iff.1 hx).1; omega
          rw [t1, List.getElem?_take_of_lt hi, List.getElem?_drop] at hv
          rw [List.getElem?_take_of_lt hi, List.getElem?_drop, Array.getElem?_toList] at hx
          obtain ⟨o, v', x', f1, f2, f3, f4⟩ := e5 i hi
          have : o = a.off + i := by omega
          rw [this, hx] at f3
          rw [hv] at f2
          cases f2; cases f3; exact f4
    · cases hr

theorem read1_run {P : Program} {φ : Phi} {h : Hp} {w : World} (hR : HR P φ h w) {id : Pos} {g off b : Nat} {s : Int} {n : Nat} {v : AV} {a : Addr}
    (hr : read1 h id g off = some v) (hφ : φ id g = some (b, s, n)) (hb : a.block = b) (hs : a.spot = none) (ho : (a.off : Int) = off + s) :
    ∃ x, w.cell? a = some x ∧ Rel φ v x := by
  unfold read1 at hr
  split at hr
  · rename_i ser c' lo hi g' m ro fz hid
    cases hse : seeable c' lo hi g' m g off 1 with
    | false => rw [hse, cond_false] at hr; cases hr
    | true =>
      rw [hse, cond_true] at hr
      obtain ⟨hsz, C, el, fr, e2, e3, e5⟩ := seen hR hid hφ hse
      obtain ⟨o, v', x, f1, f2, f3, f4⟩ := e5 0 (by omega)
      have : o = a.off := by omega
      rw [Cells.get_eq (hR.blk _ _ hid).1.1] at hr
      rw [Nat.add_zero, hr] at f2
      cases f2
      refine ⟨x, ?_, f4⟩
      have e : a = ⟨a.block, a.off, none⟩ := by cases a; simp at hs ⊢; exact hs
      rw [e, hb, cell_eq e2, ← this]
      exact f3
  · cases hr

theorem atom_oneCell {φ : Phi} {v : AV} {x : Value} (h : Rel φ v x) (ha : v.atom = true) : x.oneCell' = true := by
  cases h <;> first | rfl | (simp [AV.atom] at ha; done) | (rename_i h; cases x <;> first | rfl | (cases h))

theorem atoms_oneCell {φ : Phi} {c : Cells} {xs : List Value} (hc : c.atoms = true) (h : RelL φ c.toL xs) : ∀ x ∈ xs, x.oneCell' = true := by
  intro x hx
  obtain ⟨i, hi⟩ := List.getElem?_of_mem hx
  have hl : i < c.toL.length := by rw [h.length]; exact (List.getElem?_eq_some_iff.1 hi).1
  obtain ⟨y, hy, hr⟩ := h.get (List.getElem?_eq_getElem hl)
  rw [hi] at hy; cases hy
  refine atom_oneCell hr ?_
  cases c with
  | lst n l => exact List.all_eq_true.1 hc _ (List.getElem_mem _)
  | byt n v =>
    have e : (Cells.byt n v).toL[i]? = some ((Cells.byt n v).toL[i]) := List.getElem?_eq_getElem hl
    simp only [Cells.toL, bytesL_eq, List.getElem?_map] at e
    cases hu : (unpack n v)[i]? with
    | none => rw [hu] at e; cases e
    | some u =>
      rw [hu] at e
      simp only [Option.map_some, Option.some.injEq] at e
      have : (Cells.byt n v).toL[i] = byteV u.toNat := by
        simp only [Cells.toL, bytesL_eq]; exact e.symm
      rw [this]; rfl

theorem thawed {fz : Bool} {C : Array Value} {fr : Nat × Nat} (h : Thawed fz C fr) : ∀ j, j < C.size → ¬ (fr.1 ≤ j ∧ j < fr.2) := by
  intro j hj
  unfold Thawed at h
  split at h
  · omega
  · subst h; simp

theorem TyR.put {P : Program} {φ : Phi} {w : World} {id : Pos} {note m g m' b : Nat} {C C' : Array Value} {el : TypeId} {fr fr' : Nat × Nat} (ty : TyR P φ w id note m g) (hm : m ≤ m') (hb : w.heap[b]? = some (.cells C el fr)) : TyR P φ (putRow w b C' el fr') id note m' g :=
  fun j b' s n C2 el2 fr2 a1 a2 k k' => by
    by_cases e : b' = b
    · subst e
      rw [putRow_heap_same (heap_lt hb)] at k'
      cases k'
      exact ty j b' s n C el fr (by omega) a2 k hb
    · rw [putRow_heap_ne e] at k'
      exact ty j b' s n C2 el2 fr2 (by omega) a2 k k'

/-- Cells are laid over a row. -/
theorem put_run {P : Program} {φ : Phi} {h : Hp} {w : World} (hR : HR P φ h w) {id : Pos} {ser lo hi g m : Nat} {c c₂ seg : Cells} {fz : Bool} {off b : Nat} {s : Int} {n : Nat} {a : Addr} {xs : List Value}
    (hid : T.get id h.heap = some (.cells ser c lo hi g m false fz)) (hφ : φ id g = some (b, s, n)) (hb : a.block = b) (hs : a.spot = none) (ho : (a.off : Int) = off + s)
    (hoff : off ≤ c.size) (hroom : a.off + xs.length ≤ n) (hxs : RelL φ seg.toL xs) (hone : ∀ x ∈ xs, x.oneCell' = true)
    (hw : c₂.wf) (hl : c₂.toL = c.toL.take off ++ (seg.toL ++ c.toL.drop (off + xs.length))) (m' : Nat) (hm' : m' = g ∨ (m' = m ∧ hi ≤ off)) (ser' : Nat) :
    ∃ w', (storeCells a xs).run P w = .ok () w' ∧ HR P φ ⟨T.set id (some (.cells ser c₂ lo hi g m' false fz)) h.heap, h.next, ser', h.lim⟩ w' ∧
      Adv h w φ ⟨T.set id (some (.cells ser c₂ lo hi g m' false fz)) h.heap, h.next, ser', h.lim⟩ w' φ := by
  obtain ⟨⟨h1, h2, h3, h4, h6, h5⟩, ty⟩ := hR.blk _ _ hid
  obtain ⟨b', s', n', C, el, fr, e1, e2, e3, e4, e5⟩ := h5 g h2 (Nat.le_refl _)
  rw [hφ] at e1; cases e1
  have hbw := heap_lt e2
  have hC : (spliceV C.toList a.off xs).length = C.size := by rw [spliceV_length (by simp; omega)]; simp
  have hlen2 : c₂.toL.length = max c.size (off + xs.length) := by
    rw [hl]; simp only [List.length_append, List.length_take, List.length_drop, Cells.toL_length h1, hxs.length]; omega
  have hsz2 : c₂.size = max c.size (off + xs.length) := by rw [← hlen2, Cells.toL_length hw]
  have hget2 : ∀ i : Nat, c₂.toL[i]? = if off ≤ i ∧ i < off + xs.length then seg.toL[i - off]? else c.toL[i]? := by
    intro i
    rw [hl]
    by_cases h1' : i < off
    · rw [List.getElem?_append_left (by simp [Cells.toL_length h1]; omega), List.getElem?_take_of_lt h1', if_neg (by omega)]
    · rw [List.getElem?_append_right (by simp [Cells.toL_length h1]; omega)]
      have hk : (c.toL.take off).length = off := by simp [Cells.toL_length h1]; omega
      rw [hk]
      by_cases h2' : i < off + xs.length
      · rw [List.getElem?_append_left (by rw [hxs.length]; omega), if_pos ⟨by omega, h2'⟩]
      · rw [List.getElem?_append_right (by rw [hxs.length]; omega), List.getElem?_drop, if_neg (by omega), hxs.length]
        congr 1; omega
  refine ⟨putRow w a.block (spliceV C.toList a.off xs).toArray el fr, ?_, ?_⟩
  · have := run_storeCells_g P a hs el fr xs 0 C w (by rw [hb]; exact e2) (thawed (e4 rfl)) (by omega) hone
    rwa [Nat.add_zero] at this
  subst hb
  have u : Upd h w φ id h.next (putRow w a.block (spliceV C.toList a.off xs).toArray el fr) φ :=
    Upd.same hR hid (by simp [putRow]) (fun y hy k => putRow_heap_ne (fun c => k g s n (by rw [c]; exact hφ)) _ _ _) rfl rfl rfl
  refine ⟨hR.update u (.inr ⟨_, hid, rfl⟩) fun x hx => ?_, Adv.update hR u (.inr ⟨_, hid, rfl⟩)⟩
  cases hx
  refine ⟨⟨hw, by omega, fun hmg => by have := h3 (by omega); omega, h4, fun j j' y p q p' q' k1 k2 k3 k4 => h6 j j' y p q p' q' (by omega) k2 (by omega) k4, fun j hj1 hj2 => ?_⟩, ty.put (by omega) e2⟩
  obtain ⟨b', s', n', C', el', fr', f1, f2, f3, f4, f5⟩ := h5 j (by omega) hj2
  by_cases hbb : b' = a.block
  · subst hbb
    have hss : s' = s := h6 j g _ _ _ _ _ (by omega) hj2 h2 (Nat.le_refl _) f1 hφ
    subst hss
    rw [e2] at f2; cases f2
    refine ⟨a.block, s', n', (spliceV C.toList a.off xs).toArray, el, fr, f1, putRow_heap_same hbw _ _ _, by simp [hC, f3], fun hr => ?_, fun i v hi1 hi2 hv => ?_⟩
    · have := f4 hr
      unfold Thawed at this ⊢
      simpa [hC] using this
    · rw [hget2] at hv
      by_cases hin : off ≤ i ∧ i < off + xs.length
      · rw [if_pos hin] at hv
        obtain ⟨x, hx1, hx2⟩ := hxs.get hv
        refine ⟨a.off + (i - off), x, by omega, ?_, hx2⟩
        rw [List.getElem?_toArray, spliceV_get (by simp; omega), if_pos ⟨by omega, by omega⟩, show a.off + (i - off) - a.off = i - off by omega, hx1]
      · rw [if_neg hin] at hv
        have hic : i < c.size := by
          have := (List.getElem?_eq_some_iff.1 hv).1
          rwa [Cells.toL_length h1] at this
        obtain ⟨o, x, g1, g2, g3⟩ := f5 i v hi1 (by split at hi2 <;> rename_i hjg <;> simp only [hjg, if_true, if_false] <;> omega) hv
        refine ⟨o, x, g1, ?_, g3⟩
        rw [List.getElem?_toArray, spliceV_get (by simp; omega), if_neg (by omega), Array.getElem?_toList, g2]
  · refine ⟨b', s', n', C', el', fr', f1, by rw [putRow_heap_ne hbb]; exact f2, f3, f4, fun i v hi1 hi2 hv => ?_⟩
    have hjg : j ≠ g := fun c => by subst c; rw [hφ] at f1; cases f1; exact hbb rfl
    rw [if_neg hjg] at hi2
    have hm2 : hi ≤ off := by rcases hm' with k | k <;> omega
    rw [hget2, if_neg (by omega)] at hv
    exact f5 i v hi1 (by rw [if_neg hjg]; exact hi2) hv

end Go.Proofs.YtialpccieggaoaaGreatDoor.Am

namespace Go.Proofs.YtialpccieggaoaaGreatDoor.Am

theorem newK_eq {β : Type} (h : Hp) (mk : Nat → Blk) (k : Pos → Hp → β) : newK h mk k = k h.next ⟨T.set h.next (some (mk h.ser)) h.heap, h.next.succ, Nat.succ h.ser, h.lim⟩ := by
  simp only [newK, T.setK_eq, natK_eq]

/-- A new row: its first cells are known. -/
theorem newCells_run {P : Program} {φ : Phi} {h : Hp} {w : World} (hR : HR P φ h w) (hl : Room h) {c : Cells} {xs spare : List Value} (hc : c.wf) (hxs : RelL φ c.toL xs) (el : TypeId) (fr : Nat × Nat) (fz : Bool)
    (hth : Thawed fz (xs ++ spare).toArray fr) (ser ser' : Nat) (hnote : NoteR P ser 0 (xs ++ spare).length el) :
    HR P (φ.put h.next 0 (w.heap.size, 0, (xs ++ spare).length)) ⟨T.set h.next (some (.cells ser c 0 0 0 0 false fz)) h.heap, h.next.succ, ser', h.lim⟩ (w.alloc (.cells (xs ++ spare).toArray el fr)) ∧
    Adv h w φ ⟨T.set h.next (some (.cells ser c 0 0 0 0 false fz)) h.heap, h.next.succ, ser', h.lim⟩ (w.alloc (.cells (xs ++ spare).toArray el fr)) (φ.put h.next 0 (w.heap.size, 0, (xs ++ spare).length)) := by
  have u := Upd.alloc hR hl (.cells (xs ++ spare).toArray el fr) (xs ++ spare).length
  refine ⟨hR.update u (.inl ⟨Nat.le_refl _, by rw [Pos.num_succ]; omega, hR.next_none hl⟩) fun x hx => ?_, Adv.update hR u (.inl ⟨Nat.le_refl _, by rw [Pos.num_succ]; omega, hR.next_none hl⟩)⟩
  cases hx
  refine ⟨⟨hc, Nat.le_refl _, fun k => by omega, fun j hj => ?_, fun j j' b s n s' n' a1 a2 a3 a4 k k' => ?_, fun j hj1 hj2 => ?_⟩, fun j b s n C el' fr' a1 a2 k k' => ?_⟩
  rotate_left 3
  · have e : j = 0 := by omega
    subst e
    rw [Phi.put_same] at k
    cases k
    rw [alloc_new] at k'
    cases k'
    exact hnote
  · rw [Phi.put_gen (by omega)]; exact hR.next_none hl j
  · have e : j = 0 := by omega
    have e' : j' = 0 := by omega
    subst e; subst e'; rw [k] at k'; cases k'; rfl
  · have e : j = 0 := by omega
    subst e
    refine ⟨w.heap.size, 0, _, _, el, fr, Phi.put_same _ _ _ _, alloc_new _ _, by simp, fun _ => hth, fun i v _ hi hv => ?_⟩
    obtain ⟨x, hx1, hx2⟩ := hxs.get hv
    refine ⟨i, x, by omega, ?_, hx2.mono u.le⟩
    rw [List.getElem?_toArray, List.getElem?_append_left (List.getElem?_eq_some_iff.1 hx1).1, hx1]

theorem Upd.gen {P : Program} {φ : Phi} {h : Hp} {w : World} (hR : HR P φ h w) {id : Pos} {b : Blk} (hid : T.get id h.heap = some b) {g : Nat} (hg : φ id (g + 1) = none)
    {y : Nat} {s : Int} {n : Nat} {w' : World} (hy : (∃ g₀ s₀ n₀, φ id g₀ = some (y, s₀, n₀)) ∨ w.heap.size ≤ y) (hin : y < w'.heap.size)
    (hs : w.heap.size ≤ w'.heap.size) (hk : ∀ y, y < w.heap.size → (∀ g s n, φ id g ≠ some (y, s, n)) → w'.heap[y]? = w.heap[y]?) (ho : w'.os = w.os) (hp : w'.output = w.output) (ht : w'.tape = w.tape) :
    Upd h w φ id h.next w' (φ.put id (g + 1) (y, s, n)) where
  le := Phi.le_put hg
  only := fun id' j r c e => by rwa [Phi.put_id c] at e
  new := fun j b s' n' e => by
    by_cases c : j = g + 1
    · subst c; rw [Phi.put_same] at e; cases e; exact hy
    · rw [Phi.put_gen c] at e; exact .inl ⟨_, _, _, e⟩
  inb := fun j b s' n' e => by
    by_cases c : j = g + 1
    · subst c; rw [Phi.put_same] at e; cases e; exact hin
    · rw [Phi.put_gen c] at e; exact Nat.lt_of_lt_of_le (hR.inb _ _ _ _ _ e) hs
  lt := hR.dom _ _ hid
  nx := Nat.le_refl _
  size := hs
  keep := hk
  os := ho
  output := hp
  tape := ht

section regen
variable {P : Program} {φ : Phi} {h : Hp} {w : World} {id : Pos} {ser lo hi g m : Nat} {c seg : Cells} {fz : Bool} {off top b : Nat} {s : Int} {n : Nat} {a : Addr} {xs : List Value}

/-- The next generation's cells. -/
noncomputable def regenC (c seg : Cells) (top : Nat) : Cells := (c.sub 0 top).app seg

theorem regenC_spec (h1 : c.wf) (hw : seg.wf) (ht : top ≤ c.size) :
    (regenC c seg top).wf ∧ (regenC c seg top).size = top + seg.size ∧ (∀ i : Nat, i < top → (regenC c seg top).toL[i]? = c.toL[i]?) ∧ ∀ i : Nat, top ≤ i → (regenC c seg top).toL[i]? = seg.toL[i - top]? := by
  obtain ⟨w1, t1, s1⟩ := Cells.sub_spec h1 (off := 0) (n := top) (by omega)
  obtain ⟨w2, t2, s2⟩ := Cells.app_spec w1 hw
  have hl : (c.sub 0 top).toL.length = top := by rw [Cells.toL_length w1, s1]
  refine ⟨w2, by show (Cells.app _ _).size = _; rw [s2, s1], fun i hi => ?_, fun i hi => ?_⟩
  · show (Cells.app _ _).toL[i]? = _
    rw [t2, List.getElem?_append_left (by omega), t1, List.getElem?_take_of_lt hi, List.drop_zero]
  · show (Cells.app _ _).toL[i]? = _
    rw [t2, List.getElem?_append_right (by omega), hl]

/-- Appended in place. -/
theorem regen_same (hR : HR P φ h w) (hid : T.get id h.heap = some (.cells ser c lo hi g m false fz)) {q : Nat} (hqm : m ≤ q) (hqg : q ≤ g) (hqt : top ≤ if q = g then c.size else hi) (hφ : φ id q = some (b, s, n)) (hb : a.block = b) (hs : a.spot = none) (ho : (a.off : Int) = top + s)
    (hlo : lo ≤ off) (hot : off ≤ top) (htop : top ≤ c.size) (hroom : a.off + xs.length ≤ n) (hxs : RelL φ seg.toL xs) (hone : ∀ x ∈ xs, x.oneCell' = true) (hw : seg.wf)
    {m2 : Nat} (hm2 : m ≤ m2) (hm3 : m2 ≤ g) (hi' : Nat) (hhi : hi' ≤ top) (hhi2 : m2 < g → hi' ≤ hi) (ser' : Nat) (note : Nat) (hnote : note = 0 ∨ note = ser) :
    ∃ w', (storeCells a xs).run P w = .ok () w' ∧ HR P (φ.put id (g + 1) (b, s, n)) ⟨T.set id (some (.cells note (regenC c seg top) off hi' (g + 1) m2 false fz)) h.heap, h.next, ser', h.lim⟩ w' ∧
      Adv h w φ ⟨T.set id (some (.cells note (regenC c seg top) off hi' (g + 1) m2 false fz)) h.heap, h.next, ser', h.lim⟩ w' (φ.put id (g + 1) (b, s, n)) := by
  obtain ⟨⟨h1, h2, h3, h4, h6, h5⟩, ty⟩ := hR.blk _ _ hid
  obtain ⟨b', s', n', C, el, fr, e1, e2, e3, e4, e5⟩ := h5 q hqm hqg
  rw [hφ] at e1; cases e1
  have hbw := heap_lt e2
  have hC : (spliceV C.toList a.off xs).length = C.size := by rw [spliceV_length (by simp; omega)]; simp
  obtain ⟨r1, r2, r3, r4⟩ := regenC_spec h1 hw htop
  have hsl : seg.size = xs.length := by rw [← Cells.toL_length hw, hxs.length]
  refine ⟨putRow w a.block (spliceV C.toList a.off xs).toArray el fr, ?_, ?_⟩
  · have := run_storeCells_g P a hs el fr xs 0 C w (by rw [hb]; exact e2) (thawed (e4 rfl)) (by omega) hone
    rwa [Nat.add_zero] at this
  subst hb
  have u : Upd h w φ id h.next (putRow w a.block (spliceV C.toList a.off xs).toArray el fr) (φ.put id (g + 1) (a.block, s, n)) :=
    Upd.gen hR hid (h4 _ (by omega)) (.inl ⟨q, s, n, hφ⟩) (by simp [putRow]; exact hbw) (by simp [putRow]) (fun y hy k => putRow_heap_ne (fun c => k q s n (by rw [c]; exact hφ)) _ _ _) rfl rfl rfl
  refine ⟨hR.update u (.inr ⟨_, hid, rfl⟩) fun x hx => ?_, Adv.update hR u (.inr ⟨_, hid, rfl⟩)⟩
  cases hx
  have old : ∀ j, j ≤ g → (φ.put id (g + 1) (a.block, s, n)) id j = φ id j := fun j hj => Phi.put_gen (by omega) _
  refine ⟨⟨r1, by omega, fun _ => by omega, fun j hj => by rw [Phi.put_gen (by omega)]; exact h4 j (by omega), fun j j' y p _ p' _ k1 k2 k3 k4 k5 k6 => (fun k1 k3 => ?_) (Nat.le_trans hm2 k1) (Nat.le_trans hm2 k3), fun j hj0 hj2 => (fun hj1 => ?_) (Nat.le_trans hm2 hj0)⟩, fun j b2 s2 n2 C2 el2 fr2 k1 k2 k3 k4 => (fun k1 => ?_) (Nat.le_trans hm2 k1)⟩
  rotate_left 2
  · rcases hnote with hn | hn
    · exact .inl hn
    · subst hn
      by_cases c1 : j = g + 1
      · subst c1
        rw [Phi.put_same] at k3
        cases k3
        rw [putRow_heap_same hbw] at k4
        cases k4
        exact ty q _ _ _ _ _ _ hqm hqg hφ e2
      · rw [old j (by omega)] at k3
        by_cases hbb : b2 = a.block
        · subst hbb
          rw [putRow_heap_same hbw] at k4
          cases k4
          exact ty j _ _ _ _ _ _ k1 (by omega) k3 e2
        · rw [putRow_heap_ne hbb] at k4
          exact ty j _ _ _ _ _ _ k1 (by omega) k3 k4
  · by_cases c1 : j = g + 1
    · subst c1; rw [Phi.put_same] at k5; cases k5
      by_cases c2 : j' = g + 1
      · subst c2; rw [Phi.put_same] at k6; cases k6; rfl
      · rw [old j' (by omega)] at k6
        exact h6 q j' _ _ _ _ _ hqm hqg k3 (by omega) hφ k6
    · rw [old j (by omega)] at k5
      by_cases c2 : j' = g + 1
      · subst c2; rw [Phi.put_same] at k6; cases k6
        exact h6 j q _ _ _ _ _ k1 (by omega) hqm hqg k5 hφ
      · rw [old j' (by omega)] at k6
        exact h6 j j' _ _ _ _ _ k1 (by omega) k3 (by omega) k5 k6
  · have same : ∀ i : Nat, ∀ v, lo ≤ i → i < top → c.toL[i]? = some v → ∃ (o : Nat) (x : Value), (o : Int) = i + s ∧ (spliceV C.toList a.off xs).toArray[o]? = some x ∧ Rel φ v x := by
      intro i v k1 k2 hv
      obtain ⟨o, x, g1, g2, g3⟩ := e5 i v k1 (Nat.lt_of_lt_of_le k2 hqt) hv
      refine ⟨o, x, g1, ?_, g3⟩
      rw [List.getElem?_toArray, spliceV_get (by simp; omega), if_neg (by omega), Array.getElem?_toList, g2]
    have hth : Thawed fz (spliceV C.toList a.off xs).toArray fr := by
      have := e4 rfl
      unfold Thawed at this ⊢
      simpa [hC] using this
    by_cases c1 : j = g + 1
    · subst c1
      refine ⟨a.block, s, n, _, el, fr, Phi.put_same _ _ _ _, putRow_heap_same hbw _ _ _, by simp [hC, e3], fun _ => hth, fun i v k1 k2 hv => ?_⟩
      by_cases hit : i < top
      · rw [r3 i hit] at hv
        obtain ⟨o, x, g1, g2, g3⟩ := same i v (by omega) hit hv
        exact ⟨o, x, g1, g2, g3.mono u.le⟩
      · rw [r4 i (by omega)] at hv
        obtain ⟨x, hx1, hx2⟩ := hxs.get hv
        have hlt := (List.getElem?_eq_some_iff.1 hx1).1
        refine ⟨a.off + (i - top), x, by omega, ?_, hx2.mono u.le⟩
        rw [List.getElem?_toArray, spliceV_get (by simp; omega), if_pos ⟨by omega, by omega⟩, show a.off + (i - top) - a.off = i - top by omega, hx1]
    · obtain ⟨b', s', n', C', el', fr', f1, f2, f3, f4, f5⟩ := h5 j hj1 (by omega)
      have hbnd : ∀ i, i < hi' → i < (if j = g then c.size else hi) := fun i k => by
        by_cases cj : j = g
        · rw [if_pos cj]; omega
        · rw [if_neg cj]; have := hhi2 (by omega); omega
      by_cases hbb : b' = a.block
      · subst hbb
        have hss : s' = s := h6 j q _ _ _ _ _ hj1 (by omega) hqm hqg f1 hφ
        subst hss
        rw [e2] at f2; cases f2
        refine ⟨a.block, s', n', _, el, fr, by rw [old j (by omega)]; exact f1, putRow_heap_same hbw _ _ _, by simp [hC, f3], fun _ => hth, fun i v k1 k2 hv => ?_⟩
        rw [if_neg c1] at k2
        rw [r3 i (by omega)] at hv
        obtain ⟨o, x, g1, g2, g3⟩ := same i v (by omega) (by omega) hv
        exact ⟨o, x, g1, g2, g3.mono u.le⟩
      · refine ⟨b', s', n', C', el', fr', by rw [old j (by omega)]; exact f1, by rw [putRow_heap_ne hbb]; exact f2, f3, f4, fun i v k1 k2 hv => ?_⟩
        rw [if_neg c1] at k2
        rw [r3 i (by omega)] at hv
        obtain ⟨o, x, g1, g2, g3⟩ := f5 i v (by omega) (hbnd i k2) hv
        exact ⟨o, x, g1, g2, g3.mono u.le⟩

/-- Appended in a new row. -/
theorem regen_new (hR : HR P φ h w) (hid : T.get id h.heap = some (.cells ser c lo hi g m false fz)) 
    (hlo : lo ≤ off) (hot : off ≤ top) (htop : top ≤ c.size) {old spare : List Value} (hold : RelL φ ((c.toL.drop off).take (top - off)) old) (hxs : RelL φ seg.toL xs) (hw : seg.wf)
    {m2 : Nat} (hm2 : m ≤ m2) (hm3 : m2 ≤ g) (hi' : Nat) (hhi : hi' ≤ top) (hhi2 : m2 < g → hi' ≤ hi) (ser' : Nat) (el : TypeId) (note : Nat) (hnote : note = 0 ∨ (note = 1 ∧ ser = 1 ∧ P.underlying el = some (.int .u8) ∧ P.cellsOf el = 1)) :
    HR P (φ.put id (g + 1) (w.heap.size, -(off : Int), (old ++ xs ++ spare).length)) ⟨T.set id (some (.cells note (regenC c seg top) off hi' (g + 1) m2 false fz)) h.heap, h.next, ser', h.lim⟩
        (w.alloc (.cells (old ++ xs ++ spare).toArray el (0, 0))) ∧
      Adv h w φ ⟨T.set id (some (.cells note (regenC c seg top) off hi' (g + 1) m2 false fz)) h.heap, h.next, ser', h.lim⟩ (w.alloc (.cells (old ++ xs ++ spare).toArray el (0, 0)))
        (φ.put id (g + 1) (w.heap.size, -(off : Int), (old ++ xs ++ spare).length)) := by
  obtain ⟨⟨h1, h2, h3, h4, h6, h5⟩, ty⟩ := hR.blk _ _ hid
  obtain ⟨r1, r2, r3, r4⟩ := regenC_spec h1 hw htop
  have hol : old.length = top - off := by rw [← hold.length]; simp [Cells.toL_length h1]; omega
  have hsl : seg.size = xs.length := by rw [← Cells.toL_length hw, hxs.length]
  have u : Upd h w φ id h.next (w.alloc (.cells (old ++ xs ++ spare).toArray el (0, 0))) (φ.put id (g + 1) (w.heap.size, -(off : Int), (old ++ xs ++ spare).length)) :=
    Upd.gen hR hid (h4 _ (by omega)) (.inr (Nat.le_refl _)) (by rw [alloc_size]; omega) (by rw [alloc_size]; omega) (fun y hy _ => alloc_old _ _ hy) rfl rfl rfl
  refine ⟨hR.update u (.inr ⟨_, hid, rfl⟩) fun x hx => ?_, Adv.update hR u (.inr ⟨_, hid, rfl⟩)⟩
  cases hx
  have keepj : ∀ j, j ≤ g → (φ.put id (g + 1) (w.heap.size, -(off : Int), (old ++ xs ++ spare).length)) id j = φ id j := fun j hj => Phi.put_gen (by omega) _
  refine ⟨⟨r1, by omega, fun _ => by omega, fun j hj => by rw [Phi.put_gen (by omega)]; exact h4 j (by omega), fun j j' y p q p' q' k1 k2 k3 k4 k5 k6 => (fun k1 k3 => ?_) (Nat.le_trans hm2 k1) (Nat.le_trans hm2 k3), fun j hj0 hj2 => (fun hj1 => ?_) (Nat.le_trans hm2 hj0)⟩, fun j b2 s2 n2 C2 el2 fr2 k1 k2 k3 k4 => (fun k1 => ?_) (Nat.le_trans hm2 k1)⟩
  rotate_left 2
  · rcases hnote with q | ⟨q1, q2, q3, q4⟩
    · exact .inl q
    · subst q1 q2
      by_cases c1 : j = g + 1
      · subst c1
        rw [Phi.put_same] at k3
        cases k3
        rw [alloc_new] at k4
        cases k4
        exact .inr (.inl ⟨rfl, q3, q4⟩)
      · rw [keepj j (by omega)] at k3
        rw [alloc_old _ _ (hR.inb _ _ _ _ _ k3)] at k4
        exact ty j _ _ _ _ _ _ k1 (by omega) k3 k4
  · by_cases c1 : j = g + 1
    · subst c1; rw [Phi.put_same] at k5; cases k5
      by_cases c2 : j' = g + 1
      · subst c2; rw [Phi.put_same] at k6; cases k6; rfl
      · rw [keepj j' (by omega)] at k6
        have := hR.inb _ _ _ _ _ k6; omega
    · rw [keepj j (by omega)] at k5
      by_cases c2 : j' = g + 1
      · subst c2; rw [Phi.put_same] at k6; cases k6
        have := hR.inb _ _ _ _ _ k5; omega
      · rw [keepj j' (by omega)] at k6
        exact h6 j j' _ _ _ _ _ k1 (by omega) k3 (by omega) k5 k6
  · by_cases c1 : j = g + 1
    · subst c1
      refine ⟨w.heap.size, -(off : Int), _, _, el, (0, 0), Phi.put_same _ _ _ _, alloc_new _ _, by simp, fun _ => ?_, fun i v k1 k2 hv => ?_⟩
      · unfold Thawed; split
        · exact .inr (Nat.le_refl _)
        · rfl
      · by_cases hit : i < top
        · rw [r3 i hit] at hv
          have hv' : ((c.toL.drop off).take (top - off))[i - off]? = some v := by
            rw [List.getElem?_take_of_lt (by omega), List.getElem?_drop, show off + (i - off) = i by omega]; exact hv
          obtain ⟨x, hx1, hx2⟩ := hold.get hv'
          refine ⟨i - off, x, by omega, ?_, hx2.mono u.le⟩
          rw [List.getElem?_toArray, List.append_assoc, List.getElem?_append_left (List.getElem?_eq_some_iff.1 hx1).1, hx1]
        · rw [r4 i (by omega)] at hv
          obtain ⟨x, hx1, hx2⟩ := hxs.get hv
          have hlt := (List.getElem?_eq_some_iff.1 hx1).1
          refine ⟨i - off, x, by omega, ?_, hx2.mono u.le⟩
          rw [List.getElem?_toArray, List.append_assoc, List.getElem?_append_right (by omega), List.getElem?_append_left (by omega), hol, show i - off - (top - off) = i - top by omega, hx1]
    · obtain ⟨b', s', n', C', el', fr', f1, f2, f3, f4, f5⟩ := h5 j hj1 (by omega)
      have hbnd : ∀ i, i < hi' → i < (if j = g then c.size else hi) := fun i k => by
        by_cases cj : j = g
        · rw [if_pos cj]; omega
        · rw [if_neg cj]; have := hhi2 (by omega); omega
      refine ⟨b', s', n', C', el', fr', by rw [keepj j (by omega)]; exact f1, by rw [alloc_old _ _ (hR.inb _ _ _ _ _ f1)]; exact f2, f3, f4, fun i v k1 k2 hv => ?_⟩
      rw [if_neg c1] at k2
      rw [r3 i (by omega)] at hv
      obtain ⟨o, x, g1, g2, g3⟩ := f5 i v (by omega) (hbnd i k2) hv
      exact ⟨o, x, g1, g2, g3.mono u.le⟩
end regen

end Go.Proofs.YtialpccieggaoaaGreatDoor.Am
