/- Words that are kept from unfolding. · An abstract machine for walks: its values, and what it is for a value, a cell, a block of memory to be told by them. · The abstract machine's operations: what each does to the abstract state. -/
import Derived.Orders
import Derived.Below
section
set_option linter.all false
namespace Go.Am
universe u
inductive Lk | a | b
theorem lk_ne : Nonempty Lk := ⟨.a⟩
/-- f itself; what is worked out stops here. -/
@[reducible] noncomputable def opq {α : Sort u} (f : α) : α := @Lk.rec (fun _ => α) f f (Classical.choice lk_ne)
theorem opq_eq {α : Sort u} (f : α) : opq f = f := by unfold opq; cases Classical.choice lk_ne <;> rfl
end Go.Am
end
section
set_option linter.all false
namespace Go.Am

abbrev Bs := Nat → Prop
def nob (F : Bs) : Prop := ∀ x, ¬ F x

/-- Abstract values. 'slc o sz n g': a slice of n elements of sz cells, told by g; o: nobody else holds its memory. 'sl': a slice into an object of the state; 'ptr': a pointer into one; 'pfro': a pointer to cells that nobody writes. -/
inductive A where
  | any
  | val (v : Value)
  | emp
  | slc (o : Bool) (sz n : Nat) (g : Nat → List A)
  | sl (id off n : Nat)
  | ptr (id i j : Nat)
  | pfro (l : List A)
  | agg (l : List A)
  | tup (l : List A)
  | fn (f : Fn) (cap : List A)

instance : Inhabited A := ⟨.any⟩

/-- The cells of n elements of sz cells, from 'off' on in block b, are 'vs'. -/
def Row (w : World) (b off sz n : Nat) (vs : Nat → List Value) : Prop :=
  ∀ i, i < n → (vs i).length = sz ∧ ∀ j, j < sz → w.cell? ⟨b, off + i * sz + j, none⟩ = (vs i)[j]?

/-- Block b has cells up to off + k that may be written. -/
def Blk (w : World) (b off k : Nat) : Prop := ∃ cs E, w.heap[b]? = some (.cells cs E (0, 0)) ∧ off + k ≤ cs.size

mutual
/-- A cell that stands for itself: v is told by a; F: the blocks that it owns; N: the blocks that what is only read keeps off. -/
inductive K (w : World) (N : Bs) : A → Value → Bs → Prop
  | any {v F} : v.oneCell' = true → nob F → K w N .any v F
  | val {v F} : v.oneCell' = true → nob F → K w N (.val v) v F
  | emp {a F} : nob F → K w N .emp (.slice a 0 0) F
  | fro0 {sz g a c F} : nob F → K w N (.slc false sz 0 g) (.slice a 0 c) F
  | fro {sz n g b off c vs F} : nob F → ¬ N b → b < w.heap.size → n ≤ c → Row w b off sz n vs → (∀ i, i < n → Ks w N (g i) (vs i) F) →
      K w N (.slc false sz n g) (.slice (some ⟨b, off, none⟩) n c) F
  | own0 {sz g a F} : nob F → K w N (.slc true sz 0 g) (.slice a 0 0) F
  | own {sz n g b off c vs F} {Fi : Nat → Bs} : Blk w b off (c * sz) → n ≤ c → Row w b off sz n vs → (∀ i, i < n → Ks w N (g i) (vs i) (Fi i)) →
      (∀ i, i < n → ¬ Fi i b) → (∀ i, i < n → ∀ j, j < n → i ≠ j → ∀ x, Fi i x → ¬ Fi j x) → (∀ x, F x ↔ x = b ∨ ∃ i, i < n ∧ Fi i x) →
      K w N (.slc true sz n g) (.slice (some ⟨b, off, none⟩) n c) F
inductive Ks (w : World) (N : Bs) : List A → List Value → Bs → Prop
  | nil {F} : nob F → Ks w N [] [] F
  | cons {a v l vs F F1 F2} : K w N a v F1 → Ks w N l vs F2 → (∀ x, F1 x → ¬ F2 x) → (∀ x, F x ↔ F1 x ∨ F2 x) → Ks w N (a :: l) (v :: vs) F
end

/-- Where an object lies: block, first cell, capacity in elements, an element's cells; 'nul': nowhere, it has no capacity. -/
structure Loc where
  b : Nat
  off : Nat
  cap : Nat
  sz : Nat
  nul : Bool

mutual
/-- A value in a slot. -/
inductive V (w : World) (N : Bs) (β : Nat → Option Loc) : A → Value → Prop
  | any {v} : V w N β .any v
  | clo {a v F} : K w N a v F → nob F → V w N β a v
  | sl {id off n L a c} : β id = some L → off + c ≤ L.cap → n ≤ c → (c = 0 ∨ (L.nul = false ∧ a = some ⟨L.b, L.off + off * L.sz, none⟩)) → V w N β (.sl id off n) (.slice a n c)
  | ptr {id i j L} : β id = some L → L.nul = false → V w N β (.ptr id i j) (.pointer (some ⟨L.b, L.off + i * L.sz + j, none⟩))
  | pfro {l b off vs F} : nob F → ¬ N b → b < w.heap.size → Ks w N l vs F → (∀ j, j < l.length → w.cell? ⟨b, off + j, none⟩ = vs[j]?) → V w N β (.pfro l) (.pointer (some ⟨b, off, none⟩))
  | agg {l} {cs : Array Value} : Vs w N β l cs.toList → V w N β (.agg l) (.agg cs)
  | tup {l} {cs : Array Value} : Vs w N β l cs.toList → V w N β (.tup l) (.tuple cs)
  | fn {f l} {cs : Array Value} : Vs w N β l cs.toList → V w N β (.fn f l) (.func f #[] cs)
inductive Vs (w : World) (N : Bs) (β : Nat → Option Loc) : List A → List Value → Prop
  | nil : Vs w N β [] []
  | cons {a v l vs} : V w N β a v → Vs w N β l vs → Vs w N β (a :: l) (v :: vs)
end

/-- A cell of an object. -/
def Cl (w : World) (N : Bs) (β : Nat → Option Loc) (a : A) (v : Value) (F : Bs) : Prop :=
  K w N a v F ∨ (nob F ∧ V w N β a v ∧ v.oneCell' = true)

inductive Cs (w : World) (N : Bs) (β : Nat → Option Loc) : List A → List Value → Bs → Prop
  | nil {F} : nob F → Cs w N β [] [] F
  | cons {a v l vs F F1 F2} : Cl w N β a v F1 → Cs w N β l vs F2 → (∀ x, F1 x → ¬ F2 x) → (∀ x, F x ↔ F1 x ∨ F2 x) → Cs w N β (a :: l) (v :: vs) F

/-- An object: n elements of sz cells. -/
structure Ob where
  sz : Nat
  n : Nat
  g : Nat → List A

def OR (w : World) (N : Bs) (β : Nat → Option Loc) (L : Loc) (ob : Ob) (F : Bs) : Prop :=
  L.sz = ob.sz ∧ ob.n ≤ L.cap ∧
  ((L.nul = true ∧ L.cap = 0 ∧ nob F) ∨
   (L.nul = false ∧ ∃ (vs : Nat → List Value) (Fi : Nat → Bs), Blk w L.b L.off (L.cap * L.sz) ∧ Row w L.b L.off ob.sz ob.n vs ∧
      (∀ i, i < ob.n → Cs w N β (ob.g i) (vs i) (Fi i)) ∧ (∀ i, i < ob.n → ¬ Fi i L.b) ∧
      (∀ i, i < ob.n → ∀ j, j < ob.n → i ≠ j → ∀ x, Fi i x → ¬ Fi j x) ∧ (∀ x, F x ↔ x = L.b ∨ ∃ i, i < ob.n ∧ Fi i x)))

/-- The state: slots, objects, which blocks of numbers (64 each) were given out, and which objects are only read for now. -/
structure St where
  env : Nat → A
  H : Nat → Option Ob
  D : Nat → Bool
  R : Nat → Bool

/-- What a call begins with: the world, the blocks of the given objects, the blocks that others own, and where the given objects lie (numbers below 10); 'wt': blocks that are watched: they stay as in w1. -/
structure Ctx where
  w0 : World
  F0 : Bs
  N0 : Bs
  β0 : Nat → Option Loc
  nt : Nat
  w1 : World
  wt : Bs

/-- What was there when the call began, and is not of the given objects, is as it was. -/
structure Fr (F0 : Bs) (w0 w : World) : Prop where
  os : w.os = w0.os
  tape : w.tape = w0.tape
  output : w.output = w0.output
  size : w0.heap.size ≤ w.heap.size
  block : ∀ b, b < w0.heap.size → ¬ F0 b → w.heap[b]? = w0.heap[b]?

def Ow (N0 : Bs) (φ : Nat → Bs) : Bs := fun x => N0 x ∨ ∃ i, φ i x

structure Rel (c : Ctx) (s : St) (β : Nat → Option Loc) (φ : Nat → Bs) (w : World) : Prop where
  fr : Fr c.F0 c.w0 w
  given : ∀ id, id < 10 → β id = c.β0 id
  fresh : ∀ q, s.D q = false → ∀ id, id / 64 = q → β id = none
  obj : ∀ id ob, s.H id = some ob → ∃ L, β id = some L ∧ OR w (Ow c.N0 φ) β L ob (φ id)
  dead : ∀ id, s.H id = none → nob (φ id)
  dis : ∀ i j, i ≠ j → ∀ x, φ i x → ¬ φ j x
  sub : ∀ i x, φ i x → c.F0 x ∨ c.w0.heap.size ≤ x
  n0 : ∀ i x, φ i x → ¬ c.N0 x
  lt : ∀ i x, φ i x → x < w.heap.size
  n0lt : ∀ x, c.N0 x → x < c.w0.heap.size
  f0lt : ∀ x, c.F0 x → x < c.w0.heap.size
  f0n0 : ∀ x, c.F0 x → ¬ c.N0 x
  watch : ∀ x, c.wt x → w.heap[x]? = c.w1.heap[x]?
  wlt : ∀ x, c.wt x → x < w.heap.size
  wsep : ∀ i, s.R i = false → ∀ x, φ i x → ¬ c.wt x

def Env (s : St) (N : Bs) (β : Nat → Option Loc) (a : Act) (w : World) : Prop := ∀ t, V w N β (s.env t) (a.tmps.getD t undef)

/-- The abstract state tells the machine's. -/
def Tells (c : Ctx) (s : St) (a : Act) (w : World) : Prop :=
  ∃ β φ, Rel c s β φ w ∧ Env s (Ow c.N0 φ) β a w ∧ a.defers = [] ∧ a.tmps.size = c.nt

/-! ### stability -/

mutual
theorem K.mono {w w' : World} {N N' : Bs} (hs : w.heap.size ≤ w'.heap.size) (hn : ∀ b, b < w.heap.size → ¬ N b → w'.heap[b]? = w.heap[b]? ∧ ¬ N' b) :
    ∀ {a v F}, K w N a v F → (∀ x, F x → w'.heap[x]? = w.heap[x]?) → K w' N' a v F
  | _, _, _, .any h0 h, _ => .any h0 h
  | _, _, _, .val h0 h, _ => .val h0 h
  | _, _, _, .emp h, _ => .emp h
  | _, _, _, .fro0 h, _ => .fro0 h
  | _, _, _, .fro (b := b) (F := F) h0 h1 h2 h3 h4 h5, _ => by
    have hb := hn b h2 h1
    refine .fro h0 hb.2 (Nat.lt_of_lt_of_le h2 hs) h3 (fun i hi => ⟨(h4 i hi).1, fun j hj => ?_⟩) (fun i hi => Ks.mono hs hn (h5 i hi) (fun x hx => absurd hx (h0 x)))
    rw [← (h4 i hi).2 j hj]
    simp only [World.cell?, hb.1]
  | _, _, _, .own0 h, _ => .own0 h
  | _, _, _, .own (b := b) h0 h1 h2 h3 h4 h5 h6, hF => by
    have hb : w'.heap[b]? = w.heap[b]? := hF b ((h6 b).2 (.inl rfl))
    obtain ⟨cs, E, e1, e2⟩ := h0
    refine .own ⟨cs, E, hb.trans e1, e2⟩ h1 (fun i hi => ⟨(h2 i hi).1, fun j hj => ?_⟩) (fun i hi => Ks.mono hs hn (h3 i hi) (fun x hx => hF x ((h6 x).2 (.inr ⟨i, hi, hx⟩)))) h4 h5 h6
    rw [← (h2 i hi).2 j hj]
    simp only [World.cell?, hb]
theorem Ks.mono {w w' : World} {N N' : Bs} (hs : w.heap.size ≤ w'.heap.size) (hn : ∀ b, b < w.heap.size → ¬ N b → w'.heap[b]? = w.heap[b]? ∧ ¬ N' b) :
    ∀ {l vs F}, Ks w N l vs F → (∀ x, F x → w'.heap[x]? = w.heap[x]?) → Ks w' N' l vs F
  | _, _, _, .nil h, _ => .nil h
  | _, _, _, .cons h1 h2 h3 h4, hF =>
    .cons (K.mono hs hn h1 (fun x hx => hF x ((h4 x).2 (.inl hx)))) (Ks.mono hs hn h2 (fun x hx => hF x ((h4 x).2 (.inr hx)))) h3 h4
end


/-- From w to w' what nobody writes stays, and stays nobody's. -/
structure Stb (w : World) (N : Bs) (w' : World) (N' : Bs) : Prop where
  size : w.heap.size ≤ w'.heap.size
  keep : ∀ b, b < w.heap.size → ¬ N b → w'.heap[b]? = w.heap[b]? ∧ ¬ N' b

theorem Stb.refl (w : World) (N : Bs) : Stb w N w N := ⟨Nat.le_refl _, fun _ _ h => ⟨rfl, h⟩⟩
theorem Stb.trans {w w1 w2 : World} {N N1 N2 : Bs} (h : Stb w N w1 N1) (k : Stb w1 N1 w2 N2) : Stb w N w2 N2 :=
  ⟨Nat.le_trans h.size k.size, fun b hb hn => by
    obtain ⟨e, hn1⟩ := h.keep b hb hn
    obtain ⟨e2, hn2⟩ := k.keep b (Nat.lt_of_lt_of_le hb h.size) hn1
    exact ⟨e2.trans e, hn2⟩⟩

def Bex (β β' : Nat → Option Loc) : Prop := ∀ id L, β id = some L → β' id = some L
theorem Bex.refl (β : Nat → Option Loc) : Bex β β := fun _ _ h => h
theorem Bex.trans {β β1 β2 : Nat → Option Loc} (h : Bex β β1) (k : Bex β1 β2) : Bex β β2 := fun id L e => k id L (h id L e)

theorem K.stb {w w' : World} {N N' : Bs} (hs : Stb w N w' N') {a v F} (h : K w N a v F) (hF : ∀ x, F x → w'.heap[x]? = w.heap[x]?) : K w' N' a v F :=
  K.mono hs.size hs.keep h hF
theorem Ks.stb {w w' : World} {N N' : Bs} (hs : Stb w N w' N') {a v F} (h : Ks w N a v F) (hF : ∀ x, F x → w'.heap[x]? = w.heap[x]?) : Ks w' N' a v F :=
  Ks.mono hs.size hs.keep h hF

mutual
theorem V.stb {w w' : World} {N N' : Bs} {β β' : Nat → Option Loc} (hs : Stb w N w' N') (hb : Bex β β') :
    ∀ {a v}, V w N β a v → V w' N' β' a v
  | _, _, .any => .any
  | _, _, .clo h h0 => .clo (h.stb hs (fun x hx => absurd hx (h0 x))) h0
  | _, _, .sl h1 h2 h3 h4 => .sl (hb _ _ h1) h2 h3 h4
  | _, _, .ptr h1 h2 => .ptr (hb _ _ h1) h2
  | _, _, .pfro h0 h1 h2 h3 h4 => by
    have hk := hs.keep _ h2 h1
    refine .pfro h0 hk.2 (Nat.lt_of_lt_of_le h2 hs.size) (h3.stb hs (fun x hx => absurd hx (h0 x))) (fun j hj => ?_)
    rw [← h4 j hj]
    simp only [World.cell?, hk.1]
  | _, _, .agg h => .agg (Vs.stb hs hb h)
  | _, _, .tup h => .tup (Vs.stb hs hb h)
  | _, _, .fn h => .fn (Vs.stb hs hb h)
theorem Vs.stb {w w' : World} {N N' : Bs} {β β' : Nat → Option Loc} (hs : Stb w N w' N') (hb : Bex β β') :
    ∀ {l vs}, Vs w N β l vs → Vs w' N' β' l vs
  | _, _, .nil => .nil
  | _, _, .cons h1 h2 => .cons (V.stb hs hb h1) (Vs.stb hs hb h2)
end

theorem Cl.stb {w w' : World} {N N' : Bs} {β β' : Nat → Option Loc} (hs : Stb w N w' N') (hb : Bex β β') {a v F} (h : Cl w N β a v F)
    (hF : ∀ x, F x → w'.heap[x]? = w.heap[x]?) : Cl w' N' β' a v F :=
  h.imp (fun h => h.stb hs hF) (fun ⟨h0, h1, h2⟩ => ⟨h0, h1.stb hs hb, h2⟩)

theorem Cs.stb {w w' : World} {N N' : Bs} {β β' : Nat → Option Loc} (hs : Stb w N w' N') (hb : Bex β β') :
    ∀ {l vs F}, Cs w N β l vs F → (∀ x, F x → w'.heap[x]? = w.heap[x]?) → Cs w' N' β' l vs F
  | _, _, _, .nil h, _ => .nil h
  | _, _, _, .cons h1 h2 h3 h4, hF =>
    .cons (h1.stb hs hb (fun x hx => hF x ((h4 x).2 (.inl hx)))) (Cs.stb hs hb h2 (fun x hx => hF x ((h4 x).2 (.inr hx)))) h3 h4

theorem Row.keep {w w' : World} {b off sz n : Nat} {vs} (h : Row w b off sz n vs) (e : w'.heap[b]? = w.heap[b]?) : Row w' b off sz n vs :=
  fun i hi => ⟨(h i hi).1, fun j hj => by rw [← (h i hi).2 j hj]; simp only [World.cell?, e]⟩

theorem Blk.keep {w w' : World} {b off k : Nat} (h : Blk w b off k) (e : w'.heap[b]? = w.heap[b]?) : Blk w' b off k := by
  obtain ⟨cs, E, e1, e2⟩ := h
  exact ⟨cs, E, e.trans e1, e2⟩

theorem Blk.lt {w : World} {b off k : Nat} (h : Blk w b off k) : b < w.heap.size := by
  obtain ⟨cs, E, e1, e2⟩ := h
  exact (Array.getElem?_eq_some_iff.1 e1).1

theorem OR.stb {w w' : World} {N N' : Bs} {β β' : Nat → Option Loc} (hs : Stb w N w' N') (hb : Bex β β') {L : Loc} {ob : Ob} {F : Bs} (h : OR w N β L ob F)
    (hF : ∀ x, F x → w'.heap[x]? = w.heap[x]?) : OR w' N' β' L ob F := by
  obtain ⟨h1, h2, h3⟩ := h
  refine ⟨h1, h2, h3.imp id ?_⟩
  rintro ⟨e0, vs, Fi, k1, k2, k3, k4, k5, k6⟩
  have e : w'.heap[L.b]? = w.heap[L.b]? := hF _ ((k6 _).2 (.inl rfl))
  exact ⟨e0, vs, Fi, k1.keep e, k2.keep e, fun i hi => (k3 i hi).stb hs hb (fun x hx => hF x ((k6 x).2 (.inr ⟨i, hi, hx⟩))), k4, k5, k6⟩

theorem Fr.refl (F0 : Bs) (w : World) : Fr F0 w w := ⟨rfl, rfl, rfl, Nat.le_refl _, fun _ _ _ => rfl⟩
theorem Fr.trans {F0 : Bs} {w0 w w' : World} (h : Fr F0 w0 w) (os : w'.os = w.os) (tape : w'.tape = w.tape) (output : w'.output = w.output) (size : w.heap.size ≤ w'.heap.size)
    (block : ∀ b, b < w0.heap.size → ¬ F0 b → w'.heap[b]? = w.heap[b]?) : Fr F0 w0 w' :=
  ⟨os.trans h.os, tape.trans h.tape, output.trans h.output, Nat.le_trans h.size size, fun b hb hf => (block b hb hf).trans (h.block b hb hf)⟩

/-- The blocks that nobody owns are the same, or new. -/
theorem Rel.own_lt {c : Ctx} {s : St} {β φ w} (h : Rel c s β φ w) {x : Nat} (hx : Ow c.N0 φ x) : x < w.heap.size := by
  rcases hx with hx | ⟨i, hx⟩
  · exact Nat.lt_of_lt_of_le (h.n0lt x hx) h.fr.size
  · exact h.lt i x hx

/-- A step of the world that turns at most blocks of the object 'id' (or none), the other objects stay. -/
theorem Rel.keepOthers {c : Ctx} {s : St} {β φ w} (h : Rel c s β φ w) {w' : World} {β' : Nat → Option Loc} {N' : Bs} (hs : Stb w (Ow c.N0 φ) w' N') (hb : Bex β β') {id : Nat}
    (hF : ∀ i, i ≠ id → ∀ x, φ i x → w'.heap[x]? = w.heap[x]?) {i : Nat} (hi : i ≠ id) {ob : Ob} (ho : s.H i = some ob) :
    ∃ L, β' i = some L ∧ OR w' N' β' L ob (φ i) := by
  obtain ⟨L, e, hor⟩ := h.obj i ob ho
  exact ⟨L, hb _ _ e, hor.stb hs hb (hF i hi)⟩
end Go.Am
end
section
set_option linter.all false
namespace Go.Am

/-! ### numbers, kept from unfolding -/
def iaddR (k : IntKind) (a b : Int) : Int := k.wrap (a + b)
@[reducible] noncomputable def iadd (k : IntKind) (a b : Int) : Int := opq iaddR k a b
theorem o_iadd (k : IntKind) (a b : Int) : iadd k a b = (k.wrap (a + b)) := by show opq iaddR k a b = _; rw [opq_eq]; rfl
def isubR (k : IntKind) (a b : Int) : Int := k.wrap (a - b)
@[reducible] noncomputable def isub (k : IntKind) (a b : Int) : Int := opq isubR k a b
theorem o_isub (k : IntKind) (a b : Int) : isub k a b = (k.wrap (a - b)) := by show opq isubR k a b = _; rw [opq_eq]; rfl
def imulR (k : IntKind) (a b : Int) : Int := k.wrap (a * b)
@[reducible] noncomputable def imul (k : IntKind) (a b : Int) : Int := opq imulR k a b
theorem o_imul (k : IntKind) (a b : Int) : imul k a b = (k.wrap (a * b)) := by show opq imulR k a b = _; rw [opq_eq]; rfl
def iquoR (k : IntKind) (a b : Int) : Int := k.wrap (a.tdiv b)
@[reducible] noncomputable def iquo (k : IntKind) (a b : Int) : Int := opq iquoR k a b
theorem o_iquo (k : IntKind) (a b : Int) : iquo k a b = (k.wrap (a.tdiv b)) := by show opq iquoR k a b = _; rw [opq_eq]; rfl
def iremR (a b : Int) : Int := a.tmod b
@[reducible] noncomputable def irem (a b : Int) : Int := opq iremR a b
theorem o_irem (a b : Int) : irem a b = (a.tmod b) := by show opq iremR a b = _; rw [opq_eq]; rfl
def iwrapR (k : IntKind) (a : Int) : Int := k.wrap a
@[reducible] noncomputable def iwrap (k : IntKind) (a : Int) : Int := opq iwrapR k a
theorem o_iwrap (k : IntKind) (a : Int) : iwrap k a = (k.wrap a) := by show opq iwrapR k a = _; rw [opq_eq]; rfl
def ibandR (k : IntKind) (a b : Int) : Int := k.wrap (BitVec.ofInt k.bits a &&& BitVec.ofInt k.bits b).toNat
@[reducible] noncomputable def iband (k : IntKind) (a b : Int) : Int := opq ibandR k a b
theorem o_iband (k : IntKind) (a b : Int) : iband k a b = (k.wrap (BitVec.ofInt k.bits a &&& BitVec.ofInt k.bits b).toNat) := by show opq ibandR k a b = _; rw [opq_eq]; rfl
def iborR (k : IntKind) (a b : Int) : Int := k.wrap (BitVec.ofInt k.bits a ||| BitVec.ofInt k.bits b).toNat
@[reducible] noncomputable def ibor (k : IntKind) (a b : Int) : Int := opq iborR k a b
theorem o_ibor (k : IntKind) (a b : Int) : ibor k a b = (k.wrap (BitVec.ofInt k.bits a ||| BitVec.ofInt k.bits b).toNat) := by show opq iborR k a b = _; rw [opq_eq]; rfl
def ibxorR (k : IntKind) (a b : Int) : Int := k.wrap (BitVec.ofInt k.bits a ^^^ BitVec.ofInt k.bits b).toNat
@[reducible] noncomputable def ibxor (k : IntKind) (a b : Int) : Int := opq ibxorR k a b
theorem o_ibxor (k : IntKind) (a b : Int) : ibxor k a b = (k.wrap (BitVec.ofInt k.bits a ^^^ BitVec.ofInt k.bits b).toNat) := by show opq ibxorR k a b = _; rw [opq_eq]; rfl
def ishlR (k : IntKind) (a b : Int) : Int := k.wrap (a * 2 ^ (min b.toNat k.bits))
@[reducible] noncomputable def ishl (k : IntKind) (a b : Int) : Int := opq ishlR k a b
theorem o_ishl (k : IntKind) (a b : Int) : ishl k a b = (k.wrap (a * 2 ^ (min b.toNat k.bits))) := by show opq ishlR k a b = _; rw [opq_eq]; rfl
def ishrR (k : IntKind) (a b : Int) : Int := a.fdiv (2 ^ (min b.toNat k.bits))
@[reducible] noncomputable def ishr (k : IntKind) (a b : Int) : Int := opq ishrR k a b
theorem o_ishr (k : IntKind) (a b : Int) : ishr k a b = (a.fdiv (2 ^ (min b.toNat k.bits))) := by show opq ishrR k a b = _; rw [opq_eq]; rfl
def ieqR (a b : Int) : Bool := a == b
@[reducible] noncomputable def ieq (a b : Int) : Bool := opq ieqR a b
theorem o_ieq (a b : Int) : ieq a b = (a == b) := by show opq ieqR a b = _; rw [opq_eq]; rfl
def ineR (a b : Int) : Bool := a != b
@[reducible] noncomputable def ine (a b : Int) : Bool := opq ineR a b
theorem o_ine (a b : Int) : ine a b = (a != b) := by show opq ineR a b = _; rw [opq_eq]; rfl
def iltR (a b : Int) : Bool := decide (a < b)
@[reducible] noncomputable def ilt (a b : Int) : Bool := opq iltR a b
theorem o_ilt (a b : Int) : ilt a b = (decide (a < b)) := by show opq iltR a b = _; rw [opq_eq]; rfl
def ileR (a b : Int) : Bool := decide (a ≤ b)
@[reducible] noncomputable def ile (a b : Int) : Bool := opq ileR a b
theorem o_ile (a b : Int) : ile a b = (decide (a ≤ b)) := by show opq ileR a b = _; rw [opq_eq]; rfl
def igtR (a b : Int) : Bool := decide (a > b)
@[reducible] noncomputable def igt (a b : Int) : Bool := opq igtR a b
theorem o_igt (a b : Int) : igt a b = (decide (a > b)) := by show opq igtR a b = _; rw [opq_eq]; rfl
def igeR (a b : Int) : Bool := decide (a ≥ b)
@[reducible] noncomputable def ige (a b : Int) : Bool := opq igeR a b
theorem o_ige (a b : Int) : ige a b = (decide (a ≥ b)) := by show opq igeR a b = _; rw [opq_eq]; rfl
def iminR (a b : Int) : Int := if b < a then b else a
@[reducible] noncomputable def imin (a b : Int) : Int := opq iminR a b
theorem o_imin (a b : Int) : imin a b = (if b < a then b else a) := by show opq iminR a b = _; rw [opq_eq]; rfl
def imaxR (a b : Int) : Int := if a < b then b else a
@[reducible] noncomputable def imax (a b : Int) : Int := opq imaxR a b
theorem o_imax (a b : Int) : imax a b = (if a < b then b else a) := by show opq imaxR a b = _; rw [opq_eq]; rfl
def beqbR (a b : Bool) : Bool := a == b
@[reducible] noncomputable def beqb (a b : Bool) : Bool := opq beqbR a b
theorem o_beqb (a b : Bool) : beqb a b = (a == b) := by show opq beqbR a b = _; rw [opq_eq]; rfl
@[reducible] def len64 (n : Nat) : Int := Int.ofNat n
theorem o_len64 (n : Nat) : len64 n = (n : Int) := rfl
def naddR (a b : Nat) : Nat := a + b
def nadd0 (b : Nat) : Nat := b
noncomputable def naddS (k : Nat) (_ : Nat → Nat) (b : Nat) : Nat := opq naddR (k + 1) b
@[reducible] noncomputable def nadd (a b : Nat) : Nat := @Nat.rec (fun _ => Nat → Nat) nadd0 naddS a b
theorem o_naddR (a b : Nat) : opq naddR a b = a + b := by rw [opq_eq]; rfl
theorem o_nadd (a b : Nat) : nadd a b = a + b := by
  cases a with
  | zero => exact (Nat.zero_add b).symm
  | succ k => exact o_naddR (k + 1) b
def nsubR (a b : Nat) : Nat := a - b
@[reducible] noncomputable def nsub (a b : Nat) : Nat := opq nsubR a b
theorem o_nsub (a b : Nat) : nsub a b = (a - b) := by show opq nsubR a b = _; rw [opq_eq]; rfl
def nminR (a b : Nat) : Nat := min a b
@[reducible] noncomputable def nmin (a b : Nat) : Nat := opq nminR a b
theorem o_nmin (a b : Nat) : nmin a b = (min a b) := by show opq nminR a b = _; rw [opq_eq]; rfl
def natP (n : Nat) : Nat := n
def natN (_ : Nat) : Nat := 0
@[reducible] noncomputable def nat (a : Int) : Nat := @Int.rec (fun _ => Nat) natP natN a
theorem o_nat (a : Int) : nat a = a.toNat := by cases a <;> rfl
/-- an index lies in a slice -/
def inRR (i : Int) (n : Nat) : Prop := 0 ≤ i ∧ i < n
@[reducible] noncomputable def inR (i : Int) (n : Nat) : Prop := opq inRR i n
theorem o_inR (i : Int) (n : Nat) : inR i n = (0 ≤ i ∧ i < n) := by show opq inRR i n = _; rw [opq_eq]; rfl
def ltNR (i n : Nat) : Prop := i < n
noncomputable def lt0 (n : Nat) : Prop := @Nat.rec (fun _ => Prop) False (fun _ _ => True) n
noncomputable def ltNS (k : Nat) (_ : Nat → Prop) (n : Nat) : Prop := opq ltNR (k + 1) n
@[reducible] noncomputable def ltN (i n : Nat) : Prop := @Nat.rec (fun _ => Nat → Prop) lt0 ltNS i n
theorem o_ltN (i n : Nat) : ltN i n = (i < n) := by
  cases i with
  | zero =>
    cases n with
    | zero => show False = _; simp
    | succ n => show True = _; simp
  | succ k => show opq ltNR (k + 1) n = _; rw [opq_eq]; rfl
theorem o_lt0 (n : Nat) : (@Nat.rec (fun _ => Prop) False (fun _ _ => True) n) = (0 < n) := o_ltN 0 n
def nzR (b : Int) : Prop := b ≠ 0
@[reducible] noncomputable def nz (b : Int) : Prop := opq nzR b
theorem o_nz (b : Int) : nz b = (b ≠ 0) := by show opq nzR b = _; rw [opq_eq]; rfl
def posR (b : Int) : Prop := 0 ≤ b
@[reducible] noncomputable def pos (b : Int) : Prop := opq posR b
theorem o_pos (b : Int) : pos b = (0 ≤ b) := by show opq posR b = _; rw [opq_eq]; rfl
def leNR (h : Int) (n : Nat) : Prop := h ≤ n
@[reducible] noncomputable def leN (h : Int) (n : Nat) : Prop := opq leNR h n
theorem o_leN (h : Int) (n : Nat) : leN h n = (h ≤ n) := by show opq leNR h n = _; rw [opq_eq]; rfl
def leIR (l h : Int) : Prop := l ≤ h
@[reducible] noncomputable def leI (l h : Int) : Prop := opq leIR l h
theorem o_leI (l h : Int) : leI l h = (l ≤ h) := by show opq leIR l h = _; rw [opq_eq]; rfl
def leNNR (l h : Nat) : Prop := l ≤ h
@[reducible] noncomputable def leNN (l h : Nat) : Prop := opq leNNR l h
theorem o_leNN (l h : Nat) : leNN l h = (l ≤ h) := by show opq leNNR l h = _; rw [opq_eq]; rfl
def eqNR (l h : Nat) : Prop := l = h
@[reducible] noncomputable def eqN (l h : Nat) : Prop := opq eqNR l h
theorem o_eqN (l h : Nat) : eqN l h = (l = h) := by show opq eqNR l h = _; rw [opq_eq]; rfl
def eqZR (l h : Int) : Prop := l = h
@[reducible] noncomputable def eqZ (l h : Int) : Prop := opq eqZR l h
theorem o_eqZ (l h : Int) : eqZ l h = (l = h) := by show opq eqZR l h = _; rw [opq_eq]; rfl
/-- n elements of so many bytes may be made -/
def fitsR (n bytes : Nat) : Prop := n * bytes ≤ 2 ^ 47 ∧ n ≤ 2 ^ 47
@[reducible] noncomputable def fits (n bytes : Nat) : Prop := opq fitsR n bytes
theorem o_fits (n bytes : Nat) : fits n bytes = (n * bytes ≤ 2 ^ 47 ∧ n ≤ 2 ^ 47) := by show opq fitsR n bytes = _; rw [opq_eq]; rfl
def mkCR (n m : Int) (bytes : Nat) : Prop := n = m ∧ 0 ≤ n ∧ n * bytes ≤ 2 ^ 48 ∧ n < 2 ^ 63
@[reducible] noncomputable def mkC (n m : Int) (bytes : Nat) : Prop := opq mkCR n m bytes
theorem o_mkC (n m : Int) (bytes : Nat) : mkC n m bytes = (n = m ∧ 0 ≤ n ∧ n * bytes ≤ 2 ^ 48 ∧ n < 2 ^ 63) := by show opq mkCR n m bytes = _; rw [opq_eq]; rfl

/-- What is known of a type. -/
structure TI where
  sz : Nat
  bytes : Nat
  agg : Bool
  fs : List (Nat × Nat × Bool)      -- a struct's fields: offset, cells, is it a struct or an array
  sub : Option (Nat × Nat)          -- a slice's or an array's element: its type; an array's length
  int : Option IntKind
  isb : Bool                        -- is it a bool
  eqi : Bool                        -- '==' compares its cells, all of which are whole numbers
  zero : List A

abbrev Tab := TypeId → Option TI

def cellsOf : A → List A
  | .agg l => l
  | a => [a]

def ofConst : Value → A
  | .slice none 0 0 => .emp
  | .tuple _ => .any
  | .agg _ => .any
  | v => .val v

def aeval (s : St) : Operand → A
  | .tmp t => s.env t
  | .const v => ofConst v
  | .global _ => .any
  | .func f => .val (.func (.func f) #[] #[])

/-- A choice, of which only the half that is wanted is worked out. -/
def lz {α : Type} (b : Bool) (x y : Unit → α) : α :=
  match b with
  | true => x ()
  | false => y ()

theorem beq_if {α : Type} (t d : Nat) (x y : α) : (lz (Nat.beq t d) (fun _ => x) (fun _ => y)) = if t = d then x else y := by
  by_cases e : t = d
  · subst e; simp [lz]
  · rw [if_neg e]
    have : Nat.beq t d = false := by
      cases q : Nat.beq t d with
      | true => exact absurd (Nat.eq_of_beq_eq_true q) e
      | false => rfl
    rw [this]; rfl
def putE (env : Nat → A) (d : Nat) (a : A) (t : Nat) : A := lz (Nat.beq t d) (fun _ => a) (fun _ => env t)
def setH (H : Nat → Option Ob) (d : Nat) (a : Option Ob) (t : Nat) : Option Ob := lz (Nat.beq t d) (fun _ => a) (fun _ => H t)
def setD (D : Nat → Bool) (d t : Nat) : Bool := lz (Nat.beq t d) (fun _ => true) (fun _ => D t)
theorem o_putE (env : Nat → A) (d : Nat) (a : A) (t : Nat) : putE env d a t = if t = d then a else env t := beq_if t d _ _
theorem o_setH (H : Nat → Option Ob) (d : Nat) (a : Option Ob) (t : Nat) : setH H d a t = if t = d then a else H t := beq_if t d _ _
theorem o_setD (D : Nat → Bool) (d t : Nat) : setD D d t = if t = d then true else D t := beq_if t d _ _
noncomputable def put (s : St) (d : Option Tmp) (a : A) : St :=
  match d with
  | some d => { s with env := putE s.env d a }
  | none => s

/-- element i becomes c, of n elements -/
def updR (g : Nat → List A) (i : Nat) (c : List A) (k : Nat) : List A := if k = i then c else g k
def updC (c : List A) (_ : Nat) : List A := c
def updM (g : Nat → List A) (c : List A) (m : Nat) (_ : Nat → List A) : Nat → List A := @Nat.rec (fun _ => Nat → List A) (updC c) (fun _ _ => updR g 0 c) m
@[reducible] def upd0 (n : Nat) (g : Nat → List A) (c : List A) : Nat → List A := @Nat.rec (fun _ => Nat → List A) (updC c) (updM g c) n
noncomputable def updS (g : Nat → List A) (c : List A) (k : Nat) (_ : Nat → List A) : Nat → List A := opq updR g (k + 1) c
@[reducible] noncomputable def upd (n : Nat) (g : Nat → List A) (i : Nat) (c : List A) : Nat → List A := @Nat.rec (fun _ => Nat → List A) (upd0 n g c) (updS g c) i
theorem upd_same (n : Nat) (g : Nat → List A) (i : Nat) (c : List A) : upd n g i c i = c := by
  cases i with
  | zero =>
    match n with
    | 0 => rfl
    | 1 => rfl
    | n + 2 => show updR g 0 c 0 = c; exact if_pos rfl
  | succ i => show opq updR g (i + 1) c (i + 1) = c; rw [opq_eq]; exact if_pos rfl
theorem o_upd {n : Nat} {k : Nat} (hk : k < n) (g : Nat → List A) (i : Nat) (c : List A) : upd n g i c k = if k = i then c else g k := by
  cases i with
  | zero =>
    match n, hk with
    | 1, hk =>
      have : k = 0 := by omega
      rw [if_pos this]; rfl
    | n + 2, _ => rfl
  | succ i => show opq updR g (i + 1) c k = _; rw [opq_eq]; rfl
def cat (n : Nat) (g h : Nat → List A) : Nat → List A := fun i => if i < n then g i else h (i - n)
def ovr (g : Nat → List A) (off n : Nat) (h : Nat → List A) : Nat → List A := fun i => if off ≤ i ∧ i < off + n then h (i - off) else g i
def shift (g : Nat → List A) (off : Nat) : Nat → List A := fun i => g (off + i)
def splice (l : List A) (j : Nat) (c : List A) : List A := l.take j ++ c ++ l.drop (j + c.length)

def noOwn : List A → Bool
  | [] => true
  | .slc true _ _ _ :: _ => false
  | _ :: l => noOwn l

noncomputable def binI (op : BinOp) (k : IntKind) (a b : Int) : Option (Prop × A) :=
  match op with
  | .add => some (True, .val (.int k (iadd k a b)))
  | .sub => some (True, .val (.int k (isub k a b)))
  | .mul => some (True, .val (.int k (imul k a b)))
  | .quo => some (nz b, .val (.int k (iquo k a b)))
  | .rem => some (nz b, .val (.int k (irem a b)))
  | .and => some (True, .val (.int k (iband k a b)))
  | .or => some (True, .val (.int k (ibor k a b)))
  | .xor => some (True, .val (.int k (ibxor k a b)))
  | .eql => some (True, .val (.bool (ieq a b)))
  | .neq => some (True, .val (.bool (ine a b)))
  | .lss => some (True, .val (.bool (ilt a b)))
  | .leq => some (True, .val (.bool (ile a b)))
  | .gtr => some (True, .val (.bool (igt a b)))
  | .geq => some (True, .val (.bool (ige a b)))
  | _ => none

/-- '==' of two lists of whole numbers. -/
noncomputable def eqInts : List A → List A → Option Bool
  | [], [] => some true
  | .val (.int .i64 a) :: l, .val (.int .i64 b) :: m => (eqInts l m).map fun r => (ieq a b && r)
  | _, _ => none

noncomputable def asI (s : St) (x : Operand) : Option Int :=
  match aeval s x with
  | .val (.int _ n) => some n
  | _ => none

def lenA : A → Option Nat
  | .emp => some 0
  | .sl _ _ n => some n
  | .slc false _ n _ => some n
  | _ => none

/-- Is the slice one of elements of sz cells? -/
def szOk (s : St) (x : A) (sz : Nat) : Bool :=
  match x with
  | .sl id _ _ =>
    match s.H id with
    | some ob => decide (ob.sz = sz)
    | none => false
  | .slc _ z _ _ => decide (z = sz)
  | _ => true

/-- x[lo:hi:mx] -/
noncomputable def sliceA (x : A) (lo hi mx : Option Int) : Option (Prop × A) :=
  match lenA x with
  | none => none
  | some n =>
    match mx with
    | some m =>
      match lo, hi with
      | none, some h => if m = 0 ∧ h = 0 then some (True, .emp) else none
      | _, _ => none
    | none =>
      match x with
      | .emp => some (eqZ (lo.getD 0) 0 ∧ eqZ (hi.getD 0) 0, .emp)
      | .sl id off _ =>
        match lo, hi with
        | none, none => some (True, .sl id off n)
        | none, some h => some (pos h ∧ leN h n, .sl id off (nat h))
        | some l, none => some (pos l ∧ leN l n, .sl id (nadd off (nat l)) (nsub n (nat l)))
        | some l, some h => some (pos l ∧ leI l h ∧ leN h n, .sl id (nadd off (nat l)) (nsub (nat h) (nat l)))
      | .slc false sz _ g =>
        match lo, hi with
        | none, none => some (True, .slc false sz n g)
        | none, some h => some (pos h ∧ leN h n, .slc false sz (nat h) g)
        | some l, none => some (pos l ∧ leN l n, .slc false sz (nsub n (nat l)) (shift g (nat l)))
        | some l, some h => some (pos l ∧ leI l h ∧ leN h n, .slc false sz (nsub (nat h) (nat l)) (shift g (nat l)))
      | _ => none

/-- cells that may be stored -/
def stob : List A → Bool
  | [] => true
  | .any :: _ => false
  | .agg _ :: _ => false
  | .tup _ :: _ => false
  | .val v :: l => v.oneCell' && stob l
  | _ :: l => stob l

/-- The cells of a struct or an array with its parts laid in. -/
def fillA (place : Nat → Option (Nat × Nat)) (cells : List A) : List (Nat × A) → Option (List A)
  | [] => some cells
  | (i, a) :: rest =>
    match place i with
    | none => none
    | some (off, size) => if (cellsOf a).length = size ∧ off + size ≤ cells.length ∧ stob (cellsOf a) = true then fillA place (splice cells off (cellsOf a)) rest else none

def chunksA (sz : Nat) : Nat → List A → List (List A)
  | 0, _ => []
  | n + 1, l => l.take sz :: chunksA sz n (l.drop sz)

def repA : Nat → List A → List A
  | 0, _ => []
  | n + 1, l => l ++ repA n l

noncomputable def optI (s : St) : Option Operand → Option (Option Int)
  | none => some none
  | some x => (asI s x).map some

/-- Operations that compute, and read. -/
noncomputable def pev (Γ : Tab) (o : Oper) (s : St) : Option (Prop × A) :=
  match o.op with
  | .move x => some (True, aeval s x)
  | .assign x => some (True, aeval s x)
  | .pick c a b =>
    match aeval s c with
    | .val (.bool t) => some (True, bif t then aeval s a else aeval s b)
    | _ => none
  | .nilCheck x =>
    match aeval s x with
    | .ptr id i j => some (True, .ptr id i j)
    | .pfro l => some (True, .pfro l)
    | _ => none
  | .binOp op t x y _ =>
    match aeval s x, aeval s y with
    | .val (.int k a), .val (.int k' b) =>
      match op with
      | .shl => some (pos b, .val (.int k (ishl k a b)))
      | .shr => some (pos b, .val (.int k (ishr k a b)))
      | _ => if k = k' then binI op k a b else none
    | .val (.bool a), .val (.bool b) =>
      match op, Γ t with
      | .eql, some ti => if ti.isb = true then some (True, .val (.bool (beqb a b))) else none
      | .neq, some ti => if ti.isb = true then some (True, .val (.bool (!(beqb a b)))) else none
      | _, _ => none
    | .agg l, .agg m =>
      match Γ t with
      | some ti =>
        if ti.eqi = true ∧ ti.sz = l.length ∧ ti.sz = m.length then
          match op, eqInts l m with
          | .eql, some r => some (True, .val (.bool r))
          | .neq, some r => some (True, .val (.bool (!r)))
          | _, _ => none
        else none
      | none => none
    | _, _ => none
  | .unOp op _ x =>
    match op, aeval s x with
    | .not, .val (.bool b) => some (True, .val (.bool (!b)))
    | .neg, .val (.int k a) => some (True, .val (.int k (isub k 0 a)))
    | _, _ => none
  | .convert src dst x =>
    match Γ src, Γ dst, aeval s x with
    | some _, some ti, .val (.int _ n) =>
      match ti.int with
      | some k => some (True, .val (.int k (iwrap k n)))
      | none => none
    | _, _, _ => none
  | .makeFunc f first cap =>
    match first.toList with
    | [] => some (True, .fn f (cap.toList.map (aeval s)))
    | _ => none
  | .slice t x lo hi mx =>
    match Γ t with
    | none => none
    | some ti =>
      match ti.sub with
      | none => none
      | some (e, _) =>
        match Γ e, optI s lo, optI s hi, optI s mx with
        | some te, some lo, some hi, some mx => if ti.agg = false ∧ szOk s (aeval s x) te.sz = true then sliceA (aeval s x) lo hi mx else none
        | _, _, _, _ => none
  | .fieldAddr t x f =>
    match Γ t with
    | none => none
    | some ti =>
      match ti.fs[f]? with
      | none => none
      | some (off, sz, _) =>
        if sz = 0 then none else
        match aeval s x with
        | .ptr id i j => some (True, .ptr id i (j + off))
        | .pfro l => some (True, .pfro (l.drop off))
        | _ => none
  | .field t x f =>
    match Γ t with
    | none => none
    | some ti =>
      match ti.fs[f]?, aeval s x with
      | some (off, sz, ag), .agg l =>
        if off + sz ≤ l.length then
          (if ag then some (True, .agg ((l.drop off).take sz)) else match l[off]? with
            | some a => some (True, a)
            | none => none)
        else none
      | _, _ => none
  | .indexAddr t x ix =>
    match Γ t with
    | none => none
    | some ti =>
      match ti.sub with
      | none => none
      | some (e, len) =>
        match Γ e, asI s ix with
        | some te, some i =>
          match aeval s x with
          | .sl id off n =>
            match s.H id with
            | some ob => if ti.agg = false ∧ ob.sz = te.sz then some (inR i n, .ptr id (nadd off (nat i)) 0) else none
            | none => none
          | .slc false sz n g => if ti.agg = false ∧ sz = te.sz then some (inR i n, .pfro (g (nat i))) else none
          | .ptr id k j => if ti.agg = true then some (inR i len, .ptr id k (j + (nat i) * te.sz)) else none
          | .pfro l => if ti.agg = true then some (inR i len, .pfro (l.drop ((nat i) * te.sz))) else none
          | _ => none
        | _, _ => none
  | .load t x =>
    match Γ t with
    | none => none
    | some ti =>
      match aeval s x with
      | .ptr id i j =>
        match s.H id with
        | none => none
        | some ob =>
          let cells := ((ob.g i).drop j).take ti.sz
          if j + ti.sz ≤ ob.sz ∧ noOwn cells = true then
            if ti.agg then some (ltN i ob.n, .agg cells) else
            match cells with
            | [a] => some (ltN i ob.n, a)
            | _ => none
          else none
      | .pfro l =>
        let cells := l.take ti.sz
        if ti.sz ≤ l.length then
          if ti.agg then some (True, .agg cells) else
          match cells with
          | [a] => some (True, a)
          | _ => none
        else none
      | _ => none
  | .build t parts =>
    match Γ t with
    | none => none
    | some ti =>
      if ti.agg = true ∧ ti.sub = none then
        match fillA (fun i => (ti.fs[i]?).map fun f => (f.1, f.2.1)) ti.zero (parts.toList.map fun p => (p.1, aeval s p.2)) with
        | some cells => some (True, .agg cells)
        | none => none
      else none
  | .extract x i =>
    match aeval s x with
    | .tup l =>
      match l[i]? with
      | some a => some (True, a)
      | none => none
    | _ => none
  | .call c =>
    match c.callee with
    | .builtin .len =>
      match c.args.toList, c.argTypes.toList with
      | [x], t :: _ =>
        match Γ t, lenA (aeval s x) with
        | some ti, some n => if ti.agg = false ∧ ti.sub ≠ none then some (True, .val (.int .i64 (len64 n))) else none
        | _, _ => none
      | _, _ => none
    | .builtin .min =>
      match c.args.toList with
      | [x, y] =>
        match aeval s x, aeval s y with
        | .val (.int k a), .val (.int k' b) => if k = k' then some (True, .val (.int k (imin a b))) else none
        | _, _ => none
      | _ => none
    | .builtin .max =>
      match c.args.toList with
      | [x, y] =>
        match aeval s x, aeval s y with
        | .val (.int k a), .val (.int k' b) => if k = k' then some (True, .val (.int k (imax a b))) else none
        | _, _ => none
      | _ => none
    | _ => none
  | _ => none

def isPure : Op → Bool
  | .binOp _ _ _ y _ => match y with
    | .const (.slice none 0 0) => false
    | _ => true
  | .move _ | .assign _ | .pick .. | .nilCheck _ | .unOp .. | .convert .. | .makeFunc .. | .slice .. | .fieldAddr .. | .field .. | .indexAddr .. | .load .. | .build .. | .extract .. => true
  | .call c => match c.callee with
    | .builtin .len | .builtin .min | .builtin .max => true
    | _ => false
  | _ => false

/-- The block of numbers that an operation gives its new objects. -/
def blk (d : Tmp) : Nat := (d + 1) * 64

/-- Operations that make an object: its content, and the value, at the number given. -/
noncomputable def mkOb (Γ : Tab) (o : Oper) (s : St) (id : Nat) : Option (Prop × Ob × A) :=
  match o.op with
  | .alloc t =>
    match Γ t with
    | some ti => some (True, ⟨ti.sz, 1, fun _ => ti.zero⟩, .ptr id 0 0)
    | none => none
  | .box _ x =>
    let c := cellsOf (aeval s x)
    if stob c = true then some (True, ⟨c.length, 1, fun _ => c⟩, .ptr id 0 0) else none
  | .buildSlice t len parts =>
    match Γ t with
    | none => none
    | some ti =>
      match ti.sub with
      | none => none
      | some (e, _) =>
        match Γ e with
        | none => none
        | some te =>
          if len * te.sz ≤ 1000 ∧ ti.agg = false then
            match fillA (fun i => some (i * te.sz, te.sz)) (repA len te.zero) (parts.toList.map fun p => (p.1, aeval s p.2)) with
            | some cells => let l := chunksA te.sz len cells; some (True, ⟨te.sz, len, fun i => l.getD i []⟩, .sl id 0 len)
            | none => none
          else none
  | .makeSlice t l c =>
    match Γ t with
    | none => none
    | some ti =>
      match ti.sub with
      | none => none
      | some (e, _) =>
        match Γ e, asI s l, asI s c with
        | some te, some n, some m => if ti.agg = false then some (mkC n m te.bytes, ⟨te.sz, nat n, fun _ => te.zero⟩, .sl id 0 (nat n)) else none
        | _, _, _ => none
  | _ => none

def isMk : Op → Bool
  | .alloc _ | .box .. | .buildSlice .. | .makeSlice .. => true
  | _ => false

/-- The elements that are appended or copied: on what condition, how many, what, and the object that is given up. -/
noncomputable def seqA (s : St) : A → Option (Prop × Nat × (Nat → List A) × Option Nat)
  | .emp => some (True, 0, fun _ => [], none)
  | .slc false _ n g => some (True, n, g, none)
  | .sl id off n =>
    match s.H id with
    | some ob => some (leNN (nadd off n) ob.n, n, (if off = 0 then ob.g else shift ob.g off), some id)
    | none => none
  | _ => none

noncomputable def kill (H : Nat → Option Ob) : Option Nat → Nat → Option Ob
  | none => H
  | some id => setH H id none

def kOk (s : St) : Option Nat → Bool
  | none => true
  | some id => !s.R id

/-- cells that may be copied -/
def Cpy (n : Nat) (g : Nat → List A) : Prop := ∀ i, i < n → noOwn (g i) = true

end Go.Am
end
