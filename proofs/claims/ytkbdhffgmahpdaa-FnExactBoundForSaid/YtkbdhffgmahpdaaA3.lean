/- New objects. · New objects: the operations that make them. · Effects: the general step of a state, and stores. · Effects: stores. -/
import Derived.Test.YtkbdhffgmahpdaaA2
import Derived.IntWalk
section
set_option linter.all false
namespace Go.Am
section
variable {P : Program} {Γ : Tab} {c : Ctx} {s : St} {β : Nat → Option Loc} {φ : Nat → Bs} {a : Act} {w : World} {N : Bs}

def setB {α : Type} (f : Nat → α) (id : Nat) (x : α) : Nat → α := fun i => if i = id then x else f i
theorem setB_same {α : Type} (f : Nat → α) (id : Nat) (x : α) : setB f id x id = x := if_pos rfl
theorem setB_ne {α : Type} (f : Nat → α) {id i : Nat} (x : α) (h : i ≠ id) : setB f id x i = f i := if_neg h
theorem setH_same (H : Nat → Option Ob) (id : Nat) (x : Option Ob) : setH H id x id = x := by rw [o_setH, if_pos rfl]
theorem setH_ne (H : Nat → Option Ob) {id i : Nat} (x : Option Ob) (h : i ≠ id) : setH H id x i = H i := by rw [o_setH, if_neg h]

theorem Bex.set {β : Nat → Option Loc} {id : Nat} {L : Loc} (h : β id = none) : Bex β (setB β id (some L)) := by
  intro i L' hi
  by_cases e : i = id
  · subst e; rw [h] at hi; cases hi
  · rw [setB_ne _ _ e]; exact hi

/-- The world with one block more: what is told stays. -/
theorem Stb.alloc {N : Bs} (hN : ∀ x, N x → x < w.heap.size) (o : Obj) : Stb w N (w.alloc o) (fun x => N x ∨ x = w.heap.size) := by
  refine ⟨by simp, fun b hb hn => ⟨RowKit.Below.heap_alloc _ _ _ hb, ?_⟩⟩
  rintro (h | h)
  · exact hn h
  · omega

theorem Fr.alloc {F0 : Bs} {w0 : World} (h : Fr F0 w0 w) (o : Obj) : Fr F0 w0 (w.alloc o) :=
  h.trans rfl rfl rfl (by simp) (fun b hb _ => RowKit.Below.heap_alloc _ _ _ (Nat.lt_of_lt_of_le hb h.size))

/-- A state with one object more, in a new block. -/
theorem Rel.new (hR : Rel c s β φ w) {q id : Nat} (hq : id / 64 = q) (hD : s.D q = false) (h10 : 10 ≤ id) {ob : Ob} {L : Loc} {cs : Array Value} {E : TypeId} (hLb : L.b = w.heap.size)
    (hor : ∀ N', (∀ b, b < w.heap.size → ¬ Ow c.N0 φ b → ¬ N' b) → OR (w.alloc (.cells cs E)) N' (setB β id (some L)) L ob (fun x => x = w.heap.size)) :
    Rel c { s with H := setH s.H id (some ob), D := setD s.D q } (setB β id (some L)) (setB φ id (fun x => x = w.heap.size)) (w.alloc (.cells cs E)) ∧
    Bex β (setB β id (some L)) ∧ Stb w (Ow c.N0 φ) (w.alloc (.cells cs E)) (Ow c.N0 (setB φ id (fun x => x = w.heap.size))) := by
  have hb0 : β id = none := hR.fresh q hD id hq
  have hH0 : s.H id = none := by
    cases e : s.H id with
    | none => rfl
    | some o => obtain ⟨L', e1, _⟩ := hR.obj id o e; rw [hb0] at e1; cases e1
  have hφ0 : nob (φ id) := hR.dead id hH0
  have hB : Bex β (setB β id (some L)) := Bex.set hb0
  have hOw : ∀ x, Ow c.N0 (setB φ id (fun x => x = w.heap.size)) x ↔ Ow c.N0 φ x ∨ x = w.heap.size := by
    intro x
    constructor
    · rintro (h | ⟨i, h⟩)
      · exact .inl (.inl h)
      · by_cases e : i = id
        · subst e; rw [setB_same] at h; exact .inr h
        · rw [setB_ne _ _ e] at h; exact .inl (.inr ⟨i, h⟩)
    · rintro ((h | ⟨i, h⟩) | h)
      · exact .inl h
      · refine .inr ⟨i, ?_⟩
        by_cases e : i = id
        · subst e; exact absurd h (hφ0 x)
        · rw [setB_ne _ _ e]; exact h
      · exact .inr ⟨id, by rw [setB_same]; exact h⟩
  have hS : Stb w (Ow c.N0 φ) (w.alloc (.cells cs E)) (Ow c.N0 (setB φ id (fun x => x = w.heap.size))) := by
    have := Stb.alloc (w := w) (N := Ow c.N0 φ) (fun x hx => hR.own_lt hx) (.cells cs E)
    exact ⟨this.size, fun b hb hn => ⟨(this.keep b hb hn).1, fun h => (this.keep b hb hn).2 ((hOw b).1 h)⟩⟩
  refine ⟨?_, hB, hS⟩
  constructor
  · exact hR.fr.alloc _
  · intro i hi
    rw [setB_ne _ _ (by omega)]
    exact hR.given i hi
  · intro k hk i hi
    simp only [o_setD] at hk
    by_cases e : k = q
    · simp [e] at hk
    · simp [e] at hk
      have : i ≠ id := by rintro rfl; exact e (hi.symm.trans hq)
      rw [setB_ne _ _ this]
      exact hR.fresh k hk i hi
  · intro i o ho
    replace ho : setH s.H id (some ob) i = some o := ho
    by_cases e : i = id
    · subst e
      rw [setH_same] at ho; cases ho
      refine ⟨L, setB_same _ _ _, ?_⟩
      rw [setB_same]
      exact hor _ (fun b hb hn => (hS.keep b hb hn).2)
    · rw [setH_ne _ _ e] at ho
      obtain ⟨L', e1, e2⟩ := hR.obj i o ho
      refine ⟨L', hB _ _ e1, ?_⟩
      rw [setB_ne _ _ e]
      exact e2.stb hS hB (fun x hx => RowKit.Below.heap_alloc _ _ _ (hR.lt i x hx))
  · intro i hi
    replace hi : setH s.H id (some ob) i = none := hi
    by_cases e : i = id
    · subst e; rw [setH_same] at hi; cases hi
    · rw [setH_ne _ _ e] at hi
      rw [setB_ne _ _ e]
      exact hR.dead i hi
  · intro i j hij x hx hy
    by_cases e : i = id
    · subst e
      rw [setB_same] at hx
      rw [setB_ne _ _ (Ne.symm hij)] at hy
      have := hR.lt j x hy
      omega
    · rw [setB_ne _ _ e] at hx
      by_cases e' : j = id
      · subst e'
        rw [setB_same] at hy
        have := hR.lt i x hx
        omega
      · rw [setB_ne _ _ e'] at hy
        exact hR.dis i j hij x hx hy
  · intro i x hx
    by_cases e : i = id
    · subst e; rw [setB_same] at hx; subst hx; exact .inr hR.fr.size
    · rw [setB_ne _ _ e] at hx; exact hR.sub i x hx
  · intro i x hx hn
    by_cases e : i = id
    · subst e; rw [setB_same] at hx
      have := hR.n0lt x hn
      have := hR.fr.size
      omega
    · rw [setB_ne _ _ e] at hx; exact hR.n0 i x hx hn
  · intro i x hx
    simp only [World.size_alloc]
    by_cases e : i = id
    · subst e; rw [setB_same] at hx; omega
    · rw [setB_ne _ _ e] at hx; have := hR.lt i x hx; omega
  · exact hR.n0lt
  · exact hR.f0lt
  · exact hR.f0n0
  · intro x hx
    rw [← hR.watch x hx]
    exact RowKit.Below.heap_alloc _ _ _ (hR.wlt x hx)
  · intro x hx
    have := hR.wlt x hx
    simp only [World.size_alloc]
    omega
  · intro i hi x hx hw
    by_cases e : i = id
    · subst e; rw [setB_same] at hx; have := hR.wlt x hw; omega
    · rw [setB_ne _ _ e] at hx; exact hR.wsep i hi x hx hw

theorem Env.put {s : St} {N : Bs} {a : Act} {w : World} (hE : Env s N β a w) {d : Tmp} {r : A} {v : Value} (hv : V w N β r v) (hd : d < a.tmps.size) :
    Env { s with env := putE s.env d r } N β (a.put (some d) v) w := by
  intro t
  simp only [o_putE, Act.put]
  by_cases e : t = d
  · subst e
    rw [if_pos rfl]
    have : (a.tmps.setIfInBounds t v).getD t undef = v := by simp [hd]
    rw [this]; exact hv
  · rw [if_neg e]
    have : (a.tmps.setIfInBounds d v).getD t undef = a.tmps.getD t undef := by
      simp [Array.getElem?_setIfInBounds_ne (Ne.symm e)]
    rw [this]
    exact hE t

theorem Env.stb {s s' : St} {N N' : Bs} {β' : Nat → Option Loc} {a : Act} {w w' : World} (hE : Env s N β a w) (hs : Stb w N w' N') (hb : Bex β β') (he : s'.env = s.env) : Env s' N' β' a w' :=
  fun t => by rw [he]; exact (hE t).stb hs hb

end
end Go.Am
end
section
set_option linter.all false
namespace Go.Am
section
variable {P : Program} {Γ : Tab} {c : Ctx} {s : St} {β : Nat → Option Loc} {φ : Nat → Bs} {a : Act} {w : World} {N : Bs}

theorem Vs.cs {w : World} {l : List A} {vs : List Value} (h : Vs w N β l vs) (h1 : ∀ u ∈ vs, u.oneCell' = true) : Cs w N β l vs (fun _ => False) := by
  induction l generalizing vs with
  | nil => cases h; exact .nil (fun _ => id)
  | cons x l ih =>
    cases h with
    | cons k1 k2 =>
      exact .cons (F1 := fun _ => False) (F2 := fun _ => False) (.inr ⟨fun _ => id, k1, h1 _ (by simp)⟩) (ih k2 (fun u hu => h1 u (by simp [hu]))) (fun _ h => h.elim) (fun _ => by simp)

/-- An object in a new block. -/
theorem or_new {cs : Array Value} {E : TypeId} {β' : Nat → Option Loc} (hB : Bex β β') {ob : Ob} {vs : Nat → List Value} (hn : ob.n * ob.sz ≤ cs.size)
    (hr : ∀ i, i < ob.n → (vs i).length = ob.sz ∧ ∀ j, j < ob.sz → cs[i * ob.sz + j]? = (vs i)[j]?)
    (hv : ∀ i, i < ob.n → Vs w N β (ob.g i) (vs i) ∧ ∀ u ∈ vs i, u.oneCell' = true) (N' : Bs) (hN' : ∀ b, b < w.heap.size → ¬ N b → ¬ N' b) :
    OR (w.alloc (.cells cs E)) N' β' ⟨w.heap.size, 0, ob.n, ob.sz, false⟩ ob (fun x => x = w.heap.size) := by
  have hS : Stb w N (w.alloc (.cells cs E)) N' := ⟨by simp, fun b hb hn => ⟨RowKit.Below.heap_alloc _ _ _ hb, hN' b hb hn⟩⟩
  have hnew : (w.alloc (.cells cs E)).heap[w.heap.size]? = some (.cells cs E (0, 0)) := heap_alloc_new w _
  refine ⟨rfl, Nat.le_refl _, .inr ⟨rfl, vs, fun _ _ => False, ⟨cs, E, hnew, by simpa using hn⟩, fun i hi => ⟨(hr i hi).1, fun j hj => ?_⟩, fun i hi => ?_, fun _ _ h => h.elim, fun _ _ _ _ _ _ h => h.elim, fun x => ?_⟩⟩
  · rw [← (hr i hi).2 j hj]
    simp only [World.cell?, hnew, Nat.zero_add]
    rfl
  · exact ((hv i hi).1.stb hS hB).cs (hv i hi).2
  · constructor
    · intro h; exact .inl h
    · rintro (h | ⟨_, _, h⟩)
      · exact h
      · exact h.elim

/-- What an operation makes: a block, and a value. -/
def Mks (P : Program) (c : Ctx) (s : St) (β : Nat → Option Loc) (φ : Nat → Bs) (a : Act) (w : World) (o : Oper) (id : Nat) (ob : Ob) (r : A) : Prop :=
  ∃ cs E v L, (execOp a.eval o).run P w = .ok (.value v) (w.alloc (.cells cs E)) ∧ L.b = w.heap.size ∧
    (∀ N', (∀ b, b < w.heap.size → ¬ Ow c.N0 φ b → ¬ N' b) → OR (w.alloc (.cells cs E)) N' (setB β id (some L)) L ob (fun x => x = w.heap.size)) ∧
    ∀ N', V (w.alloc (.cells cs E)) N' (setB β id (some L)) r v

theorem newVar_run (t : TypeId) (v : Value) : (newVar t v).run P w = .ok ⟨w.heap.size, 0, none⟩ (w.alloc (.cells v.cells t)) := by
  simp [newVar, newRow]

theorem zero_run {t : TypeId} {ti : TI} (k : TIok P t ti) : (zeroValue t).run P w = .ok k.z w := by
  simp [zeroValue, info_run k.info, k.zero]

theorem mk_alloc (hΓ : TabOk P Γ) (hR : Rel c s β φ w) {o : Oper} {t : TypeId} {ti : TI} (ho : o.op = .alloc t) (ht : Γ t = some ti) {id : Nat} (h0 : β id = none) :
    Mks P c s β φ a w o id ⟨ti.sz, 1, fun _ => ti.zero⟩ (.ptr id 0 0) := by
  obtain ⟨k⟩ := hΓ t ti ht
  have hl : k.z.cells.toList.length = ti.sz := by rw [← k.zs.length, k.zsz]
  refine ⟨k.z.cells, t, .pointer (some ⟨w.heap.size, 0, none⟩), ⟨w.heap.size, 0, 1, ti.sz, false⟩, ?_, rfl, ?_, ?_⟩
  · simp [execOp, ho, Instr.alloc, zero_run k, newVar_run]
  · exact or_new (N := Ow c.N0 φ) (ob := ⟨ti.sz, 1, fun _ => ti.zero⟩) (vs := fun _ => k.z.cells.toList) (Bex.set h0) (by simp at hl ⊢; omega)
      (fun i hi => ⟨hl, fun j hj => by
        have : i = 0 := by simp at hi; omega
        subst this; simp⟩)
      (fun i hi => ⟨k.zs.vs, k.zs.one⟩)
  · intro N'
    have := V.ptr (w := w.alloc (.cells k.z.cells t)) (N := N') (β := setB β id (some ⟨w.heap.size, 0, 1, ti.sz, false⟩)) (id := id) (i := 0) (j := 0) (setB_same _ _ _) rfl
    simpa using this

theorem mk_box (hE : Env s (Ow c.N0 φ) β a w) {o : Oper} {t : TypeId} {x : Operand} (ho : o.op = .box t x) (hs : stob (cellsOf (aeval s x)) = true) {id : Nat} (h0 : β id = none) :
    Mks P c s β φ a w o id ⟨(cellsOf (aeval s x)).length, 1, fun _ => cellsOf (aeval s x)⟩ (.ptr id 0 0) := by
  obtain ⟨h1, h2⟩ := (aeval_V hE x).cells hs
  have hl := h1.length
  refine ⟨(a.eval x).cells, t, .pointer (some ⟨w.heap.size, 0, none⟩), ⟨w.heap.size, 0, 1, (cellsOf (aeval s x)).length, false⟩, ?_, rfl, ?_, ?_⟩
  · simp [execOp, ho, Instr.box, newVar_run]
  · exact or_new (N := Ow c.N0 φ) (ob := ⟨(cellsOf (aeval s x)).length, 1, fun _ => cellsOf (aeval s x)⟩) (vs := fun _ => (a.eval x).cells.toList) (Bex.set h0) (by simp at hl ⊢; omega)
      (fun i hi => ⟨hl.symm, fun j hj => by
        have : i = 0 := by simp at hi; omega
        subst this; simp⟩)
      (fun i hi => ⟨h1, h2⟩)
  · intro N'
    have := V.ptr (w := w.alloc (.cells (a.eval x).cells t)) (N := N') (β := setB β id (some ⟨w.heap.size, 0, 1, (cellsOf (aeval s x)).length, false⟩)) (id := id) (i := 0) (j := 0) (setB_same _ _ _) rfl
    simpa using this

/-- Repeated zero cells. -/
def repV : Nat → List Value → List Value
  | 0, _ => []
  | n + 1, l => l ++ repV n l

theorem repV_length (n : Nat) (l : List Value) : (repV n l).length = n * l.length := by
  induction n with
  | zero => simp [repV]
  | succ n ih => simp [repV, ih, Nat.add_mul]; omega

theorem zeros_eq (z : Array Value) (n : Nat) : ((Array.range (n * z.size)).map (fun i => z[i % z.size]!)).toList = repV n z.toList := by
  rw [Array.toList_map, Array.toList_range]
  induction n with
  | zero => simp [repV]
  | succ n ih =>
    rw [show (n + 1) * z.size = z.size + n * z.size by rw [Nat.add_mul]; omega, List.range_add, List.map_append, repV, ← ih]
    congr 1
    · apply List.ext_getElem
      · simp
      · intro i h1 h2
        simp at h1
        simp [Nat.mod_eq_of_lt h1, h1]
    · rw [List.map_map]
      apply List.map_congr_left
      intro i _
      simp [Nat.add_mod_left]

theorem repA_vs {l : List A} {vs : List Value} (h : Vs w N β l vs) (n : Nat) : Vs w N β (repA n l) (repV n vs) := by
  induction n with
  | zero => exact .nil
  | succ n ih => exact h.append ih

theorem repV_get (z : List Value) : ∀ (n i j : Nat), i < n → j < z.length → (repV n z)[i * z.length + j]? = z[j]?
  | 0, _, _, h, _ => by omega
  | n + 1, 0, j, _, hj => by simp [repV, List.getElem?_append_left hj]
  | n + 1, i + 1, j, hi, hj => by
    rw [repV, List.getElem?_append_right (by rw [Nat.add_mul]; omega)]
    rw [show (i + 1) * z.length + j - z.length = i * z.length + j by rw [Nat.add_mul]; omega]
    exact repV_get z n i j (by omega) hj

theorem chunksA_get (sz : Nat) : ∀ (n : Nat) (l : List A) (i : Nat), i < n → (chunksA sz n l).getD i [] = (l.drop (i * sz)).take sz
  | 0, _, _, h => by omega
  | n + 1, l, 0, _ => by simp [chunksA]
  | n + 1, l, i + 1, h => by
    have := chunksA_get sz n (l.drop sz) i (by omega)
    simp only [chunksA, List.getD_cons_succ, this, List.drop_drop]
    congr 2
    rw [Nat.add_mul]; omega

theorem mk_buildSlice (hΓ : TabOk P Γ) (hE : Env s (Ow c.N0 φ) β a w) {o : Oper} {t : TypeId} {len : Nat} {parts : Array (Nat × Operand)} (ho : o.op = .buildSlice t len parts)
    {id : Nat} (h0 : β id = none) {C : Prop} {ob : Ob} {r : A} (h : mkOb Γ o s id = some (C, ob, r)) : Mks P c s β φ a w o id ob r := by
  unfold mkOb at h
  simp only [ho] at h
  split at h
  · cases h
  rename_i ti ht
  split at h
  · cases h
  rename_i e q hsub
  split at h
  · cases h
  rename_i te hte
  split at h
  rotate_left
  · cases h
  rename_i hsm
  split at h
  rotate_left
  · cases h
  rename_i cells hf
  cases h
  obtain ⟨kt⟩ := hΓ t ti ht
  obtain ⟨ke⟩ := hΓ e te hte
  have hagg : ti.agg = false := hsm.2
  have hu := kt.slice_und hagg hsub
  obtain ⟨p1, p2⟩ := parts_rel hE parts
  have hzl : ke.z.cells.toList.length = te.sz := by rw [← ke.zs.length, ke.zsz]
  have hzs : ke.z.cells.size = te.sz := by simpa using hzl
  have hrep := zeros_eq ke.z.cells len
  rw [hzs] at hrep
  have hvs : Vs w (Ow c.N0 φ) β (repA len te.zero) ((Array.range (len * te.sz)).map (fun i => ke.z.cells[i % te.sz]!)).toList := by
    rw [hrep]; exact repA_vs ke.zs.vs len
  have hone : ∀ u ∈ ((Array.range (len * te.sz)).map (fun i => ke.z.cells[i % te.sz]!)).toList, u.oneCell' = true := by
    rw [hrep]
    intro u hu
    have : ∀ n, u ∈ repV n ke.z.cells.toList → u ∈ ke.z.cells.toList := by
      intro n
      induction n with
      | zero => intro h; cases h
      | succ n ih => intro h; rw [repV, List.mem_append] at h; exact h.elim (fun h => h) ih
    exact ke.zs.one u (this len hu)
  obtain ⟨ds, f1, f2, f3, f4⟩ := fill_sound (pa := fun i => some (i * te.sz, te.sz)) (pc := fun i => some (i * te.sz, te.sz)) (fun _ => rfl) p1 p2 hvs hone hf
  have hds : ds.size = len * te.sz := by rw [f4]; simp
  have hdl : ds.toList.length = len * te.sz := by simpa using hds
  have hi : ∀ i, i < len → (i + 1) * te.sz ≤ len * te.sz := fun i hi => Nat.mul_le_mul_right _ hi
  refine ⟨ds, e, .slice (some ⟨w.heap.size, 0, none⟩) len len, ⟨w.heap.size, 0, len, te.sz, false⟩, ?_, rfl, ?_, ?_⟩
  · have f1' : Instr.fill (fun i => some (i * te.sz, te.sz)) ((Array.range (len * te.sz)).map (fun i => ke.z.cells[i % te.sz]!)) (List.map (fun x => (x.fst, a.eval x.snd)) parts.toList) = some ds := by simpa using f1
    by_cases h0 : len * te.sz = 0
    · have e1 : ((Array.range (len * te.sz)).map (fun i => ke.z.cells[i % te.sz]!)) = #[] := by rw [h0, show Array.range 0 = #[] from rfl, Array.map_empty]
      rw [e1] at f1'
      simp [execOp, ho, Instr.buildSlice, run_underlying hu, size_run ke.info, ke.sz, h0, show Array.range 0 = #[] from rfl, f1', newRow]
    · have hsm2 : ¬ (16777216 < len * te.sz) := by have := hsm.1; omega
      simp [execOp, ho, Instr.buildSlice, run_underlying hu, size_run ke.info, ke.sz, h0, hsm2, zero_run ke, hzs, f1', newRow]
  · refine or_new (N := Ow c.N0 φ) (ob := ⟨te.sz, len, fun i => (chunksA te.sz len cells).getD i []⟩) (vs := fun i => (ds.toList.drop (i * te.sz)).take te.sz) (Bex.set h0) (by simp [hds]) (fun i hi' => ?_) (fun i hi' => ?_)
    · have := hi i hi'
      rw [Nat.add_mul] at this
      refine ⟨by simp only [List.length_take, List.length_drop, hdl]; omega, fun j hj => ?_⟩
      rw [List.getElem?_take, if_pos hj, List.getElem?_drop]
      simp
    · simp only at hi' ⊢
      rw [chunksA_get _ _ _ _ hi']
      exact ⟨(f2.drop _).take _, fun u hu => f3 u (List.mem_of_mem_drop (List.mem_of_mem_take hu))⟩
  · intro N'
    refine .sl (L := ⟨w.heap.size, 0, len, te.sz, false⟩) (setB_same _ _ _) (by simp) (Nat.le_refl _) (.inr ⟨rfl, by simp⟩)

theorem mk_makeSlice (hΓ : TabOk P Γ) (hE : Env s (Ow c.N0 φ) β a w) {o : Oper} {t : TypeId} {x y : Operand} (ho : o.op = .makeSlice t x y)
    {id : Nat} (h0 : β id = none) {C : Prop} {ob : Ob} {r : A} (h : mkOb Γ o s id = some (C, ob, r)) (hC : C) : Mks P c s β φ a w o id ob r := by
  unfold mkOb at h
  simp only [ho] at h
  split at h
  · cases h
  rename_i ti ht
  split at h
  · cases h
  rename_i e q hsub
  split at h
  rotate_left
  · cases h
  rename_i te n m hte hn hm
  split at h
  rotate_left
  · cases h
  rename_i hagg
  cases h
  obtain ⟨kt⟩ := hΓ t ti ht
  obtain ⟨ke⟩ := hΓ e te hte
  have hu := kt.slice_und hagg hsub
  obtain ⟨k1, e1⟩ := asI_val hn
  obtain ⟨k2, e2⟩ := asI_val hm
  have v1 := aeval_V hE x
  have v2 := aeval_V hE y
  rw [e1] at v1; rw [e2] at v2
  replace v1 := v1.val_eq
  replace v2 := v2.val_eq
  simp only [o_mkC] at hC
  obtain ⟨rfl, hn0, hb, hlt⟩ := hC
  have hzl : ke.z.cells.toList.length = te.sz := by rw [← ke.zs.length, ke.zsz]
  have hzs : ke.z.cells.size = te.sz := by simpa using hzl
  have hw : IntKind.i64.wrap n = n := by
    exact IntWalk.i64_in n (by omega)
  have hrep := zeros_eq ke.z.cells n.toNat
  rw [hzs] at hrep
  refine ⟨(Array.range (n.toNat * te.sz)).map (fun i => ke.z.cells[i % te.sz]!), e, .slice (some ⟨w.heap.size, 0, none⟩) n.toNat n.toNat, ⟨w.heap.size, 0, n.toNat, te.sz, false⟩, ?_, rfl, ?_, ?_⟩
  · have hb' : ¬ (281474976710656 < (te.bytes : Int) * n) := by rw [Int.mul_comm]; omega
    have hneg : ¬ n < 0 := by omega
    by_cases h0 : n.toNat * te.sz = 0
    · simp [execOp, ho, Instr.makeSlice, run_underlying hu, v1, v2, asInt, asIntOf, info_run ke.info, ke.bytes, hw, hneg, hb', size_run ke.info, ke.sz, h0, show Array.range 0 = #[] from rfl, newRow]
    · simp [execOp, ho, Instr.makeSlice, run_underlying hu, v1, v2, asInt, asIntOf, info_run ke.info, ke.bytes, hw, hneg, hb', size_run ke.info, ke.sz, h0, zero_run ke, hzs, newRow]
  · rw [show n.toNat = nat n by simp only [o_nat]]
    refine or_new (N := Ow c.N0 φ) (ob := ⟨te.sz, nat n, fun _ => te.zero⟩) (vs := fun _ => ke.z.cells.toList) (cs := (Array.range (nat n * te.sz)).map (fun i => ke.z.cells[i % te.sz]!)) (Bex.set h0) (by simp) (fun i hi' => ?_) (fun i hi' => ⟨ke.zs.vs, ke.zs.one⟩)
    refine ⟨hzl, fun j hj => ?_⟩
    have hi2 : i < n.toNat := by simpa [o_nat] using hi'
    have := repV_get ke.z.cells.toList n.toNat i j hi2 (by rw [hzl]; exact hj)
    rw [← this, ← hrep, hzl]
    simp only [o_nat]
    rw [← Array.getElem?_toList]
  · intro N'
    simp only [o_nat]
    refine .sl (L := ⟨w.heap.size, 0, n.toNat, te.sz, false⟩) (setB_same _ _ _) (by simp) (Nat.le_refl _) (.inr ⟨rfl, by simp⟩)

end
end Go.Am
end
section
set_option linter.all false
namespace Go.Am
section
variable {P : Program} {Γ : Tab} {c : Ctx} {s : St} {β : Nat → Option Loc} {φ : Nat → Bs} {a : Act} {w : World} {N : Bs}

open Classical in
/-- The objects of 'Z' are used up; the object 'id'' is what they turn into, perhaps with new blocks. -/
theorem Rel.upd (hR : Rel c s β φ w) {Z : Nat → Prop} {id' : Nat} {w' : World} (hRZ : ∀ i, Z i → s.R i = false) (os : w'.os = w.os) (tape : w'.tape = w.tape) (output : w'.output = w.output) (size : w.heap.size ≤ w'.heap.size)
    (hb : ∀ x, x < w.heap.size → (∀ i, Z i → ¬ φ i x) → w'.heap[x]? = w.heap[x]?) {H' : Nat → Option Ob} {D' : Nat → Bool} {β' : Nat → Option Loc} {F' : Bs}
    (hD : ∀ q, D' q = false → s.D q = false ∧ id' / 64 ≠ q) (hB : Bex β β') (hB' : ∀ i, i ≠ id' → β' i = β i) (hg : id' < 10 → β' id' = β id')
    (hH : ∀ i, i ≠ id' → H' i = s.H i ∨ H' i = none) (hZ : ∀ i, Z i → i ≠ id' → H' i = none) (hid : s.H id' ≠ none → Z id')
    (hF : ∀ x, F' x → (∃ i, Z i ∧ φ i x) ∨ (w.heap.size ≤ x ∧ x < w'.heap.size))
    (hor : ∀ N', (∀ b, b < w.heap.size → ¬ Ow c.N0 φ b → ¬ N' b) → ∃ L ob, β' id' = some L ∧ H' id' = some ob ∧ OR w' N' β' L ob F') :
    ∃ φ', Rel c { s with H := H', D := D' } β' φ' w' ∧ Stb w (Ow c.N0 φ) w' (Ow c.N0 φ') := by
  let φ' : Nat → Bs := fun i => if i = id' then F' else if H' i = none then fun _ => False else φ i
  have e1 : φ' id' = F' := if_pos rfl
  have e2 : ∀ i, i ≠ id' → H' i = none → φ' i = fun _ => False := fun i h h' => by simp [φ', h, h']
  have e3 : ∀ i, i ≠ id' → H' i ≠ none → φ' i = φ i := fun i h h' => by simp [φ', h, h']
  have sub : ∀ i, i ≠ id' → ∀ x, φ' i x → φ i x ∧ H' i ≠ none := by
    intro i h x hx
    by_cases hn : H' i = none
    · rw [e2 i h hn] at hx; exact hx.elim
    · rw [e3 i h hn] at hx; exact ⟨hx, hn⟩
  have notZ : ∀ i, i ≠ id' → H' i ≠ none → ¬ Z i := fun i h hn hz => hn (hZ i hz h)
  have hOw : ∀ x, x < w.heap.size → Ow c.N0 φ' x → Ow c.N0 φ x := by
    rintro x hx (h | ⟨i, h⟩)
    · exact .inl h
    · by_cases e : i = id'
      · subst e; rw [e1] at h
        rcases hF x h with ⟨j, _, hj⟩ | ⟨h1, _⟩
        · exact .inr ⟨j, hj⟩
        · omega
      · exact .inr ⟨i, (sub i e x h).1⟩
  have hS : Stb w (Ow c.N0 φ) w' (Ow c.N0 φ') :=
    ⟨size, fun b hb' hn => ⟨hb b hb' (fun i _ hi => hn (.inr ⟨i, hi⟩)), fun h => hn (hOw b hb' h)⟩⟩
  have keep : ∀ i, i ≠ id' → H' i ≠ none → ∀ x, φ i x → w'.heap[x]? = w.heap[x]? := by
    intro i h hn x hx
    refine hb x (hR.lt i x hx) (fun j hj hxj => ?_)
    have : i ≠ j := by rintro rfl; exact notZ i h hn hj
    exact hR.dis i j this x hx hxj
  refine ⟨φ', ?_, hS⟩
  constructor
  · refine hR.fr.trans os tape output size (fun b hb0 hf => hb b (Nat.lt_of_lt_of_le hb0 hR.fr.size) (fun i _ hi => ?_))
    rcases hR.sub i b hi with h | h
    · exact hf h
    · omega
  · intro i hi
    by_cases e : i = id'
    · subst e; rw [hg hi]; exact hR.given i hi
    · rw [hB' i e]; exact hR.given i hi
  · intro q hq i hi
    obtain ⟨h1, h2⟩ := hD q hq
    have : i ≠ id' := by rintro rfl; exact h2 hi
    rw [hB' i this]
    exact hR.fresh q h1 i hi
  · intro i o ho
    replace ho : H' i = some o := ho
    by_cases e : i = id'
    · subst e
      obtain ⟨L, ob, k1, k2, k3⟩ := hor (Ow c.N0 φ') (fun b hb' hn => (hS.keep b hb' hn).2)
      rw [k2] at ho; cases ho
      exact ⟨L, k1, by rw [e1]; exact k3⟩
    · have hn : H' i ≠ none := by rw [ho]; simp
      have hs : s.H i = some o := by
        rcases hH i e with h | h
        · rw [← h]; exact ho
        · exact absurd h hn
      obtain ⟨L, k1, k2⟩ := hR.obj i o hs
      exact ⟨L, hB _ _ k1, by rw [e3 i e hn]; exact k2.stb hS hB (keep i e hn)⟩
  · intro i hi
    replace hi : H' i = none := hi
    by_cases e : i = id'
    · subst e
      obtain ⟨L, ob, _, k2, _⟩ := hor (Ow c.N0 φ') (fun b hb' hn => (hS.keep b hb' hn).2)
      rw [k2] at hi; cases hi
    · rw [e2 i e hi]; exact fun _ h => h
  · intro i j hij x hx hy
    have one : ∀ j, j ≠ id' → F' x → φ' j x → False := by
      intro j e hx hy
      obtain ⟨h1, h2⟩ := sub j e x hy
      rcases hF x hx with ⟨k, hk, hxk⟩ | ⟨hlt, _⟩
      · have : j ≠ k := by rintro rfl; exact notZ j e h2 hk
        exact hR.dis j k this x h1 hxk
      · have := hR.lt j x h1; omega
    by_cases e : i = id'
    · subst e; rw [e1] at hx; exact one j (Ne.symm hij) hx hy
    · by_cases e' : j = id'
      · subst e'; rw [e1] at hy; exact one i e hy hx
      · exact hR.dis i j hij x (sub i e x hx).1 (sub j e' x hy).1
  · intro i x hx
    by_cases e : i = id'
    · subst e; rw [e1] at hx
      rcases hF x hx with ⟨k, _, hk⟩ | ⟨h, _⟩
      · exact hR.sub k x hk
      · exact .inr (Nat.le_trans hR.fr.size h)
    · exact hR.sub i x (sub i e x hx).1
  · intro i x hx hn
    by_cases e : i = id'
    · subst e; rw [e1] at hx
      rcases hF x hx with ⟨k, _, hk⟩ | ⟨h, _⟩
      · exact hR.n0 k x hk hn
      · have := hR.n0lt x hn; have := hR.fr.size; omega
    · exact hR.n0 i x (sub i e x hx).1 hn
  · intro i x hx
    by_cases e : i = id'
    · subst e; rw [e1] at hx
      rcases hF x hx with ⟨k, _, hk⟩ | ⟨_, h⟩
      · exact Nat.lt_of_lt_of_le (hR.lt k x hk) size
      · exact h
    · exact Nat.lt_of_lt_of_le (hR.lt i x (sub i e x hx).1) size
  · exact hR.n0lt
  · exact hR.f0lt
  · exact hR.f0n0
  · intro x hx
    rw [← hR.watch x hx]
    exact hb x (hR.wlt x hx) (fun i hi hxi => hR.wsep i (hRZ i hi) x hxi hx)
  · exact fun x hx => Nat.lt_of_lt_of_le (hR.wlt x hx) size
  · intro i hi x hx hw
    by_cases e : i = id'
    · subst e; rw [e1] at hx
      rcases hF x hx with ⟨k, hk, hxk⟩ | ⟨h, _⟩
      · exact hR.wsep k (hRZ k hk) x hxk hw
      · have := hR.wlt x hw; omega
    · exact hR.wsep i hi x (sub i e x hx).1 hw

/-- The object that lies in cells: its parts. -/
theorem OR.open {L : Loc} {ob : Ob} {F : Bs} (h : OR w N β L ob F) (hn : L.nul = false) :
    ∃ (vs : Nat → List Value) (Fi : Nat → Bs) (cur : Array Value) (E : TypeId), w.heap[L.b]? = some (.cells cur E (0, 0)) ∧ L.off + L.cap * L.sz ≤ cur.size ∧ L.sz = ob.sz ∧ ob.n ≤ L.cap ∧
      (∀ i, i < ob.n → (vs i).length = ob.sz ∧ ∀ j, j < ob.sz → cur[L.off + i * ob.sz + j]? = (vs i)[j]?) ∧
      (∀ i, i < ob.n → Cs w N β (ob.g i) (vs i) (Fi i)) ∧ (∀ i, i < ob.n → ¬ Fi i L.b) ∧
      (∀ i, i < ob.n → ∀ j, j < ob.n → i ≠ j → ∀ x, Fi i x → ¬ Fi j x) ∧ (∀ x, F x ↔ x = L.b ∨ ∃ i, i < ob.n ∧ Fi i x) := by
  obtain ⟨h1, h2, h3⟩ := h
  rcases h3 with ⟨h3, _⟩ | ⟨_, vs, Fi, ⟨cur, E, k0, k1⟩, k2, k3, k4, k5, k6⟩
  · rw [hn] at h3; cases h3
  · refine ⟨vs, Fi, cur, E, k0, k1, h1, h2, fun i hi => ⟨(k2 i hi).1, fun j hj => ?_⟩, k3, k4, k5, k6⟩
    rw [← (k2 i hi).2 j hj]
    simp [World.cell?, k0]

/-- An object, laid anew in its block. -/
theorem OR.redo {L : Loc} (hn : L.nul = false) {old cur : Array Value} {E : TypeId} (hold : w.heap[L.b]? = some (.cells old E (0, 0))) {ob : Ob} (hsz : L.sz = ob.sz) (hcap : ob.n ≤ L.cap)
    (hfit : L.off + L.cap * L.sz ≤ cur.size) {vs : Nat → List Value} {Fi : Nat → Bs}
    (hrow : ∀ i, i < ob.n → (vs i).length = ob.sz ∧ ∀ j, j < ob.sz → cur[L.off + i * ob.sz + j]? = (vs i)[j]?)
    (hel : ∀ i, i < ob.n → Cs (w.setRow L.b cur) N β (ob.g i) (vs i) (Fi i)) (hnb : ∀ i, i < ob.n → ¬ Fi i L.b)
    (hdis : ∀ i, i < ob.n → ∀ j, j < ob.n → i ≠ j → ∀ x, Fi i x → ¬ Fi j x) :
    OR (w.setRow L.b cur) N β L ob (fun x => x = L.b ∨ ∃ i, i < ob.n ∧ Fi i x) := by
  have hh := setRow_heap w L.b old cur E (0, 0) hold
  refine ⟨hsz, hcap, .inr ⟨hn, vs, Fi, ⟨cur, E, hh, hfit⟩, fun i hi => ⟨(hrow i hi).1, fun j hj => ?_⟩, hel, hnb, hdis, fun x => Iff.rfl⟩⟩
  rw [← (hrow i hi).2 j hj]
  simp [World.cell?, hh]

theorem Stb.setRow {b : Nat} {cur : Array Value} (hb : N b) {N' : Bs} (hN : ∀ x, x < w.heap.size → ¬ N x → ¬ N' x) : Stb w N (w.setRow b cur) N' :=
  ⟨by simp, fun x hx hn => ⟨setRow_other w b x cur (by rintro rfl; exact hn hb), hN x hx hn⟩⟩

theorem Cs.weak {l : List A} {vs : List Value} {F F' : Bs} (h : Cs w N β l vs F) (hF : ∀ x, F x ↔ F' x) : Cs w N β l vs F' := by
  have : F = F' := funext fun x => propext (hF x)
  rw [← this]; exact h

theorem Cs.append {l m : List A} {vs us : List Value} {F1 F2 : Bs} (h : Cs w N β l vs F1) (k : Cs w N β m us F2) (hd : ∀ x, F1 x → ¬ F2 x) : Cs w N β (l ++ m) (vs ++ us) (fun x => F1 x ∨ F2 x) := by
  induction l generalizing vs F1 with
  | nil =>
    cases h with
    | nil h => exact k.weak (fun x => ⟨.inr, fun hx => hx.elim (fun hx => absurd hx (h x)) (fun hx => hx)⟩)
  | cons x l ih =>
    cases h with
    | cons h1 h2 h3 h4 =>
      rename_i G1 G2
      have := ih h2 (fun x hx => hd x ((h4 x).2 (.inr hx)))
      refine .cons h1 this (fun x hx hy => ?_) (fun x => ?_)
      · rcases hy with hy | hy
        · exact h3 x hx hy
        · exact hd x ((h4 x).2 (.inl hx)) hy
      · rw [h4 x, or_assoc]

/-- taking and dropping part what is owned. -/
theorem Cs.cut {l : List A} {vs : List Value} {F : Bs} (h : Cs w N β l vs F) : ∀ k, ∃ F1 F2, Cs w N β (l.take k) (vs.take k) F1 ∧ Cs w N β (l.drop k) (vs.drop k) F2 ∧ (∀ x, F1 x → ¬ F2 x) ∧ (∀ x, F x ↔ F1 x ∨ F2 x) := by
  induction l generalizing vs F with
  | nil =>
    intro k
    cases h with
    | nil h => exact ⟨F, F, by simp; exact .nil h, by simp; exact .nil h, fun x hx => absurd hx (h x), fun x => by simp⟩
  | cons x l ih =>
    intro k
    cases h with
    | cons h1 h2 h3 h4 =>
      rename_i G1 G2
      cases k with
      | zero => exact ⟨fun _ => False, F, by simp; exact .nil (fun _ h => h), .cons h1 h2 h3 h4, fun x h => h.elim, fun x => by simp⟩
      | succ k =>
        obtain ⟨F1, F2, e1, e2, e3, e4⟩ := ih h2 k
        refine ⟨fun x => G1 x ∨ F1 x, F2, .cons h1 e1 (fun x hx hy => h3 x hx ((e4 x).2 (.inl hy))) (fun x => Iff.rfl), by simpa using e2, ?_, fun x => ?_⟩
        · rintro x (hx | hx) hy
          · exact h3 x hx ((e4 x).2 (.inr hy))
          · exact e3 x hx hy
        · rw [h4 x, e4 x, or_assoc]

theorem Cs.splice {l m : List A} {vs us : List Value} {F : Bs} (h : Cs w N β l vs F) (k : Cs w N β m us (fun _ => False)) (j : Nat) :
    ∃ F', Cs w N β (splice l j m) (vs.take j ++ us ++ vs.drop (j + us.length)) F' ∧ ∀ x, F' x → F x := by
  obtain ⟨F1, F2, e1, e2, e3, e4⟩ := h.cut j
  obtain ⟨F3, F4, d1, d2, d3, d4⟩ := e2.cut us.length
  refine ⟨fun x => (F1 x ∨ False) ∨ F4 x, ?_, ?_⟩
  · unfold Am.splice
    rw [k.length]
    have := (e1.append k (fun _ _ h => h)).append d2 (by
      rintro x (hx | hx) hy
      · exact e3 x hx ((d4 x).2 (.inr hy))
      · exact hx)
    simpa [List.drop_drop] using this
  · rintro x ((hx | hx) | hx)
    · exact (e4 x).2 (.inl hx)
    · exact hx.elim
    · exact (e4 x).2 (.inr ((d4 x).2 (.inr hx)))

end
end Go.Am
end
section
set_option linter.all false
namespace Go.Am
section
variable {P : Program} {Γ : Tab} {c : Ctx} {s : St} {β : Nat → Option Loc} {φ : Nat → Bs} {a : Act} {w : World} {N : Bs}

def seg (l : List Value) (b : Nat) (us : List Value) : List Value := l.take b ++ us ++ l.drop (b + us.length)

theorem seg_length {l us : List Value} {b : Nat} (h : b + us.length ≤ l.length) : (seg l b us).length = l.length := by
  unfold seg; simp; omega
theorem seg_lt {l us : List Value} {b p : Nat} (h : b + us.length ≤ l.length) (hp : p < b) : (seg l b us)[p]? = l[p]? := by
  unfold seg
  rw [List.append_assoc, List.getElem?_append_left (by simp; omega), List.getElem?_take, if_pos hp]
theorem seg_in {l us : List Value} {b p : Nat} (h : b + us.length ≤ l.length) (hp : b ≤ p) (hq : p < b + us.length) : (seg l b us)[p]? = us[p - b]? := by
  unfold seg
  rw [List.append_assoc, List.getElem?_append_right (by simp; omega), List.getElem?_append_left (by simp; omega)]
  congr 1
  simp; omega
theorem seg_ge {l us : List Value} {b p : Nat} (h : b + us.length ≤ l.length) (hp : b + us.length ≤ p) : (seg l b us)[p]? = l[p]? := by
  unfold seg
  rw [List.append_assoc, List.getElem?_append_right (by simp; omega), List.getElem?_append_right (by simp; omega), List.getElem?_drop]
  congr 1
  simp; omega

theorem ltN_iff {i n : Nat} : ltN i n ↔ i < n := by rw [o_ltN]

/-- Storing cells into an object. -/
theorem Rel.store (hR : Rel c s β φ w) {id : Nat} {ob : Ob} (hid : s.H id = some ob) (hr : s.R id = false) {L : Loc} (hL : β id = some L) (hn : L.nul = false) {i j : Nat} {cs : List A} {us : List Value}
    (hi : i < ob.n) (hj : j + us.length ≤ ob.sz) (hv : Vs w (Ow c.N0 φ) β cs us) (h1 : ∀ u ∈ us, u.oneCell' = true) :
    ∃ (cur : Array Value) (E : TypeId), w.heap[L.b]? = some (.cells cur E (0, 0)) ∧ L.off + i * L.sz + j + us.length ≤ cur.size ∧
      ∃ φ', Rel c { s with H := setH s.H id (some ⟨ob.sz, ob.n, Am.upd ob.n ob.g i (splice (ob.g i) j cs)⟩) } β φ' (w.setRow L.b (seg cur.toList (L.off + i * L.sz + j) us).toArray) ∧
        Stb w (Ow c.N0 φ) (w.setRow L.b (seg cur.toList (L.off + i * L.sz + j) us).toArray) (Ow c.N0 φ') := by
  obtain ⟨L', hL', hor⟩ := hR.obj id ob hid
  rw [hL] at hL'; cases hL'
  obtain ⟨vs, Fi, cur, E, k0, k1, hsz, hcap, krow, kel, knb, kdis, kF⟩ := hor.open hn
  have hfit : L.off + i * L.sz + j + us.length ≤ cur.size := by
    have : (i + 1) * L.sz ≤ L.cap * L.sz := Nat.mul_le_mul_right _ (by omega)
    rw [Nat.add_mul] at this
    omega
  have hfit' : L.off + i * L.sz + j + us.length ≤ cur.toList.length := by simpa using hfit
  have hbO : Ow c.N0 φ L.b := .inr ⟨id, (kF _).2 (.inl rfl)⟩
  refine ⟨cur, E, k0, hfit, ?_⟩
  -- what the element's cells own
  have key : ∀ N', (∀ b, b < w.heap.size → ¬ Ow c.N0 φ b → ¬ N' b) → Stb w (Ow c.N0 φ) (w.setRow L.b (seg cur.toList (L.off + i * L.sz + j) us).toArray) N' :=
    fun N' hN' => Stb.setRow hbO hN'
  obtain ⟨G, hG1, hG2⟩ := (kel i hi).splice ((hv.cs h1)) j
  let Fi' : Nat → Bs := fun k => if k = i then G else Fi k
  let vs' : Nat → List Value := fun k => if k = i then (vs i).take j ++ us ++ (vs i).drop (j + us.length) else vs k
  have hFi : ∀ k x, Fi' k x → Fi k x := by
    intro k x hx
    by_cases e : k = i
    · subst e; simp only [Fi', if_pos] at hx; exact hG2 x hx
    · simp only [Fi', if_neg e] at hx; exact hx
  refine Rel.upd (Z := fun k => k = id) (id' := id) (w' := w.setRow L.b (seg cur.toList (L.off + i * L.sz + j) us).toArray) hR (fun k hk => by rw [hk]; exact hr) rfl rfl rfl (by simp) (fun x hx hz => setRow_other w L.b x _ (by rintro rfl; exact hz id rfl ((kF _).2 (.inl rfl))))
    (β' := β) (F' := fun x => x = L.b ∨ ∃ k, k < ob.n ∧ Fi' k x) (fun q hq => ⟨hq, ?_⟩) (Bex.refl β) (fun _ _ => rfl) (fun _ => rfl) (fun k hk => .inl (setH_ne _ _ hk)) (fun k hk hk' => absurd hk hk') (fun _ => rfl)
    (fun x hx => .inl ⟨id, rfl, (kF x).2 (hx.imp (fun h => h) (fun ⟨k, hk, hx⟩ => ⟨k, hk, hFi k x hx⟩))⟩) (fun N' hN' => ⟨L, _, hL, setH_same _ _ _, ?_⟩)
  · rintro rfl
    have := hR.fresh _ hq id rfl
    rw [hL] at this; cases this
  · have hS := key N' hN'
    refine OR.redo (ob := ⟨ob.sz, ob.n, Am.upd ob.n ob.g i (splice (ob.g i) j cs)⟩) hn k0 hsz hcap (by rw [List.size_toArray, seg_length hfit']; simpa using k1) (vs := vs') (Fi := Fi') (fun k hk => ?_) (fun k hk => ?_) (fun k hk => ?_) (fun k hk l hl hkl x hx hy => kdis k hk l hl hkl x (hFi k x hx) (hFi l x hy))
    · obtain ⟨r1, r2⟩ := krow k hk
      by_cases e : k = i
      · subst e
        simp only [vs', if_pos]
        refine ⟨?_, fun m hm => ?_⟩
        · have := (seg_length (l := vs k) (us := us) (b := j) (by rw [r1]; exact hj))
          unfold seg at this
          rw [this, r1]
        · show (seg cur.toList _ us).toArray[_]? = (seg (vs k) j us)[m]?
          rw [List.getElem?_toArray]
          rw [hsz] at hfit' ⊢
          by_cases c1 : m < j
          · rw [seg_lt hfit' (by omega), seg_lt (by rw [r1]; exact hj) c1, ← r2 m hm]; simp
          · by_cases c2 : m < j + us.length
            · rw [seg_in hfit' (by omega) (by omega), seg_in (by rw [r1]; exact hj) (by omega) c2]
              congr 1; omega
            · rw [seg_ge hfit' (by omega), seg_ge (by rw [r1]; exact hj) (by omega), ← r2 m hm]; simp
      · simp only [vs', if_neg e]
        refine ⟨r1, fun m hm => ?_⟩
        rw [List.getElem?_toArray, ← r2 m hm]
        rw [hsz] at hfit' ⊢
        rcases Nat.lt_or_gt_of_ne e with h | h
        · have : (k + 1) * ob.sz ≤ i * ob.sz := Nat.mul_le_mul_right _ (by omega)
          rw [Nat.add_mul] at this
          rw [seg_lt hfit' (by omega)]; simp
        · have : (i + 1) * ob.sz ≤ k * ob.sz := Nat.mul_le_mul_right _ (by omega)
          rw [Nat.add_mul] at this
          rw [seg_ge hfit' (by omega)]; simp
    · by_cases e : k = i
      · subst e
        simp only [Fi', vs', o_upd (by first | assumption | omega), if_pos]
        exact hG1.stb hS (Bex.refl β) (fun x hx => setRow_other w L.b x _ (by rintro rfl; exact knb k hk (hG2 _ hx)))
      · simp only [Fi', vs', o_upd (by first | assumption | omega), if_neg e]
        exact (kel k hk).stb hS (Bex.refl β) (fun x hx => setRow_other w L.b x _ (by rintro rfl; exact knb k hk hx))
    · intro hx; exact knb k hk (hFi k _ hx)

variable {AC : FuncId → List A → Nat → St → (A → St → Prop) → Prop}

/-- The slot that an operation writes is there. -/
def dstOk (nt : Nat) (o : Oper) : Bool :=
  match o.dst with
  | some d => decide (d < nt)
  | none => true

theorem Tells.put {c : Ctx} {s s' : St} {β' : Nat → Option Loc} {φ' : Nat → Bs} {a : Act} {w w' : World} {N : Bs} (hE : Env s N β a w) (hdf : a.defers = []) (hnt : a.tmps.size = c.nt)
    (hR : Rel c s' β' φ' w') (hS : Stb w N w' (Ow c.N0 φ')) (hB : Bex β β') (he : s'.env = s.env) {o : Oper} (hd : dstOk c.nt o = true) {r : A} {v : Value} (hv : V w' (Ow c.N0 φ') β' r v) :
    Tells c (put s' o.dst r) (a.put o.dst v) w' := by
  have hE' : Env s' (Ow c.N0 φ') β' a w' := hE.stb hS hB he
  unfold Am.put dstOk at *
  cases e : o.dst with
  | none => exact ⟨β', φ', hR, hE', hdf, hnt⟩
  | some d =>
    rw [e] at hd
    simp only [decide_eq_true_eq] at hd
    refine ⟨β', φ', ⟨hR.fr, hR.given, hR.fresh, hR.obj, hR.dead, hR.dis, hR.sub, hR.n0, hR.lt, hR.n0lt, hR.f0lt, hR.f0n0, hR.watch, hR.wlt, hR.wsep⟩, hE'.put hv (by rw [hnt]; exact hd), hdf, by simp [Act.put, hnt]⟩

theorem eff_store (hΓ : TabOk P Γ) (hT : Tells c s a w) {o : Oper} {t : TypeId} {p x : Operand} (ho : o.op = .store t p x) (hd : dstOk c.nt o = true) {K : St → Prop} (h : eff AC Γ o s K)
    {next : Act → World → Prop} {Q : Exit → Act → World → Prop} (hK : ∀ s' a' w', Tells c s' a' w' → K s' → next a' w') : o.wp P a w next Q := by
  obtain ⟨β, φ, hR, hE, hdf, hnt⟩ := hT
  unfold eff at h
  simp only [ho] at h
  split at h
  rotate_left
  · exact h.elim
  rename_i ti id i j ht hp
  split at h
  · exact h.elim
  rename_i ob hob
  split at h
  rotate_left
  · exact h.elim
  rename_i hcc
  obtain ⟨hi, h⟩ := h
  rw [ltN_iff] at hi
  obtain ⟨kt⟩ := hΓ t ti ht
  have hpv := aeval_V hE p
  rw [hp] at hpv
  obtain ⟨L, hL, hn, ev⟩ := hpv.ptr_eq
  obtain ⟨hv, h1⟩ := (aeval_V hE x).cells hcc.2.2.1
  have hlen : (a.eval x).cells.toList.length = ti.sz := by rw [← hv.length, hcc.1]
  obtain ⟨cur, E, k0, hfit, φ', hR', hS⟩ := hR.store hob hcc.2.2.2 hL hn hi (j := j) (by rw [hlen]; exact hcc.2.1) hv h1
  have hrun := run_storeCells_at P L.b (L.off + i * L.sz + j) E (a.eval x).cells.toList 0 cur w k0 (by simpa using hfit) h1
  simp only [Nat.add_zero] at hrun
  refine show o.upon P a next Q ((execOp a.eval o).run P w) from ?_
  have hexec : (execOp a.eval o).run P w = .ok .skip (w.setRow L.b (seg cur.toList (L.off + i * L.sz + j) (a.eval x).cells.toList).toArray) := by
    have hsz : (a.eval x).cells.size = ti.sz := by simpa using hlen
    simp [execOp, ho, Instr.storeAt, ev, Instr.sureAddr, storeVar, size_run kt.info, kt.sz, hsz, hrun, seg]
  rw [hexec]
  refine hK _ _ _ (Tells.put hE hdf hnt hR' hS (Bex.refl β) rfl hd .any) h

end
end Go.Am
end
