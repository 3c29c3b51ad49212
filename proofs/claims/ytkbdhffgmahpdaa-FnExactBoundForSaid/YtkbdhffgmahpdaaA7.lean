/- What functions do: contracts, how they are shown. · What functions do: a function's contract, out of its code. · Calls of functions whose contracts are known. · Steps that only the state makes: forgetting, renaming, closing. · Closing: an object that a cell of another names becomes that cell's own. · The table of types, checked. -/
import Derived.Test.YtkbdhffgmahpdaaA6
section
set_option linter.all false
namespace Go.Am
section
variable {P : Program} {Γ : Tab} {c : Ctx} {s : St} {β : Nat → Option Loc} {φ : Nat → Bs} {a : Act} {w : World} {N : Bs}
variable {AC : FuncId → List A → Nat → St → (A → St → Prop) → Prop}

/-- A cell of a result that owns nothing, or owns one object. -/
inductive Oc (H : Nat → Option Ob) : A → A → List Nat → Prop
  | val {v} : Oc H (.val v) (.val v) []
  | emp : Oc H .emp .emp []
  | empo {o sz g} : Oc H .emp (.slc o sz 0 g) []
  | fro {sz n g} : Oc H (.slc false sz n g) (.slc false sz n g) []
  | sl {id n ob} : H id = some ob → n ≤ ob.n → (∀ i, i < n → (ob.g i).all clo1 = true) → Oc H (.sl id 0 n) (.slc true ob.sz n ob.g) [id]
inductive Ocs (H : Nat → Option Ob) : List A → List A → List Nat → Prop
  | nil : Ocs H [] [] []
  | cons {a a' l l' i j} : Oc H a a' i → Ocs H l l' j → (∀ x, x ∈ i → x ∉ j) → Ocs H (a :: l) (a' :: l') (i ++ j)
inductive Oz1 (H : Nat → Option Ob) : A → A → List Nat → Prop
  | one {a a' i} : Oc H a a' i → Oz1 H a a' i
  | agg {l l' i} : Ocs H l l' i → Oz1 H (.agg l) (.agg l') i
inductive Ozs (H : Nat → Option Ob) : List A → List A → List Nat → Prop
  | nil : Ozs H [] [] []
  | cons {a a' l l' i j} : Oz1 H a a' i → Ozs H l l' j → (∀ x, x ∈ i → x ∉ j) → Ozs H (a :: l) (a' :: l') (i ++ j)
/-- A result, handed over with the objects that it owns. -/
inductive Oz (H : Nat → Option Ob) : A → A → List Nat → Prop
  | one {a a' i} : Oz1 H a a' i → Oz H a a' i
  | tup {l l' i} : Ozs H l l' i → Oz H (.tup l) (.tup l') i

theorem Cs.ks {l : List A} {vs : List Value} {F : Bs} (h : Cs w N β l vs F) (hc : l.all clo1 = true) : Ks w N l vs F := by
  induction l generalizing vs F with
  | nil => cases h with | nil h => exact .nil h
  | cons x l ih =>
    cases h with
    | cons h1 h2 h3 h4 =>
      simp only [List.all_cons, Bool.and_eq_true] at hc
      exact .cons (h1.k hc.1) (ih h2 hc.2) h3 h4

def Fids (φ : Nat → Bs) (i : List Nat) : Bs := fun x => ∃ k, k ∈ i ∧ φ k x

theorem Oc.k (hR : Rel c s β φ w) {a a' : A} {i : List Nat} (h : Oc s.H a a' i) {v : Value} (hv : V w (Ow c.N0 φ) β a v) : ∃ F, K w (Ow c.N0 φ) a' v F ∧ (∀ x, F x → Fids φ i x) ∧ clo1 a' = true := by
  cases h with
  | val => exact ⟨_, (hv.clo1 (by rw [hv.val_eq]; exact hv.val_one)).k rfl, fun _ h => h.elim, rfl⟩
  | emp => obtain ⟨a, rfl⟩ := hv.emp_eq; exact ⟨fun _ => False, .emp nobF, fun _ h => h.elim, rfl⟩
  | empo =>
    obtain ⟨a, rfl⟩ := hv.emp_eq
    rename_i o sz g
    cases o
    · exact ⟨fun _ => False, .fro0 nobF, fun _ h => h.elim, rfl⟩
    · exact ⟨fun _ => False, .own0 nobF, fun _ h => h.elim, rfl⟩
  | fro =>
    cases hv with
    | clo h1 h2 => exact ⟨fun _ => False, h1.nobd h2 nobF, fun _ h => h.elim, rfl⟩
  | sl hob hn hg =>
    rename_i id n ob
    obtain ⟨L, ad, cp, l1, rfl, l2, l3, l4⟩ := hv.sl_eq
    obtain ⟨L', q1, z1, z2, z3⟩ := hR.obj id ob hob
    rw [l1] at q1; cases q1
    rcases l4 with rfl | ⟨hnn, rfl⟩
    · have : n = 0 := by omega
      subst this
      exact ⟨fun _ => False, .own0 nobF, fun _ h => h.elim, rfl⟩
    · rcases z3 with ⟨z3, _⟩ | ⟨_, vs, Fi, y1, y2, y3, y4, y5, y6⟩
      · rw [hnn] at z3; cases z3
      have hblk : Blk w L.b (L.off + 0 * L.sz) (cp * ob.sz) := by
        obtain ⟨cs, E, e1, e2⟩ := y1
        refine ⟨cs, E, e1, ?_⟩
        have : cp * ob.sz ≤ L.cap * L.sz := by rw [z1]; exact Nat.mul_le_mul_right _ (by omega)
        omega
      have hrow : Row w L.b (L.off + 0 * L.sz) ob.sz n vs := by
        have := y2.shift (l := 0) (m := n) (by omega)
        rw [← z1] at this ⊢
        simpa using this
      refine ⟨fun x => x = L.b ∨ ∃ i, i < n ∧ Fi i x, .own hblk l3 hrow (fun i hi => (y3 i (by omega)).ks (hg i hi)) (fun i hi => y4 i (by omega)) (fun i hi j hj => y5 i (by omega) j (by omega)) (fun x => Iff.rfl), ?_, rfl⟩
      rintro x (rfl | ⟨i, hi, hx⟩)
      · exact ⟨id, by simp, (y6 _).2 (.inl rfl)⟩
      · exact ⟨id, by simp, (y6 x).2 (.inr ⟨i, by omega, hx⟩)⟩

theorem Fids_dis (hR : Rel c s β φ w) {i j : List Nat} (h : ∀ x, x ∈ i → x ∉ j) (x : Nat) (h1 : Fids φ i x) (h2 : Fids φ j x) : False := by
  obtain ⟨k, hk, hx⟩ := h1
  obtain ⟨m, hm, hy⟩ := h2
  have : k ≠ m := by rintro rfl; exact h k hk hm
  exact hR.dis k m this x hx hy

theorem Ocs.k (hR : Rel c s β φ w) {l l' : List A} {i : List Nat} (h : Ocs s.H l l' i) : ∀ {vs : List Value}, Vs w (Ow c.N0 φ) β l vs → ∃ F, Ks w (Ow c.N0 φ) l' vs F ∧ (∀ x, F x → Fids φ i x) := by
  induction h with
  | nil => intro vs hv; cases hv; exact ⟨fun _ => False, .nil nobF, fun _ h => h.elim⟩
  | cons h1 h2 h3 ih =>
    intro vs hv
    cases hv with
    | cons k1 k2 =>
      obtain ⟨F1, p1, p2, _⟩ := h1.k hR k1
      obtain ⟨F2, q1, q2⟩ := ih k2
      refine ⟨fun x => F1 x ∨ F2 x, .cons p1 q1 (fun x hx hy => Fids_dis hR h3 x (p2 x hx) (q2 x hy)) (fun x => Iff.rfl), ?_⟩
      rintro x (hx | hx)
      · obtain ⟨k, hk, h⟩ := p2 x hx; exact ⟨k, by simp [hk], h⟩
      · obtain ⟨k, hk, h⟩ := q2 x hx; exact ⟨k, by simp [hk], h⟩

theorem Oz1.k (hR : Rel c s β φ w) {a a' : A} {i : List Nat} (h : Oz1 s.H a a' i) {v : Value} (hv : V w (Ow c.N0 φ) β a v) : ∃ F, Kt1 w (Ow c.N0 φ) a' v F ∧ (∀ x, F x → Fids φ i x) := by
  cases h with
  | one h =>
    obtain ⟨F, h1, h2, h3⟩ := h.k hR hv
    exact ⟨F, .one h3 h1, h2⟩
  | agg h =>
    obtain ⟨cs, rfl, hv'⟩ := hv.agg_eq
    obtain ⟨F, h1, h2⟩ := h.k hR hv'
    exact ⟨F, .agg h1, h2⟩

theorem Ozs.k (hR : Rel c s β φ w) {l l' : List A} {i : List Nat} (h : Ozs s.H l l' i) : ∀ {vs : List Value}, Vs w (Ow c.N0 φ) β l vs → ∃ F, Kts w (Ow c.N0 φ) l' vs F ∧ (∀ x, F x → Fids φ i x) := by
  induction h with
  | nil => intro vs hv; cases hv; exact ⟨fun _ => False, .nil nobF, fun _ h => h.elim⟩
  | cons h1 h2 h3 ih =>
    intro vs hv
    cases hv with
    | cons k1 k2 =>
      obtain ⟨F1, p1, p2⟩ := h1.k hR k1
      obtain ⟨F2, q1, q2⟩ := ih k2
      refine ⟨fun x => F1 x ∨ F2 x, .cons p1 q1 (fun x hx hy => Fids_dis hR h3 x (p2 x hx) (q2 x hy)) (fun x => Iff.rfl), ?_⟩
      rintro x (hx | hx)
      · obtain ⟨k, hk, h⟩ := p2 x hx; exact ⟨k, by simp [hk], h⟩
      · obtain ⟨k, hk, h⟩ := q2 x hx; exact ⟨k, by simp [hk], h⟩

theorem Oz.k (hR : Rel c s β φ w) {a a' : A} {i : List Nat} (h : Oz s.H a a' i) {v : Value} (hv : V w (Ow c.N0 φ) β a v) : ∃ F, Kt w (Ow c.N0 φ) a' v F ∧ (∀ x, F x → Fids φ i x) := by
  cases h with
  | one h =>
    obtain ⟨F, h1, h2⟩ := h.k hR hv
    exact ⟨F, .one h1, h2⟩
  | tup h =>
    obtain ⟨cs, rfl, hv'⟩ := hv.tup_eq
    obtain ⟨F, h1, h2⟩ := h.k hR hv'
    exact ⟨F, .tup h1, h2⟩

/-- A closed value that is no 'any'. -/
def ok1 : A → Bool
  | .val _ | .emp | .slc .. => true
  | _ => false
def okR1 : A → Bool
  | .agg l => l.all ok1
  | a => ok1 a
def okR : A → Bool
  | .tup l => l.all okR1
  | a => okR1 a

theorem V.k1 {a : A} {v : Value} (h : V w N (fun _ => none) a v) (ha : ok1 a = true) : K w N a v (fun _ => False) ∧ Am.clo1 a = true := by
  cases h with
  | clo h1 h2 => exact ⟨h1.nobd h2 nobF, by cases a <;> first | rfl | cases ha⟩
  | _ => cases ha

theorem Vs.ks1 {l : List A} {vs : List Value} (h : Vs w N (fun _ => none) l vs) (hl : l.all ok1 = true) : Ks w N l vs (fun _ => False) := by
  induction l generalizing vs with
  | nil => cases h; exact .nil nobF
  | cons x l ih =>
    cases h with
    | cons h1 h2 =>
      simp only [List.all_cons, Bool.and_eq_true] at hl
      exact .cons (h1.k1 hl.1).1 (ih h2 hl.2) (fun _ h => h.elim) (fun x => by simp)

theorem V.kt1 {a : A} {v : Value} (h : V w N (fun _ => none) a v) (ha : okR1 a = true) : Kt1 w N a v (fun _ => False) := by
  cases a with
  | agg l => obtain ⟨cs, rfl, hv⟩ := h.agg_eq; exact .agg (hv.ks1 ha)
  | _ => exact .one (h.k1 ha).2 (h.k1 ha).1

theorem Vs.kts {l : List A} {vs : List Value} (h : Vs w N (fun _ => none) l vs) (hl : l.all okR1 = true) : Kts w N l vs (fun _ => False) := by
  induction l generalizing vs with
  | nil => cases h; exact .nil nobF
  | cons x l ih =>
    cases h with
    | cons h1 h2 =>
      simp only [List.all_cons, Bool.and_eq_true] at hl
      exact .cons (h1.kt1 hl.1) (ih h2 hl.2) (fun _ h => h.elim) (fun x => by simp)

theorem V.kt {a : A} {v : Value} (h : V w N (fun _ => none) a v) (ha : okR a = true) : Kt w N a v (fun _ => False) := by
  cases a with
  | tup l => obtain ⟨cs, rfl, hv⟩ := h.tup_eq; exact .tup (hv.kts ha)
  | _ => exact .one (h.kt1 ha)

end
end Go.Am
end
section
set_option linter.all false
namespace Go.Am
section
variable {P : Program} {Γ : Tab} {c : Ctx} {s : St} {β : Nat → Option Loc} {φ : Nat → Bs} {a : Act} {w : World} {N : Bs}
variable {AC : FuncId → List A → Nat → St → (A → St → Prop) → Prop}

theorem Kt1.less {N' : Bs} (hN : ∀ x, N' x → N x) {a : A} {v : Value} {F : Bs} (h : Kt1 w N a v F) : Kt1 w N' a v F := by
  cases h with
  | one h1 h2 => exact .one h1 (h2.less hN)
  | agg h => exact .agg (h.less hN)
theorem Kts.less {N' : Bs} (hN : ∀ x, N' x → N x) {l : List A} {vs : List Value} {F : Bs} (h : Kts w N l vs F) : Kts w N' l vs F := by
  induction h with
  | nil h => exact .nil h
  | cons h1 h2 h3 h4 ih => exact .cons (h1.less hN) ih h3 h4
theorem Kt.less {N' : Bs} (hN : ∀ x, N' x → N x) {a : A} {v : Value} {F : Bs} (h : Kt w N a v F) : Kt w N' a v F := by
  cases h with
  | one h => exact .one (h.less hN)
  | tup h => exact .tup (h.less hN)

/-- A function's contract: of arguments that nobody writes, told by 'as', it returns what 'post' tells, perhaps with memory of its own, and nothing that was there changes. -/
def Fnk (P : Program) (f : FuncId) (as : List A) (post : A → Prop) : Prop :=
  Callable P f ∧ ∀ (w : World) (N : Bs) (vs : List Value), (∀ x, N x → x < w.heap.size) → Vs w N (fun _ => none) as vs →
    Calls P f vs.toArray w (fun e w' => ∃ v, e = .returned v ∧ ∃ r F, post r ∧ Kt w' (fun x => N x ∨ F x) r v F ∧ (∀ x, F x → w.heap.size ≤ x ∧ x < w'.heap.size) ∧ Same w w')

def ldOp (t : TypeId) (x : Tmp) : Oper := { dst := none, op := .load t (.tmp x), type := t, pos := "", after := #[], guard := none }

/-- The result, out of a state. -/
noncomputable def resOne (Γ : Tab) (s : St) : ResultVar → Option (Prop × A)
  | .tmp t => some (True, s.env t)
  | .cell x t =>
    match s.env x with
    | .ptr .. => pev Γ (ldOp t x) s
    | _ => none

noncomputable def resA (Γ : Tab) (s : St) : List ResultVar → Option (Prop × List A)
  | [] => some (True, [])
  | r :: l =>
    match resOne Γ s r, resA Γ s l with
    | some (c1, a), some (c2, m) => some (c1 ∧ c2, a :: m)
    | _, _ => none

def oneR : List A → A
  | [a] => a
  | l => .tup l

/-- The result r is told, perhaps as one that is only read from now on. -/
def FinRR (post : A → Prop) (s : St) (r : A) : Prop := ∃ r', (Fz s.H r r' ∧ okR r' = true ∨ ∃ ids, Oz s.H r r' ids) ∧ post r'

@[reducible] noncomputable def FinR (post : A → Prop) (s : St) (r : A) : Prop := opq FinRR post s r
theorem o_FinR (post : A → Prop) (s : St) (r : A) : FinR post s r = ∃ r', (Fz s.H r r' ∧ okR r' = true ∨ ∃ ids, Oz s.H r r' ids) ∧ post r' := by show opq FinRR post s r = _; rw [opq_eq]; rfl
theorem FinR.of {post : A → Prop} {s : St} {r : A} (h : ∃ r', (Fz s.H r r' ∧ okR r' = true ∨ ∃ ids, Oz s.H r r' ids) ∧ post r') : FinR post s r := Eq.mpr (o_FinR _ _ _) h

/-- At a function's end. -/
def FinAxR (Γ : Tab) (results : List ResultVar) (post : A → Prop) (s : St) : Prop :=
  ∃ s', Le s s' ∧ ∃ C l, resA Γ s' results = some (C, l) ∧ C ∧ FinR post s' (oneR l)
@[reducible] noncomputable def FinAx (Γ : Tab) (results : List ResultVar) (post : A → Prop) (s : St) : Prop := opq FinAxR Γ results post s
theorem o_FinAx (Γ : Tab) (results : List ResultVar) (post : A → Prop) (s : St) : FinAx Γ results post s = ∃ s', Le s s' ∧ ∃ C l, resA Γ s' results = some (C, l) ∧ C ∧ FinR post s' (oneR l) := by
  show opq FinAxR Γ results post s = _; rw [opq_eq]; rfl
theorem FinAx.of {Γ : Tab} {results : List ResultVar} {post : A → Prop} {s : St} (h : ∃ s', Le s s' ∧ ∃ C l, resA Γ s' results = some (C, l) ∧ C ∧ FinR post s' (oneR l)) : FinAx Γ results post s := Eq.mpr (o_FinAx _ _ _ _) h

def resNow (Γ : Tab) (results : List ResultVar) (post : A → Prop) (s : St) : Prop :=
  match resA Γ s results with
  | some (C, l) => C ∧ FinR post s (oneR l)
  | none => False

theorem FinAx.here {Γ : Tab} {results : List ResultVar} {post : A → Prop} {s : St} (h : resNow Γ results post s) : FinAx Γ results post s := by
  unfold resNow at h
  split at h
  · rename_i C l hr
    exact FinAx.of ⟨s, fun _ _ _ h => h, C, l, hr, h.1, h.2⟩
  · exact h.elim

theorem FinAx.after {Γ : Tab} {results : List ResultVar} {post : A → Prop} {s s' : St} (hl : Le s s') (h : FinAx Γ results post s') : FinAx Γ results post s := by
  obtain ⟨s2, h1, h2⟩ := Eq.mp (o_FinAx _ _ _ _) h
  exact FinAx.of ⟨s2, fun _ _ _ h => h1 _ _ _ (hl _ _ _ h), h2⟩

theorem FinR.val {post : A → Prop} {s : St} {v : Value} (h : post (.val v)) : FinR post s (.val v) := FinR.of ⟨_, .inl ⟨.val, rfl⟩, h⟩

theorem FinR.own {post : A → Prop} {s : St} {id n : Nat} {ob : Ob} (h : s.H id = some ob) (hn : n ≤ ob.n) (hc : ∀ k, k < n → (ob.g k).all clo1 = true) (hp : post (.slc true ob.sz n ob.g)) :
    FinR post s (.sl id 0 n) := FinR.of ⟨_, .inr ⟨[id], .one (.one (.sl h hn hc))⟩, hp⟩

def finK (Γ : Tab) (results : List ResultVar) (post : A → Prop) : Ex → St → Prop
  | .normal, s => FinAx Γ results post s
  | .ret, s => FinAx Γ results post s
  | _, _ => False

def start (as : List A) : St := { env := fun t => as.getD t .any, H := fun _ => none, D := fun q => q == 0, R := fun _ => false }

def resV (tmps : Array Value) : ResultVar → Sem Value
  | .tmp t => pure (tmps.getD t Go.undef)
  | .cell x t => do loadVar t (← asAddr (tmps.getD x Go.undef))

theorem results_eq (fn : Func) (tmps : Array Value) : results fn tmps = (do let vs ← fn.results.mapM (resV tmps); pure (if h : vs.size = 1 then vs[0] else .tuple vs)) := rfl

theorem resOne_sound (hΓ : TabOk P Γ) (hO : Objs s N β w) (hE : Env s N β a w) {rv : ResultVar} {C : Prop} {r : A} (h : resOne Γ s rv = some (C, r)) (hC : C) :
    ∃ v, V w N β r v ∧ (resV a.tmps rv).run P w = .ok v w := by
  cases rv with
  | tmp t =>
    simp only [resOne, Option.some.injEq, Prod.mk.injEq] at h
    obtain ⟨rfl, rfl⟩ := h
    exact ⟨_, hE t, rfl⟩
  | cell x t =>
    unfold resOne at h
    simp only at h
    split at h
    rotate_left
    · cases h
    rename_i id i j hx
    obtain ⟨u, h1, h2⟩ := exec_load hΓ hO (o := ldOp t x) rfl hE h hC
    have hp := hE x
    rw [hx] at hp
    obtain ⟨L, hL, hn, ev⟩ := hp.ptr_eq
    have h1 := h1 w (Alike.refl _ _ _)
    have ev' : a.eval (.tmp x) = .pointer (some ⟨L.b, L.off + i * L.sz + j, none⟩) := ev
    refine ⟨u, h2, ?_⟩
    simp only [resV, ev, asAddr, Sem.run_bind, Sem.run_pure, Result.andThen_ok]
    simp only [execOp, ldOp, ev', Instr.loadAt, Instr.sureAddr, Sem.run_bind, Sem.run_pure, Result.andThen_ok] at h1
    cases q : (loadVar t ⟨L.b, L.off + i * L.sz + j, none⟩).run P w with
    | ok v' w' =>
      rw [q] at h1
      simp only [Result.andThen_ok, Result.ok.injEq, Next.value.injEq] at h1
      rw [h1.1, h1.2]
    | halt e w' =>
      rw [q] at h1
      cases h1

theorem resA_sound (hΓ : TabOk P Γ) (hO : Objs s N β w) (hE : Env s N β a w) : ∀ {l : List ResultVar} {C : Prop} {m : List A}, resA Γ s l = some (C, m) → C →
    ∃ vs, Vs w N β m vs ∧ (l.mapM (resV a.tmps)).run P w = .ok vs w
  | [], C, m, h, _ => by
    cases h
    exact ⟨[], .nil, by simp⟩
  | rv :: l, C, m, h, hC => by
    unfold resA at h
    split at h
    rotate_left
    · cases h
    rename_i c1 x c2 m' h1 h2
    cases h
    obtain ⟨v, q1, q2⟩ := resOne_sound hΓ hO hE h1 hC.1
    obtain ⟨vs, q3, q4⟩ := resA_sound hΓ hO hE h2 hC.2
    refine ⟨v :: vs, .cons q1 q3, ?_⟩
    rw [List.mapM_cons]
    simp only [Sem.run_bind]
    rw [q2]
    simp only [Result.andThen_ok, Sem.run_bind]
    rw [q4]
    simp

theorem results_run (hΓ : TabOk P Γ) (hO : Objs s N β w) (hE : Env s N β a w) {fn : Func} {C : Prop} {m : List A} (h : resA Γ s fn.results.toList = some (C, m)) (hC : C) :
    ∃ v, V w N β (oneR m) v ∧ (results fn a.tmps).run P w = .ok v w := by
  obtain ⟨vs, h1, h2⟩ := resA_sound hΓ hO hE h hC
  have hm : (fn.results.mapM (resV a.tmps)).run P w = .ok vs.toArray w := by
    rw [Array.mapM_eq_mapM_toList, ← bind_pure_comp]
    simp only [Sem.run_bind]
    rw [h2]
    rfl
  rw [results_eq]
  simp only [Sem.run_bind]
  rw [hm]
  simp only [Result.andThen_ok, Sem.run_pure]
  cases h1 with
  | nil => exact ⟨_, .tup (cs := #[]) .nil, by simp⟩
  | cons k1 k2 =>
    cases k2 with
    | nil => exact ⟨_, k1, by simp⟩
    | cons k2 k3 => exact ⟨_, .tup (cs := (_ :: _ :: _ : List Value).toArray) (.cons k1 (.cons k2 k3)), by simp⟩

theorem Vs.getD {l : List A} {vs : List Value} (h : Vs w N β l vs) (t : Nat) (u : Value) : V w N β (l.getD t .any) (vs.getD t u) := by
  induction l generalizing vs t with
  | nil => cases h; exact .any
  | cons x l ih =>
    cases h with
    | cons h1 h2 =>
      cases t with
      | zero => exact h1
      | succ t => exact ih h2 t

theorem start_tells (as : List A) {vs : List Value} {N : Bs} (hN : ∀ x, N x → x < w.heap.size) (hv : Vs w N (fun _ => none) as vs) {nt : Nat} (hlen : as.length ≤ nt) :
    Tells { w0 := w, F0 := fun _ => False, N0 := N, β0 := fun _ => none, nt := nt, w1 := w, wt := fun _ => False } (start as)
      { tmps := vs.toArray ++ Array.replicate (nt - vs.toArray.size) Go.undef, defers := [] } w := by
  have hl := hv.length
  refine ⟨fun _ => none, fun _ _ => False, ?_, fun t => ?_, rfl, ?_⟩
  · exact ⟨Fr.refl _ _, fun _ _ => rfl, fun _ _ _ _ => rfl, fun _ _ h => (by cases h), fun _ _ => nobF, fun _ _ _ _ h => h.elim, fun _ _ h => h.elim, fun _ _ h => h.elim, fun _ _ h => h.elim, hN,
      fun _ h => h.elim, fun _ h => h.elim, fun _ h => h.elim, fun _ h => h.elim, fun _ _ _ h => h.elim⟩
  · have h1 := hv.getD t Go.undef
    have h2 : (vs.toArray ++ Array.replicate (nt - vs.toArray.size) Go.undef).getD t Go.undef = vs.getD t Go.undef := by
      simp only [Array.getD_eq_getD_getElem?, List.getD_eq_getElem?_getD, Array.getElem?_append]
      split
      · simp
      · rename_i h
        simp only [List.size_toArray] at h
        rw [List.getElem?_eq_none (by omega)]
        simp only [Array.getElem?_replicate]
        split <;> rfl
    show V w _ _ (as.getD t .any) (Array.getD _ t Go.undef)
    rw [h2]
    exact h1.stb (show Stb w N w _ from ⟨Nat.le_refl _, fun b _ hb => ⟨rfl, by
      rintro (h | ⟨_, h⟩)
      · exact hb h
      · exact h⟩⟩) (Bex.refl _)
  · simp only [Array.size_append, List.size_toArray, Array.size_replicate]
    omega

/-- A function's contract, out of its code. -/
theorem Fnk.of_ax {f : FuncId} {fn : Func} {code : Code} (hf : P.funcs[f]? = some fn) (hb : fn.body = some code) (hname : (fn.name != "runtime.NumGoroutine") = true) (hΓ : TabOk P Γ) (hA : ACok P AC)
    (hm : P.follows .mixedOrders = true) (hok : codeOk fn.ntmps code = true) {as : List A} {post : A → Prop} (hlen : as.length ≤ fn.ntmps)
    (h : ax AC Γ code (finK Γ fn.results.toList post) (start as)) : Fnk P f as post := by
  refine ⟨⟨fn, hf, by rw [hb]; simp, by simpa using hname⟩, fun w N vs hN hv => ?_⟩
  refine calls_of_wp hf hb ?_
  have hT := start_tells as hN hv hlen
  refine wp_mono (ax_sound hΓ hA hm (fun _ h => h) code _ _ _ _ hok h hT) ?_
  intro e a' w' hq
  have fin : ∀ s, Tells { w0 := w, F0 := fun _ => False, N0 := N, β0 := fun _ => none, nt := fn.ntmps, w1 := w, wt := fun _ => False } s a' w' → FinAx Γ fn.results.toList post s →
      a'.defers = [] ∧ ∃ v, (results fn a'.tmps).run P w' = .ok v w' ∧ ∃ v', Ending.returned v = .returned v' ∧ ∃ r F, post r ∧ Kt w' (fun x => N x ∨ F x) r v' F ∧ (∀ x, F x → w.heap.size ≤ x ∧ x < w'.heap.size) ∧ Same w w' := by
    intro s hT hfin
    obtain ⟨s', hle, C, l, hres, hC, hfr⟩ := Eq.mp (o_FinAx _ _ _ _) hfin
    obtain ⟨r', hr, hp⟩ := Eq.mp (o_FinR _ _ _) hfr
    obtain ⟨β, φ, hR, hE, hdf, hnt⟩ := hle _ _ _ hT
    obtain ⟨v, hv, hrun⟩ := results_run hΓ hR.objs hE hres hC
    have hsame : Same w w' := ⟨hR.fr.os, hR.fr.tape, hR.fr.output, hR.fr.size, fun b hb => hR.fr.block b hb (fun h => h)⟩
    refine ⟨hdf, v, hrun, v, rfl, ?_⟩
    rcases hr with ⟨hz, hok⟩ | ⟨ids, hz⟩
    · refine ⟨r', fun _ => False, hp, ((hz.v hR hv).kt hok).less ?_, fun _ h => h.elim, hsame⟩
      rintro x (h | h)
      · exact h
      · exact h.elim
    · obtain ⟨F, h1, h2⟩ := hz.k hR hv
      refine ⟨r', F, hp, h1.less ?_, fun x hx => ?_, hsame⟩
      · rintro x (h | h)
        · exact .inl h
        · obtain ⟨k, _, hk⟩ := h2 x h; exact .inr ⟨k, hk⟩
      · obtain ⟨k, _, hk⟩ := h2 x hx
        refine ⟨?_, hR.lt k x hk⟩
        rcases hR.sub k x hk with h | h
        · exact h.elim
        · exact h
  cases e with
  | normal => obtain ⟨s, h1, h2⟩ := hq; exact fin s h1 h2
  | ret => obtain ⟨s, h1, h2⟩ := hq; exact fin s h1 h2
  | exit id => obtain ⟨s, h1, h2⟩ := hq; exact h2.elim
  | _ => exact hq.elim

end
end Go.Am
end
section
set_option linter.all false
namespace Go.Am
section
variable {P : Program} {Γ : Tab} {c : Ctx} {s : St} {β : Nat → Option Loc} {φ : Nat → Bs} {a : Act} {w : World} {N : Bs}

mutual
/-- No object of the state is named. -/
def clV : A → Bool
  | .sl .. => false
  | .ptr .. => false
  | .agg l => clVs l
  | .tup l => clVs l
  | .fn _ l => clVs l
  | _ => true
def clVs : List A → Bool
  | [] => true
  | a :: l => clV a && clVs l
end

mutual
/-- Nothing in it is only read. -/
inductive Nf : A → Prop
  | val {v} : Nf (.val v)
  | emp : Nf .emp
  | own {sz n g} : (∀ i, i < n → Nfs (g i)) → Nf (.slc true sz n g)
  | agg {l} : Nfs l → Nf (.agg l)
  | tup {l} : Nfs l → Nf (.tup l)
inductive Nfs : List A → Prop
  | nil : Nfs []
  | cons {a l} : Nf a → Nfs l → Nfs (a :: l)
end

mutual
theorem V.cl : ∀ {a : A} {v : Value}, V w N β a v → clV a = true → ∀ β', V w N β' a v
  | _, _, .any, _, _ => .any
  | _, _, .clo h1 h2, _, _ => .clo h1 h2
  | _, _, .sl .., h, _ => by cases h
  | _, _, .ptr .., h, _ => by cases h
  | _, _, .pfro h0 h1 h2 h3 h4, _, _ => .pfro h0 h1 h2 h3 h4
  | _, _, .agg h, hc, β' => .agg (Vs.cl h hc β')
  | _, _, .tup h, hc, β' => .tup (Vs.cl h hc β')
  | _, _, .fn h, hc, β' => .fn (Vs.cl h hc β')
theorem Vs.cl : ∀ {a : List A} {v : List Value}, Vs w N β a v → clVs a = true → ∀ β', Vs w N β' a v
  | _, _, .nil, _, _ => .nil
  | _, _, .cons h1 h2, hc, β' => by
    simp only [clVs, Bool.and_eq_true] at hc
    exact .cons (V.cl h1 hc.1 β') (Vs.cl h2 hc.2 β')
end

mutual
theorem K.nf {N' : Bs} : ∀ {a : A} {v : Value} {F : Bs}, K w N a v F → Nf a → K w N' a v F
  | _, _, _, .any _ _, h => by cases h
  | _, _, _, .val h1 h2, _ => .val h1 h2
  | _, _, _, .emp h, _ => .emp h
  | _, _, _, .fro0 _, h => by cases h
  | _, _, _, .fro .., h => by cases h
  | _, _, _, .own0 h, _ => .own0 h
  | _, _, _, .own k0 k1 k2 k3 k4 k5 k6, h => .own k0 k1 k2 (fun i hi => Ks.nf (k3 i hi) (by cases h with | own h => exact h i hi)) k4 k5 k6
theorem Ks.nf {N' : Bs} : ∀ {a : List A} {v : List Value} {F : Bs}, Ks w N a v F → Nfs a → Ks w N' a v F
  | _, _, _, .nil h, _ => .nil h
  | _, _, _, .cons h1 h2 h3 h4, h => .cons (K.nf h1 (by cases h with | cons h _ => exact h)) (Ks.nf h2 (by cases h with | cons _ h => exact h)) h3 h4
end

theorem Kt1.nf {N' : Bs} {a : A} {v : Value} {F : Bs} (h : Kt1 w N a v F) (hn : Nf a) : Kt1 w N' a v F := by
  cases h with
  | one h1 h2 => exact .one h1 (h2.nf hn)
  | agg h => cases hn with | agg hn => exact .agg (h.nf hn)
theorem Kts.nf {N' : Bs} {l : List A} {vs : List Value} {F : Bs} (h : Kts w N l vs F) (hn : Nfs l) : Kts w N' l vs F := by
  induction h with
  | nil h => exact .nil h
  | cons h1 h2 h3 h4 ih => cases hn with | cons n1 n2 => exact .cons (h1.nf n1) (ih n2) h3 h4
theorem Kt.nf {N' : Bs} {a : A} {v : Value} {F : Bs} (h : Kt w N a v F) (hn : Nf a) : Kt w N' a v F := by
  cases h with
  | one h => exact .one (h.nf hn)
  | tup h => cases hn with | tup hn => exact .tup (h.nf hn)

/-- A result comes in: what it owns becomes objects, with numbers of block d. -/
def recv (d : Nat) (s : St) (r : A) (K : A → St → Prop) : Prop :=
  match noOwn (flatR r) with
  | true => K (rebuild r (flatR r)) s
  | false => s.D d = false ∧ 0 < d ∧ (flatR r).length ≤ 50 ∧ K (rebuild r (opens (d * 64) (flatR r) s.H).1) { s with H := (opens (d * 64) (flatR r) s.H).2, D := setD s.D d }

/-- A call of a function with a contract: its arguments are closed; or they are looked at while nobody writes, and then nothing of them is in the result. -/
def acK (as : List A) (post : A → Prop) (args : List A) (d : Nat) (s : St) (K : A → St → Prop) : Prop :=
  (args = as ∧ clVs args = true ∧ ∀ r, post r → recv d s r K) ∨ (Fzs s.H args as ∧ ∀ r, post r → Nf r ∧ recv d s r K)

theorem recv_sound (hR : Rel c s β φ w) {w' : World} (hw : Same w w') {r : A} {v : Value} {F : Bs} {d : Nat} {K : A → St → Prop} (h : recv d s r K) (hk : Kt w' (fun x => Ow c.N0 φ x ∨ F x) r v F)
    (hF : ∀ x, F x → w.heap.size ≤ x ∧ x < w'.heap.size) : Out c s β φ w K v w' := by
  obtain ⟨us, k1, k2⟩ := hk.flat
  unfold recv at h
  cases hn : noOwn (flatR r) with
  | true =>
    rw [hn] at h
    simp only at h
    obtain ⟨hR', hS⟩ := hR.same' hw
    have h0 := k1.nob hn
    have hv : Vs w' (Ow c.N0 φ) β (flatR r) us := by
      refine (Ks.vs (β := β) k1 h0).stb ⟨Nat.le_refl _, fun b _ hb => ⟨rfl, fun h => hb (.inl h)⟩⟩ (Bex.refl β)
    exact ⟨_, s, β, φ, hR', hS, Bex.refl β, rfl, k2 _ _ _ _ hv, h⟩
  | false =>
    rw [hn] at h
    simp only at h
    obtain ⟨hD, hd, hl, hK⟩ := h
    obtain ⟨β', φ', hR', hS, hB, hV⟩ := hR.adopt hw hD hd hl k1 hF
    exact ⟨_, _, β', φ', hR', hS, hB, rfl, k2 _ _ _ _ hV, hK⟩

theorem acK_sound {f : FuncId} {as : List A} {post : A → Prop} (hf : Fnk P f as post) {args : List A} {d : Nat} {s : St} {K : A → St → Prop} (h : acK as post args d s K) :
    Callable P f ∧ ∀ c β φ w vs, Rel c s β φ w → Vs w (Ow c.N0 φ) β args vs → Calls P f vs.toArray w (fun e w' => ∃ v, e = .returned v ∧ Out c s β φ w K v w') := by
  refine ⟨hf.1, fun c β φ w vs hR hv => ?_⟩
  rcases h with ⟨rfl, hc, h⟩ | ⟨hz, h⟩
  · refine Calls.mono (hf.2 w (Ow c.N0 φ) vs (fun x hx => hR.own_lt hx) (hv.cl hc _)) ?_
    rintro e w' ⟨v, rfl, r, F, hp, hk, hF, hw⟩
    exact ⟨v, rfl, recv_sound hR hw (h r hp) hk hF⟩
  · refine Calls.mono (hf.2 w c.N0 vs (fun x hx => Nat.lt_of_lt_of_le (hR.n0lt x hx) hR.fr.size) (hz.v hR hv)) ?_
    rintro e w' ⟨v, rfl, r, F, hp, hk, hF, hw⟩
    obtain ⟨hn, hr⟩ := h r hp
    exact ⟨v, rfl, recv_sound hR hw hr (hk.nf hn) hF⟩

abbrev ACT := FuncId → List A → Nat → St → (A → St → Prop) → Prop

/-- The contracts at hand. -/
def acOf : List (FuncId × (List A → Nat → St → (A → St → Prop) → Prop)) → ACT
  | [], _, _, _, _, _ => False
  | (g, p) :: r, f, args, d, s, K => match Nat.beq g f with
    | true => p args d s K
    | false => acOf r f args d s K

def acX {X : Type} (pre : X → Prop) (as : X → List A) (post : X → A → Prop) (args : List A) (d : Nat) (s : St) (K : A → St → Prop) : Prop :=
  ∃ x, pre x ∧ acK (as x) (post x) args d s K

theorem acOf_nil : ACok P (acOf []) := fun _ _ _ _ _ h => h.elim

theorem acOf_cons {X : Type} {pre : X → Prop} {as : X → List A} {post : X → A → Prop} {g : FuncId} {r : List (FuncId × (List A → Nat → St → (A → St → Prop) → Prop))}
    (hg : ∀ x, pre x → Fnk P g (as x) (post x)) (hr : ACok P (acOf r)) : ACok P (acOf ((g, acX pre as post) :: r)) := by
  intro F args d s K h
  unfold acOf at h
  cases q : Nat.beq g F with
  | true =>
    rw [q] at h
    simp only at h
    obtain ⟨x, hp, h⟩ := h
    have := Nat.eq_of_beq_eq_true q
    subst this
    exact acK_sound (hg x hp) h
  | false =>
    rw [q] at h
    exact hr _ _ _ _ _ h

end
end Go.Am
end
section
set_option linter.all false
namespace Go.Am
section
variable {P : Program} {Γ : Tab} {c : Ctx} {s : St} {β : Nat → Option Loc} {φ : Nat → Bs} {a : Act} {w : World} {N : Bs}

theorem Le.refl (s : St) : Le s s := fun _ _ _ h => h
theorem Le.trans {s1 s2 s3 : St} (h : Le s1 s2) (k : Le s2 s3) : Le s1 s3 := fun _ _ _ hT => k _ _ _ (h _ _ _ hT)

mutual
/-- Values with the numbers of objects changed. -/
def ren (σ : Nat → Nat) : A → A
  | .sl id off n => .sl (σ id) off n
  | .ptr id i j => .ptr (σ id) i j
  | .agg l => .agg (rens σ l)
  | .tup l => .tup (rens σ l)
  | .fn f l => .fn f (rens σ l)
  | a => a
def rens (σ : Nat → Nat) : List A → List A
  | [] => []
  | a :: l => ren σ a :: rens σ l
end

mutual
def idsIn (al : Nat → Bool) : A → Bool
  | .sl id _ _ => al id
  | .ptr id _ _ => al id
  | .agg l => idsIns al l
  | .tup l => idsIns al l
  | .fn _ l => idsIns al l
  | _ => true
def idsIns (al : Nat → Bool) : List A → Bool
  | [] => true
  | a :: l => idsIn al a && idsIns al l
end

mutual
theorem V.ren {β' : Nat → Option Loc} {σ : Nat → Nat} {al : Nat → Bool} (hb : ∀ i, al i = true → β' i = β (σ i)) : ∀ {a' : A} {v : Value}, V w N β (Am.ren σ a') v → idsIn al a' = true → V w N β' a' v
  | .any, _, _, _ => .any
  | .val u, v, h, _ => by
    rw [show Am.ren σ (.val u) = .val u from rfl] at h
    rw [h.val_eq]; exact V.ofVal h.val_one
  | .emp, v, h, _ => by
    rw [show Am.ren σ .emp = .emp from rfl] at h
    obtain ⟨a, rfl⟩ := h.emp_eq
    exact .clo (.emp nobF) nobF
  | .slc o sz n g, v, h, _ => by
    rw [show Am.ren σ (.slc o sz n g) = .slc o sz n g from rfl] at h
    cases h with | clo h1 h2 => exact .clo h1 h2
  | .sl id off n, v, h, hi => by
    rw [show Am.ren σ (.sl id off n) = .sl (σ id) off n from rfl] at h
    cases h with
    | clo h1 h2 => cases h1
    | sl h1 h2 h3 h4 => exact .sl (by rw [hb id hi]; exact h1) h2 h3 h4
  | .ptr id i j, v, h, hi => by
    rw [show Am.ren σ (.ptr id i j) = .ptr (σ id) i j from rfl] at h
    cases h with
    | clo h1 h2 => cases h1
    | ptr h1 h2 => exact .ptr (by rw [hb id hi]; exact h1) h2
  | .pfro l, v, h, _ => by
    rw [show Am.ren σ (.pfro l) = .pfro l from rfl] at h
    cases h with
    | clo h1 h2 => cases h1
    | pfro h0 h1 h2 h3 h4 => exact .pfro h0 h1 h2 h3 h4
  | .agg l, v, h, hi => by
    rw [show Am.ren σ (.agg l) = .agg (rens σ l) by rw [Am.ren]] at h
    rw [idsIn] at hi
    obtain ⟨cs, rfl, hv⟩ := h.agg_eq
    exact .agg (Vs.ren hb hv hi)
  | .tup l, v, h, hi => by
    rw [show Am.ren σ (.tup l) = .tup (rens σ l) by rw [Am.ren]] at h
    rw [idsIn] at hi
    obtain ⟨cs, rfl, hv⟩ := h.tup_eq
    exact .tup (Vs.ren hb hv hi)
  | .fn f l, v, h, hi => by
    rw [show Am.ren σ (.fn f l) = .fn f (rens σ l) by rw [Am.ren]] at h
    rw [idsIn] at hi
    obtain ⟨cs, rfl, hv⟩ := h.fn_eq
    exact .fn (Vs.ren hb hv hi)
theorem Vs.ren {β' : Nat → Option Loc} {σ : Nat → Nat} {al : Nat → Bool} (hb : ∀ i, al i = true → β' i = β (σ i)) : ∀ {a' : List A} {v : List Value}, Vs w N β (rens σ a') v → idsIns al a' = true → Vs w N β' a' v
  | [], _, h, _ => by
    rw [rens] at h
    cases h; exact .nil
  | a :: l, _, h, hi => by
    rw [rens] at h
    rw [idsIns, Bool.and_eq_true] at hi
    cases h with
    | cons h1 h2 => exact .cons (V.ren hb h1 hi.1) (Vs.ren hb h2 hi.2)
end

/-- A cell, with less known, or with the numbers of objects changed. -/
inductive Wk (σ : Nat → Nat) (al : Nat → Bool) : A → A → Prop
  | any {x : A} : Wk σ al x .any
  | ren {x : A} : idsIn al x = true → Wk σ al (Am.ren σ x) x
  | emp {o : Bool} {sz : Nat} {g : Nat → List A} : Wk σ al .emp (.slc o sz 0 g)
inductive Wks (σ : Nat → Nat) (al : Nat → Bool) : List A → List A → Prop
  | nil : Wks σ al [] []
  | cons {x x' : A} {l l' : List A} : Wk σ al x x' → Wks σ al l l' → Wks σ al (x :: l) (x' :: l')

theorem Wk.same {σ : Nat → Nat} {al : Nat → Bool} {a : A} (h : clo1 a = true) : Wk σ al a a := by
  cases a with
  | any => exact .any
  | val v => exact .ren (x := .val v) rfl
  | emp => exact .ren (x := .emp) rfl
  | slc o sz n g => exact .ren (x := .slc o sz n g) rfl
  | _ => cases h

theorem Wks.same {σ : Nat → Nat} {al : Nat → Bool} : ∀ {l : List A}, l.all clo1 = true → Wks σ al l l
  | [], _ => .nil
  | a :: l, h => by
    simp only [List.all_cons, Bool.and_eq_true] at h
    exact .cons (.same h.1) (Wks.same h.2)

theorem Wks.cs {σ : Nat → Nat} {al : Nat → Bool} {β' : Nat → Option Loc} (hb : ∀ i, al i = true → β' i = β (σ i)) {l l' : List A} (h : Wks σ al l l') : ∀ {vs : List Value} {F : Bs}, Cs w N β l vs F → ∃ F', Cs w N β' l' vs F' ∧ ∀ x, F' x → F x := by
  induction h with
  | nil => intro vs F h; cases h with | nil h => exact ⟨F, .nil h, fun _ h => h⟩
  | cons h1 h2 ih =>
    intro vs F h
    rename_i y y' _ _
    cases h with
    | @cons _ v _ vs _ F1 F2 k1 k2 k3 k4 =>
      obtain ⟨F2', q1, q2⟩ := ih k2
      have : ∃ F1', Cl w N β' y' v F1' ∧ ∀ x, F1' x → F1 x := by
        cases h1 with
        | any => exact ⟨fun _ => False, .inl (.any k1.one nobF), fun _ h => h.elim⟩
        | emp =>
          have : ∃ b, v = .slice b 0 0 := by
            rcases k1 with k1 | ⟨_, k1, _⟩
            · cases k1; exact ⟨_, rfl⟩
            · exact k1.emp_eq
          obtain ⟨b, rfl⟩ := this
          rename_i o sz g
          cases o
          · exact ⟨fun _ => False, .inl (.fro0 nobF), fun _ h => h.elim⟩
          · exact ⟨fun _ => False, .inl (.own0 nobF), fun _ h => h.elim⟩
        | ren hi =>
          rcases k1 with k1 | ⟨e0, e1, e2⟩
          · refine ⟨F1, ?_, fun _ h => h⟩
            cases y' <;> first | (exact .inl k1) | (rw [Am.ren] at k1; cases k1)
          · exact ⟨fun _ => False, .inr ⟨nobF, e1.ren hb hi, e2⟩, fun _ h => h.elim⟩
      obtain ⟨F1', p1, p2⟩ := this
      refine ⟨fun x => F1' x ∨ F2' x, .cons p1 q1 (fun x hx hy => k3 x (p2 x hx) (q2 x hy)) (fun x => Iff.rfl), ?_⟩
      rintro x (hx | hx)
      · exact (k4 x).2 (.inl (p2 x hx))
      · exact (k4 x).2 (.inr (q2 x hx))

open Classical in
/-- Forget slots, objects and cells; change the numbers of objects. -/
theorem Le.re {s s' : St} (σ : Nat → Nat) (al : Nat → Bool) (h10 : ∀ i, i < 10 → al i = true ∧ σ i = i) (hinj : ∀ i j, al i = true → al j = true → σ i = σ j → i = j)
    (henv : ∀ t, s'.env t = .any ∨ (idsIn al (s'.env t) = true ∧ s.env t = ren σ (s'.env t)))
    (hH : ∀ i ob, s'.H i = some ob → al i = true ∧ ∃ ob0, s.H (σ i) = some ob0 ∧ ob0.sz = ob.sz ∧ ob.n ≤ ob0.n ∧ ∀ k, k < ob.n → Wks σ al (ob0.g k) (ob.g k))
    (hD : ∀ q, s'.D q = false → ∀ i, i / 64 = q → al i = false) (hRR : ∀ i, al i = true → s'.R i = false → s.R (σ i) = false) : Le s s' := by
  rintro c a w ⟨β, φ, hR, hE, hdf, hnt⟩
  let β' : Nat → Option Loc := fun i => if al i = true then β (σ i) else none
  have hb : ∀ i, al i = true → β' i = β (σ i) := fun i h => if_pos h
  have hb0 : ∀ i, al i = false → β' i = none := fun i h => if_neg (by rw [h]; simp)
  have hex : ∀ i ob, s'.H i = some ob → ∃ F L, β' i = some L ∧ OR w (Ow c.N0 φ) β' L ob F ∧ ∀ x, F x → φ (σ i) x := by
    intro i ob ho
    obtain ⟨h1, ob0, h2, h3, h4, h5⟩ := hH i ob ho
    obtain ⟨L, k1, k2, k3, k4⟩ := hR.obj _ _ h2
    rcases k4 with ⟨e1, e2, e3⟩ | ⟨e1, vs, Fi, y1, y2, y3, y4, y5, y6⟩
    · exact ⟨fun _ => False, L, by rw [hb i h1]; exact k1, ⟨by rw [← h3]; exact k2, Nat.le_trans h4 k3, .inl ⟨e1, e2, nobF⟩⟩, fun _ h => h.elim⟩
    · have hcs : ∀ k, k < ob.n → ∃ F', Cs w (Ow c.N0 φ) β' (ob.g k) (vs k) F' ∧ ∀ x, F' x → Fi k x := fun k hk => (h5 k hk).cs hb (y3 k (by omega))
      let Gi : Nat → Bs := fun k => if h : k < ob.n then Classical.choose (hcs k h) else fun _ => False
      have hG : ∀ k, k < ob.n → Cs w (Ow c.N0 φ) β' (ob.g k) (vs k) (Gi k) ∧ ∀ x, Gi k x → Fi k x := by
        intro k hk
        have : Gi k = Classical.choose (hcs k hk) := dif_pos hk
        rw [this]
        exact Classical.choose_spec (hcs k hk)
      refine ⟨fun x => x = L.b ∨ ∃ k, k < ob.n ∧ Gi k x, L, by rw [hb i h1]; exact k1, ⟨by rw [← h3]; exact k2, Nat.le_trans h4 k3, .inr ⟨e1, vs, Gi, y1, ?_, fun k hk => (hG k hk).1, fun k hk hx => y4 k (by omega) ((hG k hk).2 _ hx),
        fun k hk m hm hkm x hx hy => y5 k (by omega) m (by omega) hkm x ((hG k hk).2 x hx) ((hG m hm).2 x hy), fun x => Iff.rfl⟩⟩, ?_⟩
      · rw [← h3]; exact fun k hk => y2 k (by omega)
      · rintro x (rfl | ⟨k, hk, hx⟩)
        · exact (y6 _).2 (.inl rfl)
        · exact (y6 x).2 (.inr ⟨k, by omega, (hG k hk).2 x hx⟩)
  let φ' : Nat → Bs := fun i => match h : s'.H i with
    | some ob => Classical.choose (hex i ob h)
    | none => fun _ => False
  have hφ : ∀ i ob, s'.H i = some ob → ∃ L, β' i = some L ∧ OR w (Ow c.N0 φ) β' L ob (φ' i) ∧ ∀ x, φ' i x → φ (σ i) x := by
    intro i ob ho
    have : φ' i = Classical.choose (hex i ob ho) := by
      show (match h : s'.H i with
        | some ob => Classical.choose (hex i ob h)
        | none => fun _ => False) = _
      split
      · rename_i o h
        have : o = ob := by rw [ho] at h; cases h; rfl
        subst this; rfl
      · rename_i h; rw [ho] at h; cases h
    rw [this]
    exact Classical.choose_spec (hex i ob ho)
  have hφ0 : ∀ i, s'.H i = none → nob (φ' i) := by
    intro i ho x hx
    have : φ' i = fun _ => False := by
      show (match h : s'.H i with
        | some ob => Classical.choose (hex i ob h)
        | none => fun _ => False) = _
      split
      · rename_i h; rw [ho] at h; cases h
      · rfl
    rw [this] at hx; exact hx
  have hin : ∀ i x, φ' i x → al i = true ∧ φ (σ i) x := by
    intro i x hx
    cases ho : s'.H i with
    | none => exact absurd hx (hφ0 i ho x)
    | some ob =>
      obtain ⟨L, _, _, h⟩ := hφ i ob ho
      exact ⟨(hH i ob ho).1, h x hx⟩
  have hOw : ∀ x, Ow c.N0 φ' x → Ow c.N0 φ x := by
    rintro x (h | ⟨i, h⟩)
    · exact .inl h
    · exact .inr ⟨σ i, (hin i x h).2⟩
  have hS : Stb w (Ow c.N0 φ) w (Ow c.N0 φ') := ⟨Nat.le_refl _, fun b _ hn => ⟨rfl, fun h => hn (hOw b h)⟩⟩
  refine ⟨β', φ', ⟨hR.fr, ?_, ?_, ?_, hφ0, ?_, ?_, ?_, ?_, hR.n0lt, hR.f0lt, hR.f0n0, hR.watch, hR.wlt, ?_⟩, ?_, hdf, hnt⟩
  · intro i hi
    obtain ⟨h1, h2⟩ := h10 i hi
    rw [hb i h1, h2]
    exact hR.given i hi
  · exact fun q hq i hi => hb0 i (hD q hq i hi)
  · intro i ob ho
    obtain ⟨L, h1, h2, _⟩ := hφ i ob ho
    exact ⟨L, h1, h2.stb hS (Bex.refl _) (fun _ _ => rfl)⟩
  · intro i j hij x hx hy
    obtain ⟨a1, b1⟩ := hin i x hx
    obtain ⟨a2, b2⟩ := hin j x hy
    exact hR.dis _ _ (fun e => hij (hinj i j a1 a2 e)) x b1 b2
  · exact fun i x hx => hR.sub _ x (hin i x hx).2
  · exact fun i x hx => hR.n0 _ x (hin i x hx).2
  · exact fun i x hx => hR.lt _ x (hin i x hx).2
  · exact fun i hi x hx => hR.wsep _ (hRR i (hin i x hx).1 hi) x (hin i x hx).2
  · intro t
    rcases henv t with h | ⟨h1, h2⟩
    · rw [h]; exact .any
    · have := hE t
      rw [h2] at this
      exact (this.ren hb h1).stb hS (Bex.refl _)

end
end Go.Am
end
section
set_option linter.all false
namespace Go.Am
section
variable {P : Program} {Γ : Tab} {c : Ctx} {s : St} {β : Nat → Option Loc} {φ : Nat → Bs} {a : Act} {w : World} {N : Bs}

theorem Cs.set {l : List A} {vs : List Value} {F : Bs} (h : Cs w N β l vs F) {j : Nat} {x : A} (hj : l[j]? = some x) :
    ∃ v Fx, Cl w N β x v Fx ∧ (∀ y, Fx y → F y) ∧ ∀ x' F', Cl w N β x' v F' → (∀ y, F' y → ¬ F y) → ∃ G, Cs w N β (Am.splice l j [x']) vs G ∧ (∀ y, G y → F y ∨ F' y) := by
  obtain ⟨F1, F2, e1, e2, e3, e4⟩ := h.cut j
  obtain ⟨F3, F4, d1, d2, d3, d4⟩ := e2.cut 1
  have hl : j < l.length := (List.getElem?_eq_some_iff.1 hj).1
  have hlen := h.length
  have hd : (l.drop j).take 1 = [x] := by
    rw [List.drop_eq_getElem_cons hl]
    have := (List.getElem?_eq_some_iff.1 hj).2
    simp [this]
  have hv : (vs.drop j).take 1 = [vs[j]'(by omega)] := by
    rw [List.drop_eq_getElem_cons (h := by omega)]
    rfl
  rw [hd, hv] at d1
  cases d1 with
  | cons k1 k2 k3 k4 =>
    rename_i Fx Fn
    refine ⟨_, Fx, k1, fun y hy => (e4 y).2 (.inr ((d4 y).2 (.inl ((k4 y).2 (.inl hy))))), fun x' F' hx' hdis => ?_⟩
    have c1 : Cs w N β [x'] [vs[j]'(by omega)] F' := .cons (F2 := fun _ => False) hx' (.nil nobF) (fun _ _ h => h) (fun y => by simp)
    have hs : Am.splice l j [x'] = l.take j ++ [x'] ++ (l.drop j).drop 1 := by
      unfold Am.splice
      rw [List.drop_drop]; rfl
    have hvs : vs = vs.take j ++ [vs[j]'(by omega)] ++ (vs.drop j).drop 1 := by
      rw [← hv, List.append_assoc, List.take_append_drop, List.take_append_drop]
    rw [hs]
    have h12 := e1.append c1 (fun y hy hy' => hdis y hy' ((e4 y).2 (.inl hy)))
    have h123 := h12.append d2 (by
      rintro y (hy | hy) hy'
      · exact e3 y hy ((d4 y).2 (.inr hy'))
      · exact hdis y hy ((e4 y).2 (.inr ((d4 y).2 (.inr hy')))))
    rw [← hvs] at h123
    refine ⟨_, h123, ?_⟩
    rintro y ((hy | hy) | hy)
    · exact .inl ((e4 y).2 (.inl hy))
    · exact .inr hy
    · exact .inl ((e4 y).2 (.inr ((d4 y).2 (.inr hy))))

/-- What is told by s is told by s', which has the same slots: objects alone. -/
def RLe (s s' : St) : Prop := s'.env = s.env ∧ ∀ c β φ w, Rel c s β φ w → ∃ φ', Rel c s' β φ' w ∧ Stb w (Ow c.N0 φ) w (Ow c.N0 φ')

theorem RLe.refl (s : St) : RLe s s := ⟨rfl, fun c β φ w h => ⟨φ, h, Stb.refl _ _⟩⟩
theorem RLe.trans {s1 s2 s3 : St} (h : RLe s1 s2) (k : RLe s2 s3) : RLe s1 s3 := ⟨k.1.trans h.1, fun c β φ w hR => by
  obtain ⟨φ1, h1, h2⟩ := h.2 c β φ w hR
  obtain ⟨φ2, k1, k2⟩ := k.2 c β φ1 w h1
  exact ⟨φ2, k1, h2.trans k2⟩⟩
theorem RLe.le {s s' : St} (h : RLe s s') : Le s s' := by
  rintro c a w ⟨β, φ, hR, hE, hdf, hnt⟩
  obtain ⟨φ', h1, h2⟩ := h.2 c β φ w hR
  exact ⟨β, φ', h1, hE.stb h2 (Bex.refl β) h.1, hdf, hnt⟩

/-- Cell j of element i of object id names object id': that is closed. -/
theorem RLe.close {s : St} {id id' i j n : Nat} {ob ob' : Ob} (hid : s.H id = some ob) (hid' : s.H id' = some ob') (hne : id' ≠ id) (hi : i < ob.n) (hj : (ob.g i)[j]? = some (.sl id' 0 n)) (hn : n ≤ ob'.n)
    (hc : ∀ k, k < n → (ob'.g k).all clo1 = true) (hRR : s.R id = false → s.R id' = false) :
    RLe s { s with H := setH (setH s.H id' none) id (some ⟨ob.sz, ob.n, Am.upd ob.n ob.g i (splice (ob.g i) j [.slc true ob'.sz n ob'.g])⟩) } := by
  refine ⟨rfl, fun c β φ w hR => ?_⟩
  obtain ⟨L, hL, hor⟩ := hR.obj id ob hid
  obtain ⟨z1, z2, z3⟩ := hor
  rcases z3 with ⟨_, z3, _⟩ | ⟨z0, vs, Fi, y1, y2, y3, y4, y5, y6⟩
  · omega
  obtain ⟨v, Fx, q1, q2, q3⟩ := (y3 i hi).set hj
  have hV : V w (Ow c.N0 φ) β (.sl id' 0 n) v := by
    rcases q1 with q1 | ⟨_, q1, _⟩
    · cases q1
    · exact q1
  obtain ⟨G, g1, g2, _⟩ := (Oc.sl hid' hn hc).k hR hV
  have g2' : ∀ x, G x → φ id' x := fun x hx => by
    obtain ⟨k, hk, h⟩ := g2 x hx
    simp at hk; subst hk; exact h
  have hidφ : ∀ k, k < ob.n → ∀ x, Fi k x → φ id x := fun k hk x hx => (y6 x).2 (.inr ⟨k, hk, hx⟩)
  obtain ⟨Gi, p1, p2⟩ := q3 _ G (.inl g1) (fun y hy hy' => hR.dis id' id hne y (g2' y hy) (hidφ i hi y hy'))
  let F' : Nat → Bs := fun k => if k = i then Gi else Fi k
  have hF' : ∀ k x, k < ob.n → F' k x → Fi k x ∨ (k = i ∧ φ id' x) := by
    intro k x hk hx
    by_cases e : k = i
    · subst e
      simp only [F', if_pos] at hx
      exact (p2 x hx).imp (fun h => h) (fun h => ⟨rfl, g2' x h⟩)
    · simp only [F', if_neg e] at hx; exact .inl hx
  let φ' : Nat → Bs := fun k => if k = id then fun x => x = L.b ∨ ∃ k, k < ob.n ∧ F' k x else if k = id' then fun _ => False else φ k
  have e1 : φ' id = fun x => x = L.b ∨ ∃ k, k < ob.n ∧ F' k x := if_pos rfl
  have e2 : φ' id' = fun _ => False := by show (if id' = id then _ else _) = _; rw [if_neg hne, if_pos rfl]
  have e3 : ∀ k, k ≠ id → k ≠ id' → φ' k = φ k := fun k h h' => by show (if k = id then _ else _) = _; rw [if_neg h, if_neg h']
  have hφ : ∀ k x, φ' k x → φ k x ∨ (k = id ∧ φ id' x) := by
    intro k x hx
    by_cases h : k = id
    · subst h
      rw [e1] at hx
      rcases hx with rfl | ⟨m, hm, hx⟩
      · exact .inl ((y6 _).2 (.inl rfl))
      · rcases hF' m x hm hx with h | ⟨_, h⟩
        · exact .inl (hidφ m hm x h)
        · exact .inr ⟨rfl, h⟩
    · by_cases h' : k = id'
      · subst h'; rw [e2] at hx; exact hx.elim
      · rw [e3 k h h'] at hx; exact .inl hx
  have hOw : ∀ x, Ow c.N0 φ' x → Ow c.N0 φ x := by
    rintro x (h | ⟨k, h⟩)
    · exact .inl h
    · rcases hφ k x h with h | ⟨_, h⟩
      · exact .inr ⟨k, h⟩
      · exact .inr ⟨id', h⟩
  have hS : Stb w (Ow c.N0 φ) w (Ow c.N0 φ') := ⟨Nat.le_refl _, fun b _ hn => ⟨rfl, fun h => hn (hOw b h)⟩⟩
  refine ⟨φ', ⟨hR.fr, hR.given, hR.fresh, ?_, ?_, ?_, ?_, ?_, ?_, hR.n0lt, hR.f0lt, hR.f0n0, hR.watch, hR.wlt, ?_⟩, hS⟩
  · intro k o ho
    replace ho : setH (setH s.H id' none) id (some ⟨ob.sz, ob.n, Am.upd ob.n ob.g i (splice (ob.g i) j [.slc true ob'.sz n ob'.g])⟩) k = some o := ho
    by_cases h : k = id
    · subst h
      rw [setH_same] at ho; cases ho
      refine ⟨L, hL, z1, z2, .inr ⟨z0, vs, F', y1, y2, fun k hk => ?_, fun k hk hx => ?_, fun k hk m hm hkm x hx hy => ?_, fun x => by rw [e1]⟩⟩
      · replace hk : k < ob.n := hk
        by_cases e : k = i
        · subst e
          simp only [o_upd (by first | assumption | omega), if_pos, F']
          exact p1.stb hS (Bex.refl β) (fun _ _ => rfl)
        · simp only [o_upd (by first | assumption | omega), if_neg e, F']
          exact (y3 k hk).stb hS (Bex.refl β) (fun _ _ => rfl)
      · replace hk : k < ob.n := hk
        rcases hF' k _ hk hx with h | ⟨_, h⟩
        · exact y4 k hk h
        · exact hR.dis id' _ hne _ h ((y6 _).2 (.inl rfl))
      · replace hk : k < ob.n := hk
        replace hm : m < ob.n := hm
        rcases hF' k x hk hx with h | ⟨h, h'⟩ <;> rcases hF' m x hm hy with k' | ⟨k', k''⟩
        · exact y5 k hk m hm hkm x h k'
        · exact hR.dis id' _ hne x k'' (hidφ k hk x h)
        · exact hR.dis id' _ hne x h' (hidφ m hm x k')
        · exact hkm (h.trans k'.symm)
    · rw [setH_ne _ _ h] at ho
      by_cases h' : k = id'
      · subst h'; rw [setH_same] at ho; cases ho
      · rw [setH_ne _ _ h'] at ho
        obtain ⟨L', t1, t2⟩ := hR.obj k o ho
        rw [e3 k h h']
        exact ⟨L', t1, t2.stb hS (Bex.refl β) (fun _ _ => rfl)⟩
  · intro k hk
    replace hk : setH (setH s.H id' none) id (some ⟨ob.sz, ob.n, Am.upd ob.n ob.g i (splice (ob.g i) j [.slc true ob'.sz n ob'.g])⟩) k = none := hk
    by_cases h : k = id
    · subst h; rw [setH_same] at hk; cases hk
    · rw [setH_ne _ _ h] at hk
      by_cases h' : k = id'
      · subst h'; rw [e2]; exact nobF
      · rw [setH_ne _ _ h'] at hk
        rw [e3 k h h']; exact hR.dead k hk
  · intro k m hkm x hx hy
    have hk' : k ≠ id' := by rintro rfl; rw [e2] at hx; exact hx
    have hm' : m ≠ id' := by rintro rfl; rw [e2] at hy; exact hy
    rcases hφ k x hx with h | ⟨h, h'⟩ <;> rcases hφ m x hy with k' | ⟨k', k''⟩
    · exact hR.dis k m hkm x h k'
    · exact hR.dis k id' hk' x h k''
    · exact hR.dis m id' hm' x k' h'
    · exact hkm (h.trans k'.symm)
  · intro k x hx
    rcases hφ k x hx with h | ⟨_, h⟩
    · exact hR.sub k x h
    · exact hR.sub id' x h
  · intro k x hx
    rcases hφ k x hx with h | ⟨_, h⟩
    · exact hR.n0 k x h
    · exact hR.n0 id' x h
  · intro k x hx
    rcases hφ k x hx with h | ⟨_, h⟩
    · exact hR.lt k x h
    · exact hR.lt id' x h
  · intro k hk x hx
    rcases hφ k x hx with h | ⟨e, h⟩
    · exact hR.wsep k hk x h
    · subst e; exact hR.wsep id' (hRR hk) x h

theorem Le.close {s : St} {id id' i j n : Nat} {ob ob' : Ob} (hid : s.H id = some ob) (hid' : s.H id' = some ob') (hne : id' ≠ id) (hi : i < ob.n) (hj : (ob.g i)[j]? = some (.sl id' 0 n)) (hn : n ≤ ob'.n)
    (hc : ∀ k, k < n → (ob'.g k).all clo1 = true) (hRR : s.R id = false → s.R id' = false) :
    Le s { s with H := setH (setH s.H id' none) id (some ⟨ob.sz, ob.n, Am.upd ob.n ob.g i (splice (ob.g i) j [.slc true ob'.sz n ob'.g])⟩) } := (RLe.close hid hid' hne hi hj hn hc hRR).le

end
end Go.Am
end
section
set_option linter.all false
namespace Go.Am
section
variable {P : Program}

def zChk : A → Value → Bool
  | .val (.int k n), .int k' n' => k == k' && n == n'
  | .val (.bool b), .bool b' => b == b'
  | .emp, .slice none 0 0 => true
  | _, _ => false

def zsChk : List A → List Value → Bool
  | [], [] => true
  | a :: l, v :: vs => zChk a v && zsChk l vs
  | _, _ => false

theorem zsChk_ok : ∀ {l : List A} {vs : List Value}, zsChk l vs = true → Zs l vs
  | [], [], _ => .nil
  | a :: l, v :: vs, h => by
    simp only [zsChk, Bool.and_eq_true] at h
    refine .cons ?_ (zsChk_ok h.2)
    have h1 := h.1
    unfold zChk at h1
    split at h1
    · simp only [Bool.and_eq_true, beq_iff_eq] at h1
      obtain ⟨rfl, rfl⟩ := h1
      exact .val rfl
    · simp only [beq_iff_eq] at h1
      subst h1
      exact .val rfl
    · exact .emp
    · cases h1
  | [], _ :: _, h => by cases h
  | _ :: _, [], h => by cases h

def fsChk (P : Program) : List (Nat × Nat × Bool) → List Field → Bool
  | [], [] => true
  | (off, sz, ag) :: l, f :: fs =>
    (match P.info? f.type, P.underlying f.type with
      | some j, some e => off == f.offset && sz == j.size && ag == dAgg e
      | _, _ => false) && fsChk P l fs
  | _, _ => false

theorem fsChk_ok : ∀ {l : List (Nat × Nat × Bool)} {fs : List Field}, fsChk P l fs = true → l.length = fs.length ∧
    ∀ (k : Nat) f, fs[k]? = some f → ∃ j e, P.info? f.type = some j ∧ P.underlying f.type = some e ∧ l[k]? = some (f.offset, j.size, dAgg e)
  | [], [], _ => ⟨rfl, fun k f h => by simp at h⟩
  | (off, sz, ag) :: l, f :: fs, h => by
    simp only [fsChk, Bool.and_eq_true] at h
    obtain ⟨h1, h2⟩ := h
    obtain ⟨e1, e2⟩ := fsChk_ok h2
    refine ⟨by simp [e1], fun k g hk => ?_⟩
    cases k with
    | zero =>
      simp at hk
      subst hk
      split at h1
      · rename_i j e hj he
        simp only [Bool.and_eq_true, beq_iff_eq] at h1
        obtain ⟨⟨rfl, rfl⟩, rfl⟩ := h1
        exact ⟨j, e, hj, he, rfl⟩
      · cases h1
    | succ k =>
      simp at hk
      simpa using e2 k g hk
  | [], _ :: _, h => by cases h
  | (_, _, _) :: _, [], h => by cases h

def descChk (P : Program) (ti : TI) : TypeDesc → Bool
  | .struct fields => ti.agg == true && ti.sub == none && ti.int == none && ti.isb == false && fsChk P ti.fs fields.toList
  | .array n e => ti.agg == true && ti.sub == some (e, n) && ti.fs == [] && ti.int == none && ti.isb == false
  | .slice e => ti.agg == false && ti.sub == some (e, 0) && ti.fs == [] && ti.int == none && ti.isb == false
  | .int k => ti.agg == false && ti.sub == none && ti.fs == [] && ti.int == some k && ti.isb == false
  | .bool => ti.agg == false && ti.sub == none && ti.fs == [] && ti.int == none && ti.isb == true
  | _ => ti.agg == false && ti.sub == none && ti.fs == [] && ti.int == none && ti.isb == false

theorem descChk_ok {ti : TI} {d : TypeDesc} (h : descChk P ti d = true) : DescOk P ti d := by
  cases d <;> simp only [descChk, Bool.and_eq_true, beq_iff_eq] at h <;> simp only [DescOk] <;> try (obtain ⟨⟨⟨⟨h1, h2⟩, h3⟩, h4⟩, h5⟩ := h; exact ⟨h1, h2, h3, h4, h5⟩)
  obtain ⟨⟨⟨⟨h1, h2⟩, h3⟩, h4⟩, h5⟩ := h
  obtain ⟨e1, e2⟩ := fsChk_ok h5
  exact ⟨h1, h2, h3, h4, by simpa using e1, fun k f hk => e2 k f (by simpa using hk)⟩

def tiChk (P : Program) (t : TypeId) (ti : TI) : Bool :=
  match P.info? t, P.underlying t with
  | some i, some d =>
    i.size == ti.sz && i.bytes == ti.bytes && (match i.zero with
      | some z => zsChk ti.zero z.cells.toList && ti.zero.length == ti.sz
      | none => false) && descChk P ti d
  | _, _ => false

theorem tiChk_ok {t : TypeId} {ti : TI} (h : tiChk P t ti = true)
    (heq : ti.eqi = true → ∀ (xs ys : List Int) (w : World), xs.length = ti.sz → ys.length = ti.sz →
      (Op.equal t (.agg (xs.map (Value.int .i64)).toArray) (.agg (ys.map (Value.int .i64)).toArray)).run P w = .ok (decide (xs = ys)) w ∧ P.eqGuardType P.depth t = false) : Nonempty (TIok P t ti) := by
  unfold tiChk at h
  split at h
  rotate_left
  · cases h
  rename_i i d hi hd
  simp only [Bool.and_eq_true, beq_iff_eq] at h
  obtain ⟨⟨⟨h1, h2⟩, h3⟩, h4⟩ := h
  split at h3
  rotate_left
  · cases h3
  rename_i z hz
  simp only [Bool.and_eq_true, beq_iff_eq] at h3
  exact ⟨⟨i, d, hi, hd, h1, h2, z, hz, zsChk_ok h3.1, h3.2, descChk_ok h4, heq⟩⟩

def tabOf : List (TypeId × TI) → Tab
  | [], _ => none
  | (u, ti) :: l, t =>
    match Nat.beq u t with
    | true => some ti
    | false => tabOf l t

def tabChk (P : Program) : List (TypeId × TI) → Bool
  | [] => true
  | (u, ti) :: l => tiChk P u ti && tabChk P l

theorem tabOf_ok : ∀ {l : List (TypeId × TI)}, tabChk P l = true →
    (∀ u ti, (u, ti) ∈ l → ti.eqi = true → ∀ (xs ys : List Int) (w : World), xs.length = ti.sz → ys.length = ti.sz →
      (Op.equal u (.agg (xs.map (Value.int .i64)).toArray) (.agg (ys.map (Value.int .i64)).toArray)).run P w = .ok (decide (xs = ys)) w ∧ P.eqGuardType P.depth u = false) → TabOk P (tabOf l)
  | [], _, _ => fun t ti h => by cases h
  | (u, ti) :: l, h, he => by
    simp only [tabChk, Bool.and_eq_true] at h
    intro t ti' ht
    unfold tabOf at ht
    cases q : Nat.beq u t with
    | true =>
      rw [q] at ht
      simp only [Option.some.injEq] at ht
      subst ht
      have := Nat.eq_of_beq_eq_true q
      subst this
      exact tiChk_ok h.1 (he _ _ (by simp))
    | false =>
      rw [q] at ht
      exact tabOf_ok h.2 (fun u ti hm => he u ti (List.mem_cons_of_mem _ hm)) t ti' ht

end
end Go.Am
end
