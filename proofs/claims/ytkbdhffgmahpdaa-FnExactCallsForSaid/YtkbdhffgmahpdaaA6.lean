/- Regions in order, code. · Regions that draw their order. · Code: what the abstract machine says of it is so. · What functions do: contracts. Values that are only read. · What functions do: contracts. -/
import Derived.Test.YtkbdhffgmahpdaaA5
import Derived.OrdersHeld
section
set_option linter.all false
namespace Go.Am
section
variable {P : Program} {Γ : Tab} {c : Ctx} {s : St} {a : Act} {w : World}
variable {AC : FuncId → List A → Nat → St → (A → St → Prop) → Prop}

/-- How code ends, in the machine. -/
def QX (c : Ctx) (K : Ex → St → Prop) : Exit → Act → World → Prop
  | .normal, a, w => ∃ s, Tells c s a w ∧ K .normal s
  | .exit id, a, w => ∃ s, Tells c s a w ∧ K (.exit id) s
  | .ret, a, w => ∃ s, Tells c s a w ∧ K .ret s
  | _, _, _ => False

theorem Tells.undef (hT : Tells c s a w) {o : Oper} (hd : dstOk c.nt o = true) : Tells c (Am.put s o.dst .any) (a.put o.dst undef) w := by
  obtain ⟨β, φ, hR, hE, hdf, hnt⟩ := hT
  exact Tells.put (s' := s) hE hdf hnt hR (Stb.refl _ _) (Bex.refl β) rfl hd .any

theorem Tells.bool (hT : Tells c s a w) {d : Tmp} {b : Bool} (h : s.env d = .val (.bool b)) : a.tmps[d]? = some (.bool b) ∧ Tells c { s with env := putE s.env d (.val (.bool b)) } a w := by
  obtain ⟨β, φ, hR, hE, hdf, hnt⟩ := hT
  have hv := hE d
  rw [h] at hv
  have e := hv.val_eq
  refine ⟨?_, β, φ, ⟨hR.fr, hR.given, hR.fresh, hR.obj, hR.dead, hR.dis, hR.sub, hR.n0, hR.lt, hR.n0lt, hR.f0lt, hR.f0n0, hR.watch, hR.wlt, hR.wsep⟩, fun t => ?_, hdf, hnt⟩
  · cases q : a.tmps[d]? with
    | none => simp [q, Go.undef] at e
    | some u => simp [q] at e; rw [e]
  · simp only [o_putE]
    by_cases q : t = d
    · rw [if_pos q, q, e]; exact V.ofVal rfl
    · rw [if_neg q]; exact hE t

theorem gstep_gen {T : St → Prop} (hT : T s) (hB : ∀ d b, s.env d = .val (.bool b) → a.tmps[d]? = some (.bool b) ∧ T { s with env := putE s.env d (.val (.bool b)) })
    {ops : Array Oper} {o : Oper} {x y : St → Prop} (h : gstep ops.toList o s x y) :
    (Region.wanted o (yielded ops a.tmps) = true ∧ ∃ s', T s' ∧ x s') ∨ (Region.wanted o (yielded ops a.tmps) = false ∧ ∃ s', T s' ∧ y s') := by
  unfold gstep at h
  split at h
  · rename_i hg
    exact .inl ⟨by simp [Region.wanted, hg], s, hT, h⟩
  · rename_i j want hg
    split at h
    · exact h.elim
    rename_i oj hj
    split at h
    · exact h.elim
    rename_i d hd
    split at h
    rotate_left
    · exact h.elim
    rename_i b hb
    obtain ⟨e1, e2⟩ := hB d b hb
    have hy : yielded ops a.tmps j = some b := by
      have hj' : ops[j]? = some oj := by simpa using hj
      simp [yielded, hj', hd, e1]
    have hw : Region.wanted o (yielded ops a.tmps) = (b == want) := by simp [Region.wanted, hg, hy]
    rw [hw]
    cases want <;> cases b <;> simp only [bcase] at h
    · exact .inl ⟨rfl, _, e2, h⟩
    · exact .inr ⟨rfl, _, e2, h⟩
    · exact .inr ⟨rfl, _, e2, h⟩
    · exact .inl ⟨rfl, _, e2, h⟩

theorem gstep_sound (hT : Tells c s a w) {ops : Array Oper} {o : Oper} {x y : St → Prop} (h : gstep ops.toList o s x y) :
    (Region.wanted o (yielded ops a.tmps) = true ∧ ∃ s', Tells c s' a w ∧ x s') ∨ (Region.wanted o (yielded ops a.tmps) = false ∧ ∃ s', Tells c s' a w ∧ y s') :=
  gstep_gen (T := fun s => Tells c s a w) hT (fun _ _ h => hT.bool h) h

def opsOk (nt : Nat) (ops : List Oper) : Bool := ops.all (dstOk nt)

theorem runL_sound (hΓ : TabOk P Γ) (hA : ACok P AC) {ops : Array Oper} {K : St → Prop} {Q : Exit → Act → World → Prop} (hQ : ∀ s a w, Tells c s a w → K s → Q .normal a w) (hd : opsOk c.nt ops.toList = true) :
    ∀ (l : List Oper) (k : Nat) (s : St) (a : Act) (w : World), ops.toList.drop k = l → Tells c s a w → runL AC Γ ops.toList l s K → wpOps P ops Q (List.range' k l.length) a w
  | [], k, s, a, w, _, hT, h => hQ s a w hT h
  | o :: r, k, s, a, w, hl, hT, h => by
    have ho : ops[k]? = some o := by
      have : (ops.toList.drop k)[0]? = some o := by rw [hl]; rfl
      simpa using this
    have hr : ops.toList.drop (k + 1) = r := by
      rw [← List.drop_drop, hl]; rfl
    have hod : dstOk c.nt o = true := by
      have : o ∈ ops.toList := List.mem_of_getElem? (i := k) (by simpa using ho)
      exact List.all_eq_true.1 hd o this
    simp only [List.length_cons, List.range'_succ, wpOps, ho]
    rcases gstep_sound hT h with ⟨hw, s', hT', h'⟩ | ⟨hw, s', hT', h'⟩
    · rw [hw]
      simp only [if_true]
      exact .inl (ostep_sound hΓ hA hT' hod h' (fun s'' a' w' hT'' hK => runL_sound hΓ hA hQ hd r (k + 1) s'' a' w' hr hT'' hK))
    · rw [hw]
      simp only [Bool.false_eq_true, if_false]
      exact runL_sound hΓ hA hQ hd r (k + 1) _ _ w hr (hT'.undef hod) h'

theorem run_sound (hΓ : TabOk P Γ) (hA : ACok P AC) {ops : Array Oper} {K : St → Prop} {Q : Exit → Act → World → Prop} (hQ : ∀ s a w, Tells c s a w → K s → Q .normal a w) (hd : opsOk c.nt ops.toList = true)
    (hT : Tells c s a w) (h : runL AC Γ ops.toList ops.toList s K) : wpOps P ops Q (List.range ops.size) a w := by
  have := runL_sound hΓ hA hQ hd ops.toList 0 s a w rfl hT h
  rw [List.range_eq_range']
  simpa using this

theorem least {p : Nat → Prop} (h : ∃ n, p n) : ∃ n, p n ∧ ∀ m, m < n → ¬ p m := by
  obtain ⟨n, hn⟩ := h
  induction n using Nat.strongRecOn with
  | _ n ih =>
    by_cases q : ∃ m, m < n ∧ p m
    · obtain ⟨m, h1, h2⟩ := q; exact ih m h1 h2
    · exact ⟨n, hn, fun m hm hp => q ⟨m, hm, hp⟩⟩

end
end Go.Am
end
section
set_option linter.all false
namespace Go.Am
section
variable {P : Program} {Γ : Tab} {c : Ctx} {s : St} {β : Nat → Option Loc} {φ : Nat → Bs} {a : Act} {w : World}
variable {AC : FuncId → List A → Nat → St → (A → St → Prop) → Prop}

theorem readyL_eq (ops : Array Oper) (listed : List Bool) : readyL ops.toList listed = Region.ready .any ops listed.toArray := by
  unfold readyL Region.ready
  simp only [Array.length_toList]
  congr 1
  funext i
  congr 1
  · simp
  · cases h : ops[i]? with
    | none => simp [h]
    | some o => simp [h]

/-- Another watch, another world behind a draw. -/
theorem Rel.watched (hR : Rel c s β φ w) (W : Nat → Bool) : Rel { c with w1 := w.drew, wt := fun b => b < w.heap.size ∧ ∀ i, W i = false → ¬ φ i b } { s with R := W } β φ w.drew := by
  have hS : Stb w (Ow c.N0 φ) w.drew (Ow c.N0 φ) := ⟨Nat.le_refl _, fun _ _ h => ⟨rfl, h⟩⟩
  constructor
  · exact hR.fr.trans rfl rfl rfl (Nat.le_refl _) (fun _ _ _ => rfl)
  · exact hR.given
  · exact hR.fresh
  · intro i o ho
    obtain ⟨L, h1, h2⟩ := hR.obj i o ho
    exact ⟨L, h1, h2.stb hS (Bex.refl β) (fun _ _ => rfl)⟩
  · exact hR.dead
  · exact hR.dis
  · exact hR.sub
  · exact hR.n0
  · exact hR.lt
  · exact hR.n0lt
  · exact hR.f0lt
  · exact hR.f0n0
  · exact fun _ _ => rfl
  · exact fun x hx => hx.1
  · exact fun i hi x hx hw => hw.2 i hi hx

theorem Env.drew (hE : Env s (Ow c.N0 φ) β a w) (W : Nat → Bool) : Env { s with R := W } (Ow c.N0 φ) β a w.drew :=
  hE.stb (s' := { s with R := W }) (show Stb w _ w.drew _ from ⟨Nat.le_refl _, fun _ _ h => ⟨rfl, h⟩⟩) (Bex.refl β) rfl

theorem Tells.unwatch {c1 : Ctx} (hc : ∀ x, ¬ c.wt x) (h1 : c1.w0 = c.w0) (h2 : c1.F0 = c.F0) (h3 : c1.N0 = c.N0) (h4 : c1.β0 = c.β0) (h5 : c1.nt = c.nt) {s : St} {R : Nat → Bool} (hT : Tells c1 s a w) : Tells c { s with R := R } a w := by
  obtain ⟨β, φ, hR, hE, hdf, hnt⟩ := hT
  refine ⟨β, φ, ?_, by rw [← h3]; exact hE, hdf, by rw [← h5]; exact hnt⟩
  obtain ⟨q1, q2, q3, q4, q5, q6, q7, q8, q9, q10, q11, q12, q13, q14, q15⟩ := hR
  rw [h1, h2] at q1
  rw [h1, h2] at q7
  rw [h1, h3] at q10
  rw [h1, h2] at q11
  rw [h2, h3] at q12
  rw [h3] at q8 q4
  rw [h4] at q2
  exact ⟨q1, q2, q3, q4, q5, q6, q7, q8, q9, q10, q11, q12, fun x hx => absurd hx (hc x), fun x hx => absurd hx (hc x), fun _ _ x _ hx => hc x hx⟩

/-- Every two operations of a region wait for one another, or have nothing to do with one another. -/
def apartAll (ops : Array Oper) : Bool :=
  Region.noSelect ops && (List.range ops.size).all fun i => (List.range ops.size).all fun j => i == j ||
    match ops[i]?, ops[j]? with
    | some oi, some oj => oj.after.any (fun e => Region.binds .any e && e.on == i) || oi.after.any (fun e => Region.binds .any e && e.on == j) || oi.apart ops oj
    | _, _ => true

theorem apartAll_spec {ops : Array Oper} (h : apartAll ops = true) {i : Nat} {oi : Oper} (hi : ops[i]? = some oi) {listed : Array Bool} (hr : i ∈ Region.ready .any ops listed) (j : Nat) (oj : Oper)
    (hj : ops[j]? = some oj) (hne : j ≠ i) (hun : listed.getD j true = false) (hno : ∀ e ∈ oj.after, Region.binds .any e = true → e.on ≠ i) : oi.apart ops oj = true := by
  simp only [apartAll, Bool.and_eq_true, List.all_eq_true, List.mem_range] at h
  have h1 := h.2 i (Array.getElem?_eq_some_iff.1 hi).1 j (Array.getElem?_eq_some_iff.1 hj).1
  simp only [hi, hj, Bool.or_eq_true, beq_iff_eq, Ne.symm hne, false_or] at h1
  rcases h1 with (h1 | h1) | h1
  · obtain ⟨e, he, hb⟩ := Array.any_eq_true'.1 h1
    simp only [Bool.and_eq_true, beq_iff_eq] at hb
    exact absurd hb.2 (hno e he hb.1)
  · exfalso
    obtain ⟨e, he, hb⟩ := Array.any_eq_true'.1 h1
    simp only [Bool.and_eq_true, beq_iff_eq] at hb
    simp only [Region.ready, List.mem_filter, hi, Option.map_some, Option.getD_some, Bool.and_eq_true] at hr
    have h2 := Array.all_eq_true_iff_forall_mem.1 hr.2.2 e he
    simp only [Bool.or_eq_true, Bool.not_eq_true'] at h2
    rcases h2 with h2 | h2
    · rw [hb.1] at h2; cases h2
    · rw [hb.2] at h2
      have : listed.getD j true = true := by
        unfold Array.getD at h2 ⊢
        split at h2
        · rename_i q; rw [dif_pos q]; exact h2
        · cases h2
      rw [this] at hun; cases hun
  · exact h1

/-- The state tells the machine's; 'ph': nothing has been written in this region yet. -/
def Ph (c : Ctx) (ph : Bool) (s : St) (a : Act) (w : World) : Prop :=
  ∃ β φ, Rel c s β φ w ∧ Env s (Ow c.N0 φ) β a w ∧ a.defers = [] ∧ a.tmps.size = c.nt ∧ (ph = true → ∀ x, x < w.heap.size → (∀ i, s.R i = false → ¬ φ i x) → c.wt x)

theorem Ph.tells {ph : Bool} (h : Ph c ph s a w) : Tells c s a w := let ⟨β, φ, h1, h2, h3, h4, _⟩ := h; ⟨β, φ, h1, h2, h3, h4⟩
theorem Tells.ph (h : Tells c s a w) : Ph c false s a w := let ⟨β, φ, h1, h2, h3, h4⟩ := h; ⟨β, φ, h1, h2, h3, h4, fun h => by cases h⟩

theorem Rel.env (hR : Rel c s β φ w) (e : Nat → A) : Rel c { s with env := e } β φ w :=
  ⟨hR.fr, hR.given, hR.fresh, hR.obj, hR.dead, hR.dis, hR.sub, hR.n0, hR.lt, hR.n0lt, hR.f0lt, hR.f0n0, hR.watch, hR.wlt, hR.wsep⟩

theorem Ph.bool {ph : Bool} (hT : Ph c ph s a w) {d : Tmp} {b : Bool} (h : s.env d = .val (.bool b)) : a.tmps[d]? = some (.bool b) ∧ Ph c ph { s with env := putE s.env d (.val (.bool b)) } a w := by
  obtain ⟨β, φ, hR, hE, hdf, hnt, hw⟩ := hT
  refine ⟨(Tells.bool ⟨β, φ, hR, hE, hdf, hnt⟩ h).1, β, φ, hR.env _, fun t => ?_, hdf, hnt, hw⟩
  have hv := hE d
  rw [h] at hv
  have e := hv.val_eq
  simp only [o_putE]
  by_cases q : t = d
  · rw [if_pos q, q, e]; exact V.ofVal rfl
  · rw [if_neg q]; exact hE t

theorem Ph.put1 {ph : Bool} (hR : Rel c s β φ w) (hE : Env s (Ow c.N0 φ) β a w) (hdf : a.defers = []) (hnt : a.tmps.size = c.nt) (hw : ph = true → ∀ x, x < w.heap.size → (∀ i, s.R i = false → ¬ φ i x) → c.wt x)
    {o : Oper} (hd : dstOk c.nt o = true) {r : A} {v : Value} (hv : V w (Ow c.N0 φ) β r v) : Ph c ph (Am.put s o.dst r) (a.put o.dst v) w := by
  unfold Am.put
  unfold dstOk at hd
  cases e : o.dst with
  | none => exact ⟨β, φ, hR, hE, hdf, hnt, hw⟩
  | some d =>
    rw [e] at hd
    simp only [decide_eq_true_eq] at hd
    exact ⟨β, φ, hR.env _, hE.put hv (by rw [hnt]; exact hd), hdf, by simp [Act.put, hnt], hw⟩

theorem Ph.undef {ph : Bool} (hT : Ph c ph s a w) {o : Oper} (hd : dstOk c.nt o = true) : Ph c ph (Am.put s o.dst .any) (a.put o.dst Go.undef) w := by
  obtain ⟨β, φ, hR, hE, hdf, hnt, hw⟩ := hT
  exact Ph.put1 hR hE hdf hnt hw hd .any

theorem early_step {ph : Bool} {o : Oper} (he : early ph s o = true) {K : St → Prop} (h : ostep AC Γ o s K) : ∃ C v, pev Γ o s = some (C, v) ∧ C ∧ K (Am.put s o.dst v) := by
  unfold early at he
  simp only [Bool.and_eq_true] at he
  unfold ostep at h
  rw [he.1] at h
  simp only at h
  split at h
  · rename_i C v hv
    exact ⟨C, v, hv, h.1, h.2⟩
  · exfalso
    have h2 := he.2
    have h1 := he.1
    unfold eff at h
    cases ho : o.op with
    | load t x =>
      simp only [ho] at h h2
      split at h
      rotate_left
      · exact h
      rename_i hx _
      simp only [hx, Bool.and_eq_true] at h2
      split at h
      · exact h
      split at h
      · rename_i hcc
        rw [hcc.2.2] at h2; cases h2.2
      · exact h
    | call cl =>
      rw [ho] at h1
      simp only [isPure] at h1
      simp only [ho] at h
      cases hb : cl.callee with
      | builtin b =>
        rw [hb] at h h1
        cases b <;> first | exact h | (cases h1)
      | value f => rw [hb] at h1; cases h1
      | _ => rw [hb] at h; exact h
    | store => rw [ho] at h1; cases h1
    | binOp op t x y ty =>
      rw [ho] at h1
      simp only [ho] at h
      split at h
      · cases h1
      · exact h
    | _ => simp only [ho] at h

/-- The watch, as a condition on worlds. -/
def Sx (c : Ctx) (w : World) : Prop := ∀ x, c.wt x → w.heap[x]? = c.w1.heap[x]?

theorem Tells.sx (h : Tells c s a w) : Sx c w := let ⟨_, _, hR, _⟩ := h; hR.watch

theorem early_yields {ph : Bool} {ops : Array Oper} (hΓ : TabOk P Γ) (hT : Ph c ph s a w) {o : Oper} (hd : dstOk c.nt o = true) (he : early ph s o = true) (hw : Region.wanted o (yielded ops a.tmps) = true) {C : Prop} {r : A}
    (hp : pev Γ o s = some (C, r)) (hC : C) : ∃ u, YieldsIf P ops (Sx c) o u a ∧ Ph c ph (put s o.dst r) (a.put o.dst u) w := by
  obtain ⟨β, φ, hR, hE, hdf, hnt, hph⟩ := hT
  obtain ⟨u, h1, h2⟩ := pev_sound hΓ hR.objs hE hp hC
  refine ⟨u, .inl ⟨hw, fun w' hw' => h1 w' ?_⟩, ?_⟩
  · intro t p b off ho hb
    have hwt : c.wt b := by
      unfold early at he
      rw [ho] at he
      simp only [Bool.and_eq_true] at he
      obtain ⟨_, hph1, he⟩ := he
      have hpv := aeval_V hE p
      split at he
      · rename_i l hx
        rw [hx] at hpv
        obtain ⟨b', of, vs, F, ev, q0, q1, q2, _⟩ := hpv.pfro_eq
        rw [hb] at ev
        cases ev
        exact hph hph1 b q2 (fun i _ hi => q1 (.inr ⟨i, hi⟩))
      · rename_i id i j hx
        rw [hx] at hpv
        obtain ⟨L, hL, hn, ev⟩ := hpv.ptr_eq
        rw [hb] at ev
        cases ev
        have hid : ∃ ob, s.H id = some ob := by
          unfold pev at hp
          simp only [ho, hx] at hp
          split at hp
          · cases hp
          split at hp
          · cases hp
          · rename_i ob hob; exact ⟨ob, hob⟩
        obtain ⟨ob, hob⟩ := hid
        obtain ⟨L', hL', hor⟩ := hR.obj id ob hob
        rw [hL] at hL'; cases hL'
        obtain ⟨vs, Fi, cur, E, k0, k1, hsz, hcap, krow, kel, knb, kdis, kF⟩ := hor.open hn
        have hin : φ id L.b := (kF _).2 (.inl rfl)
        refine hph hph1 _ (hR.lt id _ hin) (fun k hk hx => ?_)
        by_cases e : k = id
        · subst e; rw [hk] at he; cases he
        · exact hR.dis k id e _ hx hin
      · cases he
    rw [hw' b hwt, ← hR.watch b hwt]
  · exact Ph.put1 hR hE hdf hnt hph hd h2

theorem allA_mem : ∀ {l : List Nat} {f : Nat → Prop}, allA l f → ∀ i ∈ l, f i
  | [], _, _, i, hi => by cases hi
  | [j], f, h, i, hi => by
    simp only [List.mem_singleton] at hi
    subst hi; exact h
  | j :: k :: r, f, h, i, hi => by
    rcases List.mem_cons.1 hi with rfl | hi
    · exact h.1
    · exact allA_mem h.2 i hi

theorem any_sound (hΓ : TabOk P Γ) (hA : ACok P AC) {ops : Array Oper} {K : St → Prop} {Q : Exit → Act → World → Prop} (hQ : ∀ s a w, Tells c s a w → K s → Q .normal a w) (hQp : ∀ ch a w, ¬ Q (.panic ch) a w)
    (hd : opsOk c.nt ops.toList = true) (hap : apartAll ops = true) :
    ∀ (fuel : Nat) (ph : Bool) (listed : List Bool) (s : St) (a : Act) (w : World), Ph c ph s a w → anyA AC Γ ops.toList fuel ph listed s K → wpAnyH P .any ops Q (Sx c) fuel listed.toArray a w
  | 0, ph, listed, s, a, w, hT, h => by
    unfold anyA at h
    split at h
    · rename_i hr
      rw [readyL_eq] at hr
      exact ⟨hr, hQ _ _ _ hT.tells h⟩
    · exact h.elim
  | fuel + 1, ph, listed, s, a, w, hT, h => by
    have hset : ∀ i, (listed.set i true).toArray = listed.toArray.setIfInBounds i true := fun i => by simp
    have hok : ∀ (i : Nat) (o : Oper), ops[i]? = some o → dstOk c.nt o = true := fun i o ho => by
      have : o ∈ ops.toList := List.mem_of_getElem? (i := i) (by simpa using ho)
      exact List.all_eq_true.1 hd o this
    unfold anyA at h
    split at h
    · rename_i hr
      rw [readyL_eq] at hr
      exact wpAnyH_done hr (hQ _ _ _ hT.tells h) _
    rename_i r rs hr
    rw [readyL_eq] at hr
    split at h
    · rename_i i hf
      have hmem : i ∈ Region.ready .any ops listed.toArray := by rw [hr]; exact List.mem_of_find?_eq_some hf
      have hearly := List.find?_some hf
      unfold isEarly at hearly
      unfold stepA at h
      cases ho : ops[i]? with
      | none => rw [show ops.toList[i]? = ops[i]? by simp, ho] at hearly; cases hearly
      | some o =>
        rw [show ops.toList[i]? = ops[i]? by simp, ho] at hearly h
        simp only at hearly h
        have hfirst : ∀ (u : Value) (s' : St), YieldsIf P ops (Sx c) o u a → Ph c ph s' (a.put o.dst u) w → anyA AC Γ ops.toList fuel ph (listed.set i true) s' K → wpAnyH P .any ops Q (Sx c) (fuel + 1) listed.toArray a w := by
          intro u s' hy hp hk
          have ih := any_sound hΓ hA hQ hQp hd hap fuel ph (listed.set i true) s' _ w hp hk
          rw [hset] at ih
          refine wpAnyH_first ho (Region.noSelect_spec ?_) (fun ch a w h => absurd h (hQp ch _ w)) fuel listed.toArray a w (fun j oj hj hne hun hno => apartAll_spec hap ho hmem j oj hj hne hun hno) hmem hy hT.tells.sx ih
          simp only [apartAll, Bool.and_eq_true] at hap
          exact hap.1
        have hpe : ∀ s', s'.R = s.R → (∀ x, aeval s' x = aeval s x) → early ph s' o = true := by
          intro s' h1 h2
          unfold early at hearly ⊢
          simp only [h1, h2]
          exact hearly
        have hg := gstep_gen (T := fun s' => Ph c ph s' a w ∧ s'.R = s.R ∧ ∀ x, aeval s' x = aeval s x) ⟨hT, rfl, fun _ => rfl⟩ (fun d b hb => by
          refine ⟨(hT.bool hb).1, (hT.bool hb).2, rfl, fun x => ?_⟩
          cases x <;> simp only [aeval]
          simp only [o_putE]
          split
          · rename_i e; rw [e, hb]
          · rfl) h
        rcases hg with ⟨hw, s', ⟨hT', hR', he'⟩, h'⟩ | ⟨hw, s', ⟨hT', _⟩, h'⟩
        · obtain ⟨C, v, hv, hC, hK⟩ := early_step (hpe s' hR' he') h'
          obtain ⟨u, hy, hp⟩ := early_yields (ops := ops) hΓ hT' (hok i o ho) (hpe s' hR' he') hw hv hC
          exact hfirst u _ hy hp hK
        · exact hfirst Go.undef _ (.inr ⟨hw, rfl⟩) (hT'.undef (hok i o ho)) h'
    · refine wpAnyH_all hr (by simp) (fun i hi => ?_)
      have h := allA_mem h i hi
      unfold stepA at h
      cases ho : ops[i]? with
      | none => rw [show ops.toList[i]? = ops[i]? by simp, ho] at h; exact h.elim
      | some o =>
        rw [show ops.toList[i]? = ops[i]? by simp, ho] at h
        simp only at h
        unfold wpOp
        simp only [ho]
        have ih : ∀ s' a' w', Tells c s' a' w' → anyA AC Γ ops.toList fuel false (listed.set i true) s' K → Sx c w' ∧ wpAnyH P .any ops Q (Sx c) fuel (listed.toArray.setIfInBounds i true) a' w' := by
          intro s' a' w' hT' hK
          refine ⟨hT'.sx, ?_⟩
          rw [← hset]
          exact any_sound hΓ hA hQ hQp hd hap fuel false (listed.set i true) s' a' w' hT'.ph hK
        rcases gstep_sound hT.tells h with ⟨hw, s', hT', h'⟩ | ⟨hw, s', hT', h'⟩
        · rw [hw]
          simp only [if_true]
          exact .inl (ostep_sound hΓ hA hT' (hok i o ho) h' ih)
        · rw [hw]
          simp only [Bool.false_eq_true, if_false]
          exact ih _ _ _ (hT'.undef (hok i o ho)) h'

end
end Go.Am
end
section
set_option linter.all false
namespace Go.Am
section
variable {P : Program} {Γ : Tab} {c : Ctx}
variable {AC : FuncId → List A → Nat → St → (A → St → Prop) → Prop}

def codeOk (nt : Nat) : Code → Bool
  | .region _ ops dr => opsOk nt ops.toList && (!dr || apartAll ops)
  | .seq a b => codeOk nt a && codeOk nt b
  | .cond _ a b => codeOk nt a && codeOk nt b
  | .block _ c => codeOk nt c
  | .loop c => codeOk nt c
  | _ => true

theorem QX.mono {K K' : Ex → St → Prop} {e : Exit} {a : Act} {w : World} (h : QX c K e a w) (hk : ∀ x s, K x s → K' x s) : QX c K' e a w := by
  cases e <;> simp only [QX] at h ⊢
  · obtain ⟨s, h1, h2⟩ := h; exact ⟨s, h1, hk _ _ h2⟩
  · obtain ⟨s, h1, h2⟩ := h; exact ⟨s, h1, hk _ _ h2⟩
  · obtain ⟨s, h1, h2⟩ := h; exact ⟨s, h1, hk _ _ h2⟩

theorem loop_sound {code : Code} {K : Ex → St → Prop} {I : Nat → St → Prop} {Q : Exit → Act → World → Prop}
    (hbody : ∀ n s a w, I n s → Tells c s a w → code.wp P (QX c (thenX (fun s' => ∃ n' s'', n' < n ∧ Le s' s'' ∧ I n' s'') K)) a w)
    (hQ : ∀ e a w, QX c K e a w → Q e a w) {n : Nat} {s : St} {a : Act} {w : World} (hI : I n s) (hT : Tells c s a w) : (Code.loop code).wp P Q a w := by
  classical
  let p : Act → World → Nat → Prop := fun a w n => ∃ s, I n s ∧ Tells c s a w
  let μ : Act → World → Nat := fun a w => if h : ∃ n, p a w n then Classical.choose (least h) else 0
  have hμ : ∀ a w (h : ∃ n, p a w n), p a w (μ a w) ∧ ∀ m, m < μ a w → ¬ p a w m := by
    intro a w h
    have : μ a w = Classical.choose (least h) := dif_pos h
    rw [this]
    exact Classical.choose_spec (least h)
  refine wp_loop (fun a w => ∃ n, p a w n) μ ⟨n, s, hI, hT⟩ ?_
  intro a w h
  obtain ⟨⟨s, h1, h2⟩, _⟩ := hμ a w h
  refine wp_mono (hbody _ s a w h1 h2) ?_
  intro e a' w' hq
  cases e with
  | normal =>
    obtain ⟨s', hT', n', s'', hlt, hle, hI'⟩ := hq
    have hp : p a' w' n' := ⟨s'', hI', hle _ _ _ hT'⟩
    refine ⟨⟨n', hp⟩, ?_⟩
    obtain ⟨_, hmin⟩ := hμ a' w' ⟨n', hp⟩
    rcases Nat.lt_or_ge n' (μ a' w') with h | h
    · exact absurd hp (hmin n' h)
    · omega
  | exit id => exact hQ _ _ _ hq
  | ret => exact hQ _ _ _ hq
  | _ => exact hq.elim

theorem ax_sound (hΓ : TabOk P Γ) (hA : ACok P AC) (hm : P.follows .mixedOrders = true) (hwt : ∀ x, ¬ c.wt x) : ∀ (code : Code) (K : Ex → St → Prop) (s : St) (a : Act) (w : World), codeOk c.nt code = true → ax AC Γ code K s → Tells c s a w →
    code.wp P (QX c K) a w
  | .skip, K, s, a, w, _, h, hT => wp_skip ⟨s, hT, h⟩
  | .label _, K, s, a, w, _, h, hT => wp_label ⟨s, hT, h⟩
  | .region id ops dr, K, s, a, w, hd, h, hT => by
    simp only [codeOk, Bool.and_eq_true] at hd
    cases dr with
    | true =>
      obtain ⟨W, G, h, hG⟩ := Eq.mp (o_DrawAx _ _ _) h
      have hap : apartAll ops = true := by simpa using hd.2
      obtain ⟨β, φ, hR, hE, hdf, hnt⟩ := hT
      refine wp_region_held hm (S := Sx { c with w1 := w.drew, wt := fun b => b < w.heap.size ∧ ∀ i, W i = false → ¬ φ i b }) ?_
      have := any_sound (c := { c with w1 := w.drew, wt := fun b => b < w.heap.size ∧ ∀ i, W i = false → ¬ φ i b }) (Q := QX c K) hΓ hA
        (fun s' a' w' hT' hK => ⟨_, Tells.unwatch (c1 := { c with w1 := w.drew, wt := fun b => b < w.heap.size ∧ ∀ i, W i = false → ¬ φ i b }) (R := s.R) hwt rfl rfl rfl rfl rfl hT', hG s' hK⟩) (fun _ _ _ h => h) hd.1 hap ops.toList.length true (List.replicate ops.toList.length false) { s with R := W } a w.drew
        ⟨β, φ, hR.watched W, hE.drew W, hdf, hnt, fun _ x hx hi => ⟨hx, hi⟩⟩ h
      simpa using this
    | false => exact wp_region (run_sound hΓ hA (fun s a w hT hK => ⟨s, hT, hK⟩) hd.1 hT h)
  | .seq x y, K, s, a, w, hd, h, hT => by
    simp only [codeOk, Bool.and_eq_true] at hd
    refine wp_seq (wp_mono (ax_sound hΓ hA hm hwt x _ s a w hd.1 h hT) ?_)
    intro e a' w' hq
    cases e with
    | normal =>
      obtain ⟨s', h1, h2⟩ := hq
      exact ax_sound hΓ hA hm hwt y K s' a' w' hd.2 h2 h1
    | _ => exact hq
  | .cond o x y, K, s, a, w, hd, h, hT => by
    simp only [codeOk, Bool.and_eq_true] at hd
    rw [ax] at h
    split at h
    rotate_left
    · exact h.elim
    rename_i t ht
    have hv : a.eval o = .bool t := by
      obtain ⟨β, φ, hR, hE, hdf, hnt⟩ := hT
      have := aeval_V hE o
      rw [ht] at this
      exact this.val_eq
    refine wp_cond_split hv (fun e => ?_) (fun e => ?_)
    · subst e; exact ax_sound hΓ hA hm hwt x K s a w hd.1 h hT
    · subst e; exact ax_sound hΓ hA hm hwt y K s a w hd.2 h hT
  | .block id x, K, s, a, w, hd, h, hT => by
    refine wp_block (wp_mono (ax_sound hΓ hA hm hwt x _ s a w hd h hT) ?_)
    intro e a' w' hq
    cases e with
    | exit i =>
      obtain ⟨s', h1, h2⟩ := hq
      simp only [Exit.inBlock]
      simp only [blockX] at h2
      split
      · rename_i e; rw [if_pos e] at h2; exact ⟨s', h1, h2⟩
      · rename_i e; rw [if_neg e] at h2; exact ⟨s', h1, h2⟩
    | _ => exact hq
  | .loop x, K, s, a, w, hd, h, hT => by
    obtain ⟨X, st, μ, inv, ⟨x0, h0, hle⟩, hb⟩ := Eq.mp (o_LoopAx _ _ _) h
    refine loop_sound (I := fun n s => ∃ y, inv y ∧ s = st y ∧ μ y = n) ?_ (fun _ _ _ h => h) ⟨x0, h0, rfl, rfl⟩ (hle _ _ _ hT)
    rintro n _ a w ⟨y, hy, rfl, rfl⟩ hT
    refine wp_mono (ax_sound hΓ hA hm hwt x _ _ a w hd (hb y hy) hT) (fun e a w hq => hq.mono ?_)
    intro e s' h
    cases e with
    | normal =>
      obtain ⟨y', h1, h2, h3⟩ := Eq.mp (o_Back _ _ _ _ _) h
      exact ⟨μ y', st y', h1, h3, y', h2, rfl, rfl⟩
    | exit id => exact h
    | ret => exact h
  | .exit id, K, s, a, w, _, h, hT => wp_exit ⟨s, hT, h⟩
  | .ret, K, s, a, w, _, h, hT => wp_ret ⟨s, hT, h⟩
  | .goto _, K, s, a, w, _, h, hT => h.elim

end
end Go.Am
end
section
set_option linter.all false
namespace Go.Am
section
variable {P : Program} {Γ : Tab} {c : Ctx} {s : St} {β : Nat → Option Loc} {φ : Nat → Bs} {a : Act} {w : World} {N : Bs}
variable {AC : FuncId → List A → Nat → St → (A → St → Prop) → Prop}

mutual
/-- The second is the first, where nobody writes any more. -/
inductive Fz (H : Nat → Option Ob) : A → A → Prop
  | any : Fz H .any .any
  | val {v} : Fz H (.val v) (.val v)
  | emp : Fz H .emp .emp
  | fro {sz n g} : Fz H (.slc false sz n g) (.slc false sz n g)
  | own {sz n g g'} : (∀ i, i < n → Fzs H (g i) (g' i)) → Fz H (.slc true sz n g) (.slc false sz n g')
  | sl {id off n ob g'} : H id = some ob → off + n ≤ ob.n → (∀ i, i < n → Fzs H (ob.g (off + i)) (g' i)) → Fz H (.sl id off n) (.slc false ob.sz n g')
  | agg {l l'} : Fzs H l l' → Fz H (.agg l) (.agg l')
  | tup {l l'} : Fzs H l l' → Fz H (.tup l) (.tup l')
inductive Fzs (H : Nat → Option Ob) : List A → List A → Prop
  | nil : Fzs H [] []
  | cons {a a' l l'} : Fz H a a' → Fzs H l l' → Fzs H (a :: l) (a' :: l')
end

theorem K.less {N' : Bs} (hN : ∀ x, N' x → N x) {a : A} {v : Value} {F : Bs} (h : K w N a v F) : K w N' a v F :=
  h.stb ⟨Nat.le_refl _, fun b _ hb => ⟨rfl, fun h => hb (hN b h)⟩⟩ (fun _ _ => rfl)

theorem Ks.less {N' : Bs} (hN : ∀ x, N' x → N x) {a : List A} {v : List Value} {F : Bs} (h : Ks w N a v F) : Ks w N' a v F :=
  h.stb ⟨Nat.le_refl _, fun b _ hb => ⟨rfl, fun h => hb (hN b h)⟩⟩ (fun _ _ => rfl)

theorem K.nobd {a : A} {v : Value} {F F' : Bs} (h : K w N a v F) (h0 : nob F) (h1 : nob F') : K w N a v F' := by
  have : F = F' := funext fun x => propext ⟨fun hx => absurd hx (h0 x), fun hx => absurd hx (h1 x)⟩
  rw [← this]; exact h

/-- A cell that stands for itself. -/
def clo1 : A → Bool
  | .any | .val _ | .emp | .slc .. => true
  | _ => false

theorem Cl.k {a : A} {v : Value} {F : Bs} (h : Cl w N β a v F) (hc : clo1 a = true) : K w N a v F := by
  rcases h with h | ⟨h0, h1, h2⟩
  · exact h
  · cases h1 with
    | any => exact .any h2 h0
    | clo k1 k2 => exact k1.nobd k2 h0
    | _ => cases hc

theorem nobF : nob (fun _ => False) := fun _ h => h

theorem V.clo1 {a : A} {v : Value} (h : V w N β a v) (h1 : v.oneCell' = true) : Cl w N β a v (fun _ => False) := .inr ⟨nobF, h, h1⟩

/-- The objects of H are told, and M keeps off them. -/
structure Lkd (H : Nat → Option Ob) (N M : Bs) (β : Nat → Option Loc) (φ : Nat → Bs) (w : World) : Prop where
  obj : ∀ id ob, H id = some ob → ∃ L, β id = some L ∧ OR w N β L ob (φ id)
  off : ∀ id ob, H id = some ob → ∀ x, φ id x → ¬ M x
  sub : ∀ x, M x → N x

theorem Rel.lkd (hR : Rel c s β φ w) : Lkd s.H (Ow c.N0 φ) c.N0 β φ w := ⟨hR.obj, fun id _ _ x hx => hR.n0 id x hx, fun _ h => .inl h⟩

variable {H : Nat → Option Ob} {M : Bs}

mutual
theorem Fz.k' (hR : Lkd H N M β φ w) : ∀ {a a' : A}, Fz H a a' → ∀ {v F}, Cl w N β a v F → (∀ x, F x → ¬ M x) → K w M a' v (fun _ => False)
  | _, _, .any, v, F, h, hF => .any h.one nobF
  | _, _, .val, v, F, h, hF => by
    have hk := (h.k rfl)
    cases hk with
    | val h1 h2 => exact .val h1 nobF
  | _, _, .emp, v, F, h, hF => by
    have hk := (h.k rfl)
    cases hk with
    | emp h2 => exact .emp nobF
  | _, _, .fro, v, F, h, hF => by
    have hk := (h.k rfl)
    have hN : ∀ x, M x → N x := hR.sub
    have h0 : nob F := by
      cases hk with
      | fro0 h => exact h
      | fro h => exact h
    exact (hk.less hN).nobd h0 nobF
  | _, _, .own hg, v, F, h, hF => by
    have hk := (h.k rfl)
    cases hk with
    | own0 h0 => exact .fro0 nobF
    | own k0 k1 k2 k3 k4 k5 k6 =>
      exact .fro nobF (hF _ ((k6 _).2 (.inl rfl))) k0.lt k1 k2 (fun i hi => Fzs.k' hR (hg i hi) (k3 i hi).cs (fun x hx => hF x ((k6 x).2 (.inr ⟨i, hi, hx⟩))))
  | _, _, .sl (id := id) (off := off) (n := n) (ob := ob) hob hn hg, v, F, h, hF => by
    rcases h with h | ⟨h0, h1, h2⟩
    · cases h
    obtain ⟨L, ad, cp, l1, rfl, l2, l3, l4⟩ := h1.sl_eq
    obtain ⟨L', q1, z1, z2, z3⟩ := hR.obj id ob hob
    rw [l1] at q1; cases q1
    rcases l4 with rfl | ⟨hnn, rfl⟩
    · have : n = 0 := by omega
      subst this
      exact .fro0 nobF
    · rcases z3 with ⟨z3, _⟩ | ⟨_, vs, Fi, y1, y2, y3, y4, y5, y6⟩
      · rw [hnn] at z3; cases z3
      have hrow := y2.shift (l := off) (m := n) hn
      rw [← z1] at hrow
      have hin : ∀ x, φ id x → ¬ M x := hR.off id ob hob
      rw [← z1]
      exact .fro nobF (hin _ ((y6 _).2 (.inl rfl))) y1.lt l3 hrow (fun i hi => Fzs.k' hR (hg i hi) (y3 _ (by omega)) (fun x hx => hin x ((y6 x).2 (.inr ⟨off + i, by omega, hx⟩))))
  | _, _, .agg hl, v, F, h, hF => by
    rcases h with h | ⟨h0, h1, h2⟩
    · cases h
    · obtain ⟨cs, rfl, _⟩ := h1.agg_eq; cases h2
  | _, _, .tup hl, v, F, h, hF => by
    rcases h with h | ⟨h0, h1, h2⟩
    · cases h
    · obtain ⟨cs, rfl, _⟩ := h1.tup_eq; cases h2
theorem Fzs.k' (hR : Lkd H N M β φ w) : ∀ {l l' : List A}, Fzs H l l' → ∀ {vs F}, Cs w N β l vs F → (∀ x, F x → ¬ M x) → Ks w M l' vs (fun _ => False)
  | _, _, .nil, vs, F, h, hF => by
    cases h with
    | nil h => exact .nil nobF
  | _, _, .cons h1 h2, vs, F, h, hF => by
    cases h with
    | cons k1 k2 k3 k4 =>
      exact .cons (Fz.k' hR h1 k1 (fun x hx => hF x ((k4 x).2 (.inl hx)))) (Fzs.k' hR h2 k2 (fun x hx => hF x ((k4 x).2 (.inr hx)))) (fun _ h => h.elim) (fun x => by simp)
end

mutual
theorem Fz.v' (hR : Lkd H N M β φ w) : ∀ {a a' : A}, Fz H a a' → ∀ {v}, V w N β a v → V w M (fun _ => none) a' v
  | _, _, .any, v, h => .any
  | _, _, .val, v, h => .clo (Fz.k' hR .val (h.clo1 (by rw [h.val_eq]; exact h.val_one)) (fun _ h => h.elim)) nobF
  | _, _, .emp, v, h => by
    obtain ⟨a, rfl⟩ := h.emp_eq
    exact .clo (.emp nobF) nobF
  | _, _, .fro, v, h => by
    cases h with
    | clo k1 k2 => exact .clo (Fz.k' hR .fro (.inl k1) (fun x hx => absurd hx (k2 x))) nobF
  | _, _, .own hg, v, h => by
    cases h with
    | clo k1 k2 => exact .clo (Fz.k' hR (.own hg) (.inl k1) (fun x hx => absurd hx (k2 x))) nobF
  | _, _, .sl hob hn hg, v, h => by
    have h1 : v.oneCell' = true := by
      obtain ⟨L, ad, cp, l1, rfl, l2, l3, l4⟩ := h.sl_eq
      rfl
    exact .clo (Fz.k' hR (.sl hob hn hg) (h.clo1 h1) (fun _ h => h.elim)) nobF
  | _, _, .agg hl, v, h => by
    obtain ⟨cs, rfl, hv⟩ := h.agg_eq
    exact .agg (Fzs.v' hR hl hv)
  | _, _, .tup hl, v, h => by
    obtain ⟨cs, rfl, hv⟩ := h.tup_eq
    exact .tup (Fzs.v' hR hl hv)
theorem Fzs.v' (hR : Lkd H N M β φ w) : ∀ {l l' : List A}, Fzs H l l' → ∀ {vs}, Vs w N β l vs → Vs w M (fun _ => none) l' vs
  | _, _, .nil, vs, h => by
    cases h; exact .nil
  | _, _, .cons h1 h2, vs, h => by
    cases h with
    | cons k1 k2 => exact .cons (Fz.v' hR h1 k1) (Fzs.v' hR h2 k2)
end


theorem Fz.k (hR : Rel c s β φ w) {a a' : A} (h : Fz s.H a a') {v F} (hc : Cl w (Ow c.N0 φ) β a v F) (hF : ∀ x, F x → ¬ c.N0 x) : K w c.N0 a' v (fun _ => False) := Fz.k' hR.lkd h hc hF
theorem Fzs.k (hR : Rel c s β φ w) {l l' : List A} (h : Fzs s.H l l') {vs F} (hc : Cs w (Ow c.N0 φ) β l vs F) (hF : ∀ x, F x → ¬ c.N0 x) : Ks w c.N0 l' vs (fun _ => False) := Fzs.k' hR.lkd h hc hF
theorem Fz.v (hR : Rel c s β φ w) {a a' : A} (h : Fz s.H a a') {v} (hc : V w (Ow c.N0 φ) β a v) : V w c.N0 (fun _ => none) a' v := Fz.v' hR.lkd h hc
theorem Fzs.v (hR : Rel c s β φ w) {l l' : List A} (h : Fzs s.H l l') {vs} (hc : Vs w (Ow c.N0 φ) β l vs) : Vs w c.N0 (fun _ => none) l' vs := Fzs.v' hR.lkd h hc

end
end Go.Am
end
section
set_option linter.all false
namespace Go.Am
section
variable {P : Program} {Γ : Tab} {c : Ctx} {s : St} {β : Nat → Option Loc} {φ : Nat → Bs} {a : Act} {w : World} {N : Bs}
variable {AC : FuncId → List A → Nat → St → (A → St → Prop) → Prop}

/-- What was there stays. -/
structure Same (w w' : World) : Prop where
  os : w'.os = w.os
  tape : w'.tape = w.tape
  output : w'.output = w.output
  size : w.heap.size ≤ w'.heap.size
  keep : ∀ b, b < w.heap.size → w'.heap[b]? = w.heap[b]?

def flatR : A → List A
  | .agg l => l
  | .tup l => l.flatMap cellsOf
  | a => [a]

def rebuildT : List A → List A → List A
  | [], _ => []
  | .agg l :: r, m => .agg (m.take l.length) :: rebuildT r (m.drop l.length)
  | _ :: r, m => m.headD .any :: rebuildT r (m.drop 1)

def rebuild : A → List A → A
  | .agg _, m => .agg m
  | .tup l, m => .tup (rebuildT l m)
  | _, m => m.headD .any

inductive Kt1 (w : World) (N : Bs) : A → Value → Bs → Prop
  | one {a v F} : clo1 a = true → K w N a v F → Kt1 w N a v F
  | agg {l cs F} : Ks w N l cs.toList F → Kt1 w N (.agg l) (.agg cs) F
inductive Kts (w : World) (N : Bs) : List A → List Value → Bs → Prop
  | nil {F} : nob F → Kts w N [] [] F
  | cons {a v l vs F F1 F2} : Kt1 w N a v F1 → Kts w N l vs F2 → (∀ x, F1 x → ¬ F2 x) → (∀ x, F x ↔ F1 x ∨ F2 x) → Kts w N (a :: l) (v :: vs) F
/-- A result, with what it owns. -/
inductive Kt (w : World) (N : Bs) : A → Value → Bs → Prop
  | one {a v F} : Kt1 w N a v F → Kt w N a v F
  | tup {l cs F} : Kts w N l cs.toList F → Kt w N (.tup l) (.tuple cs) F

theorem Ks.append {l m : List A} {vs us : List Value} {F1 F2 F : Bs} (h : Ks w N l vs F1) (k : Ks w N m us F2) (hd : ∀ x, F1 x → ¬ F2 x) (hF : ∀ x, F x ↔ F1 x ∨ F2 x) : Ks w N (l ++ m) (vs ++ us) F := by
  induction l generalizing vs F1 F with
  | nil =>
    cases h with
    | nil h =>
      have : F = F2 := funext fun x => propext ⟨fun hx => ((hF x).1 hx).elim (fun hx => absurd hx (h x)) (fun hx => hx), fun hx => (hF x).2 (.inr hx)⟩
      rw [this]; exact k
  | cons x l ih =>
    cases h with
    | cons h1 h2 h3 h4 =>
      rename_i G1 G2
      refine .cons h1 (ih (F := fun x => G2 x ∨ F2 x) h2 (fun x hx => hd x ((h4 x).2 (.inr hx))) (fun x => Iff.rfl)) (fun x hx hy => ?_) (fun x => ?_)
      · rcases hy with hy | hy
        · exact h3 x hx hy
        · exact hd x ((h4 x).2 (.inl hx)) hy
      · rw [hF x, h4 x, or_assoc]

theorem Kts.flat {l : List A} {vs : List Value} {F : Bs} (h : Kts w N l vs F) : ∃ us, Ks w N (l.flatMap cellsOf) us F ∧
    ∀ (w' : World) (N' : Bs) (β : Nat → Option Loc) (m : List A), Vs w' N' β m us → Vs w' N' β (rebuildT l m) vs := by
  induction l generalizing vs F with
  | nil => cases h with | nil h => exact ⟨[], .nil h, fun _ _ _ m hm => by rw [rebuildT]; exact .nil⟩
  | cons x l ih =>
    cases h with
    | cons h1 h2 h3 h4 =>
      obtain ⟨us, q1, q2⟩ := ih h2
      cases h1 with
      | one hc hk =>
        rename_i v vs F1 F2
        have hcell : cellsOf x = [x] := by cases x <;> first | rfl | cases hc
        refine ⟨v :: us, ?_, fun w' N' β m hm => ?_⟩
        · rw [List.flatMap_cons, hcell]
          exact .cons hk q1 h3 h4
        · cases hm with
          | @cons b _ m' _ m1 m2 =>
            have : rebuildT (x :: l) (b :: m') = b :: rebuildT l m' := by cases x <;> first | rfl | cases hc
            rw [this]
            exact .cons m1 (q2 _ _ _ _ m2)
      | agg hk =>
        rename_i vs F1 F2 l1 cs
        refine ⟨cs.toList ++ us, ?_, fun w' N' β m hm => ?_⟩
        · rw [List.flatMap_cons]
          exact hk.append q1 h3 h4
        · have hl := hk.length
          rw [rebuildT]
          refine .cons (.agg ?_) (q2 _ _ _ _ ?_)
          · have := hm.take l1.length
            rw [hl, List.take_left'] at this
            · rw [hl]; exact this
            · rfl
          · have := hm.drop l1.length
            rw [hl, List.drop_left'] at this
            · rw [hl]; exact this
            · rfl

theorem Kt.flat {r : A} {v : Value} {F : Bs} (h : Kt w N r v F) : ∃ us, Ks w N (flatR r) us F ∧
    ∀ (w' : World) (N' : Bs) (β : Nat → Option Loc) (m : List A), Vs w' N' β m us → V w' N' β (rebuild r m) v := by
  cases h with
  | one h =>
    cases h with
    | one hc hk =>
      have hcell : flatR r = [r] := by cases r <;> first | rfl | cases hc
      refine ⟨[v], by rw [hcell]; exact .cons (F2 := fun _ => False) hk (.nil nobF) (fun _ _ h => h) (fun x => by simp), fun w' N' β m hm => ?_⟩
      cases hm with
      | @cons b _ m' _ m1 m2 =>
        have : rebuild r (b :: m') = b := by cases r <;> first | rfl | cases hc
        rw [this]
        exact m1
    | agg hk => exact ⟨_, hk, fun w' N' β m hm => .agg hm⟩
  | tup h =>
    obtain ⟨us, q1, q2⟩ := h.flat
    exact ⟨us, q1, fun w' N' β m hm => .tup (q2 _ _ _ _ hm)⟩

theorem Ks.nob {l : List A} {vs : List Value} {F : Bs} (h : Ks w N l vs F) (h0 : noOwn l = true) : nob F := by
  induction l generalizing vs F with
  | nil => cases h with | nil h => exact h
  | cons x l ih =>
    cases h with
    | cons h1 h2 h3 h4 =>
      have hx : ∀ sz n g, x ≠ .slc true sz n g := by intro sz n g e; subst e; simp [noOwn] at h0
      rw [noOwn_other hx] at h0
      have n2 := ih h2 h0
      rename_i F1 F2
      have n1 : Am.nob F1 := by
        cases h1 with
        | any _ h => exact h
        | val _ h => exact h
        | emp h => exact h
        | fro0 h => exact h
        | fro h => exact h
        | own0 => exact absurd rfl (hx _ _ _)
        | own => exact absurd rfl (hx _ _ _)
      intro y hy
      rcases (h4 y).1 hy with h | h
      · exact n1 y h
      · exact n2 y h

/-- What a state tells stays, where what was there stays. -/
theorem Rel.same' (hR : Rel c s β φ w) {w' : World} (hw : Same w w') : Rel c s β φ w' ∧ Stb w (Ow c.N0 φ) w' (Ow c.N0 φ) := by
  have hS : Stb w (Ow c.N0 φ) w' (Ow c.N0 φ) := ⟨hw.size, fun b hb hn => ⟨hw.keep b hb, hn⟩⟩
  refine ⟨?_, hS⟩
  constructor
  · exact hR.fr.trans hw.os hw.tape hw.output hw.size (fun b hb _ => hw.keep b (Nat.lt_of_lt_of_le hb hR.fr.size))
  · exact hR.given
  · exact hR.fresh
  · intro i o ho
    obtain ⟨L, h1, h2⟩ := hR.obj i o ho
    exact ⟨L, h1, h2.stb hS (Bex.refl β) (fun x hx => hw.keep x (hR.lt i x hx))⟩
  · exact hR.dead
  · exact hR.dis
  · exact hR.sub
  · exact hR.n0
  · exact fun i x hx => Nat.lt_of_lt_of_le (hR.lt i x hx) hw.size
  · exact hR.n0lt
  · exact hR.f0lt
  · exact hR.f0n0
  · exact fun x hx => by rw [hw.keep x (hR.wlt x hx)]; exact hR.watch x hx
  · exact fun x hx => Nat.lt_of_lt_of_le (hR.wlt x hx) hw.size
  · exact hR.wsep

/-- A result that owns memory: the objects that it brings. -/
theorem Rel.adopt (hR : Rel c s β φ w) {w' : World} (hw : Same w w') {l : List A} {us : List Value} {F : Bs} {d : Nat} (hD : s.D d = false) (hd : 0 < d) (hl : l.length ≤ 50)
    (hk : Ks w' (fun x => Ow c.N0 φ x ∨ F x) l us F) (hF : ∀ x, F x → w.heap.size ≤ x ∧ x < w'.heap.size) :
    ∃ β' φ', Rel c { s with H := (Am.opens (d * 64) l s.H).2, D := setD s.D d } β' φ' w' ∧ Stb w (Ow c.N0 φ) w' (Ow c.N0 φ') ∧ Bex β β' ∧ Vs w' (Ow c.N0 φ') β' (Am.opens (d * 64) l s.H).1 us := by
  have hfresh : ∀ k, d * 64 ≤ k → k < d * 64 + l.length → β k = none := fun k h1 h2 => hR.fresh d hD k (by omega)
  have hcs : Cs w' (fun x => Ow c.N0 φ x ∨ F x) β l us F := hk.cs
  obtain ⟨β', ψ, F', r1, r2, r3, r4, r5, r6, r7, r8, r9⟩ := opens_sound l us F (d * 64) s.H β hcs hfresh
  have hψF : ∀ m x, ψ m x → F x := fun m x hx => (r7 m x hx).1
  have hHnew : ∀ k, d * 64 ≤ k → k < d * 64 + l.length → s.H k = none := fun k h1 h2 => by
    cases e : s.H k with
    | none => rfl
    | some o => obtain ⟨L', e1, _⟩ := hR.obj k o e; rw [hfresh k h1 h2] at e1; cases e1
  let φ' : Nat → Bs := fun k x => φ k x ∨ ψ k x
  have hOw : ∀ x, Ow c.N0 φ' x → Ow c.N0 φ x ∨ F x := by
    rintro x (h | ⟨k, h | h⟩)
    · exact .inl (.inl h)
    · exact .inl (.inr ⟨k, h⟩)
    · exact .inr (hψF k x h)
  have hS : Stb w (Ow c.N0 φ) w' (Ow c.N0 φ') := ⟨hw.size, fun b hb hn => ⟨hw.keep b hb, fun h => by
    rcases hOw b h with h | h
    · exact hn h
    · have := (hF b h).1; omega⟩⟩
  have hS2 : Stb w' (fun x => Ow c.N0 φ x ∨ F x) w' (Ow c.N0 φ') := ⟨Nat.le_refl _, fun b _ hn => ⟨rfl, fun h => hn (hOw b h)⟩⟩
  refine ⟨β', φ', ?_, hS, r1, ?_⟩
  rotate_left
  · exact (r2.stb hS2 (Bex.refl β') (fun _ _ => rfl)).vs r3
  constructor
  · exact hR.fr.trans hw.os hw.tape hw.output hw.size (fun b hb _ => hw.keep b (Nat.lt_of_lt_of_le hb hR.fr.size))
  · intro k hk
    rw [r5 k (by omega)]
    exact hR.given k hk
  · intro q hq k hk
    replace hq : setD s.D d q = false := hq
    simp only [o_setD] at hq
    by_cases e : q = d
    · simp [e] at hq
    · simp [e] at hq
      rw [r5 k (by omega)]
      exact hR.fresh q hq k hk
  · intro k o ho
    replace ho : (Am.opens (d * 64) l s.H).2 k = some o := ho
    rcases r6 k with ⟨h, h'⟩ | ⟨h, h', ob', L', q1, q2, q3⟩
    · rw [h] at ho
      obtain ⟨L', t1, t2⟩ := hR.obj k o ho
      have : φ' k = φ k := funext fun x => propext ⟨fun hx => hx.elim (fun h => h) (fun hx => absurd hx (h' x)), .inl⟩
      rw [this]
      exact ⟨L', r1 _ _ t1, t2.stb hS r1 (fun x hx => hw.keep x (hR.lt k x hx))⟩
    · rw [q1] at ho; cases ho
      have h0 := hR.dead k (hHnew k h h')
      have : φ' k = ψ k := funext fun x => propext ⟨fun hx => hx.elim (fun h => absurd h (h0 x)) (fun h => h), .inr⟩
      rw [this]
      exact ⟨L', q2, q3.stb hS2 (Bex.refl β') (fun _ _ => rfl)⟩
  · intro k hk
    replace hk : (Am.opens (d * 64) l s.H).2 k = none := hk
    rcases r6 k with ⟨h, h'⟩ | ⟨h, h', ob', L', q1, _⟩
    · rw [h] at hk
      rintro x (hx | hx)
      · exact hR.dead k hk x hx
      · exact h' x hx
    · rw [q1] at hk; cases hk
  · intro k m hkm x hx hy
    rcases hx with hx | hx <;> rcases hy with hy | hy
    · exact hR.dis k m hkm x hx hy
    · have := hR.lt k x hx; have := (hF x (hψF m x hy)).1; omega
    · have := hR.lt m x hy; have := (hF x (hψF k x hx)).1; omega
    · exact r9 k m hkm x hx hy
  · rintro k x (hx | hx)
    · exact hR.sub k x hx
    · exact .inr (Nat.le_trans hR.fr.size (hF x (hψF k x hx)).1)
  · rintro k x (hx | hx) hn
    · exact hR.n0 k x hx hn
    · have := (hF x (hψF k x hx)).1
      have := hR.n0lt x hn
      have := hR.fr.size
      omega
  · rintro k x (hx | hx)
    · exact Nat.lt_of_lt_of_le (hR.lt k x hx) hw.size
    · exact (hF x (hψF k x hx)).2
  · exact hR.n0lt
  · exact hR.f0lt
  · exact hR.f0n0
  · exact fun x hx => by rw [hw.keep x (hR.wlt x hx)]; exact hR.watch x hx
  · exact fun x hx => Nat.lt_of_lt_of_le (hR.wlt x hx) hw.size
  · rintro k hk x (hx | hx) hwt
    · exact hR.wsep k hk x hx hwt
    · have := (hF x (hψF k x hx)).1
      have := hR.wlt x hwt
      omega

end
end Go.Am
end
