/- Effects: copy, clear: the theorems. · Effects: all of them; one operation. · Effects: loads that open what the cells own. · One operation. -/
import Derived.Test.YtkbdhffgmahpdaaA4
section
set_option linter.all false
namespace Go.Am
section
variable {P : Program} {Γ : Tab} {c : Ctx} {s : St} {β : Nat → Option Loc} {φ : Nat → Bs} {a : Act} {w : World} {N : Bs}

theorem ovr_zero (g : Nat → List A) (off : Nat) (h : Nat → List A) : ovr g off 0 h = g := by
  funext i
  unfold ovr
  rw [if_neg (by omega)]

/-- Elements of an object, written over by ones that own nothing. -/
theorem Rel.over (hR : Rel c s β φ w) {id : Nat} {ob : Ob} (hid : s.H id = some ob) (hr : s.R id = false) {L : Loc} (hL : β id = some L) (hn : L.nul = false) {off m : Nat} {h : Nat → List A} {us : Nat → List Value}
    (hoff : off + m ≤ ob.n) (hl : ∀ i, i < m → (us i).length = ob.sz) (hv : ∀ i, i < m → Vs w (Ow c.N0 φ) β (h i) (us i) ∧ ∀ u ∈ us i, u.oneCell' = true) :
    ∃ (cur : Array Value) (E : TypeId), w.heap[L.b]? = some (.cells cur E (0, 0)) ∧ L.off + off * L.sz + (flat m us).length ≤ cur.size ∧
      ∃ φ', Rel c { s with H := setH s.H id (some ⟨ob.sz, ob.n, ovr ob.g off m h⟩) } β φ' (w.setRow L.b (seg cur.toList (L.off + off * L.sz) (flat m us)).toArray) ∧
        Stb w (Ow c.N0 φ) (w.setRow L.b (seg cur.toList (L.off + off * L.sz) (flat m us)).toArray) (Ow c.N0 φ') := by
  obtain ⟨L', hL', hor⟩ := hR.obj id ob hid
  rw [hL] at hL'; cases hL'
  obtain ⟨vs, Fi, cur, E, k0, k1, hsz, hcap, krow, kel, knb, kdis, kF⟩ := hor.open hn
  have hlen := flat_length (n := m) (vs := us) hl
  have hfit : L.off + off * L.sz + (flat m us).length ≤ cur.size := by
    have : (off + m) * L.sz ≤ L.cap * L.sz := Nat.mul_le_mul_right _ (by omega)
    rw [Nat.add_mul] at this
    rw [hlen, ← hsz]
    omega
  have hfit' : L.off + off * L.sz + (flat m us).length ≤ cur.toList.length := by simpa using hfit
  have hbid : φ id L.b := (kF _).2 (.inl rfl)
  have hbO : Ow c.N0 φ L.b := .inr ⟨id, hbid⟩
  refine ⟨cur, E, k0, hfit, ?_⟩
  let Fi' : Nat → Bs := fun k => if off ≤ k ∧ k < off + m then fun _ => False else Fi k
  let vs' : Nat → List Value := fun k => if off ≤ k ∧ k < off + m then us (k - off) else vs k
  have hFi : ∀ k x, Fi' k x → Fi k x := by
    intro k x hx
    by_cases e : off ≤ k ∧ k < off + m
    · simp only [Fi', if_pos e] at hx
    · simp only [Fi', if_neg e] at hx; exact hx
  refine Rel.upd (Z := fun k => k = id) (id' := id) (w' := w.setRow L.b (seg cur.toList (L.off + off * L.sz) (flat m us)).toArray) hR (fun k hk => by rw [hk]; exact hr) rfl rfl rfl (by simp) (fun x hx hz => setRow_other w L.b x _ (by rintro rfl; exact hz id rfl hbid))
    (β' := β) (F' := fun x => x = L.b ∨ ∃ k, k < ob.n ∧ Fi' k x) (fun q hq => ⟨hq, ?_⟩) (Bex.refl β) (fun _ _ => rfl) (fun _ => rfl) (fun k hk => .inl (setH_ne _ _ hk)) (fun k hk hk' => absurd hk hk') (fun _ => rfl)
    (fun x hx => .inl ⟨id, rfl, (kF x).2 (hx.imp (fun h => h) (fun ⟨k, hk, hx⟩ => ⟨k, hk, hFi k x hx⟩))⟩) (fun N' hN' => ⟨L, _, hL, setH_same _ _ _, ?_⟩)
  · rintro rfl
    have := hR.fresh _ hq id rfl
    rw [hL] at this; cases this
  · have hS : Stb w (Ow c.N0 φ) (w.setRow L.b (seg cur.toList (L.off + off * L.sz) (flat m us)).toArray) N' := Stb.setRow hbO hN'
    refine OR.redo (ob := ⟨ob.sz, ob.n, ovr ob.g off m h⟩) hn k0 hsz hcap (by rw [List.size_toArray, seg_length hfit']; simpa using k1) (vs := vs') (Fi := Fi') (fun k hk => ?_) (fun k hk => ?_) (fun k hk => ?_)
      (fun k hk l hl hkl x hx hy => kdis k hk l hl hkl x (hFi k x hx) (hFi l x hy))
    · replace hk : k < ob.n := hk
      obtain ⟨r1, r2⟩ := krow k hk
      simp only [vs']
      by_cases e : off ≤ k ∧ k < off + m
      · rw [if_pos e]
        refine ⟨hl _ (by omega), fun j hj => ?_⟩
        replace hj : j < ob.sz := hj
        have hb : (k - off + 1) * ob.sz ≤ m * ob.sz := Nat.mul_le_mul_right _ (by omega)
        have hb' : k * ob.sz = off * ob.sz + (k - off) * ob.sz := by rw [← Nat.add_mul]; congr 1; omega
        rw [Nat.add_mul] at hb
        show (seg cur.toList _ (flat m us)).toArray[L.off + k * ob.sz + j]? = _
        rw [List.getElem?_toArray, ← flat_get hl (k - off) (by omega) j hj]
        rw [hsz] at hfit' ⊢
        rw [seg_in hfit' (by omega) (by rw [hlen]; omega)]
        congr 1; omega
      · rw [if_neg e]
        refine ⟨r1, fun j hj => ?_⟩
        replace hj : j < ob.sz := hj
        show (seg cur.toList _ (flat m us)).toArray[L.off + k * ob.sz + j]? = _
        rw [List.getElem?_toArray, ← r2 j hj]
        rw [hsz] at hfit' ⊢
        by_cases e' : k < off
        · have : (k + 1) * ob.sz ≤ off * ob.sz := Nat.mul_le_mul_right _ (by omega)
          rw [Nat.add_mul] at this
          rw [seg_lt hfit' (by omega)]; simp
        · have : (off + m) * ob.sz ≤ k * ob.sz := Nat.mul_le_mul_right _ (by omega)
          rw [Nat.add_mul] at this
          rw [seg_ge hfit' (by rw [hlen]; omega)]; simp
    · replace hk : k < ob.n := hk
      simp only [Fi', vs', ovr]
      by_cases e : off ≤ k ∧ k < off + m
      · simp only [if_pos e]
        exact ((hv (k - off) (by omega)).1.stb hS (Bex.refl β)).cs (hv (k - off) (by omega)).2
      · simp only [if_neg e]
        exact (kel k hk).stb hS (Bex.refl β) (fun x hx => setRow_other w L.b x _ (by rintro rfl; exact knb k hk hx))
    · intro hx; exact knb k hk (hFi k _ hx)

theorem Rel.same (hR : Rel c s β φ w) {id : Nat} {ob : Ob} (hid : s.H id = some ob) : setH s.H id (some ob) = s.H := by
  funext i
  by_cases e : i = id
  · subst e; rw [setH_same, hid]
  · rw [setH_ne _ _ e]

theorem flat_prefix {vs : Nat → List Value} {k m : Nat} (h : k ≤ m) : ∃ r, flat m vs = flat k vs ++ r := by
  obtain ⟨d, rfl⟩ : ∃ d, m = k + d := ⟨m - k, by omega⟩
  refine ⟨((List.range d).map (k + ·)).flatMap vs, ?_⟩
  unfold flat
  rw [List.range_add, List.flatMap_append]

theorem Rd.pre {ad : Option Addr} {l r : List Value} (h : Rd w ad (l ++ r)) : Rd w ad l :=
  ⟨fun b o e j v hv => h.1 b o e j v (by rw [List.getElem?_append_left (List.getElem?_eq_some_iff.1 hv).1]; exact hv),
   fun e => (List.append_eq_nil_iff.1 (h.2 e)).1⟩

theorem copy_run {dT sT ty e : TypeId} {te : TI} (hu : P.underlying dT = some (.slice e)) (ke : TIok P e te) {ad ad2 : Option Addr} {n cp m cp2 : Nat} {us : Nat → List Value}
    (hl : ∀ i, i < m → (us i).length = te.sz) (hN : Rd w ad2 (flat m us)) {w' : World} (hst : ∀ x, ad = some x → (storeCells x (flat (min n m) us)).run P w = .ok () w') (h0 : ad = none → w' = w) :
    (Builtin.copy_ #[dT, sT] ty #[.slice ad n cp, .slice ad2 m cp2]).run P w = .ok (goInt ((min n m : Nat) : Int)) w' := by
  obtain ⟨r, hr⟩ := flat_prefix (vs := us) (k := min n m) (m := m) (by omega)
  rw [hr] at hN
  have hl' := flat_length (n := min n m) (vs := us) (sz := te.sz) (fun i hi => hl i (by omega))
  have f2 := firstCells_run (P := P) (w := w) (size := te.sz) (k := min n m) (ad := ad2) (len := m) (cap := cp2) hl' hN.pre
  have hmin : Nat.min m n = min n m := Nat.min_comm m n
  cases ad with
  | none =>
    have := h0 rfl
    subst this
    simp [Builtin.copy_, run_underlying hu, Builtin.lenOf, size_run ke.info, ke.sz, hmin, f2]
    try exact congrArg goInt (by omega)
  | some x =>
    have := hst x rfl
    simp [Builtin.copy_, run_underlying hu, Builtin.lenOf, size_run ke.info, ke.sz, hmin, f2, this]
    try exact congrArg goInt (by omega)

theorem clear_run {t ty e : TypeId} {te : TI} (hu : P.underlying t = some (.slice e)) (ke : TIok P e te) {ad : Option Addr} {n cp : Nat} {w' : World} (hn : n = 0 → w' = w)
    (hst : n ≠ 0 → ∃ x, ad = some x ∧ (storeCells x (flat n (fun _ => ke.z.cells.toList))).run P w = .ok () w') :
    (Builtin.clear_ #[t] ty #[.slice ad n cp]).run P w = .ok (.tuple #[]) w' := by
  cases n with
  | zero =>
    have := hn rfl
    subst this
    cases ad <;> simp [Builtin.clear_, run_underlying hu]
  | succ n =>
    obtain ⟨x, rfl, hx⟩ := hst (by simp)
    have hz : (Builtin.zeroCells ke.z.cells (n + 1)).toList = flat (n + 1) (fun _ => ke.z.cells.toList) := by
      have hrep := zeros_eq ke.z.cells (n + 1)
      unfold Builtin.zeroCells
      rw [hrep]
      have : ∀ n, repV n ke.z.cells.toList = flat n (fun _ => ke.z.cells.toList) := by
        intro n
        induction n with
        | zero => rfl
        | succ n ih =>
          unfold flat at *
          rw [List.range_succ_eq_map, List.flatMap_cons, repV, ih, List.flatMap_map]
      exact this _
    simp [Builtin.clear_, run_underlying hu, zero_run ke, hz, hx]

end
end Go.Am
end
section
set_option linter.all false
namespace Go.Am
section
variable {P : Program} {Γ : Tab} {c : Ctx} {s : St} {β : Nat → Option Loc} {φ : Nat → Bs} {a : Act} {w : World} {N : Bs}
variable {AC : FuncId → List A → Nat → St → (A → St → Prop) → Prop}

/-- A function that has code. -/
def Callable (P : Program) (F : FuncId) : Prop := ∃ fn, P.funcs[F]? = some fn ∧ fn.body ≠ none ∧ fn.name ≠ "runtime.NumGoroutine"

/-- What the abstract machine says of calls is so. -/
def ACok (P : Program) (AC : FuncId → List A → Nat → St → (A → St → Prop) → Prop) : Prop :=
  ∀ F args d s K, AC F args d s K → Callable P F ∧ ∀ c β φ w vs, Rel c s β φ w → Vs w (Ow c.N0 φ) β args vs →
    Calls P F vs.toArray w (fun e w' => ∃ v, e = .returned v ∧ Out c s β φ w K v w')

theorem out_put (hE : Env s (Ow c.N0 φ) β a w) (hdf : a.defers = []) (hnt : a.tmps.size = c.nt) {o : Oper} (hd : dstOk c.nt o = true) {K : St → Prop} {v : Value} {w' : World}
    (h : Out c s β φ w (fun r s' => K (put s' o.dst r)) v w') : ∃ s', Tells c s' (a.put o.dst v) w' ∧ K s' := by
  obtain ⟨r, s', β', φ', hR, hS, hB, he, hV, hK⟩ := h
  exact ⟨_, Tells.put hE hdf hnt hR hS hB he hd hV, hK⟩

theorem eff_append (hΓ : TabOk P Γ) (hT : Tells c s a w) {o : Oper} {cl : Call} (ho : o.op = .call cl) (hb : cl.callee = .builtin .append) (hd : dstOk c.nt o = true) {K : St → Prop} (h : eff AC Γ o s K)
    {next : Act → World → Prop} {Q : Exit → Act → World → Prop} (hK : ∀ s' a' w', Tells c s' a' w' → K s' → next a' w') : o.wp P a w next Q := by
  obtain ⟨β, φ, hR, hE, hdf, hnt⟩ := hT
  unfold eff at h
  simp only [ho, hb] at h
  split at h
  rotate_left
  · exact h.elim
  rename_i x y t t' d hx ht hdst
  split at h
  rotate_left
  · exact h.elim
  rename_i htt
  subst htt
  obtain ⟨v, w', hrun, hO⟩ := app_sound (ty := o.type) hΓ hR (aeval_V hE x) (aeval_V hE y) h
  rw [← hdst] at hO
  obtain ⟨s', hT', hK'⟩ := out_put hE hdf hnt hd hO
  refine show o.upon P a next Q ((execOp a.eval o).run P w) from ?_
  have hexec : (execOp a.eval o).run P w = .ok (.value v) w' := by
    have e1 := args_two hx
    have e2 : cl.argTypes = #[t, t] := by rw [← Array.toList_inj]; simpa using ht
    simp [execOp, ho, resolve, hb, e1, e2, invoke, builtin, hrun]
  rw [hexec]
  exact hK _ _ _ hT' hK'

theorem eff_copy (hΓ : TabOk P Γ) (hT : Tells c s a w) {o : Oper} {cl : Call} (ho : o.op = .call cl) (hb : cl.callee = .builtin .copy) (hd : dstOk c.nt o = true) {K : St → Prop} (h : eff AC Γ o s K)
    {next : Act → World → Prop} {Q : Exit → Act → World → Prop} (hK : ∀ s' a' w', Tells c s' a' w' → K s' → next a' w') : o.wp P a w next Q := by
  obtain ⟨β, φ, hR, hE, hdf, hnt⟩ := hT
  unfold eff at h
  simp only [ho, hb] at h
  split at h
  rotate_left
  · exact h.elim
  rename_i x y t r hx ht
  split at h
  · exact h.elim
  rename_i ti hti
  split at h
  · exact h.elim
  rename_i e q hsub
  split at h
  rotate_left
  · exact h.elim
  rename_i te id off n C m hh ky hte hax hseq
  split at h
  · exact h.elim
  rename_i ob hob
  split at h
  rotate_left
  · exact h.elim
  rename_i hcc
  obtain ⟨hC, hcpy, hle, h⟩ := h
  obtain ⟨kt⟩ := hΓ t ti hti
  obtain ⟨ke⟩ := hΓ e te hte
  have hu := kt.slice_und hcc.2.1 hsub
  have hvx := aeval_V hE x
  rw [hax] at hvx
  obtain ⟨L, ad, cp, l1, ex, l2, l3, l4⟩ := hvx.sl_eq
  obtain ⟨⟨ad2, cp2, us, Fy, hsrc⟩, _⟩ := seqA_sound hR (aeval_V hE y) hseq hC hcc.2.2.1
  simp only [o_leNN, o_nadd] at hle
  have ey := hsrc.val
  have hvs : ∀ i, i < m → Vs w (Ow c.N0 φ) β (hh i) (us i) ∧ ∀ u ∈ us i, u.oneCell' = true := fun i hi => ⟨(hsrc.el i hi).vs (hcpy i hi), (hsrc.el i hi).one⟩
  have fin : ∀ w' , (Builtin.copy_ #[t, t] o.type #[.slice ad n cp, .slice ad2 m cp2]).run P w = .ok (goInt ((min n m : Nat) : Int)) w' → True := fun _ _ => trivial
  refine show o.upon P a next Q ((execOp a.eval o).run P w) from ?_
  have e1 := args_two hx
  have e3 : cl.argTypes[0]? = some t := by rw [← Array.getElem?_toList, ht]; rfl
  have main : ∀ w', (Builtin.copy_ #[t, t] o.type #[.slice ad n cp, .slice ad2 m cp2]).run P w = .ok (goInt ((min n m : Nat) : Int)) w' → (execOp a.eval o).run P w = .ok (.value (goInt ((min n m : Nat) : Int))) w' := by
    intro w' hrun
    have hrun' : (Builtin.copy_ cl.argTypes o.type #[.slice ad n cp, .slice ad2 m cp2]).run P w = .ok (goInt ((min n m : Nat) : Int)) w' := by
      rw [← hrun]
      unfold Builtin.copy_
      simp [e3]
    simp [execOp, ho, resolve, hb, e1, invoke, builtin, ex, ey, hrun']
  have hone : V w (Ow c.N0 φ) β (.val (.int .i64 (len64 (nmin n m)))) (goInt ((min n m : Nat) : Int)) := by
    simp only [o_len64, o_nmin]
    exact V.ofVal rfl
  rcases l4 with rfl | ⟨hn, rfl⟩
  · have e0 : n = 0 := by omega
    subst e0
    have hmin : min 0 m = 0 := by omega
    have hrun := copy_run (P := P) (w := w) (ty := o.type) (dT := t) (sT := t) hu ke (ad := ad) (ad2 := ad2) (n := 0) (cp := 0) (m := m) (cp2 := cp2) (us := us) hsrc.len hsrc.rd (w' := w)
      (fun x _ => by rw [hmin]; simp [flat, storeCells]) (fun _ => rfl)
    rw [main w hrun]
    have hmin' : nmin 0 m = 0 := by simp only [o_nmin]; exact hmin
    rw [hmin'] at h hone
    rw [ovr_zero] at h
    have hob' : (⟨ob.sz, ob.n, ob.g⟩ : Ob) = ob := rfl
    rw [hob', hR.same hob] at h
    rw [hmin]
    exact hK _ _ _ (Tells.put (s' := s) hE hdf hnt hR (Stb.refl _ _) (Bex.refl β) rfl hd hone) h
  · obtain ⟨cur, E, k0, hfit, φ', hR', hS⟩ := hR.over hob hcc.2.2.2 l1 hn (off := off) (m := min n m) (h := hh) (us := us) (by omega) (fun i hi => by rw [hsrc.len i (by omega), hcc.1]) (fun i hi => hvs i (by omega))
    have hst := run_storeCells_at P L.b (L.off + off * L.sz) E (flat (min n m) us) 0 cur w k0 (by simpa using hfit) (fun u hu => by
      unfold flat at hu
      rw [List.mem_flatMap] at hu
      obtain ⟨i, hi, hu⟩ := hu
      rw [List.mem_range] at hi
      exact (hvs i (by omega)).2 u hu)
    simp only [Nat.add_zero] at hst
    have hrun := copy_run (P := P) (w := w) (ty := o.type) (dT := t) (sT := t) hu ke (ad := some ⟨L.b, L.off + off * L.sz, none⟩) (ad2 := ad2) (n := n) (cp := cp) (m := m) (cp2 := cp2) (us := us) hsrc.len hsrc.rd
      (w' := w.setRow L.b (seg cur.toList (L.off + off * L.sz) (flat (min n m) us)).toArray) (fun x hx => by cases hx; rw [hst]; simp [seg]) (fun hx => by cases hx)
    rw [main _ hrun]
    have hmin' : nmin n m = min n m := by simp only [o_nmin]
    rw [hmin'] at h hone
    exact hK _ _ _ (Tells.put hE hdf hnt hR' hS (Bex.refl β) rfl hd (hone.stb hS (Bex.refl β))) h

theorem eff_clear (hΓ : TabOk P Γ) (hT : Tells c s a w) {o : Oper} {cl : Call} (ho : o.op = .call cl) (hb : cl.callee = .builtin .clear) (hd : dstOk c.nt o = true) {K : St → Prop} (h : eff AC Γ o s K)
    {next : Act → World → Prop} {Q : Exit → Act → World → Prop} (hK : ∀ s' a' w', Tells c s' a' w' → K s' → next a' w') : o.wp P a w next Q := by
  obtain ⟨β, φ, hR, hE, hdf, hnt⟩ := hT
  unfold eff at h
  simp only [ho, hb] at h
  split at h
  rotate_left
  · exact h.elim
  rename_i x t r hx ht
  split at h
  · exact h.elim
  rename_i ti hti
  split at h
  · exact h.elim
  rename_i e q hsub
  split at h
  rotate_left
  · exact h.elim
  rename_i te id off n hte hax
  split at h
  · exact h.elim
  rename_i ob hob
  split at h
  rotate_left
  · exact h.elim
  rename_i hcc
  obtain ⟨hle, h⟩ := h
  obtain ⟨kt⟩ := hΓ t ti hti
  obtain ⟨ke⟩ := hΓ e te hte
  have hu := kt.slice_und hcc.2.1 hsub
  have hvx := aeval_V hE x
  rw [hax] at hvx
  obtain ⟨L, ad, cp, l1, ex, l2, l3, l4⟩ := hvx.sl_eq
  simp only [o_leNN, o_nadd] at hle
  refine show o.upon P a next Q ((execOp a.eval o).run P w) from ?_
  have e1 := args_one hx
  have e3 : cl.argTypes[0]? = some t := by rw [← Array.getElem?_toList, ht]; rfl
  have main : ∀ w', (Builtin.clear_ #[t] o.type #[.slice ad n cp]).run P w = .ok (.tuple #[]) w' → (execOp a.eval o).run P w = .ok (.value (.tuple #[])) w' := by
    intro w' hrun
    have hrun' : (Builtin.clear_ cl.argTypes o.type #[.slice ad n cp]).run P w = .ok (.tuple #[]) w' := by
      rw [← hrun]
      unfold Builtin.clear_
      simp [e3]
    simp [execOp, ho, resolve, hb, e1, invoke, builtin, ex, hrun']
  have hzl : ke.z.cells.toList.length = te.sz := by rw [← ke.zs.length, ke.zsz]
  by_cases h0 : n = 0
  · subst h0
    have hrun := clear_run (P := P) (w := w) (ty := o.type) (t := t) hu ke (ad := ad) (n := 0) (cp := cp) (w' := w) (fun _ => rfl) (fun h => absurd rfl h)
    rw [main w hrun]
    rw [ovr_zero] at h
    have hob' : (⟨ob.sz, ob.n, ob.g⟩ : Ob) = ob := rfl
    rw [hob', hR.same hob] at h
    exact hK _ _ _ (Tells.put (s' := s) hE hdf hnt hR (Stb.refl _ _) (Bex.refl β) rfl hd .any) h
  · rcases l4 with rfl | ⟨hn, rfl⟩
    · omega
    obtain ⟨cur, E, k0, hfit, φ', hR', hS⟩ := hR.over hob hcc.2.2 l1 hn (off := off) (m := n) (h := fun _ => te.zero) (us := fun _ => ke.z.cells.toList) hle (fun i hi => by rw [hzl, hcc.1]) (fun i hi => ⟨ke.zs.vs, ke.zs.one⟩)
    have hst := run_storeCells_at P L.b (L.off + off * L.sz) E (flat n (fun _ => ke.z.cells.toList)) 0 cur w k0 (by simpa using hfit) (fun u hu => by
      unfold flat at hu
      rw [List.mem_flatMap] at hu
      obtain ⟨i, hi, hu⟩ := hu
      exact ke.zs.one u hu)
    simp only [Nat.add_zero] at hst
    have hrun := clear_run (P := P) (w := w) (ty := o.type) (t := t) hu ke (ad := some ⟨L.b, L.off + off * L.sz, none⟩) (n := n) (cp := cp)
      (w' := w.setRow L.b (seg cur.toList (L.off + off * L.sz) (flat n (fun _ => ke.z.cells.toList))).toArray) (fun h => absurd h h0) (fun _ => ⟨_, rfl, by rw [hst]; simp [seg]⟩)
    rw [main _ hrun]
    exact hK _ _ _ (Tells.put hE hdf hnt hR' hS (Bex.refl β) rfl hd .any) h

end
end Go.Am
end
section
set_option linter.all false
namespace Go.Am
section
variable {P : Program} {Γ : Tab} {c : Ctx} {s : St} {β : Nat → Option Loc} {φ : Nat → Bs} {a : Act} {w : World} {N : Bs}
variable {AC : FuncId → List A → Nat → St → (A → St → Prop) → Prop}

theorem opens_other (k : Nat) {a : A} (l : List A) (H : Nat → Option Ob) (h : ∀ sz n g, a ≠ .slc true sz n g) : opens k (a :: l) H = (a :: (opens k l H).1, (opens k l H).2) := by
  rw [opens]
  exact h

theorem noOwn_other {a : A} {l : List A} (h : ∀ sz n g, a ≠ .slc true sz n g) : noOwn (a :: l) = noOwn l := by
  cases a <;> first | rfl | (rename_i o _ _ _; cases o <;> first | rfl | exact absurd rfl (h _ _ _))

/-- An own cell, as an object of its own. -/
theorem Cl.open {sz n : Nat} {g : Nat → List A} {v : Value} {F : Bs} (h : Cl w N β (.slc true sz n g) v F) (k : Nat) (hk : β k = none) :
    ∃ L, OR w N (setB β k (some L)) L ⟨sz, n, g⟩ F ∧ V w N (setB β k (some L)) (.sl k 0 n) v ∧ v.oneCell' = true := by
  have hK : ∃ F', K w N (.slc true sz n g) v F' ∧ ((nob F' ∧ nob F) ∨ F' = F) := by
    rcases h with h | ⟨h0, h1, _⟩
    · exact ⟨F, h, .inr rfl⟩
    · cases h1 with
      | clo h1 h2 => exact ⟨_, h1, .inl ⟨h2, h0⟩⟩
  obtain ⟨F', hK, hF⟩ := hK
  cases hK with
  | own0 h0 =>
    have hF0 : nob F := by
      rcases hF with ⟨_, h⟩ | h
      · exact h
      · rw [← h]; exact h0
    exact ⟨⟨0, 0, 0, sz, true⟩, ⟨rfl, Nat.le_refl _, .inl ⟨rfl, rfl, hF0⟩⟩, .sl (setB_same _ _ _) (Nat.le_refl _) (Nat.le_refl _) (.inl rfl), rfl⟩
  | own k0 k1 k2 k3 k4 k5 k6 =>
    rename_i b off cc vs Fi
    have hF' : F' = F := by
      rcases hF with ⟨h, _⟩ | h
      · exact absurd ((k6 b).2 (.inl rfl)) (h b)
      · exact h
    subst hF'
    refine ⟨⟨b, off, cc, sz, false⟩, ⟨rfl, k1, .inr ⟨rfl, vs, Fi, k0, k2, fun i hi => ?_, k4, k5, k6⟩⟩, .sl (setB_same _ _ _) (by simp) k1 (.inr ⟨rfl, by simp⟩), rfl⟩
    exact (k3 i hi).cs

theorem opens_sound : ∀ (l : List A) (vs : List Value) (F : Bs) (k : Nat) (H : Nat → Option Ob) (β : Nat → Option Loc), Cs w N β l vs F → (∀ m, k ≤ m → m < k + l.length → β m = none) →
    ∃ (β' : Nat → Option Loc) (ψ : Nat → Bs) (F' : Bs), Bex β β' ∧ Cs w N β' (opens k l H).1 vs F' ∧ noOwn (opens k l H).1 = true ∧ (opens k l H).1.length = l.length ∧
      (∀ m, (m < k ∨ k + l.length ≤ m) → β' m = β m) ∧
      (∀ m, ((opens k l H).2 m = H m ∧ nob (ψ m)) ∨ (k ≤ m ∧ m < k + l.length ∧ ∃ ob L, (opens k l H).2 m = some ob ∧ β' m = some L ∧ OR w N β' L ob (ψ m))) ∧
      (∀ m x, ψ m x → F x ∧ ¬ F' x) ∧ (∀ x, F' x → F x) ∧ (∀ m m', m ≠ m' → ∀ x, ψ m x → ¬ ψ m' x)
  | [], vs, F, k, H, β, h, _ => by
    cases h with
    | nil h0 =>
      exact ⟨β, fun _ _ => False, F, Bex.refl β, .nil h0, rfl, rfl, fun _ _ => rfl, fun m => .inl ⟨rfl, fun _ h => h⟩, fun _ _ h => h.elim, fun _ h => h, fun _ _ _ _ h => h.elim⟩
  | a :: l, _, F, k, H, β, h, hk => by
    cases h with
    | @cons _ v _ vs _ F1 F2 h1 h2 h3 h4 =>
      by_cases ha : ∃ sz n g, a = .slc true sz n g
      · obtain ⟨sz, n, g, rfl⟩ := ha
        obtain ⟨L, q1, q2, q3⟩ := h1.open k (hk k (Nat.le_refl _) (by simp))
        have hB1 : Bex β (setB β k (some L)) := Bex.set (hk k (Nat.le_refl _) (by simp))
        obtain ⟨β', ψ, F', r1, r2, r3, r4, r5, r6, r7, r8, r9⟩ := opens_sound l vs F2 (k + 1) (setH H k (some ⟨sz, n, g⟩)) (setB β k (some L)) (h2.stb (Stb.refl w N) hB1 (fun _ _ => rfl))
          (fun m hm hm' => by rw [setB_ne _ _ (by omega)]; exact hk m (by omega) (by simp; omega))
        have hψk : nob (ψ k) := by
          rcases r6 k with h | ⟨h, _⟩
          · exact h.2
          · omega
        have hop : opens k (.slc true sz n g :: l) H = (.sl k 0 n :: (opens (k + 1) l (setH H k (some ⟨sz, n, g⟩))).1, (opens (k + 1) l (setH H k (some ⟨sz, n, g⟩))).2) := rfl
        rw [hop]
        refine ⟨β', setB ψ k F1, F', hB1.trans r1, .cons (F1 := fun _ => False) (.inr ⟨fun _ h => h, q2.stb (Stb.refl w N) r1, q3⟩) r2 (fun _ h => h.elim) (fun x => by simp), r3, by simp [r4], fun m hm => ?_, fun m => ?_, fun m x hx => ?_, fun x hx => ?_, fun m m' hmm x hx hy => ?_⟩
        · simp only [List.length_cons] at hm
          rw [r5 m (by omega), setB_ne _ _ (by omega)]
        · by_cases e : m = k
          · subst e
            refine .inr ⟨Nat.le_refl _, by simp, ⟨sz, n, g⟩, L, ?_, ?_, ?_⟩
            · rcases r6 m with h | ⟨h, _⟩
              · rw [h.1]; exact setH_same _ _ _
              · omega
            · rw [r5 m (by omega)]; exact setB_same _ _ _
            · rw [setB_same]; exact q1.stb (Stb.refl w N) r1 (fun _ _ => rfl)
          · rw [setB_ne _ _ e]
            rcases r6 m with ⟨h, h'⟩ | ⟨h, h', ob, L', e1, e2, e3⟩
            · refine .inl ⟨?_, h'⟩
              rw [h]; exact setH_ne _ _ e
            · exact .inr ⟨by omega, by simp; omega, ob, L', e1, e2, e3⟩
        · by_cases e : m = k
          · subst e; rw [setB_same] at hx
            exact ⟨(h4 x).2 (.inl hx), fun h => h3 x hx (r8 x h)⟩
          · rw [setB_ne _ _ e] at hx
            exact ⟨(h4 x).2 (.inr (r7 m x hx).1), (r7 m x hx).2⟩
        · exact (h4 x).2 (.inr (r8 x hx))
        · by_cases e : m = k
          · subst e; rw [setB_same] at hx; rw [setB_ne _ _ (Ne.symm hmm)] at hy
            exact h3 x hx (r7 m' x hy).1
          · rw [setB_ne _ _ e] at hx
            by_cases e' : m' = k
            · subst e'; rw [setB_same] at hy; exact h3 x hy (r7 m x hx).1
            · rw [setB_ne _ _ e'] at hy; exact r9 m m' hmm x hx hy
      · have ha' : ∀ sz n g, a ≠ .slc true sz n g := fun sz n g e => ha ⟨sz, n, g, e⟩
        obtain ⟨β', ψ, F', r1, r2, r3, r4, r5, r6, r7, r8, r9⟩ := opens_sound l vs F2 k H β h2 (fun m hm hm' => hk m hm (by simp; omega))
        rw [opens_other k l H ha']
        refine ⟨β', ψ, fun x => F1 x ∨ F' x, r1, .cons (h1.stb (Stb.refl w N) r1 (fun _ _ => rfl)) r2 (fun x hx hy => h3 x hx (r8 x hy)) (fun x => Iff.rfl), ?_, by simp [r4], fun m hm => ?_, fun m => ?_, fun m x hx => ?_, fun x hx => ?_, r9⟩
        · rw [noOwn_other ha']; exact r3
        · simp only [List.length_cons] at hm
          exact r5 m (by omega)
        · rcases r6 m with h | ⟨h, h', hh⟩
          · exact .inl h
          · exact .inr ⟨h, by simp; omega, hh⟩
        · obtain ⟨e1, e2⟩ := r7 m x hx
          refine ⟨(h4 x).2 (.inr e1), ?_⟩
          rintro (h | h)
          · exact h3 x h e1
          · exact e2 h
        · exact (h4 x).2 (hx.imp id (r8 x))

/-- A state in which one element's cells are opened. -/
theorem Rel.opens (hR : Rel c s β φ w) {id : Nat} {ob : Ob} (hid : s.H id = some ob) (hr : s.R id = false) {L : Loc} (hL : β id = some L) (hn : L.nul = false) {d i j m : Nat} (hD : s.D (d + 1) = false)
    (hi : i < ob.n) (hj : j + m ≤ ob.sz) (hm : m ≤ 50) :
    ∃ (vs : Nat → List Value) (β' : Nat → Option Loc) (φ' : Nat → Bs) (r : List A × (Nat → Option Ob)), r = Am.opens (blk d) (((ob.g i).drop j).take m) s.H ∧ Row w L.b L.off ob.sz ob.n vs ∧
      Rel c { s with H := setH r.2 id (some ⟨ob.sz, ob.n, Am.upd ob.n ob.g i (splice (ob.g i) j r.1)⟩), D := setD s.D (d + 1) } β' φ' w ∧
      Stb w (Ow c.N0 φ) w (Ow c.N0 φ') ∧ Bex β β' ∧ Vs w (Ow c.N0 φ') β' r.1 (((vs i).drop j).take m) ∧ r.1.length = m := by
  obtain ⟨L', hL', hor⟩ := hR.obj id ob hid
  rw [hL] at hL'; cases hL'
  obtain ⟨z1, z2, z3⟩ := hor
  rcases z3 with ⟨z3, _⟩ | ⟨_, vs, Fi, y1, y2, y3, y4, y5, y6⟩
  · rw [hn] at z3; cases z3
  obtain ⟨F1, F2, e1, e2, e3, e4⟩ := (y3 i hi).cut j
  obtain ⟨F3, F4, d1, d2, d3, d4⟩ := e2.cut m
  have hlm : (((ob.g i).drop j).take m).length = m := by
    rw [d1.length]
    have := (y2 i hi).1
    simp; omega
  have hfresh : ∀ k, blk d ≤ k → k < blk d + m → β k = none := fun k h1 h2 => hR.fresh (d + 1) hD k (by unfold blk at *; omega)
  obtain ⟨β', ψ, F', r1, r2, r3, r4, r5, r6, r7, r8, r9⟩ := opens_sound _ _ F3 (blk d) s.H β d1 (fun k h1 h2 => hfresh k h1 (by rw [hlm] at h2; exact h2))
  rw [hlm] at r4 r5 r6
  generalize hr0 : Am.opens (blk d) (((ob.g i).drop j).take m) s.H = r at *
  have hout : ∀ k, (k < blk d ∨ blk d + m ≤ k) → r.2 k = s.H k ∧ nob (ψ k) := fun k hk => by
    rcases r6 k with h | ⟨h, h', _⟩
    · exact h
    · omega
  have hHnew : ∀ k, blk d ≤ k → k < blk d + m → s.H k = none := fun k h1 h2 => by
    cases e : s.H k with
    | none => rfl
    | some o => obtain ⟨L', e1, _⟩ := hR.obj k o e; rw [hfresh k h1 h2] at e1; cases e1
  have hidout : id < blk d ∨ blk d + m ≤ id := by
    rcases Nat.lt_or_ge id (blk d) with h | h
    · exact .inl h
    · rcases Nat.lt_or_ge id (blk d + m) with h' | h'
      · rw [hHnew id h h'] at hid; cases hid
      · exact .inr h'
  have hψid : nob (ψ id) := (hout id hidout).2
  have hF3i : ∀ x, F3 x → Fi i x := fun x hx => (e4 x).2 (.inr ((d4 x).2 (.inl hx)))
  have hF3φ : ∀ x, F3 x → φ id x := fun x hx => (y6 x).2 (.inr ⟨i, hi, hF3i x hx⟩)
  have hψφ : ∀ k x, ψ k x → φ id x := fun k x hx => hF3φ x (r7 k x hx).1
  let Gi : Nat → Bs := fun k => if k = i then fun x => (F1 x ∨ F' x) ∨ F4 x else Fi k
  have hGi : ∀ k x, Gi k x → Fi k x := by
    intro k x hx
    by_cases e : k = i
    · subst e
      simp only [Gi, if_pos] at hx
      rcases hx with (hx | hx) | hx
      · exact (e4 x).2 (.inl hx)
      · exact hF3i x (r8 x hx)
      · exact (e4 x).2 (.inr ((d4 x).2 (.inr hx)))
    · simp only [Gi, if_neg e] at hx; exact hx
  have hGψ : ∀ p k x, k < ob.n → Gi k x → ¬ ψ p x := by
    intro p k x hk hx hy
    by_cases e : k = i
    · subst e
      simp only [Gi, if_pos] at hx
      rcases hx with (hx | hx) | hx
      · exact e3 x hx ((d4 x).2 (.inl (r7 p x hy).1))
      · exact (r7 p x hy).2 hx
      · exact d3 x (r7 p x hy).1 hx
    · simp only [Gi, if_neg e] at hx
      exact y5 k hk i hi e x hx (hF3i x (r7 p x hy).1)
  let φ' : Nat → Bs := fun k => if k = id then fun x => x = L.b ∨ ∃ k, k < ob.n ∧ Gi k x else fun x => φ k x ∨ ψ k x
  have p1 : φ' id = fun x => x = L.b ∨ ∃ k, k < ob.n ∧ Gi k x := if_pos rfl
  have p2 : ∀ k, k ≠ id → φ' k = fun x => φ k x ∨ ψ k x := fun k h => if_neg h
  have p3 : ∀ x, φ' id x → φ id x := by
    intro x hx
    rw [p1] at hx
    exact (y6 x).2 (hx.imp (fun h => h) (fun ⟨k, hk, hx⟩ => ⟨k, hk, hGi k x hx⟩))
  have hsubφ : ∀ k x, φ' k x → ∃ k', φ k' x ∧ (k' = k ∨ (k' = id ∧ ψ k x)) := by
    intro k x hx
    by_cases e : k = id
    · subst e; exact ⟨k, p3 x hx, .inl rfl⟩
    · rw [p2 k e] at hx
      rcases hx with hx | hx
      · exact ⟨k, hx, .inl rfl⟩
      · exact ⟨id, hψφ k x hx, .inr ⟨rfl, hx⟩⟩
  have hOw : ∀ x, Ow c.N0 φ' x → Ow c.N0 φ x := by
    rintro x (h | ⟨k, h⟩)
    · exact .inl h
    · obtain ⟨k', h', _⟩ := hsubφ k x h; exact .inr ⟨k', h'⟩
  have hS : Stb w (Ow c.N0 φ) w (Ow c.N0 φ') := ⟨Nat.le_refl _, fun b _ hb => ⟨rfl, fun h => hb (hOw b h)⟩⟩
  have hL' : β' id = some L := r1 _ _ hL
  have hsplice : splice (ob.g i) j r.1 = (ob.g i).take j ++ r.1 ++ ((ob.g i).drop j).drop m := by
    unfold splice
    rw [r4, List.drop_drop]
  have hcat : (vs i) = (vs i).take j ++ ((vs i).drop j).take m ++ ((vs i).drop j).drop m := by
    rw [List.append_assoc, List.take_append_drop, List.take_append_drop]
  refine ⟨vs, β', φ', r, rfl, by rw [← z1]; exact z1 ▸ y2, ?_, hS, r1, ?_, r4⟩
  rotate_left
  · exact (r2.stb hS (Bex.refl β') (fun _ _ => rfl)).vs r3
  have hH : ∀ k, k ≠ id → setH r.2 id (some ⟨ob.sz, ob.n, Am.upd ob.n ob.g i (splice (ob.g i) j r.1)⟩) k = r.2 k := fun k h => setH_ne _ _ h
  constructor
  · exact hR.fr
  · intro k hk
    rw [r5 k (by unfold blk; omega)]
    exact hR.given k hk
  · intro q hq k hk
    replace hq : setD s.D (d + 1) q = false := hq
    simp only [o_setD] at hq
    by_cases e : q = d + 1
    · simp [e] at hq
    · simp [e] at hq
      rw [r5 k (by unfold blk; omega)]
      exact hR.fresh q hq k hk
  · intro k o ho
    replace ho : setH r.2 id (some ⟨ob.sz, ob.n, Am.upd ob.n ob.g i (splice (ob.g i) j r.1)⟩) k = some o := ho
    by_cases e : k = id
    · subst e
      rw [setH_same] at ho; cases ho
      refine ⟨L, hL', z1, z2, .inr ⟨hn, vs, Gi, y1, y2, fun k hk => ?_, fun k hk hx => y4 k hk (hGi k _ hx), fun k hk l hl hkl x hx hy => y5 k hk l hl hkl x (hGi k x hx) (hGi l x hy), fun x => by rw [p1]⟩⟩
      replace hk : k < ob.n := hk
      by_cases e : k = i
      · subst e
        simp only [o_upd (by first | assumption | omega), if_pos, Gi]
        rw [hsplice, hcat]
        have c1 := (e1.stb hS r1 (fun _ _ => rfl)).append (r2.stb hS (Bex.refl β') (fun _ _ => rfl)) (fun x hx hy => e3 x hx ((d4 x).2 (.inl (r8 x hy))))
        refine c1.append (d2.stb hS r1 (fun _ _ => rfl)) ?_
        rintro x (hx | hx) hy
        · exact e3 x hx ((d4 x).2 (.inr hy))
        · exact d3 x (r8 x hx) hy
      · simp only [o_upd (by first | assumption | omega), if_neg e, Gi]
        exact (y3 k hk).stb hS r1 (fun _ _ => rfl)
    · rw [hH k e] at ho
      rw [p2 k e]
      rcases r6 k with ⟨h, h'⟩ | ⟨h, h', ob', L', q1, q2, q3⟩
      · rw [h] at ho
        obtain ⟨L', t1, t2⟩ := hR.obj k o ho
        have : (fun x => φ k x ∨ ψ k x) = φ k := funext fun x => propext ⟨fun hx => hx.elim (fun h => h) (fun hx => absurd hx (h' x)), .inl⟩
        rw [this]
        exact ⟨L', r1 _ _ t1, t2.stb hS r1 (fun _ _ => rfl)⟩
      · rw [q1] at ho; cases ho
        have h0 := hR.dead k (hHnew k h h')
        have : (fun x => φ k x ∨ ψ k x) = ψ k := funext fun x => propext ⟨fun hx => hx.elim (fun h => absurd h (h0 x)) (fun h => h), .inr⟩
        rw [this]
        exact ⟨L', q2, q3.stb hS (Bex.refl β') (fun _ _ => rfl)⟩
  · intro k hk
    replace hk : setH r.2 id (some ⟨ob.sz, ob.n, Am.upd ob.n ob.g i (splice (ob.g i) j r.1)⟩) k = none := hk
    by_cases e : k = id
    · subst e; rw [setH_same] at hk; cases hk
    · rw [hH k e] at hk
      rw [p2 k e]
      rcases r6 k with ⟨h, h'⟩ | ⟨h, h', ob', L', q1, _⟩
      · rw [h] at hk
        rintro x (hx | hx)
        · exact hR.dead k hk x hx
        · exact h' x hx
      · rw [q1] at hk; cases hk
  · intro k l hkl x hx hy
    have one : ∀ p q, p ≠ q → p = id → φ' p x → φ' q x → False := by
      intro p q hpq e hx hy
      subst e
      have hq : q ≠ p := Ne.symm hpq
      rw [p2 q hq] at hy
      rcases hy with hy | hy
      · exact hR.dis p q hpq x (p3 x hx) hy
      · rw [p1] at hx
        rcases hx with rfl | ⟨k, hk, hx⟩
        · exact y4 i hi (hF3i _ (r7 q _ hy).1)
        · exact hGψ q k x hk hx hy
    by_cases e : k = id
    · exact one k l hkl e hx hy
    · by_cases e' : l = id
      · exact one l k (Ne.symm hkl) e' hy hx
      · rw [p2 k e] at hx
        rw [p2 l e'] at hy
        rcases hx with hx | hx
        · rcases hy with hy | hy
          · exact hR.dis k l hkl x hx hy
          · exact hR.dis k id e x hx (hψφ l x hy)
        · rcases hy with hy | hy
          · exact hR.dis id l (Ne.symm e') x (hψφ k x hx) hy
          · exact r9 k l hkl x hx hy
  · intro k x hx
    obtain ⟨k', h, _⟩ := hsubφ k x hx
    exact hR.sub k' x h
  · intro k x hx
    obtain ⟨k', h, _⟩ := hsubφ k x hx
    exact hR.n0 k' x h
  · intro k x hx
    obtain ⟨k', h, _⟩ := hsubφ k x hx
    exact hR.lt k' x h
  · exact hR.n0lt
  · exact hR.f0lt
  · exact hR.f0n0
  · exact hR.watch
  · exact hR.wlt
  · intro k hk x hx hw
    obtain ⟨k', h, h'⟩ := hsubφ k x hx
    rcases h' with rfl | ⟨rfl, _⟩
    · exact hR.wsep k' hk x h hw
    · exact hR.wsep k' hr x h hw

end
end Go.Am
end
section
set_option linter.all false
namespace Go.Am
section
variable {P : Program} {Γ : Tab} {c : Ctx} {s : St} {β : Nat → Option Loc} {φ : Nat → Bs} {a : Act} {w : World} {N : Bs}
variable {AC : FuncId → List A → Nat → St → (A → St → Prop) → Prop}

theorem eff_load (hΓ : TabOk P Γ) (hT : Tells c s a w) {o : Oper} {t : TypeId} {p : Operand} (ho : o.op = .load t p) (hd : dstOk c.nt o = true) {K : St → Prop} (h : eff AC Γ o s K)
    {next : Act → World → Prop} {Q : Exit → Act → World → Prop} (hK : ∀ s' a' w', Tells c s' a' w' → K s' → next a' w') : o.wp P a w next Q := by
  obtain ⟨β, φ, hR, hE, hdf, hnt⟩ := hT
  unfold eff at h
  simp only [ho] at h
  split at h
  rotate_left
  · exact h.elim
  rename_i ti id i j d ht hp hdst
  split at h
  · exact h.elim
  rename_i ob hob
  split at h
  rotate_left
  · exact h.elim
  rename_i hcc
  obtain ⟨hD, hi, h⟩ := h
  rw [ltN_iff] at hi
  obtain ⟨kt⟩ := hΓ t ti ht
  have hpv := aeval_V hE p
  rw [hp] at hpv
  obtain ⟨L, hL, hn, ev⟩ := hpv.ptr_eq
  obtain ⟨vs, β', φ', r, hr, hrow, hR', hS, hB, hV, hlen⟩ := hR.opens hob hcc.2.2 hL hn hD hi hcc.1 hcc.2.1
  rw [← hr] at h
  have hl : (((vs i).drop j).take ti.sz).length = ti.sz := by rw [← hV.length, hlen]
  have hcell : ∀ k, k < ti.sz → w.cell? ⟨L.b, L.off + i * L.sz + j + k, none⟩ = (((vs i).drop j).take ti.sz)[k]? := by
    intro k hk
    obtain ⟨q1, q2⟩ := hrow i hi
    obtain ⟨L', hL', hor⟩ := hR.obj id ob hob
    rw [hL] at hL'; cases hL'
    rw [List.getElem?_take, if_pos hk, List.getElem?_drop, ← q2 (j + k) (by omega), hor.1]
    congr 2
    omega
  have run : ∀ (ad : Addr) (v : Value), a.eval p = .pointer (some ad) → (loadVar t ad).run P w = .ok v w → (execOp a.eval o).run P w = .ok (.value v) w := by
    intro ad v he hv
    simp [execOp, ho, he, Instr.loadAt, Instr.sureAddr, hv]
  have fin : ∀ (x : A) (v : Value), (loadVar t ⟨L.b, L.off + i * L.sz + j, none⟩).run P w = .ok v w → V w (Ow c.N0 φ') β' x v →
      K { s with env := putE s.env d x, H := setH r.2 id (some ⟨ob.sz, ob.n, Am.upd ob.n ob.g i (splice (ob.g i) j r.1)⟩), D := setD s.D (d + 1) } → o.wp P a w next Q := by
    intro x v hrun hx hk
    unfold Oper.wp
    rw [run _ _ ev hrun, Oper.upon_value]
    refine hK _ _ _ ?_ hk
    have := Tells.put (s' := { s with H := setH r.2 id (some ⟨ob.sz, ob.n, Am.upd ob.n ob.g i (splice (ob.g i) j r.1)⟩), D := setD s.D (d + 1) }) hE hdf hnt hR' hS hB rfl hd hx
    rw [hdst] at this ⊢
    exact this
  split at h
  · rename_i ha
    exact fin _ _ (load_agg kt ha hl hcell) (.agg (by simpa using hV)) h
  · rename_i x ha hx
    rw [hx] at hV hlen
    generalize hus : ((vs i).drop j).take ti.sz = us at *
    cases hV with
    | cons k1 k2 =>
      have hz : 0 < ti.sz := by rw [← hlen]; simp
      have := hcell 0 hz
      simp at this
      exact fin _ _ (load_one kt ha this) k1 h
  · exact h.elim

theorem V.fn_eq {f : Fn} {l : List A} {u : Value} (h : V w N β (.fn f l) u) : ∃ cs : Array Value, u = .func f #[] cs ∧ Vs w N β l cs.toList := by
  cases h with
  | clo h _ => cases h
  | fn h => exact ⟨_, rfl, h⟩

theorem eff_call (hA : ACok P AC) (hT : Tells c s a w) {o : Oper} {cl : Call} (ho : o.op = .call cl) {f : Operand} (hb : cl.callee = .value f) (hd : dstOk c.nt o = true) {K : St → Prop} (h : eff AC Γ o s K)
    {next : Act → World → Prop} {Q : Exit → Act → World → Prop} (hK : ∀ s' a' w', Tells c s' a' w' → K s' → next a' w') : o.wp P a w next Q := by
  obtain ⟨β, φ, hR, hE, hdf, hnt⟩ := hT
  unfold eff at h
  simp only [ho, hb] at h
  have hv := aeval_V hE f
  have hargs : Vs w (Ow c.N0 φ) β (cl.args.toList.map (aeval s)) (cl.args.toList.map a.eval) := Vs.map hE
  have main : ∀ (F : FuncId) (args : List A) (vs : List Value), AC F args ((o.dst.getD 0) + 1) s (fun r s' => K (put s' o.dst r)) → Vs w (Ow c.N0 φ) β args vs →
      (execOp a.eval o).run P w = (callFunc F vs.toArray).run P w → o.wp P a w next Q := by
    intro F args vs hac hvs hrun
    obtain ⟨⟨fn, q1, q2, q3⟩, hcall⟩ := hA _ _ _ _ _ hac
    refine show o.upon P a next Q ((execOp a.eval o).run P w) from ?_
    have : (callFunc F vs.toArray).run P w = .ok (.enter F vs.toArray) w := by
      simp [callFunc, q1, q2, q3]
    rw [hrun, this, Oper.upon_enter]
    refine Calls.mono (hcall c β φ w vs hR hvs) ?_
    rintro e w' ⟨v, rfl, hO⟩
    obtain ⟨s', hT', hK'⟩ := out_put hE hdf hnt hd hO
    exact hK _ _ _ hT' hK'
  split at h
  · rename_i F hf
    rw [hf] at hv
    replace hv := hv.val_eq
    refine main F _ _ h hargs ?_
    have e : (cl.args.toList.map a.eval).toArray = cl.args.map a.eval := by apply Array.toList_inj.1; simp
    rw [e]
    simp [execOp, ho, resolve, hb, hv, Deferred.ofValue, invoke]
  · rename_i F cap hf
    rw [hf] at hv
    obtain ⟨cs, hev, hcap⟩ := hv.fn_eq
    refine main F _ _ h (hargs.append hcap) ?_
    have e : (cl.args.toList.map a.eval ++ cs.toList).toArray = cl.args.map a.eval ++ cs := by apply Array.toList_inj.1; simp
    rw [e]
    simp [execOp, ho, resolve, hb, hev, Deferred.ofValue, invoke]
  · exact h.elim

theorem mk_sound (hΓ : TabOk P Γ) (hR : Rel c s β φ w) (hE : Env s (Ow c.N0 φ) β a w) {o : Oper} {id : Nat} (h0 : β id = none) {C : Prop} {ob : Ob} {r : A} (h : mkOb Γ o s id = some (C, ob, r)) (hC : C) : Mks P c s β φ a w o id ob r := by
  cases ho : o.op with
  | alloc t =>
    unfold mkOb at h
    simp only [ho] at h
    split at h
    · rename_i ti ht
      cases h
      exact mk_alloc hΓ hR ho ht h0
    · cases h
  | box t x =>
    unfold mkOb at h
    simp only [ho] at h
    split at h
    · rename_i hs
      cases h
      exact mk_box hE ho hs h0
    · cases h
  | buildSlice t len parts => exact mk_buildSlice hΓ hE ho h0 h
  | makeSlice t x y => exact mk_makeSlice hΓ hE ho h0 h hC
  | _ => unfold mkOb at h; simp only [ho] at h; cases h

theorem equalIn_nil (d : Nat) {t e : TypeId} (hu : P.underlying t = some (.slice e)) (ad : Option Addr) (n cp : Nat) : (Op.equalIn (d + 1) t (.slice ad n cp) (.slice none 0 0)).run P w = .ok ad.isNone w := by
  simp only [Op.equalIn, Sem.run_bind, run_underlying hu, Result.andThen_ok]
  cases ad <;> rfl

theorem eff_nil (hΓ : TabOk P Γ) (hT : Tells c s a w) {o : Oper} {op : BinOp} {t : TypeId} {x y : Operand} {ty : TypeId} (ho : o.op = .binOp op t x y ty) (hd : dstOk c.nt o = true) {K : St → Prop} (h : eff AC Γ o s K)
    {next : Act → World → Prop} {Q : Exit → Act → World → Prop} (hK : ∀ s' a' w', Tells c s' a' w' → K s' → next a' w') : o.wp P a w next Q := by
  obtain ⟨β, φ, hR, hE, hdf, hnt⟩ := hT
  unfold eff at h
  simp only [ho] at h
  split at h
  rotate_left
  · exact h.elim
  rename_i ti n hti hlen
  split at h
  rotate_left
  · exact h.elim
  rename_i hcc
  obtain ⟨kt⟩ := hΓ _ _ hti
  obtain ⟨e, hu⟩ : ∃ e, P.underlying t = some (.slice e) := by
    have hd := kt.desc
    have hu := kt.und
    cases q : kt.d <;> rw [q] at hd hu <;> first | exact ⟨_, hu⟩ | (exfalso; simp [DescOk, hcc.1] at hd; done) | (exfalso; exact hcc.2 hd.2.1)
  obtain ⟨ad, cp, ev, hnc⟩ := (aeval_V hE x).len_eq hlen
  have hnil : ad = none → n = 0 := by
    intro e
    subst e
    have hv := aeval_V hE x
    rw [ev] at hv
    unfold lenA at hlen
    split at hlen
    · cases hlen; rfl
    · rename_i m hx
      rw [hx] at hv
      cases hlen
      obtain ⟨L, a', c', _, e1, _, h3, h4⟩ := hv.sl_eq
      cases e1
      rcases h4 with h4 | ⟨_, h4⟩
      · omega
      · cases h4
    · rename_i m hx
      rw [hx] at hv
      cases hlen
      rcases hv.fro_eq with ⟨e, _⟩ | ⟨b, off, c', vs, F, e1, _⟩
      · exact e
      · cases e1
    · cases hlen
  have heq : ∀ w, (Op.equal t (.slice ad n cp) (.slice none 0 0)).run P w = .ok ad.isNone w := by
    intro w
    exact equalIn_nil 9999 hu ad n cp
  have hty : a.eval (.const (.slice none 0 0)) = .slice none 0 0 := rfl
  have fin : ∀ (v : Bool) (_ : (execOp a.eval o).run P w = .ok (.value (.bool v)) w) (_ : K (put s o.dst (.val (.bool v)))), o.wp P a w next Q := by
    intro v hrun hk
    unfold Oper.wp
    rw [hrun, Oper.upon_value]
    exact hK _ _ _ (Tells.put (s' := s) hE hdf hnt hR (Stb.refl _ _) (Bex.refl β) rfl hd (V.ofVal rfl)) hk
  split at h
  · refine fin ad.isNone ?_ (h ad.isNone (fun e => ?_))
    · simp [execOp, ho, ev, hty, eqGuard, binOp, heq]
    · rw [o_eqN]; exact hnil (by simpa using e)
  · refine fin (!ad.isNone) ?_ (h (!ad.isNone) (fun e => ?_))
    · simp [execOp, ho, ev, hty, eqGuard, binOp, heq]
    · rw [o_eqN]; exact hnil (by simpa using e)
  · exact h.elim

/-- One operation that is carried out. -/
theorem ostep_sound (hΓ : TabOk P Γ) (hA : ACok P AC) (hT : Tells c s a w) {o : Oper} (hd : dstOk c.nt o = true) {K : St → Prop} (h : ostep AC Γ o s K)
    {next : Act → World → Prop} {Q : Exit → Act → World → Prop} (hK : ∀ s' a' w', Tells c s' a' w' → K s' → next a' w') : o.wp P a w next Q := by
  have heff : eff AC Γ o s K → o.wp P a w next Q := by
    intro h
    cases ho : o.op with
    | store t p x => exact eff_store hΓ hT ho hd h hK
    | load t p => exact eff_load hΓ hT ho hd h hK
    | binOp op t x y ty => exact eff_nil hΓ hT ho hd h hK
    | call cl =>
      cases hb : cl.callee with
      | builtin b =>
        cases b with
        | append => exact eff_append hΓ hT ho hb hd h hK
        | copy => exact eff_copy hΓ hT ho hb hd h hK
        | clear => exact eff_clear hΓ hT ho hb hd h hK
        | _ => unfold eff at h; simp only [ho, hb] at h
      | value f => exact eff_call hA hT ho hb hd h hK
      | _ => unfold eff at h; simp only [ho, hb] at h
    | _ => unfold eff at h; simp only [ho] at h
  unfold ostep at h
  cases hp : isPure o.op with
  | true =>
    rw [hp] at h
    simp only at h
    split at h
    · rename_i C v hv
      obtain ⟨hC, h⟩ := h
      obtain ⟨β, φ, hR, hE, hdf, hnt⟩ := hT
      obtain ⟨u, hrun, hV⟩ := pev_sound hΓ hR.objs hE hv hC
      unfold Oper.wp
      rw [hrun w (Alike.refl a o w), Oper.upon_value]
      exact hK _ _ _ (Tells.put (s' := s) hE hdf hnt hR (Stb.refl _ _) (Bex.refl β) rfl hd hV) h
    · exact heff h
  | false =>
    rw [hp] at h
    simp only at h
    cases hm : isMk o.op with
    | false =>
      rw [hm] at h
      exact heff h
    | true =>
      rw [hm] at h
      simp only at h
      split at h
      · exact h.elim
      rename_i d hdst
      split at h
      rotate_left
      · exact h.elim
      rename_i C ob v hmk
      obtain ⟨hD, hC, h⟩ := h
      obtain ⟨β, φ, hR, hE, hdf, hnt⟩ := hT
      have h0 : β (blk d) = none := hR.fresh _ hD _ (blk_div d)
      obtain ⟨cs, E, u, L, q1, q2, q3, q4⟩ := mk_sound hΓ hR hE h0 hmk hC
      obtain ⟨hR', hB, hS⟩ := hR.new (blk_div d) hD (by unfold blk; omega) q2 q3
      unfold Oper.wp
      rw [q1, Oper.upon_value]
      refine hK _ _ _ ?_ h
      have := Tells.put (s' := { s with H := setH s.H (blk d) (some ob), D := setD s.D (d + 1) }) hE hdf hnt hR' hS hB rfl hd (q4 _)
      rw [hdst] at this ⊢
      exact this

end
end Go.Am
end
