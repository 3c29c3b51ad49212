/- Operations that compute or read, the theorem: slices, fields, addresses, loads, together. · Operations that compute or read, the theorem: addresses and loads. · Operations that compute or read, the theorem: literals of structs; all together. -/
import Derived.Test.YtkbdhffgmahpdaaA1
section
set_option linter.all false
namespace Go.Am
section
variable {P : Program} {Γ : Tab} {c : Ctx} {s : St} {β : Nat → Option Loc} {φ : Nat → Bs} {a : Act} {w : World} {N : Bs}

/-- The objects are told. -/
def Objs (s : St) (N : Bs) (β : Nat → Option Loc) (w : World) : Prop := ∀ id ob, s.H id = some ob → ∃ L F, β id = some L ∧ OR w N β L ob F

theorem Rel.objs (h : Rel c s β φ w) : Objs s (Ow c.N0 φ) β w := fun id ob ho => by
  obtain ⟨L, h1, h2⟩ := h.obj id ob ho
  exact ⟨L, _, h1, h2⟩

theorem szOk_sound (hO : Objs s N β w) {x : A} {sz : Nat} (h : szOk s x sz = true) :
    (∀ id off m, x = .sl id off m → ∀ L, β id = some L → L.sz = sz) ∧ ∀ o z m g, x = .slc o z m g → z = sz := by
  constructor
  · rintro id off m rfl L hL
    unfold szOk at h
    cases ho : s.H id with
    | none => simp [ho] at h
    | some ob =>
      simp only [ho, decide_eq_true_eq] at h
      obtain ⟨L', F, e1, e2⟩ := hO id ob ho
      rw [hL] at e1
      cases e1
      rw [e2.1, h]
  · rintro o z m g rfl
    simpa [szOk] using h

theorem optI_some {x : Option Operand} {r : Option Int} (hE : Env s N β a w) (h : optI s x = some r) :
    (∀ v, x.map a.eval = some v → ∃ k n, v = .int k n ∧ r = some n) ∧ (x = none → r = none) := by
  unfold optI at h
  split at h
  · cases h; exact ⟨fun v hv => by simp at hv, fun _ => rfl⟩
  · rename_i y
    cases e : asI s y with
    | none => simp [e] at h
    | some n =>
      simp [e] at h
      subst h
      obtain ⟨k, hk⟩ := asI_val e
      have hy := aeval_V hE y
      rw [hk] at hy
      refine ⟨fun v hv => ⟨k, n, ?_, rfl⟩, fun h => by cases h⟩
      simp at hv
      rw [← hv, hy.val_eq]

theorem TIok.slice_und {t e : TypeId} {n : Nat} {ti : TI} (k : TIok P t ti) (ha : ti.agg = false) (h : ti.sub = some (e, n)) : P.underlying t = some (.slice e) := by
  have hd := k.desc
  have hu := k.und
  cases q : k.d <;> rw [q] at hd hu <;> simp [DescOk, h, ha] at hd
  rw [hu, hd.1.1]

theorem exec_slice (hΓ : TabOk P Γ) (hO : Objs s N β w) {o : Oper} {t : TypeId} {x : Operand} {lo hi mx : Option Operand} (ho : o.op = .slice t x lo hi mx) (hE : Env s N β a w) {C : Prop} {r : A}
    (h : pev Γ o s = some (C, r)) (hC : C) : Yld P N β a w o r := by
  have hx := aeval_V hE x
  unfold pev at h
  simp only [ho] at h
  split at h
  · cases h
  rename_i ti ht
  split at h
  · cases h
  rename_i e q hsub
  split at h
  rotate_left
  · cases h
  rename_i te l0 h0 m0 hte hl hh hm
  split at h
  rotate_left
  · cases h
  rename_i hcc
  obtain ⟨kt⟩ := hΓ t ti ht
  obtain ⟨ke⟩ := hΓ e te hte
  have hu := kt.slice_und hcc.1 hsub
  have hz := szOk_sound hO hcc.2
  obtain ⟨hl1, hl2⟩ := optI_some hE hl
  obtain ⟨hh1, hh2⟩ := optI_some hE hh
  obtain ⟨hm1, hm2⟩ := optI_some hE hm
  unfold sliceA at h
  split at h
  · cases h
  rename_i n hn
  cases mx with
  | some mx =>
    -- x[:0:0]
    obtain ⟨kk, mm, e1, rfl⟩ := hm1 _ rfl
    simp only at h
    split at h
    rotate_left
    · cases h
    rename_i hhv
    split at h
    rotate_left
    · cases h
    rename_i h00
    obtain ⟨rfl, rfl⟩ := h00
    cases h
    obtain ⟨ad, cp, ev, hcp⟩ := hx.len_eq hn
    have hlo : lo = none := by
      cases lo with
      | none => rfl
      | some lo => obtain ⟨_, _, _, e⟩ := hl1 _ rfl; cases e
    subst hlo
    obtain ⟨k', n', e2, e3⟩ : ∃ k n, a.eval (hi.getD (.const undef)) = .int k n ∧ n = 0 := by
      cases hi with
      | none => have := hh2 rfl; cases this
      | some hi => obtain ⟨k, n, e, e'⟩ := hh1 _ rfl; cases e'; exact ⟨k, _, e, rfl⟩
    subst e3
    cases hi with
    | none => have := hh2 rfl; cases this
    | some hi =>
      refine ⟨.slice ad 0 0, ?_, .clo (.emp (F := fun _ => False) (fun _ => id)) (fun _ => id)⟩
      simp only [Option.getD_some] at e2
      simp [execOp, ho, ev, Instr.sliceAt, run_underlying hu, Instr.slice, Instr.sliceBounds, e1, e2, Instr.sliceBound, asIntOf, sizeOf, typeInfo, ke.info]
  | none =>
    have hm' := hm2 rfl
    subst hm'
    simp only at h
    -- the bounds, as numbers
    have main : ∀ (l hh : Int) (_ : l0.getD 0 = l) (_ : h0.getD n = hh) (_ : 0 ≤ l) (_ : l ≤ hh) (_ : hh ≤ n)
        (_ : r = slA (aeval s x) l hh),
        Yld P N β a w o r := by
      intro l hh el eh b0 b1 b2 hr
      obtain ⟨ad, cp, ev, hcp, hv⟩ := slice_sound hx hn b0 b1 b2 hz hr
      refine ⟨_, ?_, hv⟩
      intro w' _
      have := slice_run (P := P) (w := w') hu ke.info ad n cp (lo.map a.eval) (hi.map a.eval) l hh ?_ ?_ b0 b1 (by omega)
      · rw [ke.sz] at this
        simp only [execOp, ho, ev, Option.map_none, Sem.run_bind, this, Result.andThen_ok, Sem.run_pure]
      · cases lo with
        | none => have := hl2 rfl; subst this; simpa using el.symm
        | some lo => obtain ⟨k, m, e, rfl⟩ := hl1 _ rfl; simp at el; subst el; exact .inr ⟨k, e⟩
      · cases hi with
        | none => have := hh2 rfl; subst this; simpa using eh.symm
        | some hi => obtain ⟨k, m, e, rfl⟩ := hh1 _ rfl; simp at eh; subst eh; exact ⟨k, e⟩
    split at h
    · rename_i hxe
      rw [hxe] at hn
      cases h
      cases hn
      simp only [o_eqZ] at hC
      refine main 0 0 hC.1 ?_ (by omega) (by omega) (by simp) (by rw [hxe]; rfl)
      simpa using hC.2
    · rename_i id off m hxe
      rw [hxe] at hn
      cases hn
      split at h <;> cases h
      · exact main 0 n rfl rfl (by omega) (by omega) (by omega) (by rw [hxe]; simp [slA])
      · simp only [o_pos, o_leN] at hC
        exact main 0 _ rfl rfl (by omega) (by simp; omega) (by simpa using hC.2) (by rw [hxe]; simp [slA, o_nat])
      · simp only [o_pos, o_leN] at hC
        exact main _ n rfl rfl (by simp; omega) (by simpa using hC.2) (by omega) (by rw [hxe]; simp [slA, o_nat, o_nadd, o_nsub])
      · simp only [o_pos, o_leN, o_leI] at hC
        exact main _ _ rfl rfl (by simp; omega) (by simp; omega) (by simpa using hC.2.2) (by rw [hxe]; simp [slA, o_nat, o_nadd, o_nsub])
    · rename_i z m g hxe
      rw [hxe] at hn
      cases hn
      split at h <;> cases h
      · exact main 0 n rfl rfl (by omega) (by omega) (by omega) (by rw [hxe]; simp [slA])
      · simp only [o_pos, o_leN] at hC
        exact main 0 _ rfl rfl (by omega) (by simp; omega) (by simpa using hC.2) (by rw [hxe]; simp [slA, o_nat])
      · simp only [o_pos, o_leN] at hC
        exact main _ n rfl rfl (by simp; omega) (by simpa using hC.2) (by omega) (by rw [hxe]; simp [slA, o_nat, o_nsub]; rfl)
      · simp only [o_pos, o_leN, o_leI] at hC
        exact main _ _ rfl rfl (by simp; omega) (by simp; omega) (by simpa using hC.2.2) (by rw [hxe]; simp [slA, o_nat, o_nsub]; rfl)
    · cases h

end
end Go.Am
end
section
set_option linter.all false
namespace Go.Am
section
variable {P : Program} {Γ : Tab} {c : Ctx} {s : St} {β : Nat → Option Loc} {φ : Nat → Bs} {a : Act} {w : World} {N : Bs}

theorem TIok.struct_field {t : TypeId} {ti : TI} (k : TIok P t ti) {f off sz : Nat} {ag : Bool} (h : ti.fs[f]? = some (off, sz, ag)) :
    ∃ fields fd, P.underlying t = some (.struct fields) ∧ fields[f]? = some fd ∧ fd.offset = off ∧ ∃ j e, P.info? fd.type = some j ∧ P.underlying fd.type = some e ∧ j.size = sz ∧ dAgg e = ag := by
  have hd := k.desc
  have hu := k.und
  cases q : k.d <;> rw [q] at hd hu <;> (try (simp [DescOk] at hd; simp [hd] at h; done))
  rename_i fields
  obtain ⟨_, _, _, _, hl, hf⟩ := hd
  have hlt : f < fields.size := by
    have := (List.getElem?_eq_some_iff.1 h).1
    omega
  obtain ⟨j, e, e1, e2, e3⟩ := hf f fields[f] (by simp [hlt])
  rw [e3] at h
  simp only [Option.some.injEq, Prod.mk.injEq] at h
  obtain ⟨rfl, rfl, rfl⟩ := h
  exact ⟨fields, fields[f], hu, by simp [hlt], rfl, j, e, e1, e2, rfl, rfl⟩

theorem V.pfro_drop {l : List A} {b off : Nat} {vs F} (h0 : nob F) (h1 : ¬ N b) (h2 : b < w.heap.size) (h3 : Ks w N l vs F) (h4 : ∀ j, j < l.length → w.cell? ⟨b, off + j, none⟩ = vs[j]?) (k : Nat) :
    V w N β (.pfro (l.drop k)) (.pointer (some ⟨b, off + k, none⟩)) := by
  refine .pfro h0 h1 h2 (h3.drop h0 k) (fun j hj => ?_)
  rw [List.length_drop] at hj
  rw [List.getElem?_drop, ← h4 (k + j) (by omega), Nat.add_assoc]

theorem exec_fieldAddr (hΓ : TabOk P Γ) {o : Oper} {t : TypeId} {x : Operand} {f : Nat} (ho : o.op = .fieldAddr t x f) (hE : Env s N β a w) {C : Prop} {r : A}
    (h : pev Γ o s = some (C, r)) : Yld P N β a w o r := by
  have hx := aeval_V hE x
  unfold pev at h
  simp only [ho] at h
  split at h
  · cases h
  rename_i ti ht
  split at h
  · cases h
  rename_i off sz ag hf
  split at h
  · cases h
  rename_i hsz
  obtain ⟨kt⟩ := hΓ t ti ht
  obtain ⟨fields, fd, hu, e1, rfl, j, e, e2, e3, rfl, e5⟩ := kt.struct_field hf
  have run : ∀ (ad : Addr), a.eval x = .pointer (some ad) → ∀ w', Alike a o w w' → (execOp a.eval o).run P w' = .ok (.value (.pointer (some (ad.add fd.offset)))) w' := by
    intro ad he w' _
    simp [execOp, ho, he, Instr.fieldAt, run_underlying hu, e1, Instr.sureAddr, fieldPlace, sizeOf, typeInfo, e2, hsz]
  split at h
  · rename_i id i k hxe
    rw [hxe] at hx
    obtain ⟨L, h1, h2, ev⟩ := hx.ptr_eq
    cases h
    refine ⟨_, run _ ev, ?_⟩
    rw [add_eq, Nat.add_assoc]
    exact .ptr h1 h2
  · rename_i l hxe
    rw [hxe] at hx
    obtain ⟨b, of, vs, F, ev, h0, h1, h2, h3, h4⟩ := hx.pfro_eq
    cases h
    refine ⟨_, run _ ev, ?_⟩
    rw [add_eq]
    exact V.pfro_drop h0 h1 h2 h3 h4 _
  · cases h

theorem exec_field (hΓ : TabOk P Γ) {o : Oper} {t : TypeId} {x : Operand} {f : Nat} (ho : o.op = .field t x f) (hE : Env s N β a w) {C : Prop} {r : A}
    (h : pev Γ o s = some (C, r)) : Yld P N β a w o r := by
  have hx := aeval_V hE x
  unfold pev at h
  simp only [ho] at h
  split at h
  · cases h
  rename_i ti ht
  split at h
  rotate_left
  · cases h
  rename_i off sz ag l hf hxe
  split at h
  rotate_left
  · cases h
  rename_i hlen
  obtain ⟨kt⟩ := hΓ t ti ht
  obtain ⟨fields, fd, hu, e1, rfl, j, e, e2, e3, rfl, rfl⟩ := kt.struct_field hf
  rw [hxe] at hx
  obtain ⟨cs, ev, hv⟩ := hx.agg_eq
  have hagg := fun w => isAgg_run (P := P) e3 w
  have base : ∀ v, (∀ w, (Go.part fd.type cs fd.offset).run P w = .ok v w) → ∀ w', Alike a o w w' → (execOp a.eval o).run P w' = .ok (.value v) w' := by
    intro v hv w' _
    simp [execOp, ho, ev, Instr.field, run_underlying hu, e1, asAgg, hv]
  split at h
  · rename_i hag
    cases h
    refine ⟨_, base (.agg (cs.extract fd.offset (fd.offset + j.size))) (fun w => ?_), .agg ?_⟩
    · simp [Go.part, hagg, hag, sizeOf, typeInfo, e2]
    · have := (hv.drop fd.offset).take j.size
      simpa [List.extract_eq_take_drop] using this
  · rename_i hag
    split at h
    rotate_left
    · cases h
    rename_i b hb
    cases h
    obtain ⟨v, h1, h2⟩ := hv.get hb
    have h1' : cs[fd.offset]? = some v := by simpa using h1
    exact ⟨v, base v (fun w => by simp [Go.part, isAgg_run e3 w, hag, h1']), h2⟩

theorem exec_indexAddr (hΓ : TabOk P Γ) (hO : Objs s N β w) {o : Oper} {t : TypeId} {x ix : Operand} (ho : o.op = .indexAddr t x ix) (hE : Env s N β a w) {C : Prop} {r : A}
    (h : pev Γ o s = some (C, r)) (hC : C) : Yld P N β a w o r := by
  have hx := aeval_V hE x
  unfold pev at h
  simp only [ho] at h
  split at h
  · cases h
  rename_i ti ht
  split at h
  · cases h
  rename_i e len hsub
  split at h
  rotate_left
  · cases h
  rename_i te i hte hi
  obtain ⟨kt⟩ := hΓ t ti ht
  obtain ⟨ke⟩ := hΓ e te hte
  obtain ⟨kk, hk⟩ := asI_val hi
  have hix := aeval_V hE ix
  rw [hk] at hix
  have eix := hix.val_eq
  have runS : ∀ (ad : Addr) (n cp : Nat), ti.agg = false → a.eval x = .slice (some ad) n cp → 0 ≤ i → i < n → ∀ w', Alike a o w w' → (execOp a.eval o).run P w' = .ok (.value (.pointer (some (ad.add (i.toNat * te.sz))))) w' := by
    intro ad n cp ha he h0 h1 w' _
    have hu := kt.slice_und ha hsub
    simp [execOp, ho, he, eix, Instr.indexAt, asIntOf, run_underlying hu, h0, h1, sizeOf, typeInfo, ke.info, ke.sz]
  have runA : ∀ (ad : Addr), ti.agg = true → a.eval x = .pointer (some ad) → 0 ≤ i → i < len → ∀ w', Alike a o w w' → (execOp a.eval o).run P w' = .ok (.value (.pointer (some (ad.add (i.toNat * te.sz))))) w' := by
    intro ad ha he h0 h1 w' _
    have hu : P.underlying t = some (.array len e) := by
      have hd := kt.desc
      have hu := kt.und
      cases q : kt.d <;> rw [q] at hd hu <;> simp [DescOk, ha, hsub] at hd
      rw [hu, hd.1.1, hd.1.2]
    simp [execOp, ho, he, eix, Instr.indexAt, asIntOf, run_underlying hu, h0, h1, sizeOf, typeInfo, ke.info, ke.sz, Instr.sureAddr]
  split at h
  · rename_i id off n hxe
    rw [hxe] at hx
    split at h
    rotate_left
    · cases h
    rename_i ob hob
    split at h
    rotate_left
    · cases h
    rename_i hcc
    cases h
    simp only [o_inR] at hC
    obtain ⟨L, ad, cp, k1, ev, k2, k3, k4⟩ := hx.sl_eq
    obtain ⟨L', F, q1, q2⟩ := hO id ob hob
    rw [k1] at q1; cases q1
    rcases k4 with k4 | ⟨k4, rfl⟩
    · omega
    refine ⟨_, runS _ n cp hcc.1 ev hC.1 hC.2, ?_⟩
    rw [add_eq]
    have : L.off + off * L.sz + i.toNat * te.sz = L.off + (nadd off (nat i)) * L.sz + 0 := by
      rw [q2.1, hcc.2]; simp only [o_nadd, o_nat]; rw [Nat.add_mul]; omega
    rw [this]
    exact .ptr k1 k4
  · rename_i sz n g hxe
    rw [hxe] at hx
    split at h
    rotate_left
    · cases h
    rename_i hcc
    cases h
    simp only [o_inR] at hC
    rcases hx.fro_eq with ⟨rfl, _⟩ | ⟨b, off, cp, vs, F, ev, h0, h1, h2, h3, h4, h5⟩
    · omega
    refine ⟨_, runS _ n cp hcc.1 ev hC.1 hC.2, ?_⟩
    rw [add_eq]
    have hin : nat i < n := by simp only [o_nat]; omega
    have hks := h5 _ hin
    refine .pfro h0 h1 h2 hks (fun j hj => ?_)
    rw [hks.length, (h4 _ hin).1] at hj
    rw [← (h4 _ hin).2 j hj, hcc.2]
    simp only [o_nat]
    try rfl
  · rename_i id k j hxe
    rw [hxe] at hx
    split at h
    rotate_left
    · cases h
    rename_i ha
    cases h
    simp only [o_inR] at hC
    obtain ⟨L, k1, k2, ev⟩ := hx.ptr_eq
    refine ⟨_, runA _ ha ev hC.1 hC.2, ?_⟩
    rw [add_eq, Nat.add_assoc]
    simp only [o_nat]
    exact .ptr k1 k2
  · rename_i l hxe
    rw [hxe] at hx
    split at h
    rotate_left
    · cases h
    rename_i ha
    cases h
    simp only [o_inR] at hC
    obtain ⟨b, of, vs, F, ev, h0, h1, h2, h3, h4⟩ := hx.pfro_eq
    refine ⟨_, runA _ ha ev hC.1 hC.2, ?_⟩
    rw [add_eq]
    simp only [o_nat]
    exact V.pfro_drop h0 h1 h2 h3 h4 _
  · cases h

theorem exec_load (hΓ : TabOk P Γ) (hO : Objs s N β w) {o : Oper} {t : TypeId} {x : Operand} (ho : o.op = .load t x) (hE : Env s N β a w) {C : Prop} {r : A}
    (h : pev Γ o s = some (C, r)) (hC : C) : Yld P N β a w o r := by
  have hx := aeval_V hE x
  unfold pev at h
  simp only [ho] at h
  split at h
  · cases h
  rename_i ti ht
  obtain ⟨kt⟩ := hΓ t ti ht
  have run : ∀ (b of : Nat) (v : Value), a.eval x = .pointer (some ⟨b, of, none⟩) → (∀ w', w'.heap[b]? = w.heap[b]? → (loadVar t ⟨b, of, none⟩).run P w' = .ok v w') →
      ∀ w', Alike a o w w' → (execOp a.eval o).run P w' = .ok (.value v) w' := by
    intro b of v he hv w' hw
    simp [execOp, ho, he, Instr.loadAt, Instr.sureAddr, hv w' (hw t x b of ho he)]
  -- sz cells from a place on, that the abstract cells tell
  have main : ∀ (b of : Nat) (cs : List Value) (cells : List A), a.eval x = .pointer (some ⟨b, of, none⟩) → cs.length = ti.sz → (∀ j, j < ti.sz → w.cell? ⟨b, of + j, none⟩ = cs[j]?) → Vs w N β cells cs →
      (r = if ti.agg then .agg cells else cells.headD .any) → (ti.agg = false → cells.length = 1) → Yld P N β a w o r := by
    intro b of cs cells ev hl hc hvs hr h1
    cases ha : ti.agg with
    | true =>
      rw [ha, if_pos rfl] at hr
      subst hr
      exact ⟨_, run _ _ _ ev (fun w' hw => load_agg kt ha hl (fun j hj => by rw [← hc j hj]; simp only [World.cell?, hw])), .agg (by simpa using hvs)⟩
    | false =>
      rw [ha] at hr
      simp at hr
      subst hr
      have hl1 := h1 ha
      cases hvs with
      | nil => simp at hl1
      | cons k1 k2 =>
        rename_i a0 v0 l0 vs0
        have hz : 0 < ti.sz := by rw [← hl]; simp
        have := hc 0 hz
        simp at this
        exact ⟨_, run _ _ _ ev (fun w' hw => load_one kt ha (by rw [← this]; simp only [World.cell?, hw])), k1⟩
  split at h
  · rename_i id i j hxe
    rw [hxe] at hx
    split at h
    · cases h
    rename_i ob hob
    split at h
    rotate_left
    · cases h
    rename_i hcc
    obtain ⟨L, k1, k2, ev⟩ := hx.ptr_eq
    obtain ⟨L', F, q1, q2⟩ := hO id ob hob
    rw [k1] at q1; cases q1
    obtain ⟨z1, z2, z3⟩ := q2
    rcases z3 with ⟨z3, _⟩ | ⟨_, vs, Fi, y1, y2, y3, y4, y5, y6⟩
    · rw [k2] at z3; cases z3
    have hin : ltN i ob.n → i < ob.n := fun h => by simp only [o_ltN] at h; exact h
    have fin : ∀ (_ : i < ob.n) (_ : r = if ti.agg then .agg (((ob.g i).drop j).take ti.sz) else (((ob.g i).drop j).take ti.sz).headD .any) (_ : ti.agg = false → (((ob.g i).drop j).take ti.sz).length = 1), Yld P N β a w o r := by
      intro hlt hr h1
      obtain ⟨r1, r2⟩ := y2 i hlt
      obtain ⟨F1, d1, _⟩ := (y3 i hlt).drop j
      obtain ⟨F2, d2, _⟩ := d1.take ti.sz
      refine main _ _ (((vs i).drop j).take ti.sz) _ ev ?_ (fun k hk => ?_) (d2.vs hcc.2) hr h1
      · simp; omega
      · rw [List.getElem?_take, if_pos hk, List.getElem?_drop, ← r2 (j + k) (by omega), z1]
        congr 2
        omega
    split at h
    · rename_i ha
      cases h
      exact fin (hin hC) (by rw [ha]; rfl) (fun h => by rw [ha] at h; cases h)
    · rename_i ha
      split at h
      rotate_left
      · cases h
      rename_i b hb
      cases h
      have ha' : ti.agg = false := by simpa using ha
      exact fin (hin hC) (by rw [ha', hb]; rfl) (fun _ => by rw [hb]; rfl)
  · rename_i l hxe
    rw [hxe] at hx
    obtain ⟨b, of, vs, F, ev, h0, h1, h2, h3, h4⟩ := hx.pfro_eq
    split at h
    rotate_left
    · cases h
    rename_i hlen
    have fin : ∀ (_ : r = if ti.agg then .agg (l.take ti.sz) else (l.take ti.sz).headD .any) (_ : ti.agg = false → (l.take ti.sz).length = 1), Yld P N β a w o r := by
      intro hr hh
      refine main _ _ (vs.take ti.sz) _ ev ?_ (fun k hk => ?_) ((h3.vs h0).take ti.sz) hr hh
      · have := h3.length; simp; omega
      · rw [List.getElem?_take, if_pos hk, ← h4 k (by omega)]
    split at h
    · rename_i ha
      cases h
      exact fin (by rw [ha]; rfl) (fun h => by rw [ha] at h; cases h)
    · rename_i ha
      split at h
      rotate_left
      · cases h
      rename_i b' hb
      cases h
      have ha' : ti.agg = false := by simpa using ha
      exact fin (by rw [ha', hb]; rfl) (fun _ => by rw [hb]; rfl)
  · cases h

end
end Go.Am
end
section
set_option linter.all false
namespace Go.Am
section
variable {P : Program} {Γ : Tab} {c : Ctx} {s : St} {β : Nat → Option Loc} {φ : Nat → Bs} {a : Act} {w : World} {N : Bs}

theorem Zs.vs {l vs} (h : Zs l vs) : Vs w N β l vs := by
  induction h with
  | nil => exact .nil
  | cons h1 _ ih =>
    refine .cons ?_ ih
    cases h1 with
    | val h => exact V.ofVal h
    | emp => exact .clo (.emp (F := fun _ => False) (fun _ => id)) (fun _ => id)

theorem Zs.one {l vs} (h : Zs l vs) : ∀ u ∈ vs, u.oneCell' = true := by
  induction h with
  | nil => intro u hu; cases hu
  | cons h1 _ ih =>
    intro u hu
    cases hu with
    | head => cases h1 <;> first | assumption | rfl
    | tail _ hu => exact ih u hu

/-- One cell. -/
def cell1 : A → Bool
  | .any => false
  | .agg _ => false
  | .tup _ => false
  | .val v => v.oneCell'
  | _ => true

theorem stob_cons {x : A} {l : List A} : stob (x :: l) = (cell1 x && stob l) := by
  cases x <;> simp [stob, cell1]

theorem V.one {x : A} {v : Value} (h : V w N β x v) (hs : cell1 x = true) : v.oneCell' = true := by
  cases h with
  | any => cases hs
  | clo h _ => cases h <;> first | assumption | rfl
  | agg => cases hs
  | tup => cases hs
  | _ => rfl

theorem Vs.one {l : List A} {vs : List Value} (h : Vs w N β l vs) (hs : stob l = true) : ∀ u ∈ vs, u.oneCell' = true := by
  induction l generalizing vs with
  | nil => cases h; intro u hu; cases hu
  | cons x l ih =>
    rw [stob_cons, Bool.and_eq_true] at hs
    cases h with
    | cons h1 h2 =>
      intro u hu
      cases hu with
      | head => exact h1.one hs.1
      | tail _ hu => exact ih h2 hs.2 u hu

theorem cells_one {v : Value} (h : v.oneCell' = true) : v.cells = #[v] := by
  cases v <;> first | rfl | (simp [Value.oneCell'] at h)

/-- A value that may lie in cells: its cells. -/
theorem V.cells {x : A} {v : Value} (h : V w N β x v) (hs : stob (cellsOf x) = true) : Vs w N β (cellsOf x) v.cells.toList ∧ ∀ u ∈ v.cells.toList, u.oneCell' = true := by
  have one : cell1 x = true → cellsOf x = [x] → Vs w N β (cellsOf x) v.cells.toList ∧ ∀ u ∈ v.cells.toList, u.oneCell' = true := by
    intro h1 h2
    have h3 := h.one h1
    rw [h2, cells_one h3]
    exact ⟨.cons h .nil, by intro u hu; simp at hu; rw [hu]; exact h3⟩
  cases x with
  | agg l =>
    obtain ⟨cs, rfl, hv⟩ := h.agg_eq
    exact ⟨hv, hv.one hs⟩
  | any => cases hs
  | tup l => cases hs
  | val u => exact one (by simpa [cellsOf, stob_cons, stob] using hs) rfl
  | _ => exact one rfl rfl

theorem fill_step (off : Nat) : ∀ (us : List Value) (k : Nat) (cs : Array Value), off + k + us.length ≤ cs.size →
    ((us.zipIdx k).foldl (fun (cs : Array Value) (p : Value × Nat) => cs.setIfInBounds (off + p.2) p.1) cs).toList = cs.toList.take (off + k) ++ us ++ cs.toList.drop (off + k + us.length)
  | [], k, cs, _ => by simp
  | u :: us, k, cs, h => by
    simp only [List.zipIdx_cons, List.foldl_cons]
    rw [fill_step off us (k + 1) _ (by simp at h ⊢; omega)]
    have e := list_seg_step cs.toList (off + k) u us (by simp at h ⊢; omega)
    simpa [Array.toList_setIfInBounds, Nat.add_assoc] using e

theorem fill_sound {pa pc : Nat → Option (Nat × Nat)} (hp : ∀ i, pa i = pc i) : ∀ {ps : List (Nat × A)} {qs : List (Nat × Value)} {cells : List A} {cs : Array Value} {r : List A},
    (∀ (i : Nat) (p : Nat × A), ps[i]? = some p → ∃ v, qs[i]? = some (p.1, v) ∧ V w N β p.2 v) → ps.length = qs.length → Vs w N β cells cs.toList → (∀ u ∈ cs.toList, u.oneCell' = true) → fillA pa cells ps = some r →
    ∃ ds, Instr.fill pc cs qs = some ds ∧ Vs w N β r ds.toList ∧ (∀ u ∈ ds.toList, u.oneCell' = true) ∧ ds.size = cs.size
  | [], [], cells, cs, r, _, _, hv, h1, h => by
    simp only [fillA, Option.some.injEq] at h
    subst h
    exact ⟨cs, rfl, hv, h1, rfl⟩
  | [], _ :: _, _, _, _, _, hl, _, _, _ => by simp at hl
  | _ :: _, [], _, _, _, _, hl, _, _, _ => by simp at hl
  | (i, x) :: ps, (i', v) :: qs, cells, cs, r, hr, hl, hv, h1, h => by
    obtain ⟨v, e, hx⟩ := hr 0 _ rfl
    simp only [List.getElem?_cons_zero, Option.some.injEq, Prod.mk.injEq] at e
    obtain ⟨rfl, rfl⟩ := e
    replace hx : V w N β x v := hx
    unfold fillA at h
    split at h
    · cases h
    rename_i off size hpl
    split at h
    rotate_left
    · cases h
    rename_i hcc
    obtain ⟨hvc, hv1⟩ := hx.cells hcc.2.2
    have hlen : v.cells.size = size := by rw [← hcc.1, hvc.length]; simp
    have hsz : cells.length = cs.size := by rw [hv.length]; simp
    have hstep := fill_step off v.cells.toList 0 cs (by simp; omega)
    have hfold : (v.cells.zipIdx.foldl (fun cs (p : Value × Nat) => cs.setIfInBounds (off + p.2) p.1) cs) = ((v.cells.toList.zipIdx 0).foldl (fun (cs : Array Value) (p : Value × Nat) => cs.setIfInBounds (off + p.2) p.1) cs) := by
      rw [← Array.foldl_toList]
      congr 1
      simp
    have hnew : Vs w N β (splice cells off (cellsOf x)) ((v.cells.toList.zipIdx 0).foldl (fun (cs : Array Value) (p : Value × Nat) => cs.setIfInBounds (off + p.2) p.1) cs).toList := by
      rw [hstep]
      unfold splice
      refine Vs.append (Vs.append (hv.take _) hvc) ?_
      rw [hvc.length]
      simpa using hv.drop (off + v.cells.toList.length)
    have hone : ∀ u ∈ ((v.cells.toList.zipIdx 0).foldl (fun (cs : Array Value) (p : Value × Nat) => cs.setIfInBounds (off + p.2) p.1) cs).toList, u.oneCell' = true := by
      rw [hstep]
      intro u hu
      rw [List.mem_append, List.mem_append] at hu
      rcases hu with (hu | hu) | hu
      · exact h1 u (List.mem_of_mem_take hu)
      · exact hv1 u hu
      · exact h1 u (List.mem_of_mem_drop hu)
    obtain ⟨ds, e1, e2, e3, e4⟩ := fill_sound hp (fun k p hk => hr (k + 1) p (by simpa using hk)) (by simpa using hl) hnew hone h
    refine ⟨ds, ?_, e2, e3, ?_⟩
    · unfold Instr.fill
      rw [← hp, hpl]
      simp only
      have : ¬ ((v.cells.size ≠ size || decide (off + v.cells.size > cs.size)) = true) := by
        simp [hlen]; omega
      rw [if_neg this]
      rw [← e1]
      congr 1
    · rw [e4, ← Array.length_toList, hstep]
      simp
      omega

theorem parts_rel (hE : Env s N β a w) (parts : Array (Nat × Operand)) :
    (∀ (i : Nat) (p : Nat × A), (parts.toList.map fun p => (p.1, aeval s p.2))[i]? = some p → ∃ v, (parts.map fun (i, x) => (i, a.eval x)).toList[i]? = some (p.1, v) ∧ V w N β p.2 v) ∧
    (parts.toList.map fun p => (p.1, aeval s p.2)).length = (parts.map fun (i, x) => (i, a.eval x)).toList.length := by
  constructor
  · intro i p hp
    rw [List.getElem?_map] at hp
    cases e : parts.toList[i]? with
    | none => rw [e] at hp; cases hp
    | some q =>
      rw [e] at hp
      simp at hp
      subst hp
      refine ⟨a.eval q.2, ?_, aeval_V hE q.2⟩
      rw [Array.toList_map, List.getElem?_map, e]
      rfl
  · simp

theorem places_ok : ∀ (fs : List Field), (∀ (k : Nat) f, fs[k]? = some f → ∃ j, P.info? f.type = some j) →
    ∃ places, fs.mapM (fun f => (P.info? f.type).map fun i => (f.offset, i.size)) = some places ∧ places.length = fs.length ∧
      ∀ (k : Nat) f, fs[k]? = some f → ∃ j, P.info? f.type = some j ∧ places[k]? = some (f.offset, j.size)
  | [], _ => ⟨[], rfl, rfl, fun k f h => by simp at h⟩
  | f :: fs, h => by
    obtain ⟨j, hj⟩ := h 0 f rfl
    obtain ⟨places, e1, e2, e3⟩ := places_ok fs (fun k f' hk => h (k + 1) f' (by simpa using hk))
    refine ⟨(f.offset, j.size) :: places, by simp [List.mapM_cons, hj, e1], by simp [e2], fun k f' hk => ?_⟩
    cases k with
    | zero => simp at hk; subst hk; exact ⟨j, hj, rfl⟩
    | succ k => simpa using e3 k f' (by simpa using hk)

theorem exec_build (hΓ : TabOk P Γ) {o : Oper} {t : TypeId} {parts : Array (Nat × Operand)} (ho : o.op = .build t parts) (hE : Env s N β a w) {C : Prop} {r : A}
    (h : pev Γ o s = some (C, r)) : Yld P N β a w o r := by
  unfold pev at h
  simp only [ho] at h
  split at h
  · cases h
  rename_i ti ht
  split at h
  rotate_left
  · cases h
  rename_i ha
  split at h
  rotate_left
  · cases h
  rename_i cells hf
  cases h
  obtain ⟨kt⟩ := hΓ t ti ht
  obtain ⟨p1, p2⟩ := parts_rel hE parts
  have hz1 := kt.zs.one
  have hd := kt.desc
  have hu := kt.und
  cases q : kt.d <;> rw [q] at hd hu <;> (try (simp [DescOk, ha] at hd; done))
  rename_i fields
  obtain ⟨_, _, _, _, hl, hfd⟩ := hd
  obtain ⟨places, e1, e2, e3⟩ := places_ok (P := P) fields.toList (fun k f hk => by
    obtain ⟨j, e, h1, _⟩ := hfd k f (by simpa using hk)
    exact ⟨j, h1⟩)
  have hpl : ∀ i : Nat, (ti.fs[i]?).map (fun f => (f.1, f.2.1)) = places.toArray[i]? := by
    intro i
    simp only [List.getElem?_toArray]
    cases hk : fields.toList[i]? with
    | none =>
      have h1 : fields.toList.length ≤ i := by simpa using hk
      simp at h1
      rw [List.getElem?_eq_none (by omega), List.getElem?_eq_none (by rw [e2]; simpa using h1)]
      rfl
    | some f =>
      obtain ⟨j, k1, k2⟩ := e3 i f hk
      obtain ⟨j', e, k3, _, k4⟩ := hfd i f (by simpa using hk)
      rw [k1] at k3; cases k3
      rw [k2, k4]
      rfl
  obtain ⟨ds, f1, f2, f3, f4⟩ := fill_sound (pa := fun i => (ti.fs[i]?).map fun f => (f.1, f.2.1)) (pc := fun i => places.toArray[i]?) hpl p1 p2 (kt.zs.vs (w := w) (N := N) (β := β)) hz1 hf
  refine ⟨.agg ds, ?_, .agg f2⟩
  intro w' _
  have := run_build (P := P) w' t (parts.map fun (i, x) => (i, a.eval x)) ds (by
    simp only [Program.built, kt.info, hu, kt.zero, e1]
    exact f1)
  simp [execOp, ho, this]

theorem args_one {x : Operand} {xs : Array Operand} (h : xs.toList = [x]) : xs = #[x] := by
  have : xs = xs.toList.toArray := by simp
  rw [this, h]

theorem exec_len (hΓ : TabOk P Γ) {o : Oper} {cl : Call} (ho : o.op = .call cl) (hb : cl.callee = .builtin .len) (hE : Env s N β a w) {C : Prop} {r : A}
    (h : pev Γ o s = some (C, r)) : Yld P N β a w o r := by
  unfold pev at h
  simp only [ho, hb] at h
  split at h
  rotate_left
  · cases h
  rename_i x t ts hx ht
  split at h
  rotate_left
  · cases h
  rename_i ti n hti hn
  split at h
  rotate_left
  · cases h
  rename_i hcc
  cases h
  obtain ⟨kt⟩ := hΓ t ti hti
  obtain ⟨ad, cp, ev, hcp⟩ := (aeval_V hE x).len_eq hn
  obtain ⟨⟨e, m⟩, hsub⟩ := Option.ne_none_iff_exists'.1 hcc.2
  have he := kt.slice_und hcc.1 hsub
  have hargs := args_one hx
  have ht0 : cl.argTypes[0]? = some t := by rw [← Array.getElem?_toList, ht]; rfl
  refine ⟨.int .i64 (len64 n), ?_, V.ofVal rfl⟩
  simp [execOp, ho, resolve, hb, hargs, invoke, builtin, Builtin.len_, ht0, run_underlying he, ev, goInt, o_len64]

theorem args_two {x y : Operand} {xs : Array Operand} (h : xs.toList = [x, y]) : xs = #[x, y] := by
  have : xs = xs.toList.toArray := by simp
  rw [this, h]

theorem exec_min {o : Oper} {cl : Call} (ho : o.op = .call cl) (hb : cl.callee = .builtin .min) (hE : Env s N β a w) {C : Prop} {r : A}
    (h : pev Γ o s = some (C, r)) : Yld P N β a w o r := by
  unfold pev at h
  simp only [ho, hb] at h
  split at h
  rotate_left
  · cases h
  rename_i x y hx
  split at h
  rotate_left
  · cases h
  rename_i k m k' n e1 e2
  split at h
  rotate_left
  · cases h
  rename_i hk
  cases h
  subst hk
  have h1 := aeval_V hE x
  have h2 := aeval_V hE y
  rw [e1] at h1; rw [e2] at h2
  refine ⟨.int k (imin m n), ?_, V.ofVal rfl⟩
  simp [execOp, ho, resolve, hb, args_two hx, invoke, builtin, Builtin.min_, h1.val_eq, h2.val_eq, Builtin.min2, o_imin]

theorem exec_max {o : Oper} {cl : Call} (ho : o.op = .call cl) (hb : cl.callee = .builtin .max) (hE : Env s N β a w) {C : Prop} {r : A}
    (h : pev Γ o s = some (C, r)) : Yld P N β a w o r := by
  unfold pev at h
  simp only [ho, hb] at h
  split at h
  rotate_left
  · cases h
  rename_i x y hx
  split at h
  rotate_left
  · cases h
  rename_i k m k' n e1 e2
  split at h
  rotate_left
  · cases h
  rename_i hk
  cases h
  subst hk
  have h1 := aeval_V hE x
  have h2 := aeval_V hE y
  rw [e1] at h1; rw [e2] at h2
  refine ⟨.int k (imax m n), ?_, V.ofVal rfl⟩
  simp [execOp, ho, resolve, hb, args_two hx, invoke, builtin, Builtin.max_, h1.val_eq, h2.val_eq, Builtin.max2, o_imax]

/-- Every operation that computes or reads. -/
theorem pev_sound (hΓ : TabOk P Γ) (hO : Objs s N β w) {o : Oper} (hE : Env s N β a w) {C : Prop} {r : A}
    (h : pev Γ o s = some (C, r)) (hC : C) : Yld P N β a w o r := by
  cases ho : o.op with
  | move x =>
    unfold pev at h; simp only [ho] at h; cases h
    exact exec_move (.inl ho) hE
  | assign x =>
    unfold pev at h; simp only [ho] at h; cases h
    exact exec_move (.inr ho) hE
  | pick x y z =>
    unfold pev at h; simp only [ho] at h
    split at h
    · rename_i t hx; cases h; exact exec_pick ho hE hx
    · cases h
  | nilCheck x =>
    unfold pev at h; simp only [ho] at h
    split at h
    · rename_i id i j hx; cases h; exact exec_nilCheck ho hE hx (.inl ⟨_, _, _, rfl⟩)
    · rename_i l hx; cases h; exact exec_nilCheck ho hE hx (.inr ⟨_, rfl⟩)
    · cases h
  | binOp op t x y ty => exact exec_binOp hΓ ho hE h hC
  | unOp op t x => exact exec_unOp ho hE h
  | convert st dt x => exact exec_convert hΓ ho hE h
  | makeFunc f fi cp => exact exec_makeFunc ho hE h
  | slice t x lo hi mx => exact exec_slice hΓ hO ho hE h hC
  | fieldAddr t x f => exact exec_fieldAddr hΓ ho hE h
  | field t x f => exact exec_field hΓ ho hE h
  | indexAddr t x ix => exact exec_indexAddr hΓ hO ho hE h hC
  | load t x => exact exec_load hΓ hO ho hE h hC
  | build t parts => exact exec_build hΓ ho hE h
  | extract x i => exact exec_extract ho hE h
  | call cl =>
    cases hb : cl.callee with
    | builtin b =>
      cases b with
      | len => exact exec_len hΓ ho hb hE h
      | min => exact exec_min ho hb hE h
      | max => exact exec_max ho hb hE h
      | _ => unfold pev at h; simp only [ho, hb] at h; cases h
    | _ => unfold pev at h; simp only [ho, hb] at h; cases h
  | _ => unfold pev at h; simp only [ho] at h; cases h

end
end Go.Am
end
