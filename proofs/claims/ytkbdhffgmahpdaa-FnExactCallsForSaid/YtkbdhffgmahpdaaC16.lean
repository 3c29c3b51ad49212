/- PRINTED by w16.py: debts, taxes, the bound. -/
import Derived.Test.YtkbdhffgmahpdaaC15
section
set_option linter.all false
namespace Go.Am
open Go.Proofs
set_option maxRecDepth 100000

theorem ln_one {α : Type} (x : α) : ln [x] = 1 := by simp only [ln_eq]; rfl
theorem fz_one {H : Nat → Option Ob} {id : Nat} {k : Int} {g : Nat → List A} (h : H id = some ⟨1, 1, g⟩) (hg : g 0 = [I k]) : Fz H (.sl id 0 1) (Am.ints false [k]) := by
  unfold Am.ints
  rw [ln_one]
  refine .sl (ob := ⟨1, 1, g⟩) h (by simp) (fun i hi => ?_)
  have : i = 0 := by omega
  subst this
  rw [Nat.add_zero]
  show Fzs H (g 0) [I (at' [k] 0)]
  have e : at' [k] 0 = k := by rw [at_eq]; rfl
  rw [hg, e]
  exact .cons .val .nil
/-! impl.DebtOf -/
def pre_i_DebtOf (x : DWorld × Int) : Prop := okW x.1
noncomputable def as_i_DebtOf (x : DWorld × Int) : List A := [.agg (DWorld.cells false x.1), I x.2]
noncomputable def res_i_DebtOf (x : DWorld × Int) : A := I (owedOf x.1 x.2)
noncomputable def ac_i_DebtOf (g : Nat) (f : FuncId) (args : List A) (d : Nat) (s : St) (K : A → St → Prop) : Prop := acOf [(114, acF pre_i_isSlot as_i_isSlot res_i_isSlot), (201, acG (preD g) asD obsD 1 (postD g))] f args d s K
theorem ok_i_DebtOf (x : DWorld × Int) (hx : pre_i_DebtOf x) : Fnk Try.prog 183 (as_i_DebtOf x) (fun r => r = res_i_DebtOf x) := by
  obtain ⟨W, k⟩ := x
  obtain ⟨c, p, l, q, log⟩ := W
  replace hx : okW (DWorld.mk c p l q log) := hx
  have hlen : l.length ≤ 1048576 := okW_l hx
  refine Fnk.of_axF (AC := ac_i_DebtOf (l.length + 1)) (Γ := gam) (fn := Try.f183) Try.func183 rfl (by kernel_rfl) gam_ok (fun F args d s K h => (acF_cons ok_i_isSlot (acG_cons (ok_D (l.length + 1)) acOf_nil)) F args d s K h) mo (by kernel_rfl) (Nat.le_of_ble_eq_true rfl) (fun post hp => ?_)
  obtain ⟨f, hf⟩ : ∃ f, f = l.length + 1 := ⟨_, rfl⟩
  have hslot : slotB k (ln l) = true ↔ (0 ≤ k ∧ k < l.length) := by rw [slotB_eq, decide_eq_true_eq, ln_eq]
  have no : ¬ (0 ≤ k ∧ k < l.length) → post (I 0) := by
    intro h
    have : owedOf (DWorld.mk c p l q log) k = 0 := by
      rw [owedOf_eq]
      show w64 (dfsF l c (l.length + 1) [k] []).1 = 0
      rw [dfsF_no (.inl h), w64_id (by unfold rg; omega)]
    rw [← this]; exact hp
  have hpre : 0 ≤ k ∧ k < l.length → preD f (DWorld.mk c p l q log, [k], []) := by
    intro hk
    refine ⟨hx, by show ([k] : List Int).length ≤ _; simp, fun i hi => ?_, by show unmet l [] < f; rw [unmet_nil]; omega⟩
    have hi : i < ([k] : List Int).length := hi
    have : i = 0 := by simpa using hi
    subst this
    have e : at' [k] 0 = k := by rw [at_eq]; rfl
    show 0 ≤ at' [k] 0 ∧ at' [k] 0 < l.length
    rw [e]; exact hk
  obtain ⟨dw, hdw⟩ : ∃ dw, dw = dfsW l c f [k] [] := ⟨_, rfl⟩
  obtain ⟨ob1, hob1⟩ : ∃ ob1, ob1 = metOb (ln l) (dfsM l c f [k] []) := ⟨_, rfl⟩
  have hpost : ∀ r obs', postD f (DWorld.mk c p l q log, [k], []) r obs' → r = I dw ∧ obs' = [ob1] := by
    rintro r obs' ⟨h1, h2⟩
    rw [hdw, hob1]; exact ⟨h1, h2⟩
  have hnf : nfObs [ob1] := by
    intro ob hob j hj
    rw [List.mem_singleton] at hob
    subst hob
    subst hob1
    exact .cons .val .nil
  have hres : post (I dw) := by
    have : owedOf (DWorld.mk c p l q log) k = dw := by rw [owedOf_eq, hdw, dfsW_eq, hf]; rfl
    rw [← this]; exact hp
  have hno : ∀ j, hasB [] (Int.ofNat j) = false := fun j => by rw [hasB_eq]; simp
  have hmk : mkC (Int.ofNat (ln l)) (Int.ofNat (ln l)) 1 := mk_sm (l := l) hlen (by decide)
  rw [← hf]
  simp only [Try.f183]
  cbv
  refine acF.go (X := List DNode × Int) (l, k) hlen rfl rfl ?_
  cbv
  refine bcase_intro (fun h => ?_) (fun h => ?_)
  · cbv
    have := no (fun hk => by rw [hslot.2 hk] at h; cases h)
    refine FinAx.own ?_
    cbv
    exact this
  · have hk : 0 ≤ k ∧ k < l.length := hslot.1 (nf h)
    have hpre := hpre hk
    cbv
    refine DrawAx.of (fun q => q == 192) _ ?_ (fun _ h => h)
    cbv
    and_intros <;> first
      | exact hmk
      | (refine acG.go (X := DWorld × List Int × List Int) (DWorld.mk c p l q log, [k], []) true [some 1088] hpre ?_ rfl (Nat.le_of_ble_eq_true rfl) ?_ ?_
         · cbv
           refine ⟨⟨(eqN_eq _ _).2 rfl, Clo.of (fun _ _ => rfl), fun j hj => ?_⟩, trivial⟩
           show [A.val (.bool false)] = [Bo (hasB [] (Int.ofNat j))]
           simp only [hno]
           rfl
         · exact .cons (.cl rfl) (.cons (.fz rfl (fz_one rfl rfl)) (.cons (.sl rfl) .nil))
         · rintro r obs' - hpo
           obtain ⟨rfl, rfl⟩ := hpost r obs' hpo
           refine ⟨fun _ => ⟨.val, hnf⟩, ?_⟩
           cbv
           refine FinAx.own ?_
           cbv
           exact hres)

/-! impl.DebtAt -/
def pre_i_DebtAt (x : DWorld × Int) : Prop := okW x.1 ∧ rg x.2
noncomputable def as_i_DebtAt (x : DWorld × Int) : List A := [.agg (DWorld.cells false x.1), I x.2]
noncomputable def res_i_DebtAt (x : DWorld × Int) : A := I (owedAt x.1 x.2)
noncomputable def ac_i_DebtAt (f : FuncId) (args : List A) (d : Nat) (s : St) (K : A → St → Prop) : Prop := acOf [(77, acF pre_i_within as_i_within res_i_within), (182, acF pre_i_OwnSteps as_i_OwnSteps res_i_OwnSteps), (117, acF pre_i_KidsOf as_i_KidsOf res_i_KidsOf), (183, acF pre_i_DebtOf as_i_DebtOf res_i_DebtOf)] f args d s K
theorem ac_i_DebtAt_ok : ACok Try.prog ac_i_DebtAt := fun F args d s K h => (acF_cons ok_i_within (acF_cons ok_i_OwnSteps (acF_cons ok_i_KidsOf (acF_cons ok_i_DebtOf acOf_nil)))) F args d s K h
theorem ok_i_DebtAt (x : DWorld × Int) (hx : pre_i_DebtAt x) : Fnk Try.prog 140 (as_i_DebtAt x) (fun r => r = res_i_DebtAt x) := by
  obtain ⟨W, i⟩ := x
  obtain ⟨hW, hri⟩ := hx
  obtain ⟨c, p, l, q, log⟩ := W
  replace hW : okW (DWorld.mk c p l q log) := hW
  replace hri : rg i := hri
  have hlen : l.length ≤ 1048576 := okW_l hW
  have hqlen : q.length ≤ 1048576 := okW_q hW
  have hin : inB i 0 (isub .i64 (Int.ofNat (ln q)) 1) = true ↔ (0 ≤ i ∧ i < q.length) := by
    rw [ln_int, inB_eq, isub_eq (by omega) (by omega), decide_eq_true_eq]
    omega
  refine Fnk.of_axF (AC := ac_i_DebtAt) (Γ := gam) (fn := Try.f140) Try.func140 rfl (by kernel_rfl) gam_ok ac_i_DebtAt_ok mo (by kernel_rfl) (Nat.le_of_ble_eq_true rfl) (fun post hp => ?_)
  have no : ¬ (0 ≤ i ∧ i < q.length) → post (I 0) := by
    intro h
    have : owedAt (DWorld.mk c p l q log) i = 0 := by
      rw [owedAt_eq]
      show w64 (if 0 ≤ i ∧ i < q.length then _ else 0) = 0
      rw [if_neg h, w64_id (by unfold rg; omega)]
    rw [← this]; exact hp
  simp only [Try.f140]
  cbv
  refine acF.go (X := Int × Int × Int) (_, _, _) trivial rfl rfl ?_
  cbv
  refine bcase_intro (fun h => ?_) (fun h => ?_)
  · cbv
    have := no (fun hk => by rw [hin.2 hk] at h; cases h)
    refine FinAx.own ?_
    cbv
    exact this
  · have hk : 0 ≤ i ∧ i < q.length := hin.1 (nf h)
    have hkn : i.toNat < q.length := by omega
    have hinR : inR i (ln q) := by rw [inR_eq, ln_eq]; omega
    have hnat : nat i = i.toNat := o_nat i
    have hsm : smDWaste (at' q (nat i)) := by rw [hnat]; exact okW_waste hW hkn
    have hrg : rg (DWaste.first (at' q (nat i))) := by rw [hnat]; exact hW.2.2 _ hkn
    have hkp : kidsPre l (DWaste.first (at' q (nat i))) := okW_kids hW hrg
    obtain ⟨a0, ha0⟩ : ∃ a0, a0 = ownZ c (at' q (nat i)) := ⟨_, rfl⟩
    obtain ⟨ks, hks⟩ : ∃ ks, ks = kidsL l (DWaste.first (at' q (nat i))) := ⟨_, rfl⟩
    have hksl : ks.length ≤ 1048576 := by rw [hks]; exact sm_kids hlen _
    have ekl : ln ks = ks.length := by rw [ln_eq]
    have a0w : w64 a0 = a0 := by
      refine w64_id ?_
      rw [ha0, ownZ_eq]
      unfold ownZR
      have h1 := ceilZ_bd (isub .i64 (DConf.size c) (DWaste.done (at' q (nat i)))) (DConf.slice c)
      have h2 := ceilZ_bd (DConf.size c) (DConf.slice c)
      obtain ⟨s1, s2⟩ := hsm
      unfold sm at s1 s2
      have := ownM_bd (t := ((DWaste.tags (at' q (nat i))).length : Int) + 1) (m := (DWaste.chunks (at' q (nat i))).length) (by omega) s2 h1 h2
      unfold rg
      omega
    have fin : ∀ v, v = w64 (a0 + (ks.map (owedOfR (DWorld.mk c p l q log))).sum) → post (I v) := by
      intro v hv
      have : owedAt (DWorld.mk c p l q log) i = v := by
        rw [owedAt_eq, hv]
        show w64 (if 0 ≤ i ∧ i < q.length then _ else 0) = _
        rw [if_pos hk]
        unfold owedAtR
        rw [ha0, hks, hnat]
        rfl
      rw [← this]; exact hp
    cbv
    refine DrawAx.of (fun q => q == 192) _ ?_ (fun _ h => h)
    cbv
    refine ⟨hinR, ?_⟩
    refine acF.go (X := DConf × DWaste) (c, at' q (nat i)) hsm rfl rfl ?_
    cbv
    refine DrawAx.of (fun q => q == 192) _ ?_ (fun _ h => h)
    cbv
    refine ⟨hinR, ?_⟩
    refine acF.go (X := List DNode × Int) (l, DWaste.first (at' q (nat i))) hkp rfl rfl ?_
    cbv
    refine LoopAx.of (X := Nat × Int) (fun y => mkS [(2, .ptr 10 0 0), (5, I y.2), (31, .sl 11 0 (ln ks)), (32, .val (.int .i64 (Int.ofNat (ln ks)))), (33, I y.1)] [(10, ⟨12, 1, fun _ => DWorld.cells false (DWorld.mk c p l q log)⟩), (11, ⟨1, ln ks, fun j => [I (at' ks j)]⟩)])
      (fun y => ks.length - y.1) (fun y => y.1 ≤ ks.length ∧ y.2 = w64 (a0 + ((ks.take y.1).map (owedOfR (DWorld.mk c p l q log))).sum)) (0, a0) ?_ ?_ ?_
    · refine ⟨Nat.zero_le _, ?_⟩
      simp only [List.take_zero, List.map_nil, List.sum_nil, Int.add_zero]
      exact a0w.symm
    · refine Le.lay [(10, 192), (11, 2048)] rfl ?_ (fun _ => rfl)
      cbv
      subst hks
      and_intros <;> first | exact ha0.symm | exact congrArg Int.ofNat ekl | rfl | trivial | exact leNN_self _ | (intro j hj; exact Wks.same rfl)
    · rintro ⟨n, v⟩ ⟨h1, h2⟩
      simp only at h1 h2
      have estep : n < ks.length → iadd .i64 v (owedOf (DWorld.mk c p l q log) (at' ks n)) = w64 (a0 + ((ks.take (n + 1)).map (owedOfR (DWorld.mk c p l q log))).sum) := by
        intro hn
        rw [take_snoc hn, List.map_append, List.map_cons, List.map_nil, sum_snoc, iadd_w, h2, owedOf_eq, w64_add]
        congr 1
        omega
      have efin : n = ks.length → v = w64 (a0 + (ks.map (owedOfR (DWorld.mk c p l q log))).sum) := by
        intro hn
        rw [h2, hn, List.take_length]
      obtain ⟨vn, hvn⟩ : ∃ vn, vn = w64 (a0 + ((ks.take (n + 1)).map (owedOfR (DWorld.mk c p l q log))).sum) := ⟨_, rfl⟩
      rw [← hvn] at estep
      cbv
      refine bcase_intro (fun h => ?_) (fun h => ?_) <;> simp only [ilt_eq, ln_int] at h <;> simp at h
      · have hinI : inR (Int.ofNat n) (ln ks) := inR_nat h
        have hltN : ltN n (ln ks) := ltN_nat h
        have e3 : iadd .i64 (Int.ofNat n) 1 = ((n + 1 : Nat) : Int) := idx_next (by omega)
        have estep := estep h
        cbv
        refine ⟨hinI, hltN, ?_⟩
        refine acF.go (X := DWorld × Int) (DWorld.mk c p l q log, at' ks n) hW rfl rfl ?_
        cbv
        refine Back.of (n + 1, vn) (by simp only; omega) ⟨by simp only; omega, hvn⟩ (Le.lay [(10, 10), (11, 11)] rfl ?_ (fun _ => rfl))
        cbv
        and_intros <;> first | exact e3 | exact estep | rfl | trivial | exact leNN_self _ | (intro j hj; exact Wks.same rfl)
      · cbv
        have ei : n = ks.length := by omega
        have := fin v (efin ei)
        refine FinAx.own ?_
        cbv
        exact this

/-! impl.Debt -/
def pre_i_Debt (x : DWorld) : Prop := okW x
noncomputable def as_i_Debt (x : DWorld) : List A := [.agg (DWorld.cells false x)]
noncomputable def res_i_Debt (x : DWorld) : A := I (owed x)
noncomputable def ac_i_Debt (f : FuncId) (args : List A) (d : Nat) (s : St) (K : A → St → Prop) : Prop := acOf [(140, acF pre_i_DebtAt as_i_DebtAt res_i_DebtAt)] f args d s K
theorem ac_i_Debt_ok : ACok Try.prog ac_i_Debt := fun F args d s K h => (acF_cons ok_i_DebtAt acOf_nil) F args d s K h
theorem ok_i_Debt (x : DWorld) (hx : pre_i_Debt x) : Fnk Try.prog 63 (as_i_Debt x) (fun r => r = res_i_Debt x) := by
  obtain ⟨c, p, l, q, log⟩ := x
  replace hx : okW (DWorld.mk c p l q log) := hx
  have hqlen : q.length ≤ 1048576 := okW_q hx
  refine Fnk.of_axF (AC := ac_i_Debt) (Γ := gam) (fn := Try.f63) Try.func63 rfl (by kernel_rfl) gam_ok ac_i_Debt_ok mo (by kernel_rfl) (Nat.le_of_ble_eq_true rfl) (fun post hp => ?_)
  have fin : ∀ v, v = w64 ((q.map (owedAtR (DWorld.mk c p l q log))).sum) → post (I v) := by
    intro v hv
    have : owed (DWorld.mk c p l q log) = v := by rw [owed_eq, hv]; rfl
    rw [← this]; exact hp
  have ekl : ln q = q.length := by rw [ln_eq]
  simp only [Try.f63]
  cbv
  refine LoopAx.of (X := Nat × Int) (fun y => mkS [(1, .ptr 10 0 0), (3, I y.2), (7, .val (.int .i64 (Int.ofNat (ln q)))), (8, I y.1)] [(10, ⟨12, 1, fun _ => DWorld.cells false (DWorld.mk c p l q log)⟩)])
    (fun y => q.length - y.1) (fun y => y.1 ≤ q.length ∧ y.2 = w64 (((q.take y.1).map (owedAtR (DWorld.mk c p l q log))).sum)) (0, 0) ?_ ?_ ?_
  · refine ⟨Nat.zero_le _, ?_⟩
    simp only [List.take_zero, List.map_nil, List.sum_nil]
    rw [w64_id (by unfold rg; omega)]
  · refine Le.lay [(10, 128)] rfl ?_ (fun _ => rfl)
    cbv
    and_intros <;> first | exact congrArg Int.ofNat ekl | rfl | trivial | exact leNN_self _ | (intro j hj; exact Wks.same rfl)
  · rintro ⟨n, v⟩ ⟨h1, h2⟩
    simp only at h1 h2
    have estep : n < q.length → iadd .i64 v (owedAt (DWorld.mk c p l q log) (Int.ofNat n)) = w64 (((q.take (n + 1)).map (owedAtR (DWorld.mk c p l q log))).sum) := by
      intro hn
      have : owedAt (DWorld.mk c p l q log) (Int.ofNat n) = w64 (owedAtR (DWorld.mk c p l q log) (at' q n)) := by
        rw [owedAt_eq]
        show w64 (if 0 ≤ (n : Int) ∧ (n : Int) < q.length then _ else 0) = _
        rw [if_pos (by omega)]
        rfl
      rw [take_snoc hn, List.map_append, List.map_cons, List.map_nil, sum_snoc, iadd_w, h2, this, w64_add]
    have efin : n = q.length → v = w64 ((q.map (owedAtR (DWorld.mk c p l q log))).sum) := by
      intro hn
      rw [h2, hn, List.take_length]
    obtain ⟨vn, hvn⟩ : ∃ vn, vn = w64 (((q.take (n + 1)).map (owedAtR (DWorld.mk c p l q log))).sum) := ⟨_, rfl⟩
    rw [← hvn] at estep
    cbv
    refine bcase_intro (fun h => ?_) (fun h => ?_) <;> simp only [ilt_eq, ln_int] at h <;> simp at h
    · have e3 : iadd .i64 (Int.ofNat n) 1 = ((n + 1 : Nat) : Int) := idx_next (by omega)
      have estep := estep h
      have hr : rg (Int.ofNat n) := by unfold rg; simp; omega
      cbv
      refine acF.go (X := DWorld × Int) (DWorld.mk c p l q log, Int.ofNat n) ⟨hx, hr⟩ rfl rfl ?_
      cbv
      refine Back.of (n + 1, vn) (by simp only; omega) ⟨by simp only; omega, hvn⟩ (Le.lay [(10, 10)] rfl ?_ (fun _ => rfl))
      cbv
      and_intros <;> first | exact e3 | exact estep | rfl | trivial | exact leNN_self _ | (intro j hj; exact Wks.same rfl)
    · cbv
      have ei : n = q.length := by omega
      have := fin v (efin ei)
      refine FinAx.own ?_
      cbv
      exact this

/-! spec.CallsFor -/
def pre_s_CallsFor (x : DWorld) : Prop := okW x
noncomputable def as_s_CallsFor (x : DWorld) : List A := [.agg (DWorld.cells false x)]
noncomputable def res_s_CallsFor (x : DWorld) : A := I (ceilZ (owed x) (DConf.tax (DWorld.c x)))
noncomputable def ac_s_CallsFor (f : FuncId) (args : List A) (d : Nat) (s : St) (K : A → St → Prop) : Prop := acOf [(56, acF pre_s_Debt as_s_Debt res_s_Debt), (55, acF pre_s_CeilDiv as_s_CeilDiv res_s_CeilDiv)] f args d s K
theorem ac_s_CallsFor_ok : ACok Try.prog ac_s_CallsFor := fun F args d s K h => (acF_cons ok_s_Debt (acF_cons ok_s_CeilDiv acOf_nil)) F args d s K h
theorem ok_s_CallsFor (x : DWorld) (hx : pre_s_CallsFor x) : Fnk Try.prog 14 (as_s_CallsFor x) (fun r => r = res_s_CallsFor x) := by
  refine Fnk.of_axF (AC := ac_s_CallsFor) (Γ := gam) (fn := Try.f14) Try.func14 rfl (by kernel_rfl) gam_ok ac_s_CallsFor_ok mo (by kernel_rfl) (Nat.le_of_ble_eq_true rfl) (fun post hp => ?_)
  simp only [Try.f14]
  cbv
  refine DrawAx.of (fun q => q == 128) _ ?_ (fun _ h => h)
  cbv
  refine acF.go (X := DWorld) x hx rfl rfl ?_
  cbv
  refine acF.go (X := Int × Int) (owed x, DConf.tax (DWorld.c x)) trivial rfl rfl ?_
  cbv
  refine FinAx.own ?_
  cbv
  exact hp

/-! spec.SpentMost -/
def pre_s_SpentMost (x : DConf) : Prop := True
noncomputable def as_s_SpentMost (x : DConf) : List A := [.agg (DConf.cells false x)]
noncomputable def res_s_SpentMost (x : DConf) : A := I (iadd .i64 4 (DConf.tax x))
noncomputable def ac_s_SpentMost (f : FuncId) (args : List A) (d : Nat) (s : St) (K : A → St → Prop) : Prop := acOf [] f args d s K
theorem ac_s_SpentMost_ok : ACok Try.prog ac_s_SpentMost := fun F args d s K h => acOf_nil F args d s K h
theorem ok_s_SpentMost (x : DConf) (hx : pre_s_SpentMost x) : Fnk Try.prog 69 (as_s_SpentMost x) (fun r => r = res_s_SpentMost x) := by
  refine Fnk.of_axF (AC := ac_s_SpentMost) (Γ := gam) (fn := Try.f69) Try.func69 rfl (by kernel_rfl) gam_ok ac_s_SpentMost_ok mo (by kernel_rfl) (Nat.le_of_ble_eq_true rfl) (fun post hp => ?_)
  simp only [Try.f69]
  cbv
  refine FinAx.own ?_
  cbv
  exact hp

/-! spec.BoundFor -/
def pre_s_BoundFor (x : DWorld) : Prop := okW x
noncomputable def as_s_BoundFor (x : DWorld) : List A := [.agg (DWorld.cells false x)]
noncomputable def res_s_BoundFor (x : DWorld) : A := I (iadd .i64 (iadd .i64 4 (DConf.tax (DWorld.c x))) (owed x))
noncomputable def ac_s_BoundFor (f : FuncId) (args : List A) (d : Nat) (s : St) (K : A → St → Prop) : Prop := acOf [(56, acF pre_s_Debt as_s_Debt res_s_Debt), (69, acF pre_s_SpentMost as_s_SpentMost res_s_SpentMost)] f args d s K
theorem ac_s_BoundFor_ok : ACok Try.prog ac_s_BoundFor := fun F args d s K h => (acF_cons ok_s_Debt (acF_cons ok_s_SpentMost acOf_nil)) F args d s K h
theorem ok_s_BoundFor (x : DWorld) (hx : pre_s_BoundFor x) : Fnk Try.prog 18 (as_s_BoundFor x) (fun r => r = res_s_BoundFor x) := by
  refine Fnk.of_axF (AC := ac_s_BoundFor) (Γ := gam) (fn := Try.f18) Try.func18 rfl (by kernel_rfl) gam_ok ac_s_BoundFor_ok mo (by kernel_rfl) (Nat.le_of_ble_eq_true rfl) (fun post hp => ?_)
  simp only [Try.f18]
  cbv
  refine DrawAx.of (fun q => q == 128) _ ?_ (fun _ h => h)
  cbv
  refine acF.go (X := DConf) (DWorld.c x) trivial rfl rfl ?_
  cbv
  refine acF.go (X := DWorld) x hx rfl rfl ?_
  cbv
  refine FinAx.own ?_
  cbv
  exact hp

/-! impl.CallsFor -/
def pre_i_CallsFor (x : DWorld) : Prop := okW x
noncomputable def as_i_CallsFor (x : DWorld) : List A := [.agg (DWorld.cells false x)]
noncomputable def res_i_CallsFor (x : DWorld) : A := I (ceilZ (owed x) (DConf.tax (DWorld.c x)))
noncomputable def ac_i_CallsFor (f : FuncId) (args : List A) (d : Nat) (s : St) (K : A → St → Prop) : Prop := acOf [(63, acF pre_i_Debt as_i_Debt res_i_Debt), (62, acF pre_i_CeilDiv as_i_CeilDiv res_i_CeilDiv)] f args d s K
theorem ac_i_CallsFor_ok : ACok Try.prog ac_i_CallsFor := fun F args d s K h => (acF_cons ok_i_Debt (acF_cons ok_i_CeilDiv acOf_nil)) F args d s K h
theorem ok_i_CallsFor (x : DWorld) (hx : pre_i_CallsFor x) : Fnk Try.prog 16 (as_i_CallsFor x) (fun r => r = res_i_CallsFor x) := by
  refine Fnk.of_axF (AC := ac_i_CallsFor) (Γ := gam) (fn := Try.f16) Try.func16 rfl (by kernel_rfl) gam_ok ac_i_CallsFor_ok mo (by kernel_rfl) (Nat.le_of_ble_eq_true rfl) (fun post hp => ?_)
  simp only [Try.f16]
  cbv
  refine DrawAx.of (fun q => q == 128) _ ?_ (fun _ h => h)
  cbv
  refine acF.go (X := DWorld) x hx rfl rfl ?_
  cbv
  refine acF.go (X := Int × Int) (owed x, DConf.tax (DWorld.c x)) trivial rfl rfl ?_
  cbv
  refine FinAx.own ?_
  cbv
  exact hp

/-! impl.SpentMost -/
def pre_i_SpentMost (x : DConf) : Prop := True
noncomputable def as_i_SpentMost (x : DConf) : List A := [.agg (DConf.cells false x)]
noncomputable def res_i_SpentMost (x : DConf) : A := I (iadd .i64 4 (DConf.tax x))
noncomputable def ac_i_SpentMost (f : FuncId) (args : List A) (d : Nat) (s : St) (K : A → St → Prop) : Prop := acOf [] f args d s K
theorem ac_i_SpentMost_ok : ACok Try.prog ac_i_SpentMost := fun F args d s K h => acOf_nil F args d s K h
theorem ok_i_SpentMost (x : DConf) (hx : pre_i_SpentMost x) : Fnk Try.prog 70 (as_i_SpentMost x) (fun r => r = res_i_SpentMost x) := by
  refine Fnk.of_axF (AC := ac_i_SpentMost) (Γ := gam) (fn := Try.f70) Try.func70 rfl (by kernel_rfl) gam_ok ac_i_SpentMost_ok mo (by kernel_rfl) (Nat.le_of_ble_eq_true rfl) (fun post hp => ?_)
  simp only [Try.f70]
  cbv
  refine FinAx.own ?_
  cbv
  exact hp

/-! impl.BoundFor -/
def pre_i_BoundFor (x : DWorld) : Prop := okW x
noncomputable def as_i_BoundFor (x : DWorld) : List A := [.agg (DWorld.cells false x)]
noncomputable def res_i_BoundFor (x : DWorld) : A := I (iadd .i64 (iadd .i64 4 (DConf.tax (DWorld.c x))) (owed x))
noncomputable def ac_i_BoundFor (f : FuncId) (args : List A) (d : Nat) (s : St) (K : A → St → Prop) : Prop := acOf [(63, acF pre_i_Debt as_i_Debt res_i_Debt), (70, acF pre_i_SpentMost as_i_SpentMost res_i_SpentMost)] f args d s K
theorem ac_i_BoundFor_ok : ACok Try.prog ac_i_BoundFor := fun F args d s K h => (acF_cons ok_i_Debt (acF_cons ok_i_SpentMost acOf_nil)) F args d s K h
theorem ok_i_BoundFor (x : DWorld) (hx : pre_i_BoundFor x) : Fnk Try.prog 19 (as_i_BoundFor x) (fun r => r = res_i_BoundFor x) := by
  refine Fnk.of_axF (AC := ac_i_BoundFor) (Γ := gam) (fn := Try.f19) Try.func19 rfl (by kernel_rfl) gam_ok ac_i_BoundFor_ok mo (by kernel_rfl) (Nat.le_of_ble_eq_true rfl) (fun post hp => ?_)
  simp only [Try.f19]
  cbv
  refine DrawAx.of (fun q => q == 128) _ ?_ (fun _ h => h)
  cbv
  refine acF.go (X := DConf) (DWorld.c x) trivial rfl rfl ?_
  cbv
  refine acF.go (X := DWorld) x hx rfl rfl ?_
  cbv
  refine FinAx.own ?_
  cbv
  exact hp

end Go.Am
end
