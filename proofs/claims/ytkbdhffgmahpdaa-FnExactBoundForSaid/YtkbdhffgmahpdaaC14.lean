/- PRINTED by w14.py: debts, the reference. -/
import Derived.Test.YtkbdhffgmahpdaaC13
section
set_option linter.all false
namespace Go.Am
open Go.Proofs
set_option maxRecDepth 100000

/-! spec.DebtOf -/
def pre_s_DebtOf (x : DWorld × Int) : Prop := okW x.1
noncomputable def as_s_DebtOf (x : DWorld × Int) : List A := [.agg (DWorld.cells false x.1), I x.2]
noncomputable def res_s_DebtOf (x : DWorld × Int) : A := I (owedOf x.1 x.2)
noncomputable def ac_s_DebtOf (g : Nat) (f : FuncId) (args : List A) (d : Nat) (s : St) (K : A → St → Prop) : Prop := acOf [(198, acG (preL15 g) asL15 obsL15 0 (postL15 g))] f args d s K
theorem ok_s_DebtOf (x : DWorld × Int) (hx : pre_s_DebtOf x) : Fnk Try.prog 180 (as_s_DebtOf x) (fun r => r = res_s_DebtOf x) := by
  obtain ⟨W, k⟩ := x
  obtain ⟨c, p, l, q, log⟩ := W
  refine Fnk.of_axF (AC := ac_s_DebtOf (l.length + 1)) (Γ := gam) (fn := Try.f180) Try.func180 rfl (by kernel_rfl) gam_ok (fun F args d s K h => (acG_cons (ok_L15 (l.length + 1)) acOf_nil) F args d s K h) mo (by kernel_rfl) (Nat.le_of_ble_eq_true rfl) (fun post hp => ?_)
  obtain ⟨f, hf⟩ : ∃ f, f = l.length + 1 := ⟨_, rfl⟩
  have hpre : preL15 f (DWorld.mk c p l q log, k, []) := ⟨hx, few_nil l, by show unmet l [] < f; rw [unmet_nil]; omega⟩
  obtain ⟨dw, hdw⟩ : ∃ dw, dw = dfsW l c f [k] [] := ⟨_, rfl⟩
  obtain ⟨dm, hdm⟩ : ∃ dm, dm = dfsM l c f [k] [] := ⟨_, rfl⟩
  have hpost : ∀ r obs', postL15 f (DWorld.mk c p l q log, k, []) r obs' → r = .tup [I dw, Am.ints true dm] ∧ obs' = [] := by
    rintro r obs' ⟨h1, h2⟩
    rw [hdw, hdm]; exact ⟨h1, h2⟩
  have hres : post (I dw) := by
    have : owedOf (DWorld.mk c p l q log) k = dw := by rw [owedOf_eq, hdw, dfsW_eq, hf]; rfl
    rw [← this]; exact hp
  rw [← hf]
  simp only [Try.f180]
  cbv
  refine acG.go (X := DWorld × Int × List Int) (DWorld.mk c p l q log, k, []) false [some 704] hpre ?_ rfl (Nat.le_of_ble_eq_true rfl) ?_ ?_
  · show gvOk _ [some 704] [⟨1, ln ([] : List Int), _⟩]
    simp only [ln_nil]
    cbv
    refine ⟨⟨(eqN_eq _ _).2 rfl, Clo.of (fun _ _ => rfl), fun k hk => absurd hk (Nat.not_lt_zero _)⟩, trivial⟩
  · show Fas _ _ _ _ [_, _, .sl 0 0 (ln ([] : List Int))]
    simp only [ln_nil]
    exact .cons (.cl rfl) (.cons (.cl rfl) (.cons (.sl rfl) .nil))
  rintro r obs' - hpo
  obtain ⟨rfl, rfl⟩ := hpost r obs' hpo
  refine ⟨fun h => Bool.noConfusion h, ?_⟩
  cbv
  refine FinAx.own ?_
  cbv
  exact hres

/-! spec.DebtAt -/
def pre_s_DebtAt (x : DWorld × Int) : Prop := okW x.1 ∧ rg x.2
noncomputable def as_s_DebtAt (x : DWorld × Int) : List A := [.agg (DWorld.cells false x.1), I x.2]
noncomputable def res_s_DebtAt (x : DWorld × Int) : A := I (owedAt x.1 x.2)
noncomputable def ac_s_DebtAt (f : FuncId) (args : List A) (d : Nat) (s : St) (K : A → St → Prop) : Prop := acOf [(73, acF pre_s_l1In as_s_l1In res_s_l1In), (179, acF pre_s_OwnSteps as_s_OwnSteps res_s_OwnSteps), (112, acF pre_s_KidsOf as_s_KidsOf res_s_KidsOf), (180, acF pre_s_DebtOf as_s_DebtOf res_s_DebtOf)] f args d s K
theorem ac_s_DebtAt_ok : ACok Try.prog ac_s_DebtAt := fun F args d s K h => (acF_cons ok_s_l1In (acF_cons ok_s_OwnSteps (acF_cons ok_s_KidsOf (acF_cons ok_s_DebtOf acOf_nil)))) F args d s K h
theorem ok_s_DebtAt (x : DWorld × Int) (hx : pre_s_DebtAt x) : Fnk Try.prog 137 (as_s_DebtAt x) (fun r => r = res_s_DebtAt x) := by
  obtain ⟨W, i⟩ := x
  obtain ⟨hW, hri⟩ := hx
  obtain ⟨c, p, l, q, log⟩ := W
  replace hW : okW (DWorld.mk c p l q log) := hW
  replace hri : rg i := hri
  have hlen : l.length ≤ 1048576 := okW_l hW
  have hqlen : q.length ≤ 1048576 := okW_q hW
  have hin : inB i 0 (isub .i64 (Int.ofNat (ln q)) 1) = true ↔ (0 ≤ i ∧ i < q.length) := by
    rw [ln_int, inB_eq, isub_eq (by omega) (by omega), decide_eq_true_eq]
    omega
  refine Fnk.of_axF (AC := ac_s_DebtAt) (Γ := gam) (fn := Try.f137) Try.func137 rfl (by kernel_rfl) gam_ok ac_s_DebtAt_ok mo (by kernel_rfl) (Nat.le_of_ble_eq_true rfl) (fun post hp => ?_)
  have no : ¬ (0 ≤ i ∧ i < q.length) → post (I 0) := by
    intro h
    have : owedAt (DWorld.mk c p l q log) i = 0 := by
      rw [owedAt_eq]
      show w64 (if 0 ≤ i ∧ i < q.length then _ else 0) = 0
      rw [if_neg h, w64_id (by unfold rg; omega)]
    rw [← this]; exact hp
  simp only [Try.f137]
  cbv
  refine acF.go (X := Int × Int × Int) (_, _, _) trivial rfl rfl ?_
  cbv
  refine bcase_intro (fun h => ?_) (fun h => ?_)
  · cbv
    have := no (fun hk => by rw [hin.2 hk] at h; cases h)
    refine FinAx.own ?_
    cbv
    exact this
  · have hk : 0 ≤ i ∧ i < q.length := hin.1 (nf h)
    have hkn : i.toNat < q.length := by omega
    have hinR : inR i (ln q) := by rw [inR_eq, ln_eq]; omega
    have hnat : nat i = i.toNat := o_nat i
    have hsm : smDWaste (at' q (nat i)) := by rw [hnat]; exact okW_waste hW hkn
    have hrg : rg (DWaste.first (at' q (nat i))) := by rw [hnat]; exact hW.2.2 _ hkn
    have hkp : kidsPre l (DWaste.first (at' q (nat i))) := okW_kids hW hrg
    obtain ⟨a0, ha0⟩ : ∃ a0, a0 = ownZ c (at' q (nat i)) := ⟨_, rfl⟩
    obtain ⟨ks, hks⟩ : ∃ ks, ks = kidsL l (DWaste.first (at' q (nat i))) := ⟨_, rfl⟩
    have hksl : ks.length ≤ 1048576 := by rw [hks]; exact sm_kids hlen _
    have ekl : ln ks = ks.length := by rw [ln_eq]
    have a0w : w64 a0 = a0 := by
      refine w64_id ?_
      rw [ha0, ownZ_eq]
      unfold ownZR
      have h1 := ceilZ_bd (isub .i64 (DConf.size c) (DWaste.done (at' q (nat i)))) (DConf.slice c)
      have h2 := ceilZ_bd (DConf.size c) (DConf.slice c)
      obtain ⟨s1, s2⟩ := hsm
      unfold sm at s1 s2
      have := ownM_bd (t := ((DWaste.tags (at' q (nat i))).length : Int) + 1) (m := (DWaste.chunks (at' q (nat i))).length) (by omega) s2 h1 h2
      unfold rg
      omega
    have fin : ∀ v, v = w64 (a0 + (ks.map (owedOfR (DWorld.mk c p l q log))).sum) → post (I v) := by
      intro v hv
      have : owedAt (DWorld.mk c p l q log) i = v := by
        rw [owedAt_eq, hv]
        show w64 (if 0 ≤ i ∧ i < q.length then _ else 0) = _
        rw [if_pos hk]
        unfold owedAtR
        rw [ha0, hks, hnat]
        rfl
      rw [← this]; exact hp
    cbv
    refine DrawAx.of (fun q => q == 192) _ ?_ (fun _ h => h)
    cbv
    refine ⟨hinR, ?_⟩
    refine acF.go (X := DConf × DWaste) (c, at' q (nat i)) hsm rfl rfl ?_
    cbv
    refine DrawAx.of (fun q => q == 192) _ ?_ (fun _ h => h)
    cbv
    refine ⟨hinR, ?_⟩
    refine acF.go (X := List DNode × Int) (l, DWaste.first (at' q (nat i))) hkp rfl rfl ?_
    cbv
    refine LoopAx.of (X := Nat × Int) (fun y => mkS [(2, .ptr 10 0 0), (5, I y.2), (6, .sl 11 0 (ln ks)), (7, I y.1)] [(10, ⟨12, 1, fun _ => DWorld.cells false (DWorld.mk c p l q log)⟩), (11, ⟨1, ln ks, fun j => [I (at' ks j)]⟩)])
      (fun y => ks.length - y.1) (fun y => y.1 ≤ ks.length ∧ y.2 = w64 (a0 + ((ks.take y.1).map (owedOfR (DWorld.mk c p l q log))).sum)) (0, a0) ?_ ?_ ?_
    · refine ⟨Nat.zero_le _, ?_⟩
      simp only [List.take_zero, List.map_nil, List.sum_nil, Int.add_zero]
      exact a0w.symm
    · refine Le.lay [(10, 192), (11, 2048)] rfl ?_ (fun _ => rfl)
      cbv
      subst hks
      and_intros <;> first | exact ha0.symm | exact congrArg Int.ofNat ekl | rfl | trivial | exact leNN_self _ | (intro j hj; exact Wks.same rfl)
    · rintro ⟨n, v⟩ ⟨h1, h2⟩
      simp only at h1 h2
      have estep : n < ks.length → iadd .i64 v (owedOf (DWorld.mk c p l q log) (at' ks n)) = w64 (a0 + ((ks.take (n + 1)).map (owedOfR (DWorld.mk c p l q log))).sum) := by
        intro hn
        rw [take_snoc hn, List.map_append, List.map_cons, List.map_nil, sum_snoc, iadd_w, h2, owedOf_eq, w64_add]
        congr 1
        omega
      have efin : n = ks.length → v = w64 (a0 + (ks.map (owedOfR (DWorld.mk c p l q log))).sum) := by
        intro hn
        rw [h2, hn, List.take_length]
      obtain ⟨vn, hvn⟩ : ∃ vn, vn = w64 (a0 + ((ks.take (n + 1)).map (owedOfR (DWorld.mk c p l q log))).sum) := ⟨_, rfl⟩
      rw [← hvn] at estep
      cbv
      refine bcase_intro (fun h => ?_) (fun h => ?_) <;> simp only [ilt_eq, ln_int] at h <;> simp at h
      · have hinI : inR (Int.ofNat n) (ln ks) := inR_nat h
        have hltN : ltN n (ln ks) := ltN_nat h
        have e3 : iadd .i64 (Int.ofNat n) 1 = ((n + 1 : Nat) : Int) := idx_next (by omega)
        have estep := estep h
        cbv
        refine DrawAx.of (fun q => q == 10 || q == 11) _ ?_ (fun _ h => h)
        cbv
        refine ⟨hinI, hltN, ?_⟩
        refine acF.go (X := DWorld × Int) (DWorld.mk c p l q log, at' ks n) hW rfl rfl ?_
        cbv
        refine Back.of (n + 1, vn) (by simp only; omega) ⟨by simp only; omega, hvn⟩ (Le.lay [(10, 10), (11, 11)] rfl ?_ (fun _ => rfl))
        cbv
        and_intros <;> first | exact e3 | exact estep | rfl | trivial | exact leNN_self _ | (intro j hj; exact Wks.same rfl)
      · cbv
        have ei : n = ks.length := by omega
        have := fin v (efin ei)
        refine FinAx.own ?_
        cbv
        exact this

/-! spec.Debt -/
def pre_s_Debt (x : DWorld) : Prop := okW x
noncomputable def as_s_Debt (x : DWorld) : List A := [.agg (DWorld.cells false x)]
noncomputable def res_s_Debt (x : DWorld) : A := I (owed x)
noncomputable def ac_s_Debt (f : FuncId) (args : List A) (d : Nat) (s : St) (K : A → St → Prop) : Prop := acOf [(137, acF pre_s_DebtAt as_s_DebtAt res_s_DebtAt)] f args d s K
theorem ac_s_Debt_ok : ACok Try.prog ac_s_Debt := fun F args d s K h => (acF_cons ok_s_DebtAt acOf_nil) F args d s K h
theorem ok_s_Debt (x : DWorld) (hx : pre_s_Debt x) : Fnk Try.prog 56 (as_s_Debt x) (fun r => r = res_s_Debt x) := by
  obtain ⟨c, p, l, q, log⟩ := x
  replace hx : okW (DWorld.mk c p l q log) := hx
  have hqlen : q.length ≤ 1048576 := okW_q hx
  refine Fnk.of_axF (AC := ac_s_Debt) (Γ := gam) (fn := Try.f56) Try.func56 rfl (by kernel_rfl) gam_ok ac_s_Debt_ok mo (by kernel_rfl) (Nat.le_of_ble_eq_true rfl) (fun post hp => ?_)
  have fin : ∀ v, v = w64 ((q.map (owedAtR (DWorld.mk c p l q log))).sum) → post (I v) := by
    intro v hv
    have : owed (DWorld.mk c p l q log) = v := by rw [owed_eq, hv]; rfl
    rw [← this]; exact hp
  have ekl : ln q = q.length := by rw [ln_eq]
  simp only [Try.f56]
  cbv
  refine LoopAx.of (X := Nat × Int) (fun y => mkS [(1, .ptr 10 0 0), (3, I y.2), (4, I y.1)] [(10, ⟨12, 1, fun _ => DWorld.cells false (DWorld.mk c p l q log)⟩)])
    (fun y => q.length - y.1) (fun y => y.1 ≤ q.length ∧ y.2 = w64 (((q.take y.1).map (owedAtR (DWorld.mk c p l q log))).sum)) (0, 0) ?_ ?_ ?_
  · refine ⟨Nat.zero_le _, ?_⟩
    simp only [List.take_zero, List.map_nil, List.sum_nil]
    rw [w64_id (by unfold rg; omega)]
  · refine Le.lay [(10, 128)] rfl ?_ (fun _ => rfl)
    cbv
    and_intros <;> first | exact congrArg Int.ofNat ekl | rfl | trivial | exact leNN_self _ | (intro j hj; exact Wks.same rfl)
  · rintro ⟨n, v⟩ ⟨h1, h2⟩
    simp only at h1 h2
    have estep : n < q.length → iadd .i64 v (owedAt (DWorld.mk c p l q log) (Int.ofNat n)) = w64 (((q.take (n + 1)).map (owedAtR (DWorld.mk c p l q log))).sum) := by
      intro hn
      have : owedAt (DWorld.mk c p l q log) (Int.ofNat n) = w64 (owedAtR (DWorld.mk c p l q log) (at' q n)) := by
        rw [owedAt_eq]
        show w64 (if 0 ≤ (n : Int) ∧ (n : Int) < q.length then _ else 0) = _
        rw [if_pos (by omega)]
        rfl
      rw [take_snoc hn, List.map_append, List.map_cons, List.map_nil, sum_snoc, iadd_w, h2, this, w64_add]
    have efin : n = q.length → v = w64 ((q.map (owedAtR (DWorld.mk c p l q log))).sum) := by
      intro hn
      rw [h2, hn, List.take_length]
    obtain ⟨vn, hvn⟩ : ∃ vn, vn = w64 (((q.take (n + 1)).map (owedAtR (DWorld.mk c p l q log))).sum) := ⟨_, rfl⟩
    rw [← hvn] at estep
    cbv
    refine bcase_intro (fun h => ?_) (fun h => ?_) <;> simp only [ilt_eq, ln_int] at h <;> simp at h
    · have e3 : iadd .i64 (Int.ofNat n) 1 = ((n + 1 : Nat) : Int) := idx_next (by omega)
      have estep := estep h
      have hr : rg (Int.ofNat n) := by unfold rg; simp; omega
      cbv
      refine acF.go (X := DWorld × Int) (DWorld.mk c p l q log, Int.ofNat n) ⟨hx, hr⟩ rfl rfl ?_
      cbv
      refine Back.of (n + 1, vn) (by simp only; omega) ⟨by simp only; omega, hvn⟩ (Le.lay [(10, 10)] rfl ?_ (fun _ => rfl))
      cbv
      and_intros <;> first | exact e3 | exact estep | rfl | trivial | exact leNN_self _ | (intro j hj; exact Wks.same rfl)
    · cbv
      have ei : n = q.length := by omega
      have := fin v (efin ei)
      refine FinAx.own ?_
      cbv
      exact this

end Go.Am
end
