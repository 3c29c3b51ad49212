/- PRINTED by w11.py: steps, remains, children. -/
import Derived.Test.YtkbdhffgmahpdaaC10
section
set_option linter.all false
namespace Go.Am
open Go.Proofs
set_option maxRecDepth 100000

/-! impl.OwnSteps -/
def pre_i_OwnSteps (x : DConf × DWaste) : Prop := smDWaste x.2
noncomputable def as_i_OwnSteps (x : DConf × DWaste) : List A := [.agg (DConf.cells false x.1), .agg (DWaste.cells false x.2)]
noncomputable def res_i_OwnSteps (x : DConf × DWaste) : A := I (ownZ x.1 x.2)
noncomputable def ac_i_OwnSteps (f : FuncId) (args : List A) (d : Nat) (s : St) (K : A → St → Prop) : Prop := acOf [(200, acF pre_i_SlicesOf as_i_SlicesOf res_i_SlicesOf)] f args d s K
theorem ac_i_OwnSteps_ok : ACok Try.prog ac_i_OwnSteps := fun F args d s K h => (acF_cons ok_i_SlicesOf acOf_nil) F args d s K h
theorem ok_i_OwnSteps (x : DConf × DWaste) (hx : pre_i_OwnSteps x) : Fnk Try.prog 182 (as_i_OwnSteps x) (fun r => r = res_i_OwnSteps x) := by
  obtain ⟨c, x⟩ := x
  obtain ⟨ht, hc⟩ := hx
  obtain ⟨a, ha⟩ : ∃ a, a = ceilZ (isub .i64 (DConf.size c) (DWaste.done x)) (DConf.slice c) := ⟨_, rfl⟩
  obtain ⟨b, hb⟩ : ∃ b, b = ceilZ (DConf.size c) (DConf.slice c) := ⟨_, rfl⟩
  have bda : 0 ≤ a ∧ a ≤ 2000000000 := by rw [ha]; exact ceilZ_bd _ _
  have bdb : 0 ≤ b ∧ b ≤ 2000000000 := by rw [hb]; exact ceilZ_bd _ _
  obtain ⟨t, hT⟩ : ∃ t : Int, t = (DWaste.tags x).length + 1 := ⟨_, rfl⟩
  obtain ⟨m, hm⟩ : ∃ m : Nat, m = (DWaste.chunks x).length := ⟨_, rfl⟩
  have bdt : 0 ≤ t ∧ t ≤ 1048577 := by unfold sm at ht; simp only at ht; omega
  have bdm : m ≤ 1048576 := by unfold sm at hc; simp only at hc; omega
  have e0 : iadd .i64 (Int.ofNat (ln (DWaste.tags x))) 1 = t := by
    simp only [ln_int]
    rw [iadd_eq] <;> omega
  have hown : ownZ c x = ownM t m a b := by rw [ownZ_eq]; unfold ownZR; rw [← ha, ← hb, ← hT, ← hm]
  have em : ln (DWaste.chunks x) = m := by simp only [ln_eq, hm]
  refine Fnk.of_axF (AC := ac_i_OwnSteps) (Γ := gam) (fn := Try.f182) Try.func182 rfl (by kernel_rfl) gam_ok ac_i_OwnSteps_ok mo (by kernel_rfl) (Nat.le_of_ble_eq_true rfl) (fun post hp => ?_)
  simp only [Try.f182]
  cbv
  have hp' : post (I (ownM t m a b)) := by
    simp only [res_i_OwnSteps, hown] at hp
    exact hp
  refine LoopAx.of (X := Nat × Int) (fun y => mkS [(2, .ptr 10 0 0), (3, .ptr 11 0 0), (5, I y.2), (13, I m), (14, I y.1)] [(10, ⟨6, 1, fun _ => DConf.cells false c⟩), (11, ⟨5, 1, fun _ => DWaste.cells false x⟩)])
    (fun y => m - y.1) (fun y => y.1 ≤ m ∧ y.2 = ownM t y.1 a b) (0, t) ?_ ?_ ?_
  · exact ⟨Nat.zero_le _, (ownM_zero t a b).symm⟩
  · refine Le.lay [(10, 192), (11, 256)] rfl ?_ (fun _ => rfl)
    cbv
    and_intros <;> first | exact e0 | exact congrArg Int.ofNat em | rfl | trivial | exact leNN_self _ | (intro k hk; exact Wks.same rfl)
  · rintro ⟨i, v⟩ ⟨h1, h2⟩
    simp only at h1 h2
    have bdv := ownM_bd bdt (m := i) (by omega) bda bdb
    have ei : i < 1048577 := by omega
    cbv
    refine bcase_intro (fun h => ?_) (fun h => ?_) <;> simp only [ilt_eq, em] at h <;> simp at h
    · have e3 : iadd .i64 (Int.ofNat i) 1 = ((i + 1 : Nat) : Int) := idx_next (by omega)
      cbv
      refine bcase_intro (fun h4 => ?_) (fun h4 => ?_) <;> simp only [ieq_eq] at h4 <;> simp at h4
      · cbv
        refine acF.go (X := DConf × Int) (_, _) trivial rfl rfl ?_
        cbv
        have i0 : i = 0 := by omega
        subst i0
        have e4 : iadd .i64 v a = v + a := iadd_eq (by omega) (by omega)
        refine Back.of (1, v + a) (by simp; omega) ⟨by simp; omega, by simp only; rw [h2, ownM_one, ownM_zero]⟩ (Le.lay [(10, 10), (11, 11)] rfl ?_ (fun _ => rfl))
        obtain ⟨va, hva⟩ : ∃ va, va = v + a := ⟨_, rfl⟩
        rw [← hva] at e4 ⊢
        rw [ha] at e4
        cbv
        and_intros <;> first | exact e4 | exact e3 | rfl | trivial | exact leNN_self _ | (intro k hk; exact Wks.same rfl)
      · cbv
        refine acF.go (X := DConf × Int) (_, _) trivial rfl rfl ?_
        cbv
        have e4 : iadd .i64 v b = v + b := iadd_eq (by omega) (by omega)
        refine Back.of (i + 1, v + b) (by simp; omega) ⟨by simp; omega, by simp only; rw [h2, ownM_succ t i a b (by omega)]⟩ (Le.lay [(10, 10), (11, 11)] rfl ?_ (fun _ => rfl))
        obtain ⟨va, hva⟩ : ∃ va, va = v + b := ⟨_, rfl⟩
        rw [← hva] at e4 ⊢
        rw [hb] at e4
        cbv
        and_intros <;> first | exact e4 | exact e3 | rfl | trivial | exact leNN_self _ | (intro k hk; exact Wks.same rfl)
    · cbv
      refine FinAx.own ?_
      cbv
      have : i = m := by omega
      subst this
      rw [h2]
      exact hp'

/-! spec.OwnSteps -/
def pre_s_OwnSteps (x : DConf × DWaste) : Prop := smDWaste x.2
noncomputable def as_s_OwnSteps (x : DConf × DWaste) : List A := [.agg (DConf.cells false x.1), .agg (DWaste.cells false x.2)]
noncomputable def res_s_OwnSteps (x : DConf × DWaste) : A := I (ownZ x.1 x.2)
noncomputable def ac_s_OwnSteps (f : FuncId) (args : List A) (d : Nat) (s : St) (K : A → St → Prop) : Prop := acOf [(197, acF pre_s_SlicesOf as_s_SlicesOf res_s_SlicesOf)] f args d s K
theorem ac_s_OwnSteps_ok : ACok Try.prog ac_s_OwnSteps := fun F args d s K h => (acF_cons ok_s_SlicesOf acOf_nil) F args d s K h
theorem ok_s_OwnSteps (x : DConf × DWaste) (hx : pre_s_OwnSteps x) : Fnk Try.prog 179 (as_s_OwnSteps x) (fun r => r = res_s_OwnSteps x) := by
  obtain ⟨c, x⟩ := x
  obtain ⟨ht, hc⟩ := hx
  obtain ⟨a, ha⟩ : ∃ a, a = ceilZ (isub .i64 (DConf.size c) (DWaste.done x)) (DConf.slice c) := ⟨_, rfl⟩
  obtain ⟨b, hb⟩ : ∃ b, b = ceilZ (DConf.size c) (DConf.slice c) := ⟨_, rfl⟩
  have bda : 0 ≤ a ∧ a ≤ 2000000000 := by rw [ha]; exact ceilZ_bd _ _
  have bdb : 0 ≤ b ∧ b ≤ 2000000000 := by rw [hb]; exact ceilZ_bd _ _
  obtain ⟨t, hT⟩ : ∃ t : Int, t = (DWaste.tags x).length + 1 := ⟨_, rfl⟩
  obtain ⟨m, hm⟩ : ∃ m : Nat, m = (DWaste.chunks x).length := ⟨_, rfl⟩
  have bdt : 0 ≤ t ∧ t ≤ 1048577 := by unfold sm at ht; simp only at ht; omega
  have bdm : m ≤ 1048576 := by unfold sm at hc; simp only at hc; omega
  have e0 : iadd .i64 (Int.ofNat (ln (DWaste.tags x))) 1 = t := by
    simp only [ln_int]
    rw [iadd_eq] <;> omega
  have hown : ownZ c x = ownM t m a b := by rw [ownZ_eq]; unfold ownZR; rw [← ha, ← hb, ← hT, ← hm]
  have em : ln (DWaste.chunks x) = m := by simp only [ln_eq, hm]
  refine Fnk.of_axF (AC := ac_s_OwnSteps) (Γ := gam) (fn := Try.f179) Try.func179 rfl (by kernel_rfl) gam_ok ac_s_OwnSteps_ok mo (by kernel_rfl) (Nat.le_of_ble_eq_true rfl) (fun post hp => ?_)
  simp only [Try.f179]
  cbv
  have hp' : post (I (ownM t m a b)) := by
    simp only [res_s_OwnSteps, hown] at hp
    exact hp
  refine LoopAx.of (X := Nat × Int) (fun y => mkS [(2, .ptr 10 0 0), (3, .ptr 11 0 0), (5, I y.2), (6, I y.1)] [(10, ⟨6, 1, fun _ => DConf.cells false c⟩), (11, ⟨5, 1, fun _ => DWaste.cells false x⟩)])
    (fun y => m - y.1) (fun y => y.1 ≤ m ∧ y.2 = ownM t y.1 a b) (0, t) ?_ ?_ ?_
  · exact ⟨Nat.zero_le _, (ownM_zero t a b).symm⟩
  · refine Le.lay [(10, 192), (11, 256)] rfl ?_ (fun _ => rfl)
    cbv
    and_intros <;> first | exact e0 | exact congrArg Int.ofNat em | rfl | trivial | exact leNN_self _ | (intro k hk; exact Wks.same rfl)
  · rintro ⟨i, v⟩ ⟨h1, h2⟩
    simp only at h1 h2
    have bdv := ownM_bd bdt (m := i) (by omega) bda bdb
    have ei : i < 1048577 := by omega
    cbv
    refine bcase_intro (fun h => ?_) (fun h => ?_) <;> simp only [ilt_eq, em] at h <;> simp at h
    · have e3 : iadd .i64 (Int.ofNat i) 1 = ((i + 1 : Nat) : Int) := idx_next (by omega)
      cbv
      refine bcase_intro (fun h4 => ?_) (fun h4 => ?_) <;> simp only [ieq_eq] at h4 <;> simp at h4
      · cbv
        refine acF.go (X := DConf × Int) (_, _) trivial rfl rfl ?_
        cbv
        have i0 : i = 0 := by omega
        subst i0
        have e4 : iadd .i64 v a = v + a := iadd_eq (by omega) (by omega)
        refine Back.of (1, v + a) (by simp; omega) ⟨by simp; omega, by simp only; rw [h2, ownM_one, ownM_zero]⟩ (Le.lay [(10, 10), (11, 11)] rfl ?_ (fun _ => rfl))
        obtain ⟨va, hva⟩ : ∃ va, va = v + a := ⟨_, rfl⟩
        rw [← hva] at e4 ⊢
        rw [ha] at e4
        cbv
        and_intros <;> first | exact e4 | exact e3 | rfl | trivial | exact leNN_self _ | (intro k hk; exact Wks.same rfl)
      · cbv
        refine acF.go (X := DConf × Int) (_, _) trivial rfl rfl ?_
        cbv
        have e4 : iadd .i64 v b = v + b := iadd_eq (by omega) (by omega)
        refine Back.of (i + 1, v + b) (by simp; omega) ⟨by simp; omega, by simp only; rw [h2, ownM_succ t i a b (by omega)]⟩ (Le.lay [(10, 10), (11, 11)] rfl ?_ (fun _ => rfl))
        obtain ⟨va, hva⟩ : ∃ va, va = v + b := ⟨_, rfl⟩
        rw [← hva] at e4 ⊢
        rw [hb] at e4
        cbv
        and_intros <;> first | exact e4 | exact e3 | rfl | trivial | exact leNN_self _ | (intro k hk; exact Wks.same rfl)
    · cbv
      refine FinAx.own ?_
      cbv
      have : i = m := by omega
      subst this
      rw [h2]
      exact hp'

/-! slices.Clone[[]int,int] -/
def pre_cloneI (x : List Int) : Prop := sm x
noncomputable def as_cloneI (x : List Int) : List A := [Am.ints false x]
noncomputable def res_cloneI (x : List Int) : A := Am.ints true x
noncomputable def ac_cloneI (f : FuncId) (args : List A) (d : Nat) (s : St) (K : A → St → Prop) : Prop := acOf [] f args d s K
theorem ac_cloneI_ok : ACok Try.prog ac_cloneI := fun F args d s K h => acOf_nil F args d s K h
theorem ok_cloneI (x : List Int) (hx : pre_cloneI x) : Fnk Try.prog 116 (as_cloneI x) (fun r => r = res_cloneI x) := by
  refine Fnk.of_axF (AC := ac_cloneI) (Γ := gam) (fn := Try.f116) Try.func116 rfl (by kernel_rfl) gam_ok ac_cloneI_ok mo (by kernel_rfl) (Nat.le_of_ble_eq_true rfl) (fun post hp => ?_)
  simp only [Try.f116]
  cbv
  intro b hb
  cbv
  refine bcase_intro (fun h => ?_) (fun h => ?_)
  · subst h
    have h0 : x = [] := by
      have := hb rfl
      simp only [eqN_eq, ln_eq] at this
      exact List.length_eq_zero_iff.1 this
    subst h0
    cbv
    refine FinAx.emp true 1 (fun i => [I (at' ([] : List Int) i)]) ?_
    cbv
    have e : Am.ints true [] = .slc true 1 0 (fun i => [I (at' ([] : List Int) i)]) := by unfold Am.ints; simp only [ln_nil]
    simp only [res_cloneI, e] at hp
    exact hp
  · cbv
    refine ⟨(eqN_eq _ _).2 rfl, fits_sm (by unfold pre_cloneI sm at hx; simp only [ln_eq]; omega) (by decide), ?_⟩
    refine FinAx.own ?_
    simp only [cat_zero]
    cbv
    exact ⟨⟨leNN_self _, Clo.of (fun _ _ => rfl), trivial⟩, hp⟩

end Go.Am
end
