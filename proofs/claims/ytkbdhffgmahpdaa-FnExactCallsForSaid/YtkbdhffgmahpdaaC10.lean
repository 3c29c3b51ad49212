/- PRINTED by w10.py: walks of small functions. -/
import Derived.Test.YtkbdhffgmahpdaaB5
section
set_option linter.all false
namespace Go.Am
open Go.Proofs
set_option maxRecDepth 100000

/-! impl.within -/
def pre_i_within (x : Int × Int × Int) : Prop := True
noncomputable def as_i_within (x : Int × Int × Int) : List A := [I x.1, I x.2.1, I x.2.2]
noncomputable def res_i_within (x : Int × Int × Int) : A := Bo (inB x.1 x.2.1 x.2.2)
noncomputable def ac_i_within (f : FuncId) (args : List A) (d : Nat) (s : St) (K : A → St → Prop) : Prop := acOf [] f args d s K
theorem ac_i_within_ok : ACok Try.prog ac_i_within := fun F args d s K h => acOf_nil F args d s K h
theorem ok_i_within (x : Int × Int × Int) (hx : pre_i_within x) : Fnk Try.prog 77 (as_i_within x) (fun r => r = res_i_within x) := by
  obtain ⟨n, lo, hi⟩ := x
  refine Fnk.of_axF (AC := ac_i_within) (Γ := gam) (fn := Try.f77) Try.func77 rfl (by kernel_rfl) gam_ok ac_i_within_ok mo (by kernel_rfl) (Nat.le_of_ble_eq_true rfl) (fun post hp => ?_)
  simp only [Try.f77]
  cbv
  refine bcase_intro (fun h => ?_) (fun h => ?_) <;> simp only [ige_eq] at h <;> simp at h
  · cbv
    refine FinAx.own ?_
    cbv
    have e : inB n lo hi = ile n hi := by rw [inB_eq]; simp only [ile_eq]; simp [h]
    simp only [res_i_within, e] at hp
    exact hp
  · cbv
    refine FinAx.own ?_
    cbv
    have e : inB n lo hi = false := by rw [inB_eq]; simp; omega
    simp only [res_i_within, e] at hp
    exact hp

/-! spec.l1In -/
def pre_s_l1In (x : Int × Int × Int) : Prop := True
noncomputable def as_s_l1In (x : Int × Int × Int) : List A := [I x.1, I x.2.1, I x.2.2]
noncomputable def res_s_l1In (x : Int × Int × Int) : A := Bo (inB x.1 x.2.1 x.2.2)
noncomputable def ac_s_l1In (f : FuncId) (args : List A) (d : Nat) (s : St) (K : A → St → Prop) : Prop := acOf [] f args d s K
theorem ac_s_l1In_ok : ACok Try.prog ac_s_l1In := fun F args d s K h => acOf_nil F args d s K h
theorem ok_s_l1In (x : Int × Int × Int) (hx : pre_s_l1In x) : Fnk Try.prog 73 (as_s_l1In x) (fun r => r = res_s_l1In x) := by
  obtain ⟨n, lo, hi⟩ := x
  refine Fnk.of_axF (AC := ac_s_l1In) (Γ := gam) (fn := Try.f73) Try.func73 rfl (by kernel_rfl) gam_ok ac_s_l1In_ok mo (by kernel_rfl) (Nat.le_of_ble_eq_true rfl) (fun post hp => ?_)
  simp only [Try.f73]
  cbv
  refine bcase_intro (fun h => ?_) (fun h => ?_) <;> simp only [ige_eq] at h <;> simp at h
  · cbv
    refine FinAx.own ?_
    cbv
    have e : inB n lo hi = ile n hi := by rw [inB_eq]; simp only [ile_eq]; simp [h]
    simp only [res_s_l1In, e] at hp
    exact hp
  · cbv
    refine FinAx.own ?_
    cbv
    have e : inB n lo hi = false := by rw [inB_eq]; simp; omega
    simp only [res_s_l1In, e] at hp
    exact hp

/-! impl.isSlot -/
def pre_i_isSlot (x : List DNode × Int) : Prop := sm x.1
noncomputable def as_i_isSlot (x : List DNode × Int) : List A := [Am.nodes false x.1, I x.2]
noncomputable def res_i_isSlot (x : List DNode × Int) : A := Bo (slotB x.2 (ln x.1))
noncomputable def ac_i_isSlot (f : FuncId) (args : List A) (d : Nat) (s : St) (K : A → St → Prop) : Prop := acOf [(77, acF pre_i_within as_i_within res_i_within)] f args d s K
theorem ac_i_isSlot_ok : ACok Try.prog ac_i_isSlot := fun F args d s K h => (acF_cons ok_i_within acOf_nil) F args d s K h
theorem ok_i_isSlot (x : List DNode × Int) (hx : pre_i_isSlot x) : Fnk Try.prog 114 (as_i_isSlot x) (fun r => r = res_i_isSlot x) := by
  obtain ⟨l, k⟩ := x
  refine Fnk.of_axF (AC := ac_i_isSlot) (Γ := gam) (fn := Try.f114) Try.func114 rfl (by kernel_rfl) gam_ok ac_i_isSlot_ok mo (by kernel_rfl) (Nat.le_of_ble_eq_true rfl) (fun post hp => ?_)
  simp only [Try.f114]
  cbv
  refine acF.go (X := Int × Int × Int) (_, _, _) trivial rfl rfl ?_
  cbv
  refine FinAx.own ?_
  cbv
  have e : slotB k (ln l) = inB k 0 (isub .i64 (Int.ofNat (ln l)) 1) := by
    have hl : l.length ≤ 1048576 := hx
    have e2 : isub .i64 (l.length : Int) 1 = l.length - 1 := isub_eq (by omega) (by omega)
    rw [slotB_eq, inB_eq, ln_int, e2, decide_eq_decide, ln_eq]
    omega
  simp only [res_i_isSlot, e] at hp
  exact hp

/-! spec.l9Place -/
def pre_s_l9Place (x : List DNode × Int) : Prop := sm x.1
noncomputable def as_s_l9Place (x : List DNode × Int) : List A := [Am.nodes false x.1, I x.2]
noncomputable def res_s_l9Place (x : List DNode × Int) : A := Bo (placeB x.2 (ln x.1))
noncomputable def ac_s_l9Place (f : FuncId) (args : List A) (d : Nat) (s : St) (K : A → St → Prop) : Prop := acOf [] f args d s K
theorem ac_s_l9Place_ok : ACok Try.prog ac_s_l9Place := fun F args d s K h => acOf_nil F args d s K h
theorem ok_s_l9Place (x : List DNode × Int) (hx : pre_s_l9Place x) : Fnk Try.prog 166 (as_s_l9Place x) (fun r => r = res_s_l9Place x) := by
  obtain ⟨l, k⟩ := x
  refine Fnk.of_axF (AC := ac_s_l9Place) (Γ := gam) (fn := Try.f166) Try.func166 rfl (by kernel_rfl) gam_ok ac_s_l9Place_ok mo (by kernel_rfl) (Nat.le_of_ble_eq_true rfl) (fun post hp => ?_)
  simp only [Try.f166]
  cbv
  refine bcase_intro (fun h => ?_) (fun h => ?_) <;> simp only [ige_eq] at h <;> simp at h
  · cbv
    refine FinAx.own ?_
    cbv
    have e : placeB k (ln l) = ile k (Int.ofNat (ln l)) := by
      have e1 : (Int.ofNat (ln l)) = (l.length : Int) := by simp only [ln_eq]; rfl
      rw [placeB_eq, e1]; simp only [ile_eq, ln_eq]; simp [h]
    simp only [res_s_l9Place, e] at hp
    exact hp
  · cbv
    refine FinAx.own ?_
    cbv
    have e : placeB k (ln l) = false := by rw [placeB_eq, decide_eq_false_iff_not]; omega
    simp only [res_s_l9Place, e] at hp
    exact hp

/-! impl.CeilDiv -/
def pre_i_CeilDiv (x : Int × Int) : Prop := True
noncomputable def as_i_CeilDiv (x : Int × Int) : List A := [I x.1, I x.2]
noncomputable def res_i_CeilDiv (x : Int × Int) : A := I (ceilZ x.1 x.2)
noncomputable def ac_i_CeilDiv (f : FuncId) (args : List A) (d : Nat) (s : St) (K : A → St → Prop) : Prop := acOf [(77, acF pre_i_within as_i_within res_i_within)] f args d s K
theorem ac_i_CeilDiv_ok : ACok Try.prog ac_i_CeilDiv := fun F args d s K h => (acF_cons ok_i_within acOf_nil) F args d s K h
theorem ok_i_CeilDiv (x : Int × Int) (hx : pre_i_CeilDiv x) : Fnk Try.prog 62 (as_i_CeilDiv x) (fun r => r = res_i_CeilDiv x) := by
  obtain ⟨a, b⟩ := x
  refine Fnk.of_axF (AC := ac_i_CeilDiv) (Γ := gam) (fn := Try.f62) Try.func62 rfl (by kernel_rfl) gam_ok ac_i_CeilDiv_ok mo (by kernel_rfl) (Nat.le_of_ble_eq_true rfl) (fun post hp => ?_)
  simp only [Try.f62]
  cbv
  have no : ¬ ((0 ≤ a ∧ a ≤ 1000000000) ∧ 1 ≤ b ∧ b ≤ 1000000000) → post (I 0) := by
    intro h
    have e : ceilZ a b = 0 := by rw [ceilZ_eq, if_neg h]
    simp only [res_i_CeilDiv, e] at hp
    exact hp
  refine acF.go (X := Int × Int × Int) (_, _, _) trivial rfl rfl ?_
  cbv
  refine bcase_intro (fun h => ?_) (fun h => ?_)
  · cbv
    refine FinAx.own ?_
    cbv
    replace h := nt h
    simp only [inB_eq] at h
    exact no (by simp at h; omega)
  · cbv
    replace h := nf h
    simp only [inB_eq] at h
    refine acF.go (X := Int × Int × Int) (_, _, _) trivial rfl rfl ?_
    cbv
    refine bcase_intro (fun h2 => ?_) (fun h2 => ?_)
    · cbv
      refine FinAx.own ?_
      cbv
      replace h2 := nt h2
      simp only [inB_eq] at h2
      exact no (by simp at h2; omega)
    · cbv
      replace h2 := nf h2
      simp only [inB_eq] at h2
      simp at h h2
      have e1 : iadd .i64 a b = a + b := iadd_eq (by omega) (by omega)
      have e2 : isub .i64 (a + b) 1 = a + b - 1 := isub_eq (by omega) (by omega)
      have e3 := tdiv_le (a := a + b - 1) (b := b) (by omega) (by omega)
      have e4 : iquo .i64 (a + b - 1) b = (a + b - 1).tdiv b := iquo_eq (by omega) (by omega)
      refine ⟨(nz_eq _).2 (by omega), ?_⟩
      refine FinAx.own ?_
      cbv
      have e : ceilZ a b = iquo .i64 (isub .i64 (iadd .i64 a b) 1) b := by simp only [ceilZ_eq, e1, e2, e4]; rw [if_pos ⟨h, h2⟩]
      simp only [res_i_CeilDiv, e] at hp
      exact hp

/-! spec.CeilDiv -/
def pre_s_CeilDiv (x : Int × Int) : Prop := True
noncomputable def as_s_CeilDiv (x : Int × Int) : List A := [I x.1, I x.2]
noncomputable def res_s_CeilDiv (x : Int × Int) : A := I (ceilZ x.1 x.2)
noncomputable def ac_s_CeilDiv (f : FuncId) (args : List A) (d : Nat) (s : St) (K : A → St → Prop) : Prop := acOf [(73, acF pre_s_l1In as_s_l1In res_s_l1In)] f args d s K
theorem ac_s_CeilDiv_ok : ACok Try.prog ac_s_CeilDiv := fun F args d s K h => (acF_cons ok_s_l1In acOf_nil) F args d s K h
theorem ok_s_CeilDiv (x : Int × Int) (hx : pre_s_CeilDiv x) : Fnk Try.prog 55 (as_s_CeilDiv x) (fun r => r = res_s_CeilDiv x) := by
  obtain ⟨a, b⟩ := x
  refine Fnk.of_axF (AC := ac_s_CeilDiv) (Γ := gam) (fn := Try.f55) Try.func55 rfl (by kernel_rfl) gam_ok ac_s_CeilDiv_ok mo (by kernel_rfl) (Nat.le_of_ble_eq_true rfl) (fun post hp => ?_)
  simp only [Try.f55]
  cbv
  have no : ¬ ((0 ≤ a ∧ a ≤ 1000000000) ∧ 1 ≤ b ∧ b ≤ 1000000000) → post (I 0) := by
    intro h
    have e : ceilZ a b = 0 := by rw [ceilZ_eq, if_neg h]
    simp only [res_s_CeilDiv, e] at hp
    exact hp
  refine acF.go (X := Int × Int × Int) (_, _, _) trivial rfl rfl ?_
  cbv
  refine bcase_intro (fun h => ?_) (fun h => ?_)
  · cbv
    refine FinAx.own ?_
    cbv
    replace h := nt h
    simp only [inB_eq] at h
    exact no (by simp at h; omega)
  · cbv
    replace h := nf h
    simp only [inB_eq] at h
    refine acF.go (X := Int × Int × Int) (_, _, _) trivial rfl rfl ?_
    cbv
    refine bcase_intro (fun h2 => ?_) (fun h2 => ?_)
    · cbv
      refine FinAx.own ?_
      cbv
      replace h2 := nt h2
      simp only [inB_eq] at h2
      exact no (by simp at h2; omega)
    · cbv
      replace h2 := nf h2
      simp only [inB_eq] at h2
      simp at h h2
      have e1 : iadd .i64 a b = a + b := iadd_eq (by omega) (by omega)
      have e2 : isub .i64 (a + b) 1 = a + b - 1 := isub_eq (by omega) (by omega)
      have e3 := tdiv_le (a := a + b - 1) (b := b) (by omega) (by omega)
      have e4 : iquo .i64 (a + b - 1) b = (a + b - 1).tdiv b := iquo_eq (by omega) (by omega)
      refine ⟨(nz_eq _).2 (by omega), ?_⟩
      refine FinAx.own ?_
      cbv
      have e : ceilZ a b = iquo .i64 (isub .i64 (iadd .i64 a b) 1) b := by simp only [ceilZ_eq, e1, e2, e4]; rw [if_pos ⟨h, h2⟩]
      simp only [res_s_CeilDiv, e] at hp
      exact hp

/-! impl.SlicesOf -/
def pre_i_SlicesOf (x : DConf × Int) : Prop := True
noncomputable def as_i_SlicesOf (x : DConf × Int) : List A := [.agg (DConf.cells false x.1), I x.2]
noncomputable def res_i_SlicesOf (x : DConf × Int) : A := I (ceilZ x.2 (DConf.slice x.1))
noncomputable def ac_i_SlicesOf (f : FuncId) (args : List A) (d : Nat) (s : St) (K : A → St → Prop) : Prop := acOf [(62, acF pre_i_CeilDiv as_i_CeilDiv res_i_CeilDiv)] f args d s K
theorem ac_i_SlicesOf_ok : ACok Try.prog ac_i_SlicesOf := fun F args d s K h => (acF_cons ok_i_CeilDiv acOf_nil) F args d s K h
theorem ok_i_SlicesOf (x : DConf × Int) (hx : pre_i_SlicesOf x) : Fnk Try.prog 200 (as_i_SlicesOf x) (fun r => r = res_i_SlicesOf x) := by
  refine Fnk.of_axF (AC := ac_i_SlicesOf) (Γ := gam) (fn := Try.f200) Try.func200 rfl (by kernel_rfl) gam_ok ac_i_SlicesOf_ok mo (by kernel_rfl) (Nat.le_of_ble_eq_true rfl) (fun post hp => ?_)
  simp only [Try.f200]
  cbv
  refine acF.go (X := Int × Int) (_, _) trivial rfl rfl ?_
  cbv
  refine FinAx.own ?_
  cbv
  exact hp

/-! spec.SlicesOf -/
def pre_s_SlicesOf (x : DConf × Int) : Prop := True
noncomputable def as_s_SlicesOf (x : DConf × Int) : List A := [.agg (DConf.cells false x.1), I x.2]
noncomputable def res_s_SlicesOf (x : DConf × Int) : A := I (ceilZ x.2 (DConf.slice x.1))
noncomputable def ac_s_SlicesOf (f : FuncId) (args : List A) (d : Nat) (s : St) (K : A → St → Prop) : Prop := acOf [(55, acF pre_s_CeilDiv as_s_CeilDiv res_s_CeilDiv)] f args d s K
theorem ac_s_SlicesOf_ok : ACok Try.prog ac_s_SlicesOf := fun F args d s K h => (acF_cons ok_s_CeilDiv acOf_nil) F args d s K h
theorem ok_s_SlicesOf (x : DConf × Int) (hx : pre_s_SlicesOf x) : Fnk Try.prog 197 (as_s_SlicesOf x) (fun r => r = res_s_SlicesOf x) := by
  refine Fnk.of_axF (AC := ac_s_SlicesOf) (Γ := gam) (fn := Try.f197) Try.func197 rfl (by kernel_rfl) gam_ok ac_s_SlicesOf_ok mo (by kernel_rfl) (Nat.le_of_ble_eq_true rfl) (fun post hp => ?_)
  simp only [Try.f197]
  cbv
  refine acF.go (X := Int × Int) (_, _) trivial rfl rfl ?_
  cbv
  refine FinAx.own ?_
  cbv
  exact hp

end Go.Am
end
