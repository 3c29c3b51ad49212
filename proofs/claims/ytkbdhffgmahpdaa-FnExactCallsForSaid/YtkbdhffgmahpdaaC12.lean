/- PRINTED by w12.py: children, membership. -/
import Derived.Test.YtkbdhffgmahpdaaC11
section
set_option linter.all false
namespace Go.Am
open Go.Proofs
set_option maxRecDepth 100000

def kidsPre (l : List DNode) (k : Int) : Prop := sm l ∧ rg k ∧ ∀ i, i < l.length → rg (DNode.next (at' l i))
theorem at_rg {l : List DNode} (h : ∀ i, i < l.length → rg (DNode.next (at' l i))) {k : Int} (hk : 1 ≤ k ∧ k ≤ l.length) : rg (DNode.next (at' l (k - 1).toNat)) := h _ (by omega)
/-- A list of ints in an object. -/
theorem snoc_ok {σ al} {r r' : List Int} {x : Int} (hr : r' = r ++ [x]) {g h : Nat → List A} (hg : ∀ j, g j = [I (at' r j)]) (hh : h 0 = [I x]) {j : Nat} (hj : j < ln r') :
    Wks σ al (cat (ln r) g h j) [I (at' r' j)] := by
  subst hr
  rw [at_snoc r x j hj]
  unfold cat
  have hj2 : j < ln r + 1 := by rw [ln_snoc, o_nadd] at hj; exact hj
  by_cases e : j < ln r
  · rw [if_pos e, if_pos e, hg]
    exact Wks.same rfl
  · rw [if_neg e, if_neg e]
    have : j - ln r = 0 := by omega
    rw [this, hh]
    exact Wks.same rfl

/-! spec.KidsOf -/
def pre_s_KidsOf (x : List DNode × Int) : Prop := kidsPre x.1 x.2
noncomputable def as_s_KidsOf (x : List DNode × Int) : List A := [Am.nodes false x.1, I x.2]
noncomputable def res_s_KidsOf (x : List DNode × Int) : A := Am.ints true (kidsL x.1 x.2)
noncomputable def ac_s_KidsOf (f : FuncId) (args : List A) (d : Nat) (s : St) (K : A → St → Prop) : Prop := acOf [(166, acF pre_s_l9Place as_s_l9Place res_s_l9Place)] f args d s K
theorem ac_s_KidsOf_ok : ACok Try.prog ac_s_KidsOf := fun F args d s K h => (acF_cons ok_s_l9Place acOf_nil) F args d s K h
theorem ok_s_KidsOf (x : List DNode × Int) (hx : pre_s_KidsOf x) : Fnk Try.prog 112 (as_s_KidsOf x) (fun r => r = res_s_KidsOf x) := by
  obtain ⟨l, k0⟩ := x
  obtain ⟨hl, hk0, hn⟩ := hx
  simp only at hl hk0 hn
  have hlen : l.length ≤ 1048576 := hl
  refine Fnk.of_axF (AC := ac_s_KidsOf) (Γ := gam) (fn := Try.f112) Try.func112 rfl (by kernel_rfl) gam_ok ac_s_KidsOf_ok mo (by kernel_rfl) (Nat.le_of_ble_eq_true rfl) (fun post hp => ?_)
  simp only [Try.f112]
  cbv
  refine LoopAx.of (X := List Int × Int) (fun y => mkS [(0, Am.nodes false l), (5, .sl 10 0 (ln y.1)), (1, I y.2)] [(10, ⟨1, ln y.1, fun i => [I (at' y.1 i)]⟩)])
    (fun y => l.length - y.1.length) (fun y => y.1.length ≤ l.length ∧ rg (y.2) ∧ y.1 ++ kidsF l (l.length - y.1.length) (y.2) = kidsF l l.length k0) ([], k0) ?_ ?_ ?_
  · exact ⟨Nat.zero_le _, hk0, by simp⟩
  · have e0 : ln ([] : List Int) = 0 := ln_nil
    obtain ⟨nl, hnl⟩ : ∃ nl : List Int, nl = [] := ⟨_, rfl⟩
    rw [← hnl] at e0 ⊢
    refine Le.lay [(10, 448)] rfl ?_ (fun _ => rfl)
    cbv
    and_intros <;> first | exact e0.symm | rfl | trivial | exact (leNN_eq _ _).2 (Nat.le_of_eq e0) | (intro k hk; have hk : k < ln nl := hk; simp only [e0] at hk; omega)
  · rintro ⟨r, k⟩ ⟨h1, h2, h3⟩
    simp only at h1 h2 h3
    have hend : r.length = l.length ∨ ¬ (1 ≤ k ∧ k ≤ l.length) → r = kidsL l k0 := by
      intro h
      rw [kidsL_eq, ← h3]
      have : kidsF l (l.length - r.length) k = [] := by
        rcases h with h | h
        · rw [h, Nat.sub_self]; rfl
        · cases l.length - r.length with
          | zero => rfl
          | succ m => unfold kidsF; rw [if_neg h]
      rw [this, List.append_nil]
    have fin : r = kidsL l k0 → post (.slc true 1 (ln r) (fun i => [I (at' r i)])) := by
      rintro rfl
      exact hp
    have hslot : placeB k (ln l) = true ↔ (1 ≤ k ∧ k ≤ l.length) := by rw [placeB_eq, decide_eq_true_eq, ln_eq]
    have hkeep : 1 ≤ k ∧ k ≤ l.length → r ++ [k - 1] ++ kidsF l (l.length - (r.length + 1)) (DNode.next (at' l (k - 1).toNat)) = kidsF l l.length k0 ∨ r.length = l.length := by
      intro hk
      by_cases hrl : r.length = l.length
      · exact .inr hrl
      · refine .inl ?_
        rw [← h3, List.append_assoc]
        congr 1
        rw [show l.length - r.length = (l.length - (r.length + 1)) + 1 by omega]
        rw [show kidsF l (l.length - (r.length + 1) + 1) k = if 1 ≤ k ∧ k ≤ l.length then (k - 1) :: kidsF l (l.length - (r.length + 1)) (DNode.next (at' l (k - 1).toNat)) else [] from rfl, if_pos hk]
        rfl
    cbv
    refine acF.go (X := List DNode × Int) (l, k) hl rfl rfl ?_
    cbv
    refine bcase_intro (fun h => ?_) (fun h => ?_)
    · have hk : 1 ≤ k ∧ k ≤ l.length := hslot.1 h
      have hkeep := hkeep hk
      have eki : isub .i64 k 1 = k - 1 := isub_eq (by omega) (by omega)
      have e1 : nat (isub .i64 k 1) = (k - 1).toNat := by rw [o_nat, eki]
      have hin : inR (isub .i64 k 1) (ln l) := by rw [inR_eq, ln_eq, eki]; omega
      obtain ⟨q, hq⟩ : ∃ q, q = (k - 1).toNat := ⟨_, rfl⟩
      rw [← hq] at e1 hkeep
      have hrgn : rg (DNode.next (at' l q)) := by rw [hq]; exact at_rg hn hk
      obtain ⟨r', hr'⟩ : ∃ r', r' = r ++ [k - 1] := ⟨_, rfl⟩
      have e4 : ln r' = nadd (ln r) 1 := by rw [hr', ln_snoc]
      have e5 : r'.length = r.length + 1 := by rw [hr']; simp
      have hfit : fits (nadd (ln r) 1) 8 := fits_sm (by rw [o_nadd, ln_eq]; omega) (by decide)
      have hwk : ∀ (σ : Nat → Nat) (al : Nat → Bool) (g h : Nat → List A), (∀ j, g j = [I (at' r j)]) → h 0 = [I (isub .i64 k 1)] → ∀ j, j < ln r' → Wks σ al (cat (ln r) g h j) [I (at' r' j)] :=
        fun σ al g h hg hh j hj => snoc_ok hr' hg (by rw [hh, eki]) hj
      cbv
      refine bcase_intro (fun h4 => ?_) (fun h4 => ?_) <;> simp only [ilt_eq, ln_int] at h4 <;> simp at h4
      · have hnl : r.length ≠ l.length := by omega
        have hkeep2 := hkeep.resolve_right hnl
        cbv
        refine ⟨leNN_self _, (eqN_eq _ _).2 rfl, hfit, hin, ?_⟩
        refine Back.of (r', DNode.next (at' l q)) (by simp only; omega) ⟨by simp only; omega, hrgn, ?_⟩ ?_
        · simp only
          rw [e5, hr']
          exact hkeep2
        · refine Le.lay [(10, 1408)] rfl ?_ (fun _ => rfl)
          cbv
          simp only [e1]
          and_intros <;> first | exact e4.symm | rfl | trivial | exact (leNN_eq _ _).2 (Nat.le_of_eq e4) | (intro j hj; exact hwk _ _ _ _ (fun _ => rfl) rfl j hj)
      · cbv
        refine FinAx.own ?_
        cbv
        exact ⟨⟨leNN_self _, Clo.of (fun _ _ => rfl), trivial⟩, fin (hend (.inl (by omega)))⟩
    · cbv
      refine FinAx.own ?_
      cbv
      exact ⟨⟨leNN_self _, Clo.of (fun _ _ => rfl), trivial⟩, fin (hend (.inr (fun hk => by have := hslot.2 hk; rw [h] at this; cases this)))⟩

/-! impl.KidsOf -/
def pre_i_KidsOf (x : List DNode × Int) : Prop := kidsPre x.1 x.2
noncomputable def as_i_KidsOf (x : List DNode × Int) : List A := [Am.nodes false x.1, I x.2]
noncomputable def res_i_KidsOf (x : List DNode × Int) : A := Am.ints true (kidsL x.1 x.2)
noncomputable def ac_i_KidsOf (f : FuncId) (args : List A) (d : Nat) (s : St) (K : A → St → Prop) : Prop := acOf [(114, acF pre_i_isSlot as_i_isSlot res_i_isSlot)] f args d s K
theorem ac_i_KidsOf_ok : ACok Try.prog ac_i_KidsOf := fun F args d s K h => (acF_cons ok_i_isSlot acOf_nil) F args d s K h
theorem ok_i_KidsOf (x : List DNode × Int) (hx : pre_i_KidsOf x) : Fnk Try.prog 117 (as_i_KidsOf x) (fun r => r = res_i_KidsOf x) := by
  obtain ⟨l, k0⟩ := x
  obtain ⟨hl, hk0, hn⟩ := hx
  simp only at hl hk0 hn
  have hlen : l.length ≤ 1048576 := hl
  refine Fnk.of_axF (AC := ac_i_KidsOf) (Γ := gam) (fn := Try.f117) Try.func117 rfl (by kernel_rfl) gam_ok ac_i_KidsOf_ok mo (by kernel_rfl) (Nat.le_of_ble_eq_true rfl) (fun post hp => ?_)
  simp only [Try.f117]
  cbv
  refine LoopAx.of (X := List Int × Int) (fun y => mkS [(0, Am.nodes false l), (5, .sl 10 0 (ln y.1)), (6, I (isub .i64 y.2 1))] [(10, ⟨1, ln y.1, fun i => [I (at' y.1 i)]⟩)])
    (fun y => l.length - y.1.length) (fun y => y.1.length ≤ l.length ∧ rg (y.2) ∧ y.1 ++ kidsF l (l.length - y.1.length) (y.2) = kidsF l l.length k0) ([], k0) ?_ ?_ ?_
  · exact ⟨Nat.zero_le _, hk0, by simp⟩
  · have e0 : ln ([] : List Int) = 0 := ln_nil
    obtain ⟨nl, hnl⟩ : ∃ nl : List Int, nl = [] := ⟨_, rfl⟩
    rw [← hnl] at e0 ⊢
    refine Le.lay [(10, 512)] rfl ?_ (fun _ => rfl)
    cbv
    and_intros <;> first | exact e0.symm | rfl | trivial | exact (leNN_eq _ _).2 (Nat.le_of_eq e0) | (intro k hk; have hk : k < ln nl := hk; simp only [e0] at hk; omega)
  · rintro ⟨r, k⟩ ⟨h1, h2, h3⟩
    simp only at h1 h2 h3
    have hend : r.length = l.length ∨ ¬ (1 ≤ k ∧ k ≤ l.length) → r = kidsL l k0 := by
      intro h
      rw [kidsL_eq, ← h3]
      have : kidsF l (l.length - r.length) k = [] := by
        rcases h with h | h
        · rw [h, Nat.sub_self]; rfl
        · cases l.length - r.length with
          | zero => rfl
          | succ m => unfold kidsF; rw [if_neg h]
      rw [this, List.append_nil]
    have fin : r = kidsL l k0 → post (.slc true 1 (ln r) (fun i => [I (at' r i)])) := by
      rintro rfl
      exact hp
    have hslot : slotB (isub .i64 k 1) (ln l) = true ↔ (1 ≤ k ∧ k ≤ l.length) := by
      rw [slotB_eq, decide_eq_true_eq, isub_w, ln_eq]
      unfold rg at h2
      obtain ⟨j, hj⟩ := w64_mod (k - 1)
      have := w64_rg (k - 1)
      unfold rg at this
      omega
    have hkeep : 1 ≤ k ∧ k ≤ l.length → r ++ [k - 1] ++ kidsF l (l.length - (r.length + 1)) (DNode.next (at' l (k - 1).toNat)) = kidsF l l.length k0 ∨ r.length = l.length := by
      intro hk
      by_cases hrl : r.length = l.length
      · exact .inr hrl
      · refine .inl ?_
        rw [← h3, List.append_assoc]
        congr 1
        rw [show l.length - r.length = (l.length - (r.length + 1)) + 1 by omega]
        rw [show kidsF l (l.length - (r.length + 1) + 1) k = if 1 ≤ k ∧ k ≤ l.length then (k - 1) :: kidsF l (l.length - (r.length + 1)) (DNode.next (at' l (k - 1).toNat)) else [] from rfl, if_pos hk]
        rfl
    cbv
    refine acF.go (X := List DNode × Int) (l, isub .i64 k 1) hl rfl rfl ?_
    cbv
    refine bcase_intro (fun h => ?_) (fun h => ?_)
    · have hk : 1 ≤ k ∧ k ≤ l.length := hslot.1 h
      have hkeep := hkeep hk
      have eki : isub .i64 k 1 = k - 1 := isub_eq (by omega) (by omega)
      have e1 : nat (isub .i64 k 1) = (k - 1).toNat := by rw [o_nat, eki]
      have hin : inR (isub .i64 k 1) (ln l) := by rw [inR_eq, ln_eq, eki]; omega
      obtain ⟨q, hq⟩ : ∃ q, q = (k - 1).toNat := ⟨_, rfl⟩
      rw [← hq] at e1 hkeep
      have hrgn : rg (DNode.next (at' l q)) := by rw [hq]; exact at_rg hn hk
      obtain ⟨r', hr'⟩ : ∃ r', r' = r ++ [k - 1] := ⟨_, rfl⟩
      have e4 : ln r' = nadd (ln r) 1 := by rw [hr', ln_snoc]
      have e5 : r'.length = r.length + 1 := by rw [hr']; simp
      have hfit : fits (nadd (ln r) 1) 8 := fits_sm (by rw [o_nadd, ln_eq]; omega) (by decide)
      have hwk : ∀ (σ : Nat → Nat) (al : Nat → Bool) (g h : Nat → List A), (∀ j, g j = [I (at' r j)]) → h 0 = [I (isub .i64 k 1)] → ∀ j, j < ln r' → Wks σ al (cat (ln r) g h j) [I (at' r' j)] :=
        fun σ al g h hg hh j hj => snoc_ok hr' hg (by rw [hh, eki]) hj
      cbv
      refine bcase_intro (fun h4 => ?_) (fun h4 => ?_) <;> simp only [ilt_eq, ln_int] at h4 <;> simp at h4
      · have hnl : r.length ≠ l.length := by omega
        have hkeep2 := hkeep.resolve_right hnl
        cbv
        refine ⟨leNN_self _, (eqN_eq _ _).2 rfl, hfit, hin, ?_⟩
        refine Back.of (r', DNode.next (at' l q)) (by simp only; omega) ⟨by simp only; omega, hrgn, ?_⟩ ?_
        · simp only
          rw [e5, hr']
          exact hkeep2
        · refine Le.lay [(10, 1920)] rfl ?_ (fun _ => rfl)
          cbv
          simp only [e1]
          and_intros <;> first | exact e4.symm | rfl | trivial | exact (leNN_eq _ _).2 (Nat.le_of_eq e4) | (intro j hj; exact hwk _ _ _ _ (fun _ => rfl) rfl j hj)
      · cbv
        refine FinAx.own ?_
        cbv
        exact ⟨⟨leNN_self _, Clo.of (fun _ _ => rfl), trivial⟩, fin (hend (.inl (by omega)))⟩
    · cbv
      refine FinAx.own ?_
      cbv
      exact ⟨⟨leNN_self _, Clo.of (fun _ _ => rfl), trivial⟩, fin (hend (.inr (fun hk => by have := hslot.2 hk; rw [h] at this; cases this)))⟩

/-! spec.l7Has -/
def pre_s_l7Has (x : List Int × Int) : Prop := sm x.1
noncomputable def as_s_l7Has (x : List Int × Int) : List A := [Am.ints false x.1, I x.2]
noncomputable def res_s_l7Has (x : List Int × Int) : A := Bo (hasB x.1 x.2)
noncomputable def ac_s_l7Has (f : FuncId) (args : List A) (d : Nat) (s : St) (K : A → St → Prop) : Prop := acOf [] f args d s K
theorem ac_s_l7Has_ok : ACok Try.prog ac_s_l7Has := fun F args d s K h => acOf_nil F args d s K h
theorem ok_s_l7Has (x : List Int × Int) (hx : pre_s_l7Has x) : Fnk Try.prog 207 (as_s_l7Has x) (fun r => r = res_s_l7Has x) := by
  obtain ⟨l, n⟩ := x
  have hl : l.length ≤ 1048576 := hx
  refine Fnk.of_axF (AC := ac_s_l7Has) (Γ := gam) (fn := Try.f207) Try.func207 rfl (by kernel_rfl) gam_ok ac_s_l7Has_ok mo (by kernel_rfl) (Nat.le_of_ble_eq_true rfl) (fun post hp => ?_)
  simp only [Try.f207]
  cbv
  refine LoopAx.of (X := Nat) (fun i => mkS [(0, Am.ints false l), (1, I n), (5, I i)] []) (fun i => l.length - i) (fun i => i ≤ l.length ∧ ∀ k, k < i → at' l k ≠ n) 0 ?_ ?_ ?_
  · exact ⟨Nat.zero_le _, fun k hk => by omega⟩
  · exact Le.lay [] rfl (by cbv; and_intros <;> first | rfl | trivial) (fun _ => rfl)
  · rintro i ⟨h1, h2⟩
    cbv
    refine bcase_intro (fun h => ?_) (fun h => ?_) <;> simp only [ilt_eq, ln_int] at h <;> simp at h
    · have hin : inR (Int.ofNat i) (ln l) := inR_nat h
      have e3 : iadd .i64 (Int.ofNat i) 1 = ((i + 1 : Nat) : Int) := idx_next (by omega)
      have ht : at' l i = n → post (Bo true) := by
        intro e
        have : hasB l n = true := by rw [hasB_eq, decide_eq_true_eq, ← e]; exact at_mem h
        simp only [res_s_l7Has, this] at hp
        exact hp
      cbv
      refine ⟨hin, ?_⟩
      refine bcase_intro (fun h4 => ?_) (fun h4 => ?_) <;> simp only [ieq_eq] at h4 <;> simp only [decide_eq_true_eq, decide_eq_false_iff_not] at h4
      · cbv
        refine FinAx.own ?_
        cbv
        exact ht h4
      · cbv
        refine Back.of (i + 1) (by omega) ⟨by omega, fun k hk => ?_⟩ (Le.lay [] rfl (by cbv; and_intros <;> first | exact e3 | rfl | trivial) (fun _ => rfl))
        by_cases e : k = i
        · subst e; exact h4
        · exact h2 k (by omega)
    · cbv
      refine FinAx.own ?_
      cbv
      have : hasB l n = false := by
        rw [hasB_eq, decide_eq_false_iff_not]
        intro hm
        obtain ⟨k, hk, e⟩ := List.mem_iff_getElem.1 hm
        refine h2 k (by omega) ?_
        simp only [at_eq]
        simp [hk, e]
      simp only [res_s_l7Has, this] at hp
      exact hp

theorem cells_waste (n : DNode) (slot : Int) : DWaste.cells true (wasteR n slot) = [I slot, I (DNode.first n), Am.ints true (DNode.tags n), Am.ints true (DNode.chunks n), I 0] := rfl

/-! impl.WasteOf -/
def pre_i_WasteOf (x : DNode × Int) : Prop := smDNode x.1
noncomputable def as_i_WasteOf (x : DNode × Int) : List A := [.agg (DNode.cells false x.1), I x.2]
noncomputable def res_i_WasteOf (x : DNode × Int) : A := .agg [I x.2, I (DNode.first x.1), Am.ints true (DNode.tags x.1), Am.ints true (DNode.chunks x.1), I 0]
noncomputable def ac_i_WasteOf (f : FuncId) (args : List A) (d : Nat) (s : St) (K : A → St → Prop) : Prop := acOf [(116, acF pre_cloneI as_cloneI res_cloneI)] f args d s K
theorem ac_i_WasteOf_ok : ACok Try.prog ac_i_WasteOf := fun F args d s K h => (acF_cons ok_cloneI acOf_nil) F args d s K h
theorem ok_i_WasteOf (x : DNode × Int) (hx : pre_i_WasteOf x) : Fnk Try.prog 209 (as_i_WasteOf x) (fun r => r = res_i_WasteOf x) := by
  obtain ⟨n, k⟩ := x
  obtain ⟨hc, hth, ht⟩ := hx
  refine Fnk.of_axF (AC := ac_i_WasteOf) (Γ := gam) (fn := Try.f209) Try.func209 rfl (by kernel_rfl) gam_ok ac_i_WasteOf_ok mo (by kernel_rfl) (Nat.le_of_ble_eq_true rfl) (fun post hp => ?_)
  simp only [Try.f209]
  cbv
  refine DrawAx.of (fun q => q == 192) _ ?_ (fun _ h => h)
  cbv
  refine acF.go (X := List Int) _ ht rfl rfl ?_
  cbv
  refine acF.go (X := List Int) _ hc rfl rfl ?_
  cbv
  refine FinAx.own ?_
  cbv
  and_intros <;> first | exact hp | exact trivial | exact leNN_self _ | exact Clo.of (fun _ _ => rfl)

/-! spec.WasteOf -/
def pre_s_WasteOf (x : DNode × Int) : Prop := smDNode x.1
noncomputable def as_s_WasteOf (x : DNode × Int) : List A := [.agg (DNode.cells false x.1), I x.2]
noncomputable def res_s_WasteOf (x : DNode × Int) : A := .agg [I x.2, I (DNode.first x.1), Am.ints true (DNode.tags x.1), Am.ints true (DNode.chunks x.1), I 0]
noncomputable def ac_s_WasteOf (f : FuncId) (args : List A) (d : Nat) (s : St) (K : A → St → Prop) : Prop := acOf [] f args d s K
theorem ac_s_WasteOf_ok : ACok Try.prog ac_s_WasteOf := fun F args d s K h => acOf_nil F args d s K h
theorem ok_s_WasteOf (x : DNode × Int) (hx : pre_s_WasteOf x) : Fnk Try.prog 208 (as_s_WasteOf x) (fun r => r = res_s_WasteOf x) := by
  obtain ⟨n, k⟩ := x
  obtain ⟨hc, hth, ht⟩ := hx
  have f1 : fits (ln (DNode.tags n)) 8 := fits_sm (by unfold sm at ht; simp only [ln_eq]; simp only at ht; omega) (by decide)
  have f2 : fits (ln (DNode.chunks n)) 8 := fits_sm (by unfold sm at hc; simp only [ln_eq]; simp only at hc; omega) (by decide)
  refine Fnk.of_axF (AC := ac_s_WasteOf) (Γ := gam) (fn := Try.f208) Try.func208 rfl (by kernel_rfl) gam_ok ac_s_WasteOf_ok mo (by kernel_rfl) (Nat.le_of_ble_eq_true rfl) (fun post hp => ?_)
  simp only [Try.f208]
  cbv
  refine DrawAx.of (fun q => q == 192) _ ?_ (fun _ h => h)
  cbv
  and_intros <;> first
    | exact (eqN_eq _ _).2 rfl
    | exact f1
    | exact f2
    | (refine FinAx.own ?_
       cbv
       simp only [cat_zero]
       and_intros <;> first | exact hp | exact trivial | exact leNN_self _ | exact Clo.of (fun _ _ => rfl))

end Go.Am
end
