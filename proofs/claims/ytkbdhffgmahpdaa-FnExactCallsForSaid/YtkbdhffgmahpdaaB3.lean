/- PRINTED by walks.py: the laws' deep copies. -/
import Derived.Test.YtkbdhffgmahpdaaB1
import Derived.Test.YtkbdhffgmahpdaaA8
import Derived.Test.YtkbdhffgmahpdaaB0
section
set_option linter.all false
namespace Go.Am
open Go.Proofs
set_option maxRecDepth 100000

def pre_toIntS (x : List Int) : Prop := sm x
noncomputable def as_toIntS (x : List Int) : List A := [Am.ints false x]
noncomputable def res_toIntS (x : List Int) : A := Am.ints true x

def ac_toIntS (f : FuncId) (args : List A) (d : Nat) (s : St) (K : A → St → Prop) : Prop := acOf [] f args d s K
theorem ac_toIntS_ok : ACok Try.prog ac_toIntS := fun F args d s K h => acOf_nil F args d s K h

theorem ok_toIntS (x : List Int) (hx : pre_toIntS x) : Fnk Try.prog 61 (as_toIntS x) (fun r => r = res_toIntS x) := by
  have hl := hx
  refine Fnk.of_axF (AC := ac_toIntS) (Γ := gam) (fn := Try.f61) Try.func61 rfl (by kernel_rfl) gam_ok ac_toIntS_ok mo (by kernel_rfl) (Nat.le_of_ble_eq_true rfl) (fun post hp => ?_)
  simp only [Try.f61]
  cbv
  refine ⟨mk_sm hl (by decide), ?_⟩
  obtain ⟨r0, hr0⟩ : ∃ r0, r0 = List.replicate x.length (default : Int) := ⟨_, rfl⟩
  refine LoopAx.of (X := Nat × List Int) (fun x' => mkS [(0, Am.ints false x), (3, .sl 10 0 (ln x'.2)), (4, I x'.1)] [(10, ⟨1, ln x'.2, fun k => [I (at' x'.2 k)]⟩)])
    (fun x' => x.length - x'.1) (fun x' => x'.1 ≤ x.length ∧ x'.2.length = x.length ∧ ∀ k, k < x'.1 → x'.2[k]? = x[k]?) (0, r0) ?_ ?_ ?_
  · exact ⟨Nat.zero_le _, by simp [hr0], fun k hk => by omega⟩
  · have e1 : ln r0 = ln x := by simp [ln_eq, hr0]
    refine Le.lay [(10, 512)] rfl ?_ (fun _ => rfl)
    cbv
    refine ⟨e1.symm, rfl, ⟨by rw [e1]; exact leNN_self _, fun k hk => ?_⟩, trivial⟩
    subst hr0
    simp only [at_replicate]
    exact Wks.same rfl
  · rintro ⟨i, r⟩ ⟨h1, h2, h3⟩
    simp only at h1 h2 h3
    cbv
    refine bcase_intro (fun h => ?_) (fun h => ?_) <;> simp only [ilt_eq, ln_eq] at h <;> simp at h
    · have hir : i < r.length := by omega
      cbv
      simp only [nc] at *
      refine ⟨inR_nat h, ?_⟩
      refine ⟨inR_nat hir, ltN_nat hir, ?_⟩
      have e3 : iadd .i64 (Int.ofNat i) 1 = ((i + 1 : Nat) : Int) := idx_next (Nat.lt_of_lt_of_le h hl)
      obtain ⟨r', hr'⟩ : ∃ r', r' = r.set i (at' x i) := ⟨_, rfl⟩
      have e4 : ln r' = ln r := by simp [ln_eq, hr']
      refine Back.of (i + 1, r') (by simp; omega) ⟨by simp; omega, by rw [hr']; simp; omega, fun k hk => ?_⟩ (Le.lay [(10, 10)] rfl ?_ (fun _ => rfl))
      · rw [hr']; exact set_prefix h1 h h2 h3 k hk
      · cbv
        refine ⟨e4.symm, e3, ⟨by rw [e4]; exact leNN_self _, fun k hk => ?_⟩, trivial⟩
        have hk' : k < ln r := lt_of_ln e4 hk
        have e5 := at_set (l := r) (i := i) hir (at' x i) k
        subst hr'
        simp only [o_upd hk', e5]
        split <;> exact Wks.same rfl
    · cbv
      refine FinAx.own ?_
      cbv
      try simp only [nc] at *
      have e : r = x := all_same h1 h h2 h3
      subst e
      exact ⟨⟨leNN_self _, Clo.of (fun _ _ => rfl), trivial⟩, hp⟩

def pre_toByteS (x : List Int) : Prop := sm x
noncomputable def as_toByteS (x : List Int) : List A := [Am.bytes false x]
noncomputable def res_toByteS (x : List Int) : A := Am.bytes true x

def ac_toByteS (f : FuncId) (args : List A) (d : Nat) (s : St) (K : A → St → Prop) : Prop := acOf [] f args d s K
theorem ac_toByteS_ok : ACok Try.prog ac_toByteS := fun F args d s K h => acOf_nil F args d s K h

theorem ok_toByteS (x : List Int) (hx : pre_toByteS x) : Fnk Try.prog 30 (as_toByteS x) (fun r => r = res_toByteS x) := by
  have hl := hx
  refine Fnk.of_axF (AC := ac_toByteS) (Γ := gam) (fn := Try.f30) Try.func30 rfl (by kernel_rfl) gam_ok ac_toByteS_ok mo (by kernel_rfl) (Nat.le_of_ble_eq_true rfl) (fun post hp => ?_)
  simp only [Try.f30]
  cbv
  refine ⟨mk_sm hl (by decide), ?_⟩
  obtain ⟨r0, hr0⟩ : ∃ r0, r0 = List.replicate x.length (default : Int) := ⟨_, rfl⟩
  refine LoopAx.of (X := Nat × List Int) (fun x' => mkS [(0, Am.bytes false x), (3, .sl 10 0 (ln x'.2)), (4, I x'.1)] [(10, ⟨1, ln x'.2, fun k => [U (at' x'.2 k)]⟩)])
    (fun x' => x.length - x'.1) (fun x' => x'.1 ≤ x.length ∧ x'.2.length = x.length ∧ ∀ k, k < x'.1 → x'.2[k]? = x[k]?) (0, r0) ?_ ?_ ?_
  · exact ⟨Nat.zero_le _, by simp [hr0], fun k hk => by omega⟩
  · have e1 : ln r0 = ln x := by simp [ln_eq, hr0]
    refine Le.lay [(10, 512)] rfl ?_ (fun _ => rfl)
    cbv
    refine ⟨e1.symm, rfl, ⟨by rw [e1]; exact leNN_self _, fun k hk => ?_⟩, trivial⟩
    subst hr0
    simp only [at_replicate]
    exact Wks.same rfl
  · rintro ⟨i, r⟩ ⟨h1, h2, h3⟩
    simp only at h1 h2 h3
    cbv
    refine bcase_intro (fun h => ?_) (fun h => ?_) <;> simp only [ilt_eq, ln_eq] at h <;> simp at h
    · have hir : i < r.length := by omega
      cbv
      simp only [nc] at *
      refine ⟨inR_nat h, ?_⟩
      refine ⟨inR_nat hir, ltN_nat hir, ?_⟩
      have e3 : iadd .i64 (Int.ofNat i) 1 = ((i + 1 : Nat) : Int) := idx_next (Nat.lt_of_lt_of_le h hl)
      obtain ⟨r', hr'⟩ : ∃ r', r' = r.set i (at' x i) := ⟨_, rfl⟩
      have e4 : ln r' = ln r := by simp [ln_eq, hr']
      refine Back.of (i + 1, r') (by simp; omega) ⟨by simp; omega, by rw [hr']; simp; omega, fun k hk => ?_⟩ (Le.lay [(10, 10)] rfl ?_ (fun _ => rfl))
      · rw [hr']; exact set_prefix h1 h h2 h3 k hk
      · cbv
        refine ⟨e4.symm, e3, ⟨by rw [e4]; exact leNN_self _, fun k hk => ?_⟩, trivial⟩
        have hk' : k < ln r := lt_of_ln e4 hk
        have e5 := at_set (l := r) (i := i) hir (at' x i) k
        subst hr'
        simp only [o_upd hk', e5]
        split <;> exact Wks.same rfl
    · cbv
      refine FinAx.own ?_
      cbv
      try simp only [nc] at *
      have e : r = x := all_same h1 h h2 h3
      subst e
      exact ⟨⟨leNN_self _, Clo.of (fun _ _ => rfl), trivial⟩, hp⟩

def pre_toConf (x : DConf) : Prop := True
noncomputable def as_toConf (x : DConf) : List A := [.agg (DConf.cells false x)]
noncomputable def res_toConf (x : DConf) : A := .agg (DConf.cells true x)

def ac_toConf (f : FuncId) (args : List A) (d : Nat) (s : St) (K : A → St → Prop) : Prop := acOf [] f args d s K
theorem ac_toConf_ok : ACok Try.prog ac_toConf := fun F args d s K h => acOf_nil F args d s K h

theorem ok_toConf (x : DConf) (hx : pre_toConf x) : Fnk Try.prog 57 (as_toConf x) (fun r => r = res_toConf x) := by
  refine Fnk.of_axF (AC := ac_toConf) (Γ := gam) (fn := Try.f57) Try.func57 rfl (by kernel_rfl) gam_ok ac_toConf_ok mo (by kernel_rfl) (Nat.le_of_ble_eq_true rfl) (fun post hp => ?_)
  simp only [Try.f57]
  cbv
  refine FinAx.own ?_
  cbv
  and_intros <;> first | exact hp | exact trivial | exact leNN_self _ | exact Clo.of (fun _ _ => rfl)

def pre_toPool (x : DPool) : Prop := smDPool x
noncomputable def as_toPool (x : DPool) : List A := [.agg (DPool.cells false x)]
noncomputable def res_toPool (x : DPool) : A := .agg (DPool.cells true x)

def ac_toPool (f : FuncId) (args : List A) (d : Nat) (s : St) (K : A → St → Prop) : Prop := acOf [(30, acF pre_toByteS as_toByteS res_toByteS), (61, acF pre_toIntS as_toIntS res_toIntS)] f args d s K
theorem ac_toPool_ok : ACok Try.prog ac_toPool := fun F args d s K h => (acF_cons ok_toByteS (acF_cons ok_toIntS acOf_nil)) F args d s K h

theorem ok_toPool (x : DPool) (hx : pre_toPool x) : Fnk Try.prog 58 (as_toPool x) (fun r => r = res_toPool x) := by
  obtain ⟨h_mem, h_st, h_own⟩ := hx
  refine Fnk.of_axF (AC := ac_toPool) (Γ := gam) (fn := Try.f58) Try.func58 rfl (by kernel_rfl) gam_ok ac_toPool_ok mo (by kernel_rfl) (Nat.le_of_ble_eq_true rfl) (fun post hp => ?_)
  simp only [Try.f58]
  cbv
  refine acF.go (X := (List Int)) _ h_mem rfl rfl ?_
  cbv
  refine acF.go (X := (List Int)) _ h_st rfl rfl ?_
  cbv
  refine acF.go (X := (List Int)) _ h_own rfl rfl ?_
  cbv
  refine FinAx.own ?_
  cbv
  and_intros <;> first | exact hp | exact trivial | exact leNN_self _ | exact Clo.of (fun _ _ => rfl)

def pre_toThing (x : DThing) : Prop := True
noncomputable def as_toThing (x : DThing) : List A := [.agg (DThing.cells false x)]
noncomputable def res_toThing (x : DThing) : A := .agg (DThing.cells true x)

def ac_toThing (f : FuncId) (args : List A) (d : Nat) (s : St) (K : A → St → Prop) : Prop := acOf [] f args d s K
theorem ac_toThing_ok : ACok Try.prog ac_toThing := fun F args d s K h => acOf_nil F args d s K h

theorem ok_toThing (x : DThing) (hx : pre_toThing x) : Fnk Try.prog 199 (as_toThing x) (fun r => r = res_toThing x) := by
  refine Fnk.of_axF (AC := ac_toThing) (Γ := gam) (fn := Try.f199) Try.func199 rfl (by kernel_rfl) gam_ok ac_toThing_ok mo (by kernel_rfl) (Nat.le_of_ble_eq_true rfl) (fun post hp => ?_)
  simp only [Try.f199]
  cbv
  refine FinAx.own ?_
  cbv
  and_intros <;> first | exact hp | exact trivial | exact leNN_self _ | exact Clo.of (fun _ _ => rfl)

def pre_toThingS (x : List DThing) : Prop := sm x
noncomputable def as_toThingS (x : List DThing) : List A := [Am.things false x]
noncomputable def res_toThingS (x : List DThing) : A := Am.things true x

def ac_toThingS (f : FuncId) (args : List A) (d : Nat) (s : St) (K : A → St → Prop) : Prop := acOf [(199, acF pre_toThing as_toThing res_toThing)] f args d s K
theorem ac_toThingS_ok : ACok Try.prog ac_toThingS := fun F args d s K h => (acF_cons ok_toThing acOf_nil) F args d s K h

theorem ok_toThingS (x : List DThing) (hx : pre_toThingS x) : Fnk Try.prog 181 (as_toThingS x) (fun r => r = res_toThingS x) := by
  have hl := hx
  refine Fnk.of_axF (AC := ac_toThingS) (Γ := gam) (fn := Try.f181) Try.func181 rfl (by kernel_rfl) gam_ok ac_toThingS_ok mo (by kernel_rfl) (Nat.le_of_ble_eq_true rfl) (fun post hp => ?_)
  simp only [Try.f181]
  cbv
  refine ⟨mk_sm hl (by decide), ?_⟩
  obtain ⟨r0, hr0⟩ : ∃ r0, r0 = List.replicate x.length (default : DThing) := ⟨_, rfl⟩
  refine LoopAx.of (X := Nat × List DThing) (fun x' => mkS [(0, Am.things false x), (3, .sl 10 0 (ln x'.2)), (4, I x'.1)] [(10, ⟨3, ln x'.2, fun k => DThing.cells true (at' x'.2 k)⟩)])
    (fun x' => x.length - x'.1) (fun x' => x'.1 ≤ x.length ∧ x'.2.length = x.length ∧ ∀ k, k < x'.1 → x'.2[k]? = x[k]?) (0, r0) ?_ ?_ ?_
  · exact ⟨Nat.zero_le _, by simp [hr0], fun k hk => by omega⟩
  · have e1 : ln r0 = ln x := by simp [ln_eq, hr0]
    refine Le.lay [(10, 512)] rfl ?_ (fun _ => rfl)
    cbv
    refine ⟨e1.symm, rfl, ⟨by rw [e1]; exact leNN_self _, fun k hk => ?_⟩, trivial⟩
    subst hr0
    simp only [at_replicate]
    exact wk0_Thing
  · rintro ⟨i, r⟩ ⟨h1, h2, h3⟩
    simp only at h1 h2 h3
    cbv
    refine bcase_intro (fun h => ?_) (fun h => ?_) <;> simp only [ilt_eq, ln_eq] at h <;> simp at h
    · have hir : i < r.length := by omega
      cbv
      simp only [nc] at *
      refine ⟨inR_nat h, ?_⟩
      refine acF.go (X := DThing) (at' x i) trivial rfl rfl ?_
      cbv
      refine ⟨inR_nat hir, ltN_nat hir, ?_⟩
      have e3 : iadd .i64 (Int.ofNat i) 1 = ((i + 1 : Nat) : Int) := idx_next (Nat.lt_of_lt_of_le h hl)
      obtain ⟨r', hr'⟩ : ∃ r', r' = r.set i (at' x i) := ⟨_, rfl⟩
      have e4 : ln r' = ln r := by simp [ln_eq, hr']
      refine Back.of (i + 1, r') (by simp; omega) ⟨by simp; omega, by rw [hr']; simp; omega, fun k hk => ?_⟩ (Le.lay [(10, 10)] rfl ?_ (fun _ => rfl))
      · rw [hr']; exact set_prefix h1 h h2 h3 k hk
      · cbv
        refine ⟨e4.symm, e3, ⟨by rw [e4]; exact leNN_self _, fun k hk => ?_⟩, trivial⟩
        have hk' : k < ln r := lt_of_ln e4 hk
        have e5 := at_set (l := r) (i := i) hir (at' x i) k
        subst hr'
        simp only [o_upd hk', e5]
        split <;> exact Wks.same rfl
    · cbv
      refine FinAx.own ?_
      cbv
      try simp only [nc] at *
      have e : r = x := all_same h1 h h2 h3
      subst e
      exact ⟨⟨leNN_self _, Clo.of (fun _ _ => rfl), trivial⟩, hp⟩

def pre_toNode (x : DNode) : Prop := smDNode x
noncomputable def as_toNode (x : DNode) : List A := [.agg (DNode.cells false x)]
noncomputable def res_toNode (x : DNode) : A := .agg (DNode.cells true x)

def ac_toNode (f : FuncId) (args : List A) (d : Nat) (s : St) (K : A → St → Prop) : Prop := acOf [(61, acF pre_toIntS as_toIntS res_toIntS), (181, acF pre_toThingS as_toThingS res_toThingS)] f args d s K
theorem ac_toNode_ok : ACok Try.prog ac_toNode := fun F args d s K h => (acF_cons ok_toIntS (acF_cons ok_toThingS acOf_nil)) F args d s K h

theorem ok_toNode (x : DNode) (hx : pre_toNode x) : Fnk Try.prog 138 (as_toNode x) (fun r => r = res_toNode x) := by
  obtain ⟨h_chunks, h_things, h_tags⟩ := hx
  refine Fnk.of_axF (AC := ac_toNode) (Γ := gam) (fn := Try.f138) Try.func138 rfl (by kernel_rfl) gam_ok ac_toNode_ok mo (by kernel_rfl) (Nat.le_of_ble_eq_true rfl) (fun post hp => ?_)
  simp only [Try.f138]
  cbv
  refine acF.go (X := (List Int)) _ h_chunks rfl rfl ?_
  cbv
  refine acF.go (X := (List DThing)) _ h_things rfl rfl ?_
  cbv
  refine acF.go (X := (List Int)) _ h_tags rfl rfl ?_
  cbv
  refine FinAx.own ?_
  cbv
  and_intros <;> first | exact hp | exact trivial | exact leNN_self _ | exact Clo.of (fun _ _ => rfl)

def pre_toNodeS (x : List DNode) : Prop := sm x ∧ ∀ i, i < x.length → smDNode (at' x i)
noncomputable def as_toNodeS (x : List DNode) : List A := [Am.nodes false x]
noncomputable def res_toNodeS (x : List DNode) : A := Am.nodes true x

def ac_toNodeS (f : FuncId) (args : List A) (d : Nat) (s : St) (K : A → St → Prop) : Prop := acOf [(138, acF pre_toNode as_toNode res_toNode)] f args d s K
theorem ac_toNodeS_ok : ACok Try.prog ac_toNodeS := fun F args d s K h => (acF_cons ok_toNode acOf_nil) F args d s K h

theorem ok_toNodeS (x : List DNode) (hx : pre_toNodeS x) : Fnk Try.prog 59 (as_toNodeS x) (fun r => r = res_toNodeS x) := by
  obtain ⟨hl, he⟩ := hx
  refine Fnk.of_axF (AC := ac_toNodeS) (Γ := gam) (fn := Try.f59) Try.func59 rfl (by kernel_rfl) gam_ok ac_toNodeS_ok mo (by kernel_rfl) (Nat.le_of_ble_eq_true rfl) (fun post hp => ?_)
  simp only [Try.f59]
  cbv
  refine ⟨mk_sm hl (by decide), ?_⟩
  obtain ⟨r0, hr0⟩ : ∃ r0, r0 = List.replicate x.length (default : DNode) := ⟨_, rfl⟩
  refine LoopAx.of (X := Nat × List DNode) (fun x' => mkS [(0, Am.nodes false x), (3, .sl 10 0 (ln x'.2)), (4, I x'.1)] [(10, ⟨13, ln x'.2, fun k => DNode.cells true (at' x'.2 k)⟩)])
    (fun x' => x.length - x'.1) (fun x' => x'.1 ≤ x.length ∧ x'.2.length = x.length ∧ ∀ k, k < x'.1 → x'.2[k]? = x[k]?) (0, r0) ?_ ?_ ?_
  · exact ⟨Nat.zero_le _, by simp [hr0], fun k hk => by omega⟩
  · have e1 : ln r0 = ln x := by simp [ln_eq, hr0]
    refine Le.lay [(10, 512)] rfl ?_ (fun _ => rfl)
    cbv
    refine ⟨e1.symm, rfl, ⟨by rw [e1]; exact leNN_self _, fun k hk => ?_⟩, trivial⟩
    subst hr0
    simp only [at_replicate]
    exact wk0_Node
  · rintro ⟨i, r⟩ ⟨h1, h2, h3⟩
    simp only at h1 h2 h3
    cbv
    refine bcase_intro (fun h => ?_) (fun h => ?_) <;> simp only [ilt_eq, ln_eq] at h <;> simp at h
    · have hir : i < r.length := by omega
      cbv
      simp only [nc] at *
      refine ⟨inR_nat h, ?_⟩
      refine acF.go (X := DNode) (at' x i) (he i h) rfl rfl ?_
      cbv
      refine ⟨inR_nat hir, ltN_nat hir, ?_⟩
      refine Back.clz 10 i 8 ?_
      cbv
      simp only [upd_same]
      cbv
      refine ⟨ltN_nat hir, leNN_self _, Clo.of (fun _ _ => rfl), ?_⟩
      refine Back.clz 10 i 11 ?_
      cbv
      simp only [upd_same]
      cbv
      refine ⟨ltN_nat hir, leNN_self _, Clo.of (fun _ _ => rfl), ?_⟩
      refine Back.clz 10 i 12 ?_
      cbv
      simp only [upd_same]
      cbv
      refine ⟨ltN_nat hir, leNN_self _, Clo.of (fun _ _ => rfl), ?_⟩
      have e3 : iadd .i64 (Int.ofNat i) 1 = ((i + 1 : Nat) : Int) := idx_next (Nat.lt_of_lt_of_le h hl)
      obtain ⟨r', hr'⟩ : ∃ r', r' = r.set i (at' x i) := ⟨_, rfl⟩
      have e4 : ln r' = ln r := by simp [ln_eq, hr']
      refine Back.of (i + 1, r') (by simp; omega) ⟨by simp; omega, by rw [hr']; simp; omega, fun k hk => ?_⟩ (Le.lay [(10, 10)] rfl ?_ (fun _ => rfl))
      · rw [hr']; exact set_prefix h1 h h2 h3 k hk
      · cbv
        refine ⟨e4.symm, e3, ⟨by rw [e4]; exact leNN_self _, fun k hk => ?_⟩, trivial⟩
        have hk' : k < ln r := lt_of_ln e4 hk
        have e5 := at_set (l := r) (i := i) hir (at' x i) k
        subst hr'
        simp only [o_upd hk', e5]
        split <;> exact Wks.same rfl
    · cbv
      refine FinAx.own ?_
      cbv
      try simp only [nc] at *
      have e : r = x := all_same h1 h h2 h3
      subst e
      exact ⟨⟨leNN_self _, Clo.of (fun _ _ => rfl), trivial⟩, hp⟩

def pre_toWaste (x : DWaste) : Prop := smDWaste x
noncomputable def as_toWaste (x : DWaste) : List A := [.agg (DWaste.cells false x)]
noncomputable def res_toWaste (x : DWaste) : A := .agg (DWaste.cells true x)

def ac_toWaste (f : FuncId) (args : List A) (d : Nat) (s : St) (K : A → St → Prop) : Prop := acOf [(61, acF pre_toIntS as_toIntS res_toIntS)] f args d s K
theorem ac_toWaste_ok : ACok Try.prog ac_toWaste := fun F args d s K h => (acF_cons ok_toIntS acOf_nil) F args d s K h

theorem ok_toWaste (x : DWaste) (hx : pre_toWaste x) : Fnk Try.prog 139 (as_toWaste x) (fun r => r = res_toWaste x) := by
  obtain ⟨h_tags, h_chunks⟩ := hx
  refine Fnk.of_axF (AC := ac_toWaste) (Γ := gam) (fn := Try.f139) Try.func139 rfl (by kernel_rfl) gam_ok ac_toWaste_ok mo (by kernel_rfl) (Nat.le_of_ble_eq_true rfl) (fun post hp => ?_)
  simp only [Try.f139]
  cbv
  refine acF.go (X := (List Int)) _ h_tags rfl rfl ?_
  cbv
  refine acF.go (X := (List Int)) _ h_chunks rfl rfl ?_
  cbv
  refine FinAx.own ?_
  cbv
  and_intros <;> first | exact hp | exact trivial | exact leNN_self _ | exact Clo.of (fun _ _ => rfl)

def pre_toWasteS (x : List DWaste) : Prop := sm x ∧ ∀ i, i < x.length → smDWaste (at' x i)
noncomputable def as_toWasteS (x : List DWaste) : List A := [Am.wastes false x]
noncomputable def res_toWasteS (x : List DWaste) : A := Am.wastes true x

def ac_toWasteS (f : FuncId) (args : List A) (d : Nat) (s : St) (K : A → St → Prop) : Prop := acOf [(139, acF pre_toWaste as_toWaste res_toWaste)] f args d s K
theorem ac_toWasteS_ok : ACok Try.prog ac_toWasteS := fun F args d s K h => (acF_cons ok_toWaste acOf_nil) F args d s K h

theorem ok_toWasteS (x : List DWaste) (hx : pre_toWasteS x) : Fnk Try.prog 60 (as_toWasteS x) (fun r => r = res_toWasteS x) := by
  obtain ⟨hl, he⟩ := hx
  refine Fnk.of_axF (AC := ac_toWasteS) (Γ := gam) (fn := Try.f60) Try.func60 rfl (by kernel_rfl) gam_ok ac_toWasteS_ok mo (by kernel_rfl) (Nat.le_of_ble_eq_true rfl) (fun post hp => ?_)
  simp only [Try.f60]
  cbv
  refine ⟨mk_sm hl (by decide), ?_⟩
  obtain ⟨r0, hr0⟩ : ∃ r0, r0 = List.replicate x.length (default : DWaste) := ⟨_, rfl⟩
  refine LoopAx.of (X := Nat × List DWaste) (fun x' => mkS [(0, Am.wastes false x), (3, .sl 10 0 (ln x'.2)), (4, I x'.1)] [(10, ⟨5, ln x'.2, fun k => DWaste.cells true (at' x'.2 k)⟩)])
    (fun x' => x.length - x'.1) (fun x' => x'.1 ≤ x.length ∧ x'.2.length = x.length ∧ ∀ k, k < x'.1 → x'.2[k]? = x[k]?) (0, r0) ?_ ?_ ?_
  · exact ⟨Nat.zero_le _, by simp [hr0], fun k hk => by omega⟩
  · have e1 : ln r0 = ln x := by simp [ln_eq, hr0]
    refine Le.lay [(10, 512)] rfl ?_ (fun _ => rfl)
    cbv
    refine ⟨e1.symm, rfl, ⟨by rw [e1]; exact leNN_self _, fun k hk => ?_⟩, trivial⟩
    subst hr0
    simp only [at_replicate]
    exact wk0_Waste
  · rintro ⟨i, r⟩ ⟨h1, h2, h3⟩
    simp only at h1 h2 h3
    cbv
    refine bcase_intro (fun h => ?_) (fun h => ?_) <;> simp only [ilt_eq, ln_eq] at h <;> simp at h
    · have hir : i < r.length := by omega
      cbv
      simp only [nc] at *
      refine ⟨inR_nat h, ?_⟩
      refine acF.go (X := DWaste) (at' x i) (he i h) rfl rfl ?_
      cbv
      refine ⟨inR_nat hir, ltN_nat hir, ?_⟩
      refine Back.clz 10 i 2 ?_
      cbv
      simp only [upd_same]
      cbv
      refine ⟨ltN_nat hir, leNN_self _, Clo.of (fun _ _ => rfl), ?_⟩
      refine Back.clz 10 i 3 ?_
      cbv
      simp only [upd_same]
      cbv
      refine ⟨ltN_nat hir, leNN_self _, Clo.of (fun _ _ => rfl), ?_⟩
      have e3 : iadd .i64 (Int.ofNat i) 1 = ((i + 1 : Nat) : Int) := idx_next (Nat.lt_of_lt_of_le h hl)
      obtain ⟨r', hr'⟩ : ∃ r', r' = r.set i (at' x i) := ⟨_, rfl⟩
      have e4 : ln r' = ln r := by simp [ln_eq, hr']
      refine Back.of (i + 1, r') (by simp; omega) ⟨by simp; omega, by rw [hr']; simp; omega, fun k hk => ?_⟩ (Le.lay [(10, 10)] rfl ?_ (fun _ => rfl))
      · rw [hr']; exact set_prefix h1 h h2 h3 k hk
      · cbv
        refine ⟨e4.symm, e3, ⟨by rw [e4]; exact leNN_self _, fun k hk => ?_⟩, trivial⟩
        have hk' : k < ln r := lt_of_ln e4 hk
        have e5 := at_set (l := r) (i := i) hir (at' x i) k
        subst hr'
        simp only [o_upd hk', e5]
        split <;> exact Wks.same rfl
    · cbv
      refine FinAx.own ?_
      cbv
      try simp only [nc] at *
      have e : r = x := all_same h1 h h2 h3
      subst e
      exact ⟨⟨leNN_self _, Clo.of (fun _ _ => rfl), trivial⟩, hp⟩

def pre_toWorld (x : DWorld) : Prop := smDWorld x
noncomputable def as_toWorld (x : DWorld) : List A := [.agg (DWorld.cells false x)]
noncomputable def res_toWorld (x : DWorld) : A := .agg (DWorld.cells true x)

def ac_toWorld (f : FuncId) (args : List A) (d : Nat) (s : St) (K : A → St → Prop) : Prop := acOf [(57, acF pre_toConf as_toConf res_toConf), (58, acF pre_toPool as_toPool res_toPool), (59, acF pre_toNodeS as_toNodeS res_toNodeS), (60, acF pre_toWasteS as_toWasteS res_toWasteS), (61, acF pre_toIntS as_toIntS res_toIntS)] f args d s K
theorem ac_toWorld_ok : ACok Try.prog ac_toWorld := fun F args d s K h => (acF_cons ok_toConf (acF_cons ok_toPool (acF_cons ok_toNodeS (acF_cons ok_toWasteS (acF_cons ok_toIntS acOf_nil))))) F args d s K h

theorem ok_toWorld (x : DWorld) (hx : pre_toWorld x) : Fnk Try.prog 15 (as_toWorld x) (fun r => r = res_toWorld x) := by
  obtain ⟨h_p, h_l, h_q, h_log⟩ := hx
  refine Fnk.of_axF (AC := ac_toWorld) (Γ := gam) (fn := Try.f15) Try.func15 rfl (by kernel_rfl) gam_ok ac_toWorld_ok mo (by kernel_rfl) (Nat.le_of_ble_eq_true rfl) (fun post hp => ?_)
  simp only [Try.f15]
  cbv
  refine acF.go (X := DConf) _ trivial rfl rfl ?_
  cbv
  refine acF.go (X := DPool) _ h_p rfl rfl ?_
  cbv
  refine acF.go (X := (List DNode)) _ h_l rfl rfl ?_
  cbv
  refine acF.go (X := (List DWaste)) _ h_q rfl rfl ?_
  cbv
  refine acF.go (X := (List Int)) _ h_log rfl rfl ?_
  cbv
  refine FinAx.own ?_
  cbv
  and_intros <;> first | exact hp | exact trivial | exact leNN_self _ | exact Clo.of (fun _ _ => rfl)

end Go.Am
end
