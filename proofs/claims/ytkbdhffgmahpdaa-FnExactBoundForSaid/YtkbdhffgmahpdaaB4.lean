/- PRINTED by walks.py: the laws' comparisons. -/
import Derived.Test.YtkbdhffgmahpdaaB1
import Derived.Test.YtkbdhffgmahpdaaA8
import Derived.Test.YtkbdhffgmahpdaaB0
section
set_option linter.all false
namespace Go.Am
open Go.Proofs
set_option maxRecDepth 100000

def pre_eqIntS (x : List Int × List Int) : Prop := sm x.1
noncomputable def as_eqIntS (x : List Int × List Int) : List A := [Am.ints false x.1, Am.ints false x.2]
noncomputable def res_eqIntS (x : List Int × List Int) : A := Bo (eqb x.1 x.2)

def ac_eqIntS (f : FuncId) (args : List A) (d : Nat) (s : St) (K : A → St → Prop) : Prop := acOf [] f args d s K
theorem ac_eqIntS_ok : ACok Try.prog ac_eqIntS := fun F args d s K h => acOf_nil F args d s K h

theorem ok_eqIntS (x : List Int × List Int) (hx : pre_eqIntS x) : Fnk Try.prog 68 (as_eqIntS x) (fun r => r = res_eqIntS x) := by
  obtain ⟨l, r⟩ := x
  have hl := hx
  replace hl : sm l := hl
  refine Fnk.of_axF (AC := ac_eqIntS) (Γ := gam) (fn := Try.f68) Try.func68 rfl (by kernel_rfl) gam_ok ac_eqIntS_ok mo (by kernel_rfl) (Nat.le_of_ble_eq_true rfl) (fun post hp => ?_)
  simp only [Try.f68]
  cbv
  replace hp : post (Bo (eqb l r)) := hp
  refine bcase_intro (fun h => ?_) (fun h => ?_) <;> simp only [ine_eq, ln_eq] at h <;> simp only [decide_eq_true_eq, decide_eq_false_iff_not, ne_eq, Decidable.not_not] at h
  · cbv
    refine FinAx.own ?_
    cbv
    simp only [eqb_no (a := l) (b := r) (fun e => h (by rw [e]))] at hp
    exact hp
  · have hlr : l.length = r.length := by injection h
    cbv
    refine LoopAx.of (X := Nat) (fun i => mkS [(0, Am.ints false l), (1, Am.ints false r), (5, I i)] []) (fun i => l.length - i) (fun i => i ≤ l.length ∧ ∀ k, k < i → l[k]? = r[k]?) 0 ?_ ?_ ?_
    · exact ⟨Nat.zero_le _, fun k hk => by omega⟩
    · exact Le.lay [] rfl (by cbv; exact ⟨rfl, trivial⟩) (fun _ => rfl)
    · rintro i ⟨h1, h2⟩
      cbv
      refine bcase_intro (fun h => ?_) (fun h => ?_) <;> simp only [ilt_eq, ln_eq] at h <;> simp at h
      · cbv
        refine DrawAx.of (fun _ => false) _ ?_ (fun _ h => h)
        cbv
        refine ⟨inR_nat h, inR_nat (by omega), ?_⟩
        refine bcase_intro (fun h4 => ?_) (fun h4 => ?_)
        · cbv
          refine FinAx.own ?_
          cbv
          simp only [eqb_no (a := l) (b := r) (list_ne (at_ne h4))] at hp
          exact hp
        · cbv
          have e3 : iadd .i64 (Int.ofNat i) 1 = ((i + 1 : Nat) : Int) := idx_next (Nat.lt_of_lt_of_le h hl)
          refine Back.of (i + 1) (by first | omega | (simp; omega)) ⟨by first | omega | (simp; omega), fun k hk => ?_⟩ (Le.lay [] rfl (by cbv; exact ⟨e3, trivial⟩) (fun _ => rfl))
          exact step_same h (by omega) h2 (at_eqq h4) k hk
      · cbv
        refine FinAx.own ?_
        cbv
        simp only [eqb_yes (all_same (x := r) (r := l) (by omega) (by omega) hlr h2)] at hp
        exact hp

def pre_eqByteS (x : List Int × List Int) : Prop := sm x.1
noncomputable def as_eqByteS (x : List Int × List Int) : List A := [Am.bytes false x.1, Am.bytes false x.2]
noncomputable def res_eqByteS (x : List Int × List Int) : A := Bo (eqb x.1 x.2)

def ac_eqByteS (f : FuncId) (args : List A) (d : Nat) (s : St) (K : A → St → Prop) : Prop := acOf [] f args d s K
theorem ac_eqByteS_ok : ACok Try.prog ac_eqByteS := fun F args d s K h => acOf_nil F args d s K h

theorem ok_eqByteS (x : List Int × List Int) (hx : pre_eqByteS x) : Fnk Try.prog 32 (as_eqByteS x) (fun r => r = res_eqByteS x) := by
  obtain ⟨l, r⟩ := x
  have hl := hx
  replace hl : sm l := hl
  refine Fnk.of_axF (AC := ac_eqByteS) (Γ := gam) (fn := Try.f32) Try.func32 rfl (by kernel_rfl) gam_ok ac_eqByteS_ok mo (by kernel_rfl) (Nat.le_of_ble_eq_true rfl) (fun post hp => ?_)
  simp only [Try.f32]
  cbv
  replace hp : post (Bo (eqb l r)) := hp
  refine bcase_intro (fun h => ?_) (fun h => ?_) <;> simp only [ine_eq, ln_eq] at h <;> simp only [decide_eq_true_eq, decide_eq_false_iff_not, ne_eq, Decidable.not_not] at h
  · cbv
    refine FinAx.own ?_
    cbv
    simp only [eqb_no (a := l) (b := r) (fun e => h (by rw [e]))] at hp
    exact hp
  · have hlr : l.length = r.length := by injection h
    cbv
    refine LoopAx.of (X := Nat) (fun i => mkS [(0, Am.bytes false l), (1, Am.bytes false r), (5, I i)] []) (fun i => l.length - i) (fun i => i ≤ l.length ∧ ∀ k, k < i → l[k]? = r[k]?) 0 ?_ ?_ ?_
    · exact ⟨Nat.zero_le _, fun k hk => by omega⟩
    · exact Le.lay [] rfl (by cbv; exact ⟨rfl, trivial⟩) (fun _ => rfl)
    · rintro i ⟨h1, h2⟩
      cbv
      refine bcase_intro (fun h => ?_) (fun h => ?_) <;> simp only [ilt_eq, ln_eq] at h <;> simp at h
      · cbv
        refine DrawAx.of (fun _ => false) _ ?_ (fun _ h => h)
        cbv
        refine ⟨inR_nat h, inR_nat (by omega), ?_⟩
        refine bcase_intro (fun h4 => ?_) (fun h4 => ?_)
        · cbv
          refine FinAx.own ?_
          cbv
          simp only [eqb_no (a := l) (b := r) (list_ne (at_ne h4))] at hp
          exact hp
        · cbv
          have e3 : iadd .i64 (Int.ofNat i) 1 = ((i + 1 : Nat) : Int) := idx_next (Nat.lt_of_lt_of_le h hl)
          refine Back.of (i + 1) (by first | omega | (simp; omega)) ⟨by first | omega | (simp; omega), fun k hk => ?_⟩ (Le.lay [] rfl (by cbv; exact ⟨e3, trivial⟩) (fun _ => rfl))
          exact step_same h (by omega) h2 (at_eqq h4) k hk
      · cbv
        refine FinAx.own ?_
        cbv
        simp only [eqb_yes (all_same (x := r) (r := l) (by omega) (by omega) hlr h2)] at hp
        exact hp

def pre_eqConf (x : DConf × DConf) : Prop := True
noncomputable def as_eqConf (x : DConf × DConf) : List A := [.agg (DConf.cells false x.1), .agg (DConf.cells false x.2)]
noncomputable def res_eqConf (x : DConf × DConf) : A := Bo (eqb x.1 x.2)

def ac_eqConf (f : FuncId) (args : List A) (d : Nat) (s : St) (K : A → St → Prop) : Prop := acOf [] f args d s K
theorem ac_eqConf_ok : ACok Try.prog ac_eqConf := fun F args d s K h => acOf_nil F args d s K h

theorem ok_eqConf (x : DConf × DConf) (hx : pre_eqConf x) : Fnk Try.prog 64 (as_eqConf x) (fun r => r = res_eqConf x) := by
  obtain ⟨a, b⟩ := x
  refine Fnk.of_axF (AC := ac_eqConf) (Γ := gam) (fn := Try.f64) Try.func64 rfl (by kernel_rfl) gam_ok ac_eqConf_ok mo (by kernel_rfl) (Nat.le_of_ble_eq_true rfl) (fun post hp => ?_)
  simp only [Try.f64]
  cbv
  replace hp : post (Bo (eqb a b)) := hp
  refine bcase_intro (fun e_chunks => ?_) (fun e_chunks => ?_)
  · cbv
    refine FinAx.own ?_
    cbv
    simp only [eqb_no (a := a) (b := b) (fun e => int_ne e_chunks (by rw [e]))] at hp
    exact hp
  cbv
  refine bcase_intro (fun e_size => ?_) (fun e_size => ?_)
  · cbv
    refine FinAx.own ?_
    cbv
    simp only [eqb_no (a := a) (b := b) (fun e => int_ne e_size (by rw [e]))] at hp
    exact hp
  cbv
  refine bcase_intro (fun e_slots => ?_) (fun e_slots => ?_)
  · cbv
    refine FinAx.own ?_
    cbv
    simp only [eqb_no (a := a) (b := b) (fun e => int_ne e_slots (by rw [e]))] at hp
    exact hp
  cbv
  refine bcase_intro (fun e_tax => ?_) (fun e_tax => ?_)
  · cbv
    refine FinAx.own ?_
    cbv
    simp only [eqb_no (a := a) (b := b) (fun e => int_ne e_tax (by rw [e]))] at hp
    exact hp
  cbv
  refine bcase_intro (fun e_slice => ?_) (fun e_slice => ?_)
  · cbv
    refine FinAx.own ?_
    cbv
    simp only [eqb_no (a := a) (b := b) (fun e => int_ne e_slice (by rw [e]))] at hp
    exact hp
  cbv
  refine bcase_intro (fun e_gens => ?_) (fun e_gens => ?_)
  · cbv
    refine FinAx.own ?_
    cbv
    simp only [eqb_no (a := a) (b := b) (fun e => int_ne e_gens (by rw [e]))] at hp
    exact hp
  cbv
  refine FinAx.own ?_
  cbv
  simp only [eqb_yes (DConf.same (int_eqq e_chunks) (int_eqq e_size) (int_eqq e_slots) (int_eqq e_tax) (int_eqq e_slice) (int_eqq e_gens))] at hp
  exact hp

def pre_eqPool (x : DPool × DPool) : Prop := smDPool x.1
noncomputable def as_eqPool (x : DPool × DPool) : List A := [.agg (DPool.cells false x.1), .agg (DPool.cells false x.2)]
noncomputable def res_eqPool (x : DPool × DPool) : A := Bo (eqb x.1 x.2)

def ac_eqPool (f : FuncId) (args : List A) (d : Nat) (s : St) (K : A → St → Prop) : Prop := acOf [(32, acF pre_eqByteS as_eqByteS res_eqByteS), (68, acF pre_eqIntS as_eqIntS res_eqIntS)] f args d s K
theorem ac_eqPool_ok : ACok Try.prog ac_eqPool := fun F args d s K h => (acF_cons ok_eqByteS (acF_cons ok_eqIntS acOf_nil)) F args d s K h

theorem ok_eqPool (x : DPool × DPool) (hx : pre_eqPool x) : Fnk Try.prog 65 (as_eqPool x) (fun r => r = res_eqPool x) := by
  obtain ⟨a, b⟩ := x
  obtain ⟨h_mem, h_st, h_own⟩ := hx
  refine Fnk.of_axF (AC := ac_eqPool) (Γ := gam) (fn := Try.f65) Try.func65 rfl (by kernel_rfl) gam_ok ac_eqPool_ok mo (by kernel_rfl) (Nat.le_of_ble_eq_true rfl) (fun post hp => ?_)
  simp only [Try.f65]
  cbv
  replace hp : post (Bo (eqb a b)) := hp
  refine acF.go (X := (List Int) × (List Int)) (_, _) h_mem rfl rfl ?_
  cbv
  refine bcase_intro (fun e_mem => ?_) (fun e_mem => ?_)
  · cbv
    refine FinAx.own ?_
    cbv
    simp only [eqb_no (a := a) (b := b) (fun e => eqb_ne e_mem (by rw [e]))] at hp
    exact hp
  cbv
  refine acF.go (X := (List Int) × (List Int)) (_, _) h_st rfl rfl ?_
  cbv
  refine bcase_intro (fun e_st => ?_) (fun e_st => ?_)
  · cbv
    refine FinAx.own ?_
    cbv
    simp only [eqb_no (a := a) (b := b) (fun e => eqb_ne e_st (by rw [e]))] at hp
    exact hp
  cbv
  refine acF.go (X := (List Int) × (List Int)) (_, _) h_own rfl rfl ?_
  cbv
  refine bcase_intro (fun e_own => ?_) (fun e_own => ?_)
  · cbv
    refine FinAx.own ?_
    cbv
    simp only [eqb_no (a := a) (b := b) (fun e => eqb_ne e_own (by rw [e]))] at hp
    exact hp
  cbv
  refine FinAx.own ?_
  cbv
  simp only [eqb_yes (DPool.same (eqb_eqq e_mem) (eqb_eqq e_st) (eqb_eqq e_own))] at hp
  exact hp

def pre_eqThing (x : DThing × DThing) : Prop := True
noncomputable def as_eqThing (x : DThing × DThing) : List A := [.agg (DThing.cells false x.1), .agg (DThing.cells false x.2)]
noncomputable def res_eqThing (x : DThing × DThing) : A := Bo (eqb x.1 x.2)

def ac_eqThing (f : FuncId) (args : List A) (d : Nat) (s : St) (K : A → St → Prop) : Prop := acOf [] f args d s K
theorem ac_eqThing_ok : ACok Try.prog ac_eqThing := fun F args d s K h => acOf_nil F args d s K h

theorem ok_eqThing (x : DThing × DThing) (hx : pre_eqThing x) : Fnk Try.prog 202 (as_eqThing x) (fun r => r = res_eqThing x) := by
  obtain ⟨a, b⟩ := x
  refine Fnk.of_axF (AC := ac_eqThing) (Γ := gam) (fn := Try.f202) Try.func202 rfl (by kernel_rfl) gam_ok ac_eqThing_ok mo (by kernel_rfl) (Nat.le_of_ble_eq_true rfl) (fun post hp => ?_)
  simp only [Try.f202]
  cbv
  replace hp : post (Bo (eqb a b)) := hp
  refine bcase_intro (fun e_pos => ?_) (fun e_pos => ?_)
  · cbv
    refine FinAx.own ?_
    cbv
    simp only [eqb_no (a := a) (b := b) (fun e => int_ne e_pos (by rw [e]))] at hp
    exact hp
  cbv
  refine bcase_intro (fun e_len => ?_) (fun e_len => ?_)
  · cbv
    refine FinAx.own ?_
    cbv
    simp only [eqb_no (a := a) (b := b) (fun e => int_ne e_len (by rw [e]))] at hp
    exact hp
  cbv
  refine bcase_intro (fun e_run => ?_) (fun e_run => ?_)
  · cbv
    refine FinAx.own ?_
    cbv
    simp only [eqb_no (a := a) (b := b) (fun e => int_ne e_run (by rw [e]))] at hp
    exact hp
  cbv
  refine FinAx.own ?_
  cbv
  simp only [eqb_yes (DThing.same (int_eqq e_pos) (int_eqq e_len) (int_eqq e_run))] at hp
  exact hp

def pre_eqThingS (x : List DThing × List DThing) : Prop := sm x.1
noncomputable def as_eqThingS (x : List DThing × List DThing) : List A := [Am.things false x.1, Am.things false x.2]
noncomputable def res_eqThingS (x : List DThing × List DThing) : A := Bo (eqb x.1 x.2)

def ac_eqThingS (f : FuncId) (args : List A) (d : Nat) (s : St) (K : A → St → Prop) : Prop := acOf [(202, acF pre_eqThing as_eqThing res_eqThing)] f args d s K
theorem ac_eqThingS_ok : ACok Try.prog ac_eqThingS := fun F args d s K h => (acF_cons ok_eqThing acOf_nil) F args d s K h

theorem ok_eqThingS (x : List DThing × List DThing) (hx : pre_eqThingS x) : Fnk Try.prog 184 (as_eqThingS x) (fun r => r = res_eqThingS x) := by
  obtain ⟨l, r⟩ := x
  have hl := hx
  replace hl : sm l := hl
  refine Fnk.of_axF (AC := ac_eqThingS) (Γ := gam) (fn := Try.f184) Try.func184 rfl (by kernel_rfl) gam_ok ac_eqThingS_ok mo (by kernel_rfl) (Nat.le_of_ble_eq_true rfl) (fun post hp => ?_)
  simp only [Try.f184]
  cbv
  replace hp : post (Bo (eqb l r)) := hp
  refine bcase_intro (fun h => ?_) (fun h => ?_) <;> simp only [ine_eq, ln_eq] at h <;> simp only [decide_eq_true_eq, decide_eq_false_iff_not, ne_eq, Decidable.not_not] at h
  · cbv
    refine FinAx.own ?_
    cbv
    simp only [eqb_no (a := l) (b := r) (fun e => h (by rw [e]))] at hp
    exact hp
  · have hlr : l.length = r.length := by injection h
    cbv
    refine LoopAx.of (X := Nat) (fun i => mkS [(0, Am.things false l), (1, Am.things false r), (5, I i)] []) (fun i => l.length - i) (fun i => i ≤ l.length ∧ ∀ k, k < i → l[k]? = r[k]?) 0 ?_ ?_ ?_
    · exact ⟨Nat.zero_le _, fun k hk => by omega⟩
    · exact Le.lay [] rfl (by cbv; exact ⟨rfl, trivial⟩) (fun _ => rfl)
    · rintro i ⟨h1, h2⟩
      cbv
      refine bcase_intro (fun h => ?_) (fun h => ?_) <;> simp only [ilt_eq, ln_eq] at h <;> simp at h
      · cbv
        refine DrawAx.of (fun _ => false) _ ?_ (fun _ h => h)
        cbv
        refine ⟨inR_nat h, inR_nat (by omega), ?_⟩
        refine acF.go (X := DThing × DThing) (_, _) trivial rfl rfl ?_
        cbv
        refine bcase_intro (fun h4 => ?_) (fun h4 => ?_)
        · cbv
          refine FinAx.own ?_
          cbv
          simp only [eqb_no (a := l) (b := r) (list_ne (eqb_ne h4))] at hp
          exact hp
        · cbv
          have e3 : iadd .i64 (Int.ofNat i) 1 = ((i + 1 : Nat) : Int) := idx_next (Nat.lt_of_lt_of_le h hl)
          refine Back.of (i + 1) (by first | omega | (simp; omega)) ⟨by first | omega | (simp; omega), fun k hk => ?_⟩ (Le.lay [] rfl (by cbv; exact ⟨e3, trivial⟩) (fun _ => rfl))
          exact step_same h (by omega) h2 (eqb_eqq h4) k hk
      · cbv
        refine FinAx.own ?_
        cbv
        simp only [eqb_yes (all_same (x := r) (r := l) (by omega) (by omega) hlr h2)] at hp
        exact hp

def pre_eqNode (x : DNode × DNode) : Prop := smDNode x.1
noncomputable def as_eqNode (x : DNode × DNode) : List A := [.agg (DNode.cells false x.1), .agg (DNode.cells false x.2)]
noncomputable def res_eqNode (x : DNode × DNode) : A := Bo (eqb x.1 x.2)

def ac_eqNode (f : FuncId) (args : List A) (d : Nat) (s : St) (K : A → St → Prop) : Prop := acOf [(68, acF pre_eqIntS as_eqIntS res_eqIntS), (184, acF pre_eqThingS as_eqThingS res_eqThingS)] f args d s K
theorem ac_eqNode_ok : ACok Try.prog ac_eqNode := fun F args d s K h => (acF_cons ok_eqIntS (acF_cons ok_eqThingS acOf_nil)) F args d s K h

theorem ok_eqNode (x : DNode × DNode) (hx : pre_eqNode x) : Fnk Try.prog 141 (as_eqNode x) (fun r => r = res_eqNode x) := by
  obtain ⟨a, b⟩ := x
  obtain ⟨h_chunks, h_things, h_tags⟩ := hx
  refine Fnk.of_axF (AC := ac_eqNode) (Γ := gam) (fn := Try.f141) Try.func141 rfl (by kernel_rfl) gam_ok ac_eqNode_ok mo (by kernel_rfl) (Nat.le_of_ble_eq_true rfl) (fun post hp => ?_)
  simp only [Try.f141]
  cbv
  replace hp : post (Bo (eqb a b)) := hp
  refine bcase_intro (fun e_st => ?_) (fun e_st => ?_)
  · cbv
    refine FinAx.own ?_
    cbv
    simp only [eqb_no (a := a) (b := b) (fun e => int_ne e_st (by rw [e]))] at hp
    exact hp
  cbv
  refine bcase_intro (fun e_gen => ?_) (fun e_gen => ?_)
  · cbv
    refine FinAx.own ?_
    cbv
    simp only [eqb_no (a := a) (b := b) (fun e => int_ne e_gen (by rw [e]))] at hp
    exact hp
  cbv
  refine bcase_intro (fun e_ep => ?_) (fun e_ep => ?_)
  · cbv
    refine FinAx.own ?_
    cbv
    simp only [eqb_no (a := a) (b := b) (fun e => int_ne e_ep (by rw [e]))] at hp
    exact hp
  cbv
  refine bcase_intro (fun e_up => ?_) (fun e_up => ?_)
  · cbv
    refine FinAx.own ?_
    cbv
    simp only [eqb_no (a := a) (b := b) (fun e => int_ne e_up (by rw [e]))] at hp
    exact hp
  cbv
  refine bcase_intro (fun e_upEp => ?_) (fun e_upEp => ?_)
  · cbv
    refine FinAx.own ?_
    cbv
    simp only [eqb_no (a := a) (b := b) (fun e => int_ne e_upEp (by rw [e]))] at hp
    exact hp
  cbv
  refine bcase_intro (fun e_first => ?_) (fun e_first => ?_)
  · cbv
    refine FinAx.own ?_
    cbv
    simp only [eqb_no (a := a) (b := b) (fun e => int_ne e_first (by rw [e]))] at hp
    exact hp
  cbv
  refine bcase_intro (fun e_next => ?_) (fun e_next => ?_)
  · cbv
    refine FinAx.own ?_
    cbv
    simp only [eqb_no (a := a) (b := b) (fun e => int_ne e_next (by rw [e]))] at hp
    exact hp
  cbv
  refine bcase_intro (fun e_prev => ?_) (fun e_prev => ?_)
  · cbv
    refine FinAx.own ?_
    cbv
    simp only [eqb_no (a := a) (b := b) (fun e => int_ne e_prev (by rw [e]))] at hp
    exact hp
  cbv
  refine acF.go (X := (List Int) × (List Int)) (_, _) h_chunks rfl rfl ?_
  cbv
  refine bcase_intro (fun e_chunks => ?_) (fun e_chunks => ?_)
  · cbv
    refine FinAx.own ?_
    cbv
    simp only [eqb_no (a := a) (b := b) (fun e => eqb_ne e_chunks (by rw [e]))] at hp
    exact hp
  cbv
  refine bcase_intro (fun e_cur => ?_) (fun e_cur => ?_)
  · cbv
    refine FinAx.own ?_
    cbv
    simp only [eqb_no (a := a) (b := b) (fun e => int_ne e_cur (by rw [e]))] at hp
    exact hp
  cbv
  refine bcase_intro (fun e_bump => ?_) (fun e_bump => ?_)
  · cbv
    refine FinAx.own ?_
    cbv
    simp only [eqb_no (a := a) (b := b) (fun e => int_ne e_bump (by rw [e]))] at hp
    exact hp
  cbv
  refine acF.go (X := (List DThing) × (List DThing)) (_, _) h_things rfl rfl ?_
  cbv
  refine bcase_intro (fun e_things => ?_) (fun e_things => ?_)
  · cbv
    refine FinAx.own ?_
    cbv
    simp only [eqb_no (a := a) (b := b) (fun e => eqb_ne e_things (by rw [e]))] at hp
    exact hp
  cbv
  refine acF.go (X := (List Int) × (List Int)) (_, _) h_tags rfl rfl ?_
  cbv
  refine bcase_intro (fun e_tags => ?_) (fun e_tags => ?_)
  · cbv
    refine FinAx.own ?_
    cbv
    simp only [eqb_no (a := a) (b := b) (fun e => eqb_ne e_tags (by rw [e]))] at hp
    exact hp
  cbv
  refine FinAx.own ?_
  cbv
  simp only [eqb_yes (DNode.same (int_eqq e_st) (int_eqq e_gen) (int_eqq e_ep) (int_eqq e_up) (int_eqq e_upEp) (int_eqq e_first) (int_eqq e_next) (int_eqq e_prev) (eqb_eqq e_chunks) (int_eqq e_cur) (int_eqq e_bump) (eqb_eqq e_things) (eqb_eqq e_tags))] at hp
  exact hp

def pre_eqNodeS (x : List DNode × List DNode) : Prop := sm x.1 ∧ ∀ i, i < x.1.length → smDNode (at' x.1 i)
noncomputable def as_eqNodeS (x : List DNode × List DNode) : List A := [Am.nodes false x.1, Am.nodes false x.2]
noncomputable def res_eqNodeS (x : List DNode × List DNode) : A := Bo (eqb x.1 x.2)

def ac_eqNodeS (f : FuncId) (args : List A) (d : Nat) (s : St) (K : A → St → Prop) : Prop := acOf [(141, acF pre_eqNode as_eqNode res_eqNode)] f args d s K
theorem ac_eqNodeS_ok : ACok Try.prog ac_eqNodeS := fun F args d s K h => (acF_cons ok_eqNode acOf_nil) F args d s K h

theorem ok_eqNodeS (x : List DNode × List DNode) (hx : pre_eqNodeS x) : Fnk Try.prog 66 (as_eqNodeS x) (fun r => r = res_eqNodeS x) := by
  obtain ⟨l, r⟩ := x
  obtain ⟨hl, he⟩ := hx
  replace hl : sm l := hl
  replace he : ∀ i, i < l.length → smDNode (at' l i) := he
  refine Fnk.of_axF (AC := ac_eqNodeS) (Γ := gam) (fn := Try.f66) Try.func66 rfl (by kernel_rfl) gam_ok ac_eqNodeS_ok mo (by kernel_rfl) (Nat.le_of_ble_eq_true rfl) (fun post hp => ?_)
  simp only [Try.f66]
  cbv
  replace hp : post (Bo (eqb l r)) := hp
  refine bcase_intro (fun h => ?_) (fun h => ?_) <;> simp only [ine_eq, ln_eq] at h <;> simp only [decide_eq_true_eq, decide_eq_false_iff_not, ne_eq, Decidable.not_not] at h
  · cbv
    refine FinAx.own ?_
    cbv
    simp only [eqb_no (a := l) (b := r) (fun e => h (by rw [e]))] at hp
    exact hp
  · have hlr : l.length = r.length := by injection h
    cbv
    refine LoopAx.of (X := Nat) (fun i => mkS [(0, Am.nodes false l), (1, Am.nodes false r), (5, I i)] []) (fun i => l.length - i) (fun i => i ≤ l.length ∧ ∀ k, k < i → l[k]? = r[k]?) 0 ?_ ?_ ?_
    · exact ⟨Nat.zero_le _, fun k hk => by omega⟩
    · exact Le.lay [] rfl (by cbv; exact ⟨rfl, trivial⟩) (fun _ => rfl)
    · rintro i ⟨h1, h2⟩
      cbv
      refine bcase_intro (fun h => ?_) (fun h => ?_) <;> simp only [ilt_eq, ln_eq] at h <;> simp at h
      · cbv
        refine DrawAx.of (fun _ => false) _ ?_ (fun _ h => h)
        cbv
        refine ⟨inR_nat h, inR_nat (by omega), ?_⟩
        refine acF.go (X := DNode × DNode) (_, _) (he i h) rfl rfl ?_
        cbv
        refine bcase_intro (fun h4 => ?_) (fun h4 => ?_)
        · cbv
          refine FinAx.own ?_
          cbv
          simp only [eqb_no (a := l) (b := r) (list_ne (eqb_ne h4))] at hp
          exact hp
        · cbv
          have e3 : iadd .i64 (Int.ofNat i) 1 = ((i + 1 : Nat) : Int) := idx_next (Nat.lt_of_lt_of_le h hl)
          refine Back.of (i + 1) (by first | omega | (simp; omega)) ⟨by first | omega | (simp; omega), fun k hk => ?_⟩ (Le.lay [] rfl (by cbv; exact ⟨e3, trivial⟩) (fun _ => rfl))
          exact step_same h (by omega) h2 (eqb_eqq h4) k hk
      · cbv
        refine FinAx.own ?_
        cbv
        simp only [eqb_yes (all_same (x := r) (r := l) (by omega) (by omega) hlr h2)] at hp
        exact hp

def pre_eqWaste (x : DWaste × DWaste) : Prop := smDWaste x.1
noncomputable def as_eqWaste (x : DWaste × DWaste) : List A := [.agg (DWaste.cells false x.1), .agg (DWaste.cells false x.2)]
noncomputable def res_eqWaste (x : DWaste × DWaste) : A := Bo (eqb x.1 x.2)

def ac_eqWaste (f : FuncId) (args : List A) (d : Nat) (s : St) (K : A → St → Prop) : Prop := acOf [(68, acF pre_eqIntS as_eqIntS res_eqIntS)] f args d s K
theorem ac_eqWaste_ok : ACok Try.prog ac_eqWaste := fun F args d s K h => (acF_cons ok_eqIntS acOf_nil) F args d s K h

theorem ok_eqWaste (x : DWaste × DWaste) (hx : pre_eqWaste x) : Fnk Try.prog 142 (as_eqWaste x) (fun r => r = res_eqWaste x) := by
  obtain ⟨a, b⟩ := x
  obtain ⟨h_tags, h_chunks⟩ := hx
  refine Fnk.of_axF (AC := ac_eqWaste) (Γ := gam) (fn := Try.f142) Try.func142 rfl (by kernel_rfl) gam_ok ac_eqWaste_ok mo (by kernel_rfl) (Nat.le_of_ble_eq_true rfl) (fun post hp => ?_)
  simp only [Try.f142]
  cbv
  replace hp : post (Bo (eqb a b)) := hp
  refine bcase_intro (fun e_slot => ?_) (fun e_slot => ?_)
  · cbv
    refine FinAx.own ?_
    cbv
    simp only [eqb_no (a := a) (b := b) (fun e => int_ne e_slot (by rw [e]))] at hp
    exact hp
  cbv
  refine bcase_intro (fun e_first => ?_) (fun e_first => ?_)
  · cbv
    refine FinAx.own ?_
    cbv
    simp only [eqb_no (a := a) (b := b) (fun e => int_ne e_first (by rw [e]))] at hp
    exact hp
  cbv
  refine acF.go (X := (List Int) × (List Int)) (_, _) h_tags rfl rfl ?_
  cbv
  refine bcase_intro (fun e_tags => ?_) (fun e_tags => ?_)
  · cbv
    refine FinAx.own ?_
    cbv
    simp only [eqb_no (a := a) (b := b) (fun e => eqb_ne e_tags (by rw [e]))] at hp
    exact hp
  cbv
  refine acF.go (X := (List Int) × (List Int)) (_, _) h_chunks rfl rfl ?_
  cbv
  refine bcase_intro (fun e_chunks => ?_) (fun e_chunks => ?_)
  · cbv
    refine FinAx.own ?_
    cbv
    simp only [eqb_no (a := a) (b := b) (fun e => eqb_ne e_chunks (by rw [e]))] at hp
    exact hp
  cbv
  refine bcase_intro (fun e_done => ?_) (fun e_done => ?_)
  · cbv
    refine FinAx.own ?_
    cbv
    simp only [eqb_no (a := a) (b := b) (fun e => int_ne e_done (by rw [e]))] at hp
    exact hp
  cbv
  refine FinAx.own ?_
  cbv
  simp only [eqb_yes (DWaste.same (int_eqq e_slot) (int_eqq e_first) (eqb_eqq e_tags) (eqb_eqq e_chunks) (int_eqq e_done))] at hp
  exact hp

def pre_eqWasteS (x : List DWaste × List DWaste) : Prop := sm x.1 ∧ ∀ i, i < x.1.length → smDWaste (at' x.1 i)
noncomputable def as_eqWasteS (x : List DWaste × List DWaste) : List A := [Am.wastes false x.1, Am.wastes false x.2]
noncomputable def res_eqWasteS (x : List DWaste × List DWaste) : A := Bo (eqb x.1 x.2)

def ac_eqWasteS (f : FuncId) (args : List A) (d : Nat) (s : St) (K : A → St → Prop) : Prop := acOf [(142, acF pre_eqWaste as_eqWaste res_eqWaste)] f args d s K
theorem ac_eqWasteS_ok : ACok Try.prog ac_eqWasteS := fun F args d s K h => (acF_cons ok_eqWaste acOf_nil) F args d s K h

theorem ok_eqWasteS (x : List DWaste × List DWaste) (hx : pre_eqWasteS x) : Fnk Try.prog 67 (as_eqWasteS x) (fun r => r = res_eqWasteS x) := by
  obtain ⟨l, r⟩ := x
  obtain ⟨hl, he⟩ := hx
  replace hl : sm l := hl
  replace he : ∀ i, i < l.length → smDWaste (at' l i) := he
  refine Fnk.of_axF (AC := ac_eqWasteS) (Γ := gam) (fn := Try.f67) Try.func67 rfl (by kernel_rfl) gam_ok ac_eqWasteS_ok mo (by kernel_rfl) (Nat.le_of_ble_eq_true rfl) (fun post hp => ?_)
  simp only [Try.f67]
  cbv
  replace hp : post (Bo (eqb l r)) := hp
  refine bcase_intro (fun h => ?_) (fun h => ?_) <;> simp only [ine_eq, ln_eq] at h <;> simp only [decide_eq_true_eq, decide_eq_false_iff_not, ne_eq, Decidable.not_not] at h
  · cbv
    refine FinAx.own ?_
    cbv
    simp only [eqb_no (a := l) (b := r) (fun e => h (by rw [e]))] at hp
    exact hp
  · have hlr : l.length = r.length := by injection h
    cbv
    refine LoopAx.of (X := Nat) (fun i => mkS [(0, Am.wastes false l), (1, Am.wastes false r), (5, I i)] []) (fun i => l.length - i) (fun i => i ≤ l.length ∧ ∀ k, k < i → l[k]? = r[k]?) 0 ?_ ?_ ?_
    · exact ⟨Nat.zero_le _, fun k hk => by omega⟩
    · exact Le.lay [] rfl (by cbv; exact ⟨rfl, trivial⟩) (fun _ => rfl)
    · rintro i ⟨h1, h2⟩
      cbv
      refine bcase_intro (fun h => ?_) (fun h => ?_) <;> simp only [ilt_eq, ln_eq] at h <;> simp at h
      · cbv
        refine DrawAx.of (fun _ => false) _ ?_ (fun _ h => h)
        cbv
        refine ⟨inR_nat h, inR_nat (by omega), ?_⟩
        refine acF.go (X := DWaste × DWaste) (_, _) (he i h) rfl rfl ?_
        cbv
        refine bcase_intro (fun h4 => ?_) (fun h4 => ?_)
        · cbv
          refine FinAx.own ?_
          cbv
          simp only [eqb_no (a := l) (b := r) (list_ne (eqb_ne h4))] at hp
          exact hp
        · cbv
          have e3 : iadd .i64 (Int.ofNat i) 1 = ((i + 1 : Nat) : Int) := idx_next (Nat.lt_of_lt_of_le h hl)
          refine Back.of (i + 1) (by first | omega | (simp; omega)) ⟨by first | omega | (simp; omega), fun k hk => ?_⟩ (Le.lay [] rfl (by cbv; exact ⟨e3, trivial⟩) (fun _ => rfl))
          exact step_same h (by omega) h2 (eqb_eqq h4) k hk
      · cbv
        refine FinAx.own ?_
        cbv
        simp only [eqb_yes (all_same (x := r) (r := l) (by omega) (by omega) hlr h2)] at hp
        exact hp

def pre_eqWorld (x : DWorld × DWorld) : Prop := smDWorld x.1
noncomputable def as_eqWorld (x : DWorld × DWorld) : List A := [.agg (DWorld.cells false x.1), .agg (DWorld.cells false x.2)]
noncomputable def res_eqWorld (x : DWorld × DWorld) : A := Bo (eqb x.1 x.2)

def ac_eqWorld (f : FuncId) (args : List A) (d : Nat) (s : St) (K : A → St → Prop) : Prop := acOf [(64, acF pre_eqConf as_eqConf res_eqConf), (65, acF pre_eqPool as_eqPool res_eqPool), (66, acF pre_eqNodeS as_eqNodeS res_eqNodeS), (67, acF pre_eqWasteS as_eqWasteS res_eqWasteS), (68, acF pre_eqIntS as_eqIntS res_eqIntS)] f args d s K
theorem ac_eqWorld_ok : ACok Try.prog ac_eqWorld := fun F args d s K h => (acF_cons ok_eqConf (acF_cons ok_eqPool (acF_cons ok_eqNodeS (acF_cons ok_eqWasteS (acF_cons ok_eqIntS acOf_nil))))) F args d s K h

theorem ok_eqWorld (x : DWorld × DWorld) (hx : pre_eqWorld x) : Fnk Try.prog 17 (as_eqWorld x) (fun r => r = res_eqWorld x) := by
  obtain ⟨a, b⟩ := x
  obtain ⟨h_p, h_l, h_q, h_log⟩ := hx
  refine Fnk.of_axF (AC := ac_eqWorld) (Γ := gam) (fn := Try.f17) Try.func17 rfl (by kernel_rfl) gam_ok ac_eqWorld_ok mo (by kernel_rfl) (Nat.le_of_ble_eq_true rfl) (fun post hp => ?_)
  simp only [Try.f17]
  cbv
  replace hp : post (Bo (eqb a b)) := hp
  refine acF.go (X := DConf × DConf) (_, _) trivial rfl rfl ?_
  cbv
  refine bcase_intro (fun e_c => ?_) (fun e_c => ?_)
  · cbv
    refine FinAx.own ?_
    cbv
    simp only [eqb_no (a := a) (b := b) (fun e => eqb_ne e_c (by rw [e]))] at hp
    exact hp
  cbv
  refine acF.go (X := DPool × DPool) (_, _) h_p rfl rfl ?_
  cbv
  refine bcase_intro (fun e_p => ?_) (fun e_p => ?_)
  · cbv
    refine FinAx.own ?_
    cbv
    simp only [eqb_no (a := a) (b := b) (fun e => eqb_ne e_p (by rw [e]))] at hp
    exact hp
  cbv
  refine acF.go (X := (List DNode) × (List DNode)) (_, _) h_l rfl rfl ?_
  cbv
  refine bcase_intro (fun e_l => ?_) (fun e_l => ?_)
  · cbv
    refine FinAx.own ?_
    cbv
    simp only [eqb_no (a := a) (b := b) (fun e => eqb_ne e_l (by rw [e]))] at hp
    exact hp
  cbv
  refine acF.go (X := (List DWaste) × (List DWaste)) (_, _) h_q rfl rfl ?_
  cbv
  refine bcase_intro (fun e_q => ?_) (fun e_q => ?_)
  · cbv
    refine FinAx.own ?_
    cbv
    simp only [eqb_no (a := a) (b := b) (fun e => eqb_ne e_q (by rw [e]))] at hp
    exact hp
  cbv
  refine acF.go (X := (List Int) × (List Int)) (_, _) h_log rfl rfl ?_
  cbv
  refine bcase_intro (fun e_log => ?_) (fun e_log => ?_)
  · cbv
    refine FinAx.own ?_
    cbv
    simp only [eqb_no (a := a) (b := b) (fun e => eqb_ne e_log (by rw [e]))] at hp
    exact hp
  cbv
  refine FinAx.own ?_
  cbv
  simp only [eqb_yes (DWorld.same (eqb_eqq e_c) (eqb_eqq e_p) (eqb_eqq e_l) (eqb_eqq e_q) (eqb_eqq e_log))] at hp
  exact hp

end Go.Am
end
