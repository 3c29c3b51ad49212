/- PRINTED by sz.py: the laws' sizes. -/
import Derived.Test.YtkbdhffgmahpdaaB1
section
set_option linter.all false
namespace Go.Am
open Go.Proofs
set_option maxRecDepth 100000

def limDConf (_ : DConf) : Prop := True
def limDPool (m : DPool) : Prop := lim (DPool.mem m) ∧ lim (DPool.st m) ∧ lim (DPool.own m)
def limDThing (_ : DThing) : Prop := True
def limDNode (m : DNode) : Prop := lim (DNode.chunks m) ∧ lim (DNode.things m) ∧ lim (DNode.tags m)
def limDWaste (m : DWaste) : Prop := lim (DWaste.tags m) ∧ lim (DWaste.chunks m)
def limDWorld (m : DWorld) : Prop := limDPool (DWorld.p m) ∧ (lim (DWorld.l m) ∧ ∀ i, i < ((DWorld.l m)).length → limDNode (at' (DWorld.l m) i)) ∧ (lim (DWorld.q m) ∧ ∀ i, i < ((DWorld.q m)).length → limDWaste (at' (DWorld.q m) i)) ∧ lim (DWorld.log m)
def limDHandle (_ : DHandle) : Prop := True
def limDRef (_ : DRef) : Prop := True
def limDStuff (m : DStuff) : Prop := lim (DStuff.b m)
def limDRoom (m : DRoom) : Prop := lim (DRoom.kids m) ∧ (lim (DRoom.things m) ∧ ∀ i, i < ((DRoom.things m)).length → limDStuff (at' (DRoom.things m) i)) ∧ lim (DRoom.tags m)
def limDModel (m : DModel) : Prop := (lim (DModel.rooms m) ∧ ∀ i, i < ((DModel.rooms m)).length → limDRoom (at' (DModel.rooms m) i)) ∧ lim (DModel.log m)

def pre_szIntS (x : (List Int) × Int) : Prop := bud x.2 ∧ lim x.1
noncomputable def as_szIntS (x : (List Int) × Int) : List A := [Am.ints false x.1, I x.2]
def post_szIntS (x : (List Int) × Int) : A → Prop := left x.2 (sm x.1)
noncomputable def ac_szIntS (f : FuncId) (args : List A) (d : Nat) (s : St) (K : A → St → Prop) : Prop := acOf [] f args d s K
theorem ac_szIntS_ok : ACok Try.prog ac_szIntS := fun F args d s K h => acOf_nil F args d s K h
theorem ok_szIntS (x : (List Int) × Int) (hx : pre_szIntS x) : Fnk Try.prog 54 (as_szIntS x) (post_szIntS x) := by
  obtain ⟨l, b⟩ := x
  obtain ⟨hb, hl⟩ := hx
  simp only at hb hl
  refine Fnk.of_axP (AC := ac_szIntS) (Γ := gam) (fn := Try.f54) Try.func54 rfl (by kernel_rfl) gam_ok ac_szIntS_ok mo (by kernel_rfl) (Nat.le_of_ble_eq_true rfl) (fun post hp => ?_)
  simp only [Try.f54]
  cbv
  have e := bud_sub hb hl
  refine bcase_intro (fun h => ?_) (fun h => ?_) <;> simp only [ilt_eq, e] at h <;> simp at h
  · cbv
    refine FinAx.own ?_
    cbv
    exact hp _ (left_no hb)
  · cbv
    refine FinAx.own ?_
    cbv
    refine hp _ ⟨b - l.length, by rw [← e]; rfl, by have := hb.1; simp only; omega, fun h => ?_⟩
    have := hb.2
    simp only [sm]
    omega

def pre_szByteS (x : (List Int) × Int) : Prop := bud x.2 ∧ lim x.1
noncomputable def as_szByteS (x : (List Int) × Int) : List A := [Am.bytes false x.1, I x.2]
def post_szByteS (x : (List Int) × Int) : A → Prop := left x.2 (sm x.1)
noncomputable def ac_szByteS (f : FuncId) (args : List A) (d : Nat) (s : St) (K : A → St → Prop) : Prop := acOf [] f args d s K
theorem ac_szByteS_ok : ACok Try.prog ac_szByteS := fun F args d s K h => acOf_nil F args d s K h
theorem ok_szByteS (x : (List Int) × Int) (hx : pre_szByteS x) : Fnk Try.prog 134 (as_szByteS x) (post_szByteS x) := by
  obtain ⟨l, b⟩ := x
  obtain ⟨hb, hl⟩ := hx
  simp only at hb hl
  refine Fnk.of_axP (AC := ac_szByteS) (Γ := gam) (fn := Try.f134) Try.func134 rfl (by kernel_rfl) gam_ok ac_szByteS_ok mo (by kernel_rfl) (Nat.le_of_ble_eq_true rfl) (fun post hp => ?_)
  simp only [Try.f134]
  cbv
  have e := bud_sub hb hl
  refine bcase_intro (fun h => ?_) (fun h => ?_) <;> simp only [ilt_eq, e] at h <;> simp at h
  · cbv
    refine FinAx.own ?_
    cbv
    exact hp _ (left_no hb)
  · cbv
    refine FinAx.own ?_
    cbv
    refine hp _ ⟨b - l.length, by rw [← e]; rfl, by have := hb.1; simp only; omega, fun h => ?_⟩
    have := hb.2
    simp only [sm]
    omega

def pre_szThingS (x : (List DThing) × Int) : Prop := bud x.2 ∧ lim x.1
noncomputable def as_szThingS (x : (List DThing) × Int) : List A := [Am.things false x.1, I x.2]
def post_szThingS (x : (List DThing) × Int) : A → Prop := left x.2 (sm x.1)
noncomputable def ac_szThingS (f : FuncId) (args : List A) (d : Nat) (s : St) (K : A → St → Prop) : Prop := acOf [] f args d s K
theorem ac_szThingS_ok : ACok Try.prog ac_szThingS := fun F args d s K h => acOf_nil F args d s K h
theorem ok_szThingS (x : (List DThing) × Int) (hx : pre_szThingS x) : Fnk Try.prog 178 (as_szThingS x) (post_szThingS x) := by
  obtain ⟨l, b⟩ := x
  obtain ⟨hb, hl⟩ := hx
  simp only at hb hl
  refine Fnk.of_axP (AC := ac_szThingS) (Γ := gam) (fn := Try.f178) Try.func178 rfl (by kernel_rfl) gam_ok ac_szThingS_ok mo (by kernel_rfl) (Nat.le_of_ble_eq_true rfl) (fun post hp => ?_)
  simp only [Try.f178]
  cbv
  have e := bud_sub hb hl
  refine bcase_intro (fun h => ?_) (fun h => ?_) <;> simp only [ilt_eq, e] at h <;> simp at h
  · cbv
    refine FinAx.own ?_
    cbv
    exact hp _ (left_no hb)
  · cbv
    refine FinAx.own ?_
    cbv
    refine hp _ ⟨b - l.length, by rw [← e]; rfl, by have := hb.1; simp only; omega, fun h => ?_⟩
    have := hb.2
    simp only [sm]
    omega

def pre_szPool (x : DPool × Int) : Prop := bud x.2 ∧ limDPool x.1
noncomputable def as_szPool (x : DPool × Int) : List A := [.agg (DPool.cells false x.1), I x.2]
def post_szPool (x : DPool × Int) : A → Prop := left x.2 (smDPool x.1)
noncomputable def ac_szPool (f : FuncId) (args : List A) (d : Nat) (s : St) (K : A → St → Prop) : Prop := acOf [(134, acP pre_szByteS as_szByteS post_szByteS), (54, acP pre_szIntS as_szIntS post_szIntS)] f args d s K
theorem ac_szPool_ok : ACok Try.prog ac_szPool := fun F args d s K h => (acP_cons ok_szByteS (acP_cons ok_szIntS acOf_nil)) F args d s K h
theorem ok_szPool (x : DPool × Int) (hx : pre_szPool x) : Fnk Try.prog 51 (as_szPool x) (post_szPool x) := by
  obtain ⟨l, b⟩ := x
  obtain ⟨hb, hl⟩ := hx
  simp only at hb hl
  refine Fnk.of_axP (AC := ac_szPool) (Γ := gam) (fn := Try.f51) Try.func51 rfl (by kernel_rfl) gam_ok ac_szPool_ok mo (by kernel_rfl) (Nat.le_of_ble_eq_true rfl) (fun post hp => ?_)
  simp only [Try.f51]
  cbv
  obtain ⟨h_mem, h_st, h_own⟩ := hl
  refine acP.go (X := (List Int) × Int) (_, _) ⟨hb, h_mem⟩ rfl rfl ?_
  rintro _ ⟨v0, rfl, hv0, hs0⟩
  cbv
  refine bcase_intro (fun h => ?_) (fun g0 => ?_)
  · cbv
    refine FinAx.own ?_
    cbv
    exact hp _ (left_no hb)
  replace g0 : 0 ≤ v0 := by simp only [ilt_eq] at g0; simpa using g0
  simp only at hv0
  have hb0 : bud v0 := ⟨g0, by have := hb.2; omega⟩
  cbv
  refine acP.go (X := (List Int) × Int) (_, _) ⟨hb0, h_st⟩ rfl rfl ?_
  rintro _ ⟨v1, rfl, hv1, hs1⟩
  cbv
  refine bcase_intro (fun h => ?_) (fun g1 => ?_)
  · cbv
    refine FinAx.own ?_
    cbv
    exact hp _ (left_no hb)
  replace g1 : 0 ≤ v1 := by simp only [ilt_eq] at g1; simpa using g1
  simp only at hv1
  have hb1 : bud v1 := ⟨g1, by have := hb0.2; omega⟩
  cbv
  refine acP.go (X := (List Int) × Int) (_, _) ⟨hb1, h_own⟩ rfl rfl ?_
  rintro _ ⟨v2, rfl, hv2, hs2⟩
  cbv
  refine bcase_intro (fun h => ?_) (fun g2 => ?_)
  · cbv
    refine FinAx.own ?_
    cbv
    exact hp _ (left_no hb)
  replace g2 : 0 ≤ v2 := by simp only [ilt_eq] at g2; simpa using g2
  simp only at hv2
  have hb2 : bud v2 := ⟨g2, by have := hb1.2; omega⟩
  cbv
  refine FinAx.own ?_
  cbv
  exact hp _ ⟨v2, rfl, by simp only; omega, fun _ => ⟨hs0 g0, hs1 g1, hs2 g2⟩⟩

def pre_szNode (x : DNode × Int) : Prop := bud x.2 ∧ limDNode x.1
noncomputable def as_szNode (x : DNode × Int) : List A := [.agg (DNode.cells false x.1), I x.2]
def post_szNode (x : DNode × Int) : A → Prop := left x.2 (smDNode x.1)
noncomputable def ac_szNode (f : FuncId) (args : List A) (d : Nat) (s : St) (K : A → St → Prop) : Prop := acOf [(54, acP pre_szIntS as_szIntS post_szIntS), (178, acP pre_szThingS as_szThingS post_szThingS)] f args d s K
theorem ac_szNode_ok : ACok Try.prog ac_szNode := fun F args d s K h => (acP_cons ok_szIntS (acP_cons ok_szThingS acOf_nil)) F args d s K h
theorem ok_szNode (x : DNode × Int) (hx : pre_szNode x) : Fnk Try.prog 135 (as_szNode x) (post_szNode x) := by
  obtain ⟨l, b⟩ := x
  obtain ⟨hb, hl⟩ := hx
  simp only at hb hl
  refine Fnk.of_axP (AC := ac_szNode) (Γ := gam) (fn := Try.f135) Try.func135 rfl (by kernel_rfl) gam_ok ac_szNode_ok mo (by kernel_rfl) (Nat.le_of_ble_eq_true rfl) (fun post hp => ?_)
  simp only [Try.f135]
  cbv
  obtain ⟨h_chunks, h_things, h_tags⟩ := hl
  refine acP.go (X := (List Int) × Int) (_, _) ⟨hb, h_chunks⟩ rfl rfl ?_
  rintro _ ⟨v0, rfl, hv0, hs0⟩
  cbv
  refine bcase_intro (fun h => ?_) (fun g0 => ?_)
  · cbv
    refine FinAx.own ?_
    cbv
    exact hp _ (left_no hb)
  replace g0 : 0 ≤ v0 := by simp only [ilt_eq] at g0; simpa using g0
  simp only at hv0
  have hb0 : bud v0 := ⟨g0, by have := hb.2; omega⟩
  cbv
  refine acP.go (X := (List DThing) × Int) (_, _) ⟨hb0, h_things⟩ rfl rfl ?_
  rintro _ ⟨v1, rfl, hv1, hs1⟩
  cbv
  refine bcase_intro (fun h => ?_) (fun g1 => ?_)
  · cbv
    refine FinAx.own ?_
    cbv
    exact hp _ (left_no hb)
  replace g1 : 0 ≤ v1 := by simp only [ilt_eq] at g1; simpa using g1
  simp only at hv1
  have hb1 : bud v1 := ⟨g1, by have := hb0.2; omega⟩
  cbv
  refine acP.go (X := (List Int) × Int) (_, _) ⟨hb1, h_tags⟩ rfl rfl ?_
  rintro _ ⟨v2, rfl, hv2, hs2⟩
  cbv
  refine bcase_intro (fun h => ?_) (fun g2 => ?_)
  · cbv
    refine FinAx.own ?_
    cbv
    exact hp _ (left_no hb)
  replace g2 : 0 ≤ v2 := by simp only [ilt_eq] at g2; simpa using g2
  simp only at hv2
  have hb2 : bud v2 := ⟨g2, by have := hb1.2; omega⟩
  cbv
  refine FinAx.own ?_
  cbv
  exact hp _ ⟨v2, rfl, by simp only; omega, fun _ => ⟨hs0 g0, hs1 g1, hs2 g2⟩⟩

def pre_szNodeS (x : (List DNode) × Int) : Prop := bud x.2 ∧ (lim x.1 ∧ ∀ i, i < (x.1).length → limDNode (at' x.1 i))
noncomputable def as_szNodeS (x : (List DNode) × Int) : List A := [Am.nodes false x.1, I x.2]
def post_szNodeS (x : (List DNode) × Int) : A → Prop := left x.2 ((sm x.1 ∧ ∀ i, i < (x.1).length → smDNode (at' x.1 i)))
noncomputable def ac_szNodeS (f : FuncId) (args : List A) (d : Nat) (s : St) (K : A → St → Prop) : Prop := acOf [(135, acP pre_szNode as_szNode post_szNode)] f args d s K
theorem ac_szNodeS_ok : ACok Try.prog ac_szNodeS := fun F args d s K h => (acP_cons ok_szNode acOf_nil) F args d s K h
theorem ok_szNodeS (x : (List DNode) × Int) (hx : pre_szNodeS x) : Fnk Try.prog 52 (as_szNodeS x) (post_szNodeS x) := by
  obtain ⟨l, b⟩ := x
  obtain ⟨hb, hl⟩ := hx
  simp only at hb hl
  refine Fnk.of_axP (AC := ac_szNodeS) (Γ := gam) (fn := Try.f52) Try.func52 rfl (by kernel_rfl) gam_ok ac_szNodeS_ok mo (by kernel_rfl) (Nat.le_of_ble_eq_true rfl) (fun post hp => ?_)
  simp only [Try.f52]
  cbv
  obtain ⟨hl, he⟩ := hl
  have e := bud_sub hb hl
  refine bcase_intro (fun h => ?_) (fun h => ?_) <;> simp only [ilt_eq, e] at h <;> simp at h
  · cbv
    refine FinAx.own ?_
    cbv
    exact hp _ (left_no hb)
  · obtain ⟨c0, hc0⟩ : ∃ c0, c0 = b - l.length := ⟨_, rfl⟩
    cbv
    simp only [nc] at hc0 h
    refine LoopAx.of (X := Nat × Int) (fun x => mkS [(0, Am.nodes false l), (1, I x.2), (5, I x.1)] []) (fun x => l.length - x.1)
      (fun x => x.1 ≤ l.length ∧ (0 ≤ x.2 ∧ x.2 ≤ b - l.length) ∧ ∀ k, k < x.1 → smDNode (at' l k)) (0, c0) ?_ ?_ ?_
    · exact ⟨Nat.zero_le _, ⟨by simp only; omega, by simp only; omega⟩, fun k hk => by simp at hk⟩
    · exact Le.lay [] rfl (by cbv; and_intros <;> first | exact e.trans hc0.symm | rfl | trivial) (fun _ => rfl)
    · rintro ⟨i, c⟩ ⟨h1, h2, h3⟩
      simp only at h1 h2 h3
      have hbc : bud c := ⟨h2.1, by have := hb.2; omega⟩
      cbv
      refine bcase_intro (fun h => ?_) (fun h => ?_) <;> simp only [ilt_eq, ln_eq] at h <;> simp at h
      · cbv
        refine ⟨inR_nat h, ?_⟩
        refine acP.go (X := DNode × Int) (_, _) ⟨hbc, he i h⟩ rfl rfl ?_
        rintro _ ⟨v, rfl, hv, hs⟩
        cbv
        refine bcase_intro (fun h4 => ?_) (fun h4 => ?_) <;> simp only [ilt_eq] at h4 <;> simp at h4
        · cbv
          refine FinAx.own ?_
          cbv
          exact hp _ (left_no hb)
        · cbv
          have e3 : iadd .i64 (Int.ofNat i) 1 = ((i + 1 : Nat) : Int) := by unfold lim at hl; rw [iadd_eq] <;> simp <;> omega
          refine Back.of (i + 1, v) (by simp; omega) ⟨by simp; omega, ⟨h4, by simp only at hv ⊢; omega⟩, fun k hk => ?_⟩ (Le.lay [] rfl (by cbv; and_intros <;> first | exact e3 | rfl | trivial) (fun _ => rfl))
          by_cases hki : k = i
          · subst hki; exact hs h4
          · exact h3 k (by simp only at hk; omega)
      · cbv
        refine FinAx.own ?_
        cbv
        try simp only [nc] at *
        refine hp _ ⟨c, rfl, by simp only; omega, fun _ => ⟨?_, fun k hk => h3 k (by simp only at hk; omega)⟩⟩
        have := hb.2
        simp only [sm]
        omega

def pre_szWaste (x : DWaste × Int) : Prop := bud x.2 ∧ limDWaste x.1
noncomputable def as_szWaste (x : DWaste × Int) : List A := [.agg (DWaste.cells false x.1), I x.2]
def post_szWaste (x : DWaste × Int) : A → Prop := left x.2 (smDWaste x.1)
noncomputable def ac_szWaste (f : FuncId) (args : List A) (d : Nat) (s : St) (K : A → St → Prop) : Prop := acOf [(54, acP pre_szIntS as_szIntS post_szIntS)] f args d s K
theorem ac_szWaste_ok : ACok Try.prog ac_szWaste := fun F args d s K h => (acP_cons ok_szIntS acOf_nil) F args d s K h
theorem ok_szWaste (x : DWaste × Int) (hx : pre_szWaste x) : Fnk Try.prog 136 (as_szWaste x) (post_szWaste x) := by
  obtain ⟨l, b⟩ := x
  obtain ⟨hb, hl⟩ := hx
  simp only at hb hl
  refine Fnk.of_axP (AC := ac_szWaste) (Γ := gam) (fn := Try.f136) Try.func136 rfl (by kernel_rfl) gam_ok ac_szWaste_ok mo (by kernel_rfl) (Nat.le_of_ble_eq_true rfl) (fun post hp => ?_)
  simp only [Try.f136]
  cbv
  obtain ⟨h_tags, h_chunks⟩ := hl
  refine acP.go (X := (List Int) × Int) (_, _) ⟨hb, h_tags⟩ rfl rfl ?_
  rintro _ ⟨v0, rfl, hv0, hs0⟩
  cbv
  refine bcase_intro (fun h => ?_) (fun g0 => ?_)
  · cbv
    refine FinAx.own ?_
    cbv
    exact hp _ (left_no hb)
  replace g0 : 0 ≤ v0 := by simp only [ilt_eq] at g0; simpa using g0
  simp only at hv0
  have hb0 : bud v0 := ⟨g0, by have := hb.2; omega⟩
  cbv
  refine acP.go (X := (List Int) × Int) (_, _) ⟨hb0, h_chunks⟩ rfl rfl ?_
  rintro _ ⟨v1, rfl, hv1, hs1⟩
  cbv
  refine bcase_intro (fun h => ?_) (fun g1 => ?_)
  · cbv
    refine FinAx.own ?_
    cbv
    exact hp _ (left_no hb)
  replace g1 : 0 ≤ v1 := by simp only [ilt_eq] at g1; simpa using g1
  simp only at hv1
  have hb1 : bud v1 := ⟨g1, by have := hb0.2; omega⟩
  cbv
  refine FinAx.own ?_
  cbv
  exact hp _ ⟨v1, rfl, by simp only; omega, fun _ => ⟨hs0 g0, hs1 g1⟩⟩

def pre_szWasteS (x : (List DWaste) × Int) : Prop := bud x.2 ∧ (lim x.1 ∧ ∀ i, i < (x.1).length → limDWaste (at' x.1 i))
noncomputable def as_szWasteS (x : (List DWaste) × Int) : List A := [Am.wastes false x.1, I x.2]
def post_szWasteS (x : (List DWaste) × Int) : A → Prop := left x.2 ((sm x.1 ∧ ∀ i, i < (x.1).length → smDWaste (at' x.1 i)))
noncomputable def ac_szWasteS (f : FuncId) (args : List A) (d : Nat) (s : St) (K : A → St → Prop) : Prop := acOf [(136, acP pre_szWaste as_szWaste post_szWaste)] f args d s K
theorem ac_szWasteS_ok : ACok Try.prog ac_szWasteS := fun F args d s K h => (acP_cons ok_szWaste acOf_nil) F args d s K h
theorem ok_szWasteS (x : (List DWaste) × Int) (hx : pre_szWasteS x) : Fnk Try.prog 53 (as_szWasteS x) (post_szWasteS x) := by
  obtain ⟨l, b⟩ := x
  obtain ⟨hb, hl⟩ := hx
  simp only at hb hl
  refine Fnk.of_axP (AC := ac_szWasteS) (Γ := gam) (fn := Try.f53) Try.func53 rfl (by kernel_rfl) gam_ok ac_szWasteS_ok mo (by kernel_rfl) (Nat.le_of_ble_eq_true rfl) (fun post hp => ?_)
  simp only [Try.f53]
  cbv
  obtain ⟨hl, he⟩ := hl
  have e := bud_sub hb hl
  refine bcase_intro (fun h => ?_) (fun h => ?_) <;> simp only [ilt_eq, e] at h <;> simp at h
  · cbv
    refine FinAx.own ?_
    cbv
    exact hp _ (left_no hb)
  · obtain ⟨c0, hc0⟩ : ∃ c0, c0 = b - l.length := ⟨_, rfl⟩
    cbv
    simp only [nc] at hc0 h
    refine LoopAx.of (X := Nat × Int) (fun x => mkS [(0, Am.wastes false l), (1, I x.2), (5, I x.1)] []) (fun x => l.length - x.1)
      (fun x => x.1 ≤ l.length ∧ (0 ≤ x.2 ∧ x.2 ≤ b - l.length) ∧ ∀ k, k < x.1 → smDWaste (at' l k)) (0, c0) ?_ ?_ ?_
    · exact ⟨Nat.zero_le _, ⟨by simp only; omega, by simp only; omega⟩, fun k hk => by simp at hk⟩
    · exact Le.lay [] rfl (by cbv; and_intros <;> first | exact e.trans hc0.symm | rfl | trivial) (fun _ => rfl)
    · rintro ⟨i, c⟩ ⟨h1, h2, h3⟩
      simp only at h1 h2 h3
      have hbc : bud c := ⟨h2.1, by have := hb.2; omega⟩
      cbv
      refine bcase_intro (fun h => ?_) (fun h => ?_) <;> simp only [ilt_eq, ln_eq] at h <;> simp at h
      · cbv
        refine ⟨inR_nat h, ?_⟩
        refine acP.go (X := DWaste × Int) (_, _) ⟨hbc, he i h⟩ rfl rfl ?_
        rintro _ ⟨v, rfl, hv, hs⟩
        cbv
        refine bcase_intro (fun h4 => ?_) (fun h4 => ?_) <;> simp only [ilt_eq] at h4 <;> simp at h4
        · cbv
          refine FinAx.own ?_
          cbv
          exact hp _ (left_no hb)
        · cbv
          have e3 : iadd .i64 (Int.ofNat i) 1 = ((i + 1 : Nat) : Int) := by unfold lim at hl; rw [iadd_eq] <;> simp <;> omega
          refine Back.of (i + 1, v) (by simp; omega) ⟨by simp; omega, ⟨h4, by simp only at hv ⊢; omega⟩, fun k hk => ?_⟩ (Le.lay [] rfl (by cbv; and_intros <;> first | exact e3 | rfl | trivial) (fun _ => rfl))
          by_cases hki : k = i
          · subst hki; exact hs h4
          · exact h3 k (by simp only at hk; omega)
      · cbv
        refine FinAx.own ?_
        cbv
        try simp only [nc] at *
        refine hp _ ⟨c, rfl, by simp only; omega, fun _ => ⟨?_, fun k hk => h3 k (by simp only at hk; omega)⟩⟩
        have := hb.2
        simp only [sm]
        omega

def pre_szWorld (x : DWorld × Int) : Prop := bud x.2 ∧ limDWorld x.1
noncomputable def as_szWorld (x : DWorld × Int) : List A := [.agg (DWorld.cells false x.1), I x.2]
def post_szWorld (x : DWorld × Int) : A → Prop := left x.2 (smDWorld x.1)
noncomputable def ac_szWorld (f : FuncId) (args : List A) (d : Nat) (s : St) (K : A → St → Prop) : Prop := acOf [(51, acP pre_szPool as_szPool post_szPool), (52, acP pre_szNodeS as_szNodeS post_szNodeS), (53, acP pre_szWasteS as_szWasteS post_szWasteS), (54, acP pre_szIntS as_szIntS post_szIntS)] f args d s K
theorem ac_szWorld_ok : ACok Try.prog ac_szWorld := fun F args d s K h => (acP_cons ok_szPool (acP_cons ok_szNodeS (acP_cons ok_szWasteS (acP_cons ok_szIntS acOf_nil)))) F args d s K h
theorem ok_szWorld (x : DWorld × Int) (hx : pre_szWorld x) : Fnk Try.prog 13 (as_szWorld x) (post_szWorld x) := by
  obtain ⟨l, b⟩ := x
  obtain ⟨hb, hl⟩ := hx
  simp only at hb hl
  refine Fnk.of_axP (AC := ac_szWorld) (Γ := gam) (fn := Try.f13) Try.func13 rfl (by kernel_rfl) gam_ok ac_szWorld_ok mo (by kernel_rfl) (Nat.le_of_ble_eq_true rfl) (fun post hp => ?_)
  simp only [Try.f13]
  cbv
  obtain ⟨h_p, h_l, h_q, h_log⟩ := hl
  refine acP.go (X := DPool × Int) (_, _) ⟨hb, h_p⟩ rfl rfl ?_
  rintro _ ⟨v0, rfl, hv0, hs0⟩
  cbv
  refine bcase_intro (fun h => ?_) (fun g0 => ?_)
  · cbv
    refine FinAx.own ?_
    cbv
    exact hp _ (left_no hb)
  replace g0 : 0 ≤ v0 := by simp only [ilt_eq] at g0; simpa using g0
  simp only at hv0
  have hb0 : bud v0 := ⟨g0, by have := hb.2; omega⟩
  cbv
  refine acP.go (X := (List DNode) × Int) (_, _) ⟨hb0, h_l⟩ rfl rfl ?_
  rintro _ ⟨v1, rfl, hv1, hs1⟩
  cbv
  refine bcase_intro (fun h => ?_) (fun g1 => ?_)
  · cbv
    refine FinAx.own ?_
    cbv
    exact hp _ (left_no hb)
  replace g1 : 0 ≤ v1 := by simp only [ilt_eq] at g1; simpa using g1
  simp only at hv1
  have hb1 : bud v1 := ⟨g1, by have := hb0.2; omega⟩
  cbv
  refine acP.go (X := (List DWaste) × Int) (_, _) ⟨hb1, h_q⟩ rfl rfl ?_
  rintro _ ⟨v2, rfl, hv2, hs2⟩
  cbv
  refine bcase_intro (fun h => ?_) (fun g2 => ?_)
  · cbv
    refine FinAx.own ?_
    cbv
    exact hp _ (left_no hb)
  replace g2 : 0 ≤ v2 := by simp only [ilt_eq] at g2; simpa using g2
  simp only at hv2
  have hb2 : bud v2 := ⟨g2, by have := hb1.2; omega⟩
  cbv
  refine acP.go (X := (List Int) × Int) (_, _) ⟨hb2, h_log⟩ rfl rfl ?_
  rintro _ ⟨v3, rfl, hv3, hs3⟩
  cbv
  refine bcase_intro (fun h => ?_) (fun g3 => ?_)
  · cbv
    refine FinAx.own ?_
    cbv
    exact hp _ (left_no hb)
  replace g3 : 0 ≤ v3 := by simp only [ilt_eq] at g3; simpa using g3
  simp only at hv3
  have hb3 : bud v3 := ⟨g3, by have := hb2.2; omega⟩
  cbv
  refine FinAx.own ?_
  cbv
  exact hp _ ⟨v3, rfl, by simp only; omega, fun _ => ⟨hs0 g0, hs1 g1, hs2 g2, hs3 g3⟩⟩

end Go.Am
end
