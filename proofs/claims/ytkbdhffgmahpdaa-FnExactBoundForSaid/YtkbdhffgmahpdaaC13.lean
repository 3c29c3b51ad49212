/- PRINTED by w13.py: what the reference says is owed. -/
import Derived.Test.YtkbdhffgmahpdaaB5
import Derived.Test.YtkbdhffgmahpdaaC12
section
set_option linter.all false
namespace Go.Am
open Go.Proofs
set_option maxRecDepth 100000

theorem fz_ints {H : Nat → Option Ob} {id : Nat} {l : List Int} {g : Nat → List A} (h : H id = some ⟨1, ln l, g⟩) (hg : ∀ i, g i = [I (at' l i)]) : Fz H (.sl id 0 (ln l)) (Am.ints false l) :=
  .sl h (by simp) (fun i _ => by simp only [hg, Nat.zero_add]; exact .cons .val .nil)
theorem okW_node {w : DWorld} (h : okW w) {i : Nat} (hi : i < (DWorld.l w).length) : smDNode (at' (DWorld.l w) i) := h.1.2.1.2 i hi
theorem okW_waste {w : DWorld} (h : okW w) {i : Nat} (hi : i < (DWorld.q w).length) : smDWaste (at' (DWorld.q w) i) := h.1.2.2.1.2 i hi
theorem okW_l {w : DWorld} (h : okW w) : (DWorld.l w).length ≤ 1048576 := h.1.2.1.1
theorem okW_q {w : DWorld} (h : okW w) : (DWorld.q w).length ≤ 1048576 := h.1.2.2.1.1
theorem okW_kids {w : DWorld} (h : okW w) {k : Int} (hk : rg k) : kidsPre (DWorld.l w) k := ⟨h.1.2.1.1, hk, fun i hi => (h.2.1 i hi).1⟩
theorem sm_waste {n : DNode} (h : smDNode n) (k : Int) : smDWaste (wasteR n k) := ⟨h.2.2, h.1⟩
theorem sm_kids {l : List DNode} (h : l.length ≤ 1048576) (k : Int) : (kidsL l k).length ≤ 1048576 := Nat.le_trans (kidsL_len l k) h
theorem rg_slot {l : List DNode} (h : l.length ≤ 1048576) {k : Int} (hk : 0 ≤ k ∧ k < l.length) : rg k := by unfold rg; omega
def preL15 (f : Nat) (x : DWorld × Int × List Int) : Prop := okW x.1 ∧ few (DWorld.l x.1) x.2.2 ∧ unmet (DWorld.l x.1) x.2.2 < f
noncomputable def asL15 (x : DWorld × Int × List Int) : List A := [.agg (DWorld.cells false x.1), I x.2.1, .sl 0 0 (ln x.2.2)]
noncomputable def obsL15 (x : DWorld × Int × List Int) : List Ob := [⟨1, ln x.2.2, fun i => [I (at' x.2.2 i)]⟩]
noncomputable def postL15 (f : Nat) (x : DWorld × Int × List Int) (r : A) (obs : List Ob) : Prop :=
  r = .tup [I (dfsW (DWorld.l x.1) (DWorld.c x.1) f [x.2.1] x.2.2), Am.ints true (dfsM (DWorld.l x.1) (DWorld.c x.1) f [x.2.1] x.2.2)] ∧ obs = []
noncomputable def ac_L15 (g : Nat) (f : FuncId) (args : List A) (d : Nat) (s : St) (K : A → St → Prop) : Prop :=
  acOf [(73, acF pre_s_l1In as_s_l1In res_s_l1In), (207, acF pre_s_l7Has as_s_l7Has res_s_l7Has), (208, acF pre_s_WasteOf as_s_WasteOf res_s_WasteOf), (179, acF pre_s_OwnSteps as_s_OwnSteps res_s_OwnSteps), (112, acF pre_s_KidsOf as_s_KidsOf res_s_KidsOf), (198, acG (preL15 g) asL15 obsL15 0 (postL15 g))] f args d s K

theorem ok_L15 : ∀ (f : Nat) (x : DWorld × Int × List Int), preL15 f x → Fni Try.prog 198 (asL15 x) (obsL15 x) 0 (postL15 f x)
  | 0, x, hx => absurd hx.2.2 (Nat.not_lt_zero _)
  | f + 1, x, hx => by
    obtain ⟨W, k, met⟩ := x
    obtain ⟨c, p, l, q, log⟩ := W
    obtain ⟨hW, hfew, hun⟩ := hx
    replace hfew : few l met := hfew
    replace hun : unmet l met < f + 1 := hun
    have hlen : l.length ≤ 1048576 := okW_l hW
    have hmet : met.length ≤ 1048576 := by unfold few at hfew; omega
    have hnode : ∀ i, i < l.length → smDNode (at' l i) := fun i hi => okW_node hW hi
    have hrgf : ∀ i, i < l.length → rg (DNode.first (at' l i)) := fun i hi => (hW.2.1 i hi).2
    refine Fni.of_axP (AC := ac_L15 f) (Γ := gam) (fn := Try.f198) Try.func198 rfl (by kernel_rfl) gam_ok
      (fun F args d s K h => (acF_cons ok_s_l1In (acF_cons ok_s_l7Has (acF_cons ok_s_WasteOf (acF_cons ok_s_OwnSteps (acF_cons ok_s_KidsOf (acG_cons (ok_L15 f) acOf_nil)))))) F args d s K h) mo (by kernel_rfl) (Nat.le_of_ble_eq_true rfl) (Nat.le_of_ble_eq_true rfl) (fun post hp => ?_)
    have no : ¬ (0 ≤ k ∧ k < l.length) ∨ k ∈ met → post (.tup [I 0, Am.ints true met]) [] := by
      intro h
      refine hp _ _ ⟨?_, rfl⟩
      show _ = A.tup [I (dfsW l c (f + 1) [k] met), Am.ints true (dfsM l c (f + 1) [k] met)]
      rw [dfsW_eq, dfsM_eq, dfsF_no h]
      rw [w64_id (by unfold rg; omega)]
    have hin : inB k 0 (isub .i64 (Int.ofNat (ln l)) 1) = true ↔ (0 ≤ k ∧ k < l.length) := by
      rw [ln_int, inB_eq, isub_eq (by omega) (by omega), decide_eq_true_eq]
      omega
    have hhas : hasB met k = true ↔ k ∈ met := by rw [hasB_eq, decide_eq_true_eq]
    simp only [Try.f198]
    cbv
    refine acF.go (X := Int × Int × Int) (_, _, _) trivial rfl rfl ?_
    cbv
    refine bcase_intro (fun h => ?_) (fun h => ?_)
    · cbv
      refine FinN.own ?_
      cbv
      have := no (.inl (fun hk => by rw [hin.2 hk] at h; cases h))
      and_intros <;> first | exact leNN_self _ | exact Clo.of (fun _ _ => rfl) | exact trivial | exact this
    · have hk : 0 ≤ k ∧ k < l.length := hin.1 (nf h)
      have hkn : k.toNat < l.length := by omega
      have hinR : inR k (ln l) := by rw [inR_eq, ln_eq]; omega
      have hnat : nat k = k.toNat := o_nat k
      have f1 : fits (ln met) 8 := fits_sm (by simp only [ln_eq]; omega) (by decide)
      have f2 : fits (nadd (ln met) 1) 8 := fits_sm (by simp only [ln_eq, o_nadd]; omega) (by decide)
      have hsm : smDNode (at' l (nat k)) := by rw [hnat]; exact hnode _ hkn
      have hrg : rg (DNode.first (at' l (nat k))) := by rw [hnat]; exact hrgf _ hkn
      cbv
      refine acF.look (X := List Int × Int) (met, k) hmet (.cons (fz_ints rfl (fun _ => rfl)) (.cons .val .nil)) .val ?_
      cbv
      refine bcase_intro (fun h2 => ?_) (fun h2 => ?_)
      · cbv
        refine FinN.own ?_
        cbv
        have := no (.inr (hhas.1 h2))
        and_intros <;> first | exact leNN_self _ | exact Clo.of (fun _ _ => rfl) | exact trivial | exact this
      · have hkm : k ∉ met := fun e => by rw [hhas.2 e] at h2; cases h2
        cbv
        refine ⟨leNN_self _, (eqN_eq _ _).2 rfl, f1, leNN_self _, (eqN_eq _ _).2 rfl, f2, ?_⟩
        refine DrawAx.of (fun q => q == 256) _ ?_ (fun _ h => h)
        cbv
        refine ⟨hinR, ?_⟩
        refine acF.go (X := DNode × Int) (at' l (nat k), 0) hsm rfl rfl ?_
        cbv
        refine acF.look (X := DConf × DWaste) (c, wasteR (at' l (nat k)) 0) (sm_waste hsm 0)
          (.cons (.agg (.cons .val (.cons .val (.cons .val (.cons .val (.cons .val (.cons .val .nil))))))) (.cons (.agg (.cons .val (.cons .val (.cons (fz_ints rfl (fun _ => rfl)) (.cons (fz_ints rfl (fun _ => rfl)) (.cons .val .nil)))))) .nil)) .val ?_
        cbv
        refine DrawAx.of (fun q => q == 256) _ ?_ (fun _ h => h)
        cbv
        refine ⟨hinR, ?_⟩
        refine acF.go (X := List DNode × Int) (l, DNode.first (at' l (nat k))) (okW_kids hW hrg) rfl rfl ?_
        cbv
        obtain ⟨ks, hks⟩ : ∃ ks, ks = kidsL l (DNode.first (at' l (nat k))) := ⟨_, rfl⟩
        obtain ⟨m1, hm1⟩ : ∃ m1, m1 = met ++ [k] := ⟨_, rfl⟩
        obtain ⟨v0, hv0⟩ : ∃ v0, v0 = iadd .i64 1 (ownZ c (wasteR (at' l (nat k)) 0)) := ⟨_, rfl⟩
        obtain ⟨a0, ha0⟩ : ∃ a0, a0 = 1 + ownZ c (wasteR (at' l (nat k)) 0) := ⟨_, rfl⟩
        have hksl : ks.length ≤ 1048576 := by rw [hks]; exact sm_kids hlen _
        have hkss : ∀ i, i < ks.length → 0 ≤ at' ks i ∧ at' ks i < l.length := fun i hi => kidsL_slot (by rw [← hks]; exact at_mem hi)
        have em1 : ln m1 = nadd (ln met) 1 := by rw [hm1, ln_snoc]
        have fin : ∀ N M, ks.foldl (eachS l c f) (a0, m1) = (N, M) → post (.tup [I (w64 N), Am.ints true M]) [] := by
          intro N M h
          refine hp _ _ ⟨?_, rfl⟩
          show _ = A.tup [I (dfsW l c (f + 1) [k] met), Am.ints true (dfsM l c (f + 1) [k] met)]
          simp only [dfsW_eq, dfsM_eq]
          rw [dfsF_yes hk hkm]
          have := dfsF_each l c f ks m1 a0
          rw [show (fun (p : Int × List Int) k => (p.1 + (dfsF l c f [k] p.2).1, (dfsF l c f [k] p.2).2)) = eachS l c f from rfl, h, Prod.mk.injEq, hks, ha0, hm1] at this
          simp only [hnat] at this
          rw [this.1, this.2]
        refine LoopAx.of (X := Nat × Int × Int × List Int) (fun y => mkS [(2, .sl 12 0 (ln y.2.2.2)), (3, .ptr 10 0 0), (8, I y.2.1), (9, .sl 11 0 (ln ks)), (10, I y.1)] [(10, ⟨12, 1, fun _ => DWorld.cells false (DWorldF.mk c p l q log)⟩), (11, ⟨1, ln ks, fun j => [I (at' ks j)]⟩), (12, ⟨1, ln y.2.2.2, fun j => [I (at' y.2.2.2 j)]⟩)])
          (fun y => ks.length - y.1) (fun y => y.1 ≤ ks.length ∧ y.2.1 = w64 y.2.2.1 ∧ (ks.drop y.1).foldl (eachS l c f) (y.2.2.1, y.2.2.2) = ks.foldl (eachS l c f) (a0, m1) ∧ few l y.2.2.2 ∧ unmet l y.2.2.2 < f) (0, v0, a0, m1) ?_ ?_ ?_
        · refine ⟨Nat.zero_le _, ?_, rfl, ?_, ?_⟩
          · simp only [hv0, ha0, iadd_w]
          · simp only [hm1]; exact few_snoc hfew hk hkm
          · have := unmet_lt hk hkm; simp only [hm1]; omega
        · refine Le.lay [(10, 256), (11, 3264), (12, 2048)] rfl ?_ (fun _ => rfl)
          cbv
          subst hks
          and_intros <;> first | exact em1.symm | exact hv0.symm | rfl | trivial | exact leNN_self _ | exact (leNN_eq _ _).2 (Nat.le_of_eq em1) | (intro j hj; exact Wks.same rfl) | (intro j hj; dsimp only; refine snoc_ok hm1 ?_ ?_ hj; exact fun j => congrFun (cat_zero _ _) j; rfl)
        · rintro ⟨i, v, acc, m⟩ ⟨h1, h3, h4, h5, h6⟩
          simp only at h1 h3 h4 h5 h6
          have hp2 : i < ks.length → preL15 f (DWorldF.mk c p l q log, at' ks i, m) := fun hi => ⟨hW, h5, h6⟩
          have estep : i < ks.length → (ks.drop (i + 1)).foldl (eachS l c f) (acc + (dfsF l c f [at' ks i] m).1, (dfsF l c f [at' ks i] m).2) = ks.foldl (eachS l c f) (a0, m1) := by
            intro hi
            rw [← h4, drop_at hi, List.foldl_cons]
            rfl
          have efin : i = ks.length → ks.foldl (eachS l c f) (a0, m1) = (acc, m) := by
            intro hi
            rw [← h4, List.drop_eq_nil_of_le (by omega), List.foldl_nil]
          have e5 := dfsF_few l c f [at' ks i] m h5
          have e6 := unmet_dfs l c f [at' ks i] m
          obtain ⟨dm, hdm⟩ : ∃ dm, dm = dfsM l c f [at' ks i] m := ⟨_, rfl⟩
          obtain ⟨dw, hdw⟩ : ∃ dw, dw = dfsW l c f [at' ks i] m := ⟨_, rfl⟩
          have hpost : ∀ r obs', postL15 f (DWorldF.mk c p l q log, at' ks i, m) r obs' → r = .tup [I dw, Am.ints true dm] ∧ obs' = [] := by
            rintro r obs' ⟨h1, h2⟩
            rw [hdw, hdm]; exact ⟨h1, h2⟩
          rw [dfsM_eq] at hdm
          rw [dfsW_eq] at hdw
          rw [← hdm] at e5 e6 estep
          have evw : iadd .i64 v dw = w64 (acc + (dfsF l c f [at' ks i] m).1) := by rw [iadd_w, h3, hdw, w64_add]
          cbv
          refine bcase_intro (fun h => ?_) (fun h => ?_) <;> simp only [ilt_eq, ln_int] at h <;> simp at h
          · have hinI : inR (Int.ofNat i) (ln ks) := inR_nat h
            have hltN : ltN i (ln ks) := ltN_nat h
            have e3 : iadd .i64 (Int.ofNat i) 1 = ((i + 1 : Nat) : Int) := idx_next (by omega)
            have hp2 := hp2 h
            have estep := estep h
            cbv
            refine DrawAx.of (fun q => q == 10 || q == 11) _ ?_ (fun _ h => h)
            cbv
            refine ⟨hinI, hltN, ?_⟩
            refine acG.go (X := DWorld × Int × List Int) (DWorldF.mk c p l q log, at' ks i, m) false [some 12] hp2 ?_ rfl (Nat.le_of_ble_eq_true rfl) (.cons (.cl rfl) (.cons (.cl rfl) (.cons (.sl rfl) .nil))) ?_
            · cbv
              refine ⟨⟨(eqN_eq _ _).2 rfl, Clo.of (fun _ _ => rfl), fun _ _ => rfl⟩, trivial⟩
            rintro r obs' - hpo
            obtain ⟨rfl, rfl⟩ := hpost r obs' hpo
            refine ⟨fun h => Bool.noConfusion h, ?_⟩
            cbv
            refine Back.of (i + 1, w64 (acc + (dfsF l c f [at' ks i] m).1), acc + (dfsF l c f [at' ks i] m).1, dm) (by simp only; omega) ⟨by simp only; omega, rfl, estep, e5, by simp only; omega⟩ (Le.lay [(10, 10), (11, 11), (12, 4160)] rfl ?_ (fun _ => rfl))
            obtain ⟨vn, hvn⟩ : ∃ vn, vn = w64 (acc + (dfsF l c f [at' ks i] m).1) := ⟨_, rfl⟩
            rw [← hvn] at evw ⊢
            cbv
            and_intros <;> first | exact e3 | exact evw | rfl | trivial | exact leNN_self _ | (intro j hj; exact Wks.same rfl)
          · cbv
            have ei : i = ks.length := by omega
            have := fin acc m (efin ei)
            rw [← h3] at this
            refine FinN.own ?_
            cbv
            and_intros <;> first | exact leNN_self _ | exact Clo.of (fun _ _ => rfl) | exact trivial | exact this

end Go.Am
end
