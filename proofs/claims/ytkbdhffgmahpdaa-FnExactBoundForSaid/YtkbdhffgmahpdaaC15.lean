/- PRINTED by w15.py: the debts of the program. -/
import Derived.Test.YtkbdhffgmahpdaaC14
section
set_option linter.all false
namespace Go.Am
open Go.Proofs
set_option maxRecDepth 100000

theorem has_upd {m : List Int} {kk : Int} {n j : Nat} (hkk : 0 ≤ kk) (hj : j < n) : upd n (fun j => [Bo (hasB m (Int.ofNat j))]) (nat kk) [Bo true] j = [Bo (hasB (m ++ [kk]) (Int.ofNat j))] := by
  rw [o_upd hj, o_nat]
  by_cases e : j = kk.toNat
  · rw [if_pos e]
    have : hasB (m ++ [kk]) (Int.ofNat j) = true := by
      rw [hasB_eq, decide_eq_true_eq]
      have : Int.ofNat j = kk := by subst e; show ((kk.toNat : Nat) : Int) = kk; omega
      rw [this]; simp
    rw [this]
  · rw [if_neg e]
    have : hasB (m ++ [kk]) (Int.ofNat j) = hasB m (Int.ofNat j) := by
      rw [hasB_eq, hasB_eq, decide_eq_decide]
      have : Int.ofNat j ≠ kk := by
        intro h
        apply e
        have : ((j : Nat) : Int) = kk := h
        omega
      simp only [List.mem_append, List.mem_singleton]
      exact ⟨fun h => h.resolve_right this, .inl⟩
    rw [this]
def preD (f : Nat) (x : DWorld × List Int × List Int) : Prop := okW x.1 ∧ sm x.2.1 ∧ (∀ i, i < x.2.1.length → 0 ≤ at' x.2.1 i ∧ at' x.2.1 i < (DWorld.l x.1).length) ∧ unmet (DWorld.l x.1) x.2.2 < f
noncomputable def asD (x : DWorld × List Int × List Int) : List A := [.agg (DWorld.cells false x.1), Am.ints false x.2.1, .sl 0 0 (ln (DWorld.l x.1))]
noncomputable def metOb (n : Nat) (m : List Int) : Ob := ⟨1, n, fun j => [Bo (hasB m (Int.ofNat j))]⟩
noncomputable def obsD (x : DWorld × List Int × List Int) : List Ob := [metOb (ln (DWorld.l x.1)) x.2.2]
noncomputable def postD (f : Nat) (x : DWorld × List Int × List Int) (r : A) (obs : List Ob) : Prop :=
  r = I (dfsW (DWorld.l x.1) (DWorld.c x.1) f x.2.1 x.2.2) ∧ obs = [metOb (ln (DWorld.l x.1)) (dfsM (DWorld.l x.1) (DWorld.c x.1) f x.2.1 x.2.2)]
noncomputable def ac_D (g : Nat) (f : FuncId) (args : List A) (d : Nat) (s : St) (K : A → St → Prop) : Prop :=
  acOf [(209, acF pre_i_WasteOf as_i_WasteOf res_i_WasteOf), (182, acF pre_i_OwnSteps as_i_OwnSteps res_i_OwnSteps), (117, acF pre_i_KidsOf as_i_KidsOf res_i_KidsOf), (201, acG (preD g) asD obsD 1 (postD g))] f args d s K
theorem ok_D : ∀ (f : Nat) (x : DWorld × List Int × List Int), preD f x → Fni Try.prog 201 (asD x) (obsD x) 1 (postD f x)
  | 0, x, hx => absurd hx.2.2.2 (Nat.not_lt_zero _)
  | f + 1, x, hx => by
    obtain ⟨W, ks, met⟩ := x
    obtain ⟨c, p, l, q, log⟩ := W
    obtain ⟨hW, hksl, hkss, hun⟩ := hx
    replace hksl : ks.length ≤ 1048576 := hksl
    replace hkss : ∀ i, i < ks.length → 0 ≤ at' ks i ∧ at' ks i < l.length := hkss
    replace hun : unmet l met < f + 1 := hun
    have hlen : l.length ≤ 1048576 := okW_l hW
    have hnode : ∀ i, i < l.length → smDNode (at' l i) := fun i hi => okW_node hW hi
    have hrgf : ∀ i, i < l.length → rg (DNode.first (at' l i)) := fun i hi => (hW.2.1 i hi).2
    refine Fni.of_axP (AC := ac_D f) (Γ := gam) (fn := Try.f201) Try.func201 rfl (by kernel_rfl) gam_ok
      (fun F args d s K h => (acF_cons ok_i_WasteOf (acF_cons ok_i_OwnSteps (acF_cons ok_i_KidsOf (acG_cons (ok_D f) acOf_nil)))) F args d s K h) mo (by kernel_rfl) (Nat.le_of_ble_eq_true rfl) (Nat.le_of_ble_eq_true rfl) (fun post hp => ?_)
    have fin : ∀ v M, ks.foldl (dfsS l c f) (0, met) = (v, M) → post (I (w64 v)) [metOb (ln l) M] := by
      intro v M h
      refine hp _ _ ⟨?_, ?_⟩
      · show _ = I (dfsW l c (f + 1) ks met)
        rw [dfsW_eq, dfsF_succ, h]
      · show _ = [metOb (ln l) (dfsM l c (f + 1) ks met)]
        rw [dfsM_eq, dfsF_succ, h]
    have ekl : ln ks = ks.length := by rw [ln_eq]
    simp only [Try.f201]
    cbv
    refine LoopAx.of (X := Nat × Int × Int × List Int) (fun y => mkS [(2, .sl 0 0 (ln l)), (3, .ptr 10 0 0), (7, I y.2.1), (10, Am.ints false ks), (11, .val (.int .i64 (Int.ofNat (ln ks)))), (12, I y.1)] [(0, metOb (ln l) y.2.2.2), (10, ⟨12, 1, fun _ => DWorld.cells false (DWorld.mk c p l q log)⟩)])
      (fun y => ks.length - y.1) (fun y => y.1 ≤ ks.length ∧ y.2.1 = w64 y.2.2.1 ∧ (ks.drop y.1).foldl (dfsS l c f) (y.2.2.1, y.2.2.2) = ks.foldl (dfsS l c f) (0, met) ∧ unmet l y.2.2.2 ≤ unmet l met) (0, 0, 0, met) ?_ ?_ ?_
    · exact ⟨Nat.zero_le _, (w64_id (n := 0) (by unfold rg; omega)).symm, rfl, Nat.le_refl _⟩
    · refine Le.lay [(10, 256)] rfl ?_ (fun _ => rfl)
      cbv
      and_intros <;> first | exact congrArg Int.ofNat ekl | rfl | trivial | exact leNN_self _ | (intro j hj; exact Wks.same rfl)
    · rintro ⟨i, v, acc, m⟩ ⟨h1, h3, h4, h6⟩
      simp only at h1 h3 h4 h6
      have efin : i = ks.length → ks.foldl (dfsS l c f) (0, met) = (acc, m) := by
        intro hi
        rw [← h4, List.drop_eq_nil_of_le (by omega), List.foldl_nil]
      cbv
      refine bcase_intro (fun h => ?_) (fun h => ?_) <;> simp only [ilt_eq, ln_int] at h <;> simp at h
      · have hinI : inR (Int.ofNat i) (ln ks) := inR_nat h
        have e3 : iadd .i64 (Int.ofNat i) 1 = ((i + 1 : Nat) : Int) := idx_next (by omega)
        obtain ⟨kk, hkk⟩ : ∃ kk, kk = at' ks i := ⟨_, rfl⟩
        have hk : 0 ≤ kk ∧ kk < l.length := by rw [hkk]; exact hkss i h
        have hkn : kk.toNat < l.length := by omega
        have hinR : inR kk (ln l) := by rw [inR_eq, ln_eq]; omega
        have hnat : nat kk = kk.toNat := o_nat kk
        have hltN : ltN (nat kk) (ln l) := by rw [hnat, ltN_eq, ln_eq]; omega
        have hhas : hasB m (Int.ofNat (nat kk)) = true ↔ kk ∈ m := by
          rw [hasB_eq, decide_eq_true_eq, hnat]
          have : Int.ofNat kk.toNat = kk := by show ((kk.toNat : Nat) : Int) = kk; omega
          rw [this]
        have hsm : smDNode (at' l (nat kk)) := by rw [hnat]; exact hnode _ hkn
        have hrg : rg (DNode.first (at' l (nat kk))) := by rw [hnat]; exact hrgf _ hkn
        have hkp : kidsPre l (DNode.first (at' l (nat kk))) := okW_kids hW hrg
        have hd := drop_at h
        rw [← hkk] at hd
        have eno : kk ∈ m → (ks.drop (i + 1)).foldl (dfsS l c f) (acc, m) = ks.foldl (dfsS l c f) (0, met) := by
          intro hm
          rw [← h4, hd, List.foldl_cons, dfsS_no hm]
        obtain ⟨kids, hkids⟩ : ∃ kids, kids = kidsL l (DNode.first (at' l (nat kk))) := ⟨_, rfl⟩
        obtain ⟨ow, how⟩ : ∃ ow, ow = ownZ c (wasteR (at' l (nat kk)) 0) := ⟨_, rfl⟩
        have eyes : kk ∉ m → (ks.drop (i + 1)).foldl (dfsS l c f) (acc + (1 + ow + (dfsF l c f kids (m ++ [kk])).1), (dfsF l c f kids (m ++ [kk])).2) = ks.foldl (dfsS l c f) (0, met) := by
          intro hm
          rw [← h4, hd, List.foldl_cons, dfsS_yes hk hm, hkids, how, hnat]
        have hpre : kk ∉ m → preD f (DWorld.mk c p l q log, kids, m ++ [kk]) := by
          intro hm
          refine ⟨hW, ?_, ?_, ?_⟩
          · show kids.length ≤ 1048576
            rw [hkids]; exact sm_kids hlen _
          · intro i hi
            have : at' kids i ∈ kidsL l (DNode.first (at' l (nat kk))) := by rw [← hkids]; exact at_mem hi
            exact kidsL_slot this
          · show unmet l (m ++ [kk]) < f
            have := unmet_lt hk hm
            omega
        have hune : unmet l (dfsF l c f kids (m ++ [kk])).2 ≤ unmet l met := by
          have h1 := unmet_dfs l c f kids (m ++ [kk])
          have h2 : unmet l (m ++ [kk]) ≤ unmet l m := unmet_le
          omega
        obtain ⟨dm, hdm⟩ : ∃ dm, dm = dfsM l c f kids (m ++ [kk]) := ⟨_, rfl⟩
        obtain ⟨dw, hdw⟩ : ∃ dw, dw = dfsW l c f kids (m ++ [kk]) := ⟨_, rfl⟩
        obtain ⟨mk, hmk⟩ : ∃ mk, mk = m ++ [kk] := ⟨_, rfl⟩
        have hpost : ∀ r obs', postD f (DWorld.mk c p l q log, kids, mk) r obs' → r = I dw ∧ obs' = [metOb (ln l) dm] := by
          rintro r obs' ⟨h1, h2⟩
          rw [hmk] at h1 h2
          rw [hdw, hdm]; exact ⟨h1, h2⟩
        rw [dfsM_eq] at hdm
        rw [dfsW_eq] at hdw
        rw [← hdm] at hune eyes
        obtain ⟨an, han⟩ : ∃ an, an = acc + (1 + ow + (dfsF l c f kids (m ++ [kk])).1) := ⟨_, rfl⟩
        obtain ⟨vn, hvn⟩ : ∃ vn, vn = w64 an := ⟨_, rfl⟩
        have ev : iadd .i64 v (iadd .i64 (iadd .i64 1 ow) dw) = vn := by
          rw [iadd_w 1 ow, hdw, iadd_w (w64 (1 + ow)) _, w64_add, h3, iadd_w, w64_add, hvn, han]
        rw [← han] at eyes
        rw [← hmk] at hpre
        have hobj : ∀ j, j < ln l → upd (ln l) (fun j => [Bo (hasB m (Int.ofNat j))]) (nat kk) [Bo true] j = [Bo (hasB mk (Int.ofNat j))] := fun j hj => by rw [hmk]; exact has_upd hk.1 hj
        have hsw := sm_waste hsm 0
        cbv
        rw [← hkk]
        refine ⟨hinI, hinR, hltN, ?_⟩
        refine bcase_intro (fun h5 => ?_) (fun h5 => ?_)
        · have hm := hhas.1 h5
          cbv
          refine Back.of (i + 1, v, acc, m) (by simp only; omega) ⟨by simp only; omega, h3, eno hm, h6⟩ (Le.lay [(10, 10)] rfl ?_ (fun _ => rfl))
          cbv
          and_intros <;> first | exact e3 | rfl | trivial | exact leNN_self _ | (intro j hj; exact Wks.same rfl)
        · have hm : kk ∉ m := fun e => by rw [hhas.2 e] at h5; cases h5
          have hpre := hpre hm
          have eyes := eyes hm
          cbv
          refine ⟨hinR, hltN, ?_⟩
          refine DrawAx.of (fun q => q == 10) _ ?_ (fun _ h => h)
          cbv
          refine ⟨hinR, hinR, ?_⟩
          refine acF.go (X := DNode × Int) (at' l (nat kk), 0) hsm rfl rfl ?_
          cbv
          refine acF.look (X := DConf × DWaste) (c, wasteR (at' l (nat kk)) 0) hsw
            (.cons (.agg (.cons .val (.cons .val (.cons .val (.cons .val (.cons .val (.cons .val .nil))))))) (.cons (.agg (.cons .val (.cons .val (.cons (fz_ints rfl (fun _ => rfl)) (.cons (fz_ints rfl (fun _ => rfl)) (.cons .val .nil)))))) .nil)) .val ?_
          cbv
          refine acF.go (X := List DNode × Int) (l, DNode.first (at' l (nat kk))) hkp rfl rfl ?_
          cbv
          refine acG.go (X := DWorld × List Int × List Int) (DWorld.mk c p l q log, kids, mk) true [some 0] hpre ?_ rfl (Nat.le_of_ble_eq_true rfl) ?_ ?_
          · cbv
            refine ⟨⟨(eqN_eq _ _).2 rfl, Clo.of (fun _ _ => rfl), fun j hj => hobj j hj⟩, trivial⟩
          · show Fas _ _ _ _ [_, Am.ints false kids, .sl 0 0 (ln l)]
            rw [hkids]
            exact .cons (.cl rfl) (.cons (.fz rfl (fz_ints rfl (fun _ => rfl))) (.cons (.sl rfl) .nil))
          rintro r obs' - hpo
          obtain ⟨rfl, rfl⟩ := hpost r obs' hpo
          refine ⟨fun _ => ⟨.val, fun ob hob j hj => ?_⟩, ?_⟩
          · rw [List.mem_singleton] at hob
            subst hob
            exact .cons .val .nil
          cbv
          refine Back.of (i + 1, vn, an, dm) (by simp only; omega) ⟨by simp only; omega, hvn, eyes, hune⟩ (Le.lay [(10, 10)] rfl ?_ (fun _ => rfl))
          rw [how] at ev
          cbv
          and_intros <;> first | exact e3 | exact ev | rfl | trivial | exact leNN_self _ | (intro j hj; exact Wks.same rfl)
      · cbv
        have ei : i = ks.length := by omega
        have := fin acc m (efin ei)
        rw [← h3] at this
        refine FinN.own ?_
        cbv
        and_intros <;> first | exact leNN_self _ | exact Clo.of (fun _ _ => rfl) | exact trivial | exact this

end Go.Am
end
