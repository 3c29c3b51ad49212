/- PRINTED by law.py: the laws of debts. -/
import Derived.Test.YtkbdhffgmahpdaaC16
import Derived.Test.YtkbdhffgmahpdaaB7
import Derived.Test.YtkbdhffgmahpdaaB3
import Derived.Test.YtkbdhffgmahpdaaB4
section
set_option linter.all false
namespace Go.Am
open Go.Proofs
set_option maxRecDepth 100000

theorem bud_all : bud 1048576 := ⟨by decide, by decide⟩
theorem okW_of {w : DWorld} (hs : smDWorld w) (hg : gdDWorld w) : okW w := by
  obtain ⟨_, _, hl, hq, _⟩ := hg
  refine ⟨hs, fun i hi => ?_, fun i hi => ?_⟩
  · have h := hl.2 i hi
    exact ⟨h.2.2.2.2.2.2.1, h.2.2.2.2.2.1⟩
  · exact (hq.2 i hi).2.1

noncomputable def ac_lawCallsFor (f : FuncId) (args : List A) (d : Nat) (s : St) (K : A → St → Prop) : Prop := acOf [(13, acP pre_szWorld as_szWorld post_szWorld), (15, acF pre_toWorld as_toWorld res_toWorld), (17, acF pre_eqWorld as_eqWorld res_eqWorld), (14, acF pre_s_CallsFor as_s_CallsFor res_s_CallsFor), (16, acF pre_i_CallsFor as_i_CallsFor res_i_CallsFor)] f args d s K
theorem lawCallsFor (w : DWorld) (hg : gdDWorld w) : Fnk Try.prog 3 [.agg (DWorld.cells false w)] (fun r => r = Bo true) := by
  have hlim := lim_gd_World hg
  refine Fnk.of_axF (AC := ac_lawCallsFor) (Γ := gam) (fn := Try.f3) Try.func3 rfl (by kernel_rfl) gam_ok (fun F args d s K h => (acP_cons ok_szWorld (acF_cons ok_toWorld (acF_cons ok_eqWorld (acF_cons ok_s_CallsFor (acF_cons ok_i_CallsFor acOf_nil))))) F args d s K h) mo (by kernel_rfl) (Nat.le_of_ble_eq_true rfl) (fun post hp => ?_)
  simp only [Try.f3]
  cbv
  refine acP.go (X := DWorld × Int) (w, 1048576) ⟨bud_all, hlim⟩ rfl rfl ?_
  rintro _ ⟨v, rfl, hv, hs⟩
  cbv
  refine bcase_intro (fun h => ?_) (fun h => ?_)
  · cbv
    refine FinAx.own ?_
    cbv
    exact hp
  · have hsm : smDWorld w := hs (by simp only [ilt_eq] at h; simpa using h)
    have hok : okW w := okW_of hsm hg
    cbv
    refine acF.go (X := DWorld) w hsm rfl rfl ?_
    cbv
    refine acF.look (X := DWorld) w hok (.cons (.agg (.cons .val (.cons .val (.cons .val (.cons .val (.cons .val (.cons .val (.cons (fzl_bytes rfl (fun _ => rfl)) (.cons (fzl_ints rfl (fun _ => rfl)) (.cons (fzl_ints rfl (fun _ => rfl)) (.cons (fzl_nodes rfl (fun _ => rfl)) (.cons (fzl_wastes rfl (fun _ => rfl)) (.cons (fzl_ints rfl (fun _ => rfl)) .nil))))))))))))) .nil) .val ?_
    cbv
    refine acF.go (X := DWorld) w hsm rfl rfl ?_
    cbv
    refine acF.look (X := DWorld) w hok (.cons (.agg (.cons .val (.cons .val (.cons .val (.cons .val (.cons .val (.cons .val (.cons (fzl_bytes rfl (fun _ => rfl)) (.cons (fzl_ints rfl (fun _ => rfl)) (.cons (fzl_ints rfl (fun _ => rfl)) (.cons (fzl_nodes rfl (fun _ => rfl)) (.cons (fzl_wastes rfl (fun _ => rfl)) (.cons (fzl_ints rfl (fun _ => rfl)) .nil))))))))))))) .nil) .val ?_
    cbv
    refine bcase_intro (fun h => ?_) (fun h => ?_)
    · simp only [ine_eq] at h
      simp at h
    · cbv
      refine DrawAx.of (fun q => q == 128 || q == 384) _ ?_ (fun _ h => h)
      cbv
      refine acF.go (X := DWorld) w hsm rfl rfl ?_
      cbv
      refine acF.look (X := DWorld × DWorld) (w, w) hsm (.cons (.agg (.cons .val (.cons .val (.cons .val (.cons .val (.cons .val (.cons .val (.cons (fzl_bytes rfl (fun _ => rfl)) (.cons (fzl_ints rfl (fun _ => rfl)) (.cons (fzl_ints rfl (fun _ => rfl)) (.cons (fzl_nodes rfl (fun _ => rfl)) (.cons (fzl_wastes rfl (fun _ => rfl)) (.cons (fzl_ints rfl (fun _ => rfl)) .nil))))))))))))) (.cons (.agg (.cons .val (.cons .val (.cons .val (.cons .val (.cons .val (.cons .val (.cons (fzl_bytes rfl (fun _ => rfl)) (.cons (fzl_ints rfl (fun _ => rfl)) (.cons (fzl_ints rfl (fun _ => rfl)) (.cons (fzl_nodes rfl (fun _ => rfl)) (.cons (fzl_wastes rfl (fun _ => rfl)) (.cons (fzl_ints rfl (fun _ => rfl)) .nil))))))))))))) .nil)) .val ?_
      cbv
      refine bcase_intro (fun h => absurd rfl (eqb_ne h)) (fun h => ?_)
      cbv
      refine FinAx.own ?_
      cbv
      exact hp

noncomputable def ac_lawBoundFor (f : FuncId) (args : List A) (d : Nat) (s : St) (K : A → St → Prop) : Prop := acOf [(13, acP pre_szWorld as_szWorld post_szWorld), (15, acF pre_toWorld as_toWorld res_toWorld), (17, acF pre_eqWorld as_eqWorld res_eqWorld), (18, acF pre_s_BoundFor as_s_BoundFor res_s_BoundFor), (19, acF pre_i_BoundFor as_i_BoundFor res_i_BoundFor)] f args d s K
theorem lawBoundFor (w : DWorld) (hg : gdDWorld w) : Fnk Try.prog 4 [.agg (DWorld.cells false w)] (fun r => r = Bo true) := by
  have hlim := lim_gd_World hg
  refine Fnk.of_axF (AC := ac_lawBoundFor) (Γ := gam) (fn := Try.f4) Try.func4 rfl (by kernel_rfl) gam_ok (fun F args d s K h => (acP_cons ok_szWorld (acF_cons ok_toWorld (acF_cons ok_eqWorld (acF_cons ok_s_BoundFor (acF_cons ok_i_BoundFor acOf_nil))))) F args d s K h) mo (by kernel_rfl) (Nat.le_of_ble_eq_true rfl) (fun post hp => ?_)
  simp only [Try.f4]
  cbv
  refine acP.go (X := DWorld × Int) (w, 1048576) ⟨bud_all, hlim⟩ rfl rfl ?_
  rintro _ ⟨v, rfl, hv, hs⟩
  cbv
  refine bcase_intro (fun h => ?_) (fun h => ?_)
  · cbv
    refine FinAx.own ?_
    cbv
    exact hp
  · have hsm : smDWorld w := hs (by simp only [ilt_eq] at h; simpa using h)
    have hok : okW w := okW_of hsm hg
    cbv
    refine acF.go (X := DWorld) w hsm rfl rfl ?_
    cbv
    refine acF.look (X := DWorld) w hok (.cons (.agg (.cons .val (.cons .val (.cons .val (.cons .val (.cons .val (.cons .val (.cons (fzl_bytes rfl (fun _ => rfl)) (.cons (fzl_ints rfl (fun _ => rfl)) (.cons (fzl_ints rfl (fun _ => rfl)) (.cons (fzl_nodes rfl (fun _ => rfl)) (.cons (fzl_wastes rfl (fun _ => rfl)) (.cons (fzl_ints rfl (fun _ => rfl)) .nil))))))))))))) .nil) .val ?_
    cbv
    refine acF.go (X := DWorld) w hsm rfl rfl ?_
    cbv
    refine acF.look (X := DWorld) w hok (.cons (.agg (.cons .val (.cons .val (.cons .val (.cons .val (.cons .val (.cons .val (.cons (fzl_bytes rfl (fun _ => rfl)) (.cons (fzl_ints rfl (fun _ => rfl)) (.cons (fzl_ints rfl (fun _ => rfl)) (.cons (fzl_nodes rfl (fun _ => rfl)) (.cons (fzl_wastes rfl (fun _ => rfl)) (.cons (fzl_ints rfl (fun _ => rfl)) .nil))))))))))))) .nil) .val ?_
    cbv
    refine bcase_intro (fun h => ?_) (fun h => ?_)
    · simp only [ine_eq] at h
      simp at h
    · cbv
      refine DrawAx.of (fun q => q == 128 || q == 384) _ ?_ (fun _ h => h)
      cbv
      refine acF.go (X := DWorld) w hsm rfl rfl ?_
      cbv
      refine acF.look (X := DWorld × DWorld) (w, w) hsm (.cons (.agg (.cons .val (.cons .val (.cons .val (.cons .val (.cons .val (.cons .val (.cons (fzl_bytes rfl (fun _ => rfl)) (.cons (fzl_ints rfl (fun _ => rfl)) (.cons (fzl_ints rfl (fun _ => rfl)) (.cons (fzl_nodes rfl (fun _ => rfl)) (.cons (fzl_wastes rfl (fun _ => rfl)) (.cons (fzl_ints rfl (fun _ => rfl)) .nil))))))))))))) (.cons (.agg (.cons .val (.cons .val (.cons .val (.cons .val (.cons .val (.cons .val (.cons (fzl_bytes rfl (fun _ => rfl)) (.cons (fzl_ints rfl (fun _ => rfl)) (.cons (fzl_ints rfl (fun _ => rfl)) (.cons (fzl_nodes rfl (fun _ => rfl)) (.cons (fzl_wastes rfl (fun _ => rfl)) (.cons (fzl_ints rfl (fun _ => rfl)) .nil))))))))))))) .nil)) .val ?_
      cbv
      refine bcase_intro (fun h => absurd rfl (eqb_ne h)) (fun h => ?_)
      cbv
      refine FinAx.own ?_
      cbv
      exact hp

end Go.Am
end
