/- PRINTED by law.py: data that own memory, where nobody writes. -/
import Derived.Test.YtkbdhffgmahpdaaB2
import Derived.Test.YtkbdhffgmahpdaaB6
section
set_option linter.all false
namespace Go.Am
open Go.Proofs
set_option maxRecDepth 100000

theorem fzo_ints {H : Nat → Option Ob} (l : List Int) : Fz H (Am.ints true l) (Am.ints false l) := .own (fun i _ => .cons .val .nil)
theorem fzo_bytes {H : Nat → Option Ob} (l : List Int) : Fz H (Am.bytes true l) (Am.bytes false l) := .own (fun i _ => .cons .val .nil)
theorem fzl_ints {H : Nat → Option Ob} {id : Nat} {l : List Int} {g : Nat → List A} (h : H id = some ⟨1, ln l, g⟩) (hg : ∀ i, g i = [I (at' l i)]) : Fz H (.sl id 0 (ln l)) (Am.ints false l) :=
  .sl h (by simp) (fun i _ => by simp only [hg, Nat.zero_add]; exact .cons .val .nil)
theorem fzl_bytes {H : Nat → Option Ob} {id : Nat} {l : List Int} {g : Nat → List A} (h : H id = some ⟨1, ln l, g⟩) (hg : ∀ i, g i = [U (at' l i)]) : Fz H (.sl id 0 (ln l)) (Am.bytes false l) :=
  .sl h (by simp) (fun i _ => by simp only [hg, Nat.zero_add]; exact .cons .val .nil)
theorem fzc_Conf {H : Nat → Option Ob} (m : DConf) : Fzs H (DConf.cells true m) (DConf.cells false m) := .cons .val (.cons .val (.cons .val (.cons .val (.cons .val (.cons .val .nil)))))
theorem fzo_confs {H : Nat → Option Ob} (l : List DConf) : Fz H (Am.confs true l) (Am.confs false l) := .own (fun i _ => fzc_Conf _)
theorem fzl_confs {H : Nat → Option Ob} {id : Nat} {l : List DConf} {g : Nat → List A} (h : H id = some ⟨6, ln l, g⟩) (hg : ∀ i, g i = DConf.cells true (at' l i)) : Fz H (.sl id 0 (ln l)) (Am.confs false l) :=
  .sl h (by simp) (fun i _ => by simp only [hg, Nat.zero_add]; exact fzc_Conf _)
theorem fzc_Pool {H : Nat → Option Ob} (m : DPool) : Fzs H (DPool.cells true m) (DPool.cells false m) := .cons (fzo_bytes _) (.cons (fzo_ints _) (.cons (fzo_ints _) .nil))
theorem fzo_pools {H : Nat → Option Ob} (l : List DPool) : Fz H (Am.pools true l) (Am.pools false l) := .own (fun i _ => fzc_Pool _)
theorem fzl_pools {H : Nat → Option Ob} {id : Nat} {l : List DPool} {g : Nat → List A} (h : H id = some ⟨3, ln l, g⟩) (hg : ∀ i, g i = DPool.cells true (at' l i)) : Fz H (.sl id 0 (ln l)) (Am.pools false l) :=
  .sl h (by simp) (fun i _ => by simp only [hg, Nat.zero_add]; exact fzc_Pool _)
theorem fzc_Thing {H : Nat → Option Ob} (m : DThing) : Fzs H (DThing.cells true m) (DThing.cells false m) := .cons .val (.cons .val (.cons .val .nil))
theorem fzo_things {H : Nat → Option Ob} (l : List DThing) : Fz H (Am.things true l) (Am.things false l) := .own (fun i _ => fzc_Thing _)
theorem fzl_things {H : Nat → Option Ob} {id : Nat} {l : List DThing} {g : Nat → List A} (h : H id = some ⟨3, ln l, g⟩) (hg : ∀ i, g i = DThing.cells true (at' l i)) : Fz H (.sl id 0 (ln l)) (Am.things false l) :=
  .sl h (by simp) (fun i _ => by simp only [hg, Nat.zero_add]; exact fzc_Thing _)
theorem fzc_Node {H : Nat → Option Ob} (m : DNode) : Fzs H (DNode.cells true m) (DNode.cells false m) := .cons .val (.cons .val (.cons .val (.cons .val (.cons .val (.cons .val (.cons .val (.cons .val (.cons (fzo_ints _) (.cons .val (.cons .val (.cons (fzo_things _) (.cons (fzo_ints _) .nil))))))))))))
theorem fzo_nodes {H : Nat → Option Ob} (l : List DNode) : Fz H (Am.nodes true l) (Am.nodes false l) := .own (fun i _ => fzc_Node _)
theorem fzl_nodes {H : Nat → Option Ob} {id : Nat} {l : List DNode} {g : Nat → List A} (h : H id = some ⟨13, ln l, g⟩) (hg : ∀ i, g i = DNode.cells true (at' l i)) : Fz H (.sl id 0 (ln l)) (Am.nodes false l) :=
  .sl h (by simp) (fun i _ => by simp only [hg, Nat.zero_add]; exact fzc_Node _)
theorem fzc_Waste {H : Nat → Option Ob} (m : DWaste) : Fzs H (DWaste.cells true m) (DWaste.cells false m) := .cons .val (.cons .val (.cons (fzo_ints _) (.cons (fzo_ints _) (.cons .val .nil))))
theorem fzo_wastes {H : Nat → Option Ob} (l : List DWaste) : Fz H (Am.wastes true l) (Am.wastes false l) := .own (fun i _ => fzc_Waste _)
theorem fzl_wastes {H : Nat → Option Ob} {id : Nat} {l : List DWaste} {g : Nat → List A} (h : H id = some ⟨5, ln l, g⟩) (hg : ∀ i, g i = DWaste.cells true (at' l i)) : Fz H (.sl id 0 (ln l)) (Am.wastes false l) :=
  .sl h (by simp) (fun i _ => by simp only [hg, Nat.zero_add]; exact fzc_Waste _)
theorem fzc_World {H : Nat → Option Ob} (m : DWorld) : Fzs H (DWorld.cells true m) (DWorld.cells false m) := .cons .val (.cons .val (.cons .val (.cons .val (.cons .val (.cons .val (.cons (fzo_bytes _) (.cons (fzo_ints _) (.cons (fzo_ints _) (.cons (fzo_nodes _) (.cons (fzo_wastes _) (.cons (fzo_ints _) .nil)))))))))))
theorem fzo_worlds {H : Nat → Option Ob} (l : List DWorld) : Fz H (Am.worlds true l) (Am.worlds false l) := .own (fun i _ => fzc_World _)
theorem fzl_worlds {H : Nat → Option Ob} {id : Nat} {l : List DWorld} {g : Nat → List A} (h : H id = some ⟨12, ln l, g⟩) (hg : ∀ i, g i = DWorld.cells true (at' l i)) : Fz H (.sl id 0 (ln l)) (Am.worlds false l) :=
  .sl h (by simp) (fun i _ => by simp only [hg, Nat.zero_add]; exact fzc_World _)
theorem fzc_Handle {H : Nat → Option Ob} (m : DHandle) : Fzs H (DHandle.cells true m) (DHandle.cells false m) := .cons .val (.cons .val .nil)
theorem fzo_handles {H : Nat → Option Ob} (l : List DHandle) : Fz H (Am.handles true l) (Am.handles false l) := .own (fun i _ => fzc_Handle _)
theorem fzl_handles {H : Nat → Option Ob} {id : Nat} {l : List DHandle} {g : Nat → List A} (h : H id = some ⟨2, ln l, g⟩) (hg : ∀ i, g i = DHandle.cells true (at' l i)) : Fz H (.sl id 0 (ln l)) (Am.handles false l) :=
  .sl h (by simp) (fun i _ => by simp only [hg, Nat.zero_add]; exact fzc_Handle _)
theorem fzc_Ref {H : Nat → Option Ob} (m : DRef) : Fzs H (DRef.cells true m) (DRef.cells false m) := .cons .val (.cons .val (.cons .val (.cons .val .nil)))
theorem fzo_refs {H : Nat → Option Ob} (l : List DRef) : Fz H (Am.refs true l) (Am.refs false l) := .own (fun i _ => fzc_Ref _)
theorem fzl_refs {H : Nat → Option Ob} {id : Nat} {l : List DRef} {g : Nat → List A} (h : H id = some ⟨4, ln l, g⟩) (hg : ∀ i, g i = DRef.cells true (at' l i)) : Fz H (.sl id 0 (ln l)) (Am.refs false l) :=
  .sl h (by simp) (fun i _ => by simp only [hg, Nat.zero_add]; exact fzc_Ref _)
theorem fzc_Stuff {H : Nat → Option Ob} (m : DStuff) : Fzs H (DStuff.cells true m) (DStuff.cells false m) := .cons (fzo_bytes _) .nil
theorem fzo_stuffs {H : Nat → Option Ob} (l : List DStuff) : Fz H (Am.stuffs true l) (Am.stuffs false l) := .own (fun i _ => fzc_Stuff _)
theorem fzl_stuffs {H : Nat → Option Ob} {id : Nat} {l : List DStuff} {g : Nat → List A} (h : H id = some ⟨1, ln l, g⟩) (hg : ∀ i, g i = DStuff.cells true (at' l i)) : Fz H (.sl id 0 (ln l)) (Am.stuffs false l) :=
  .sl h (by simp) (fun i _ => by simp only [hg, Nat.zero_add]; exact fzc_Stuff _)
theorem fzc_Room {H : Nat → Option Ob} (m : DRoom) : Fzs H (DRoom.cells true m) (DRoom.cells false m) := .cons .val (.cons .val (.cons .val (.cons .val (.cons (fzo_handles _) (.cons .val (.cons .val (.cons .val (.cons .val (.cons (fzo_stuffs _) (.cons (fzo_ints _) .nil))))))))))
theorem fzo_rooms {H : Nat → Option Ob} (l : List DRoom) : Fz H (Am.rooms true l) (Am.rooms false l) := .own (fun i _ => fzc_Room _)
theorem fzl_rooms {H : Nat → Option Ob} {id : Nat} {l : List DRoom} {g : Nat → List A} (h : H id = some ⟨11, ln l, g⟩) (hg : ∀ i, g i = DRoom.cells true (at' l i)) : Fz H (.sl id 0 (ln l)) (Am.rooms false l) :=
  .sl h (by simp) (fun i _ => by simp only [hg, Nat.zero_add]; exact fzc_Room _)
theorem fzc_Model {H : Nat → Option Ob} (m : DModel) : Fzs H (DModel.cells true m) (DModel.cells false m) := .cons .val (.cons .val (.cons .val (.cons .val (.cons .val (.cons .val (.cons (fzo_rooms _) (.cons (fzo_ints _) .nil)))))))
theorem fzo_models {H : Nat → Option Ob} (l : List DModel) : Fz H (Am.models true l) (Am.models false l) := .own (fun i _ => fzc_Model _)
theorem fzl_models {H : Nat → Option Ob} {id : Nat} {l : List DModel} {g : Nat → List A} (h : H id = some ⟨8, ln l, g⟩) (hg : ∀ i, g i = DModel.cells true (at' l i)) : Fz H (.sl id 0 (ln l)) (Am.models false l) :=
  .sl h (by simp) (fun i _ => by simp only [hg, Nat.zero_add]; exact fzc_Model _)
theorem lim_gd_Conf {m : DConf} (h : gdDConf m) : limDConf m := trivial
theorem lim_gd_Pool {m : DPool} (h : gdDPool m) : limDPool m := ⟨h.1.1, h.2.1.1, h.2.2.1⟩
theorem lim_gd_Thing {m : DThing} (h : gdDThing m) : limDThing m := trivial
theorem lim_gd_Node {m : DNode} (h : gdDNode m) : limDNode m := ⟨h.2.2.2.2.2.2.2.2.1.1, h.2.2.2.2.2.2.2.2.2.2.2.1.1, h.2.2.2.2.2.2.2.2.2.2.2.2.1⟩
theorem lim_gd_Waste {m : DWaste} (h : gdDWaste m) : limDWaste m := ⟨h.2.2.1.1, h.2.2.2.1.1⟩
theorem lim_gd_World {m : DWorld} (h : gdDWorld m) : limDWorld m := ⟨lim_gd_Pool h.2.1, ⟨h.2.2.1.1, fun i hi => lim_gd_Node (h.2.2.1.2 i hi)⟩, ⟨h.2.2.2.1.1, fun i hi => lim_gd_Waste (h.2.2.2.1.2 i hi)⟩, h.2.2.2.2.1⟩
theorem lim_gd_Handle {m : DHandle} (h : gdDHandle m) : limDHandle m := trivial
theorem lim_gd_Ref {m : DRef} (h : gdDRef m) : limDRef m := trivial
theorem lim_gd_Stuff {m : DStuff} (h : gdDStuff m) : limDStuff m := h.1
theorem lim_gd_Room {m : DRoom} (h : gdDRoom m) : limDRoom m := ⟨h.2.2.1.1, ⟨h.2.2.2.2.2.2.2.1.1, fun i hi => lim_gd_Stuff (h.2.2.2.2.2.2.2.1.2 i hi)⟩, h.2.2.2.2.2.2.2.2.1⟩
theorem lim_gd_Model {m : DModel} (h : gdDModel m) : limDModel m := ⟨⟨h.2.1.1, fun i hi => lim_gd_Room (h.2.1.2 i hi)⟩, h.2.2.1⟩
end Go.Am
end
