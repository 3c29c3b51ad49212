/- Data: what the program keeps, and its cells. PRINTED by data.py. · What the walks share. -/
import Derived.Test.YtkbdhffgmahpdaaB0
import Derived.Test.YtkbdhffgmahpdaaA9
section
set_option linter.all false
namespace Go.Am
noncomputable def bytes (o : Bool) (l : List Int) : A := .slc o 1 (ln l) (fun i => [U (at' l i)])
inductive DConfF : Unit → Type
  | mk (a0 : Int) (a1 : Int) (a2 : Int) (a3 : Int) (a4 : Int) (a5 : Int) : DConfF ()
def DConf : Type := DConfF ()
abbrev DConf.mk (a0 : Int) (a1 : Int) (a2 : Int) (a3 : Int) (a4 : Int) (a5 : Int) : DConf := DConfF.mk a0 a1 a2 a3 a4 a5
instance : Inhabited DConf := ⟨DConfF.mk default default default default default default⟩
def DConf.chunks_ (a0 : Int) (_a1 : Int) (_a2 : Int) (_a3 : Int) (_a4 : Int) (_a5 : Int) : Int := a0
@[reducible] noncomputable def DConf.chunks (m : DConf) : Int := @DConfF.rec (fun _ _ => Int) DConf.chunks_ () m
def DConf.size_ (_a0 : Int) (a1 : Int) (_a2 : Int) (_a3 : Int) (_a4 : Int) (_a5 : Int) : Int := a1
@[reducible] noncomputable def DConf.size (m : DConf) : Int := @DConfF.rec (fun _ _ => Int) DConf.size_ () m
def DConf.slots_ (_a0 : Int) (_a1 : Int) (a2 : Int) (_a3 : Int) (_a4 : Int) (_a5 : Int) : Int := a2
@[reducible] noncomputable def DConf.slots (m : DConf) : Int := @DConfF.rec (fun _ _ => Int) DConf.slots_ () m
def DConf.tax_ (_a0 : Int) (_a1 : Int) (_a2 : Int) (a3 : Int) (_a4 : Int) (_a5 : Int) : Int := a3
@[reducible] noncomputable def DConf.tax (m : DConf) : Int := @DConfF.rec (fun _ _ => Int) DConf.tax_ () m
def DConf.slice_ (_a0 : Int) (_a1 : Int) (_a2 : Int) (_a3 : Int) (a4 : Int) (_a5 : Int) : Int := a4
@[reducible] noncomputable def DConf.slice (m : DConf) : Int := @DConfF.rec (fun _ _ => Int) DConf.slice_ () m
def DConf.gens_ (_a0 : Int) (_a1 : Int) (_a2 : Int) (_a3 : Int) (_a4 : Int) (a5 : Int) : Int := a5
@[reducible] noncomputable def DConf.gens (m : DConf) : Int := @DConfF.rec (fun _ _ => Int) DConf.gens_ () m
theorem DConf.eta (m : DConf) : DConf.mk (DConf.chunks m) (DConf.size m) (DConf.slots m) (DConf.tax m) (DConf.slice m) (DConf.gens m) = m := by cases m; rfl
theorem DConf.same {a b : DConf} (h0 : DConf.chunks a = DConf.chunks b) (h1 : DConf.size a = DConf.size b) (h2 : DConf.slots a = DConf.slots b) (h3 : DConf.tax a = DConf.tax b) (h4 : DConf.slice a = DConf.slice b) (h5 : DConf.gens a = DConf.gens b) : a = b := by rw [← DConf.eta a, ← DConf.eta b, h0, h1, h2, h3, h4, h5]
noncomputable def DConf.cells (_o : Bool) (m : DConf) : List A := [I ((DConf.chunks m)), I ((DConf.size m)), I ((DConf.slots m)), I ((DConf.tax m)), I ((DConf.slice m)), I ((DConf.gens m))]
noncomputable def confs (o : Bool) (l : List DConf) : A := .slc o 6 (ln l) (fun i => DConf.cells o (at' l i))
inductive DPoolF : Unit → Type
  | mk (a0 : List Int) (a1 : List Int) (a2 : List Int) : DPoolF ()
def DPool : Type := DPoolF ()
abbrev DPool.mk (a0 : List Int) (a1 : List Int) (a2 : List Int) : DPool := DPoolF.mk a0 a1 a2
instance : Inhabited DPool := ⟨DPoolF.mk default default default⟩
def DPool.mem_ (a0 : List Int) (_a1 : List Int) (_a2 : List Int) : List Int := a0
@[reducible] noncomputable def DPool.mem (m : DPool) : List Int := @DPoolF.rec (fun _ _ => List Int) DPool.mem_ () m
def DPool.st_ (_a0 : List Int) (a1 : List Int) (_a2 : List Int) : List Int := a1
@[reducible] noncomputable def DPool.st (m : DPool) : List Int := @DPoolF.rec (fun _ _ => List Int) DPool.st_ () m
def DPool.own_ (_a0 : List Int) (_a1 : List Int) (a2 : List Int) : List Int := a2
@[reducible] noncomputable def DPool.own (m : DPool) : List Int := @DPoolF.rec (fun _ _ => List Int) DPool.own_ () m
theorem DPool.eta (m : DPool) : DPool.mk (DPool.mem m) (DPool.st m) (DPool.own m) = m := by cases m; rfl
theorem DPool.same {a b : DPool} (h0 : DPool.mem a = DPool.mem b) (h1 : DPool.st a = DPool.st b) (h2 : DPool.own a = DPool.own b) : a = b := by rw [← DPool.eta a, ← DPool.eta b, h0, h1, h2]
noncomputable def DPool.cells (o : Bool) (m : DPool) : List A := [Am.bytes o (DPool.mem m), Am.ints o (DPool.st m), Am.ints o (DPool.own m)]
noncomputable def pools (o : Bool) (l : List DPool) : A := .slc o 3 (ln l) (fun i => DPool.cells o (at' l i))
inductive DThingF : Unit → Type
  | mk (a0 : Int) (a1 : Int) (a2 : Int) : DThingF ()
def DThing : Type := DThingF ()
abbrev DThing.mk (a0 : Int) (a1 : Int) (a2 : Int) : DThing := DThingF.mk a0 a1 a2
instance : Inhabited DThing := ⟨DThingF.mk default default default⟩
def DThing.pos_ (a0 : Int) (_a1 : Int) (_a2 : Int) : Int := a0
@[reducible] noncomputable def DThing.pos (m : DThing) : Int := @DThingF.rec (fun _ _ => Int) DThing.pos_ () m
def DThing.len_ (_a0 : Int) (a1 : Int) (_a2 : Int) : Int := a1
@[reducible] noncomputable def DThing.len (m : DThing) : Int := @DThingF.rec (fun _ _ => Int) DThing.len_ () m
def DThing.run_ (_a0 : Int) (_a1 : Int) (a2 : Int) : Int := a2
@[reducible] noncomputable def DThing.run (m : DThing) : Int := @DThingF.rec (fun _ _ => Int) DThing.run_ () m
theorem DThing.eta (m : DThing) : DThing.mk (DThing.pos m) (DThing.len m) (DThing.run m) = m := by cases m; rfl
theorem DThing.same {a b : DThing} (h0 : DThing.pos a = DThing.pos b) (h1 : DThing.len a = DThing.len b) (h2 : DThing.run a = DThing.run b) : a = b := by rw [← DThing.eta a, ← DThing.eta b, h0, h1, h2]
noncomputable def DThing.cells (_o : Bool) (m : DThing) : List A := [I ((DThing.pos m)), I ((DThing.len m)), I ((DThing.run m))]
noncomputable def things (o : Bool) (l : List DThing) : A := .slc o 3 (ln l) (fun i => DThing.cells o (at' l i))
inductive DNodeF : Unit → Type
  | mk (a0 : Int) (a1 : Int) (a2 : Int) (a3 : Int) (a4 : Int) (a5 : Int) (a6 : Int) (a7 : Int) (a8 : List Int) (a9 : Int) (a10 : Int) (a11 : List DThing) (a12 : List Int) : DNodeF ()
def DNode : Type := DNodeF ()
abbrev DNode.mk (a0 : Int) (a1 : Int) (a2 : Int) (a3 : Int) (a4 : Int) (a5 : Int) (a6 : Int) (a7 : Int) (a8 : List Int) (a9 : Int) (a10 : Int) (a11 : List DThing) (a12 : List Int) : DNode := DNodeF.mk a0 a1 a2 a3 a4 a5 a6 a7 a8 a9 a10 a11 a12
instance : Inhabited DNode := ⟨DNodeF.mk default default default default default default default default default default default default default⟩
def DNode.st_ (a0 : Int) (_a1 : Int) (_a2 : Int) (_a3 : Int) (_a4 : Int) (_a5 : Int) (_a6 : Int) (_a7 : Int) (_a8 : List Int) (_a9 : Int) (_a10 : Int) (_a11 : List DThing) (_a12 : List Int) : Int := a0
@[reducible] noncomputable def DNode.st (m : DNode) : Int := @DNodeF.rec (fun _ _ => Int) DNode.st_ () m
def DNode.gen_ (_a0 : Int) (a1 : Int) (_a2 : Int) (_a3 : Int) (_a4 : Int) (_a5 : Int) (_a6 : Int) (_a7 : Int) (_a8 : List Int) (_a9 : Int) (_a10 : Int) (_a11 : List DThing) (_a12 : List Int) : Int := a1
@[reducible] noncomputable def DNode.gen (m : DNode) : Int := @DNodeF.rec (fun _ _ => Int) DNode.gen_ () m
def DNode.ep_ (_a0 : Int) (_a1 : Int) (a2 : Int) (_a3 : Int) (_a4 : Int) (_a5 : Int) (_a6 : Int) (_a7 : Int) (_a8 : List Int) (_a9 : Int) (_a10 : Int) (_a11 : List DThing) (_a12 : List Int) : Int := a2
@[reducible] noncomputable def DNode.ep (m : DNode) : Int := @DNodeF.rec (fun _ _ => Int) DNode.ep_ () m
def DNode.up_ (_a0 : Int) (_a1 : Int) (_a2 : Int) (a3 : Int) (_a4 : Int) (_a5 : Int) (_a6 : Int) (_a7 : Int) (_a8 : List Int) (_a9 : Int) (_a10 : Int) (_a11 : List DThing) (_a12 : List Int) : Int := a3
@[reducible] noncomputable def DNode.up (m : DNode) : Int := @DNodeF.rec (fun _ _ => Int) DNode.up_ () m
def DNode.upEp_ (_a0 : Int) (_a1 : Int) (_a2 : Int) (_a3 : Int) (a4 : Int) (_a5 : Int) (_a6 : Int) (_a7 : Int) (_a8 : List Int) (_a9 : Int) (_a10 : Int) (_a11 : List DThing) (_a12 : List Int) : Int := a4
@[reducible] noncomputable def DNode.upEp (m : DNode) : Int := @DNodeF.rec (fun _ _ => Int) DNode.upEp_ () m
def DNode.first_ (_a0 : Int) (_a1 : Int) (_a2 : Int) (_a3 : Int) (_a4 : Int) (a5 : Int) (_a6 : Int) (_a7 : Int) (_a8 : List Int) (_a9 : Int) (_a10 : Int) (_a11 : List DThing) (_a12 : List Int) : Int := a5
@[reducible] noncomputable def DNode.first (m : DNode) : Int := @DNodeF.rec (fun _ _ => Int) DNode.first_ () m
def DNode.next_ (_a0 : Int) (_a1 : Int) (_a2 : Int) (_a3 : Int) (_a4 : Int) (_a5 : Int) (a6 : Int) (_a7 : Int) (_a8 : List Int) (_a9 : Int) (_a10 : Int) (_a11 : List DThing) (_a12 : List Int) : Int := a6
@[reducible] noncomputable def DNode.next (m : DNode) : Int := @DNodeF.rec (fun _ _ => Int) DNode.next_ () m
def DNode.prev_ (_a0 : Int) (_a1 : Int) (_a2 : Int) (_a3 : Int) (_a4 : Int) (_a5 : Int) (_a6 : Int) (a7 : Int) (_a8 : List Int) (_a9 : Int) (_a10 : Int) (_a11 : List DThing) (_a12 : List Int) : Int := a7
@[reducible] noncomputable def DNode.prev (m : DNode) : Int := @DNodeF.rec (fun _ _ => Int) DNode.prev_ () m
def DNode.chunks_ (_a0 : Int) (_a1 : Int) (_a2 : Int) (_a3 : Int) (_a4 : Int) (_a5 : Int) (_a6 : Int) (_a7 : Int) (a8 : List Int) (_a9 : Int) (_a10 : Int) (_a11 : List DThing) (_a12 : List Int) : List Int := a8
@[reducible] noncomputable def DNode.chunks (m : DNode) : List Int := @DNodeF.rec (fun _ _ => List Int) DNode.chunks_ () m
def DNode.cur_ (_a0 : Int) (_a1 : Int) (_a2 : Int) (_a3 : Int) (_a4 : Int) (_a5 : Int) (_a6 : Int) (_a7 : Int) (_a8 : List Int) (a9 : Int) (_a10 : Int) (_a11 : List DThing) (_a12 : List Int) : Int := a9
@[reducible] noncomputable def DNode.cur (m : DNode) : Int := @DNodeF.rec (fun _ _ => Int) DNode.cur_ () m
def DNode.bump_ (_a0 : Int) (_a1 : Int) (_a2 : Int) (_a3 : Int) (_a4 : Int) (_a5 : Int) (_a6 : Int) (_a7 : Int) (_a8 : List Int) (_a9 : Int) (a10 : Int) (_a11 : List DThing) (_a12 : List Int) : Int := a10
@[reducible] noncomputable def DNode.bump (m : DNode) : Int := @DNodeF.rec (fun _ _ => Int) DNode.bump_ () m
def DNode.things_ (_a0 : Int) (_a1 : Int) (_a2 : Int) (_a3 : Int) (_a4 : Int) (_a5 : Int) (_a6 : Int) (_a7 : Int) (_a8 : List Int) (_a9 : Int) (_a10 : Int) (a11 : List DThing) (_a12 : List Int) : List DThing := a11
@[reducible] noncomputable def DNode.things (m : DNode) : List DThing := @DNodeF.rec (fun _ _ => List DThing) DNode.things_ () m
def DNode.tags_ (_a0 : Int) (_a1 : Int) (_a2 : Int) (_a3 : Int) (_a4 : Int) (_a5 : Int) (_a6 : Int) (_a7 : Int) (_a8 : List Int) (_a9 : Int) (_a10 : Int) (_a11 : List DThing) (a12 : List Int) : List Int := a12
@[reducible] noncomputable def DNode.tags (m : DNode) : List Int := @DNodeF.rec (fun _ _ => List Int) DNode.tags_ () m
theorem DNode.eta (m : DNode) : DNode.mk (DNode.st m) (DNode.gen m) (DNode.ep m) (DNode.up m) (DNode.upEp m) (DNode.first m) (DNode.next m) (DNode.prev m) (DNode.chunks m) (DNode.cur m) (DNode.bump m) (DNode.things m) (DNode.tags m) = m := by cases m; rfl
theorem DNode.same {a b : DNode} (h0 : DNode.st a = DNode.st b) (h1 : DNode.gen a = DNode.gen b) (h2 : DNode.ep a = DNode.ep b) (h3 : DNode.up a = DNode.up b) (h4 : DNode.upEp a = DNode.upEp b) (h5 : DNode.first a = DNode.first b) (h6 : DNode.next a = DNode.next b) (h7 : DNode.prev a = DNode.prev b) (h8 : DNode.chunks a = DNode.chunks b) (h9 : DNode.cur a = DNode.cur b) (h10 : DNode.bump a = DNode.bump b) (h11 : DNode.things a = DNode.things b) (h12 : DNode.tags a = DNode.tags b) : a = b := by rw [← DNode.eta a, ← DNode.eta b, h0, h1, h2, h3, h4, h5, h6, h7, h8, h9, h10, h11, h12]
noncomputable def DNode.cells (o : Bool) (m : DNode) : List A := [I ((DNode.st m)), I ((DNode.gen m)), I ((DNode.ep m)), I ((DNode.up m)), I ((DNode.upEp m)), I ((DNode.first m)), I ((DNode.next m)), I ((DNode.prev m)), Am.ints o (DNode.chunks m), I ((DNode.cur m)), I ((DNode.bump m)), Am.things o (DNode.things m), Am.ints o (DNode.tags m)]
noncomputable def nodes (o : Bool) (l : List DNode) : A := .slc o 13 (ln l) (fun i => DNode.cells o (at' l i))
inductive DWasteF : Unit → Type
  | mk (a0 : Int) (a1 : Int) (a2 : List Int) (a3 : List Int) (a4 : Int) : DWasteF ()
def DWaste : Type := DWasteF ()
abbrev DWaste.mk (a0 : Int) (a1 : Int) (a2 : List Int) (a3 : List Int) (a4 : Int) : DWaste := DWasteF.mk a0 a1 a2 a3 a4
instance : Inhabited DWaste := ⟨DWasteF.mk default default default default default⟩
def DWaste.slot_ (a0 : Int) (_a1 : Int) (_a2 : List Int) (_a3 : List Int) (_a4 : Int) : Int := a0
@[reducible] noncomputable def DWaste.slot (m : DWaste) : Int := @DWasteF.rec (fun _ _ => Int) DWaste.slot_ () m
def DWaste.first_ (_a0 : Int) (a1 : Int) (_a2 : List Int) (_a3 : List Int) (_a4 : Int) : Int := a1
@[reducible] noncomputable def DWaste.first (m : DWaste) : Int := @DWasteF.rec (fun _ _ => Int) DWaste.first_ () m
def DWaste.tags_ (_a0 : Int) (_a1 : Int) (a2 : List Int) (_a3 : List Int) (_a4 : Int) : List Int := a2
@[reducible] noncomputable def DWaste.tags (m : DWaste) : List Int := @DWasteF.rec (fun _ _ => List Int) DWaste.tags_ () m
def DWaste.chunks_ (_a0 : Int) (_a1 : Int) (_a2 : List Int) (a3 : List Int) (_a4 : Int) : List Int := a3
@[reducible] noncomputable def DWaste.chunks (m : DWaste) : List Int := @DWasteF.rec (fun _ _ => List Int) DWaste.chunks_ () m
def DWaste.done_ (_a0 : Int) (_a1 : Int) (_a2 : List Int) (_a3 : List Int) (a4 : Int) : Int := a4
@[reducible] noncomputable def DWaste.done (m : DWaste) : Int := @DWasteF.rec (fun _ _ => Int) DWaste.done_ () m
theorem DWaste.eta (m : DWaste) : DWaste.mk (DWaste.slot m) (DWaste.first m) (DWaste.tags m) (DWaste.chunks m) (DWaste.done m) = m := by cases m; rfl
theorem DWaste.same {a b : DWaste} (h0 : DWaste.slot a = DWaste.slot b) (h1 : DWaste.first a = DWaste.first b) (h2 : DWaste.tags a = DWaste.tags b) (h3 : DWaste.chunks a = DWaste.chunks b) (h4 : DWaste.done a = DWaste.done b) : a = b := by rw [← DWaste.eta a, ← DWaste.eta b, h0, h1, h2, h3, h4]
noncomputable def DWaste.cells (o : Bool) (m : DWaste) : List A := [I ((DWaste.slot m)), I ((DWaste.first m)), Am.ints o (DWaste.tags m), Am.ints o (DWaste.chunks m), I ((DWaste.done m))]
noncomputable def wastes (o : Bool) (l : List DWaste) : A := .slc o 5 (ln l) (fun i => DWaste.cells o (at' l i))
inductive DWorldF : Unit → Type
  | mk (a0 : DConf) (a1 : DPool) (a2 : List DNode) (a3 : List DWaste) (a4 : List Int) : DWorldF ()
def DWorld : Type := DWorldF ()
abbrev DWorld.mk (a0 : DConf) (a1 : DPool) (a2 : List DNode) (a3 : List DWaste) (a4 : List Int) : DWorld := DWorldF.mk a0 a1 a2 a3 a4
instance : Inhabited DWorld := ⟨DWorldF.mk default default default default default⟩
def DWorld.c_ (a0 : DConf) (_a1 : DPool) (_a2 : List DNode) (_a3 : List DWaste) (_a4 : List Int) : DConf := a0
@[reducible] noncomputable def DWorld.c (m : DWorld) : DConf := @DWorldF.rec (fun _ _ => DConf) DWorld.c_ () m
def DWorld.p_ (_a0 : DConf) (a1 : DPool) (_a2 : List DNode) (_a3 : List DWaste) (_a4 : List Int) : DPool := a1
@[reducible] noncomputable def DWorld.p (m : DWorld) : DPool := @DWorldF.rec (fun _ _ => DPool) DWorld.p_ () m
def DWorld.l_ (_a0 : DConf) (_a1 : DPool) (a2 : List DNode) (_a3 : List DWaste) (_a4 : List Int) : List DNode := a2
@[reducible] noncomputable def DWorld.l (m : DWorld) : List DNode := @DWorldF.rec (fun _ _ => List DNode) DWorld.l_ () m
def DWorld.q_ (_a0 : DConf) (_a1 : DPool) (_a2 : List DNode) (a3 : List DWaste) (_a4 : List Int) : List DWaste := a3
@[reducible] noncomputable def DWorld.q (m : DWorld) : List DWaste := @DWorldF.rec (fun _ _ => List DWaste) DWorld.q_ () m
def DWorld.log_ (_a0 : DConf) (_a1 : DPool) (_a2 : List DNode) (_a3 : List DWaste) (a4 : List Int) : List Int := a4
@[reducible] noncomputable def DWorld.log (m : DWorld) : List Int := @DWorldF.rec (fun _ _ => List Int) DWorld.log_ () m
theorem DWorld.eta (m : DWorld) : DWorld.mk (DWorld.c m) (DWorld.p m) (DWorld.l m) (DWorld.q m) (DWorld.log m) = m := by cases m; rfl
theorem DWorld.same {a b : DWorld} (h0 : DWorld.c a = DWorld.c b) (h1 : DWorld.p a = DWorld.p b) (h2 : DWorld.l a = DWorld.l b) (h3 : DWorld.q a = DWorld.q b) (h4 : DWorld.log a = DWorld.log b) : a = b := by rw [← DWorld.eta a, ← DWorld.eta b, h0, h1, h2, h3, h4]
noncomputable def DWorld.cells (o : Bool) (m : DWorld) : List A := [I ((DConf.chunks (DWorld.c m))), I ((DConf.size (DWorld.c m))), I ((DConf.slots (DWorld.c m))), I ((DConf.tax (DWorld.c m))), I ((DConf.slice (DWorld.c m))), I ((DConf.gens (DWorld.c m))), Am.bytes o (DPool.mem (DWorld.p m)), Am.ints o (DPool.st (DWorld.p m)), Am.ints o (DPool.own (DWorld.p m)), Am.nodes o (DWorld.l m), Am.wastes o (DWorld.q m), Am.ints o (DWorld.log m)]
noncomputable def worlds (o : Bool) (l : List DWorld) : A := .slc o 12 (ln l) (fun i => DWorld.cells o (at' l i))
inductive DHandleF : Unit → Type
  | mk (a0 : Int) (a1 : Int) : DHandleF ()
def DHandle : Type := DHandleF ()
abbrev DHandle.mk (a0 : Int) (a1 : Int) : DHandle := DHandleF.mk a0 a1
instance : Inhabited DHandle := ⟨DHandleF.mk default default⟩
def DHandle.slot_ (a0 : Int) (_a1 : Int) : Int := a0
@[reducible] noncomputable def DHandle.slot (m : DHandle) : Int := @DHandleF.rec (fun _ _ => Int) DHandle.slot_ () m
def DHandle.gen_ (_a0 : Int) (a1 : Int) : Int := a1
@[reducible] noncomputable def DHandle.gen (m : DHandle) : Int := @DHandleF.rec (fun _ _ => Int) DHandle.gen_ () m
theorem DHandle.eta (m : DHandle) : DHandle.mk (DHandle.slot m) (DHandle.gen m) = m := by cases m; rfl
theorem DHandle.same {a b : DHandle} (h0 : DHandle.slot a = DHandle.slot b) (h1 : DHandle.gen a = DHandle.gen b) : a = b := by rw [← DHandle.eta a, ← DHandle.eta b, h0, h1]
noncomputable def DHandle.cells (_o : Bool) (m : DHandle) : List A := [I ((DHandle.slot m)), I ((DHandle.gen m))]
noncomputable def handles (o : Bool) (l : List DHandle) : A := .slc o 2 (ln l) (fun i => DHandle.cells o (at' l i))
inductive DRefF : Unit → Type
  | mk (a0 : DHandle) (a1 : Int) (a2 : Int) : DRefF ()
def DRef : Type := DRefF ()
abbrev DRef.mk (a0 : DHandle) (a1 : Int) (a2 : Int) : DRef := DRefF.mk a0 a1 a2
instance : Inhabited DRef := ⟨DRefF.mk default default default⟩
def DRef.h_ (a0 : DHandle) (_a1 : Int) (_a2 : Int) : DHandle := a0
@[reducible] noncomputable def DRef.h (m : DRef) : DHandle := @DRefF.rec (fun _ _ => DHandle) DRef.h_ () m
def DRef.ep_ (_a0 : DHandle) (a1 : Int) (_a2 : Int) : Int := a1
@[reducible] noncomputable def DRef.ep (m : DRef) : Int := @DRefF.rec (fun _ _ => Int) DRef.ep_ () m
def DRef.no_ (_a0 : DHandle) (_a1 : Int) (a2 : Int) : Int := a2
@[reducible] noncomputable def DRef.no (m : DRef) : Int := @DRefF.rec (fun _ _ => Int) DRef.no_ () m
theorem DRef.eta (m : DRef) : DRef.mk (DRef.h m) (DRef.ep m) (DRef.no m) = m := by cases m; rfl
theorem DRef.same {a b : DRef} (h0 : DRef.h a = DRef.h b) (h1 : DRef.ep a = DRef.ep b) (h2 : DRef.no a = DRef.no b) : a = b := by rw [← DRef.eta a, ← DRef.eta b, h0, h1, h2]
noncomputable def DRef.cells (_o : Bool) (m : DRef) : List A := [I ((DHandle.slot (DRef.h m))), I ((DHandle.gen (DRef.h m))), I ((DRef.ep m)), I ((DRef.no m))]
noncomputable def refs (o : Bool) (l : List DRef) : A := .slc o 4 (ln l) (fun i => DRef.cells o (at' l i))
inductive DStuffF : Unit → Type
  | mk (a0 : List Int) : DStuffF ()
def DStuff : Type := DStuffF ()
abbrev DStuff.mk (a0 : List Int) : DStuff := DStuffF.mk a0
instance : Inhabited DStuff := ⟨DStuffF.mk default⟩
def DStuff.b_ (a0 : List Int) : List Int := a0
@[reducible] noncomputable def DStuff.b (m : DStuff) : List Int := @DStuffF.rec (fun _ _ => List Int) DStuff.b_ () m
theorem DStuff.eta (m : DStuff) : DStuff.mk (DStuff.b m) = m := by cases m; rfl
theorem DStuff.same {a b : DStuff} (h0 : DStuff.b a = DStuff.b b) : a = b := by rw [← DStuff.eta a, ← DStuff.eta b, h0]
noncomputable def DStuff.cells (o : Bool) (m : DStuff) : List A := [Am.bytes o (DStuff.b m)]
noncomputable def stuffs (o : Bool) (l : List DStuff) : A := .slc o 1 (ln l) (fun i => DStuff.cells o (at' l i))
inductive DRoomF : Unit → Type
  | mk (a0 : DHandle) (a1 : DHandle) (a2 : List DHandle) (a3 : Int) (a4 : Int) (a5 : Bool) (a6 : Int) (a7 : List DStuff) (a8 : List Int) : DRoomF ()
def DRoom : Type := DRoomF ()
abbrev DRoom.mk (a0 : DHandle) (a1 : DHandle) (a2 : List DHandle) (a3 : Int) (a4 : Int) (a5 : Bool) (a6 : Int) (a7 : List DStuff) (a8 : List Int) : DRoom := DRoomF.mk a0 a1 a2 a3 a4 a5 a6 a7 a8
instance : Inhabited DRoom := ⟨DRoomF.mk default default default default default default default default default⟩
def DRoom.h_ (a0 : DHandle) (_a1 : DHandle) (_a2 : List DHandle) (_a3 : Int) (_a4 : Int) (_a5 : Bool) (_a6 : Int) (_a7 : List DStuff) (_a8 : List Int) : DHandle := a0
@[reducible] noncomputable def DRoom.h (m : DRoom) : DHandle := @DRoomF.rec (fun _ _ => DHandle) DRoom.h_ () m
def DRoom.up_ (_a0 : DHandle) (a1 : DHandle) (_a2 : List DHandle) (_a3 : Int) (_a4 : Int) (_a5 : Bool) (_a6 : Int) (_a7 : List DStuff) (_a8 : List Int) : DHandle := a1
@[reducible] noncomputable def DRoom.up (m : DRoom) : DHandle := @DRoomF.rec (fun _ _ => DHandle) DRoom.up_ () m
def DRoom.kids_ (_a0 : DHandle) (_a1 : DHandle) (a2 : List DHandle) (_a3 : Int) (_a4 : Int) (_a5 : Bool) (_a6 : Int) (_a7 : List DStuff) (_a8 : List Int) : List DHandle := a2
@[reducible] noncomputable def DRoom.kids (m : DRoom) : List DHandle := @DRoomF.rec (fun _ _ => List DHandle) DRoom.kids_ () m
def DRoom.ep_ (_a0 : DHandle) (_a1 : DHandle) (_a2 : List DHandle) (a3 : Int) (_a4 : Int) (_a5 : Bool) (_a6 : Int) (_a7 : List DStuff) (_a8 : List Int) : Int := a3
@[reducible] noncomputable def DRoom.ep (m : DRoom) : Int := @DRoomF.rec (fun _ _ => Int) DRoom.ep_ () m
def DRoom.chunks_ (_a0 : DHandle) (_a1 : DHandle) (_a2 : List DHandle) (_a3 : Int) (a4 : Int) (_a5 : Bool) (_a6 : Int) (_a7 : List DStuff) (_a8 : List Int) : Int := a4
@[reducible] noncomputable def DRoom.chunks (m : DRoom) : Int := @DRoomF.rec (fun _ _ => Int) DRoom.chunks_ () m
def DRoom.cur_ (_a0 : DHandle) (_a1 : DHandle) (_a2 : List DHandle) (_a3 : Int) (_a4 : Int) (a5 : Bool) (_a6 : Int) (_a7 : List DStuff) (_a8 : List Int) : Bool := a5
@[reducible] noncomputable def DRoom.cur (m : DRoom) : Bool := @DRoomF.rec (fun _ _ => Bool) DRoom.cur_ () m
def DRoom.bump_ (_a0 : DHandle) (_a1 : DHandle) (_a2 : List DHandle) (_a3 : Int) (_a4 : Int) (_a5 : Bool) (a6 : Int) (_a7 : List DStuff) (_a8 : List Int) : Int := a6
@[reducible] noncomputable def DRoom.bump (m : DRoom) : Int := @DRoomF.rec (fun _ _ => Int) DRoom.bump_ () m
def DRoom.things_ (_a0 : DHandle) (_a1 : DHandle) (_a2 : List DHandle) (_a3 : Int) (_a4 : Int) (_a5 : Bool) (_a6 : Int) (a7 : List DStuff) (_a8 : List Int) : List DStuff := a7
@[reducible] noncomputable def DRoom.things (m : DRoom) : List DStuff := @DRoomF.rec (fun _ _ => List DStuff) DRoom.things_ () m
def DRoom.tags_ (_a0 : DHandle) (_a1 : DHandle) (_a2 : List DHandle) (_a3 : Int) (_a4 : Int) (_a5 : Bool) (_a6 : Int) (_a7 : List DStuff) (a8 : List Int) : List Int := a8
@[reducible] noncomputable def DRoom.tags (m : DRoom) : List Int := @DRoomF.rec (fun _ _ => List Int) DRoom.tags_ () m
theorem DRoom.eta (m : DRoom) : DRoom.mk (DRoom.h m) (DRoom.up m) (DRoom.kids m) (DRoom.ep m) (DRoom.chunks m) (DRoom.cur m) (DRoom.bump m) (DRoom.things m) (DRoom.tags m) = m := by cases m; rfl
theorem DRoom.same {a b : DRoom} (h0 : DRoom.h a = DRoom.h b) (h1 : DRoom.up a = DRoom.up b) (h2 : DRoom.kids a = DRoom.kids b) (h3 : DRoom.ep a = DRoom.ep b) (h4 : DRoom.chunks a = DRoom.chunks b) (h5 : DRoom.cur a = DRoom.cur b) (h6 : DRoom.bump a = DRoom.bump b) (h7 : DRoom.things a = DRoom.things b) (h8 : DRoom.tags a = DRoom.tags b) : a = b := by rw [← DRoom.eta a, ← DRoom.eta b, h0, h1, h2, h3, h4, h5, h6, h7, h8]
noncomputable def DRoom.cells (o : Bool) (m : DRoom) : List A := [I ((DHandle.slot (DRoom.h m))), I ((DHandle.gen (DRoom.h m))), I ((DHandle.slot (DRoom.up m))), I ((DHandle.gen (DRoom.up m))), Am.handles o (DRoom.kids m), I ((DRoom.ep m)), I ((DRoom.chunks m)), Bo (DRoom.cur m), I ((DRoom.bump m)), Am.stuffs o (DRoom.things m), Am.ints o (DRoom.tags m)]
noncomputable def rooms (o : Bool) (l : List DRoom) : A := .slc o 11 (ln l) (fun i => DRoom.cells o (at' l i))
inductive DModelF : Unit → Type
  | mk (a0 : DConf) (a1 : List DRoom) (a2 : List Int) : DModelF ()
def DModel : Type := DModelF ()
abbrev DModel.mk (a0 : DConf) (a1 : List DRoom) (a2 : List Int) : DModel := DModelF.mk a0 a1 a2
instance : Inhabited DModel := ⟨DModelF.mk default default default⟩
def DModel.c_ (a0 : DConf) (_a1 : List DRoom) (_a2 : List Int) : DConf := a0
@[reducible] noncomputable def DModel.c (m : DModel) : DConf := @DModelF.rec (fun _ _ => DConf) DModel.c_ () m
def DModel.rooms_ (_a0 : DConf) (a1 : List DRoom) (_a2 : List Int) : List DRoom := a1
@[reducible] noncomputable def DModel.rooms (m : DModel) : List DRoom := @DModelF.rec (fun _ _ => List DRoom) DModel.rooms_ () m
def DModel.log_ (_a0 : DConf) (_a1 : List DRoom) (a2 : List Int) : List Int := a2
@[reducible] noncomputable def DModel.log (m : DModel) : List Int := @DModelF.rec (fun _ _ => List Int) DModel.log_ () m
theorem DModel.eta (m : DModel) : DModel.mk (DModel.c m) (DModel.rooms m) (DModel.log m) = m := by cases m; rfl
theorem DModel.same {a b : DModel} (h0 : DModel.c a = DModel.c b) (h1 : DModel.rooms a = DModel.rooms b) (h2 : DModel.log a = DModel.log b) : a = b := by rw [← DModel.eta a, ← DModel.eta b, h0, h1, h2]
noncomputable def DModel.cells (o : Bool) (m : DModel) : List A := [I ((DConf.chunks (DModel.c m))), I ((DConf.size (DModel.c m))), I ((DConf.slots (DModel.c m))), I ((DConf.tax (DModel.c m))), I ((DConf.slice (DModel.c m))), I ((DConf.gens (DModel.c m))), Am.rooms o (DModel.rooms m), Am.ints o (DModel.log m)]
noncomputable def models (o : Bool) (l : List DModel) : A := .slc o 8 (ln l) (fun i => DModel.cells o (at' l i))
theorem wk_ints {σ : Nat → Nat} {al : Nat → Bool} : Wk σ al .emp (Am.ints true default) := by
  unfold Am.ints
  rw [show ln (default : List Int) = 0 by rw [ln_eq]; rfl]
  exact .emp
theorem wk_bytes {σ : Nat → Nat} {al : Nat → Bool} : Wk σ al .emp (Am.bytes true default) := by
  unfold Am.bytes
  rw [show ln (default : List Int) = 0 by rw [ln_eq]; rfl]
  exact .emp
theorem wk_confs {σ : Nat → Nat} {al : Nat → Bool} : Wk σ al .emp (Am.confs true default) := by
  unfold Am.confs
  rw [show ln (default : List DConf) = 0 by rw [ln_eq]; rfl]
  exact .emp
theorem wk_pools {σ : Nat → Nat} {al : Nat → Bool} : Wk σ al .emp (Am.pools true default) := by
  unfold Am.pools
  rw [show ln (default : List DPool) = 0 by rw [ln_eq]; rfl]
  exact .emp
theorem wk_things {σ : Nat → Nat} {al : Nat → Bool} : Wk σ al .emp (Am.things true default) := by
  unfold Am.things
  rw [show ln (default : List DThing) = 0 by rw [ln_eq]; rfl]
  exact .emp
theorem wk_nodes {σ : Nat → Nat} {al : Nat → Bool} : Wk σ al .emp (Am.nodes true default) := by
  unfold Am.nodes
  rw [show ln (default : List DNode) = 0 by rw [ln_eq]; rfl]
  exact .emp
theorem wk_wastes {σ : Nat → Nat} {al : Nat → Bool} : Wk σ al .emp (Am.wastes true default) := by
  unfold Am.wastes
  rw [show ln (default : List DWaste) = 0 by rw [ln_eq]; rfl]
  exact .emp
theorem wk_worlds {σ : Nat → Nat} {al : Nat → Bool} : Wk σ al .emp (Am.worlds true default) := by
  unfold Am.worlds
  rw [show ln (default : List DWorld) = 0 by rw [ln_eq]; rfl]
  exact .emp
theorem wk_handles {σ : Nat → Nat} {al : Nat → Bool} : Wk σ al .emp (Am.handles true default) := by
  unfold Am.handles
  rw [show ln (default : List DHandle) = 0 by rw [ln_eq]; rfl]
  exact .emp
theorem wk_refs {σ : Nat → Nat} {al : Nat → Bool} : Wk σ al .emp (Am.refs true default) := by
  unfold Am.refs
  rw [show ln (default : List DRef) = 0 by rw [ln_eq]; rfl]
  exact .emp
theorem wk_stuffs {σ : Nat → Nat} {al : Nat → Bool} : Wk σ al .emp (Am.stuffs true default) := by
  unfold Am.stuffs
  rw [show ln (default : List DStuff) = 0 by rw [ln_eq]; rfl]
  exact .emp
theorem wk_rooms {σ : Nat → Nat} {al : Nat → Bool} : Wk σ al .emp (Am.rooms true default) := by
  unfold Am.rooms
  rw [show ln (default : List DRoom) = 0 by rw [ln_eq]; rfl]
  exact .emp
theorem wk_models {σ : Nat → Nat} {al : Nat → Bool} : Wk σ al .emp (Am.models true default) := by
  unfold Am.models
  rw [show ln (default : List DModel) = 0 by rw [ln_eq]; rfl]
  exact .emp
theorem wk0_Conf {σ : Nat → Nat} {al : Nat → Bool} : Wks σ al [.val (.int .i64 0), .val (.int .i64 0), .val (.int .i64 0), .val (.int .i64 0), .val (.int .i64 0), .val (.int .i64 0)] (DConf.cells true default) := by
  exact .cons (Wk.same rfl) (.cons (Wk.same rfl) (.cons (Wk.same rfl) (.cons (Wk.same rfl) (.cons (Wk.same rfl) (.cons (Wk.same rfl) .nil)))))
theorem wk0_Pool {σ : Nat → Nat} {al : Nat → Bool} : Wks σ al [.emp, .emp, .emp] (DPool.cells true default) := by
  exact .cons wk_bytes (.cons wk_ints (.cons wk_ints .nil))
theorem wk0_Thing {σ : Nat → Nat} {al : Nat → Bool} : Wks σ al [.val (.int .i64 0), .val (.int .i64 0), .val (.int .i64 0)] (DThing.cells true default) := by
  exact .cons (Wk.same rfl) (.cons (Wk.same rfl) (.cons (Wk.same rfl) .nil))
theorem wk0_Node {σ : Nat → Nat} {al : Nat → Bool} : Wks σ al [.val (.int .i64 0), .val (.int .i64 0), .val (.int .i64 0), .val (.int .i64 0), .val (.int .i64 0), .val (.int .i64 0), .val (.int .i64 0), .val (.int .i64 0), .emp, .val (.int .i64 0), .val (.int .i64 0), .emp, .emp] (DNode.cells true default) := by
  exact .cons (Wk.same rfl) (.cons (Wk.same rfl) (.cons (Wk.same rfl) (.cons (Wk.same rfl) (.cons (Wk.same rfl) (.cons (Wk.same rfl) (.cons (Wk.same rfl) (.cons (Wk.same rfl) (.cons wk_ints (.cons (Wk.same rfl) (.cons (Wk.same rfl) (.cons wk_things (.cons wk_ints .nil))))))))))))
theorem wk0_Waste {σ : Nat → Nat} {al : Nat → Bool} : Wks σ al [.val (.int .i64 0), .val (.int .i64 0), .emp, .emp, .val (.int .i64 0)] (DWaste.cells true default) := by
  exact .cons (Wk.same rfl) (.cons (Wk.same rfl) (.cons wk_ints (.cons wk_ints (.cons (Wk.same rfl) .nil))))
theorem wk0_World {σ : Nat → Nat} {al : Nat → Bool} : Wks σ al [.val (.int .i64 0), .val (.int .i64 0), .val (.int .i64 0), .val (.int .i64 0), .val (.int .i64 0), .val (.int .i64 0), .emp, .emp, .emp, .emp, .emp, .emp] (DWorld.cells true default) := by
  exact .cons (Wk.same rfl) (.cons (Wk.same rfl) (.cons (Wk.same rfl) (.cons (Wk.same rfl) (.cons (Wk.same rfl) (.cons (Wk.same rfl) (.cons wk_bytes (.cons wk_ints (.cons wk_ints (.cons wk_nodes (.cons wk_wastes (.cons wk_ints .nil)))))))))))
theorem wk0_Handle {σ : Nat → Nat} {al : Nat → Bool} : Wks σ al [.val (.int .i64 0), .val (.int .i64 0)] (DHandle.cells true default) := by
  exact .cons (Wk.same rfl) (.cons (Wk.same rfl) .nil)
theorem wk0_Ref {σ : Nat → Nat} {al : Nat → Bool} : Wks σ al [.val (.int .i64 0), .val (.int .i64 0), .val (.int .i64 0), .val (.int .i64 0)] (DRef.cells true default) := by
  exact .cons (Wk.same rfl) (.cons (Wk.same rfl) (.cons (Wk.same rfl) (.cons (Wk.same rfl) .nil)))
theorem wk0_Stuff {σ : Nat → Nat} {al : Nat → Bool} : Wks σ al [.emp] (DStuff.cells true default) := by
  exact .cons wk_bytes .nil
theorem wk0_Room {σ : Nat → Nat} {al : Nat → Bool} : Wks σ al [.val (.int .i64 0), .val (.int .i64 0), .val (.int .i64 0), .val (.int .i64 0), .emp, .val (.int .i64 0), .val (.int .i64 0), .val (.bool false), .val (.int .i64 0), .emp, .emp] (DRoom.cells true default) := by
  exact .cons (Wk.same rfl) (.cons (Wk.same rfl) (.cons (Wk.same rfl) (.cons (Wk.same rfl) (.cons wk_handles (.cons (Wk.same rfl) (.cons (Wk.same rfl) (.cons (Wk.same rfl) (.cons (Wk.same rfl) (.cons wk_stuffs (.cons wk_ints .nil))))))))))
theorem wk0_Model {σ : Nat → Nat} {al : Nat → Bool} : Wks σ al [.val (.int .i64 0), .val (.int .i64 0), .val (.int .i64 0), .val (.int .i64 0), .val (.int .i64 0), .val (.int .i64 0), .emp, .emp] (DModel.cells true default) := by
  exact .cons (Wk.same rfl) (.cons (Wk.same rfl) (.cons (Wk.same rfl) (.cons (Wk.same rfl) (.cons (Wk.same rfl) (.cons (Wk.same rfl) (.cons wk_rooms (.cons wk_ints .nil)))))))
end Go.Am
end
section
set_option linter.all false
namespace Go.Am
open Go.Proofs
theorem mo : Try.prog.follows .mixedOrders = true := by kernel_rfl

/-- A small list. -/
def sm {α : Type} (l : List α) : Prop := l.length ≤ 1048576
def smDThing (_ : DThing) : Prop := True
def smDPool (m : DPool) : Prop := sm m.mem ∧ sm m.st ∧ sm m.own
def smDNode (m : DNode) : Prop := sm m.chunks ∧ sm m.things ∧ sm m.tags
def smDWaste (m : DWaste) : Prop := sm m.tags ∧ sm m.chunks
def smDWorld (m : DWorld) : Prop := smDPool m.p ∧ (sm m.l ∧ ∀ i, i < m.l.length → smDNode (at' m.l i)) ∧ (sm m.q ∧ ∀ i, i < m.q.length → smDWaste (at' m.q i)) ∧ sm m.log
def smDStuff (m : DStuff) : Prop := sm m.b
def smDRoom (m : DRoom) : Prop := sm m.kids ∧ (sm m.things ∧ ∀ i, i < m.things.length → smDStuff (at' m.things i)) ∧ sm m.tags
def smDModel (m : DModel) : Prop := (sm m.rooms ∧ ∀ i, i < m.rooms.length → smDRoom (at' m.rooms i)) ∧ sm m.log

theorem mk_sm {α : Type} {l : List α} (h : sm l) {b : Nat} (hb : b ≤ 1000) : mkC (len64 (ln l)) (len64 (ln l)) b := by
  rw [mkC_eq, len64_eq, ln_eq]
  unfold sm at h
  have h1 : (l.length : Int) * b ≤ 1048576 * 1000 := Int.mul_le_mul (by omega) (by omega) (by omega) (by omega)
  refine ⟨rfl, by omega, by omega, by omega⟩
theorem at_replicate {α : Type} [Inhabited α] (n k : Nat) : at' (List.replicate n (default : α)) k = default := by
  rw [at_eq]; simp [List.getElem?_replicate]; split <;> rfl
theorem inR_nat {i : Nat} {α : Type} {l : List α} (h : i < l.length) : inR (Int.ofNat i) (ln l) := by rw [inR_eq, ln_eq]; simp; omega
theorem ltN_nat {i : Nat} {α : Type} {l : List α} (h : i < l.length) : ltN i (ln l) := by rw [ltN_eq, ln_eq]; omega
theorem idx_next {i : Nat} (h : i < 1048576) : iadd .i64 (Int.ofNat i) 1 = ((i + 1 : Nat) : Int) := by rw [iadd_eq] <;> simp <;> omega
theorem lt_of_ln {α : Type} {r r' : List α} {k : Nat} (e : ln r' = ln r) (hk : k < ln r') : k < ln r := by simp only [ln_eq] at *; omega
theorem set_prefix {α : Type} [Inhabited α] {x r : List α} {i : Nat} (h1 : i ≤ x.length) (h : i < x.length) (h2 : r.length = x.length) (h3 : ∀ k, k < i → r[k]? = x[k]?) (k : Nat) (hk : k < i + 1) :
    (r.set i (at' x i))[k]? = x[k]? := by
  by_cases e : k = i
  · subst e
    rw [List.getElem?_set_self (by omega), at_get h]
  · rw [List.getElem?_set_ne (by omega)]
    exact h3 k (by omega)
theorem all_same {α : Type} {x r : List α} {i : Nat} (h1 : i ≤ x.length) (h : x.length ≤ i) (h2 : r.length = x.length) (h3 : ∀ k, k < i → r[k]? = x[k]?) : r = x := by
  refine List.ext_getElem? (fun k => ?_)
  by_cases hk : k < i
  · exact h3 k hk
  · rw [List.getElem?_eq_none (by omega), List.getElem?_eq_none (by omega)]

/-- Are the two the same? -/
noncomputable def eqbR {α : Type} (a b : α) : Bool := @decide (a = b) (Classical.propDecidable _)
@[reducible] noncomputable def eqb {α : Type} (a b : α) : Bool := opq (@eqbR α) a b
theorem eqb_iff {α : Type} {a b : α} : eqb a b = true ↔ a = b := by
  have : eqb a b = eqbR a b := by show opq (@eqbR α) a b = _; rw [opq_eq]
  rw [this]; unfold eqbR; simp
theorem eqb_no {α : Type} {a b : α} (h : a ≠ b) : eqb a b = false := by rw [Bool.eq_false_iff]; exact fun e => h (eqb_iff.1 e)
theorem eqb_yes {α : Type} {a b : α} (h : a = b) : eqb a b = true := eqb_iff.2 h
theorem eqb_ne {α : Type} {a b : α} (h : (!(eqb a b)) = true) : a ≠ b := fun e => by rw [eqb_yes e] at h; cases h
theorem eqb_eqq {α : Type} {a b : α} (h : (!(eqb a b)) = false) : a = b := by
  by_cases e : a = b
  · exact e
  · rw [eqb_no e] at h; cases h
theorem int_ne {a b : Int} (h : ine a b = true) : a ≠ b := by rw [ine_eq] at h; simpa using h
theorem int_eqq {a b : Int} (h : ine a b = false) : a = b := by rw [ine_eq] at h; simpa using h
theorem bool_ne {a b : Bool} (h : (!(beqb a b)) = true) : a ≠ b := by rw [beqb_eq] at h; simpa using h
theorem bool_eqq {a b : Bool} (h : (!(beqb a b)) = false) : a = b := by rw [beqb_eq] at h; simpa using h
theorem at_ne {l r : List Int} {i : Nat} (h : ine (at' l i) (at' r i) = true) : at' l i ≠ at' r i := int_ne h
theorem at_eqq {l r : List Int} {i : Nat} (h : ine (at' l i) (at' r i) = false) : at' l i = at' r i := int_eqq h
theorem list_ne {α : Type} [Inhabited α] {l r : List α} {i : Nat} (h : at' l i ≠ at' r i) : l ≠ r := fun e => h (by rw [e])
theorem step_same {α : Type} [Inhabited α] {l r : List α} {i : Nat} (h : i < l.length) (hr : i < r.length) (h2 : ∀ k, k < i → l[k]? = r[k]?) (he : at' l i = at' r i) (k : Nat) (hk : k < i + 1) : l[k]? = r[k]? := by
  by_cases e : k = i
  · subst e; rw [at_get h, at_get hr, he]
  · exact h2 k (by omega)
theorem nt {b : Bool} (h : (!b) = true) : b = false := by simpa using h
theorem nf {b : Bool} (h : (!b) = false) : b = true := by simpa using h
theorem ln_int {α : Type} (l : List α) : Int.ofNat (ln l) = (l.length : Int) := by simp only [ln_eq]; rfl
/-- A budget, and lengths that a machine holds. -/
def bud (b : Int) : Prop := 0 ≤ b ∧ b ≤ 1048576
def lim {α : Type} (l : List α) : Prop := l.length ≤ 281474976710656
theorem bud_sub {α : Type} {l : List α} {b : Int} (hb : bud b) (hl : lim l) : isub .i64 b (Int.ofNat (ln l)) = b - l.length := by
  obtain ⟨h1, h2⟩ := hb
  unfold lim at hl
  have : (Int.ofNat (ln l)) = (l.length : Int) := by simp only [ln_eq]; rfl
  rw [this, isub_eq] <;> omega
/-- What is left of a budget. -/
def left (b : Int) (S : Prop) (r : A) : Prop := ∃ v, r = I v ∧ v ≤ b ∧ (0 ≤ v → S)
theorem left_no {b : Int} {S : Prop} (hb : bud b) : left b S (.val (.int .i64 (-1))) := ⟨-1, rfl, by have := hb.1; omega, fun h => by omega⟩
theorem at_mem {α : Type} [Inhabited α] {l : List α} {i : Nat} (h : i < l.length) : at' l i ∈ l := by
  have := at_get h
  exact List.mem_of_getElem? this
theorem cat_zero (g h : Nat → List A) : cat 0 g h = h := by
  funext i
  unfold cat
  rw [if_neg (by omega)]
  rfl
theorem ln_snoc {α : Type} (r : List α) (x : α) : ln (r ++ [x]) = nadd (ln r) 1 := by simp only [ln_eq, o_nadd]; simp
theorem at_snoc {α : Type} [Inhabited α] (r : List α) (x : α) (j : Nat) (hj : j < ln (r ++ [x])) : at' (r ++ [x]) j = if j < ln r then at' r j else x := by
  simp only [ln_eq] at *
  simp only [at_eq]
  simp only [List.length_append, List.length_cons, List.length_nil] at hj
  split
  · rename_i h; simp [List.getElem?_append_left h]
  · rename_i h
    have : j = r.length := by omega
    subst this
    simp
theorem ln_nil {α : Type} : ln ([] : List α) = 0 := by simp only [ln_eq]; rfl
theorem ln_app {α : Type} (r m : List α) : ln (r ++ m) = nadd (ln r) (ln m) := by simp only [ln_eq, o_nadd]; simp
theorem at_app {α : Type} [Inhabited α] (r m : List α) (j : Nat) : at' (r ++ m) j = if j < ln r then at' r j else at' m (j - ln r) := by
  simp only [ln_eq, at_eq]
  split
  · rename_i h; simp [List.getElem?_append_left h]
  · rename_i h; simp [List.getElem?_append_right (Nat.le_of_not_lt h)]
theorem fits_sm {n b : Nat} (hn : n ≤ 16777216) (hb : b ≤ 1000) : fits n b := by
  rw [fits_eq]
  have : n * b ≤ 16777216 * 1000 := Nat.mul_le_mul hn hb
  omega
end Go.Am
end
