/- From a contract to the row. · Facts of the whole program that every row of this seat asks. -/
import Derived.Test.YtkbdhffgmahpdaaB6
import Derived.WalkKit
import Derived.ProofKit
import Derived.OpenShut
import Derived.ShutString
import Derived.Below
import Derived.Carry
import Derived.Test.YtkbdhffgmahpdaaRows
section
set_option linter.all false
namespace Go.Am
open Go.RowKit
section
variable {H : Type} {enc : TypeId × Value → H} {P : Program} {W : World}

theorem Same.below {w w' : World} (h : Same w w') : Below w.heap.size w w' := ⟨h.os, h.tape, h.output, h.size, h.keep⟩

theorem Kt.bool {w : World} {N F : Bs} {b : Bool} {v : Value} (h : Kt w N (Bo b) v F) : v = .bool b := by
  cases h with
  | one h =>
    cases h with
    | one _ h => cases h; rfl

/-- A struct that can be read, as a value. -/
theorem rd_agg {t : TypeId} {Q : List A → Prop} (h : Rdd enc P W t Q) {v : Value} {d : DataW H} {ps : List MemPlace} (ht : DataW.Trod enc P W 0 (fun _ => true) true t v d ps) (hw : ∀ n ∈ DataW.weights P t d, n ≤ reachBytes)
    (hl : ∀ l, Q l → l.length ≠ 1) : ∃ l, Q l ∧ V W N0 (fun _ => none) (.agg l) v := by
  obtain ⟨fuel, hf⟩ := ht
  obtain ⟨l, h1, h2⟩ := h fuel _ _ hf hw
  refine ⟨l, h1, ?_⟩
  have hlen := h2.length
  have hne := hl l h1
  cases v with
  | agg cs => exact .agg (h2.vs nobF)
  | _ => exact absurd (by simpa [Value.cells] using hlen) hne

/-- A whole number that can be read, as a value. -/
theorem rd_one {t : TypeId} {Q : List A → Prop} (h : Rdd enc P W t Q) {v : Value} (hv : v.cells.toList = [v]) {d : DataW H} {ps : List MemPlace} (ht : DataW.Trod enc P W 0 (fun _ => true) true t v d ps) (hw : ∀ n ∈ DataW.weights P t d, n ≤ reachBytes) :
    ∃ l, Q l ∧ Vs W N0 (fun _ => none) l [v] := by
  obtain ⟨fuel, hf⟩ := ht
  rw [hv] at hf
  obtain ⟨l, h1, h2⟩ := h fuel _ _ hf hw
  exact ⟨l, h1, h2.vs nobF⟩
end
end Go.Am
end
section
set_option linter.all false
namespace Go.Proofs.Ytkbdhffgmahpdaa
theorem own : ownKnob Try.prog.godebug = none := by kernel_rfl
theorem laidOut : laidOutB Try.prog = true := by kernel_rfl
theorem mapsR : mapsRowed Try.pinned.checked.prog = true := by kernel_rfl
theorem stopsH : Try.pinned.checked.prog.stopsHeard = true := by kernel_rfl
theorem mayE : Try.pinned.checked.prog.mayEnter = true := by kernel_rfl
end Go.Proofs.Ytkbdhffgmahpdaa
end
