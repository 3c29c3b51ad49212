/- Plain: numbers, children, what is owed. · Plain: what a region owes, on. -/
import Derived.Test.YtkbdhffgmahpdaaB1
section
set_option linter.all false
namespace Go.Am
universe u
/-- A whole number as the machine holds it. -/
def w64 (n : Int) : Int := IntKind.wrap .i64 n
def rg (n : Int) : Prop := -9223372036854775808 ≤ n ∧ n < 9223372036854775808
theorem w64_def (n : Int) : w64 n = if n % 18446744073709551616 ≥ 9223372036854775808 then n % 18446744073709551616 - 18446744073709551616 else n % 18446744073709551616 := by
  unfold w64
  simp [IntKind.wrap, IntKind.signed, IntKind.bits]
theorem w64_id {n : Int} (h : rg n) : w64 n = n := IntWalk.i64_in _ ⟨h.1, by have := h.2; omega⟩
theorem w64_rg (n : Int) : rg (w64 n) := by
  rw [w64_def]; unfold rg
  split <;> omega
theorem w64_mod (n : Int) : ∃ k : Int, w64 n = n + k * 18446744073709551616 := by
  rw [w64_def]
  split
  · exact ⟨-(n / 18446744073709551616) - 1, by omega⟩
  · exact ⟨-(n / 18446744073709551616), by omega⟩
theorem w64_eq {m n : Int} (h : ∃ k : Int, m = n + k * 18446744073709551616) : w64 m = w64 n := by
  have h1 := w64_rg m
  have h2 := w64_rg n
  obtain ⟨a, ha⟩ := w64_mod m
  obtain ⟨b, hb⟩ := w64_mod n
  obtain ⟨k, hk⟩ := h
  unfold rg at h1 h2
  omega
theorem w64_add (a b : Int) : w64 (w64 a + w64 b) = w64 (a + b) := by
  obtain ⟨k, hk⟩ := w64_mod a
  obtain ⟨j, hj⟩ := w64_mod b
  exact w64_eq ⟨k + j, by omega⟩
theorem w64_addl (a b : Int) : w64 (w64 a + b) = w64 (a + b) := by
  obtain ⟨k, hk⟩ := w64_mod a
  exact w64_eq ⟨k, by omega⟩
theorem w64_addr (a b : Int) : w64 (a + w64 b) = w64 (a + b) := by
  obtain ⟨k, hk⟩ := w64_mod b
  exact w64_eq ⟨k, by omega⟩
theorem iadd_w (a b : Int) : iadd .i64 a b = w64 (a + b) := o_iadd _ _ _
theorem isub_w (a b : Int) : isub .i64 a b = w64 (a - b) := o_isub _ _ _

/-! ### ranges -/
def inBR (n lo hi : Int) : Bool := decide (lo ≤ n ∧ n ≤ hi)
@[reducible] noncomputable def inB (n lo hi : Int) : Bool := opq inBR n lo hi
theorem inB_eq (n lo hi : Int) : inB n lo hi = decide (lo ≤ n ∧ n ≤ hi) := by show opq inBR n lo hi = _; rw [opq_eq]; rfl
def slotBR (k : Int) (n : Nat) : Bool := decide (0 ≤ k ∧ k < n)
@[reducible] noncomputable def slotB (k : Int) (n : Nat) : Bool := opq slotBR k n
theorem slotB_eq (k : Int) (n : Nat) : slotB k n = decide (0 ≤ k ∧ k < n) := by show opq slotBR k n = _; rw [opq_eq]; rfl
def placeBR (k : Int) (n : Nat) : Bool := decide (1 ≤ k ∧ k ≤ n)
@[reducible] noncomputable def placeB (k : Int) (n : Nat) : Bool := opq placeBR k n
theorem placeB_eq (k : Int) (n : Nat) : placeB k n = decide (1 ≤ k ∧ k ≤ n) := by show opq placeBR k n = _; rw [opq_eq]; rfl
noncomputable def hasBR (l : List Int) (n : Int) : Bool := decide (n ∈ l)
@[reducible] noncomputable def hasB (l : List Int) (n : Int) : Bool := opq hasBR l n
theorem hasB_eq (l : List Int) (n : Int) : hasB l n = decide (n ∈ l) := by show opq hasBR l n = _; rw [opq_eq]; rfl

/-! ### numbers of steps -/
def ceilZR (a b : Int) : Int := if (0 ≤ a ∧ a ≤ 1000000000) ∧ 1 ≤ b ∧ b ≤ 1000000000 then (a + b - 1).tdiv b else 0
@[reducible] noncomputable def ceilZ (a b : Int) : Int := opq ceilZR a b
theorem ceilZ_eq (a b : Int) : ceilZ a b = if (0 ≤ a ∧ a ≤ 1000000000) ∧ 1 ≤ b ∧ b ≤ 1000000000 then (a + b - 1).tdiv b else 0 := by show opq ceilZR a b = _; rw [opq_eq]; rfl
theorem tdiv_le {a b : Int} (h : 0 ≤ a) (hb : 1 ≤ b) : 0 ≤ a.tdiv b ∧ a.tdiv b ≤ a := by
  rw [Int.tdiv_eq_ediv_of_nonneg h]
  refine ⟨Int.ediv_nonneg h (by omega), Int.ediv_le_self _ h⟩
theorem ceilZ_bd (a b : Int) : 0 ≤ ceilZ a b ∧ ceilZ a b ≤ 2000000000 := by
  rw [ceilZ_eq]
  split
  · rename_i h
    have := tdiv_le (a := a + b - 1) (b := b) (by omega) (by omega)
    omega
  · omega
/-- The steps of m chunks behind t tags. -/
noncomputable def ownM (t : Int) (m : Nat) (a b : Int) : Int := t + (if m = 0 then 0 else a + (m - 1 : Nat) * b)
noncomputable def ownZR (c : DConf) (x : DWaste) : Int := ownM ((DWaste.tags x).length + 1) (DWaste.chunks x).length (ceilZ (isub .i64 (DConf.size c) (DWaste.done x)) (DConf.slice c)) (ceilZ (DConf.size c) (DConf.slice c))
@[reducible] noncomputable def ownZ (c : DConf) (x : DWaste) : Int := opq ownZR c x
theorem ownZ_eq (c : DConf) (x : DWaste) : ownZ c x = ownZR c x := by show opq ownZR c x = _; rw [opq_eq]
noncomputable def wasteR (n : DNode) (slot : Int) : DWaste := DWaste.mk slot (DNode.first n) (DNode.tags n) (DNode.chunks n) 0

theorem mul_bd {m : Nat} {b : Int} (hm : m ≤ 1048576) (hb : 0 ≤ b ∧ b ≤ 2000000000) : 0 ≤ (m : Int) * b ∧ (m : Int) * b ≤ 2097152000000000 := by
  refine ⟨Int.mul_nonneg (by omega) hb.1, ?_⟩
  calc (m : Int) * b ≤ 1048576 * 2000000000 := Int.mul_le_mul (by omega) hb.2 hb.1 (by omega)
    _ = _ := by rfl
theorem ownM_bd {t : Int} {m : Nat} {a b : Int} (ht : 0 ≤ t ∧ t ≤ 1048577) (hm : m ≤ 1048576) (ha : 0 ≤ a ∧ a ≤ 2000000000) (hb : 0 ≤ b ∧ b ≤ 2000000000) : 0 ≤ ownM t m a b ∧ ownM t m a b ≤ 2097154001048577 := by
  unfold ownM
  split
  · omega
  · have := mul_bd (m := m - 1) (by omega) hb
    omega
theorem ownM_zero (t a b : Int) : ownM t 0 a b = t := by unfold ownM; simp
theorem ownM_one (t a b : Int) : ownM t 1 a b = t + a := by unfold ownM; simp
theorem ownM_succ (t : Int) (m : Nat) (a b : Int) (h : m ≠ 0) : ownM t (m + 1) a b = ownM t m a b + b := by
  unfold ownM
  rw [if_neg (by omega), if_neg h]
  have : ((m + 1 - 1 : Nat) : Int) = ((m - 1 : Nat) : Int) + 1 := by omega
  rw [this, Int.add_mul]
  omega

/-! ### children -/
noncomputable def kidsF (l : List DNode) : Nat → Int → List Int
  | 0, _ => []
  | n + 1, k => if 1 ≤ k ∧ k ≤ l.length then (k - 1) :: kidsF l n (DNode.next (at' l (k - 1).toNat)) else []
noncomputable def kidsLR (l : List DNode) (k : Int) : List Int := kidsF l l.length k
@[reducible] noncomputable def kidsL (l : List DNode) (k : Int) : List Int := opq kidsLR l k
theorem kidsL_eq (l : List DNode) (k : Int) : kidsL l k = kidsF l l.length k := by show opq kidsLR l k = _; rw [opq_eq]; rfl
theorem kidsF_len (l : List DNode) : ∀ (n : Nat) (k : Int), (kidsF l n k).length ≤ n
  | 0, _ => Nat.le_refl _
  | n + 1, k => by
    unfold kidsF
    split
    · have := kidsF_len l n (DNode.next (at' l (k - 1).toNat)); simp only [List.length_cons]; omega
    · simp
theorem kidsL_len (l : List DNode) (k : Int) : (kidsL l k).length ≤ l.length := by rw [kidsL_eq]; exact kidsF_len _ _ _
theorem kidsF_slot (l : List DNode) : ∀ (n : Nat) (k x : Int), x ∈ kidsF l n k → 0 ≤ x ∧ x < l.length
  | 0, _, _, h => by simp [kidsF] at h
  | n + 1, k, x, h => by
    unfold kidsF at h
    split at h
    · rcases List.mem_cons.1 h with rfl | h
      · omega
      · exact kidsF_slot l n _ x h
    · cases h
theorem kidsL_slot {l : List DNode} {k x : Int} (h : x ∈ kidsL l k) : 0 ≤ x ∧ x < l.length := by rw [kidsL_eq] at h; exact kidsF_slot _ _ _ _ h

/-! ### what a region owes, depth first -/
noncomputable def dfsF (l : List DNode) (c : DConf) : Nat → List Int → List Int → Int × List Int
  | 0, _, met => (0, met)
  | f + 1, ks, met => ks.foldl (fun (p : Int × List Int) (k : Int) => if (0 ≤ k ∧ k < l.length) ∧ k ∉ p.2 then
      (p.1 + (1 + ownZ c (wasteR (at' l k.toNat) 0) + (dfsF l c f (kidsL l (DNode.first (at' l k.toNat))) (p.2 ++ [k])).1), (dfsF l c f (kidsL l (DNode.first (at' l k.toNat))) (p.2 ++ [k])).2) else p) (0, met)
noncomputable def dfsS (l : List DNode) (c : DConf) (f : Nat) (p : Int × List Int) (k : Int) : Int × List Int :=
  if (0 ≤ k ∧ k < l.length) ∧ k ∉ p.2 then
      (p.1 + (1 + ownZ c (wasteR (at' l k.toNat) 0) + (dfsF l c f (kidsL l (DNode.first (at' l k.toNat))) (p.2 ++ [k])).1), (dfsF l c f (kidsL l (DNode.first (at' l k.toNat))) (p.2 ++ [k])).2) else p
theorem dfsF_succ (l : List DNode) (c : DConf) (f : Nat) (ks met : List Int) : dfsF l c (f + 1) ks met = ks.foldl (dfsS l c f) (0, met) := rfl
@[reducible] noncomputable def dfsN (l : List DNode) (c : DConf) (f : Nat) (ks met : List Int) : Int := opq (fun l c f ks met => (dfsF l c f ks met).1) l c f ks met
@[reducible] noncomputable def dfsM (l : List DNode) (c : DConf) (f : Nat) (ks met : List Int) : List Int := opq (fun l c f ks met => (dfsF l c f ks met).2) l c f ks met
theorem dfsN_eq (l : List DNode) (c : DConf) (f : Nat) (ks met : List Int) : dfsN l c f ks met = (dfsF l c f ks met).1 := by show opq (fun l c f ks met => (dfsF l c f ks met).1) l c f ks met = _; rw [opq_eq]
theorem dfsM_eq (l : List DNode) (c : DConf) (f : Nat) (ks met : List Int) : dfsM l c f ks met = (dfsF l c f ks met).2 := by show opq (fun l c f ks met => (dfsF l c f ks met).2) l c f ks met = _; rw [opq_eq]

def unmet (l : List DNode) (met : List Int) : Nat := ((List.range l.length).filter (fun (i : Nat) => decide ((i : Int) ∉ met))).length
theorem filter_le {α : Type u} (p q : α → Bool) : ∀ (l : List α), (∀ x ∈ l, p x = true → q x = true) → (l.filter p).length ≤ (l.filter q).length
  | [], _ => Nat.le_refl _
  | x :: l, h => by
    have ih := filter_le p q l (fun y hy => h y (List.mem_cons_of_mem _ hy))
    have hx := h x (List.mem_cons_self ..)
    simp only [List.filter_cons]
    cases e : p x with
    | true => rw [if_pos rfl, if_pos (hx e)]; simp; omega
    | false => rw [if_neg (by simp)]; split <;> simp <;> omega
theorem filter_lt {α : Type u} (p q : α → Bool) : ∀ (l : List α), (∀ x ∈ l, p x = true → q x = true) → ∀ y ∈ l, p y = false → q y = true → (l.filter p).length < (l.filter q).length
  | [], _, y, hy, _, _ => by cases hy
  | x :: l, h, y, hy, h1, h2 => by
    have hx := h x (List.mem_cons_self ..)
    have hl := fun y hy => h y (List.mem_cons_of_mem _ hy)
    simp only [List.filter_cons]
    rcases List.mem_cons.1 hy with rfl | hy
    · have := filter_le p q l hl
      rw [if_neg (by simp [h1]), if_pos h2]; simp; omega
    · have ih := filter_lt p q l hl y hy h1 h2
      cases e : p x with
      | true => rw [if_pos rfl, if_pos (hx e)]; simp; omega
      | false => rw [if_neg (by simp)]; split <;> simp <;> omega
theorem unmet_le {l : List DNode} {met t : List Int} : unmet l (met ++ t) ≤ unmet l met := by
  refine filter_le _ _ _ (fun x _ h => ?_)
  simp at h ⊢
  exact h.1
theorem unmet_lt {l : List DNode} {met : List Int} {k : Int} (h : 0 ≤ k ∧ k < l.length) (hk : k ∉ met) : unmet l (met ++ [k]) < unmet l met := by
  refine filter_lt _ _ _ (fun x _ h => ?_) k.toNat (List.mem_range.2 (by omega)) ?_ ?_
  · simp at h ⊢; exact h.1
  · simp; intro _; omega
  · have : ((k.toNat : Nat) : Int) = k := by omega
    rw [this]; simpa using hk
theorem dfsF_ext (l : List DNode) (c : DConf) : ∀ (f : Nat) (ks met : List Int), ∃ t, (dfsF l c f ks met).2 = met ++ t
  | 0, ks, met => ⟨[], by simp [dfsF]⟩
  | f + 1, ks, met => by
    rw [dfsF_succ]
    generalize (0 : Int) = z
    induction ks generalizing met z with
    | nil => exact ⟨[], by simp⟩
    | cons k ks ih =>
      rw [List.foldl_cons]
      unfold dfsS
      split
      · obtain ⟨t1, h1⟩ := dfsF_ext l c f (kidsL l (DNode.first (at' l k.toNat))) (met ++ [k])
        simp only at h1 ⊢
        rw [h1]
        obtain ⟨t2, h2⟩ := ih (met ++ [k] ++ t1) (z + (1 + ownZ c (wasteR (at' l k.toNat) 0) + (dfsF l c f (kidsL l (DNode.first (at' l k.toNat))) (met ++ [k])).1))
        have e : ∀ p : Int × List Int, (ks.foldl (dfsS l c f) p).2 = (ks.foldl (fun p k => dfsS l c f p k) p).2 := fun _ => rfl
        exact ⟨[k] ++ t1 ++ t2, by rw [show ∀ p, ks.foldl (fun p k => if (0 ≤ k ∧ k < (l.length : Int)) ∧ k ∉ p.2 then _ else p) p = ks.foldl (dfsS l c f) p from fun _ => rfl, h2]; simp⟩
      · exact ih met z

/-- One after the other. -/
theorem dfsF_each (l : List DNode) (c : DConf) (f : Nat) (ks met : List Int) (z : Int) :
    ks.foldl (fun p k => (p.1 + (dfsF l c f [k] p.2).1, (dfsF l c f [k] p.2).2)) (z, met) = (z + (dfsF l c f ks met).1, (dfsF l c f ks met).2) := by
  cases f with
  | zero =>
    induction ks generalizing z with
    | nil => simp [dfsF]
    | cons k ks ih =>
      rw [List.foldl_cons]
      simp only [dfsF, Int.add_zero] at ih ⊢
      exact ih z
  | succ f =>
    have key : ∀ (ks met : List Int) (z y : Int), (ks.foldl (fun p k => (p.1 + (dfsF l c (f + 1) [k] p.2).1, (dfsF l c (f + 1) [k] p.2).2)) (z + y, met)) =
        (z + (ks.foldl (dfsS l c f) (y, met)).1, (ks.foldl (dfsS l c f) (y, met)).2) := by
      intro ks
      induction ks with
      | nil => intro met z y; rfl
      | cons k ks ih =>
        intro met z y
        rw [List.foldl_cons, List.foldl_cons]
        have : (z + y + (dfsF l c (f + 1) [k] met).1, (dfsF l c (f + 1) [k] met).2) = (z + (dfsS l c f (y, met) k).1, (dfsS l c f (y, met) k).2) := by
          rw [dfsF_succ, List.foldl_cons, List.foldl_nil]
          unfold dfsS
          split <;> simp <;> omega
        simp only
        rw [this]
        exact ih _ z _
    have := key ks met z 0
    rw [Int.add_zero] at this
    rw [this, dfsF_succ]
end Go.Am
end
section
set_option linter.all false
namespace Go.Am
/-- A state as the laws bound it. -/
def okW (w : DWorld) : Prop := smDWorld w ∧ (∀ i, i < (DWorld.l w).length → rg (DNode.next (at' (DWorld.l w) i)) ∧ rg (DNode.first (at' (DWorld.l w) i))) ∧ ∀ i, i < (DWorld.q w).length → rg (DWaste.first (at' (DWorld.q w) i))
/-- What was met is few. -/
def few (l : List DNode) (met : List Int) : Prop := met.length + unmet l met ≤ l.length
theorem unmet_nil (l : List DNode) : unmet l [] = l.length := by
  unfold unmet
  rw [List.filter_eq_self.2 (fun x _ => by simp)]
  simp
theorem few_nil (l : List DNode) : few l [] := by unfold few; rw [unmet_nil]; simp
theorem few_snoc {l : List DNode} {met : List Int} {k : Int} (h : few l met) (hk : 0 ≤ k ∧ k < l.length) (hm : k ∉ met) : few l (met ++ [k]) := by
  unfold few at *
  have := unmet_lt hk hm
  simp only [List.length_append, List.length_cons, List.length_nil]
  omega
theorem dfsF_few (l : List DNode) (c : DConf) : ∀ (f : Nat) (ks met : List Int), few l met → few l (dfsF l c f ks met).2
  | 0, ks, met, h => by simpa [dfsF] using h
  | f + 1, ks, met, h => by
    rw [dfsF_succ]
    generalize (0 : Int) = z
    induction ks generalizing met z with
    | nil => exact h
    | cons k ks ih =>
      rw [List.foldl_cons]
      by_cases hc : (0 ≤ k ∧ k < (l.length : Int)) ∧ k ∉ met
      · have e : dfsS l c f (z, met) k = (z + (1 + ownZ c (wasteR (at' l k.toNat) 0) + (dfsF l c f (kidsL l (DNode.first (at' l k.toNat))) (met ++ [k])).1), (dfsF l c f (kidsL l (DNode.first (at' l k.toNat))) (met ++ [k])).2) := by
          unfold dfsS; rw [if_pos hc]
        rw [e]
        exact ih _ (dfsF_few l c f _ _ (few_snoc h hc.1 hc.2)) _
      · have e : dfsS l c f (z, met) k = (z, met) := by unfold dfsS; rw [if_neg hc]
        rw [e]
        exact ih met h z
theorem unmet_dfs (l : List DNode) (c : DConf) (f : Nat) (ks met : List Int) : unmet l (dfsF l c f ks met).2 ≤ unmet l met := by
  obtain ⟨t, h⟩ := dfsF_ext l c f ks met
  rw [h]
  exact unmet_le
noncomputable def dfsWR (l : List DNode) (c : DConf) (f : Nat) (ks met : List Int) : Int := w64 (dfsF l c f ks met).1
@[reducible] noncomputable def dfsW (l : List DNode) (c : DConf) (f : Nat) (ks met : List Int) : Int := opq dfsWR l c f ks met
theorem dfsW_eq (l : List DNode) (c : DConf) (f : Nat) (ks met : List Int) : dfsW l c f ks met = w64 (dfsF l c f ks met).1 := by show opq dfsWR l c f ks met = _; rw [opq_eq]; rfl
theorem dfsS_no {l : List DNode} {c : DConf} {f : Nat} {z : Int} {met : List Int} {k : Int} (h : k ∈ met) : dfsS l c f (z, met) k = (z, met) := by
  unfold dfsS; rw [if_neg (fun hc => hc.2 h)]
theorem dfsS_yes {l : List DNode} {c : DConf} {f : Nat} {z : Int} {met : List Int} {k : Int} (h : 0 ≤ k ∧ k < l.length) (hm : k ∉ met) : dfsS l c f (z, met) k =
    (z + (1 + ownZ c (wasteR (at' l k.toNat) 0) + (dfsF l c f (kidsL l (DNode.first (at' l k.toNat))) (met ++ [k])).1), (dfsF l c f (kidsL l (DNode.first (at' l k.toNat))) (met ++ [k])).2) := by
  unfold dfsS; rw [if_pos ⟨h, hm⟩]
theorem dfsF_no {l : List DNode} {c : DConf} {f : Nat} {met : List Int} {k : Int} (h : ¬ (0 ≤ k ∧ k < l.length) ∨ k ∈ met) : dfsF l c (f + 1) [k] met = (0, met) := by
  rw [dfsF_succ, List.foldl_cons, List.foldl_nil]
  unfold dfsS; rw [if_neg (fun hc => h.elim (fun h => h hc.1) (fun h => hc.2 h))]
theorem dfsF_yes {l : List DNode} {c : DConf} {f : Nat} {met : List Int} {k : Int} (h : 0 ≤ k ∧ k < l.length) (hm : k ∉ met) : dfsF l c (f + 1) [k] met =
    (1 + ownZ c (wasteR (at' l k.toNat) 0) + (dfsF l c f (kidsL l (DNode.first (at' l k.toNat))) (met ++ [k])).1, (dfsF l c f (kidsL l (DNode.first (at' l k.toNat))) (met ++ [k])).2) := by
  rw [dfsF_succ, List.foldl_cons, List.foldl_nil, dfsS_yes h hm, Int.zero_add]
noncomputable def eachS (l : List DNode) (c : DConf) (f : Nat) (p : Int × List Int) (k : Int) : Int × List Int := (p.1 + (dfsF l c f [k] p.2).1, (dfsF l c f [k] p.2).2)
theorem drop_at {α : Type} [Inhabited α] {l : List α} {i : Nat} (h : i < l.length) : l.drop i = at' l i :: l.drop (i + 1) := by
  rw [List.drop_eq_getElem_cons h, at_eq]; simp [h]
/-- The debt of all garbage, entry by entry. -/
noncomputable def owedOfR (w : DWorld) (k : Int) : Int := (dfsF (DWorld.l w) (DWorld.c w) ((DWorld.l w).length + 1) [k] []).1
noncomputable def owedAtR (w : DWorld) (x : DWaste) : Int := ownZ (DWorld.c w) x + ((kidsL (DWorld.l w) (DWaste.first x)).map (owedOfR w)).sum
noncomputable def owedR (w : DWorld) : Int := ((DWorld.q w).map (owedAtR w)).sum
@[reducible] noncomputable def owedOf (w : DWorld) (k : Int) : Int := opq (fun w k => w64 (owedOfR w k)) w k
theorem owedOf_eq (w : DWorld) (k : Int) : owedOf w k = w64 (owedOfR w k) := by show opq (fun w k => w64 (owedOfR w k)) w k = _; rw [opq_eq]
noncomputable def owedAtI (w : DWorld) (i : Int) : Int := w64 (if 0 ≤ i ∧ i < (DWorld.q w).length then owedAtR w (at' (DWorld.q w) i.toNat) else 0)
@[reducible] noncomputable def owedAt (w : DWorld) (i : Int) : Int := opq owedAtI w i
theorem owedAt_eq (w : DWorld) (i : Int) : owedAt w i = owedAtI w i := by show opq owedAtI w i = _; rw [opq_eq]
@[reducible] noncomputable def owed (w : DWorld) : Int := opq (fun w => w64 (owedR w)) w
theorem owed_eq (w : DWorld) : owed w = w64 (owedR w) := by show opq (fun w => w64 (owedR w)) w = _; rw [opq_eq]
theorem sum_snoc (l : List Int) (x : Int) : (l ++ [x]).sum = l.sum + x := by induction l <;> simp_all <;> omega
theorem take_snoc {α : Type} [Inhabited α] {l : List α} {i : Nat} (h : i < l.length) : l.take (i + 1) = l.take i ++ [at' l i] := by
  rw [List.take_succ_eq_append_getElem h, at_eq]; simp [h]
end Go.Am
end
