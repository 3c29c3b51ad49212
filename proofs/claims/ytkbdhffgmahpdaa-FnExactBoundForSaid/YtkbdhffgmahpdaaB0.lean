/- Data and numbers. · part G1 of the walk · part G2 of the walk -/
import Derived.Test.YtkbdhffgmahpdaaA7
import Derived.Test.YtkbdhffgmahpdaaProg
import Derived.KernelRfl
import Derived.Laws.StructEq
section
set_option linter.all false
namespace Go.Am
def atR {α : Type} [Inhabited α] (l : List α) (i : Nat) : α := l.getD i default
@[reducible] noncomputable def at' {α : Type} [Inhabited α] (l : List α) (i : Nat) : α := opq (@atR α _) l i
theorem at_eq {α : Type} [Inhabited α] (l : List α) (i : Nat) : at' l i = l.getD i default := by show opq (@atR α _) l i = _; rw [opq_eq]; rfl
def lnR {α : Type} (l : List α) : Nat := l.length
@[reducible] noncomputable def ln {α : Type} (l : List α) : Nat := opq (@lnR α) l
theorem ln_eq {α : Type} (l : List α) : ln l = l.length := by show opq (@lnR α) l = _; rw [opq_eq]; rfl
def I (n : Int) : A := .val (.int .i64 n)
def U (n : Int) : A := .val (.int .u8 n)
def Bo (b : Bool) : A := .val (.bool b)
noncomputable def ints (o : Bool) (l : List Int) : A := .slc o 1 (ln l) (fun i => [I (at' l i)])

theorem nc (n : Nat) : @NatCast.natCast Int instNatCastInt n = @Nat.cast Int instNatCastInt n := rfl
theorem ln_set {α : Type} (l : List α) (i : Nat) (x : α) : ln (l.set i x) = ln l := by simp [ln_eq]
theorem at_set {α : Type} [Inhabited α] {l : List α} {i : Nat} (h : i < l.length) (x : α) (k : Nat) : at' (l.set i x) k = if k = i then x else at' l k := by
  by_cases e : k = i
  · subst e; rw [if_pos rfl, at_eq]; simp [h]
  · rw [if_neg e, at_eq, at_eq]; simp [List.getElem?_set_ne (Ne.symm e)]
theorem at_get {α : Type} [Inhabited α] {l : List α} {i : Nat} (h : i < l.length) : l[i]? = some (at' l i) := by rw [at_eq]; simp [h]
theorem len64_eq (n : Nat) : len64 n = (n : Int) := o_len64 _
theorem ilt_eq (a b : Int) : ilt a b = decide (a < b) := by rw [o_ilt]
theorem ile_eq (a b : Int) : ile a b = decide (a ≤ b) := by rw [o_ile]
theorem igt_eq (a b : Int) : igt a b = decide (a > b) := by rw [o_igt]
theorem ige_eq (a b : Int) : ige a b = decide (a ≥ b) := by rw [o_ige]
theorem ieq_eq (a b : Int) : ieq a b = decide (a = b) := by rw [o_ieq]; by_cases h : a = b <;> simp [h]
theorem ine_eq (a b : Int) : ine a b = decide (a ≠ b) := by rw [o_ine]; by_cases h : a = b <;> simp [h]
theorem nat_eq (a : Int) : nat a = a.toNat := o_nat _
theorem nadd_eq (a b : Nat) : nadd a b = a + b := by rw [o_nadd]
theorem nsub_eq (a b : Nat) : nsub a b = a - b := by rw [o_nsub]
theorem nmin_eq (a b : Nat) : nmin a b = min a b := by rw [o_nmin]
theorem isub_eq {a b : Int} (h1 : -9223372036854775808 ≤ a - b) (h2 : a - b < 9223372036854775808) : isub .i64 a b = a - b := by rw [o_isub]; exact IntWalk.i64_in _ (by omega)
theorem iadd_eq {a b : Int} (h1 : -9223372036854775808 ≤ a + b) (h2 : a + b < 9223372036854775808) : iadd .i64 a b = a + b := by rw [o_iadd]; exact IntWalk.i64_in _ (by omega)
theorem imul_eq {a b : Int} (h1 : -9223372036854775808 ≤ a * b) (h2 : a * b < 9223372036854775808) : imul .i64 a b = a * b := by rw [o_imul]; exact IntWalk.i64_in _ (by omega)
theorem inR_eq (i : Int) (n : Nat) : inR i n ↔ 0 ≤ i ∧ i < n := by rw [o_inR]
theorem ltN_eq (i n : Nat) : ltN i n ↔ i < n := by rw [o_ltN]
theorem pos_eq (b : Int) : pos b ↔ 0 ≤ b := by rw [o_pos]
theorem leN_eq (h : Int) (n : Nat) : leN h n ↔ h ≤ n := by rw [o_leN]
theorem leI_eq (l h : Int) : leI l h ↔ l ≤ h := by rw [o_leI]
theorem leNN_eq (l h : Nat) : leNN l h ↔ l ≤ h := by rw [o_leNN]
theorem eqN_eq (l h : Nat) : eqN l h ↔ l = h := by rw [o_eqN]
theorem eqZ_eq (l h : Int) : eqZ l h ↔ l = h := by rw [o_eqZ]
theorem nz_eq (l : Int) : nz l ↔ l ≠ 0 := by rw [o_nz]
theorem fits_eq (n b : Nat) : fits n b ↔ n * b ≤ 2 ^ 47 ∧ n ≤ 2 ^ 47 := by rw [o_fits]
theorem mkC_eq (n m : Int) (b : Nat) : mkC n m b ↔ n = m ∧ 0 ≤ n ∧ n * b ≤ 2 ^ 48 ∧ n < 2 ^ 63 := by rw [o_mkC]
theorem iquo_eq {a b : Int} (h1 : -9223372036854775808 ≤ a.tdiv b) (h2 : a.tdiv b < 9223372036854775808) : iquo .i64 a b = a.tdiv b := by rw [o_iquo]; exact IntWalk.i64_in _ (by omega)
theorem irem_eq (a b : Int) : irem a b = a.tmod b := by rw [o_irem]
theorem imin_eq (a b : Int) : imin a b = if b < a then b else a := by rw [o_imin]
theorem imax_eq (a b : Int) : imax a b = if a < b then b else a := by rw [o_imax]
theorem beqb_eq (a b : Bool) : beqb a b = (a == b) := by rw [o_beqb]
theorem leNN_self (n : Nat) : leNN n n := by rw [o_leNN]; exact Nat.le_refl _
theorem leNN_zero (n : Nat) : leNN 0 n := by rw [o_leNN]; exact Nat.zero_le _
end Go.Am
end
section
set_option linter.all false
namespace Go.Am
open Go.Proofs
def tab : List (TypeId × TI) := [
  (3, ⟨1, 8, false, [], none, some .i64, false, false, [.val (.int .i64 0)]⟩),
  (4, ⟨1, 1, false, [], none, none, true, false, [.val (.bool false)]⟩),
  (5, ⟨1, 1, false, [], none, some .u8, false, false, [.val (.int .u8 0)]⟩),
  (23, ⟨6, 48, true, [(0, 1, false), (1, 1, false), (2, 1, false), (3, 1, false), (4, 1, false), (5, 1, false)], none, none, false, false, [.val (.int .i64 0), .val (.int .i64 0), .val (.int .i64 0), .val (.int .i64 0), .val (.int .i64 0), .val (.int .i64 0)]⟩),
  (24, ⟨1, 24, false, [], some (5, 0), none, false, false, [.emp]⟩),
  (25, ⟨1, 24, false, [], some (3, 0), none, false, false, [.emp]⟩),
  (27, ⟨3, 72, true, [(0, 1, false), (1, 1, false), (2, 1, false)], none, none, false, false, [.emp, .emp, .emp]⟩),
  (28, ⟨1, 24, false, [], some (162, 0), none, false, false, [.emp]⟩),
  (29, ⟨1, 24, false, [], some (165, 0), none, false, false, [.emp]⟩),
  (31, ⟨12, 192, true, [(0, 6, true), (6, 3, true), (9, 1, false), (10, 1, false), (11, 1, false)], none, none, false, false, [.val (.int .i64 0), .val (.int .i64 0), .val (.int .i64 0), .val (.int .i64 0), .val (.int .i64 0), .val (.int .i64 0), .emp, .emp, .emp, .emp, .emp, .emp]⟩),
  (34, ⟨6, 48, true, [(0, 1, false), (1, 1, false), (2, 1, false), (3, 1, false), (4, 1, false), (5, 1, false)], none, none, false, false, [.val (.int .i64 0), .val (.int .i64 0), .val (.int .i64 0), .val (.int .i64 0), .val (.int .i64 0), .val (.int .i64 0)]⟩),
  (35, ⟨3, 72, true, [(0, 1, false), (1, 1, false), (2, 1, false)], none, none, false, false, [.emp, .emp, .emp]⟩),
  (36, ⟨1, 24, false, [], some (142, 0), none, false, false, [.emp]⟩),
  (37, ⟨1, 24, false, [], some (167, 0), none, false, false, [.emp]⟩),
  (39, ⟨12, 192, true, [(0, 6, true), (6, 3, true), (9, 1, false), (10, 1, false), (11, 1, false)], none, none, false, false, [.val (.int .i64 0), .val (.int .i64 0), .val (.int .i64 0), .val (.int .i64 0), .val (.int .i64 0), .val (.int .i64 0), .emp, .emp, .emp, .emp, .emp, .emp]⟩),
  (43, ⟨1, 24, false, [], some (175, 0), none, false, false, [.emp]⟩),
  (45, ⟨8, 96, true, [(0, 6, true), (6, 1, false), (7, 1, false)], none, none, false, false, [.val (.int .i64 0), .val (.int .i64 0), .val (.int .i64 0), .val (.int .i64 0), .val (.int .i64 0), .val (.int .i64 0), .emp, .emp]⟩),
  (47, ⟨2, 16, true, [(0, 1, false), (1, 1, false)], none, none, false, false, [.val (.int .i64 0), .val (.int .i64 0)]⟩),
  (49, ⟨1, 24, false, [], some (80, 0), none, false, false, [.emp]⟩),
  (51, ⟨8, 96, true, [(0, 6, true), (6, 1, false), (7, 1, false)], none, none, false, false, [.val (.int .i64 0), .val (.int .i64 0), .val (.int .i64 0), .val (.int .i64 0), .val (.int .i64 0), .val (.int .i64 0), .emp, .emp]⟩),
  (55, ⟨2, 16, true, [(0, 1, false), (1, 1, false)], none, none, false, true, [.val (.int .i64 0), .val (.int .i64 0)]⟩),
  (61, ⟨4, 32, true, [(0, 2, true), (2, 1, false), (3, 1, false)], none, none, false, false, [.val (.int .i64 0), .val (.int .i64 0), .val (.int .i64 0), .val (.int .i64 0)]⟩),
  (64, ⟨4, 32, true, [(0, 2, true), (2, 1, false), (3, 1, false)], none, none, false, false, [.val (.int .i64 0), .val (.int .i64 0), .val (.int .i64 0), .val (.int .i64 0)]⟩),
  (77, ⟨1, 24, false, [], some (55, 0), none, false, false, [.emp]⟩),
  (78, ⟨1, 24, false, [], some (116, 0), none, false, false, [.emp]⟩),
  (80, ⟨11, 136, true, [(0, 2, true), (2, 2, true), (4, 1, false), (5, 1, false), (6, 1, false), (7, 1, false), (8, 1, false), (9, 1, false), (10, 1, false)], none, none, false, false, [.val (.int .i64 0), .val (.int .i64 0), .val (.int .i64 0), .val (.int .i64 0), .emp, .val (.int .i64 0), .val (.int .i64 0), .val (.bool false), .val (.int .i64 0), .emp, .emp]⟩),
  (116, ⟨1, 24, true, [(0, 1, false)], none, none, false, false, [.emp]⟩),
  (140, ⟨1, 24, false, [], some (147, 0), none, false, false, [.emp]⟩),
  (142, ⟨13, 152, true, [(0, 1, false), (1, 1, false), (2, 1, false), (3, 1, false), (4, 1, false), (5, 1, false), (6, 1, false), (7, 1, false), (8, 1, false), (9, 1, false), (10, 1, false), (11, 1, false), (12, 1, false)], none, none, false, false, [.val (.int .i64 0), .val (.int .i64 0), .val (.int .i64 0), .val (.int .i64 0), .val (.int .i64 0), .val (.int .i64 0), .val (.int .i64 0), .val (.int .i64 0), .emp, .val (.int .i64 0), .val (.int .i64 0), .emp, .emp]⟩),
  (147, ⟨3, 24, true, [(0, 1, false), (1, 1, false), (2, 1, false)], none, none, false, false, [.val (.int .i64 0), .val (.int .i64 0), .val (.int .i64 0)]⟩),
  (160, ⟨1, 24, false, [], some (204, 0), none, false, false, [.emp]⟩),
  (162, ⟨13, 152, true, [(0, 1, false), (1, 1, false), (2, 1, false), (3, 1, false), (4, 1, false), (5, 1, false), (6, 1, false), (7, 1, false), (8, 1, false), (9, 1, false), (10, 1, false), (11, 1, false), (12, 1, false)], none, none, false, false, [.val (.int .i64 0), .val (.int .i64 0), .val (.int .i64 0), .val (.int .i64 0), .val (.int .i64 0), .val (.int .i64 0), .val (.int .i64 0), .val (.int .i64 0), .emp, .val (.int .i64 0), .val (.int .i64 0), .emp, .emp]⟩),
  (165, ⟨5, 72, true, [(0, 1, false), (1, 1, false), (2, 1, false), (3, 1, false), (4, 1, false)], none, none, false, false, [.val (.int .i64 0), .val (.int .i64 0), .emp, .emp, .val (.int .i64 0)]⟩),
  (167, ⟨5, 72, true, [(0, 1, false), (1, 1, false), (2, 1, false), (3, 1, false), (4, 1, false)], none, none, false, false, [.val (.int .i64 0), .val (.int .i64 0), .emp, .emp, .val (.int .i64 0)]⟩),
  (172, ⟨1, 24, false, [], some (47, 0), none, false, false, [.emp]⟩),
  (173, ⟨1, 24, false, [], some (209, 0), none, false, false, [.emp]⟩),
  (175, ⟨11, 136, true, [(0, 2, true), (2, 2, true), (4, 1, false), (5, 1, false), (6, 1, false), (7, 1, false), (8, 1, false), (9, 1, false), (10, 1, false)], none, none, false, false, [.val (.int .i64 0), .val (.int .i64 0), .val (.int .i64 0), .val (.int .i64 0), .emp, .val (.int .i64 0), .val (.int .i64 0), .val (.bool false), .val (.int .i64 0), .emp, .emp]⟩),
  (204, ⟨3, 24, true, [(0, 1, false), (1, 1, false), (2, 1, false)], none, none, false, false, [.val (.int .i64 0), .val (.int .i64 0), .val (.int .i64 0)]⟩),
  (206, ⟨1, 24, false, [], some (4, 0), none, false, false, [.emp]⟩),
  (209, ⟨1, 24, true, [(0, 1, false)], none, none, false, false, [.emp]⟩)]

theorem tab_chk : tabChk Try.prog tab = true := by kernel_rfl
end Go.Am
end
section
set_option linter.all false
namespace Go.Am
open Go.Proofs

theorem eq55 (a b x y : Int) (w : World) : (Op.equal 55 (.agg #[.int .i64 a, .int .i64 b]) (.agg #[.int .i64 x, .int .i64 y])).run Try.prog w = .ok (decide ([a, b] = [x, y])) w := by
  have hs : Try.prog.stoodInHeld 55 = false := by kernel_rfl
  have hf : Try.prog.underlying 55 = some (.struct (Try.prog.fieldsOf 55)) := by kernel_rfl
  have h3 : Try.prog.underlying 3 = some (.int .i64) := Try.underlying3
  have ha : ∀ w, (isAgg 3).run Try.prog w = .ok false w := fun w => isAgg_run h3 w
  have hi : ∀ (d : Nat) (p q : Int) (w : World), (Op.equalIn (d + 1) 3 (.int .i64 p) (.int .i64 q)).run Try.prog w = .ok (p == q) w := fun d p q w => run_equalIn_int w d 3 .i64 .i64 p q h3
  show (Op.equalIn (9999 + 1) 55 _ _).run Try.prog w = _
  rw [run_equalIn_agg w 9999 55 _ _ hf hs]
  have hfl : (Try.prog.fieldsOf 55).toList.map (fun f => (f.name != "_", f.type, f.offset)) = [(true, 3, 0), (true, 3, 1)] := by kernel_rfl
  generalize (Try.prog.fieldsOf 55).toList = fl at hfl
  rcases fl with _ | ⟨f, _ | ⟨g, _ | ⟨k, r⟩⟩⟩
  · simp at hfl
  · simp at hfl
  · simp only [List.map_cons, List.map_nil, List.cons.injEq, Prod.mk.injEq, bne_iff_ne, ne_eq, and_true] at hfl
    obtain ⟨⟨h1, h2, h3'⟩, h4, h5, h6⟩ := hfl
    simp [Op.eqFields, h1, h2, h3', h4, h5, h6, part, ha, hi 9998]
    by_cases e : a = x
    · by_cases e2 : b = y <;> simp [e, e2]
    · simp [e]
  · simp at hfl

theorem tab_eqi : tab.all (fun p => !p.2.eqi || (p.1 == 55 && p.2.sz == 2)) = true := by kernel_rfl

def gam (t : TypeId) : Option TI := tabOf tab t

theorem gam_ok : TabOk Try.prog gam := tabOf_ok tab_chk (by
  intro u ti hm he
  have : u = 55 ∧ ti.sz = 2 := by
    have := List.all_eq_true.1 tab_eqi _ hm
    simpa [he] using this
  obtain ⟨rfl, h2⟩ := this
  intro xs ys w hx hy
  rw [h2] at hx hy
  match xs, hx, ys, hy with
  | [a, b], _, [x, y], _ => exact ⟨eq55 a b x y w, by kernel_rfl⟩)
end Go.Am
end
