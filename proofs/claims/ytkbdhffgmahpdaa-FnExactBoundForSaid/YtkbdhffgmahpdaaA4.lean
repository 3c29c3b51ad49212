/- Effects: append. · Effects: append, the theorem. · Effects: append, the theorem: in place; all together. · Effects: append, copy, clear: the theorems. -/
import Derived.Test.YtkbdhffgmahpdaaA3
import Derived.Laws.Append
section
set_option linter.all false
namespace Go.Am
section
variable {P : Program} {Γ : Tab} {c : Ctx} {s : St} {β : Nat → Option Loc} {φ : Nat → Bs} {a : Act} {w : World} {N : Bs}

def flat (n : Nat) (vs : Nat → List Value) : List Value := (List.range n).flatMap vs

theorem flat_length {sz : Nat} {vs : Nat → List Value} : ∀ {n : Nat}, (∀ i, i < n → (vs i).length = sz) → (flat n vs).length = n * sz
  | 0, _ => by simp [flat]
  | n + 1, h => by
    have ih := flat_length (n := n) (fun i hi => h i (by omega))
    unfold flat at *
    rw [List.range_succ, List.flatMap_append, List.length_append, ih]
    simp [h n (by omega), Nat.add_mul]

theorem flat_get {sz : Nat} {vs : Nat → List Value} : ∀ {n : Nat}, (∀ i, i < n → (vs i).length = sz) → ∀ i, i < n → ∀ j, j < sz → (flat n vs)[i * sz + j]? = (vs i)[j]?
  | 0, _, _, h, _, _ => by omega
  | n + 1, h, i, hi, j, hj => by
    have hl := flat_length (n := n) (vs := vs) (sz := sz) (fun i hi => h i (by omega))
    have e : flat (n + 1) vs = flat n vs ++ vs n := by unfold flat; rw [List.range_succ, List.flatMap_append]; simp
    rw [e]
    by_cases hin : i < n
    · have : (i + 1) * sz ≤ n * sz := Nat.mul_le_mul_right _ hin
      rw [Nat.add_mul] at this
      rw [List.getElem?_append_left (by omega)]
      exact flat_get (fun i hi => h i (by omega)) i hin j hj
    · have : i = n := by omega
      subst this
      rw [List.getElem?_append_right (by omega), hl]
      congr 1; omega

/-- cells that an address leads to -/
def Rd (w : World) (ad : Option Addr) (cs : List Value) : Prop :=
  (∀ b o, ad = some ⟨b, o, none⟩ → ∀ j v, cs[j]? = some v → w.cell? ⟨b, o + j, none⟩ = some v) ∧ ((∀ b o, ad ≠ some ⟨b, o, none⟩) → cs = [])

theorem firstCells_run {size k : Nat} {ad : Option Addr} {len cap : Nat} {cs : List Value} (hl : cs.length = k * size) (h : Rd w ad cs) :
    (Builtin.firstCells size k (.slice ad len cap)).run P w = .ok cs.toArray w := by
  cases ad with
  | none =>
    have : cs = [] := h.2 (by simp)
    subst this
    simp [run_firstCells_none]
  | some x =>
    obtain ⟨b, o, sp⟩ := x
    cases sp with
    | none =>
      refine run_firstCells_some w size k ⟨b, o, none⟩ len cap cs hl (fun j v hv => ?_)
      rw [add_eq]
      exact h.1 b o rfl j v hv
    | some sp =>
      have : cs = [] := h.2 (by simp)
      subst this
      exact run_firstCells_some w size k _ len cap [] (by simpa using hl) (fun j v hv => by simp at hv)

theorem append_grow {t ty e : TypeId} {te : TI} (hu : P.underlying t = some (.slice e)) (ke : TIok P e te) {ad1 ad2 : Option Addr} {n cp m cp2 : Nat} {olds news : List Value}
    (ho : olds.length = n * te.sz) (hO : Rd w ad1 olds) (hn : news.length = m * te.sz) (hN : Rd w ad2 news) (hg : cp < n + m) (hf : fits (n + m) te.bytes) :
    ∃ (C : Nat) (rest : Array Value), n + m ≤ C ∧ rest.size = (C - (n + m)) * te.sz ∧
      (Builtin.append_ #[t, t] ty #[.slice ad1 n cp, .slice ad2 m cp2]).run P w = .ok (.slice (some ⟨w.heap.size, 0, none⟩) (n + m) C) (w.drew.alloc (.cells (olds.toArray ++ news.toArray ++ rest) e)) := by
  simp only [o_fits] at hf
  have hn' : ¬ (n + m ≤ cp) := by omega
  have h63' : ¬ (9223372036854775807 < ((n : Int) + (m : Int))) := by omega
  have h48 := growslice_fits (need := n + m) (old := cp) (bytes := te.bytes) hg (by omega)
  have h48' : ¬ (281474976710656 < Builtin.nextslicecap (n + m) cp * te.bytes) := by omega
  have hzs : ke.z.cells.size = te.sz := by
    have : ke.z.cells.toList.length = te.sz := by rw [← ke.zs.length, ke.zsz]
    simpa using this
  have f1 := firstCells_run (P := P) (w := w.drew) (size := te.sz) (k := n) (ad := ad1) (len := n) (cap := cp) ho hO
  have f2 := firstCells_run (P := P) (w := w.drew) (size := te.sz) (k := m) (ad := ad2) (len := m) (cap := cp2) hn hN
  refine ⟨grownCap w (n + m) cp e, Builtin.zeroCells ke.z.cells (grownCap w (n + m) cp e - (n + m)), ?_, ?_, ?_⟩
  · show n + m ≤ (n + m) + _ % _
    omega
  · simp [Builtin.zeroCells, hzs]
  · simp [Builtin.append_, run_underlying hu, size_run ke.info, ke.sz, info_run ke.info, ke.bytes, zero_run ke, Builtin.lenOf, hn', h63', h48', Question.forced, f1, f2, newRow, grownCap]
    congr 2
    apply Array.ext'
    simp [List.append_assoc]

theorem append_place {t ty e : TypeId} {te : TI} (hu : P.underlying t = some (.slice e)) (ke : TIok P e te) {b o : Nat} {ad2 : Option Addr} {n cp m cp2 : Nat} {news : List Value}
    (hn : news.length = m * te.sz) (hN : Rd w ad2 news) (hg : n + m ≤ cp) {cur : Array Value} {E : TypeId} (hb : w.heap[b]? = some (.cells cur E (0, 0))) (hfit : o + n * te.sz + news.length ≤ cur.size)
    (h1 : ∀ u ∈ news, u.oneCell' = true) :
    (Builtin.append_ #[t, t] ty #[.slice (some ⟨b, o, none⟩) n cp, .slice ad2 m cp2]).run P w = .ok (.slice (some ⟨b, o, none⟩) (n + m) cp) (w.setRow b (seg cur.toList (o + n * te.sz) news).toArray) := by
  have f2 := firstCells_run (P := P) (w := w) (size := te.sz) (k := m) (ad := ad2) (len := m) (cap := cp2) hn hN
  have hst := run_storeCells_at P b (o + n * te.sz) E news 0 cur w hb (by simpa using hfit) h1
  simp only [Nat.add_zero] at hst
  simp [Builtin.append_, run_underlying hu, size_run ke.info, ke.sz, Builtin.lenOf, hg, f2, add_eq, hst, seg]

theorem append_none {t ty e : TypeId} {te : TI} (hu : P.underlying t = some (.slice e)) (ke : TIok P e te) {ad1 ad2 : Option Addr} {cp cp2 : Nat} {news : List Value}
    (hn : news.length = 0 * te.sz) (hN : Rd w ad2 news) :
    (Builtin.append_ #[t, t] ty #[.slice ad1 0 cp, .slice ad2 0 cp2]).run P w = .ok (.slice ad1 0 cp) w := by
  have f2 := firstCells_run (P := P) (w := w) (size := te.sz) (k := 0) (ad := ad2) (len := 0) (cap := cp2) hn hN
  have : news = [] := by simpa using hn
  subst this
  cases ad1 <;> simp [Builtin.append_, run_underlying hu, size_run ke.info, ke.sz, Builtin.lenOf, f2, storeCells]

/-- What is appended or copied: its cells. -/
structure Src (w : World) (N : Bs) (β : Nat → Option Loc) (φ : Nat → Bs) (v : Value) (sz m : Nat) (h : Nat → List A) (ky : Option Nat) (ad : Option Addr) (cp : Nat) (vs : Nat → List Value) (Fy : Nat → Bs) : Prop where
  val : v = .slice ad m cp
  len : ∀ i, i < m → (vs i).length = sz
  rd : Rd w ad (flat m vs)
  el : ∀ i, i < m → Cs w N β (h i) (vs i) (Fy i)
  dis : ∀ i, i < m → ∀ j, j < m → i ≠ j → ∀ x, Fy i x → ¬ Fy j x
  own : ∀ i, i < m → ∀ x, Fy i x → ∃ k, ky = some k ∧ φ k x

theorem Row.rd {b off sz n : Nat} {vs : Nat → List Value} (h : Row w b off sz n vs) : Rd w (some ⟨b, off, none⟩) (flat n vs) := by
  refine ⟨fun b' o e j v hv => ?_, fun hn => absurd rfl (hn b off)⟩
  cases e
  have hl := flat_length (n := n) (vs := vs) (sz := sz) (fun i hi => (h i hi).1)
  have hj : j < n * sz := by
    rcases Nat.lt_or_ge j (n * sz) with h' | h'
    · exact h'
    · rw [List.getElem?_eq_none (by omega)] at hv; cases hv
  have hsz : 0 < sz := by
    rcases Nat.eq_zero_or_pos sz with rfl | h'
    · simp at hj
    · exact h'
  have hi : j / sz < n := (Nat.div_lt_iff_lt_mul hsz).2 hj
  have hm : j % sz < sz := Nat.mod_lt _ hsz
  have e := Nat.div_add_mod j sz
  have e' : j / sz * sz + j % sz = j := by rw [Nat.mul_comm]; exact e
  have := flat_get (n := n) (vs := vs) (sz := sz) (fun i hi => (h i hi).1) (j / sz) hi (j % sz) hm
  rw [e'] at this
  rw [this, ← (h _ hi).2 _ hm] at hv
  rw [Nat.add_assoc, e'] at hv
  exact hv

theorem Cs.one {l : List A} {vs : List Value} {F : Bs} (h : Cs w N β l vs F) : ∀ u ∈ vs, u.oneCell' = true := by
  induction l generalizing vs F with
  | nil => cases h; intro u hu; cases hu
  | cons x l ih =>
    cases h with
    | cons h1 h2 =>
      intro u hu
      cases hu with
      | head => exact h1.one
      | tail _ hu => exact ih h2 u hu

theorem Ks.cs {l : List A} {vs : List Value} {F : Bs} (h : Ks w N l vs F) : Cs w N β l vs F := by
  induction l generalizing vs F with
  | nil => cases h with | nil h => exact .nil h
  | cons x l ih => cases h with | cons h1 h2 h3 h4 => exact .cons (.inl h1) (ih h2) h3 h4

theorem Src.one {v : Value} {sz m : Nat} {h : Nat → List A} {ky : Option Nat} {ad cp vs Fy} (k : Src w N β φ v sz m h ky ad cp vs Fy) : ∀ u ∈ flat m vs, u.oneCell' = true := by
  intro u hu
  unfold flat at hu
  rw [List.mem_flatMap] at hu
  obtain ⟨i, hi, hu⟩ := hu
  exact (k.el i (by simpa using hi)).one u hu

theorem seqA_sound (hR : Rel c s β φ w) {y : A} {v : Value} (hv : V w (Ow c.N0 φ) β y v) {sz m : Nat} {h : Nat → List A} {ky : Option Nat} {C : Prop} (hy : seqA s y = some (C, m, h, ky)) (hC : C)
    (hz : szOk s y sz = true) : (∃ ad cp vs Fy, Src w (Ow c.N0 φ) β φ v sz m h ky ad cp vs Fy) ∧ ∀ k, ky = some k → s.H k ≠ none := by
  have hsz := szOk_sound hR.objs hz
  unfold seqA at hy
  split at hy
  · cases hy
    obtain ⟨ad, rfl⟩ := hv.emp_eq
    refine ⟨⟨ad, 0, fun _ => [], fun _ _ => False, rfl, fun i hi => by omega, ⟨fun b o e j v hv => by simp [flat] at hv, fun _ => by simp [flat]⟩, fun i hi => by omega, fun i hi => by omega, fun i hi => by omega⟩, fun k hk => by cases hk⟩
  · rename_i z n g
    cases hy
    have hz := hsz.2 _ _ _ _ rfl
    subst hz
    refine ⟨?_, fun k hk => by cases hk⟩
    rcases hv.fro_eq with ⟨rfl, ad, cp, rfl⟩ | ⟨b, off, cp, vs, F, rfl, k0, k1, k2, k3, k4, k5⟩
    · exact ⟨ad, cp, fun _ => [], fun _ _ => False, rfl, fun i hi => by omega, ⟨fun b o e j v hv => by simp [flat] at hv, fun _ => by simp [flat]⟩, fun i hi => by omega, fun i hi => by omega, fun i hi => by omega⟩
    · exact ⟨_, cp, vs, fun _ => F, rfl, fun i hi => (k4 i hi).1, k4.rd, fun i hi => (k5 i hi).cs, fun i hi j hj hij x hx => absurd hx (k0 x), fun i hi x hx => absurd hx (k0 x)⟩
  · rename_i id off n
    split at hy
    rotate_left
    · cases hy
    rename_i ob hob
    cases hy
    refine ⟨?_, fun k hk => by cases hk; rw [hob]; simp⟩
    obtain ⟨L, ad, cp, l1, rfl, l2, l3, l4⟩ := hv.sl_eq
    obtain ⟨L', q1, q2⟩ := hR.obj id ob hob
    rw [l1] at q1; cases q1
    have hL := hsz.1 _ _ _ rfl L l1
    simp only [o_leNN, o_nadd] at hC
    rcases l4 with rfl | ⟨hn, rfl⟩
    · have : m = 0 := by omega
      subst this
      exact ⟨ad, 0, fun _ => [], fun _ _ => False, rfl, fun i hi => by omega, ⟨fun b o e j v hv => by simp [flat] at hv, fun _ => by simp [flat]⟩, fun i hi => by omega, fun i hi => by omega, fun i hi => by omega⟩
    · obtain ⟨z1, z2, z3⟩ := q2
      rcases z3 with ⟨z3, _⟩ | ⟨_, vs, Fi, y1, y2, y3, y4, y5, y6⟩
      · rw [hn] at z3; cases z3
      have hh : ∀ i, (if off = 0 then ob.g else shift ob.g off) i = ob.g (off + i) := by
        intro i
        by_cases e : off = 0
        · subst e; simp
        · simp [e, shift]
      have hrow := y2.shift (l := off) (m := m) hC
      rw [← z1] at hrow
      refine ⟨_, cp, fun i => vs (off + i), fun i => Fi (off + i), rfl, fun i hi => ?_, hrow.rd, fun i hi => ?_, fun i hi j hj hij => y5 _ (by omega) _ (by omega) (by omega), fun i hi x hx => ⟨id, rfl, (y6 x).2 (.inr ⟨off + i, by omega, hx⟩)⟩⟩
      · rw [(y2 _ (by omega)).1, ← z1, hL]
      · rw [hh]; exact y3 _ (by omega)
  · cases hy

end
end Go.Am
end
section
set_option linter.all false
namespace Go.Am
section
variable {P : Program} {Γ : Tab} {c : Ctx} {s : St} {β : Nat → Option Loc} {φ : Nat → Bs} {a : Act} {w : World} {N : Bs}

/-- A value and a state that come out of an operation. -/
def Out (c : Ctx) (s : St) (β : Nat → Option Loc) (φ : Nat → Bs) (w : World) (K : A → St → Prop) (v : Value) (w' : World) : Prop :=
  ∃ (r : A) (s' : St) (β' : Nat → Option Loc) (φ' : Nat → Bs), Rel c s' β' φ' w' ∧ Stb w (Ow c.N0 φ) w' (Ow c.N0 φ') ∧ Bex β β' ∧ s'.env = s.env ∧ V w' (Ow c.N0 φ') β' r v ∧ K r s'

theorem blk_div (d : Nat) : blk d / 64 = d + 1 := by unfold blk; omega

/-- Old and new elements in a row: a new object. -/
theorem cat_new (hR : Rel c s β φ w) {d : Nat} (hD : s.D (d + 1) = false) {Z : Nat → Prop} (hRZ : ∀ i, Z i → s.R i = false) {sz n m : Nat} {g h : Nat → List A} {vs us : Nat → List Value} {Fi Gi : Nat → Bs}
    (hl : ∀ i, i < n → (vs i).length = sz) (hl' : ∀ i, i < m → (us i).length = sz)
    (he : ∀ i, i < n → Cs w (Ow c.N0 φ) β (g i) (vs i) (Fi i)) (he' : ∀ i, i < m → Cs w (Ow c.N0 φ) β (h i) (us i) (Gi i))
    (hd : ∀ i, i < n → ∀ j, j < n → i ≠ j → ∀ x, Fi i x → ¬ Fi j x) (hd' : ∀ i, i < m → ∀ j, j < m → i ≠ j → ∀ x, Gi i x → ¬ Gi j x)
    (hdd : ∀ i, i < n → ∀ j, j < m → ∀ x, Fi i x → ¬ Gi j x)
    (ho : ∀ i, i < n → ∀ x, Fi i x → ∃ k, Z k ∧ φ k x) (ho' : ∀ i, i < m → ∀ x, Gi i x → ∃ k, Z k ∧ φ k x)
    {C : Nat} {rest : Array Value} {E : TypeId} (hC : n + m ≤ C) (hrest : rest.size = (C - (n + m)) * sz) {H' : Nat → Option Ob} {ob' : Ob} (hob : ob' = ⟨sz, n + m, fun i => if i < n then g i else h (i - n)⟩)
    (hH' : H' (blk d) = some ob') (hH : ∀ i, i ≠ blk d → H' i = s.H i ∨ H' i = none) (hZ : ∀ i, Z i → i ≠ blk d → H' i = none) :
    ∃ β' φ', Rel c { s with H := H', D := setD s.D (d + 1) } β' φ' (w.drew.alloc (.cells ((flat n vs).toArray ++ (flat m us).toArray ++ rest) E)) ∧
      Stb w (Ow c.N0 φ) (w.drew.alloc (.cells ((flat n vs).toArray ++ (flat m us).toArray ++ rest) E)) (Ow c.N0 φ') ∧ Bex β β' ∧
      ∀ N', V (w.drew.alloc (.cells ((flat n vs).toArray ++ (flat m us).toArray ++ rest) E)) N' β' (.sl (blk d) 0 (n + m)) (.slice (some ⟨w.heap.size, 0, none⟩) (n + m) C) := by
  have h0 : β (blk d) = none := hR.fresh _ hD _ (blk_div d)
  have hHn : s.H (blk d) = none := by
    cases e : s.H (blk d) with
    | none => rfl
    | some o => obtain ⟨L', e1, _⟩ := hR.obj _ o e; rw [h0] at e1; cases e1
  let L : Loc := ⟨w.heap.size, 0, C, sz, false⟩
  have hB : Bex β (setB β (blk d) (some L)) := Bex.set h0
  let cells := (flat n vs).toArray ++ (flat m us).toArray ++ rest
  have hnew : (w.drew.alloc (.cells cells E)).heap[w.heap.size]? = some (.cells cells E (0, 0)) := heap_alloc_new w.drew _
  have f1 := flat_length (n := n) (vs := vs) hl
  have f2 := flat_length (n := m) (vs := us) hl'
  have hsize : cells.size = C * sz := by
    simp only [cells, Array.size_append, List.size_toArray, f1, f2, hrest]
    rw [← Nat.add_mul, ← Nat.add_mul]
    congr 1; omega
  have hold : ∀ x, x < w.heap.size → (w.drew.alloc (.cells cells E)).heap[x]? = w.heap[x]? := fun x hx => RowKit.Below.heap_alloc w.drew _ _ hx
  let vs' : Nat → List Value := fun i => if i < n then vs i else us (i - n)
  let Fi' : Nat → Bs := fun i => if i < n then Fi i else Gi (i - n)
  have hlt : ∀ k x, φ k x → x < w.heap.size := fun k x hx => hR.lt k x hx
  have hFi' : ∀ i, i < n + m → ∀ x, Fi' i x → ∃ k, Z k ∧ φ k x := by
    intro i hi x hx
    by_cases e : i < n
    · simp only [Fi', if_pos e] at hx; exact ho i e x hx
    · simp only [Fi', if_neg e] at hx; exact ho' _ (by omega) x hx
  obtain ⟨φ', hR', hS⟩ := Rel.upd (Z := Z) (id' := blk d) (w' := w.drew.alloc (.cells cells E)) hR hRZ rfl rfl rfl (by simp) (fun x hx _ => hold x hx)
    (H' := H') (D' := setD s.D (d + 1)) (β' := setB β (blk d) (some L)) (F' := fun x => x = w.heap.size ∨ ∃ i, i < n + m ∧ Fi' i x)
    (fun q hq => by
      simp only [o_setD] at hq
      by_cases e : q = d + 1
      · simp [e] at hq
      · simp [e] at hq
        exact ⟨hq, by rw [blk_div]; omega⟩)
    hB (fun i hi => setB_ne _ _ hi) (fun h => by unfold blk at h; omega) hH hZ (fun h => absurd hHn h)
    (fun x hx => hx.elim (fun h => .inr ⟨by omega, by simp; omega⟩) (fun ⟨i, hi, hx⟩ => .inl (hFi' i hi x hx)))
    (fun N' hN' => by
      have hS : Stb w (Ow c.N0 φ) (w.drew.alloc (.cells cells E)) N' := ⟨by simp, fun b hb hn => ⟨hold b hb, hN' b hb hn⟩⟩
      refine ⟨L, ob', setB_same _ _ _, hH', ?_⟩
      subst hob
      refine ⟨rfl, hC, .inr ⟨rfl, vs', Fi', ⟨cells, E, hnew, by simp [L, hsize]⟩, fun i hi => ?_, fun i hi => ?_, fun i hi hx => ?_, fun i hi j hj hij x hx hy => ?_, fun x => Iff.rfl⟩⟩
      · have hi' : i < n + m := hi
        refine ⟨?_, fun j hj => ?_⟩
        · simp only [vs']
          split
          · rename_i e; exact hl i e
          · exact hl' _ (by omega)
        · replace hj : j < sz := hj
          have hc : (w.drew.alloc (.cells cells E)).cell? ⟨w.heap.size, 0 + i * sz + j, none⟩ = cells[i * sz + j]? := by
            simp only [World.cell?, hnew, Nat.zero_add]; rfl
          show (w.drew.alloc (.cells cells E)).cell? ⟨w.heap.size, 0 + i * sz + j, none⟩ = _
          rw [hc]
          simp only [vs']
          by_cases e : i < n
          · have := flat_get hl i e j hj
            have hb : (i + 1) * sz ≤ n * sz := Nat.mul_le_mul_right _ e
            rw [Nat.add_mul] at hb
            rw [if_pos e, ← this]
            simp only [cells]
            rw [Array.append_assoc, Array.getElem?_append_left (by simp [f1]; omega)]
            simp
          · have hi2 : i - n < m := by omega
            have := flat_get hl' (i - n) hi2 j hj
            have hb : (i - n + 1) * sz ≤ m * sz := Nat.mul_le_mul_right _ hi2
            have hb' : i * sz = n * sz + (i - n) * sz := by rw [← Nat.add_mul]; congr 1; omega
            rw [Nat.add_mul] at hb
            rw [if_neg e, ← this]
            simp only [cells]
            rw [Array.append_assoc, Array.getElem?_append_right (by simp [f1]; omega), Array.getElem?_append_left (by simp [f1, f2]; omega)]
            simp only [List.size_toArray, List.getElem?_toArray, f1]
            congr 1; omega
      · have hi' : i < n + m := hi
        simp only [vs', Fi']
        by_cases e : i < n
        · simp only [if_pos e]
          exact (he i e).stb hS hB (fun x hx => by obtain ⟨k, _, hk⟩ := ho i e x hx; exact hold x (hlt k x hk))
        · simp only [if_neg e]
          exact (he' (i - n) (by omega)).stb hS hB (fun x hx => by obtain ⟨k, _, hk⟩ := ho' (i - n) (by omega) x hx; exact hold x (hlt k x hk))
      · obtain ⟨k, _, hk⟩ := hFi' i hi _ hx
        have := hlt k _ hk
        simp [L] at this
      · have hi' : i < n + m := hi
        have hj' : j < n + m := hj
        simp only [Fi'] at hx hy
        by_cases e : i < n
        · by_cases e' : j < n
          · rw [if_pos e] at hx; rw [if_pos e'] at hy; exact hd i e j e' hij x hx hy
          · rw [if_pos e] at hx; rw [if_neg e'] at hy; exact hdd i e (j - n) (by omega) x hx hy
        · by_cases e' : j < n
          · rw [if_neg e] at hx; rw [if_pos e'] at hy; exact hdd j e' (i - n) (by omega) x hy hx
          · rw [if_neg e] at hx; rw [if_neg e'] at hy; exact hd' (i - n) (by omega) (j - n) (by omega) (by omega) x hx hy)
  exact ⟨_, φ', hR', hS, hB, fun N' => .sl (L := L) (setB_same _ _ _) (by simp [L]) hC (.inr ⟨rfl, by simp [L]⟩)⟩

/-- No memory: an object of no elements. -/
theorem empty_new (hR : Rel c s β φ w) {d : Nat} (hD : s.D (d + 1) = false) {Z : Nat → Prop} (hRZ : ∀ i, Z i → s.R i = false) {sz : Nat} {H' : Nat → Option Ob} {ob' : Ob} (hob : ob'.sz = sz) (hob' : ob'.n = 0)
    (hH' : H' (blk d) = some ob') (hH : ∀ i, i ≠ blk d → H' i = s.H i ∨ H' i = none) (hZ : ∀ i, Z i → i ≠ blk d → H' i = none) :
    ∃ β' φ', Rel c { s with H := H', D := setD s.D (d + 1) } β' φ' w ∧ Stb w (Ow c.N0 φ) w (Ow c.N0 φ') ∧ Bex β β' ∧ ∀ N' ad, V w N' β' (.sl (blk d) 0 0) (.slice ad 0 0) := by
  have h0 : β (blk d) = none := hR.fresh _ hD _ (blk_div d)
  have hHn : s.H (blk d) = none := by
    cases e : s.H (blk d) with
    | none => rfl
    | some o => obtain ⟨L', e1, _⟩ := hR.obj _ o e; rw [h0] at e1; cases e1
  let L : Loc := ⟨0, 0, 0, sz, true⟩
  have hB : Bex β (setB β (blk d) (some L)) := Bex.set h0
  obtain ⟨φ', hR', hS⟩ := Rel.upd (Z := Z) (id' := blk d) (w' := w) hR hRZ rfl rfl rfl (Nat.le_refl _) (fun x hx _ => rfl)
    (H' := H') (D' := setD s.D (d + 1)) (β' := setB β (blk d) (some L)) (F' := fun _ => False)
    (fun q hq => by
      simp only [o_setD] at hq
      by_cases e : q = d + 1
      · simp [e] at hq
      · simp [e] at hq
        exact ⟨hq, by rw [blk_div]; omega⟩)
    hB (fun i hi => setB_ne _ _ hi) (fun h => by unfold blk at h; omega) hH hZ (fun h => absurd hHn h) (fun x hx => hx.elim)
    (fun N' hN' => ⟨L, ob', setB_same _ _ _, hH', hob.symm, by rw [hob']; exact Nat.zero_le _, .inl ⟨rfl, rfl, fun _ h => h⟩⟩)
  exact ⟨_, φ', hR', hS, hB, fun N' ad => .sl (L := L) (setB_same _ _ _) (Nat.le_refl _) (Nat.le_refl _) (.inl rfl)⟩

end
end Go.Am
end
section
set_option linter.all false
namespace Go.Am
section
variable {P : Program} {Γ : Tab} {c : Ctx} {s : St} {β : Nat → Option Loc} {φ : Nat → Bs} {a : Act} {w : World} {N : Bs}

/-- New elements behind those of an object, in its block. -/
theorem place_new (hR : Rel c s β φ w) {d : Nat} (hD : s.D (d + 1) = false) {id : Nat} (hr : s.R id = false) {ob : Ob} (hid : s.H id = some ob) {L : Loc} (hL : β id = some L) (hn : L.nul = false) {ky : Option Nat} (hkr : ∀ k, ky = some k → s.R k = false) (hky : ky ≠ some id)
    (hkyH : ∀ k, ky = some k → s.H k ≠ none) {off n m cp : Nat} (hoff : off + n = ob.n) (hcp : off + cp ≤ L.cap) (hin : n + m ≤ cp)
    {v : Value} {h : Nat → List A} {ad cp2 us Gi} (hs : Src w (Ow c.N0 φ) β φ v ob.sz m h ky ad cp2 us Gi) {g : Nat → List A} (hg : ∀ i, i < n → g i = ob.g (off + i))
    {H' : Nat → Option Ob} {ob' : Ob} (hob : ob' = ⟨ob.sz, n + m, fun i => if i < n then g i else h (i - n)⟩) (hH' : H' (blk d) = some ob') (hH : ∀ i, i ≠ blk d → H' i = s.H i ∨ H' i = none)
    (hZ : ∀ i, (i = id ∨ ky = some i) → i ≠ blk d → H' i = none) :
    ∃ (cur : Array Value) (E : TypeId) (β' : Nat → Option Loc) (φ' : Nat → Bs), w.heap[L.b]? = some (.cells cur E (0, 0)) ∧ L.off + off * L.sz + n * ob.sz + (flat m us).length ≤ cur.size ∧
      Rel c { s with H := H', D := setD s.D (d + 1) } β' φ' (w.setRow L.b (seg cur.toList (L.off + off * L.sz + n * ob.sz) (flat m us)).toArray) ∧
      Stb w (Ow c.N0 φ) (w.setRow L.b (seg cur.toList (L.off + off * L.sz + n * ob.sz) (flat m us)).toArray) (Ow c.N0 φ') ∧ Bex β β' ∧
      ∀ N' , V (w.setRow L.b (seg cur.toList (L.off + off * L.sz + n * ob.sz) (flat m us)).toArray) N' β' (.sl (blk d) 0 (n + m)) (.slice (some ⟨L.b, L.off + off * L.sz, none⟩) (n + m) cp) := by
  obtain ⟨L', hL', hor⟩ := hR.obj id ob hid
  rw [hL] at hL'; cases hL'
  obtain ⟨vs, Fi, cur, E, k0, k1, hsz, hcap, krow, kel, knb, kdis, kF⟩ := hor.open hn
  have h0 : β (blk d) = none := hR.fresh _ hD _ (blk_div d)
  have hHn : s.H (blk d) = none := by
    cases e : s.H (blk d) with
    | none => rfl
    | some o => obtain ⟨L', e1, _⟩ := hR.obj _ o e; rw [h0] at e1; cases e1
  let L2 : Loc := ⟨L.b, L.off + off * L.sz, cp, L.sz, false⟩
  have hB : Bex β (setB β (blk d) (some L2)) := Bex.set h0
  have hlen := flat_length (n := m) (vs := us) hs.len
  have hcap2 : L.off + off * L.sz + cp * L.sz ≤ cur.size := by
    have : (off + cp) * L.sz ≤ L.cap * L.sz := Nat.mul_le_mul_right _ hcp
    rw [Nat.add_mul] at this
    omega
  have hfit : L.off + off * L.sz + n * ob.sz + (flat m us).length ≤ cur.size := by
    have : (n + m) * L.sz ≤ cp * L.sz := Nat.mul_le_mul_right _ hin
    rw [Nat.add_mul] at this
    rw [hlen, ← hsz]
    omega
  have hfit' : L.off + off * L.sz + n * ob.sz + (flat m us).length ≤ cur.toList.length := by simpa using hfit
  have hbid : φ id L.b := (kF _).2 (.inl rfl)
  have hbO : Ow c.N0 φ L.b := .inr ⟨id, hbid⟩
  let w' := w.setRow L.b (seg cur.toList (L.off + off * L.sz + n * ob.sz) (flat m us)).toArray
  have hGk : ∀ i, i < m → ∀ x, Gi i x → ∃ k, ky = some k ∧ φ k x := hs.own
  have hGid : ∀ i, i < m → ∀ x, Gi i x → ¬ φ id x := by
    intro i hi x hx hxi
    obtain ⟨k, e, hk⟩ := hGk i hi x hx
    have : k ≠ id := by rintro rfl; exact hky e
    exact hR.dis k id this x hk hxi
  let vs' : Nat → List Value := fun i => if i < n then vs (off + i) else us (i - n)
  let Fi' : Nat → Bs := fun i => if i < n then Fi (off + i) else Gi (i - n)
  have hFi' : ∀ i, i < n + m → ∀ x, Fi' i x → (∃ k, (k = id ∨ ky = some k) ∧ φ k x) ∧ x ≠ L.b := by
    intro i hi x hx
    by_cases e : i < n
    · simp only [Fi', if_pos e] at hx
      exact ⟨⟨id, .inl rfl, (kF x).2 (.inr ⟨off + i, by omega, hx⟩)⟩, by rintro rfl; exact knb _ (by omega) hx⟩
    · simp only [Fi', if_neg e] at hx
      obtain ⟨k, e', hk⟩ := hGk (i - n) (by omega) x hx
      exact ⟨⟨k, .inr e', hk⟩, by rintro rfl; exact hGid (i - n) (by omega) _ hx hbid⟩
  obtain ⟨φ', hR', hS⟩ := Rel.upd (Z := fun i => i = id ∨ ky = some i) (id' := blk d) (w' := w') hR (fun i hi => hi.elim (fun e => by rw [e]; exact hr) (hkr i)) rfl rfl rfl (by simp [w'])
    (fun x hx hz => setRow_other w L.b x _ (by rintro rfl; exact hz id (.inl rfl) hbid))
    (H' := H') (D' := setD s.D (d + 1)) (β' := setB β (blk d) (some L2)) (F' := fun x => x = L.b ∨ ∃ i, i < n + m ∧ Fi' i x)
    (fun q hq => by
      simp only [o_setD] at hq
      by_cases e : q = d + 1
      · simp [e] at hq
      · simp [e] at hq
        exact ⟨hq, by rw [blk_div]; omega⟩)
    hB (fun i hi => setB_ne _ _ hi) (fun h => by unfold blk at h; omega) hH hZ (fun h => absurd hHn h)
    (fun x hx => .inl (hx.elim (fun h => ⟨id, .inl rfl, h ▸ hbid⟩) (fun ⟨i, hi, hx⟩ => (hFi' i hi x hx).1)))
    (fun N' hN' => by
      have hS : Stb w (Ow c.N0 φ) w' N' := Stb.setRow hbO hN'
      refine ⟨L2, ob', setB_same _ _ _, hH', ?_⟩
      subst hob
      have := OR.redo (L := L2) (ob := ⟨ob.sz, n + m, fun i => if i < n then g i else h (i - n)⟩) (N := N') (β := setB β (blk d) (some L2)) rfl k0 hsz hin
        (cur := (seg cur.toList (L.off + off * L.sz + n * ob.sz) (flat m us)).toArray) (by rw [List.size_toArray, seg_length hfit']; simpa using hcap2) (vs := vs') (Fi := Fi')
        (fun i hi => ?_) (fun i hi => ?_) (fun i hi hx => (hFi' i hi _ hx).2 rfl) (fun i hi j hj hij x hx hy => ?_)
      · exact this
      · replace hi : i < n + m := hi
        refine ⟨?_, fun j hj => ?_⟩
        · simp only [vs']
          split
          · exact (krow _ (by omega)).1
          · exact hs.len (i - n) (by omega)
        · replace hj : j < ob.sz := hj
          show (seg cur.toList _ (flat m us)).toArray[L.off + off * L.sz + i * ob.sz + j]? = _
          rw [List.getElem?_toArray]
          simp only [vs']
          by_cases e : i < n
          · have hb : (i + 1) * ob.sz ≤ n * ob.sz := Nat.mul_le_mul_right _ e
            rw [Nat.add_mul] at hb
            rw [if_pos e, seg_lt hfit' (by omega), ← (krow (off + i) (by omega)).2 j hj, hsz]
            rw [← Array.getElem?_toList]
            congr 1
            rw [Nat.add_mul]; omega
          · have hi2 : i - n < m := by omega
            have hb : (i - n + 1) * ob.sz ≤ m * ob.sz := Nat.mul_le_mul_right _ hi2
            have hb' : i * ob.sz = n * ob.sz + (i - n) * ob.sz := by rw [← Nat.add_mul]; congr 1; omega
            rw [Nat.add_mul] at hb
            rw [if_neg e, seg_in hfit' (by omega) (by rw [hlen]; omega), ← flat_get hs.len (i - n) hi2 j hj]
            congr 1; omega
      · replace hi : i < n + m := hi
        simp only [vs', Fi']
        by_cases e : i < n
        · simp only [if_pos e]
          rw [hg i e]
          exact (kel (off + i) (by omega)).stb hS hB (fun x hx => setRow_other w L.b x _ (by rintro rfl; exact knb _ (by omega) hx))
        · simp only [if_neg e]
          exact (hs.el (i - n) (by omega)).stb hS hB (fun x hx => setRow_other w L.b x _ (by rintro rfl; exact hGid (i - n) (by omega) _ hx hbid))
      · replace hi : i < n + m := hi
        replace hj : j < n + m := hj
        simp only [Fi'] at hx hy
        by_cases e : i < n
        · by_cases e' : j < n
          · rw [if_pos e] at hx; rw [if_pos e'] at hy; exact kdis _ (by omega) _ (by omega) (by omega) x hx hy
          · rw [if_pos e] at hx; rw [if_neg e'] at hy
            exact hGid (j - n) (by omega) x hy ((kF x).2 (.inr ⟨off + i, by omega, hx⟩))
        · by_cases e' : j < n
          · rw [if_neg e] at hx; rw [if_pos e'] at hy
            exact hGid (i - n) (by omega) x hx ((kF x).2 (.inr ⟨off + j, by omega, hy⟩))
          · rw [if_neg e] at hx; rw [if_neg e'] at hy
            exact hs.dis (i - n) (by omega) (j - n) (by omega) (by omega) x hx hy)
  exact ⟨cur, E, _, φ', k0, hfit, hR', hS, hB, fun N' => .sl (L := L2) (setB_same _ _ _) (by simp [L2]) hin (.inr ⟨rfl, by simp [L2]⟩)⟩

end
end Go.Am
end
section
set_option linter.all false
namespace Go.Am
section
variable {P : Program} {Γ : Tab} {c : Ctx} {s : St} {β : Nat → Option Loc} {φ : Nat → Bs} {a : Act} {w : World} {N : Bs}

theorem flat_zero (vs : Nat → List Value) : flat 0 vs = [] := rfl

theorem Rd.drew {ad : Option Addr} {cs : List Value} (h : Rd w ad cs) : Rd w.drew ad cs := h

theorem kill_H {H : Nat → Option Ob} {ky : Option Nat} (i : Nat) : kill H ky i = H i ∨ kill H ky i = none := by
  cases ky with
  | none => exact .inl rfl
  | some k =>
    by_cases e : i = k
    · subst e; exact .inr (setH_same _ _ _)
    · exact .inl (setH_ne _ _ e)
theorem kill_same {H : Nat → Option Ob} {ky : Option Nat} (i : Nat) (h : ky = some i) : kill H ky i = none := by
  subst h; exact setH_same _ _ _

theorem app_sound (hΓ : TabOk P Γ) (hR : Rel c s β φ w) {t ty : TypeId} {x y : A} {vx vy : Value} {d : Nat} (hx : V w (Ow c.N0 φ) β x vx) (hy : V w (Ow c.N0 φ) β y vy) {K : A → St → Prop} (h : app Γ t x y d s K) :
    ∃ v w', (Builtin.append_ #[t, t] ty #[vx, vy]).run P w = .ok v w' ∧ Out c s β φ w K v w' := by
  unfold app at h
  split at h
  · exact h.elim
  rename_i ti ht
  split at h
  · exact h.elim
  rename_i e q hsub
  split at h
  rotate_left
  · exact h.elim
  rename_i te C m hh ky hte hseq
  split at h
  rotate_left
  · exact h.elim
  rename_i hcc
  obtain ⟨kt⟩ := hΓ t ti ht
  obtain ⟨ke⟩ := hΓ e te hte
  have hu := kt.slice_und hcc.1 hsub
  have hkr : ∀ k, ky = some k → s.R k = false := fun k hk => by
    have := hcc.2.2
    rw [hk] at this
    simpa [kOk] using this
  split at h
  · -- nothing ahead
    obtain ⟨hD, hC, hfit, hK⟩ := h
    obtain ⟨⟨ad2, cp2, us, Gi, hsrc⟩, hkyH⟩ := seqA_sound hR hy hseq hC hcc.2.1
    obtain ⟨ad1, rfl⟩ := hx.emp_eq
    have hval := hsrc.val
    subst hval
    have hl2 := flat_length (n := m) (vs := us) hsrc.len
    have hHs : ∀ i, i ≠ blk d → setH (kill s.H ky) (blk d) (some ⟨te.sz, m, hh⟩) i = s.H i ∨ setH (kill s.H ky) (blk d) (some ⟨te.sz, m, hh⟩) i = none := fun i hi => by
      rw [setH_ne _ _ hi]; exact kill_H i
    have hZs : ∀ i, ky = some i → i ≠ blk d → setH (kill s.H ky) (blk d) (some ⟨te.sz, m, hh⟩) i = none := fun i h1 hi => by
      rw [setH_ne _ _ hi]; exact kill_same i h1
    rcases Nat.eq_zero_or_pos m with rfl | hm
    · obtain ⟨β', φ', hR', hS, hB, hV⟩ := empty_new hR hD (Z := fun i => ky = some i) hkr (sz := te.sz) rfl rfl (setH_same _ _ _) hHs hZs
      exact ⟨_, w, append_none hu ke (by simpa using hl2) hsrc.rd, _, _, β', φ', hR', hS, hB, rfl, hV _ _, hK⟩
    · obtain ⟨C', rest, k1, k2, k3⟩ := append_grow (ty := ty) (w := w) hu ke (ad1 := ad1) (ad2 := ad2) (n := 0) (cp := 0) (m := m) (cp2 := cp2) (olds := []) (news := flat m us) (by simp)
        ⟨fun b o e j v hv => by simp at hv, fun _ => rfl⟩ hl2 hsrc.rd (by omega) (by simpa using hfit)
      obtain ⟨β', φ', hR', hS, hB, hV⟩ := cat_new hR hD (Z := fun i => ky = some i) hkr (sz := te.sz) (n := 0) (m := m) (g := fun _ => []) (h := hh) (vs := fun _ => []) (us := us) (Fi := fun _ _ => False) (Gi := Gi)
        (fun i hi => by omega) hsrc.len (fun i hi => by omega) hsrc.el (fun i hi => by omega) hsrc.dis (fun i hi => by omega) (fun i hi => by omega) hsrc.own k1 k2 (E := e)
        (H' := setH (kill s.H ky) (blk d) (some ⟨te.sz, m, hh⟩)) (ob' := ⟨te.sz, m, hh⟩) (by simp) (setH_same _ _ _) hHs hZs
      simp only [flat_zero, Nat.zero_add] at hR' hS hV k3
      exact ⟨_, _, k3, _, _, β', φ', hR', hS, hB, rfl, hV _, hK⟩
  · -- behind an object
    rename_i id off n
    split at h
    · exact h.elim
    rename_i ob hob
    split at h
    rotate_left
    · exact h.elim
    rename_i hkk
    obtain ⟨hD, hC, hoff, hfit, hK⟩ := h
    simp only [o_eqN] at hoff
    have hnadd : ∀ a b, nadd a b = a + b := fun a b => by simp only [o_nadd]
    rw [hnadd] at hoff hfit hK
    obtain ⟨⟨ad2, cp2, us, Gi, hsrc⟩, hkyH⟩ := seqA_sound hR hy hseq hC hcc.2.1
    have hval := hsrc.val
    subst hval
    have hl2 := flat_length (n := m) (vs := us) hsrc.len
    obtain ⟨L, ad1, cp, l1, rfl, l2, l3, l4⟩ := hx.sl_eq
    let ob' : Ob := ⟨te.sz, n + m, cat n (if off = 0 then ob.g else shift ob.g off) hh⟩
    let H' := setH (kill (setH s.H id none) ky) (blk d) (some ob')
    have hidne : id ≠ blk d := by
      rintro rfl
      have := hR.fresh _ hD _ (blk_div d)
      rw [l1] at this; cases this
    have hHs : ∀ i, i ≠ blk d → H' i = s.H i ∨ H' i = none := fun i hi => by
      simp only [H']
      rw [setH_ne _ _ hi]
      rcases kill_H (H := setH s.H id none) (ky := ky) i with h | h
      · rw [h]
        by_cases e : i = id
        · subst e; exact .inr (setH_same _ _ _)
        · exact .inl (setH_ne _ _ e)
      · exact .inr h
    have hZs : ∀ i, (i = id ∨ ky = some i) → i ≠ blk d → H' i = none := fun i h1 hi => by
      simp only [H']
      rw [setH_ne _ _ hi]
      rcases h1 with rfl | h1
      · rcases kill_H (H := setH s.H i none) (ky := ky) i with h | h
        · rw [h]; exact setH_same _ _ _
        · exact h
      · exact kill_same i h1
    have hg : ∀ i, (if off = 0 then ob.g else shift ob.g off) i = ob.g (off + i) := by
      intro i
      by_cases e : off = 0
      · subst e; simp
      · simp [e, shift]
    have hcat : ob' = ⟨te.sz, n + m, fun i => if i < n then (if off = 0 then ob.g else shift ob.g off) i else hh (i - n)⟩ := rfl
    by_cases hin : n + m ≤ cp
    · rcases l4 with rfl | ⟨hn, rfl⟩
      · have e1 : n = 0 := by omega
        have e2 : m = 0 := by omega
        subst e1; subst e2
        obtain ⟨β', φ', hR', hS, hB, hV⟩ := empty_new hR hD (Z := fun i => i = id ∨ ky = some i) (fun i hi => hi.elim (fun e => by rw [e]; exact hkk.2.2) (hkr i)) (sz := te.sz) (ob' := ob') rfl rfl (H' := H') (setH_same _ _ _) hHs hZs
        exact ⟨_, w, append_none hu ke (by simpa using hl2) hsrc.rd, _, _, β', φ', hR', hS, hB, rfl, hV _ _, hK⟩
      · have hsrc' := hsrc
        rw [← hkk.2.1] at hsrc'
        obtain ⟨cur, E, β', φ', k0, k1, hR', hS, hB, hV⟩ := place_new hR hD hkk.2.2 hob l1 hn hkr hkk.1 hkyH hoff l2 hin hsrc' (g := if off = 0 then ob.g else shift ob.g off) (fun i _ => hg i) (H' := H') (ob' := ob')
          (by rw [hcat, hkk.2.1]) (setH_same _ _ _) hHs hZs
        rw [hkk.2.1] at k1 hR' hS hV
        exact ⟨_, _, append_place hu ke hl2 hsrc.rd hin k0 k1 hsrc.one, _, _, β', φ', hR', hS, hB, rfl, hV _, hK⟩
    · -- a new block
      have hold : ∃ (vs : Nat → List Value) (Fi : Nat → Bs), (∀ i, i < n → (vs i).length = te.sz) ∧ Rd w ad1 (flat n vs) ∧ (∀ i, i < n → Cs w (Ow c.N0 φ) β (ob.g (off + i)) (vs i) (Fi i)) ∧
          (∀ i, i < n → ∀ j, j < n → i ≠ j → ∀ x, Fi i x → ¬ Fi j x) ∧ (∀ i, i < n → ∀ x, Fi i x → φ id x) := by
        rcases l4 with rfl | ⟨hn, rfl⟩
        · have : n = 0 := by omega
          subst this
          exact ⟨fun _ => [], fun _ _ => False, fun i hi => by omega, ⟨fun b o e j v hv => by simp [flat] at hv, fun _ => rfl⟩, fun i hi => by omega, fun i hi => by omega, fun i hi => by omega⟩
        · obtain ⟨L', q1, z1, z2, z3⟩ := hR.obj id ob hob
          rw [l1] at q1; cases q1
          rcases z3 with ⟨z3, _⟩ | ⟨_, vs, Fi, y1, y2, y3, y4, y5, y6⟩
          · rw [hn] at z3; cases z3
          have hrow := y2.shift (l := off) (m := n) (by omega)
          rw [← z1] at hrow
          exact ⟨fun i => vs (off + i), fun i => Fi (off + i), fun i hi => by rw [(y2 _ (by omega)).1, hkk.2.1], hrow.rd, fun i hi => y3 _ (by omega), fun i hi j hj hij => y5 _ (by omega) _ (by omega) (by omega),
            fun i hi x hx => (y6 x).2 (.inr ⟨off + i, by omega, hx⟩)⟩
      obtain ⟨vs, Fi, o1, o2, o3, o4, o5⟩ := hold
      have hl1 := flat_length (n := n) (vs := vs) o1
      obtain ⟨C', rest, k1, k2, k3⟩ := append_grow (ty := ty) (w := w) hu ke (ad1 := ad1) (ad2 := ad2) (n := n) (cp := cp) (m := m) (cp2 := cp2) (olds := flat n vs) (news := flat m us) hl1 o2 hl2 hsrc.rd (by omega) hfit
      obtain ⟨β', φ', hR', hS, hB, hV⟩ := cat_new hR hD (Z := fun i => i = id ∨ ky = some i) (fun i hi => hi.elim (fun e => by rw [e]; exact hkk.2.2) (hkr i)) (sz := te.sz) (n := n) (m := m) (g := if off = 0 then ob.g else shift ob.g off) (h := hh) (vs := vs) (us := us) (Fi := Fi) (Gi := Gi)
        o1 hsrc.len (fun i hi => by rw [hg]; exact o3 i hi) hsrc.el o4 hsrc.dis
        (fun i hi j hj x hx hy => by
          obtain ⟨k, e', hk⟩ := hsrc.own j hj x hy
          have : id ≠ k := by rintro rfl; exact hkk.1 e'
          exact hR.dis id k this x (o5 i hi x hx) hk)
        (fun i hi x hx => ⟨id, .inl rfl, o5 i hi x hx⟩) (fun i hi x hx => by obtain ⟨k, e', hk⟩ := hsrc.own i hi x hx; exact ⟨k, .inr e', hk⟩) k1 k2 (E := e)
        (H' := H') (ob' := ob') hcat (setH_same _ _ _) hHs hZs
      exact ⟨_, _, k3, _, _, β', φ', hR', hS, hB, rfl, hV _, hK⟩
  · exact h.elim

end
end Go.Am
end
