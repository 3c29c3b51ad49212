/- What can be read as data is told by the abstract machine's values. · PRINTED by rd.py: what the laws' arguments read as. -/
import Derived.Test.YtkbdhffgmahpdaaB1
import Derived.ChangeArms
import Derived.ChangeOld
import Derived.SizedLaws
import Derived.Test.YtkbdhffgmahpdaaB5
section
set_option linter.all false
namespace Go.Am
section
variable {H : Type} {enc : TypeId × Value → H} {P : Program} {W : World}

def N0 : Bs := fun _ => False

/-- Whatever reads at type t is told by cells of which Q holds. -/
def Rdd (enc : TypeId × Value → H) (P : Program) (W : World) (t : TypeId) (Q : List A → Prop) : Prop :=
  ∀ fuel cs x, DataW.trod enc P W 0 (fun _ => true) true fuel t cs = some x → (∀ n ∈ DataW.weights P t x.1, n ≤ reachBytes) → ∃ l, Q l ∧ Ks W N0 l cs (fun _ => False)

theorem Ks.one {a : A} {v : Value} (h : K W N0 a v (fun _ => False)) : Ks W N0 [a] [v] (fun _ => False) :=
  .cons (F2 := fun _ => False) h (.nil nobF) (fun _ h => h.elim) (fun x => by simp)

theorem Rdd.int {t : TypeId} (hu : P.underlying t = some (.int .i64)) : Rdd enc P W t (fun l => ∃ n, l = [I n] ∧ -9223372036854775808 ≤ n ∧ n < 9223372036854775808) := by
  intro fuel cs x h _
  obtain ⟨n, rfl, rfl, hw⟩ := DataW.trod_int hu h
  refine ⟨[I n], ⟨n, rfl, ?_⟩, Ks.one (.val rfl nobF)⟩
  have h1 : IntKind.min .i64 = -9223372036854775808 := by decide
  have h2 : IntKind.max .i64 = 9223372036854775807 := by decide
  simp [Lit.wf] at hw
  omega

theorem Rdd.byte {t : TypeId} (hu : P.underlying t = some (.int .u8)) : Rdd enc P W t (fun l => ∃ n, l = [U n] ∧ 0 ≤ n ∧ n < 256) := by
  intro fuel cs x h _
  obtain ⟨n, rfl, rfl, hw⟩ := DataW.trod_int hu h
  refine ⟨[U n], ⟨n, rfl, ?_⟩, Ks.one (.val rfl nobF)⟩
  have h1 : IntKind.min .u8 = 0 := by decide
  have h2 : IntKind.max .u8 = 255 := by decide
  simp [Lit.wf] at hw
  omega

theorem Rdd.bool {t : TypeId} (hu : P.underlying t = some .bool) : Rdd enc P W t (fun l => ∃ b, l = [Bo b]) := by
  intro fuel cs x h _
  cases fuel with
  | zero => simp [DataW.trod] at h
  | succ n =>
    unfold DataW.trod at h
    rw [hu] at h
    split at h <;> first
      | (rename_i e; cases e; done)
      | (cases h; exact ⟨[Bo _], ⟨_, rfl⟩, Ks.one (.val rfl nobF)⟩)
      | (exfalso; simp_all; done)

theorem cell_spot {a : Addr} {v : Value} (h : W.cell? a = some v) : a.spot = none ∧ a.block < W.heap.size := by
  unfold World.cell? at h
  split at h
  · rename_i c e f hb
    split at h
    · cases h
    · rename_i hs
      exact ⟨by simpa using hs, (Array.getElem?_eq_some_iff.1 hb).1⟩
  · cases h

theorem mem_weights_all {e : TypeId} : ∀ {l : List (DataW H)} {i : Nat} {d : DataW H}, l[i]? = some d → ∀ n ∈ d.weights P e, n ∈ DataW.weightsAll P e l
  | [], _, _, h, _, _ => by simp at h
  | d0 :: l, 0, d, h, n, hn => by
    simp at h; subst h
    simp only [DataW.weightsAll, List.mem_append]; exact .inl hn
  | d0 :: l, i + 1, d, h, n, hn => by
    simp at h
    simp only [DataW.weightsAll, List.mem_append]; exact .inr (mem_weights_all h n hn)

theorem cells_get {a : Addr} {n : Nat} {cs : List Value} (h : W.cells? 0 a n = some cs) : cs.length = n ∧ ∀ j, j < n → W.cell? (a.add j) = cs[j]? := by
  unfold World.cells? at h
  rw [if_pos (Nat.zero_le _)] at h
  exact ⟨by simpa using mapM_some_length h, fun j hj => by have := mapM_some_get h j j (by simp [hj]); exact this⟩

theorem Rdd.slice {t e : TypeId} {sz : Nat} {α : Type} [Inhabited α] {cells : α → List A} {good : α → Prop} (hu : P.underlying t = some (.slice e)) (hsz : P.cellsOf e = sz) (hpos : 0 < sz) (hby : 1 ≤ P.bytesOf e)
    (he : Rdd enc P W e (fun l => ∃ m, l = cells m ∧ good m)) : Rdd enc P W t (fun l => ∃ m : List α, l = [.slc false sz (ln m) (fun i => cells (at' m i))] ∧ lim m ∧ ∀ i, i < m.length → good (at' m i)) := by
  intro fuel cs x h hw
  rcases DataW.trod_slice hu h with ⟨rfl, rfl⟩ | ⟨a, len, cap, elems, rest, n, _, rfl, rfl, hb, hl, hm, hlen, hel, hsp, hns⟩
  · refine ⟨_, ⟨[], rfl, by unfold lim; simp, fun i hi => by simp at hi⟩, Ks.one ?_⟩
    rw [ln_nil]
    exact .fro0 nobF
  · have hwl : (elems.length + rest.length) * P.bytesOf e ≤ reachBytes := hw _ (by
      simp only [DataW.weights, hu]
      simp)
    have hlim : len ≤ 140737488351232 := by
      have h1 : elems.length + rest.length ≤ (elems.length + rest.length) * P.bytesOf e := Nat.le_mul_of_pos_right _ hby
      have : reachBytes = 140737488351232 := rfl
      omega
    have each : ∀ i, i < len → ∃ vs m, W.cells? 0 (a.add (i * sz)) sz = some vs ∧ good m ∧ Ks W N0 (cells m) vs (fun _ => False) := by
      intro i hi
      have h1 := hel i hi
      rw [hsz] at h1
      have hei : elems[i]? = some (elems[i]'(by omega)) := by simp
      rw [hei, Option.bind_eq_some_iff] at h1
      obtain ⟨vs, e1, e2⟩ := h1
      obtain ⟨l, ⟨m, rfl, hg⟩, hk⟩ := he n vs _ e2 (fun k hk => hw k (by
        simp only [DataW.weights, hu]
        refine List.mem_cons_of_mem _ (List.mem_append_left _ ?_)
        exact mem_weights_all (i := i) (by simp [hei]) k hk))
      exact ⟨vs, m, e1, hg, hk⟩
    rcases Nat.eq_zero_or_pos len with h0 | h0
    · refine ⟨_, ⟨[], rfl, by unfold lim; simp, fun i hi => by simp at hi⟩, Ks.one ?_⟩
      rw [ln_nil, h0]
      exact .fro0 nobF
    · have hspot : a.spot = none ∧ a.block < W.heap.size := by
        obtain ⟨vs, m, e1, _⟩ := each 0 h0
        obtain ⟨q1, q2⟩ := cells_get e1
        have := q2 0 hpos
        have hv : vs[0]? = some (vs[0]'(by omega)) := by simp
        rw [hv] at this
        have := cell_spot this
        simpa [Addr.add] using this
      obtain ⟨b, off, sp⟩ := a
      simp only at hspot
      obtain ⟨rfl, hblt⟩ := hspot
      have hch : ∃ ms : List α, ms.length = len ∧ ∃ vf : Nat → List Value, ∀ i, i < len → W.cells? 0 ((⟨b, off, none⟩ : Addr).add (i * sz)) sz = some (vf i) ∧ good (at' ms i) ∧ Ks W N0 (cells (at' ms i)) (vf i) (fun _ => False) := by
        let pick : (i : Nat) → List Value × α := fun i => if h : i < len then (Classical.choose (each i h), Classical.choose (Classical.choose_spec (each i h))) else ([], default)
        have hp : ∀ i, i < len → W.cells? 0 ((⟨b, off, none⟩ : Addr).add (i * sz)) sz = some (pick i).1 ∧ good (pick i).2 ∧ Ks W N0 (cells (pick i).2) (pick i).1 (fun _ => False) := by
          intro i hi
          have e2 : pick i = (Classical.choose (each i hi), Classical.choose (Classical.choose_spec (each i hi))) := dif_pos hi
          rw [e2]
          exact Classical.choose_spec (Classical.choose_spec (each i hi))
        refine ⟨(List.range len).map (fun i => (pick i).2), by simp, fun i => (pick i).1, fun i hi => ?_⟩
        have e1 : at' ((List.range len).map (fun i => (pick i).2)) i = (pick i).2 := by
          rw [at_eq]; simp [List.getElem?_map, List.getElem?_range hi]
        rw [e1]
        exact hp i hi
      obtain ⟨ms, hml, vf, hvf⟩ := hch
      refine ⟨_, ⟨ms, rfl, by unfold lim; omega, fun i hi => (hvf i (by omega)).2.1⟩, Ks.one ?_⟩
      rw [ln_eq, hml]
      refine .fro (vs := vf) nobF (fun h => h) hblt hl (fun i hi => ?_) (fun i hi => (hvf i hi).2.2)
      obtain ⟨q1, q2⟩ := cells_get (hvf i hi).1
      refine ⟨q1, fun j hj => ?_⟩
      have := q2 j hj
      rw [add_eq, add_eq] at this
      exact this

/-- Fields, one behind the other. -/
def catQ : List (List A → Prop) → List A → Prop
  | [], l => l = []
  | Q :: r, l => ∃ l1 l2, l = l1 ++ l2 ∧ Q l1 ∧ catQ r l2

def offsOk (P : Program) : List Field → Nat → Nat → Bool
  | [], k, n => Nat.beq k n
  | f :: r, k, n => Nat.beq f.offset k && offsOk P r (k + P.cellsOf f.type) n

theorem weights_mem {ts : List TypeId} {ds : List (DataW H)} {j : Nat} {t : TypeId} {d : DataW H} (ht : ts[j]? = some t) (hd : ds[j]? = some d) : ∀ n ∈ d.weights P t, n ∈ DataW.weightsEach P ts ds :=
  DataW.weights_mem_each ht hd

theorem fields_rd : ∀ {fs : List Field} {Qs : List (List A → Prop)} {k : Nat} {cs : List Value} {n : Nat} {xs : List (DataW H × List MemPlace)},
    offsOk P fs k cs.length = true → Qs.length = fs.length → xs.length = fs.length → (∀ (i : Nat) (f : Field), fs[i]? = some f → DataW.trod enc P W 0 (fun _ => true) true n f.type ((cs.drop f.offset).take (P.cellsOf f.type)) = xs[i]?) →
    (∀ (i : Nat) (f : Field) (Q : List A → Prop), fs[i]? = some f → Qs[i]? = some Q → Rdd enc P W f.type Q) → (∀ (i : Nat) (f : Field) (x : DataW H × List MemPlace), fs[i]? = some f → xs[i]? = some x → ∀ m ∈ DataW.weights P f.type x.1, m ≤ reachBytes) →
    ∃ l, catQ Qs l ∧ Ks W N0 l (cs.drop k) (fun _ => False)
  | [], Qs, k, cs, n, xs, ho, hq, hx, _, _, _ => by
    have : Qs = [] := List.length_eq_zero_iff.1 hq
    subst this
    have hk : k = cs.length := Nat.eq_of_beq_eq_true ho
    refine ⟨[], rfl, ?_⟩
    rw [hk, List.drop_length]
    exact .nil nobF
  | f :: fs, Qs, k, cs, n, xs, ho, hq, hx, h1, h2, h3 => by
    simp only [offsOk, Bool.and_eq_true] at ho
    have hk : f.offset = k := Nat.eq_of_beq_eq_true ho.1
    match Qs, hq, xs, hx with
    | Q :: Qs, hq, x :: xs, hx =>
      have e1 := h1 0 f rfl
      rw [hk] at e1
      obtain ⟨l1, q1, q2⟩ := h2 0 f Q rfl rfl n _ x e1 (h3 0 f x rfl rfl)
      obtain ⟨l2, q3, q4⟩ := fields_rd (fs := fs) (Qs := Qs) (k := k + P.cellsOf f.type) (cs := cs) (n := n) (xs := xs) ho.2 (by simpa using hq) (by simpa using hx) (fun i g hg => by simpa using h1 (i + 1) g (by simpa using hg))
        (fun i g Q hg hQ => h2 (i + 1) g Q (by simpa using hg) (by simpa using hQ)) (fun i g y hg hy => h3 (i + 1) g y (by simpa using hg) (by simpa using hy))
      refine ⟨l1 ++ l2, ⟨l1, l2, rfl, q1, q3⟩, ?_⟩
      have := Ks.append (F := fun _ => False) q2 q4 (fun _ h => h.elim) (fun x => by simp)
      rwa [← List.drop_drop, List.take_append_drop] at this

theorem Rdd.struct {t : TypeId} {fs : Array Field} (hu : P.underlying t = some (.struct fs)) (Qs : List (List A → Prop)) (hlen : Qs.length = fs.size) (ho : offsOk P fs.toList 0 (P.cellsOf t) = true)
    (hQ : ∀ (i : Nat) f Q, fs[i]? = some f → Qs[i]? = some Q → Rdd enc P W f.type Q) : Rdd enc P W t (catQ Qs) := by
  intro fuel cs x h hw
  obtain ⟨xs, n, _, rfl, hl, hxl, hf⟩ := DataW.trod_struct hu h
  have := fields_rd (fs := fs.toList) (Qs := Qs) (k := 0) (cs := cs) (n := n) (xs := xs) (by rw [hl]; exact ho) (by simpa using hlen) (by simpa using hxl) (fun i f hi => hf i f (by simpa using hi)) (fun i f Q hi hq => hQ i f Q (by simpa using hi) hq) (fun i f y hi hy m hm => hw m (by
    simp only [DataW.weights, hu]
    exact weights_mem (j := i) (by simp; exact ⟨f, by simpa using hi, rfl⟩) (by simp [hy]) m hm))
  simpa using this
end
end Go.Am
end
section
set_option linter.all false
namespace Go.Am
open Go.Proofs
set_option maxRecDepth 100000
section
variable {H : Type} {enc : TypeId × Value → H} {W : World}
theorem rd_int : Rdd enc Try.prog W 3 (fun l => ∃ n, l = [I n] ∧ rg n) := Rdd.int Try.underlying3
theorem rd_byte : Rdd enc Try.prog W 5 (fun l => ∃ n, l = [U n] ∧ 0 ≤ n ∧ n < 256) := Rdd.byte Try.underlying5
theorem Rdd.mono {P : Program} {t : TypeId} {Q Q' : List A → Prop} (h : Rdd enc P W t Q) (hq : ∀ l, Q l → Q' l) : Rdd enc P W t Q' := fun fuel cs x hx hw => by
  obtain ⟨l, h1, h2⟩ := h fuel cs x hx hw
  exact ⟨l, hq l h1, h2⟩
theorem rd_ints : Rdd enc Try.prog W 25 (fun l => ∃ m : List Int, l = [Am.ints false m] ∧ (lim (m) ∧ ∀ i, i < (m).length → rg (at' (m) i))) :=
  Rdd.slice (α := Int) (cells := fun n => [I n]) (good := rg) Try.underlying25 (sz := 1) (by kernel_rfl) (by decide) (Nat.le_of_ble_eq_true (by kernel_rfl)) rd_int
theorem rd_bytes : Rdd enc Try.prog W 24 (fun l => ∃ m : List Int, l = [Am.bytes false m] ∧ (lim (m) ∧ ∀ i, i < (m).length → (0 ≤ at' (m) i ∧ at' (m) i < 256))) :=
  Rdd.slice (α := Int) (cells := fun n => [U n]) (good := fun n => 0 ≤ n ∧ n < 256) Try.underlying24 (sz := 1) (by kernel_rfl) (by decide) (Nat.le_of_ble_eq_true (by kernel_rfl)) rd_byte
def gdDConf (m : DConf) : Prop := rg (DConf.chunks m) ∧ rg (DConf.size m) ∧ rg (DConf.slots m) ∧ rg (DConf.tax m) ∧ rg (DConf.slice m) ∧ rg (DConf.gens m)
theorem rd_Conf : Rdd enc Try.prog W 23 (fun l => ∃ m : DConf, l = DConf.cells false m ∧ gdDConf m) := by
  refine (Rdd.struct Try.underlying23 [(fun l => ∃ n, l = [I n] ∧ rg n), (fun l => ∃ n, l = [I n] ∧ rg n), (fun l => ∃ n, l = [I n] ∧ rg n), (fun l => ∃ n, l = [I n] ∧ rg n), (fun l => ∃ n, l = [I n] ∧ rg n), (fun l => ∃ n, l = [I n] ∧ rg n)] rfl (by kernel_rfl) ?_).mono ?_
  · intro i f Q hf hq
    cases i with
    | zero => cases hf; cases hq; exact rd_int
    | succ i =>
      cases i with
      | zero => cases hf; cases hq; exact rd_int
      | succ i =>
        cases i with
        | zero => cases hf; cases hq; exact rd_int
        | succ i =>
          cases i with
          | zero => cases hf; cases hq; exact rd_int
          | succ i =>
            cases i with
            | zero => cases hf; cases hq; exact rd_int
            | succ i =>
              cases i with
              | zero => cases hf; cases hq; exact rd_int
              | succ i =>
                cases hq
  · rintro l ⟨l0, _, rfl, h0, l1, _, rfl, h1, l2, _, rfl, h2, l3, _, rfl, h3, l4, _, rfl, h4, l5, _, rfl, h5, rfl⟩
    obtain ⟨m0, rfl, g0⟩ := h0
    obtain ⟨m1, rfl, g1⟩ := h1
    obtain ⟨m2, rfl, g2⟩ := h2
    obtain ⟨m3, rfl, g3⟩ := h3
    obtain ⟨m4, rfl, g4⟩ := h4
    obtain ⟨m5, rfl, g5⟩ := h5
    exact ⟨DConf.mk m0 m1 m2 m3 m4 m5, rfl, ⟨g0, g1, g2, g3, g4, g5⟩⟩

def gdDPool (m : DPool) : Prop := (lim (DPool.mem m) ∧ ∀ i, i < (DPool.mem m).length → (0 ≤ at' (DPool.mem m) i ∧ at' (DPool.mem m) i < 256)) ∧ (lim (DPool.st m) ∧ ∀ i, i < (DPool.st m).length → rg (at' (DPool.st m) i)) ∧ (lim (DPool.own m) ∧ ∀ i, i < (DPool.own m).length → rg (at' (DPool.own m) i))
theorem rd_Pool : Rdd enc Try.prog W 27 (fun l => ∃ m : DPool, l = DPool.cells false m ∧ gdDPool m) := by
  refine (Rdd.struct Try.underlying27 [(fun l => ∃ m : List Int, l = [Am.bytes false m] ∧ (lim (m) ∧ ∀ i, i < (m).length → (0 ≤ at' (m) i ∧ at' (m) i < 256))), (fun l => ∃ m : List Int, l = [Am.ints false m] ∧ (lim (m) ∧ ∀ i, i < (m).length → rg (at' (m) i))), (fun l => ∃ m : List Int, l = [Am.ints false m] ∧ (lim (m) ∧ ∀ i, i < (m).length → rg (at' (m) i)))] rfl (by kernel_rfl) ?_).mono ?_
  · intro i f Q hf hq
    cases i with
    | zero => cases hf; cases hq; exact rd_bytes
    | succ i =>
      cases i with
      | zero => cases hf; cases hq; exact rd_ints
      | succ i =>
        cases i with
        | zero => cases hf; cases hq; exact rd_ints
        | succ i =>
          cases hq
  · rintro l ⟨l0, _, rfl, h0, l1, _, rfl, h1, l2, _, rfl, h2, rfl⟩
    obtain ⟨m0, rfl, g0⟩ := h0
    obtain ⟨m1, rfl, g1⟩ := h1
    obtain ⟨m2, rfl, g2⟩ := h2
    exact ⟨DPool.mk m0 m1 m2, rfl, ⟨g0, g1, g2⟩⟩

def gdDThing (m : DThing) : Prop := rg (DThing.pos m) ∧ rg (DThing.len m) ∧ rg (DThing.run m)
theorem rd_Thing : Rdd enc Try.prog W 204 (fun l => ∃ m : DThing, l = DThing.cells false m ∧ gdDThing m) := by
  refine (Rdd.struct Try.underlying204 [(fun l => ∃ n, l = [I n] ∧ rg n), (fun l => ∃ n, l = [I n] ∧ rg n), (fun l => ∃ n, l = [I n] ∧ rg n)] rfl (by kernel_rfl) ?_).mono ?_
  · intro i f Q hf hq
    cases i with
    | zero => cases hf; cases hq; exact rd_int
    | succ i =>
      cases i with
      | zero => cases hf; cases hq; exact rd_int
      | succ i =>
        cases i with
        | zero => cases hf; cases hq; exact rd_int
        | succ i =>
          cases hq
  · rintro l ⟨l0, _, rfl, h0, l1, _, rfl, h1, l2, _, rfl, h2, rfl⟩
    obtain ⟨m0, rfl, g0⟩ := h0
    obtain ⟨m1, rfl, g1⟩ := h1
    obtain ⟨m2, rfl, g2⟩ := h2
    exact ⟨DThing.mk m0 m1 m2, rfl, ⟨g0, g1, g2⟩⟩

theorem rd_things : Rdd enc Try.prog W 160 (fun l => ∃ m : List DThing, l = [Am.things false m] ∧ (lim (m) ∧ ∀ i, i < (m).length → gdDThing (at' (m) i))) :=
  Rdd.slice (α := DThing) (cells := DThing.cells false) (good := gdDThing) Try.underlying160 (sz := 3) (by kernel_rfl) (by decide) (Nat.le_of_ble_eq_true (by kernel_rfl)) rd_Thing
def gdDNode (m : DNode) : Prop := rg (DNode.st m) ∧ rg (DNode.gen m) ∧ rg (DNode.ep m) ∧ rg (DNode.up m) ∧ rg (DNode.upEp m) ∧ rg (DNode.first m) ∧ rg (DNode.next m) ∧ rg (DNode.prev m) ∧ (lim (DNode.chunks m) ∧ ∀ i, i < (DNode.chunks m).length → rg (at' (DNode.chunks m) i)) ∧ rg (DNode.cur m) ∧ rg (DNode.bump m) ∧ (lim (DNode.things m) ∧ ∀ i, i < (DNode.things m).length → gdDThing (at' (DNode.things m) i)) ∧ (lim (DNode.tags m) ∧ ∀ i, i < (DNode.tags m).length → rg (at' (DNode.tags m) i))
theorem rd_Node : Rdd enc Try.prog W 162 (fun l => ∃ m : DNode, l = DNode.cells false m ∧ gdDNode m) := by
  refine (Rdd.struct Try.underlying162 [(fun l => ∃ n, l = [I n] ∧ rg n), (fun l => ∃ n, l = [I n] ∧ rg n), (fun l => ∃ n, l = [I n] ∧ rg n), (fun l => ∃ n, l = [I n] ∧ rg n), (fun l => ∃ n, l = [I n] ∧ rg n), (fun l => ∃ n, l = [I n] ∧ rg n), (fun l => ∃ n, l = [I n] ∧ rg n), (fun l => ∃ n, l = [I n] ∧ rg n), (fun l => ∃ m : List Int, l = [Am.ints false m] ∧ (lim (m) ∧ ∀ i, i < (m).length → rg (at' (m) i))), (fun l => ∃ n, l = [I n] ∧ rg n), (fun l => ∃ n, l = [I n] ∧ rg n), (fun l => ∃ m : List DThing, l = [Am.things false m] ∧ (lim (m) ∧ ∀ i, i < (m).length → gdDThing (at' (m) i))), (fun l => ∃ m : List Int, l = [Am.ints false m] ∧ (lim (m) ∧ ∀ i, i < (m).length → rg (at' (m) i)))] rfl (by kernel_rfl) ?_).mono ?_
  · intro i f Q hf hq
    cases i with
    | zero => cases hf; cases hq; exact rd_int
    | succ i =>
      cases i with
      | zero => cases hf; cases hq; exact rd_int
      | succ i =>
        cases i with
        | zero => cases hf; cases hq; exact rd_int
        | succ i =>
          cases i with
          | zero => cases hf; cases hq; exact rd_int
          | succ i =>
            cases i with
            | zero => cases hf; cases hq; exact rd_int
            | succ i =>
              cases i with
              | zero => cases hf; cases hq; exact rd_int
              | succ i =>
                cases i with
                | zero => cases hf; cases hq; exact rd_int
                | succ i =>
                  cases i with
                  | zero => cases hf; cases hq; exact rd_int
                  | succ i =>
                    cases i with
                    | zero => cases hf; cases hq; exact rd_ints
                    | succ i =>
                      cases i with
                      | zero => cases hf; cases hq; exact rd_int
                      | succ i =>
                        cases i with
                        | zero => cases hf; cases hq; exact rd_int
                        | succ i =>
                          cases i with
                          | zero => cases hf; cases hq; exact rd_things
                          | succ i =>
                            cases i with
                            | zero => cases hf; cases hq; exact rd_ints
                            | succ i =>
                              cases hq
  · rintro l ⟨l0, _, rfl, h0, l1, _, rfl, h1, l2, _, rfl, h2, l3, _, rfl, h3, l4, _, rfl, h4, l5, _, rfl, h5, l6, _, rfl, h6, l7, _, rfl, h7, l8, _, rfl, h8, l9, _, rfl, h9, l10, _, rfl, h10, l11, _, rfl, h11, l12, _, rfl, h12, rfl⟩
    obtain ⟨m0, rfl, g0⟩ := h0
    obtain ⟨m1, rfl, g1⟩ := h1
    obtain ⟨m2, rfl, g2⟩ := h2
    obtain ⟨m3, rfl, g3⟩ := h3
    obtain ⟨m4, rfl, g4⟩ := h4
    obtain ⟨m5, rfl, g5⟩ := h5
    obtain ⟨m6, rfl, g6⟩ := h6
    obtain ⟨m7, rfl, g7⟩ := h7
    obtain ⟨m8, rfl, g8⟩ := h8
    obtain ⟨m9, rfl, g9⟩ := h9
    obtain ⟨m10, rfl, g10⟩ := h10
    obtain ⟨m11, rfl, g11⟩ := h11
    obtain ⟨m12, rfl, g12⟩ := h12
    exact ⟨DNode.mk m0 m1 m2 m3 m4 m5 m6 m7 m8 m9 m10 m11 m12, rfl, ⟨g0, g1, g2, g3, g4, g5, g6, g7, g8, g9, g10, g11, g12⟩⟩

theorem rd_nodes : Rdd enc Try.prog W 28 (fun l => ∃ m : List DNode, l = [Am.nodes false m] ∧ (lim (m) ∧ ∀ i, i < (m).length → gdDNode (at' (m) i))) :=
  Rdd.slice (α := DNode) (cells := DNode.cells false) (good := gdDNode) Try.underlying28 (sz := 13) (by kernel_rfl) (by decide) (Nat.le_of_ble_eq_true (by kernel_rfl)) rd_Node
def gdDWaste (m : DWaste) : Prop := rg (DWaste.slot m) ∧ rg (DWaste.first m) ∧ (lim (DWaste.tags m) ∧ ∀ i, i < (DWaste.tags m).length → rg (at' (DWaste.tags m) i)) ∧ (lim (DWaste.chunks m) ∧ ∀ i, i < (DWaste.chunks m).length → rg (at' (DWaste.chunks m) i)) ∧ rg (DWaste.done m)
theorem rd_Waste : Rdd enc Try.prog W 165 (fun l => ∃ m : DWaste, l = DWaste.cells false m ∧ gdDWaste m) := by
  refine (Rdd.struct Try.underlying165 [(fun l => ∃ n, l = [I n] ∧ rg n), (fun l => ∃ n, l = [I n] ∧ rg n), (fun l => ∃ m : List Int, l = [Am.ints false m] ∧ (lim (m) ∧ ∀ i, i < (m).length → rg (at' (m) i))), (fun l => ∃ m : List Int, l = [Am.ints false m] ∧ (lim (m) ∧ ∀ i, i < (m).length → rg (at' (m) i))), (fun l => ∃ n, l = [I n] ∧ rg n)] rfl (by kernel_rfl) ?_).mono ?_
  · intro i f Q hf hq
    cases i with
    | zero => cases hf; cases hq; exact rd_int
    | succ i =>
      cases i with
      | zero => cases hf; cases hq; exact rd_int
      | succ i =>
        cases i with
        | zero => cases hf; cases hq; exact rd_ints
        | succ i =>
          cases i with
          | zero => cases hf; cases hq; exact rd_ints
          | succ i =>
            cases i with
            | zero => cases hf; cases hq; exact rd_int
            | succ i =>
              cases hq
  · rintro l ⟨l0, _, rfl, h0, l1, _, rfl, h1, l2, _, rfl, h2, l3, _, rfl, h3, l4, _, rfl, h4, rfl⟩
    obtain ⟨m0, rfl, g0⟩ := h0
    obtain ⟨m1, rfl, g1⟩ := h1
    obtain ⟨m2, rfl, g2⟩ := h2
    obtain ⟨m3, rfl, g3⟩ := h3
    obtain ⟨m4, rfl, g4⟩ := h4
    exact ⟨DWaste.mk m0 m1 m2 m3 m4, rfl, ⟨g0, g1, g2, g3, g4⟩⟩

theorem rd_wastes : Rdd enc Try.prog W 29 (fun l => ∃ m : List DWaste, l = [Am.wastes false m] ∧ (lim (m) ∧ ∀ i, i < (m).length → gdDWaste (at' (m) i))) :=
  Rdd.slice (α := DWaste) (cells := DWaste.cells false) (good := gdDWaste) Try.underlying29 (sz := 5) (by kernel_rfl) (by decide) (Nat.le_of_ble_eq_true (by kernel_rfl)) rd_Waste
def gdDWorld (m : DWorld) : Prop := gdDConf (DWorld.c m) ∧ gdDPool (DWorld.p m) ∧ (lim (DWorld.l m) ∧ ∀ i, i < (DWorld.l m).length → gdDNode (at' (DWorld.l m) i)) ∧ (lim (DWorld.q m) ∧ ∀ i, i < (DWorld.q m).length → gdDWaste (at' (DWorld.q m) i)) ∧ (lim (DWorld.log m) ∧ ∀ i, i < (DWorld.log m).length → rg (at' (DWorld.log m) i))
theorem rd_World : Rdd enc Try.prog W 31 (fun l => ∃ m : DWorld, l = DWorld.cells false m ∧ gdDWorld m) := by
  refine (Rdd.struct Try.underlying31 [(fun l => ∃ m : DConf, l = DConf.cells false m ∧ gdDConf m), (fun l => ∃ m : DPool, l = DPool.cells false m ∧ gdDPool m), (fun l => ∃ m : List DNode, l = [Am.nodes false m] ∧ (lim (m) ∧ ∀ i, i < (m).length → gdDNode (at' (m) i))), (fun l => ∃ m : List DWaste, l = [Am.wastes false m] ∧ (lim (m) ∧ ∀ i, i < (m).length → gdDWaste (at' (m) i))), (fun l => ∃ m : List Int, l = [Am.ints false m] ∧ (lim (m) ∧ ∀ i, i < (m).length → rg (at' (m) i)))] rfl (by kernel_rfl) ?_).mono ?_
  · intro i f Q hf hq
    cases i with
    | zero => cases hf; cases hq; exact rd_Conf
    | succ i =>
      cases i with
      | zero => cases hf; cases hq; exact rd_Pool
      | succ i =>
        cases i with
        | zero => cases hf; cases hq; exact rd_nodes
        | succ i =>
          cases i with
          | zero => cases hf; cases hq; exact rd_wastes
          | succ i =>
            cases i with
            | zero => cases hf; cases hq; exact rd_ints
            | succ i =>
              cases hq
  · rintro l ⟨l0, _, rfl, h0, l1, _, rfl, h1, l2, _, rfl, h2, l3, _, rfl, h3, l4, _, rfl, h4, rfl⟩
    obtain ⟨m0, rfl, g0⟩ := h0
    obtain ⟨m1, rfl, g1⟩ := h1
    obtain ⟨m2, rfl, g2⟩ := h2
    obtain ⟨m3, rfl, g3⟩ := h3
    obtain ⟨m4, rfl, g4⟩ := h4
    exact ⟨DWorld.mk m0 m1 m2 m3 m4, rfl, ⟨g0, g1, g2, g3, g4⟩⟩

def gdDHandle (m : DHandle) : Prop := rg (DHandle.slot m) ∧ rg (DHandle.gen m)
theorem rd_Handle : Rdd enc Try.prog W 47 (fun l => ∃ m : DHandle, l = DHandle.cells false m ∧ gdDHandle m) := by
  refine (Rdd.struct Try.underlying47 [(fun l => ∃ n, l = [I n] ∧ rg n), (fun l => ∃ n, l = [I n] ∧ rg n)] rfl (by kernel_rfl) ?_).mono ?_
  · intro i f Q hf hq
    cases i with
    | zero => cases hf; cases hq; exact rd_int
    | succ i =>
      cases i with
      | zero => cases hf; cases hq; exact rd_int
      | succ i =>
        cases hq
  · rintro l ⟨l0, _, rfl, h0, l1, _, rfl, h1, rfl⟩
    obtain ⟨m0, rfl, g0⟩ := h0
    obtain ⟨m1, rfl, g1⟩ := h1
    exact ⟨DHandle.mk m0 m1, rfl, ⟨g0, g1⟩⟩

theorem rd_handles : Rdd enc Try.prog W 172 (fun l => ∃ m : List DHandle, l = [Am.handles false m] ∧ (lim (m) ∧ ∀ i, i < (m).length → gdDHandle (at' (m) i))) :=
  Rdd.slice (α := DHandle) (cells := DHandle.cells false) (good := gdDHandle) Try.underlying172 (sz := 2) (by kernel_rfl) (by decide) (Nat.le_of_ble_eq_true (by kernel_rfl)) rd_Handle
def gdDRef (m : DRef) : Prop := gdDHandle (DRef.h m) ∧ rg (DRef.ep m) ∧ rg (DRef.no m)
theorem rd_Ref : Rdd enc Try.prog W 61 (fun l => ∃ m : DRef, l = DRef.cells false m ∧ gdDRef m) := by
  refine (Rdd.struct Try.underlying61 [(fun l => ∃ m : DHandle, l = DHandle.cells false m ∧ gdDHandle m), (fun l => ∃ n, l = [I n] ∧ rg n), (fun l => ∃ n, l = [I n] ∧ rg n)] rfl (by kernel_rfl) ?_).mono ?_
  · intro i f Q hf hq
    cases i with
    | zero => cases hf; cases hq; exact rd_Handle
    | succ i =>
      cases i with
      | zero => cases hf; cases hq; exact rd_int
      | succ i =>
        cases i with
        | zero => cases hf; cases hq; exact rd_int
        | succ i =>
          cases hq
  · rintro l ⟨l0, _, rfl, h0, l1, _, rfl, h1, l2, _, rfl, h2, rfl⟩
    obtain ⟨m0, rfl, g0⟩ := h0
    obtain ⟨m1, rfl, g1⟩ := h1
    obtain ⟨m2, rfl, g2⟩ := h2
    exact ⟨DRef.mk m0 m1 m2, rfl, ⟨g0, g1, g2⟩⟩

def gdDStuff (m : DStuff) : Prop := (lim (DStuff.b m) ∧ ∀ i, i < (DStuff.b m).length → (0 ≤ at' (DStuff.b m) i ∧ at' (DStuff.b m) i < 256))
theorem rd_Stuff : Rdd enc Try.prog W 209 (fun l => ∃ m : DStuff, l = DStuff.cells false m ∧ gdDStuff m) := by
  refine (Rdd.struct Try.underlying209 [(fun l => ∃ m : List Int, l = [Am.bytes false m] ∧ (lim (m) ∧ ∀ i, i < (m).length → (0 ≤ at' (m) i ∧ at' (m) i < 256)))] rfl (by kernel_rfl) ?_).mono ?_
  · intro i f Q hf hq
    cases i with
    | zero => cases hf; cases hq; exact rd_bytes
    | succ i =>
      cases hq
  · rintro l ⟨l0, _, rfl, h0, rfl⟩
    obtain ⟨m0, rfl, g0⟩ := h0
    exact ⟨DStuff.mk m0, rfl, g0⟩

theorem rd_stuffs : Rdd enc Try.prog W 173 (fun l => ∃ m : List DStuff, l = [Am.stuffs false m] ∧ (lim (m) ∧ ∀ i, i < (m).length → gdDStuff (at' (m) i))) :=
  Rdd.slice (α := DStuff) (cells := DStuff.cells false) (good := gdDStuff) Try.underlying173 (sz := 1) (by kernel_rfl) (by decide) (Nat.le_of_ble_eq_true (by kernel_rfl)) rd_Stuff
def gdDRoom (m : DRoom) : Prop := gdDHandle (DRoom.h m) ∧ gdDHandle (DRoom.up m) ∧ (lim (DRoom.kids m) ∧ ∀ i, i < (DRoom.kids m).length → gdDHandle (at' (DRoom.kids m) i)) ∧ rg (DRoom.ep m) ∧ rg (DRoom.chunks m) ∧ True ∧ rg (DRoom.bump m) ∧ (lim (DRoom.things m) ∧ ∀ i, i < (DRoom.things m).length → gdDStuff (at' (DRoom.things m) i)) ∧ (lim (DRoom.tags m) ∧ ∀ i, i < (DRoom.tags m).length → rg (at' (DRoom.tags m) i))
theorem rd_Room : Rdd enc Try.prog W 175 (fun l => ∃ m : DRoom, l = DRoom.cells false m ∧ gdDRoom m) := by
  refine (Rdd.struct Try.underlying175 [(fun l => ∃ m : DHandle, l = DHandle.cells false m ∧ gdDHandle m), (fun l => ∃ m : DHandle, l = DHandle.cells false m ∧ gdDHandle m), (fun l => ∃ m : List DHandle, l = [Am.handles false m] ∧ (lim (m) ∧ ∀ i, i < (m).length → gdDHandle (at' (m) i))), (fun l => ∃ n, l = [I n] ∧ rg n), (fun l => ∃ n, l = [I n] ∧ rg n), (fun l => ∃ b, l = [Bo b]), (fun l => ∃ n, l = [I n] ∧ rg n), (fun l => ∃ m : List DStuff, l = [Am.stuffs false m] ∧ (lim (m) ∧ ∀ i, i < (m).length → gdDStuff (at' (m) i))), (fun l => ∃ m : List Int, l = [Am.ints false m] ∧ (lim (m) ∧ ∀ i, i < (m).length → rg (at' (m) i)))] rfl (by kernel_rfl) ?_).mono ?_
  · intro i f Q hf hq
    cases i with
    | zero => cases hf; cases hq; exact rd_Handle
    | succ i =>
      cases i with
      | zero => cases hf; cases hq; exact rd_Handle
      | succ i =>
        cases i with
        | zero => cases hf; cases hq; exact rd_handles
        | succ i =>
          cases i with
          | zero => cases hf; cases hq; exact rd_int
          | succ i =>
            cases i with
            | zero => cases hf; cases hq; exact rd_int
            | succ i =>
              cases i with
              | zero => cases hf; cases hq; exact (Rdd.bool Try.underlying4)
              | succ i =>
                cases i with
                | zero => cases hf; cases hq; exact rd_int
                | succ i =>
                  cases i with
                  | zero => cases hf; cases hq; exact rd_stuffs
                  | succ i =>
                    cases i with
                    | zero => cases hf; cases hq; exact rd_ints
                    | succ i =>
                      cases hq
  · rintro l ⟨l0, _, rfl, h0, l1, _, rfl, h1, l2, _, rfl, h2, l3, _, rfl, h3, l4, _, rfl, h4, l5, _, rfl, h5, l6, _, rfl, h6, l7, _, rfl, h7, l8, _, rfl, h8, rfl⟩
    obtain ⟨m0, rfl, g0⟩ := h0
    obtain ⟨m1, rfl, g1⟩ := h1
    obtain ⟨m2, rfl, g2⟩ := h2
    obtain ⟨m3, rfl, g3⟩ := h3
    obtain ⟨m4, rfl, g4⟩ := h4
    obtain ⟨m5, rfl⟩ := h5
    obtain ⟨m6, rfl, g6⟩ := h6
    obtain ⟨m7, rfl, g7⟩ := h7
    obtain ⟨m8, rfl, g8⟩ := h8
    exact ⟨DRoom.mk m0 m1 m2 m3 m4 m5 m6 m7 m8, rfl, ⟨g0, g1, g2, g3, g4, trivial, g6, g7, g8⟩⟩

theorem rd_rooms : Rdd enc Try.prog W 43 (fun l => ∃ m : List DRoom, l = [Am.rooms false m] ∧ (lim (m) ∧ ∀ i, i < (m).length → gdDRoom (at' (m) i))) :=
  Rdd.slice (α := DRoom) (cells := DRoom.cells false) (good := gdDRoom) Try.underlying43 (sz := 11) (by kernel_rfl) (by decide) (Nat.le_of_ble_eq_true (by kernel_rfl)) rd_Room
def gdDModel (m : DModel) : Prop := gdDConf (DModel.c m) ∧ (lim (DModel.rooms m) ∧ ∀ i, i < (DModel.rooms m).length → gdDRoom (at' (DModel.rooms m) i)) ∧ (lim (DModel.log m) ∧ ∀ i, i < (DModel.log m).length → rg (at' (DModel.log m) i))
theorem rd_Model : Rdd enc Try.prog W 45 (fun l => ∃ m : DModel, l = DModel.cells false m ∧ gdDModel m) := by
  refine (Rdd.struct Try.underlying45 [(fun l => ∃ m : DConf, l = DConf.cells false m ∧ gdDConf m), (fun l => ∃ m : List DRoom, l = [Am.rooms false m] ∧ (lim (m) ∧ ∀ i, i < (m).length → gdDRoom (at' (m) i))), (fun l => ∃ m : List Int, l = [Am.ints false m] ∧ (lim (m) ∧ ∀ i, i < (m).length → rg (at' (m) i)))] rfl (by kernel_rfl) ?_).mono ?_
  · intro i f Q hf hq
    cases i with
    | zero => cases hf; cases hq; exact rd_Conf
    | succ i =>
      cases i with
      | zero => cases hf; cases hq; exact rd_rooms
      | succ i =>
        cases i with
        | zero => cases hf; cases hq; exact rd_ints
        | succ i =>
          cases hq
  · rintro l ⟨l0, _, rfl, h0, l1, _, rfl, h1, l2, _, rfl, h2, rfl⟩
    obtain ⟨m0, rfl, g0⟩ := h0
    obtain ⟨m1, rfl, g1⟩ := h1
    obtain ⟨m2, rfl, g2⟩ := h2
    exact ⟨DModel.mk m0 m1 m2, rfl, ⟨g0, g1, g2⟩⟩

end
end Go.Am
end
