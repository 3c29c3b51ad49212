/- Calls of functions that are given objects. · Calls of functions that are given objects: what the abstract machine says of them is so. · Calls of functions that are given objects: the contracts at hand. -/
import Derived.Test.YtkbdhffgmahpdaaA8
section
set_option linter.all false
namespace Go.Am
section
variable {P : Program} {Γ : Tab} {c : Ctx} {s : St} {β : Nat → Option Loc} {φ : Nat → Bs} {a : Act} {w : World} {N : Bs}
variable {AC : FuncId → List A → Nat → St → (A → St → Prop) → Prop}

/-- The world turns in G alone, which is the state's; objects change there, and there are new ones. -/
theorem Rel.turn (hR : Rel c s β φ w) {w' : World} {G : Bs} (hG : ∀ x, G x → (∃ id, φ id x) ∧ ¬ c.wt x) (hFr : Fr G w w') {s' : St} (hsR : s'.R = s.R) {β' : Nat → Option Loc} {φ' : Nat → Bs}
    (hB : Bex β β') (hB10 : ∀ id, id < 10 → β' id = β id) (hBf : ∀ q, s'.D q = false → ∀ id, id / 64 = q → β' id = none)
    (hk : ∀ k, (s'.H k = s.H k ∧ φ' k = φ k ∧ ∀ x, φ k x → ¬ G x) ∨
      (((s'.H k = none ∧ nob (φ' k)) ∨ ∃ ob L, s'.H k = some ob ∧ β' k = some L ∧ OR w' (Ow c.N0 φ') β' L ob (φ' k)) ∧ ∀ x, φ' k x → (G x ∨ w.heap.size ≤ x) ∧ x < w'.heap.size))
    (hdis : ∀ i j, i ≠ j → ∀ x, φ' i x → ¬ φ' j x) : Rel c s' β' φ' w' ∧ Stb w (Ow c.N0 φ) w' (Ow c.N0 φ') := by
  have hGO : ∀ x, G x → Ow c.N0 φ x := fun x h => .inr (hG x h).1
  have hnew : ∀ k x, φ' k x → φ k x ∨ G x ∨ w.heap.size ≤ x := by
    intro k x hx
    rcases hk k with ⟨_, h, _⟩ | ⟨_, h⟩
    · rw [h] at hx; exact .inl hx
    · exact .inr (h x hx).1
  have hS : Stb w (Ow c.N0 φ) w' (Ow c.N0 φ') := ⟨hFr.size, fun b hb hn => ⟨hFr.block b hb (fun h => hn (hGO b h)), by
    rintro (h | ⟨k, h⟩)
    · exact hn (.inl h)
    · rcases hnew k b h with h | h | h
      · exact hn (.inr ⟨k, h⟩)
      · exact hn (hGO b h)
      · omega⟩⟩
  have hlt : ∀ x, (∃ id, φ id x) → x < w.heap.size := fun x ⟨id, h⟩ => hR.lt id x h
  refine ⟨?_, hS⟩
  constructor
  · refine hR.fr.trans hFr.os hFr.tape hFr.output hFr.size (fun b hb hf => hFr.block b (Nat.lt_of_lt_of_le hb hR.fr.size) (fun h => ?_))
    obtain ⟨id, hid⟩ := (hG b h).1
    rcases hR.sub id b hid with h | h
    · exact hf h
    · omega
  · intro id hid
    rw [hB10 id hid]
    exact hR.given id hid
  · exact hBf
  · intro k o ho
    rcases hk k with ⟨h1, h2, h3⟩ | ⟨⟨h1, _⟩ | ⟨ob, L, h1, h2, h3⟩, _⟩
    · rw [h1] at ho
      obtain ⟨L, k1, k2⟩ := hR.obj k o ho
      refine ⟨L, hB _ _ k1, ?_⟩
      rw [h2]
      exact k2.stb hS hB (fun x hx => hFr.block x (hR.lt k x hx) (h3 x hx))
    · rw [h1] at ho; cases ho
    · rw [h1] at ho; cases ho
      exact ⟨L, h2, h3⟩
  · intro k ho
    rcases hk k with ⟨h1, h2, h3⟩ | ⟨⟨_, h1⟩ | ⟨ob, L, h1, h2, h3⟩, _⟩
    · rw [h2]; rw [h1] at ho; exact hR.dead k ho
    · exact h1
    · rw [h1] at ho; cases ho
  · exact hdis
  · intro k x hx
    rcases hnew k x hx with h | h | h
    · exact hR.sub k x h
    · obtain ⟨id, hid⟩ := (hG x h).1
      exact hR.sub id x hid
    · exact .inr (Nat.le_trans hR.fr.size h)
  · intro k x hx hn
    rcases hnew k x hx with h | h | h
    · exact hR.n0 k x h hn
    · obtain ⟨id, hid⟩ := (hG x h).1
      exact hR.n0 id x hid hn
    · have := hR.n0lt x hn
      have := hR.fr.size
      omega
  · intro k x hx
    rcases hk k with ⟨_, h, _⟩ | ⟨_, h⟩
    · rw [h] at hx; exact Nat.lt_of_lt_of_le (hR.lt k x hx) hFr.size
    · exact (h x hx).2
  · exact hR.n0lt
  · exact hR.f0lt
  · exact hR.f0n0
  · intro x hx
    rw [hFr.block x (hR.wlt x hx) (fun h => (hG x h).2 hx)]
    exact hR.watch x hx
  · exact fun x hx => Nat.lt_of_lt_of_le (hR.wlt x hx) hFr.size
  · intro k hr x hx hw
    rw [hsR] at hr
    rcases hk k with ⟨_, h, _⟩ | ⟨_, h⟩
    · rw [h] at hx; exact hR.wsep k hr x hx hw
    · rcases (h x hx).1 with h | h
      · exact (hG x h).2 hw
      · have := hR.wlt x hw
        omega

/-! ### which of the caller's objects is which of the callee's -/

def gix : List (Option Nat) → Nat → Nat → Option Nat
  | [], _, _ => none
  | some id :: r, i, k => lz (Nat.beq id k) (fun _ => some i) (fun _ => gix r (i + 1) k)
  | none :: r, i, k => gix r (i + 1) k

theorem gix_some : ∀ {ids : List (Option Nat)} {i k j : Nat}, gix ids i k = some j → i ≤ j ∧ ids[j - i]? = some (some k)
  | [], _, _, _, h => by cases h
  | none :: r, i, k, j, h => by
    obtain ⟨h1, h2⟩ := gix_some (ids := r) (i := i + 1) h
    refine ⟨by omega, ?_⟩
    rw [show j - i = (j - (i + 1)) + 1 by omega]
    simpa using h2
  | some id :: r, i, k, j, h => by
    unfold gix at h
    cases q : Nat.beq id k with
    | true =>
      rw [q] at h
      cases h
      have := Nat.eq_of_beq_eq_true q
      subst this
      simp
    | false =>
      rw [q] at h
      obtain ⟨h1, h2⟩ := gix_some (ids := r) (i := i + 1) h
      refine ⟨by omega, ?_⟩
      rw [show j - i = (j - (i + 1)) + 1 by omega]
      simpa using h2

theorem gix_none : ∀ {ids : List (Option Nat)} {i k : Nat}, gix ids i k = none → ∀ j : Nat, ids[j]? ≠ some (some k)
  | [], _, _, _, j => by simp
  | none :: r, i, k, h, j => by
    cases j with
    | zero => simp
    | succ j => simpa using gix_none (ids := r) (i := i + 1) h j
  | some id :: r, i, k, h, j => by
    unfold gix at h
    cases q : Nat.beq id k with
    | true => rw [q] at h; cases h
    | false =>
      rw [q] at h
      cases j with
      | zero =>
        have : id ≠ k := fun e => by subst e; simp at q
        simpa using this
      | succ j => simpa using gix_none (ids := r) (i := i + 1) h j

def dist : List (Option Nat) → Bool
  | [] => true
  | some id :: r => (!(r.contains (some id))) && dist r
  | none :: r => dist r

theorem dist_inj : ∀ {ids : List (Option Nat)}, dist ids = true → ∀ {i j k : Nat}, ids[i]? = some (some k) → ids[j]? = some (some k) → i = j
  | [], _, i, _, _, h, _ => by simp at h
  | none :: r, h, i, j, k, hi, hj => by
    cases i with
    | zero => simp at hi
    | succ i =>
      cases j with
      | zero => simp at hj
      | succ j =>
        simp only [List.getElem?_cons_succ] at hi hj
        rw [dist_inj (ids := r) h hi hj]
  | some id :: r, h, i, j, k, hi, hj => by
    simp only [dist, Bool.and_eq_true, Bool.not_eq_true', List.contains_eq_mem, decide_eq_false_iff_not] at h
    cases i with
    | zero =>
      simp at hi
      subst hi
      cases j with
      | zero => rfl
      | succ j =>
        simp only [List.getElem?_cons_succ] at hj
        exact absurd (List.mem_of_getElem? hj) h.1
    | succ i =>
      simp only [List.getElem?_cons_succ] at hi
      cases j with
      | zero =>
        simp at hj
        subst hj
        exact absurd (List.mem_of_getElem? hi) h.1
      | succ j =>
        simp only [List.getElem?_cons_succ] at hj
        rw [dist_inj (ids := r) h.2 hi hj]

theorem gix_of {ids : List (Option Nat)} (hd : dist ids = true) {i k : Nat} (h : ids[i]? = some (some k)) : gix ids 0 k = some i := by
  cases q : gix ids 0 k with
  | none => exact absurd h (gix_none q i)
  | some j =>
    obtain ⟨_, h2⟩ := gix_some q
    rw [dist_inj hd h h2]
    rfl

/-- The objects without those that are given. -/
def minus (ids : List (Option Nat)) (H : Nat → Option Ob) (k : Nat) : Option Ob :=
  match gix ids 0 k with
  | some _ => none
  | none => H k

/-- The objects behind the call. -/
def putG (ids : List (Option Nat)) (obs : List Ob) (H : Nat → Option Ob) (k : Nat) : Option Ob :=
  match gix ids 0 k with
  | some i => nth obs i
  | none => H k

/-- The objects that are given are as the callee has them. -/
noncomputable def gvOk (s : St) : List (Option Nat) → List Ob → Prop
  | [], [] => True
  | some id :: r, ob :: obs =>
    (match s.H id with
      | some ob0 => ob0.sz = ob.sz ∧ eqN ob0.n ob.n ∧ Clo ob.n ob.g ∧ boolP (!(s.R id)) ∧ (∀ k, k < ob.n → ob0.g k = ob.g k)
      | none => False) ∧ gvOk s r obs
  | none :: r, ob :: obs => eqN ob.n 0 ∧ gvOk s r obs
  | _, _ => False

theorem gvOk_ok {s : St} : ∀ {ids : List (Option Nat)} {obs : List Ob}, gvOk s ids obs → ids.length = obs.length ∧ ∀ (i : Nat) (ob : Ob), obs[i]? = some ob →
    (∃ id ob0, ids[i]? = some (some id) ∧ s.H id = some ob0 ∧ ob0.sz = ob.sz ∧ ob0.n = ob.n ∧ (∀ k, k < ob.n → (ob.g k).all clo1 = true) ∧ s.R id = false ∧ ∀ k, k < ob.n → ob0.g k = ob.g k) ∨ (ids[i]? = some none ∧ ob.n = 0)
  | [], [], _ => ⟨rfl, fun i ob h => by simp at h⟩
  | some id :: r, ob :: obs, h => by
    obtain ⟨h1, h2⟩ := h
    obtain ⟨e1, e2⟩ := gvOk_ok h2
    refine ⟨by simp [e1], fun i ob' hi => ?_⟩
    cases i with
    | zero =>
      simp at hi
      subst hi
      split at h1
      · rename_i ob0 ho
        obtain ⟨q1, q2, q3, q4, q5⟩ := h1
        exact .inl ⟨id, ob0, rfl, ho, q1, Eq.mp (o_eqN _ _) q2, Eq.mp (o_Clo _ _) q3, by have := boolP_eq q4; simpa using this, q5⟩
      · exact h1.elim
    | succ i =>
      simp at hi
      simpa using e2 i ob' hi
  | none :: r, ob :: obs, h => by
    obtain ⟨h1, h2⟩ := h
    obtain ⟨e1, e2⟩ := gvOk_ok h2
    refine ⟨by simp [e1], fun i ob' hi => ?_⟩
    cases i with
    | zero =>
      simp at hi
      subst hi
      exact .inr ⟨rfl, Eq.mp (o_eqN _ _) h1⟩
    | succ i =>
      simp at hi
      simpa using e2 i ob' hi
  | [], _ :: _, h => h.elim
  | some _ :: _, [], h => h.elim
  | none :: _, [], h => h.elim

mutual
/-- An argument, as the callee has it. 'look': other objects are looked at, while nobody writes them. -/
inductive Fa (look : Bool) (ids : List (Option Nat)) (H : Nat → Option Ob) : A → A → Prop
  | cl {x : A} : clV x = true → Fa look ids H x x
  | sl {i id off n} : ids[i]? = some (some id) → Fa look ids H (.sl id off n) (.sl i off n)
  | emp {i} : ids[i]? = some none → Fa look ids H .emp (.sl i 0 0)
  | ptr {i id k j} : ids[i]? = some (some id) → Fa look ids H (.ptr id k j) (.ptr i k j)
  | fn {f l l'} : Fas look ids H l l' → Fa look ids H (.fn f l) (.fn f l')
  | agg {l l'} : Fas look ids H l l' → Fa look ids H (.agg l) (.agg l')
  | fz {x x' : A} : look = true → Fz (minus ids H) x x' → Fa look ids H x x'
  | pf {id k j ob l'} : look = true → minus ids H id = some ob → k < ob.n → Fzs (minus ids H) ((ob.g k).drop j) l' → Fa look ids H (.ptr id k j) (.pfro l')
inductive Fas (look : Bool) (ids : List (Option Nat)) (H : Nat → Option Ob) : List A → List A → Prop
  | nil : Fas look ids H [] []
  | cons {x x' : A} {l l' : List A} : Fa look ids H x x' → Fas look ids H l l' → Fas look ids H (x :: l) (x' :: l')
end

theorem V.wide {a : A} {v : Value} {β' : Nat → Option Loc} (h : V w N (fun _ => none) a v) : V w N β' a v := h.stb (Stb.refl w N) (fun _ _ h => by cases h)

theorem V.less {N' : Bs} {a : A} {v : Value} (h : V w N β a v) (hN : ∀ x, N' x → N x) : V w N' β a v :=
  h.stb ⟨Nat.le_refl _, fun b _ hb => ⟨rfl, fun h => hb (hN b h)⟩⟩ (Bex.refl β)

mutual
theorem Fa.v {look : Bool} {ids : List (Option Nat)} {H : Nat → Option Ob} {M : Bs} {β0 : Nat → Option Loc} (hl : look = true → Lkd (minus ids H) N M β φ w) (hMN : ∀ x, M x → N x)
    (hg : ∀ i id : Nat, ids[i]? = some (some id) → β0 i = β id) (hn : ∀ i : Nat, ids[i]? = some none → ∃ L, β0 i = some L) : ∀ {a a' : A}, Fa look ids H a a' → ∀ {v}, V w N β a v → V w M β0 a' v
  | _, _, .cl hc, v, h => (h.cl hc β0).less hMN
  | _, _, .sl hi, v, h => by
    obtain ⟨L, ad, cp, l1, rfl, l2, l3, l4⟩ := h.sl_eq
    exact .sl (by rw [hg _ _ hi]; exact l1) l2 l3 l4
  | _, _, .emp hi, v, h => by
    obtain ⟨ad, rfl⟩ := h.emp_eq
    obtain ⟨L, hL⟩ := hn _ hi
    exact .sl hL (Nat.zero_le _) (Nat.le_refl _) (.inl rfl)
  | _, _, .ptr hi, v, h => by
    obtain ⟨L, l1, l2, rfl⟩ := h.ptr_eq
    exact .ptr (by rw [hg _ _ hi]; exact l1) l2
  | _, _, .fn hf, v, h => by
    obtain ⟨cs, rfl, hv⟩ := h.fn_eq
    exact .fn (Fas.v hl hMN hg hn hf hv)
  | _, _, .agg hf, v, h => by
    obtain ⟨cs, rfl, hv⟩ := h.agg_eq
    exact .agg (Fas.v hl hMN hg hn hf hv)
  | _, _, .fz hk hz, v, h => (Fz.v' (hl hk) hz h).wide
  | _, _, .pf (id := id) (k := k) (j := j) (ob := ob) hk ho hlt hz, v, h => by
    obtain ⟨L, l1, l2, rfl⟩ := h.ptr_eq
    have hL := hl hk
    obtain ⟨L', q1, z1, z2, z3⟩ := hL.obj id ob ho
    rw [l1] at q1; cases q1
    rcases z3 with ⟨z3, _⟩ | ⟨_, vs, Fi, y1, y2, y3, y4, y5, y6⟩
    · rw [l2] at z3; cases z3
    obtain ⟨F1, d1, d2⟩ := (y3 k hlt).drop j
    have hin : ∀ x, F1 x → ¬ M x := fun x hx => hL.off id ob ho x ((y6 x).2 (.inr ⟨k, hlt, d2 x hx⟩))
    have hks := Fzs.k' hL hz d1 hin
    refine .pfro nobF (hL.off id ob ho _ ((y6 _).2 (.inl rfl))) y1.lt hks (fun jj hjj => ?_)
    rw [hks.length] at hjj
    simp only [List.length_drop] at hjj
    have hrow := y2 k hlt
    have := hrow.2 (j + jj) (by omega)
    rw [List.getElem?_drop, ← this, z1]
    congr 2
    omega
theorem Fas.v {look : Bool} {ids : List (Option Nat)} {H : Nat → Option Ob} {M : Bs} {β0 : Nat → Option Loc} (hl : look = true → Lkd (minus ids H) N M β φ w) (hMN : ∀ x, M x → N x)
    (hg : ∀ i id : Nat, ids[i]? = some (some id) → β0 i = β id) (hn : ∀ i : Nat, ids[i]? = some none → ∃ L, β0 i = some L) : ∀ {l l' : List A}, Fas look ids H l l' → ∀ {vs}, Vs w N β l vs → Vs w M β0 l' vs
  | _, _, .nil, _, h => by cases h; exact .nil
  | _, _, .cons h1 h2, _, h => by
    cases h with
    | cons k1 k2 => exact .cons (Fa.v hl hMN hg hn h1 k1) (Fas.v hl hMN hg hn h2 k2)
end

theorem OR.nf {N' : Bs} {L : Loc} {ob : Ob} {F : Bs} (h : OR w N (fun _ => none) L ob F) (hn : ∀ k, k < ob.n → Nfs (ob.g k)) : OR w N' (fun _ => none) L ob F := by
  obtain ⟨h1, h2, h3⟩ := h
  refine ⟨h1, h2, h3.imp id ?_⟩
  rintro ⟨e0, vs, Fi, k1, k2, k3, k4, k5, k6⟩
  have hc : ∀ {l : List A}, Nfs l → (∀ vs F, Cs w N (fun _ => none) l vs F → l.all clo1 = true) := by
    intro l
    induction l with
    | nil => intro _ _ _ _; rfl
    | cons x l ih =>
      intro hn vs F hc
      cases hn with
      | cons n1 n2 =>
        cases hc with
        | cons c1 c2 =>
          simp only [List.all_cons, Bool.and_eq_true]
          refine ⟨?_, ih n2 _ _ c2⟩
          cases n1 <;> first
            | rfl
            | (rcases c1 with c1 | ⟨_, _, c1⟩
               · cases c1
               · rename_i c0; obtain ⟨_, rfl, _⟩ := V.agg_eq c0; cases c1)
            | (rcases c1 with c1 | ⟨_, _, c1⟩
               · cases c1
               · rename_i c0; obtain ⟨_, rfl, _⟩ := V.tup_eq c0; cases c1)
  exact ⟨e0, vs, Fi, k1, k2, fun i hi => (((k3 i hi).ks (hc (hn i hi) _ _ (k3 i hi))).nf (hn i hi)).cs, k4, k5, k6⟩
end
end Go.Am
end
section
set_option linter.all false
namespace Go.Am
section
variable {P : Program} {Γ : Tab} {c : Ctx} {s : St} {β : Nat → Option Loc} {φ : Nat → Bs} {w : World} {N : Bs}

/-- Nothing in the objects is only read. -/
def nfObs (obs : List Ob) : Prop := ∀ ob ∈ obs, ∀ k, k < ob.n → Nfs (ob.g k)

/-- A call with objects. -/
def acN (as : List A) (obs : List Ob) (keep : Nat) (post : A → List Ob → Prop) (look : Bool) (ids : List (Option Nat)) (args : List A) (d : Nat) (s : St) (K : A → St → Prop) : Prop :=
  gvOk s ids obs ∧ dist ids = true ∧ obs.length ≤ 10 ∧ Fas look ids s.H args as ∧
  ∀ r obs', obs'.length = keep → post r obs' → (look = true → Nf r ∧ nfObs obs') ∧ recv d { s with H := putG ids obs' s.H } r K

open Classical in
theorem acN_sound {f : FuncId} {as : List A} {obs : List Ob} {keep : Nat} {post : A → List Ob → Prop} (hf : Fni P f as obs keep post) {look : Bool} {ids : List (Option Nat)} {args : List A} {d : Nat} {s : St} {K : A → St → Prop}
    (h : acN as obs keep post look ids args d s K) :
    Callable P f ∧ ∀ c β φ w vs, Rel c s β φ w → Vs w (Ow c.N0 φ) β args vs → Calls P f vs.toArray w (fun e w' => ∃ v, e = .returned v ∧ Out c s β φ w K v w') := by
  refine ⟨hf.1, fun c β φ w vs hR hv => ?_⟩
  obtain ⟨hg, hdist, hfew, ha, hK⟩ := h
  obtain ⟨hlen, hg⟩ := gvOk_ok hg
  -- the blocks that are given
  let G : Bs := fun x => ∃ i id : Nat, ids[i]? = some (some id) ∧ φ id x
  let N : Bs := fun x => if look = true then c.N0 x else c.N0 x ∨ ∃ k, gix ids 0 k = none ∧ φ k x
  let β0 : Nat → Option Loc := fun i => match ids[i]? with
    | some (some id) => β id
    | some none => some ⟨0, 0, 0, ((obs[i]?).map Ob.sz).getD 0, true⟩
    | none => none
  let φ0 : Nat → Bs := fun i => match ids[i]? with
    | some (some id) => φ id
    | _ => fun _ => False
  have hβ1 : ∀ i id : Nat, ids[i]? = some (some id) → β0 i = β id := fun i id e => by simp only [β0, e]
  have hβ2 : ∀ i : Nat, ids[i]? = some none → β0 i = some ⟨0, 0, 0, ((obs[i]?).map Ob.sz).getD 0, true⟩ := fun i e => by simp only [β0, e]
  have hβ3 : ∀ i : Nat, ids[i]? = none → β0 i = none := fun i e => by simp only [β0, e]
  have hφ1 : ∀ i id : Nat, ids[i]? = some (some id) → φ0 i = φ id := fun i id e => by simp only [φ0, e]
  have hφ2 : ∀ i x, φ0 i x → ∃ id : Nat, ids[i]? = some (some id) ∧ φ id x := by
    intro i x hx
    rcases e : ids[i]? with _ | _ | id
    · have : φ0 i = fun _ => False := by simp only [φ0, e]
      rw [this] at hx; exact hx.elim
    · have : φ0 i = fun _ => False := by simp only [φ0, e]
      rw [this] at hx; exact hx.elim
    · rw [hφ1 i id e] at hx
      exact ⟨id, rfl, hx⟩
  have hG1 : ∀ x, (∃ i, φ0 i x) ↔ G x := by
    intro x
    constructor
    · rintro ⟨i, hx⟩
      obtain ⟨id, h1, h2⟩ := hφ2 i x hx
      exact ⟨i, id, h1, h2⟩
    · rintro ⟨i, id, h1, h2⟩
      exact ⟨i, by rw [hφ1 i id h1]; exact h2⟩
  have hG2 : (fun x => ∃ i, φ0 i x) = G := funext fun x => propext (hG1 x)
  have hNsub : ∀ x, N x → Ow c.N0 φ x := by
    intro x hx
    simp only [N] at hx
    split at hx
    · exact .inl hx
    · rcases hx with hx | ⟨k, _, hx⟩
      · exact .inl hx
      · exact .inr ⟨k, hx⟩
  have hOsub : ∀ x, Ow N φ0 x → Ow c.N0 φ x := by
    rintro x (hx | ⟨i, hx⟩)
    · exact hNsub x hx
    · obtain ⟨id, _, h2⟩ := hφ2 i x hx
      exact .inr ⟨id, h2⟩
  have hn0N : ∀ x, c.N0 x → N x := by
    intro x hx
    simp only [N]
    split
    · exact hx
    · exact .inl hx
  -- a given number is given once
  have hgx : ∀ i id : Nat, ids[i]? = some (some id) → gix ids 0 id = some i := fun i id e => gix_of hdist e
  have hGoff : ∀ i x, φ0 i x → ¬ N x := by
    intro i x hx hN
    obtain ⟨id, h1, h2⟩ := hφ2 i x hx
    simp only [N] at hN
    split at hN
    · exact hR.n0 id x h2 hN
    · rcases hN with hN | ⟨k, hk, hN⟩
      · exact hR.n0 id x h2 hN
      · have : k ≠ id := by
          rintro rfl
          rw [hgx i k h1] at hk; cases hk
        exact hR.dis k id this x hN h2
  have hgv : Gvn w N β0 φ0 obs := by
    constructor
    · intro i ob hi
      rcases hg i ob hi with ⟨id, ob0, e1, e2, e3, e4, e5, e6, e7⟩ | ⟨e1, e2⟩
      · obtain ⟨L, k1, k2⟩ := hR.obj id ob0 e2
        refine ⟨L, by rw [hβ1 i id e1]; exact k1, ?_⟩
        rw [hφ1 i id e1]
        exact (k2.alike e3 e4 e7).clo e5 hOsub
      · refine ⟨_, hβ2 i e1, ?_⟩
        have : φ0 i = fun _ => False := by simp only [φ0, e1]
        rw [this]
        exact ⟨by simp [hi], by rw [e2]; exact Nat.zero_le _, .inl ⟨rfl, rfl, nobF⟩⟩
    · exact fun i hi => hβ3 i (by rw [List.getElem?_eq_none]; omega)
    · intro i hi x hx
      obtain ⟨id, h1, _⟩ := hφ2 i x hx
      rw [List.getElem?_eq_none (by omega)] at h1
      cases h1
    · intro i j hij x hx hy
      obtain ⟨id, h1, h2⟩ := hφ2 i x hx
      obtain ⟨id', h3, h4⟩ := hφ2 j x hy
      by_cases e : id = id'
      · subst e; exact hij (dist_inj hdist h1 h3)
      · exact hR.dis id id' e x h2 h4
    · intro i x hx
      obtain ⟨id, _, h2⟩ := hφ2 i x hx
      exact hR.lt id x h2
    · exact hGoff
    · exact hfew
  have hargs : Vs w (Ow N φ0) β0 as vs := by
    refine Fas.v (look := look) (N := Ow c.N0 φ) (φ := φ) (β := β) (fun hlk => ⟨?_, ?_, hOsub⟩) hOsub hβ1 (fun i hi => ⟨_, hβ2 i hi⟩) ha hv
    · intro id ob ho
      unfold minus at ho
      split at ho
      · cases ho
      · exact hR.obj id ob ho
    · intro id ob ho x hx hM
      unfold minus at ho
      split at ho
      · cases ho
      · rename_i hgn
        rcases hM with hM | ⟨i, hM⟩
        · simp only [N, hlk, if_pos] at hM
          exact hR.n0 id x hx hM
        · obtain ⟨id', h1, h2⟩ := hφ2 i x hM
          have : id ≠ id' := by
            rintro rfl
            rw [hgx i id h1] at hgn; cases hgn
          exact hR.dis id id' this x hx h2
  refine Calls.mono (hf.2 w N vs β0 φ0 (fun x hx => hR.own_lt (hNsub x hx)) hgv hargs) ?_
  rintro e w' ⟨v, rfl, r, F, obs', φ', hL⟩
  refine ⟨v, rfl, ?_⟩
  obtain ⟨hnf, hrecv⟩ := hK r obs' hL.len hL.post
  have hGh : ∀ x, G x → (∃ id, φ id x) ∧ ¬ c.wt x := by
    rintro x ⟨i, id, h1, h2⟩
    refine ⟨⟨id, h2⟩, ?_⟩
    have hi : i < obs.length := by rw [← hlen]; exact (List.getElem?_eq_some_iff.1 h1).1
    rcases hg i obs[i] (by simp [hi]) with ⟨id', ob0, e1, e2, e3, e4, e5, e6, e7⟩ | ⟨e1, _⟩
    · rw [h1] at e1; cases e1
      exact hR.wsep id e6 x h2
    · rw [h1] at e1; cases e1
  have hFr : Fr G w w' := by rw [← hG2]; exact hL.fr
  let φ1 : Nat → Bs := fun k => match gix ids 0 k with
    | some i => φ' i
    | none => φ k
  have hφs : ∀ k i, gix ids 0 k = some i → φ1 k = φ' i := fun k i e => by simp only [φ1, e]
  have hφn : ∀ k, gix ids 0 k = none → φ1 k = φ k := fun k e => by simp only [φ1, e]
  have hnG : ∀ k, gix ids 0 k = none → ∀ x, φ k x → ¬ G x := by
    rintro k hk x hx ⟨i, id, h1, h2⟩
    have : k ≠ id := by
      rintro rfl
      rw [hgx i k h1] at hk; cases hk
    exact hR.dis k id this x hx h2
  have hfrom : ∀ i x, φ' i x → (G x ∨ w.heap.size ≤ x) ∧ x < w'.heap.size := fun i x hx => by
    obtain ⟨h1, h2⟩ := hL.from' i x hx
    exact ⟨h1.imp (hG1 x).1 id, h2⟩
  have hfromF : ∀ x, F x → (G x ∨ w.heap.size ≤ x) ∧ x < w'.heap.size := fun x hx => by
    obtain ⟨h1, h2⟩ := hL.fromF x hx
    exact ⟨h1.imp (hG1 x).1 id, h2⟩
  have hnotG : ∀ k x, gix ids 0 k = none → φ k x → ¬ (G x ∨ w.heap.size ≤ x) := by
    rintro k x hk hx (h | h)
    · exact hnG k hk x hx h
    · have := hR.lt k x hx; omega
  have hdis1 : ∀ i j, i ≠ j → ∀ x, φ1 i x → ¬ φ1 j x := by
    intro i j hij x hx hy
    cases ei : gix ids 0 i with
    | none =>
      rw [hφn i ei] at hx
      cases ej : gix ids 0 j with
      | none => rw [hφn j ej] at hy; exact hR.dis i j hij x hx hy
      | some j' => rw [hφs j j' ej] at hy; exact hnotG i x ei hx (hfrom j' x hy).1
    | some i' =>
      rw [hφs i i' ei] at hx
      cases ej : gix ids 0 j with
      | none => rw [hφn j ej] at hy; exact hnotG j x ej hy (hfrom i' x hx).1
      | some j' =>
        rw [hφs j j' ej] at hy
        have : i' ≠ j' := by
          rintro rfl
          have h1 := (gix_some ei).2
          have h2 := (gix_some ej).2
          rw [h1] at h2
          cases h2
          exact hij rfl
        exact hL.dis i' j' this x hx hy
  have hapart : ∀ k x, φ1 k x → ¬ F x := by
    intro k x hx hF
    cases e : gix ids 0 k with
    | none => rw [hφn k e] at hx; exact hnotG k x e hx (hfromF x hF).1
    | some i => rw [hφs k i e] at hx; exact hL.apart i x hx hF
  have hn0F : ∀ x, F x → ¬ c.N0 x := by
    intro x hx hn
    rcases (hfromF x hx).1 with ⟨i, id, _, h⟩ | h
    · exact hR.n0 id x h hn
    · have := hR.n0lt x hn
      have := hR.fr.size
      omega
  -- what is told of the result and the objects is told in the caller's terms
  let N1 : Bs := fun x => Ow c.N0 φ1 x ∨ F x
  have hN1 : look = false → ∀ x, N1 x → (Ow N φ' x ∨ F x) := by
    intro hlk x hx
    rcases hx with (hx | ⟨k, hx⟩) | hx
    · exact .inl (.inl (hn0N x hx))
    · cases e : gix ids 0 k with
      | none =>
        rw [hφn k e] at hx
        refine .inl (.inl ?_)
        simp only [N, hlk]
        exact .inr ⟨k, e, hx⟩
      | some i => rw [hφs k i e] at hx; exact .inl (.inr ⟨i, hx⟩)
    · exact .inr hx
  have hres : Kt w' N1 r v F := by
    cases hlk : look with
    | false => exact hL.res.less (hN1 hlk)
    | true => exact hL.res.nf (hnf hlk).1
  have hobj : ∀ i ob, obs'[i]? = some ob → ∃ L, β0 i = some L ∧ OR w' N1 (fun _ => none) L ob (φ' i) := by
    intro i ob hi
    obtain ⟨L, k1, k2⟩ := hL.obj i ob hi
    refine ⟨L, k1, ?_⟩
    cases hlk : look with
    | false => exact k2.less (hN1 hlk)
    | true => exact k2.nf ((hnf hlk).2 ob (List.mem_of_getElem? hi))
  have hdead : ∀ i, obs'[i]? = none → nob (φ' i) := fun i hi => hL.dead i (by rw [← hL.len]; simpa using hi)
  obtain ⟨us, k1, k2⟩ := hres.flat
  unfold recv at hrecv
  cases hn : noOwn (flatR r) with
  | true =>
    rw [hn] at hrecv
    simp only at hrecv
    have h0 : Am.nob F := k1.nob hn
    have hN1' : ∀ x, Ow c.N0 φ1 x → N1 x := fun x h => .inl h
    obtain ⟨hR', hS⟩ := hR.turn (s' := { s with H := putG ids obs' s.H }) (β' := β) (φ' := φ1) hGh hFr rfl (Bex.refl β) (fun _ _ => rfl) hR.fresh (fun k => by
      cases e : gix ids 0 k with
      | none => exact .inl ⟨by show putG ids obs' s.H k = _; simp only [putG, e], hφn k e, hnG k e⟩
      | some i =>
        refine .inr ⟨?_, fun x hx => by rw [hφs k i e] at hx; exact hfrom i x hx⟩
        rw [hφs k i e]
        have hput : putG ids obs' s.H k = obs'[i]? := by simp only [putG, e, nth_eq]
        cases q : obs'[i]? with
        | none => exact .inl ⟨by show putG ids obs' s.H k = _; rw [hput, q], hdead i q⟩
        | some ob =>
          obtain ⟨L, m1, m2⟩ := hobj i ob q
          have hid : ids[i]? = some (some k) := by simpa using (gix_some e).2
          rw [hβ1 i k hid] at m1
          exact .inr ⟨ob, L, by show putG ids obs' s.H k = _; rw [hput, q], m1, (m2.less hN1').wide⟩) hdis1
    have hv : Vs w' (Ow c.N0 φ1) β (flatR r) us := (Ks.vs (β := β) k1 h0).stb ⟨Nat.le_refl _, fun b _ hb => ⟨rfl, fun h => hb (.inl h)⟩⟩ (Bex.refl β)
    exact ⟨_, _, β, φ1, hR', hS, Bex.refl β, rfl, k2 _ _ _ _ hv, hrecv⟩
  | false =>
    rw [hn] at hrecv
    simp only at hrecv
    obtain ⟨hD, hd, hl, hKK⟩ := hrecv
    have hfresh : ∀ k, d * 64 ≤ k → k < d * 64 + (flatR r).length → β k = none := fun k h1 h2 => hR.fresh d hD k (by omega)
    have hgfresh : ∀ k, d * 64 ≤ k → k < d * 64 + (flatR r).length → gix ids 0 k = none := by
      intro k h1 h2
      cases e : gix ids 0 k with
      | none => rfl
      | some i =>
        exfalso
        have hid : ids[i]? = some (some k) := by simpa using (gix_some e).2
        have hi : i < obs.length := by rw [← hlen]; exact (List.getElem?_eq_some_iff.1 hid).1
        rcases hg i obs[i] (by simp [hi]) with ⟨id', ob0, e1, e2, _⟩ | ⟨e1, _⟩
        · rw [hid] at e1; cases e1
          obtain ⟨L', q1, _⟩ := hR.obj _ _ e2
          rw [hfresh k h1 h2] at q1; cases q1
        · rw [hid] at e1; cases e1
    have hcs : Cs w' N1 β (flatR r) us F := k1.cs
    obtain ⟨β', ψ, F', r1, r2, r3, r4, r5, r6, r7, r8, r9⟩ := opens_sound (flatR r) us F (d * 64) (putG ids obs' s.H) β hcs hfresh
    have hψF : ∀ m x, ψ m x → F x := fun m x hx => (r7 m x hx).1
    have hψn : ∀ m, gix ids 0 m ≠ none → nob (ψ m) := by
      intro m hm x hx
      rcases r6 m with ⟨_, h⟩ | ⟨h, h', _⟩
      · exact h x hx
      · exact hm (hgfresh m h h')
    let φ2 : Nat → Bs := fun k x => φ1 k x ∨ ψ k x
    have hOw2 : ∀ x, Ow c.N0 φ2 x → N1 x := by
      rintro x (h | ⟨k, h | h⟩)
      · exact .inl (.inl h)
      · exact .inl (.inr ⟨k, h⟩)
      · exact .inr (hψF k x h)
    have hS2 : Stb w' N1 w' (Ow c.N0 φ2) := ⟨Nat.le_refl _, fun b _ hn => ⟨rfl, fun h => hn (hOw2 b h)⟩⟩
    have hHnew : ∀ k, d * 64 ≤ k → k < d * 64 + (flatR r).length → nob (φ k) := fun k h1 h2 => by
      cases e : s.H k with
      | none => exact hR.dead k e
      | some o => obtain ⟨L', e1, _⟩ := hR.obj k o e; rw [hfresh k h1 h2] at e1; cases e1
    obtain ⟨hR', hS⟩ := hR.turn (s' := { s with H := (opens (d * 64) (flatR r) (putG ids obs' s.H)).2, D := setD s.D d }) (β' := β') (φ' := φ2) hGh hFr rfl r1 (fun k hk => r5 k (by omega)) (by
        intro q hq k hk
        replace hq : setD s.D d q = false := hq
        simp only [o_setD] at hq
        by_cases e : q = d
        · simp [e] at hq
        · simp [e] at hq
          rw [r5 k (by omega)]
          exact hR.fresh q hq k hk) (fun k => by
      show ((opens (d * 64) (flatR r) (putG ids obs' s.H)).2 k = s.H k ∧ _) ∨ ((((opens (d * 64) (flatR r) (putG ids obs' s.H)).2 k = none ∧ _) ∨ ∃ ob L, (opens (d * 64) (flatR r) (putG ids obs' s.H)).2 k = some ob ∧ _) ∧ _)
      rcases r6 k with ⟨h, h'⟩ | ⟨h, h', ob', L', q1, q2, q3⟩
      · have e2 : φ2 k = φ1 k := funext fun x => propext ⟨fun hx => hx.elim (fun h => h) (fun hx => absurd hx (h' x)), .inl⟩
        rw [h, e2]
        cases e : gix ids 0 k with
        | none => exact .inl ⟨by simp only [putG, e], hφn k e, hnG k e⟩
        | some i =>
          refine .inr ⟨?_, fun x hx => by rw [hφs k i e] at hx; exact hfrom i x hx⟩
          rw [hφs k i e]
          have hput : putG ids obs' s.H k = obs'[i]? := by simp only [putG, e, nth_eq]
          rw [hput]
          cases q : obs'[i]? with
          | none => exact .inl ⟨rfl, hdead i q⟩
          | some ob =>
            obtain ⟨L, m1, m2⟩ := hobj i ob q
            have hid : ids[i]? = some (some k) := by simpa using (gix_some e).2
            rw [hβ1 i k hid] at m1
            exact .inr ⟨ob, L, rfl, r1 _ _ m1, (m2.less hOw2).wide⟩
      · have hg0 := hgfresh k h h'
        have h0 := hHnew k h h'
        have e2 : φ2 k = ψ k := funext fun x => propext ⟨fun hx => hx.elim (fun h => absurd (by rw [hφn k hg0] at h; exact h) (h0 x)) (fun h => h), .inr⟩
        rw [e2]
        exact .inr ⟨.inr ⟨ob', L', q1, q2, q3.stb hS2 (Bex.refl β') (fun _ _ => rfl)⟩, fun x hx => hfromF x (hψF k x hx)⟩) (by
      intro k m hkm x hx hy
      rcases hx with hx | hx <;> rcases hy with hy | hy
      · exact hdis1 k m hkm x hx hy
      · exact hapart k x hx (hψF m x hy)
      · exact hapart m x hy (hψF k x hx)
      · exact r9 k m hkm x hx hy)
    exact ⟨_, _, β', φ2, hR', hS, r1, rfl, k2 _ _ _ _ ((r2.stb hS2 (Bex.refl β') (fun _ _ => rfl)).vs r3), hKK⟩
end
end Go.Am
end
section
set_option linter.all false
namespace Go.Am
section
variable {P : Program}

/-- Calls: the objects may be closed first. -/
def acGR {X : Type} (pre : X → Prop) (as : X → List A) (obs : X → List Ob) (keep : Nat) (post : X → A → List Ob → Prop) (args : List A) (d : Nat) (s : St) (K : A → St → Prop) : Prop :=
  ∃ s0, RLe s s0 ∧ ∃ x look ids, pre x ∧ acN (as x) (obs x) keep (post x) look ids args d s0 K
@[reducible] noncomputable def acG {X : Type} (pre : X → Prop) (as : X → List A) (obs : X → List Ob) (keep : Nat) (post : X → A → List Ob → Prop) : List A → Nat → St → (A → St → Prop) → Prop := opq (@acGR X) pre as obs keep post
theorem o_acG {X : Type} (pre : X → Prop) (as : X → List A) (obs : X → List Ob) (keep : Nat) (post : X → A → List Ob → Prop) : acG pre as obs keep post = acGR pre as obs keep post := by
  show opq (@acGR X) pre as obs keep post = _; rw [opq_eq]

theorem acG.go {X : Type} {pre : X → Prop} {as : X → List A} {obs : X → List Ob} {keep : Nat} {post : X → A → List Ob → Prop} {args : List A} {d : Nat} {s : St} {K : A → St → Prop} (x : X) (look : Bool) (ids : List (Option Nat))
    (hp : pre x) (hg : gvOk s ids (obs x)) (hd : dist ids = true) (hf : (obs x).length ≤ 10) (ha : Fas look ids s.H args (as x))
    (h : ∀ r obs', obs'.length = keep → post x r obs' → (look = true → Nf r ∧ nfObs obs') ∧ recv d { s with H := putG ids obs' s.H } r K) : acG pre as obs keep post args d s K := by
  rw [o_acG]
  exact ⟨s, RLe.refl s, x, look, ids, hp, hg, hd, hf, ha, h⟩

theorem acG.clz {X : Type} {pre : X → Prop} {as : X → List A} {obs : X → List Ob} {keep : Nat} {post : X → A → List Ob → Prop} {args : List A} {d : Nat} {s : St} {K : A → St → Prop} (id i j : Nat)
    (h : Am.clz id i j s (fun s => acG pre as obs keep post args d s K)) : acG pre as obs keep post args d s K := by
  obtain ⟨s', h1, h2⟩ := clz_okR h
  rw [o_acG] at h2 ⊢
  obtain ⟨s0, k1, k2⟩ := h2
  exact ⟨s0, h1.trans k1, k2⟩

theorem acG_cons {X : Type} {pre : X → Prop} {as : X → List A} {obs : X → List Ob} {keep : Nat} {post : X → A → List Ob → Prop} {g : FuncId} {r : List (FuncId × (List A → Nat → St → (A → St → Prop) → Prop))}
    (hg : ∀ x, pre x → Fni P g (as x) (obs x) keep (post x)) (hr : ACok P (acOf r)) : ACok P (acOf ((g, acG pre as obs keep post) :: r)) := by
  intro F args d s K h
  unfold acOf at h
  cases q : Nat.beq g F with
  | true =>
    rw [q] at h
    simp only at h
    rw [o_acG] at h
    obtain ⟨s0, ⟨he, hle⟩, x, look, ids, hp, h⟩ := h
    have := Nat.eq_of_beq_eq_true q
    subst this
    obtain ⟨h1, h2⟩ := acN_sound (hg x hp) h
    refine ⟨h1, fun c β φ w vs hR hv => ?_⟩
    obtain ⟨φ0, k1, k2⟩ := hle c β φ w hR
    refine Calls.mono (h2 c β φ0 w vs k1 (hv.stb k2 (Bex.refl β))) ?_
    rintro e w' ⟨v, rfl, r, s', β', φ', m1, m2, m3, m4, m5, m6⟩
    exact ⟨v, rfl, r, s', β', φ', m1, k2.trans m2, m3, m4.trans he, m5, m6⟩
  | false =>
    rw [q] at h
    exact hr _ _ _ _ _ h

theorem Vs.less {N N' : Bs} {β : Nat → Option Loc} {w : World} {l : List A} {vs : List Value} (h : Vs w N β l vs) (hN : ∀ x, N' x → N x) : Vs w N' β l vs :=
  h.stb ⟨Nat.le_refl _, fun b _ hb => ⟨rfl, fun h => hb (hN b h)⟩⟩ (Bex.refl β)

/-- A function of whose result something is known, out of its code. -/
theorem Fnk.of_axP {Γ : Tab} {AC : FuncId → List A → Nat → St → (A → St → Prop) → Prop} {f : FuncId} {fn : Func} {code : Code} (hf : P.funcs[f]? = some fn) (hb : fn.body = some code)
    (hname : (fn.name != "runtime.NumGoroutine") = true) (hΓ : TabOk P Γ) (hA : ACok P AC)
    (hm : P.follows .mixedOrders = true) (hok : codeOk fn.ntmps code = true) {as : List A} {Q : A → Prop} (hlen : as.length ≤ fn.ntmps)
    (h : ∀ post : A → Prop, (∀ r, Q r → post r) → ax AC Γ code (finK Γ fn.results.toList post) (start as)) : Fnk P f as Q :=
  Fnk.of_ax hf hb hname hΓ hA hm hok hlen (h Q (fun _ h => h))
/-- The same with objects. -/
theorem Fni.of_axP {Γ : Tab} {AC : FuncId → List A → Nat → St → (A → St → Prop) → Prop} {f : FuncId} {fn : Func} {code : Code} (hf : P.funcs[f]? = some fn) (hb : fn.body = some code)
    (hname : (fn.name != "runtime.NumGoroutine") = true) (hΓ : TabOk P Γ) (hA : ACok P AC)
    (hm : P.follows .mixedOrders = true) (hok : codeOk fn.ntmps code = true) {as : List A} {obs : List Ob} {keep : Nat} {Q : A → List Ob → Prop} (hlen : as.length ≤ fn.ntmps) (hkeep : keep ≤ obs.length)
    (h : ∀ post : A → List Ob → Prop, (∀ r obs', Q r obs' → post r obs') → ax AC Γ code (finNK Γ fn.results.toList keep post) (startN as obs)) : Fni P f as obs keep Q :=
  Fni.of_ax hf hb hname hΓ hA hm hok hlen hkeep (h Q (fun _ _ h => h))

/-- A call of a function of whose result something is known. -/
@[reducible] noncomputable def acP {X : Type} (pre : X → Prop) (as : X → List A) (post : X → A → Prop) : List A → Nat → St → (A → St → Prop) → Prop := opq (@acX X) pre as post
theorem o_acP {X : Type} (pre : X → Prop) (as : X → List A) (post : X → A → Prop) : acP pre as post = acX pre as post := by show opq (@acX X) pre as post = _; rw [opq_eq]
theorem acP.go {X : Type} {pre : X → Prop} {as : X → List A} {post : X → A → Prop} {args : List A} {d : Nat} {s : St} {K : A → St → Prop} (x : X) (hp : pre x) (ha : args = as x) (hc : clVs args = true)
    (h : ∀ r, post x r → recv d s r K) : acP pre as post args d s K := by
  rw [o_acP]; exact ⟨x, hp, .inl ⟨ha, hc, h⟩⟩
theorem acP.look {X : Type} {pre : X → Prop} {as : X → List A} {post : X → A → Prop} {args : List A} {d : Nat} {s : St} {K : A → St → Prop} (x : X) (hp : pre x) (ha : Fzs s.H args (as x))
    (h : ∀ r, post x r → Nf r ∧ recv d s r K) : acP pre as post args d s K := by
  rw [o_acP]; exact ⟨x, hp, .inr ⟨ha, h⟩⟩
theorem acP_cons {X : Type} {pre : X → Prop} {as : X → List A} {post : X → A → Prop} {g : FuncId} {r : List (FuncId × (List A → Nat → St → (A → St → Prop) → Prop))}
    (hg : ∀ x, pre x → Fnk P g (as x) (post x)) (hr : ACok P (acOf r)) : ACok P (acOf ((g, acP pre as post) :: r)) := by
  rw [o_acP]; exact acOf_cons hg hr

/-- A call of a function that is given no objects. -/
theorem Fnk.fni {f : FuncId} {as : List A} {post : A → Prop} (h : Fnk P f as post) : Fni P f as [] 0 (fun r obs' => obs' = [] ∧ post r) := by
  refine ⟨h.1, fun w N vs β0 φ0 hN hg hv => ?_⟩
  have hφ : φ0 = fun _ _ => False := funext fun i => funext fun x => propext ⟨fun hx => hg.dead i (Nat.zero_le _) x hx, fun h => h.elim⟩
  have hβ : β0 = fun _ => none := funext fun i => hg.none i (Nat.zero_le _)
  subst hφ hβ
  refine Calls.mono (h.2 w N vs hN (hv.less (N' := N) (fun x hx => .inl hx))) ?_
  rintro e w' ⟨v, rfl, r, F, hp, hk, hF, hw⟩
  refine ⟨v, rfl, r, F, [], fun _ _ => False, ⟨⟨rfl, hp⟩, hk.less ?_, rfl, fun i ob h => by simp at h, fun _ _ _ h => h, fun _ _ _ _ h => h.elim, fun _ _ h => h.elim, fun _ _ h => h.elim,
    fun x hx => ⟨.inr (hF x hx).1, (hF x hx).2⟩, ⟨hw.os, hw.tape, hw.output, hw.size, fun b hb _ => hw.keep b hb⟩⟩⟩
  rintro x ((h | ⟨_, h⟩) | h)
  · exact .inl h
  · exact h.elim
  · exact .inr h

end
end Go.Am
end
