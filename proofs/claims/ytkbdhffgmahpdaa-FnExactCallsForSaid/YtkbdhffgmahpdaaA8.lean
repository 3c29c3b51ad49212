/- Loops: states that are laid out. · Results, computed; closing, computed. · Contracts of functions that are given objects: they may write them, keep them or give them back. -/
import Derived.Test.YtkbdhffgmahpdaaA7
section
set_option linter.all false
namespace Go.Am

def lookE : List (Nat × A) → Nat → A
  | [], _ => .any
  | (u, a) :: l, t =>
    match Nat.beq u t with
    | true => a
    | false => lookE l t
def lookH : List (Nat × Ob) → Nat → Option Ob
  | [], _ => none
  | (u, a) :: l, t =>
    match Nat.beq u t with
    | true => some a
    | false => lookH l t

/-- A state, laid out: slots, objects (with numbers below 64). -/
def mkS (E : List (Nat × A)) (H : List (Nat × Ob)) : St := { env := lookE E, H := lookH H, D := fun q => q == 0, R := fun _ => false }

def sig : List (Nat × Nat) → Nat → Nat
  | [], i => i
  | (k, v) :: l, i =>
    match Nat.beq k i with
    | true => v
    | false => sig l i
def alive (l : List (Nat × Nat)) (i : Nat) : Bool := Nat.blt i 10 || (l.map (·.1)).contains i
/-- numbers of objects: new and old -/
def sigOk (l : List (Nat × Nat)) : Bool := l.all (fun p => Nat.ble 10 p.1 && Nat.blt p.1 64 && Nat.ble 10 p.2) && decide ((l.map (·.2)).Nodup)

def chkE (s : St) (l : List (Nat × Nat)) : List (Nat × A) → Prop
  | [] => True
  | (t, a) :: r => (idsIn (alive l) a = true ∧ s.env t = ren (sig l) a) ∧ chkE s l r
def chkH (s : St) (l : List (Nat × Nat)) : List (Nat × Ob) → Prop
  | [] => True
  | (i, ob) :: r => (alive l i = true ∧ ∃ ob0, s.H (sig l i) = some ob0 ∧ ob0.sz = ob.sz ∧ ob.n ≤ ob0.n ∧ ∀ k, k < ob.n → Wks (sig l) (alive l) (ob0.g k) (ob.g k)) ∧ chkH s l r

theorem sig_small : ∀ {l : List (Nat × Nat)}, l.all (fun p => Nat.ble 10 p.1 && Nat.blt p.1 64 && Nat.ble 10 p.2) = true → ∀ i, i < 10 → sig l i = i
  | [], _, _, _ => rfl
  | (k, v) :: l, h, i, hi => by
    simp only [List.all_cons, Bool.and_eq_true, Nat.ble_eq] at h
    unfold sig
    have : Nat.beq k i = false := by
      cases q : Nat.beq k i with
      | true => have := Nat.eq_of_beq_eq_true q; omega
      | false => rfl
    rw [this]
    exact sig_small h.2 i hi

theorem sig_mem : ∀ {l : List (Nat × Nat)} {i : Nat}, (l.map (·.1)).contains i = true → (i, sig l i) ∈ l
  | [], i, h => by simp at h
  | (k, v) :: l, i, h => by
    unfold sig
    cases q : Nat.beq k i with
    | true =>
      have := Nat.eq_of_beq_eq_true q
      subst this
      simp
    | false =>
      have hne : k ≠ i := fun e => by subst e; simp at q
      simp only [List.map_cons, List.contains_cons, Bool.or_eq_true, beq_iff_eq] at h
      rcases h with h | h
      · exact absurd h.symm hne
      · exact List.mem_cons_of_mem _ (sig_mem h)

theorem nodup_inj : ∀ {l : List (Nat × Nat)}, (l.map (·.2)).Nodup → ∀ {i j v}, (i, v) ∈ l → (j, v) ∈ l → i = j
  | [], _, i, j, v, h, _ => by cases h
  | (k, u) :: l, hn, i, j, v, hi, hj => by
    simp only [List.map_cons, List.nodup_cons] at hn
    rcases List.mem_cons.1 hi with e | hi
    · cases e
      rcases List.mem_cons.1 hj with e | hj
      · cases e; rfl
      · exact absurd (List.mem_map.2 ⟨_, hj, rfl⟩) hn.1
    · rcases List.mem_cons.1 hj with e | hj
      · cases e
        exact absurd (List.mem_map.2 ⟨_, hi, rfl⟩) hn.1
      · exact nodup_inj hn.2 hi hj

theorem chkE_ok {s : St} {l : List (Nat × Nat)} : ∀ {E : List (Nat × A)}, chkE s l E → ∀ t, lookE E t = .any ∨ (idsIn (alive l) (lookE E t) = true ∧ s.env t = ren (sig l) (lookE E t))
  | [], _, _ => .inl rfl
  | (u, a) :: r, h, t => by
    unfold lookE
    cases q : Nat.beq u t with
    | true =>
      have := Nat.eq_of_beq_eq_true q
      subst this
      exact .inr h.1
    | false => exact chkE_ok h.2 t

theorem chkH_ok {s : St} {l : List (Nat × Nat)} : ∀ {H : List (Nat × Ob)}, chkH s l H → ∀ i ob, lookH H i = some ob → alive l i = true ∧ ∃ ob0, s.H (sig l i) = some ob0 ∧ ob0.sz = ob.sz ∧ ob.n ≤ ob0.n ∧ ∀ k, k < ob.n → Wks (sig l) (alive l) (ob0.g k) (ob.g k)
  | [], _, _, _, h => by cases h
  | (u, a) :: r, h, i, ob, hi => by
    unfold lookH at hi
    cases q : Nat.beq u i with
    | true =>
      have := Nat.eq_of_beq_eq_true q
      subst this
      rw [q] at hi
      simp only [Option.some.injEq] at hi
      subst hi
      exact h.1
    | false =>
      rw [q] at hi
      exact chkH_ok h.2 i ob hi

/-- A state is told as one that is laid out. -/
theorem Le.mk {s : St} {E : List (Nat × A)} {H : List (Nat × Ob)} (l : List (Nat × Nat)) (hl : sigOk l = true) (hE : chkE s l E) (hH : chkH s l H) (hR : ∀ i, s.R i = false) : Le s (mkS E H) := by
  simp only [sigOk, Bool.and_eq_true, decide_eq_true_eq] at hl
  have hmem : ∀ i, alive l i = true → i < 10 ∨ (i, sig l i) ∈ l := by
    intro i hi
    simp only [alive, Bool.or_eq_true, Nat.blt_eq] at hi
    exact hi.imp (fun h => h) sig_mem
  have hrange : ∀ p ∈ l, 10 ≤ p.1 ∧ p.1 < 64 ∧ 10 ≤ p.2 := by
    intro p hp
    have := List.all_eq_true.1 hl.1 p hp
    simp only [Bool.and_eq_true, Nat.ble_eq, Nat.blt_eq] at this
    exact ⟨this.1.1, this.1.2, this.2⟩
  refine Le.re (sig l) (alive l) (fun i hi => ⟨by simp [alive, hi], sig_small hl.1 i hi⟩) ?_ (chkE_ok hE) (chkH_ok hH) ?_ (fun i _ _ => hR _)
  · intro i j hi hj he
    rcases hmem i hi with h1 | h1 <;> rcases hmem j hj with h2 | h2
    · rw [sig_small hl.1 i h1, sig_small hl.1 j h2] at he; exact he
    · rw [sig_small hl.1 i h1] at he
      have := (hrange _ h2).2.2
      simp only at this; omega
    · rw [sig_small hl.1 j h2] at he
      have := (hrange _ h1).2.2
      simp only at this; omega
    · rw [he] at h1
      exact nodup_inj hl.2 h1 h2
  · intro q hq i hi
    cases ha : alive l i with
    | false => rfl
    | true =>
      exfalso
      have hq0 : q ≠ 0 := by
        rintro rfl
        have : (0 == 0 : Bool) = false := hq
        cases this
      rcases hmem i ha with h | h
      · omega
      · have := (hrange _ h).2.1
        simp only at this
        omega

/-- Two values are the same, part by part. -/
def Aeq : A → A → Prop
  | .val (.int k n), .val (.int k' m) => k = k' ∧ n = m
  | .val (.bool a), .val (.bool b) => a = b
  | .val u, .val v => u = v
  | .emp, .emp => True
  | .any, .any => True
  | .sl i off n, .sl j off' m => i = j ∧ off = off' ∧ n = m
  | .ptr i k l, .ptr j k' l' => i = j ∧ k = k' ∧ l = l'
  | .slc o sz n g, .slc o' sz' m h => o = o' ∧ sz = sz' ∧ n = m ∧ g = h
  | .agg l, .agg m => l = m
  | .tup l, .tup m => l = m
  | .pfro l, .pfro m => l = m
  | .fn f l, .fn g m => f = g ∧ l = m
  | _, _ => False

theorem Aeq.eq {a b : A} (h : Aeq a b) : a = b := by
  unfold Aeq at h
  split at h
  · rw [h.1, h.2]
  · rw [h]
  · rw [h]
  · rfl
  · rfl
  · rw [h.1, h.2.1, h.2.2]
  · rw [h.1, h.2.1, h.2.2]
  · rw [h.1, h.2.1, h.2.2.1, h.2.2.2]
  · rw [h]
  · rw [h]
  · rw [h]
  · rw [h.1, h.2]
  · exact h.elim

def boolP : Bool → Prop
  | true => True
  | false => False

/-- Every slot that is laid out is told. -/
def lookOk (s : St) (l : List (Nat × Nat)) : List (Nat × A) → Prop → Prop
  | [], K => K
  | (t, a) :: r, K => boolP (idsIn (alive l) a) ∧ Aeq (s.env t) (ren (sig l) a) ∧ lookOk s l r K
def objOk (s : St) (l : List (Nat × Nat)) : List (Nat × Ob) → Prop
  | [] => True
  | (i, ob) :: r => boolP (alive l i) ∧ (match s.H (sig l i) with
    | some ob0 => ob0.sz = ob.sz ∧ leNN ob.n ob0.n ∧ (∀ k, k < ob.n → Wks (sig l) (alive l) (ob0.g k) (ob.g k))
    | none => False) ∧ objOk s l r

theorem boolP_eq {b : Bool} (h : boolP b) : b = true := by
  cases b
  · exact h.elim
  · rfl

theorem lookOk_ok {s : St} {l : List (Nat × Nat)} {K : Prop} : ∀ {E : List (Nat × A)}, lookOk s l E K → chkE s l E ∧ K
  | [], h => ⟨trivial, h⟩
  | (t, a) :: r, h => by
    obtain ⟨h1, h2, h3⟩ := h
    obtain ⟨h4, h5⟩ := lookOk_ok h3
    exact ⟨⟨⟨boolP_eq h1, h2.eq⟩, h4⟩, h5⟩

theorem objOk_ok {s : St} {l : List (Nat × Nat)} : ∀ {H : List (Nat × Ob)}, objOk s l H → chkH s l H
  | [], _ => trivial
  | (i, ob) :: r, h => by
    obtain ⟨h1, h2, h3⟩ := h
    refine ⟨⟨boolP_eq h1, ?_⟩, objOk_ok h3⟩
    split at h2
    · rename_i ob0 ho
      exact ⟨ob0, ho, h2.1, Eq.mp (o_leNN _ _) h2.2.1, h2.2.2⟩
    · exact h2.elim

/-- A state is told as one that is laid out: all that is to be shown, computed. -/
theorem Le.lay {s : St} {E : List (Nat × A)} {H : List (Nat × Ob)} (l : List (Nat × Nat)) (hl : sigOk l = true) (h : lookOk s l E (objOk s l H)) (hR : ∀ i, s.R i = false) : Le s (mkS E H) :=
  Le.mk l hl (lookOk_ok h).1 (objOk_ok (lookOk_ok h).2) hR

theorem LoopAx.of {body : (Ex → St → Prop) → St → Prop} {K : Ex → St → Prop} {s : St} {X : Type} (st : X → St) (μ : X → Nat) (inv : X → Prop) (x0 : X) (h0 : inv x0) (hle : Le s (st x0))
    (hb : ∀ x, inv x → body (thenX (Back st μ inv x) K) (st x)) : LoopAx body K s := Eq.mpr (o_LoopAx _ _ _) ⟨X, st, μ, inv, ⟨x0, h0, hle⟩, hb⟩
end Go.Am
end
section
set_option linter.all false
namespace Go.Am

/-- The first n elements stand for themselves. -/
def CloR (n : Nat) (g : Nat → List A) : Prop := ∀ k, k < n → (g k).all clo1 = true
@[reducible] noncomputable def Clo (n : Nat) (g : Nat → List A) : Prop := opq CloR n g
theorem o_Clo (n : Nat) (g : Nat → List A) : Clo n g = ∀ k, k < n → (g k).all clo1 = true := by show opq CloR n g = _; rw [opq_eq]; rfl
theorem Clo.of {n : Nat} {g : Nat → List A} (h : ∀ k, k < n → (g k).all clo1 = true) : Clo n g := Eq.mpr (o_Clo _ _) h

/-- Cells of a result, with what they own. -/
def takeOwn (H : Nat → Option Ob) : List A → Option (Prop × List A × List Nat)
  | [] => some (True, [], [])
  | a :: l =>
    match takeOwn H l with
    | none => none
    | some (c, m, ids) =>
      match a with
      | .val v => some (c, .val v :: m, ids)
      | .emp => some (c, .emp :: m, ids)
      | .slc false sz n g => some (c, .slc false sz n g :: m, ids)
      | .sl id 0 n =>
        match H id with
        | some ob => if ids.contains id = true then none else some (leNN n ob.n ∧ Clo n ob.g ∧ c, .slc true ob.sz n ob.g :: m, id :: ids)
        | none => none
      | _ => none

theorem takeOwn_ok {H : Nat → Option Ob} : ∀ {l : List A} {c : Prop} {m : List A} {ids : List Nat}, takeOwn H l = some (c, m, ids) → c → Ocs H l m ids
  | [], c, m, ids, h, _ => by
    cases h; exact .nil
  | a :: l, c, m, ids, h, hc => by
    unfold takeOwn at h
    split at h
    · cases h
    rename_i c' m' ids' hl
    split at h
    · cases h; exact .cons (i := []) .val (takeOwn_ok hl hc) (fun x hx => by simp at hx)
    · cases h; exact .cons (i := []) .emp (takeOwn_ok hl hc) (fun x hx => by simp at hx)
    · cases h; exact .cons (i := []) .fro (takeOwn_ok hl hc) (fun x hx => by simp at hx)
    · rename_i id n
      split at h
      · rename_i ob hob
        split at h
        · cases h
        · rename_i hid
          cases h
          obtain ⟨h1, h2, h3⟩ := hc
          simp only [o_leNN] at h1
          refine .cons (i := [id]) (.sl hob h1 (Eq.mp (o_Clo _ _) h2)) (takeOwn_ok hl h3) (fun x hx hx' => ?_)
          simp at hx
          subst hx
          exact hid (by simpa using hx')
      · cases h
    · cases h

def takeT (H : Nat → Option Ob) : List A → Option (Prop × List A × List Nat)
  | [] => some (True, [], [])
  | a :: l =>
    match takeT H l with
    | none => none
    | some (c, m, ids) =>
      match a with
      | .agg r =>
        match takeOwn H r with
        | some (c1, r', i1) => if i1.all (fun x => !ids.contains x) = true then some (c1 ∧ c, .agg r' :: m, i1 ++ ids) else none
        | none => none
      | a =>
        match takeOwn H [a] with
        | some (c1, [a'], i1) => if i1.all (fun x => !ids.contains x) = true then some (c1 ∧ c, a' :: m, i1 ++ ids) else none
        | _ => none

theorem takeT_ok {H : Nat → Option Ob} : ∀ {l : List A} {c : Prop} {m : List A} {ids : List Nat}, takeT H l = some (c, m, ids) → c → Ozs H l m ids
  | [], c, m, ids, h, _ => by
    cases h; exact .nil
  | a :: l, c, m, ids, h, hc => by
    unfold takeT at h
    split at h
    · cases h
    rename_i c' m' ids' hl
    split at h
    · split at h
      · rename_i c1 r' i1 hr
        split at h
        · rename_i hd
          cases h
          refine .cons (.agg (takeOwn_ok hr hc.1)) (takeT_ok hl hc.2) (fun x hx hx' => ?_)
          have := List.all_eq_true.1 hd x hx
          simp [hx'] at this
        · cases h
      · cases h
    · split at h
      · rename_i c1 a' i1 hr
        split at h
        · rename_i hd
          cases h
          have h1 := takeOwn_ok hr hc.1
          refine .cons ?_ (takeT_ok hl hc.2) (fun x hx hx' => ?_)
          · cases h1 with
            | cons k1 k2 k3 =>
              cases k2
              rw [List.append_nil]
              exact .one k1
          · have := List.all_eq_true.1 hd x hx
            simp [hx'] at this
        · cases h
      · cases h

/-- A result with what it owns: on what condition. -/
def resOwn (post : A → Prop) (s : St) : A → Prop
  | .agg l =>
    match takeOwn s.H l with
    | some (c, m, _) => c ∧ post (.agg m)
    | none => False
  | .tup l =>
    match takeT s.H l with
    | some (c, m, _) => c ∧ post (.tup m)
    | none => False
  | a =>
    match takeOwn s.H [a] with
    | some (c, [a'], _) => c ∧ post a'
    | _ => False

theorem resOwn_ok {post : A → Prop} {s : St} {r : A} (h : resOwn post s r) : FinR post s r := by
  unfold resOwn at h
  split at h
  · split at h
    · rename_i c m ids hm
      exact FinR.of ⟨_, .inr ⟨ids, .one (.agg (takeOwn_ok hm h.1))⟩, h.2⟩
    · exact h.elim
  · split at h
    · rename_i c m ids hm
      exact FinR.of ⟨_, .inr ⟨ids, .tup (takeT_ok hm h.1)⟩, h.2⟩
    · exact h.elim
  · split at h
    · rename_i c a' ids hm
      have h1 := takeOwn_ok hm h.1
      refine FinR.of ⟨a', .inr ⟨ids, .one (.one ?_)⟩, h.2⟩
      cases h1 with
      | cons k1 k2 k3 =>
        cases k2
        rw [List.append_nil]
        exact k1
    · exact h.elim

def ownNow (Γ : Tab) (results : List ResultVar) (post : A → Prop) (s : St) : Prop :=
  match resA Γ s results with
  | some (C, l) => C ∧ resOwn post s (oneR l)
  | none => False

/-- At a function's end: the result with what it owns. -/
theorem FinAx.own {Γ : Tab} {results : List ResultVar} {post : A → Prop} {s : St} (h : ownNow Γ results post s) : FinAx Γ results post s := by
  refine FinAx.here ?_
  unfold ownNow at h
  unfold resNow
  cases q : resA Γ s results with
  | none => rw [q] at h; exact h.elim
  | some p =>
    rw [q] at h
    exact ⟨h.1, resOwn_ok h.2⟩

/-- Cell j of element i of object id is closed. -/
def clz (id i j : Nat) (s : St) (K : St → Prop) : Prop :=
  match s.H id with
  | none => False
  | some ob =>
    match (ob.g i)[j]? with
    | some (.sl id' 0 n) =>
      match s.H id' with
      | none => False
      | some ob' => if id' ≠ id ∧ s.R id' = false then ltN i ob.n ∧ leNN n ob'.n ∧ Clo n ob'.g ∧ K { s with H := setH (setH s.H id' none) id (some ⟨ob.sz, ob.n, upd ob.n ob.g i (splice (ob.g i) j [.slc true ob'.sz n ob'.g])⟩) } else False
    | _ => False

theorem clz_okR {id i j : Nat} {s : St} {K : St → Prop} (h : clz id i j s K) : ∃ s', RLe s s' ∧ K s' := by
  unfold clz at h
  split at h
  · exact h.elim
  rename_i ob hob
  split at h
  · rename_i id' n hj
    split at h
    · exact h.elim
    rename_i ob' hob'
    split at h
    · rename_i hc
      obtain ⟨h1, h2, h3, h4⟩ := h
      simp only [o_ltN] at h1
      simp only [o_leNN] at h2
      exact ⟨_, RLe.close hob hob' hc.1 h1 hj h2 (Eq.mp (o_Clo _ _) h3) (fun _ => hc.2), h4⟩
    · exact h.elim
  · exact h.elim

theorem clz_ok {id i j : Nat} {s : St} {K : St → Prop} (h : clz id i j s K) : ∃ s', Le s s' ∧ K s' := by
  obtain ⟨s', h1, h2⟩ := clz_okR h
  exact ⟨s', h1.le, h2⟩

theorem Back.clz {X : Type} {st : X → St} {μ : X → Nat} {inv : X → Prop} {x : X} {s : St} (id i j : Nat) (h : Am.clz id i j s (Back st μ inv x)) : Back st μ inv x s := by
  obtain ⟨s', h1, hb⟩ := clz_ok h
  obtain ⟨x', h2, h3, h4⟩ := Eq.mp (o_Back _ _ _ _ _) hb
  exact Back.of x' h2 h3 (h1.trans h4)

/-- A result that is nil, as an empty one. -/
theorem FinAx.emp {Γ : Tab} {results : List ResultVar} {post : A → Prop} {s : St} (o : Bool) (sz : Nat) (g : Nat → List A) (h : match resA Γ s results with | some (C, [.emp]) => C ∧ post (.slc o sz 0 g) | _ => False) : FinAx Γ results post s := by
  refine FinAx.here ?_
  unfold resNow
  split at h
  · rename_i C hr
    rw [hr]
    exact ⟨h.1, FinR.of ⟨_, .inr ⟨[], .one (.one .empo)⟩, h.2⟩⟩
  · exact h.elim

theorem FinAx.clz {Γ : Tab} {results : List ResultVar} {post : A → Prop} {s : St} (id i j : Nat) (h : Am.clz id i j s (FinAx Γ results post)) : FinAx Γ results post s := by
  obtain ⟨s', h1, h2⟩ := clz_ok h
  exact FinAx.after h1 h2

/-- A call whose result is a function of its arguments. -/
def acFR {X : Type} (pre : X → Prop) (as : X → List A) (res : X → A) : List A → Nat → St → (A → St → Prop) → Prop := acX pre as (fun x r => r = res x)
@[reducible] noncomputable def acF {X : Type} (pre : X → Prop) (as : X → List A) (res : X → A) : List A → Nat → St → (A → St → Prop) → Prop := opq (@acFR X) pre as res
theorem o_acF {X : Type} (pre : X → Prop) (as : X → List A) (res : X → A) : acF pre as res = acX pre as (fun x r => r = res x) := by show opq (@acFR X) pre as res = _; rw [opq_eq]; rfl

theorem acF.go {X : Type} {pre : X → Prop} {as : X → List A} {res : X → A} {args : List A} {d : Nat} {s : St} {K : A → St → Prop} (x : X) (hp : pre x) (ha : args = as x) (hc : clVs args = true)
    (h : recv d s (res x) K) : acF pre as res args d s K := by
  rw [o_acF]; exact ⟨x, hp, .inl ⟨ha, hc, fun r hr => by subst hr; exact h⟩⟩

theorem acF.look {X : Type} {pre : X → Prop} {as : X → List A} {res : X → A} {args : List A} {d : Nat} {s : St} {K : A → St → Prop} (x : X) (hp : pre x) (ha : Fzs s.H args (as x)) (hn : Nf (res x))
    (h : recv d s (res x) K) : acF pre as res args d s K := by
  rw [o_acF]; exact ⟨x, hp, .inr ⟨ha, fun r hr => by subst hr; exact ⟨hn, h⟩⟩⟩

theorem acF_cons {P : Program} {X : Type} {pre : X → Prop} {as : X → List A} {res : X → A} {g : FuncId} {r : List (FuncId × (List A → Nat → St → (A → St → Prop) → Prop))}
    (hg : ∀ x, pre x → Fnk P g (as x) (fun r => r = res x)) (hr : ACok P (acOf r)) : ACok P (acOf ((g, acF pre as res) :: r)) := by
  rw [o_acF]; exact acOf_cons (post := fun x r => r = res x) hg hr

/-- A function whose result is a function of its arguments, out of its code. -/
theorem Fnk.of_axF {P : Program} {Γ : Tab} {AC : FuncId → List A → Nat → St → (A → St → Prop) → Prop} {f : FuncId} {fn : Func} {code : Code} (hf : P.funcs[f]? = some fn) (hb : fn.body = some code)
    (hname : (fn.name != "runtime.NumGoroutine") = true) (hΓ : TabOk P Γ) (hA : ACok P AC)
    (hm : P.follows .mixedOrders = true) (hok : codeOk fn.ntmps code = true) {as : List A} {res : A} (hlen : as.length ≤ fn.ntmps)
    (h : ∀ post : A → Prop, post res → ax AC Γ code (finK Γ fn.results.toList post) (start as)) : Fnk P f as (fun r => r = res) :=
  Fnk.of_ax hf hb hname hΓ hA hm hok hlen (h _ rfl)

end Go.Am
end
section
set_option linter.all false
namespace Go.Am
section
variable {P : Program} {Γ : Tab} {c : Ctx} {s : St} {β : Nat → Option Loc} {φ : Nat → Bs} {a : Act} {w : World} {N : Bs}
variable {AC : FuncId → List A → Nat → St → (A → St → Prop) → Prop}

/-- The objects that a call is given: closed, apart from each other and from N. -/
structure Gvn (w : World) (N : Bs) (β0 : Nat → Option Loc) (φ0 : Nat → Bs) (obs : List Ob) : Prop where
  obj : ∀ i ob, obs[i]? = some ob → ∃ L, β0 i = some L ∧ OR w (Ow N φ0) (fun _ => none) L ob (φ0 i)
  none : ∀ i, obs.length ≤ i → β0 i = none
  dead : ∀ i, obs.length ≤ i → nob (φ0 i)
  dis : ∀ i j, i ≠ j → ∀ x, φ0 i x → ¬ φ0 j x
  lt : ∀ i x, φ0 i x → x < w.heap.size
  off : ∀ i x, φ0 i x → ¬ N x
  few : obs.length ≤ 10

/-- What a call leaves: the first 'keep' objects, with new content; the result, with what it owns. -/
structure Lft (w : World) (N : Bs) (β0 : Nat → Option Loc) (φ0 : Nat → Bs) (keep : Nat) (post : A → List Ob → Prop) (v : Value) (w' : World) (r : A) (F : Bs) (obs' : List Ob) (φ' : Nat → Bs) : Prop where
  post : post r obs'
  res : Kt w' (fun x => Ow N φ' x ∨ F x) r v F
  len : obs'.length = keep
  obj : ∀ i ob, obs'[i]? = some ob → ∃ L, β0 i = some L ∧ OR w' (fun x => Ow N φ' x ∨ F x) (fun _ => none) L ob (φ' i)
  dead : ∀ i, keep ≤ i → nob (φ' i)
  dis : ∀ i j, i ≠ j → ∀ x, φ' i x → ¬ φ' j x
  apart : ∀ i x, φ' i x → ¬ F x
  from' : ∀ i x, φ' i x → ((∃ j, φ0 j x) ∨ w.heap.size ≤ x) ∧ x < w'.heap.size
  fromF : ∀ x, F x → ((∃ j, φ0 j x) ∨ w.heap.size ≤ x) ∧ x < w'.heap.size
  fr : Fr (fun x => ∃ j, φ0 j x) w w'

/-- A function's contract: told arguments 'as' and objects 'obs' it returns, and leaves what 'post' tells; nothing else that was there changes. -/
def Fni (P : Program) (f : FuncId) (as : List A) (obs : List Ob) (keep : Nat) (post : A → List Ob → Prop) : Prop :=
  Callable P f ∧ ∀ (w : World) (N : Bs) (vs : List Value) (β0 : Nat → Option Loc) (φ0 : Nat → Bs), (∀ x, N x → x < w.heap.size) → Gvn w N β0 φ0 obs → Vs w (Ow N φ0) β0 as vs →
    Calls P f vs.toArray w (fun e w' => ∃ v, e = .returned v ∧ ∃ r F obs' φ', Lft w N β0 φ0 keep post v w' r F obs' φ')

theorem OR.clo {N' : Bs} {L : Loc} {ob : Ob} {F : Bs} (h : OR w N β L ob F) (hc : ∀ k, k < ob.n → (ob.g k).all clo1 = true) (hN : ∀ x, N' x → N x) : OR w N' (fun _ => none) L ob F := by
  obtain ⟨h1, h2, h3⟩ := h
  refine ⟨h1, h2, h3.imp id ?_⟩
  rintro ⟨e0, vs, Fi, k1, k2, k3, k4, k5, k6⟩
  exact ⟨e0, vs, Fi, k1, k2, fun i hi => (((k3 i hi).ks (hc i hi)).less hN).cs, k4, k5, k6⟩

theorem OR.alike {L : Loc} {ob ob' : Ob} {F : Bs} (h : OR w N β L ob F) (h1 : ob.sz = ob'.sz) (h2 : ob.n = ob'.n) (h3 : ∀ k, k < ob'.n → ob.g k = ob'.g k) : OR w N β L ob' F := by
  obtain ⟨sz, n, g⟩ := ob
  obtain ⟨sz', n', g'⟩ := ob'
  simp only at h1 h2 h3
  subst h1 h2
  obtain ⟨q1, q2, q3⟩ := h
  refine ⟨q1, q2, q3.imp id ?_⟩
  rintro ⟨e0, vs, Fi, k1, k2, k3, k4, k5, k6⟩
  exact ⟨e0, vs, Fi, k1, k2, fun i hi => by have := k3 i hi; simp only at this; rw [h3 i hi] at this; exact this, k4, k5, k6⟩

theorem OR.wide {L : Loc} {ob : Ob} {F : Bs} (h : OR w N (fun _ => none) L ob F) : OR w N β L ob F :=
  h.stb (Stb.refl w N) (fun _ _ h => by cases h) (fun _ _ => rfl)

theorem OR.less {N' : Bs} {L : Loc} {ob : Ob} {F : Bs} (h : OR w N β L ob F) (hN : ∀ x, N' x → N x) : OR w N' β L ob F :=
  h.stb ⟨Nat.le_refl _, fun b _ hb => ⟨rfl, fun h => hb (hN b h)⟩⟩ (Bex.refl β) (fun _ _ => rfl)

def nth : List Ob → Nat → Option Ob
  | [], _ => none
  | ob :: r, i => match i with
    | 0 => some ob
    | i + 1 => nth r i

theorem nth_eq : ∀ (l : List Ob) (i : Nat), nth l i = l[i]?
  | [], _ => rfl
  | ob :: r, 0 => rfl
  | ob :: r, i + 1 => by simp only [nth, nth_eq r i]; simp

def startN (as : List A) (obs : List Ob) : St := { env := fun t => as.getD t .any, H := nth obs, D := fun q => q == 0, R := fun _ => false }

/-- At a function's end, with objects. -/
def FinNR (Γ : Tab) (results : List ResultVar) (keep : Nat) (post : A → List Ob → Prop) (s : St) : Prop :=
  ∃ s', Le s s' ∧ ∃ C l, resA Γ s' results = some (C, l) ∧ C ∧ ∃ r' ids obs', Oz s'.H (oneR l) r' ids ∧ obs'.length = keep ∧
    (∀ i ob, obs'[i]? = some ob → s'.H i = some ob ∧ i ∉ ids ∧ ∀ k, k < ob.n → (ob.g k).all clo1 = true) ∧ post r' obs'
@[reducible] noncomputable def FinN (Γ : Tab) (results : List ResultVar) (keep : Nat) (post : A → List Ob → Prop) (s : St) : Prop := opq FinNR Γ results keep post s
theorem o_FinN (Γ : Tab) (results : List ResultVar) (keep : Nat) (post : A → List Ob → Prop) (s : St) : FinN Γ results keep post s = FinNR Γ results keep post s := by
  show opq FinNR Γ results keep post s = _; rw [opq_eq]

noncomputable def finNK (Γ : Tab) (results : List ResultVar) (keep : Nat) (post : A → List Ob → Prop) : Ex → St → Prop
  | .normal, s => FinN Γ results keep post s
  | .ret, s => FinN Γ results keep post s
  | _, _ => False

theorem startN_tells {as : List A} {obs : List Ob} {vs : List Value} {N : Bs} {β0 : Nat → Option Loc} {φ0 : Nat → Bs} (hN : ∀ x, N x → x < w.heap.size) (hg : Gvn w N β0 φ0 obs) (hv : Vs w (Ow N φ0) β0 as vs) {nt : Nat} (hlen : as.length ≤ nt) :
    Tells { w0 := w, F0 := fun x => ∃ j, φ0 j x, N0 := N, β0 := β0, nt := nt, w1 := w, wt := fun _ => False } (startN as obs)
      { tmps := vs.toArray ++ Array.replicate (nt - vs.toArray.size) Go.undef, defers := [] } w := by
  have hl := hv.length
  refine ⟨β0, φ0, ?_, fun t => ?_, rfl, ?_⟩
  · refine ⟨Fr.refl _ _, fun _ _ => rfl, ?_, ?_, ?_, hg.dis, fun i x h => .inl ⟨i, h⟩, hg.off, hg.lt, hN, ?_, ?_, fun _ h => h.elim, fun _ h => h.elim, fun _ _ _ _ h => h.elim⟩
    · intro q hq id hid
      have hq0 : q ≠ 0 := by
        rintro rfl
        have : (0 == 0 : Bool) = false := hq
        cases this
      exact hg.none id (by have := hg.few; omega)
    · intro id ob ho
      replace ho : nth obs id = some ob := ho
      rw [nth_eq] at ho
      obtain ⟨L, h1, h2⟩ := hg.obj id ob ho
      exact ⟨L, h1, h2.wide⟩
    · intro id ho
      replace ho : nth obs id = none := ho
      rw [nth_eq] at ho
      exact hg.dead id (by simpa using ho)
    · rintro x ⟨j, h⟩; exact hg.lt j x h
    · rintro x ⟨j, h⟩; exact hg.off j x h
  · have h1 := hv.getD t Go.undef
    have h2 : (vs.toArray ++ Array.replicate (nt - vs.toArray.size) Go.undef).getD t Go.undef = vs.getD t Go.undef := by
      simp only [Array.getD_eq_getD_getElem?, List.getD_eq_getElem?_getD, Array.getElem?_append]
      split
      · simp
      · rename_i h
        simp only [List.size_toArray] at h
        rw [List.getElem?_eq_none (by omega)]
        simp only [Array.getElem?_replicate]
        split <;> rfl
    show V w _ _ (as.getD t .any) (Array.getD _ t Go.undef)
    rw [h2]
    exact h1
  · simp only [Array.size_append, List.size_toArray, Array.size_replicate]
    omega

/-- A contract with objects, out of the code. -/
theorem Fni.of_ax {f : FuncId} {fn : Func} {code : Code} (hf : P.funcs[f]? = some fn) (hb : fn.body = some code) (hname : (fn.name != "runtime.NumGoroutine") = true) (hΓ : TabOk P Γ) (hA : ACok P AC)
    (hm : P.follows .mixedOrders = true) (hok : codeOk fn.ntmps code = true) {as : List A} {obs : List Ob} {keep : Nat} {post : A → List Ob → Prop} (hlen : as.length ≤ fn.ntmps) (hkeep : keep ≤ obs.length)
    (h : ax AC Γ code (finNK Γ fn.results.toList keep post) (startN as obs)) : Fni P f as obs keep post := by
  refine ⟨⟨fn, hf, by rw [hb]; simp, by simpa using hname⟩, fun w N vs β0 φ0 hN hg hv => ?_⟩
  refine calls_of_wp hf hb ?_
  have hT := startN_tells hN hg hv hlen
  refine wp_mono (ax_sound hΓ hA hm (fun _ h => h) code _ _ _ _ hok h hT) ?_
  intro e a' w' hq
  have fin : ∀ s, Tells { w0 := w, F0 := fun x => ∃ j, φ0 j x, N0 := N, β0 := β0, nt := fn.ntmps, w1 := w, wt := fun _ => False } s a' w' → FinN Γ fn.results.toList keep post s →
      a'.defers = [] ∧ ∃ v, (results fn a'.tmps).run P w' = .ok v w' ∧ ∃ v', Ending.returned v = .returned v' ∧ ∃ r F obs' φ', Lft w N β0 φ0 keep post v' w' r F obs' φ' := by
    intro s hT hfin
    obtain ⟨s', hle, C, l, hres, hC, r', ids, obs', hz, hlen', hobs, hp⟩ := Eq.mp (o_FinN _ _ _ _ _) hfin
    obtain ⟨β, φ, hR, hE, hdf, hnt⟩ := hle _ _ _ hT
    obtain ⟨v, hv, hrun⟩ := results_run hΓ hR.objs hE hres hC
    refine ⟨hdf, v, hrun, v, rfl, ?_⟩
    obtain ⟨F, h1, h2⟩ := hz.k hR hv
    let φ' : Nat → Bs := fun i => if i < keep then φ i else fun _ => False
    have hφ : ∀ i x, φ' i x → i < keep ∧ φ i x := by
      intro i x hx
      by_cases e : i < keep
      · exact ⟨e, by simpa [φ', e] using hx⟩
      · simp [φ', e] at hx
    have hφ2 : ∀ i, i < keep → φ' i = φ i := fun i e => if_pos e
    have hsub : ∀ x, (Ow N φ' x ∨ F x) → Ow N φ x := by
      rintro x ((h | ⟨i, h⟩) | h)
      · exact .inl h
      · exact .inr ⟨i, (hφ i x h).2⟩
      · obtain ⟨k, _, hk⟩ := h2 x h; exact .inr ⟨k, hk⟩
    have hold : ∀ k x, φ k x → ((∃ j, φ0 j x) ∨ w.heap.size ≤ x) ∧ x < w'.heap.size := fun k x h => ⟨hR.sub k x h, hR.lt k x h⟩
    have hget : ∀ i, i < keep → ∃ ob, obs'[i]? = some ob := fun i hi => ⟨obs'[i]'(by omega), by simp⟩
    refine ⟨r', F, obs', φ', hp, h1.less hsub, hlen', ?_, ?_, ?_, ?_, ?_, ?_, ⟨hR.fr.os, hR.fr.tape, hR.fr.output, hR.fr.size, hR.fr.block⟩⟩
    · intro i ob hi
      have hik : i < keep := by
        have := (List.getElem?_eq_some_iff.1 hi).1
        omega
      obtain ⟨q1, q2, q3⟩ := hobs i ob hi
      obtain ⟨L, k1, k2⟩ := hR.obj i ob q1
      have hgv := hR.given i (by have := hg.few; omega)
      rw [hgv] at k1
      exact ⟨L, k1, by rw [hφ2 i hik]; exact k2.clo q3 hsub⟩
    · intro i hi x hx
      have := (hφ i x hx).1
      omega
    · exact fun i j hij x hx hy => hR.dis i j hij x (hφ i x hx).2 (hφ j x hy).2
    · intro i x hx hF
      obtain ⟨k, hk, hk2⟩ := h2 x hF
      obtain ⟨hik, hx2⟩ := hφ i x hx
      obtain ⟨ob, ho⟩ := hget i hik
      have hne : k ≠ i := by
        rintro rfl
        exact (hobs k ob ho).2.1 hk
      exact hR.dis k i hne x hk2 hx2
    · exact fun i x hx => hold i x (hφ i x hx).2
    · intro x hx
      obtain ⟨k, _, hk⟩ := h2 x hx
      exact hold k x hk
  cases e with
  | normal => obtain ⟨s, h1, h2⟩ := hq; exact fin s h1 h2
  | ret => obtain ⟨s, h1, h2⟩ := hq; exact fin s h1 h2
  | exit id => obtain ⟨s, h1, h2⟩ := hq; exact h2.elim
  | _ => exact hq.elim

/-! ### the end, computed -/

def takeR (H : Nat → Option Ob) : A → Option (Prop × A × List Nat)
  | .agg l =>
    match takeOwn H l with
    | some (c, m, ids) => some (c, .agg m, ids)
    | none => none
  | .tup l =>
    match takeT H l with
    | some (c, m, ids) => some (c, .tup m, ids)
    | none => none
  | a =>
    match takeOwn H [a] with
    | some (c, [a'], ids) => some (c, a', ids)
    | _ => none

theorem takeR_ok {H : Nat → Option Ob} {r r' : A} {C : Prop} {ids : List Nat} (h : takeR H r = some (C, r', ids)) (hC : C) : Oz H r r' ids := by
  unfold takeR at h
  split at h
  · split at h
    · rename_i c m ids hm
      cases h
      exact .one (.agg (takeOwn_ok hm hC))
    · cases h
  · split at h
    · rename_i c m ids hm
      cases h
      exact .tup (takeT_ok hm hC)
    · cases h
  · split at h
    · rename_i c a' ids hm
      cases h
      have h1 := takeOwn_ok hm hC
      cases h1 with
      | cons k1 k2 k3 =>
        cases k2
        rw [List.append_nil]
        exact .one (.one k1)
    · cases h

noncomputable def keptL (H : Nat → Option Ob) (ids : List Nat) : Nat → Nat → (List Ob → Prop) → Prop
  | 0, _, K => K []
  | n + 1, i, K =>
    match H i with
    | some ob => boolP (!(ids.contains i)) ∧ Clo ob.n ob.g ∧ keptL H ids n (i + 1) (fun l => K (ob :: l))
    | none => False

theorem keptL_ok {H : Nat → Option Ob} {ids : List Nat} : ∀ {n i : Nat} {K : List Ob → Prop}, keptL H ids n i K → ∃ l : List Ob, l.length = n ∧ (∀ j ob, l[j]? = some ob → H (i + j) = some ob ∧ (i + j) ∉ ids ∧ ∀ k, k < ob.n → (ob.g k).all clo1 = true) ∧ K l
  | 0, i, K, h => ⟨[], rfl, fun j ob hj => by simp at hj, h⟩
  | n + 1, i, K, h => by
    unfold keptL at h
    split at h
    · rename_i ob ho
      obtain ⟨h1, h2, h3⟩ := h
      obtain ⟨l, e1, e2, e3⟩ := keptL_ok h3
      refine ⟨ob :: l, by simp [e1], fun j ob' hj => ?_, e3⟩
      cases j with
      | zero =>
        simp at hj
        subst hj
        exact ⟨ho, by have := boolP_eq h1; simpa using this, Eq.mp (o_Clo _ _) h2⟩
      | succ j =>
        simp at hj
        have := e2 j ob' hj
        rw [show i + 1 + j = i + (j + 1) by omega] at this
        exact this
    · exact h.elim

noncomputable def finNow (Γ : Tab) (results : List ResultVar) (keep : Nat) (post : A → List Ob → Prop) (s : St) : Prop :=
  match resA Γ s results with
  | some (C, l) =>
    match takeR s.H (oneR l) with
    | some (C', r', ids) => C ∧ C' ∧ keptL s.H ids keep 0 (fun obs' => post r' obs')
    | none => False
  | none => False

theorem FinN.own {Γ : Tab} {results : List ResultVar} {keep : Nat} {post : A → List Ob → Prop} {s : St} (h : finNow Γ results keep post s) : FinN Γ results keep post s := by
  rw [o_FinN]
  unfold finNow at h
  split at h
  · rename_i C l hl
    split at h
    · rename_i C' r' ids hr
      obtain ⟨h1, h2, h3⟩ := h
      obtain ⟨obs', e1, e2, e3⟩ := keptL_ok h3
      exact ⟨s, Le.refl s, C, l, hl, h1, r', ids, obs', takeR_ok hr h2, e1, fun i ob hi => by have := e2 i ob hi; simpa using this, e3⟩
    · exact h.elim
  · exact h.elim

theorem FinN.after {Γ : Tab} {results : List ResultVar} {keep : Nat} {post : A → List Ob → Prop} {s s' : St} (hl : Le s s') (h : FinN Γ results keep post s') : FinN Γ results keep post s := by
  rw [o_FinN] at h ⊢
  obtain ⟨s2, h1, h2⟩ := h
  exact ⟨s2, hl.trans h1, h2⟩

theorem FinN.clz {Γ : Tab} {results : List ResultVar} {keep : Nat} {post : A → List Ob → Prop} {s : St} (id i j : Nat) (h : Am.clz id i j s (FinN Γ results keep post)) : FinN Γ results keep post s := by
  obtain ⟨s', h1, h2⟩ := clz_ok h
  exact FinN.after h1 h2
end
end Go.Am
end
