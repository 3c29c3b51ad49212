/- The abstract machine's steps: operations in a region, code. · Operations that compute or read: what the abstract machine says of them is so. · Operations that compute or read, the theorem. · Operations that compute or read, the theorem: the rest. · Operations that compute or read, the theorem: slices, fields, addresses, loads. -/
import Derived.Test.YtkbdhffgmahpdaaA0
import Derived.Laws.Slices
import Derived.Laws.Cells
import Derived.Laws.Tables
import Derived.Laws.CopyRow
section
set_option linter.all false
namespace Go.Am

variable (AC : FuncId → List A → Nat → St → (A → St → Prop) → Prop)

def app (Γ : Tab) (t : TypeId) (x y : A) (d : Nat) (s : St) (K : A → St → Prop) : Prop :=
  match Γ t with
  | none => False
  | some ti =>
    match ti.sub with
    | none => False
    | some (e, _) =>
      match Γ e, seqA s y with
      | some te, some (cy, m, h, ky) =>
        if ti.agg = false ∧ szOk s y te.sz = true ∧ kOk s ky = true then
        match x with
        | .emp => s.D (d + 1) = false ∧ cy ∧ fits m te.bytes ∧ K (.sl (blk d) 0 m) { s with H := setH (kill s.H ky) (blk d) (some ⟨te.sz, m, h⟩), D := setD s.D (d + 1) }
        | .sl id off n =>
          match s.H id with
          | none => False
          | some ob =>
            if ky ≠ some id ∧ ob.sz = te.sz ∧ s.R id = false then s.D (d + 1) = false ∧ cy ∧ eqN (nadd off n) ob.n ∧ fits (nadd n m) te.bytes ∧
              K (.sl (blk d) 0 (nadd n m)) { s with H := setH (kill (setH s.H id none) ky) (blk d) (some ⟨te.sz, nadd n m, cat n (if off = 0 then ob.g else shift ob.g off) h⟩), D := setD s.D (d + 1) }
            else False
        | _ => False
        else False
      | _, _ => False

/-- Cells that own memory are opened: each becomes a slice into an object of its own. -/
def opens : Nat → List A → (Nat → Option Ob) → List A × (Nat → Option Ob)
  | _, [], H => ([], H)
  | k, a :: l, H =>
    match a with
    | .slc true sz n g => let r := opens (k + 1) l (setH H k (some ⟨sz, n, g⟩)); (.sl k 0 n :: r.1, r.2)
    | a => let r := opens k l H; (a :: r.1, r.2)

def eff (Γ : Tab) (o : Oper) (s : St) (K : St → Prop) : Prop :=
  match o.op with
  | .store t p x =>
    match Γ t, aeval s p with
    | some ti, .ptr id i j =>
      match s.H id with
      | none => False
      | some ob =>
        let c := cellsOf (aeval s x)
        if c.length = ti.sz ∧ j + ti.sz ≤ ob.sz ∧ stob c = true ∧ s.R id = false then
          ltN i ob.n ∧ K (put { s with H := setH s.H id (some ⟨ob.sz, ob.n, upd ob.n ob.g i (splice (ob.g i) j c)⟩) } o.dst .any)
        else False
    | _, _ => False
  | .load t p =>
    match Γ t, aeval s p, o.dst with
    | some ti, .ptr id i j, some d =>
      match s.H id with
      | none => False
      | some ob =>
        if j + ti.sz ≤ ob.sz ∧ ti.sz ≤ 50 ∧ s.R id = false then
          let r := opens (blk d) (((ob.g i).drop j).take ti.sz) s.H
          s.D (d + 1) = false ∧ ltN i ob.n ∧
          match ti.agg, r.1 with
          | true, l => K { s with env := putE s.env d (.agg l), H := setH r.2 id (some ⟨ob.sz, ob.n, upd ob.n ob.g i (splice (ob.g i) j r.1)⟩), D := setD s.D (d + 1) }
          | false, [a] => K { s with env := putE s.env d a, H := setH r.2 id (some ⟨ob.sz, ob.n, upd ob.n ob.g i (splice (ob.g i) j r.1)⟩), D := setD s.D (d + 1) }
          | _, _ => False
        else False
    | _, _, _ => False
  | .call c =>
    match c.callee with
    | .builtin .append =>
      match c.args.toList, c.argTypes.toList, o.dst with
      | [x, y], [t, t'], some d => if t = t' then app Γ t (aeval s x) (aeval s y) d s (fun r s' => K (put s' (some d) r)) else False
      | _, _, _ => False
    | .builtin .copy =>
      match c.args.toList, c.argTypes.toList with
      | [x, y], t :: _ =>
        match Γ t with
        | none => False
        | some ti =>
          match ti.sub with
          | none => False
          | some (e, _) =>
            match Γ e, aeval s x, seqA s (aeval s y) with
            | some te, .sl id off n, some (cy, m, h, _) =>
              match s.H id with
              | none => False
              | some ob => if ob.sz = te.sz ∧ ti.agg = false ∧ szOk s (aeval s y) te.sz = true ∧ s.R id = false then cy ∧ Cpy m h ∧ leNN (nadd off n) ob.n ∧
                  K (put { s with H := setH s.H id (some ⟨ob.sz, ob.n, ovr ob.g off (nmin n m) h⟩) } o.dst (.val (.int .i64 (len64 (nmin n m)))))
                else False
            | _, _, _ => False
      | _, _ => False
    | .builtin .clear =>
      match c.args.toList, c.argTypes.toList with
      | [x], t :: _ =>
        match Γ t with
        | none => False
        | some ti =>
          match ti.sub with
          | none => False
          | some (e, _) =>
            match Γ e, aeval s x with
            | some te, .sl id off n =>
              match s.H id with
              | none => False
              | some ob => if ob.sz = te.sz ∧ ti.agg = false ∧ s.R id = false then leNN (nadd off n) ob.n ∧ K (put { s with H := setH s.H id (some ⟨ob.sz, ob.n, ovr ob.g off n (fun _ => te.zero)⟩) } o.dst .any) else False
            | _, _ => False
      | _, _ => False
    | .value f =>
      match aeval s f with
      | .val (.func (.func F) ⟨[]⟩ ⟨[]⟩) => AC F (c.args.toList.map (aeval s)) ((o.dst.getD 0) + 1) s (fun r s' => K (put s' o.dst r))
      | .fn (.func F) cap => AC F (c.args.toList.map (aeval s) ++ cap) ((o.dst.getD 0) + 1) s (fun r s' => K (put s' o.dst r))
      | _ => False
    | _ => False
  | .binOp op t x y _ =>
    match Γ t, lenA (aeval s x), y with
    | some ti, some n, .const (.slice none 0 0) =>
      if ti.agg = false ∧ ti.sub ≠ none then
        match op with
        | .eql => ∀ b : Bool, (b = true → eqN n 0) → K (put s o.dst (.val (.bool b)))
        | .neq => ∀ b : Bool, (b = false → eqN n 0) → K (put s o.dst (.val (.bool b)))
        | _ => False
      else False
    | _, _, _ => False
  | _ => False

/-- One operation that is carried out. -/
def ostep (Γ : Tab) (o : Oper) (s : St) (K : St → Prop) : Prop :=
  match isPure o.op with
  | true =>
    match pev Γ o s with
    | some (c, v) => c ∧ K (put s o.dst v)
    | none => eff AC Γ o s K
  | false =>
  match isMk o.op with
  | true =>
    match o.dst with
    | none => False
    | some d =>
      match mkOb Γ o s (blk d) with
      | some (c, ob, v) => s.D (d + 1) = false ∧ c ∧ K { s with env := putE s.env d v, H := setH s.H (blk d) (some ob), D := setD s.D (d + 1) }
      | none => False
  | false => eff AC Γ o s K

def bsT (x _y : Unit → Prop) : Prop := x ()
def bsF (_x y : Unit → Prop) : Prop := y ()
@[reducible] def bcase (b : Bool) (x y : Unit → Prop) : Prop := @Bool.rec (fun _ => (Unit → Prop) → (Unit → Prop) → Prop) bsF bsT b x y

theorem bcase_intro {b : Bool} {x y : Unit → Prop} (h1 : b = true → x ()) (h2 : b = false → y ()) : bcase b x y := by
  cases b
  · exact h2 rfl
  · exact h1 rfl

def gstep (all : List Oper) (o : Oper) (s : St) (x y : St → Prop) : Prop :=
  match o.guard with
  | none => x s
  | some (j, want) =>
    match all[j]? with
    | none => False
    | some oj =>
      match oj.dst with
      | none => False
      | some d =>
        match s.env d with
        | .val (.bool b) =>
          match want with
          | true => bcase b (fun _ => x { s with env := putE s.env d (.val (.bool true)) }) (fun _ => y { s with env := putE s.env d (.val (.bool false)) })
          | false => bcase b (fun _ => y { s with env := putE s.env d (.val (.bool true)) }) (fun _ => x { s with env := putE s.env d (.val (.bool false)) })
        | _ => False

def runL (Γ : Tab) (all : List Oper) : List Oper → St → (St → Prop) → Prop
  | [], s, K => K s
  | o :: r, s, K => gstep all o s (fun s => ostep AC Γ o s (fun s' => runL Γ all r s' K)) (fun s => runL Γ all r (put s o.dst .any) K)

/-- The operations of a region that may come up now. -/
def readyL (ops : List Oper) (listed : List Bool) : List Nat :=
  (List.range ops.length).filter fun i =>
    !(listed.getD i true) && (match ops[i]? with
      | some o => o.after.toList.all fun e => !(Region.binds .any e) || listed.getD e.on false
      | none => false)

/-- An operation that may be taken first: it computes; or it reads what nobody writes here ('ph': nothing has been written yet). -/
def early (ph : Bool) (s : St) (o : Oper) : Bool :=
  isPure o.op && (match o.op with
    | .load _ x => ph && (match aeval s x with
      | .pfro _ => true
      | .ptr id _ _ => s.R id
      | _ => false)
    | _ => true)

def isEarly (ph : Bool) (ops : List Oper) (s : St) (i : Nat) : Bool :=
  match ops[i]? with
  | some o => early ph s o
  | none => false

def allA : List Nat → (Nat → Prop) → Prop
  | [], _ => True
  | [i], f => f i
  | i :: r, f => f i ∧ allA r f

def stepA (Γ : Tab) (ops : List Oper) (i : Nat) (s : St) (next : St → Prop) : Prop :=
  match ops[i]? with
  | none => False
  | some o => gstep ops o s (fun s => ostep AC Γ o s next) (fun s => next (put s o.dst .any))

/-- A region that draws its order. -/
def anyA (Γ : Tab) (ops : List Oper) : Nat → Bool → List Bool → St → (St → Prop) → Prop
  | 0, _, listed, s, K =>
    match readyL ops listed with
    | [] => K s
    | _ => False
  | fuel + 1, ph, listed, s, K =>
    match readyL ops listed with
    | [] => K s
    | r :: rs =>
      match (r :: rs).find? (isEarly ph ops s) with
      | some i => stepA AC Γ ops i s (fun s => anyA Γ ops fuel ph (listed.set i true) s K)
      | none => allA (r :: rs) (fun i => stepA AC Γ ops i s (fun s => anyA Γ ops fuel false (listed.set i true) s K))

/-- 'W': the objects that are only read in this region; 'G': what holds behind it, whatever the order. -/
def DrawAxR (f : St → (St → Prop) → Prop) (K : St → Prop) (s : St) : Prop :=
  ∃ (W : Nat → Bool) (G : St → Prop), f { s with R := W } G ∧ ∀ s', G s' → K { s' with R := s.R }
@[reducible] noncomputable def DrawAx (f : St → (St → Prop) → Prop) (K : St → Prop) (s : St) : Prop := opq DrawAxR f K s
theorem o_DrawAx (f : St → (St → Prop) → Prop) (K : St → Prop) (s : St) : DrawAx f K s = ∃ (W : Nat → Bool) (G : St → Prop), f { s with R := W } G ∧ ∀ s', G s' → K { s' with R := s.R } := by
  show opq DrawAxR f K s = _; rw [opq_eq]; rfl
theorem DrawAx.of {f : St → (St → Prop) → Prop} {K : St → Prop} {s : St} (W : Nat → Bool) (G : St → Prop) (h : f { s with R := W } G) (k : ∀ s', G s' → K { s' with R := s.R }) : DrawAx f K s := by
  rw [o_DrawAx]; exact ⟨W, G, h, k⟩

/-- How code ends. -/
inductive Ex where
  | normal
  | exit (id : Nat)
  | ret

def thenX (f : St → Prop) (K : Ex → St → Prop) : Ex → St → Prop
  | .normal, s => f s
  | e, s => K e s

def blockX (id : Nat) (K : Ex → St → Prop) : Ex → St → Prop
  | .exit i, s => if i = id then K .normal s else K (.exit i) s
  | e, s => K e s

/-- What is told by s is told by s', too. -/
def Le (s s' : St) : Prop := ∀ c a w, Tells c s a w → Tells c s' a w

/-- Behind a round: smaller, and told again. -/
def BackR {X : Type} (st : X → St) (μ : X → Nat) (inv : X → Prop) (x : X) (s : St) : Prop := ∃ x', μ x' < μ x ∧ inv x' ∧ Le s (st x')
@[reducible] noncomputable def Back {X : Type} (st : X → St) (μ : X → Nat) (inv : X → Prop) (x : X) (s : St) : Prop := opq (@BackR X) st μ inv x s
theorem o_Back {X : Type} (st : X → St) (μ : X → Nat) (inv : X → Prop) (x : X) (s : St) : Back st μ inv x s = ∃ x', μ x' < μ x ∧ inv x' ∧ Le s (st x') := by show opq (@BackR X) st μ inv x s = _; rw [opq_eq]; rfl
theorem Back.of {X : Type} {st : X → St} {μ : X → Nat} {inv : X → Prop} {x : X} {s : St} (x' : X) (h1 : μ x' < μ x) (h2 : inv x') (h3 : Le s (st x')) : Back st μ inv x s := by
  rw [o_Back]; exact ⟨x', h1, h2, h3⟩

/-- A loop, by what holds at its head. -/
def LoopAxR (body : (Ex → St → Prop) → St → Prop) (K : Ex → St → Prop) (s : St) : Prop :=
  ∃ (X : Type) (st : X → St) (μ : X → Nat) (inv : X → Prop), (∃ x, inv x ∧ Le s (st x)) ∧ ∀ x, inv x → body (thenX (Back st μ inv x) K) (st x)
@[reducible] noncomputable def LoopAx (body : (Ex → St → Prop) → St → Prop) (K : Ex → St → Prop) (s : St) : Prop := opq LoopAxR body K s
theorem o_LoopAx (body : (Ex → St → Prop) → St → Prop) (K : Ex → St → Prop) (s : St) : LoopAx body K s =
  ∃ (X : Type) (st : X → St) (μ : X → Nat) (inv : X → Prop), (∃ x, inv x ∧ Le s (st x)) ∧ ∀ x, inv x → body (thenX (Back st μ inv x) K) (st x) := by
  show opq LoopAxR body K s = _; rw [opq_eq]; rfl

def ax (Γ : Tab) : Code → (Ex → St → Prop) → St → Prop
  | .skip, K, s => K .normal s
  | .label _, K, s => K .normal s
  | .region _ ops dr, K, s =>
    match dr with
    | true => DrawAx (fun s G => anyA AC Γ ops.toList ops.toList.length true (List.replicate ops.toList.length false) s G) (K .normal) s
    | false => runL AC Γ ops.toList ops.toList s (K .normal)
  | .seq a b, K, s => ax Γ a (thenX (ax Γ b K) K) s
  | .cond c a b, K, s =>
    match aeval s c with
    | .val (.bool t) => bcase t (fun _ => ax Γ a K s) (fun _ => ax Γ b K s)
    | _ => False
  | .block id c, K, s => ax Γ c (blockX id K) s
  | .loop c, K, s => LoopAx (ax Γ c) K s
  | .exit id, K, s => K (.exit id) s
  | .ret, K, s => K .ret s
  | _, _, _ => False

end Go.Am
end
section
set_option linter.all false
namespace Go.Am

/-- A zero cell. -/
inductive Zc : A → Value → Prop
  | val {v} : v.oneCell' = true → Zc (.val v) v
  | emp : Zc .emp (.slice none 0 0)
inductive Zs : List A → List Value → Prop
  | nil : Zs [] []
  | cons {a v l vs} : Zc a v → Zs l vs → Zs (a :: l) (v :: vs)

theorem Zs.length {l vs} (h : Zs l vs) : l.length = vs.length := by
  induction h with
  | nil => rfl
  | cons _ _ ih => simp [ih]

def dAgg : TypeDesc → Bool
  | .struct _ | .array .. => true
  | _ => false

def DescOk (P : Program) (ti : TI) : TypeDesc → Prop
  | .struct fields => ti.agg = true ∧ ti.sub = none ∧ ti.int = none ∧ ti.isb = false ∧ ti.fs.length = fields.size ∧
      ∀ (k : Nat) f, fields[k]? = some f → ∃ j e, P.info? f.type = some j ∧ P.underlying f.type = some e ∧ ti.fs[k]? = some (f.offset, j.size, dAgg e)
  | .array n e => ti.agg = true ∧ ti.sub = some (e, n) ∧ ti.fs = [] ∧ ti.int = none ∧ ti.isb = false
  | .slice e => ti.agg = false ∧ ti.sub = some (e, 0) ∧ ti.fs = [] ∧ ti.int = none ∧ ti.isb = false
  | .int k => ti.agg = false ∧ ti.sub = none ∧ ti.fs = [] ∧ ti.int = some k ∧ ti.isb = false
  | .bool => ti.agg = false ∧ ti.sub = none ∧ ti.fs = [] ∧ ti.int = none ∧ ti.isb = true
  | _ => ti.agg = false ∧ ti.sub = none ∧ ti.fs = [] ∧ ti.int = none ∧ ti.isb = false

/-- What the table says of a type is so. -/
structure TIok (P : Program) (t : TypeId) (ti : TI) where
  i : TypeInfo
  d : TypeDesc
  info : P.info? t = some i
  und : P.underlying t = some d
  sz : i.size = ti.sz
  bytes : i.bytes = ti.bytes
  z : Value
  zero : i.zero = some z
  zs : Zs ti.zero z.cells.toList
  zsz : ti.zero.length = ti.sz
  desc : DescOk P ti d
  eqi : ti.eqi = true → ∀ (xs ys : List Int) (w : World), xs.length = ti.sz → ys.length = ti.sz →
    (Op.equal t (.agg (xs.map (Value.int .i64)).toArray) (.agg (ys.map (Value.int .i64)).toArray)).run P w = .ok (decide (xs = ys)) w ∧
    P.eqGuardType P.depth t = false

def TabOk (P : Program) (Γ : Tab) : Prop := ∀ t ti, Γ t = some ti → Nonempty (TIok P t ti)

section
variable {P : Program} {Γ : Tab} {N : Bs} {β : Nat → Option Loc}

theorem ofConst_V (w : World) (v : Value) : V w N β (ofConst v) v := by
  have one : ∀ u : Value, u.oneCell' = true → V w N β (.val u) u := fun u h => .clo (.val (F := fun _ => False) h (fun _ => id)) (fun _ => id)
  unfold ofConst
  split
  · exact .clo (.emp (F := fun _ => False) (fun _ => id)) (fun _ => id)
  · exact .any
  · exact .any
  · rename_i h1 h2 h3
    refine one _ ?_
    cases v <;> first | rfl | (exfalso; first | exact h2 _ rfl | exact h3 _ rfl)

theorem aeval_V {s : St} {a : Act} {w : World} (h : Env s N β a w) (x : Operand) : V w N β (aeval s x) (a.eval x) := by
  cases x with
  | tmp t => exact h t
  | const v => exact ofConst_V w v
  | global g => exact .any
  | func f => exact .clo (.val (F := fun _ => False) rfl (fun _ => id)) (fun _ => id)

theorem V.val_eq {w : World} {v u : Value} (h : V w N β (.val v) u) : u = v := by
  cases h with
  | clo h _ => cases h; rfl

theorem V.val_one {w : World} {v u : Value} (h : V w N β (.val v) u) : v.oneCell' = true := by
  cases h with
  | clo h _ => cases h; assumption

theorem V.ofVal {w : World} {v : Value} (h : v.oneCell' = true) : V w N β (.val v) v := .clo (.val (F := fun _ => False) h (fun _ => id)) (fun _ => id)

theorem V.agg_eq {w : World} {l : List A} {u : Value} (h : V w N β (.agg l) u) : ∃ cs : Array Value, u = .agg cs ∧ Vs w N β l cs.toList := by
  cases h with
  | clo h _ => cases h
  | agg h => exact ⟨_, rfl, h⟩

theorem V.tup_eq {w : World} {l : List A} {u : Value} (h : V w N β (.tup l) u) : ∃ cs : Array Value, u = .tuple cs ∧ Vs w N β l cs.toList := by
  cases h with
  | clo h _ => cases h
  | tup h => exact ⟨_, rfl, h⟩

theorem V.ptr_eq {w : World} {id i j : Nat} {u : Value} (h : V w N β (.ptr id i j) u) : ∃ L, β id = some L ∧ L.nul = false ∧ u = .pointer (some ⟨L.b, L.off + i * L.sz + j, none⟩) := by
  cases h with
  | clo h _ => cases h
  | ptr h1 h2 => exact ⟨_, h1, h2, rfl⟩

theorem V.sl_eq {w : World} {id off n : Nat} {u : Value} (h : V w N β (.sl id off n) u) :
    ∃ L a c, β id = some L ∧ u = .slice a n c ∧ off + c ≤ L.cap ∧ n ≤ c ∧ (c = 0 ∨ (L.nul = false ∧ a = some ⟨L.b, L.off + off * L.sz, none⟩)) := by
  cases h with
  | clo h _ => cases h
  | sl h1 h2 h3 h4 => exact ⟨_, _, _, h1, rfl, h2, h3, h4⟩

theorem V.pfro_eq {w : World} {l : List A} {u : Value} (h : V w N β (.pfro l) u) :
    ∃ b off vs F, u = .pointer (some ⟨b, off, none⟩) ∧ nob F ∧ ¬ N b ∧ b < w.heap.size ∧ Ks w N l vs F ∧ (∀ j, j < l.length → w.cell? ⟨b, off + j, none⟩ = vs[j]?) := by
  cases h with
  | clo h _ => cases h
  | pfro h0 h1 h2 h3 h4 => exact ⟨_, _, _, _, rfl, h0, h1, h2, h3, h4⟩

theorem V.emp_eq {w : World} {u : Value} (h : V w N β .emp u) : ∃ a, u = .slice a 0 0 := by
  cases h with
  | clo h _ => cases h; exact ⟨_, rfl⟩

theorem V.fro_eq {w : World} {sz n : Nat} {g : Nat → List A} {u : Value} (h : V w N β (.slc false sz n g) u) : (n = 0 ∧ ∃ a c, u = .slice a 0 c) ∨
    ∃ b off c vs F, u = .slice (some ⟨b, off, none⟩) n c ∧ nob F ∧ ¬ N b ∧ b < w.heap.size ∧ n ≤ c ∧ Row w b off sz n vs ∧ (∀ i, i < n → Ks w N (g i) (vs i) F) := by
  cases h with
  | clo h _ =>
    cases h with
    | fro0 h0 => exact .inl ⟨rfl, _, _, rfl⟩
    | fro h0 h1 h2 h3 h4 h5 => exact .inr ⟨_, _, _, _, _, rfl, h0, h1, h2, h3, h4, h5⟩

theorem V.len_eq {w : World} {x : A} {n : Nat} {u : Value} (h : V w N β x u) (hl : lenA x = some n) : ∃ a c, u = .slice a n c ∧ n ≤ c := by
  unfold lenA at hl
  split at hl
  · cases hl; obtain ⟨a, rfl⟩ := h.emp_eq; exact ⟨a, 0, rfl, Nat.le_refl _⟩
  · cases hl; obtain ⟨L, a, c, _, rfl, _, hn, _⟩ := h.sl_eq; exact ⟨a, c, rfl, hn⟩
  · cases hl
    rcases h.fro_eq with ⟨rfl, a, c, rfl⟩ | ⟨b, off, c, vs, F, rfl, _, _, _, hn, _⟩
    · exact ⟨a, c, rfl, Nat.zero_le _⟩
    · exact ⟨_, c, rfl, hn⟩
  · cases hl

theorem Vs.length {w : World} {l : List A} {vs : List Value} (h : Vs w N β l vs) : l.length = vs.length := by
  induction l generalizing vs with
  | nil => cases h; rfl
  | cons a l ih => cases h with | cons _ h => simp [ih h]

theorem Ks.length {w : World} {l : List A} {vs : List Value} {F} (h : Ks w N l vs F) : l.length = vs.length := by
  induction l generalizing vs F with
  | nil => cases h; rfl
  | cons a l ih => cases h with | cons _ h => simp [ih h]

theorem Cs.length {w : World} {l : List A} {vs : List Value} {F} (h : Cs w N β l vs F) : l.length = vs.length := by
  induction l generalizing vs F with
  | nil => cases h; rfl
  | cons a l ih => cases h with | cons _ h => simp [ih h]

theorem Vs.get {w : World} {l : List A} {vs : List Value} (h : Vs w N β l vs) {i : Nat} {a : A} (ha : l[i]? = some a) : ∃ v, vs[i]? = some v ∧ V w N β a v := by
  induction l generalizing vs i with
  | nil => simp at ha
  | cons x l ih =>
    cases h with
    | cons h1 h2 =>
      cases i with
      | zero => simp at ha; subst ha; exact ⟨_, rfl, h1⟩
      | succ i => simp at ha; simpa using ih h2 ha

theorem Vs.drop {w : World} {l : List A} {vs : List Value} (h : Vs w N β l vs) : ∀ k, Vs w N β (l.drop k) (vs.drop k) := by
  induction l generalizing vs with
  | nil => cases h; intro k; simp; exact .nil
  | cons x l ih =>
    cases h with
    | cons h1 h2 =>
      intro k
      cases k with
      | zero => exact .cons h1 h2
      | succ k => simpa using ih h2 k

theorem Vs.take {w : World} {l : List A} {vs : List Value} (h : Vs w N β l vs) : ∀ k, Vs w N β (l.take k) (vs.take k) := by
  induction l generalizing vs with
  | nil => cases h; intro k; simp; exact .nil
  | cons x l ih =>
    cases h with
    | cons h1 h2 =>
      intro k
      cases k with
      | zero => simp; exact .nil
      | succ k => simp; exact .cons h1 (ih h2 k)

theorem Vs.append {w : World} {l m : List A} {vs us : List Value} (h : Vs w N β l vs) (k : Vs w N β m us) : Vs w N β (l ++ m) (vs ++ us) := by
  induction l generalizing vs with
  | nil => cases h; simpa using k
  | cons x l ih => cases h with | cons h1 h2 => exact .cons h1 (ih h2)

/-- Cells of one element that owns nothing, as values. -/
theorem Ks.vs {w : World} {l : List A} {vs : List Value} {F} (h : Ks w N l vs F) (h0 : nob F) : Vs w N β l vs := by
  induction l generalizing vs F with
  | nil => cases h; exact .nil
  | cons a l ih =>
    cases h with
    | cons h1 h2 h3 h4 =>
      exact .cons (.clo h1 (fun x hx => h0 x ((h4 x).2 (.inl hx)))) (ih h2 (fun x hx => h0 x ((h4 x).2 (.inr hx))))

theorem Ks.drop {w : World} {l : List A} {vs : List Value} {F} (h : Ks w N l vs F) (h0 : nob F) : ∀ k, Ks w N (l.drop k) (vs.drop k) F := by
  induction l generalizing vs F with
  | nil => cases h; intro k; simp; exact .nil h0
  | cons x l ih =>
    cases h with
    | cons h1 h2 h3 h4 =>
      intro k
      cases k with
      | zero => exact .cons h1 h2 h3 h4
      | succ k =>
        have h00 := fun x hx => h0 x ((h4 x).2 (.inr hx))
        have := ih h2 h00 k
        refine Ks.stb (Stb.refl w N) (?_ : Ks w N _ _ _) (fun _ _ => rfl)
        simp only [List.drop_succ_cons]
        have e : ∀ {l vs F1 F2}, Ks w N l vs F1 → nob F1 → nob F2 → Ks w N l vs F2 := by
          intro l
          induction l with
          | nil => intro vs F1 F2 h _ h2; cases h; exact .nil h2
          | cons a l ih =>
            intro vs F1 F2 h k1 k2
            cases h with
            | cons m1 m2 m3 m4 => exact .cons m1 m2 m3 (fun x => ⟨fun hx => absurd hx (k2 x), fun hx => absurd ((m4 x).2 hx) (k1 x)⟩)
        exact e this h00 h0

/-- A cell of an object that owns nothing, as a value. -/
theorem Cl.v {w : World} {a : A} {v : Value} {F} (h : Cl w N β a v F) (h0 : ∀ sz n g, a ≠ .slc true sz n g) : V w N β a v := by
  rcases h with h | ⟨_, h, _⟩
  · cases h with
    | any h1 h2 => exact .any
    | val h1 h2 => exact .clo (.val h1 h2) h2
    | emp h => exact .clo (.emp h) h
    | fro0 h => exact .clo (.fro0 h) h
    | fro k0 k1 k2 k3 k4 k5 => exact .clo (.fro k0 k1 k2 k3 k4 k5) k0
    | own0 h => exact absurd rfl (h0 _ _ _)
    | own => exact absurd rfl (h0 _ _ _)
  · exact h

theorem Cs.vs {w : World} {l : List A} {vs : List Value} {F} (h : Cs w N β l vs F) (h0 : noOwn l = true) : Vs w N β l vs := by
  induction l generalizing vs F with
  | nil => cases h; exact .nil
  | cons a l ih =>
    cases h with
    | cons h1 h2 h3 h4 =>
      have ha : ∀ sz n g, a ≠ .slc true sz n g := by
        intro sz n g e; subst e; simp [noOwn] at h0
      have hl : noOwn l = true := by
        cases a <;> first | exact h0 | (rename_i o _ _ _; cases o <;> first | exact h0 | (simp [noOwn] at h0))
      exact .cons (h1.v ha) (ih h2 hl)

theorem Cl.one {w : World} {a : A} {v : Value} {F} (h : Cl w N β a v F) : v.oneCell' = true := by
  rcases h with h | ⟨_, _, h⟩
  · cases h <;> first | assumption | rfl
  · exact h

theorem Cs.get {w : World} {l : List A} {vs : List Value} {F} (h : Cs w N β l vs F) {i : Nat} {a : A} (ha : l[i]? = some a) : ∃ v Fi, vs[i]? = some v ∧ Cl w N β a v Fi ∧ ∀ x, Fi x → F x := by
  induction l generalizing vs i F with
  | nil => simp at ha
  | cons x l ih =>
    cases h with
    | cons h1 h2 h3 h4 =>
      cases i with
      | zero => simp at ha; subst ha; exact ⟨_, _, rfl, h1, fun x hx => (h4 x).2 (.inl hx)⟩
      | succ i =>
        simp at ha
        obtain ⟨v, Fi, e1, e2, e3⟩ := ih h2 ha
        exact ⟨v, Fi, by simpa using e1, e2, fun x hx => (h4 x).2 (.inr (e3 x hx))⟩

theorem Cs.drop {w : World} {l : List A} {vs : List Value} {F} (h : Cs w N β l vs F) : ∀ k, ∃ F', Cs w N β (l.drop k) (vs.drop k) F' ∧ ∀ x, F' x → F x := by
  induction l generalizing vs F with
  | nil => intro k; cases h with | nil h => exact ⟨F, by simp; exact .nil h, fun _ h => h⟩
  | cons x l ih =>
    cases h with
    | cons h1 h2 h3 h4 =>
      intro k
      cases k with
      | zero => exact ⟨_, .cons h1 h2 h3 h4, fun _ h => h⟩
      | succ k =>
        obtain ⟨F', e1, e2⟩ := ih h2 k
        exact ⟨F', by simpa using e1, fun x hx => (h4 x).2 (.inr (e2 x hx))⟩

theorem Cs.take {w : World} {l : List A} {vs : List Value} {F} (h : Cs w N β l vs F) : ∀ k, ∃ F', Cs w N β (l.take k) (vs.take k) F' ∧ ∀ x, F' x → F x := by
  induction l generalizing vs F with
  | nil => intro k; cases h with | nil h => exact ⟨F, by simp; exact .nil h, fun _ h => h⟩
  | cons x l ih =>
    cases h with
    | cons h1 h2 h3 h4 =>
      intro k
      cases k with
      | zero => exact ⟨fun _ => False, by simp; exact .nil (fun _ => id), fun _ h => h.elim⟩
      | succ k =>
        obtain ⟨F', e1, e2⟩ := ih h2 k
        exact ⟨fun x => _ ∨ F' x, .cons h1 e1 (fun x hx hy => h3 x hx (e2 x hy)) (fun x => Iff.rfl), fun x hx => (h4 x).2 (hx.imp id (e2 x))⟩

end
end Go.Am
end
section
set_option linter.all false
namespace Go.Am
section
variable {P : Program} {Γ : Tab} {c : Ctx} {s : St} {β : Nat → Option Loc} {φ : Nat → Bs} {a : Act} {w : World}

/-- What an operation reads is in w' as in w. -/
def Alike (a : Act) (o : Oper) (w w' : World) : Prop := ∀ t p b off, o.op = .load t p → a.eval p = .pointer (some ⟨b, off, none⟩) → w'.heap[b]? = w.heap[b]?

theorem Alike.refl (a : Act) (o : Oper) (w : World) : Alike a o w w := fun _ _ _ _ _ _ => rfl

/-- An operation yields a value that r tells, in every world where what it reads is the same. -/
def Yld (P : Program) (N : Bs) (β : Nat → Option Loc) (a : Act) (w : World) (o : Oper) (r : A) : Prop :=
  ∃ v, (∀ w', Alike a o w w' → (execOp a.eval o).run P w' = .ok (.value v) w') ∧ V w N β r v

variable {N : Bs}

theorem run_value {S : Sem Value} {v : Value} (h : S.run P w = .ok v w) : (do pure (Next.value (← S)) : Sem Next).run P w = .ok (.value v) w := by
  simp [h]

theorem info_run {t : TypeId} {i : TypeInfo} (h : P.info? t = some i) (w : World) : (typeInfo t).run P w = .ok i w := by
  simp [typeInfo, h]
theorem size_run {t : TypeId} {i : TypeInfo} (h : P.info? t = some i) (w : World) : (sizeOf t).run P w = .ok i.size w := by
  simp [sizeOf, typeInfo, h]
theorem isAgg_run {t : TypeId} {d : TypeDesc} (h : P.underlying t = some d) (w : World) : (isAgg t).run P w = .ok (dAgg d) w := by
  unfold isAgg
  rw [Sem.run_bind, run_underlying h w]
  cases d <;> rfl

theorem DescOk.agg {ti : TI} {d : TypeDesc} (h : DescOk P ti d) : dAgg d = ti.agg := by
  cases d <;> exact h.1.symm
theorem TIok.agg_eq {t : TypeId} {ti : TI} (h : TIok P t ti) : dAgg h.d = ti.agg := h.desc.agg

/-- Loading sz cells that are there. -/
theorem load_agg {t : TypeId} {ti : TI} (h : TIok P t ti) (ha : ti.agg = true) {b off : Nat} {cs : List Value} (hl : cs.length = ti.sz)
    (hc : ∀ j, j < ti.sz → w.cell? ⟨b, off + j, none⟩ = cs[j]?) : (loadVar t ⟨b, off, none⟩).run P w = .ok (.agg cs.toArray) w := by
  have hcells := run_loadCells_list (P := P) w ⟨b, off, none⟩ cs (fun j v hv => by
    have hj : j < cs.length := by
      rcases Nat.lt_or_ge j cs.length with h' | h'
      · exact h'
      · simp [List.getElem?_eq_none h'] at hv
    have e : (⟨b, off, none⟩ : Addr).add j = ⟨b, off + j, none⟩ := by unfold Addr.add; split <;> simp_all
    rw [e, hc j (hl ▸ hj), hv])
  have h1 := isAgg_run h.und w
  rw [h.agg_eq, ha] at h1
  rw [hl] at hcells
  simp [loadVar, h1, size_run h.info w, h.sz, hcells]

theorem load_one {t : TypeId} {ti : TI} (h : TIok P t ti) (ha : ti.agg = false) {ad : Addr} {v : Value}
    (hc : w.cell? ad = some v) : (loadVar t ad).run P w = .ok v w := by
  have h1 := isAgg_run h.und w
  rw [h.agg_eq, ha] at h1
  simp [loadVar, h1, hc]

theorem Sem.run_ok_bind {α β : Type} {x : Sem α} {f : α → Sem β} {u : α} {w' : World} (h : x.run P w = .ok u w') : (x >>= f).run P w = (f u).run P w' := by
  rw [Sem.run_bind, h]; rfl

theorem exec_move {o : Oper} {x : Operand} (ho : o.op = .move x ∨ o.op = .assign x) (hE : Env s N β a w) : Yld P N β a w o (aeval s x) := by
  refine ⟨a.eval x, ?_, aeval_V hE x⟩
  rcases ho with ho | ho <;> simp [execOp, ho]

theorem exec_pick {o : Oper} {x y z : Operand} (ho : o.op = .pick x y z) (hE : Env s N β a w) {t : Bool} (hx : aeval s x = .val (.bool t)) :
    Yld P N β a w o (bif t then aeval s y else aeval s z) := by
  have h := aeval_V hE x
  rw [hx] at h
  have e := h.val_eq
  refine ⟨if t then a.eval y else a.eval z, by simp [execOp, ho, e, asBool], ?_⟩
  cases t
  · exact aeval_V hE z
  · exact aeval_V hE y

theorem exec_nilCheck {o : Oper} {x : Operand} (ho : o.op = .nilCheck x) (hE : Env s N β a w) {r : A} (hx : aeval s x = r) (hr : (∃ id i j, r = .ptr id i j) ∨ ∃ l, r = .pfro l) :
    Yld P N β a w o r := by
  have h := aeval_V hE x
  rw [hx] at h
  rcases hr with ⟨id, i, j, rfl⟩ | ⟨l, rfl⟩
  · obtain ⟨L, h1, h2, e⟩ := h.ptr_eq
    exact ⟨_, by simp [execOp, ho, e], .ptr h1 h2⟩
  · obtain ⟨b, off, vs, F, e, h1, h2, h3, h4, h5⟩ := h.pfro_eq
    exact ⟨_, by simp [execOp, ho, e], .pfro h1 h2 h3 h4 h5⟩

theorem asI_val {s : St} {x : Operand} {n : Int} (h : asI s x = some n) : ∃ k, aeval s x = .val (.int k n) := by
  unfold asI at h
  split at h
  · rename_i k m hm; cases h; exact ⟨k, hm⟩
  · cases h

theorem V.int_eq {N : Bs} {k : IntKind} {n : Int} {u : Value} (h : V w N β (.val (.int k n)) u) : u = .int k n := h.val_eq

theorem binI_sound {op : BinOp} {k : IntKind} {x y : Int} {C : Prop} {r : A} (h : binI op k x y = some (C, r)) (hC : C) {t : TypeId} (hs : op ≠ .shl) (hr : op ≠ .shr) :
    ∃ v, (∀ w, (binOp op t (.int k x) (.int k y)).run P w = .ok v w) ∧ v.oneCell' = true ∧ r = .val v := by
  cases op <;> simp only [binI, Option.some.injEq, Prod.mk.injEq, reduceCtorEq] at h <;>
    first
      | (exact absurd rfl hs)
      | (exact absurd rfl hr)
      | (obtain ⟨rfl, rfl⟩ := h
         simp only [o_nz] at hC
         refine ⟨_, ?_, rfl, rfl⟩
         simp [binOp]
         rw [Op.intDiv, if_neg hC]
         simp [o_iquo, o_irem])
      | (obtain ⟨rfl, rfl⟩ := h
         exact ⟨_, by simp [binOp, Op.intArith, Op.intCmp, Op.intBits, o_iadd, o_isub, o_imul, o_iband, o_ibor, o_ibxor, o_ieq, o_ine, o_ilt, o_ile, o_igt, o_ige]; try rfl, rfl, rfl⟩)

end
end Go.Am
end
section
set_option linter.all false
namespace Go.Am
section
variable {P : Program} {Γ : Tab} {c : Ctx} {s : St} {β : Nat → Option Loc} {φ : Nat → Bs} {a : Act} {w : World} {N : Bs}

theorem eqInts_some : ∀ {l m : List A} {r : Bool}, eqInts l m = some r → ∃ xs ys : List Int, l = xs.map (fun n => .val (.int .i64 n)) ∧ m = ys.map (fun n => .val (.int .i64 n)) ∧ r = decide (xs = ys)
  | [], [], r, h => by simp [eqInts] at h; exact ⟨[], [], rfl, rfl, by simp [h]⟩
  | x :: l, y :: m, r, h => by
    unfold eqInts at h
    split at h
    · rename_i h1 h2; cases h1
    · rename_i a l' b m' h1 h2
      cases h1; cases h2
      cases e : eqInts l m with
      | none => simp [e] at h
      | some r' =>
        simp [e] at h
        obtain ⟨xs, ys, rfl, rfl, rfl⟩ := eqInts_some e
        refine ⟨a :: xs, b :: ys, rfl, rfl, ?_⟩
        rw [← h]
        rw [Bool.eq_iff_iff]; simp [o_ieq]
    · cases h
  | [], y :: m, r, h => by simp [eqInts] at h
  | x :: l, [], r, h => by simp [eqInts] at h

theorem Vs.ints : ∀ {xs : List Int} {vs : List Value}, Vs w N β (xs.map fun n => .val (.int .i64 n)) vs → vs = xs.map (Value.int .i64)
  | [], _, h => by cases h; rfl
  | x :: xs, _, h => by
    cases h with
    | cons h1 h2 => rw [h1.val_eq, Vs.ints h2]; rfl

theorem guard_ints {op : BinOp} {t : TypeId} {x y : Operand} {k k' : IntKind} {m n : Int} : (eqGuard op t x y (.int k m) (.int k' n)).run P w = .ok () w := by
  cases op <;> rfl

theorem guard_bools {op : BinOp} {t : TypeId} {x y : Operand} {m n : Bool} : (eqGuard op t x y (.bool m) (.bool n)).run P w = .ok () w := by
  cases op <;> rfl

theorem guard_aggs {op : BinOp} {t : TypeId} {x y : Operand} {m n : Array Value} (h : P.eqGuardType P.depth t = false) : (eqGuard op t x y (.agg m) (.agg n)).run P w = .ok () w := by
  cases op <;> first | rfl | (simp [eqGuard, h])

theorem exec_bin {o : Oper} {op : BinOp} {t : TypeId} {x y : Operand} {ty : TypeId} (ho : o.op = .binOp op t x y ty) {v : Value}
    (h1 : ∀ w, (eqGuard op t x y (a.eval x) (a.eval y)).run P w = .ok () w) (h2 : ∀ w, (binOp op t (a.eval x) (a.eval y)).run P w = .ok v w) :
    ∀ w', Alike a o w w' → (execOp a.eval o).run P w' = .ok (.value v) w' := by
  intro w' _
  simp [execOp, ho, h1 w', h2 w']

theorem equalIn_bool (d : Nat) {t : TypeId} (hu : P.underlying t = some .bool) (p q : Bool) : (Op.equalIn (d + 1) t (.bool p) (.bool q)).run P w = .ok (p == q) w := by
  simp only [Op.equalIn, Sem.run_bind, run_underlying hu, Result.andThen_ok, Sem.run_pure]

theorem exec_binOp (hΓ : TabOk P Γ) {o : Oper} {op : BinOp} {t : TypeId} {x y : Operand} {ty : TypeId} (ho : o.op = .binOp op t x y ty) (hE : Env s N β a w) {C : Prop} {r : A}
    (h : pev Γ o s = some (C, r)) (hC : C) : Yld P N β a w o r := by
  have hx := aeval_V hE x
  have hy := aeval_V hE y
  unfold pev at h
  simp only [ho] at h
  split at h
  · rename_i k m k' n e1 e2
    rw [e1] at hx; rw [e2] at hy
    have vx := hx.val_eq
    have vy := hy.val_eq
    have main : ∀ (_ : op ≠ .shl) (_ : op ≠ .shr) (_ : (if k = k' then binI op k m n else none) = some (C, r)), Yld P N β a w o r := by
      intro hs hr h'
      split at h'
      · rename_i hk; subst hk
        obtain ⟨v, hv, hone, rfl⟩ := binI_sound (P := P) (t := t) h' hC hs hr
        exact ⟨v, exec_bin ho (by rw [vx, vy]; exact fun _ => guard_ints) (by rw [vx, vy]; exact hv), V.ofVal hone⟩
      · cases h'
    have sh : ∀ (_ : op = .shl ∨ op = .shr) (hn : ¬ n < 0) (v : Value) (_ : ∀ w, (Op.shift op k m k' n).run P w = .ok v w) (_ : v.oneCell' = true) (_ : r = .val v), Yld P N β a w o r := by
      intro hop hn v hv hone hr
      subst hr
      refine ⟨v, exec_bin ho (by rw [vx, vy]; exact fun _ => guard_ints) (by rw [vx, vy]; rcases hop with rfl | rfl <;> simpa [binOp] using hv), V.ofVal hone⟩
    cases op with
    | shl =>
      simp only [Option.some.injEq, Prod.mk.injEq] at h
      obtain ⟨rfl, rfl⟩ := h
      simp only [o_pos] at hC
      exact sh (.inl rfl) (by omega) _ (by intro w; rw [Op.shift, if_neg (by omega)]; simp [o_ishl]) rfl rfl
    | shr =>
      simp only [Option.some.injEq, Prod.mk.injEq] at h
      obtain ⟨rfl, rfl⟩ := h
      simp only [o_pos] at hC
      exact sh (.inr rfl) (by omega) _ (by intro w; rw [Op.shift, if_neg (by omega)]; simp [o_ishr]) rfl rfl
    | _ => exact main (by simp) (by simp) h
  · rename_i p q e1 e2
    rw [e1] at hx; rw [e2] at hy
    have vx := hx.val_eq
    have vy := hy.val_eq
    have key : ∀ ti, Γ t = some ti → ti.isb = true → ∀ w, (Op.equal t (.bool p) (.bool q)).run P w = .ok (p == q) w := by
      intro ti ht hb w
      obtain ⟨k⟩ := hΓ t ti ht
      have hd : k.d = .bool := by
        have := k.desc
        cases hd : k.d <;> first | rfl | (rw [hd] at this; simp [DescOk, hb] at this)
      have hu := k.und
      rw [hd] at hu
      exact equalIn_bool 9999 hu p q
    split at h
    · rename_i ti ht
      split at h
      · rename_i hb
        simp only [Option.some.injEq, Prod.mk.injEq] at h
        obtain ⟨rfl, rfl⟩ := h
        refine ⟨.bool (beqb p q), exec_bin ho (by rw [vx, vy]; exact fun _ => guard_bools) (fun w => ?_), V.ofVal rfl⟩
        rw [vx, vy]; simp [binOp, key ti ht hb, o_beqb]
      · cases h
    · rename_i ti ht
      split at h
      · rename_i hb
        simp only [Option.some.injEq, Prod.mk.injEq] at h
        obtain ⟨rfl, rfl⟩ := h
        refine ⟨.bool (!(beqb p q)), exec_bin ho (by rw [vx, vy]; exact fun _ => guard_bools) (fun w => ?_), V.ofVal rfl⟩
        rw [vx, vy]; simp [binOp, key ti ht hb, o_beqb]
      · cases h
    · cases h
  · rename_i l m e1 e2
    rw [e1] at hx; rw [e2] at hy
    obtain ⟨cs, ex, vx⟩ := hx.agg_eq
    obtain ⟨ds, ey, vy⟩ := hy.agg_eq
    split at h
    · rename_i ti ht
      split at h
      · rename_i hc
        obtain ⟨k⟩ := hΓ t ti ht
        have key : ∀ r', eqInts l m = some r' → (∀ w, (Op.equal t (.agg cs) (.agg ds)).run P w = .ok r' w) ∧ P.eqGuardType P.depth t = false := by
          intro r' hr'
          obtain ⟨xs, ys, rfl, rfl, rfl⟩ := eqInts_some hr'
          have := fun w => k.eqi hc.1 xs ys w (by simpa using hc.2.1.symm) (by simpa using hc.2.2.symm)
          have e1 := vx.ints
          have e2 := vy.ints
          have f1 : cs = (xs.map (Value.int .i64)).toArray := by rw [← e1]
          have f2 : ds = (ys.map (Value.int .i64)).toArray := by rw [← e2]
          rw [f1, f2]
          exact ⟨fun w => (this w).1, (this w).2⟩
        split at h
        · rename_i r' hr'
          simp only [Option.some.injEq, Prod.mk.injEq] at h
          obtain ⟨rfl, rfl⟩ := h
          obtain ⟨h1, h2⟩ := key r' hr'
          refine ⟨.bool r', exec_bin ho (by rw [ex, ey]; exact fun _ => guard_aggs h2) (fun w => ?_), V.ofVal rfl⟩
          rw [ex, ey]; simp [binOp, h1]
        · rename_i r' hr'
          simp only [Option.some.injEq, Prod.mk.injEq] at h
          obtain ⟨rfl, rfl⟩ := h
          obtain ⟨h1, h2⟩ := key r' hr'
          refine ⟨.bool (!r'), exec_bin ho (by rw [ex, ey]; exact fun _ => guard_aggs h2) (fun w => ?_), V.ofVal rfl⟩
          rw [ex, ey]; simp [binOp, h1]
        · cases h
      · cases h
    · cases h
  · cases h

theorem exec_unOp {o : Oper} {op : UnOp} {t : TypeId} {x : Operand} (ho : o.op = .unOp op t x) (hE : Env s N β a w) {C : Prop} {r : A} (h : pev Γ o s = some (C, r)) : Yld P N β a w o r := by
  have hx := aeval_V hE x
  unfold pev at h
  simp only [ho] at h
  split at h
  · rename_i b e1
    rw [e1] at hx
    cases h
    exact ⟨.bool (!b), by simp [execOp, ho, hx.val_eq, Op.unary], V.ofVal rfl⟩
  · rename_i k n e1
    rw [e1] at hx
    cases h
    exact ⟨.int k (isub k 0 n), by simp [execOp, ho, hx.val_eq, Op.unary, Op.intArith, o_isub], V.ofVal rfl⟩
  · cases h

theorem TIok.int_und {t : TypeId} {ti : TI} (k : TIok P t ti) {i : IntKind} (h : ti.int = some i) : P.underlying t = some (.int i) := by
  have hd := k.desc
  have hu := k.und
  cases e : k.d <;> rw [e] at hd hu <;> simp [DescOk, h] at hd
  rw [hu, hd.2.2.2.1]

theorem exec_convert (hΓ : TabOk P Γ) {o : Oper} {st dt : TypeId} {x : Operand} (ho : o.op = .convert st dt x) (hE : Env s N β a w) {C : Prop} {r : A} (h : pev Γ o s = some (C, r))
    : Yld P N β a w o r := by
  have hx := aeval_V hE x
  unfold pev at h
  simp only [ho] at h
  split at h
  · rename_i ts ti k n hts ht e1
    rw [e1] at hx
    split at h
    · rename_i k' hk
      cases h
      obtain ⟨kk⟩ := hΓ dt ti ht
      obtain ⟨ks⟩ := hΓ st ts hts
      have hd := ks.und
      refine ⟨.int k' (iwrap k' n), ?_, V.ofVal rfl⟩
      simp [execOp, ho, hx.val_eq, convert, run_underlying hd, run_underlying (kk.int_und hk), Conv.intToInt, o_iwrap]
    · cases h
  · cases h

theorem Vs.map {l : List Operand} (hE : Env s N β a w) : Vs w N β (l.map (aeval s)) (l.map a.eval) := by
  induction l with
  | nil => exact .nil
  | cons x l ih => exact .cons (aeval_V hE x) ih

theorem exec_makeFunc {o : Oper} {f : Fn} {fi cp : Array Operand} (ho : o.op = .makeFunc f fi cp) (hE : Env s N β a w) {C : Prop} {r : A} (h : pev Γ o s = some (C, r)) : Yld P N β a w o r := by
  unfold pev at h
  simp only [ho] at h
  split at h
  · rename_i e
    cases h
    have e' : fi = #[] := by cases fi; simp_all
    subst e'
    refine ⟨.func f #[] (cp.map a.eval), by simp [execOp, ho, Instr.makeFunc], .fn ?_⟩
    rw [Array.toList_map]
    exact Vs.map hE
  · cases h

theorem exec_extract {o : Oper} {x : Operand} {i : Nat} (ho : o.op = .extract x i) (hE : Env s N β a w) {C : Prop} {r : A} (h : pev Γ o s = some (C, r)) : Yld P N β a w o r := by
  have hx := aeval_V hE x
  unfold pev at h
  simp only [ho] at h
  split at h
  · rename_i l e1
    rw [e1] at hx
    obtain ⟨cs, e, hv⟩ := hx.tup_eq
    split at h
    · rename_i b hb
      cases h
      obtain ⟨v, h1, h2⟩ := hv.get hb
      have h1' : cs[i]? = some v := by simpa using h1
      exact ⟨v, by simp [execOp, ho, e, Instr.extract, h1'], h2⟩
    · cases h
  · cases h

end
end Go.Am
end
section
set_option linter.all false
namespace Go.Am
section
variable {P : Program} {Γ : Tab} {c : Ctx} {s : St} {β : Nat → Option Loc} {φ : Nat → Bs} {a : Act} {w : World} {N : Bs}

theorem V.fro_mk {sz n : Nat} {g : Nat → List A} {b off cp : Nat} {vs F} (h0 : nob F) (h1 : ¬ N b) (h2 : b < w.heap.size) (h3 : n ≤ cp) (h4 : Row w b off sz n vs) (h5 : ∀ i, i < n → Ks w N (g i) (vs i) F) :
    V w N β (.slc false sz n g) (.slice (some ⟨b, off, none⟩) n cp) := .clo (.fro h0 h1 h2 h3 h4 h5) h0

/-- A slice of a slice, at numbers. -/
theorem slice_run {t e : TypeId} (hu : P.underlying t = some (.slice e)) {j : TypeInfo} (he : P.info? e = some j) (ad : Option Addr) (n cp : Nat) (lo hi : Option Value) (l h : Int)
    (hlo : (match lo with | some v => v = .int .i64 l ∨ ∃ k, v = .int k l | none => l = 0)) (hhi : (match hi with | some v => ∃ k, v = .int k h | none => h = n)) (h0 : 0 ≤ l) (h1 : l ≤ h) (h2 : h ≤ cp) :
    (Instr.sliceAt t (.slice ad n cp) lo hi none).run P w = .ok (.slice (if cp = l.toNat then ad else ad.map (·.add (l.toNat * j.size))) (h.toNat - l.toNat) (cp - l.toNat)) w := by
  have hlo' : ∀ v, lo = some v → ∃ k, v = .int k l := by
    rintro v rfl
    rcases hlo with rfl | h
    · exact ⟨_, rfl⟩
    · exact h
  have hhi' : ∀ v, hi = some v → ∃ k, v = .int k h := by rintro v rfl; exact hhi
  have hsz : (sizeOf e).run P w = .ok j.size w := by simp [sizeOf, typeInfo, he]
  have hb : ∀ (k : IntKind) (i : Int) (y : Nat) (code : BoundsCode), 0 ≤ i → i ≤ y → (Instr.sliceBound (.int k i) y code).run P w = .ok i.toNat w := by
    intro k i y code hi0 hi1
    simp [Instr.sliceBound, asIntOf, hi0, hi1]
  cases hi with
  | none =>
    have hh : h = n := hhi
    cases lo with
    | none =>
      have hl : l = 0 := hlo
      subst hl; subst hh
      simp [Instr.sliceAt, run_underlying hu, Instr.slice, Instr.sliceBounds, hsz]
    | some v =>
      obtain ⟨k, rfl⟩ := hlo' v rfl
      subst hh
      have := hb k l n .sliceB h0 h1
      simp [Instr.sliceAt, run_underlying hu, Instr.slice, Instr.sliceBounds, hsz, this]
  | some u =>
    obtain ⟨k', rfl⟩ := hhi' u rfl
    have e1 := hb k' h cp .sliceAcap (by omega) h2
    cases lo with
    | none =>
      have hl : l = 0 := hlo
      subst hl
      simp [Instr.sliceAt, run_underlying hu, Instr.slice, Instr.sliceBounds, hsz, e1]
    | some v =>
      obtain ⟨k, rfl⟩ := hlo' v rfl
      have := hb k l h.toNat .sliceB h0 (by omega)
      simp [Instr.sliceAt, run_underlying hu, Instr.slice, Instr.sliceBounds, hsz, this, e1]

theorem Row.shift {b off sz n : Nat} {vs : Nat → List Value} (h : Row w b off sz n vs) {l m : Nat} (hlm : l + m ≤ n) : Row w b (off + l * sz) sz m (fun i => vs (l + i)) := by
  intro i hi
  obtain ⟨h1, h2⟩ := h (l + i) (by omega)
  refine ⟨h1, fun j hj => ?_⟩
  rw [← h2 j hj, Nat.add_mul]
  congr 2
  omega

theorem add_eq (b off k : Nat) : (⟨b, off, none⟩ : Addr).add k = ⟨b, off + k, none⟩ := by
  unfold Addr.add
  split
  · rename_i h; simp [h]
  · rfl

def slA (x : A) (l h : Int) : A :=
  match x with
  | .sl id off _ => .sl id (off + l.toNat) (h.toNat - l.toNat)
  | .slc _ z _ g => .slc false z (h.toNat - l.toNat) (fun i => g (l.toNat + i))
  | _ => .emp

/-- Slicing, at values that the abstract machine tells. -/
theorem slice_sound {x r : A} {v : Value} {n : Nat} (hx : V w N β x v) (hl : lenA x = some n) {l h : Int} (h0 : 0 ≤ l) (h1 : l ≤ h) (h2 : h ≤ n) {sz : Nat}
    (hsz : (∀ id off m, x = .sl id off m → ∀ L, β id = some L → L.sz = sz) ∧ ∀ o z m g, x = .slc o z m g → z = sz)
    (hr : r = slA x l h) :
    ∃ ad cp, v = .slice ad n cp ∧ n ≤ cp ∧ V w N β r (.slice (if cp = l.toNat then ad else ad.map (·.add (l.toNat * sz))) (h.toNat - l.toNat) (cp - l.toNat)) := by
  unfold lenA at hl
  split at hl
  · cases hl
    obtain ⟨ad, rfl⟩ := hx.emp_eq
    refine ⟨ad, 0, rfl, Nat.le_refl _, ?_⟩
    subst hr
    simp only [slA]
    have e1 : l.toNat = 0 := by omega
    have e2 : h.toNat = 0 := by omega
    rw [e1, e2]
    exact .clo (.emp (F := fun _ => False) (fun _ => id)) (fun _ => id)
  · rename_i id off m
    cases hl
    obtain ⟨L, ad, cp, k1, rfl, k2, k3, k4⟩ := hx.sl_eq
    refine ⟨ad, cp, rfl, k3, ?_⟩
    subst hr
    simp only [slA]
    have hz := hsz.1 _ _ _ rfl L k1
    refine .sl (L := L) k1 (by omega) (by omega) ?_
    by_cases hc : cp = l.toNat
    · exact .inl (by omega)
    · right
      rcases k4 with k4 | ⟨k4, k5⟩
      · omega
      · refine ⟨k4, ?_⟩
        rw [if_neg hc, k5, Option.map_some, add_eq, hz, Nat.add_mul]
        simp [Nat.add_assoc]
  · rename_i z m g
    cases hl
    have hz := hsz.2 _ _ _ _ rfl
    subst hr; subst hz
    simp only [slA]
    rcases hx.fro_eq with ⟨rfl, ad, cp, rfl⟩ | ⟨b, off, cp, vs, F, rfl, k0, k1, k2, k3, k4, k5⟩
    · refine ⟨ad, cp, rfl, Nat.zero_le _, ?_⟩
      have e1 : l.toNat = 0 := by omega
      have e2 : h.toNat - l.toNat = 0 := by omega
      rw [e2]
      exact .clo (.fro0 (F := fun _ => False) (fun _ => id)) (fun _ => id)
    · refine ⟨_, cp, rfl, k3, ?_⟩
      by_cases hc : cp = l.toNat
      · have e2 : h.toNat - l.toNat = 0 := by omega
        rw [if_pos hc, e2]
        exact .clo (.fro0 (F := fun _ => False) (fun _ => id)) (fun _ => id)
      · rw [if_neg hc, Option.map_some, add_eq]
        exact V.fro_mk k0 k1 k2 (by omega) (k4.shift (by omega)) (fun i hi => k5 _ (by omega))
  · cases hl

end
end Go.Am
end
