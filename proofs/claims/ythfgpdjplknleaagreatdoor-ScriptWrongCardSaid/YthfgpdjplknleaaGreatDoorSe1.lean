/- Symbolic values and symbolic states, and what they say of a frame and of memory. -/
import Derived.Test.YthfgpdjplknleaaGreatDoorSe0
namespace Go.SE

/-- A symbolic value: a value that is known (its parts may be variables), or one that leads to memory of the call's own, which is named by a number. -/
inductive SV where
  | v (x : Value)
  | ptr (id off : Nat)
  | sptr (id off : Nat)
  | rsl (id len : Nat)
  | xsl (id off len cap : Nat)
  | ep (a : Option Addr) (k : Nat)
  | fn (f : Fn) (first cap : List SV)
  | agg (xs : List SV)
  | tup (xs : List SV)
  | junk

structure Env where
  blk : Nat → Nat
  cap : Nat → Nat
  nil : Nat → Bool

mutual
def den (e : Env) : SV → Value
  | .v x => x
  | .ptr id off => .pointer (some ⟨e.blk id, off, none⟩)
  | .sptr id off => .pointer (some ⟨e.blk id, off, none⟩)
  | .rsl id len => .slice (if e.nil id then none else some ⟨e.blk id, 0, none⟩) len (e.cap id)
  | .xsl id off len cap => .slice (some ⟨e.blk id, off, none⟩) len cap
  | .ep a k => .pointer (a.map (·.add k))
  | .fn f a b => .func f (denL e a).toArray (denL e b).toArray
  | .agg xs => .agg (denL e xs).toArray
  | .tup xs => .tuple (denL e xs).toArray
  | .junk => undef
def denL (e : Env) : List SV → List Value
  | [] => []
  | x :: xs => den e x :: denL e xs
end

theorem denL_eq (e : Env) : ∀ xs, denL e xs = xs.map (den e)
  | [] => by simp [denL]
  | x :: xs => by simp [denL, denL_eq e xs]

mutual
/-- Is own memory number id named in it? -/
def refs (id : Nat) : SV → Bool
  | .v _ | .ep _ _ | .junk => false
  | .ptr i _ | .sptr i _ | .rsl i _ | .xsl i _ _ _ => i == id
  | .fn _ a b => refsL id a || refsL id b
  | .agg xs | .tup xs => refsL id xs
def refsL (id : Nat) : List SV → Bool
  | [] => false
  | x :: xs => refs id x || refsL id xs
end

mutual
/-- No number from n on is named in it. -/
def below (n : Nat) : SV → Bool
  | .v _ | .ep _ _ | .junk => true
  | .ptr i _ | .sptr i _ | .rsl i _ | .xsl i _ _ _ => i.blt n
  | .fn _ a b => belowL n a && belowL n b
  | .agg xs | .tup xs => belowL n xs
def belowL (n : Nat) : List SV → Bool
  | [] => true
  | x :: xs => below n x && belowL n xs
end

mutual
theorem den_congr {e e' : Env} {n : Nat} (h : ∀ id, id < n → e.blk id = e'.blk id ∧ e.cap id = e'.cap id ∧ e.nil id = e'.nil id) :
    ∀ sv, below n sv = true → den e sv = den e' sv
  | .v _, _ | .junk, _ | .ep _ _, _ => by simp [den]
  | .ptr i _, hb | .sptr i _, hb | .rsl i _, hb | .xsl i _ _ _, hb => by
    have hi : i < n := by simpa [below] using hb
    obtain ⟨h1, h2, h3⟩ := h i hi
    simp [den, h1, h2, h3]
  | .fn _ a b, hb => by
    simp only [below, Bool.and_eq_true] at hb
    simp [den, denL_congr h a hb.1, denL_congr h b hb.2]
  | .agg xs, hb => by
    simp only [below] at hb
    simp [den, denL_congr h xs hb]
  | .tup xs, hb => by
    simp only [below] at hb
    simp [den, denL_congr h xs hb]
theorem denL_congr {e e' : Env} {n : Nat} (h : ∀ id, id < n → e.blk id = e'.blk id ∧ e.cap id = e'.cap id ∧ e.nil id = e'.nil id) :
    ∀ l, belowL n l = true → denL e l = denL e' l
  | [], _ => rfl
  | x :: xs, hb => by
    simp only [belowL, Bool.and_eq_true] at hb
    simp [denL, den_congr h x hb.1, denL_congr h xs hb.2]
end

mutual
theorem den_norefs {e e' : Env} {k : Nat} (h : ∀ id, id ≠ k → e.blk id = e'.blk id ∧ e.cap id = e'.cap id ∧ e.nil id = e'.nil id) :
    ∀ sv, refs k sv = false → den e sv = den e' sv
  | .v _, _ | .junk, _ | .ep _ _, _ => by simp [den]
  | .ptr i _, hb | .sptr i _, hb | .rsl i _, hb | .xsl i _ _ _, hb => by
    have hi : i ≠ k := by simpa [refs] using hb
    obtain ⟨h1, h2, h3⟩ := h i hi
    simp [den, h1, h2, h3]
  | .fn _ a b, hb => by
    simp only [refs, Bool.or_eq_false_iff] at hb
    simp [den, denL_norefs h a hb.1, denL_norefs h b hb.2]
  | .agg xs, hb => by
    simp only [refs] at hb
    simp [den, denL_norefs h xs hb]
  | .tup xs, hb => by
    simp only [refs] at hb
    simp [den, denL_norefs h xs hb]
theorem denL_norefs {e e' : Env} {k : Nat} (h : ∀ id, id ≠ k → e.blk id = e'.blk id ∧ e.cap id = e'.cap id ∧ e.nil id = e'.nil id) :
    ∀ l, refsL k l = false → denL e l = denL e' l
  | [], _ => rfl
  | x :: xs, hb => by
    simp only [refsL, Bool.or_eq_false_iff] at hb
    simp [denL, den_norefs h x hb.1, denL_norefs h xs hb.2]
end

/-- What own memory holds: known cells; cells whose number and contents may be variables; a row of values with room behind it (what append makes); any other object. 'dead': nothing is known of it any more. -/
inductive EO where
  | cells (cs : List SV) (el : TypeId)
  | vec (xs : List Value) (el : TypeId)
  | row (xs : List Value) (sz : Nat) (el : TypeId)
  | raw (o : Obj)
  | dead
structure Ent where
  obj : EO
  name : Option Nat

def isJunk : SV → Bool
  | .junk => true
  | _ => false
def alive : EO → Bool
  | .dead => false
  | _ => true

/-- Memory h holds at number id what 'obj' says. -/
def holds (e : Env) (id : Nat) (h : Nat → Option Obj) : EO → Prop
  | .cells cs el => e.nil id = false ∧ ∃ c : Array Value, h (e.blk id) = some (.cells c el (0, 0)) ∧ c.size = cs.length ∧
      ∀ (k : Nat) (sv : SV), cs[k]? = some sv → isJunk sv = false → c[k]? = some (den e sv)
  | .vec xs el => e.nil id = false ∧ h (e.blk id) = some (.cells xs.toArray el (0, 0))
  | .row xs sz el => 0 < sz ∧ (∃ n, xs.length = n * sz) ∧ ((e.nil id = true ∧ e.cap id = 0 ∧ xs = []) ∨
      (e.nil id = false ∧ ∃ c : Array Value, h (e.blk id) = some (.cells c el (0, 0)) ∧ c.size = e.cap id * sz ∧ e.cap id ≤ maxLen ∧
        xs.length ≤ c.size ∧ c.toList.take xs.length = xs))
  | .raw o => e.nil id = false ∧ h (e.blk id) = some o
  | .dead => True

structure St where
  tm : List SV
  H : List Ent
  I : Mem
  marks : List Nat
  /-- Owned, but not looked into: what functions that are given may write. -/
  G : Mem := Mem.emp
  /-- Within a round of a range over a function: the entry of its record. -/
  rnd : Option Nat := none

structure Ctx where
  W0 : World
  I0 : Mem
  hf : Mem

structure Sat (c : Ctx) (e : Env) (s : St) (w : World) : Prop where
  same : Same c.W0 w
  size : c.W0.heap.size ≤ w.heap.size
  I : s.I.inW w
  hf : c.hf.inW w
  old : ∀ b, c.hf b ≠ none → c.I0 b = none → s.I b = none
  owned : ∀ (id : Nat) (x : Ent), s.H[id]? = some x → alive x.obj = true → holds e id (fun b => w.heap[b]?) x.obj ∧ (e.nil id = false → s.I (e.blk id) = none ∧ c.hf (e.blk id) = none)
  apart : ∀ (i j : Nat) (x y : Ent), s.H[i]? = some x → s.H[j]? = some y → alive x.obj = true → alive y.obj = true → e.nil i = false → e.nil j = false → i ≠ j → e.blk i ≠ e.blk j
  names : ∀ (id : Nat) (x : Ent) (b : Nat), s.H[id]? = some x → x.name = some b → e.blk id = b ∧ e.nil id = false

def mark (e : Env) (id : Nat) : Deferred := { target := .collected (e.blk id), args := #[] }

structure SatA (e : Env) (s : St) (a : Act) : Prop where
  size : a.tmps.size = s.tm.length
  tm : ∀ (t : Nat) (sv : SV), s.tm[t]? = some sv → isJunk sv = false → a.tmps[t]? = some (den e sv)
  defers : a.defers = s.marks.map (mark e)

def ev (s : St) : Operand → SV
  | .tmp t => (s.tm[t]?).getD .junk
  | .const x => .v x
  | .func f => .v (fnv f)
  | .global g => .v (.pointer (some ⟨g, 0, none⟩))

theorem ev_ok {e : Env} {s : St} {a : Act} (h : SatA e s a) (x : Operand) (hj : isJunk (ev s x) = false) : a.eval x = den e (ev s x) := by
  cases x with
  | const v => simp [Act.eval, ev, den]
  | func f => simp [Act.eval, ev, den, fnv]
  | global g => simp [Act.eval, ev, den]
  | tmp t =>
    simp only [ev] at hj ⊢
    cases ht : s.tm[t]? with
    | none => simp [ht, isJunk] at hj
    | some sv =>
      simp only [ht, Option.getD_some] at hj ⊢
      have := h.tm t sv ht hj
      simp [Act.eval, Array.getD_eq_getD_getElem?, this]

/-- The operation's answer is a value, memory stays, and the symbolic value tells it. -/
def Answers (P : Program) (o : Op) (a : Act) (w : World) (x : Value) : Prop :=
  ∀ (d : Option Tmp) (ty : TypeId) (pos : String) (af : Array Edge) (g : Option (Nat × Bool)), (execOp a.eval ⟨d, o, ty, pos, af, g⟩).run P w = .ok (.value x) w
def RunsTo (P : Program) (o : Op) (c : Ctx) (s : St) (sv : SV) : Prop :=
  ∀ e a w, Sat c e s w → SatA e s a → ∃ x, Answers P o a w x ∧ (isJunk sv = true ∨ x = den e sv)

theorem RunsTo.of {P : Program} {o : Op} {c : Ctx} {s : St} {sv : SV} (h : ∀ e a w, Sat c e s w → SatA e s a → Answers P o a w (den e sv)) : RunsTo P o c s sv :=
  fun e a w h1 h2 => ⟨_, h e a w h1 h2, .inr rfl⟩

end Go.SE
