/- Part of a proof by the rules of the symbolic walk (see the law's own text): contracts of functions of the program. -/
import Derived.RangeFuncLeaves
import Derived.RangeFuncSeq
import Derived.CallsIn
import Derived.WalkKit
import Derived.Laws.AppendOwn
import Derived.Laws.Slices
import Derived.Laws.Strings2
import Derived.Laws.Strings3
import Derived.WalkLawsBesides
import Derived.WalkSpells
import Derived.Laws.StructEq
import Derived.ChangeKeysEq
import Derived.Laws.IdiomStrings
import Derived.MapKept
set_option linter.unusedVariables false
set_option linter.unusedSimpArgs false
namespace Go.SE
abbrev Mem := Nat -> Option Obj
def Mem.emp : Mem := fun _ => none
def Mem.le (I J : Mem) : Prop := ∀ b o, I b = some o -> J b = some o
def Mem.inW (I : Mem) (w : World) : Prop := ∀ b o, I b = some o -> w.heap[b]? = some o
def Mem.apart (I J : Mem) : Prop := ∀ b, I b = none \/ J b = none
theorem Mem.le_refl (I : Mem) : I.le I := fun _ _ h => h
theorem Mem.le_trans {I J K : Mem} (h : I.le J) (h' : J.le K) : I.le K := fun b o hb => h' b o (h b o hb)
theorem Mem.inW_of_le {I J : Mem} {w : World} (h : I.le J) (hw : J.inW w) : I.inW w := fun b o hb => hw b o (h b o hb)
theorem Mem.apart_emp (I : Mem) : I.apart Mem.emp := fun _ => .inr rfl
theorem Mem.emp_inW (w : World) : Mem.emp.inW w := fun _ _ h => by cases h
theorem Mem.inW_lt {I : Mem} {w : World} (h : I.inW w) {b : Nat} {o : Obj} (hb : I b = some o) : b < w.heap.size :=
 (Array.getElem?_eq_some_iff.1 (h b o hb)).1
def Fr (r : Option Nat) : Fence := { fn := fun _ => True, depth := none, alive := false, round := r }
def upR (P : Program) (R : Ending -> World -> Prop) : Result Next -> Prop
 | .ok (.value v) w => R (.returned v) w
 | .ok (.enter f args) w => CallsIn Fence.wide 0 P f args w R
 | .ok (.round l f tmps assign body) w => RoundIn Fence.wide 0 P l f tmps assign body w R
 | _ => False
theorem upR_mono {P : Program} {R R' : Ending -> World -> Prop} (hr : ∀ e w, R e w -> R' e w) : ∀ r : Result Next, upR P R r -> upR P R' r := by
 intro r h;unfold upR at h ⊢
 split at h
 · exact hr _ _ h
 · exact h.mono hr
 · exact h.mono hr
 · exact h.elim
def semV (fv : Value) (args : Array Value) : Sem Next := do
 let d <- Deferred.ofValue fv args
 invoke d.target d.args
def CallV (P : Program) (fv : Value) (args : Array Value) (w : World) (R : Ending -> World -> Prop) : Prop :=
 upR P R ((semV fv args).run P w)
theorem CallV.mono {P : Program} {fv : Value} {args : Array Value} {w : World} {R R' : Ending -> World -> Prop} (h : CallV P fv args w R)
 (hr : ∀ e w, R e w -> R' e w) : CallV P fv args w R' := upR_mono hr _ h
structure Same (w w' : World) : Prop where
 os : w'.os = w.os
 tape : w'.tape = w.tape
 output : w'.output = w.output
theorem Same.refl (w : World) : Same w w := ⟨rfl, rfl, rfl⟩
theorem Same.trans {a b c : World} (h : Same a b) (k : Same b c) : Same a c := ⟨k.os.trans h.os, k.tape.trans h.tape, k.output.trans h.output⟩
def Ends (I hp : Mem) (W : World) (post : Value -> Mem -> Mem -> Prop) (e : Ending) (W' : World) : Prop :=
 ∃ v I' hp', e = .returned v /\ I.le I' /\ I'.inW W' /\ hp'.inW W' /\ I'.apart hp' /\ W.heap.size <= W'.heap.size /\ Same W W' /\
  (∀ b, b < W.heap.size -> hp b = none -> W'.heap[b]? = W.heap[b]?) /\
  (∀ b, b < W.heap.size -> hp b = none -> hp' b = none /\ (I b = none -> I' b = none)) /\ post v I' hp'
theorem Ends.mono {I hp : Mem} {W W' : World} {post post' : Value -> Mem -> Mem -> Prop} {e : Ending} (h : Ends I hp W post e W')
 (hr : ∀ v I' hp', I.le I' -> post v I' hp' -> post' v I' hp') : Ends I hp W post' e W' := by
 obtain ⟨v, I', hp', he, hI, h1, h2, h3, h4, h5, h6, h7, h8⟩ := h;exact ⟨v, I', hp', he, hI, h1, h2, h3, h4, h5, h6, h7, hr _ _ _ hI h8⟩
def CtH (P : Program) (fv : Value) (args : Array Value) (I hp : Mem) (post : Value -> Mem -> Mem -> Prop) : Prop :=
 ∀ W : World, I.inW W -> hp.inW W -> I.apart hp -> CallV P fv args W (Ends I hp W post)
theorem CtH.mono {P : Program} {fv : Value} {args : Array Value} {I hp : Mem} {post post' : Value -> Mem -> Mem -> Prop} (h : CtH P fv args I hp post)
 (hr : ∀ v I' hp', I.le I' -> post v I' hp' -> post' v I' hp') : CtH P fv args I hp post' :=
 fun W h1 h2 h3 => (h W h1 h2 h3).mono fun _ _ he => he.mono hr
def Ct (P : Program) (fv : Value) (args : Array Value) (I : Mem) (post : Value -> Mem -> Prop) : Prop :=
 CtH P fv args I Mem.emp fun v I' _ => post v I'
theorem Ct.mono {P : Program} {fv : Value} {args : Array Value} {I : Mem} {post post' : Value -> Mem -> Prop} (h : Ct P fv args I post)
 (hr : ∀ v I', I.le I' -> post v I' -> post' v I') : Ct P fv args I post' :=
 CtH.mono h fun v I' _ hI hp => hr v I' hI hp
def fnv (f : Nat) : Value := .func (.func f) #[] #[]
theorem run_semV_func {P : Program} {f : Nat} {first cap args : Array Value} {w : World} :
 (semV (.func (.func f) first cap) args).run P w = (callFunc f (first ++ args ++ cap)).run P w := by
 simp [semV, Deferred.ofValue, invoke]
end Go.SE
namespace Go.SE
inductive SV where
 | v (x : Value)
 | ptr (id off : Nat)
 | sptr (id off : Nat)
 | rsl (id len : Nat)
 | xsl (id off len cap : Nat)
 | ep (a : Option Addr) (k : Nat)
 | fn (f : Fn) (first cap : List SV)
 | agg (xs : List SV)
 | tup (xs : List SV)
 | junk
structure Env where
 blk : Nat -> Nat
 cap : Nat -> Nat
 nil : Nat -> Bool
mutual
def den (e : Env) : SV -> Value
 | .v x => x
 | .ptr id off => .pointer (some ⟨e.blk id, off, none⟩)
 | .sptr id off => .pointer (some ⟨e.blk id, off, none⟩)
 | .rsl id len => .slice (if e.nil id then none else some ⟨e.blk id, 0, none⟩) len (e.cap id)
 | .xsl id off len cap => .slice (some ⟨e.blk id, off, none⟩) len cap
 | .ep a k => .pointer (a.map (·.add k))
 | .fn f a b => .func f (denL e a).toArray (denL e b).toArray
 | .agg xs => .agg (denL e xs).toArray
 | .tup xs => .tuple (denL e xs).toArray
 | .junk => undef
def denL (e : Env) : List SV -> List Value
 | [] => []
 | x :: xs => den e x :: denL e xs
end
theorem denL_eq (e : Env) : ∀ xs, denL e xs = xs.map (den e)
 | [] => by simp [denL]
 | x :: xs => by simp [denL, denL_eq e xs]
mutual
def refs (id : Nat) : SV -> Bool
 | .v _ | .ep _ _ | .junk => false
 | .ptr i _ | .sptr i _ | .rsl i _ | .xsl i _ _ _ => i == id
 | .fn _ a b => refsL id a || refsL id b
 | .agg xs | .tup xs => refsL id xs
def refsL (id : Nat) : List SV -> Bool
 | [] => false
 | x :: xs => refs id x || refsL id xs
end
mutual
def below (n : Nat) : SV -> Bool
 | .v _ | .ep _ _ | .junk => true
 | .ptr i _ | .sptr i _ | .rsl i _ | .xsl i _ _ _ => i.blt n
 | .fn _ a b => belowL n a && belowL n b
 | .agg xs | .tup xs => belowL n xs
def belowL (n : Nat) : List SV -> Bool
 | [] => true
 | x :: xs => below n x && belowL n xs
end
mutual
theorem den_congr {e e' : Env} {n : Nat} (h : ∀ id, id < n -> e.blk id = e'.blk id /\ e.cap id = e'.cap id /\ e.nil id = e'.nil id) :
 ∀ sv, below n sv = true -> den e sv = den e' sv
 | .v _, _ | .junk, _ | .ep _ _, _ => by simp [den]
 | .ptr i _, hb | .sptr i _, hb | .rsl i _, hb | .xsl i _ _ _, hb => by
   have hi : i < n := by simpa [below] using hb
   obtain ⟨h1, h2, h3⟩ := h i hi;simp [den, h1, h2, h3]
 | .fn _ a b, hb => by
   simp only [below, Bool.and_eq_true] at hb;simp [den, denL_congr h a hb.1, denL_congr h b hb.2]
 | .agg xs, hb => by
   simp only [below] at hb;simp [den, denL_congr h xs hb]
 | .tup xs, hb => by
   simp only [below] at hb;simp [den, denL_congr h xs hb]
theorem denL_congr {e e' : Env} {n : Nat} (h : ∀ id, id < n -> e.blk id = e'.blk id /\ e.cap id = e'.cap id /\ e.nil id = e'.nil id) :
 ∀ l, belowL n l = true -> denL e l = denL e' l
 | [], _ => rfl
 | x :: xs, hb => by
   simp only [belowL, Bool.and_eq_true] at hb;simp [denL, den_congr h x hb.1, denL_congr h xs hb.2]
end
mutual
theorem den_norefs {e e' : Env} {k : Nat} (h : ∀ id, id ≠ k -> e.blk id = e'.blk id /\ e.cap id = e'.cap id /\ e.nil id = e'.nil id) :
 ∀ sv, refs k sv = false -> den e sv = den e' sv
 | .v _, _ | .junk, _ | .ep _ _, _ => by simp [den]
 | .ptr i _, hb | .sptr i _, hb | .rsl i _, hb | .xsl i _ _ _, hb => by
   have hi : i ≠ k := by simpa [refs] using hb
   obtain ⟨h1, h2, h3⟩ := h i hi;simp [den, h1, h2, h3]
 | .fn _ a b, hb => by
   simp only [refs, Bool.or_eq_false_iff] at hb;simp [den, denL_norefs h a hb.1, denL_norefs h b hb.2]
 | .agg xs, hb => by
   simp only [refs] at hb;simp [den, denL_norefs h xs hb]
 | .tup xs, hb => by
   simp only [refs] at hb;simp [den, denL_norefs h xs hb]
theorem denL_norefs {e e' : Env} {k : Nat} (h : ∀ id, id ≠ k -> e.blk id = e'.blk id /\ e.cap id = e'.cap id /\ e.nil id = e'.nil id) :
 ∀ l, refsL k l = false -> denL e l = denL e' l
 | [], _ => rfl
 | x :: xs, hb => by
   simp only [refsL, Bool.or_eq_false_iff] at hb;simp [denL, den_norefs h x hb.1, denL_norefs h xs hb.2]
end
inductive EO where
 | cells (cs : List SV) (el : TypeId)
 | vec (xs : List Value) (el : TypeId)
 | row (xs : List Value) (sz : Nat) (el : TypeId)
 | raw (o : Obj)
 | dead
structure Ent where
 obj : EO
 name : Option Nat
def isJunk : SV -> Bool
 | .junk => true
 | _ => false
def alive : EO -> Bool
 | .dead => false
 | _ => true
def thaw (fz : Nat × Nat) (n : Nat) : Prop := ∀ k, k < n -> ¬ (fz.1 <= k /\ k < fz.2)
theorem thaw_zero (n : Nat) : thaw (0, 0) n := fun k _ h => absurd h.2 (Nat.not_lt_zero k)
theorem thaw_end (n m : Nat) : thaw (n, m) n := fun k hk h => absurd h.1 (Nat.not_le_of_lt hk)
def holds (e : Env) (id : Nat) (h : Nat -> Option Obj) : EO -> Prop
 | .cells cs el => e.nil id = false /\ ∃ c : Array Value, h (e.blk id) = some (.cells c el (0, 0)) /\ c.size = cs.length /\
    ∀ (k : Nat) (sv : SV), cs[k]? = some sv -> isJunk sv = false -> c[k]? = some (den e sv)
 | .vec xs el => e.nil id = false /\ h (e.blk id) = some (.cells xs.toArray el (0, 0))
 | .row xs sz el => 0 < sz /\ (∃ n, xs.length = n * sz) /\ ((e.nil id = true /\ e.cap id = 0 /\ xs = []) \/
    (e.nil id = false /\ ∃ (c : Array Value) (fz : Nat × Nat), h (e.blk id) = some (.cells c el fz) /\ thaw fz c.size /\ c.size = e.cap id * sz /\ e.cap id <= maxLen /\
      xs.length <= c.size /\ c.toList.take xs.length = xs))
 | .raw o => e.nil id = false /\ h (e.blk id) = some o
 | .dead => True
structure St where
 tm : List SV
 H : List Ent
 I : Mem
 marks : List Nat
 G : Mem := Mem.emp
 rnd : Option Nat := none
structure Ctx where
 W0 : World
 I0 : Mem
 hf : Mem
structure Sat (c : Ctx) (e : Env) (s : St) (w : World) : Prop where
 same : Same c.W0 w
 size : c.W0.heap.size <= w.heap.size
 I : s.I.inW w
 hf : c.hf.inW w
 old : ∀ b, c.hf b ≠ none -> c.I0 b = none -> s.I b = none
 owned : ∀ (id : Nat) (x : Ent), s.H[id]? = some x -> alive x.obj = true -> holds e id (fun b => w.heap[b]?) x.obj /\ (e.nil id = false -> s.I (e.blk id) = none /\ c.hf (e.blk id) = none)
 apart : ∀ (i j : Nat) (x y : Ent), s.H[i]? = some x -> s.H[j]? = some y -> alive x.obj = true -> alive y.obj = true -> e.nil i = false -> e.nil j = false -> i ≠ j -> e.blk i ≠ e.blk j
 names : ∀ (id : Nat) (x : Ent) (b : Nat), s.H[id]? = some x -> x.name = some b -> e.blk id = b /\ e.nil id = false
def mark (e : Env) (id : Nat) : Deferred := { target := .collected (e.blk id), args := #[] }
structure SatA (e : Env) (s : St) (a : Act) : Prop where
 size : a.tmps.size = s.tm.length
 tm : ∀ (t : Nat) (sv : SV), s.tm[t]? = some sv -> isJunk sv = false -> a.tmps[t]? = some (den e sv)
 defers : a.defers = s.marks.map (mark e)
def ev (s : St) : Operand -> SV
 | .tmp t => (s.tm[t]?).getD .junk
 | .const x => .v x
 | .func f => .v (fnv f)
 | .global g => .v (.pointer (some ⟨g, 0, none⟩))
theorem ev_ok {e : Env} {s : St} {a : Act} (h : SatA e s a) (x : Operand) (hj : isJunk (ev s x) = false) : a.eval x = den e (ev s x) := by
 cases x with
 | const v => simp [Act.eval, ev, den]
 | func f => simp [Act.eval, ev, den, fnv]
 | global g => simp [Act.eval, ev, den]
 | tmp t =>
   simp only [ev] at hj ⊢
   cases ht : s.tm[t]? with
   | none => simp [ht, isJunk] at hj
   | some sv =>
     simp only [ht, Option.getD_some] at hj ⊢;have := h.tm t sv ht hj;simp [Act.eval, Array.getD_eq_getD_getElem?, this]
def Answers (P : Program) (o : Op) (a : Act) (w : World) (x : Value) : Prop :=
 ∀ (d : Option Tmp) (ty : TypeId) (pos : String) (af : Array Edge) (g : Option (Nat × Bool)), (execOp a.eval ⟨d, o, ty, pos, af, g⟩).run P w = .ok (.value x) w
def RunsTo (P : Program) (o : Op) (c : Ctx) (s : St) (sv : SV) : Prop :=
 ∀ e a w, Sat c e s w -> SatA e s a -> ∃ x, Answers P o a w x /\ (isJunk sv = true \/ x = den e sv)
theorem RunsTo.of {P : Program} {o : Op} {c : Ctx} {s : St} {sv : SV} (h : ∀ e a w, Sat c e s w -> SatA e s a -> Answers P o a w (den e sv)) : RunsTo P o c s sv :=
 fun e a w h1 h2 => ⟨_, h e a w h1 h2, .inr rfl⟩
end Go.SE
namespace Go.SE
open Go.RowKit
def Br (t : Bool) (A B : Prop) : Prop := Bool.rec B A t
theorem Br_true (A B : Prop) : Br true A B = A := rfl
theorem Br_false (A B : Prop) : Br false A B = B := rfl
theorem Br.mk {t : Bool} {A B : Prop} (h : t = true -> A) (h' : t = false -> B) : Br t A B := by
 cases t
 · exact h' rfl
 · exact h rfl
theorem Br.elim {t : Bool} {A B C : Prop} (h : Br t A B) (ha : t = true -> A -> C) (hb : t = false -> B -> C) : C := by
 cases t
 · exact hb rfl h
 · exact ha rfl h
def Wr (k : IntKind) (n : Int) (K : Int -> Prop) : Prop := ∃ c, k.wrap n = c /\ K c
def bitsV (op : BinOp) (k : IntKind) (x y : Int) : Int :=
 match op with
 | .and => k.wrap ((BitVec.ofInt k.bits x &&& BitVec.ofInt k.bits y).toNat : Int)
 | .or => k.wrap ((BitVec.ofInt k.bits x ||| BitVec.ofInt k.bits y).toNat : Int)
 | .xor => k.wrap ((BitVec.ofInt k.bits x ^^^ BitVec.ofInt k.bits y).toNat : Int)
 | _ => k.wrap ((BitVec.ofInt k.bits x &&& ~~~BitVec.ofInt k.bits y).toNat : Int)
def sBinInt (op : BinOp) (k : IntKind) (a b : Int) (K : SV -> Prop) : Prop :=
 match op with
 | .add => Wr k (a + b) fun c => K (.v (.int k c))
 | .sub => Wr k (a - b) fun c => K (.v (.int k c))
 | .mul => Wr k (a * b) fun c => K (.v (.int k c))
 | .quo => b ≠ 0 /\ Wr k (a.tdiv b) fun c => K (.v (.int k c))
 | .rem => b ≠ 0 /\ K (.v (.int k (a.tmod b)))
 | .and => K (.v (.int k (bitsV .and k a b)))
 | .or => K (.v (.int k (bitsV .or k a b)))
 | .xor => K (.v (.int k (bitsV .xor k a b)))
 | .andNot => K (.v (.int k (bitsV .andNot k a b)))
 | .eql => K (.v (.bool (a == b)))
 | .neq => K (.v (.bool (a != b)))
 | .lss => K (.v (.bool (decide (a < b))))
 | .leq => K (.v (.bool (decide (a <= b))))
 | .gtr => K (.v (.bool (decide (b < a))))
 | .geq => K (.v (.bool (decide (b <= a))))
 | .shl => 0 <= b /\ Wr k (a * 2 ^ (min b.toNat k.bits)) fun c => K (.v (.int k c))
 | .shr => 0 <= b /\ K (.v (.int k (a.fdiv (2 ^ (min b.toNat k.bits)))))
def sBinStr (op : BinOp) (a b : ByteArray) (K : SV -> Prop) : Prop :=
 match op with
 | .add => a.size + b.size <= 4611686018427387904 /\ K (.v (.string (a ++ b)))
 | .eql => K (.v (.bool (a.toList == b.toList)))
 | .neq => K (.v (.bool (!(a.toList == b.toList))))
 | .lss => K (.v (.bool (Op.bytesLess a.toList b.toList)))
 | .leq => K (.v (.bool (Op.bytesLess a.toList b.toList || a.toList == b.toList)))
 | .gtr => K (.v (.bool (!(Op.bytesLess a.toList b.toList || a.toList == b.toList))))
 | .geq => K (.v (.bool (!(Op.bytesLess a.toList b.toList))))
 | _ => False
def isShift : BinOp -> Bool
 | .shl | .shr => true
 | _ => false
def kindEq (k k' : IntKind) : Bool := decide (k = k')
def sEq (P : Program) (t : TypeId) (x y : SV) (K : Bool -> Prop) : Prop :=
 match P.underlying t, x, y with
 | some (.slice _), .v (.slice a _ _), .v (.slice none _ _) => K a.isNone
 | some (.slice _), .v (.slice none _ _), .v (.slice (some _) _ _) => K false
 | some (.slice _), .xsl _ _ _ _, .v (.slice none _ _) => K false
 | some .bool, .v (.bool a), .v (.bool b) => K (a == b)
 | some (.pointer _), .v (.pointer a), .v (.pointer none) => K a.isNone
 | some (.pointer _), .v (.pointer none), .v (.pointer b) => K b.isNone
 | some (.pointer _), .ptr _ _, .v (.pointer none) => K false
 | some (.pointer _), .ep (some _) _, .v (.pointer none) => K false
 | some (.func _ _ _), .v .nilFunc, .v .nilFunc => K true
 | some (.func _ _ _), .fn _ _ _, .v .nilFunc => K false
 | some (.func _ _ _), .v (.func _ _ _), .v .nilFunc => K false
 | _, _, _ => False
def eqC (u : Option TypeDesc) (x y : SV) : Option Bool :=
 match u, x, y with
 | some (.int _), .v (.int k a), .v (.int k' b) => if kindEq k k' then some (a == b) else none
 | some .bool, .v (.bool a), .v (.bool b) => some (a == b)
 | some .string, .v (.string a), .v (.string b) => some (a.toList == b.toList)
 | _, _, _ => none
def eqFs (P : Program) : List Field -> List SV -> List SV -> Nat -> Option Bool
 | [], _, _, _ => some true
 | f :: fs, x :: xs, y :: ys, i =>
   if f.name != "_" && Nat.beq f.offset i then
    match eqC (P.underlying f.type) x y with
    | some r0 => (match eqFs P fs xs ys (i + 1) with | some r => some (r0 && r) | none => none)
    | none => none
   else none
 | _, _, _, _ => none
def eqRows (P : Program) (gs : List Field) (m : Nat) : Nat -> List SV -> List SV -> Option Bool
 | 0, _, _ => some true
 | n + 1, xs, ys => if Nat.ble m xs.length && Nat.ble m ys.length then (match eqFs P gs (xs.take m) (ys.take m) 0 with
   | some r0 => (match eqRows P gs m n (xs.drop m) (ys.drop m) with | some r => some (r0 && r) | none => none)
   | none => none) else none
def eqArr (P : Program) (el : TypeId) (n : Nat) (xs ys : List SV) : Option Bool :=
 match P.underlying el, (P.info? el).map (·.size) with
 | some (.struct gs), some m => if P.stoodInHeld el then none else eqRows P gs.toList m n xs ys
 | _, _ => none
def eqF1 (P : Program) (t : TypeId) (xs ys : List SV) : Option (Bool × Nat) :=
 match P.underlying t, (P.info? t).map (·.size) with
 | some (.array n el), some z => if !(Nat.ble z xs.length && Nat.ble z ys.length) then none else match eqArr P el n (xs.take z) (ys.take z) with
   | some b => some (b, z)
   | none => none
 | some (.struct gs), some z => if P.stoodInHeld t || !(Nat.ble z xs.length && Nat.ble z ys.length) then none else match eqFs P gs.toList (xs.take z) (ys.take z) 0 with
   | some b => some (b, z)
   | none => none
 | u, _ => match xs, ys with
   | x :: _, y :: _ => match eqC u x y with
     | some b => some (b, 1)
     | none => none
   | _, _ => none
def eqFs2 (P : Program) : List Field -> List SV -> List SV -> Nat -> Option Bool
 | [], _, _, _ => some true
 | f :: fs, xs, ys, i =>
   if f.name != "_" && Nat.beq f.offset i then
    match eqF1 P f.type xs ys with
    | some (r0, z) => (match eqFs2 P fs (xs.drop z) (ys.drop z) (i + z) with | some r => some (r0 && r) | none => none)
    | none => none
   else none
def eqFsA (P : Program) (fs : List Field) (xs ys : List SV) : Option Bool :=
 match eqFs P fs xs ys 0 with
 | some b => some b
 | none => eqFs2 P fs xs ys 0
def eqIs (u : Option TypeDesc) : Nat -> List SV -> List SV -> Option Bool
 | 0, _, _ => some true
 | n + 1, x :: xs, y :: ys => match eqC u x y with
   | some r0 => (match eqIs u n xs ys with | some r => some (r0 && r) | none => none)
   | none => none
 | _, _, _ => none
def sEqA (P : Program) (op : BinOp) (t : TypeId) (xs ys : List SV) (K : SV -> Prop) : Prop :=
 match P.underlying t with
 | some (.struct fs) => if P.stoodInHeld t || P.eqGuardType P.depth t then False else
   match eqFsA P fs.toList xs ys with
   | some b => match op with
     | .eql => K (.v (.bool b))
     | .neq => K (.v (.bool (!b)))
     | _ => False
   | none => False
 | some (.array n el) => if P.eqGuardType P.depth t || !Nat.beq (P.cellsOf el) 1 then False else
   match P.info? el, eqIs (P.underlying el) n xs ys with
   | some _, some b => match op with
     | .eql => K (.v (.bool b))
     | .neq => K (.v (.bool (!b)))
     | _ => False
   | _, _ => False
 | _ => False
def sBin (P : Program) (op : BinOp) (t : TypeId) (x y : SV) (K : SV -> Prop) : Prop :=
 match x, y with
 | .v (.int k a), .v (.int k' b) => if isShift op || kindEq k k' then sBinInt op k a b K else False
 | .v (.string a), .v (.string b) => sBinStr op a b K
 | .agg xs, .agg ys => sEqA P op t xs ys K
 | x, y => match op with
   | .eql => sEq P t x y fun b => K (.v (.bool b))
   | .neq => sEq P t x y fun b => K (.v (.bool (!b)))
   | _ => False
theorem run_bits_eq (op : BinOp) (k : IntKind) (x y : Int) (hop : op = .and \/ op = .or \/ op = .xor \/ op = .andNot) (P : Program) (w : World) :
 (Op.intBits op k x y).run P w = .ok (.int k (bitsV op k x y)) w := by
 rcases hop with rfl | rfl | rfl | rfl <;> simp [Op.intBits, bitsV]
theorem sBinInt_sound {P : Program} {op : BinOp} {k k' : IntKind} {a b : Int} {K : SV -> Prop} (hk : (isShift op || kindEq k k') = true) (h : sBinInt op k a b K) :
 ∃ x, K (.v x) /\ ∀ t w, (binOp op t (.int k a) (.int k' b)).run P w = .ok x w := by
 cases op <;> simp only [isShift, Bool.true_or, Bool.false_or, kindEq, decide_eq_true_eq] at hk <;> (try subst hk) <;> simp only [sBinInt, Wr] at h
 case add | sub | mul => obtain ⟨c, hc, hK⟩ := h; exact ⟨_, hK, fun t w => by simp [binOp, Op.intArith, hc]⟩
 case quo => obtain ⟨h0, c, hc, hK⟩ := h; exact ⟨_, hK, fun t w => by simp [binOp, Op.intDiv, hc, h0]⟩
 case rem => obtain ⟨h0, hK⟩ := h; exact ⟨_, hK, fun t w => by simp [binOp, Op.intDiv, h0]⟩
 case and | or | xor | andNot => exact ⟨_, h, fun t w => by simp [binOp, run_bits_eq]⟩
 case eql | neq | lss | leq | gtr | geq => exact ⟨_, h, fun t w => by simp [binOp, Op.intCmp]⟩
 case shl => obtain ⟨h0, c, hc, hK⟩ := h; exact ⟨_, hK, fun t w => by simp [binOp, Op.shift, Int.not_lt.2 h0, hc]⟩
 case shr => obtain ⟨h0, hK⟩ := h; exact ⟨_, hK, fun t w => by simp [binOp, Op.shift, Int.not_lt.2 h0]⟩
theorem ev_v {e : Env} {s : St} {a : Act} (hA : SatA e s a) {x : Operand} {v : Value} (h : ev s x = .v v) : a.eval x = v := by
 have := ev_ok hA x (by rw [h]; rfl)
 rw [this, h]; simp [den]
theorem ev_d {e : Env} {s : St} {a : Act} (hA : SatA e s a) {x : Operand} {sv : SV} (h : ev s x = sv) (hj : isJunk sv = false) : a.eval x = den e sv := by
 subst h; exact ev_ok hA x hj
theorem sBinStr_sound {P : Program} {op : BinOp} {a b : ByteArray} {K : SV -> Prop} (h : sBinStr op a b K) :
 ∃ x, K (.v x) /\ ∀ t w, (binOp op t (.string a) (.string b)).run P w = .ok x w := by
 cases op <;> simp only [sBinStr] at h
 case add =>
  refine ⟨_, h.2, fun t w => ?_⟩;have h0 := h.1
  have : ¬ ((a.size + b.size : Nat) : Int) > IntKind.i64.max := by simp [IntKind.max, IntKind.signed, IntKind.bits]; omega
  simp only [binOp, Op.stringOp, if_neg this];rfl
 case eql | neq | lss | leq | gtr | geq => exact ⟨_, h, fun t w => by simp [binOp, Op.stringOp]⟩
 all_goals exact h.elim
theorem equalIn_run {P : Program} {t : TypeId} {x y : SV} {K : Bool -> Prop} (h : sEq P t x y K) :
 ∃ b, K b /\ isJunk x = false /\ isJunk y = false /\ ∀ (d : Nat) (e : Env) (w : World), (Op.equalIn (d + 1) t (den e x) (den e y)).run P w = .ok b w := by
 unfold sEq at h
 split at h
 case h_12 => exact h.elim
 case h_1 a _ _ _ _ hu =>
  refine ⟨_, h, rfl, rfl, fun d e w => ?_⟩
  cases a <;> simp [Op.equalIn, den, run_underlying hu]
 case h_5 a hu =>
  refine ⟨_, h, rfl, rfl, fun d e w => ?_⟩
  cases a <;> simp [Op.equalIn, den, run_underlying hu]
 all_goals
  rename_i hu;refine ⟨_, h, rfl, rfl, fun d e w => ?_⟩;simp [Op.equalIn, den, run_underlying hu]
theorem sEq_sound {P : Program} {t : TypeId} {x y : SV} {K : Bool -> Prop} (h : sEq P t x y K) :
 ∃ b, K b /\ isJunk x = false /\ isJunk y = false /\ ∀ (e : Env) (w : World) (p q : Operand),
  (do eqGuard .eql t p q (den e x) (den e y); binOp .eql t (den e x) (den e y) : Sem Value).run P w = .ok (.bool b) w /\
  (do eqGuard .neq t p q (den e x) (den e y); binOp .neq t (den e x) (den e y) : Sem Value).run P w = .ok (.bool (!b)) w := by
 obtain ⟨b, hK, j1, j2, hrun⟩ := equalIn_run h;refine ⟨b, hK, j1, j2, fun e w p q => ?_⟩;have h2 : (Op.equal t (den e x) (den e y)).run P w = .ok b w := hrun 9999 e w;unfold sEq at h
 split at h
 case h_12 => exact h.elim
 all_goals
  clear h hrun
  simp only [den, Option.map_some] at h2 ⊢;simp only [eqGuard, binOp]
  constructor <;> simp [h2]
theorem eqC_run {P : Program} {t : TypeId} {x y : SV} {r : Bool} (h : eqC (P.underlying t) x y = some r) (e : Env) (w : World) (d : Nat) :
 (Op.equalIn (d + 1) t (den e x) (den e y)).run P w = .ok r w /\ ∀ (cs : Array Value) (off : Nat) (v : Value), cs[off]? = some v -> (part t cs off).run P w = .ok v w := by
 unfold eqC at h
 split at h
 · rename_i k0 k a k' b hu
   split at h
   · rename_i hk
     have hk : k = k' := by simpa [kindEq] using hk
     subst hk;cases h
     exact ⟨run_equalIn_int _ d _ _ _ _ _ hu, fun cs off v hv => by simp [part, isAgg, run_underlying hu, hv]⟩
   · cases h
 · rename_i a b hu
   cases h
   exact ⟨run_equalIn_bool' _ d _ _ _ hu, fun cs off v hv => by simp [part, isAgg, run_underlying hu, hv]⟩
 · rename_i a b hu
   cases h
   exact ⟨run_equalIn_string _ d _ _ _ hu, fun cs off v hv => by simp [part, isAgg, run_underlying hu, hv]⟩
 · cases h
theorem eqFs_run {P : Program} (e : Env) (w : World) (d : Nat) : ∀ (fs : List Field) (xs ys : List SV) (i : Nat) (b : Bool) (p q : List Value), p.length = i -> q.length = i -> eqFs P fs xs ys i = some b ->
 (Op.eqFields (d + 1) (p ++ xs.map (den e)).toArray (q ++ ys.map (den e)).toArray fs).run P w = .ok b w
 | [], xs, ys, i, b, p, q, _, _, h => by
   simp only [eqFs, Option.some.injEq] at h;subst h;simp [Op.eqFields]
 | f :: fs, [], _, i, b, p, q, _, _, h => by simp [eqFs] at h
 | f :: fs, x :: xs, [], i, b, p, q, _, _, h => by simp [eqFs] at h
 | f :: fs, x :: xs, y :: ys, i, b, p, q, hp, hq, h => by
   rw [eqFs] at h
   split at h
   · rename_i hc
     simp only [Bool.and_eq_true, bne_iff_ne, ne_eq] at hc;have hoff : f.offset = i := Nat.eq_of_beq_eq_true hc.2
     have ex : (p ++ (x :: xs).map (den e)).toArray[f.offset]? = some (den e x) := by
      rw [hoff, List.getElem?_toArray, List.getElem?_append_right (by omega), hp, Nat.sub_self]; simp
     have ey : (q ++ (y :: ys).map (den e)).toArray[f.offset]? = some (den e y) := by
      rw [hoff, List.getElem?_toArray, List.getElem?_append_right (by omega), hq, Nat.sub_self]; simp
     split at h
     · rename_i r0 hr0
       obtain ⟨h1, h2⟩ := eqC_run hr0 e w d
       split at h
       · rename_i r hr
         cases h
         have ih := eqFs_run e w d fs xs ys (i + 1) r (p ++ [den e x]) (q ++ [den e y]) (by simp [hp]) (by simp [hq]) hr
         have ih : (Op.eqFields (d + 1) (p ++ (x :: xs).map (den e)).toArray (q ++ (y :: ys).map (den e)).toArray fs).run P w = .ok r w := by simpa using ih
         simp only [Op.eqFields];rw [if_pos hc.1];simp only [Sem.run_bind, h2 _ _ _ ex, h2 _ _ _ ey, Result.andThen_ok, h1];cases r0
         · simp
         · simp only [Bool.not_true, Bool.false_eq_true, if_false, ih, Bool.true_and]
       · cases h
     · cases h
   · cases h
theorem size_run {P : Program} {t : TypeId} {z : Nat} (hz : (P.info? t).map (·.size) = some z) (w : World) : (sizeOf t).run P w = .ok z w := by
 cases hi : P.info? t with
 | none => rw [hi] at hz; cases hz
 | some inf =>
   rw [hi] at hz;simp only [Option.map_some, Option.some.injEq] at hz;rw [<- hz];simp [sizeOf, typeInfo, hi]
theorem part_agg {P : Program} {t : TypeId} {z : Nat} (hag : ∀ w, (isAgg t).run P w = .ok true w) (hz : (P.info? t).map (·.size) = some z) (e : Env) (w : World) (p : List Value) (xs : List SV) (i : Nat) (hp : p.length = i) :
 (part t (p ++ xs.map (den e)).toArray i).run P w = .ok (.agg (xs.take z |>.map (den e)).toArray) w := by
 simp only [part, Sem.run_bind, hag, size_run hz, Result.andThen_ok, if_true, Sem.run_pure]
 congr 1
 simp only [List.extract_toArray, List.extract_eq_take_drop]
 rw [show i + z - i = z by omega, List.drop_append, List.drop_eq_nil_of_le (by omega), hp, Nat.sub_self, List.drop_zero, List.nil_append, List.map_take]
theorem eqRows_run {P : Program} {el : TypeId} {gs : Array Field} {m : Nat} (hu : P.underlying el = some (.struct gs)) (hst : P.stoodInHeld el = false) (hz : (P.info? el).map (·.size) = some m) (e : Env) (w : World) (d : Nat) :
 ∀ (n : Nat) (xs ys : List SV) (i : Nat) (b : Bool) (p q : List Value), p.length = i * m -> q.length = i * m -> eqRows P gs.toList m n xs ys = some b ->
 (Op.eqItems (d + 2) el m (p ++ xs.map (den e)).toArray (q ++ ys.map (den e)).toArray (List.range' i n)).run P w = .ok b w
 | 0, xs, ys, i, b, p, q, _, _, h => by
   simp only [eqRows, Option.some.injEq] at h;subst h;simp [Op.eqItems]
 | n + 1, xs, ys, i, b, p, q, hp, hq, h => by
   rw [eqRows] at h
   split at h
   · rename_i hc
     simp only [Bool.and_eq_true, Nat.ble_eq] at hc
     have hfs : P.fieldsOf el = gs := by simp [Program.fieldsOf, hu]
     have hag : ∀ w, (isAgg el).run P w = .ok true w := fun w => by simp [isAgg, run_underlying hu]
     split at h
     · rename_i r0 hr0
       split at h
       · rename_i r hr
         cases h;have h1 := part_agg hag hz e w p xs (i * m) hp;have h2 := part_agg hag hz e w q ys (i * m) hq
         have h3 : (Op.equalIn (d + 2) el (.agg ((xs.take m).map (den e)).toArray) (.agg ((ys.take m).map (den e)).toArray)).run P w = .ok r0 w := by
          rw [run_equalIn_struct w (d + 1) el _ _ (by rw [hfs]; exact hu) hst, hfs]
          exact eqFs_run e w d gs.toList _ _ 0 r0 [] [] rfl rfl hr0
         have ih := eqRows_run hu hst hz e w d n (xs.drop m) (ys.drop m) (i + 1) r (p ++ (xs.take m).map (den e)) (q ++ (ys.take m).map (den e)) (by rw [List.length_append, List.length_map, List.length_take, hp, Nat.succ_mul]; omega) (by rw [List.length_append, List.length_map, List.length_take, hq, Nat.succ_mul]; omega) hr
         rw [List.append_assoc, List.append_assoc, <- List.map_append, <- List.map_append, List.take_append_drop, List.take_append_drop] at ih;rw [List.range'_succ];simp only [Op.eqItems, Sem.run_bind, h1, h2, Result.andThen_ok, h3];cases r0
         · simp
         · simp only [Bool.not_true, Bool.false_eq_true, if_false, ih, Bool.true_and]
       · cases h
     · cases h
   · cases h
theorem eqF1_run {P : Program} {t : TypeId} {xs ys : List SV} {r : Bool} {z : Nat} (h : eqF1 P t xs ys = some (r, z)) (e : Env) (w : World) (d : Nat) (p q : List Value) (i : Nat) (hp : p.length = i) (hq : q.length = i) :
 z <= xs.length /\ z <= ys.length /\ ∃ u v, (part t (p ++ xs.map (den e)).toArray i).run P w = .ok u w /\ (part t (q ++ ys.map (den e)).toArray i).run P w = .ok v w /\ (Op.equalIn (d + 3) t u v).run P w = .ok r w := by
 unfold eqF1 at h
 split at h
 · rename_i n el z' hu hz
   split at h
   · cases h
   · rename_i hc
     simp only [Bool.not_eq_true, Bool.not_eq_false', Bool.and_eq_true, Nat.ble_eq] at hc;obtain ⟨hx, hy⟩ := hc
     split at h
     · rename_i b hb
       cases h
       have hag : ∀ w, (isAgg t).run P w = .ok true w := fun w => by simp [isAgg, run_underlying hu]
       refine ⟨hx, hy, _, _, part_agg hag hz e w p xs i hp, part_agg hag hz e w q ys i hq, ?_⟩;unfold eqArr at hb
       split at hb
       · rename_i gs m hue hm
         split at hb
         · cases hb
         · rename_i hst
           cases hi : P.info? el with
           | none => rw [hi] at hm; cases hm
           | some inf =>
             have hcel : P.cellsOf el = m := by rw [Program.cellsOf, hm]; rfl
             rw [run_equalIn_array w (d + 2) _ _ hu hi, hcel, List.range_eq_range']
             exact eqRows_run hue (by simpa using hst) hm e w d n _ _ 0 r [] [] (by simp) (by simp) hb
       · cases hb
     · cases h
 · rename_i gs z' hu hz
   split at h
   · cases h
   · rename_i hc
     simp only [Bool.or_eq_true, not_or, Bool.not_eq_true, Bool.not_eq_false', Bool.and_eq_true, Nat.ble_eq] at hc;obtain ⟨hst, hx, hy⟩ := hc
     split at h
     · rename_i b hb
       cases h
       have hfs : P.fieldsOf t = gs := by simp [Program.fieldsOf, hu]
       have hag : ∀ w, (isAgg t).run P w = .ok true w := fun w => by simp [isAgg, run_underlying hu]
       refine ⟨hx, hy, _, _, part_agg hag hz e w p xs i hp, part_agg hag hz e w q ys i hq, ?_⟩
       rw [run_equalIn_struct w (d + 2) t _ _ (by rw [hfs]; exact hu) hst, hfs]
       exact eqFs_run e w (d + 1) gs.toList _ _ 0 r [] [] rfl rfl hb
     · cases h
 · split at h
   · rename_i x _ y _
     split at h
     · rename_i b hb
       cases h;obtain ⟨h1, h2⟩ := eqC_run hb e w (d + 2)
       refine ⟨by simp, by simp, den e x, den e y, h2 _ _ _ ?_, h2 _ _ _ ?_, h1⟩
       · rw [List.getElem?_toArray, List.getElem?_append_right (by omega), hp, Nat.sub_self]; simp
       · rw [List.getElem?_toArray, List.getElem?_append_right (by omega), hq, Nat.sub_self]; simp
     · cases h
   · cases h
theorem eqFs2_run {P : Program} (e : Env) (w : World) (d : Nat) : ∀ (fs : List Field) (xs ys : List SV) (i : Nat) (b : Bool) (p q : List Value), p.length = i -> q.length = i -> eqFs2 P fs xs ys i = some b ->
 (Op.eqFields (d + 3) (p ++ xs.map (den e)).toArray (q ++ ys.map (den e)).toArray fs).run P w = .ok b w
 | [], xs, ys, i, b, p, q, _, _, h => by
   simp only [eqFs2, Option.some.injEq] at h;subst h;simp [Op.eqFields]
 | f :: fs, xs, ys, i, b, p, q, hp, hq, h => by
   rw [eqFs2] at h
   split at h
   · rename_i hc
     simp only [Bool.and_eq_true, bne_iff_ne, ne_eq] at hc;have hoff : f.offset = i := Nat.eq_of_beq_eq_true hc.2
     split at h
     · rename_i r0 z hr0
       obtain ⟨hx, hy, u, v, h1, h2, h3⟩ := eqF1_run hr0 e w d p q i hp hq
       split at h
       · rename_i r hr
         cases h
         have ih := eqFs2_run e w d fs (xs.drop z) (ys.drop z) (i + z) r (p ++ (xs.take z).map (den e)) (q ++ (ys.take z).map (den e)) (by simp [hp]; omega) (by simp [hq]; omega) hr
         rw [List.append_assoc, List.append_assoc, <- List.map_append, <- List.map_append, List.take_append_drop, List.take_append_drop] at ih;simp only [Op.eqFields];rw [if_pos hc.1, hoff];simp only [Sem.run_bind, h1, h2, Result.andThen_ok, h3];cases r0
         · simp
         · simp only [Bool.not_true, Bool.false_eq_true, if_false, ih, Bool.true_and]
       · cases h
     · cases h
   · cases h
theorem eqFsA_run {P : Program} (e : Env) (w : World) (fs : List Field) (xs ys : List SV) (b : Bool) (h : eqFsA P fs xs ys = some b) :
 (Op.eqFields 9999 (xs.map (den e)).toArray (ys.map (den e)).toArray fs).run P w = .ok b w := by
 unfold eqFsA at h
 split at h
 · rename_i b' hb
   cases h;exact eqFs_run e w 9998 fs xs ys 0 b [] [] rfl rfl hb
 · exact eqFs2_run e w 9996 fs xs ys 0 b [] [] rfl rfl h
theorem eqIs_run {P : Program} (e : Env) (w : World) (d : Nat) {t : TypeId} : ∀ (n : Nat) (xs ys : List SV) (i : Nat) (b : Bool) (p q : List Value), p.length = i -> q.length = i -> eqIs (P.underlying t) n xs ys = some b ->
 (Op.eqItems (d + 1) t 1 (p ++ xs.map (den e)).toArray (q ++ ys.map (den e)).toArray (List.range' i n)).run P w = .ok b w
 | 0, xs, ys, i, b, p, q, _, _, h => by
   simp only [eqIs, Option.some.injEq] at h;subst h;simp [Op.eqItems]
 | n + 1, [], _, i, b, p, q, _, _, h => by simp [eqIs] at h
 | n + 1, x :: xs, [], i, b, p, q, _, _, h => by simp [eqIs] at h
 | n + 1, x :: xs, y :: ys, i, b, p, q, hp, hq, h => by
   rw [eqIs] at h
   have ex : (p ++ (x :: xs).map (den e)).toArray[i * 1]? = some (den e x) := by
    rw [Nat.mul_one, List.getElem?_toArray, List.getElem?_append_right (by omega), hp, Nat.sub_self]; simp
   have ey : (q ++ (y :: ys).map (den e)).toArray[i * 1]? = some (den e y) := by
    rw [Nat.mul_one, List.getElem?_toArray, List.getElem?_append_right (by omega), hq, Nat.sub_self]; simp
   split at h
   · rename_i r0 hr0
     obtain ⟨h1, h2⟩ := eqC_run hr0 e w d
     split at h
     · rename_i r hr
       cases h
       have ih := eqIs_run e w d n xs ys (i + 1) r (p ++ [den e x]) (q ++ [den e y]) (by simp [hp]) (by simp [hq]) hr
       have ih : (Op.eqItems (d + 1) t 1 (p ++ (x :: xs).map (den e)).toArray (q ++ (y :: ys).map (den e)).toArray (List.range' (i + 1) n)).run P w = .ok r w := by simpa using ih
       rw [List.range'_succ];simp only [Op.eqItems, Sem.run_bind, h2 _ _ _ ex, h2 _ _ _ ey, Result.andThen_ok, h1];cases r0
       · simp
       · simp only [Bool.not_true, Bool.false_eq_true, if_false, ih, Bool.true_and]
     · cases h
   · cases h
theorem sEqA_sound {P : Program} {op : BinOp} {t : TypeId} {xs ys : List SV} {K : SV -> Prop} (h : sEqA P op t xs ys K) :
 ∃ v, K (.v v) /\ ∀ (e : Env) (w : World) (p q : Operand), (do eqGuard op t p q (den e (.agg xs)) (den e (.agg ys)); binOp op t (den e (.agg xs)) (den e (.agg ys)) : Sem Value).run P w = .ok v w := by
 unfold sEqA at h
 split at h
 · rename_i fs hu
   split at h
   · exact h.elim
   · rename_i hg
     simp only [Bool.or_eq_true, not_or, Bool.not_eq_true] at hg
     split at h
     · rename_i b hb
       have hfs : P.fieldsOf t = fs := by simp [Program.fieldsOf, hu]
       have hrun : ∀ (e : Env) (w : World), (Op.equalIn 10000 t (.agg (denL e xs).toArray) (.agg (denL e ys).toArray)).run P w = .ok b w := fun e w => by
        rw [show (10000 : Nat) = 9999 + 1 from rfl, run_equalIn_struct w 9999 t _ _ (by rw [hfs]; exact hu) hg.1, hfs, denL_eq, denL_eq]
        exact eqFsA_run e w fs.toList xs ys b hb
       split at h
       · refine ⟨_, h, fun e w p q => ?_⟩
         simp only [den, Sem.run_bind, run_eqGuard_agg w _ t p q _ _ hg.2, Result.andThen_ok, run_eql_struct, hrun]
       · refine ⟨_, h, fun e w p q => ?_⟩
         simp only [den, Sem.run_bind, run_eqGuard_agg w _ t p q _ _ hg.2, Result.andThen_ok, run_neq_struct, hrun]
       · exact h.elim
     · exact h.elim
 · rename_i n el hu
   split at h
   · exact h.elim
   · rename_i hg
     simp only [Bool.or_eq_true, not_or, Bool.not_eq_true, Bool.not_eq_false'] at hg
     split at h
     · rename_i inf b hi hb
       have hc : P.cellsOf el = 1 := Nat.eq_of_beq_eq_true hg.2
       have hrun : ∀ (e : Env) (w : World), (Op.equalIn 10000 t (.agg (denL e xs).toArray) (.agg (denL e ys).toArray)).run P w = .ok b w := fun e w => by
        rw [show (10000 : Nat) = 9999 + 1 from rfl, run_equalIn_array w 9999 _ _ hu hi, hc, denL_eq, denL_eq, List.range_eq_range']
        exact eqIs_run e w 9998 n xs ys 0 b [] [] rfl rfl hb
       split at h
       · refine ⟨_, h, fun e w p q => ?_⟩
         simp only [den, Sem.run_bind, run_eqGuard_agg w _ t p q _ _ hg.1, Result.andThen_ok, run_eql_struct, hrun]
       · refine ⟨_, h, fun e w p q => ?_⟩
         simp only [den, Sem.run_bind, run_eqGuard_agg w _ t p q _ _ hg.1, Result.andThen_ok, run_neq_struct, hrun]
       · exact h.elim
     · exact h.elim
 · exact h.elim
theorem sBin_sound {P : Program} {op : BinOp} {t yt : TypeId} {x y : Operand} {c : Ctx} {s : St} {K : SV -> Prop} (h : sBin P op t (ev s x) (ev s y) K) :
 ∃ sv, K sv /\ RunsTo P (.binOp op t x y yt) c s sv := by
 unfold sBin at h
 split at h
 · rename_i k a k' b hx hy
   split at h
   · rename_i hk
     obtain ⟨v, hK, hrun⟩ := sBinInt_sound (P := P) hk h;refine ⟨_, hK, .of fun e a' w _ hA d ty pos af g => ?_⟩;simp only [execOp, ev_v hA hx, ev_v hA hy, eqGuard]
     cases op <;> simp [hrun, den]
   · exact h.elim
 · rename_i a b hx hy
   obtain ⟨v, hK, hrun⟩ := sBinStr_sound (P := P) h;refine ⟨_, hK, .of fun e a' w _ hA d ty pos af g => ?_⟩;simp only [execOp, ev_v hA hx, ev_v hA hy, eqGuard]
   cases op <;> simp [hrun, den]
 · rename_i xs ys hx hy
   obtain ⟨v, hK, hrun⟩ := sEqA_sound h;refine ⟨_, hK, .of fun e a' w _ hA d ty pos af g => ?_⟩;have h1 := ev_d hA hx rfl;have h2 := ev_d hA hy rfl;simp only [execOp, h1, h2];simp only [Sem.run_bind, hrun e w x y];simp [den]
 · split at h
   · obtain ⟨b, hK, hj1, hj2, hrun⟩ := sEq_sound h
     refine ⟨_, hK, .of fun e a' w _ hA d ty pos af g => ?_⟩;simp only [execOp, ev_ok hA x hj1, ev_ok hA y hj2];simp only [Sem.run_bind, (hrun e w x y).1];simp [den]
   · obtain ⟨b, hK, hj1, hj2, hrun⟩ := sEq_sound h
     refine ⟨_, hK, .of fun e a' w _ hA d ty pos af g => ?_⟩;simp only [execOp, ev_ok hA x hj1, ev_ok hA y hj2];simp only [Sem.run_bind, (hrun e w x y).2];simp [den]
   · exact h.elim
end Go.SE
namespace Go.SE
open Go.RowKit
inductive Sh where
 | int (k : IntKind)
 | bool | str | sl | ptr | map | other
def shOf (P : Program) (t : TypeId) : Sh :=
 match P.underlying t with
 | some (.int k) => .int k
 | some .bool => .bool
 | some .string => .str
 | some (.slice _) => .sl
 | some (.pointer _) => .ptr
 | some (.map _ _) => .map
 | _ => .other
def isAggT (P : Program) (t : TypeId) : Option Bool :=
 match P.underlying t with
 | some (.struct _) => some true
 | some (.array _ _) => some true
 | some _ => some false
 | none => none
def reps {α : Type} (l : List α) : Nat -> List α
 | 0 => []
 | n + 1 => l ++ reps l n
def leaves (P : Program) : Nat -> TypeId -> List Sh
 | 0, _ => []
 | d + 1, t =>
   match P.underlying t with
   | some (.struct fs) => fs.toList.flatMap fun f => leaves P d f.type
   | some (.array n e) => reps (leaves P d e) n
   | _ => [shOf P t]
def szT (P : Program) (t : TypeId) : Option Nat := (P.info? t).map (·.size)
def ExSh (sh : Sh) (p : Value -> Prop) (K : SV -> Prop) : Prop :=
 match sh with
 | .int k => ∃ n : Int, p (.int k n) /\ K (.v (.int k n))
 | .bool => ∃ b : Bool, p (.bool b) /\ K (.v (.bool b))
 | .str => ∃ q : ByteArray, p (.string q) /\ K (.v (.string q))
 | .sl => ∃ (a : Option Addr) (n c : Nat), p (.slice a n c) /\ K (.v (.slice a n c))
 | .ptr => ∃ a : Option Addr, p (.pointer a) /\ K (.v (.pointer a))
 | .map => ∃ r : Option Nat, p (.map r) /\ K (.v (.map r))
 | .other => ∃ x : Value, p x /\ K (.v x)
def ExShL : List Sh -> Nat -> (Nat -> Value -> Prop) -> (List SV -> Prop) -> Prop
 | [], _, _, K => K []
 | sh :: r, j, p, K => ExSh sh (p j) fun sv => ExShL r (j + 1) p fun l => K (sv :: l)
def ExT (P : Program) (t : TypeId) (p : Nat -> Value -> Prop) (K : SV -> Prop) : Prop :=
 match isAggT P t, szT P t with
 | some true, some z => (leaves P 12 t).length = z /\ ExShL (leaves P 12 t) 0 p fun l => K (.agg l)
 | some false, some _ => ExSh (shOf P t) (p 0) K
 | _, _ => False
theorem ExSh_sound {sh : Sh} {p : Value -> Prop} {K : SV -> Prop} (h : ExSh sh p K) : ∃ v, p v /\ K (.v v) := by
 cases sh <;> simp only [ExSh] at h
 case sl => obtain ⟨a, n, c, h⟩ := h; exact ⟨_, h⟩
 all_goals obtain ⟨x, h⟩ := h; exact ⟨_, h⟩
theorem ExShL_sound : ∀ {l : List Sh} {j : Nat} {p : Nat -> Value -> Prop} {K : List SV -> Prop}, ExShL l j p K ->
 ∃ vs : List Value, vs.length = l.length /\ (∀ i v, vs[i]? = some v -> p (j + i) v) /\ K (vs.map .v)
 | [], _, _, _, h => ⟨[], rfl, fun _ _ h => by simp at h, h⟩
 | sh :: r, j, p, K, h => by
   obtain ⟨v, hp, h2⟩ := ExSh_sound h;obtain ⟨vs, h3, h4, h5⟩ := ExShL_sound h2
   refine ⟨v :: vs, by simp [h3], fun i u hu => ?_, h5⟩
   cases i with
   | zero => simp at hu; subst hu; exact hp
   | succ i => have := h4 i u (by simpa using hu); rwa [show j + (i + 1) = j + 1 + i from by omega]
theorem ExT_sound {P : Program} {t : TypeId} {p : Nat -> Value -> Prop} {K : SV -> Prop} (h : ExT P t p K) :
 ∃ b z, isAggT P t = some b /\ szT P t = some z /\
  ((b = true /\ ∃ vs : List Value, vs.length = z /\ (∀ i v, vs[i]? = some v -> p i v) /\ K (.agg (vs.map .v))) \/ (b = false /\ ∃ v, p 0 v /\ K (.v v))) := by
 unfold ExT at h
 split at h
 · rename_i z h1 h2
   obtain ⟨vs, h3, h4, h5⟩ := ExShL_sound h.2
   exact ⟨true, z, h1, h2, .inl ⟨rfl, vs, h3.trans h.1, fun i v hv => by simpa using h4 i v hv, h5⟩⟩
 · rename_i z h1 h2
   exact ⟨false, z, h1, h2, .inr ⟨rfl, ExSh_sound h⟩⟩
 · exact h.elim
theorem denL_v (e : Env) (vs : List Value) : denL e (vs.map .v) = vs := by
 induction vs with
 | nil => rfl
 | cons x xs ih => simp [denL, den, ih]
theorem run_szT {P : Program} {t : TypeId} {z : Nat} (h : szT P t = some z) (w : World) : (sizeOf t).run P w = .ok z w := by
 simp only [szT, Option.map_eq_some_iff] at h;obtain ⟨i, h1, rfl⟩ := h;simp [sizeOf, typeInfo, h1]
theorem run_isAggT {P : Program} {t : TypeId} {b : Bool} (h : isAggT P t = some b) (w : World) : (isAgg t).run P w = .ok b w := by
 unfold isAggT at h
 split at h <;> simp only [Option.some.injEq, reduceCtorEq] at h <;> subst h
 · rename_i fs hu; simp [isAgg, run_underlying hu]
 · rename_i n e hu; simp [isAgg, run_underlying hu]
 · rename_i d h1 h2 hu
   simp only [isAgg, Sem.run_bind, run_underlying hu, Result.andThen_ok]
   cases d <;> simp_all
def aggOf : SV -> Option (List SV)
 | .agg xs => some xs
 | .v (.agg cs) => some (cs.toList.map .v)
 | _ => none
theorem aggOf_den {e : Env} {x : SV} {l : List SV} (h : aggOf x = some l) : isJunk x = false /\ den e x = .agg (l.map (den e)).toArray := by
 unfold aggOf at h
 split at h <;> simp only [Option.some.injEq, reduceCtorEq] at h <;> subst h
 · exact ⟨rfl, by simp [den, denL_eq]⟩
 · refine ⟨rfl, ?_⟩
   rename_i cs;rw [<- denL_eq, denL_v];simp [den]
def sPart (P : Program) (t : TypeId) (l : List SV) (off : Nat) (K : SV -> Prop) : Prop :=
 match isAggT P t, szT P t with
 | some true, some z => K (.agg ((l.drop off).take z))
 | some false, some _ => match l[off]? with
   | some sv => K sv
   | none => False
 | _, _ => False
theorem sPart_sound {P : Program} {t : TypeId} {l : List SV} {off : Nat} {K : SV -> Prop} (h : sPart P t l off K) :
 ∃ sv, K sv /\ ∀ e w, (part t (l.map (den e)).toArray off).run P w = .ok (den e sv) w := by
 unfold sPart at h
 split at h
 · rename_i z h1 h2
   refine ⟨_, h, fun e w => ?_⟩;simp only [part, Sem.run_bind, run_isAggT h1, run_szT h2, Result.andThen_ok, if_true, Sem.run_pure]
   congr 1
   simp only [den, denL_eq, List.extract_toArray, List.extract_eq_take_drop, List.map_take, List.map_drop]
   rw [show off + z - off = z from by omega]
 · rename_i z h1 h2
   split at h
   · rename_i sv hsv
     refine ⟨_, h, fun e w => ?_⟩;simp [part, run_isAggT h1, hsv]
   · exact h.elim
 · exact h.elim
def sField (P : Program) (t : TypeId) (x : SV) (f : Nat) (K : SV -> Prop) : Prop :=
 match P.underlying t, aggOf x with
 | some (.struct fields), some l => match fields[f]? with
   | some fd => sPart P fd.type l fd.offset K
   | none => False
 | _, _ => False
def sExtract (x : SV) (i : Nat) (K : SV -> Prop) : Prop :=
 match x with
 | .tup xs => match xs[i]? with
   | some sv => K sv
   | none => False
 | .v (.tuple vs) => match vs[i]? with
   | some v => K (.v v)
   | none => False
 | _ => False
def litOf : Operand -> Option Int
 | .const (.int _ n) => some n
 | _ => none
def vOf : SV -> Option Value
 | .v x => some x
 | _ => none
theorem vOf_den {e : Env} {o : Option SV} {v : Value} (h : o.bind vOf = some v) : ∃ sv, o = some sv /\ den e sv = v := by
 cases o with
 | none => simp at h
 | some sv =>
   simp only [Option.bind_some] at h;unfold vOf at h
   split at h <;> simp only [Option.some.injEq, reduceCtorEq] at h
   subst h
   exact ⟨_, rfl, by simp [den]⟩
def sIndex (P : Program) (t : TypeId) (x : SV) (i : Operand) (iv : SV) (K : SV -> Prop) : Prop :=
 match P.underlying t, x, iv with
 | some .string, .v (.string q), .v (.int _ n) => ∃ c : UInt8, q.data.toList[n.toNat]? = some c /\ 0 <= n /\ K (.v (.int .u8 c.toNat))
 | some (.array len el), x, .v (.int _ n) =>
   match aggOf x, szT P el with
   | some l, some z => match litOf i with
     | some m => if decide (0 <= m) && decide (m < len) then sPart P el l (m.toNat * z) K else False
     | none => if l.all (fun x => (vOf x).isSome) then 0 <= n /\ n < len /\ ExT P el (fun j v => ((l[n.toNat * z + j]?).bind vOf) = some v) K else 0 <= n /\ n < len /\ sPart P el l (n.toNat * z) K
   | _, _ => False
 | _, _, _ => False
section
variable {P : Program} {c : Ctx} {s : St} {K : SV -> Prop}
theorem sField_sound {t : TypeId} {x : Operand} {f : Nat} (h : sField P t (ev s x) f K) : ∃ sv, K sv /\ RunsTo P (.field t x f) c s sv := by
 unfold sField at h
 split at h
 · rename_i fields l hu hl
   split at h
   · rename_i fd hfd
     obtain ⟨sv, hK, hr⟩ := sPart_sound h;refine ⟨sv, hK, .of fun e a w _ hA d ty pos af g => ?_⟩;obtain ⟨hj, hd⟩ := aggOf_den (e := e) hl;simp [execOp, ev_ok hA x hj, hd, Instr.field, run_underlying hu, hfd, asAgg, hr]
   · exact h.elim
 · exact h.elim
theorem sExtract_sound {x : Operand} {i : Nat} (h : sExtract (ev s x) i K) : ∃ sv, K sv /\ RunsTo P (.extract x i) c s sv := by
 unfold sExtract at h
 split at h
 · rename_i xs hx
   split at h
   · rename_i sv hsv
     refine ⟨sv, h, .of fun e a w _ hA d ty pos af g => ?_⟩;simp [execOp, ev_d hA hx rfl, den, denL_eq, Instr.extract, hsv]
   · exact h.elim
 · rename_i vs hx
   split at h
   · rename_i v hv
     refine ⟨_, h, .of fun e a w _ hA d ty pos af g => ?_⟩;simp [execOp, ev_v hA hx, den, Instr.extract, hv]
   · exact h.elim
 · exact h.elim
theorem litOf_ev {i : Operand} {m n : Int} {k : IntKind} (h : litOf i = some m) (he : ev s i = .v (.int k n)) : m = n := by
 unfold litOf at h
 split at h <;> simp only [Option.some.injEq, reduceCtorEq] at h
 subst h;simp only [ev, SV.v.injEq, Value.int.injEq] at he;exact he.2
theorem sIndex_sound {t : TypeId} {x i : Operand} (h : sIndex P t (ev s x) i (ev s i) K) : ∃ sv, K sv /\ RunsTo P (.index t x i) c s sv := by
 unfold sIndex at h
 split at h
 · rename_i q k n hu hx hi
   obtain ⟨b, hb, h0, hK⟩ := h;refine ⟨_, hK, .of fun e a w _ hA d ty pos af g => ?_⟩
   have hb' : q[n.toNat]? = some b := by
    have hlt : n.toNat < q.size := by
     have := (List.getElem?_eq_some_iff.1 hb).1;simpa using this
    have h2 := (List.getElem?_eq_some_iff.1 hb).2;rw [getElem?_pos q n.toNat hlt]
    congr 1
   simp [execOp, ev_v hA hx, ev_v hA hi, den, Instr.index, asIntOf, run_underlying hu, h0, hb']
 · rename_i len el k n hu hi
   split at h
   · rename_i l z hl hz
     split at h
     · rename_i m hm
       have hmn := litOf_ev hm hi;subst hmn
       split at h
       · rename_i hb
         simp only [Bool.and_eq_true, decide_eq_true_eq] at hb;obtain ⟨sv, hK, hr⟩ := sPart_sound h;refine ⟨sv, hK, .of fun e a w _ hA d ty pos af g => ?_⟩;obtain ⟨hj, hd⟩ := aggOf_den (e := e) hl;simp [execOp, ev_ok hA x hj, hd, ev_v hA hi, Instr.index, asIntOf, run_underlying hu, hb, run_szT hz, hr]
       · exact h.elim
     · split at h
       · obtain ⟨h0, h1, h2⟩ := h
         obtain ⟨b, z', hb, hz', h3⟩ := ExT_sound h2
         obtain rfl : z = z' := by rw [hz] at hz'; exact Option.some.inj hz'
         rcases h3 with ⟨rfl, vs, hl1, hv, hK⟩ | ⟨rfl, v, hv, hK⟩
         · refine ⟨_, hK, .of fun e a w _ hA d ty pos af g => ?_⟩
           obtain ⟨hj, hd⟩ := aggOf_den (e := e) hl
           have hex : List.take z (List.drop (n.toNat * z) (l.map (den e))) = vs := by
            apply List.ext_getElem?;intro j;simp only [List.getElem?_take, List.getElem?_drop, List.getElem?_map]
            by_cases hjz : j < z
            · obtain ⟨v, hvj⟩ : ∃ v, vs[j]? = some v := ⟨_, List.getElem?_eq_getElem (by omega)⟩
              obtain ⟨sv, hs1, hs2⟩ := vOf_den (e := e) (hv j v hvj);rw [if_pos hjz, hs1, hvj];simp [hs2]
            · rw [if_neg hjz, List.getElem?_eq_none (by omega)]
           have hex2 : (l.map (den e)).toArray.extract (n.toNat * z) (n.toNat * z + z) = vs.toArray := by
            simp only [List.extract_toArray, List.extract_eq_take_drop]
            rw [show n.toNat * z + z - n.toNat * z = z from by omega, hex]
           have hp : (part el (l.map (den e)).toArray (n.toNat * z)).run P w = .ok (.agg vs.toArray) w := by
            simp only [part, Sem.run_bind, run_isAggT hb, run_szT hz, Result.andThen_ok, if_true, Sem.run_pure, hex2]
           simp [execOp, ev_ok hA x hj, hd, ev_v hA hi, Instr.index, asIntOf, run_underlying hu, h0, h1, run_szT hz, hp];simp [den, denL_v]
         · refine ⟨_, hK, .of fun e a w _ hA d ty pos af g => ?_⟩
           obtain ⟨hj, hd⟩ := aggOf_den (e := e) hl;obtain ⟨sv, hs1, hs2⟩ := vOf_den (e := e) hv;simp only [Nat.add_zero] at hs1;simp [execOp, ev_ok hA x hj, hd, ev_v hA hi, Instr.index, asIntOf, run_underlying hu, h0, h1, run_szT hz, part, run_isAggT hb, hs1, hs2, den]
       · obtain ⟨h0, h1, h2⟩ := h
         obtain ⟨sv, hK, hr⟩ := sPart_sound h2;refine ⟨sv, hK, .of fun e a w _ hA d ty pos af g => ?_⟩;obtain ⟨hj, hd⟩ := aggOf_den (e := e) hl;simp [execOp, ev_ok hA x hj, hd, ev_v hA hi, Instr.index, asIntOf, run_underlying hu, h0, h1, run_szT hz, hr]
   · exact h.elim
 · exact h.elim
end
end Go.SE
namespace Go.SE
open Go.RowKit
def cellM (I : Mem) (a : Addr) : Option Value :=
 match I a.block with
 | some (.cells c _ _) => if a.spot.isSome then none else c[a.off]?
 | _ => none
def atI (I : Mem) (a : Option Addr) (k : Nat) : Option Value := a.bind fun ad => cellM I (ad.add k)
theorem cellM_world {I : Mem} {w : World} (h : I.inW w) {a : Addr} {v : Value} (hc : cellM I a = some v) : w.cell? a = some v := by
 unfold cellM at hc
 split at hc
 · rename_i c el fz hb
   simp [World.cell?, h _ _ hb, hc]
 · cases hc
theorem cellM_le {I J : Mem} (h : I.le J) {a : Addr} {v : Value} (hc : cellM I a = some v) : cellM J a = some v := by
 unfold cellM at hc
 split at hc
 · rename_i c el fz hb
   simp [cellM, h _ _ hb, hc]
 · cases hc
theorem atI_le {I J : Mem} (h : I.le J) {a : Option Addr} {k : Nat} {v : Value} (hc : atI I a k = some v) : atI J a k = some v := by
 cases a with
 | none => simp [atI] at hc
 | some ad => simp only [atI, Option.bind_some] at hc ⊢; exact cellM_le h hc
def sladdr (a : Option Addr) (c l z : Nat) : Option Addr := if c = l then a else a.map (·.add (l * z))
def bnd (s : St) : Option Operand -> Option (Option Int)
 | none => some none
 | some x => match ev s x with
   | .v (.int _ n) => some (some n)
   | _ => none
theorem bnd_run {s : St} {e : Env} {a : Act} (hA : SatA e s a) {x : Option Operand} {r : Option Int} (h : bnd s x = some r) :
 (∃ k n, r = some n /\ x.map a.eval = some (.int k n)) \/ (r = none /\ x.map a.eval = none) := by
 unfold bnd at h
 split at h
 · simp at h; subst h; exact .inr ⟨rfl, rfl⟩
 · split at h
   · rename_i k n hx
     simp only [Option.some.injEq] at h;subst h
     exact .inl ⟨k, n, rfl, by simp [ev_v hA hx]⟩
   · cases h
def sIndexAddr (P : Program) (s : St) (t : TypeId) (x : SV) (i : Operand) (iv : SV) (K : SV -> Prop) : Prop :=
 match P.underlying t, x, iv with
 | some (.slice el), .v (.slice a n _), .v (.int _ m) => match szT P el with
   | some z => 0 <= m /\ m < n /\ a.isSome = true /\ K (.ep a (m.toNat * z))
   | none => False
 | some (.slice el), .rsl id len, .v (.int _ m) => match szT P el, s.H[id]? with
   | some z, some ⟨.row xs sz _, _⟩ => 0 <= m /\ m < len /\ len * sz <= xs.length /\ K (.sptr id (m.toNat * z))
   | _, _ => False
 | some (.slice el), .xsl id off len _, .v (.int _ m) => match szT P el, litOf i with
   | some z, some q => 0 <= q /\ q < len /\ K (.ptr id (off + q.toNat * z))
   | some z, none => 0 <= m /\ m < len /\ K (.sptr id (off + m.toNat * z))
   | _, _ => False
 | some (.array n el), .ptr id off, .v (.int _ m) => match szT P el, litOf i with
   | some z, some q => 0 <= q /\ q < n /\ K (.ptr id (off + q.toNat * z))
   | some z, none => 0 <= m /\ m < n /\ K (.sptr id (off + m.toNat * z))
   | _, _ => False
 | some (.array n el), .sptr id off, .v (.int _ m) => match szT P el with
   | some z => 0 <= m /\ m < n /\ K (.sptr id (off + m.toNat * z))
   | none => False
 | some (.array n el), .ep a k, .v (.int _ m) => match szT P el with
   | some z => 0 <= m /\ m < n /\ a.isSome = true /\ K (.ep a (k + m.toNat * z))
   | none => False
 | some (.array n el), .v (.pointer a), .v (.int _ m) => match szT P el with
   | some z => 0 <= m /\ m < n /\ a.isSome = true /\ K (.ep a (m.toNat * z))
   | none => False
 | _, _, _ => False
theorem add_add (a : Addr) (m n : Nat) : (a.add m).add n = a.add (m + n) := by
 unfold Addr.add
 by_cases hm : m = 0 <;> by_cases hn : n = 0 <;> simp [hm, hn, Nat.add_assoc]
section
variable {P : Program} {c : Ctx} {s : St} {K : SV -> Prop}
theorem sIndexAddr_sound {t : TypeId} {x i : Operand} (h : sIndexAddr P s t (ev s x) i (ev s i) K) : ∃ sv, K sv /\ RunsTo P (.indexAddr t x i) c s sv := by
 unfold sIndexAddr at h
 split at h
 · rename_i el ad n cp k m hu hx hi
   split at h
   · rename_i z hz
     obtain ⟨h0, h1, h2, hK⟩ := h;obtain ⟨ad, rfl⟩ := Option.isSome_iff_exists.1 h2;refine ⟨_, hK, .of fun e a w _ hA d ty pos af g => ?_⟩;simp [execOp, ev_v hA hx, ev_v hA hi, Instr.indexAt, run_underlying hu, asIntOf, h0, h1, run_szT hz, den]
   · exact h.elim
 · rename_i el id len k m hu hx hi
   split at h
   · rename_i z xs sz el' nm hz hH
     obtain ⟨h0, h1, h2, hK⟩ := h;refine ⟨_, hK, .of fun e a w hS hA d ty pos af g => ?_⟩;have hh := (hS.owned id _ hH rfl).1;simp only [holds] at hh
     have hnil : e.nil id = false := by
      rcases hh.2.2 with ⟨_, _, rfl⟩ | ⟨hn, _⟩
      · exfalso
        simp only [List.length_nil, Nat.le_zero, Nat.mul_eq_zero] at h2;have := hh.1;omega
      · exact hn
     simp [execOp, ev_d hA hx rfl, ev_v hA hi, Instr.indexAt, run_underlying hu, asIntOf, h0, h1, run_szT hz, den, hnil, Addr.add_lit]
   · exact h.elim
 · rename_i el id off len cp k m hu hx hi
   split at h
   · rename_i z q hz hq
     have hqm := litOf_ev hq hi;subst hqm;obtain ⟨h0, h1, hK⟩ := h;refine ⟨_, hK, .of fun e a w hS hA d ty pos af g => ?_⟩;simp [execOp, ev_d hA hx rfl, ev_v hA hi, Instr.indexAt, run_underlying hu, asIntOf, h0, h1, run_szT hz, den, Addr.add_lit]
   · rename_i z hz hq
     obtain ⟨h0, h1, hK⟩ := h;refine ⟨_, hK, .of fun e a w hS hA d ty pos af g => ?_⟩;simp [execOp, ev_d hA hx rfl, ev_v hA hi, Instr.indexAt, run_underlying hu, asIntOf, h0, h1, run_szT hz, den, Addr.add_lit]
   · exact h.elim
 · rename_i n el id off k m hu hx hi
   split at h
   · rename_i z q hz hq
     have hqm := litOf_ev hq hi;subst hqm;obtain ⟨h0, h1, hK⟩ := h;refine ⟨_, hK, .of fun e a w hS hA d ty pos af g => ?_⟩;simp [execOp, ev_d hA hx rfl, ev_v hA hi, Instr.indexAt, run_underlying hu, asIntOf, Instr.sureAddr, h0, h1, run_szT hz, den, Addr.add_lit]
   · rename_i z hz hq
     obtain ⟨h0, h1, hK⟩ := h;refine ⟨_, hK, .of fun e a w hS hA d ty pos af g => ?_⟩;simp [execOp, ev_d hA hx rfl, ev_v hA hi, Instr.indexAt, run_underlying hu, asIntOf, Instr.sureAddr, h0, h1, run_szT hz, den, Addr.add_lit]
   · exact h.elim
 · rename_i n el id off k m hu hx hi
   split at h
   · rename_i z hz
     obtain ⟨h0, h1, hK⟩ := h;refine ⟨_, hK, .of fun e a w hS hA d ty pos af g => ?_⟩;simp [execOp, ev_d hA hx rfl, ev_v hA hi, Instr.indexAt, run_underlying hu, asIntOf, Instr.sureAddr, h0, h1, run_szT hz, den, Addr.add_lit]
   · exact h.elim
 · rename_i n el ad k0 k m hu hx hi
   split at h
   · rename_i z hz
     obtain ⟨h0, h1, h2, hK⟩ := h;obtain ⟨ad, rfl⟩ := Option.isSome_iff_exists.1 h2;refine ⟨_, hK, .of fun e a w hS hA d ty pos af g => ?_⟩;simp [execOp, ev_d hA hx rfl, ev_v hA hi, Instr.indexAt, run_underlying hu, asIntOf, Instr.sureAddr, h0, h1, run_szT hz, den, add_add]
   · exact h.elim
 · rename_i n el ad k m hu hx hi
   split at h
   · rename_i z hz
     obtain ⟨h0, h1, h2, hK⟩ := h;obtain ⟨ad, rfl⟩ := Option.isSome_iff_exists.1 h2;refine ⟨_, hK, .of fun e a w hS hA d ty pos af g => ?_⟩;simp [execOp, ev_v hA hx, ev_v hA hi, Instr.indexAt, run_underlying hu, asIntOf, Instr.sureAddr, h0, h1, run_szT hz, den]
   · exact h.elim
 · exact h.elim
end
def sFieldAddr (P : Program) (t : TypeId) (x : SV) (f : Nat) (K : SV -> Prop) : Prop :=
 match P.underlying t with
 | some (.struct fields) => match fields[f]? with
   | some fd => match szT P fd.type with
     | some (_ + 1) => match x with
       | .ptr id off => K (.ptr id (off + fd.offset))
       | .sptr id off => K (.sptr id (off + fd.offset))
       | .ep a k => a.isSome = true /\ K (.ep a (k + fd.offset))
       | .v (.pointer a) => a.isSome = true /\ K (.ep a fd.offset)
       | _ => False
     | _ => False
   | none => False
 | _ => False
theorem sFieldAddr_sound {P : Program} {c : Ctx} {s : St} {K : SV -> Prop} {t : TypeId} {x : Operand} {f : Nat} (h : sFieldAddr P t (ev s x) f K) :
 ∃ sv, K sv /\ RunsTo P (.fieldAddr t x f) c s sv := by
 unfold sFieldAddr at h
 split at h
 · rename_i fields hu
   split at h
   · rename_i fd hfd
     split at h
     · rename_i z hz
       split at h
       · rename_i id off hx
         refine ⟨_, h, .of fun e a w hS hA d ty pos af g => ?_⟩;simp [execOp, ev_d hA hx rfl, Instr.fieldAt, run_underlying hu, hfd, Instr.sureAddr, fieldPlace, run_szT hz, den, Addr.add_lit]
       · rename_i id off hx
         refine ⟨_, h, .of fun e a w hS hA d ty pos af g => ?_⟩;simp [execOp, ev_d hA hx rfl, Instr.fieldAt, run_underlying hu, hfd, Instr.sureAddr, fieldPlace, run_szT hz, den, Addr.add_lit]
       · rename_i ad k hx
         obtain ⟨h2, hK⟩ := h;obtain ⟨ad, rfl⟩ := Option.isSome_iff_exists.1 h2;refine ⟨_, hK, .of fun e a w hS hA d ty pos af g => ?_⟩;simp [execOp, ev_d hA hx rfl, Instr.fieldAt, run_underlying hu, hfd, Instr.sureAddr, fieldPlace, run_szT hz, den, add_add]
       · rename_i ad hx
         obtain ⟨h2, hK⟩ := h;obtain ⟨ad, rfl⟩ := Option.isSome_iff_exists.1 h2;refine ⟨_, hK, .of fun e a w hS hA d ty pos af g => ?_⟩;simp [execOp, ev_v hA hx, Instr.fieldAt, run_underlying hu, hfd, Instr.sureAddr, fieldPlace, run_szT hz, den]
       · exact h.elim
     · exact h.elim
   · exact h.elim
 · exact h.elim
def nz (P : Program) (t : TypeId) : Bool :=
 match szT P t with
 | some 0 => false
 | _ => true
def isPtrT (P : Program) (t : TypeId) : Bool :=
 match P.underlying t with
 | some (.pointer _) => true
 | _ => false
def isVS : SV -> Bool
 | .v _ => true
 | _ => false
def splitS (cs : List SV) (off z : Nat) (K : SV -> Prop) : Nat -> Prop
 | 0 => True
 | n + 1 => splitS cs off z K n /\ (off = n * z -> if Nat.ble (n * z + z) cs.length && ((cs.drop (n * z)).take z).all (fun x => !isJunk x) then K (.agg ((cs.drop (n * z)).take z)) else False)
theorem splitS_get {cs : List SV} {off z : Nat} {K : SV -> Prop} : ∀ {n q : Nat}, splitS cs off z K n -> q < n -> off = q * z -> if Nat.ble (off + z) cs.length && ((cs.drop off).take z).all (fun x => !isJunk x) then K (.agg ((cs.drop off).take z)) else False
 | n + 1, q, h, hq, e => by
   by_cases hn : q = n
   · subst hn
     have := h.2 e
     rwa [<- e] at this
   · exact splitS_get h.1 (by omega) e
def sLoad (P : Program) (s : St) (t : TypeId) (x : SV) (K : SV -> Prop) : Prop :=
 match x with
 | .ptr id off => match s.H[id]? with
   | some ⟨.cells cs _, _⟩ => match isAggT P t, szT P t with
     | some true, some z => if nz P t && (Nat.ble (off + z) cs.length && ((cs.drop off).take z).all (fun x => !isJunk x)) then K (.agg ((cs.drop off).take z)) else False
     | some false, some _ => match cs[off]? with
       | some sv => if isJunk sv then False else K sv
       | none => False
     | _, _ => False
   | some ⟨.row xs _ _, _⟩ => if nz P t then ExT P t (fun j v => xs[off + j]? = some v) K else False
   | some ⟨.vec xs _, _⟩ => if nz P t then ExT P t (fun j v => xs[off + j]? = some v) K else False
   | _ => False
 | .sptr id off => match s.H[id]? with
   | some ⟨.cells cs _, _⟩ => match isPtrT P t with
     | true => match isAggT P t, szT P t with
       | some true, some z => if nz P t && (Nat.ble (off + z) cs.length && ((cs.drop off).take z).all (fun x => !isJunk x)) then K (.agg ((cs.drop off).take z)) else False
       | some false, some _ => match cs[off]? with
         | some sv => if isJunk sv then False else K sv
         | none => False
       | _, _ => False
     | false => if cs.all isVS then (if nz P t then ExT P t (fun j v => ((cs[off + j]?).bind vOf) = some v) K else False) else match isAggT P t, szT P t with
       | some true, some z => if nz P t && Nat.blt 0 z then off % z = 0 /\ off + z <= cs.length /\ splitS cs off z K (cs.length / z) else False
       | _, _ => if nz P t then ExT P t (fun j v => ((cs[off + j]?).bind vOf) = some v) K else False
   | some ⟨.row xs _ _, _⟩ => if nz P t then ExT P t (fun j v => xs[off + j]? = some v) K else False
   | some ⟨.vec xs _, _⟩ => if nz P t then ExT P t (fun j v => xs[off + j]? = some v) K else False
   | _ => False
 | .ep a k => if nz P t then ExT P t (fun j v => atI s.I a (k + j) = some v) K else False
 | .v (.pointer a) => if nz P t then ExT P t (fun j v => atI s.I a j = some v) K else False
 | _ => False
theorem run_loadVarT {P : Program} {t : TypeId} {z : Nat} {b : Bool} (hz : szT P t = some z) (hb : isAggT P t = some b) (w : World) (a : Addr) :
 (b = true -> ∀ vs : List Value, vs.length = z -> (∀ j v, vs[j]? = some v -> w.cell? (a.add j) = some v) -> (loadVar t a).run P w = .ok (.agg vs.toArray) w) /\
 (b = false -> ∀ v, w.cell? a = some v -> (loadVar t a).run P w = .ok v w) := by
 constructor
 · rintro rfl vs rfl hv
   have := run_loadCells_list (P := P) (w := w) a vs hv;simp only [loadVar, Sem.run_bind, run_isAggT hb, run_szT hz, Result.andThen_ok, if_true, this];rfl
 · rintro rfl v hv
   simp [loadVar, run_isAggT hb, hv]
theorem holds_cells_owned {c : Ctx} {e : Env} {s : St} {w : World} (hS : Sat c e s w) {id : Nat} {cs : List SV} {el : TypeId} {nm : Option Nat}
 (hH : s.H[id]? = some ⟨.cells cs el, nm⟩) :
 ∀ (k : Nat) (sv : SV), cs[k]? = some sv -> isJunk sv = false -> w.cell? ⟨e.blk id, k, none⟩ = some (den e sv) := by
 intro k sv hk hj;obtain ⟨⟨_, arr, h1, h2, h3⟩, _⟩ := hS.owned id _ hH rfl
 simp only at h1
 simp [World.cell?, h1, h3 k sv hk hj]
theorem holds_vec_owned {c : Ctx} {e : Env} {s : St} {w : World} (hS : Sat c e s w) {id : Nat} {xs : List Value} {el : TypeId} {nm : Option Nat}
 (hH : s.H[id]? = some ⟨.vec xs el, nm⟩) : ∀ (k : Nat) (v : Value), xs[k]? = some v -> w.cell? ⟨e.blk id, k, none⟩ = some v := by
 intro k v hk;obtain ⟨⟨_, h1⟩, _⟩ := hS.owned id _ hH rfl
 simp only at h1
 simp [World.cell?, h1, hk]
theorem holds_row_owned {c : Ctx} {e : Env} {s : St} {w : World} (hS : Sat c e s w) {id : Nat} {xs : List Value} {sz : Nat} {el : TypeId} {nm : Option Nat}
 (hH : s.H[id]? = some ⟨.row xs sz el, nm⟩) :
 ∀ (k : Nat) (v : Value), xs[k]? = some v -> e.nil id = false /\ w.cell? ⟨e.blk id, k, none⟩ = some v := by
 intro k v hk;obtain ⟨⟨_, _, hh⟩, _⟩ := hS.owned id _ hH rfl
 rcases hh with ⟨_, _, rfl⟩ | ⟨hn, arr, fz, h1, _, h2, h3, h4, h5⟩
 · simp at hk
 · refine ⟨hn, ?_⟩
   simp only at h1
   have hlt := (List.getElem?_eq_some_iff.1 hk).1
   have : arr.toList[k]? = some v := by
    rw [<- h5, List.getElem?_take] at hk
    split at hk
    · exact hk
    · rename_i hn2; exact absurd hlt hn2
   simp [World.cell?, h1];simpa using this
theorem ep_cells {I : Mem} {w : World} (h : I.inW w) {a : Option Addr} {k : Nat} {v : Value} (hc : atI I a k = some v) :
 ∃ ad, a = some ad /\ w.cell? (ad.add k) = some v := by
 cases a with
 | none => simp [atI] at hc
 | some ad => exact ⟨ad, rfl, cellM_world h (by simpa [atI] using hc)⟩
section
variable {P : Program} {c : Ctx} {s : St} {K : SV -> Prop}
theorem load_of_cells {t : TypeId} {x : Operand} {p : Nat -> Value -> Prop} (hp : ExT P t p K)
 (hx : ∀ e a w, Sat c e s w -> SatA e s a -> ∀ v0, p 0 v0 -> ∃ ad : Addr, a.eval x = .pointer (some ad) /\ ∀ j v, p j v -> w.cell? (ad.add j) = some v)
 (hz0 : isAggT P t = some true -> szT P t ≠ some 0) :
 ∃ sv, K sv /\ RunsTo P (.load t x) c s sv := by
 obtain ⟨b, z, hb, hz, h⟩ := ExT_sound hp
 rcases h with ⟨rfl, vs, hl, hv, hK⟩ | ⟨rfl, v, hv, hK⟩
 · refine ⟨_, hK, .of fun e a w hS hA d ty pos af g => ?_⟩
   have hne : 0 < vs.length := by
    rcases Nat.eq_zero_or_pos vs.length with h0 | h0
    · exact absurd (hz.trans (by rw [<- hl, h0])) (hz0 hb)
    · exact h0
   obtain ⟨ad, h1, h2⟩ := hx e a w hS hA vs[0] (hv 0 _ (List.getElem?_eq_getElem hne));have hr := (run_loadVarT hz hb w ad).1 rfl vs hl fun j v hj => h2 j v (hv j v hj);simp [execOp, h1, Instr.loadAt, Instr.sureAddr, hr, den, denL_v]
 · refine ⟨_, hK, .of fun e a w hS hA d ty pos af g => ?_⟩
   obtain ⟨ad, h1, h2⟩ := hx e a w hS hA v hv
   have hr := (run_loadVarT hz hb w ad).2 rfl v (by simpa [Addr.add] using h2 0 v hv)
   simp [execOp, h1, Instr.loadAt, Instr.sureAddr, hr, den]
theorem nz_ne {t : TypeId} (h : nz P t = true) : szT P t ≠ some 0 := by
 intro h0;simp [nz, h0] at h
theorem load_own {t : TypeId} {x : Operand} {id off : Nat} {cs : List SV} {el : TypeId} {nm : Option Nat}
 (hx : ∀ e a, SatA e s a -> a.eval x = .pointer (some ⟨e.blk id, off, none⟩))
 (hH : s.H[id]? = some ⟨.cells cs el, nm⟩)
 (h : match isAggT P t, szT P t with
   | some true, some z => if nz P t && (Nat.ble (off + z) cs.length && ((cs.drop off).take z).all (fun x => !isJunk x)) then K (.agg ((cs.drop off).take z)) else False
   | some false, some _ => match cs[off]? with
     | some sv => if isJunk sv then False else K sv
     | none => False
   | _, _ => False) : ∃ sv, K sv /\ RunsTo P (.load t x) c s sv := by
 split at h
 · rename_i z hb hz
   split at h
   · rename_i hc
     simp only [Bool.and_eq_true, Nat.ble_eq, List.all_eq_true, Bool.not_eq_true'] at hc;obtain ⟨_, hle, hall⟩ := hc;refine ⟨_, h, .of fun e a w hS hA d ty pos af g => ?_⟩;have hcell := holds_cells_owned hS hH
     have hr := (run_loadVarT hz hb w ⟨e.blk id, off, none⟩).1 rfl (((cs.drop off).take z).map (den e)) (by simp; omega) (fun j v hj => by
      simp only [List.getElem?_map, Option.map_eq_some_iff] at hj;obtain ⟨sv, hs1, rfl⟩ := hj;have hjunk := hall sv (List.mem_of_getElem? hs1);rw [List.getElem?_take] at hs1
      split at hs1
      · rw [List.getElem?_drop] at hs1
        rw [Addr.add_lit];exact hcell _ _ hs1 hjunk
      · exact absurd hs1 (by simp))
     simp [execOp, hx e a hA, Instr.loadAt, Instr.sureAddr, hr, den, denL_eq]
   · exact h.elim
 · rename_i z hb hz
   split at h
   · rename_i sv hsv
     split at h
     · exact h.elim
     · rename_i hj
       simp only [Bool.not_eq_true] at hj;refine ⟨_, h, .of fun e a w hS hA d ty pos af g => ?_⟩;have hcell := holds_cells_owned hS hH _ _ hsv hj;have hr := (run_loadVarT hz hb w ⟨e.blk id, off, none⟩).2 rfl _ hcell;simp [execOp, hx e a hA, Instr.loadAt, Instr.sureAddr, hr]
   · exact h.elim
 · exact h.elim
theorem load_row {t : TypeId} {x : Operand} {id off : Nat} {xs : List Value} {sz : Nat} {el : TypeId} {nm : Option Nat}
 (hx : ∀ e a, SatA e s a -> a.eval x = .pointer (some ⟨e.blk id, off, none⟩))
 (hH : s.H[id]? = some ⟨.row xs sz el, nm⟩)
 (h : if nz P t then ExT P t (fun j v => xs[off + j]? = some v) K else False) : ∃ sv, K sv /\ RunsTo P (.load t x) c s sv := by
 split at h
 · rename_i hn
   refine load_of_cells h (fun e a w hS hA v0 hv0 => ⟨⟨e.blk id, off, none⟩, hx e a hA, fun j v hj => ?_⟩) (fun _ => nz_ne hn);rw [Addr.add_lit];exact (holds_row_owned hS hH _ _ hj).2
 · exact h.elim
theorem load_vec {t : TypeId} {x : Operand} {id off : Nat} {xs : List Value} {el : TypeId} {nm : Option Nat}
 (hx : ∀ e a, SatA e s a -> a.eval x = .pointer (some ⟨e.blk id, off, none⟩))
 (hH : s.H[id]? = some ⟨.vec xs el, nm⟩)
 (h : if nz P t then ExT P t (fun j v => xs[off + j]? = some v) K else False) : ∃ sv, K sv /\ RunsTo P (.load t x) c s sv := by
 split at h
 · rename_i hn
   refine load_of_cells h (fun e a w hS hA v0 hv0 => ⟨⟨e.blk id, off, none⟩, hx e a hA, fun j v hj => ?_⟩) (fun _ => nz_ne hn);rw [Addr.add_lit];exact holds_vec_owned hS hH _ _ hj
 · exact h.elim
theorem load_ownS {t : TypeId} {x : Operand} {id off : Nat} {cs : List SV} {el : TypeId} {nm : Option Nat}
 (hx : ∀ e a, SatA e s a -> a.eval x = .pointer (some ⟨e.blk id, off, none⟩))
 (hH : s.H[id]? = some ⟨.cells cs el, nm⟩)
 (h : if nz P t then ExT P t (fun j v => ((cs[off + j]?).bind vOf) = some v) K else False) : ∃ sv, K sv /\ RunsTo P (.load t x) c s sv := by
 split at h
 · rename_i hn
   refine load_of_cells h (fun e a w hS hA v0 hv0 => ⟨⟨e.blk id, off, none⟩, hx e a hA, fun j v hj => ?_⟩) (fun _ => nz_ne hn);rw [Addr.add_lit];obtain ⟨sv, h1, h2⟩ := vOf_den (e := e) hj
   have hjk : isJunk sv = false := by
    rw [h1] at hj
    cases sv <;> simp [vOf] at hj
    rfl
   rw [<- h2];exact holds_cells_owned hS hH _ _ h1 hjk
 · exact h.elim
theorem sLoad_sound {t : TypeId} {x : Operand} (h : sLoad P s t (ev s x) K) : ∃ sv, K sv /\ RunsTo P (.load t x) c s sv := by
 unfold sLoad at h
 split at h
 · rename_i id off hx
   have hx' : ∀ e a, SatA e s a -> a.eval x = .pointer (some ⟨e.blk id, off, none⟩) := fun e a hA => by simp [ev_d hA hx rfl, den]
   split at h
   · rename_i cs el nm hH
     exact load_own hx' hH h
   · rename_i xs sz el nm hH
     exact load_row hx' hH h
   · rename_i xs el nm hH
     exact load_vec hx' hH h
   · exact h.elim
 · rename_i id off hx
   have hx' : ∀ e a, SatA e s a -> a.eval x = .pointer (some ⟨e.blk id, off, none⟩) := fun e a hA => by simp [ev_d hA hx rfl, den]
   split at h
   · rename_i cs el nm hH
     split at h
     · exact load_own hx' hH h
     · split at h
       · exact load_ownS hx' hH h
       · split at h
         · rename_i z hb hz
           split at h
           · rename_i hc
             simp only [Bool.and_eq_true, Nat.blt_eq] at hc;obtain ⟨h1, h2, h3⟩ := h
             have e : off = off / z * z := by
              have := Nat.div_add_mod off z;rw [h1, Nat.mul_comm] at this;omega
             have hlt : off / z < cs.length / z := by
              refine (Nat.le_div_iff_mul_le hc.2).2 ?_
              rw [Nat.succ_mul, <- e]; exact h2
             have h4 := splitS_get h3 hlt e;refine load_own hx' hH ?_;rw [hb, hz]
             split at h4
             · rename_i h5
               simp only
               rw [if_pos (by rw [hc.1, h5]; rfl)]
               exact h4
             · exact h4.elim
           · exact h.elim
         · exact load_ownS hx' hH h
   · rename_i xs sz el nm hH
     exact load_row hx' hH h
   · rename_i xs el nm hH
     exact load_vec hx' hH h
   · exact h.elim
 · rename_i ad k hx
   split at h
   · rename_i hn
     refine load_of_cells h (fun e a w hS hA v0 hv0 => ?_) (fun _ => nz_ne hn);obtain ⟨ad', rfl, _⟩ := ep_cells hS.I hv0
     refine ⟨ad'.add k, by simp [ev_d hA hx rfl, den], fun j v hj => ?_⟩
     obtain ⟨_, h1, h2⟩ := ep_cells hS.I hj;cases h1
     rwa [add_add]
   · exact h.elim
 · rename_i ad hx
   split at h
   · rename_i hn
     refine load_of_cells h (fun e a w hS hA v0 hv0 => ?_) (fun _ => nz_ne hn);obtain ⟨ad', rfl, _⟩ := ep_cells hS.I hv0
     refine ⟨ad', by simp [ev_v hA hx], fun j v hj => ?_⟩
     obtain ⟨_, h1, h2⟩ := ep_cells hS.I hj;cases h1;exact h2
   · exact h.elim
 · exact h.elim
end
end Go.SE
namespace Go.SE
open Go.RowKit
def sSlice (P : Program) (s : St) (t : TypeId) (x : SV) (lo hi : Option Operand) (mx : Option Operand) (K : SV -> Prop) : Prop :=
 match mx, P.underlying t, x, bnd s lo, bnd s hi with
 | none, some (.slice el), .v (.slice a n c), some lo', some hi' => match szT P el, lo', hi' with
   | some _, none, none => K (.v (.slice a n c))
   | some _, none, some h => 0 <= h /\ h <= c /\ K (.v (.slice a h.toNat c))
   | some z, some l, none => 0 <= l /\ l <= n /\ K (.v (.slice (sladdr a c l.toNat z) (n - l.toNat) (c - l.toNat)))
   | some z, some l, some h => 0 <= l /\ l <= h /\ h <= c /\ K (.v (.slice (sladdr a c l.toNat z) (h.toNat - l.toNat) (c - l.toNat)))
   | none, _, _ => False
 | none, some (.slice el), .rsl id len, some none, some (some h) => match szT P el, s.H[id]? with
   | some _, some ⟨.row xs sz _, _⟩ => 0 <= h /\ h <= len /\ len * sz <= xs.length /\ K (.rsl id h.toNat)
   | _, _ => False
 | none, some (.array n el), .ptr id off, some lo', some hi' => match szT P el, lo', hi' with
   | some _, none, none => K (.xsl id off n n)
   | some _, none, some h => 0 <= h /\ h <= n /\ K (.xsl id off h.toNat n)
   | some z, some l, none => 0 <= l /\ l < n /\ K (.xsl id (off + l.toNat * z) (n - l.toNat) (n - l.toNat))
   | some z, some l, some h => 0 <= l /\ l < n /\ l <= h /\ h <= n /\ K (.xsl id (off + l.toNat * z) (h.toNat - l.toNat) (n - l.toNat))
   | none, _, _ => False
 | none, some .string, .v (.string q), some lo', some hi' => match lo', hi' with
   | none, none => K (.v (.string (q.extract 0 q.size)))
   | none, some h => 0 <= h /\ h <= q.size /\ K (.v (.string (q.extract 0 h.toNat)))
   | some l, none => 0 <= l /\ l <= q.size /\ K (.v (.string (q.extract l.toNat q.size)))
   | some l, some h => 0 <= l /\ l <= h /\ h <= q.size /\ K (.v (.string (q.extract l.toNat h.toNat)))
 | some mx', some (.slice el), .v (.slice a _ c), some (some l), some (some h) => match szT P el, ev s mx' with
   | some z, .v (.int _ m) => 0 <= l /\ l <= h /\ h <= m /\ m <= c /\ K (.v (.slice (sladdr a m.toNat l.toNat z) (h.toNat - l.toNat) (m.toNat - l.toNat)))
   | _, _ => False
 | _, _, _, _, _ => False
theorem run_bound {P : Program} {w : World} {k : IntKind} {i : Int} {y : Nat} {cd : BoundsCode} (h0 : 0 <= i) (h1 : i <= y) :
 (Instr.sliceBound (.int k i) y cd).run P w = .ok i.toNat w := by
 simp [Instr.sliceBound, asIntOf, h0, h1]
theorem sladdr_zero (a : Option Addr) (c z : Nat) : sladdr a c 0 z = a := by
 unfold sladdr;split
 · rfl
 · cases a <;> simp [Addr.add]
section
variable {P : Program} {c : Ctx} {s : St} {K : SV -> Prop}
theorem sSlice_sound {t : TypeId} {x : Operand} {lo hi mx : Option Operand} (h : sSlice P s t (ev s x) lo hi mx K) : ∃ sv, K sv /\ RunsTo P (.slice t x lo hi mx) c s sv := by
 unfold sSlice at h
 split at h
 · rename_i el ad n cp lo' hi' hu hx hlo hhi
   split at h
   · rename_i z hz
     refine ⟨_, h, .of fun e a w hS hA d ty pos af g => ?_⟩
     rcases bnd_run hA hlo with ⟨_, _, hh, _⟩ | ⟨_, hl1⟩
     · cases hh
     rcases bnd_run hA hhi with ⟨_, _, hh, _⟩ | ⟨_, hh1⟩
     · cases hh
     simp [execOp, ev_v hA hx, hl1, hh1, Instr.sliceAt, run_underlying hu, Instr.slice, Instr.sliceBounds, run_szT hz, den];intro _
     cases ad <;> simp [Addr.add]
   · obtain ⟨h0, h1, hK⟩ := h
     rename_i z q hz;refine ⟨_, hK, .of fun e a w hS hA d ty pos af g => ?_⟩
     rcases bnd_run hA hlo with ⟨_, _, hh, _⟩ | ⟨_, hl1⟩
     · cases hh
     rcases bnd_run hA hhi with ⟨k, m, hh, hh1⟩ | ⟨hh, _⟩
     · cases hh
       simp [execOp, ev_v hA hx, hl1, hh1, Instr.sliceAt, run_underlying hu, Instr.slice, Instr.sliceBounds, run_bound h0 h1, run_szT hz, den];intro hc
       cases ad <;> simp [Addr.add]
     · cases hh
   · obtain ⟨h0, h1, hK⟩ := h
     rename_i z q hz;refine ⟨_, hK, .of fun e a w hS hA d ty pos af g => ?_⟩
     rcases bnd_run hA hlo with ⟨k, m, hh, hl1⟩ | ⟨hh, _⟩
     · cases hh
       rcases bnd_run hA hhi with ⟨_, _, hh, _⟩ | ⟨_, hh1⟩
       · cases hh
       simp [execOp, ev_v hA hx, hl1, hh1, Instr.sliceAt, run_underlying hu, Instr.slice, Instr.sliceBounds, run_bound h0 h1, run_szT hz, den, sladdr]
     · cases hh
   · obtain ⟨h0, h1, h2, hK⟩ := h
     rename_i z q q2 hz;refine ⟨_, hK, .of fun e a w hS hA d ty pos af g => ?_⟩
     rcases bnd_run hA hlo with ⟨k, m, hh, hl1⟩ | ⟨hh, _⟩
     · cases hh
       rcases bnd_run hA hhi with ⟨k2, m2, hh, hh1⟩ | ⟨hh, _⟩
       · cases hh
         have h02 : 0 <= q2 := by omega
         have h12 : q <= ((q2.toNat : Nat) : Int) := by omega
         simp [execOp, ev_v hA hx, hl1, hh1, Instr.sliceAt, run_underlying hu, Instr.slice, Instr.sliceBounds, run_bound h02 h2, run_bound h0 h12, run_szT hz, den, sladdr]
       · cases hh
     · cases hh
   · exact h.elim
 · rename_i el id len hq hu hx hlo hhi
   split at h
   · rename_i z xs sz el' nm hz hH
     obtain ⟨h0, h1, h2, hK⟩ := h;refine ⟨_, hK, .of fun e a w hS hA d ty pos af g => ?_⟩
     rcases bnd_run hA hlo with ⟨_, _, hh, _⟩ | ⟨_, hl1⟩
     · cases hh
     rcases bnd_run hA hhi with ⟨k, m, hh, hh1⟩ | ⟨hh, _⟩
     · cases hh
       have hrow := (hS.owned id _ hH rfl).1;simp only [holds] at hrow
       have hle : hq <= ((e.cap id : Nat) : Int) := by
        have hp := hrow.1
        rcases hrow.2.2 with ⟨_, hc, rfl⟩ | ⟨_, arr, _, h3, _, h4, h5, h6, h7⟩
        · simp only [List.length_nil, Nat.le_zero, Nat.mul_eq_zero] at h2
          omega
        · rw [h4] at h6
          have : len <= e.cap id := Nat.le_of_mul_le_mul_right (Nat.le_trans h2 h6) hp;omega
       simp [execOp, ev_d hA hx rfl, hl1, hh1, Instr.sliceAt, run_underlying hu, Instr.slice, Instr.sliceBounds, run_bound h0 hle, run_szT hz, den];intro hc
       cases e.nil id <;> simp [Addr.add]
     · cases hh
   · exact h.elim
 · rename_i n el id off lo' hi' hu hx hlo hhi
   split at h
   · rename_i z hz
     refine ⟨_, h, .of fun e a w hS hA d ty pos af g => ?_⟩
     rcases bnd_run hA hlo with ⟨_, _, hh, _⟩ | ⟨_, hl1⟩
     · cases hh
     rcases bnd_run hA hhi with ⟨_, _, hh, _⟩ | ⟨_, hh1⟩
     · cases hh
     simp [execOp, ev_d hA hx rfl, hl1, hh1, Instr.sliceAt, run_underlying hu, Instr.sureAddr, Instr.sliceBounds, run_szT hz, den, Addr.add_lit]
   · obtain ⟨h0, h1, hK⟩ := h
     rename_i z q hz;refine ⟨_, hK, .of fun e a w hS hA d ty pos af g => ?_⟩
     rcases bnd_run hA hlo with ⟨_, _, hh, _⟩ | ⟨_, hl1⟩
     · cases hh
     rcases bnd_run hA hhi with ⟨k, m, hh, hh1⟩ | ⟨hh, _⟩
     · cases hh
       simp [execOp, ev_d hA hx rfl, hl1, hh1, Instr.sliceAt, run_underlying hu, Instr.sureAddr, Instr.sliceBounds, run_bound h0 h1, run_szT hz, den, Addr.add_lit]
     · cases hh
   · obtain ⟨h0, h1, hK⟩ := h
     rename_i z q hz;refine ⟨_, hK, .of fun e a w hS hA d ty pos af g => ?_⟩
     rcases bnd_run hA hlo with ⟨k, m, hh, hl1⟩ | ⟨hh, _⟩
     · cases hh
       rcases bnd_run hA hhi with ⟨_, _, hh, _⟩ | ⟨_, hh1⟩
       · cases hh
       have hne : ¬ n = q.toNat := by omega
       simp [execOp, ev_d hA hx rfl, hl1, hh1, Instr.sliceAt, run_underlying hu, Instr.sureAddr, Instr.sliceBounds, run_bound h0 (Int.le_of_lt h1), run_szT hz, den, Addr.add_lit, hne]
     · cases hh
   · obtain ⟨h0, h1, h2, h3, hK⟩ := h
     rename_i z q q2 hz;refine ⟨_, hK, .of fun e a w hS hA d ty pos af g => ?_⟩
     rcases bnd_run hA hlo with ⟨k, m, hh, hl1⟩ | ⟨hh, _⟩
     · cases hh
       rcases bnd_run hA hhi with ⟨k2, m2, hh, hh1⟩ | ⟨hh, _⟩
       · cases hh
         have h02 : 0 <= q2 := by omega
         have h12 : q <= ((q2.toNat : Nat) : Int) := by omega
         have hne : ¬ n = q.toNat := by omega
         simp [execOp, ev_d hA hx rfl, hl1, hh1, Instr.sliceAt, run_underlying hu, Instr.sureAddr, Instr.sliceBounds, run_bound h02 h3, run_bound h0 h12, run_szT hz, den, Addr.add_lit, hne]
       · cases hh
     · cases hh
   · exact h.elim
 · rename_i q lo' hi' hu hx hlo hhi
   split at h
   · refine ⟨_, h, .of fun e a w hS hA d ty pos af g => ?_⟩
     rcases bnd_run hA hlo with ⟨_, _, hh, _⟩ | ⟨_, hl1⟩
     · cases hh
     rcases bnd_run hA hhi with ⟨_, _, hh, _⟩ | ⟨_, hh1⟩
     · cases hh
     simp [execOp, ev_v hA hx, hl1, hh1, Instr.sliceAt, run_underlying hu, Instr.slice, Instr.sliceBounds, den]
   · obtain ⟨h0, h1, hK⟩ := h
     refine ⟨_, hK, .of fun e a w hS hA d ty pos af g => ?_⟩
     rcases bnd_run hA hlo with ⟨_, _, hh, _⟩ | ⟨_, hl1⟩
     · cases hh
     rcases bnd_run hA hhi with ⟨k, m, hh, hh1⟩ | ⟨hh, _⟩
     · cases hh
       simp [execOp, ev_v hA hx, hl1, hh1, Instr.sliceAt, run_underlying hu, Instr.slice, Instr.sliceBounds, run_bound h0 h1, den]
     · cases hh
   · obtain ⟨h0, h1, hK⟩ := h
     refine ⟨_, hK, .of fun e a w hS hA d ty pos af g => ?_⟩
     rcases bnd_run hA hlo with ⟨k, m, hh, hl1⟩ | ⟨hh, _⟩
     · cases hh
       rcases bnd_run hA hhi with ⟨_, _, hh, _⟩ | ⟨_, hh1⟩
       · cases hh
       simp [execOp, ev_v hA hx, hl1, hh1, Instr.sliceAt, run_underlying hu, Instr.slice, Instr.sliceBounds, run_bound h0 h1, den]
     · cases hh
   · obtain ⟨h0, h1, h2, hK⟩ := h
     rename_i l0 h0';refine ⟨_, hK, .of fun e a w hS hA d ty pos af g => ?_⟩
     rcases bnd_run hA hlo with ⟨k, m, hh, hl1⟩ | ⟨hh, _⟩
     · cases hh
       rcases bnd_run hA hhi with ⟨k2, m2, hh, hh1⟩ | ⟨hh, _⟩
       · cases hh
         have h02 : 0 <= h0' := by omega
         have h12 : l0 <= ((h0'.toNat : Nat) : Int) := by omega
         simp [execOp, ev_v hA hx, hl1, hh1, Instr.sliceAt, run_underlying hu, Instr.slice, Instr.sliceBounds, run_bound h02 h2, run_bound h0 h12, den]
       · cases hh
     · cases hh
 · rename_i mx' el ad n cp l hh hu hx hlo hhi
   split at h
   · rename_i z k3 m hz hm
     obtain ⟨h0, h1, h2, h3, hK⟩ := h;refine ⟨_, hK, .of fun e a w hS hA d ty pos af g => ?_⟩
     rcases bnd_run hA hlo with ⟨k, q, hq, hl1⟩ | ⟨hq, _⟩
     · cases hq
       rcases bnd_run hA hhi with ⟨k2, q2, hq2, hh1⟩ | ⟨hq2, _⟩
       · cases hq2
         have h0m : 0 <= m := by omega
         have h0h : 0 <= hh := by omega
         have hhm : hh <= ((m.toNat : Nat) : Int) := by omega
         have hlh : l <= ((hh.toNat : Nat) : Int) := by omega
         simp [execOp, ev_v hA hx, ev_v hA hm, hl1, hh1, Instr.sliceAt, run_underlying hu, Instr.slice, Instr.sliceBounds, run_bound h0m h3, run_bound h0h hhm, run_bound h0 hlh, run_szT hz, den, sladdr]
       · cases hq2
     · cases hq
   · exact h.elim
 · exact h.elim
end
end Go.SE
namespace Go.SE
open Go.RowKit
def sUn (op : UnOp) (x : SV) (K : SV -> Prop) : Prop :=
 match op, x with
 | .not, .v (.bool b) => K (.v (.bool (!b)))
 | .neg, .v (.int k n) => Wr k (0 - n) fun c => K (.v (.int k c))
 | .xor, .v (.int k n) => K (.v (.int k (bitsV .xor k (if k.signed then -1 else k.max) n)))
 | _, _ => False
def sConv (P : Program) (s : St) (src dst : TypeId) (x : SV) (K : SV -> Prop) : Prop :=
 match P.underlying src, P.underlying dst, x with
 | some _, some (.int k), .v (.int _ n) => Wr k n fun c => K (.v (.int k c))
 | some _, some .string, .v (.string q) => K (.v (.string q))
 | some (.int _), some .string, .v (.int _ n) => ∃ b : UInt8, (b.toNat : Int) = n /\ n < 128 /\ K (.v (.string ⟨#[b]⟩))
 | some (.slice el), some .string, .v (.slice a n _) => match P.underlying el with
   | some (.int .u8) => ∃ q : List UInt8, q.length = n /\ (a = none -> n = 0) /\ (∀ (j : Nat) (b : UInt8), q[j]? = some b -> atI s.I a j = some (.int .u8 b.toNat)) /\ K (.v (.string ⟨q.toArray⟩))
   | _ => False
 | some (.slice el), some .string, .rsl id len => match P.underlying el, s.H[id]? with
   | some (.int .u8), some ⟨.row xs _ _, _⟩ => ∃ q : List UInt8, q.length = len /\ xs.take len = q.map (fun b => Value.int .u8 b.toNat) /\ K (.v (.string ⟨q.toArray⟩))
   | _, _ => False
 | some (.slice el), some .string, .xsl id off len _ => match P.underlying el, s.H[id]? with
   | some (.int .u8), some ⟨.cells cs _, _⟩ => ∃ q : List UInt8, q.length = len /\ (∀ (j : Nat) (b : UInt8), q[j]? = some b -> cs[off + j]? = some (.v (.int .u8 b.toNat))) /\ K (.v (.string ⟨q.toArray⟩))
   | _, _ => False
 | _, _, _ => False
def sLen (P : Program) (t : TypeId) (x : SV) (K : SV -> Prop) : Prop :=
 match P.underlying t, x with
 | some .string, .v (.string q) => K (.v (.int .i64 (q.size : Nat)))
 | some (.slice _), .v (.slice _ n _) => K (.v (.int .i64 (n : Nat)))
 | some (.slice _), .rsl _ n => K (.v (.int .i64 (n : Nat)))
 | some (.slice _), .xsl _ _ n _ => K (.v (.int .i64 (n : Nat)))
 | some (.array n _), _ => K (.v (.int .i64 (n : Nat)))
 | _, _ => False
def sCap (P : Program) (t : TypeId) (x : SV) (K : SV -> Prop) : Prop :=
 match P.underlying t, x with
 | some (.slice _), .v (.slice _ _ c) => K (.v (.int .i64 (c : Nat)))
 | _, _ => False
def imin (x y : Int) : Int := if y < x then y else x
def imax (x y : Int) : Int := if x < y then y else x
def sMin (mx : Bool) (x y : SV) (K : SV -> Prop) : Prop :=
 match x, y with
 | .v (.int k a), .v (.int _ b) => K (.v (.int k (bif mx then imax a b else imin a b)))
 | _, _ => False
def sNilCheck (x : SV) (K : SV -> Prop) : Prop :=
 match x with
 | .v (.pointer a) => a.isSome = true /\ K x
 | .ep a _ => a.isSome = true /\ K x
 | .ptr _ _ | .sptr _ _ => K x
 | .fn (.func _) _ _ => K x
 | .v (.func (.func _) _ _) => K x
 | _ => False
def sMkIface (P : Program) (t : TypeId) (x : SV) (K : SV -> Prop) : Prop :=
 match P.underlying t, x with
 | some (.interface _), _ => False
 | some _, .v v => K (.v (.iface t v))
 | _, _ => False
def svCells : SV -> Option (List SV)
 | .agg xs => some xs
 | .v (.agg cs) => some (cs.toList.map .v)
 | .v x => some [.v x]
 | .tup _ | .junk => none
 | x => some [x]
theorem svCells_den {e : Env} {x : SV} {l : List SV} (h : svCells x = some l) : isJunk x = false /\ (den e x).cells = (l.map (den e)).toArray := by
 cases x with
 | v x =>
   cases x with
   | agg cs =>
     simp only [svCells, Option.some.injEq] at h;subst h;refine ⟨rfl, ?_⟩;rw [<- denL_eq, denL_v];simp [den, Value.cells]
   | _ =>
     simp only [svCells, Option.some.injEq] at h;subst h;simp [isJunk, den, Value.cells]
 | agg xs =>
   simp only [svCells, Option.some.injEq] at h;subst h
   exact ⟨rfl, by simp [den, denL_eq, Value.cells]⟩
 | tup xs => simp [svCells] at h
 | junk => simp [svCells] at h
 | _ =>
   simp only [svCells, Option.some.injEq] at h;subst h;simp [isJunk, den, Value.cells]
def setAt (cells : List SV) (off : Nat) : List SV -> List SV
 | [] => cells
 | x :: xs => setAt (cells.set off x) (off + 1) xs
def fillS (place : Nat -> Option (Nat × Nat)) (cells : List SV) : List (Nat × SV) -> Option (List SV)
 | [] => some cells
 | (i, x) :: r => match place i, svCells x with
   | some (off, size), some l => if Nat.beq l.length size && Nat.ble (off + l.length) cells.length then fillS place (setAt cells off l) r else none
   | _, _ => none
theorem setAt_length : ∀ (l cells : List SV) (off : Nat), (setAt cells off l).length = cells.length
 | [], _, _ => rfl
 | x :: xs, cells, off => by simp [setAt, setAt_length xs]
theorem setAt_den (e : Env) : ∀ (l cells : List SV) (off k : Nat),
 ((l.map (den e)).zipIdx k).foldl (fun (cs : Array Value) (x : Value × Nat) => cs.setIfInBounds (off + x.2) x.1) (cells.map (den e)).toArray =
   ((setAt cells (off + k) l).map (den e)).toArray
 | [], _, _, _ => rfl
 | x :: xs, cells, off, k => by
   simp only [List.map_cons, List.zipIdx_cons, List.foldl_cons, setAt]
   have h1 : (cells.map (den e)).toArray.setIfInBounds (off + k) (den e x) = ((cells.set (off + k) x).map (den e)).toArray := by
    simp [List.map_set]
   rw [h1, setAt_den e xs _ off (k + 1)];rfl
theorem fillS_sound (e : Env) {place : Nat -> Option (Nat × Nat)} : ∀ (ps : List (Nat × SV)) (cells r : List SV), fillS place cells ps = some r ->
 Instr.fill place (cells.map (den e)).toArray (ps.map fun x => (x.1, den e x.2)) = some (r.map (den e)).toArray /\ ∀ x ∈ ps, isJunk x.2 = false
 | [], cells, r, h => by
   simp only [fillS, Option.some.injEq] at h;subst h
   exact ⟨by simp [Instr.fill], fun x h => by cases h⟩
 | (i, x) :: ps, cells, r, h => by
   simp only [fillS] at h
   split at h
   · rename_i off size l hp hl
     split at h
     · rename_i hc
       simp only [Bool.and_eq_true, Nat.ble_eq] at hc;have hc1 := Nat.eq_of_beq_eq_true hc.1;obtain ⟨hj, hd⟩ := svCells_den (e := e) hl;obtain ⟨ih1, ih2⟩ := fillS_sound e ps _ r h;refine ⟨?_, fun y hy => ?_⟩
       · have hsz : (den e x).cells.size = l.length := by rw [hd]; simp
         simp only [List.map_cons, Instr.fill, hp, hsz]
         rw [if_neg (by simp; omega)]
         have := setAt_den e l cells off 0;simp only [Nat.add_zero] at this;rw [hd];simp only [Array.zipIdx_toArray, List.size_toArray, List.foldl_toArray'];rw [this];exact ih1
       · cases hy with
         | head => exact hj
         | tail _ hm => exact ih2 y hm
     · cases h
   · cases h
def placesS (P : Program) : List Field -> Option (List (Nat × Nat))
 | [] => some []
 | f :: fs => match szT P f.type, placesS P fs with
   | some z, some r => some ((f.offset, z) :: r)
   | _, _ => none
theorem placesS_run {P : Program} (w : World) : ∀ {fs : List Field} {r : List (Nat × Nat)}, placesS P fs = some r ->
 (fs.mapM fun f => (do pure (f.offset, <- sizeOf f.type) : Sem (Nat × Nat))).run P w = .ok r w
 | [], r, h => by simp only [placesS, Option.some.injEq] at h; subst h; simp
 | f :: fs, r, h => by
   simp only [placesS] at h
   split at h
   · rename_i z r' hz hr
     simp only [Option.some.injEq] at h;subst h;simp only [List.mapM_cons, Sem.run_bind, run_szT hz, Result.andThen_ok, Sem.run_pure, placesS_run w hr]
   · cases h
def zeroT (P : Program) (t : TypeId) : Option Value := (P.info? t).bind (·.zero)
theorem run_zeroT {P : Program} {t : TypeId} {z : Value} (h : zeroT P t = some z) (w : World) : (zeroValue t).run P w = .ok z w := by
 simp only [zeroT, Option.bind_eq_some_iff] at h;obtain ⟨i, h1, h2⟩ := h;simp [zeroValue, typeInfo, h1, h2]
def sBuild (P : Program) (s : St) (t : TypeId) (ps : List (Nat × Operand)) (K : SV -> Prop) : Prop :=
 match zeroT P t, P.underlying t with
 | some z, some (.struct fields) => match placesS P fields.toList with
   | some pl => match fillS (fun i => pl[i]?) (z.cells.toList.map .v) (ps.map fun x => (x.1, ev s x.2)) with
     | some r => K (.agg r)
     | none => False
   | none => False
 | some z, some (.array _ el) => match szT P el with
   | some n => match fillS (fun i => some (i * n, n)) (z.cells.toList.map .v) (ps.map fun x => (x.1, ev s x.2)) with
     | some r => K (.agg r)
     | none => False
   | none => False
 | _, _ => False
section
variable {P : Program} {c : Ctx} {s : St} {K : SV -> Prop}
theorem map_v_den (e : Env) (l : List Value) : (l.map SV.v).map (den e) = l := by rw [<- denL_eq, denL_v]
theorem parts_eval {e : Env} {a : Act} (hA : SatA e s a) {ps : List (Nat × Operand)} (h : ∀ x ∈ ps.map (fun x => (x.1, ev s x.2)), isJunk x.2 = false) :
 (ps.map fun x => (x.1, ev s x.2)).map (fun x => (x.1, den e x.2)) = ps.map fun x => (x.1, a.eval x.2) := by
 rw [List.map_map];refine List.map_congr_left fun x hx => ?_;have hj := h (x.1, ev s x.2) (List.mem_map_of_mem (f := fun x : Nat × Operand => (x.1, ev s x.2)) hx);simp only [Function.comp];rw [ev_ok hA x.2 hj]
theorem sBuild_sound {t : TypeId} {ps : Array (Nat × Operand)} (h : sBuild P s t ps.toList K) : ∃ sv, K sv /\ RunsTo P (.build t ps) c s sv := by
 unfold sBuild at h
 split at h
 · rename_i z fields hz hu
   split at h
   · rename_i pl hpl
     split at h
     · rename_i r hr
       refine ⟨_, h, .of fun e a w hS hA d ty pos af g => ?_⟩;obtain ⟨hf, hj⟩ := fillS_sound e _ _ _ hr;rw [parts_eval hA hj, map_v_den] at hf
       have hm : (fields.mapM fun f => (do pure (f.offset, <- sizeOf f.type) : Sem (Nat × Nat))).run P w = .ok pl.toArray w := by
        rw [Array.mapM_eq_mapM_toList];rw [Sem.run_map, placesS_run w hpl];rfl
       have hf' : Instr.fill (fun x => pl.toArray[x]?) z.cells (ps.toList.map fun x => (x.1, a.eval x.2)) = some (r.map (den e)).toArray := by
        rw [<- hf]
        congr 1
        funext x; simp
       simp only [execOp, Instr.build, Sem.run_bind, run_zeroT hz, run_underlying hu, Result.andThen_ok, hm, Array.toList_map];rw [hf'];simp [den, denL_eq]
     · exact h.elim
   · exact h.elim
 · rename_i z n el hz hu
   split at h
   · rename_i m hm
     split at h
     · rename_i r hr
       refine ⟨_, h, .of fun e a w hS hA d ty pos af g => ?_⟩;obtain ⟨hf, hj⟩ := fillS_sound e _ _ _ hr;rw [parts_eval hA hj, map_v_den] at hf;simp only [execOp, Instr.build, Sem.run_bind, run_zeroT hz, run_underlying hu, Result.andThen_ok, run_szT hm, Array.toList_map]
       rw [show z.cells = z.cells.toList.toArray from rfl, hf]
       simp [den, denL_eq]
     · exact h.elim
   · exact h.elim
 · exact h.elim
theorem sUn_sound {op : UnOp} {t : TypeId} {x : Operand} (h : sUn op (ev s x) K) : ∃ sv, K sv /\ RunsTo P (.unOp op t x) c s sv := by
 unfold sUn at h
 split at h
 · rename_i b hx
   exact ⟨_, h, .of fun e a w hS hA d ty pos af g => by simp [execOp, ev_v hA hx, Op.unary, den]⟩
 · rename_i k n hx
   obtain ⟨v, hv, hK⟩ := h;refine ⟨_, hK, .of fun e a w hS hA d ty pos af g => ?_⟩;simp only [execOp, ev_v hA hx, Op.unary, Op.intArith, Sem.run_bind, Sem.run_pure, Result.andThen_ok, hv, den]
 · rename_i k n hx
   refine ⟨_, h, .of fun e a w hS hA d ty pos af g => ?_⟩;simp [execOp, ev_v hA hx, Op.unary, run_bits_eq, den]
 · exact h.elim
theorem sLen_sound {t : TypeId} {x : Operand} (h : sLen P t (ev s x) K) : ∃ sv, K sv /\ RunsTo P (.call { callee := .builtin .len, args := #[x], argTypes := #[t] }) c s sv := by
 unfold sLen at h
 split at h
 · rename_i q hu hx
   exact ⟨_, h, .of fun e a w hS hA d ty pos af g => by simp [execOp, resolve, invoke, builtin, ev_v hA hx, Builtin.len_, run_underlying hu, goInt, den]⟩
 · rename_i el ad n cp hu hx
   exact ⟨_, h, .of fun e a w hS hA d ty pos af g => by simp [execOp, resolve, invoke, builtin, ev_v hA hx, Builtin.len_, run_underlying hu, goInt, den]⟩
 · rename_i el id n hu hx
   exact ⟨_, h, .of fun e a w hS hA d ty pos af g => by simp [execOp, resolve, invoke, builtin, ev_d hA hx rfl, Builtin.len_, run_underlying hu, goInt, den]⟩
 · rename_i el id off n cp hu hx
   exact ⟨_, h, .of fun e a w hS hA d ty pos af g => by simp [execOp, resolve, invoke, builtin, ev_d hA hx rfl, Builtin.len_, run_underlying hu, goInt, den]⟩
 · rename_i n el hu
   exact ⟨_, h, .of fun e a w hS hA d ty pos af g => by simp [execOp, resolve, invoke, builtin, Builtin.len_, run_underlying hu, goInt, den]⟩
 · exact h.elim
theorem sCap_sound {t : TypeId} {x : Operand} (h : sCap P t (ev s x) K) : ∃ sv, K sv /\ RunsTo P (.call { callee := .builtin .cap, args := #[x], argTypes := #[t] }) c s sv := by
 unfold sCap at h
 split at h
 · rename_i el ad n cp hu hx
   exact ⟨_, h, .of fun e a w hS hA d ty pos af g => by simp [execOp, resolve, invoke, builtin, ev_v hA hx, Builtin.cap_, run_underlying hu, goInt, den]⟩
 · exact h.elim
theorem sMin_sound {mx : Bool} {x y : Operand} {ts : Array TypeId} (h : sMin mx (ev s x) (ev s y) K) :
 ∃ sv, K sv /\ RunsTo P (.call { callee := .builtin (bif mx then .max else .min), args := #[x, y], argTypes := ts }) c s sv := by
 unfold sMin at h
 split at h
 · rename_i k n k2 m hx hy
   refine ⟨_, h, .of fun e a w hS hA d ty pos af g => ?_⟩
   cases mx <;> simp [execOp, resolve, invoke, builtin, ev_v hA hx, ev_v hA hy, Builtin.min_, Builtin.min2, Builtin.max_, Builtin.max2, den, imin, imax]
 · exact h.elim
theorem sNilCheck_sound {x : Operand} (h : sNilCheck (ev s x) K) : ∃ sv, K sv /\ RunsTo P (.nilCheck x) c s sv := by
 unfold sNilCheck at h
 split at h
 · rename_i ad hx
   obtain ⟨h1, hK⟩ := h;obtain ⟨ad, rfl⟩ := Option.isSome_iff_exists.1 h1;refine ⟨_, hK, .of fun e a w hS hA d ty pos af g => ?_⟩;simp [execOp, ev_v hA hx, hx, den]
 · rename_i ad k hx
   obtain ⟨h1, hK⟩ := h;obtain ⟨ad, rfl⟩ := Option.isSome_iff_exists.1 h1;refine ⟨_, hK, .of fun e a w hS hA d ty pos af g => ?_⟩;simp [execOp, ev_d hA hx rfl, hx, den]
 · rename_i id off hx
   exact ⟨_, h, .of fun e a w hS hA d ty pos af g => by simp [execOp, ev_d hA hx rfl, hx, den]⟩
 · rename_i id off hx
   exact ⟨_, h, .of fun e a w hS hA d ty pos af g => by simp [execOp, ev_d hA hx rfl, hx, den]⟩
 · rename_i id off hx _
   exact ⟨_, h, .of fun e a w hS hA d ty pos af g => by simp [execOp, ev_d hA (by assumption) rfl, *, den]⟩
 · rename_i hx
   exact ⟨_, h, .of fun e a w hS hA d ty pos af g => by simp [execOp, ev_v hA hx, hx, den]⟩
 · exact h.elim
theorem sMkIface_sound {t : TypeId} {x : Operand} (h : sMkIface P t (ev s x) K) : ∃ sv, K sv /\ RunsTo P (.makeInterface t x) c s sv := by
 unfold sMkIface at h
 split at h
 · exact h.elim
 · rename_i dd v hni hu hx
   refine ⟨_, h, .of fun e a w hS hA d ty pos af g => ?_⟩;simp only [execOp, ev_v hA hx, Instr.makeInterface, Sem.run_bind, run_underlying hu, Result.andThen_ok]
   cases dd <;> simp_all [den]
 · exact h.elim
end
end Go.SE
namespace Go.SE
open Go.RowKit
section
variable {P : Program} {c : Ctx} {s : St} {K : SV -> Prop}
theorem encode_one {b : UInt8} {n : Int} (hb : (b.toNat : Int) = n) (h : n < 128) : Utf8.encode n = ⟨#[b]⟩ := by
 subst hb
 have hv : Utf8.valid (b.toNat : Int) = true := by simp [Utf8.valid]; omega
 unfold Utf8.encode;simp only [hv, if_true, Int.toNat_natCast]
 rw [if_pos (by omega)]
 simp
theorem sConv_sound {src dst : TypeId} {x : Operand} (h : sConv P s src dst (ev s x) K) : ∃ sv, K sv /\ RunsTo P (.convert src dst x) c s sv := by
 unfold sConv at h
 split at h
 · rename_i ds k k' n hu1 hu2 hx
   obtain ⟨v, hv, hK⟩ := h;refine ⟨_, hK, .of fun e a w hS hA d ty pos af g => ?_⟩
   cases ds <;> simp [execOp, ev_v hA hx, convert, run_underlying hu1, run_underlying hu2, Conv.intToInt, hv, den]
 · rename_i ds q hu1 hu2 hx
   refine ⟨_, h, .of fun e a w hS hA d ty pos af g => ?_⟩
   cases ds <;> simp [execOp, ev_v hA hx, convert, run_underlying hu1, run_underlying hu2, den]
 · rename_i ks k n hu1 hu2 hx
   obtain ⟨b, hb, hlt, hK⟩ := h;refine ⟨_, hK, .of fun e a w hS hA d ty pos af g => ?_⟩;have := encode_one hb hlt;simp [execOp, ev_v hA hx, convert, run_underlying hu1, run_underlying hu2, Conv.intToString, den, this]
 · rename_i el ad n cp hu1 hu2 hx
   split at h
   · rename_i hu3
     obtain ⟨q, hq, hnil, hc, hK⟩ := h;subst hq;refine ⟨_, hK, .of fun e a w hS hA d ty pos af g => ?_⟩
     cases ad with
     | none =>
       have h0 := hnil rfl;have : q = [] := List.length_eq_zero_iff.1 h0;subst this;simp only [execOp, ev_v hA hx, Sem.run_bind, run_convert_bytes_string w src dst el _ _ _ hu1 hu3 hu2];simp [Conv.bytesToString, den];rfl
     | some ad =>
       have := run_convert_bytes_back (P := P) w src dst el ad cp q hu1 hu3 hu2 (fun j hj => by
        obtain ⟨_, h1, h2⟩ := ep_cells hS.I (hc j q[j] (List.getElem?_eq_getElem hj));cases h1;exact h2)
       simp [execOp, ev_v hA hx, this, den]
   · exact h.elim
 · rename_i el id len hu1 hu2 hx
   split at h
   · rename_i xs sz el' nm hu3 hH
     obtain ⟨q, hq, hc, hK⟩ := h;subst hq;refine ⟨_, hK, .of fun e a w hS hA d ty pos af g => ?_⟩
     cases hn : e.nil id with
     | true =>
       have hh := (hS.owned id _ hH rfl).1;simp only [holds] at hh
       have : xs = [] := by
        rcases hh.2.2 with ⟨_, _, h0⟩ | ⟨h0, _⟩
        · exact h0
        · rw [hn] at h0; cases h0
       subst this
       have : q = [] := by simpa using hc
       subst this;simp only [execOp, ev_d hA hx rfl, den, hn, if_true, Sem.run_bind, run_convert_bytes_string w src dst el _ _ _ hu1 hu3 hu2];simp [Conv.bytesToString];rfl
     | false =>
       have := run_convert_bytes_back (P := P) w src dst el ⟨e.blk id, 0, none⟩ (e.cap id) q hu1 hu3 hu2 (fun j hj => by
        have h1 : xs[j]? = some (.int .u8 q[j].toNat) := by
         have h2 : (xs.take q.length)[j]? = some (.int .u8 q[j].toNat) := by rw [hc]; simp [List.getElem?_eq_getElem hj]
         rw [List.getElem?_take] at h2
         rwa [if_pos hj] at h2
        rw [Addr.add_lit, Nat.zero_add];exact (holds_row_owned hS hH _ _ h1).2)
       simp [execOp, ev_d hA hx rfl, this, den, hn]
   · exact h.elim
 · rename_i el id off len cp hu1 hu2 hx
   split at h
   · rename_i cs el' nm hu3 hH
     obtain ⟨q, hq, hc, hK⟩ := h;subst hq;refine ⟨_, hK, .of fun e a w hS hA d ty pos af g => ?_⟩
     have := run_convert_bytes_back (P := P) w src dst el ⟨e.blk id, off, none⟩ cp q hu1 hu3 hu2 (fun j hj => by
      rw [Addr.add_lit];exact holds_cells_owned hS hH _ _ (hc j q[j] (List.getElem?_eq_getElem hj)) rfl)
     simp [execOp, ev_d hA hx rfl, this, den]
   · exact h.elim
 · exact h.elim
end
def sBuiltin (P : Program) (s : St) (b : Builtin) (args : List Operand) (ts : List TypeId) (K : SV -> Prop) : Prop :=
 match b, args, ts with
 | .len, [x], [t] => sLen P t (ev s x) K
 | .cap, [x], [t] => sCap P t (ev s x) K
 | .min, [x, y], _ => sMin false (ev s x) (ev s y) K
 | .max, [x, y], _ => sMin true (ev s x) (ev s y) K
 | _, _, _ => False
def isNilI : Value -> Bool
 | .nilIface => true
 | _ => false
def isIfT (P : Program) (t : TypeId) : Bool :=
 match P.underlying t with
 | some (.interface _) => true
 | _ => false
def seBin (P : Program) (s : St) (op : BinOp) (t : TypeId) (x y : Operand) (K : SV -> Prop) : Prop :=
 match op, y, ev s x with
 | .eql, .const .nilIface, .v v => if isIfT P t then (v = .nilIface \/ ∃ tp p, v = .iface tp p) /\ K (.v (.bool (isNilI v))) else sBin P op t (ev s x) (ev s y) K
 | .neq, .const .nilIface, .v v => if isIfT P t then (v = .nilIface \/ ∃ tp p, v = .iface tp p) /\ K (.v (.bool (!isNilI v))) else sBin P op t (ev s x) (ev s y) K
 | _, _, _ => sBin P op t (ev s x) (ev s y) K
theorem seBin_sound {P : Program} {op : BinOp} {t yt : TypeId} {x y : Operand} {c : Ctx} {s : St} {K : SV -> Prop} (h : seBin P s op t x y K) :
 ∃ sv, K sv /\ RunsTo P (.binOp op t x y yt) c s sv := by
 have key : ∀ v : Value, isIfT P t = true -> (v = .nilIface \/ ∃ tp p, v = .iface tp p) -> ∀ (w : World) (p : Operand), (do eqGuard .eql t p (.const .nilIface) v .nilIface; binOp .eql t v .nilIface : Sem Value).run P w = .ok (.bool (isNilI v)) w /\
  (do eqGuard .neq t p (.const .nilIface) v .nilIface; binOp .neq t v .nilIface : Sem Value).run P w = .ok (.bool (!isNilI v)) w := by
  intro v hu hv w p;unfold isIfT at hu
  split at hu
  · rename_i hu2
    have e1 : ∀ d, (Op.equalIn (d + 1) t v .nilIface).run P w = .ok (isNilI v) w := fun d => by
     rcases hv with rfl | ⟨tp, q, rfl⟩
     · simp [Op.equalIn, run_underlying hu2, isNilI]
     · simp [Op.equalIn, run_underlying hu2, isNilI]
    have e2 : (Op.equal t v .nilIface).run P w = .ok (isNilI v) w := e1 9999
    rcases hv with rfl | ⟨tp, q, rfl⟩
    · simp only [eqGuard, binOp]
      constructor <;> simp [e2, isNilI]
    · simp only [eqGuard, binOp]
      constructor <;> simp [e2, isNilI]
  · cases hu
 unfold seBin at h
 split at h
 · rename_i v hx
   split at h
   · rename_i hu
     refine ⟨_, h.2, .of fun e a' w _ hA d ty pos af g => ?_⟩;have h1 := ev_v hA hx;have h2 : a'.eval (.const .nilIface) = .nilIface := rfl;have h3 := (key v hu h.1 w x).1;simp only [execOp, h1, h2];rw [Sem.run_bind, h3];simp [den]
   · exact sBin_sound h
 · rename_i v hx
   split at h
   · rename_i hu
     refine ⟨_, h.2, .of fun e a' w _ hA d ty pos af g => ?_⟩;have h1 := ev_v hA hx;have h2 : a'.eval (.const .nilIface) = .nilIface := rfl;have h3 := (key v hu h.1 w x).2;simp only [execOp, h1, h2];rw [Sem.run_bind, h3];simp [den]
   · exact sBin_sound h
 · exact sBin_sound h
def mapEnt : Nat -> List Ent -> Option (Nat × Nat × Array MapEntry × Nat) -> Option (Nat × Nat × Array MapEntry × Nat)
 | _, [], acc => acc
 | i, ⟨.raw (.map es clk), some b⟩ :: r, _ => mapEnt (i + 1) r (some (i, b, es, clk))
 | i, _ :: r, acc => mapEnt (i + 1) r acc
theorem mapEnt_at : ∀ {l : List Ent} {i : Nat} {acc : Option (Nat × Nat × Array MapEntry × Nat)} {id b : Nat} {es : Array MapEntry} {clk : Nat}, mapEnt i l acc = some (id, b, es, clk) ->
 acc = some (id, b, es, clk) \/ ∃ k, id = i + k /\ l[k]? = some ⟨.raw (.map es clk), some b⟩
 | [], i, acc, id, b, es, clk, h => .inl h
 | x :: r, i, acc, id, b, es, clk, h => by
   unfold mapEnt at h
   split at h
   · rename_i hx; cases hx
   · rename_i hx
     injection hx with h1 h2
     subst h1; subst h2
     rcases mapEnt_at h with h | ⟨k, h3, h4⟩
     · simp only [Option.some.injEq, Prod.mk.injEq] at h
       obtain ⟨rfl, rfl, rfl, rfl⟩ := h;exact .inr ⟨0, rfl, rfl⟩
     · exact .inr ⟨k + 1, by omega, by simpa using h4⟩
   · rename_i hx
     injection hx with h1 h2
     subst h2
     rcases mapEnt_at h with h | ⟨k, h3, h4⟩
     · exact .inl h
     · exact .inr ⟨k + 1, by omega, by simpa using h4⟩
def isKeyB : TypeDesc -> Value -> Bool
 | .bool, .bool _ => true
 | .int k, .int k' _ => decide (k' = k)
 | .string, .string _ => true
 | _, _ => false
theorem isKeyB_ok {d : TypeDesc} {v : Value} (h : isKeyB d v = true) : MapKept.IsKey d v := by
 cases d <;> cases v <;> simp_all [isKeyB, MapKept.IsKey]
theorem mapEnt_get {s : St} {id b : Nat} {es : Array MapEntry} {clk : Nat} (h : mapEnt 0 s.H none = some (id, b, es, clk)) : s.H[id]? = some ⟨.raw (.map es clk), some b⟩ := by
 rcases mapEnt_at h with h | ⟨k, h1, h2⟩
 · cases h
 · rw [h1, Nat.zero_add]; exact h2
def findM (d : TypeDesc) (k : Value) (es : Array MapEntry) : Option (Option (Nat × Value)) := Instr.findNow d k es.toList 0
def sLookup (P : Program) (s : St) (t : TypeId) (m k : SV) (K : SV -> Prop) : Prop :=
 match P.underlying t with
 | some (.map kt et) => match P.underlying kt, P.underlying et, zeroT P et, m, k, mapEnt 0 s.H none with
   | some d, some (.int ik), some z, .v (.map (some b')), .v kv, some (_, b, es, _) => b' = b /\ isKeyB d kv = true /\ (∃ r, findM d kv es = some r) /\
      (∀ (i : Nat) (v : Value), findM d kv es = some (some (i, v)) -> ∃ n : Int, v = .int ik n /\ K (.v (.tuple #[.int ik n, .bool true]))) /\
      (findM d kv es = some none -> K (.v (.tuple #[z, .bool false])))
   | _, _, _, _, _, _ => False
 | _ => False
theorem sLookup_sound {P : Program} {c : Ctx} {s : St} {t : TypeId} {m k : Operand} {K : SV -> Prop} (h : sLookup P s t (ev s m) (ev s k) K) : ∃ sv, K sv /\ RunsTo P (.lookup t m k true) c s sv := by
 unfold sLookup at h
 split at h
 · rename_i kt et ht
   split at h
   · rename_i d ik z b' kv id b es clk hd he hz hm hk hent
     obtain ⟨rfl, hkey, ⟨r, hr⟩, h1, h2⟩ := h;have hH := mapEnt_get hent
     have run : ∀ (x : Value), (match r with | some (_, v) => x = .tuple #[v, .bool true] | none => x = .tuple #[z, .bool false]) -> RunsTo P (.lookup t m k true) c s (.v x) := by
      intro x hx;refine RunsTo.of fun e a w hS hA d' ty pos af g => ?_;obtain ⟨⟨hnil, hb⟩, _⟩ := hS.owned id _ hH rfl
      simp only at hb
      rw [(hS.names id _ _ hH rfl).1] at hb;have e1 : a.eval m = .map (some b') := ev_v hA hm;have e2 : a.eval k = kv := ev_v hA hk;simp only [findM] at hr
      cases r with
      | none =>
        subst hx;simp [execOp, e1, e2, Instr.lookup, run_underlying ht, Result.andThen, MapKept.run_getObj_map hb, MapKept.run_checkKey hd (isKeyB_ok hkey), MapKept.run_findKey hd hr, run_zeroT hz, den]
      | some y =>
        obtain ⟨i, v⟩ := y;subst hx;simp [execOp, e1, e2, Instr.lookup, run_underlying ht, Result.andThen, MapKept.run_getObj_map hb, MapKept.run_checkKey hd (isKeyB_ok hkey), MapKept.run_findKey hd hr, den]
     cases r with
     | none => exact ⟨_, h2 hr, run _ rfl⟩
     | some y =>
       obtain ⟨i, v⟩ := y;obtain ⟨n, rfl, h3⟩ := h1 i v hr;exact ⟨_, h3, run _ rfl⟩
   · exact h.elim
 · exact h.elim
def seQ (P : Program) (s : St) (o : Op) (K : SV -> Prop) : Prop :=
 match o with
 | .move x => K (ev s x)
 | .assign x => K (ev s x)
 | .pick c x y => match ev s c with
   | .v (.bool t) => Br t (K (ev s x)) (K (ev s y))
   | _ => False
 | .binOp op t x y _ => seBin P s op t x y K
 | .unOp op _ x => sUn op (ev s x) K
 | .convert src dst x => sConv P s src dst (ev s x) K
 | .extract x i => sExtract (ev s x) i K
 | .field t x f => sField P t (ev s x) f K
 | .index t x i => sIndex P t (ev s x) i (ev s i) K
 | .indexAddr t x i => sIndexAddr P s t (ev s x) i (ev s i) K
 | .fieldAddr t x f => sFieldAddr P t (ev s x) f K
 | .slice t x lo hi mx => sSlice P s t (ev s x) lo hi mx K
 | .load t x => sLoad P s t (ev s x) K
 | .build t ps => sBuild P s t ps.toList K
 | .makeInterface t x => sMkIface P t (ev s x) K
 | .makeFunc f a b => if (a.toList.map (ev s)).all (fun x => !isJunk x) && (b.toList.map (ev s)).all (fun x => !isJunk x) then K (.fn f (a.toList.map (ev s)) (b.toList.map (ev s))) else False
 | .nilCheck x => sNilCheck (ev s x) K
 | .lookup t m k ok => match ok with
   | true => sLookup P s t (ev s m) (ev s k) K
   | false => False
 | .call c => match c.callee with
   | .builtin b => sBuiltin P s b c.args.toList c.argTypes.toList K
   | _ => False
 | _ => False
theorem evs_ok {e : Env} {s : St} {a : Act} (hA : SatA e s a) {l : List Operand} (h : (l.map (ev s)).all (fun x => !isJunk x) = true) :
 l.map a.eval = denL e (l.map (ev s)) := by
 rw [denL_eq, List.map_map];refine List.map_congr_left fun x hx => ?_;simp only [List.all_eq_true, List.mem_map, Bool.not_eq_true', forall_exists_index, and_imp, forall_apply_eq_imp_iff₂] at h;exact ev_ok hA x (h x hx)
theorem seQ_sound {P : Program} {c : Ctx} {s : St} {o : Op} {K : SV -> Prop} (h : seQ P s o K) : ∃ sv, K sv /\ RunsTo P o c s sv := by
 unfold seQ at h
 split at h
 · rename_i x
   refine ⟨_, h, fun e a w _ hA => ⟨a.eval x, fun d ty pos af g => by simp [execOp], ?_⟩⟩
   cases hj : isJunk (ev s x)
   · exact .inr (ev_ok hA x hj)
   · exact .inl rfl
 · rename_i x
   refine ⟨_, h, fun e a w _ hA => ⟨a.eval x, fun d ty pos af g => by simp [execOp], ?_⟩⟩
   cases hj : isJunk (ev s x)
   · exact .inr (ev_ok hA x hj)
   · exact .inl rfl
 · rename_i b x y
   split at h
   · rename_i t ht
     cases t with
     | true =>
       refine ⟨_, h, fun e a w _ hA => ⟨a.eval x, fun d ty pos af g => by simp [execOp, ev_v hA ht, asBool], ?_⟩⟩
       cases hj : isJunk (ev s x)
       · exact .inr (ev_ok hA x hj)
       · exact .inl rfl
     | false =>
       refine ⟨_, h, fun e a w _ hA => ⟨a.eval y, fun d ty pos af g => by simp [execOp, ev_v hA ht, asBool], ?_⟩⟩
       cases hj : isJunk (ev s y)
       · exact .inr (ev_ok hA y hj)
       · exact .inl rfl
   · exact h.elim
 · exact seBin_sound h
 · exact sUn_sound h
 · exact sConv_sound h
 · exact sExtract_sound h
 · exact sField_sound h
 · exact sIndex_sound h
 · exact sIndexAddr_sound h
 · exact sFieldAddr_sound h
 · exact sSlice_sound h
 · exact sLoad_sound h
 · exact sBuild_sound h
 · exact sMkIface_sound h
 · split at h
   · rename_i f l1 l2 hc
     simp only [Bool.and_eq_true] at hc;refine ⟨_, h, .of fun e a w _ hA d ty pos af g => ?_⟩;have e1 := evs_ok hA hc.1;have e2 := evs_ok hA hc.2
     have m1 : ∀ l : Array Operand, l.map a.eval = (l.toList.map a.eval).toArray := fun l => by rw [<- Array.toList_map]
     simp only [execOp, Instr.makeFunc, Sem.run_bind, Sem.run_pure, Result.andThen_ok, den, <- e1, <- e2, m1]
   · exact h.elim
 · exact sNilCheck_sound h
 · split at h
   · exact sLookup_sound h
   · exact h.elim
 · rename_i cl
   obtain ⟨callee, args, ts⟩ := cl
   simp only at h
   split at h
   · rename_i b
     unfold sBuiltin at h
     split at h
     · rename_i x t h1 h2
       obtain rfl : args = #[x] := by rw [<- Array.toList_inj]; exact h1
       obtain rfl : ts = #[t] := by rw [<- Array.toList_inj]; exact h2
       exact sLen_sound h
     · rename_i x t h1 h2
       obtain rfl : args = #[x] := by rw [<- Array.toList_inj]; exact h1
       obtain rfl : ts = #[t] := by rw [<- Array.toList_inj]; exact h2
       exact sCap_sound h
     · rename_i x y h1
       obtain rfl : args = #[x, y] := by rw [<- Array.toList_inj]; exact h1
       exact sMin_sound h
     · rename_i x y h1
       obtain rfl : args = #[x, y] := by rw [<- Array.toList_inj]; exact h1
       exact sMin_sound h
     · exact h.elim
   · exact h.elim
 · exact h.elim
end Go.SE
namespace Go.SE
open Go.RowKit
def entBelow (n : Nat) (x : Ent) : Bool :=
 match x.obj with
 | .cells cs _ => belowL n cs
 | _ => true
def wfSt (s : St) : Bool := belowL s.H.length s.tm && s.H.all (entBelow s.H.length) && s.marks.all (fun m => m.blt s.H.length)
def Env.upd (e : Env) (n b cp : Nat) (nl : Bool) : Env :=
 { blk := fun i => if i = n then b else e.blk i, cap := fun i => if i = n then cp else e.cap i, nil := fun i => if i = n then nl else e.nil i }
theorem upd_ne {e : Env} {n b cp : Nat} {nl : Bool} {i : Nat} (h : i ≠ n) : e.blk i = (e.upd n b cp nl).blk i /\ e.cap i = (e.upd n b cp nl).cap i /\ e.nil i = (e.upd n b cp nl).nil i := by
 simp [Env.upd, h]
theorem upd_eq {e : Env} {n b cp : Nat} {nl : Bool} : (e.upd n b cp nl).blk n = b /\ (e.upd n b cp nl).cap n = cp /\ (e.upd n b cp nl).nil n = nl := by
 simp [Env.upd]
theorem belowL_get {n : Nat} : ∀ {l : List SV}, belowL n l = true -> ∀ {t : Nat} {sv : SV}, l[t]? = some sv -> below n sv = true
 | [], _, _, _, h => by simp at h
 | x :: xs, hb, t, sv, h => by
   simp only [belowL, Bool.and_eq_true] at hb
   cases t with
   | zero => simp at h; subst h; exact hb.1
   | succ t => exact belowL_get hb.2 (by simpa using h)
theorem holds_congr {e e' : Env} {n id : Nat} {h h' : Nat -> Option Obj} {o : EO} (hagree : ∀ i, i < n -> e.blk i = e'.blk i /\ e.cap i = e'.cap i /\ e.nil i = e'.nil i) (hid : id < n)
 (hb : entBelow n ⟨o, none⟩ = true) (hh : e.nil id = false -> h' (e.blk id) = h (e.blk id)) (H : holds e id h o) : holds e' id h' o := by
 obtain ⟨a1, a2, a3⟩ := hagree id hid
 cases o with
 | cells cs el =>
   obtain ⟨h0, c, h1, h2, h3⟩ := H
   refine ⟨a3 ▸ h0, c, by rw [<- a1, hh h0, h1], h2, fun k sv hk hj => ?_⟩
   rw [h3 k sv hk hj, den_congr hagree sv (belowL_get hb hk)]
 | vec xs el => exact ⟨a3 ▸ H.1, by rw [<- a1, hh H.1, H.2]⟩
 | row xs sz el =>
   obtain ⟨h0, h1, h2⟩ := H;refine ⟨h0, h1, ?_⟩;rw [<- a1, <- a2, <- a3]
   rcases h2 with h2 | ⟨h2, c, h3⟩
   · exact .inl h2
   · exact .inr ⟨h2, c, by rw [hh h2]; exact h3⟩
 | raw o => exact ⟨a3 ▸ H.1, by rw [<- a1, hh H.1, H.2]⟩
 | dead => trivial
section
variable {P : Program} {c : Ctx} {e : Env} {s : St} {w w' : World} {a : Act}
theorem getElem?_append_one {α : Type} {l : List α} {x y : α} {i : Nat} (h : (l ++ [x])[i]? = some y) : l[i]? = some y \/ (i = l.length /\ y = x) := by
 rw [List.getElem?_append] at h
 split at h
 · exact .inl h
 · rename_i hn
   by_cases hi : i - l.length = 0
   · rw [hi] at h
     simp at h
     exact .inr ⟨by omega, h.symm⟩
   · obtain ⟨k, hk⟩ := Nat.exists_eq_succ_of_ne_zero hi
     rw [hk] at h;simp at h
theorem Sat.add (hS : Sat c e s w) (hA : SatA e s a) (hw : wfSt s = true) {obj : EO} {b cp : Nat} {nl : Bool} (hold : ∀ k, k < w.heap.size -> w'.heap[k]? = w.heap[k]?) (hsz : w.heap.size <= w'.heap.size) (hsame : Same w w')
 (hb : nl = false -> w.heap.size <= b) (hh : holds (e.upd s.H.length b cp nl) s.H.length (fun b => w'.heap[b]?) obj) :
 Sat c (e.upd s.H.length b cp nl) { s with H := s.H ++ [⟨obj, none⟩] } w' /\ SatA (e.upd s.H.length b cp nl) { s with H := s.H ++ [⟨obj, none⟩] } a := by
 simp only [wfSt, Bool.and_eq_true, List.all_eq_true] at hw
 have hagree : ∀ i, i < s.H.length -> e.blk i = (e.upd s.H.length b cp nl).blk i /\ e.cap i = (e.upd s.H.length b cp nl).cap i /\ e.nil i = (e.upd s.H.length b cp nl).nil i :=
  fun i hi => upd_ne (Nat.ne_of_lt hi)
 have keep : ∀ I : Mem, I.inW w -> I.inW w' := fun I hI b o hb => by rw [hold b (Mem.inW_lt hI hb)]; exact hI b o hb
 have lt : ∀ {id x}, s.H[id]? = some x -> id < s.H.length := fun h => (List.getElem?_eq_some_iff.1 h).1
 have blt : ∀ {id x}, s.H[id]? = some x -> alive x.obj = true -> e.nil id = false -> e.blk id < w.heap.size := by
  intro id x hx hal hnl;have := (hS.owned id x hx hal).1
  cases hx' : x.obj with
  | cells cs el => rw [hx'] at this; obtain ⟨_, cc, h1, _⟩ := this; exact (Array.getElem?_eq_some_iff.1 h1).1
  | vec xs el => rw [hx'] at this; exact (Array.getElem?_eq_some_iff.1 this.2).1
  | row xs sz el =>
    rw [hx'] at this
    rcases this.2.2 with h | ⟨_, cc, _, h1, _⟩
    · rw [h.1] at hnl; cases hnl
    · exact (Array.getElem?_eq_some_iff.1 h1).1
  | raw o => rw [hx'] at this; exact (Array.getElem?_eq_some_iff.1 this.2).1
  | dead => rw [hx'] at hal; cases hal
 have hnone : ∀ I : Mem, I.inW w -> nl = false -> I b = none := by
  intro I hI hn
  cases hx : I b with
  | none => rfl
  | some o => exact absurd (Mem.inW_lt hI hx) (Nat.not_lt.2 (hb hn))
 refine ⟨⟨hS.same.trans hsame, Nat.le_trans hS.size hsz, keep _ hS.I, keep _ hS.hf, hS.old, ?_, ?_, ?_⟩, ?_⟩
 · intro id x hx hal
   rcases getElem?_append_one hx with hx | ⟨rfl, rfl⟩
   · have hid := lt hx
     obtain ⟨h1, h2⟩ := hS.owned id x hx hal;obtain ⟨a1, a2, a3⟩ := hagree id hid;refine ⟨holds_congr hagree hid (hw.1.2 x (List.mem_of_getElem? hx)) (fun hn => hold _ (blt hx hal hn)) h1, fun hn => ?_⟩;rw [<- a1];exact h2 (a3.trans hn)
   · refine ⟨hh, fun hn => ?_⟩
     rw [upd_eq.2.2] at hn;rw [upd_eq.1];exact ⟨hnone _ hS.I hn, hnone _ hS.hf hn⟩
 · intro i j x y hx hy hal1 hal2 hn1 hn2 hij
   rcases getElem?_append_one hx with hx | ⟨rfl, rfl⟩ <;> rcases getElem?_append_one hy with hy | ⟨rfl, rfl⟩
   · obtain ⟨a1, a2, a3⟩ := hagree i (lt hx)
     obtain ⟨b1, b2, b3⟩ := hagree j (lt hy);rw [<- a1, <- b1];exact hS.apart i j x y hx hy hal1 hal2 (a3.trans hn1) (b3.trans hn2) hij
   · obtain ⟨a1, a2, a3⟩ := hagree i (lt hx)
     rw [upd_eq.2.2] at hn2;rw [<- a1, upd_eq.1];exact Nat.ne_of_lt (Nat.lt_of_lt_of_le (blt hx hal1 (a3.trans hn1)) (hb hn2))
   · obtain ⟨b1, b2, b3⟩ := hagree j (lt hy)
     rw [upd_eq.2.2] at hn1;rw [<- b1, upd_eq.1];exact Nat.ne_of_gt (Nat.lt_of_lt_of_le (blt hy hal2 (b3.trans hn2)) (hb hn1))
   · exact absurd rfl hij
 · intro id x b hx hb
   rcases getElem?_append_one hx with hx | ⟨rfl, rfl⟩
   · obtain ⟨a1, a2, a3⟩ := hagree id (lt hx)
     rw [<- a1, <- a3];exact hS.names id x b hx hb
   · cases hb
 · refine ⟨hA.size, fun t sv ht hj => ?_, ?_⟩
   · rw [hA.tm t sv ht hj, den_congr hagree sv (belowL_get hw.1.1 ht)]
   · rw [hA.defers]
     refine List.map_congr_left fun m hm => ?_;have := hw.2 m hm
     simp only [mark, (hagree m (by simpa using this)).1]
theorem Sat.push (hS : Sat c e s w) (hA : SatA e s a) (hw : wfSt s = true) {o : Obj} {obj : EO} {cp : Nat} (hheap : w'.heap = w.heap.push o) (hsame : Same w w')
 (hh : holds (e.upd s.H.length w.heap.size cp false) s.H.length (fun b => w'.heap[b]?) obj) :
 Sat c (e.upd s.H.length w.heap.size cp false) { s with H := s.H ++ [⟨obj, none⟩] } w' /\ SatA (e.upd s.H.length w.heap.size cp false) { s with H := s.H ++ [⟨obj, none⟩] } a :=
 hS.add hA hw (fun b hb => by rw [hheap, Array.getElem?_push, if_neg (Nat.ne_of_lt hb)]) (by rw [hheap]; simp) hsame (fun _ => Nat.le_refl _) hh
theorem blk_lt (hS : Sat c e s w) {id : Nat} {x : Ent} (hx : s.H[id]? = some x) (hal : alive x.obj = true) (hnl : e.nil id = false) : e.blk id < w.heap.size := by
 have := (hS.owned id x hx hal).1
 cases hx' : x.obj with
 | cells cs el => rw [hx'] at this; obtain ⟨_, cc, h1, _⟩ := this; exact (Array.getElem?_eq_some_iff.1 h1).1
 | vec xs el => rw [hx'] at this; exact (Array.getElem?_eq_some_iff.1 this.2).1
 | row xs sz el =>
   rw [hx'] at this
   rcases this.2.2 with h | ⟨_, cc, _, h1, _⟩
   · rw [h.1] at hnl; cases hnl
   · exact (Array.getElem?_eq_some_iff.1 h1).1
 | raw o => rw [hx'] at this; exact (Array.getElem?_eq_some_iff.1 this.2).1
 | dead => rw [hx'] at hal; cases hal
theorem getElem?_set' {α : Type} {l : List α} {x y : α} {i j : Nat} (h : (l.set i x)[j]? = some y) : (j = i /\ y = x /\ i < l.length) \/ (j ≠ i /\ l[j]? = some y) := by
 rw [List.getElem?_set] at h
 split at h
 · rename_i hij
   split at h
   · rename_i hl
     exact .inl ⟨hij.symm, (Option.some.inj h).symm, hl⟩
   · cases h
 · rename_i hij
   exact .inr ⟨fun h' => hij h'.symm, h⟩
theorem Sat.store (hS : Sat c e s w) (hA : SatA e s a) {id : Nat} {x : Ent} {obj : EO} (hx : s.H[id]? = some x) (hal : alive x.obj = true) (hnil : e.nil id = false)
 (hsz : w.heap.size = w'.heap.size) (hsame : Same w w') (hold : ∀ b, b ≠ e.blk id -> w'.heap[b]? = w.heap[b]?) (hh : holds e id (fun b => w'.heap[b]?) obj) :
 Sat c e { s with H := s.H.set id ⟨obj, x.name⟩ } w' /\ SatA e { s with H := s.H.set id ⟨obj, x.name⟩ } a := by
 have hfree := (hS.owned id x hx hal).2 hnil
 have keep : ∀ I : Mem, I (e.blk id) = none -> I.inW w -> I.inW w' := fun I hI0 hI b o hb => by
  rw [hold b (fun h => by rw [h, hI0] at hb; cases hb)]
  exact hI b o hb
 refine ⟨⟨hS.same.trans hsame, hsz ▸ hS.size, keep _ hfree.1 hS.I, keep _ hfree.2 hS.hf, hS.old, ?_, ?_, ?_⟩, ⟨hA.size, hA.tm, hA.defers⟩⟩
 · intro j y hy hal'
   rcases getElem?_set' hy with ⟨rfl, rfl, _⟩ | ⟨hne, hy⟩
   · exact ⟨hh, fun _ => hfree⟩
   · obtain ⟨h1, h2⟩ := hS.owned j y hy hal'
     refine ⟨?_, h2⟩;have hb : e.nil j = false -> w'.heap[e.blk j]? = w.heap[e.blk j]? := fun hn => hold _ (hS.apart j id y x hy hx hal' hal hn hnil hne)
     cases hyo : y.obj with
     | cells cs el => rw [hyo] at h1; obtain ⟨h0, cc, h3⟩ := h1; exact ⟨h0, cc, by simp only [hb h0]; exact h3⟩
     | vec xs el => rw [hyo] at h1; exact ⟨h1.1, by simp only [hb h1.1]; exact h1.2⟩
     | row xs sz el =>
       rw [hyo] at h1;refine ⟨h1.1, h1.2.1, ?_⟩
       rcases h1.2.2 with h | ⟨h0, cc, h3⟩
       · exact .inl h
       · exact .inr ⟨h0, cc, by simp only [hb h0]; exact h3⟩
     | raw o => rw [hyo] at h1; exact ⟨h1.1, by simp only [hb h1.1]; exact h1.2⟩
     | dead => trivial
 · intro i j y z hy hz hal1 hal2 hn1 hn2 hij
   rcases getElem?_set' hy with ⟨rfl, rfl, _⟩ | ⟨hne, hy1⟩ <;> rcases getElem?_set' hz with ⟨rfl, rfl, _⟩ | ⟨hne', hz1⟩
   · exact absurd rfl hij
   · exact hS.apart _ j x z hx hz1 hal hal2 hn1 hn2 hij
   · exact hS.apart i _ y x hy1 hx hal1 hal hn1 hn2 hij
   · exact hS.apart i j y z hy1 hz1 hal1 hal2 hn1 hn2 hij
 · intro j y b hy hb
   rcases getElem?_set' hy with ⟨rfl, rfl, _⟩ | ⟨_, hy⟩
   · exact hS.names _ x b hx hb
   · exact hS.names j y b hy hb
def junkId (id : Nat) (x : SV) : SV := if refs id x then .junk else x
def junkE (id : Nat) (x : Ent) : Ent :=
 match x.obj with
 | .cells cs el => ⟨.cells (cs.map (junkId id)) el, x.name⟩
 | _ => x
def junkS (id : Nat) (s : St) : St := { s with tm := s.tm.map (junkId id), H := s.H.map (junkE id) }
theorem junkId_den {e e' : Env} {id : Nat} (h : ∀ i, i ≠ id -> e.blk i = e'.blk i /\ e.cap i = e'.cap i /\ e.nil i = e'.nil i) {x : SV} (hj : isJunk (junkId id x) = false) :
 junkId id x = x /\ isJunk x = false /\ den e x = den e' (junkId id x) := by
 unfold junkId at hj ⊢;split
 · rename_i hr
   rw [if_pos hr] at hj;cases hj
 · rename_i hr
   rw [if_neg hr] at hj
   exact ⟨rfl, hj, den_norefs h x (by simpa using hr)⟩
theorem junkE_alive (id : Nat) (x : Ent) : alive (junkE id x).obj = alive x.obj /\ (junkE id x).name = x.name := by
 unfold junkE;split
 · rename_i h; simp [h, alive]
 · exact ⟨rfl, rfl⟩
theorem holds_junk {e e' : Env} {id j : Nat} {h h' : Nat -> Option Obj} {x : Ent} (hag : ∀ i, i ≠ id -> e.blk i = e'.blk i /\ e.cap i = e'.cap i /\ e.nil i = e'.nil i) (hj : j ≠ id)
 (hh : e.nil j = false -> h' (e.blk j) = h (e.blk j)) (H : holds e j h x.obj) : holds e' j h' (junkE id x).obj := by
 obtain ⟨a1, a2, a3⟩ := hag j hj;unfold junkE
 cases hx : x.obj with
 | cells cs el =>
   rw [hx] at H;obtain ⟨h0, cc, h1, h2, h3⟩ := H
   refine ⟨a3 ▸ h0, cc, by rw [<- a1, hh h0, h1], by simpa using h2, fun k sv hk hjk => ?_⟩
   rw [List.getElem?_map, Option.map_eq_some_iff] at hk;obtain ⟨sv0, hk0, rfl⟩ := hk;obtain ⟨e1, e2, e3⟩ := junkId_den hag hjk;rw [h3 k sv0 hk0 e2, e3]
 | vec xs el => rw [hx] at H; simp only [hx]; exact ⟨a3 ▸ H.1, by rw [<- a1, hh H.1, H.2]⟩
 | row xs sz el =>
   rw [hx] at H;simp only [hx];refine ⟨H.1, H.2.1, ?_⟩;rw [<- a1, <- a2, <- a3]
   rcases H.2.2 with h | ⟨h0, cc, h3⟩
   · exact .inl h
   · exact .inr ⟨h0, cc, by rw [hh h0]; exact h3⟩
 | raw o => rw [hx] at H; simp only [hx]; exact ⟨a3 ▸ H.1, by rw [<- a1, hh H.1, H.2]⟩
 | dead => simp only [hx]; trivial
theorem Sat.grow (hS : Sat c e s w) (hA : SatA e s a) {id : Nat} {x : Ent} {obj : EO} (hx : s.H[id]? = some x) (hal : alive x.obj = true) {e' : Env}
 (hag : ∀ i, i ≠ id -> e.blk i = e'.blk i /\ e.cap i = e'.cap i /\ e.nil i = e'.nil i) (hmk : s.marks.all (fun m => !(Nat.beq m id)) = true)
 (hsz : w.heap.size <= w'.heap.size) (hsame : Same w w') (hold : ∀ b, b < w.heap.size -> (e.nil id = false -> b ≠ e.blk id) -> w'.heap[b]? = w.heap[b]?)
 (hnew : e'.nil id = false -> (e.nil id = false /\ e'.blk id = e.blk id) \/ w.heap.size <= e'.blk id)
 (hh : holds e' id (fun b => w'.heap[b]?) obj) :
 Sat c e' { junkS id s with H := (s.H.map (junkE id)).set id ⟨obj, none⟩ } w' /\ SatA e' { junkS id s with H := (s.H.map (junkE id)).set id ⟨obj, none⟩ } a := by
 have hown := hS.owned id x hx hal
 have keep : ∀ I : Mem, (e.nil id = false -> I (e.blk id) = none) -> I.inW w -> I.inW w' := fun I hI0 hI b o hb => by
  rw [hold b (Mem.inW_lt hI hb) (fun hn h => by rw [h, hI0 hn] at hb; cases hb)]
  exact hI b o hb
 have hfreeI : ∀ I : Mem, I.inW w -> (e.nil id = false -> I (e.blk id) = none) -> e'.nil id = false -> I (e'.blk id) = none := by
  intro I hI h0 hn
  rcases hnew hn with ⟨h1, h2⟩ | h1
  · rw [h2]; exact h0 h1
  · cases hb : I (e'.blk id) with
    | none => rfl
    | some o => exact absurd (Mem.inW_lt hI hb) (by omega)
 have old : ∀ {j : Nat} {y : Ent}, (s.H.map (junkE id))[j]? = some y -> ∃ y0, s.H[j]? = some y0 /\ y = junkE id y0 := by
  intro j y hy;rw [List.getElem?_map, Option.map_eq_some_iff] at hy;obtain ⟨y0, h1, h2⟩ := hy;exact ⟨y0, h1, h2.symm⟩
 refine ⟨⟨hS.same.trans hsame, Nat.le_trans hS.size hsz, keep _ (fun hn => (hown.2 hn).1) hS.I, keep _ (fun hn => (hown.2 hn).2) hS.hf, hS.old, ?_, ?_, ?_⟩, ?_⟩
 · intro j y hy hal'
   rcases getElem?_set' hy with ⟨rfl, rfl, _⟩ | ⟨hne, hy⟩
   · exact ⟨hh, fun hn => ⟨hfreeI _ hS.I (fun h => (hown.2 h).1) hn, hfreeI _ hS.hf (fun h => (hown.2 h).2) hn⟩⟩
   · obtain ⟨y0, hy0, rfl⟩ := old hy
     have hal0 : alive y0.obj = true := (junkE_alive id y0).1 ▸ hal';obtain ⟨h1, h2⟩ := hS.owned j y0 hy0 hal0;obtain ⟨a1, a2, a3⟩ := hag j hne;refine ⟨holds_junk hag hne (fun hn => hold _ (blk_lt hS hy0 hal0 hn) (fun hn2 => hS.apart j id y0 x hy0 hx hal0 hal hn hn2 hne)) h1, fun hn => ?_⟩;rw [<- a1];exact h2 (a3.trans hn)
 · intro i j y z hy hz hal1 hal2 hn1 hn2 hij
   have key : ∀ {j : Nat} {z0 : Ent}, s.H[j]? = some z0 -> alive z0.obj = true -> e'.nil j = false -> j ≠ id -> e'.nil id = false -> e'.blk id ≠ e'.blk j := by
    intro j z0 hz0 hal0 hn hne hni;obtain ⟨a1, a2, a3⟩ := hag j hne;rw [<- a1]
    rcases hnew hni with ⟨h1, h2⟩ | h1
    · rw [h2]; exact hS.apart id j x z0 hx hz0 hal hal0 h1 (a3.trans hn) (Ne.symm hne)
    · exact Nat.ne_of_gt (Nat.lt_of_lt_of_le (blk_lt hS hz0 hal0 (a3.trans hn)) h1)
   rcases getElem?_set' hy with ⟨rfl, rfl, _⟩ | ⟨hne, hy1⟩ <;> rcases getElem?_set' hz with ⟨rfl, rfl, _⟩ | ⟨hne', hz1⟩
   · exact absurd rfl hij
   · obtain ⟨z0, hz0, rfl⟩ := old hz1
     exact key hz0 ((junkE_alive _ z0).1 ▸ hal2) hn2 hne' hn1
   · obtain ⟨y0, hy0, rfl⟩ := old hy1
     exact (key hy0 ((junkE_alive _ y0).1 ▸ hal1) hn1 hne hn2).symm
   · obtain ⟨y0, hy0, rfl⟩ := old hy1
     obtain ⟨z0, hz0, rfl⟩ := old hz1;obtain ⟨a1, a2, a3⟩ := hag i hne;obtain ⟨b1, b2, b3⟩ := hag j hne';rw [<- a1, <- b1];exact hS.apart i j y0 z0 hy0 hz0 ((junkE_alive _ y0).1 ▸ hal1) ((junkE_alive _ z0).1 ▸ hal2) (a3.trans hn1) (b3.trans hn2) hij
 · intro j y b hy hb
   rcases getElem?_set' hy with ⟨rfl, rfl, _⟩ | ⟨hne, hy⟩
   · cases hb
   · obtain ⟨y0, hy0, rfl⟩ := old hy
     rw [(junkE_alive id y0).2] at hb;obtain ⟨a1, a2, a3⟩ := hag j hne;rw [<- a1, <- a3];exact hS.names j y0 b hy0 hb
 · refine ⟨by simpa [junkS] using hA.size, fun t sv ht hj => ?_, ?_⟩
   · simp only [junkS, List.getElem?_map, Option.map_eq_some_iff] at ht
     obtain ⟨sv0, h1, rfl⟩ := ht;obtain ⟨e1, e2, e3⟩ := junkId_den hag hj;rw [hA.tm t sv0 h1 e2, e3]
   · rw [hA.defers]
     refine List.map_congr_left fun m hm => ?_
     have hne : m ≠ id := by
      have := List.all_eq_true.1 hmk m hm;intro h;subst h;simp at this
     simp only [mark, (hag m hne).1]
end
end Go.SE
namespace Go.SE
open Go.RowKit
section
variable {P : Program} {w : World}
def bytesV (q : ByteArray) : List Value := q.data.toList.map fun b => .int .u8 b.toNat
theorem bytesV_len (q : ByteArray) : (bytesV q).length = q.size := by simp [bytesV]
structure Src (P : Program) (w : World) (xt : TypeId) (x : Value) (size m : Nat) (news : List Value) : Prop where
 ty : P.underlying xt = some .string \/ ∃ u, P.underlying xt = some (.slice u)
 len : ∀ w', (Builtin.lenOf x).run P w' = .ok m w'
 cells : ∀ w' : World, w'.heap = w.heap -> (Builtin.firstCells size m x).run P w' = .ok news.toArray w'
 length : news.length = m * size
theorem run_storeCells_fz (P : Program) (g o : Nat) (t : TypeId) (fz : Nat × Nat) : ∀ (vs : List Value) (i : Nat) (cur : Array Value) (w : World), w.heap[g]? = some (.cells cur t fz) -> thaw fz cur.size -> o + i + vs.length <= cur.size -> (∀ v ∈ vs, v.oneCell' = true) ->
 (storeCells ⟨g, o, none⟩ vs i).run P w = .ok () (w.setRow g (cur.toList.take (o + i) ++ vs ++ cur.toList.drop (o + i + vs.length)).toArray)
 | [], i, cur, w, hg, _, _, _ => by
   simp only [storeCells, List.append_nil, List.length_nil, Nat.add_zero, List.take_append_drop, Array.toArray_toList];rw [setRow_self w g cur t fz hg];rfl
 | v :: rest, i, cur, w, hg, hf, hl, h1 => by
   have hi : o + i < cur.size := by simp at hl; omega
   have hadd : (⟨g, o, none⟩ : Addr).add i = ⟨g, o + i, none⟩ := by unfold Addr.add; split <;> simp_all
   have hcell : w.cell? ⟨g, o + i, none⟩ = some cur[o + i] := by simp [World.cell?, hg, hi]
   have hfro : w.frozen? ⟨g, o + i, none⟩ = false := by
    have := hf (o + i) hi;simp [World.frozen?, hg];omega
   have hst : (store ((⟨g, o, none⟩ : Addr).add i) v).run P w = .ok () (w.setRow g (cur.setIfInBounds (o + i) v)) := by
    rw [hadd, run_store P w _ v _ (h1 v (by simp)), hcell]
    simp [hfro, setCell_eq_setRow w g (o + i) cur t fz v hg]
   have ih := run_storeCells_fz P g o t fz rest (i + 1) (cur.setIfInBounds (o + i) v) (w.setRow g (cur.setIfInBounds (o + i) v)) (setRow_heap w g cur _ t _ hg) (by simpa using hf) (by simp at hl ⊢; omega) (fun x hx => h1 x (by simp [hx]))
   simp only [storeCells, Sem.run_bind, hst, Result.andThen_ok, ih, setRow_setRow]
   congr 3
   have e := list_seg_step cur.toList (o + i) v rest (by simp at hl ⊢; omega)
   simpa [Array.toList_setIfInBounds, Nat.add_assoc] using e
theorem run_storeCells_pz (P : Program) (g o : Nat) (t : TypeId) (fz : Nat × Nat) : ∀ (vs : List Value) (i : Nat) (cur : Array Value) (w : World), w.heap[g]? = some (.cells cur t fz) -> (∀ j, o + i <= j -> j < o + i + vs.length -> ¬ (fz.1 <= j /\ j < fz.2)) -> o + i + vs.length <= cur.size -> (∀ v ∈ vs, v.oneCell' = true) ->
 (storeCells ⟨g, o, none⟩ vs i).run P w = .ok () (w.setRow g (cur.toList.take (o + i) ++ vs ++ cur.toList.drop (o + i + vs.length)).toArray)
 | [], i, cur, w, hg, _, _, _ => by
   simp only [storeCells, List.append_nil, List.length_nil, Nat.add_zero, List.take_append_drop, Array.toArray_toList];rw [setRow_self w g cur t fz hg];rfl
 | v :: rest, i, cur, w, hg, hf, hl, h1 => by
   have hi : o + i < cur.size := by simp at hl; omega
   have hadd : (⟨g, o, none⟩ : Addr).add i = ⟨g, o + i, none⟩ := by unfold Addr.add; split <;> simp_all
   have hcell : w.cell? ⟨g, o + i, none⟩ = some cur[o + i] := by simp [World.cell?, hg, hi]
   have hfro : w.frozen? ⟨g, o + i, none⟩ = false := by
    have := hf (o + i) (Nat.le_refl _) (by simp)
    simp [World.frozen?, hg];omega
   have hst : (store ((⟨g, o, none⟩ : Addr).add i) v).run P w = .ok () (w.setRow g (cur.setIfInBounds (o + i) v)) := by
    rw [hadd, run_store P w _ v _ (h1 v (by simp)), hcell]
    simp [hfro, setCell_eq_setRow w g (o + i) cur t fz v hg]
   have ih := run_storeCells_pz P g o t fz rest (i + 1) (cur.setIfInBounds (o + i) v) (w.setRow g (cur.setIfInBounds (o + i) v)) (setRow_heap w g cur _ t _ hg) (fun j h2 h3 => hf j (by omega) (by simp only [List.length_cons]; omega)) (by simp at hl ⊢; omega) (fun x hx => h1 x (by simp [hx]))
   simp only [storeCells, Sem.run_bind, hst, Result.andThen_ok, ih, setRow_setRow]
   congr 3
   have e := list_seg_step cur.toList (o + i) v rest (by simp at hl ⊢; omega)
   simpa [Array.toList_setIfInBounds, Nat.add_assoc] using e
theorem run_app_room {t xt ty e : TypeId} {i : TypeInfo} {x : Value} {m : Nat} {news : List Value} (ht : P.underlying t = some (.slice e)) (hi : P.info? e = some i) (hx : Src P w xt x i.size m news)
 (g sLen sCap : Nat) (cur : Array Value) (fz : Nat × Nat) (hg : w.heap[g]? = some (.cells cur e fz)) (hfz : thaw fz cur.size) (h1 : ∀ u ∈ news, u.oneCell' = true)
 (hroom : sLen + m <= sCap) (hfit : sLen * i.size + news.length <= cur.size) :
 (Builtin.append_ #[t, xt] ty #[.slice (some ⟨g, 0, none⟩) sLen sCap, x]).run P w =
   .ok (.slice (some ⟨g, 0, none⟩) (sLen + m) sCap) (w.setRow g (cur.toList.take (sLen * i.size) ++ news ++ cur.toList.drop (sLen * i.size + news.length)).toArray) := by
 have hst := run_storeCells_fz P g (sLen * i.size) e fz news 0 cur w hg hfz (by simpa using hfit) h1
 simp only [Nat.add_zero] at hst
 rcases hx.ty with hd | ⟨u, hd⟩ <;>
 simp [Builtin.append_, run_underlying ht, run_underlying hd, sizeOf, typeInfo, hi, hx.len, hroom, hx.cells w rfl, Addr.add_lit, hst]
theorem run_app_none {t xt ty e : TypeId} {i : TypeInfo} {x : Value} {news : List Value} (ht : P.underlying t = some (.slice e)) (hi : P.info? e = some i) (hx : Src P w xt x i.size 0 news) :
 (Builtin.append_ #[t, xt] ty #[.slice none 0 0, x]).run P w = .ok (.slice none 0 0) w := by
 rcases hx.ty with hd | ⟨u, hd⟩ <;>
 simp [Builtin.append_, run_underlying ht, run_underlying hd, sizeOf, typeInfo, hi, hx.len, hx.cells w rfl]
theorem run_app_nil {t xt ty e : TypeId} {i : TypeInfo} {z x : Value} {m : Nat} {news : List Value} (ht : P.underlying t = some (.slice e)) (hi : P.info? e = some i) (hz : i.zero = some z) (hx : Src P w xt x i.size m news)
 (h0 : 0 < m) (h63 : (m : Int) <= 9223372036854775807) (h48 : m * i.bytes <= 281474976710656) :
 (Builtin.append_ #[t, xt] ty #[.slice none 0 0, x]).run P w =
   .ok (.slice (some ⟨w.heap.size, 0, none⟩) m (grownCap w m 0 e)) (w.drew.alloc (.cells (news.toArray ++ Builtin.zeroCells z.cells (grownCap w m 0 e - m)) e)) := by
 have hn : m ≠ 0 := by omega
 have h63' : ¬ (9223372036854775807 < (m : Int)) := by omega
 have h48' : ¬ (281474976710656 < Builtin.nextslicecap m 0 * i.bytes) := by rw [nextslicecap_zero h0]; omega
 have hf := hx.cells w.drew rfl
 rcases hx.ty with hd | ⟨u, hd⟩ <;>
 simp [Builtin.append_, run_underlying ht, run_underlying hd, sizeOf, typeInfo, zeroValue, hi, hz, hx.len, hn, h63', h48', Question.forced, run_firstCells_none, hf, newRow, grownCap]
theorem run_app_grow {t xt ty e : TypeId} {i : TypeInfo} {z x : Value} {m : Nat} {news : List Value} (ht : P.underlying t = some (.slice e)) (hi : P.info? e = some i) (hz : i.zero = some z) (hx : Src P w xt x i.size m news)
 (b : Addr) (sLen sCap : Nat) (olds : List Value) (hlo : olds.length = sLen * i.size) (holds : ∀ j v, olds[j]? = some v -> w.cell? (b.add j) = some v)
 (hg : sCap < sLen + m) (h63 : ((sLen + m : Nat) : Int) <= 9223372036854775807) (hfit : Builtin.nextslicecap (sLen + m) sCap * i.bytes <= 281474976710656) :
 (Builtin.append_ #[t, xt] ty #[.slice (some b) sLen sCap, x]).run P w =
   .ok (.slice (some ⟨w.heap.size, 0, none⟩) (sLen + m) (grownCap w (sLen + m) sCap e))
    (w.drew.alloc (.cells (olds.toArray ++ news.toArray ++ Builtin.zeroCells z.cells (grownCap w (sLen + m) sCap e - (sLen + m))) e)) := by
 have hn : ¬ (sLen + m <= sCap) := by omega
 have h63' : ¬ (9223372036854775807 < ((sLen : Int) + (m : Int))) := by omega
 have h48' : ¬ (281474976710656 < Builtin.nextslicecap (sLen + m) sCap * i.bytes) := by omega
 have hf := hx.cells w.drew rfl
 have hfo := run_firstCells_some (P := P) w.drew i.size sLen b sLen sCap olds hlo (by simpa using holds)
 rcases hx.ty with hd | ⟨u, hd⟩ <;>
 simp [Builtin.append_, run_underlying ht, run_underlying hd, sizeOf, typeInfo, zeroValue, hi, hz, hx.len, hn, h63', h48', Question.forced, hf, hfo, newRow, grownCap]
 all_goals
  congr 2
  apply Array.ext';simp [List.append_assoc]
theorem Src.slice {xt u : TypeId} {a : Option Addr} {m c size : Nat} {news : List Value} (hu : P.underlying xt = some (.slice u)) (hl : news.length = m * size)
 (ha : a = none -> m = 0) (hc : ∀ j v, news[j]? = some v -> ∃ ad, a = some ad /\ w.cell? (ad.add j) = some v) : Src P w xt (.slice a m c) size m news := by
 refine ⟨.inr ⟨_, hu⟩, fun w' => by simp [Builtin.lenOf], fun w' hw' => ?_, hl⟩
 cases a with
 | none =>
   have h0 := ha rfl;subst h0
   have : news = [] := List.length_eq_zero_iff.1 (by simpa using hl)
   subst this;simp [Builtin.firstCells]
 | some ad =>
   exact run_firstCells_some (P := P) w' size m ad m c news hl (fun j v hj => by
    obtain ⟨_, h1, h2⟩ := hc j v hj;cases h1;simpa [World.cell?, hw'] using h2)
theorem Src.string {xt : TypeId} {q : ByteArray} (hu : P.underlying xt = some .string) : Src P w xt (.string q) 1 q.size (bytesV q) := by
 refine ⟨.inl hu, fun w' => by simp [Builtin.lenOf], fun w' hw' => ?_, by simp [bytesV]⟩
 unfold bytesV;simp only [Builtin.firstCells, Sem.run_pure]
 congr 1
 have : q.extract 0 q.size = q := by simp
 rw [this];apply Array.ext'
 simp
end
def isRow (h : Nat -> Option Obj) (nil : Bool) (blk cap sz : Nat) (el : TypeId) (xs : List Value) : Prop :=
 (nil = true /\ cap = 0 /\ xs = []) \/ (nil = false /\ ∃ (c : Array Value) (fz : Nat × Nat), h blk = some (.cells c el fz) /\ thaw fz c.size /\ c.size = cap * sz /\ cap <= maxLen /\ xs.length <= c.size /\ c.toList.take xs.length = xs)
theorem run_app_row {P : Program} {w : World} {t xt ty e : TypeId} {i : TypeInfo} {z x : Value} {m n blk cap : Nat} {nil : Bool} {xs news : List Value}
 (ht : P.underlying t = some (.slice e)) (hi : P.info? e = some i) (hz : i.zero = some z) (hzs : z.cells.size = i.size) (hsz : 0 < i.size)
 (hx : Src P w xt x i.size m news) (h1 : ∀ u ∈ news, u.oneCell' = true) (hrow : isRow (fun b => w.heap[b]?) nil blk cap i.size e xs) (hn : xs.length = n * i.size)
 (h63 : n + m <= maxLen) (hbytes : (n + m) * i.bytes <= 140737488355328) :
 ∃ (nil' : Bool) (blk' cap' : Nat) (w' : World),
  (Builtin.append_ #[t, xt] ty #[.slice (if nil then none else some ⟨blk, 0, none⟩) n cap, x]).run P w = .ok (.slice (if nil' then none else some ⟨blk', 0, none⟩) (n + m) cap') w' /\
  isRow (fun b => w'.heap[b]?) nil' blk' cap' i.size e (xs ++ news) /\ w.heap.size <= w'.heap.size /\ Same w w' /\
  (∀ b, b < w.heap.size -> (nil = false -> b ≠ blk) -> w'.heap[b]? = w.heap[b]?) /\ (nil' = false -> (nil = false /\ blk' = blk) \/ w.heap.size <= blk') := by
 have hsmall : n + m <= 9223372036854775807 := by simp only [maxLen] at h63; omega
 have hlen : (xs ++ news).length = (n + m) * i.size := by rw [List.length_append, hn, hx.length, Nat.add_mul]
 have grown : ∀ (old : Nat), old < n + m ->
  isRow (fun b => (w.drew.alloc (.cells (xs.toArray ++ news.toArray ++ Builtin.zeroCells z.cells (grownCap w (n + m) old e - (n + m))) e)).heap[b]?) false w.heap.size (grownCap w (n + m) old e) i.size e (xs ++ news) /\
  (∀ b, b < w.heap.size -> (w.drew.alloc (.cells (xs.toArray ++ news.toArray ++ Builtin.zeroCells z.cells (grownCap w (n + m) old e - (n + m))) e)).heap[b]? = w.heap[b]?) := by
  intro old ho;have hge := grownCap_ge w (n + m) old e;have hcm : grownCap w (n + m) old e <= maxLen := grownCap_le_maxLen w (n + m) old e h63
  have hsize : (xs.toArray ++ news.toArray ++ Builtin.zeroCells z.cells (grownCap w (n + m) old e - (n + m))).size = grownCap w (n + m) old e * i.size := by
   simp only [Array.size_append, List.size_toArray, size_zeroCells, hzs, hn, hx.length, <- Nat.add_mul]
   congr 1
   omega
  refine ⟨.inr ⟨rfl, _, (0, 0), heap_alloc_new w.drew _, thaw_zero _, hsize, hcm, ?_, ?_⟩, fun k hk => heap_alloc_old w.drew _ k hk⟩
  · rw [hsize, hlen]; exact Nat.mul_le_mul_right _ hge
  · simp only [Array.toList_append, List.append_assoc]
    rw [<- List.append_assoc];exact List.take_left
 rcases hrow with ⟨rfl, rfl, rfl⟩ | ⟨rfl, cur, fz, hg, hfz, hcs, hcm, hle, htake⟩
 · have h0 : n = 0 := by
    simp only [List.length_nil] at hn
    rcases Nat.mul_eq_zero.1 hn.symm with h | h
    · exact h
    · omega
   subst h0
   by_cases hm : m = 0
   · subst hm
     have hnn : news = [] := List.length_eq_zero_iff.1 (by simpa using hx.length)
     subst hnn
     exact ⟨true, 0, 0, w, by simpa using run_app_none ht hi hx, .inl ⟨rfl, rfl, rfl⟩, Nat.le_refl _, Same.refl _, fun _ _ _ => rfl, fun h => by cases h⟩
   · have hr := run_app_nil (ty := ty) ht hi hz hx (by omega) (by omega) (by have hb := hbytes; simp only [Nat.zero_add] at hb; omega)
     obtain ⟨g1, g2⟩ := grown 0 (by omega)
     simp only [Nat.zero_add, List.nil_append, Array.empty_append] at g1 g2 ⊢
     refine ⟨false, w.heap.size, _, _, by simpa using hr, g1, by simp, ⟨rfl, rfl, rfl⟩, fun b hb _ => g2 b hb, fun _ => .inr (Nat.le_refl _)⟩
 · by_cases hroom : n + m <= cap
   · have hfit : n * i.size + news.length <= cur.size := by rw [hx.length, hcs, <- Nat.add_mul]; exact Nat.mul_le_mul_right _ hroom
     have hr := run_app_room (ty := ty) ht hi hx blk n cap cur fz hg hfz h1 hroom hfit
     refine ⟨false, blk, cap, _, by simpa using hr, .inr ⟨rfl, _, fz, setRow_heap w blk cur _ e _ hg, ?_, ?_, hcm, ?_, ?_⟩, by simp, ⟨rfl, rfl, rfl⟩, fun b _ hb => setRow_other w blk b _ (hb rfl), fun _ => .inl ⟨rfl, rfl⟩⟩
     · intro k hk
       refine hfz k (Nat.lt_of_lt_of_eq hk ?_);simp only [List.size_toArray, List.length_append, List.length_take, List.length_drop, Array.length_toList];omega
     · simp only [List.size_toArray, List.length_append, List.length_take, List.length_drop, Array.length_toList]
       omega
     · simp only [List.size_toArray, List.length_append, List.length_take, List.length_drop, Array.length_toList]
       omega
     · rw [<- hn, htake]
       show List.take (xs ++ news).length (xs ++ (news ++ _)) = xs ++ news
       rw [<- List.append_assoc];exact List.take_left
   · have hcells : ∀ j u, xs[j]? = some u -> w.cell? ((⟨blk, 0, none⟩ : Addr).add j) = some u := by
      intro j u hj;rw [Addr.add_lit, Nat.zero_add];have hlt := (List.getElem?_eq_some_iff.1 hj).1
      have : cur.toList[j]? = some u := by
       rw [<- htake, List.getElem?_take] at hj
       split at hj
       · exact hj
       · rename_i hn2; exact absurd hlt hn2
      simp [World.cell?, hg];simpa using this
     have hr := run_app_grow (ty := ty) ht hi hz hx ⟨blk, 0, none⟩ n cap xs hn hcells (by omega) (by omega) (growslice_fits (by omega) hbytes)
     obtain ⟨g1, g2⟩ := grown cap (by omega)
     exact ⟨false, w.heap.size, _, _, by simpa using hr, g1, by simp, ⟨rfl, rfl, rfl⟩, fun b hb _ => g2 b hb, fun _ => .inr (Nat.le_refl _)⟩
end Go.SE
namespace Go.SE
open Go.RowKit
def addE (s : St) (obj : EO) : St := { s with H := s.H ++ [⟨obj, none⟩] }
def zfill (z : Array Value) (n : Nat) : List Value := (List.range n).map fun i => z[i % z.size]!
def zK (z : Array Value) (n : Nat) (F : List Value -> Prop) : Prop :=
 Br (Nat.blt 64 n && Nat.blt 0 z.size) (∀ xs : List Value, xs.length = n -> (∀ (j : Nat) (v : Value), xs[j]? = some v -> z[j % z.size]? = some v) -> F xs) (F (zfill z n))
theorem zK_sound {z : Array Value} {n : Nat} {F : List Value -> Prop} (h : zK z n F) : F (zfill z n) := by
 refine h.elim (fun hc h => h _ (by simp [zfill]) fun j v hj => ?_) (fun _ h => h)
 simp only [Bool.and_eq_true, Nat.blt_eq] at hc;simp only [zfill, List.getElem?_map, Option.map_eq_some_iff] at hj;obtain ⟨k, hk, rfl⟩ := hj
 have : k = j := by
  rw [List.getElem?_range] at hk
  · cases hk; rfl
  · have := (List.getElem?_eq_some_iff.1 hk).1
    simpa using this
 subst this;have hlt : k % z.size < z.size := Nat.mod_lt _ hc.2;rw [Array.getElem!_eq_getD, Array.getD_eq_getD_getElem?, Array.getElem?_eq_getElem hlt];rfl
def one (x : SV) : Bool :=
 match x with
 | .v x => x.oneCell'
 | .agg _ | .tup _ | .junk => false
 | _ => true
theorem one_den {e : Env} {x : SV} (h : one x = true) : (den e x).oneCell' = true /\ isJunk x = false := by
 cases x <;> simp_all [one, den, Value.oneCell', isJunk]
def mapV : List SV -> Option (List Value)
 | [] => some []
 | x :: xs => match vOf x, mapV xs with
   | some v, some vs => some (v :: vs)
   | _, _ => none
theorem mapV_den {e : Env} : ∀ {l : List SV} {vs : List Value}, mapV l = some vs -> l.map (den e) = vs /\ ∀ x ∈ l, isJunk x = false
 | [], vs, h => by simp only [mapV, Option.some.injEq] at h; subst h; exact ⟨rfl, fun x h => by cases h⟩
 | x :: xs, vs, h => by
   simp only [mapV] at h
   split at h
   · rename_i v vs' hv hvs
     simp only [Option.some.injEq] at h;subst h;obtain ⟨h1, h2⟩ := mapV_den (e := e) hvs
     have hx : x = .v v := by cases x <;> simp_all [vOf]
     subst hx
     exact ⟨by simp [den, h1], fun y hy => by
      cases hy with
      | head => rfl
      | tail _ hm => exact h2 y hm⟩
   · cases h
def splice (xs : List Value) (off : Nat) (vs : List Value) : List Value :=
 match vs with
 | [v] => xs.set off v
 | vs => xs.take off ++ vs ++ xs.drop (off + vs.length)
theorem splice_eq {xs : List Value} {off : Nat} {vs : List Value} (h : off + vs.length <= xs.length) : splice xs off vs = xs.take off ++ vs ++ xs.drop (off + vs.length) := by
 unfold splice;split
 · rename_i v
   simp only [List.length_cons, List.length_nil] at h
   rw [List.set_eq_take_append_cons_drop, if_pos (by omega)]
   simp
 · rfl
def sStore (P : Program) (s : St) (t : TypeId) (addr x : SV) (K : St -> Prop) : Prop :=
 match svCells x, szT P t with
 | some l, some z => if Nat.beq l.length z && l.all one then
    match addr with
    | .ptr id off => match s.H[id]? with
      | some ⟨.cells cs el, nm⟩ => if Nat.ble (off + z) cs.length then K { s with H := s.H.set id ⟨.cells (setAt cs off l) el, nm⟩ } else False
      | some ⟨.vec xs el, nm⟩ => match mapV l with
        | some vs => off + vs.length <= xs.length /\ K { s with H := s.H.set id ⟨.vec (splice xs off vs) el, nm⟩ }
        | none => False
      | some ⟨.row xs sz el, nm⟩ => match mapV l with
        | some vs => off + vs.length <= xs.length /\ 0 < vs.length /\ K { s with H := s.H.set id ⟨.row (splice xs off vs) sz el, nm⟩ }
        | none => False
      | _ => False
    | .sptr id off => match s.H[id]? with
      | some ⟨.cells cs el, nm⟩ => match mapV l, mapV cs with
        | some vs, some xs => off + vs.length <= xs.length /\ K { s with H := s.H.set id ⟨.vec (splice xs off vs) el, nm⟩ }
        | _, _ => False
      | some ⟨.vec xs el, nm⟩ => match mapV l with
        | some vs => off + vs.length <= xs.length /\ K { s with H := s.H.set id ⟨.vec (splice xs off vs) el, nm⟩ }
        | none => False
      | some ⟨.row xs sz el, nm⟩ => match mapV l with
        | some vs => off + vs.length <= xs.length /\ 0 < vs.length /\ K { s with H := s.H.set id ⟨.row (splice xs off vs) sz el, nm⟩ }
        | none => False
      | _ => False
    | _ => False
   else False
 | _, _ => False
def rowOf (s : St) (x : SV) (sz : Nat) (el : TypeId) : Option (Option Nat × Nat × List Value) :=
 match x with
 | .v (.slice none 0 0) => some (none, 0, [])
 | .rsl id len => match s.H[id]? with
   | some ⟨.row xs sz' el', _⟩ => if Nat.beq sz sz' && Nat.beq el el' then some (some id, len, xs) else none
   | _ => none
 | .xsl id 0 len cap => match s.H[id]? with
   | some ⟨.cells cs el', _⟩ => match mapV cs with
     | some xs => if Nat.beq len cap && (Nat.beq el el' && (Nat.beq xs.length (len * sz) && Nat.ble len 16777216)) then some (some id, len, xs) else none
     | none => none
   | _ => none
 | _ => none
def srcOf (P : Program) (s : St) (xt : TypeId) (x : SV) (sz : Nat) (K : Nat -> List Value -> Prop) : Prop :=
 match P.underlying xt, x with
 | some (.slice _), .v (.slice a m _) => ∃ ys : List Value, ys.length = m * sz /\ (a = none -> m = 0) /\ (∀ (j : Nat) (v : Value), ys[j]? = some v -> atI s.I a j = some v) /\ (∀ v ∈ ys, v.oneCell' = true) /\ K m ys
 | some (.slice _), .xsl id off len _ => match s.H[id]? with
   | some ⟨.cells cs _, _⟩ => match mapV ((cs.drop off).take (len * sz)) with
     | some ys => if Nat.beq ys.length (len * sz) && ys.all (·.oneCell') then K len ys else False
     | none => False
   | some ⟨.vec xs _, _⟩ => off + len * sz <= xs.length /\ (∀ v ∈ (xs.drop off).take (len * sz), v.oneCell' = true) /\ K len ((xs.drop off).take (len * sz))
   | _ => False
 | some (.slice _), .rsl id len => match s.H[id]? with
   | some ⟨.row xs _ _, _⟩ => len * sz <= xs.length /\ (∀ v ∈ xs.take (len * sz), v.oneCell' = true) /\ K len (xs.take (len * sz))
   | _ => False
 | some .string, .v (.string q) => sz = 1 /\ K q.size (bytesV q)
 | _, _ => False
def sAppend (P : Program) (s : St) (t xt : TypeId) (x y : SV) (K : SV -> St -> Prop) : Prop :=
 match P.underlying t with
 | some (.slice el) => match P.info? el with
   | some i => match i.zero with
     | some z => if Nat.beq z.cells.size i.size && Nat.blt 0 i.size then
        match rowOf s x i.size el with
        | some (some id, n, xs) => srcOf P s xt y i.size fun m ys =>
           xs.length = n * i.size /\ n + m <= 9223372036854775807 /\ (n + m) * i.bytes <= 140737488355328 /\
           if s.marks.all (fun m => !(Nat.beq m id)) then
            K (.rsl id (n + m)) { junkS id s with H := (s.H.map (junkE id)).set id ⟨.row (xs ++ ys) i.size el, none⟩ } else False
        | some (none, _, _) => srcOf P s xt y i.size fun m ys => m <= 9223372036854775807 /\ m * i.bytes <= 140737488355328 /\
           if wfSt s then K (.rsl s.H.length m) (addE s (.row ys i.size el)) else False
        | none => False
       else False
     | none => False
   | none => False
 | _ => False
def seE (P : Program) (s : St) (o : Op) (K : SV -> St -> Prop) : Prop :=
 match o with
 | .box el x => match svCells (ev s x) with
   | some l => if wfSt s && belowL s.H.length l then K (.ptr s.H.length 0) (addE s (.cells l el)) else False
   | none => False
 | .alloc el => match zeroT P el with
   | some z => if wfSt s then K (.ptr s.H.length 0) (addE s (.cells (z.cells.toList.map .v) el)) else False
   | none => False
 | .buildSlice t len ps => match P.underlying t with
   | some (.slice el) => match szT P el, zeroT P el with
     | some n, some z => if Nat.ble (len * n) 16777216 then
        match fillS (fun i => some (i * n, n)) ((zfill (if Nat.beq (len * n) 0 then #[] else z.cells) (len * n)).map .v) (ps.toList.map fun x => (x.1, ev s x.2)) with
        | some r => if wfSt s && belowL s.H.length r then K (.xsl s.H.length 0 len len) (addE s (.cells r el)) else False
        | none => False
       else False
     | _, _ => False
   | _ => False
 | .makeSlice t l c => match P.underlying t, ev s l, ev s c with
   | some (.slice el), .v (.int _ l'), .v (.int _ c') => match P.info? el with
     | some i => match i.zero with
       | some z => 0 <= l' /\ l' <= c' /\ c' <= 281474976710656 /\ (i.bytes : Int) * c' <= 281474976710656 /\
          if wfSt s && Nat.blt 0 i.size then zK z.cells (l'.toNat * i.size) fun xs => K (.rsl s.H.length l'.toNat) (addE s (.row xs i.size el)) else False
       | none => False
     | none => False
   | _, _, _ => False
 | .store t addr x => sStore P s t (ev s addr) (ev s x) fun s' => K (.v undef) s'
 | .convert src dst x => match P.underlying src, P.underlying dst, ev s x with
   | some .string, some (.slice el), .v (.string q) => match P.underlying el with
     | some (.int .u8) => q.size <= 4611686018427387904 /\ ∀ (a : Option Addr) (cp : Nat) (I' : Mem), s.I.le I' -> a.isSome = true -> q.size <= cp -> cp <= maxLen ->
        (∀ (j : Nat) (b : UInt8), q.data.toList[j]? = some b -> atI I' a j = some (.int .u8 b.toNat)) -> K (.v (.slice a q.size cp)) { s with I := I' }
     | _ => False
   | _, _, _ => False
 | .call c => match c.callee, c.args.toList, c.argTypes.toList with
   | .builtin .append, [x, y], [t, xt] => sAppend P s t xt (ev s x) (ev s y) K
   | _, _, _ => False
 | _ => False
def idOf : SV -> List Nat
 | .ptr id _ | .sptr id _ | .rsl id _ | .xsl id _ _ _ => [id]
 | _ => []
def modsOf (s : St) (o : Op) : List Nat :=
 match o with
 | .store _ ad _ => idOf (ev s ad)
 | .call c => match c.callee, c.args.toList with
   | .builtin .append, x :: _ => idOf (ev s x)
   | _, _ => []
 | .next x _ => idOf (ev s x)
 | .insert _ _ _ _ | .mapUpdate _ _ _ _ => match mapEnt 0 s.H none with
   | some (id, _) => [id]
   | none => []
 | _ => []
structure Evo (gm : Bool) (mods : List Nat) (s : St) (e : Env) (w : World) (s' : St) (e' : Env) (w' : World) : Prop where
 heap : ∀ b, b < w.heap.size -> (gm = true -> s.G b = none) -> (∀ (id : Nat) (x : Ent), id ∈ mods -> s.H[id]? = some x -> alive x.obj = true -> e.nil id = false -> b ≠ e.blk id) -> w'.heap[b]? = w.heap[b]?
 size : w.heap.size <= w'.heap.size
 same : ∀ id, id < s.H.length -> id ∉ mods -> e.blk id = e'.blk id /\ e.cap id = e'.cap id /\ e.nil id = e'.nil id
 mod : ∀ (id : Nat) (x' : Ent), id < s.H.length -> id ∈ mods -> s'.H[id]? = some x' -> alive x'.obj = true -> e'.nil id = false -> w.heap.size <= e'.blk id \/
  ∃ (j : Nat) (x : Ent), j ∈ mods /\ s.H[j]? = some x /\ alive x.obj = true /\ e.nil j = false /\ e'.blk id = e.blk j
 new : ∀ (id : Nat) (x' : Ent), s.H.length <= id -> s'.H[id]? = some x' -> alive x'.obj = true -> e'.nil id = false -> w.heap.size <= e'.blk id \/
  ∃ (j : Nat) (x : Ent), j ∈ mods /\ s.H[j]? = some x /\ alive x.obj = true /\ e.nil j = false /\ e'.blk id = e.blk j
 len : s.H.length <= s'.H.length
 live : ∀ (id : Nat) (x' : Ent), id < s.H.length -> s'.H[id]? = some x' -> alive x'.obj = true -> ∃ x, s.H[id]? = some x /\ alive x.obj = true
 gN : ∀ b, b < w.heap.size -> s.G b = none -> s'.G b = none
 gEq : gm = false -> s'.G = s.G
 rd : ∀ b, b < w.heap.size -> (gm = true -> s.G b = none) -> s.I b = none -> s'.I b = none \/ ∃ (j : Nat) (x : Ent), s.H[j]? = some x /\ alive x.obj = true /\ e.nil j = false /\ b = e.blk j
theorem Evo.still {mods : List Nat} {s s' : St} {e : Env} {w : World} (hl : s.H.length = s'.H.length)
 (hv : ∀ (id : Nat) (x' : Ent), s'.H[id]? = some x' -> alive x'.obj = true -> ∃ x, s.H[id]? = some x /\ alive x.obj = true)
 (hr : ∀ b, b < w.heap.size -> s.I b = none -> s'.I b = none \/ ∃ (j : Nat) (x : Ent), s.H[j]? = some x /\ alive x.obj = true /\ e.nil j = false /\ b = e.blk j) (hg : s'.G = s.G) : Evo false mods s e w s' e w := by
 refine ⟨fun _ _ _ _ => rfl, Nat.le_refl _, fun _ _ _ => ⟨rfl, rfl, rfl⟩, fun id x' _ hm h1 h2 hn => ?_, fun id x' h1 h2 _ _ => ?_, Nat.le_of_eq hl, fun id x' _ h1 h2 => hv id x' h1 h2, fun _ _ h => by rw [hg]; exact h, fun _ => hg, fun b hb _ h => hr b hb h⟩
 · obtain ⟨x, hx, hal⟩ := hv id x' h1 h2
   exact .inr ⟨id, x, hm, hx, hal, hn, rfl⟩
 · have := (List.getElem?_eq_some_iff.1 h2).1
   omega
theorem evo_add {s : St} {e : Env} {w w' : World} {b cp : Nat} {nl : Bool} {obj : EO} (hold : ∀ k, k < w.heap.size -> w'.heap[k]? = w.heap[k]?) (hsz : w.heap.size <= w'.heap.size)
 (hb : nl = false -> w.heap.size <= b) : Evo false [] s e w { s with H := s.H ++ [⟨obj, none⟩] } (e.upd s.H.length b cp nl) w' := by
 refine ⟨fun b hb _ _ => hold b hb, hsz, fun id hid _ => upd_ne (Nat.ne_of_lt hid), fun _ _ _ h => by simp at h, fun id x' h1 h2 _ hn => .inl ?_, by simp, fun id x' hid h1 h2 => ?_, fun _ _ h => h, fun _ => rfl, fun _ _ _ h => .inl h⟩
 · have h2 := (List.getElem?_eq_some_iff.1 h2).1
   have : id = s.H.length := by simp only [List.length_append, List.length_cons, List.length_nil] at h2; omega
   subst this;rw [upd_eq.2.2] at hn;rw [upd_eq.1];exact hb hn
 · simp only [List.getElem?_append, hid, if_true] at h1
   exact ⟨x', h1, h2⟩
theorem evo_push {s : St} {e : Env} {w w' : World} {cp : Nat} {obj : EO} {o : Obj} (hheap : w'.heap = w.heap.push o) :
 Evo false [] s e w { s with H := s.H ++ [⟨obj, none⟩] } (e.upd s.H.length w.heap.size cp false) w' :=
 evo_add (fun b hb => by rw [hheap, Array.getElem?_push, if_neg (Nat.ne_of_lt hb)]) (by rw [hheap]; simp) (fun _ => Nat.le_refl _)
theorem evo_store {mods : List Nat} {s : St} {e : Env} {w w' : World} {id : Nat} {x y : Ent} (hm : id ∈ mods) (hx : s.H[id]? = some x) (hal : alive x.obj = true) (hnil : e.nil id = false)
 (hsz : w.heap.size = w'.heap.size) (hold : ∀ b, b ≠ e.blk id -> w'.heap[b]? = w.heap[b]?) : Evo false mods s e w { s with H := s.H.set id y } e w' := by
 have live : ∀ (j : Nat) (z : Ent), (s.H.set id y)[j]? = some z -> alive z.obj = true -> ∃ x, s.H[j]? = some x /\ alive x.obj = true := by
  intro j z h1 h2
  rcases getElem?_set' h1 with ⟨rfl, _, _⟩ | ⟨_, h1⟩
  · exact ⟨x, hx, hal⟩
  · exact ⟨z, h1, h2⟩
 refine ⟨fun b hb _ h => hold b (h id x hm hx hal hnil), Nat.le_of_eq hsz, fun _ _ _ => ⟨rfl, rfl, rfl⟩, fun j z _ hj h1 h2 hn => ?_, fun j z h1 h2 _ _ => ?_, by simp, fun j z _ h1 h2 => live j z h1 h2, fun _ _ h => h, fun _ => rfl, fun _ _ _ h => .inl h⟩
 · obtain ⟨x', hx', hal'⟩ := live j z h1 h2
   exact .inr ⟨j, x', hj, hx', hal', hn, rfl⟩
 · have := (List.getElem?_eq_some_iff.1 h2).1
   simp only [List.length_set] at this;omega
theorem evo_grow {mods : List Nat} {s : St} {e e' : Env} {w w' : World} {id : Nat} {x y : Ent} (hm : id ∈ mods) (hx : s.H[id]? = some x) (hal : alive x.obj = true)
 (hag : ∀ i, i ≠ id -> e.blk i = e'.blk i /\ e.cap i = e'.cap i /\ e.nil i = e'.nil i) (hsz : w.heap.size <= w'.heap.size)
 (hold : ∀ b, b < w.heap.size -> (e.nil id = false -> b ≠ e.blk id) -> w'.heap[b]? = w.heap[b]?)
 (hnew : e'.nil id = false -> (e.nil id = false /\ e'.blk id = e.blk id) \/ w.heap.size <= e'.blk id) :
 Evo false mods s e w { junkS id s with H := (s.H.map (junkE id)).set id y } e' w' := by
 have live : ∀ (j : Nat) (z : Ent), ((s.H.map (junkE id)).set id y)[j]? = some z -> alive z.obj = true -> ∃ x, s.H[j]? = some x /\ alive x.obj = true := by
  intro j z h1 h2
  rcases getElem?_set' h1 with ⟨rfl, _, _⟩ | ⟨_, h1⟩
  · exact ⟨x, hx, hal⟩
  · rw [List.getElem?_map, Option.map_eq_some_iff] at h1
    obtain ⟨z0, h3, rfl⟩ := h1;exact ⟨z0, h3, (junkE_alive id z0).1 ▸ h2⟩
 refine ⟨fun b hb _ h => hold b hb (fun hn => h id x hm hx hal hn), hsz, fun j _ hj => hag j (fun h => hj (h ▸ hm)), fun j z _ hj h1 h2 hn => ?_, fun j z h1 h2 _ _ => ?_, by simp, fun j z _ h1 h2 => live j z h1 h2, fun _ _ h => h, fun _ => rfl, fun _ _ _ h => .inl h⟩
 · by_cases h : j = id
   · subst h
     rcases hnew hn with ⟨h3, h4⟩ | h3
     · exact .inr ⟨j, x, hm, hx, hal, h3, h4⟩
     · exact .inl h3
   · obtain ⟨a1, _, a3⟩ := hag j h
     obtain ⟨x', hx', hal'⟩ := live j z h1 h2;exact .inr ⟨j, x', hj, hx', hal', a3.trans hn, a1.symm⟩
 · have := (List.getElem?_eq_some_iff.1 h2).1
   simp only [List.length_set, List.length_map] at this;omega
def EffOk (P : Program) (o : Op) (c : Ctx) (s : St) (a : Act) (w : World) (sv : SV) (s' : St) (e : Env) : Prop :=
 ∃ (e' : Env) (w' : World) (x : Value), (∀ (d : Option Tmp) (ty : TypeId) (pos : String) (af : Array Edge) (g : Option (Nat × Bool)),
  (execOp a.eval ⟨d, o, ty, pos, af, g⟩).run P w = .ok (.value x) w' \/ ((execOp a.eval ⟨d, o, ty, pos, af, g⟩).run P w = .ok .skip w' /\ x = undef)) /\
  Sat c e' s' w' /\ SatA e' s' a /\ s'.tm.length = s.tm.length /\ s.I.le s'.I /\ (isJunk sv = true \/ x = den e' sv) /\ Evo false (modsOf s o) s e w s' e' w'
end Go.SE
namespace Go.SE
open Go.RowKit
section
variable {P : Program} {c : Ctx} {e : Env} {s : St} {w : World} {a : Act} {K : SV -> St -> Prop}
theorem upd_agree {e : Env} {n b cp : Nat} {nl : Bool} : ∀ i, i < n -> e.blk i = (e.upd n b cp nl).blk i /\ e.cap i = (e.upd n b cp nl).cap i /\ e.nil i = (e.upd n b cp nl).nil i :=
 fun _ hi => upd_ne (Nat.ne_of_lt hi)
theorem push_cells (hS : Sat c e s w) (hA : SatA e s a) {l : List SV} {el : TypeId} {cs : Array Value} {w' : World} (hw : wfSt s = true) (hb : belowL s.H.length l = true)
 (hcs : cs.size = l.length) (hl : ∀ (k : Nat) (sv : SV), l[k]? = some sv -> isJunk sv = false -> cs[k]? = some (den e sv)) (hheap : w'.heap = w.heap.push (.cells cs el)) (hsame : Same w w') :
 Sat c (e.upd s.H.length w.heap.size 0 false) (addE s (.cells l el)) w' /\ SatA (e.upd s.H.length w.heap.size 0 false) (addE s (.cells l el)) a := by
 refine hS.push hA hw hheap hsame ⟨upd_eq.2.2, cs, ?_, hcs, fun k sv hk hj => ?_⟩
 · rw [upd_eq.1, hheap]; simp
 · rw [hl k sv hk hj, den_congr upd_agree sv (belowL_get hb hk)]
theorem push_row (hS : Sat c e s w) (hA : SatA e s a) {xs : List Value} {sz cap : Nat} {el : TypeId} {cs : Array Value} {fz : Nat × Nat} {w' : World} (hw : wfSt s = true)
 (h0 : 0 < sz) (hn : ∃ n, xs.length = n * sz) (h1 : cs.size = cap * sz) (h2 : cap <= maxLen) (h3 : xs.length <= cs.size) (h4 : cs.toList.take xs.length = xs)
 (hheap : w'.heap = w.heap.push (.cells cs el fz)) (hsame : Same w w') (hfz : thaw fz cs.size := by exact thaw_zero _) :
 Sat c (e.upd s.H.length w.heap.size cap false) (addE s (.row xs sz el)) w' /\ SatA (e.upd s.H.length w.heap.size cap false) (addE s (.row xs sz el)) a := by
 refine hS.push hA hw hheap hsame ⟨h0, hn, .inr ⟨upd_eq.2.2, cs, fz, ?_, hfz, ?_, ?_, h3, h4⟩⟩
 · rw [upd_eq.1, hheap]; simp
 · rw [upd_eq.2.1]; exact h1
 · rw [upd_eq.2.1]; exact h2
theorem sBox_sound {el : TypeId} {x : Operand} (h : seE P s (.box el x) K) (hS : Sat c e s w) (hA : SatA e s a) : ∃ sv s', K sv s' /\ EffOk P (.box el x) c s a w sv s' e := by
 simp only [seE] at h
 split at h
 · rename_i l hl
   split at h
   · rename_i hc
     simp only [Bool.and_eq_true] at hc;obtain ⟨hj, hd⟩ := svCells_den (e := e) hl
     obtain ⟨h1, h2⟩ := push_cells (el := el) (w' := { w with heap := w.heap.push (.cells (l.map (den e)).toArray el) }) hS hA hc.1 hc.2 (by simp) (fun k sv hk _ => by simp [hk]) rfl ⟨rfl, rfl, rfl⟩
     refine ⟨_, _, h, _, _, .pointer (some ⟨w.heap.size, 0, none⟩), fun d ty pos af g => .inl ?_, h1, h2, rfl, Mem.le_refl _, .inr (by simp [den, upd_eq.1]), evo_push rfl⟩
     simp [execOp, Instr.box, newVar, newRow, ev_ok hA x hj, hd]
   · exact h.elim
 · exact h.elim
theorem sAlloc_sound {el : TypeId} (h : seE P s (.alloc el) K) (hS : Sat c e s w) (hA : SatA e s a) : ∃ sv s', K sv s' /\ EffOk P (.alloc el) c s a w sv s' e := by
 simp only [seE] at h
 split at h
 · rename_i z hz
   split at h
   · rename_i hc
     obtain ⟨h1, h2⟩ := push_cells (l := z.cells.toList.map .v) (el := el) (w' := { w with heap := w.heap.push (.cells z.cells el) }) hS hA hc
      (by
        have : ∀ l : List Value, belowL s.H.length (l.map .v) = true := fun l => by induction l <;> simp_all [belowL, below]
        exact this _) (by simp) (fun k sv hk _ => by
         simp only [List.getElem?_map, Option.map_eq_some_iff] at hk;obtain ⟨v, hv, rfl⟩ := hk;simpa [den] using hv) rfl ⟨rfl, rfl, rfl⟩
     refine ⟨_, _, h, _, _, .pointer (some ⟨w.heap.size, 0, none⟩), fun d ty pos af g => .inl ?_, h1, h2, rfl, Mem.le_refl _, .inr (by simp [den, upd_eq.1]), evo_push rfl⟩
     simp [execOp, Instr.alloc, newVar, newRow, run_zeroT hz]
   · exact h.elim
 · exact h.elim
theorem zfill_arr (z : Array Value) (n : Nat) : ((Array.range n).map (fun i => z[i % z.size]!)) = (zfill z n).toArray := by
 apply Array.ext';simp [zfill]
theorem sBuildSlice_sound {t : TypeId} {len : Nat} {ps : Array (Nat × Operand)} (h : seE P s (.buildSlice t len ps) K) (hS : Sat c e s w) (hA : SatA e s a) :
 ∃ sv s', K sv s' /\ EffOk P (.buildSlice t len ps) c s a w sv s' e := by
 simp only [seE] at h
 split at h
 · rename_i el hu
   split at h
   · rename_i n z hn hz
     split at h
     · rename_i hle
       split at h
       · rename_i r hr
         split at h
         · rename_i hc
           simp only [Bool.and_eq_true] at hc;obtain ⟨hf, hj⟩ := fillS_sound e _ _ _ hr;rw [parts_eval hA hj, map_v_den] at hf
           obtain ⟨h1, h2⟩ := push_cells (el := el) (w' := { w with heap := w.heap.push (.cells (r.map (den e)).toArray el) }) hS hA hc.1 hc.2 (by simp) (fun k sv hk _ => by simp [hk]) rfl ⟨rfl, rfl, rfl⟩
           refine ⟨_, _, h, _, _, .slice (some ⟨w.heap.size, 0, none⟩) len len, fun d ty pos af g => .inl ?_, h1, h2, rfl, Mem.le_refl _, .inr (by simp [den, upd_eq.1]), evo_push rfl⟩
           have hle' : ¬ (len * n > 2 ^ 24) := by
            have := Nat.le_of_ble_eq_true hle;omega
           by_cases h0 : len * n = 0
           · have hb : Nat.beq (len * n) 0 = true := by rw [h0]; rfl
             rw [if_pos hb] at hf;have hz0 := zfill_arr #[] (len * n);simp only [execOp, Instr.buildSlice, Sem.run_bind, run_underlying hu, Result.andThen_ok, run_szT hn];rw [if_neg hle'];simp only [if_pos h0, Sem.run_bind, Sem.run_pure, Result.andThen_ok, Array.toList_map, hz0, hf];simp [newRow]
           · have hb : ¬ (Nat.beq (len * n) 0 = true) := fun hb => h0 (Nat.eq_of_beq_eq_true hb)
             rw [if_neg hb] at hf;have hz0 := zfill_arr z.cells (len * n);simp only [execOp, Instr.buildSlice, Sem.run_bind, run_underlying hu, Result.andThen_ok, run_szT hn];rw [if_neg hle'];simp only [if_neg h0, Sem.run_bind, Sem.run_pure, Result.andThen_ok, run_zeroT hz, Array.toList_map, hz0, hf];simp [newRow]
         · exact h.elim
       · exact h.elim
     · exact h.elim
   · exact h.elim
 · exact h.elim
theorem zfill_take (z : Array Value) {m n : Nat} (h : m <= n) : (zfill z n).take m = zfill z m := by
 simp only [zfill, <- List.map_take, List.take_range, Nat.min_eq_left h]
theorem sMakeSlice_sound {t : TypeId} {l cc : Operand} (h : seE P s (.makeSlice t l cc) K) (hS : Sat c e s w) (hA : SatA e s a) :
 ∃ sv s', K sv s' /\ EffOk P (.makeSlice t l cc) c s a w sv s' e := by
 simp only [seE] at h
 split at h
 · rename_i el k1 l' k2 c' hu hl hc
   split at h
   · rename_i i hi
     split at h
     · rename_i z hz
       obtain ⟨h0, h1, h2, h3, h⟩ := h
       split at h
       · rename_i hw
         have h := zK_sound h;simp only [Bool.and_eq_true, Nat.blt_eq] at hw
         have hmul : l'.toNat * i.size <= c'.toNat * i.size := Nat.mul_le_mul_right _ (by omega)
         have hlen : ∀ n, (zfill z.cells n).length = n := fun n => by simp [zfill]
         obtain ⟨h4, h5⟩ := push_row (xs := zfill z.cells (l'.toNat * i.size)) (sz := i.size) (cap := c'.toNat) (el := el) (cs := (zfill z.cells (c'.toNat * i.size)).toArray)
          (w' := { w with heap := w.heap.push (.cells (zfill z.cells (c'.toNat * i.size)).toArray el) }) hS hA hw.1 hw.2 ⟨_, hlen _⟩ (by simp [hlen]) (by simp only [maxLen]; omega) (by simp [hlen]; exact hmul)
          (by rw [hlen]; exact zfill_take _ hmul) rfl ⟨rfl, rfl, rfl⟩
         refine ⟨_, _, h, _, _, .slice (some ⟨w.heap.size, 0, none⟩) l'.toNat c'.toNat, fun d ty pos af g => .inl ?_, h4, h5, rfl, Mem.le_refl _, .inr (by simp [den, upd_eq]), evo_push rfl⟩
         have w1 : IntKind.i64.wrap l' = l' := IntWalk.i64_in _ ⟨by omega, by omega⟩
         have w2 : IntKind.i64.wrap c' = c' := IntWalk.i64_in _ ⟨by omega, by omega⟩
         have hzf := zfill_arr z.cells (c'.toNat * i.size)
         have t1 : ¬ c' < 0 := by omega
         have t2 : ¬ (281474976710656 < (i.bytes : Int) * c') := by omega
         have t3 : ¬ l' < 0 := by omega
         have t4 : ¬ c' < l' := by omega
         by_cases hc0 : c'.toNat * i.size = 0
         · simp [execOp, Instr.makeSlice, run_underlying hu, ev_v hA hl, ev_v hA hc, asInt, asIntOf, typeInfo, hi, w1, w2, t1, t2, t3, t4, sizeOf, hc0, newRow, zfill, show Array.range 0 = #[] from by simp [Array.range]]
         · simp [execOp, Instr.makeSlice, run_underlying hu, ev_v hA hl, ev_v hA hc, asInt, asIntOf, typeInfo, hi, w1, w2, t1, t2, t3, t4, sizeOf, hc0, newRow, zeroValue, hz, hzf]
       · exact h.elim
     · exact h.elim
   · exact h.elim
 · exact h.elim
theorem setRow_size (w : World) (g : Nat) (cs : Array Value) : (w.setRow g cs).heap.size = w.heap.size := by simp [World.setRow]
theorem setRow_same (w : World) (g : Nat) (cs : Array Value) : Same w (w.setRow g cs) := ⟨rfl, rfl, rfl⟩
theorem run_storeVar_block {P : Program} {w : World} {t : TypeId} {z : Nat} (hz : szT P t = some z) {b off : Nat} {v : Value} {vs : List Value} {cur : Array Value} {el : TypeId} {fz : Nat × Nat}
 (hb : w.heap[b]? = some (.cells cur el fz)) (hfz : thaw fz cur.size) (hv : v.cells = vs.toArray) (hl : vs.length = z) (h1 : ∀ u ∈ vs, u.oneCell' = true) (hfit : off + vs.length <= cur.size) :
 (storeVar t ⟨b, off, none⟩ v).run P w = .ok () (w.setRow b (cur.toList.take off ++ vs ++ cur.toList.drop (off + vs.length)).toArray) := by
 have hst := run_storeCells_fz P b off el fz vs 0 cur w hb hfz (by simpa using hfit) h1
 simp only [Nat.add_zero] at hst
 have h2 : ¬ (v.cells.size ≠ z) := by rw [hv]; simpa using hl
 simp only [storeVar, Sem.run_bind, run_szT hz, Result.andThen_ok];rw [if_neg h2];simp only [hv, hst]
theorem splice_length {xs : List Value} {off : Nat} {vs : List Value} (h : off + vs.length <= xs.length) : (splice xs off vs).length = xs.length := by
 rw [splice_eq h]
 simp
 omega
theorem mapV_length : ∀ {l : List SV} {vs : List Value}, mapV l = some vs -> vs.length = l.length := by
 intro l vs h;have := (mapV_den (e := ⟨fun _ => 0, fun _ => 0, fun _ => false⟩) h).1
 rw [<- this]; simp
theorem mapV_all : ∀ {l : List SV} {vs : List Value}, mapV l = some vs -> l.all one = true -> ∀ u ∈ vs, u.oneCell' = true
 | [], vs, h, _ => by simp only [mapV, Option.some.injEq] at h; subst h; simp
 | x :: xs, vs, h, ha => by
   simp only [mapV] at h
   split at h
   · rename_i v vs' hv hvs
     simp only [Option.some.injEq] at h;subst h;simp only [List.all_cons, Bool.and_eq_true] at ha
     have hx : x = .v v := by cases x <;> simp_all [vOf]
     subst hx;intro u hu
     cases hu with
     | head => exact ha.1
     | tail _ hm => exact mapV_all hvs ha.2 u hm
   · cases h
theorem setAt_get : ∀ (l cells : List SV) (off k : Nat), off + l.length <= cells.length ->
 (setAt cells off l)[k]? = if off <= k /\ k < off + l.length then l[k - off]? else cells[k]?
 | [], cells, off, k, _ => by simp [setAt]; intro h1 h2; omega
 | x :: xs, cells, off, k, h => by
   simp only [List.length_cons] at h
   rw [setAt, setAt_get xs (cells.set off x) (off + 1) k (by simp; omega)]
   by_cases hk : k = off
   · subst hk
     rw [if_neg (by omega), if_pos (by simp), List.getElem?_set_self (by omega)]
     simp
   · by_cases hk2 : off + 1 <= k /\ k < off + 1 + xs.length
     · rw [if_pos hk2, if_pos (by simp only [List.length_cons]; omega)]
       have : k - off = (k - (off + 1)) + 1 := by omega
       rw [this]; simp
     · rw [if_neg hk2, if_neg (by simp only [List.length_cons]; omega), List.getElem?_set_ne (by omega)]
theorem store_fin (hS : Sat c e s w) (hA : SatA e s a) {t : TypeId} {addr x : Operand} {id off z : Nat} {ent : Ent} {obj : EO} {vs : List Value} {cur : Array Value} {el : TypeId} {fz : Nat × Nat}
 (hx : s.H[id]? = some ent) (hal : alive ent.obj = true) (hnil : e.nil id = false) (haddr : a.eval addr = .pointer (some ⟨e.blk id, off, none⟩)) (hmod : id ∈ modsOf s (.store t addr x)) (hz : szT P t = some z)
 (hb : w.heap[e.blk id]? = some (.cells cur el fz)) (hfz : thaw fz cur.size) (hv : (a.eval x).cells = vs.toArray) (hl : vs.length = z) (h1 : ∀ u ∈ vs, u.oneCell' = true) (hfit : off + vs.length <= cur.size)
 (hh : holds e id (fun b => (w.setRow (e.blk id) (cur.toList.take off ++ vs ++ cur.toList.drop (off + vs.length)).toArray).heap[b]?) obj)
 (hK : K (.v undef) { s with H := s.H.set id ⟨obj, ent.name⟩ }) :
 ∃ sv s', K sv s' /\ EffOk P (.store t addr x) c s a w sv s' e := by
 obtain ⟨h2, h3⟩ := hS.store hA hx hal hnil (w' := w.setRow (e.blk id) (cur.toList.take off ++ vs ++ cur.toList.drop (off + vs.length)).toArray) (setRow_size ..).symm (setRow_same ..)
  (fun b hb => setRow_other w (e.blk id) b _ hb) hh
 refine ⟨_, _, hK, e, _, undef, fun d ty pos af g => .inr ⟨?_, rfl⟩, h2, h3, rfl, Mem.le_refl _, .inr (by simp [den]), evo_store hmod hx hal hnil (setRow_size ..).symm (fun b hb => setRow_other w (e.blk id) b _ hb)⟩
 simp only [execOp, haddr, Instr.storeAt, Instr.sureAddr, Sem.run_bind, Sem.run_pure, Result.andThen_ok, run_storeVar_block hz hb hfz hv hl h1 hfit]
theorem sStore_sound {t : TypeId} {addr x : Operand} (h : seE P s (.store t addr x) K) (hS : Sat c e s w) (hA : SatA e s a) :
 ∃ sv s', K sv s' /\ EffOk P (.store t addr x) c s a w sv s' e := by
 simp only [seE, sStore] at h
 split at h
 · rename_i l z hl hz
   split at h
   · rename_i hc
     simp only [Bool.and_eq_true] at hc;have hlz := Nat.eq_of_beq_eq_true hc.1;obtain ⟨hj, hd⟩ := svCells_den (e := e) hl
     have hv : (a.eval x).cells = (l.map (den e)).toArray := by rw [ev_ok hA x hj]; exact hd
     have hone : ∀ u ∈ l.map (den e), u.oneCell' = true := by
      intro u hu;obtain ⟨y, hy, rfl⟩ := List.mem_map.1 hu;exact (one_den (List.all_eq_true.1 hc.2 y hy)).1
     have vecCase : ∀ {id off : Nat} {xs vs : List Value} {el : TypeId} {nm : Option Nat}, s.H[id]? = some ⟨.vec xs el, nm⟩ -> a.eval addr = .pointer (some ⟨e.blk id, off, none⟩) -> id ∈ modsOf s (.store t addr x) -> mapV l = some vs ->
      off + vs.length <= xs.length -> K (.v undef) { s with H := s.H.set id ⟨.vec (splice xs off vs) el, nm⟩ } -> ∃ sv s', K sv s' /\ EffOk P (.store t addr x) c s a w sv s' e := by
      intro id off xs vs el nm hH haddr hmod hvs hfit hK;obtain ⟨⟨hnil, hb⟩, _⟩ := hS.owned id _ hH rfl;have hv2 := (mapV_den (e := e) hvs).1
      refine store_fin hS hA hH rfl hnil haddr hmod hz hb (thaw_zero _) (by rw [hv, hv2]) (by rw [mapV_length hvs, hlz]) (mapV_all hvs hc.2) (by simpa using hfit) ?_ hK
      refine ⟨hnil, ?_⟩;refine (setRow_heap w (e.blk id) _ _ el _ hb).trans ?_;rw [splice_eq hfit]
     have rowCase : ∀ {id off : Nat} {xs vs : List Value} {sz : Nat} {el : TypeId} {nm : Option Nat}, s.H[id]? = some ⟨.row xs sz el, nm⟩ -> a.eval addr = .pointer (some ⟨e.blk id, off, none⟩) -> id ∈ modsOf s (.store t addr x) -> mapV l = some vs ->
      off + vs.length <= xs.length -> 0 < vs.length -> K (.v undef) { s with H := s.H.set id ⟨.row (splice xs off vs) sz el, nm⟩ } -> ∃ sv s', K sv s' /\ EffOk P (.store t addr x) c s a w sv s' e := by
      intro id off xs vs sz el nm hH haddr hmod hvs hfit hpos hK;obtain ⟨⟨hsz, hn, hrow⟩, _⟩ := hS.owned id _ hH rfl;have hv2 := (mapV_den (e := e) hvs).1
      rcases hrow with ⟨_, _, rfl⟩ | ⟨hnil, cur, fz, hb, hfz, h2, h3, h4, h5⟩
      · simp only [List.length_nil] at hfit; omega
      · simp only at hb
        refine store_fin hS hA hH rfl hnil haddr hmod hz hb hfz (by rw [hv, hv2]) (by rw [mapV_length hvs, hlz]) (mapV_all hvs hc.2) (by omega) ?_ hK
        refine ⟨hsz, by rw [splice_length hfit]; exact hn, .inr ⟨hnil, _, fz, setRow_heap w (e.blk id) _ _ el _ hb, ?_, ?_, h3, ?_, ?_⟩⟩
        · intro k hk
          refine hfz k (Nat.lt_of_lt_of_eq hk ?_);simp only [List.size_toArray, List.length_append, List.length_take, List.length_drop, Array.length_toList];omega
        · simp only [List.size_toArray, List.length_append, List.length_take, List.length_drop, Array.length_toList]
          omega
        · rw [splice_length hfit]
          simp only [List.size_toArray, List.length_append, List.length_take, List.length_drop, Array.length_toList];omega
        · rw [splice_length hfit, splice_eq hfit]
          apply List.ext_getElem?;intro k
          have hx5 : ∀ k, k < xs.length -> cur.toList[k]? = xs[k]? := fun k hk => by rw [<- h5, List.getElem?_take, if_pos hk]
          have hcl : cur.toList.length = cur.size := Array.length_toList;simp only [List.getElem?_take, List.getElem?_append, List.length_append, List.length_take, List.getElem?_drop]
          by_cases hk : k < xs.length
          · rw [if_pos hk]
            by_cases hk1 : k < off
            · rw [if_pos (by omega), if_pos (by omega), if_pos hk1, if_pos (by omega), if_pos (by omega), if_pos hk1, hx5 k hk]
            · by_cases hk2 : k < off + vs.length
              · rw [if_pos (by omega), if_neg (by omega), if_pos (by omega), if_neg (by omega)]
                congr 1
                omega
              · rw [if_neg (by omega), if_neg (by omega), hx5 _ (by omega)]
                congr 1
                omega
          · rw [if_neg hk, if_neg (by omega)]
            rw [List.getElem?_eq_none (by omega)]
     split at h
     · rename_i id off haddr
       have haddr' : a.eval addr = .pointer (some ⟨e.blk id, off, none⟩) := by simp [ev_d hA haddr rfl, den]
       have hmod : id ∈ modsOf s (.store t addr x) := by simp [modsOf, haddr, idOf]
       split at h
       · rename_i cs el nm hH
         split at h
         · rename_i hle
           have hle' := Nat.le_of_ble_eq_true hle;obtain ⟨⟨hnil, cur, hb, h2, h3⟩, _⟩ := hS.owned id _ hH rfl
           simp only at hb
           refine store_fin hS hA hH rfl hnil haddr' hmod hz hb (thaw_zero _) hv (by simpa using hlz) hone (by rw [h2]; simpa [hlz] using hle') ?_ h
           refine ⟨hnil, _, setRow_heap w (e.blk id) _ _ el _ hb, ?_, fun k sv hk hjk => ?_⟩
           · rw [setAt_length]
             simp only [List.size_toArray, List.length_append, List.length_take, List.length_drop, Array.length_toList, List.length_map];omega
           · have hcl : cur.toList.length = cur.size := Array.length_toList
             rw [setAt_get l cs off k (by omega)] at hk
             simp only [List.getElem?_toArray, List.getElem?_append, List.length_append, List.length_take, List.getElem?_take, List.getElem?_drop, List.length_map, List.getElem?_map]
             by_cases hk1 : k < off
             · rw [if_neg (by omega)] at hk
               rw [if_pos (by omega), if_pos (by omega), if_pos hk1]
               simpa using h3 k sv hk hjk
             · by_cases hk2 : k < off + l.length
               · rw [if_pos (by omega)] at hk
                 rw [if_pos (by omega), if_neg (by omega)]
                 rw [show k - min off cur.toList.length = k - off from by omega, hk]
                 rfl
               · rw [if_neg (by omega)] at hk
                 rw [if_neg (by omega)]
                 have := h3 k sv hk hjk
                 rw [show off + l.length + (k - (min off cur.toList.length + l.length)) = k from by omega]
                 simpa using this
         · exact h.elim
       · rename_i xs el nm hH
         split at h
         · rename_i vs hvs
           exact vecCase hH haddr' hmod hvs h.1 h.2
         · exact h.elim
       · rename_i xs sz el nm hH
         split at h
         · rename_i vs hvs
           exact rowCase hH haddr' hmod hvs h.1 h.2.1 h.2.2
         · exact h.elim
       · exact h.elim
     · rename_i id off haddr
       have haddr' : a.eval addr = .pointer (some ⟨e.blk id, off, none⟩) := by simp [ev_d hA haddr rfl, den]
       have hmod : id ∈ modsOf s (.store t addr x) := by simp [modsOf, haddr, idOf]
       split at h
       · rename_i cs el nm hH
         split at h
         · rename_i vs xs hvs hxs
           obtain ⟨hfit, hK⟩ := h;obtain ⟨⟨hnil, cur, hb, h2, h3⟩, _⟩ := hS.owned id _ hH rfl
           simp only at hb
           have hv2 := (mapV_den (e := e) hvs).1;obtain ⟨hx2, hx3⟩ := mapV_den (e := e) hxs
           have hcur : cur = xs.toArray := by
            apply Array.ext_getElem?;intro k
            by_cases hk : k < cs.length
            · have hkk := List.getElem?_eq_getElem hk
              rw [h3 k _ hkk (hx3 _ (List.mem_of_getElem? hkk)), <- hx2];simp [hkk]
            · have hlx := mapV_length hxs
              rw [Array.getElem?_eq_none (by omega), Array.getElem?_eq_none (by simp; omega)]
           subst hcur
           refine store_fin hS hA hH rfl hnil haddr' hmod hz hb (thaw_zero _) (by rw [hv, hv2]) (by rw [mapV_length hvs, hlz]) (mapV_all hvs hc.2) (by simpa using hfit) ?_ hK
           refine ⟨hnil, ?_⟩;refine (setRow_heap w (e.blk id) _ _ el _ hb).trans ?_;rw [splice_eq hfit]
         · exact h.elim
       · rename_i xs el nm hH
         split at h
         · rename_i vs hvs
           exact vecCase hH haddr' hmod hvs h.1 h.2
         · exact h.elim
       · rename_i xs sz el nm hH
         split at h
         · rename_i vs hvs
           exact rowCase hH haddr' hmod hvs h.1 h.2.1 h.2.2
         · exact h.elim
       · exact h.elim
     · exact h.elim
   · exact h.elim
 · exact h.elim
end
end Go.SE
namespace Go.SE
open Go.RowKit
section
variable {P : Program} {c : Ctx} {e : Env} {s : St} {w : World} {a : Act} {K : SV -> St -> Prop}
theorem rowOf_some {x : Operand} {sz : Nat} {el : TypeId} {id n : Nat} {xs : List Value} (h : rowOf s (ev s x) sz el = some (some id, n, xs)) (hS : Sat c e s w) (hA : SatA e s a) :
 ∃ (ent : Ent) (cap : Nat), s.H[id]? = some ent /\ alive ent.obj = true /\ a.eval x = .slice (if e.nil id then none else some ⟨e.blk id, 0, none⟩) n cap /\
  isRow (fun b => w.heap[b]?) (e.nil id) (e.blk id) cap sz el xs := by
 unfold rowOf at h
 split at h
 · cases h
 · rename_i id' len hx
   split at h
   · rename_i xs' sz' el' nm hH
     split at h
     · rename_i hc
       simp only [Option.some.injEq, Prod.mk.injEq] at h;obtain ⟨rfl, rfl, rfl⟩ := h;simp only [Bool.and_eq_true] at hc;obtain rfl := Nat.eq_of_beq_eq_true hc.1;obtain rfl := Nat.eq_of_beq_eq_true hc.2
       exact ⟨_, e.cap id', hH, rfl, by simp [ev_d hA hx rfl, den], (hS.owned _ _ hH rfl).1.2.2⟩
     · cases h
   · cases h
 · rename_i id' len cap hx
   split at h
   · rename_i cs el' nm hH
     split at h
     · rename_i xs' hxs
       split at h
       · rename_i hc
         simp only [Option.some.injEq, Prod.mk.injEq] at h;obtain ⟨rfl, rfl, rfl⟩ := h;simp only [Bool.and_eq_true] at hc;obtain rfl := Nat.eq_of_beq_eq_true hc.1;obtain rfl := Nat.eq_of_beq_eq_true hc.2.1;have hlen := Nat.eq_of_beq_eq_true hc.2.2.1;have hmax := Nat.le_of_ble_eq_true hc.2.2.2;obtain ⟨⟨hnil, cur, hb, h2, h3⟩, _⟩ := hS.owned _ _ hH rfl;obtain ⟨hx2, hx3⟩ := mapV_den (e := e) hxs
         have hcur : cur = xs'.toArray := by
          apply Array.ext_getElem?;intro k
          by_cases hk : k < cs.length
          · have hkk := List.getElem?_eq_getElem hk
            rw [h3 k _ hkk (hx3 _ (List.mem_of_getElem? hkk)), <- hx2];simp [hkk]
          · have hlx := mapV_length hxs
            rw [Array.getElem?_eq_none (by omega), Array.getElem?_eq_none (by simp; omega)]
         subst hcur
         refine ⟨_, len, hH, rfl, by simp [ev_d hA hx rfl, den, hnil], .inr ⟨hnil, _, (0, 0), hb, thaw_zero _, by simpa using hlen, by simp only [maxLen]; omega, by simp, by simp⟩⟩
       · cases h
     · cases h
   · cases h
 · cases h
theorem rowOf_mod {x : Operand} {sz : Nat} {el : TypeId} {id n : Nat} {xs : List Value} (h : rowOf s (ev s x) sz el = some (some id, n, xs)) : id ∈ idOf (ev s x) := by
 unfold rowOf at h
 split at h
 · cases h
 · rename_i hx
   rw [hx]
   split at h
   · split at h
     · simp only [Option.some.injEq, Prod.mk.injEq] at h; simp [idOf, h.1]
     · cases h
   · cases h
 · rename_i hx
   rw [hx]
   split at h
   · split at h
     · split at h
       · simp only [Option.some.injEq, Prod.mk.injEq] at h; simp [idOf, h.1]
       · cases h
     · cases h
   · cases h
 · cases h
theorem rowOf_mod_none {x : Operand} {sz : Nat} {el : TypeId} {n : Nat} {xs : List Value} (h : rowOf s (ev s x) sz el = some (none, n, xs)) : idOf (ev s x) = [] := by
 unfold rowOf at h
 split at h
 · rename_i hx; rw [hx]; rfl
 · split at h
   · split at h <;> simp at h
   · cases h
 · split at h
   · split at h
     · split at h <;> simp at h
     · cases h
   · cases h
 · cases h
theorem rowOf_none {x : Operand} {sz : Nat} {el : TypeId} {n : Nat} {xs : List Value} (h : rowOf s (ev s x) sz el = some (none, n, xs)) (hA : SatA e s a) :
 a.eval x = .slice none 0 0 /\ n = 0 /\ xs = [] := by
 unfold rowOf at h
 split at h
 · rename_i hx
   simp only [Option.some.injEq, Prod.mk.injEq, true_and] at h;exact ⟨ev_v hA hx, h.1.symm, h.2.symm⟩
 · split at h
   · split at h
     · simp at h
     · cases h
   · cases h
 · split at h
   · split at h
     · split at h
       · simp at h
       · cases h
     · cases h
   · cases h
 · cases h
theorem srcOf_sound {xt : TypeId} {y : Operand} {sz : Nat} {K : Nat -> List Value -> Prop} (h : srcOf P s xt (ev s y) sz K) (hsz : 0 < sz) (hS : Sat c e s w) (hA : SatA e s a) :
 ∃ m ys, K m ys /\ Src P w xt (a.eval y) sz m ys /\ ∀ v ∈ ys, v.oneCell' = true := by
 unfold srcOf at h
 split at h
 · rename_i u ad m cp hu hy
   obtain ⟨ys, h1, h2, h3, h4, hK⟩ := h;refine ⟨m, ys, hK, ?_, h4⟩;rw [ev_v hA hy];exact Src.slice hu h1 h2 fun j v hj => ep_cells hS.I (h3 j v hj)
 · rename_i u id off len cp hu hy
   split at h
   · rename_i cs el nm hH
     split at h
     · rename_i ys hys
       split at h
       · rename_i hc
         simp only [Bool.and_eq_true, List.all_eq_true] at hc;refine ⟨_, _, h, ?_, hc.2⟩;rw [ev_d hA hy rfl];obtain ⟨hx2, hx3⟩ := mapV_den (e := e) hys
         refine Src.slice hu (Nat.eq_of_beq_eq_true hc.1) (fun h => by cases h) fun j v hj => ⟨_, rfl, ?_⟩
         rw [Addr.add_lit];rw [<- hx2, List.getElem?_map, Option.map_eq_some_iff] at hj;obtain ⟨sv, hs1, rfl⟩ := hj;have hjk := hx3 sv (List.mem_of_getElem? hs1);rw [List.getElem?_take] at hs1
         split at hs1
         · rw [List.getElem?_drop] at hs1
           exact holds_cells_owned hS hH _ _ hs1 hjk
         · cases hs1
       · exact h.elim
     · exact h.elim
   · rename_i xs el nm hH
     obtain ⟨h1, h2, hK⟩ := h;refine ⟨_, _, hK, ?_, h2⟩;rw [ev_d hA hy rfl]
     refine Src.slice hu (by simp; omega) (fun h => by cases h) fun j v hj => ⟨_, rfl, ?_⟩
     rw [Addr.add_lit];rw [List.getElem?_take] at hj
     split at hj
     · rw [List.getElem?_drop] at hj
       exact holds_vec_owned hS hH _ _ hj
     · cases hj
   · exact h.elim
 · rename_i u id len hu hy
   split at h
   · rename_i xs sz' el nm hH
     obtain ⟨h1, h2, hK⟩ := h;refine ⟨_, _, hK, ?_, h2⟩;rw [ev_d hA hy rfl];have hrow := (hS.owned id _ hH rfl).1
     refine Src.slice hu (by simp; omega) (fun hn => ?_) fun j v hj => ?_
     · cases hnil : e.nil id with
       | false => simp [hnil] at hn
       | true =>
         rcases hrow.2.2 with ⟨_, _, rfl⟩ | ⟨h0, _⟩
         · simp only [List.length_nil, Nat.le_zero, Nat.mul_eq_zero] at h1
           omega
         · rw [hnil] at h0; cases h0
     · rw [List.getElem?_take] at hj
       split at hj
       · obtain ⟨hnil, hc⟩ := holds_row_owned hS hH _ _ hj
         exact ⟨⟨e.blk id, 0, none⟩, by simp [hnil], by rw [Addr.add_lit, Nat.zero_add]; exact hc⟩
       · cases hj
   · exact h.elim
 · rename_i q hu hy
   obtain ⟨rfl, hK⟩ := h;refine ⟨_, _, hK, ?_, fun v hv => ?_⟩
   · rw [ev_v hA hy]
     exact Src.string hu
   · obtain ⟨b, _, rfl⟩ := List.mem_map.1 hv
     rfl
 · exact h.elim
theorem sAppend_sound {t xt : TypeId} {x y : Operand} (h : sAppend P s t xt (ev s x) (ev s y) K) (hS : Sat c e s w) (hA : SatA e s a) :
 ∃ sv s', K sv s' /\ EffOk P (.call { callee := .builtin .append, args := #[x, y], argTypes := #[t, xt] }) c s a w sv s' e := by
 unfold sAppend at h
 split at h
 · rename_i el hu
   split at h
   · rename_i i hi
     split at h
     · rename_i z hz
       split at h
       · rename_i hc
         simp only [Bool.and_eq_true, Nat.blt_eq] at hc;have hzs := Nat.eq_of_beq_eq_true hc.1
         have fin : ∀ {v v' : Value} {w' : World} {e' : Env} {sv : SV} {s' : St}, a.eval x = v -> (∀ ty, (Builtin.append_ #[t, xt] ty #[v, a.eval y]).run P w = .ok v' w') -> Sat c e' s' w' -> SatA e' s' a -> s'.tm.length = s.tm.length -> s.I.le s'.I ->
          Evo false (idOf (ev s x)) s e w s' e' w' -> v' = den e' sv -> EffOk P (.call { callee := .builtin .append, args := #[x, y], argTypes := #[t, xt] }) c s a w sv s' e := by
          intro v v' w' e' sv s' hv hrun hS' hA' hlen hle hev hd;refine ⟨e', w', v', fun d ty pos af g => .inl ?_, hS', hA', hlen, hle, .inr hd, hev⟩;simp [execOp, resolve, invoke, builtin, hv, hrun]
         split at h
         · rename_i id n xs hrow
           obtain ⟨m, ys, h, hsrc, hone⟩ := srcOf_sound h hc.2 hS hA;obtain ⟨hn, h63, hby, h⟩ := h
           split at h
           · rename_i hmk
             obtain ⟨ent, cap, hH, hal, hv, hr⟩ := rowOf_some hrow hS hA
             obtain ⟨nil', blk', cap', w', hrun, g1, g2, g3, g4, g5⟩ := run_app_row (P := P) (w := w) (t := t) (xt := xt) (ty := 0) hu hi hz hzs hc.2 hsrc hone hr hn (by simp only [maxLen]; omega) hby
             have hrun' : ∀ ty, (Builtin.append_ #[t, xt] ty #[.slice (if e.nil id then none else some ⟨e.blk id, 0, none⟩) n cap, a.eval y]).run P w = .ok (.slice (if nil' then none else some ⟨blk', 0, none⟩) (n + m) cap') w' := fun ty => hrun
             obtain ⟨h1, h2⟩ := hS.grow (obj := .row (xs ++ ys) i.size el) (e' := e.upd id blk' cap' nil') hA hH hal (fun k hk => upd_ne hk) hmk g2 g3 g4 (by simpa [upd_eq] using g5)
              ⟨hc.2, ⟨n + m, by rw [List.length_append, hn, hsrc.length, Nat.add_mul]⟩, by
               simp only [upd_eq];exact g1⟩
             exact ⟨_, _, h, fin hv hrun' h1 h2 (by simp [junkS]) (Mem.le_refl _) (evo_grow (rowOf_mod hrow) hH hal (fun k hk => upd_ne hk) g2 g4 (by simpa [upd_eq] using g5)) (by simp [den, upd_eq])⟩
           · exact h.elim
         · rename_i n xs hrow
           obtain ⟨m, ys, h, hsrc, hone⟩ := srcOf_sound h hc.2 hS hA;obtain ⟨h63, hby, h⟩ := h
           split at h
           · rename_i hw
             obtain ⟨hv, rfl, rfl⟩ := rowOf_none hrow hA
             obtain ⟨nil', blk', cap', w', hrun, g1, g2, g3, g4, g5⟩ := run_app_row (P := P) (w := w) (t := t) (xt := xt) (ty := 0) (n := 0) (xs := []) (nil := true) (blk := 0) (cap := 0) hu hi hz hzs hc.2 hsrc hone (.inl ⟨rfl, rfl, rfl⟩) (by simp) (by simp only [maxLen]; omega) (by simpa using hby)
             simp only [List.nil_append, if_true, Nat.zero_add] at hrun g1
             have hrun' : ∀ ty, (Builtin.append_ #[t, xt] ty #[.slice none 0 0, a.eval y]).run P w = .ok (.slice (if nil' then none else some ⟨blk', 0, none⟩) m cap') w' := fun ty => hrun
             obtain ⟨h1, h2⟩ := hS.add (obj := .row ys i.size el) (b := blk') (cp := cap') (nl := nil') hA hw (fun k hk => g4 k hk (fun h => by cases h)) g2 g3 (fun hn => by
              rcases g5 hn with ⟨h0, _⟩ | h0
              · cases h0
              · exact h0)
              ⟨hc.2, ⟨m, hsrc.length⟩, by
               simp only [upd_eq];exact g1⟩
             exact ⟨_, _, h, fin hv hrun' h1 h2 rfl (Mem.le_refl _) (by
              rw [rowOf_mod_none hrow]
              exact evo_add (fun k hk => g4 k hk (fun h => by cases h)) g2 (fun hn => by
               rcases g5 hn with ⟨h0, _⟩ | h0
               · cases h0
               · exact h0)) (by simp [den, upd_eq])⟩
           · exact h.elim
         · exact h.elim
       · exact h.elim
     · exact h.elim
   · exact h.elim
 · exact h.elim
theorem holds_mem {id : Nat} {h h' : Nat -> Option Obj} {o : EO} (hh : e.nil id = false -> h' (e.blk id) = h (e.blk id)) (H : holds e id h o) : holds e id h' o := by
 cases o with
 | cells cs el => obtain ⟨h0, cc, h3⟩ := H; exact ⟨h0, cc, by rw [hh h0]; exact h3⟩
 | vec xs el => exact ⟨H.1, by rw [hh H.1]; exact H.2⟩
 | row xs sz el =>
   refine ⟨H.1, H.2.1, ?_⟩
   rcases H.2.2 with h | ⟨h0, cc, h3⟩
   · exact .inl h
   · exact .inr ⟨h0, cc, by rw [hh h0]; exact h3⟩
 | raw o => exact ⟨H.1, by rw [hh H.1]; exact H.2⟩
 | dead => trivial
theorem Sat.reads (hS : Sat c e s w) {I' : Mem} {w' : World} (_hle : s.I.le I') (hI : I'.inW w') (hnew : ∀ b, b < w.heap.size -> s.I b = none -> I' b = none)
 (hold : ∀ k, k < w.heap.size -> w'.heap[k]? = w.heap[k]?) (hsz : w.heap.size <= w'.heap.size) (hsame : Same w w') : Sat c e { s with I := I' } w' := by
 have keep : ∀ I : Mem, I.inW w -> I.inW w' := fun I hI b o hb => by rw [hold b (Mem.inW_lt hI hb)]; exact hI b o hb
 refine ⟨hS.same.trans hsame, Nat.le_trans hS.size hsz, hI, keep _ hS.hf, ?_, ?_, hS.apart, hS.names⟩
 · intro b hb h0
   obtain ⟨o, ho⟩ := Option.ne_none_iff_exists'.1 hb;exact hnew b (Mem.inW_lt hS.hf ho) (hS.old b hb h0)
 · intro id x hx hal
   obtain ⟨h1, h2⟩ := hS.owned id x hx hal;refine ⟨holds_mem (fun hn => hold _ (blk_lt hS hx hal hn)) h1, fun hn => ⟨?_, (h2 hn).2⟩⟩;exact hnew _ (blk_lt hS hx hal hn) (h2 hn).1
theorem sBytes_sound {src dst : TypeId} {x : Operand} (h : seE P s (.convert src dst x) K) (hS : Sat c e s w) (hA : SatA e s a) :
 ∃ sv s', K sv s' /\ EffOk P (.convert src dst x) c s a w sv s' e := by
 simp only [seE] at h
 split at h
 · rename_i el q hu1 hu2 hx
   split at h
   · rename_i hu3
     obtain ⟨hq, h⟩ := h;have hrun := run_bytes_of_string (P := P) w src dst el q hu1 hu2 hu3;have hge := grownCap_ge w q.size 0 el
     have _hle := grownCap_le_maxLen w q.size 0 el (by simp only [maxLen]; omega)
     generalize hcap : grownCap w q.size 0 el = cap at hrun hge _hle;generalize hobj : Obj.cells (bytesRow q cap) el ((bytesRow q cap).size, (bytesRow q cap).size + 1) = obj at hrun
     let I' : Mem := fun b => if b = w.heap.size then some obj else s.I b
     have hIlt : ∀ b, b < w.heap.size -> I' b = s.I b := fun b hb => by simp only [I']; rw [if_neg (by omega)]
     have hS' : Sat c e { s with I := I' } (w.drew.alloc obj) := by
      refine hS.reads (fun b o hb => by rw [hIlt b (Mem.inW_lt hS.I hb)]; exact hb) ?_ (fun b hb h0 => by rw [hIlt b hb]; exact h0) (fun k hk => heap_alloc_old w.drew _ k hk) (by simp) ⟨rfl, rfl, rfl⟩
      intro b o hb
      by_cases hbs : b = w.heap.size
      · subst hbs
        simp only [I', if_true, Option.some.injEq] at hb;subst hb;exact heap_alloc_new w.drew _
      · have hb2 : s.I b = some o := by simp only [I'] at hb; rwa [if_neg hbs] at hb
        have hlt := Mem.inW_lt hS.I hb2;exact (heap_alloc_old w.drew _ b hlt).trans (hS.I b o hb2)
     have hK := h (some ⟨w.heap.size, 0, none⟩) cap I' (fun b o hb => by rw [hIlt b (Mem.inW_lt hS.I hb)]; exact hb) rfl hge _hle (fun j b hj => by
      have hlt := (List.getElem?_eq_some_iff.1 hj).1;simp only [atI, Option.bind_some, Addr.add_lit, Nat.zero_add, cellM, I', if_true];rw [<- hobj];simp only [Option.isSome_none, Bool.false_eq_true, if_false, bytesRow]
      rw [Array.getElem?_append_left (by simpa using hlt), Array.getElem?_map]
      have : q.data[j]? = some b := by simpa using hj
      rw [this]
      rfl)
     refine ⟨_, _, hK, e, w.drew.alloc obj, .slice (some ⟨w.heap.size, 0, none⟩) q.size cap, fun d ty pos af g => .inl ?_, hS', ⟨hA.size, hA.tm, hA.defers⟩, rfl, fun b o hb => by show I' b = some o; rw [hIlt b (Mem.inW_lt hS.I hb)]; exact hb, .inr (by simp [den]), ⟨fun k hk _ _ => heap_alloc_old w.drew _ k hk, by simp, fun _ _ _ => ⟨rfl, rfl, rfl⟩, fun _ _ _ h => by simp [modsOf] at h, fun _ _ h1 h2 _ _ => absurd (List.getElem?_eq_some_iff.1 h2).1 (by simp; omega), Nat.le_refl _, fun id x' _ h1 h2 => ⟨x', h1, h2⟩, fun _ _ h => h, fun _ => rfl, fun b hb _ h0 => .inl (by show I' b = none; rw [hIlt b hb]; exact h0)⟩⟩
     simp [execOp, ev_v hA hx, hrun]
   · exact h.elim
 · exact h.elim
theorem seE_sound {o : Op} (h : seE P s o K) (hS : Sat c e s w) (hA : SatA e s a) : ∃ sv s', K sv s' /\ EffOk P o c s a w sv s' e := by
 cases o with
 | box el x => exact sBox_sound h hS hA
 | alloc el => exact sAlloc_sound h hS hA
 | buildSlice t len ps => exact sBuildSlice_sound h hS hA
 | makeSlice t l cc => exact sMakeSlice_sound h hS hA
 | store t ad x => exact sStore_sound h hS hA
 | convert src dst x => exact sBytes_sound h hS hA
 | call cl =>
   obtain ⟨callee, args, ts⟩ := cl;simp only [seE] at h
   split at h
   · rename_i x y t xt h1 h2
     obtain rfl : args = #[x, y] := by rw [<- Array.toList_inj]; exact h1
     obtain rfl : ts = #[t, xt] := by rw [<- Array.toList_inj]; exact h2
     exact sAppend_sound h hS hA
   · exact h.elim
 | _ => exact h.elim
end
end Go.SE
namespace Go.SE
open Go.RowKit
inductive Nm where
 | blk (b : Nat)
 | row (a : Option Addr) (cp : Nat)
def NmOk (e : Env) (id : Nat) : Nm -> Prop
 | .blk b => e.blk id = b
 | .row a cp => a = (if e.nil id then none else some ⟨e.blk id, 0, none⟩) /\ cp = e.cap id
mutual
def subst (id : Nat) (n : Nm) : SV -> SV
 | .ptr i off => match Nat.beq i id, n with
   | true, .blk b => .v (.pointer (some ⟨b, off, none⟩))
   | _, _ => .ptr i off
 | .sptr i off => match Nat.beq i id, n with
   | true, .blk b => .v (.pointer (some ⟨b, off, none⟩))
   | _, _ => .sptr i off
 | .rsl i len => match Nat.beq i id, n with
   | true, .row a cp => .v (.slice a len cp)
   | _, _ => .rsl i len
 | .xsl i off len cap => match Nat.beq i id, n with
   | true, .blk b => .v (.slice (some ⟨b, off, none⟩) len cap)
   | _, _ => .xsl i off len cap
 | .fn f a b => .fn f (substL id n a) (substL id n b)
 | .agg xs => .agg (substL id n xs)
 | .tup xs => .tup (substL id n xs)
 | .v x => .v x
 | .ep a k => .ep a k
 | .junk => .junk
def substL (id : Nat) (n : Nm) : List SV -> List SV
 | [] => []
 | x :: xs => subst id n x :: substL id n xs
end
theorem substL_eq (id : Nat) (n : Nm) : ∀ l, substL id n l = l.map (subst id n)
 | [] => rfl
 | x :: xs => by simp [substL, substL_eq id n xs]
mutual
theorem subst_den {e : Env} {id : Nat} {n : Nm} (h : NmOk e id n) : ∀ x, den e (subst id n x) = den e x /\ isJunk (subst id n x) = isJunk x
 | .ptr i off => by
   cases n with
   | blk b =>
     cases hb : Nat.beq i id with
     | true =>
       obtain rfl := Nat.eq_of_beq_eq_true hb;simp only [NmOk] at h;simp [subst, den, isJunk, h]
     | false => simp [subst, hb]
   | row a cp => simp [subst]
 | .sptr i off => by
   cases n with
   | blk b =>
     cases hb : Nat.beq i id with
     | true =>
       obtain rfl := Nat.eq_of_beq_eq_true hb;simp only [NmOk] at h;simp [subst, den, isJunk, h]
     | false => simp [subst, hb]
   | row a cp => simp [subst]
 | .rsl i len => by
   cases n with
   | blk b => simp [subst]
   | row a cp =>
     cases hb : Nat.beq i id with
     | true =>
       obtain rfl := Nat.eq_of_beq_eq_true hb;simp only [NmOk] at h;simp [subst, den, isJunk, h]
     | false => simp [subst, hb]
 | .xsl i off len cap => by
   cases n with
   | blk b =>
     cases hb : Nat.beq i id with
     | true =>
       obtain rfl := Nat.eq_of_beq_eq_true hb;simp only [NmOk] at h;simp [subst, den, isJunk, h]
     | false => simp [subst, hb]
   | row a cp => simp [subst]
 | .fn f a b => by simp [subst, den, isJunk, substL_den h a, substL_den h b]
 | .agg xs => by simp [subst, den, isJunk, substL_den h xs]
 | .tup xs => by simp [subst, den, isJunk, substL_den h xs]
 | .v x => by simp [subst]
 | .ep a k => by simp [subst]
 | .junk => by simp [subst]
theorem substL_den {e : Env} {id : Nat} {n : Nm} (h : NmOk e id n) : ∀ l, denL e (substL id n l) = denL e l
 | [] => rfl
 | x :: xs => by simp [substL, denL, (subst_den h x).1, substL_den h xs]
end
def substE (id : Nat) (n : Nm) (x : Ent) : Ent :=
 match x.obj with
 | .cells cs el => ⟨.cells (substL id n cs) el, x.name⟩
 | _ => x
def handS (id : Nat) (n : Nm) (I' : Mem) (s : St) : St :=
 { s with tm := substL id n s.tm, H := (s.H.map (substE id n)).set id ⟨.dead, none⟩, I := I' }
mutual
def valS : SV -> Option Value
 | .v x => some x
 | .ep a k => some (.pointer (a.map (·.add k)))
 | .fn f a b => match valL a, valL b with
   | some x, some y => some (.func f x.toArray y.toArray)
   | _, _ => none
 | .agg xs => match valL xs with
   | some x => some (.agg x.toArray)
   | none => none
 | .tup xs => match valL xs with
   | some x => some (.tuple x.toArray)
   | none => none
 | _ => none
def valL : List SV -> Option (List Value)
 | [] => some []
 | x :: xs => match valS x, valL xs with
   | some v, some vs => some (v :: vs)
   | _, _ => none
end
mutual
theorem valS_den {e : Env} : ∀ {x : SV} {v : Value}, valS x = some v -> den e x = v /\ isJunk x = false
 | .v x, v, h => by simp only [valS, Option.some.injEq] at h; simp [den, isJunk, h]
 | .ep a k, v, h => by simp only [valS, Option.some.injEq] at h; simp [den, isJunk, h]
 | .fn f a b, v, h => by
   simp only [valS] at h
   split at h
   · rename_i x y hx hy
     simp only [Option.some.injEq] at h;simp [den, isJunk, (valL_den (e := e) hx).1, (valL_den (e := e) hy).1, h]
   · cases h
 | .agg xs, v, h => by
   simp only [valS] at h
   split at h
   · rename_i x hx
     simp only [Option.some.injEq] at h;simp [den, isJunk, (valL_den (e := e) hx).1, h]
   · cases h
 | .tup xs, v, h => by
   simp only [valS] at h
   split at h
   · rename_i x hx
     simp only [Option.some.injEq] at h;simp [den, isJunk, (valL_den (e := e) hx).1, h]
   · cases h
 | .ptr _ _, v, h | .sptr _ _, v, h | .rsl _ _, v, h | .xsl _ _ _ _, v, h | .junk, v, h => by simp [valS] at h
theorem valL_den {e : Env} : ∀ {l : List SV} {vs : List Value}, valL l = some vs -> denL e l = vs /\ ∀ x ∈ l, isJunk x = false
 | [], vs, h => by simp only [valL, Option.some.injEq] at h; subst h; exact ⟨rfl, fun x h => by cases h⟩
 | x :: xs, vs, h => by
   simp only [valL] at h
   split at h
   · rename_i v vs' hv hvs
     simp only [Option.some.injEq] at h;subst h;obtain ⟨h1, h2⟩ := valS_den (e := e) hv;obtain ⟨h3, h4⟩ := valL_den (e := e) hvs
     exact ⟨by simp [denL, h1, h3], fun y hy => by
      cases hy with
      | head => exact h2
      | tail _ hm => exact h4 y hm⟩
   · cases h
end
mutual
def ref1 : SV -> Option Nat
 | .ptr i _ | .sptr i _ | .rsl i _ | .xsl i _ _ _ => some i
 | .fn _ a b => match refL1 a with
   | some i => some i
   | none => refL1 b
 | .agg xs | .tup xs => refL1 xs
 | _ => none
def refL1 : List SV -> Option Nat
 | [] => none
 | x :: xs => match ref1 x with
   | some i => some i
   | none => refL1 xs
end
def RowM (I : Mem) (a : Option Addr) (cp sz : Nat) (xs : List Value) : Prop :=
 xs.length <= cp * sz /\ cp <= maxLen /\ (a = none -> xs = [] /\ cp = 0) /\ ∀ (j : Nat) (v : Value), xs[j]? = some v -> atI I a j = some v
def hand (P : Program) : Nat -> List Nat -> St -> (St -> Prop) -> Prop
 | 0, _, _, _ => False
 | _ + 1, [], s, K => K s
 | n + 1, id :: r, s, K => match s.H[id]? with
   | some ⟨.cells cs el, nm⟩ => match refL1 cs with
     | some i => hand P n (i :: id :: r) s K
     | none => match valL cs with
       | some vs => match nm with
         | some b => ∀ I' : Mem, s.I.le I' -> I' b = some (.cells vs.toArray el (0, 0)) -> hand P n r (handS id (.blk b) I' s) K
         | none => ∀ (b : Nat) (I' : Mem), s.I.le I' -> I' b = some (.cells vs.toArray el (0, 0)) -> hand P n r (handS id (.blk b) I' s) K
       | none => False
   | some ⟨.vec xs el, nm⟩ => match nm with
     | some b => ∀ I' : Mem, s.I.le I' -> I' b = some (.cells xs.toArray el (0, 0)) -> hand P n r (handS id (.blk b) I' s) K
     | none => ∀ (b : Nat) (I' : Mem), s.I.le I' -> I' b = some (.cells xs.toArray el (0, 0)) -> hand P n r (handS id (.blk b) I' s) K
   | some ⟨.row xs sz _, _⟩ => ∀ (a : Option Addr) (cp : Nat) (I' : Mem), s.I.le I' -> RowM I' a cp sz xs -> hand P n r (handS id (.row a cp) I' s) K
   | _ => hand P n r s K
section
variable {P : Program} {c : Ctx} {e : Env} {s : St} {w : World} {a : Act}
theorem handE_alive (id : Nat) (n : Nm) (x : Ent) : alive (substE id n x).obj = alive x.obj /\ (substE id n x).name = x.name := by
 unfold substE;split
 · rename_i h; simp [h, alive]
 · exact ⟨rfl, rfl⟩
theorem holds_subst {id j : Nat} {n : Nm} (hn : NmOk e id n) {h : Nat -> Option Obj} {x : Ent} (H : holds e j h x.obj) : holds e j h (substE id n x).obj := by
 unfold substE
 cases hx : x.obj with
 | cells cs el =>
   rw [hx] at H;obtain ⟨h0, cc, h1, h2, h3⟩ := H
   refine ⟨h0, cc, h1, by simpa [substL_eq] using h2, fun k sv hk hj => ?_⟩
   rw [substL_eq, List.getElem?_map, Option.map_eq_some_iff] at hk;obtain ⟨sv0, hk0, rfl⟩ := hk;obtain ⟨d1, d2⟩ := subst_den hn sv0;rw [d2] at hj;rw [d1];exact h3 k sv0 hk0 hj
 | vec xs el => rw [hx] at H; simp only [hx]; exact H
 | row xs sz el => rw [hx] at H; simp only [hx]; exact H
 | raw o => rw [hx] at H; simp only [hx]; exact H
 | dead => simp only [hx]; trivial
theorem Sat.hand1 (hS : Sat c e s w) (hA : SatA e s a) {id : Nat} {x : Ent} {n : Nm} (hx : s.H[id]? = some x) (hal : alive x.obj = true) (hn : NmOk e id n) :
 ∃ I' : Mem, s.I.le I' /\ Sat c e (handS id n I' s) w /\ SatA e (handS id n I' s) a /\ (e.nil id = false -> I' (e.blk id) = w.heap[e.blk id]?) /\ (∀ b, s.I b = none -> I' b = none \/ (e.nil id = false /\ b = e.blk id)) := by
 have hown := hS.owned id x hx hal
 let I' : Mem := fun b => if e.nil id = false /\ b = e.blk id then w.heap[e.blk id]? else s.I b
 have hle : s.I.le I' := fun b o hb => by
  simp only [I']
  rw [if_neg (fun h => by rw [h.2, (hown.2 h.1).1] at hb; cases hb)]
  exact hb
 refine ⟨I', hle, ⟨hS.same, hS.size, ?_, hS.hf, ?_, ?_, ?_, ?_⟩, ⟨?_, ?_, hA.defers⟩, fun h => by simp [I', h], fun b hb => by
  by_cases h : e.nil id = false /\ b = e.blk id
  · exact .inr h
  · exact .inl (by simp only [I', if_neg h]; exact hb)⟩
 · intro b o hb
   by_cases h : e.nil id = false /\ b = e.blk id
   · simp only [handS, I', if_pos h] at hb
     rw [h.2]; exact hb
   · simp only [handS, I', if_neg h] at hb
     exact hS.I b o hb
 · intro b hb h0
   simp only [handS, I']
   rw [if_neg (fun h => hb (by rw [h.2]; exact (hown.2 h.1).2))]
   exact hS.old b hb h0
 · intro j y hy hal'
   rcases getElem?_set' hy with ⟨rfl, rfl, _⟩ | ⟨hne, hy⟩
   · cases hal'
   · rw [List.getElem?_map, Option.map_eq_some_iff] at hy
     obtain ⟨y0, hy0, rfl⟩ := hy;have hal0 : alive y0.obj = true := (handE_alive id n y0).1 ▸ hal';obtain ⟨h1, h2⟩ := hS.owned j y0 hy0 hal0;refine ⟨holds_subst hn h1, fun hnl => ⟨?_, (h2 hnl).2⟩⟩;simp only [handS, I'];rw [if_neg (fun h => hS.apart j id y0 x hy0 hx hal0 hal hnl h.1 hne h.2)];exact (h2 hnl).1
 · intro i j y z hy hz hal1 hal2 hn1 hn2 hij
   rcases getElem?_set' hy with ⟨rfl, rfl, _⟩ | ⟨hne, hy1⟩
   · cases hal1
   rcases getElem?_set' hz with ⟨rfl, rfl, _⟩ | ⟨hne', hz1⟩
   · cases hal2
   rw [List.getElem?_map, Option.map_eq_some_iff] at hy1 hz1;obtain ⟨y0, hy0, rfl⟩ := hy1;obtain ⟨z0, hz0, rfl⟩ := hz1;exact hS.apart i j y0 z0 hy0 hz0 ((handE_alive id n y0).1 ▸ hal1) ((handE_alive id n z0).1 ▸ hal2) hn1 hn2 hij
 · intro j y b hy hb
   rcases getElem?_set' hy with ⟨rfl, rfl, _⟩ | ⟨hne, hy1⟩
   · cases hb
   · rw [List.getElem?_map, Option.map_eq_some_iff] at hy1
     obtain ⟨y0, hy0, rfl⟩ := hy1;rw [(handE_alive id n y0).2] at hb;exact hS.names j y0 b hy0 hb
 · simpa [handS, substL_eq] using hA.size
 · intro t sv ht hj
   simp only [handS, substL_eq, List.getElem?_map, Option.map_eq_some_iff] at ht;obtain ⟨sv0, h1, rfl⟩ := ht;obtain ⟨d1, d2⟩ := subst_den hn sv0;rw [d2] at hj;rw [d1];exact hA.tm t sv0 h1 hj
theorem handS_len (id : Nat) (n : Nm) (I' : Mem) (s : St) : (handS id n I' s).tm.length = s.tm.length := by simp [handS, substL_eq]
structure Less (e : Env) (s s' : St) : Prop where
 g : s'.G = s.G
 len : s.H.length = s'.H.length
 live : ∀ (id : Nat) (x' : Ent), s'.H[id]? = some x' -> alive x'.obj = true -> ∃ x, s.H[id]? = some x /\ alive x.obj = true
 rd : ∀ b, s.I b = none -> s'.I b = none \/ ∃ (j : Nat) (x : Ent), s.H[j]? = some x /\ alive x.obj = true /\ e.nil j = false /\ b = e.blk j
theorem Less.refl (s : St) : Less e s s := ⟨rfl, rfl, fun _ x h h2 => ⟨x, h, h2⟩, fun _ h => .inl h⟩
theorem Less.trans {s s1 s2 : St} (h : Less e s s1) (k : Less e s1 s2) : Less e s s2 :=
 ⟨k.g.trans h.g, h.len.trans k.len, fun id x' h1 h2 => by
  obtain ⟨x1, h3, h4⟩ := k.live id x' h1 h2
  exact h.live id x1 h3 h4, fun b hb => by
  rcases h.rd b hb with h1 | h1
  · rcases k.rd b h1 with h2 | ⟨j, x, hx, hal, hn, hb⟩
    · exact .inl h2
    · obtain ⟨x0, hx0, hal0⟩ := h.live j x hx hal
      exact .inr ⟨j, x0, hx0, hal0, hn, hb⟩
  · exact .inr h1⟩
theorem Less.handS {id : Nat} {x : Ent} (n : Nm) (I' : Mem) (s : St) (hx : s.H[id]? = some x) (hal : alive x.obj = true) (hI : ∀ b, s.I b = none -> I' b = none \/ (e.nil id = false /\ b = e.blk id)) :
 Less e s (handS id n I' s) := by
 refine ⟨rfl, by simp [Go.SE.handS], fun j x' h1 h2 => ?_, fun b hb => ?_⟩
 · simp only [Go.SE.handS] at h1
   rcases getElem?_set' h1 with ⟨_, rfl, _⟩ | ⟨_, h1⟩
   · cases h2
   · rw [List.getElem?_map, Option.map_eq_some_iff] at h1
     obtain ⟨y, h3, rfl⟩ := h1;exact ⟨y, h3, (handE_alive id n y).1 ▸ h2⟩
 · rcases hI b hb with h | ⟨h1, h2⟩
   · exact .inl h
   · exact .inr ⟨id, x, hx, hal, h1, h2⟩
theorem Less.evo {s s' : St} (h : Less e s s') (mods : List Nat) (w : World) : Evo false mods s e w s' e w := Evo.still h.len h.live (fun b _ hb => h.rd b hb) h.g
theorem hand_sound : ∀ {n : Nat} {l : List Nat} {s : St} {K : St -> Prop}, hand P n l s K -> Sat c e s w -> SatA e s a ->
 ∃ s', K s' /\ Sat c e s' w /\ SatA e s' a /\ s.I.le s'.I /\ s'.tm.length = s.tm.length /\ Less e s s'
 | 0, _, _, _, h, _, _ => h.elim
 | n + 1, [], s, K, h, hS, hA => ⟨s, h, hS, hA, Mem.le_refl _, rfl, Less.refl s⟩
 | n + 1, id :: r, s, K, h, hS, hA => by
   simp only [hand] at h
   have go : ∀ {s1 : St} {K : St -> Prop}, hand P n r s1 K -> Sat c e s1 w -> SatA e s1 a -> s.I.le s1.I -> s1.tm.length = s.tm.length -> Less e s s1 ->
    ∃ s', K s' /\ Sat c e s' w /\ SatA e s' a /\ s.I.le s'.I /\ s'.tm.length = s.tm.length /\ Less e s s' := by
    intro s1 K h1 hS1 hA1 hle hlen hls;obtain ⟨s', g1, g2, g3, g4, g5, g6⟩ := hand_sound h1 hS1 hA1;exact ⟨s', g1, g2, g3, Mem.le_trans hle g4, g5.trans hlen, hls.trans g6⟩
   split at h
   · rename_i cs el nm hH
     split at h
     · exact hand_sound h hS hA
     · split at h
       · rename_i vs hvs
         obtain ⟨⟨hnil, cur, hb, h2, h3⟩, _⟩ := hS.owned id _ hH rfl;obtain ⟨I', hle, hS', hA', hI', hrd⟩ := hS.hand1 hA (n := .blk (e.blk id)) hH rfl rfl
         have hcur : cur = vs.toArray := by
          obtain ⟨v1, v2⟩ := valL_den (e := e) hvs;rw [denL_eq] at v1;apply Array.ext_getElem?;intro k
          by_cases hk : k < cs.length
          · have hkk := List.getElem?_eq_getElem hk
            rw [h3 k _ hkk (v2 _ (List.mem_of_getElem? hkk)), <- v1];simp [hkk]
          · have : vs.length = cs.length := by rw [<- v1]; simp
            rw [Array.getElem?_eq_none (by omega), Array.getElem?_eq_none (by simp; omega)]
         subst hcur
         split at h
         · rename_i b
           obtain rfl := (hS.names id _ b hH rfl).1;exact go (h I' hle ((hI' hnil).trans hb)) hS' hA' hle (handS_len ..) (Less.handS _ _ _ hH rfl hrd)
         · exact go (h _ I' hle ((hI' hnil).trans hb)) hS' hA' hle (handS_len ..) (Less.handS _ _ _ hH rfl hrd)
       · exact h.elim
   · rename_i xs el nm hH
     obtain ⟨⟨hnil, hb⟩, _⟩ := hS.owned id _ hH rfl;obtain ⟨I', hle, hS', hA', hI', hrd⟩ := hS.hand1 hA (n := .blk (e.blk id)) hH rfl rfl
     split at h
     · rename_i b
       obtain rfl := (hS.names id _ b hH rfl).1;exact go (h I' hle ((hI' hnil).trans hb)) hS' hA' hle (handS_len ..) (Less.handS _ _ _ hH rfl hrd)
     · exact go (h _ I' hle ((hI' hnil).trans hb)) hS' hA' hle (handS_len ..) (Less.handS _ _ _ hH rfl hrd)
   · rename_i xs sz el nm hH
     obtain ⟨⟨hsz, hn, hrow⟩, _⟩ := hS.owned id _ hH rfl
     obtain ⟨I', hle, hS', hA', hI', hrd⟩ := hS.hand1 hA (n := .row (if e.nil id then none else some ⟨e.blk id, 0, none⟩) (e.cap id)) hH rfl ⟨rfl, rfl⟩
     refine go (h _ _ I' hle ?_) hS' hA' hle (handS_len ..) (Less.handS _ _ _ hH rfl hrd)
     rcases hrow with ⟨h1, h2, rfl⟩ | ⟨hnil, cur, fz, hb, _, h2, h3, h4, h5⟩
     · exact ⟨by simp, by rw [h2]; exact Nat.zero_le _, fun _ => ⟨rfl, h2⟩, fun j v hj => by simp at hj⟩
     · refine ⟨by rw [<- h2]; exact h4, h3, fun h => by simp [hnil] at h, fun j v hj => ?_⟩
       have hc := (holds_row_owned hS hH _ _ hj).2;simp only [hnil, Bool.false_eq_true, if_false, atI, Option.bind_some, Addr.add_lit, Nat.zero_add, cellM];rw [hI' hnil]
       simp only at hb
       simp only [World.cell?, hb] at hc ⊢;exact hc
   · exact go h hS hA (Mem.le_refl _) rfl (Less.refl s)
end
end Go.SE
namespace Go.SE
open Go.RowKit
def ExV1 (sh : Sh) (F : Value -> SV -> Prop) : Prop :=
 match sh with
 | .int k => ∃ n : Int, F (.int k n) (.v (.int k n))
 | .bool => ∃ b : Bool, F (.bool b) (.v (.bool b))
 | .str => ∃ q : ByteArray, F (.string q) (.v (.string q))
 | .sl => ∃ (a : Option Addr) (n c : Nat), F (.slice a n c) (.v (.slice a n c))
 | .ptr => ∃ a : Option Addr, F (.pointer a) (.v (.pointer a))
 | .map => ∃ r : Option Nat, F (.map r) (.v (.map r))
 | .other => ∃ x : Value, F x (.v x)
def ExVL : List Sh -> (List Value -> List SV -> Prop) -> Prop
 | [], F => F [] []
 | sh :: r, F => ExV1 sh fun v sv => ExVL r fun vs svs => F (v :: vs) (sv :: svs)
def ExVT (P : Program) (t : TypeId) (F : Value -> SV -> Prop) : Prop :=
 match isAggT P t with
 | some true => ExVL (leaves P 12 t) fun vs svs => F (.agg vs.toArray) (.agg svs)
 | some false => ExV1 (shOf P t) F
 | none => False
def ExVTs (P : Program) : List TypeId -> (List Value -> List SV -> Prop) -> Prop
 | [], F => F [] []
 | t :: r, F => ExVT P t fun v sv => ExVTs P r fun vs svs => F (v :: vs) (sv :: svs)
def ExRet (P : Program) (t : TypeId) (x : Value) (K : SV -> Prop) : Prop :=
 match P.underlying t with
 | some (.tuple ts) => ExVTs P ts.toList fun vs svs => x = .tuple vs.toArray /\ K (.tup svs)
 | _ => ExVT P t fun v sv => x = v /\ K sv
def Agree (v : Value) (sv : SV) : Prop := isJunk sv = false /\ ∀ e, den e sv = v
theorem ExV1_sound {sh : Sh} {F : Value -> SV -> Prop} (h : ExV1 sh F) : ∃ v sv, F v sv /\ Agree v sv := by
 cases sh <;> simp only [ExV1] at h
 case sl => obtain ⟨a, n, c, h⟩ := h; exact ⟨_, _, h, rfl, fun e => by simp [den]⟩
 all_goals obtain ⟨x, h⟩ := h; exact ⟨_, _, h, rfl, fun e => by simp [den]⟩
theorem ExVL_sound : ∀ {l : List Sh} {F : List Value -> List SV -> Prop}, ExVL l F -> ∃ vs svs, F vs svs /\ ∀ e, denL e svs = vs
 | [], F, h => ⟨[], [], h, fun _ => rfl⟩
 | sh :: r, F, h => by
   obtain ⟨v, sv, h1, _, h2⟩ := ExV1_sound h;obtain ⟨vs, svs, h3, h4⟩ := ExVL_sound h1
   exact ⟨_, _, h3, fun e => by simp [denL, h2 e, h4 e]⟩
theorem ExVT_sound {P : Program} {t : TypeId} {F : Value -> SV -> Prop} (h : ExVT P t F) : ∃ v sv, F v sv /\ Agree v sv := by
 unfold ExVT at h
 split at h
 · obtain ⟨vs, svs, h1, h2⟩ := ExVL_sound h
   exact ⟨_, _, h1, rfl, fun e => by simp [den, h2 e]⟩
 · exact ExV1_sound h
 · exact h.elim
theorem ExVTs_sound {P : Program} : ∀ {l : List TypeId} {F : List Value -> List SV -> Prop}, ExVTs P l F -> ∃ vs svs, F vs svs /\ ∀ e, denL e svs = vs
 | [], F, h => ⟨[], [], h, fun _ => rfl⟩
 | t :: r, F, h => by
   obtain ⟨v, sv, h1, _, h2⟩ := ExVT_sound h;obtain ⟨vs, svs, h3, h4⟩ := ExVTs_sound h1
   exact ⟨_, _, h3, fun e => by simp [denL, h2 e, h4 e]⟩
theorem ExRet_sound {P : Program} {t : TypeId} {x : Value} {K : SV -> Prop} (h : ExRet P t x K) : ∃ sv, K sv /\ Agree x sv := by
 unfold ExRet at h
 split at h
 · obtain ⟨vs, svs, ⟨h1, h2⟩, h3⟩ := ExVTs_sound h
   subst h1
   exact ⟨_, h2, rfl, fun e => by simp [den, h3 e]⟩
 · obtain ⟨v, sv, ⟨h1, h2⟩, h3⟩ := ExVT_sound h
   subst h1;exact ⟨_, h2, h3⟩
mutual
def refsOf : SV -> List Nat
 | .ptr i _ | .sptr i _ | .rsl i _ | .xsl i _ _ _ => [i]
 | .fn _ a b => refsOfL a ++ refsOfL b
 | .agg xs | .tup xs => refsOfL xs
 | _ => []
def refsOfL : List SV -> List Nat
 | [] => []
 | x :: xs => refsOf x ++ refsOfL xs
end
def seC (P : Program) (s : St) (c : Call) (t : TypeId) (K : SV -> St -> Prop) : Prop :=
 match c.callee with
 | .value f => hand P 100 (refsOfL ((f :: c.args.toList).map (ev s))) s fun s' =>
    match valS (ev s' f), valL (c.args.toList.map (ev s')) with
    | some fv, some vs => Ct P fv vs.toArray s'.I fun v I' => ExRet P t v fun sv => K sv { s' with I := I' }
    | _, _ => False
 | _ => False
def seRO (P : Program) (s : St) (c : Call) (t : TypeId) (K : SV -> St -> Prop) : Prop :=
 match c.callee with
 | .value f => hand P 100 (refsOfL ((f :: c.args.toList).map (ev s))) s fun s' =>
    match valS (ev s' f), valL (c.args.toList.map (ev s')) with
    | some fv, some vs => Ct P fv vs.toArray s'.I fun v _ => ExRet P t v fun sv => K sv s
    | _, _ => False
 | _ => False
def newsIn (I0 I1 J : Mem) : Prop := ∀ b o, I1 b = some o -> I0 b = none -> J b = some o
def seRK (P : Program) (s : St) (c : Call) (t : TypeId) (K : SV -> St -> Prop) : Prop :=
 match c.callee with
 | .value f => hand P 100 (refsOfL ((f :: c.args.toList).map (ev s))) s fun s' =>
    match valS (ev s' f), valL (c.args.toList.map (ev s')) with
    | some fv, some vs => Ct P fv vs.toArray s'.I fun v I' => ExRet P t v fun sv => ∀ J : Mem, s.I.le J -> newsIn s'.I I' J -> K sv { s with I := J }
    | _, _ => False
 | _ => False
def putS (s : St) (d : Option Tmp) (sv : SV) : St :=
 match d with
 | some t => { s with tm := s.tm.set t sv }
 | none => s
section
variable {P : Program} {c : Ctx} {e : Env} {s : St} {w : World} {a : Act} {r : Option Nat}
theorem Sat.put (hS : Sat c e s w) (d : Option Tmp) (sv : SV) : Sat c e (putS s d sv) w := by
 cases d with
 | none => exact hS
 | some t => exact ⟨hS.same, hS.size, hS.I, hS.hf, hS.old, hS.owned, hS.apart, hS.names⟩
theorem SatA.put (hA : SatA e s a) (d : Option Tmp) {sv : SV} {x : Value} (h : isJunk sv = true \/ x = den e sv) : SatA e (putS s d sv) (a.put d x) := by
 cases d with
 | none => exact hA
 | some t =>
   refine ⟨by simpa [putS, Act.put] using hA.size, fun k y hk hj => ?_, hA.defers⟩
   simp only [putS] at hk;simp only [Act.put]
   rcases getElem?_set' hk with ⟨rfl, rfl, hlt⟩ | ⟨hne, hk⟩
   · rcases h with h | rfl
     · rw [h] at hj; cases hj
     · rw [Array.getElem?_setIfInBounds_self_of_lt (by rw [hA.size]; exact hlt)]
   · rw [Array.getElem?_setIfInBounds_ne (Ne.symm hne)]
     exact hA.tm k y hk hj
theorem putS_len (s : St) (d : Option Tmp) (sv : SV) : (putS s d sv).tm.length = s.tm.length := by cases d <;> simp [putS]
theorem putS_I (s : St) (d : Option Tmp) (sv : SV) : (putS s d sv).I = s.I := by cases d <;> rfl
theorem wpIn_value {o : Oper} {x : Value} {w' : World} {next : Act -> World -> Prop} {Q : Exit -> Act -> World -> Prop} (hd : ∀ c, o.op ≠ .defer c)
 (h : (execOp a.eval o).run P w = .ok (.value x) w') (hn : next (a.put o.dst x) w') : o.wpIn (Fr r) 0 P a w next Q := by
 refine ⟨fun _ _ => trivial, ?_⟩;rw [Oper.semAt_eq _ _ _ hd, h];exact hn
theorem wpIn_skip' {o : Oper} {w' : World} {next : Act -> World -> Prop} {Q : Exit -> Act -> World -> Prop} (hd : ∀ c, o.op ≠ .defer c)
 (h : (execOp a.eval o).run P w = .ok .skip w') (hn : next (a.put o.dst undef) w') : o.wpIn (Fr r) 0 P a w next Q := by
 refine ⟨fun _ _ => trivial, ?_⟩;rw [Oper.semAt_eq _ _ _ hd, h];exact hn
theorem wpIn_call {o : Oper} {f : Operand} {args : Array Operand} {ts : Array TypeId} {next : Act -> World -> Prop} {Q : Exit -> Act -> World -> Prop} {R : Ending -> World -> Prop}
 (ho : o.op = .call { callee := .value f, args := args, argTypes := ts })
 (h : CallV P (a.eval f) (args.map a.eval) w R) (hn : ∀ e w', R e w' -> ∃ v, e = .returned v /\ next (a.put o.dst v) w') : o.wpIn (Fr r) 0 P a w next Q := by
 refine ⟨fun _ _ => trivial, ?_⟩
 rw [Oper.semAt_eq _ _ _ (by rw [ho]; intro c hc; cases hc)]
 have hrun : (execOp a.eval o).run P w = (semV (a.eval f) (args.map a.eval)).run P w := by
  simp only [execOp, ho, resolve, semV]
 rw [hrun];unfold CallV upR at h
 split at h
 · rename_i v w' heq
   obtain ⟨v', h1, h2⟩ := hn _ _ h;cases h1;rw [heq];exact h2
 · rename_i g args' w' heq
   rw [heq]
   refine ⟨(fun h => by cases h), ?_⟩
   have h2 : CallsIn (Fr r) 0 P g args' w' R := h
   exact h2.mono fun e w'' he => by
    obtain ⟨v', h1, h3⟩ := hn _ _ he;subst h1;exact h3
 · rename_i l g tmps assign body w' heq
   rw [heq]
   refine ⟨(fun h => by cases h), ?_⟩
   have h2 : RoundIn (Fr r) 0 P l g tmps assign body w' R := h
   exact h2.mono fun e w'' he => by
    obtain ⟨v', h1, h3⟩ := hn _ _ he;subst h1;exact h3
 · exact h.elim
theorem Sat.called (hS : Sat c e s w) {post : Value -> Mem -> Prop} {en : Ending} {w' : World} (h : Ends s.I Mem.emp w (fun v I' _ => post v I') en w') :
 ∃ v I', en = .returned v /\ s.I.le I' /\ post v I' /\ Sat c e { s with I := I' } w' /\ (∀ b, b < w.heap.size -> w'.heap[b]? = w.heap[b]?) /\ w.heap.size <= w'.heap.size /\ (∀ b, b < w.heap.size -> s.I b = none -> I' b = none) := by
 obtain ⟨v, I', hp', he, h1, h2, _, _, h5, h6, h7, h8, h9⟩ := h;exact ⟨v, I', he, h1, h9, hS.reads h1 h2 (fun b hb h0 => (h8 b hb rfl).2 h0) (fun b hb => h7 b hb rfl) h5 h6, fun b hb => h7 b hb rfl, h5, fun b hb h0 => (h8 b hb rfl).2 h0⟩
theorem Evo.called {mods : List Nat} {s' : St} {w' : World} {I' : Mem} (h : Evo false mods s e w s' e w) (hold : ∀ b, b < w.heap.size -> w'.heap[b]? = w.heap[b]?) (hsz : w.heap.size <= w'.heap.size)
 (hnew : ∀ b, b < w.heap.size -> s'.I b = none -> I' b = none) : Evo false mods s e w { s' with I := I' } e w' := by
 refine ⟨fun b hb _ _ => hold b hb, hsz, h.same, h.mod, h.new, h.len, h.live, h.gN, h.gEq, fun b hb _ h0 => ?_⟩
 rcases h.rd b hb (fun h => by cases h) h0 with h1 | h1
 · exact .inl (hnew b hb h1)
 · exact .inr h1
theorem seC_sound {o : Oper} {cl : Call} (ho : o.op = .call cl) {K : SV -> St -> Prop} (h : seC P s cl o.type K) (hS : Sat c e s w) (hA : SatA e s a) {next : Act -> World -> Prop} {Q : Exit -> Act -> World -> Prop}
 (hn : ∀ (sv : SV) (s' : St) (x : Value) (w' : World), K sv s' -> Sat c e s' w' -> SatA e s' a -> s.I.le s'.I -> s'.tm.length = s.tm.length -> x = den e sv -> (∀ mods, Evo false mods s e w s' e w') -> next (a.put o.dst x) w') :
 o.wpIn (Fr r) 0 P a w next Q := by
 obtain ⟨callee, args, ts⟩ := cl;unfold seC at h
 split at h
 · rename_i f hcal
   simp only at hcal
   subst hcal;obtain ⟨s', h, hS', hA', hle, hlen, hls⟩ := hand_sound h hS hA
   split at h
   · rename_i fv vs hfv hvs
     obtain ⟨f1, f2⟩ := valS_den (e := e) hfv;obtain ⟨v1, v2⟩ := valL_den (e := e) hvs
     have hf : a.eval f = fv := by rw [ev_ok hA' f f2, f1]
     have hargs : args.map a.eval = vs.toArray := by
      have : (args.toList.map (ev s')).all (fun x => !isJunk x) = true := by
       simp only [List.all_eq_true, Bool.not_eq_true'];exact v2
      have h2 := evs_ok hA' this;rw [v1] at h2;rw [<- h2, Array.toList_map.symm]
     refine wpIn_call (f := f) (args := args) (ts := ts) ho (R := _) (by rw [hf, hargs]; exact h w hS'.I (Mem.emp_inW w) (Mem.apart_emp _)) ?_
     intro en w' he;obtain ⟨v, I', rfl, hle2, hpost, hS2, hold, hsz, hnew⟩ := hS'.called he;obtain ⟨sv, hK, _, hd⟩ := ExRet_sound hpost;exact ⟨v, rfl, hn sv _ v w' hK hS2 ⟨hA'.size, hA'.tm, hA'.defers⟩ (Mem.le_trans hle hle2) hlen (hd e).symm fun mods => (hls.evo mods w).called hold hsz hnew⟩
   · exact h.elim
 · exact h.elim
theorem seRO_sound {o : Oper} {cl : Call} (ho : o.op = .call cl) {K : SV -> St -> Prop} (h : seRO P s cl o.type K) (hS : Sat c e s w) (hA : SatA e s a) {next : Act -> World -> Prop} {Q : Exit -> Act -> World -> Prop}
 (hn : ∀ (sv : SV) (s' : St) (x : Value) (w' : World), K sv s' -> Sat c e s' w' -> SatA e s' a -> s.I.le s'.I -> s'.tm.length = s.tm.length -> x = den e sv -> (∀ mods, Evo false mods s e w s' e w') -> next (a.put o.dst x) w') :
 o.wpIn (Fr r) 0 P a w next Q := by
 obtain ⟨callee, args, ts⟩ := cl;unfold seRO at h
 split at h
 · rename_i f hcal
   simp only at hcal
   subst hcal;obtain ⟨s', h, hS', hA', hle, hlen, hls⟩ := hand_sound h hS hA
   split at h
   · rename_i fv vs hfv hvs
     obtain ⟨f1, f2⟩ := valS_den (e := e) hfv;obtain ⟨v1, v2⟩ := valL_den (e := e) hvs
     have hf : a.eval f = fv := by rw [ev_ok hA' f f2, f1]
     have hargs : args.map a.eval = vs.toArray := by
      have : (args.toList.map (ev s')).all (fun x => !isJunk x) = true := by
       simp only [List.all_eq_true, Bool.not_eq_true'];exact v2
      have h2 := evs_ok hA' this;rw [v1] at h2;rw [<- h2, Array.toList_map.symm]
     refine wpIn_call (f := f) (args := args) (ts := ts) ho (R := _) (by rw [hf, hargs]; exact h w hS'.I (Mem.emp_inW w) (Mem.apart_emp _)) ?_
     intro en w' he;obtain ⟨v, I', hp', rfl, h1, h2, _, _, h5, h6, h7, h8, hpost⟩ := he;obtain ⟨sv, hK, _, hd⟩ := ExRet_sound hpost;have hold : ∀ b, b < w.heap.size -> w'.heap[b]? = w.heap[b]? := fun b hb => h7 b hb rfl;have hI : s.I.inW w' := fun b o hb => h2 b o (h1 b o (hle b o hb))
     have hS2 : Sat c e { s with I := s.I } w' := hS.reads (Mem.le_refl _) hI (fun b _ h0 => h0) hold h5 h6
     exact ⟨v, rfl, hn sv s v w' hK hS2 hA (Mem.le_refl _) rfl (hd e).symm fun mods => ((Less.refl s).evo mods w).called (I' := s.I) hold h5 fun b _ h0 => h0⟩
   · exact h.elim
 · exact h.elim
theorem seRK_sound {o : Oper} {cl : Call} (ho : o.op = .call cl) {K : SV -> St -> Prop} (h : seRK P s cl o.type K) (hS : Sat c e s w) (hA : SatA e s a) {next : Act -> World -> Prop} {Q : Exit -> Act -> World -> Prop}
 (hn : ∀ (sv : SV) (s' : St) (x : Value) (w' : World), K sv s' -> Sat c e s' w' -> SatA e s' a -> s.I.le s'.I -> s'.tm.length = s.tm.length -> x = den e sv -> (∀ mods, Evo false mods s e w s' e w') -> next (a.put o.dst x) w') :
 o.wpIn (Fr r) 0 P a w next Q := by
 obtain ⟨callee, args, ts⟩ := cl;unfold seRK at h
 split at h
 · rename_i f hcal
   simp only at hcal
   subst hcal;obtain ⟨s', h, hS', hA', hle, hlen, hls⟩ := hand_sound h hS hA
   split at h
   · rename_i fv vs hfv hvs
     obtain ⟨f1, f2⟩ := valS_den (e := e) hfv;obtain ⟨v1, v2⟩ := valL_den (e := e) hvs
     have hf : a.eval f = fv := by rw [ev_ok hA' f f2, f1]
     have hargs : args.map a.eval = vs.toArray := by
      have : (args.toList.map (ev s')).all (fun x => !isJunk x) = true := by
       simp only [List.all_eq_true, Bool.not_eq_true'];exact v2
      have h2 := evs_ok hA' this;rw [v1] at h2;rw [<- h2, Array.toList_map.symm]
     refine wpIn_call (f := f) (args := args) (ts := ts) ho (R := _) (by rw [hf, hargs]; exact h w hS'.I (Mem.emp_inW w) (Mem.apart_emp _)) ?_
     intro en w' he;obtain ⟨v, I', hp', rfl, h1, h2, _, _, h5, h6, h7, h8, hpost⟩ := he;obtain ⟨sv, hK, _, hd⟩ := ExRet_sound hpost;have hold : ∀ b, b < w.heap.size -> w'.heap[b]? = w.heap[b]? := fun b hb => h7 b hb rfl;have hI : s.I.inW w' := fun b o hb => h2 b o (h1 b o (hle b o hb))
     obtain ⟨J, hJ⟩ : ∃ J : Mem, J = fun b => if b < w.heap.size then s.I b else I' b := ⟨_, rfl⟩
     have sm : ∀ b o, s.I b = some o -> b < w.heap.size := fun b o hb => by
      rcases Nat.lt_or_ge b w.heap.size with h | h
      · exact h
      · have := hS.I b o hb
        rw [Array.getElem?_eq_none h] at this;cases this
     have hJle : s.I.le J := fun b o hb => by rw [hJ]; simp only [if_pos (sm b o hb)]; exact hb
     have hJin : J.inW w' := fun b o hb => by
      rw [hJ] at hb
      simp only at hb
      split at hb
      · exact hI b o hb
      · exact h2 b o hb
     have hJn : ∀ b, b < w.heap.size -> s.I b = none -> J b = none := fun b hb h0 => by rw [hJ]; simp only [if_pos hb]; exact h0
     have hJk : newsIn s'.I I' J := fun b o hb h0 => by
      rw [hJ]
      rcases Nat.lt_or_ge b w.heap.size with h | h
      · have := (h8 b h rfl).2 h0
        rw [hb] at this; cases this
      · simp only [if_neg (Nat.not_lt_of_le h)]; exact hb
     have hS2 : Sat c e { s with I := J } w' := hS.reads hJle hJin hJn hold h5 h6
     exact ⟨v, rfl, hn sv _ v w' (hK J hJle hJk) hS2 ⟨hA.size, hA.tm, hA.defers⟩ hJle rfl (hd e).symm fun mods => ((Less.refl s).evo mods w).called (I' := J) hold h5 hJn⟩
   · exact h.elim
 · exact h.elim
end
end Go.SE
namespace Go.SE
open Go.RowKit
def memB (d : Nat) : List Nat -> Bool
 | [] => false
 | x :: r => Nat.beq d x || memB d r
theorem memB_false {d : Nat} : ∀ {l : List Nat}, memB d l = false -> d ∉ l
 | [], _ => by simp
 | x :: r, h => by
   simp only [memB, Bool.or_eq_false_iff] at h;intro hm
   rcases List.mem_cons.1 hm with rfl | hm
   · simp at h
   · exact memB_false h.2 hm
theorem memB_true {d : Nat} : ∀ {l : List Nat}, memB d l = true -> d ∈ l
 | x :: r, h => by
   simp only [memB, Bool.or_eq_true] at h
   rcases h with h | h
   · rw [Nat.eq_of_beq_eq_true h]; exact List.mem_cons_self ..
   · exact List.mem_cons_of_mem _ (memB_true h)
theorem memB_mem {d : Nat} {l : List Nat} (h : d ∈ l) : memB d l = true := by
 cases hm : memB d l with
 | true => rfl
 | false => exact absurd h (memB_false hm)
def nodupB : List Nat -> Bool
 | [] => true
 | x :: r => !memB x r && nodupB r
def posOf (id : Nat) : List Nat -> Nat
 | [] => 0
 | x :: r => bif Nat.beq id x then 0 else posOf id r + 1
theorem posOf_get {id : Nat} : ∀ {l : List Nat}, id ∈ l -> l[posOf id l]? = some id
 | x :: r, h => by
   simp only [posOf]
   cases hb : Nat.beq id x with
   | true => rw [cond_true]; simp [Nat.eq_of_beq_eq_true hb]
   | false =>
     rw [cond_false]
     rcases List.mem_cons.1 h with rfl | h
     · simp at hb
     · simpa using posOf_get h
theorem posOf_at {id : Nat} : ∀ {l : List Nat} {j : Nat}, nodupB l = true -> l[j]? = some id -> posOf id l = j
 | [], j, _, h => by simp at h
 | x :: r, j, hn, h => by
   simp only [nodupB, Bool.and_eq_true, Bool.not_eq_true'] at hn;simp only [posOf]
   cases j with
   | zero =>
     simp only [List.getElem?_cons_zero, Option.some.injEq] at h;subst h
     simp
   | succ j =>
     have h : r[j]? = some id := by simpa using h
     have hne : Nat.beq id x = false := by
      cases hb : Nat.beq id x with
      | false => rfl
      | true =>
        rw [Nat.eq_of_beq_eq_true hb] at h;exact absurd (List.mem_of_getElem? h) (memB_false hn.1)
     rw [hne, cond_false, posOf_at hn.2 h]
mutual
def renF (f : Nat -> Nat) : SV -> SV
 | .ptr i off => .ptr (f i) off
 | .sptr i off => .sptr (f i) off
 | .rsl i n => .rsl (f i) n
 | .xsl i off n c => .xsl (f i) off n c
 | .fn g a b => .fn g (renFL f a) (renFL f b)
 | .agg xs => .agg (renFL f xs)
 | .tup xs => .tup (renFL f xs)
 | .v x => .v x
 | .ep a k => .ep a k
 | .junk => .junk
def renFL (f : Nat -> Nat) : List SV -> List SV
 | [] => []
 | x :: xs => renF f x :: renFL f xs
end
theorem renFL_eq (f : Nat -> Nat) : ∀ l, renFL f l = l.map (renF f)
 | [] => rfl
 | x :: xs => by simp [renFL, renFL_eq f xs]
mutual
def rslR (id : Nat) : SV -> Bool
 | .rsl i _ => i == id
 | .fn _ a b => rslRL id a || rslRL id b
 | .agg xs | .tup xs => rslRL id xs
 | _ => false
def rslRL (id : Nat) : List SV -> Bool
 | [] => false
 | x :: xs => rslR id x || rslRL id xs
end
mutual
theorem den_ren {e1 e : Env} {f : Nat -> Nat} : ∀ {x : SV}, (∀ i, refs i x = true -> e1.blk (f i) = e.blk i /\ e1.nil (f i) = e.nil i /\ (rslR i x = true -> e1.cap (f i) = e.cap i)) -> den e1 (renF f x) = den e x /\ isJunk (renF f x) = isJunk x
 | .ptr i off, h | .sptr i off, h | .xsl i off n cp, h => by
   obtain ⟨h1, _, _⟩ := h i (by simp [refs])
   simp [renF, den, isJunk, h1]
 | .rsl i n, h => by
   obtain ⟨h1, h2, h3⟩ := h i (by simp [refs])
   simp [renF, den, isJunk, h1, h2, h3 (by simp [rslR])]
 | .fn g a b, h => by
   have ha := denL_ren (e1 := e1) (e := e) (f := f) (l := a) (fun i hi => by
    obtain ⟨h1, h2, h3⟩ := h i (by simp [refs, hi])
    exact ⟨h1, h2, fun hr => h3 (by simp [rslR, hr])⟩)
   have hb := denL_ren (e1 := e1) (e := e) (f := f) (l := b) (fun i hi => by
    obtain ⟨h1, h2, h3⟩ := h i (by simp [refs, hi])
    exact ⟨h1, h2, fun hr => h3 (by simp [rslR, hr])⟩)
   simp [renF, den, isJunk, ha, hb]
 | .agg xs, h => by
   have ha := denL_ren (e1 := e1) (e := e) (f := f) (l := xs) (fun i hi => by
    obtain ⟨h1, h2, h3⟩ := h i (by simp [refs, hi])
    exact ⟨h1, h2, fun hr => h3 (by simp [rslR, hr])⟩)
   simp [renF, den, isJunk, ha]
 | .tup xs, h => by
   have ha := denL_ren (e1 := e1) (e := e) (f := f) (l := xs) (fun i hi => by
    obtain ⟨h1, h2, h3⟩ := h i (by simp [refs, hi])
    exact ⟨h1, h2, fun hr => h3 (by simp [rslR, hr])⟩)
   simp [renF, den, isJunk, ha]
 | .v x, _ => by simp [renF, den, isJunk]
 | .ep a k, _ => by simp [renF, den, isJunk]
 | .junk, _ => by simp [renF, den, isJunk]
theorem denL_ren {e1 e : Env} {f : Nat -> Nat} : ∀ {l : List SV}, (∀ i, refsL i l = true -> e1.blk (f i) = e.blk i /\ e1.nil (f i) = e.nil i /\ (rslRL i l = true -> e1.cap (f i) = e.cap i)) -> denL e1 (renFL f l) = denL e l
 | [], _ => rfl
 | x :: xs, h => by
   have h1 := (den_ren (e1 := e1) (e := e) (f := f) (x := x) (fun i hi => by
    obtain ⟨h1, h2, h3⟩ := h i (by simp [refsL, hi])
    exact ⟨h1, h2, fun hr => h3 (by simp [rslRL, hr])⟩)).1
   have h2 := denL_ren (e1 := e1) (e := e) (f := f) (l := xs) (fun i hi => by
    obtain ⟨h1, h2, h3⟩ := h i (by simp [refsL, hi])
    exact ⟨h1, h2, fun hr => h3 (by simp [rslRL, hr])⟩)
   simp [renFL, denL, h1, h2]
end
mutual
theorem renF_id : ∀ x : SV, renF (fun i => i) x = x
 | .ptr _ _ | .sptr _ _ | .rsl _ _ | .xsl _ _ _ _ | .v _ | .ep _ _ | .junk => rfl
 | .fn g a b => by simp [renF, renFL_id a, renFL_id b]
 | .agg xs => by simp [renF, renFL_id xs]
 | .tup xs => by simp [renF, renFL_id xs]
theorem renFL_id : ∀ l : List SV, renFL (fun i => i) l = l
 | [] => rfl
 | x :: xs => by simp [renFL, renF_id x, renFL_id xs]
end
mutual
theorem refs_mem {id : Nat} : ∀ {x : SV}, refs id x = true -> id ∈ refsOf x
 | .ptr i _, h | .sptr i _, h | .rsl i _, h | .xsl i _ _ _, h => by simp [refs] at h; simp [refsOf, h]
 | .fn _ a b, h => by
   simp only [refs, Bool.or_eq_true] at h;simp only [refsOf, List.mem_append];exact h.imp refsL_mem refsL_mem
 | .agg xs, h => by simp only [refs] at h; exact refsL_mem h
 | .tup xs, h => by simp only [refs] at h; exact refsL_mem h
 | .v _, h | .ep _ _, h | .junk, h => by simp [refs] at h
theorem refsL_mem {id : Nat} : ∀ {l : List SV}, refsL id l = true -> id ∈ refsOfL l
 | x :: xs, h => by
   simp only [refsL, Bool.or_eq_true] at h;simp only [refsOfL, List.mem_append];exact h.imp refs_mem refsL_mem
end
structure SatX (c : Ctx) (e : Env) (s : St) (w : World) : Prop extends Sat c e s w where
 gIn : s.G.inW w
 gI : ∀ b, s.G b ≠ none -> s.I b = none /\ c.hf b = none
 gOwn : ∀ (id : Nat) (x : Ent), s.H[id]? = some x -> alive x.obj = true -> e.nil id = false -> s.G (e.blk id) = none
section
variable {P : Program} {c : Ctx} {e e' : Env} {s s' : St} {w w' : World} {a : Act} {r : Option Nat}
theorem SatX.step (hS : SatX c e s w) (hS' : Sat c e' s' w') {mods : List Nat} (hev : Evo false mods s e w s' e' w') : SatX c e' s' w' := by
 have hg : s'.G = s.G := hev.gEq rfl
 have lt : ∀ {b : Nat}, s.G b ≠ none -> b < w.heap.size := fun hb => by
  obtain ⟨o, ho⟩ := Option.ne_none_iff_exists'.1 hb;exact Mem.inW_lt hS.gIn ho
 refine ⟨hS', ?_, ?_, ?_⟩
 · intro b o hb
   rw [hg] at hb
   have hne : s.G b ≠ none := by rw [hb]; simp
   have := hS.gIn b o hb
   rw [hev.heap b (lt hne) (fun h => by cases h) (fun id x _ hx hal hn hbe => hne (hbe ▸ hS.gOwn id x hx hal hn))]
   exact this
 · intro b hb
   rw [hg] at hb;refine ⟨?_, (hS.gI b hb).2⟩
   rcases hev.rd b (lt hb) (fun h => by cases h) (hS.gI b hb).1 with h | ⟨j, x, hx, hal, hn, rfl⟩
   · exact h
   · exact absurd (hS.gOwn j x hx hal hn) hb
 · intro id x hx hal hn
   rw [hg]
   have big : w.heap.size <= e'.blk id -> s.G (e'.blk id) = none := fun h => by
    cases hb : s.G (e'.blk id) with
    | none => rfl
    | some o => exact absurd (Mem.inW_lt hS.gIn hb) (by omega)
   by_cases hlt : id < s.H.length
   · by_cases hid : id ∈ mods
     · rcases hev.mod id x hlt hid hx hal hn with h | ⟨j, y, _, hy, haly, hny, hbe⟩
       · exact big h
       · rw [hbe]; exact hS.gOwn j y hy haly hny
     · obtain ⟨a1, _, a3⟩ := hev.same id hlt hid
       obtain ⟨x0, hx0, hal0⟩ := hev.live id x hlt hx hal;rw [<- a1];exact hS.gOwn id x0 hx0 hal0 (a3.trans hn)
   · rcases hev.new id x (by omega) hx hal hn with h | ⟨j, y, _, hy, haly, hny, hbe⟩
     · exact big h
     · rw [hbe]; exact hS.gOwn j y hy haly hny
end
end Go.SE
namespace Go.SE
open Go.RowKit
structure OwnE (e : Env) (H : List Ent) (hp : Mem) : Prop where
 hold : ∀ (id : Nat) (x : Ent), H[id]? = some x -> alive x.obj = true -> holds e id hp x.obj
 apart : ∀ (i j : Nat) (x y : Ent), H[i]? = some x -> H[j]? = some y -> alive x.obj = true -> alive y.obj = true -> e.nil i = false -> e.nil j = false -> i ≠ j -> e.blk i ≠ e.blk j
 dom : ∀ b, hp b ≠ none -> ∃ (id : Nat) (x : Ent), H[id]? = some x /\ alive x.obj = true /\ e.nil id = false /\ e.blk id = b
 names : ∀ (id : Nat) (x : Ent) (b : Nat), H[id]? = some x -> x.name = some b -> e.blk id = b /\ e.nil id = false
def CtS (P : Program) (fv : SV) (args : List SV) (H : List Ent) (I : Mem) (post : SV -> List Ent -> Mem -> Prop) : Prop :=
 ∀ (e : Env) (hp : Mem), OwnE e H hp -> CtH P (den e fv) (denL e args).toArray I hp fun v I' hp' => ∃ e' sv H', v = den e' sv /\ OwnE e' H' hp' /\ post sv H' I'
theorem CtS.mono {P : Program} {fv : SV} {args : List SV} {H : List Ent} {I : Mem} {post post' : SV -> List Ent -> Mem -> Prop} (h : CtS P fv args H I post)
 (hr : ∀ sv H' I', I.le I' -> post sv H' I' -> post' sv H' I') : CtS P fv args H I post' :=
 fun e hp hO => (h e hp hO).mono fun _ _ _ hle ⟨e', sv, H', h1, h2, h3⟩ => ⟨e', sv, H', h1, h2, hr _ _ _ hle h3⟩
def renE (f : Nat -> Nat) (x : Ent) : Ent :=
 match x.obj with
 | .cells cs el => ⟨.cells (renFL f cs) el, x.name⟩
 | _ => x
theorem renE_alive (f : Nat -> Nat) (x : Ent) : alive (renE f x).obj = alive x.obj /\ (renE f x).name = x.name := by
 unfold renE;split
 · rename_i h; simp [h, alive]
 · exact ⟨rfl, rfl⟩
def entRefs (x : Ent) : List Nat :=
 match x.obj with
 | .cells cs _ => refsOfL cs
 | _ => []
inductive RSh where
 | sh (s : Sh)
 | row (j : Nat)
 | ptr (j off : Nat)
 | agg (l : List RSh)
 | tup (l : List RSh)
mutual
def exR : RSh -> (SV -> Prop) -> Prop
 | .sh s, F => ExV1 s fun _ sv => F sv
 | .row j, F => ∃ n : Nat, F (.rsl j n)
 | .ptr j off, F => F (.ptr j off)
 | .agg l, F => exRs l fun xs => F (.agg xs)
 | .tup l, F => exRs l fun xs => F (.tup xs)
def exRs : List RSh -> (List SV -> Prop) -> Prop
 | [], F => F []
 | r :: l, F => exR r fun x => exRs l fun xs => F (x :: xs)
end
inductive ESh where
 | same | dead
 | row (sz : Nat) (el : TypeId)
 | vec (el : TypeId)
 | cells (l : List RSh) (el : TypeId)
 | mp
def nmOf (o : Option Ent) : Option Nat :=
 match o with
 | some x => x.name
 | none => none
def exE (o : Option Ent) (sh : ESh) (F : Ent -> Prop) : Prop :=
 match sh with
 | .same => match o with
   | some ⟨obj, some b⟩ => F ⟨obj, some b⟩
   | _ => False
 | .dead => F ⟨.dead, none⟩
 | .row sz el => ∃ xs : List Value, F ⟨.row xs sz el, none⟩
 | .vec el => ∃ xs : List Value, F ⟨.vec xs el, nmOf o⟩
 | .cells l el => exRs l fun xs => F ⟨.cells xs el, nmOf o⟩
 | .mp => ∃ (es : Array MapEntry) (clk : Nat), F ⟨.raw (.map es clk), nmOf o⟩
def exEs : List Ent -> List ESh -> (List Ent -> Prop) -> Prop
 | _, [], F => F []
 | [], sh :: r, F => exE none sh fun x => exEs [] r fun xs => F (x :: xs)
 | y :: ys, sh :: r, F => exE (some y) sh fun x => exEs ys r fun xs => F (x :: xs)
def nameQ : List Ent -> (List Ent -> Prop) -> Prop
 | [], F => F []
 | x :: r, F => match x with
   | ⟨.row xs sz el, _⟩ => nameQ r fun l => F (⟨.row xs sz el, none⟩ :: l)
   | ⟨o, some b⟩ => nameQ r fun l => F (⟨o, some b⟩ :: l)
   | ⟨o, none⟩ => ∀ b : Nat, nameQ r fun l => F (⟨o, some b⟩ :: l)
def entsAt (H : List Ent) : List Nat -> Option (List Ent)
 | [] => some []
 | id :: r => match H[id]?, entsAt H r with
   | some x, some l => if alive x.obj then some (x :: l) else none
   | _, _ => none
def bck (ids : List Nat) (n j : Nat) : Nat :=
 match ids[j]? with
 | some id => id
 | none => n + (j - ids.length)
def junkL (jl ids : List Nat) (x : SV) : SV := bif (refsOf x).any (fun i => memB i jl) || (refsOf x).any (fun i => memB i ids && rslR i x) then .junk else x
def junkEL (jl ids : List Nat) (x : Ent) : Ent :=
 match x.obj with
 | .cells cs el => ⟨.cells (cs.map (junkL jl ids)) el, x.name⟩
 | _ => x
def moved : List Nat -> List Ent -> List Nat
 | id :: r, ⟨_, none⟩ :: l => id :: moved r l
 | _ :: r, ⟨_, some _⟩ :: l => moved r l
 | id :: r, [] => id :: moved r []
 | [], _ => []
def newH (jl ids : List Nat) (H' : List Ent) (n : Nat) : Nat -> List Ent -> List Ent
 | _, [] => (H'.drop ids.length).map (renE (bck ids n))
 | i, x :: r => (bif memB i ids then (match H'[posOf i ids]? with
    | some y => renE (bck ids n) y
    | none => ⟨.dead, none⟩) else junkEL jl ids x) :: newH jl ids H' n (i + 1) r
def afterL (s : St) (ids : List Nat) (H' : List Ent) (I' : Mem) : St :=
 { s with tm := s.tm.map (junkL (moved ids H') ids), H := newH (moved ids H') ids H' s.H.length 0 s.H, I := I' }
def allIn (ids : List Nat) (l : List Nat) : Bool := l.all fun i => memB i ids
def lendOk (s : St) (ids : List Nat) (xs : List SV) (H0 : List Ent) : Bool :=
 nodupB ids && (ids.all (fun i => Nat.blt i s.H.length) && (s.marks.all (fun i => !memB i ids) && (wfSt s && (allIn ids (refsOfL xs) && (H0.all (fun x => allIn ids (entRefs x)) && (xs.all (fun x => !isJunk x) && (match s.rnd with
  | some i => !memB i ids && Nat.blt i s.H.length
  | none => true)))))))
def seLend (P : Program) (s : St) (cl : Call) (ids : List Nat) (res : RSh) (ents : List ESh) (K : SV -> St -> Prop) : Prop :=
 match cl.callee with
 | .value fo => hand P 100 ((refsOfL ((fo :: cl.args.toList).map (ev s))).filter fun i => !memB i ids) s fun s1 =>
    match entsAt s1.H ids with
    | some H0 => if lendOk s1 ids ((fo :: cl.args.toList).map (ev s1)) H0 then
       nameQ (H0.map (renE fun i => posOf i ids)) fun H1 =>
        CtS P (renF (fun i => posOf i ids) (ev s1 fo)) (renFL (fun i => posOf i ids) (cl.args.toList.map (ev s1))) H1 s1.I fun sv H' I' =>
         exR res fun sv0 => exEs H1 ents fun H2 => sv = sv0 /\ H' = H2 /\ K (renF (bck ids s1.H.length) sv0) (afterL s1 ids H2 I')
       else False
    | none => False
 | _ => False
def seCG (P : Program) (s : St) (cl : Call) (t : TypeId) (K : SV -> St -> Prop) : Prop :=
 match cl.callee with
 | .value f => hand P 100 (refsOfL ((f :: cl.args.toList).map (ev s))) s fun s' =>
    match valS (ev s' f), valL (cl.args.toList.map (ev s')) with
    | some fv, some vs => CtH P fv vs.toArray s'.I s'.G fun v I' G' => ExRet P t v fun sv => K sv { s' with I := I', G := G' }
    | _, _ => False
 | _ => False
section
variable {P : Program} {c : Ctx} {e : Env} {s : St} {w : World} {a : Act} {r : Option Nat}
theorem Less.x {s' : St} (h : Less e s s') (hS : SatX c e s w) (hS' : Sat c e s' w) : SatX c e s' w := hS.step hS' (h.evo [] w)
theorem seCG_sound {o : Oper} {cl : Call} (ho : o.op = .call cl) {K : SV -> St -> Prop} (h : seCG P s cl o.type K) (hS : SatX c e s w) (hA : SatA e s a) {next : Act -> World -> Prop} {Q : Exit -> Act -> World -> Prop}
 (hn : ∀ (sv : SV) (s' : St) (x : Value) (w' : World), K sv s' -> SatX c e s' w' -> SatA e s' a -> s.I.le s'.I -> s'.tm.length = s.tm.length -> x = den e sv -> Evo true [] s e w s' e w' -> next (a.put o.dst x) w') :
 o.wpIn (Fr r) 0 P a w next Q := by
 obtain ⟨callee, args, ts⟩ := cl;unfold seCG at h
 split at h
 · rename_i f hcal
   simp only at hcal
   subst hcal;obtain ⟨s', h, hS', hA', hle, hlen, hls⟩ := hand_sound h hS.toSat hA;have hX := hls.x hS hS'
   split at h
   · rename_i fv vs hfv hvs
     obtain ⟨f1, f2⟩ := valS_den (e := e) hfv;obtain ⟨v1, v2⟩ := valL_den (e := e) hvs
     have hf : a.eval f = fv := by rw [ev_ok hA' f f2, f1]
     have hargs : args.map a.eval = vs.toArray := by
      have : (args.toList.map (ev s')).all (fun x => !isJunk x) = true := by
       simp only [List.all_eq_true, Bool.not_eq_true'];exact v2
      have h2 := evs_ok hA' this;rw [v1] at h2;rw [<- h2, Array.toList_map.symm]
     have hap : s'.I.apart s'.G := fun b => by
      cases hb : s'.G b with
      | none => exact .inr rfl
      | some o => exact .inl (hX.gI b (by rw [hb]; simp)).1
     refine wpIn_call (f := f) (args := args) (ts := ts) ho (R := _) (by rw [hf, hargs]; exact h w hX.I hX.gIn hap) ?_
     intro en w' he;obtain ⟨v, I', G', rfl, hle2, hI', hG', hap', hsz, hsame, hold, hnew, hpost⟩ := he;obtain ⟨sv, hK, _, hd⟩ := ExRet_sound hpost
     have hfG : ∀ b, c.hf b ≠ none -> s'.G b = none := fun b hb => by
      cases hg : s'.G b with
      | none => rfl
      | some o => exact absurd (hX.gI b (by rw [hg]; simp)).2 hb
     have hSat : Sat c e { s' with I := I', G := G' } w' := by
      refine ⟨hX.same.trans hsame, Nat.le_trans hX.size hsz, hI', fun b o hb => ?_, fun b hb h0 => ?_, fun id x hx hal => ?_, hX.apart, hX.names⟩
      · rw [hold b (Mem.inW_lt hX.hf hb) (hfG b (by rw [hb]; simp))]
        exact hX.hf b o hb
      · obtain ⟨o, ho⟩ := Option.ne_none_iff_exists'.1 hb
        exact (hnew b (Mem.inW_lt hX.hf ho) (hfG b hb)).2 (hX.old b hb h0)
      · obtain ⟨h1, h2⟩ := hX.owned id x hx hal
        refine ⟨holds_mem (fun hn => hold _ (blk_lt hX.toSat hx hal hn) (hX.gOwn id x hx hal hn)) h1, fun hn => ⟨?_, (h2 hn).2⟩⟩;exact (hnew _ (blk_lt hX.toSat hx hal hn) (hX.gOwn id x hx hal hn)).2 (h2 hn).1
     refine ⟨v, rfl, hn sv _ v w' hK ⟨hSat, hG', fun b hb => ⟨?_, ?_⟩, fun id x hx hal hnl => ?_⟩ ⟨hA'.size, hA'.tm, hA'.defers⟩ (Mem.le_trans hle hle2) hlen (hd e).symm ?_⟩
     · exact (hap' b).resolve_right hb
     · cases hf : c.hf b with
       | none => rfl
       | some o => exact absurd (hnew b (Mem.inW_lt hX.hf hf) (hfG b (by rw [hf]; simp))).1 hb
     · exact (hnew _ (blk_lt hX.toSat hx hal hnl) (hX.gOwn id x hx hal hnl)).1
     · have hev := hls.evo [] w
       refine ⟨fun b hb hg _ => hold b hb (by rw [hls.g]; exact hg rfl), hsz, hev.same, fun _ _ _ h => by simp at h, hev.new, hev.len, hev.live, fun b hb hg => (hnew b hb (by rw [hls.g]; exact hg)).1, fun h => (by cases h), fun b hb hg h0 => ?_⟩
       rcases hev.rd b hb (fun h => by cases h) h0 with h1 | h1
       · exact .inl ((hnew b hb (by rw [hls.g]; exact hg rfl)).2 h1)
       · exact .inr h1
   · exact h.elim
 · exact h.elim
end
end Go.SE
