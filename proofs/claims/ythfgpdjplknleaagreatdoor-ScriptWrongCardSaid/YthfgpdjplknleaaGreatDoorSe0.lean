/- The program logic that these proofs use: memory that is read only, memory that is owned, and what a call of a function value does to them. Nothing here names a program. -/
import Derived.RangeFuncLeaves
import Derived.RangeFuncSeq
import Derived.CallsIn
import Derived.WalkKit
import Derived.Laws.AppendOwn
namespace Go.SE

/-- A part of memory: block numbers and what lies there. -/
abbrev Mem := Nat → Option Obj
def Mem.emp : Mem := fun _ => none
def Mem.le (I J : Mem) : Prop := ∀ b o, I b = some o → J b = some o
def Mem.inW (I : Mem) (w : World) : Prop := ∀ b o, I b = some o → w.heap[b]? = some o
def Mem.apart (I J : Mem) : Prop := ∀ b, I b = none ∨ J b = none

theorem Mem.le_refl (I : Mem) : I.le I := fun _ _ h => h
theorem Mem.le_trans {I J K : Mem} (h : I.le J) (h' : J.le K) : I.le K := fun b o hb => h' b o (h b o hb)
theorem Mem.inW_of_le {I J : Mem} {w : World} (h : I.le J) (hw : J.inW w) : I.inW w := fun b o hb => hw b o (h b o hb)
theorem Mem.apart_emp (I : Mem) : I.apart Mem.emp := fun _ => .inr rfl
theorem Mem.emp_inW (w : World) : Mem.emp.inW w := fun _ _ h => by cases h
theorem Mem.inW_lt {I : Mem} {w : World} (h : I.inW w) {b : Nat} {o : Obj} (hb : I b = some o) : b < w.heap.size :=
  (Array.getElem?_eq_some_iff.1 (h b o hb)).1

/-- The fence that lets everything in, within a round or not. -/
def Fr (r : Option Nat) : Fence := { fn := fun _ => True, depth := none, alive := false, round := r }
theorem Fr_none : Fr none = Fence.wide := rfl
theorem Fr_some (l : Nat) : Fr (some l) = Fence.wide.inRound l := rfl

/-- What follows of the answer to a call. -/
def upR (P : Program) (R : Ending → World → Prop) : Result Next → Prop
  | .ok (.value v) w => R (.returned v) w
  | .ok (.enter f args) w => CallsIn Fence.wide 0 P f args w R
  | .ok (.round l f tmps assign body) w => RoundIn Fence.wide 0 P l f tmps assign body w R
  | _ => False

theorem upR_mono {P : Program} {R R' : Ending → World → Prop} (hr : ∀ e w, R e w → R' e w) : ∀ r : Result Next, upR P R r → upR P R' r := by
  intro r h
  unfold upR at h ⊢
  split at h
  · exact hr _ _ h
  · exact h.mono hr
  · exact h.mono hr
  · exact h.elim

/-- A call of a function value. -/
def semV (fv : Value) (args : Array Value) : Sem Next := do
  let d ← Deferred.ofValue fv args
  invoke d.target d.args
def CallV (P : Program) (fv : Value) (args : Array Value) (w : World) (R : Ending → World → Prop) : Prop :=
  upR P R ((semV fv args).run P w)
theorem CallV.mono {P : Program} {fv : Value} {args : Array Value} {w : World} {R R' : Ending → World → Prop} (h : CallV P fv args w R)
    (hr : ∀ e w, R e w → R' e w) : CallV P fv args w R' := upR_mono hr _ h

/-- The streams stand as they stood. -/
structure Same (w w' : World) : Prop where
  os : w'.os = w.os
  tape : w'.tape = w.tape
  output : w'.output = w.output
theorem Same.refl (w : World) : Same w w := ⟨rfl, rfl, rfl⟩
theorem Same.trans {a b c : World} (h : Same a b) (k : Same b c) : Same a c := ⟨k.os.trans h.os, k.tape.trans h.tape, k.output.trans h.output⟩

/-- WHAT A CALL ENDS IN: a value; read-only memory may have grown; what is owned may have changed; all else that was there is as it was. -/
def Ends (I hp : Mem) (W : World) (post : Value → Mem → Mem → Prop) (e : Ending) (W' : World) : Prop :=
  ∃ v I' hp', e = .returned v ∧ I.le I' ∧ I'.inW W' ∧ hp'.inW W' ∧ I'.apart hp' ∧ W.heap.size ≤ W'.heap.size ∧ Same W W' ∧
    (∀ b, b < W.heap.size → hp b = none → W'.heap[b]? = W.heap[b]?) ∧
    (∀ b, b < W.heap.size → hp b = none → hp' b = none ∧ (I b = none → I' b = none)) ∧ post v I' hp'

theorem Ends.mono {I hp : Mem} {W W' : World} {post post' : Value → Mem → Mem → Prop} {e : Ending} (h : Ends I hp W post e W')
    (hr : ∀ v I' hp', I.le I' → post v I' hp' → post' v I' hp') : Ends I hp W post' e W' := by
  obtain ⟨v, I', hp', he, hI, h1, h2, h3, h4, h5, h6, h7, h8⟩ := h
  exact ⟨v, I', hp', he, hI, h1, h2, h3, h4, h5, h6, h7, hr _ _ _ hI h8⟩

/-- A CONTRACT: called with these arguments where the read-only memory has I and hp is owned, the value returns as 'post' says. -/
def CtH (P : Program) (fv : Value) (args : Array Value) (I hp : Mem) (post : Value → Mem → Mem → Prop) : Prop :=
  ∀ W : World, I.inW W → hp.inW W → I.apart hp → CallV P fv args W (Ends I hp W post)

theorem CtH.mono {P : Program} {fv : Value} {args : Array Value} {I hp : Mem} {post post' : Value → Mem → Mem → Prop} (h : CtH P fv args I hp post)
    (hr : ∀ v I' hp', I.le I' → post v I' hp' → post' v I' hp') : CtH P fv args I hp post' :=
  fun W h1 h2 h3 => (h W h1 h2 h3).mono fun _ _ he => he.mono hr

/-- A contract of a call that owns nothing. -/
def Ct (P : Program) (fv : Value) (args : Array Value) (I : Mem) (post : Value → Mem → Prop) : Prop :=
  CtH P fv args I Mem.emp fun v I' _ => post v I'
theorem Ct.mono {P : Program} {fv : Value} {args : Array Value} {I : Mem} {post post' : Value → Mem → Prop} (h : Ct P fv args I post)
    (hr : ∀ v I', I.le I' → post v I' → post' v I') : Ct P fv args I post' :=
  CtH.mono h fun v I' _ hI hp => hr v I' hI hp

/-- Function number f as a value. -/
def fnv (f : Nat) : Value := .func (.func f) #[] #[]

theorem run_semV_func {P : Program} {f : Nat} {first cap args : Array Value} {w : World} :
    (semV (.func (.func f) first cap) args).run P w = (callFunc f (first ++ args ++ cap)).run P w := by
  simp [semV, Deferred.ofValue, invoke]

end Go.SE
