/- Control: whole bodies; functions. -/
import Derived.Test.YthfgpdjplknleaaGreatDoorSe15T
namespace Go.SE
open Go.RowKit

inductive SX where
  | norm | ret
  | exit (id : Nat)
def toX : SX → Exit
  | .norm => .normal
  | .ret => .ret
  | .exit id => .exit id

/-- What is said beside a range over a function (by the first region of its body): how many elements it gives, what they are, their shapes; what is known where a round begins; the ways out, with what is known there. -/
structure RF where
  n : Nat
  enc : Nat → Array Value → Mem → Prop
  ps : List PSh
  ents : List (Nat × EA)
  inv : Nat → List Value → List (List Value) → Mem → Mem → Prop
  pre : List (Nat × Nat × TypeId) := []
  jumps : List (SX × List (Nat × EA) × (List Value → List (List Value) → Mem → Mem → Prop)) := []
  /-- The iterator has memory of its own: what it is like at first, and behind the last element. -/
  gst : Option ((Value → Mem → Prop) × (Value → Mem → Mem → Prop)) := none

def rawK : Nat → List Ent → List (Nat × EA)
  | _, [] => []
  | i, ⟨.raw _, _⟩ :: r => (i, .keep) :: rawK (i + 1) r
  | i, _ :: r => rawK (i + 1) r
def headR (Q : Pick) (ents : List (Nat × EA)) (s1 now : St) (F : List Value → List (List Value) → St → Prop) : Prop :=
  headS Q { tms := [], ents := ents ++ rawK 0 s1.H, pre := [], inv := fun _ _ _ _ => True, meas := fun _ _ => 0 } s1 now fun vals xss T0 => F vals xss { T0 with tm := s1.tm.map (stabV s1.H T0.H) }
def recS (rc : Loop) (st : LoopState) (j : Option Code) : Obj := .loop { rc with state := st, pending := j }
/-- A round's state: the block for deferred calls, the record. -/
def rstate (s : St) (bd br : Nat) (o : Obj) : St :=
  { s with H := s.H ++ [⟨.raw (.deferred (some [])), some bd⟩, ⟨.raw o, some br⟩], marks := [], rnd := some (s.H.length + 1) }
/-- The state behind the statement. -/
def outS (s T : St) (I : Mem) : St :=
  { T with I := I, H := T.H.set (s.H.length + 1) ⟨.dead, none⟩, marks := s.H.length :: s.marks, rnd := s.rnd }
def isX : SX → SX → Bool
  | .norm, .norm => true
  | .ret, .ret => true
  | .exit i, .exit j => Nat.beq i j
  | _, _ => false
def lookX {α : Type} (x : SX) : List (SX × α) → Option α
  | [] => none
  | (y, v) :: r => if isX x y then some v else lookX x r
def codeX : SX → Code
  | .norm => .skip
  | .ret => .ret
  | .exit i => .exit i
def allJ {α : Type} (F : SX → α → Prop) : List (SX × α) → Prop
  | [] => True
  | [(x, v)] => F x v
  | (x, v) :: r => F x v ∧ allJ F r

/-- What is said beside a body: its loops' heads, the heads where ways meet, what is handed over ahead of a region. -/
structure Ann where
  loops : List (Nat × Head) := []
  cuts : List (Nat × Head) := []
  hands : List (Nat × List Nat) := []
  befores : List (Nat × List Nat) := []
  chands : List (Nat × List Nat) := []
  calls : List (Nat × CK) := []
  rfs : List (Nat × RF) := []
  gives : List (Nat × List Nat) := []
  /-- Loops whose invariant has a number beside it that gets smaller in each round. -/
  gloops : List (Nat × Head × (Nat → List Value → List (List Value) → Mem → Mem → Prop)) := []
  /-- Loops that are walked round by round: how often at most. -/
  unr : List (Nat × Nat) := []
  rd : Bool := false

/-- A loop, round by round. -/
def unrollS (f : St → (SX → St → Prop) → Prop) : Nat → St → (SX → St → Prop) → Prop
  | 0, _, _ => False
  | n + 1, s, K => f s fun x s' => match x with
    | .norm => unrollS f n s' K
    | x => K x s'

def firstReg : Code → Option Nat
  | .region id _ _ => some id
  | .seq a b => match firstReg a with
    | some i => some i
    | none => firstReg b
  | .cond _ a b => match firstReg a with
    | some i => some i
    | none => firstReg b
  | .block _ a => firstReg a
  | .loop a => firstReg a
  | .scope a => firstReg a
  | .rangeFunc _ _ a b => match firstReg a with
    | some i => some i
    | none => firstReg b
  | _ => none

def look {α : Type} (k : Nat) : List (Nat × α) → Option α
  | [] => none
  | (i, x) :: r => if Nat.beq i k then some x else look k r
def lookO {α : Type} (k : Option Nat) (l : List (Nat × α)) : Option α :=
  match k with
  | some i => look i l
  | none => none

def eqNats : List Nat → List Nat → Bool
  | [], [] => true
  | x :: xs, y :: ys => Nat.beq x y && eqNats xs ys
  | _, _ => false
theorem eqNats_eq : ∀ {a b : List Nat}, eqNats a b = true → a = b
  | [], [], _ => rfl
  | x :: xs, y :: ys, h => by
    simp only [eqNats, Bool.and_eq_true] at h
    rw [Nat.eq_of_beq_eq_true h.1, eqNats_eq h.2]
  | [], _ :: _, h => by simp [eqNats] at h
  | _ :: _, [], h => by simp [eqNats] at h

/-- Nothing names this entry as a row. -/
def noRsl (id : Nat) (s : St) : Bool := s.tm.all (fun x => !rslR id x) && s.H.all fun x => match x.obj with
  | .cells cs _ => cs.all fun y => !rslR id y
  | _ => true
/-- Slices that are nil, or whole memory made by an operation, become rows (in a cell behind a pointer: thousands of 'sz' say how far behind). -/
def preS : List (Nat × Nat × TypeId) → St → (St → Prop) → Prop
  | [], s, K => K s
  | (t, sz, el) :: r, s, K => match s.tm[t]? with
    | some (.v (.slice none 0 0)) => if wfSt s && Nat.blt 0 sz then preS r { addE s (.row [] sz el) with tm := s.tm.set t (.rsl s.H.length 0) } K else False
    | some (.rsl _ _) => preS r s K
    | some (.xsl id 0 len cap) => match s.H[id]? with
      | some ⟨.cells cs el', _⟩ => match mapV cs with
        | some xs => if noRsl id s && (Nat.beq len cap && (Nat.beq el el' && (Nat.beq xs.length (len * sz) && (Nat.blt 0 sz && Nat.ble len 16777216)))) then preS r { s with tm := s.tm.set t (.rsl id len), H := s.H.set id ⟨.row xs sz el, none⟩ } K else False
        | none => False
      | _ => False
    | some (.ptr id off) => match s.H[id]? with
      | some ⟨.cells cs el', nm⟩ => match cs[off + sz / 1000]? with
        | some (.v (.slice none 0 0)) => if wfSt s && Nat.blt 0 (sz % 1000) then preS r { s with H := (s.H ++ [(⟨.row [] (sz % 1000) el, none⟩ : Ent)]).set id (⟨.cells (cs.set (off + sz / 1000) (.rsl s.H.length 0)) el', nm⟩ : Ent) } K else False
        | some (.rsl _ _) => preS r s K
        | _ => False
      | _ => False
    | _ => False

/-- What these temporaries name. -/
def refsTm (s : St) : List Nat → List Nat
  | [] => []
  | t :: r => match s.tm[t]? with
    | some sv => refsOf sv ++ refsTm s r
    | none => refsTm s r

/-- A range over a function that has memory of its own. -/
def seRR (P : Program) (R : RF) (R0 : Value → Mem → Prop) (R1 : Value → Mem → Mem → Prop) (g : Operand) (ps : Array Tmp) (sa sb : St → (SX → St → Prop) → Prop) (s : St) (K : SX → St → Prop) : Prop :=
  preS R.pre s fun s => give P 100 (refsOf (ev s g)) s fun s' => match valS (ev s' g) with
    | some fv => if Nat.beq R.ps.length ps.toList.length then nameA s'.H fun H => ∀ (bd br : Nat) (rc : Loop), if wfSt { s' with H := H } && wfSt { s' with H := H ++ [⟨.raw (.deferred (some [])), some bd⟩] } then
        GivesR P fv s'.I R.n R.enc (R0 fv) (R1 fv) ∧ R0 fv s'.G ∧ (∀ k args I, R.enc k args I → psOk R.ps args.toList = true) ∧
        headR (pickNow { rstate { s' with H := H } bd br (recS rc .ready none) with G := Mem.emp } { rstate { s' with H := H } bd br (recS rc .ready none) with G := Mem.emp }) R.ents { rstate { s' with H := H } bd br (recS rc .ready none) with G := Mem.emp } { rstate { s' with H := H } bd br (recS rc .ready none) with G := Mem.emp }
          (fun vals xss T => keepsN (rstate { s' with H := H } bd br (recS rc .ready none)).H T.H (s'.H.length + 1) (recS rc .ready none) ∧ R.inv 0 vals xss s'.I Mem.emp) ∧
        (∀ (k : Nat) (I' : Mem), k < R.n → s'.I.le I' → headR pickAll R.ents { rstate { s' with H := H } bd br (recS rc .ready none) with G := Mem.emp } { rstate { s' with H := H } bd br (recS rc .ready none) with I := I', G := Mem.emp } fun vals xss T => R.inv k vals xss I' Mem.emp →
          ∀ I2 : Mem, I'.le I2 → allPs R.ps fun vs svs => R.enc k vs.toArray I2 →
            sa { T with tm := setPs ps.toList svs T.tm, I := I2 } fun x s2 => match x, s2.H[s'.H.length + 1]? with
              | .norm, some ⟨.raw o, nm⟩ => o = recS rc .ready none ∧ nm = some br ∧ sb { s2 with H := s2.H.set (s'.H.length + 1) ⟨.raw (recS rc .busy none), nm⟩ } fun x s3 => match s3.H[s'.H.length + 1]? with
                  | some ⟨.raw o, nm⟩ => o = recS rc .busy none ∧ nm = some br ∧ s3.G = Mem.emp ∧ if eqNats s3.marks [] then (match x with
                      | .norm => headR (pickNow { rstate { s' with H := H } bd br (recS rc .ready none) with G := Mem.emp } { s3 with H := s3.H.set (s'.H.length + 1) ⟨.raw (recS rc .ready none), nm⟩ }) R.ents { rstate { s' with H := H } bd br (recS rc .ready none) with G := Mem.emp }
                          { s3 with H := s3.H.set (s'.H.length + 1) ⟨.raw (recS rc .ready none), nm⟩ } fun vals xss T => keepsN (rstate { s' with H := H } bd br (recS rc .ready none)).H T.H (s'.H.length + 1) (recS rc .ready none) ∧ R.inv (k + 1) vals xss s3.I Mem.emp
                      | x => match lookX x R.jumps with
                        | some (ents, inv) => headR (pickNow { rstate { s' with H := H } bd br (recS rc .done (some (codeX x))) with G := Mem.emp } { s3 with H := s3.H.set (s'.H.length + 1) ⟨.raw (recS rc .done (some (codeX x))), nm⟩ }) ents { rstate { s' with H := H } bd br (recS rc .done (some (codeX x))) with G := Mem.emp }
                          { s3 with H := s3.H.set (s'.H.length + 1) ⟨.raw (recS rc .done (some (codeX x))), nm⟩ } fun vals xss T => keepsN (rstate { s' with H := H } bd br (recS rc .done (some (codeX x)))).H T.H (s'.H.length + 1) (recS rc .done (some (codeX x))) ∧ inv vals xss s3.I Mem.emp
                        | none => False) else False
                  | _ => False
              | _, _ => False) ∧
        (∀ I' : Mem, s'.I.le I' → headR pickAll R.ents { rstate { s' with H := H } bd br (recS rc .ready none) with G := Mem.emp } { rstate { s' with H := H } bd br (recS rc .ready none) with I := I', G := Mem.emp } fun vals xss T => R.inv R.n vals xss I' Mem.emp →
          ∀ I2 G2 : Mem, I'.le I2 → R1 fv I2 G2 → if (s'.marks ++ [s'.H.length]).all (okN (rstate { s' with H := H } bd br (recS rc .ready none)).H T.H) then K .norm { outS s' T I2 with G := G2 } else False) ∧
        allJ (fun x ei => ∀ I' : Mem, s'.I.le I' → headR pickAll ei.1 { rstate { s' with H := H } bd br (recS rc .done (some (codeX x))) with G := Mem.emp } { rstate { s' with H := H } bd br (recS rc .done (some (codeX x))) with I := I', G := Mem.emp } fun vals xss T => ei.2 vals xss I' Mem.emp →
          ∀ I2 G2 : Mem, I'.le I2 → if (s'.marks ++ [s'.H.length]).all (okN (rstate { s' with H := H } bd br (recS rc .done (some (codeX x)))).H T.H) then K x { outS s' T I2 with G := G2 } else False) R.jumps
        else False
      else False
    | none => False
/-- A BODY. -/
def se (P : Program) (A : Ann) : Code → St → (SX → St → Prop) → Prop
  | .skip, s, K => K .norm s
  | .label _, s, K => K .norm s
  | .region id ops draw, s, K => hand P 100 ((look id A.hands).getD []) s fun s => give P 100 ((look id A.gives).getD []) s fun s => match draw with
    | false => seOps P A.calls ops ops.toList s (K .norm)
    | true => seDraw P A.calls ops s (K .norm)
  | .seq a b, s, K => match lookO (firstReg b) A.cuts with
    | none => se P A a s fun x s' => match x with
      | .norm => hand P 100 ((lookO (firstReg b) A.befores).getD []) s' fun s' => se P A b s' K
      | x => K x s'
    | some h => preS h.pre s fun s1 =>
        (se P A a s1 fun x s' => match x with
          | .norm => hand P 100 (refsTm s' ((lookO (firstReg b) A.chands).getD [])) s' fun s' => if eqNats s'.marks s1.marks then headS (pickNow s1 s') h s1 s' fun vals xss _ => h.inv vals xss s'.I s'.G else False
          | x => K x s') ∧
        ∀ I' G' : Mem, s1.I.le I' → headS pickAll h s1 { s1 with I := I', G := G' } fun vals xss T => h.inv vals xss I' G' → se P A b T K
  | .cond c a b, s, K => match ev s c with
    | .v (.bool t) => Br t (se P A a s K) (se P A b s K)
    | _ => False
  | .block id a, s, K => se P A a s fun x s' => match x with
    | .exit i => if Nat.beq i id then K .norm s' else K (.exit i) s'
    | x => K x s'
  | .loop a, s, K => match lookO (firstReg a) A.loops with
    | none => match lookO (firstReg a) A.gloops with
      | none => unrollS (se P A a) ((lookO (firstReg a) A.unr).getD 1) s K
      | some (h, gi) => preS h.pre s fun s1 =>
          headS (pickNow s1 s1) h s1 s1 (fun vals xss _ => ∃ j, gi j vals xss s1.I s1.G) ∧
          ∀ I' G' : Mem, s1.I.le I' → headS pickAll h s1 { s1 with I := I', G := G' } fun vals xss T => ∀ j : Nat, gi j vals xss I' G' →
            se P A a T fun x s' => match x with
              | .norm => if eqNats s'.marks s1.marks then headS (pickNow s1 s') h s1 s' fun vals' xss' _ => ∃ j', j' < j ∧ gi j' vals' xss' s'.I s'.G else False
              | x => K x s'
    | some h => preS h.pre s fun s1 =>
        headS (pickNow s1 s1) h s1 s1 (fun vals xss _ => h.inv vals xss s1.I s1.G) ∧
        ∀ I' G' : Mem, s1.I.le I' → headS pickAll h s1 { s1 with I := I', G := G' } fun vals xss T => h.inv vals xss I' G' →
          se P A a T fun x s' => match x with
            | .norm => if eqNats s'.marks s1.marks then headS (pickNow s1 s') h s1 s' fun vals' xss' _ => h.inv vals' xss' s'.I s'.G ∧ h.meas vals' xss' < h.meas vals xss else False
            | x => K x s'
  | .scope a, s, K => se P A a s K
  | .rangeFunc g ps assign body, s, K => match A.rd, lookO (firstReg body) A.rfs with
    | false, some R => match R.gst with
      | some rr => seRR P R rr.1 rr.2 g ps (se P { A with rd := true } assign) (se P { A with rd := true } body) s K
      | none => preS R.pre s fun s => hand P 100 (refsOf (ev s g)) s fun s' => match valS (ev s' g) with
      | some fv => if Nat.beq R.ps.length ps.toList.length then nameA s'.H fun H => ∀ (bd br : Nat) (rc : Loop), if wfSt { s' with H := H } && wfSt { s' with H := H ++ [⟨.raw (.deferred (some [])), some bd⟩] } then
          Gives P fv s'.I R.n R.enc ∧ (∀ k args I, R.enc k args I → psOk R.ps args.toList = true) ∧
          headR (pickNow (rstate { s' with H := H } bd br (recS rc .ready none)) (rstate { s' with H := H } bd br (recS rc .ready none))) R.ents (rstate { s' with H := H } bd br (recS rc .ready none)) (rstate { s' with H := H } bd br (recS rc .ready none))
            (fun vals xss T => keepsN (rstate { s' with H := H } bd br (recS rc .ready none)).H T.H (s'.H.length + 1) (recS rc .ready none) ∧ R.inv 0 vals xss s'.I s'.G) ∧
          (∀ (k : Nat) (I' G' : Mem), k < R.n → s'.I.le I' → headR pickAll R.ents (rstate { s' with H := H } bd br (recS rc .ready none)) { rstate { s' with H := H } bd br (recS rc .ready none) with I := I', G := G' } fun vals xss T => R.inv k vals xss I' G' →
            ∀ I2 : Mem, I'.le I2 → allPs R.ps fun vs svs => R.enc k vs.toArray I2 →
              se P { A with rd := true } assign { T with tm := setPs ps.toList svs T.tm, I := I2 } fun x s2 => match x, s2.H[s'.H.length + 1]? with
                | .norm, some ⟨.raw o, nm⟩ => o = recS rc .ready none ∧ nm = some br ∧ se P { A with rd := true } body { s2 with H := s2.H.set (s'.H.length + 1) ⟨.raw (recS rc .busy none), nm⟩ } fun x s3 => match s3.H[s'.H.length + 1]? with
                    | some ⟨.raw o, nm⟩ => o = recS rc .busy none ∧ nm = some br ∧ if eqNats s3.marks [] then (match x with
                        | .norm => headR (pickNow (rstate { s' with H := H } bd br (recS rc .ready none)) { s3 with H := s3.H.set (s'.H.length + 1) ⟨.raw (recS rc .ready none), nm⟩ }) R.ents (rstate { s' with H := H } bd br (recS rc .ready none))
                            { s3 with H := s3.H.set (s'.H.length + 1) ⟨.raw (recS rc .ready none), nm⟩ } fun vals xss T => keepsN (rstate { s' with H := H } bd br (recS rc .ready none)).H T.H (s'.H.length + 1) (recS rc .ready none) ∧ R.inv (k + 1) vals xss s3.I s3.G
                        | x => match lookX x R.jumps with
                          | some (ents, inv) => headR (pickNow (rstate { s' with H := H } bd br (recS rc .done (some (codeX x)))) { s3 with H := s3.H.set (s'.H.length + 1) ⟨.raw (recS rc .done (some (codeX x))), nm⟩ }) ents (rstate { s' with H := H } bd br (recS rc .done (some (codeX x))))
                            { s3 with H := s3.H.set (s'.H.length + 1) ⟨.raw (recS rc .done (some (codeX x))), nm⟩ } fun vals xss T => keepsN (rstate { s' with H := H } bd br (recS rc .done (some (codeX x)))).H T.H (s'.H.length + 1) (recS rc .done (some (codeX x))) ∧ inv vals xss s3.I s3.G
                          | none => False) else False
                    | _ => False
                | _, _ => False) ∧
          (∀ I' G' : Mem, s'.I.le I' → headR pickAll R.ents (rstate { s' with H := H } bd br (recS rc .ready none)) { rstate { s' with H := H } bd br (recS rc .ready none) with I := I', G := G' } fun vals xss T => R.inv R.n vals xss I' G' →
            ∀ I2 : Mem, I'.le I2 → if (s'.marks ++ [s'.H.length]).all (okN (rstate { s' with H := H } bd br (recS rc .ready none)).H T.H) then K .norm (outS s' T I2) else False) ∧
          allJ (fun x ei => ∀ I' G' : Mem, s'.I.le I' → headR pickAll ei.1 (rstate { s' with H := H } bd br (recS rc .done (some (codeX x)))) { rstate { s' with H := H } bd br (recS rc .done (some (codeX x))) with I := I', G := G' } fun vals xss T => ei.2 vals xss I' G' →
            ∀ I2 : Mem, I'.le I2 → if (s'.marks ++ [s'.H.length]).all (okN (rstate { s' with H := H } bd br (recS rc .done (some (codeX x)))).H T.H) then K x (outS s' T I2) else False) R.jumps
          else False
        else False
      | none => False
    | _, _ => False
  | .exit id, s, K => K (.exit id) s
  | .ret, s, K => K .ret s
  | _, _, _ => False

end Go.SE
