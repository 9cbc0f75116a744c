/- Part of a proof by the rules of the symbolic walk (see the law's own text): contracts of functions of the program. -/
import Derived.Test.YtjjjbafnplmjoaaGreatDoorse2
import Derived.RangeFuncRecord
import Derived.ProofKit
import Derived.OpenShut
import Derived.SizedLaws
import Derived.HandedShaped
import Derived.LaidLaws
import Derived.Lay
import Derived.LaidMore
import Derived.Stop.Joined
import Derived.Lib.Overlaps
set_option linter.unusedVariables false
set_option linter.unusedSimpArgs false
namespace Go.SE
open Go.RowKit
inductive SX where
 | norm | ret
 | exit (id : Nat)
def toX : SX -> Exit
 | .norm => .normal
 | .ret => .ret
 | .exit id => .exit id
structure RF where
 n : Nat
 enc : Nat -> Array Value -> Mem -> Prop
 ps : List PSh
 ents : List (Nat × EA)
 inv : Nat -> List Value -> List (List Value) -> Mem -> Mem -> Prop
 pre : List (Nat × Nat × TypeId) := []
 jumps : List (SX × List (Nat × EA) × (List Value -> List (List Value) -> Mem -> Mem -> Prop)) := []
 gst : Option ((Value -> Mem -> Prop) × (Value -> Mem -> Mem -> Prop)) := none
def rawK : Nat -> List Ent -> List (Nat × EA)
 | _, [] => []
 | i, ⟨.raw (.map _ _), _⟩ :: r => rawK (i + 1) r
 | i, ⟨.raw _, _⟩ :: r => (i, .keep) :: rawK (i + 1) r
 | i, _ :: r => rawK (i + 1) r
def headR (Q : Pick) (ents : List (Nat × EA)) (s1 now : St) (F : List Value -> List (List Value) -> St -> Prop) : Prop :=
 headS Q { tms := [], ents := ents ++ rawK 0 s1.H, pre := [], inv := fun _ _ _ _ => True, meas := fun _ _ => 0 } s1 now fun vals xss T0 => F vals xss { T0 with tm := s1.tm.map (stabV s1.H T0.H) }
def recS (rc : Loop) (st : LoopState) (j : Option Code) : Obj := .loop { rc with state := st, pending := j }
def rstate (s : St) (bd br : Nat) (o : Obj) : St :=
 { s with H := s.H ++ [⟨.raw (.deferred (some [])), some bd⟩, ⟨.raw o, some br⟩], marks := [], rnd := some (s.H.length + 1) }
def outS (s T : St) (I : Mem) : St :=
 { T with I := I, H := T.H.set (s.H.length + 1) ⟨.dead, none⟩, marks := s.H.length :: s.marks, rnd := s.rnd }
def isX : SX -> SX -> Bool
 | .norm, .norm => true
 | .ret, .ret => true
 | .exit i, .exit j => Nat.beq i j
 | _, _ => false
def lookX {α : Type} (x : SX) : List (SX × α) -> Option α
 | [] => none
 | (y, v) :: r => if isX x y then some v else lookX x r
def codeX : SX -> Code
 | .norm => .skip
 | .ret => .ret
 | .exit i => .exit i
def allJ {α : Type} (F : SX -> α -> Prop) : List (SX × α) -> Prop
 | [] => True
 | [(x, v)] => F x v
 | (x, v) :: r => F x v /\ allJ F r
structure Ann where
 loops : List (Nat × Head) := []
 cuts : List (Nat × Head) := []
 hands : List (Nat × List Nat) := []
 befores : List (Nat × List Nat) := []
 chands : List (Nat × List Nat) := []
 calls : List (Nat × CK) := []
 rfs : List (Nat × RF) := []
 gives : List (Nat × List Nat) := []
 gloops : List (Nat × Head × (Nat -> List Value -> List (List Value) -> Mem -> Mem -> Prop)) := []
 unr : List (Nat × Nat) := []
 rd : Bool := false
def unrollS (f : St -> (SX -> St -> Prop) -> Prop) : Nat -> St -> (SX -> St -> Prop) -> Prop
 | 0, _, _ => False
 | n + 1, s, K => f s fun x s' => match x with
   | .norm => unrollS f n s' K
   | x => K x s'
def firstReg : Code -> Option Nat
 | .region id _ _ => some id
 | .seq a b => match firstReg a with
   | some i => some i
   | none => firstReg b
 | .cond _ a b => match firstReg a with
   | some i => some i
   | none => firstReg b
 | .block _ a => firstReg a
 | .loop a => firstReg a
 | .scope a => firstReg a
 | .rangeFunc _ _ a b => match firstReg a with
   | some i => some i
   | none => firstReg b
 | _ => none
def look {α : Type} (k : Nat) : List (Nat × α) -> Option α
 | [] => none
 | (i, x) :: r => if Nat.beq i k then some x else look k r
def lookO {α : Type} (k : Option Nat) (l : List (Nat × α)) : Option α :=
 match k with
 | some i => look i l
 | none => none
def eqNats : List Nat -> List Nat -> Bool
 | [], [] => true
 | x :: xs, y :: ys => Nat.beq x y && eqNats xs ys
 | _, _ => false
theorem eqNats_eq : ∀ {a b : List Nat}, eqNats a b = true -> a = b
 | [], [], _ => rfl
 | x :: xs, y :: ys, h => by
   simp only [eqNats, Bool.and_eq_true] at h;rw [Nat.eq_of_beq_eq_true h.1, eqNats_eq h.2]
 | [], _ :: _, h => by simp [eqNats] at h
 | _ :: _, [], h => by simp [eqNats] at h
def noRsl (id : Nat) (s : St) : Bool := s.tm.all (fun x => !rslR id x) && s.H.all fun x => match x.obj with
 | .cells cs _ => cs.all fun y => !rslR id y
 | _ => true
def preS : List (Nat × Nat × TypeId) -> St -> (St -> Prop) -> Prop
 | [], s, K => K s
 | (t, sz, el) :: r, s, K => match s.tm[t]? with
   | some (.v (.slice none 0 0)) => if wfSt s && Nat.blt 0 sz then preS r { addE s (.row [] sz el) with tm := s.tm.set t (.rsl s.H.length 0) } K else False
   | some (.rsl _ _) => preS r s K
   | some (.xsl id 0 len cap) => match s.H[id]? with
     | some ⟨.cells cs el', _⟩ => match mapV cs with
       | some xs => if noRsl id s && (Nat.beq len cap && (Nat.beq el el' && (Nat.beq xs.length (len * sz) && (Nat.blt 0 sz && Nat.ble len 16777216)))) then preS r { s with tm := s.tm.set t (.rsl id len), H := s.H.set id ⟨.row xs sz el, none⟩ } K else False
       | none => False
     | _ => False
   | some (.ptr id off) => match s.H[id]? with
     | some ⟨.cells cs el', nm⟩ => match cs[off + sz / 1000]? with
       | some (.v (.slice none 0 0)) => if wfSt s && Nat.blt 0 (sz % 1000) then preS r { s with H := (s.H ++ [(⟨.row [] (sz % 1000) el, none⟩ : Ent)]).set id (⟨.cells (cs.set (off + sz / 1000) (.rsl s.H.length 0)) el', nm⟩ : Ent) } K else False
       | some (.rsl _ _) => preS r s K
       | _ => False
     | _ => False
   | _ => False
def refsTm (s : St) : List Nat -> List Nat
 | [] => []
 | t :: r => match s.tm[t]? with
   | some sv => refsOf sv ++ refsTm s r
   | none => refsTm s r
def seRR (P : Program) (R : RF) (R0 : Value -> Mem -> Prop) (R1 : Value -> Mem -> Mem -> Prop) (g : Operand) (ps : Array Tmp) (sa sb : St -> (SX -> St -> Prop) -> Prop) (s : St) (K : SX -> St -> Prop) : Prop :=
 preS R.pre s fun s => give P 100 (refsOf (ev s g)) s fun s' => match valS (ev s' g) with
  | some fv => if Nat.beq R.ps.length ps.toList.length then nameA s'.H fun H => ∀ (bd br : Nat) (rc : Loop), if wfSt { s' with H := H } && wfSt { s' with H := H ++ [⟨.raw (.deferred (some [])), some bd⟩] } then
     GivesR P fv s'.I R.n R.enc (R0 fv) (R1 fv) /\ R0 fv s'.G /\ (∀ k args I, R.enc k args I -> psOk R.ps args.toList = true) /\
     headR (pickNow { rstate { s' with H := H } bd br (recS rc .ready none) with G := Mem.emp } { rstate { s' with H := H } bd br (recS rc .ready none) with G := Mem.emp }) R.ents { rstate { s' with H := H } bd br (recS rc .ready none) with G := Mem.emp } { rstate { s' with H := H } bd br (recS rc .ready none) with G := Mem.emp }
      (fun vals xss T => keepsN (rstate { s' with H := H } bd br (recS rc .ready none)).H T.H (s'.H.length + 1) (recS rc .ready none) /\ R.inv 0 vals xss s'.I Mem.emp) /\
     (∀ (k : Nat) (I' : Mem), k < R.n -> s'.I.le I' -> headR pickAll R.ents { rstate { s' with H := H } bd br (recS rc .ready none) with G := Mem.emp } { rstate { s' with H := H } bd br (recS rc .ready none) with I := I', G := Mem.emp } fun vals xss T => R.inv k vals xss I' Mem.emp ->
       ∀ I2 : Mem, I'.le I2 -> allPs R.ps fun vs svs => R.enc k vs.toArray I2 ->
        sa { T with tm := setPs ps.toList svs T.tm, I := I2 } fun x s2 => match x, s2.H[s'.H.length + 1]? with
         | .norm, some ⟨.raw o, nm⟩ => o = recS rc .ready none /\ nm = some br /\ sb { s2 with H := s2.H.set (s'.H.length + 1) ⟨.raw (recS rc .busy none), nm⟩ } fun x s3 => match s3.H[s'.H.length + 1]? with
            | some ⟨.raw o, nm⟩ => o = recS rc .busy none /\ nm = some br /\ s3.G = Mem.emp /\ if eqNats s3.marks [] then (match x with
               | .norm => headR (pickNow { rstate { s' with H := H } bd br (recS rc .ready none) with G := Mem.emp } { s3 with H := s3.H.set (s'.H.length + 1) ⟨.raw (recS rc .ready none), nm⟩ }) R.ents { rstate { s' with H := H } bd br (recS rc .ready none) with G := Mem.emp }
                  { s3 with H := s3.H.set (s'.H.length + 1) ⟨.raw (recS rc .ready none), nm⟩ } fun vals xss T => keepsN (rstate { s' with H := H } bd br (recS rc .ready none)).H T.H (s'.H.length + 1) (recS rc .ready none) /\ R.inv (k + 1) vals xss s3.I Mem.emp
               | x => match lookX x R.jumps with
                 | some (ents, inv) => headR (pickNow { rstate { s' with H := H } bd br (recS rc .done (some (codeX x))) with G := Mem.emp } { s3 with H := s3.H.set (s'.H.length + 1) ⟨.raw (recS rc .done (some (codeX x))), nm⟩ }) ents { rstate { s' with H := H } bd br (recS rc .done (some (codeX x))) with G := Mem.emp }
                   { s3 with H := s3.H.set (s'.H.length + 1) ⟨.raw (recS rc .done (some (codeX x))), nm⟩ } fun vals xss T => keepsN (rstate { s' with H := H } bd br (recS rc .done (some (codeX x)))).H T.H (s'.H.length + 1) (recS rc .done (some (codeX x))) /\ inv vals xss s3.I Mem.emp
                 | none => False) else False
            | _ => False
         | _, _ => False) /\
     (∀ I' : Mem, s'.I.le I' -> headR pickAll R.ents { rstate { s' with H := H } bd br (recS rc .ready none) with G := Mem.emp } { rstate { s' with H := H } bd br (recS rc .ready none) with I := I', G := Mem.emp } fun vals xss T => R.inv R.n vals xss I' Mem.emp ->
       ∀ I2 G2 : Mem, I'.le I2 -> R1 fv I2 G2 -> if (s'.marks ++ [s'.H.length]).all (okN (rstate { s' with H := H } bd br (recS rc .ready none)).H T.H) then K .norm { outS s' T I2 with G := G2 } else False) /\
     allJ (fun x ei => ∀ I' : Mem, s'.I.le I' -> headR pickAll ei.1 { rstate { s' with H := H } bd br (recS rc .done (some (codeX x))) with G := Mem.emp } { rstate { s' with H := H } bd br (recS rc .done (some (codeX x))) with I := I', G := Mem.emp } fun vals xss T => ei.2 vals xss I' Mem.emp ->
      ∀ I2 G2 : Mem, I'.le I2 -> if (s'.marks ++ [s'.H.length]).all (okN (rstate { s' with H := H } bd br (recS rc .done (some (codeX x)))).H T.H) then K x { outS s' T I2 with G := G2 } else False) R.jumps
     else False
    else False
  | none => False
def se (P : Program) (A : Ann) : Code -> St -> (SX -> St -> Prop) -> Prop
 | .skip, s, K => K .norm s
 | .label _, s, K => K .norm s
 | .region id ops draw, s, K => hand P 100 ((look id A.hands).getD []) s fun s => give P 100 ((look id A.gives).getD []) s fun s => match draw with
   | false => seOps P A.calls ops ops.toList s (K .norm)
   | true => seDraw P A.calls ops s (K .norm)
 | .seq a b, s, K => match lookO (firstReg b) A.cuts with
   | none => se P A a s fun x s' => match x with
     | .norm => hand P 100 ((lookO (firstReg b) A.befores).getD []) s' fun s' => se P A b s' K
     | x => K x s'
   | some h => preS h.pre s fun s1 =>
      (se P A a s1 fun x s' => match x with
        | .norm => hand P 100 (refsTm s' ((lookO (firstReg b) A.chands).getD [])) s' fun s' => if eqNats s'.marks s1.marks then headS (pickNow s1 s') h s1 s' fun vals xss _ => h.inv vals xss s'.I s'.G else False
        | x => K x s') /\
      ∀ I' G' : Mem, s1.I.le I' -> headS pickAll h s1 { s1 with I := I', G := G' } fun vals xss T => h.inv vals xss I' G' -> se P A b T K
 | .cond c a b, s, K => match ev s c with
   | .v (.bool t) => Br t (se P A a s K) (se P A b s K)
   | _ => False
 | .block id a, s, K => se P A a s fun x s' => match x with
   | .exit i => if Nat.beq i id then K .norm s' else K (.exit i) s'
   | x => K x s'
 | .loop a, s, K => match lookO (firstReg a) A.loops with
   | none => match lookO (firstReg a) A.gloops with
     | none => unrollS (se P A a) ((lookO (firstReg a) A.unr).getD 1) s K
     | some (h, gi) => preS h.pre s fun s1 =>
        headS (pickNow s1 s1) h s1 s1 (fun vals xss _ => ∃ j, gi j vals xss s1.I s1.G) /\
        ∀ I' G' : Mem, s1.I.le I' -> headS pickAll h s1 { s1 with I := I', G := G' } fun vals xss T => ∀ j : Nat, gi j vals xss I' G' ->
         se P A a T fun x s' => match x with
          | .norm => if eqNats s'.marks s1.marks then headS (pickNow s1 s') h s1 s' fun vals' xss' _ => ∃ j', j' < j /\ gi j' vals' xss' s'.I s'.G else False
          | x => K x s'
   | some h => preS h.pre s fun s1 =>
      headS (pickNow s1 s1) h s1 s1 (fun vals xss _ => h.inv vals xss s1.I s1.G) /\
      ∀ I' G' : Mem, s1.I.le I' -> headS pickAll h s1 { s1 with I := I', G := G' } fun vals xss T => h.inv vals xss I' G' ->
       se P A a T fun x s' => match x with
        | .norm => if eqNats s'.marks s1.marks then headS (pickNow s1 s') h s1 s' fun vals' xss' _ => h.inv vals' xss' s'.I s'.G /\ h.meas vals' xss' < h.meas vals xss else False
        | x => K x s'
 | .scope a, s, K => se P A a s K
 | .rangeFunc g ps assign body, s, K => match A.rd, lookO (firstReg body) A.rfs with
   | false, some R => match R.gst with
     | some rr => seRR P R rr.1 rr.2 g ps (se P { A with rd := true } assign) (se P { A with rd := true } body) s K
     | none => preS R.pre s fun s => hand P 100 (refsOf (ev s g)) s fun s' => match valS (ev s' g) with
     | some fv => if Nat.beq R.ps.length ps.toList.length then nameA s'.H fun H => ∀ (bd br : Nat) (rc : Loop), if wfSt { s' with H := H } && wfSt { s' with H := H ++ [⟨.raw (.deferred (some [])), some bd⟩] } then
        Gives P fv s'.I R.n R.enc /\ (∀ k args I, R.enc k args I -> psOk R.ps args.toList = true) /\
        headR (pickNow (rstate { s' with H := H } bd br (recS rc .ready none)) (rstate { s' with H := H } bd br (recS rc .ready none))) R.ents (rstate { s' with H := H } bd br (recS rc .ready none)) (rstate { s' with H := H } bd br (recS rc .ready none))
         (fun vals xss T => keepsN (rstate { s' with H := H } bd br (recS rc .ready none)).H T.H (s'.H.length + 1) (recS rc .ready none) /\ R.inv 0 vals xss s'.I s'.G) /\
        (∀ (k : Nat) (I' G' : Mem), k < R.n -> s'.I.le I' -> headR pickAll R.ents (rstate { s' with H := H } bd br (recS rc .ready none)) { rstate { s' with H := H } bd br (recS rc .ready none) with I := I', G := G' } fun vals xss T => R.inv k vals xss I' G' ->
          ∀ I2 : Mem, I'.le I2 -> allPs R.ps fun vs svs => R.enc k vs.toArray I2 ->
           se P { A with rd := true } assign { T with tm := setPs ps.toList svs T.tm, I := I2 } fun x s2 => match x, s2.H[s'.H.length + 1]? with
            | .norm, some ⟨.raw o, nm⟩ => o = recS rc .ready none /\ nm = some br /\ se P { A with rd := true } body { s2 with H := s2.H.set (s'.H.length + 1) ⟨.raw (recS rc .busy none), nm⟩ } fun x s3 => match s3.H[s'.H.length + 1]? with
               | some ⟨.raw o, nm⟩ => o = recS rc .busy none /\ nm = some br /\ if eqNats s3.marks [] then (match x with
                  | .norm => headR (pickNow (rstate { s' with H := H } bd br (recS rc .ready none)) { s3 with H := s3.H.set (s'.H.length + 1) ⟨.raw (recS rc .ready none), nm⟩ }) R.ents (rstate { s' with H := H } bd br (recS rc .ready none))
                     { s3 with H := s3.H.set (s'.H.length + 1) ⟨.raw (recS rc .ready none), nm⟩ } fun vals xss T => keepsN (rstate { s' with H := H } bd br (recS rc .ready none)).H T.H (s'.H.length + 1) (recS rc .ready none) /\ R.inv (k + 1) vals xss s3.I s3.G
                  | x => match lookX x R.jumps with
                    | some (ents, inv) => headR (pickNow (rstate { s' with H := H } bd br (recS rc .done (some (codeX x)))) { s3 with H := s3.H.set (s'.H.length + 1) ⟨.raw (recS rc .done (some (codeX x))), nm⟩ }) ents (rstate { s' with H := H } bd br (recS rc .done (some (codeX x))))
                      { s3 with H := s3.H.set (s'.H.length + 1) ⟨.raw (recS rc .done (some (codeX x))), nm⟩ } fun vals xss T => keepsN (rstate { s' with H := H } bd br (recS rc .done (some (codeX x)))).H T.H (s'.H.length + 1) (recS rc .done (some (codeX x))) /\ inv vals xss s3.I s3.G
                    | none => False) else False
               | _ => False
            | _, _ => False) /\
        (∀ I' G' : Mem, s'.I.le I' -> headR pickAll R.ents (rstate { s' with H := H } bd br (recS rc .ready none)) { rstate { s' with H := H } bd br (recS rc .ready none) with I := I', G := G' } fun vals xss T => R.inv R.n vals xss I' G' ->
          ∀ I2 : Mem, I'.le I2 -> if (s'.marks ++ [s'.H.length]).all (okN (rstate { s' with H := H } bd br (recS rc .ready none)).H T.H) then K .norm (outS s' T I2) else False) /\
        allJ (fun x ei => ∀ I' G' : Mem, s'.I.le I' -> headR pickAll ei.1 (rstate { s' with H := H } bd br (recS rc .done (some (codeX x)))) { rstate { s' with H := H } bd br (recS rc .done (some (codeX x))) with I := I', G := G' } fun vals xss T => ei.2 vals xss I' G' ->
         ∀ I2 : Mem, I'.le I2 -> if (s'.marks ++ [s'.H.length]).all (okN (rstate { s' with H := H } bd br (recS rc .done (some (codeX x)))).H T.H) then K x (outS s' T I2) else False) R.jumps
        else False
       else False
     | none => False
   | _, _ => False
 | .exit id, s, K => K (.exit id) s
 | .ret, s, K => K .ret s
 | _, _, _ => False
end Go.SE
namespace Go.SE
open Go.RowKit
def SoundAt (P : Program) (cd : Code) : Prop :=
 ∀ {A : Ann} {r : Option Nat} {c : Ctx} {s : St} {K : SX -> St -> Prop} {Q : Exit -> Act -> World -> Prop} {e : Env} {a : Act} {w : World}, se P A cd s K ->
  (∀ (x : SX) (e' : Env) (s' : St) (a' : Act) (w' : World), K x s' -> SatX c e' s' w' -> SatA e' s' a' -> s.I.le s'.I -> s'.tm.length = s.tm.length -> Q (toX x) a' w') ->
  SatX c e s w -> SatA e s a -> A.rd = r.isSome -> cd.wpIn (Fr r) 0 P Q a w
theorem headR_both {s1 now now' : St} {ents : List (Nat × EA)} {F G : List Value -> List (List Value) -> St -> Prop} (hI : now'.I = now.I) (hG : now'.G = now.G) (hm : now.marks = s1.marks) (hl : now.tm.length = s1.tm.length)
 (h1 : headR (pickNow s1 now) ents s1 now F) (h2 : headR pickAll ents s1 now' G) :
 ∃ vals xss T, F vals xss T /\ G vals xss T /\ T.I = now.I /\ T.G = now.G /\ T.tm = s1.tm.map (stabV s1.H T.H) /\ T.marks = now.marks /\ ∀ {c : Ctx} {e : Env} {w : World}, SatX c e now w -> SatX c e T w := by
 obtain ⟨vals, xss, T0, g1, g2, g3⟩ := headS_both hI hG hm hl h1 h2;exact ⟨vals, xss, _, g1, g2, g3.I, g3.G, rfl, g3.marks, fun hS => (hS.ref g3).less⟩
theorem run_semV_yield {P : Program} {l : Nat} {args : Array Value} {W : World} : (semV (.func (.yield l) #[] #[]) args).run P W = (Instr.yield l args).run P W := by
 simp [semV, Deferred.ofValue, invoke]
theorem foldl_setPs {e : Env} : ∀ {ps : List Tmp} {svs : List SV} {vs : List Value} {tm : List SV} {tmps : Array Value}, svs.length = vs.length -> vs.length = ps.length ->
 (∀ (k : Nat) (sv : SV), svs[k]? = some sv -> vs[k]? = some (den e sv)) -> tmps.size = tm.length -> (∀ (t : Nat) (sv : SV), tm[t]? = some sv -> isJunk sv = false -> tmps[t]? = some (den e sv)) ->
 ((ps.zip vs).foldl (fun tmps (x : Tmp × Value) => tmps.setIfInBounds x.1 x.2) tmps).size = (setPs ps svs tm).length /\
 ∀ (t : Nat) (sv : SV), (setPs ps svs tm)[t]? = some sv -> isJunk sv = false -> ((ps.zip vs).foldl (fun tmps (x : Tmp × Value) => tmps.setIfInBounds x.1 x.2) tmps)[t]? = some (den e sv)
 | [], [], [], tm, tmps, _, _, _, h1, h2 => ⟨h1, h2⟩
 | t :: ts, sv :: svs, v :: vs, tm, tmps, hl, hl2, hv, h1, h2 => by
   have hv0 : v = den e sv := by
    have := hv 0 sv rfl;simpa using this
   refine foldl_setPs (ps := ts) (svs := svs) (vs := vs) (by simpa using hl) (by simpa using hl2) (fun k x hk => by simpa using hv (k + 1) x (by simpa using hk)) (by simpa using h1) (fun k x hk hj => ?_)
   rcases getElem?_set' hk with ⟨rfl, rfl, hlt⟩ | ⟨hne, hk⟩
   · rw [Array.getElem?_setIfInBounds_self_of_lt (by rw [h1]; exact hlt), hv0]
   · rw [Array.getElem?_setIfInBounds_ne (Ne.symm hne)]
     exact h2 k x hk hj
 | [], _ :: _, vs, tm, tmps, hl, hl2, _, _, _ => by simp at hl2; simp [hl2] at hl
 | [], [], _ :: _, tm, tmps, hl, _, _, _, _ => by simp at hl
 | _ :: _, [], vs, tm, tmps, hl, hl2, _, _, _ => by simp at hl hl2; omega
 | _ :: _, _ :: _, [], tm, tmps, hl, _, _, _, _ => by simp at hl
theorem isX_eq : ∀ {x y : SX}, isX x y = true -> x = y
 | .norm, .norm, _ => rfl
 | .ret, .ret, _ => rfl
 | .exit i, .exit j, h => by rw [Nat.eq_of_beq_eq_true h]
 | .norm, .ret, h | .norm, .exit _, h | .ret, .norm, h | .ret, .exit _, h | .exit _, .norm, h | .exit _, .ret, h => by simp [isX] at h
theorem allJ_look {α : Type} {F : SX -> α -> Prop} {x : SX} {v : α} : ∀ {l : List (SX × α)}, lookX x l = some v -> allJ F l -> F x v
 | (y, u) :: r, h, hF => by
   simp only [lookX] at h
   have hyr : F y u /\ allJ F r := by
    cases r with
    | nil => exact ⟨hF, trivial⟩
    | cons z r => exact hF
   split at h
   · rename_i hb
     simp only [Option.some.injEq] at h;rw [isX_eq hb, <- h];exact hyr.1
   · exact allJ_look h hyr.2
theorem setPs_len : ∀ {ps : List Tmp} {svs tm : List SV}, (setPs ps svs tm).length = tm.length
 | t :: ts, v :: vs, tm => by simp [setPs, setPs_len]
 | [], _, _ => by simp [setPs]
 | _ :: _, [], _ => by simp [setPs]
theorem psOk_len : ∀ {l : List PSh} {vs : List Value}, psOk l vs = true -> vs.length = l.length
 | [], [], _ => rfl
 | .sh s :: r, v :: vs, h => by
   simp only [psOk, Bool.and_eq_true] at h;simp [psOk_len h.2]
 | .agg l :: r, v :: vs, h => by
   cases v <;> simp only [psOk, Bool.false_eq_true, Bool.and_eq_true] at h
   simp [psOk_len h.2]
 | [], _ :: _, h => by simp [psOk] at h
 | .sh _ :: _, [], h => by simp [psOk] at h
 | .agg _ :: _, [], h => by simp [psOk] at h
theorem outS_satA {e e1 eT : Env} {s' T : St} {S1tm : List SV} {H1 : List Ent} {a : Act} {I2 : Mem} {bd : Nat} (hA1 : a.tmps.size = S1tm.length /\ ∀ (t : Nat) (sv : SV), S1tm[t]? = some sv -> isJunk sv = false -> a.tmps[t]? = some (den e1 sv))
 (hn1 : ∀ (id : Nat) (x : Ent) (b : Nat), H1[id]? = some x -> x.name = some b -> e1.blk id = b /\ e1.nil id = false)
 (hn2 : ∀ (id : Nat) (x : Ent) (b : Nat), T.H[id]? = some x -> x.name = some b -> eT.blk id = b /\ eT.nil id = false) (hq : nameEq H1 T.H) (ht : T.tm = S1tm.map (stabV H1 T.H))
 (hd : a.defers = s'.marks.map (mark e)) (hm : ∀ m, m ∈ s'.marks -> e1.blk m = e.blk m) (hbd : e1.blk s'.H.length = bd)
 (hok : (s'.marks ++ [s'.H.length]).all (okN H1 T.H) = true) : SatA eT (outS s' T I2) { a with defers := [{ target := .collected bd, args := #[] }] ++ a.defers } := by
 have blk : ∀ m, okN H1 T.H m = true -> eT.blk m = e1.blk m := by
  intro m ho;unfold okN at ho
  split at ho
  · rename_i o1 b1 o2 b2 h1 h2
    rw [(hn1 m _ b1 h1 rfl).1, (hn2 m _ b2 h2 rfl).1, nameEq_get hq h1 h2 rfl rfl]
  · cases ho
 have hok' := List.all_eq_true.1 hok
 refine ⟨by simp [outS, ht, hA1.1], fun t sv hts hj => ?_, ?_⟩
 · simp only [outS, ht, List.getElem?_map, Option.map_eq_some_iff] at hts
   obtain ⟨sv0, h0, rfl⟩ := hts;obtain ⟨d1, d2⟩ := stabV_den (e := e1) (e' := eT) hq hn1 hn2 hj;rw [d1] at hj ⊢;rw [d2];exact hA1.2 t sv0 h0 hj
 · simp only [outS, List.map_cons, hd, List.cons_append, List.nil_append]
   congr 1
   · simp only [mark]
     rw [blk _ (hok' _ (by simp)), hbd]
   · apply List.map_congr_left
     intro m hmm;simp only [mark]
     rw [blk m (hok' m (by simp [hmm])), hm m hmm]
section
variable {P : Program} {c : Ctx} {e : Env} {s : St} {w : World} {a : Act}
theorem renE_id (x : Ent) : renE (fun i => i) x = x := by
 obtain ⟨o, nm⟩ := x
 cases o <;> simp [renE, renFL_id]
theorem SatX.wholeRow (hS : SatX c e s w) (hA : SatA e s a) {t id len cap sz : Nat} {cs : List SV} {xs : List Value} {el el' : TypeId} {nm : Option Nat} (ht : s.tm[t]? = some (.xsl id 0 len cap)) (hid : s.H[id]? = some ⟨.cells cs el', nm⟩)
 (hxs : mapV cs = some xs) (hno : noRsl id s = true) (hlc : len = cap) (hel : el = el') (hlen : xs.length = len * sz) (hsz : 0 < sz) (hle : len <= 16777216) :
 SatX c (e.upd id (e.blk id) len false) { s with tm := s.tm.set t (.rsl id len), H := s.H.set id ⟨.row xs sz el, none⟩ } w /\ SatA (e.upd id (e.blk id) len false) { s with tm := s.tm.set t (.rsl id len), H := s.H.set id ⟨.row xs sz el, none⟩ } a := by
 subst hlc hel;obtain ⟨⟨hnil, cur, hb, h2, h3⟩, hfr⟩ := hS.owned id _ hid rfl
 have hB : ∀ i, (e.upd id (e.blk id) len false).blk i = e.blk i := fun i => by
  by_cases h : i = id
  · subst h; exact upd_eq.1
  · exact (upd_ne h).1.symm
 have hN : ∀ i, (e.upd id (e.blk id) len false).nil i = e.nil i := fun i => by
  by_cases h : i = id
  · subst h; exact upd_eq.2.2.trans hnil.symm
  · exact (upd_ne h).2.2.symm
 have hC : ∀ i, i ≠ id -> (e.upd id (e.blk id) len false).cap i = e.cap i := fun i h => (upd_ne h).2.1.symm;simp only [noRsl, Bool.and_eq_true, List.all_eq_true, Bool.not_eq_true'] at hno
 have hd : ∀ {x : SV}, rslR id x = false -> den (e.upd id (e.blk id) len false) x = den e x := fun {x} hx => by
  have := (den_ren (e1 := e.upd id (e.blk id) len false) (e := e) (f := fun i => i) (x := x) fun i _ => ⟨hB i, hN i, fun hr => hC i (fun h => by rw [h, hx] at hr; cases hr)⟩).1
  rwa [renF_id] at this
 obtain ⟨v1, v2⟩ := mapV_den (e := e) hxs
 have hcur : cur.toList = xs := by
  have hl : xs.length = cs.length := by rw [<- v1]; simp
  apply List.ext_getElem?;intro k;rw [Array.getElem?_toList]
  by_cases hk : k < cs.length
  · have hkk := List.getElem?_eq_getElem hk
    rw [h3 k _ hkk (v2 _ (List.mem_of_getElem? hkk)), <- v1];simp [hkk]
  · rw [Array.getElem?_eq_none (by omega), List.getElem?_eq_none (by omega)]
 have hcs : cur.size = len * sz := by rw [<- hlen, <- hcur]; simp
 have key : ∀ {j : Nat} {y : Ent}, (s.H.set id ⟨.row xs sz el, none⟩)[j]? = some y -> alive y.obj = true -> ∃ y0, s.H[j]? = some y0 /\ alive y0.obj = true := by
  intro j y hy hal
  rcases getElem?_set' hy with ⟨rfl, rfl, _⟩ | ⟨_, hy⟩
  · exact ⟨_, hid, rfl⟩
  · exact ⟨y, hy, hal⟩
 refine ⟨⟨⟨hS.same, hS.size, hS.I, hS.hf, hS.old, fun j y hy hal => ?_, fun i j y z hy hz h1 h2 n1 n2 hij => ?_, fun j y b hy hbn => ?_⟩, hS.gIn, hS.gI, fun j y hy hal hnl => ?_⟩, ?_⟩
 · rcases getElem?_set' hy with ⟨rfl, rfl, _⟩ | ⟨hne, hy⟩
   · refine ⟨⟨hsz, ⟨len, hlen⟩, .inr ⟨(hN j).trans hnil, cur, (0, 0), by rw [hB]; exact hb, thaw_zero _, by rw [upd_eq.2.1]; exact hcs, by rw [upd_eq.2.1]; simp only [maxLen]; omega, by rw [hcs, hlen]; exact Nat.le_refl _, ?_⟩⟩, fun _ => ?_⟩
     · rw [hcur, List.take_length]
     · rw [hB]; exact hfr hnil
   · obtain ⟨g1, g2⟩ := hS.owned j y hy hal
     refine ⟨?_, fun hnl => by rw [hB]; exact g2 ((hN j) ▸ hnl)⟩
     have := holds_ren (e1 := e.upd id (e.blk id) len false) (f := fun i => i) (h' := fun b => w.heap[b]?) (x := y) (hB j) (hN j) (hC j hne) (fun _ o ho => ho) (fun sv i ⟨cs', el', k, hx, hk⟩ _ => ⟨hB i, hN i, fun hr => hC i (fun h => by
      have h4 := hno.2 y (List.mem_of_getElem? hy);rw [hx] at h4;have h5 := List.all_eq_true.1 h4 sv (List.mem_of_getElem? hk);rw [h] at hr
      rw [hr] at h5; cases h5)⟩) g1
     rwa [renE_id] at this
 · obtain ⟨y0, g1, g2⟩ := key hy h1
   obtain ⟨z0, g3, g4⟩ := key hz h2;rw [hB, hB];exact hS.apart i j y0 z0 g1 g3 g2 g4 ((hN i) ▸ n1) ((hN j) ▸ n2) hij
 · rcases getElem?_set' hy with ⟨rfl, rfl, _⟩ | ⟨_, hy⟩
   · cases hbn
   · rw [hB, hN]; exact hS.names j y b hy hbn
 · obtain ⟨y0, g1, g2⟩ := key hy hal
   rw [hB];exact hS.gOwn j y0 g1 g2 ((hN j) ▸ hnl)
 · refine ⟨by simpa using hA.size, fun k y hk hj => ?_, ?_⟩
   · rcases getElem?_set' hk with ⟨rfl, rfl, _⟩ | ⟨_, hk⟩
     · rw [hA.tm _ _ ht rfl]
       simp only [den, upd_eq, Bool.false_eq_true, if_false]
     · rw [hd (hno.1 y (List.mem_of_getElem? hk))]
       exact hA.tm k y hk hj
   · rw [hA.defers]
     apply List.map_congr_left;intro m _;simp only [mark, hB]
theorem preS_sound : ∀ {l : List (Nat × Nat × TypeId)} {s : St} {e : Env} {a : Act} {w : World} {K : St -> Prop}, preS l s K -> SatX c e s w -> SatA e s a ->
 ∃ e' s', K s' /\ SatX c e' s' w /\ SatA e' s' a /\ s'.I = s.I /\ s'.tm.length = s.tm.length
 | [], s, e, a, w, K, h, hS, hA => ⟨e, s, h, hS, hA, rfl, rfl⟩
 | (t, sz, el) :: r, s, e, a, w, K, h, hS, hA => by
   simp only [preS] at h
   split at h
   · rename_i ht
     split at h
     · rename_i hc
       simp only [Bool.and_eq_true, Nat.blt_eq] at hc
       obtain ⟨h1, h2⟩ := hS.toSat.add (obj := .row [] sz el) (b := 0) (cp := 0) (nl := true) hA hc.1 (fun _ _ => rfl) (Nat.le_refl _) (Same.refl _) (fun h => by cases h)
        ⟨hc.2, ⟨0, by simp⟩, .inl ⟨upd_eq.2.2, upd_eq.2.1, rfl⟩⟩
       have h3 : SatA (e.upd s.H.length 0 0 true) { addE s (.row [] sz el) with tm := s.tm.set t (.rsl s.H.length 0) } a := by
        refine ⟨by simpa using hA.size, fun k y hk hj => ?_, h2.defers⟩
        rcases getElem?_set' hk with ⟨rfl, rfl, hlt⟩ | ⟨hne, hk⟩
        · rw [h2.tm _ _ ht rfl]
          simp [den, upd_eq]
        · exact h2.tm k y hk hj
       obtain ⟨e', s', g1, g2, g3, g4, g5⟩ := preS_sound h ((hS.step h1 (evo_add (fun _ _ => rfl) (Nat.le_refl _) (fun h => by cases h))).lit _) h3
       exact ⟨e', s', g1, g2, g3, g4, g5.trans (by simp)⟩
     · exact h.elim
   · exact preS_sound h hS hA
   · rename_i id len cap ht
     split at h
     · rename_i cs el' nm hid
       split at h
       · rename_i xs hxs
         split at h
         · rename_i hc
           simp only [Bool.and_eq_true] at hc;obtain ⟨hno, hlc, hel, hlen, hsz, hle⟩ := hc
           obtain ⟨h1, h2⟩ := hS.wholeRow hA ht hid hxs hno (Nat.eq_of_beq_eq_true hlc) (Nat.eq_of_beq_eq_true hel) (Nat.eq_of_beq_eq_true hlen) (by simpa using hsz) (by simpa using hle)
           obtain ⟨e', s', g1, g2, g3, g4, g5⟩ := preS_sound h h1 h2
           exact ⟨e', s', g1, g2, g3, g4, g5.trans (by simp)⟩
         · exact h.elim
       · exact h.elim
     · exact h.elim
   · rename_i id off ht
     split at h
     · rename_i cs el' nm hid
       split at h
       · rename_i hcs
         split at h
         · rename_i hc
           simp only [Bool.and_eq_true, Nat.blt_eq] at hc
           obtain ⟨h1, h2⟩ := hS.toSat.add (obj := .row [] (sz % 1000) el) (b := 0) (cp := 0) (nl := true) hA hc.1 (fun _ _ => rfl) (Nat.le_refl _) (Same.refl _) (fun h => by cases h)
            ⟨hc.2, ⟨0, by simp⟩, .inl ⟨upd_eq.2.2, upd_eq.2.1, rfl⟩⟩
           have hX := hS.step h1 (evo_add (fun _ _ => rfl) (Nat.le_refl _) (fun h => by cases h))
           have hlt := (List.getElem?_eq_some_iff.1 hid).1
           have hid' : (s.H ++ [⟨.row [] (sz % 1000) el, none⟩])[id]? = some ⟨.cells cs el', nm⟩ := by rw [List.getElem?_append_left hlt]; exact hid
           have hold := (h1.owned id _ hid' rfl).1
           have hX2 := hX.setE hid' rfl (x' := ⟨.cells (cs.set (off + sz / 1000) (.rsl s.H.length 0)) el', nm⟩) rfl (by
            obtain ⟨g1, cc, g2, g3, g4⟩ := hold
            refine ⟨g1, cc, g2, by simpa using g3, fun k y hk hj => ?_⟩
            rcases getElem?_set' hk with ⟨rfl, rfl, _⟩ | ⟨_, hk⟩
            · rw [g4 _ _ hcs rfl]
              simp [den, upd_eq]
            · exact g4 k y hk hj)
           obtain ⟨e', s', g1, g2, g3, g4, g5⟩ := preS_sound h hX2 ⟨h2.size, h2.tm, h2.defers⟩;exact ⟨e', s', g1, g2, g3, g4, g5⟩
         · exact h.elim
       · exact preS_sound h hS hA
       · exact h.elim
     · exact h.elim
   · exact h.elim
end
theorem outG_satA {e : Env} {s : St} {G : Mem} {a : Act} (h : SatA e s a) : SatA e { s with G := G } a := ⟨h.size, h.tm, h.defers⟩
theorem seRR_sound {P : Program} {g : Operand} {ps : Array Tmp} {assign body : Code} (ha : SoundAt P assign) (hb : SoundAt P body) {A : Ann} {R : RF} {R0 : Value -> Mem -> Prop} {R1 : Value -> Mem -> Mem -> Prop} {c : Ctx} {s : St} {K : SX -> St -> Prop} {Q : Exit -> Act -> World -> Prop} {e : Env} {a : Act} {w : World}
 (h : seRR P R R0 R1 g ps (se P { A with rd := true } assign) (se P { A with rd := true } body) s K)
 (hn : ∀ (x : SX) (e' : Env) (s' : St) (a' : Act) (w' : World), K x s' -> SatX c e' s' w' -> SatA e' s' a' -> s.I.le s'.I -> s'.tm.length = s.tm.length -> Q (toX x) a' w')
 (hS : SatX c e s w) (hA : SatA e s a) : (Code.rangeFunc g ps assign body).wpIn (Fr none) 0 P Q a w := by
 simp only [seRR] at h;obtain ⟨e, s, h, hS, hA, hIp, hlp⟩ := preS_sound h hS hA
 have hn : ∀ (x : SX) (e' : Env) (s' : St) (a' : Act) (w' : World), K x s' -> SatX c e' s' w' -> SatA e' s' a' -> s.I.le s'.I -> s'.tm.length = s.tm.length -> Q (toX x) a' w' :=
  fun x e' s' a' w' g1 g2 g3 g4 g5 => hn x e' s' a' w' g1 g2 g3 (hIp ▸ g4) (g5.trans hlp)
 obtain ⟨s', h, hX, hA', hIg, hlen⟩ := give_sound h hS hA
 have hle : s.I.le s'.I := by rw [hIg]; exact Mem.le_refl _
 split at h
 case h_2 => exact h.elim
 rename_i fv hfv
 split at h
 case isFalse => exact h.elim
 rename_i hpl;have h := nameA_sound e.blk (i := 0) h;have hXn := hX.nameAll;generalize hHn : nameAL e.blk 0 s'.H = H at h hXn
 have hHl : H.length = s'.H.length := by rw [<- hHn, nameAL_len]
 have hAn : SatA e { s' with H := H } a := ⟨hA'.size, hA'.tm, hA'.defers⟩
 refine wpIn_rangeFunc fun fn _ => ?_
 let rc : Loop := { state := .ready, pending := none, fn := fn, tmps := a.tmps, params := ps, assign := assign, body := body, defers := w.heap.size }
 have h := h w.heap.size (w.heap.size + 1) rc
 split at h
 case isFalse => exact h.elim
 rename_i hwf;simp only [Bool.and_eq_true] at hwf;obtain ⟨hgiv, hR0, hps, hin, hround, hnorm, hjump⟩ := h;obtain ⟨hX1, hA1⟩ := hXn.pushN hAn hwf.1 (o := .deferred (some []));obtain ⟨hX2, hA2⟩ := hX1.pushN hA1 hwf.2 (o := .loop rc);have hrec : recS rc .ready none = .loop rc := rfl
 have hS1 : SatX { c with hf := join s'.G c.hf } ((e.upd H.length w.heap.size 0 false).upd (H.length + 1) (w.heap.size + 1) 0 false) { rstate { s' with H := H } w.heap.size (w.heap.size + 1) (recS rc .ready none) with G := Mem.emp } ((w.alloc (.deferred (some []))).alloc (.loop rc)) := by
  have := (hX2.marked [] (some (H.length + 1))).toHf;simpa [rstate, hrec] using this
 have hA1' : SatA ((e.upd H.length w.heap.size 0 false).upd (H.length + 1) (w.heap.size + 1) 0 false) { rstate { s' with H := H } w.heap.size (w.heap.size + 1) (recS rc .ready none) with G := Mem.emp } { tmps := a.tmps, defers := [] } := by
  refine ⟨hA2.size, fun t sv ht hj => ?_, rfl⟩;have := hA2.tm t sv ht hj;simpa using this
 obtain ⟨S1, hS1d⟩ : ∃ S1 : St, ({ rstate { s' with H := H } w.heap.size (w.heap.size + 1) (recS rc .ready none) with G := Mem.emp } : St) = S1 := ⟨_, rfl⟩
 have hin : headR (pickNow S1 S1) R.ents S1 S1 (fun vals xss T => keepsN S1.H T.H (s'.H.length + 1) (recS rc .ready none) /\ R.inv 0 vals xss s'.I Mem.emp) := by rw [<- hS1d]; exact hin
 have hround : (∀ (k : Nat) (I' : Mem), k < R.n -> s'.I.le I' -> headR pickAll R.ents S1 { S1 with I := I' } fun vals xss T => R.inv k vals xss I' Mem.emp ->
  ∀ I2 : Mem, I'.le I2 -> allPs R.ps fun vs svs => R.enc k vs.toArray I2 ->
   se P { A with rd := true } assign { T with tm := setPs ps.toList svs T.tm, I := I2 } fun x s2 => match x, s2.H[s'.H.length + 1]? with
    | .norm, some ⟨.raw o, nm⟩ => o = recS rc .ready none /\ nm = some (w.heap.size + 1) /\ se P { A with rd := true } body { s2 with H := s2.H.set (s'.H.length + 1) ⟨.raw (recS rc .busy none), nm⟩ } fun x s3 => match s3.H[s'.H.length + 1]? with
       | some ⟨.raw o, nm⟩ => o = recS rc .busy none /\ nm = some (w.heap.size + 1) /\ s3.G = Mem.emp /\ if eqNats s3.marks [] then (match x with
          | .norm => headR (pickNow S1 { s3 with H := s3.H.set (s'.H.length + 1) ⟨.raw (recS rc .ready none), nm⟩ }) R.ents S1
             { s3 with H := s3.H.set (s'.H.length + 1) ⟨.raw (recS rc .ready none), nm⟩ } fun vals xss T => keepsN S1.H T.H (s'.H.length + 1) (recS rc .ready none) /\ R.inv (k + 1) vals xss s3.I Mem.emp
          | x => match lookX x R.jumps with
            | some (ents, inv) => headR (pickNow { rstate { s' with H := H } w.heap.size (w.heap.size + 1) (recS rc .done (some (codeX x))) with G := Mem.emp } { s3 with H := s3.H.set (s'.H.length + 1) ⟨.raw (recS rc .done (some (codeX x))), nm⟩ }) ents { rstate { s' with H := H } w.heap.size (w.heap.size + 1) (recS rc .done (some (codeX x))) with G := Mem.emp }
              { s3 with H := s3.H.set (s'.H.length + 1) ⟨.raw (recS rc .done (some (codeX x))), nm⟩ } fun vals xss T => keepsN (rstate { s' with H := H } w.heap.size (w.heap.size + 1) (recS rc .done (some (codeX x)))).H T.H (s'.H.length + 1) (recS rc .done (some (codeX x))) /\ inv vals xss s3.I Mem.emp
            | none => False) else False
       | _ => False
    | _, _ => False) := by rw [<- hS1d]; exact hround
 have hnorm : (∀ I' : Mem, s'.I.le I' -> headR pickAll R.ents S1 { S1 with I := I' } fun vals xss T => R.inv R.n vals xss I' Mem.emp ->
  ∀ I2 G2 : Mem, I'.le I2 -> R1 fv I2 G2 -> if (s'.marks ++ [s'.H.length]).all (okN S1.H T.H) then K .norm { outS s' T I2 with G := G2 } else False) := by rw [<- hS1d]; exact hnorm
 rw [hS1d] at hS1 hA1'
 have hS1H : S1.H = H ++ [⟨.raw (.deferred (some [])), some w.heap.size⟩, ⟨.raw (recS rc .ready none), some (w.heap.size + 1)⟩] := by rw [<- hS1d]; rfl
 have hS1I : S1.I = s'.I := by rw [<- hS1d]; rfl
 have hS1m : S1.marks = [] := by rw [<- hS1d]; rfl
 have hS1t : S1.tm = s'.tm := by rw [<- hS1d]; rfl
 generalize he1 : (e.upd H.length w.heap.size 0 false).upd (H.length + 1) (w.heap.size + 1) 0 false = e1 at hS1 hA1';generalize hw1 : (w.alloc (.deferred (some []))).alloc (.loop rc) = w1 at hS1
 let Cnd : Nat -> St -> Prop := fun k T => if k < R.n then
  (∀ I2 : Mem, T.I.le I2 -> allPs R.ps fun vs svs => R.enc k vs.toArray I2 ->
    se P { A with rd := true } assign { T with tm := setPs ps.toList svs T.tm, I := I2 } fun x s2 => match x, s2.H[s'.H.length + 1]? with
     | .norm, some ⟨.raw o, nm⟩ => o = recS rc .ready none /\ nm = some (w.heap.size + 1) /\ se P { A with rd := true } body { s2 with H := s2.H.set (s'.H.length + 1) ⟨.raw (recS rc .busy none), nm⟩ } fun x s3 => match s3.H[s'.H.length + 1]? with
        | some ⟨.raw o, nm⟩ => o = recS rc .busy none /\ nm = some (w.heap.size + 1) /\ s3.G = Mem.emp /\ if eqNats s3.marks [] then (match x with
           | .norm => headR (pickNow S1 { s3 with H := s3.H.set (s'.H.length + 1) ⟨.raw (recS rc .ready none), nm⟩ }) R.ents S1
              { s3 with H := s3.H.set (s'.H.length + 1) ⟨.raw (recS rc .ready none), nm⟩ } fun vals xss T => keepsN S1.H T.H (s'.H.length + 1) (recS rc .ready none) /\ R.inv (k + 1) vals xss s3.I Mem.emp
           | x => match lookX x R.jumps with
             | some (ents, inv) => headR (pickNow { rstate { s' with H := H } w.heap.size (w.heap.size + 1) (recS rc .done (some (codeX x))) with G := Mem.emp } { s3 with H := s3.H.set (s'.H.length + 1) ⟨.raw (recS rc .done (some (codeX x))), nm⟩ }) ents { rstate { s' with H := H } w.heap.size (w.heap.size + 1) (recS rc .done (some (codeX x))) with G := Mem.emp }
               { s3 with H := s3.H.set (s'.H.length + 1) ⟨.raw (recS rc .done (some (codeX x))), nm⟩ } fun vals xss T => keepsN (rstate { s' with H := H } w.heap.size (w.heap.size + 1) (recS rc .done (some (codeX x)))).H T.H (s'.H.length + 1) (recS rc .done (some (codeX x))) /\ inv vals xss s3.I Mem.emp
             | none => False) else False
        | _ => False
     | _, _ => False)
  else (∀ I2 G2 : Mem, T.I.le I2 -> R1 fv I2 G2 -> if (s'.marks ++ [s'.H.length]).all (okN S1.H T.H) then K .norm { outS s' T I2 with G := G2 } else False)
 have hS1G : S1.G = Mem.emp := by rw [<- hS1d]
 have mk : ∀ {k : Nat} {now : St}, now.G = Mem.emp -> k <= R.n -> now.marks = [] -> now.tm.length = s'.tm.length -> s'.I.le now.I ->
  (headR (pickNow S1 now) R.ents S1 now fun vals xss T => keepsN S1.H T.H (s'.H.length + 1) (recS rc .ready none) /\ R.inv k vals xss now.I Mem.emp) ->
  ∃ T, Cnd k T /\ keepsN S1.H T.H (s'.H.length + 1) (recS rc .ready none) /\ T.I = now.I /\ T.G = now.G /\ T.tm = S1.tm.map (stabV S1.H T.H) /\ T.marks = now.marks /\ ∀ {c : Ctx} {e : Env} {w : World}, SatX c e now w -> SatX c e T w := by
  intro k now hg hk hm hl hI hh
  by_cases hlt : k < R.n
  · obtain ⟨vals, xss, T, ⟨f1, f2⟩, g2, h3, h4, h5, hmm, h6⟩ := headR_both (s1 := S1) (now := now) (now' := { S1 with I := now.I }) rfl (hS1G.trans hg.symm) (hm.trans hS1m.symm) (by rw [hl, hS1t]) hh (hround k now.I hlt hI)
    refine ⟨T, ?_, f1, h3, h4, h5, hmm, h6⟩;simp only [Cnd, if_pos hlt];intro I2 hle2;exact g2 f2 I2 (h3 ▸ hle2)
  · have hkn : k = R.n := by omega
    subst hkn
    obtain ⟨vals, xss, T, ⟨f1, f2⟩, g2, h3, h4, h5, hmm, h6⟩ := headR_both (s1 := S1) (now := now) (now' := { S1 with I := now.I }) rfl (hS1G.trans hg.symm) (hm.trans hS1m.symm) (by rw [hl, hS1t]) hh (hnorm now.I hI)
    refine ⟨T, ?_, f1, h3, h4, h5, hmm, h6⟩;simp only [Cnd, if_neg hlt];intro I2 G2 hle2 hR1;exact g2 f2 I2 G2 (h3 ▸ hle2) hR1
 let Sx : SX -> St := fun x => { rstate { s' with H := H } w.heap.size (w.heap.size + 1) (recS rc .done (some (codeX x))) with G := Mem.emp }
 let J : Nat -> Mem -> Mem -> Prop := fun k I' Gx => ∃ eT T, T.I.le I' /\ s'.I.le T.I /\ T.G = Mem.emp /\ OwnX eT T Gx /\ T.marks = [] /\ T.tm = S1.tm.map (stabV S1.H T.H) /\ keepsN S1.H T.H (s'.H.length + 1) (recS rc .ready none) /\ Cnd k T
 let D : Mem -> Mem -> Prop := fun I' Gx => ∃ x eT T, (match x with | .norm => False | _ => True) /\ T.I.le I' /\ s'.I.le T.I /\ T.G = Mem.emp /\ OwnX eT T Gx /\ T.tm = S1.tm.map (stabV (Sx x).H T.H) /\ keepsN (Sx x).H T.H (s'.H.length + 1) (recS rc .done (some (codeX x))) /\
  ∀ I2 G2 : Mem, T.I.le I2 -> if (s'.marks ++ [s'.H.length]).all (okN (Sx x).H T.H) then K x { outS s' T I2 with G := G2 } else False
 obtain ⟨T0, hc0, hk0, hI0, hG0, ht0, hm0, hs0⟩ := mk (k := 0) (now := S1) hS1G (Nat.zero_le _) hS1m (by rw [hS1t]) (by rw [hS1I]; exact Mem.le_refl _) (by rw [hS1I]; exact hin)
 have hST0 := hs0 hS1;have hT0G : T0.G = Mem.emp := hG0.trans hS1G
 have hGW : ∀ {b : Nat}, s'.G b ≠ none -> b < w.heap.size := fun {b} hb => by
  obtain ⟨o, ho⟩ := Option.ne_none_iff_exists'.1 hb;exact Mem.inW_lt hX.gIn ho
 have hSTf : SatX c e1 { T0 with G := s'.G } w1 := hST0.ofHf fun b hb => ⟨by rw [hI0, hS1I]; exact (hX.gI b hb).1, (hX.gI b hb).2⟩
 have hap0 : (ownM e1 T0 w1).apart s'.G := fun b => by
  by_cases hb : ownM e1 T0 w1 b = none
  · exact .inl hb
  · rcases ownM_dom hb with ⟨id, x, hx, hal, hn', rfl⟩ | hg
    · exact .inr (hSTf.gOwn id x hx hal hn')
    · rw [hT0G] at hg; exact absurd rfl hg
 have hful : ∀ {b : Nat}, ownM e1 { T0 with G := s'.G } w1 b = none -> join (ownM e1 T0 w1) s'.G b = none := fun {b} hb => by
  have hg : s'.G b = none := by
   cases hg : s'.G b with
   | none => rfl
   | some o =>
     have hq := hSTf.gIn b o hg
     have : ownM e1 { T0 with G := s'.G } w1 b = some o := by
      unfold ownM
      rw [if_pos (.inr (by show s'.G b ≠ none; rw [hg]; simp))]
      exact hq
     rw [this] at hb; cases hb
  have ho : ownM e1 T0 w1 b = none := by
   by_cases hq : ownM e1 T0 w1 b = none
   · exact hq
   · rcases ownM_dom hq with ⟨id, x, hx, hal, hn', rfl⟩ | hg'
     · have h1 : ownM e1 T0 w1 (e1.blk id) = w1.heap[e1.blk id]? := ownM_own hx hal hn'
       have h2 : ownM e1 { T0 with G := s'.G } w1 (e1.blk id) = w1.heap[e1.blk id]? := ownM_own (T := { T0 with G := s'.G }) hx hal hn'
       rw [h1, <- h2]; exact hb
     · rw [hT0G] at hg'; exact absurd rfl hg'
  rw [join_none ho]; exact hg
 have hS1n : ∀ (id : Nat) (x : Ent) (b : Nat), S1.H[id]? = some x -> x.name = some b -> e1.blk id = b /\ e1.nil id = false := hS1.names
 have hnr : S1.H[s'.H.length + 1]? = some ⟨.raw (recS rc .ready none), some (w.heap.size + 1)⟩ := by
  rw [hS1H, <- hHl, List.getElem?_append_right (by omega)]
  simp
 have hnd : S1.H[s'.H.length]? = some ⟨.raw (.deferred (some [])), some w.heap.size⟩ := by
  rw [hS1H, <- hHl, List.getElem?_append_right (Nat.le_refl _)]
  simp
 have hround2 : ∀ k I' Gk args, k < R.n -> T0.I.le I' -> J k I' Gk -> R.enc k args I' -> CtH P (.func (.yield (w.heap.size + 1)) #[] #[]) args I' Gk fun v I2 G2 => (v = .bool true /\ J (k + 1) I2 G2) \/ (v = .bool false /\ D I2 G2) := by
  intro k I' Gk args hk hle0 ⟨eT, T, hTI, hTs, hTg, hO, hTm, hTt, hTk, hTc⟩ henc W hI hG hap;have XT := hO.satX hG hI hap;obtain ⟨b, hTn⟩ := keepsN_get hTk;have hb : w.heap.size + 1 = b := nameEq_get hTk.1 hnr hTn rfl rfl;subst hb;have hblk := (hO.names _ _ _ hTn rfl).1;have hcell := (XT.setRaw (o' := .deferred none) hTn).1;rw [hblk] at hcell;simp only [Cnd, if_pos hk] at hTc;have hpsk := hps k args I' henc;obtain ⟨svs, hsv, hsl, hsd⟩ := allPs_at (hTc I' hTI) hpsk
  have hse := hsv (by simpa using henc)
  have hal : args.toList.length = ps.toList.length := by rw [psOk_len hpsk]; exact Nat.eq_of_beq_eq_true hpl
  have hfold : (ps.zip args).foldl (fun tmps (x : Tmp × Value) => tmps.setIfInBounds x.1 x.2) a.tmps = (ps.toList.zip args.toList).foldl (fun tmps (x : Tmp × Value) => tmps.setIfInBounds x.1 x.2) a.tmps := by
   rw [<- Array.foldl_toList, Array.toList_zip]
  have hst := foldl_setPs (e := eT) (ps := ps.toList) (tm := T.tm) (tmps := a.tmps) hsl hal (hsd eT) (by rw [hTt, List.length_map, hS1t]; exact hA'.size) (fun t sv ht hj => by
   rw [hTt, List.getElem?_map, Option.map_eq_some_iff] at ht;obtain ⟨sv0, h0, rfl⟩ := ht;obtain ⟨d1, d2⟩ := stabV_den (e := e1) (e' := eT) hTk.1 hS1n hO.names hj;rw [d1] at hj ⊢;rw [d2];exact hA1'.tm t sv0 h0 hj)
  unfold CallV
  rw [run_semV_yield, run_yield hcell (by simpa using hal)]
  show RoundIn Fence.wide 0 P (w.heap.size + 1) fn _ assign body W _
  refine roundIn_of_wpIn trivial ?_
  have hXp : SatX (ctxOf W I' Gk) eT { T with tm := setPs ps.toList svs T.tm, I := I' } W := XT.less
  refine ha (A := { A with rd := true }) (r := some (w.heap.size + 1)) (c := ctxOf W I' Gk) (e := eT) hse (fun x e2 s2 a2 w2 hK2 hX2 hA2 hle2 hlen2 => ?_) hXp ⟨by rw [hfold]; exact hst.1, by rw [hfold]; exact hst.2, by simp [hTm]⟩ rfl
  split at hK2
  case h_2 => exact hK2.elim
  rename_i o nm hH2;obtain ⟨rfl, rfl, hse2⟩ := hK2;obtain ⟨hc2, hXb⟩ := hX2.setRaw (o' := recS rc .busy none) hH2;have hblk2 := (hX2.names _ _ _ hH2 rfl).1;rw [hblk2] at hc2 hXb;refine ⟨_, run_beginRound hc2 rfl, ?_⟩
  refine hb (A := { A with rd := true }) (r := some (w.heap.size + 1)) (c := ctxOf W I' Gk) (e := e2) hse2 (fun x e3 s3 a3 w3 hK3 hX3 hA3 hle3 hlen3 => ?_) hXb ⟨hA2.size, hA2.tm, hA2.defers⟩ rfl
  split at hK3
  case h_2 => exact hK3.elim
  rename_i o nm hH3;obtain ⟨rfl, rfl, hg3, hK3⟩ := hK3
  split at hK3
  case isFalse => exact hK3.elim
  rename_i hmk3;have hblk3 := (hX3.names _ _ _ hH3 rfl).1;have hI3 : I'.le s3.I := Mem.le_trans hle2 hle3
  have hl3 : s3.tm.length = s'.tm.length := by
   have q3 : s3.tm.length = s2.tm.length := hlen3;have q2 : s2.tm.length = (setPs ps.toList svs T.tm).length := hlen2;rw [q3, q2, setPs_len, hTt, List.length_map, hS1t]
  have jc : ∀ y : SX, (match y with | .norm => False | _ => True) -> (match lookX y R.jumps with
   | some (ents, inv) => headR (pickNow (Sx y) { s3 with H := s3.H.set (s'.H.length + 1) ⟨.raw (recS rc .done (some (codeX y))), some (w.heap.size + 1)⟩ }) ents (Sx y)
     { s3 with H := s3.H.set (s'.H.length + 1) ⟨.raw (recS rc .done (some (codeX y))), some (w.heap.size + 1)⟩ } fun vals xss T => keepsN (Sx y).H T.H (s'.H.length + 1) (recS rc .done (some (codeX y))) /\ inv vals xss s3.I Mem.emp
   | none => False) -> ∃ v w', (Instr.endRound (w.heap.size + 1) (some (codeX y))).run P w3 = .ok v w' /\ Ends I' Gk W (fun v I2 G2 => (v = .bool true /\ J (k + 1) I2 G2) \/ (v = .bool false /\ D I2 G2)) (.returned v) w' := by
   intro y hy hK
   split at hK
   case h_2 => exact hK.elim
   rename_i ents inv hlook;obtain ⟨hc3, hXr⟩ := hX3.setRaw (o' := recS rc .done (some (codeX y))) hH3;rw [hblk3] at hc3 hXr;have hj2 := allJ_look hlook hjump
   obtain ⟨vals, xss, T', ⟨f1, f2⟩, g2, h3, h4, h5, hmm, h6⟩ := headR_both (s1 := Sx y) (now := { s3 with H := s3.H.set (s'.H.length + 1) ⟨.raw (recS rc .done (some (codeX y))), some (w.heap.size + 1)⟩ }) (now' := { Sx y with I := s3.I }) rfl hg3.symm (eqNats_eq hmk3) hl3 hK (hj2 s3.I (Mem.le_trans hTs (Mem.le_trans hTI hI3)))
   have hXT' := h6 hXr;refine ⟨_, _, run_endRound (some (codeX y)) hc3, ?_⟩
   refine hXT'.ends (by rw [h3]; exact hI3) (.inr ⟨rfl, y, e3, T', hy, Mem.le_refl _, by rw [h3]; exact Mem.le_trans hTs (Mem.le_trans hTI hI3), h4.trans hg3, hXT'.ownX, by rw [h5, hS1t]; rfl, f1, fun I2 G2 hle => g2 f2 I2 G2 (h3 ▸ hle)⟩)
  cases x with
  | norm =>
    obtain ⟨hc3, hXr⟩ := hX3.setRaw (o' := recS rc .ready none) hH3;rw [hblk3] at hc3 hXr
    obtain ⟨T', hc', hk', hI', hG', ht', hm', hs'⟩ := mk (k := k + 1) (now := { s3 with H := s3.H.set (s'.H.length + 1) ⟨.raw (recS rc .ready none), some (w.heap.size + 1)⟩ }) hg3 hk (eqNats_eq hmk3) hl3 (Mem.le_trans hTs (Mem.le_trans hTI hI3)) hK3
    have hXT' := hs' hXr;refine ⟨_, _, run_endRound none hc3, ?_⟩
    refine hXT'.ends (by rw [hI']; exact hI3) (.inl ⟨rfl, e3, T', Mem.le_refl _, by rw [hI']; exact Mem.le_trans hTs (Mem.le_trans hTI hI3), hG'.trans hg3, hXT'.ownX, hm'.trans (eqNats_eq hmk3), ht', hk', hc'⟩)
  | ret => exact jc .ret trivial hK3
  | exit i => exact jc (.exit i) trivial hK3
 have hcall := hgiv.2 (.func (.yield (w.heap.size + 1)) #[] #[]) J D T0.I (ownM e1 T0 w1) s'.G (by rw [hI0, hS1I]; exact Mem.le_refl _)
  ⟨e1, T0, Mem.le_refl _, by rw [hI0, hS1I]; exact Mem.le_refl _, hT0G, hST0.ownX, hm0.trans hS1m, ht0, hk0, hc0⟩ hR0 hap0
  (fun k I1 I2 G ⟨eT, T, q1, q2⟩ hle12 => ⟨eT, T, Mem.le_trans q1 hle12, q2⟩) (fun I1 I2 G ⟨x, eT, T, q0, q1, q2⟩ hle12 => ⟨x, eT, T, q0, Mem.le_trans q1 hle12, q2⟩) hround2
 have hct := hcall w1 hST0.I (join_in ownM_in hSTf.gIn) (join_apart hST0.ownM_apart (fun b => by
  by_cases hb : s'.G b = none
  · exact .inr hb
  · exact .inl (hSTf.gI b hb).1))
 obtain ⟨f, args, hent⟩ := hgiv.1 (.func (.yield (w.heap.size + 1)) #[] #[]) w1;unfold CallV at hct;rw [hent] at hct;have hct : CallsIn Fence.wide 0 P f args w1 _ := hct
 have hevg : a.eval g = fv := by
  obtain ⟨f1, f2⟩ := valS_den (e := e) hfv;rw [ev_ok hA' g f2, f1]
 obtain ⟨d, w1', hd1, hd2⟩ : ∃ d w1', (Deferred.ofValue fv #[.func (.yield (w.heap.size + 1)) #[] #[]]).run P w1 = .ok d w1' /\ (invoke d.target d.args).run P w1' = .ok (.enter f args) w1 := by
  simp only [semV, Sem.run_bind] at hent
  cases hd : (Deferred.ofValue fv #[.func (.yield (w.heap.size + 1)) #[] #[]]).run P w1 with
  | ok d w1' => rw [hd] at hent; exact ⟨d, w1', rfl, hent⟩
  | halt x w' => rw [hd] at hent; cases hent
 have hres : (resolve a.eval (rangeCall g (w.heap.size + 1)) 0).run P w1 = .ok d w1' := by
  simp only [resolve, hevg];simpa [Act.eval] using hd1
 refine ⟨w.heap.size + 1, [{ target := .collected w.heap.size, args := #[] }], w1, d, w1', f, args, w1, ?_, hres, fun _ _ => trivial, hd2, (fun h => by cases h), ?_⟩
 · rw [<- hw1]
   exact run_enterLoop_outer fn a.tmps ps assign body
 · refine hct.mono fun en w3 hE => ?_
   obtain ⟨v, I2, G2, rfl, hle2, hI2, hG2, hap2, hsz, hsame, hold, hnew, hJD⟩ := hE
   have hmk : ∀ m, m ∈ s'.marks -> e1.blk m = e.blk m := by
    intro m hm;have hw0 := hwf.1;simp only [wfSt, Bool.and_eq_true, List.all_eq_true] at hw0
    have hlt : m < H.length := by simpa using hw0.2 m hm
    rw [<- he1, <- (upd_ne (by omega)).1, <- (upd_ne (by omega)).1]
   obtain ⟨Gc', Gr', hG2e, hap3, hJD⟩ := hJD
   rcases hJD with ⟨⟨eT, T, hTI, hTs, hTg, hO, hTm, hTt, hTk, hTc⟩, hR1⟩ | ⟨x, eT, T, hxn, hTI, hTs, hTg, hO, hTt, hTk, hTc⟩
   · have hO := hO.joinG hTg hap3
     rw [<- hG2e] at hO;have hXT := hSTf.calledX hI2 hG2 hap2 hsz hsame (fun b hb hq => hold b hb (hful hq)) (fun b hb hq => hnew b hb (hful hq)) hO;obtain ⟨b, hTn⟩ := keepsN_get hTk;have hb : w.heap.size + 1 = b := nameEq_get hTk.1 hnr hTn rfl rfl;subst hb;have hblk := (hO.names _ _ _ hTn rfl).1;obtain ⟨hcell, hXT2⟩ := hXT.setRaw (o' := recS rc .exhausted none) hTn;rw [hblk] at hcell hXT2
     have hend := run_endLoop (P := P) (l := w.heap.size + 1) hcell (by simp)
     simp only [Cnd, if_neg (Nat.lt_irrefl R.n)] at hTc;have hK := hTc I2 Gr' hTI hR1
     split at hK
     case isFalse => exact hK.elim
     rename_i hok;refine ⟨none, _, hend, ?_⟩;have hX4 := (hXT2.kill (s'.H.length + 1)).marked (s'.H.length :: s'.marks) s'.rnd;simp only [List.set_set] at hX4
     refine hn .norm eT { outS s' T I2 with G := Gr' } _ _ hK hX4 (outG_satA (outS_satA ⟨by rw [hS1t]; exact hA'.size, hA1'.tm⟩ hS1n hO.names hTk.1 hTt hA'.defers hmk (hS1n _ _ _ hnd rfl).1 hok)) (Mem.le_trans hle (Mem.le_trans hTs hTI)) ?_
     simp [outS, hTt, hS1t, hlen]
   · have hSxH : (Sx x).H = H ++ [⟨.raw (.deferred (some [])), some w.heap.size⟩, ⟨.raw (recS rc .done (some (codeX x))), some (w.heap.size + 1)⟩] := rfl
     have hSxn : ∀ (id : Nat) (y : Ent) (b : Nat), (Sx x).H[id]? = some y -> y.name = some b -> e1.blk id = b /\ e1.nil id = false := by
      intro id y b hy hyb;rw [hSxH] at hy
      by_cases hlt : id < H.length
      · refine hS1n id y b ?_ hyb
        rw [hS1H, List.getElem?_append_left hlt]
        rwa [List.getElem?_append_left hlt] at hy
      · rw [List.getElem?_append_right (by omega)] at hy
        rcases hk : id - H.length with _ | _ | k
        · rw [hk] at hy
          have hid : id = s'.H.length := by omega
          subst hid;simp only [List.getElem?_cons_zero, Option.some.injEq] at hy;subst hy;exact hS1n _ _ b hnd hyb
        · rw [hk] at hy
          have hid : id = s'.H.length + 1 := by omega
          subst hid;simp only [Nat.zero_add, List.getElem?_cons_succ, List.getElem?_cons_zero, Option.some.injEq] at hy;subst hy;exact hS1n _ _ b hnr hyb
        · rw [hk] at hy
          simp at hy
     have hnrx : (Sx x).H[s'.H.length + 1]? = some ⟨.raw (recS rc .done (some (codeX x))), some (w.heap.size + 1)⟩ := by
      rw [hSxH, <- hHl, List.getElem?_append_right (by omega)]
      simp
     have hO := hO.joinG hTg hap3;rw [<- hG2e] at hO;have hXT := hSTf.calledX hI2 hG2 hap2 hsz hsame (fun b hb hq => hold b hb (hful hq)) (fun b hb hq => hnew b hb (hful hq)) hO;obtain ⟨b, hTn⟩ := keepsN_get hTk;have hb : w.heap.size + 1 = b := nameEq_get hTk.1 hnrx hTn rfl rfl;subst hb;have hblk := (hO.names _ _ _ hTn rfl).1;obtain ⟨hcell, hXT2⟩ := hXT.setRaw (o' := recS rc .exhausted (some (codeX x))) hTn;rw [hblk] at hcell hXT2
     have hend := run_endLoop (P := P) (l := w.heap.size + 1) hcell (by simp)
     have hK := hTc I2 Gr' hTI
     split at hK
     case isFalse => exact hK.elim
     rename_i hok;refine ⟨some (codeX x), _, hend, ?_⟩;have hX4 := (hXT2.kill (s'.H.length + 1)).marked (s'.H.length :: s'.marks) s'.rnd;simp only [List.set_set] at hX4
     have hq := hn x eT { outS s' T I2 with G := Gr' } _ _ hK hX4 (outG_satA (outS_satA (a := a) ⟨by rw [hS1t]; exact hA'.size, hA1'.tm⟩ hSxn hO.names hTk.1 hTt hA'.defers hmk (hS1n _ _ _ hnd rfl).1 hok)) (Mem.le_trans hle (Mem.le_trans hTs hTI)) (by simp [outS, hTt, hS1t, hlen])
     cases x with
     | norm => exact hxn.elim
     | ret => exact wpIn_ret hq
     | exit i => exact wpIn_exit hq
theorem rangeFunc_sound {P : Program} {g : Operand} {ps : Array Tmp} {assign body : Code} (ha : SoundAt P assign) (hb : SoundAt P body) : SoundAt P (.rangeFunc g ps assign body) := by
 intro A r c s K Q e a w h hn hS hA hrd;simp only [se] at h
 split at h
 case h_2 => exact h.elim
 rename_i R hrd0 hR
 obtain rfl : r = none := by
  rw [hrd0] at hrd
  cases r with
  | none => rfl
  | some l => cases hrd
 split at h
 · exact seRR_sound ha hb h hn hS hA
 obtain ⟨e, s, h, hS, hA, hIp, hlp⟩ := preS_sound h hS hA
 have hn : ∀ (x : SX) (e' : Env) (s' : St) (a' : Act) (w' : World), K x s' -> SatX c e' s' w' -> SatA e' s' a' -> s.I.le s'.I -> s'.tm.length = s.tm.length -> Q (toX x) a' w' :=
  fun x e' s' a' w' g1 g2 g3 g4 g5 => hn x e' s' a' w' g1 g2 g3 (hIp ▸ g4) (g5.trans hlp)
 obtain ⟨s', h, hS0, hA', hle, hlen, hls⟩ := hand_sound h hS.toSat hA;have hX := hls.x hS hS0
 split at h
 case h_2 => exact h.elim
 rename_i fv hfv
 split at h
 case isFalse => exact h.elim
 rename_i hpl;have h := nameA_sound e.blk (i := 0) h;have hXn := hX.nameAll;generalize hHn : nameAL e.blk 0 s'.H = H at h hXn
 have hHl : H.length = s'.H.length := by rw [<- hHn, nameAL_len]
 have hAn : SatA e { s' with H := H } a := ⟨hA'.size, hA'.tm, hA'.defers⟩
 refine wpIn_rangeFunc fun fn _ => ?_
 let rc : Loop := { state := .ready, pending := none, fn := fn, tmps := a.tmps, params := ps, assign := assign, body := body, defers := w.heap.size }
 have h := h w.heap.size (w.heap.size + 1) rc
 split at h
 case isFalse => exact h.elim
 rename_i hwf;simp only [Bool.and_eq_true] at hwf;obtain ⟨hgiv, hps, hin, hround, hnorm, hjump⟩ := h;obtain ⟨hX1, hA1⟩ := hXn.pushN hAn hwf.1 (o := .deferred (some []));obtain ⟨hX2, hA2⟩ := hX1.pushN hA1 hwf.2 (o := .loop rc);have hrec : recS rc .ready none = .loop rc := rfl
 have hS1 : SatX c ((e.upd H.length w.heap.size 0 false).upd (H.length + 1) (w.heap.size + 1) 0 false) (rstate { s' with H := H } w.heap.size (w.heap.size + 1) (recS rc .ready none)) ((w.alloc (.deferred (some []))).alloc (.loop rc)) := by
  have := hX2.marked [] (some (H.length + 1));simpa [rstate, hrec] using this
 have hA1' : SatA ((e.upd H.length w.heap.size 0 false).upd (H.length + 1) (w.heap.size + 1) 0 false) (rstate { s' with H := H } w.heap.size (w.heap.size + 1) (recS rc .ready none)) { tmps := a.tmps, defers := [] } := by
  refine ⟨hA2.size, fun t sv ht hj => ?_, rfl⟩;have := hA2.tm t sv ht hj;simpa using this
 generalize hS1d : rstate { s' with H := H } w.heap.size (w.heap.size + 1) (recS rc .ready none) = S1 at hin hround hnorm hS1 hA1'
 have hS1H : S1.H = H ++ [⟨.raw (.deferred (some [])), some w.heap.size⟩, ⟨.raw (recS rc .ready none), some (w.heap.size + 1)⟩] := by rw [<- hS1d]; rfl
 have hS1I : S1.I = s'.I := by rw [<- hS1d]; rfl
 have hS1m : S1.marks = [] := by rw [<- hS1d]; rfl
 have hS1t : S1.tm = s'.tm := by rw [<- hS1d]; rfl
 generalize he1 : (e.upd H.length w.heap.size 0 false).upd (H.length + 1) (w.heap.size + 1) 0 false = e1 at hS1 hA1';generalize hw1 : (w.alloc (.deferred (some []))).alloc (.loop rc) = w1 at hS1
 let Cnd : Nat -> St -> Prop := fun k T => if k < R.n then
  (∀ I2 : Mem, T.I.le I2 -> allPs R.ps fun vs svs => R.enc k vs.toArray I2 ->
    se P { A with rd := true } assign { T with tm := setPs ps.toList svs T.tm, I := I2 } fun x s2 => match x, s2.H[s'.H.length + 1]? with
     | .norm, some ⟨.raw o, nm⟩ => o = recS rc .ready none /\ nm = some (w.heap.size + 1) /\ se P { A with rd := true } body { s2 with H := s2.H.set (s'.H.length + 1) ⟨.raw (recS rc .busy none), nm⟩ } fun x s3 => match s3.H[s'.H.length + 1]? with
        | some ⟨.raw o, nm⟩ => o = recS rc .busy none /\ nm = some (w.heap.size + 1) /\ if eqNats s3.marks [] then (match x with
           | .norm => headR (pickNow S1 { s3 with H := s3.H.set (s'.H.length + 1) ⟨.raw (recS rc .ready none), nm⟩ }) R.ents S1
              { s3 with H := s3.H.set (s'.H.length + 1) ⟨.raw (recS rc .ready none), nm⟩ } fun vals xss T => keepsN S1.H T.H (s'.H.length + 1) (recS rc .ready none) /\ R.inv (k + 1) vals xss s3.I s3.G
           | x => match lookX x R.jumps with
             | some (ents, inv) => headR (pickNow (rstate { s' with H := H } w.heap.size (w.heap.size + 1) (recS rc .done (some (codeX x)))) { s3 with H := s3.H.set (s'.H.length + 1) ⟨.raw (recS rc .done (some (codeX x))), nm⟩ }) ents (rstate { s' with H := H } w.heap.size (w.heap.size + 1) (recS rc .done (some (codeX x))))
               { s3 with H := s3.H.set (s'.H.length + 1) ⟨.raw (recS rc .done (some (codeX x))), nm⟩ } fun vals xss T => keepsN (rstate { s' with H := H } w.heap.size (w.heap.size + 1) (recS rc .done (some (codeX x)))).H T.H (s'.H.length + 1) (recS rc .done (some (codeX x))) /\ inv vals xss s3.I s3.G
             | none => False) else False
        | _ => False
     | _, _ => False)
  else (∀ I2 : Mem, T.I.le I2 -> if (s'.marks ++ [s'.H.length]).all (okN S1.H T.H) then K .norm (outS s' T I2) else False)
 have mk : ∀ {k : Nat} {now : St}, k <= R.n -> now.marks = [] -> now.tm.length = s'.tm.length -> s'.I.le now.I ->
  (headR (pickNow S1 now) R.ents S1 now fun vals xss T => keepsN S1.H T.H (s'.H.length + 1) (recS rc .ready none) /\ R.inv k vals xss now.I now.G) ->
  ∃ T, Cnd k T /\ keepsN S1.H T.H (s'.H.length + 1) (recS rc .ready none) /\ T.I = now.I /\ T.G = now.G /\ T.tm = S1.tm.map (stabV S1.H T.H) /\ T.marks = now.marks /\ ∀ {c : Ctx} {e : Env} {w : World}, SatX c e now w -> SatX c e T w := by
  intro k now hk hm hl hI hh
  by_cases hlt : k < R.n
  · obtain ⟨vals, xss, T, ⟨f1, f2⟩, g2, h3, h4, h5, hmm, h6⟩ := headR_both (s1 := S1) (now := now) (now' := { S1 with I := now.I, G := now.G }) rfl rfl (hm.trans hS1m.symm) (by rw [hl, hS1t]) hh (hround k now.I now.G hlt hI)
    refine ⟨T, ?_, f1, h3, h4, h5, hmm, h6⟩;simp only [Cnd, if_pos hlt];intro I2 hle2;exact g2 f2 I2 (h3 ▸ hle2)
  · have hkn : k = R.n := by omega
    subst hkn
    obtain ⟨vals, xss, T, ⟨f1, f2⟩, g2, h3, h4, h5, hmm, h6⟩ := headR_both (s1 := S1) (now := now) (now' := { S1 with I := now.I, G := now.G }) rfl rfl (hm.trans hS1m.symm) (by rw [hl, hS1t]) hh (hnorm now.I now.G hI)
    refine ⟨T, ?_, f1, h3, h4, h5, hmm, h6⟩;simp only [Cnd, if_neg hlt];intro I2 hle2;exact g2 f2 I2 (h3 ▸ hle2)
 have hS1G : S1.G = s'.G := by rw [<- hS1d]; rfl
 let Sx : SX -> St := fun x => rstate { s' with H := H } w.heap.size (w.heap.size + 1) (recS rc .done (some (codeX x)))
 let J : Nat -> Mem -> Mem -> Prop := fun k I' Gx => ∃ eT T, T.I.le I' /\ s'.I.le T.I /\ OwnX eT T Gx /\ T.marks = [] /\ T.tm = S1.tm.map (stabV S1.H T.H) /\ keepsN S1.H T.H (s'.H.length + 1) (recS rc .ready none) /\ Cnd k T
 let D : Mem -> Mem -> Prop := fun I' Gx => ∃ x eT T, (match x with | .norm => False | _ => True) /\ T.I.le I' /\ s'.I.le T.I /\ OwnX eT T Gx /\ T.tm = S1.tm.map (stabV (Sx x).H T.H) /\ keepsN (Sx x).H T.H (s'.H.length + 1) (recS rc .done (some (codeX x))) /\
  ∀ I2 : Mem, T.I.le I2 -> if (s'.marks ++ [s'.H.length]).all (okN (Sx x).H T.H) then K x (outS s' T I2) else False
 obtain ⟨T0, hc0, hk0, hI0, hG0, ht0, hm0, hs0⟩ := mk (k := 0) (now := S1) (Nat.zero_le _) hS1m (by rw [hS1t]) (by rw [hS1I]; exact Mem.le_refl _) (by rw [hS1I, hS1G]; exact hin)
 have hST0 := hs0 hS1;have hS1n : ∀ (id : Nat) (x : Ent) (b : Nat), S1.H[id]? = some x -> x.name = some b -> e1.blk id = b /\ e1.nil id = false := hS1.names
 have hnr : S1.H[s'.H.length + 1]? = some ⟨.raw (recS rc .ready none), some (w.heap.size + 1)⟩ := by
  rw [hS1H, <- hHl, List.getElem?_append_right (by omega)]
  simp
 have hnd : S1.H[s'.H.length]? = some ⟨.raw (.deferred (some [])), some w.heap.size⟩ := by
  rw [hS1H, <- hHl, List.getElem?_append_right (Nat.le_refl _)]
  simp
 have hround2 : ∀ k I' Gk args, k < R.n -> T0.I.le I' -> J k I' Gk -> R.enc k args I' -> CtH P (.func (.yield (w.heap.size + 1)) #[] #[]) args I' Gk fun v I2 G2 => (v = .bool true /\ J (k + 1) I2 G2) \/ (v = .bool false /\ D I2 G2) := by
  intro k I' Gk args hk hle0 ⟨eT, T, hTI, hTs, hO, hTm, hTt, hTk, hTc⟩ henc W hI hG hap;have XT := hO.satX hG hI hap;obtain ⟨b, hTn⟩ := keepsN_get hTk;have hb : w.heap.size + 1 = b := nameEq_get hTk.1 hnr hTn rfl rfl;subst hb;have hblk := (hO.names _ _ _ hTn rfl).1;have hcell := (XT.setRaw (o' := .deferred none) hTn).1;rw [hblk] at hcell;simp only [Cnd, if_pos hk] at hTc;have hpsk := hps k args I' henc;obtain ⟨svs, hsv, hsl, hsd⟩ := allPs_at (hTc I' hTI) hpsk
  have hse := hsv (by simpa using henc)
  have hal : args.toList.length = ps.toList.length := by rw [psOk_len hpsk]; exact Nat.eq_of_beq_eq_true hpl
  have hfold : (ps.zip args).foldl (fun tmps (x : Tmp × Value) => tmps.setIfInBounds x.1 x.2) a.tmps = (ps.toList.zip args.toList).foldl (fun tmps (x : Tmp × Value) => tmps.setIfInBounds x.1 x.2) a.tmps := by
   rw [<- Array.foldl_toList, Array.toList_zip]
  have hst := foldl_setPs (e := eT) (ps := ps.toList) (tm := T.tm) (tmps := a.tmps) hsl hal (hsd eT) (by rw [hTt, List.length_map, hS1t]; exact hA'.size) (fun t sv ht hj => by
   rw [hTt, List.getElem?_map, Option.map_eq_some_iff] at ht;obtain ⟨sv0, h0, rfl⟩ := ht;obtain ⟨d1, d2⟩ := stabV_den (e := e1) (e' := eT) hTk.1 hS1n hO.names hj;rw [d1] at hj ⊢;rw [d2];exact hA1'.tm t sv0 h0 hj)
  unfold CallV
  rw [run_semV_yield, run_yield hcell (by simpa using hal)]
  show RoundIn Fence.wide 0 P (w.heap.size + 1) fn _ assign body W _
  refine roundIn_of_wpIn trivial ?_
  have hXp : SatX (ctxOf W I' Gk) eT { T with tm := setPs ps.toList svs T.tm, I := I' } W := XT.less
  refine ha (A := { A with rd := true }) (r := some (w.heap.size + 1)) (c := ctxOf W I' Gk) (e := eT) hse (fun x e2 s2 a2 w2 hK2 hX2 hA2 hle2 hlen2 => ?_) hXp ⟨by rw [hfold]; exact hst.1, by rw [hfold]; exact hst.2, by simp [hTm]⟩ rfl
  split at hK2
  case h_2 => exact hK2.elim
  rename_i o nm hH2;obtain ⟨rfl, rfl, hse2⟩ := hK2;obtain ⟨hc2, hXb⟩ := hX2.setRaw (o' := recS rc .busy none) hH2;have hblk2 := (hX2.names _ _ _ hH2 rfl).1;rw [hblk2] at hc2 hXb;refine ⟨_, run_beginRound hc2 rfl, ?_⟩
  refine hb (A := { A with rd := true }) (r := some (w.heap.size + 1)) (c := ctxOf W I' Gk) (e := e2) hse2 (fun x e3 s3 a3 w3 hK3 hX3 hA3 hle3 hlen3 => ?_) hXb ⟨hA2.size, hA2.tm, hA2.defers⟩ rfl
  split at hK3
  case h_2 => exact hK3.elim
  rename_i o nm hH3;obtain ⟨rfl, rfl, hK3⟩ := hK3
  split at hK3
  case isFalse => exact hK3.elim
  rename_i hmk3;have hblk3 := (hX3.names _ _ _ hH3 rfl).1;have hI3 : I'.le s3.I := Mem.le_trans hle2 hle3
  have hl3 : s3.tm.length = s'.tm.length := by
   have q3 : s3.tm.length = s2.tm.length := hlen3;have q2 : s2.tm.length = (setPs ps.toList svs T.tm).length := hlen2;rw [q3, q2, setPs_len, hTt, List.length_map, hS1t]
  have jc : ∀ y : SX, (match y with | .norm => False | _ => True) -> (match lookX y R.jumps with
   | some (ents, inv) => headR (pickNow (Sx y) { s3 with H := s3.H.set (s'.H.length + 1) ⟨.raw (recS rc .done (some (codeX y))), some (w.heap.size + 1)⟩ }) ents (Sx y)
     { s3 with H := s3.H.set (s'.H.length + 1) ⟨.raw (recS rc .done (some (codeX y))), some (w.heap.size + 1)⟩ } fun vals xss T => keepsN (Sx y).H T.H (s'.H.length + 1) (recS rc .done (some (codeX y))) /\ inv vals xss s3.I s3.G
   | none => False) -> ∃ v w', (Instr.endRound (w.heap.size + 1) (some (codeX y))).run P w3 = .ok v w' /\ Ends I' Gk W (fun v I2 G2 => (v = .bool true /\ J (k + 1) I2 G2) \/ (v = .bool false /\ D I2 G2)) (.returned v) w' := by
   intro y hy hK
   split at hK
   case h_2 => exact hK.elim
   rename_i ents inv hlook;obtain ⟨hc3, hXr⟩ := hX3.setRaw (o' := recS rc .done (some (codeX y))) hH3;rw [hblk3] at hc3 hXr;have hj2 := allJ_look hlook hjump
   obtain ⟨vals, xss, T', ⟨f1, f2⟩, g2, h3, h4, h5, hmm, h6⟩ := headR_both (s1 := Sx y) (now := { s3 with H := s3.H.set (s'.H.length + 1) ⟨.raw (recS rc .done (some (codeX y))), some (w.heap.size + 1)⟩ }) (now' := { Sx y with I := s3.I, G := s3.G }) rfl rfl (eqNats_eq hmk3) hl3 hK (hj2 s3.I s3.G (Mem.le_trans hTs (Mem.le_trans hTI hI3)))
   have hXT' := h6 hXr;refine ⟨_, _, run_endRound (some (codeX y)) hc3, ?_⟩
   refine hXT'.ends (by rw [h3]; exact hI3) (.inr ⟨rfl, y, e3, T', hy, Mem.le_refl _, by rw [h3]; exact Mem.le_trans hTs (Mem.le_trans hTI hI3), hXT'.ownX, by rw [h5, hS1t]; rfl, f1, fun I2 hle => g2 f2 I2 (h3 ▸ hle)⟩)
  cases x with
  | norm =>
    obtain ⟨hc3, hXr⟩ := hX3.setRaw (o' := recS rc .ready none) hH3;rw [hblk3] at hc3 hXr
    obtain ⟨T', hc', hk', hI', hG', ht', hm', hs'⟩ := mk (k := k + 1) (now := { s3 with H := s3.H.set (s'.H.length + 1) ⟨.raw (recS rc .ready none), some (w.heap.size + 1)⟩ }) hk (eqNats_eq hmk3) hl3 (Mem.le_trans hTs (Mem.le_trans hTI hI3)) hK3
    have hXT' := hs' hXr;refine ⟨_, _, run_endRound none hc3, ?_⟩
    refine hXT'.ends (by rw [hI']; exact hI3) (.inl ⟨rfl, e3, T', Mem.le_refl _, by rw [hI']; exact Mem.le_trans hTs (Mem.le_trans hTI hI3), hXT'.ownX, hm'.trans (eqNats_eq hmk3), ht', hk', hc'⟩)
  | ret => exact jc .ret trivial hK3
  | exit i => exact jc (.exit i) trivial hK3
 have hcall := hgiv.2 (.func (.yield (w.heap.size + 1)) #[] #[]) J D T0.I (ownM e1 T0 w1) (by rw [hI0, hS1I]; exact Mem.le_refl _)
  ⟨e1, T0, Mem.le_refl _, by rw [hI0, hS1I]; exact Mem.le_refl _, hST0.ownX, hm0.trans hS1m, ht0, hk0, hc0⟩
  (fun k I1 I2 G ⟨eT, T, q1, q2⟩ hle12 => ⟨eT, T, Mem.le_trans q1 hle12, q2⟩) (fun I1 I2 G ⟨x, eT, T, q0, q1, q2⟩ hle12 => ⟨x, eT, T, q0, Mem.le_trans q1 hle12, q2⟩) hround2
 have hct := hcall w1 hST0.I ownM_in hST0.ownM_apart;obtain ⟨f, args, hent⟩ := hgiv.1 (.func (.yield (w.heap.size + 1)) #[] #[]) w1;unfold CallV at hct;rw [hent] at hct;have hct : CallsIn Fence.wide 0 P f args w1 _ := hct
 have hevg : a.eval g = fv := by
  obtain ⟨f1, f2⟩ := valS_den (e := e) hfv;rw [ev_ok hA' g f2, f1]
 obtain ⟨d, w1', hd1, hd2⟩ : ∃ d w1', (Deferred.ofValue fv #[.func (.yield (w.heap.size + 1)) #[] #[]]).run P w1 = .ok d w1' /\ (invoke d.target d.args).run P w1' = .ok (.enter f args) w1 := by
  simp only [semV, Sem.run_bind] at hent
  cases hd : (Deferred.ofValue fv #[.func (.yield (w.heap.size + 1)) #[] #[]]).run P w1 with
  | ok d w1' => rw [hd] at hent; exact ⟨d, w1', rfl, hent⟩
  | halt x w' => rw [hd] at hent; cases hent
 have hres : (resolve a.eval (rangeCall g (w.heap.size + 1)) 0).run P w1 = .ok d w1' := by
  simp only [resolve, hevg];simpa [Act.eval] using hd1
 refine ⟨w.heap.size + 1, [{ target := .collected w.heap.size, args := #[] }], w1, d, w1', f, args, w1, ?_, hres, fun _ _ => trivial, hd2, (fun h => by cases h), ?_⟩
 · rw [<- hw1]
   exact run_enterLoop_outer fn a.tmps ps assign body
 · refine hct.mono fun en w3 hE => ?_
   obtain ⟨v, I2, G2, rfl, hle2, hI2, hG2, hap2, hsz, hsame, hold, hnew, hJD⟩ := hE
   have hmk : ∀ m, m ∈ s'.marks -> e1.blk m = e.blk m := by
    intro m hm;have hw0 := hwf.1;simp only [wfSt, Bool.and_eq_true, List.all_eq_true] at hw0
    have hlt : m < H.length := by simpa using hw0.2 m hm
    rw [<- he1, <- (upd_ne (by omega)).1, <- (upd_ne (by omega)).1]
   rcases hJD with ⟨eT, T, hTI, hTs, hO, hTm, hTt, hTk, hTc⟩ | ⟨x, eT, T, hxn, hTI, hTs, hO, hTt, hTk, hTc⟩
   · have hXT := hST0.calledX hI2 hG2 hap2 hsz hsame hold hnew hO
     obtain ⟨b, hTn⟩ := keepsN_get hTk;have hb : w.heap.size + 1 = b := nameEq_get hTk.1 hnr hTn rfl rfl;subst hb;have hblk := (hO.names _ _ _ hTn rfl).1;obtain ⟨hcell, hXT2⟩ := hXT.setRaw (o' := recS rc .exhausted none) hTn;rw [hblk] at hcell hXT2
     have hend := run_endLoop (P := P) (l := w.heap.size + 1) hcell (by simp)
     simp only [Cnd, if_neg (Nat.lt_irrefl R.n)] at hTc;have hK := hTc I2 hTI
     split at hK
     case isFalse => exact hK.elim
     rename_i hok;refine ⟨none, _, hend, ?_⟩;have hX4 := (hXT2.kill (s'.H.length + 1)).marked (s'.H.length :: s'.marks) s'.rnd;simp only [List.set_set] at hX4
     refine hn .norm eT (outS s' T I2) _ _ hK hX4 (outS_satA ⟨by rw [hS1t]; exact hA'.size, hA1'.tm⟩ hS1n hO.names hTk.1 hTt hA'.defers hmk (hS1n _ _ _ hnd rfl).1 hok) (Mem.le_trans hle (Mem.le_trans hTs hTI)) ?_
     simp [outS, hTt, hS1t, hlen]
   · have hSxH : (Sx x).H = H ++ [⟨.raw (.deferred (some [])), some w.heap.size⟩, ⟨.raw (recS rc .done (some (codeX x))), some (w.heap.size + 1)⟩] := rfl
     have hSxn : ∀ (id : Nat) (y : Ent) (b : Nat), (Sx x).H[id]? = some y -> y.name = some b -> e1.blk id = b /\ e1.nil id = false := by
      intro id y b hy hyb;rw [hSxH] at hy
      by_cases hlt : id < H.length
      · refine hS1n id y b ?_ hyb
        rw [hS1H, List.getElem?_append_left hlt]
        rwa [List.getElem?_append_left hlt] at hy
      · rw [List.getElem?_append_right (by omega)] at hy
        rcases hk : id - H.length with _ | _ | k
        · rw [hk] at hy
          have hid : id = s'.H.length := by omega
          subst hid;simp only [List.getElem?_cons_zero, Option.some.injEq] at hy;subst hy;exact hS1n _ _ b hnd hyb
        · rw [hk] at hy
          have hid : id = s'.H.length + 1 := by omega
          subst hid;simp only [Nat.zero_add, List.getElem?_cons_succ, List.getElem?_cons_zero, Option.some.injEq] at hy;subst hy;exact hS1n _ _ b hnr hyb
        · rw [hk] at hy
          simp at hy
     have hnrx : (Sx x).H[s'.H.length + 1]? = some ⟨.raw (recS rc .done (some (codeX x))), some (w.heap.size + 1)⟩ := by
      rw [hSxH, <- hHl, List.getElem?_append_right (by omega)]
      simp
     have hXT := hST0.calledX hI2 hG2 hap2 hsz hsame hold hnew hO;obtain ⟨b, hTn⟩ := keepsN_get hTk;have hb : w.heap.size + 1 = b := nameEq_get hTk.1 hnrx hTn rfl rfl;subst hb;have hblk := (hO.names _ _ _ hTn rfl).1;obtain ⟨hcell, hXT2⟩ := hXT.setRaw (o' := recS rc .exhausted (some (codeX x))) hTn;rw [hblk] at hcell hXT2
     have hend := run_endLoop (P := P) (l := w.heap.size + 1) hcell (by simp)
     have hK := hTc I2 hTI
     split at hK
     case isFalse => exact hK.elim
     rename_i hok;refine ⟨some (codeX x), _, hend, ?_⟩;have hX4 := (hXT2.kill (s'.H.length + 1)).marked (s'.H.length :: s'.marks) s'.rnd;simp only [List.set_set] at hX4
     have hq := hn x eT (outS s' T I2) _ _ hK hX4 (outS_satA (a := a) ⟨by rw [hS1t]; exact hA'.size, hA1'.tm⟩ hSxn hO.names hTk.1 hTt hA'.defers hmk (hS1n _ _ _ hnd rfl).1 hok) (Mem.le_trans hle (Mem.le_trans hTs hTI)) (by simp [outS, hTt, hS1t, hlen])
     cases x with
     | norm => exact hxn.elim
     | ret => exact wpIn_ret hq
     | exit i => exact wpIn_exit hq
end Go.SE
namespace Go.SE
open Go.RowKit
section
variable {P : Program} {c : Ctx} {r : Option Nat}
theorem wpIn_loop_ghost {F : Fence} {n : Nat} {cd : Code} {Q : Exit -> Act -> World -> Prop} (I : Nat -> Act -> World -> Prop) {j0 : Nat} {a : Act} {w : World} (h₀ : I j0 a w)
 (round : ∀ j a w, I j a w -> cd.wpIn F n P (Exit.then (fun a' w' => ∃ j', j' < j /\ I j' a' w') Q) a w) : (Code.loop cd).wpIn F n P Q a w := by
 intro b k cs hro hb hr
 have key : ∀ j a w, I j a w ->
  ∃ e a' w', Q e a' w' /\ ArrivesIn (Machine.fenced P F) P (lone (b.atR a (.code cd :: .inLoop cd :: k)) cs w) b k cs e a' w' := by
  intro j
  induction j using Nat.strongRecOn with
  | _ j ih =>
    intro a w hI;obtain ⟨e, a₁, w₁, hq, harr⟩ := round j a w hI b (.inLoop cd :: k) cs hro hb hr
    cases e with
    | normal =>
      obtain ⟨j', hlt, hI₁⟩ := hq;obtain ⟨e₂, a₂, w₂, hq₂, harr₂⟩ := ih j' hlt a₁ w₁ hI₁;exact ⟨e₂, a₂, w₂, hq₂, .of_steps (StepsIn.trans harr (.one (fenced_calm hb hr rfl) stepR_inLoop)) harr₂⟩
    | exit id => exact ⟨_, a₁, w₁, hq, .pass (x := .inLoop cd) rfl (fun _ _ => .inl (by simp)) harr⟩
    | goto l => exact ⟨_, a₁, w₁, hq, .pass (x := .inLoop cd) rfl (fun _ _ => .inl (by simp)) harr⟩
    | ret => exact ⟨_, a₁, w₁, hq, .pass (x := .inLoop cd) rfl (fun _ _ => .inl (by simp)) harr⟩
    | panic ch => exact ⟨_, a₁, w₁, hq, .pass (x := .inLoop cd) rfl (fun _ _ => .inl (by simp)) harr⟩
    | outgrown => exact ⟨_, a₁, w₁, hq, .pass (x := .inLoop cd) rfl (fun _ _ => .inl (by simp)) harr⟩
 obtain ⟨e, a', w', hq, harr⟩ := key j0 a w h₀;exact ⟨e, a', w', hq, .of_steps (.one (fenced_calm hb hr rfl) stepR_loop) harr⟩
theorem wpIn_scope {F : Fence} {n : Nat} {cd : Code} {Q : Exit -> Act -> World -> Prop} {a : Act} {w : World} (h : cd.wpIn F n P (Exit.noGoto Q) a w) : (Code.scope cd).wpIn F n P Q a w := by
 intro b k cs hro hb hr;have h0 : (lone (b.atR a (.code (.scope cd) :: k)) cs w).fenced P F := fenced_calm hb hr rfl
 have s0 : step P (lone (b.atR a (.code (.scope cd) :: k)) cs w) = .next (lone (b.atR a (.code cd :: .inScope cd :: k)) cs w) :=
  step_lone_go (by simp [stepG, stepG.exec, Frame.atR])
 have s1 : ∀ (a : Act) (w : World), step P (lone (b.atR a (.inScope cd :: k)) cs w) = .next (lone (b.atR a k) cs w) :=
  fun a w => step_lone_go (by simp [stepG, stepG.exec, Frame.atR])
 obtain ⟨e, a₁, w₁, hq, harr⟩ := h b (.inScope cd :: k) cs hro hb hr
 cases e with
 | normal => exact ⟨.normal, a₁, w₁, hq, .head h0 s0 (StepsIn.trans harr (.one (fenced_calm hb hr rfl) (s1 a₁ w₁)))⟩
 | exit id =>
   have hx : exitTo id (.inScope cd :: k) = exitTo id k := by simp [exitTo]
   exact ⟨.exit id, a₁, w₁, hq, fun k' hk => .head h0 s0 (harr.1 k' (by rw [hx]; exact hk)),
    fun hr' hk => let ⟨k₁, h1, h2⟩ := harr.2 hr' (by rw [hx]; exact hk); ⟨k₁, h1, .head h0 s0 h2⟩⟩
 | goto l => exact hq.elim
 | ret => exact ⟨_, a₁, w₁, hq, .of_steps (.one h0 s0) harr⟩
 | panic ch => exact ⟨_, a₁, w₁, hq, .of_steps (.one h0 s0) harr⟩
 | outgrown => exact ⟨_, a₁, w₁, hq, .of_steps (.one h0 s0) harr⟩
theorem se_sound : ∀ (cd : Code) {A : Ann} {r : Option Nat} {c : Ctx} {s : St} {K : SX -> St -> Prop} {Q : Exit -> Act -> World -> Prop} {e : Env} {a : Act} {w : World}, se P A cd s K ->
 (∀ (x : SX) (e' : Env) (s' : St) (a' : Act) (w' : World), K x s' -> SatX c e' s' w' -> SatA e' s' a' -> s.I.le s'.I -> s'.tm.length = s.tm.length -> Q (toX x) a' w') ->
 SatX c e s w -> SatA e s a -> A.rd = r.isSome -> cd.wpIn (Fr r) 0 P Q a w
 | .skip, A, r, c, s, K, Q, e, a, w, h, hn, hS, hA, hrd => wpIn_skip (hn .norm e s a w h hS hA (Mem.le_refl _) rfl)
 | .label l, A, r, c, s, K, Q, e, a, w, h, hn, hS, hA, hrd => wpIn_label (hn .norm e s a w h hS hA (Mem.le_refl _) rfl)
 | .exit id, A, r, c, s, K, Q, e, a, w, h, hn, hS, hA, hrd => wpIn_exit (hn (.exit id) e s a w h hS hA (Mem.le_refl _) rfl)
 | .ret, A, r, c, s, K, Q, e, a, w, h, hn, hS, hA, hrd => wpIn_ret (hn .ret e s a w h hS hA (Mem.le_refl _) rfl)
 | .region id ops draw, A, r, c, s, K, Q, e, a, w, h, hn, hS, hA, hrd => by
   simp only [se] at h;obtain ⟨s0, h, hS0, hA1, hle0, hlen0, hls⟩ := hand_sound h hS.toSat hA;obtain ⟨s1, h, hS1, hA1, hI1, hlen2⟩ := give_sound h (hls.x hS hS0) hA1
   have hle1 : s.I.le s1.I := by rw [hI1]; exact hle0
   have hlen1 : s1.tm.length = s.tm.length := hlen2.trans hlen0
   cases draw with
   | false =>
     refine wpIn_region (seOps_sound (l := ops.toList) (idx := List.range ops.size) ?_ h hS1 hA1 fun e' s' a' w' hK hS' hA' hle hlen => hn .norm e' s' a' w' hK hS' hA' (Mem.le_trans hle1 hle) (hlen.trans hlen1));apply List.ext_getElem?;intro k;simp only [List.getElem?_map]
     by_cases hk : k < ops.size
     · simp [hk]
     · rw [List.getElem?_eq_none (by simpa using hk), List.getElem?_eq_none (by simpa using hk)]
       rfl
   | true => exact seDraw_sound h hS1 hA1 fun e' s' a' w' hK hS' hA' hle hlen => hn .norm e' s' a' w' hK hS' hA' (Mem.le_trans hle1 hle) (hlen.trans hlen1)
 | .cond cc x y, A, r, c, s, K, Q, e, a, w, h, hn, hS, hA, hrd => by
   simp only [se] at h
   split at h
   · rename_i t ht
     refine wpIn_cond_split (ev_v hA ht) (fun hT => ?_) (fun hT => ?_)
     · subst hT; exact se_sound x h hn hS hA hrd
     · subst hT; exact se_sound y h hn hS hA hrd
   · exact h.elim
 | .block id x, A, r, c, s, K, Q, e, a, w, h, hn, hS, hA, hrd => by
   simp only [se] at h;refine wpIn_block (se_sound x h (fun x e' s' a' w' hK hS' hA' hle hlen => ?_) hS hA hrd)
   cases x with
   | norm => exact hn .norm e' s' a' w' hK hS' hA' hle hlen
   | ret => exact hn .ret e' s' a' w' hK hS' hA' hle hlen
   | exit i =>
     simp only [toX, Exit.inBlock]
     simp only at hK
     split at hK
     · rename_i hb
       rw [if_pos (Nat.eq_of_beq_eq_true hb)];exact hn .norm e' s' a' w' hK hS' hA' hle hlen
     · rename_i hb
       rw [if_neg (fun h => hb (by rw [h]; exact Nat.beq_refl _))]
       exact hn (.exit i) e' s' a' w' hK hS' hA' hle hlen
 | .scope x, A, r, c, s, K, Q, e, a, w, h, hn, hS, hA, hrd => by
   simp only [se] at h;refine wpIn_scope (se_sound x h (fun x e' s' a' w' hK hS' hA' hle hlen => ?_) hS hA hrd)
   cases x with
   | norm => exact hn .norm e' s' a' w' hK hS' hA' hle hlen
   | ret => exact hn .ret e' s' a' w' hK hS' hA' hle hlen
   | exit i => exact hn (.exit i) e' s' a' w' hK hS' hA' hle hlen
 | .seq x y, A, r, c, s, K, Q, e, a, w, h, hn, hS, hA, hrd => by
   simp only [se] at h
   split at h
   · refine wpIn_seq (se_sound x h (fun x e' s' a' w' hK hS' hA' hle hlen => ?_) hS hA hrd)
     cases x with
     | norm =>
       obtain ⟨s1, hK, hS0, hA1, hle1, hlen1, hls⟩ := hand_sound hK hS'.toSat hA';exact se_sound y hK (fun x e2 s2 a2 w2 hK2 hS2 hA2 hle2 hlen2 => hn x e2 s2 a2 w2 hK2 hS2 hA2 (Mem.le_trans (Mem.le_trans hle hle1) hle2) (hlen2.trans (hlen1.trans hlen))) (hls.x hS' hS0) hA1 hrd
     | ret => exact hn .ret e' s' a' w' hK hS' hA' hle hlen
     | exit i => exact hn (.exit i) e' s' a' w' hK hS' hA' hle hlen
   · rename_i hd _
     obtain ⟨e1, s1, ⟨h1, h2⟩, hS1, hA1, hI1, hl1⟩ := preS_sound h hS hA;refine wpIn_seq (se_sound x h1 (fun x e' s' a' w' hK hS' hA' hle hlen => ?_) hS1 hA1 hrd)
     cases x with
     | norm =>
       simp only at hK
       obtain ⟨s4, hK, hS0, hA4, hle4, hlen4, hls⟩ := hand_sound hK hS'.toSat hA';have hS4 := hls.x hS' hS0;have hle := Mem.le_trans hle hle4;have hlen := hlen4.trans hlen
       split at hK
       · rename_i hm
         obtain ⟨vals, xss, T, g1, g2, g3⟩ := headS_both (s := s1) (now := s4) (now' := { s1 with I := s4.I, G := s4.G }) rfl rfl (eqNats_eq hm) hlen hK (h2 s4.I s4.G hle)
         exact se_sound y (g2 g1) (fun x e2 s2 a2 w2 hK2 hS2 hA2 hle2 hlen2 => hn x e2 s2 a2 w2 hK2 hS2 hA2
          (Mem.le_trans (hI1 ▸ hle) (g3.I ▸ hle2)) (hlen2.trans (g3.len.trans (hlen.trans hl1)))) (hS4.ref g3) (hA4.ref g3) hrd
       · exact hK.elim
     | ret => exact hn .ret e' s' a' w' hK hS' hA' (hI1 ▸ hle) (hlen.trans hl1)
     | exit i => exact hn (.exit i) e' s' a' w' hK hS' hA' (hI1 ▸ hle) (hlen.trans hl1)
 | .loop x, A, r, c, s, K, Q, e, a, w, h, hn, hS, hA, hrd => by
   simp only [se] at h
   split at h
   · split at h
     · refine wpIn_loop_ghost (fun j a' w' => ∃ e' T, SatX c e' T w' /\ SatA e' T a' /\ s.I.le T.I /\ T.tm.length = s.tm.length /\ unrollS (se P A x) j T K) ⟨e, s, hS, hA, Mem.le_refl _, rfl, h⟩ ?_
       rintro j a' w' ⟨e', T, hST, hAT, hleT, hlenT, hu⟩
       cases j with
       | zero => exact hu.elim
       | succ j =>
         refine se_sound x hu (fun x e2 s2 a2 w2 hK hS2 hA2 hle2 hlen2 => ?_) hST hAT hrd
         cases x with
         | norm => exact ⟨j, Nat.lt_succ_self j, e2, s2, hS2, hA2, Mem.le_trans hleT hle2, hlen2.trans hlenT, hK⟩
         | ret => exact hn .ret e2 s2 a2 w2 hK hS2 hA2 (Mem.le_trans hleT hle2) (hlen2.trans hlenT)
         | exit i => exact hn (.exit i) e2 s2 a2 w2 hK hS2 hA2 (Mem.le_trans hleT hle2) (hlen2.trans hlenT)
     · rename_i hd gi _
       obtain ⟨e1, s1, ⟨h1, h2⟩, hS1, hA1, hI1, hl1⟩ := preS_sound h hS hA
       let Inv : Nat -> Act -> World -> Prop := fun j a' w' => ∃ e' T, SatX c e' T w' /\ SatA e' T a' /\ s1.I.le T.I /\ T.tm.length = s1.tm.length /\
        se P A x T (fun x s' => match x with
         | .norm => if eqNats s'.marks s1.marks then headS (pickNow s1 s') hd s1 s' fun vals' xss' _ => ∃ j', j' < j /\ gi j' vals' xss' s'.I s'.G else False
         | x => K x s')
       have at_ : ∀ {now : St} {e2 : Env} {a2 : Act} {w2 : World} {F : List Value -> List (List Value) -> St -> Prop}, headS (pickNow s1 now) hd s1 now F -> now.marks = s1.marks -> now.tm.length = s1.tm.length -> s1.I.le now.I -> SatX c e2 now w2 -> SatA e2 now a2 -> ∃ vals xss T, F vals xss T /\ ∀ j, gi j vals xss now.I now.G -> Inv j a2 w2 := by
        intro now e2 a2 w2 F hK hm hl hle hS2 hA2
        obtain ⟨vals, xss, T, g1, g2, g3⟩ := headS_both (s := s1) (now := now) (now' := { s1 with I := now.I, G := now.G }) rfl rfl hm hl hK (h2 now.I now.G hle)
        exact ⟨vals, xss, T, g1, fun j hg => ⟨e2, T, hS2.ref g3, hA2.ref g3, g3.I ▸ hle, g3.len.trans hl, g2 j hg⟩⟩
       obtain ⟨_, _, _, ⟨j0, hj0⟩, h0⟩ := at_ h1 rfl rfl (Mem.le_refl _) hS1 hA1;have h0 := h0 j0 hj0;refine wpIn_loop_ghost Inv h0 ?_;rintro j a' w' ⟨e', T, hST, hAT, hleT, hlenT, hbody⟩;refine se_sound x hbody (fun x e2 s2 a2 w2 hK hS2 hA2 hle2 hlen2 => ?_) hST hAT hrd;have hle12 : s1.I.le s2.I := Mem.le_trans hleT hle2
       cases x with
       | norm =>
         simp only at hK
         split at hK
         · rename_i hm
           obtain ⟨_, _, _, ⟨j', hlt, hg⟩, h3⟩ := at_ hK (eqNats_eq hm) (hlen2.trans hlenT) hle12 hS2 hA2;exact ⟨j', hlt, h3 j' hg⟩
         · exact hK.elim
       | ret => exact hn .ret e2 s2 a2 w2 hK hS2 hA2 (hI1 ▸ hle12) ((hlen2.trans hlenT).trans hl1)
       | exit i => exact hn (.exit i) e2 s2 a2 w2 hK hS2 hA2 (hI1 ▸ hle12) ((hlen2.trans hlenT).trans hl1)
   · rename_i hd _
     obtain ⟨e1, s1, ⟨h1, h2⟩, hS1, hA1, hI1, hl1⟩ := preS_sound h hS hA
     let Inv : Nat -> Act -> World -> Prop := fun j a' w' => ∃ e' T vals xss, SatX c e' T w' /\ SatA e' T a' /\ s1.I.le T.I /\ T.tm.length = s1.tm.length /\ hd.meas vals xss = j /\
      se P A x T (fun x s' => match x with
       | .norm => if eqNats s'.marks s1.marks then headS (pickNow s1 s') hd s1 s' fun vals' xss' _ => hd.inv vals' xss' s'.I s'.G /\ hd.meas vals' xss' < hd.meas vals xss else False
       | x => K x s')
     obtain ⟨vals, xss, T, g1, g2, g3⟩ := headS_both (s := s1) (now := s1) (now' := { s1 with I := s1.I, G := s1.G }) rfl rfl rfl rfl h1 (h2 s1.I s1.G (Mem.le_refl _))
     have h0 : Inv (hd.meas vals xss) a w := ⟨e1, T, vals, xss, hS1.ref g3, hA1.ref g3, g3.I ▸ Mem.le_refl _, g3.len, rfl, g2 g1⟩;refine wpIn_loop_ghost Inv h0 ?_;rintro j a' w' ⟨e', T, vals, xss, hST, hAT, hleT, hlenT, rfl, hbody⟩;refine se_sound x hbody (fun x e2 s2 a2 w2 hK hS2 hA2 hle2 hlen2 => ?_) hST hAT hrd;have hle12 : s1.I.le s2.I := Mem.le_trans hleT hle2
     cases x with
     | norm =>
       simp only at hK
       split at hK
       · rename_i hm
         obtain ⟨vals', xss', T', g1, g2, g3⟩ := headS_both (s := s1) (now := s2) (now' := { s1 with I := s2.I, G := s2.G }) rfl rfl (eqNats_eq hm) (hlen2.trans hlenT) hK (h2 s2.I s2.G hle12)
         exact ⟨_, g1.2, e2, T', vals', xss', hS2.ref g3, hA2.ref g3, g3.I ▸ hle12, g3.len.trans (hlen2.trans hlenT), rfl, g2 g1.1⟩
       · exact hK.elim
     | ret => exact hn .ret e2 s2 a2 w2 hK hS2 hA2 (hI1 ▸ hle12) ((hlen2.trans hlenT).trans hl1)
     | exit i => exact hn (.exit i) e2 s2 a2 w2 hK hS2 hA2 (hI1 ▸ hle12) ((hlen2.trans hlenT).trans hl1)
 | .rangeFunc g ps assign body, A, r, c, s, K, Q, e, a, w, h, hn, hS, hA, hrd =>
   rangeFunc_sound (fun h hn hS hA hrd => se_sound assign h hn hS hA hrd) (fun h hn hS hA hrd => se_sound body h hn hS hA hrd) h hn hS hA hrd
 | .goto _, _, _, _, _, _, _, _, _, _, h, _, _, _, _ => h.elim
 | .refuse _, _, _, _, _, _, _, _, _, _, h, _, _, _, _ => h.elim
end
end Go.SE
namespace Go.SE
open Go.RowKit
def resOne (P : Program) (s : St) (r : ResultVar) (K : SV -> Prop) : Prop :=
 match r with
 | .tmp t => if isJunk (ev s (.tmp t)) then False else K (ev s (.tmp t))
 | .cell a t => sLoad P s t (ev s (.tmp a)) fun x => if isJunk x then False else K x
def resL (P : Program) (s : St) : List ResultVar -> (List SV -> Prop) -> Prop
 | [], K => K []
 | r :: rs, K => resOne P s r fun x => resL P s rs fun xs => K (x :: xs)
def resV (xs : List SV) : SV :=
 match xs with
 | [x] => x
 | xs => .tup xs
def unmark : List Nat -> St -> (St -> Prop) -> Prop
 | [], s, K => K { s with marks := [] }
 | id :: r, s, K => match s.H[id]? with
   | some ⟨.raw (.deferred (some [])), _⟩ => unmark r { s with H := s.H.set id ⟨.dead, none⟩ } K
   | _ => False
def endX (K : St -> Prop) : SX -> St -> Prop
 | .exit _, _ => False
 | _, s => unmark s.marks s K
def finG (P : Program) (fn : Func) (post : Value -> Mem -> Mem -> Prop) (s : St) : Prop :=
 resL P s fn.results.toList fun xs => hand P 100 (refsOf (resV xs)) s fun s' =>
  resL P s' fn.results.toList fun ys => match valS (resV ys) with
   | some v => post v s'.I s'.G
   | none => False
def finS (P : Program) (fn : Func) (outs : List Nat) (post : SV -> List Ent -> Mem -> Prop) (s : St) : Prop :=
 resL P s fn.results.toList fun xs => hand P 100 ((refsOf (resV xs)).filter fun i => !memB i outs) s fun s' =>
  resL P s' fn.results.toList fun ys => match entsAt s'.H outs with
   | some H0 => if nodupB outs && (allIn outs (refsOf (resV ys)) && H0.all (fun x => allIn outs (entRefs x))) then
      post (renF (fun i => posOf i outs) (resV ys)) (H0.map (renE fun i => posOf i outs)) s'.I
     else False
   | none => False
def initX (args : List SV) (H : List Ent) (n : Nat) (I G : Mem) : St :=
 { tm := args ++ List.replicate (n - args.length) (.v undef), H := H, I := I, marks := [], G := G }
def initS (args : List Value) (n : Nat) (I : Mem) : St := initX (args.map .v) [] n I Mem.emp
section
variable {P : Program} {c : Ctx} {e : Env} {s : St} {w : World} {a : Act}
def semRes (a : Act) (r : ResultVar) : Sem Value :=
 match r with
 | .tmp t => pure (a.tmps.getD t undef)
 | .cell q t => do loadVar t (<- asAddr (a.tmps.getD q undef))
theorem resOne_sound {r : ResultVar} {K : SV -> Prop} (h : resOne P s r K) (hS : Sat c e s w) (hA : SatA e s a) :
 ∃ sv, K sv /\ (semRes a r).run P w = .ok (den e sv) w := by
 cases r with
 | tmp t =>
   simp only [resOne] at h
   split at h
   · exact h.elim
   · rename_i hj
     simp only [Bool.not_eq_true] at hj;refine ⟨_, h, ?_⟩;have := ev_ok hA (.tmp t) hj;simp only [Act.eval] at this;simp [semRes, this]
 | cell q t =>
   simp only [resOne] at h;obtain ⟨sv, h1, h2⟩ := sLoad_sound (c := c) h
   split at h1
   · exact h1.elim
   · rename_i hj
     obtain ⟨x, h3, h4⟩ := h2 e a w hS hA;have h5 := h3 none 0 "" #[] none
     rcases h4 with h4 | rfl
     · exact absurd h4 hj
     refine ⟨sv, h1, ?_⟩;simp only [execOp, Act.eval, Instr.loadAt, Sem.run_bind] at h5;simp only [semRes, Sem.run_bind]
     cases hv : a.tmps.getD q undef with
     | pointer p =>
       cases p with
       | none => simp [hv, Instr.sureAddr] at h5
       | some ad =>
         simp only [hv, Instr.sureAddr, Sem.run_pure, Result.andThen_ok] at h5;simp only [asAddr, Sem.run_pure, Result.andThen_ok]
         cases hl : (loadVar t ad).run P w with
         | ok y w' =>
           simp only [hl, Result.andThen_ok, Result.ok.injEq, Next.value.injEq] at h5;rw [h5.1, h5.2]
         | halt y w' => simp [hl] at h5
     | _ => simp [hv, Instr.sureAddr] at h5
theorem resL_sound : ∀ {rs : List ResultVar} {K : List SV -> Prop}, resL P s rs K -> Sat c e s w -> SatA e s a ->
 ∃ xs, K xs /\ (rs.mapM (semRes a)).run P w = .ok (denL e xs) w
 | [], K, h, hS, hA => ⟨[], h, by simp [denL]⟩
 | r :: rs, K, h, hS, hA => by
   obtain ⟨x, h1, h2⟩ := resOne_sound h hS hA;obtain ⟨xs, h3, h4⟩ := resL_sound h1 hS hA
   exact ⟨_, h3, by simp only [List.mapM_cons, Sem.run_bind, h2, h4, Result.andThen_ok, Sem.run_pure, denL]⟩
theorem results_of {fn : Func} {xs : List SV} {v : Value} (h : (fn.results.toList.mapM (semRes a)).run P w = .ok (denL e xs) w) (hv : valS (resV xs) = some v) :
 (results fn a.tmps).run P w = .ok v w := by
 have hr : (results fn a.tmps).run P w = .ok (if h : (denL e xs).toArray.size = 1 then (denL e xs).toArray[0] else .tuple (denL e xs).toArray) w := by
  have h2 : (fn.results.mapM (semRes a)).run P w = .ok (denL e xs).toArray w := by
   rw [Array.mapM_eq_mapM_toList, Sem.run_map, h];rfl
  unfold results;simp only [Sem.run_bind]
  show ((fn.results.mapM (semRes a)).run P w).andThen _ = _
  rw [h2];rfl
 rw [hr]
 congr 1
 have hd := (valS_den (e := e) hv).1
 match xs, hd with
 | [], hd => simpa [resV, den, denL] using hd
 | [x], hd => simpa [resV, denL] using hd
 | x :: y :: r, hd => simpa [resV, den, denL] using hd
theorem unmark_sound {fn : Func} {tmps : Array Value} {R : Ending -> World -> Prop} {Kf : St -> Prop} : ∀ {l : List Nat} {s : St} {w : World}, unmark l s Kf -> SatX c e s w ->
 (tmps.size = s.tm.length /\ ∀ (t : Nat) (sv : SV), s.tm[t]? = some sv -> isJunk sv = false -> tmps[t]? = some (den e sv)) ->
 (∀ (s2 : St) (w2 : World), Kf s2 -> SatX c e s2 w2 -> (tmps.size = s2.tm.length /\ ∀ (t : Nat) (sv : SV), s2.tm[t]? = some sv -> isJunk sv = false -> tmps[t]? = some (den e sv)) -> s2.I = s.I ->
   ∃ v, (results fn tmps).run P w2 = .ok v w2 /\ R (.returned v) w2) ->
 LeavesInM Fence.wide 0 P fn tmps R (l.map (mark e)) .returning w
 | [], s, w, h, hS, hT, hR => by
   simp only [unmark] at h;exact hR _ w h ⟨⟨hS.same, hS.size, hS.I, hS.hf, hS.old, hS.owned, hS.apart, hS.names⟩, hS.gIn, hS.gI, hS.gOwn⟩ hT rfl
 | id :: r, s, w, h, hS, hT, hR => by
   simp only [unmark] at h
   split at h
   · rename_i nm hH
     obtain ⟨⟨hnil, hb⟩, _⟩ := hS.owned id _ hH rfl
     simp only at hb
     have hrun := run_takeDeferred (P := P) hb;have hlt := (Array.getElem?_eq_some_iff.1 hb).1
     let a0 : Act := { tmps := tmps, defers := s.marks.map (mark e) }
     have hA0 : SatA e s a0 := ⟨hT.1, hT.2, rfl⟩
     obtain ⟨h1, h2⟩ := hS.toSat.store hA0 (w' := w.putObj (e.blk id) (.deferred none)) (obj := .dead) hH rfl hnil (by simp [World.putObj]) ⟨rfl, rfl, rfl⟩ (fun b hb => World.putObj_heap_other hb) trivial
     have hdead : ∀ {id' : Nat} {x : Ent}, (s.H.set id ⟨.dead, none⟩)[id']? = some x -> alive x.obj = true -> id' ≠ id /\ s.H[id']? = some x := by
      intro id' x hx hal
      rcases getElem?_set' hx with ⟨_, rfl, _⟩ | ⟨hne, hx⟩
      · cases hal
      · exact ⟨hne, hx⟩
     have hS2 : SatX c e { s with H := s.H.set id ⟨.dead, none⟩ } (w.putObj (e.blk id) (.deferred none)) := by
      refine ⟨⟨h1.same, h1.size, h1.I, h1.hf, h1.old, fun j x hx hal => ?_, fun i j x y hx hy hal1 hal2 => ?_, fun j x b hx hb => ?_⟩, fun b o hb => ?_, hS.gI, fun j x hx hal => ?_⟩
      · obtain ⟨hne, hx'⟩ := hdead hx hal
        exact h1.owned j x (by show (s.H.set id _)[j]? = some x; rw [List.getElem?_set_ne (Ne.symm hne)]; exact hx') hal
      · exact hS.apart i j x y (hdead hx hal1).2 (hdead hy hal2).2 hal1 hal2
      · rcases getElem?_set' hx with ⟨_, rfl, _⟩ | ⟨_, hx⟩
        · cases hb
        · exact hS.names j x b hx hb
      · have hne : b ≠ e.blk id := fun h => by
         have := hS.gOwn id _ hH rfl hnil;have hb' : s.G b = some o := hb;rw [h, this] at hb'
         cases hb'
        rw [World.putObj_heap_other hne];exact hS.gIn b o hb
      · exact hS.gOwn j x (hdead hx hal).2 hal
     refine ⟨by simp, .inl ⟨e.blk id, _, rfl, hrun, ?_⟩⟩
     exact unmark_sound h hS2 hT (fun s2 w2 hK2 hSx hTx hI => hR s2 w2 hK2 hSx hTx hI)
   · exact h.elim
theorem core_of_se {f : FuncId} {fn : Func} {cd : Code} {A : Ann} (hrd : A.rd = false) (hf : P.funcs[f]? = some fn) (hb : fn.body = some cd) {c : Ctx} {e0 : Env} {sargs : List SV} {H : List Ent} {I G : Mem} {W : World} {args : Array Value}
 (hargs : denL e0 sargs = args.toList) (hS : SatX c e0 (initX sargs H fn.ntmps I G) W) {Kf : St -> Prop} (h : se P A cd (initX sargs H fn.ntmps I G) (endX Kf)) {R : Ending -> World -> Prop}
 (hR : ∀ (e' : Env) (s' : St) (a' : Act) (w' : World), Kf s' -> SatX c e' s' w' -> SatA e' s' a' -> I.le s'.I -> ∃ v, (results fn a'.tmps).run P w' = .ok v w' /\ R (.returned v) w') :
 CallsIn Fence.wide 0 P f args W R := by
 have hlen : sargs.length = args.size := by
  have := congrArg List.length hargs;simpa [denL_eq] using this
 have hA : SatA e0 (initX sargs H fn.ntmps I G) { tmps := args ++ Array.replicate (fn.ntmps - args.size) undef, defers := [] } := by
  refine ⟨by simp [initX, hlen], fun t sv ht hj => ?_, rfl⟩
  simp only [initX, List.getElem?_append, List.getElem?_replicate] at ht;simp only [Array.getElem?_append, Array.getElem?_replicate]
  by_cases hlt : t < sargs.length
  · rw [if_pos hlt] at ht
    rw [if_pos (by omega)]
    have : (denL e0 sargs)[t]? = some (den e0 sv) := by rw [denL_eq, List.getElem?_map, ht]; rfl
    rw [hargs] at this;simpa using this
  · rw [if_neg hlt] at ht
    rw [if_neg (by omega)]
    split at ht
    · rename_i h2
      simp only [Option.some.injEq] at ht;subst ht
      rw [if_pos (by omega)]
      simp [den]
    · cases ht
 refine callsIn_of_wp_marks hf hb trivial ?_ rfl;refine se_sound (r := none) (c := c) (e := e0) cd h (fun x e' s' a' w' hK hS' hA' hle hlen => ?_) hS hA hrd
 have key : ∀ {x : SX}, (x = .norm \/ x = .ret) -> endX Kf x s' -> LeavesInM Fence.wide 0 P fn a'.tmps R a'.defers .returning w' := by
  intro x hx hK
  have hK : unmark s'.marks s' Kf := by rcases hx with rfl | rfl <;> exact hK
  rw [hA'.defers]
  exact unmark_sound hK hS' ⟨hA'.size, hA'.tm⟩ (fun s2 w2 hK2 hS2 hT hI2 => by
   obtain ⟨v, h1, h2⟩ := hR e' s2 { a' with defers := s2.marks.map (mark e') } w2 hK2 hS2 ⟨hT.1, hT.2, rfl⟩ (by rw [hI2]; exact hle)
   exact ⟨v, h1, h2⟩)
 cases x with
 | norm => exact key (.inl rfl) hK
 | ret => exact key (.inr rfl) hK
 | exit id => exact hK.elim
theorem callV_func {f : FuncId} {first cap given : Array Value} {args : List Value} {W : World} {R : Ending -> World -> Prop}
 (hcall : ∀ (args : Array Value) (w : World), (callFunc f args).run P w = .ok (.enter f args) w) (hargs : (first ++ given ++ cap).toList = args)
 (h : CallsIn Fence.wide 0 P f args.toArray W R) : CallV P (.func (.func f) first cap) given W R := by
 have hargs' : first ++ given ++ cap = args.toArray := by rw [<- hargs]
 have h1 : (semV (.func (.func f) first cap) given).run P W = .ok (.enter f args.toArray) W := by
  rw [run_semV_func, hcall, hargs']
 unfold CallV;rw [h1];exact h
theorem denL_vs (e : Env) : ∀ l : List Value, denL e (l.map .v) = l
 | [] => rfl
 | x :: xs => by simp [denL, den, denL_vs e xs]
theorem ctG_of_se {f : FuncId} {fn : Func} {cd : Code} {A : Ann} (hf : P.funcs[f]? = some fn) (hb : fn.body = some cd)
 (hcall : ∀ (args : Array Value) (w : World), (callFunc f args).run P w = .ok (.enter f args) w)
 {args : List Value} {first cap given : Array Value} (hargs : (first ++ given ++ cap).toList = args) {I G : Mem} {post : Value -> Mem -> Mem -> Prop}
 (h : se P A cd (initX (args.map .v) [] fn.ntmps I G) (endX (finG P fn post))) (hrd : A.rd = false := by rfl) : CtH P (.func (.func f) first cap) given I G post := by
 intro W hI hG hap;refine callV_func hcall hargs ?_
 let c : Ctx := { W0 := W, I0 := I, hf := fun b => if (G b).isNone then W.heap[b]? else none }
 let e0 : Env := { blk := fun _ => 0, cap := fun _ => 0, nil := fun _ => false }
 have hS : SatX c e0 (initX (args.map .v) [] fn.ntmps I G) W := by
  refine ⟨⟨Same.refl _, Nat.le_refl _, hI, fun b o hb => ?_, fun b _ h0 => h0, ?_, ?_, ?_⟩, hG, fun b hb => ⟨(hap b).resolve_right hb, ?_⟩, ?_⟩
  · simp only [c] at hb
    split at hb
    · exact hb
    · cases hb
  · intro id x hx; simp [initX] at hx
  · intro i j x y hx; simp [initX] at hx
  · intro id x b hx; simp [initX] at hx
  · simp only [c]
    rw [if_neg];intro hn
    exact hb (show G b = none by simpa using hn)
  · intro id x hx; simp [initX] at hx
 refine core_of_se hrd hf hb (by simpa using denL_vs e0 args) hS h (fun e' s' a' w' hK hS' hA' hle => ?_)
 obtain ⟨xs, h2, _⟩ := resL_sound hK hS'.toSat hA';obtain ⟨s2, h3, hS0, hA2, hle2, _, hls⟩ := hand_sound h2 hS'.toSat hA';have hS2 := hls.x hS' hS0;obtain ⟨ys, h4, h5⟩ := resL_sound h3 hS2.toSat hA2
 split at h4
 · rename_i v hv
   have hfb : ∀ b, b < W.heap.size -> G b = none -> c.hf b = W.heap[b]? := fun b _ hg => by simp [c, hg]
   have hne : ∀ b, b < W.heap.size -> G b = none -> c.hf b ≠ none := fun b hb hg => by rw [hfb b hb hg, Array.getElem?_eq_getElem hb]; simp
   refine ⟨v, results_of h5 hv, v, s2.I, s2.G, rfl, Mem.le_trans hle hle2, hS2.I, hS2.gIn, fun b => ?_, hS2.size, hS2.same, ?_, ?_, h4⟩
   · cases hg : s2.G b with
     | none => exact .inr rfl
     | some o => exact .inl (hS2.gI b (by rw [hg]; simp)).1
   · intro b hb hg
     have := hfb b hb hg;rw [Array.getElem?_eq_getElem hb] at this;rw [hS2.hf b _ this, Array.getElem?_eq_getElem hb]
   · intro b hb hg
     refine ⟨?_, fun h0 => hS2.old b (hne b hb hg) h0⟩
     cases hgb : s2.G b with
     | none => rfl
     | some o => exact absurd (hS2.gI b (by rw [hgb]; simp)).2 (hne b hb hg)
 · exact h4.elim
theorem ct_of_se {f : FuncId} {fn : Func} {cd : Code} {A : Ann} (hf : P.funcs[f]? = some fn) (hb : fn.body = some cd)
 (hcall : ∀ (args : Array Value) (w : World), (callFunc f args).run P w = .ok (.enter f args) w)
 {args : List Value} {first cap given : Array Value} (hargs : (first ++ given ++ cap).toList = args) {I : Mem} {post : Value -> Mem -> Prop}
 (h : se P A cd (initS args fn.ntmps I) (endX (finG P fn fun v I' _ => post v I'))) (hrd : A.rd = false := by rfl) : Ct P (.func (.func f) first cap) given I post :=
 ctG_of_se hf hb hcall hargs h hrd
end
end Go.SE
namespace Go.SE
open Go.RowKit
section
variable {P : Program} {c : Ctx} {e : Env} {s : St} {w : World} {a : Act}
def lentEnv (e : Env) (ids : List Nat) : Env := { blk := fun j => e.blk (ids.getD j 0), cap := fun j => e.cap (ids.getD j 0), nil := fun j => e.nil (ids.getD j 0) }
def lentMem (e : Env) (ids : List Nat) (w : World) : Mem := fun b => if ids.any (fun id => !e.nil id && e.blk id == b) then w.heap[b]? else none
theorem lentMem_dom {ids : List Nat} {b : Nat} (hb : lentMem e ids w b ≠ none) : ∃ id, id ∈ ids /\ e.nil id = false /\ e.blk id = b := by
 simp only [lentMem] at hb
 split at hb
 · rename_i hany
   obtain ⟨id, hid, h2⟩ := List.any_eq_true.1 hany;simp only [Bool.and_eq_true, Bool.not_eq_true', beq_iff_eq] at h2;exact ⟨id, hid, h2.1, h2.2⟩
 · exact absurd rfl hb
theorem lentMem_in {ids : List Nat} : (lentMem e ids w).inW w := fun b o hb => by
 simp only [lentMem] at hb
 split at hb
 · exact hb
 · cases hb
theorem own_lent (X : Sat c e s w) {ids : List Nat} {H0 : List Ent} (hH0 : entsAt s.H ids = some H0) (hnd : nodupB ids = true) (hin : H0.all (fun x => allIn ids (entRefs x)) = true) :
 OwnE (lentEnv e ids) (H0.map (renE fun i => posOf i ids)) (lentMem e ids w) := by
 obtain ⟨hl0, hat⟩ := entsAt_spec hH0
 have e1at : ∀ {j id : Nat}, ids[j]? = some id -> (lentEnv e ids).blk j = e.blk id /\ (lentEnv e ids).nil j = e.nil id /\ (lentEnv e ids).cap j = e.cap id := fun {j id} hj => by simp [lentEnv, List.getD_eq_getElem?_getD, hj]
 have hH1 : ∀ {j : Nat} {x : Ent}, (H0.map (renE fun i => posOf i ids))[j]? = some x -> ∃ id x0, ids[j]? = some id /\ H0[j]? = some x0 /\ s.H[id]? = some x0 /\ alive x0.obj = true /\ x = renE (fun i => posOf i ids) x0 := by
  intro j x hx;rw [List.getElem?_map, Option.map_eq_some_iff] at hx;obtain ⟨x0, hx0, rfl⟩ := hx
  have hjl : j < ids.length := by rw [<- hl0]; exact (List.getElem?_eq_some_iff.1 hx0).1
  obtain ⟨x0', h2, h3, h4⟩ := hat j ids[j] (List.getElem?_eq_getElem hjl);rw [hx0] at h2;cases h2;exact ⟨ids[j], x0, List.getElem?_eq_getElem hjl, hx0, h3, h4, rfl⟩
 refine ⟨fun j x hx hal => ?_, fun i j x y hx hy hal1 hal2 hn1 hn2 hij => ?_, fun b hb => ?_, fun j x b hx hb => ?_⟩
 · obtain ⟨id, x0, hid, hx0, hs0, hal0, rfl⟩ := hH1 hx
   obtain ⟨a1, a2, a3⟩ := e1at hid;refine holds_ren a1 a2 a3 (fun hnl o ho => ?_) (fun sv i ⟨cs, el, k, hcs, hk⟩ hr => ?_) (X.owned id x0 hs0 hal0).1
   · simp only [lentMem]
     rw [if_pos (List.any_eq_true.2 ⟨id, List.mem_of_getElem? hid, by simp [hnl]⟩)]
     exact ho
   · have hi : i ∈ ids := memB_true (List.all_eq_true.1 (List.all_eq_true.1 hin x0 (List.mem_of_getElem? hx0)) i (by
      simp only [entRefs, hcs];exact refsL_mem (refsL_of hk hr)))
     obtain ⟨b1, b2, b3⟩ := e1at (posOf_get hi);exact ⟨b1, b2, fun _ => b3⟩
 · obtain ⟨id, x0, hid, _, hs0, hal0, rfl⟩ := hH1 hx
   obtain ⟨id', y0, hid', _, hs0', hal0', rfl⟩ := hH1 hy;obtain ⟨a1, a2, _⟩ := e1at hid;obtain ⟨b1, b2, _⟩ := e1at hid';rw [a1, b1];refine X.apart id id' x0 y0 hs0 hs0' hal0 hal0' (a2 ▸ hn1) (b2 ▸ hn2) (fun hii => hij ?_);subst hii;rw [<- posOf_at hnd hid, <- posOf_at hnd hid']
 · obtain ⟨id, hid, hnl, rfl⟩ := lentMem_dom hb
   have hj := posOf_get hid;obtain ⟨x0, hx0, hs0, hal0⟩ := hat _ _ hj;obtain ⟨a1, a2, _⟩ := e1at hj
   refine ⟨posOf id ids, renE (fun i => posOf i ids) x0, by rw [List.getElem?_map, hx0]; rfl, by rw [(renE_alive _ x0).1]; exact hal0, a2.trans hnl, a1⟩
 · obtain ⟨id, x0, hid, hx0, hs0, hal0, rfl⟩ := hH1 hx
   obtain ⟨a1, a2, _⟩ := e1at hid;rw [(renE_alive _ x0).2] at hb;rw [a1, a2];exact X.names id x0 b hs0 hb
theorem ctS_of_se {f : FuncId} {fn : Func} {cd : Code} {A : Ann} (hf : P.funcs[f]? = some fn) (hb : fn.body = some cd)
 (hcall : ∀ (args : Array Value) (w : World), (callFunc f args).run P w = .ok (.enter f args) w) {fv : SV} {first cap args sargs : List SV}
 (hfv : ∀ e, den e fv = .func (.func f) (denL e first).toArray (denL e cap).toArray) (hargs : first ++ args ++ cap = sargs) {H : List Ent} {I : Mem} {outs : List Nat} {post : SV -> List Ent -> Mem -> Prop}
 (h : se P A cd (initX sargs H fn.ntmps I Mem.emp) (endX (finS P fn outs post))) (hrd : A.rd = false := by rfl) : CtS P fv args H I post := by
 intro e hp hO W hI hhp hap;rw [hfv e]
 refine callV_func hcall (args := denL e sargs) (by subst hargs; simp [denL_eq]) ?_
 let c : Ctx := { W0 := W, I0 := I, hf := fun b => if (hp b).isNone then W.heap[b]? else none }
 have hmem : ∀ {id : Nat} {x : Ent}, H[id]? = some x -> alive x.obj = true -> e.nil id = false -> hp (e.blk id) ≠ none := fun hx hal hn => holds_blk (hO.hold _ _ hx hal) hal hn
 have hfn : ∀ {b : Nat}, hp b ≠ none -> c.hf b = none := fun {b} hb => by
  simp only [c];rw [if_neg];intro hn
  exact hb (by simpa using hn)
 have hS : SatX c e (initX sargs H fn.ntmps I Mem.emp) W := by
  refine ⟨⟨Same.refl _, Nat.le_refl _, hI, fun b o hb => ?_, fun b _ h0 => h0, fun id x hx hal => ⟨?_, fun hn => ⟨?_, ?_⟩⟩, hO.apart, hO.names⟩, fun b o hb => (by cases hb), fun b hb => absurd rfl hb, fun id x hx hal hn => rfl⟩
  · simp only [c] at hb
    split at hb
    · exact hb
    · cases hb
  · refine holds_mem (fun hn => ?_) (hO.hold id x hx hal)
    obtain ⟨o, ho⟩ := Option.ne_none_iff_exists'.1 (hmem hx hal hn);rw [ho];exact hhp _ o ho
  · exact (hap _).resolve_right (hmem hx hal hn)
  · exact hfn (hmem hx hal hn)
 refine core_of_se hrd hf hb (by simp) hS h (fun e' s' a' w' hK hS' hA' hle => ?_)
 obtain ⟨xs, h2, _⟩ := resL_sound hK hS'.toSat hA';obtain ⟨s2, h3, hS0, hA2, hle2, _, hls⟩ := hand_sound h2 hS'.toSat hA';have hS2 := hls.x hS' hS0;obtain ⟨ys, h4, h5⟩ := resL_sound h3 hS2.toSat hA2
 split at h4
 case h_2 => exact h4.elim
 rename_i H0 hH0
 split at h4
 case isFalse => exact h4.elim
 rename_i hok;simp only [Bool.and_eq_true] at hok;obtain ⟨hnd, hin, hinH⟩ := hok;have hOwn := own_lent hS2.toSat hH0 hnd hinH;obtain ⟨hl0, hat⟩ := entsAt_spec hH0
 have hfb : ∀ b, b < W.heap.size -> hp b = none -> c.hf b = W.heap[b]? := fun b _ hg => by simp [c, hg]
 have hne : ∀ b, b < W.heap.size -> hp b = none -> c.hf b ≠ none := fun b hb hg => by rw [hfb b hb hg, Array.getElem?_eq_getElem hb]; simp
 have hown : ∀ {b : Nat}, lentMem e' outs w' b ≠ none -> s2.I b = none /\ c.hf b = none := by
  intro b hb;obtain ⟨id, hid, hnl, rfl⟩ := lentMem_dom hb;obtain ⟨x0, _, hs0, hal0⟩ := hat _ _ (posOf_get hid);exact (hS2.owned id x0 hs0 hal0).2 hnl
 have hres : (results fn a'.tmps).run P w' = .ok (den e' (resV ys)) w' := by
  have hr : (results fn a'.tmps).run P w' = .ok (if h : (denL e' ys).toArray.size = 1 then (denL e' ys).toArray[0] else .tuple (denL e' ys).toArray) w' := by
   have h6 : (fn.results.mapM (semRes a')).run P w' = .ok (denL e' ys).toArray w' := by
    rw [Array.mapM_eq_mapM_toList, Sem.run_map, h5];rfl
   unfold results;simp only [Sem.run_bind]
   show ((fn.results.mapM (semRes a')).run P w').andThen _ = _
   rw [h6];rfl
  rw [hr]
  congr 1
  match ys with
  | [] => simp [resV, den, denL]
  | [x] => simp [resV, denL]
  | x :: y :: r => simp [resV, den, denL]
 refine ⟨_, hres, _, s2.I, lentMem e' outs w', rfl, Mem.le_trans hle hle2, hS2.I, lentMem_in, fun b => ?_, hS2.size, hS2.same, ?_, ?_, lentEnv e' outs, _, _, ?_, hOwn, h4⟩
 · by_cases hb : lentMem e' outs w' b = none
   · exact .inr hb
   · exact .inl (hown hb).1
 · intro b hb hg
   have := hfb b hb hg;rw [Array.getElem?_eq_getElem hb] at this;rw [hS2.hf b _ this, Array.getElem?_eq_getElem hb]
 · intro b hb hg
   refine ⟨?_, fun h0 => hS2.old b (hne b hb hg) h0⟩
   by_cases hb2 : lentMem e' outs w' b = none
   · exact hb2
   · exact absurd (hown hb2).2 (hne b hb hg)
 · refine ((den_ren (e1 := lentEnv e' outs) (e := e') (f := fun i => posOf i outs) (x := resV ys) (fun i hi => ?_)).1).symm
   have hm : i ∈ outs := memB_true (List.all_eq_true.1 hin i (refs_mem hi));have hj := posOf_get hm;simp [lentEnv, List.getD_eq_getElem?_getD, hj]
theorem ctS_fn {f : FuncId} {fn : Func} {cd : Code} {A : Ann} (hf : P.funcs[f]? = some fn) (hb : fn.body = some cd)
 (hcall : ∀ (args : Array Value) (w : World), (callFunc f args).run P w = .ok (.enter f args) w) {args : List SV}
 {H : List Ent} {I : Mem} (outs : List Nat) {post : SV -> List Ent -> Mem -> Prop}
 (h : se P A cd (initX args H fn.ntmps I Mem.emp) (endX (finS P fn outs post))) (hrd : A.rd = false := by rfl) : CtS P (.v (fnv f)) args H I post :=
 ctS_of_se hf hb hcall (first := []) (cap := []) (fun e => by simp [den, fnv, denL]) (by simp) h hrd
end
end Go.SE
namespace Go.SE
open Go.RowKit
structure SlM (I : Mem) (a : Option Addr) (n sz : Nat) (xs : List Value) : Prop where
 len : xs.length = n * sz
 nil : a = none -> n = 0
 max : n <= maxLen
 at_ : ∀ (j : Nat) (v : Value), xs[j]? = some v -> atI I a j = some v
theorem SlM.mono {I J : Mem} {a : Option Addr} {n sz : Nat} {xs : List Value} (h : SlM I a n sz xs) (hle : I.le J) : SlM J a n sz xs :=
 ⟨h.len, h.nil, h.max, fun j v hj => atI_le hle (h.at_ j v hj)⟩
theorem RowM.sl {I : Mem} {a : Option Addr} {cp sz n : Nat} {xs : List Value} (h : RowM I a cp sz xs) (hz : 0 < sz) (hn : xs.length = n * sz) : SlM I a n sz xs := by
 obtain ⟨h1, h2, h3, h4⟩ := h;refine ⟨hn, fun ha => ?_, ?_, h4⟩
 · rw [(h3 ha).1] at hn
   simp only [List.length_nil] at hn
   rcases Nat.mul_eq_zero.1 hn.symm with h | h
   · exact h
   · omega
 · rw [hn] at h1
   have := Nat.le_of_mul_le_mul_right h1 hz;omega
theorem SlM.isSome {I : Mem} {a : Option Addr} {n sz : Nat} {xs : List Value} (h : SlM I a n sz xs) (hn : 0 < n) : a.isSome = true := by
 cases ha : a with
 | none => have := h.nil ha; omega
 | some x => rfl
def ints (k : IntKind) (l : List Int) : List Value := l.map (.int k)
theorem ints_get {k : IntKind} {l : List Int} {j : Nat} {x : Int} (h : l[j]? = some x) : (ints k l)[j]? = some (.int k x) := by simp [ints, h]
theorem ints_len {k : IntKind} {l : List Int} : (ints k l).length = l.length := by simp [ints]
theorem wr_i64 {n : Int} {K : Int -> Prop} (h0 : -9223372036854775808 <= n) (h1 : n <= 9223372036854775807) (h : K n) : Wr .i64 n K :=
 ⟨n, IntWalk.i64_in n ⟨h0, h1⟩, h⟩
theorem sl_cells {I : Mem} {b n sz : Nat} {cs : Array Value} {el : TypeId} (h : I b = some (.cells cs el)) (hn : cs.size = n * sz) (hm : n <= maxLen) : SlM I (some ⟨b, 0, none⟩) n sz cs.toList := by
 refine ⟨by rw [Array.length_toList, hn], fun h => (by cases h), hm, fun j v hj => ?_⟩
 rw [Array.getElem?_toList] at hj
 cases j with
 | zero => simp [atI, cellM, Addr.add, h, hj]
 | succ k => simp [atI, cellM, Addr.add, h, hj]
theorem sl_nil (I : Mem) (sz : Nat) : SlM I none 0 sz [] := ⟨by simp, fun _ => rfl, Nat.zero_le _, fun j v hj => by simp at hj⟩
end Go.SE
namespace Go.SE
open Go.RowKit
theorem ct_of_calls {P : Program} {f : FuncId} {args : Array Value} {I : Mem} {post : Value -> Prop}
 (hcall : ∀ (args : Array Value) (w : World), (callFunc f args).run P w = .ok (.enter f args) w)
 (h : ∀ w : World, I.inW w -> Calls P f args w fun e w' => (∃ v, e = .returned v /\ post v) /\ Below w.heap.size w w') : Ct P (fnv f) args I fun v _ => post v := by
 intro W hI _ _
 refine callV_func hcall (args := args.toList) (by simp) (callsIn_wide.2 ?_)
 refine (h W hI).mono ?_;rintro e w' ⟨⟨v, he, hp⟩, hb⟩;refine ⟨v, I, Mem.emp, he, Mem.le_refl _, fun b o hbo => ?_, Mem.emp_inW _, fun b => .inr rfl, hb.size, ⟨hb.os, hb.tape, hb.output⟩, fun b hlt _ => hb.block b hlt, fun b _ _ => ⟨rfl, fun h => h⟩, hp⟩;rw [hb.block b (Mem.inW_lt hI hbo)];exact hI b o hbo
theorem calls_of_ct {P : Program} {f : FuncId} {args : Array Value} {I : Mem} {post : Value -> Mem -> Prop} {w : World}
 (hcall : ∀ (args : Array Value) (w : World), (callFunc f args).run P w = .ok (.enter f args) w)
 (h : Ct P (fnv f) args I post) (hI : I.inW w) : Calls P f args w fun e w' => (∃ v I', e = .returned v /\ post v I') /\ Below w.heap.size w w' := by
 have h1 := h w hI (Mem.emp_inW w) (fun b => .inr rfl)
 have h2 : (semV (fnv f) args).run P w = .ok (.enter f args) w := by
  rw [fnv, run_semV_func, hcall]; simp
 unfold CallV at h1;rw [h2] at h1;refine (callsIn_wide.1 h1).mono ?_;rintro e w' ⟨v, I', hp', he, _, _, _, _, h4, h5, h6, _, h8⟩;exact ⟨⟨v, I', he, h8⟩, h5.os, h5.tape, h5.output, h4, fun b hb => h6 b hb rfl⟩
theorem Gives.enc {P : Program} {fv : Value} {I : Mem} {n : Nat} {enc enc' : Nat -> Array Value -> Mem -> Prop} (h : Gives P fv I n enc)
 (he : ∀ k args I, k < n -> enc k args I -> enc' k args I) : Gives P fv I n enc' :=
 ⟨h.1, fun Y J D I0 G0 hI0 hJ0 hJ hD hY => h.2 Y J D I0 G0 hI0 hJ0 hJ hD fun k I' G args hk hle hj hen => hY k I' G args hk hle hj (he k args I' hk hen)⟩
theorem Gives.mono {P : Program} {fv : Value} {I I' : Mem} {n : Nat} {enc : Nat -> Array Value -> Mem -> Prop} (h : Gives P fv I n enc) (hle : I.le I') : Gives P fv I' n enc :=
 ⟨h.1, fun Y J D I0 G0 hI0 hJ0 hJ hD hY => h.2 Y J D I0 G0 (Mem.le_trans hle hI0) hJ0 hJ hD hY⟩
theorem Br.t {t : Bool} {A B : Prop} (h : t = true) (a : A) : Br t A B := by rw [h]; exact a
theorem Br.f {t : Bool} {A B : Prop} (h : t = false) (b : B) : Br t A B := by rw [h]; exact b
theorem SlM.cell {I : Mem} {w : World} {a : Addr} {n sz : Nat} {xs : List Value} (h : SlM I (some a) n sz xs) (hI : I.inW w) {j : Nat} {v : Value} (hj : xs[j]? = some v) : w.cell? (a.add j) = some v := by
 have := h.at_ j v hj;simp only [atI, Option.bind_some] at this;exact cellM_world hI this
theorem filt_lt {α : Type} {p q : α -> Bool} : ∀ {l : List α}, (∀ x, q x = true -> p x = true) -> ∀ {y : α}, y ∈ l -> p y = true -> q y = false -> (l.filter q).length < (l.filter p).length
 | [], _, y, hy, _, _ => by cases hy
 | x :: r, h, y, hy, h1, h2 => by
   have hle : ∀ r : List α, (r.filter q).length <= (r.filter p).length := fun r => by
    induction r with
    | nil => simp
    | cons z r ih =>
      cases hq : q z with
      | true => simp [hq, h z hq, ih]
      | false => cases hp : p z <;> simp [hq, hp] <;> omega
   rcases List.mem_cons.1 hy with rfl | hy
   · simp only [List.filter_cons, h1, h2, if_true, Bool.false_eq_true, if_false, List.length_cons]
     have := hle r;omega
   · have ih := filt_lt h hy h1 h2
     cases hq : q x with
     | true => simp [hq, h x hq, ih]
     | false => cases hp : p x <;> simp [hq, hp] <;> omega
theorem left_lt {es : Array MapEntry} {seen : Array Nat} {y : MapEntry} (hy : y ∈ es.toList) (hs : seen.contains y.born = false) : (leftOf es (seen.push y.born)).size < (leftOf es seen).size := by
 unfold leftOf
 have hsz : ∀ p : MapEntry -> Bool, (es.filter p).size = (es.toList.filter p).length := fun p => by rw [<- Array.toList_filter, Array.length_toList]
 rw [hsz, hsz]
 refine filt_lt (fun x hx => ?_) hy (by simp only [hs, Bool.not_false]) (by simp)
 simp only [Bool.not_eq_true', Array.contains_push, Bool.or_eq_false_iff] at hx ⊢;exact hx.1
theorem str_eq (a b : ByteArray) : (a.toList == b.toList) = decide (a = b) := by
 rw [Go.ByteArray.toList_eq, Go.ByteArray.toList_eq]
 by_cases h : a = b
 · subst h; simp
 · simp only [h, decide_false, beq_eq_false_iff_ne, ne_eq]
   intro hh;exact h (ByteArray.ext (Array.toList_inj.1 hh))
abbrev Rf.{u} {α : Sort u} (x : α) : Prop := x = x
theorem viaR {A C : Prop} (k : A -> C) (B : Prop) (h : A = B) (b : B) : C := k (h ▸ b)
theorem ct_via {P : Program} {f : FuncId} {fn : Func} {cd : Code} {A : Ann} (hf : P.funcs[f]? = some fn) (hb : fn.body = some cd)
 (hcall : ∀ (args : Array Value) (w : World), (callFunc f args).run P w = .ok (.enter f args) w)
 {args : List Value} {first cap given : Array Value} (hargs : (first ++ given ++ cap).toList = args) (hrd : A.rd = false) {I : Mem} {post : Value -> Mem -> Prop}
 (h : se P A cd (initS args fn.ntmps I) (endX (finG P fn fun v I' _ => post v I'))) : Ct P (.func (.func f) first cap) given I post :=
 ct_of_se hf hb hcall hargs h hrd
theorem ctG_via {P : Program} {f : FuncId} {fn : Func} {cd : Code} {A : Ann} (hf : P.funcs[f]? = some fn) (hb : fn.body = some cd)
 (hcall : ∀ (args : Array Value) (w : World), (callFunc f args).run P w = .ok (.enter f args) w)
 {args : List Value} {first cap given : Array Value} (hargs : (first ++ given ++ cap).toList = args) (hrd : A.rd = false) {I G : Mem} {post : Value -> Mem -> Mem -> Prop}
 (h : se P A cd (initX (args.map .v) [] fn.ntmps I G) (endX (finG P fn post))) : CtH P (.func (.func f) first cap) given I G post :=
 ctG_of_se hf hb hcall hargs h hrd
theorem ctS_via {P : Program} {f : FuncId} {fn : Func} {cd : Code} {A : Ann} (hf : P.funcs[f]? = some fn) (hb : fn.body = some cd)
 (hcall : ∀ (args : Array Value) (w : World), (callFunc f args).run P w = .ok (.enter f args) w) {args : List SV}
 {H : List Ent} {I : Mem} (outs : List Nat) {post : SV -> List Ent -> Mem -> Prop} (hrd : A.rd = false)
 (h : se P A cd (initX args H fn.ntmps I Mem.emp) (endX (finS P fn outs post))) : CtS P (.v (fnv f)) args H I post :=
 ctS_fn hf hb hcall outs h hrd
theorem lit_wf {k : IntKind} {n : Int} (h : (Lit.int k n).wf = true) : k.min <= n /\ n <= k.max := by
 simp only [Lit.wf, Bool.and_eq_true, decide_eq_true_eq] at h;exact h
end Go.SE
namespace Go.SE
open Go.RowKit
structure RowF (I I' : Mem) (a : Option Addr) (cp sz : Nat) (xs : List Value) (el : TypeId) : Prop where
 row : RowM I' a cp sz xs
 new : ∀ ad, a = some ad -> I ad.block = none /\ ad.off = 0 /\ ad.spot = none /\ ∃ (c : Array Value) (fz : Nat × Nat), I' ad.block = some (.cells c el fz) /\ thaw fz c.size /\ c.size = cp * sz
section
variable {P : Program} {c : Ctx} {e : Env} {s : St} {w : World} {a : Act}
def both (I G : Mem) : Mem := fun b => match I b with
 | some o => some o
 | none => G b
end
end Go.SE
namespace Go.SE
open Go.RowKit Go.ChangeShapes Go.WideShapes Go.ChangeAt Go.ChangeMaps
def memW (w : World) : Mem := fun b => w.heap[b]?
theorem memW_in (w : World) : (memW w).inW w := fun _ _ h => h
theorem memW_at (w : World) (a : Addr) (j : Nat) : atI (memW w) (some a) j = w.cell? (a.add j) := rfl
section
variable {H : Type} {enc : TypeId × Value -> H} {P : Program} {W W' : World}
theorem opSl {t e : TypeId} {k : IntKind} {r : Reach} {b0 : Nat} {v : Value} {d : DataW H} {ps : List MemPlace} (ht : P.underlying t = some (.slice e)) (he : P.underlying e = some (.int k)) (hc : P.cellsOf e = 1)
 (hval : Value.okWide P W r b0 t v) (hd : DataW.Trod enc P W 0 (fun _ => true) true t v d ps) :
 ∃ (a : Option Addr) (n c : Nat) (zs : List Int), v = .slice a n c /\ SlM (memW W) a n 1 (ints k zs) /\ n <= c /\ c <= maxLen /\ ∀ z ∈ zs, k.min <= z /\ z <= k.max := by
 obtain ⟨a, n, c, rfl⟩ := okWide_slice ht hval;obtain ⟨fuel, hf⟩ := hd
 rcases open_ints ht he hc hf with ⟨hcs, _⟩ | ⟨a', len, cap, zs, hcs, _, hl, hm, hz, _, hcell, hwz⟩
 · simp [Value.cells] at hcs
   obtain ⟨rfl, rfl, rfl⟩ := hcs
   exact ⟨none, 0, 0, [], rfl, sl_nil _ _, Nat.le_refl _, Nat.zero_le _, fun z hz => by cases hz⟩
 · simp [Value.cells] at hcs
   obtain ⟨rfl, rfl, rfl⟩ := hcs;simp only [if_true] at hz
   refine ⟨some a', n, c, zs.take n, rfl, ⟨by simp [ints]; omega, fun h => (by cases h), by omega, fun j y hj => ?_⟩, hl, hm, fun z hz => lit_wf (hwz z (List.mem_of_mem_take hz))⟩
   rw [memW_at];simp only [ints, List.getElem?_map, Option.map_eq_some_iff] at hj;obtain ⟨z, hj, rfl⟩ := hj;rw [List.getElem?_take] at hj
   split at hj
   · rename_i hjn
     rw [hcell j (by omega)]
     simp [List.getD_eq_getElem?_getD, hj]
   · cases hj
theorem trodAll_below (hl : laidOutB P = true) (hb : Below W.heap.size W W') : ∀ {ts : List TypeId} {vs : List Value} {ds : List (DataW H)} {ps : List MemPlace}, (ts.all fun t => P.readableRec t && decide (t < P.types.size)) = true ->
 DataW.TrodAll enc P W 0 (fun _ => true) true ts vs ds ps -> (∀ x ∈ ps, x.block < W.heap.size) -> DataW.TrodAll enc P W' 0 (fun b => decide (b < W.heap.size)) true ts vs ds ps
 | [], vs, ds, ps, _, h, _ => by
   obtain ⟨rfl, rfl, rfl⟩ := trodAll_nil h;exact trodAll_mk0
 | t :: ts, vs, ds, ps, hp, h, hlt => by
   obtain ⟨v, vs', d, ds', p, q, rfl, rfl, rfl, h1, h2⟩ := trodAll_cons h;simp only [List.all_cons, Bool.and_eq_true, decide_eq_true_eq] at hp;exact trodAll_cons_mk (Below.trod hl hp.1.1 hp.1.2 h1 hb fun x hx => hlt x (List.mem_append_left _ hx)) (trodAll_below hl hb hp.2 h2 fun x hx => hlt x (List.mem_append_right _ hx))
end
end Go.SE
namespace Go.SE
open Go.RowKit Go.ChangeShapes Go.WideShapes Go.ChangeAt Go.ChangeMaps
def byteL (bs : List Int) : Prop := ∀ z ∈ bs, 0 <= z /\ z <= 255
theorem list_choice {α : Type} {Q : Nat -> α -> Prop} : ∀ (n : Nat), (∀ i, i < n -> ∃ b, Q i b) -> ∃ l : List α, l.length = n /\ ∀ i b, l[i]? = some b -> Q i b
 | 0, _ => ⟨[], rfl, fun i b h => by simp at h⟩
 | n + 1, h => by
   obtain ⟨l, hl, hq⟩ := list_choice n fun i hi => h i (by omega)
   obtain ⟨b, hb⟩ := h n (by omega)
   refine ⟨l ++ [b], by simp [hl], fun i c hc => ?_⟩
   by_cases hi : i < n
   · rw [List.getElem?_append_left (by omega)] at hc
     exact hq i c hc
   · have hlt := (List.getElem?_eq_some_iff.1 hc).1
     simp [hl] at hlt
     have : i = n := by omega
     subst this
     rw [List.getElem?_append_right (by omega), hl, Nat.sub_self] at hc
     cases hc;exact hb
section
variable {H : Type} {enc : TypeId × Value -> H} {P : Program} {W : World}
end
end Go.SE
namespace Go.SE
open Go.RowKit Go.ChangeShapes Go.WideShapes Go.ChangeAt Go.ChangeMaps
def OpC (P : Program) (W : World) (t : TypeId) (Q : List Value -> Prop) : Prop :=
 ∀ (H : Type) (enc : TypeId × Value -> H) (fuel : Nat) (cs : List Value) (d : DataW H) (ps : List MemPlace), DataW.trod enc P W 0 (fun _ => true) true fuel t cs = some (d, ps) -> (∀ n ∈ d.weights P t, n <= reachBytes) -> Q cs
section
variable {P : Program} {W : World} {t e : TypeId}
theorem opc_int {k : IntKind} (ht : P.underlying t = some (.int k)) : OpC P W t fun cs => ∃ n, cs = [.int k n] /\ k.min <= n /\ n <= k.max := by
 intro H enc fuel cs d ps h _;obtain ⟨n, h1, _, h2⟩ := DataW.trod_int ht h;exact ⟨n, h1, lit_wf h2⟩
theorem weights_all {H : Type} {ds : List (DataW H)} {i : Nat} {d : DataW H} (hd : ds[i]? = some d) : ∀ n ∈ d.weights P e, n ∈ DataW.weightsAll P e ds := by
 induction ds generalizing i with
 | nil => simp at hd
 | cons x r ih =>
   intro n hn;rw [DataW.weightsAll]
   cases i with
   | zero =>
     simp at hd; subst hd
     exact List.mem_append_left _ hn
   | succ i => exact List.mem_append_right _ (ih (by simpa using hd) n hn)
theorem opc_slice {m : Nat} {Q : List Value -> Prop} (hm0 : 0 < m) (ht : P.underlying t = some (.slice e)) (hc : P.cellsOf e = m) (he : OpC P W e Q) :
 OpC P W t fun cs => ∃ (a : Option Addr) (n c : Nat) (xs : List Value), cs = [.slice a n c] /\ n <= c /\ c <= maxLen /\ SlM (memW W) a n m xs /\ n * P.bytesOf e <= reachBytes /\ ∀ i, i < n -> Q ((xs.drop (i * m)).take m) := by
 intro H enc fuel cs d ps h hw
 rcases DataW.trod_slice ht h with ⟨hcs, _⟩ | ⟨a, len, cap, elems, rest, k, _, hcs, hx, _, hl, hm, hlen, hel, _, _⟩
 · exact ⟨none, 0, 0, [], hcs, Nat.le_refl _, Nat.zero_le _, sl_nil _ _, by simp, fun i hi => by omega⟩
 · cases hx
   rw [hc] at hel
   have each : ∀ i, i < len -> ∃ ys, ys.length = m /\ (∀ j, j < m -> W.cell? ((a.add (i * m)).add j) = ys[j]?) /\ Q ys := fun i hi => by
    have h1 := hel i hi
    have h2 : elems[i]? = some elems[i] := List.getElem?_eq_getElem (by omega)
    rw [h2, Option.bind_eq_some_iff] at h1;obtain ⟨ys, h3, h4⟩ := h1;obtain ⟨_, h5, h6⟩ := World.cells?_some h3;refine ⟨ys, h5, h6, he H enc k ys elems[i].1 elems[i].2 h4 fun n hn => hw n ?_⟩
    have : (elems.map (·.1))[i]? = some elems[i].1 := by rw [List.getElem?_map, h2]; rfl
    simp only [DataW.weights, ht, List.mem_cons, List.mem_append];exact .inr (.inl (weights_all this n hn))
   have cellAt : ∀ j, j < len * m -> ∃ v, W.cell? (a.add j) = some v := fun j hj => by
    have hd : j / m < len := (Nat.div_lt_iff_lt_mul hm0).2 hj;obtain ⟨ys, h1, h2, _⟩ := each (j / m) hd;have h3 := h2 (j % m) (Nat.mod_lt _ hm0)
    have hm' : j % m < ys.length := by rw [h1]; exact Nat.mod_lt _ hm0
    rw [List.getElem?_eq_getElem hm', add_add, Nat.mul_comm (j / m) m, Nat.div_add_mod] at h3;exact ⟨_, h3⟩
   obtain ⟨xs, hxl, hxs⟩ := list_choice (Q := fun j v => W.cell? (a.add j) = some v) (len * m) cellAt
   refine ⟨some a, len, cap, xs, hcs, hl, hm, ⟨hxl, fun h => (by cases h), by omega, fun j v hj => ?_⟩, ?_, fun i hi => ?_⟩
   · rw [memW_at]; exact hxs j v hj
   · have := hw (((elems.map (·.1)).length + (rest.map (·.1)).length) * P.bytesOf e) (by simp [DataW.weights, ht])
     simp only [List.length_map] at this
     exact Nat.le_trans (Nat.mul_le_mul_right _ (by omega)) this
   · obtain ⟨ys, h1, h2, h3⟩ := each i hi
     have him : i * m + m <= len * m := by rw [<- Nat.succ_mul]; exact Nat.mul_le_mul_right m hi
     have : (xs.drop (i * m)).take m = ys := by
      apply List.ext_getElem?;intro j;rw [List.getElem?_take];split
      · rename_i hj
        have h4 := h2 j hj
        rw [List.getElem?_drop, List.getElem?_eq_getElem (by omega : i * m + j < xs.length)]
        have h5 := hxs (i * m + j) _ (List.getElem?_eq_getElem (by omega))
        rw [add_add] at h4;rw [<- h4, h5]
      · rw [List.getElem?_eq_none (by omega)]
     rw [this]; exact h3
inductive OpFs (P : Program) (W : World) : List Field -> List (Nat × Nat × (List Value -> Prop)) -> Prop
 | nil : OpFs P W [] []
 | cons {f : Field} {fs : List Field} {o s : Nat} {Q : List Value -> Prop} {l : List (Nat × Nat × (List Value -> Prop))} : f.offset = o -> P.cellsOf f.type = s -> OpC P W f.type Q -> OpFs P W fs l -> OpFs P W (f :: fs) ((o, s, Q) :: l)
def allQ (cs : List Value) : List (Nat × Nat × (List Value -> Prop)) -> Prop
 | [] => True
 | (o, s, Q) :: l => Q ((cs.drop o).take s) /\ allQ cs l
theorem allQ_of {H : Type} {enc : TypeId × Value -> H} {n : Nat} {cs : List Value} : ∀ {fs : List Field} {l : List (Nat × Nat × (List Value -> Prop))} {xs : List (DataW H × List MemPlace)}, OpFs P W fs l -> xs.length = fs.length ->
 (∀ (i : Nat) (f : Field), fs[i]? = some f -> DataW.trod enc P W 0 (fun _ => true) true n f.type ((cs.drop f.offset).take (P.cellsOf f.type)) = xs[i]?) -> (∀ k ∈ DataW.weightsEach P (fs.map (·.type)) (xs.map (·.1)), k <= reachBytes) -> allQ cs l
 | [], _, xs, .nil, _, _, _ => trivial
 | f :: fs, _, x :: xs, .cons (s := s) (o := o) h1 h2 h3 h4, hl, h, hw => by
   subst h1; subst h2
   have h0 := h 0 f rfl
   refine ⟨h3 H enc n _ x.1 x.2 h0 fun k hk => hw k ?_, allQ_of h4 (by simpa using hl) (fun i g hg => by simpa using h (i + 1) g (by simpa using hg)) fun k hk => hw k ?_⟩
   · simp only [List.map_cons, DataW.weightsEach, List.mem_append]; exact .inl hk
   · simp only [List.map_cons, DataW.weightsEach, List.mem_append]; exact .inr hk
theorem opc_struct {fs : Array Field} {l : List (Nat × Nat × (List Value -> Prop))} {m : Nat} (ht : P.underlying t = some (.struct fs)) (hc : P.cellsOf t = m) (hf : OpFs P W fs.toList l) :
 OpC P W t fun cs => cs.length = m /\ allQ cs l := by
 intro H enc fuel cs d ps h hw;obtain ⟨xs, n, _, hx, h1, h2, h3⟩ := DataW.trod_struct ht h;cases hx
 refine ⟨by rw [h1, hc], allQ_of hf (by simpa using h2) (fun i f hi => h3 i f (by simpa using hi)) fun k hk => hw k ?_⟩
 simpa [DataW.weights, ht] using hk
theorem OpC.mono {Q Q' : List Value -> Prop} (h : OpC P W t Q) (hq : ∀ cs, Q cs -> Q' cs) : OpC P W t Q' := fun H enc fuel cs d ps hd hw => hq cs (h H enc fuel cs d ps hd hw)
theorem opc_top_slice {H : Type} {enc : TypeId × Value -> H} {Q : List Value -> Prop} {r : Reach} {b0 : Nat} {v : Value} {d : DataW H} {ps : List MemPlace} (h : OpC P W t Q) (ht : P.underlying t = some (.slice e)) (hval : Value.okWide P W r b0 t v)
 (hd : DataW.Trod enc P W 0 (fun _ => true) true t v d ps) (hw : ∀ n ∈ d.weights P t, n <= reachBytes) : Q [v] := by
 obtain ⟨a, n, c, rfl⟩ := okWide_slice ht hval;obtain ⟨fuel, hf⟩ := hd;exact h H enc fuel _ d ps hf hw
theorem weights_at {H : Type} {ts us : List TypeId} {ds : List (DataW H)} (h : (DataW.weightsEach P (ts ++ us) (ds ++ [])).all (· <= reachBytes) = true) {j : Nat} {d : DataW H} (ht : ts[j]? = some t) (hd : ds[j]? = some d) : ∀ n ∈ d.weights P t, n <= reachBytes := fun n hn => by
 rw [List.append_nil] at h;have hl := (List.getElem?_eq_some_iff.1 ht).1
 have := List.all_eq_true.1 h _ (DataW.weights_mem_each (ts := ts ++ us) (by rw [List.getElem?_append_left hl]; exact ht) hd n hn)
 simpa using this
end
end Go.SE
namespace Go.SE
open Go.RowKit Go.ChangeShapes Go.WideShapes Go.ChangeAt
theorem returns_laid {H : Type} {enc : TypeId × Value -> H} {a : Assume} {C : Checked} {os : Os} {f : FuncId} {fn : Func} {s : ChangeSpec} {conds : List PathCond} {apart fresh handsOn again : Bool} {X : World -> Array Value -> Prop}
 (hX : ∀ (w w' : World) (args : Array Value), w.heap = w'.heap -> X w args -> X w' args)
 (own : ownKnob C.prog.godebug = none) (started : os.Started) (noInit : C.prog.inits.idxOf? f = none) (hfn : C.prog.funcs[f]? = some fn)
 (witness : ∃ (w : World) (tape : Tape) (i : Input), w.os = os /\ (w.forCall tape i).Shaped C.prog /\ i.vars = [] /\ Input.okWide C.prog (w.forCall tape i) .any w.heap.size f i /\
   ((s.pre enc C.prog fn conds apart (w.forCall tape i).memory i.args /\ X (w.forCall tape i).memory i.args) /\ sizedMet enc C.prog fn (OpenSpec.ofChange s) apart (w.forCall tape i).memory i.args) /\ a.holds C.prog (lone (Frame.enter C.prog f i.args .normal) [] (w.forCall tape i)))
 (contract : ∀ (W : World) (base : Nat) (args : Array Value) (ds gs : List (DataW H)) (before : List MemPlace),
   (∀ (j : Nat) t v, fn.params[j]? = some t -> args[j]? = some v -> Value.okWide C.prog W .any base t v) ->
   DataW.Whole enc C.prog fn.params.toList s.vars apart W args.toList ds gs before ->
   (DataW.weightsEach C.prog (fn.params.toList ++ s.plain.varTypes C.prog) (ds ++ gs)).all (· <= reachBytes) = true -> X W args -> W.ShapedOpen C.prog ->
   Calls C.prog f args W fun e W' => ∃ v, e = .returned v /\ s.post enc C.prog fn apart fresh handsOn again W args v W') :
 ReturnsInHanded a C os f .any (fun w args => (s.pre enc C.prog fn conds apart w args /\ X w args) /\ sizedMet enc C.prog fn (OpenSpec.ofChange s) apart w args) (s.post enc C.prog fn apart fresh handsOn again) := by
 refine returnsInHanded_of_calls own started noInit witness ?_;intro w tape i _ hsh _ hok hpre hholds;obtain ⟨_, _, _, fn', hfn', _, _, _, _, hval⟩ := hok;have e : fn' = fn := Option.some.inj (hfn'.symm.trans hfn);subst e;obtain ⟨⟨⟨ds, gs, before, hw, hc⟩, hx⟩, hz⟩ := hpre
 have hw' := DataW.Whole.of_heap (w' := w.forCall tape i) (by rfl) hw
 refine (contract (w.forCall tape i) w.heap.size i.args ds gs before hval hw' (hz.weights hw) (hX _ _ _ (by rfl) hx) hsh).mono fun e W' ⟨v, he, hp⟩ => ?_
 subst he;exact ChangeSpec.post_blind hp
end Go.SE
namespace Go.SE
open Go.RowKit
end Go.SE
namespace Go.SE
open Go.RowKit
def RowN (sz : Nat) (el : TypeId) (I I' : Mem) (v : Value) (xs : List Value) : Prop :=
 ∃ a n c, v = .slice a n c /\ xs.length = n * sz /\ ((a = none /\ n = 0 /\ c = 0) \/ RowF I I' a c sz xs el)
theorem cts_new {P : Program} {fv : Value} {args : List Value} {I : Mem} {sz : Nat} {el : TypeId} {xs : List Value} {n : Nat} (hz : 0 < sz) (hn : xs.length = n * sz) (h : Ct P fv args.toArray I (fun v I' => RowN sz el I I' v xs)) :
 CtS P (.v fv) (args.map .v) [] I (fun sv H' _ => sv = .rsl 0 n /\ H' = [⟨.row xs sz el, none⟩]) := by
 intro e hp hO
 have hp0 : hp = Mem.emp := by
  funext b
  cases hb : hp b with
  | none => rfl
  | some o =>
    obtain ⟨id, x, hx, _⟩ := hO.dom b (by rw [hb]; simp)
    simp at hx
 subst hp0
 have ha : (denL e (args.map SV.v)).toArray = args.toArray := by
  rw [denL_eq, List.map_map]
  congr 1
  conv => rhs; rw [<- List.map_id args]
  exact List.map_congr_left fun x _ => by simp [den]
 rw [ha, show den e (.v fv) = fv by simp [den]]
 intro W hI hG hap;refine (h W hI (Mem.emp_inW W) (Mem.apart_emp _)).mono ?_;rintro en W' ⟨v, I1, hp', rfl, h1, h2, h3, h4, h5, h6, h7, h8, ⟨a, m, c, rfl, hm, hr⟩⟩;have hmn : m = n := Nat.eq_of_mul_eq_mul_right hz (hm.symm.trans hn);subst hmn
 have nilC : a = none -> m = 0 -> c = 0 -> xs = [] -> _ := fun ha hm0 hc hx => by
  subst ha hm0 hc hx
  exact (⟨_, I, Mem.emp, rfl, Mem.le_refl _, Mem.inW_of_le h1 h2, Mem.emp_inW _, Mem.apart_emp _, h5, h6, fun b hb _ => h7 b hb rfl, fun b hb _ => ⟨rfl, id⟩,
   { e with nil := fun _ => true, cap := fun _ => 0 }, .rsl 0 0, _, by simp [den], ⟨fun id x hx hal => by
     cases id with
     | zero =>
       simp only [List.getElem?_cons_zero, Option.some.injEq] at hx;subst hx
       exact ⟨hz, ⟨0, by simp⟩, .inl ⟨rfl, rfl, rfl⟩⟩
     | succ k => simp at hx, fun i j x y hx hy _ _ hni => by simp at hni, fun b hb => absurd rfl hb, fun id x b hx hb => by
     cases id with
     | zero =>
       simp only [List.getElem?_cons_zero, Option.some.injEq] at hx;subst hx;cases hb
     | succ k => simp at hx⟩, rfl, rfl⟩ : SE.Ends I Mem.emp W (fun v I' hp' => ∃ e' sv H', v = den e' sv /\ OwnE e' H' hp' /\ sv = .rsl 0 0 /\ H' = [⟨.row [] sz el, none⟩]) (.returned (.slice none 0 0)) W')
 rcases hr with ⟨ha, hm0, hc⟩ | hr
 · have hx : xs = [] := List.eq_nil_of_length_eq_zero (by rw [hm, hm0, Nat.zero_mul])
   have := nilC ha hm0 hc hx;subst ha hm0 hc hx;exact this
 · obtain ⟨r1, r2, r3, r4⟩ := hr.row
   cases a with
   | none =>
     obtain ⟨hx, hc⟩ := r3 rfl
     have hm0 : m = 0 := by
      rw [hx, List.length_nil] at hm
      rcases Nat.mul_eq_zero.1 hm.symm with h | h
      · exact h
      · omega
     have := nilC rfl hm0 hc hx;subst hm0 hc hx;exact this
   | some ad =>
     obtain ⟨n1, n2, n3, cur, fz, hb1, hfz, hcs⟩ := hr.new ad rfl;obtain ⟨b, off, spot⟩ := ad
     simp only at n1 n2 n3 hb1
     subst n2 n3
     have hnew : W.heap.size <= b := by
      rcases Nat.lt_or_ge b W.heap.size with hlt | hge
      · have := (h8 b hlt rfl).2 n1
        rw [hb1] at this;cases this
      · exact hge
     refine ⟨_, I, fun x => if x = b then I1 b else none, rfl, Mem.le_refl _, Mem.inW_of_le h1 h2, fun x o hx => ?_, fun x => ?_, h5, h6, fun b hb _ => h7 b hb rfl, fun x hx _ => ⟨if_neg (by omega), id⟩,
      { e with nil := fun _ => false, cap := fun _ => c, blk := fun _ => b }, .rsl 0 m, _, by simp [den], ⟨fun id x hx hal => ?_, fun i j x y hx hy _ _ _ _ hij => ?_, fun x hx => ?_, fun id x b hx hb => ?_⟩, rfl, rfl⟩
     · simp only at hx
       split at hx
       · rename_i h; subst h; exact h2 _ _ hx
       · cases hx
     · by_cases hxb : x = b
       · subst hxb; exact .inl n1
       · exact .inr (if_neg hxb)
     · cases id with
       | zero =>
         simp only [List.getElem?_cons_zero, Option.some.injEq] at hx;subst hx
         refine ⟨hz, ⟨m, hm⟩, .inr ⟨rfl, cur, fz, by simp only [if_true]; exact hb1, hfz, hcs, r2, by rw [hcs]; exact r1, ?_⟩⟩
         apply List.ext_getElem?;intro j;rw [List.getElem?_take];split
         · rename_i hj
           have h4 := r4 j _ (List.getElem?_eq_getElem hj);simp only [atI, Option.bind_some, Addr.add_lit, Nat.zero_add, cellM, hb1] at h4;rw [List.getElem?_eq_getElem hj, <- h4]
           simp
         · rename_i hj
           rw [List.getElem?_eq_none (by omega)]
       | succ k => simp at hx
     · cases i with
       | zero => cases j with
         | zero => exact absurd rfl hij
         | succ k => simp at hy
       | succ k => simp at hx
     · by_cases h : x = b
       · subst h; exact ⟨0, _, rfl, rfl, rfl, rfl⟩
       · exact absurd (if_neg h) hx
     · cases id with
       | zero =>
         simp only [List.getElem?_cons_zero, Option.some.injEq] at hx;subst hx;cases hb
       | succ k => simp at hx
end Go.SE
namespace Go.SE
open Go.RowKit
end Go.SE
namespace Go.SE
open Go.RowKit
end Go.SE
namespace Go.SE
open Go.RowKit
variable {P : Program}
theorem ctGS_of_se {f : FuncId} {fn : Func} {cd : Code} {A : Ann} (hf : P.funcs[f]? = some fn) (hb : fn.body = some cd)
 (hcall : ∀ (args : Array Value) (w : World), (callFunc f args).run P w = .ok (.enter f args) w)
 {e : Env} {sargs : List SV} {H : List Ent} {first cap given : Array Value} {I G Gr : Mem} (hO : OwnE e H Gr) (hgr : G.apart Gr) (hargs : denL e sargs = (first ++ given ++ cap).toList) {post : Value -> Mem -> Mem -> Prop}
 (h : se P A cd (initX sargs H fn.ntmps I G) (endX (finG P fn post))) (hrd : A.rd = false := by rfl) : CtH P (.func (.func f) first cap) given I (join G Gr) post := by
 intro W hI hG hap;refine callV_func hcall (args := denL e sargs) hargs.symm ?_;have hGin : ∀ {b : Nat}, G b ≠ none -> join G Gr b ≠ none := fun {b} hb hn => hb (join_eq_none hn).1;have hRin : ∀ {b : Nat}, Gr b ≠ none -> join G Gr b ≠ none := fun {b} hb hn => hb (join_eq_none hn).2
 let c : Ctx := { W0 := W, I0 := I, hf := fun b => if (join G Gr b).isNone then W.heap[b]? else none }
 have hfn : ∀ {b : Nat}, join G Gr b ≠ none -> c.hf b = none := fun {b} hb => by
  simp only [c];rw [if_neg];intro hn
  exact hb (by simpa using hn)
 have hmem : ∀ {id : Nat} {x : Ent}, H[id]? = some x -> alive x.obj = true -> e.nil id = false -> Gr (e.blk id) ≠ none := fun hx hal hn => holds_blk (hO.hold _ _ hx hal) hal hn
 have hS : SatX c e (initX sargs H fn.ntmps I G) W := by
  refine ⟨⟨Same.refl _, Nat.le_refl _, hI, fun b o hb => ?_, fun b _ h0 => h0, fun id x hx hal => ⟨?_, fun hn => ⟨?_, ?_⟩⟩, hO.apart, hO.names⟩, fun b o hb => ?_, fun b hb => ⟨?_, hfn (hGin hb)⟩, fun id x hx hal hn => ?_⟩
  · simp only [c] at hb
    split at hb
    · exact hb
    · cases hb
  · refine holds_mem (fun hn => ?_) (hO.hold id x hx hal)
    obtain ⟨o, ho⟩ := Option.ne_none_iff_exists'.1 (hmem hx hal hn);rw [ho];exact hG _ o (join_right hgr ho)
  · exact (hap _).resolve_right (hRin (hmem hx hal hn))
  · exact hfn (hRin (hmem hx hal hn))
  · exact hG b o (join_some hb)
  · exact (hap b).resolve_right (hGin hb)
  · exact (hgr _).resolve_right (hmem hx hal hn)
 refine core_of_se hrd hf hb (by simp) hS h (fun e' s' a' w' hK hS' hA' hle => ?_)
 obtain ⟨xs, h2, _⟩ := resL_sound hK hS'.toSat hA';obtain ⟨s2, h3, hS0, hA2, hle2, _, hls⟩ := hand_sound h2 hS'.toSat hA';have hS2 := hls.x hS' hS0;obtain ⟨ys, h4, h5⟩ := resL_sound h3 hS2.toSat hA2
 split at h4
 · rename_i v hv
   have hfb : ∀ b, b < W.heap.size -> join G Gr b = none -> c.hf b = W.heap[b]? := fun b _ hg => by simp [c, hg]
   have hne : ∀ b, b < W.heap.size -> join G Gr b = none -> c.hf b ≠ none := fun b hb hg => by rw [hfb b hb hg, Array.getElem?_eq_getElem hb]; simp
   refine ⟨v, results_of h5 hv, v, s2.I, s2.G, rfl, Mem.le_trans hle hle2, hS2.I, hS2.gIn, fun b => ?_, hS2.size, hS2.same, ?_, ?_, h4⟩
   · cases hg : s2.G b with
     | none => exact .inr rfl
     | some o => exact .inl (hS2.gI b (by rw [hg]; simp)).1
   · intro b hb hg
     have := hfb b hb hg;rw [Array.getElem?_eq_getElem hb] at this;rw [hS2.hf b _ this, Array.getElem?_eq_getElem hb]
   · intro b hb hg
     refine ⟨?_, fun h0 => hS2.old b (hne b hb hg) h0⟩
     cases hgb : s2.G b with
     | none => rfl
     | some o => exact absurd (hS2.gI b (by rw [hgb]; simp)).2 (hne b hb hg)
 · exact h4.elim
theorem ctGS_via {f : FuncId} {fn : Func} {cd : Code} {A : Ann} (hf : P.funcs[f]? = some fn) (hb : fn.body = some cd)
 (hcall : ∀ (args : Array Value) (w : World), (callFunc f args).run P w = .ok (.enter f args) w)
 {e : Env} {sargs : List SV} {H : List Ent} {first cap given : Array Value} {I G Gr : Mem} (hO : OwnE e H Gr) (hgr : G.apart Gr) (hargs : denL e sargs = (first ++ given ++ cap).toList) {post : Value -> Mem -> Mem -> Prop} (hrd : A.rd = false)
 (h : se P A cd (initX sargs H fn.ntmps I G) (endX (finG P fn post))) : CtH P (.func (.func f) first cap) given I (join G Gr) post :=
 ctGS_of_se hf hb hcall hO hgr hargs h hrd
end Go.SE
namespace Go.SE
open Go.RowKit
section
variable {α : Type} {k : Nat} {E : Mem -> List Value -> α -> Prop} {I J : Mem}
def RowR {α : Type} (k : Nat) (E : Mem -> List Value -> α -> Prop) (I : Mem) : List Value -> List α -> Prop
 | xs, [] => xs = []
 | xs, e :: l => ∃ c r, xs = c ++ r /\ c.length = k /\ E I c e /\ RowR k E I r l
theorem RowR.mono (hE : ∀ (I J : Mem) (c : List Value) (e : α), I.le J -> E I c e -> E J c e) (hle : I.le J) : ∀ {l : List α} {xs : List Value}, RowR k E I xs l -> RowR k E J xs l
 | [], _, h => h
 | _ :: _, _, ⟨c, r, h1, h2, h3, h4⟩ => ⟨c, r, h1, h2, hE _ _ _ _ hle h3, RowR.mono hE hle h4⟩
theorem RowR.len : ∀ {l : List α} {xs : List Value}, RowR k E I xs l -> xs.length = l.length * k
 | [], _, h => by rw [show _ = [] from h]; simp
 | _ :: l, _, ⟨c, r, h1, h2, _, h4⟩ => by rw [h1, List.length_append, h2, h4.len, List.length_cons, Nat.add_mul]; omega
theorem RowR.one {c : List Value} {e : α} (hc : c.length = k) (h : E I c e) : RowR k E I c [e] := ⟨c, [], by simp, hc, h, rfl⟩
theorem RowR.get : ∀ {l : List α} {xs : List Value}, RowR k E I xs l -> ∀ {j : Nat} {e : α}, l[j]? = some e -> ∃ c, c.length = k /\ E I c e /\ ∀ (i : Nat) (v : Value), c[i]? = some v -> xs[j * k + i]? = some v
 | [], _, _, j, e, hj => by simp at hj
 | _ :: l, _, ⟨c, r, h1, h2, h3, h4⟩, 0, e, hj => by
   simp only [List.getElem?_cons_zero, Option.some.injEq] at hj;subst hj;refine ⟨c, h2, h3, fun i v hi => ?_⟩;have := (List.getElem?_eq_some_iff.1 hi).1
   rw [h1, Nat.zero_mul, Nat.zero_add, List.getElem?_append_left this]; exact hi
 | _ :: l, _, ⟨c, r, h1, h2, h3, h4⟩, j + 1, e, hj => by
   obtain ⟨d, g1, g2, g3⟩ := RowR.get h4 (j := j) (e := e) (by simpa using hj)
   refine ⟨d, g1, g2, fun i v hi => ?_⟩;have := g3 i v hi
   rw [h1, show (j + 1) * k + i = c.length + (j * k + i) by rw [h2, Nat.add_mul]; omega, List.getElem?_append_right (by omega), Nat.add_sub_cancel_left]
   exact this
theorem RowR.take : ∀ (n : Nat) {l : List α} {xs : List Value}, RowR k E I xs l -> RowR k E I (xs.take (n * k)) (l.take n)
 | 0, _, _, _ => by simp [RowR]
 | n + 1, [], _, h => by rw [show _ = [] from h]; simp [RowR]
 | n + 1, _ :: l, _, ⟨c, r, h1, h2, h3, h4⟩ => by
   refine ⟨c, r.take (n * k), ?_, h2, h3, RowR.take n h4⟩
   rw [h1, Nat.add_mul, Nat.one_mul, List.take_append, List.take_of_length_le (by omega), h2, Nat.add_sub_cancel]
theorem RowR.all {P : α -> Prop} (hP : ∀ {I : Mem} {c : List Value} {e : α}, E I c e -> P e) : ∀ {l : List α} {xs : List Value}, RowR k E I xs l -> ∀ e ∈ l, P e
 | [], _, _, e, he => by cases he
 | _ :: _, _, ⟨c, r, _, _, h3, h4⟩, e, he => by
   rcases List.mem_cons.1 he with rfl | he
   · exact hP h3
   · exact RowR.all hP h4 e he
def SlR {α : Type} (k : Nat) (E : Mem -> List Value -> α -> Prop) (I : Mem) (a : Option Addr) (n : Nat) (l : List α) : Prop := ∃ xs, SlM I a n k xs /\ RowR k E I xs l
theorem SlR.mono {a : Option Addr} {n : Nat} {l : List α} (hE : ∀ (I J : Mem) (c : List Value) (e : α), I.le J -> E I c e -> E J c e) (h : SlR k E I a n l) (hle : I.le J) : SlR k E J a n l := by
 obtain ⟨xs, h1, h2⟩ := h;exact ⟨xs, h1.mono hle, h2.mono hE hle⟩
theorem SlR.len {a : Option Addr} {n : Nat} {l : List α} (hk : 0 < k) (h : SlR k E I a n l) : l.length = n := by
 obtain ⟨xs, h1, h2⟩ := h;exact Nat.eq_of_mul_eq_mul_right hk (h2.len.symm.trans h1.len)
theorem SlR.max {a : Option Addr} {n : Nat} {l : List α} (h : SlR k E I a n l) : n <= maxLen := by
 obtain ⟨xs, h1, _⟩ := h;exact h1.max
theorem SlR.isSome {a : Option Addr} {n : Nat} {l : List α} (h : SlR k E I a n l) (hn : 0 < n) : a.isSome = true := by
 obtain ⟨xs, h1, _⟩ := h;exact h1.isSome hn
theorem SlR.at_ {a : Option Addr} {n : Nat} {l : List α} (hk : 0 < k) (h : SlR k E I a n l) {j : Int} (h0 : 0 <= j) (h1 : j < n) :
 ∃ e c, l[j.toNat]? = some e /\ c.length = k /\ E I c e /\ ∀ (i : Nat) (v : Value), c[i]? = some v -> atI I a (j.toNat * k + i) = some v := by
 have hl := h.len hk;obtain ⟨xs, hs, hr⟩ := h
 have hg : l[j.toNat]? = some l[j.toNat] := List.getElem?_eq_getElem (by omega)
 obtain ⟨c, g1, g2, g3⟩ := hr.get hg;exact ⟨_, c, hg, g1, g2, fun i v hi => hs.at_ _ _ (g3 i v hi)⟩
theorem SlR.row {a : Option Addr} {cp : Nat} {xs : List Value} {l : List α} (hk : 0 < k) (h : RowM I a cp k xs) (hr : RowR k E I xs l) : SlR k E I a l.length l :=
 ⟨xs, h.sl hk hr.len, hr⟩
theorem SlR.nil : SlR k E I none 0 [] := ⟨[], ⟨by simp, fun _ => rfl, Nat.zero_le _, fun j v hj => by simp at hj⟩, rfl⟩
theorem SlR.take {a : Option Addr} {n m : Nat} {l : List α} (hk : 0 < k) (h : SlR k E I a n l) (hm : m <= n) : SlR k E I a m (l.take m) := by
 have hl := h.len hk;obtain ⟨xs, hs, hr⟩ := h;have hx := hs.len
 refine ⟨xs.take (m * k), ⟨?_, fun ha => by have := hs.nil ha; omega, Nat.le_trans hm hs.max, fun j v hj => hs.at_ j v ?_⟩, hr.take m⟩
 · rw [List.length_take, hx, Nat.min_eq_left (Nat.mul_le_mul_right k hm)]
 · rw [List.getElem?_take] at hj
   split at hj
   · exact hj
   · cases hj
end
end Go.SE
namespace Go.SE
theorem RowR.of {α : Type} {k : Nat} {E : Mem -> List Value -> α -> Prop} {I : Mem} : ∀ (n : Nat) (xs : List Value), xs.length = n * k -> (∀ i, i < n -> ∃ e, E I ((xs.drop (i * k)).take k) e) -> ∃ l : List α, l.length = n /\ RowR k E I xs l
 | 0, xs, hl, _ => by
   have : xs = [] := List.eq_nil_of_length_eq_zero (by omega)
   subst this; exact ⟨[], rfl, rfl⟩
 | n + 1, xs, hl, h => by
   have hk : k <= xs.length := by rw [hl, Nat.add_mul]; omega
   obtain ⟨e, he⟩ := h 0 (by omega)
   rw [Nat.zero_mul, List.drop_zero] at he
   obtain ⟨l, h1, h2⟩ := RowR.of (k := k) (E := E) (I := I) n (xs.drop k) (by rw [List.length_drop, hl, Nat.add_mul]; omega) fun i hi => by
    have := h (i + 1) (by omega)
    rwa [List.drop_drop, show k + i * k = (i + 1) * k by rw [Nat.add_mul]; omega]
   exact ⟨e :: l, by rw [List.length_cons, h1], xs.take k, xs.drop k, (List.take_append_drop k xs).symm, by rw [List.length_take]; omega, he, h2⟩
end Go.SE
namespace Go.SE
open Go.RowKit Go.ChangeShapes Go.WideShapes Go.ChangeAt Go.ChangeMaps
end Go.SE
namespace Go.SE
open Go.RowKit
theorem sl_part {I : Mem} {a : Option Addr} {n c f t : Nat} {L : List Value} (h : SlM I a n 1 L) (hft : f <= t) (ht : t <= n) (hc : n <= c) : SlM I (sladdr a c f 1) (t - f) 1 ((L.drop f).take (t - f)) := by
 have hl := h.len
 refine ⟨by simp; omega, fun hs => ?_, Nat.le_trans (by omega) h.max, fun j v hj => ?_⟩
 · unfold sladdr at hs
   split at hs
   · omega
   · cases a with
     | none => have := h.nil rfl; omega
     | some ad => cases hs
 · rw [List.getElem?_take] at hj
   split at hj
   · rw [List.getElem?_drop] at hj
     have hat := h.at_ _ _ hj;unfold sladdr
     rw [if_neg (by omega)]
     cases a with
     | none => have := h.nil rfl; omega
     | some ad =>
       simp only [Option.map_some, Nat.mul_one];simp only [atI, Option.bind_some] at hat ⊢;rw [add_add];exact hat
   · cases hj
theorem SlM.take {I : Mem} {a : Option Addr} {n m : Nat} {L : List Value} (h : SlM I a n 1 L) (hm : m <= n) : SlM I a m 1 (L.take m) := by
 have := sl_part (c := n) h (Nat.zero_le m) hm (Nat.le_refl _)
 rwa [show sladdr a n 0 1 = a from sladdr_zero a n 1, Nat.sub_zero, List.drop_zero] at this
theorem SlM.block {I J : Mem} {a : Option Addr} {n sz : Nat} {L : List Value} (h : SlM I a n sz L) (hb : ∀ b', a.map (·.block) = some b' -> J b' = I b') : SlM J a n sz L := by
 refine ⟨h.len, h.nil, h.max, fun j v hj => ?_⟩;have := h.at_ j v hj
 cases a with
 | none => exact this
 | some ad =>
   simp only [atI, Option.bind_some, cellM] at this ⊢
   have e : (ad.add j).block = ad.block := by unfold Addr.add; split <;> rfl
   rw [e, hb ad.block rfl];rw [e] at this;exact this
end Go.SE
