/- Heads: what is known of a state where a loop begins anew, or where ways meet. -/
import Derived.Test.YthfgpdjplknleaaGreatDoorSe14O
namespace Go.SE
open Go.RowKit

/-- What a temporary, or a cell, is known to hold at a head: what it held ('kv': and the invariant speaks of it); some value of a shape; a whole row. -/
inductive TA where
  | keep
  | kv
  | sh (s : Sh)
  | agg (l : List Sh)
  | row (id : Nat)
/-- What is known of an entry at a head. -/
inductive EA where
  | keep | row | vec | iter
  | cells (l : List TA)
structure Head where
  tms : List (Nat × TA)
  ents : List (Nat × EA)
  pre : List (Nat × Nat × TypeId)
  inv : List Value → List (List Value) → Mem → Mem → Prop
  meas : List Value → List (List Value) → Nat

def rowLen (H : List Ent) (id : Nat) : Nat :=
  match H[id]? with
  | some ⟨.row xs sz _, _⟩ => if Nat.beq sz 1 then xs.length else xs.length / sz
  | _ => 0

/-- What an iterator over a map has handed out, as values. -/
def encI (a : Array Nat) : List Value := a.toList.map fun n : Nat => .int .i64 (n : Int)
def natV : Value → Nat
  | .int _ n => n.toNat
  | _ => 0
def decI (l : List Value) : Array Nat := (l.map natV).toArray
theorem decI_encI (a : Array Nat) : decI (encI a) = a := by
  simp only [decI, encI, List.map_map]
  have : (natV ∘ fun n : Nat => Value.int .i64 n) = id := by funext n; simp [natV]
  rw [this]; simp

def newE (s : St) (id : Nat) (xs : List Value) (ea : EA) : Option Ent :=
  match ea, s.H[id]? with
  | .row, some ⟨.row _ sz el, _⟩ => some ⟨.row xs sz el, none⟩
  | .vec, some ⟨.vec _ el, nm⟩ => some ⟨.vec xs el, nm⟩
  | .vec, some ⟨.cells _ el, nm⟩ => some ⟨.vec xs el, nm⟩
  | .iter, some ⟨.raw (.mapIter m since _ c0), nm⟩ => some ⟨.raw (.mapIter m since (decI xs) c0), nm⟩
  | _, _ => none

/-- How what is not known is chosen. -/
structure Pick where
  rows : Nat → EA → (List Value → Prop) → Prop
  keepE : Nat → Prop → Prop
  elE : Nat → Prop → Prop
  val : SV → Sh → (Value → SV → Prop) → Prop
  vagg : SV → List Sh → (Value → SV → Prop) → Prop
  keep : SV → SV → Prop → Prop
  rowL : SV → Nat → Nat → Prop → Prop

/-- One temporary or cell: 'now' is what the state that is matched has there, 'old' what was there at first. -/
def headT (Q : Pick) (H : List Ent) (old now : SV) (ta : TA) (F : List Value → SV → Prop) : Prop :=
  match ta with
  | .keep => Q.keep old now (F [] old)
  | .kv => Q.keep old now (F (match valS old with | some v => [v] | none => []) old)
  | .sh sh => Q.val now sh fun v sv => F [v] sv
  | .agg l => Q.vagg now l fun v sv => F [v] sv
  | .row id => Q.rowL now id (rowLen H id) (F [] (.rsl id (rowLen H id)))

def head1 (Q : Pick) (s : St) : List (Nat × EA) → List Ent → List (List Value) → (List Ent → List (List Value) → Prop) → Prop
  | [], H, xss, F => F H xss
  | (id, ea) :: r, H, xss, F => match ea with
    | .keep => match s.H[id]? with
      | some x => Q.keepE id (head1 Q s r (H.set id x) xss F)
      | none => False
    | .cells _ => head1 Q s r H xss F
    | ea => Q.rows id ea fun xs => match newE s id xs ea with
      | some x => head1 Q s r (H.set id x) (xss ++ [xs]) F
      | none => False
def head2 (Q : Pick) (s now : St) (H : List Ent) : List (Nat × TA) → List SV → List Value → (List SV → List Value → Prop) → Prop
  | [], tm, vals, F => F tm vals
  | (t, ta) :: r, tm, vals, F => headT Q H ((s.tm[t]?).getD .junk) ((now.tm[t]?).getD .junk) ta fun vs sv => head2 Q s now H r (tm.set t sv) (vals ++ vs) F
def headC (Q : Pick) (H : List Ent) : List SV → List SV → List TA → List SV → List Value → (List SV → List Value → Prop) → Prop
  | o :: os, n :: ns, ta :: r, acc, vals, F => headT Q H o n ta fun vs sv => headC Q H os ns r (acc ++ [sv]) (vals ++ vs) F
  | [], [], [], acc, vals, F => F acc vals
  | _, _, _, _, _, _ => False
def cellsOfE (s : St) (id : Nat) : List SV :=
  match s.H[id]? with
  | some ⟨.cells cs _, _⟩ => cs
  | _ => []
def head3 (Q : Pick) (s now : St) : List (Nat × EA) → List Ent → List Value → (List Ent → List Value → Prop) → Prop
  | [], H, vals, F => F H vals
  | (id, ea) :: r, H, vals, F => match ea with
    | .cells l => match s.H[id]? with
      | some ⟨.cells cs el, nm⟩ => Q.elE id (headC Q H cs (cellsOfE now id) l [] vals fun cs' vals' => head3 Q s now r (H.set id ⟨.cells cs' el, nm⟩) vals' F)
      | _ => False
    | _ => head3 Q s now r H vals F
/-- THE HEAD'S STATE: of what was there at first ('s') and what is there now ('now'). -/
def headS (Q : Pick) (h : Head) (s now : St) (F : List Value → List (List Value) → St → Prop) : Prop :=
  head1 Q s h.ents (s.H.map fun _ => ⟨.dead, none⟩) [] fun H xss =>
    head2 Q s now H h.tms (s.tm.map fun _ => .junk) [] fun tm vals =>
      head3 Q s now h.ents H vals fun H' vals' => F vals' xss { now with tm := tm, H := H', marks := s.marks, rnd := s.rnd }

def allV1 (sh : Sh) (F : Value → SV → Prop) : Prop :=
  match sh with
  | .int k => ∀ n : Int, F (.int k n) (.v (.int k n))
  | .bool => ∀ b : Bool, F (.bool b) (.v (.bool b))
  | .str => ∀ q : ByteArray, F (.string q) (.v (.string q))
  | .sl => ∀ (a : Option Addr) (n c : Nat), F (.slice a n c) (.v (.slice a n c))
  | .ptr => ∀ a : Option Addr, F (.pointer a) (.v (.pointer a))
  | .map => ∀ r : Option Nat, F (.map r) (.v (.map r))
  | .other => ∀ x : Value, F x (.v x)
def allVL : List Sh → (List Value → List SV → Prop) → Prop
  | [], F => F [] []
  | sh :: r, F => allV1 sh fun v sv => allVL r fun vs svs => F (v :: vs) (sv :: svs)

/-- Whatever it is. -/
def pickAll : Pick where
  rows _ _ F := ∀ xs : List Value, F xs
  keepE _ F := F
  elE _ F := F
  val _ sh F := allV1 sh F
  vagg _ l F := allVL l fun vs svs => F (.agg vs.toArray) (.agg svs)
  keep _ _ F := F
  rowL _ _ _ F := F

def shOk (sh : Sh) (x : Value) : Bool :=
  match sh, x with
  | .int k, .int k' _ => kindEq k k'
  | .bool, .bool _ => true
  | .str, .string _ => true
  | .sl, .slice _ _ _ => true
  | .ptr, .pointer _ => true
  | .map, .map _ => true
  | .other, _ => true
  | _, _ => false
def shsOk : List Sh → List Value → Bool
  | [], [] => true
  | sh :: r, x :: xs => shOk sh x && shsOk r xs
  | _, _ => false

/-- A name may be forgotten. -/
def nameLe (nm nm' : Option Nat) (F : Prop) : Prop :=
  match nm, nm' with
  | none, some _ => F
  | a, b => a = b ∧ F
theorem nameLe_sound {nm nm' : Option Nat} {F : Prop} (h : nameLe nm nm' F) : (∀ b, nm = some b → nm' = some b) ∧ F := by
  unfold nameLe at h
  split at h
  · exact ⟨fun b hb => (by cases hb), h⟩
  · exact ⟨fun b hb => h.1 ▸ hb, h.2⟩
/-- What it is in this state. -/
def pickNow (s now : St) : Pick where
  rows id ea F := match ea, s.H[id]?, now.H[id]? with
    | .row, some ⟨.row _ sz el, _⟩, some ⟨.row xs sz' el', _⟩ => if Nat.beq sz sz' && Nat.beq el el' then F xs else False
    | .vec, some ⟨.vec _ el, nm⟩, some ⟨.vec xs el', nm'⟩ => if Nat.beq el el' then nm = nm' ∧ F xs else False
    | .vec, some ⟨.cells _ el, nm⟩, some ⟨.vec xs el', nm'⟩ => if Nat.beq el el' then nm = nm' ∧ F xs else False
    | .vec, some ⟨.cells _ el, nm⟩, some ⟨.cells cs el', nm'⟩ => match mapV cs with
      | some xs => if Nat.beq el el' then nm = nm' ∧ F xs else False
      | none => False
    | .vec, some ⟨.vec _ el, nm⟩, some ⟨.cells cs el', nm'⟩ => match mapV cs with
      | some xs => if Nat.beq el el' then nm = nm' ∧ F xs else False
      | none => False
    | .iter, some ⟨.raw (.mapIter m since _ c0), nm⟩, some ⟨.raw (.mapIter m' since' seen' c0'), nm'⟩ => (m' = m ∧ since' = since ∧ c0' = c0 ∧ nm = nm') ∧ F (encI seen')
    | _, _, _ => False
  keepE id F := match s.H[id]?, now.H[id]? with
    | some x, some y => y = x ∧ F
    | _, _ => False
  elE id F := match s.H[id]?, now.H[id]? with
    | some ⟨.cells _ el, nm⟩, some ⟨.cells _ el', nm'⟩ => if Nat.beq el el' then nameLe nm nm' F else False
    | _, _ => False
  val x sh F := match valS x with
    | some v => if shOk sh v then F v (.v v) else False
    | none => False
  vagg x l F := match valS x with
    | some (.agg vs) => if shsOk l vs.toList then F (.agg vs.toList.toArray) (.agg (vs.toList.map .v)) else False
    | _ => False
  keep old x F := x = old ∧ F
  rowL x id n F := match x with
    | .rsl id' m => if Nat.beq id id' then m = n ∧ F else False
    | _ => False

/-! ### What is matched does what the head's state says -/

structure RefH (now : St) (H : List Ent) : Prop where
  obj : ∀ (id : Nat) (x : Ent), H[id]? = some x → alive x.obj = true → ∃ x', now.H[id]? = some x' ∧ alive x'.obj = true ∧ ∀ e h, holds e id h x'.obj → holds e id h x.obj
  name : ∀ (id : Nat) (x : Ent) (b : Nat), H[id]? = some x → x.name = some b → ∃ x', now.H[id]? = some x' ∧ x'.name = some b
def RefV (now sv : SV) : Prop := isJunk sv = false → isJunk now = false ∧ ∀ e, den e now = den e sv
def RefT (now : St) (tm : List SV) : Prop := ∀ (t : Nat) (sv : SV), tm[t]? = some sv → isJunk sv = false → ∃ sv', now.tm[t]? = some sv' ∧ isJunk sv' = false ∧ ∀ e, den e sv' = den e sv

theorem RefH.set {now : St} {H : List Ent} (h : RefH now H) {id : Nat} {x x' : Ent} (h1 : now.H[id]? = some x') (h2 : alive x.obj = true → alive x'.obj = true ∧ ∀ e h, holds e id h x'.obj → holds e id h x.obj)
    (h3 : ∀ b, x.name = some b → x'.name = some b) : RefH now (H.set id x) := by
  constructor
  · intro j y hy hal
    rcases getElem?_set' hy with ⟨rfl, rfl, _⟩ | ⟨_, hy⟩
    · exact ⟨x', h1, h2 hal⟩
    · exact h.obj j y hy hal
  · intro j y b hy hb
    rcases getElem?_set' hy with ⟨rfl, rfl, _⟩ | ⟨_, hy⟩
    · exact ⟨x', h1, h3 b hb⟩
    · exact h.name j y b hy hb
theorem RefT.set {now : St} {tm : List SV} (h : RefT now tm) {t : Nat} {sv : SV} (hv : RefV ((now.tm[t]?).getD .junk) sv) : RefT now (tm.set t sv) := by
  intro k y hy hj
  rcases getElem?_set' hy with ⟨rfl, rfl, _⟩ | ⟨_, hy⟩
  · obtain ⟨h1, h2⟩ := hv hj
    cases hn : now.tm[k]? with
    | none => rw [hn] at h1; simp [isJunk] at h1
    | some sv' => simp only [hn, Option.getD_some] at h1 h2; exact ⟨sv', rfl, h1, h2⟩
  · exact h k y hy hj

theorem allV1_inst {sh : Sh} {F : Value → SV → Prop} (h : allV1 sh F) {v : Value} (hv : shOk sh v = true) : F v (.v v) := by
  cases sh with
  | int k =>
    cases v <;> simp only [shOk, Bool.false_eq_true] at hv
    simp only [kindEq, decide_eq_true_eq] at hv
    subst hv
    exact h _
  | other => exact h v
  | sl => cases v <;> simp only [shOk, Bool.false_eq_true] at hv; exact h _ _ _
  | _ => cases v <;> simp only [shOk, Bool.false_eq_true] at hv; exact h _
theorem allVL_inst : ∀ {l : List Sh} {F : List Value → List SV → Prop}, allVL l F → ∀ {vs : List Value}, shsOk l vs = true → F vs (vs.map .v)
  | [], F, h, [], _ => h
  | [], F, h, _ :: _, hv => by simp [shsOk] at hv
  | sh :: r, F, h, [], hv => by simp [shsOk] at hv
  | sh :: r, F, h, v :: vs, hv => by
    simp only [shsOk, Bool.and_eq_true] at hv
    exact allVL_inst (allV1_inst h hv.1) hv.2

theorem headT_both {s now now' : SV} {s0 nowS : St} {H : List Ent} {ta : TA} {F G : List Value → SV → Prop} (h1 : headT (pickNow s0 nowS) H s now ta F) (h2 : headT pickAll H s now' ta G) :
    ∃ vs sv, F vs sv ∧ G vs sv ∧ RefV now sv := by
  cases ta with
  | keep =>
    simp only [headT, pickNow, pickAll] at h1 h2
    exact ⟨_, _, h1.2, h2, fun hj => by rw [h1.1]; exact ⟨hj, fun _ => rfl⟩⟩
  | kv =>
    simp only [headT, pickNow, pickAll] at h1 h2
    exact ⟨_, _, h1.2, h2, fun hj => by rw [h1.1]; exact ⟨hj, fun _ => rfl⟩⟩
  | sh sh =>
    simp only [headT, pickNow, pickAll] at h1 h2
    split at h1
    · rename_i v hv
      split at h1
      · rename_i hok
        obtain ⟨d1, d2⟩ := valS_den (e := ⟨fun _ => 0, fun _ => 0, fun _ => false⟩) hv
        exact ⟨_, _, h1, allV1_inst h2 hok, fun _ => ⟨d2, fun e => by rw [(valS_den (e := e) hv).1]; simp [den]⟩⟩
      · exact h1.elim
    · exact h1.elim
  | agg l =>
    simp only [headT, pickNow, pickAll] at h1 h2
    split at h1
    · rename_i vs hv
      split at h1
      · rename_i hok
        obtain ⟨d1, d2⟩ := valS_den (e := ⟨fun _ => 0, fun _ => 0, fun _ => false⟩) hv
        exact ⟨_, _, h1, allVL_inst h2 hok, fun _ => ⟨d2, fun e => by rw [(valS_den (e := e) hv).1]; simp [den, denL_v]⟩⟩
      · exact h1.elim
    · exact h1.elim
  | row id =>
    simp only [headT, pickNow, pickAll] at h1 h2
    split at h1
    · rename_i id' m
      split at h1
      · rename_i hb
        obtain rfl := Nat.eq_of_beq_eq_true hb
        exact ⟨_, _, h1.2, h2, fun _ => ⟨rfl, fun e => by rw [h1.1]⟩⟩
      · exact h1.elim
    · exact h1.elim

theorem pickNow_rows {s now : St} {id : Nat} {ea : EA} {F : List Value → Prop} : (pickNow s now).rows id ea F = (match ea, s.H[id]?, now.H[id]? with
    | .row, some ⟨.row _ sz el, _⟩, some ⟨.row xs sz' el', _⟩ => if Nat.beq sz sz' && Nat.beq el el' then F xs else False
    | .vec, some ⟨.vec _ el, nm⟩, some ⟨.vec xs el', nm'⟩ => if Nat.beq el el' then nm = nm' ∧ F xs else False
    | .vec, some ⟨.cells _ el, nm⟩, some ⟨.vec xs el', nm'⟩ => if Nat.beq el el' then nm = nm' ∧ F xs else False
    | .vec, some ⟨.cells _ el, nm⟩, some ⟨.cells cs el', nm'⟩ => match mapV cs with
      | some xs => if Nat.beq el el' then nm = nm' ∧ F xs else False
      | none => False
    | .vec, some ⟨.vec _ el, nm⟩, some ⟨.cells cs el', nm'⟩ => match mapV cs with
      | some xs => if Nat.beq el el' then nm = nm' ∧ F xs else False
      | none => False
    | .iter, some ⟨.raw (.mapIter m since _ c0), nm⟩, some ⟨.raw (.mapIter m' since' seen' c0'), nm'⟩ => (m' = m ∧ since' = since ∧ c0' = c0 ∧ nm = nm') ∧ F (encI seen')
    | _, _, _ => False) := rfl
theorem pickNow_keepE {s now : St} {id : Nat} {F : Prop} : (pickNow s now).keepE id F = (match s.H[id]?, now.H[id]? with
    | some x, some y => y = x ∧ F
    | _, _ => False) := rfl
theorem pickNow_elE {s now : St} {id : Nat} {F : Prop} : (pickNow s now).elE id F = (match s.H[id]?, now.H[id]? with
    | some ⟨.cells _ el, nm⟩, some ⟨.cells _ el', nm'⟩ => if Nat.beq el el' then nameLe nm nm' F else False
    | _, _ => False) := rfl

theorem head1_both {s now : St} : ∀ {l : List (Nat × EA)} {H : List Ent} {xss : List (List Value)} {F G : List Ent → List (List Value) → Prop}, RefH now H →
    head1 (pickNow s now) s l H xss F → head1 pickAll s l H xss G → ∃ H' xss', F H' xss' ∧ G H' xss' ∧ RefH now H'
  | [], H, xss, F, G, hH, h1, h2 => ⟨H, xss, h1, h2, hH⟩
  | (id, ea) :: r, H, xss, F, G, hH, h1, h2 => by
    simp only [head1] at h1 h2
    have rows : ∀ {ea : EA}, (pickNow s now).rows id ea (fun xs => match newE s id xs ea with
          | some x => head1 (pickNow s now) s r (H.set id x) (xss ++ [xs]) F
          | none => False) → pickAll.rows id ea (fun xs => match newE s id xs ea with
          | some x => head1 pickAll s r (H.set id x) (xss ++ [xs]) G
          | none => False) → ∃ H' xss', F H' xss' ∧ G H' xss' ∧ RefH now H' := by
      intro ea g1 g2
      rw [pickNow_rows] at g1
      split at g1
      · rename_i xs0 sz el nm0 xs sz' el' nm' e1 e2
        split at g1
        · rename_i hc
          simp only [Bool.and_eq_true] at hc
          obtain rfl := Nat.eq_of_beq_eq_true hc.1
          obtain rfl := Nat.eq_of_beq_eq_true hc.2
          have g2 := g2 xs
          simp only [newE, e1] at g1 g2
          exact head1_both (hH.set (x := ⟨.row xs sz el, none⟩) e2 (fun _ => ⟨rfl, fun _ _ h => h⟩) (fun b hb => by cases hb)) g1 g2
        · exact g1.elim
      · rename_i xs0 el nm0 xs el' nm' e1 e2
        split at g1
        · rename_i hc
          obtain rfl := Nat.eq_of_beq_eq_true hc
          obtain ⟨rfl, g1⟩ := g1
          have g2 := g2 xs
          simp only [newE, e1] at g1 g2
          exact head1_both (hH.set e2 (fun _ => ⟨rfl, fun _ _ h => h⟩) (fun b hb => hb)) g1 g2
        · exact g1.elim
      · rename_i cs0 el nm0 xs el' nm' e1 e2
        split at g1
        · rename_i hc
          obtain rfl := Nat.eq_of_beq_eq_true hc
          obtain ⟨rfl, g1⟩ := g1
          have g2 := g2 xs
          simp only [newE, e1] at g1 g2
          exact head1_both (hH.set e2 (fun _ => ⟨rfl, fun _ _ h => h⟩) (fun b hb => hb)) g1 g2
        · exact g1.elim
      · rename_i cs0 el nm0 cs el' nm' e1 e2
        split at g1
        · rename_i xs hxs
          split at g1
          · rename_i hc
            obtain rfl := Nat.eq_of_beq_eq_true hc
            obtain ⟨rfl, g1⟩ := g1
            have g2 := g2 xs
            simp only [newE, e1] at g1 g2
            exact head1_both (hH.set (x := ⟨.vec xs el, nm0⟩) e2 (fun _ => ⟨rfl, fun _ _ h => mapV_holds hxs h⟩) (fun b hb => hb)) g1 g2
          · exact g1.elim
        · exact g1.elim
      · rename_i xs0 el nm0 cs el' nm' e1 e2
        split at g1
        · rename_i xs hxs
          split at g1
          · rename_i hc
            obtain rfl := Nat.eq_of_beq_eq_true hc
            obtain ⟨rfl, g1⟩ := g1
            have g2 := g2 xs
            simp only [newE, e1] at g1 g2
            exact head1_both (hH.set (x := ⟨.vec xs el, nm0⟩) e2 (fun _ => ⟨rfl, fun _ _ h => mapV_holds hxs h⟩) (fun b hb => hb)) g1 g2
          · exact g1.elim
        · exact g1.elim
      · rename_i m since sn0 c0 nm0 m' since' seen' c0' nm' e1 e2
        obtain ⟨⟨rfl, rfl, rfl, rfl⟩, g1⟩ := g1
        have g2 := g2 (encI seen')
        simp only [newE, e1, decI_encI] at g1 g2
        exact head1_both (hH.set e2 (fun _ => ⟨rfl, fun _ _ h => h⟩) (fun b hb => hb)) g1 g2
      · exact g1.elim
    cases ea with
    | keep =>
      simp only at h1 h2
      split at h1
      · rename_i x hx
        simp only [hx] at h2
        rw [pickNow_keepE] at h1
        split at h1
        · rename_i x1 y e1 e2
          rw [hx] at e1
          cases e1
          obtain ⟨rfl, h1⟩ := h1
          exact head1_both (hH.set e2 (fun hal => ⟨hal, fun _ _ h => h⟩) (fun b hb => hb)) h1 h2
        · exact h1.elim
      · exact h1.elim
    | cells l => exact head1_both hH h1 h2
    | row => exact rows h1 h2
    | vec => exact rows h1 h2
    | iter => exact rows h1 h2

theorem head2_both {s now now' : St} {H : List Ent} : ∀ {l : List (Nat × TA)} {tm : List SV} {vals : List Value} {F G : List SV → List Value → Prop}, RefT now tm →
    head2 (pickNow s now) s now H l tm vals F → head2 pickAll s now' H l tm vals G → ∃ tm' vals', F tm' vals' ∧ G tm' vals' ∧ RefT now tm' ∧ tm'.length = tm.length
  | [], tm, vals, F, G, hT, h1, h2 => ⟨tm, vals, h1, h2, hT, rfl⟩
  | (t, ta) :: r, tm, vals, F, G, hT, h1, h2 => by
    simp only [head2] at h1 h2
    obtain ⟨vs, sv, g1, g2, hv⟩ := headT_both h1 h2
    obtain ⟨tm', vals', g3, g4, g5, g6⟩ := head2_both (hT.set hv) g1 g2
    exact ⟨tm', vals', g3, g4, g5, g6.trans (by simp)⟩

theorem headC_both {s now : St} {H : List Ent} : ∀ {os ns ns' : List SV} {l : List TA} {acc : List SV} {vals : List Value} {F G : List SV → List Value → Prop},
    headC (pickNow s now) H os ns l acc vals F → headC pickAll H os ns' l acc vals G → ∃ cs vals', F (acc ++ cs) vals' ∧ G (acc ++ cs) vals' ∧ cs.length = ns.length ∧
      ∀ (k : Nat) (sv : SV), cs[k]? = some sv → ∃ sv', ns[k]? = some sv' ∧ RefV sv' sv
  | o :: os, n :: ns, n' :: ns', ta :: l, acc, vals, F, G, h1, h2 => by
    simp only [headC] at h1 h2
    obtain ⟨vs, sv, g1, g2, hv⟩ := headT_both h1 h2
    obtain ⟨cs, vals', g3, g4, g5, g6⟩ := headC_both g1 g2
    refine ⟨sv :: cs, vals', by simpa using g3, by simpa using g4, by simp [g5], fun k y hy => ?_⟩
    cases k with
    | zero => simp at hy; subst hy; exact ⟨n, rfl, hv⟩
    | succ k => exact g6 k y (by simpa using hy)
  | [], [], [], [], acc, vals, F, G, h1, h2 => ⟨[], vals, by simpa [headC] using h1, by simpa [headC] using h2, rfl, fun k sv h => by simp at h⟩
  | [], [], _ :: _, [], acc, vals, F, G, h1, h2 => by simp [headC] at h2
  | [], [], [], _ :: _, _, _, _, _, h1, _ => by simp [headC] at h1
  | [], [], _ :: _, _ :: _, _, _, _, _, h1, _ => by simp [headC] at h1
  | [], _ :: _, _, [], _, _, _, _, h1, _ => by simp [headC] at h1
  | [], _ :: _, _, _ :: _, _, _, _, _, h1, _ => by simp [headC] at h1
  | _ :: _, [], _, _, _, _, _, _, h1, _ => by simp [headC] at h1
  | _ :: _, _ :: _, _, [], _, _, _, _, h1, _ => by simp [headC] at h1
  | _ :: _, _ :: _, [], _ :: _, _, _, _, _, _, h2 => by simp [headC] at h2

theorem head3_both {s now now' : St} : ∀ {l : List (Nat × EA)} {H : List Ent} {vals : List Value} {F G : List Ent → List Value → Prop}, RefH now H →
    head3 (pickNow s now) s now l H vals F → head3 pickAll s now' l H vals G → ∃ H' vals', F H' vals' ∧ G H' vals' ∧ RefH now H'
  | [], H, vals, F, G, hH, h1, h2 => ⟨H, vals, h1, h2, hH⟩
  | (id, ea) :: r, H, vals, F, G, hH, h1, h2 => by
    simp only [head3] at h1 h2
    cases ea with
    | cells l =>
      simp only at h1 h2
      split at h1
      · rename_i cs el nm hx
        simp only [hx] at h2
        rw [pickNow_elE] at h1
        split at h1
        · rename_i cs0 el0 nm0 cs1 el1 nm1 e1 e2
          rw [hx] at e1
          cases e1
          split at h1
          · rename_i hc
            obtain rfl := Nat.eq_of_beq_eq_true hc
            obtain ⟨hnm, h1⟩ := nameLe_sound h1
            simp only [cellsOfE, e2] at h1
            obtain ⟨cs', vals', g1, g2, g3, g4⟩ := headC_both h1 h2
            simp only [List.nil_append] at g1 g2
            refine head3_both (hH.set (x := ⟨.cells cs' el, nm⟩) e2 (fun _ => ⟨rfl, fun e h hh => ?_⟩) hnm) g1 g2
            obtain ⟨h0, c, c1, c2, c3⟩ := hh
            refine ⟨h0, c, c1, c2.trans g3.symm, fun k sv hk hj => ?_⟩
            obtain ⟨sv', q1, q2⟩ := g4 k sv hk
            obtain ⟨q3, q4⟩ := q2 hj
            rw [← q4 e]
            exact c3 k sv' q1 q3
          · exact h1.elim
        · exact h1.elim
      · exact h1.elim
    | keep => exact head3_both hH h1 h2
    | row => exact head3_both hH h1 h2
    | vec => exact head3_both hH h1 h2
    | iter => exact head3_both hH h1 h2

structure Ref (now T : St) : Prop where
  H : RefH now T.H
  tm : RefT now T.tm
  I : T.I = now.I
  G : T.G = now.G
  marks : T.marks = now.marks
  len : T.tm.length = now.tm.length

theorem headS_both {s now now' : St} {h : Head} {F G : List Value → List (List Value) → St → Prop} (hI : now'.I = now.I) (hG : now'.G = now.G) (hm : now.marks = s.marks) (hl : now.tm.length = s.tm.length)
    (h1 : headS (pickNow s now) h s now F) (h2 : headS pickAll h s now' G) : ∃ vals xss T, F vals xss T ∧ G vals xss T ∧ Ref now T := by
  unfold headS at h1 h2
  have hH0 : RefH now (s.H.map fun _ => ⟨.dead, none⟩) := by
    constructor
    · intro id x hx hal
      rw [List.getElem?_map, Option.map_eq_some_iff] at hx
      obtain ⟨_, _, rfl⟩ := hx
      cases hal
    · intro id x b hx hb
      rw [List.getElem?_map, Option.map_eq_some_iff] at hx
      obtain ⟨_, _, rfl⟩ := hx
      cases hb
  obtain ⟨H, xss, h1, h2, hH⟩ := head1_both hH0 h1 h2
  have hT0 : RefT now (s.tm.map fun _ => .junk) := by
    intro t sv ht hj
    rw [List.getElem?_map, Option.map_eq_some_iff] at ht
    obtain ⟨_, _, rfl⟩ := ht
    cases hj
  obtain ⟨tm, vals, h1, h2, hT, hlen⟩ := head2_both hT0 h1 h2
  obtain ⟨H', vals', h1, h2, hH'⟩ := head3_both hH h1 h2
  have heq : ({ now' with tm := tm, H := H', marks := s.marks, rnd := s.rnd } : St) = { now with tm := tm, H := H', marks := s.marks, rnd := s.rnd } := by
    simp [hI, hG]
  rw [heq] at h2
  exact ⟨vals', xss, _, h1, h2, ⟨hH', hT, rfl, rfl, hm.symm, by simpa [hl] using hlen⟩⟩

theorem Sat.ref {c : Ctx} {e : Env} {now T : St} {w : World} (hS : Sat c e now w) (h : Ref now T) : Sat c e T w := by
  refine ⟨hS.same, hS.size, h.I ▸ hS.I, hS.hf, fun b h1 h2 => h.I ▸ hS.old b h1 h2, ?_, ?_, ?_⟩
  · intro id x hx hal
    obtain ⟨x', h1, h2, h3⟩ := h.H.obj id x hx hal
    obtain ⟨g1, g2⟩ := hS.owned id x' h1 h2
    exact ⟨h3 _ _ g1, fun hn => by rw [h.I]; exact g2 hn⟩
  · intro i j x y hx hy hal1 hal2 hn1 hn2 hij
    obtain ⟨x', h1, h2, _⟩ := h.H.obj i x hx hal1
    obtain ⟨y', h3, h4, _⟩ := h.H.obj j y hy hal2
    exact hS.apart i j x' y' h1 h3 h2 h4 hn1 hn2 hij
  · intro id x b hx hb
    obtain ⟨x', h1, h2⟩ := h.H.name id x b hx hb
    exact hS.names id x' b h1 h2
theorem SatX.ref {c : Ctx} {e : Env} {now T : St} {w : World} (hS : SatX c e now w) (h : Ref now T) : SatX c e T w := by
  refine ⟨hS.toSat.ref h, by rw [h.G]; exact hS.gIn, by rw [h.G, h.I]; exact hS.gI, fun id x hx hal hn => ?_⟩
  obtain ⟨x', h1, h2, _⟩ := h.H.obj id x hx hal
  rw [h.G]
  exact hS.gOwn id x' h1 h2 hn
theorem SatA.ref {e : Env} {now T : St} {a : Act} (hA : SatA e now a) (h : Ref now T) : SatA e T a := by
  refine ⟨hA.size.trans h.len.symm, fun t sv ht hj => ?_, by rw [h.marks]; exact hA.defers⟩
  obtain ⟨sv', h1, h2, h3⟩ := h.tm t sv ht hj
  rw [← h3 e]
  exact hA.tm t sv' h1 h2

end Go.SE
