/- Regions that draw their order of evaluation, symbolically. -/
import Derived.Test.YthfgpdjplknleaaGreatDoorSe15D
namespace Go.SE
open Go.RowKit

/-- Entries that nothing in the region writes. -/
def frz (n0 : Nat) (M : List Nat) (id : Nat) : Bool := Nat.blt id n0 && !memB id M
def restrH (n0 : Nat) (M : List Nat) : Nat → List Ent → List Ent
  | _, [] => []
  | i, x :: r => (bif frz n0 M i then x else ⟨.dead, none⟩) :: restrH n0 M (i + 1) r
def restr (n0 : Nat) (M : List Nat) (s : St) : St := { s with H := restrH n0 M 0 s.H }

theorem restrH_get {n0 : Nat} {M : List Nat} : ∀ {i : Nat} {l : List Ent} {k : Nat} {x : Ent}, (restrH n0 M i l)[k]? = some x → alive x.obj = true → frz n0 M (i + k) = true ∧ l[k]? = some x
  | i, [], k, x, h, _ => by simp [restrH] at h
  | i, y :: r, k, x, h, hal => by
    simp only [restrH] at h
    cases k with
    | zero =>
      simp only [List.getElem?_cons_zero, Option.some.injEq] at h
      cases hf : frz n0 M i with
      | true => rw [hf, cond_true] at h; subst h; exact ⟨by simp, rfl⟩
      | false => rw [hf, cond_false] at h; subst h; cases hal
    | succ k =>
      obtain ⟨h1, h2⟩ := restrH_get (i := i + 1) (k := k) (by simpa using h) hal
      exact ⟨by rw [show i + (k + 1) = i + 1 + k from by omega]; exact h1, by simpa using h2⟩
theorem restrH_name {n0 : Nat} {M : List Nat} : ∀ {i : Nat} {l : List Ent} {k : Nat} {x : Ent} {b : Nat}, (restrH n0 M i l)[k]? = some x → x.name = some b → l[k]? = some x
  | i, [], k, x, b, h, _ => by simp [restrH] at h
  | i, y :: r, k, x, b, h, hb => by
    simp only [restrH] at h
    cases k with
    | zero =>
      simp only [List.getElem?_cons_zero, Option.some.injEq] at h
      cases hf : frz n0 M i with
      | true => rw [hf, cond_true] at h; subst h; rfl
      | false => rw [hf, cond_false] at h; subst h; cases hb
    | succ k => exact (by simpa using restrH_name (i := i + 1) (k := k) (by simpa using h) hb)

/-- The guard of an operation. -/
def seG0 (ops : Array Oper) (s : St) (o : Oper) (run skip : St → Prop) : Prop :=
  match o.guard with
  | none => run s
  | some (j, want) => match (ops[j]?).bind (·.dst) with
    | some d => match s.tm[d]? with
      | some (.v (.bool t)) => Br t
          (match want with
            | true => run { s with tm := s.tm.set d (.v (.bool true)) }
            | false => skip { s with tm := s.tm.set d (.v (.bool true)) })
          (match want with
            | false => run { s with tm := s.tm.set d (.v (.bool false)) }
            | true => skip { s with tm := s.tm.set d (.v (.bool false)) })
      | some (.v (.tuple _)) => skip s
      | _ => False
    | none => False

/-- The same, where it may be said beside it what a guard's value is. -/
def seG (A : List (Nat × CK)) (ops : Array Oper) (s : St) (o : Oper) (run skip : St → Prop) : Prop :=
  match o.guard with
  | none => run s
  | some (j, want) => match (ops[j]?).bind (·.dst) with
    | some d => match ckOf A (some d) with
      | some (.val b) => match s.tm[d]? with
        | some (.v (.bool t)) => t = b ∧ (match want, b with
            | true, true => run { s with tm := s.tm.set d (.v (.bool true)) }
            | false, true => skip { s with tm := s.tm.set d (.v (.bool true)) }
            | false, false => run { s with tm := s.tm.set d (.v (.bool false)) }
            | true, false => skip { s with tm := s.tm.set d (.v (.bool false)) })
        | _ => seG0 ops s o run skip
      | _ => seG0 ops s o run skip
    | none => False
theorem seG_old {A : List (Nat × CK)} {ops : Array Oper} {s : St} {o : Oper} {run skip : St → Prop} (h : seG A ops s o run skip) : seG0 ops s o run skip := by
  unfold seG at h
  cases hg : o.guard with
  | none =>
    rw [hg] at h
    simp only [seG0, hg]; exact h
  | some jw =>
    obtain ⟨j, want⟩ := jw
    rw [hg] at h
    simp only at h
    cases hd : (ops[j]?).bind (·.dst) with
    | none => rw [hd] at h; exact h.elim
    | some d =>
      rw [hd] at h
      simp only at h
      split at h
      · split at h
        · rename_i b _ t ht
          obtain ⟨rfl, h⟩ := h
          simp only [seG0, hg, hd, ht]
          cases t <;> cases want <;> simpa [Br_true, Br_false] using h
        · exact h
      · exact h

def needsH : Op → Bool
  | .load _ _ | .indexAddr _ _ _ | .slice _ _ _ _ _ | .convert _ _ _ => true
  | _ => false
def isQuiet : Kd → Bool
  | .quiet => true
  | _ => false
def opRefs (s : St) (o : Op) : List Nat :=
  match tmpsOf o with
  | some l => refsOfL (l.map fun t => (s.tm[t]?).getD .junk)
  | none => []
/-- What may be written till operation i comes up: MO has what each operation writes. -/
def mkM (i : Nat) : List Oper → List (List Nat) → List Nat
  | o :: r, m :: ms => bif m.isEmpty || o.after.toList.any (fun e => bindsB e && Nat.beq e.on i) then mkM i r ms else m ++ mkM i r ms
  | [], _ => []
  | _ :: _, [] => []
def fzM (ops : Array Oper) (n0 : Nat) (MO : List (List Nat)) (i : Nat) (rs : List Nat) : List Nat :=
  bif rs.all (frz n0 MO.flatten) then MO.flatten else mkM i ops.toList MO
def takeable (P : Program) (ops : Array Oper) (n0 : Nat) (MO : List (List Nat)) (fr : Bool) (l : List Bool) (s : St) (i : Nat) (o : Oper) : Bool :=
  isQuiet (kindOf P o.op) && ((fr || freeL ops l i o 0 ops.toList) && (!needsH o.op || (opRefs s o.op).all (frz n0 (fzM ops n0 MO i (opRefs s o.op)))))
def pickT (P : Program) (ops : Array Oper) (n0 : Nat) (MO : List (List Nat)) (fr : Bool) (l : List Bool) (s : St) : List Nat → Option (Nat × Oper)
  | [] => none
  | i :: r => match ops[i]? with
    | some o => bif takeable P ops n0 MO fr l s i o then some (i, o) else pickT P ops n0 MO fr l s r
    | none => pickT P ops n0 MO fr l s r
/-- May operation i write these? -/
def modOk (n0 : Nat) (MO : List (List Nat)) (i : Nat) (ids : List Nat) : Bool := ids.all fun id => !Nat.blt id n0 || memB id ((MO[i]?).getD [])

def allP (F : Nat → Prop) : List Nat → Prop
  | [] => True
  | [i] => F i
  | i :: r => F i ∧ allP F r
theorem allP_mem {F : Nat → Prop} : ∀ {l : List Nat}, allP F l → ∀ i ∈ l, F i
  | [], _, i, hi => by cases hi
  | [j], h, i, hi => by simp only [List.mem_singleton] at hi; subst hi; exact h
  | j :: k :: r, h, i, hi => by
    rcases List.mem_cons.1 hi with rfl | hi
    · exact h.1
    · exact allP_mem h.2 i hi

/-- All quiet operations may always be taken first (as far as this does not depend on memory). -/
def freeS (ops : Array Oper) (i : Nat) (oi : Oper) : Nat → List Oper → Bool
  | _, [] => true
  | j, oj :: r => (Nat.beq j i || oj.after.toList.any (fun e => bindsB e && Nat.beq e.on i) || oi.after.toList.any (fun e => bindsB e && Nat.beq e.on j) || apartB ops oi oj) && freeS ops i oi (j + 1) r
theorem freeS_spec {ops : Array Oper} {i : Nat} {oi : Oper} : ∀ {j0 : Nat} {os : List Oper}, freeS ops i oi j0 os = true → ∀ (k : Nat) (oj : Oper), os[k]? = some oj → j0 + k ≠ i →
    (∀ e ∈ oi.after, bindsB e = true → e.on ≠ j0 + k) → (∀ e ∈ oj.after, bindsB e = true → e.on ≠ i) → oi.apart ops oj = true
  | j0, [], _, k, oj, hk, _, _, _ => by simp at hk
  | j0, o :: r, h, k, oj, hk, hne, hun, hno => by
    simp only [freeS, Bool.and_eq_true] at h
    cases k with
    | zero =>
      simp only [List.getElem?_cons_zero, Option.some.injEq] at hk
      subst hk
      simp only [Nat.add_zero] at hne hun
      simp only [Bool.or_eq_true] at h
      rcases h.1 with ((h1 | h1) | h1) | h1
      · exact absurd (Nat.eq_of_beq_eq_true h1) hne
      · obtain ⟨e, he, hb⟩ := List.any_eq_true.1 h1
        simp only [Bool.and_eq_true] at hb
        exact absurd (Nat.eq_of_beq_eq_true hb.2) (hno e (by simpa using he) hb.1)
      · obtain ⟨e, he, hb⟩ := List.any_eq_true.1 h1
        simp only [Bool.and_eq_true] at hb
        exact absurd (Nat.eq_of_beq_eq_true hb.2) (hun e (by simpa using he) hb.1)
      · exact apartB_spec h1
    | succ k =>
      exact freeS_spec h.2 k oj (by simpa using hk) (by omega) (by rw [show j0 + 1 + k = j0 + (k + 1) from by omega]; exact hun) hno
def allFreeL (P : Program) (ops : Array Oper) : Nat → List Oper → Bool
  | _, [] => true
  | i, o :: r => (!isQuiet (kindOf P o.op) || freeS ops i o 0 ops.toList) && allFreeL P ops (i + 1) r
theorem allFreeL_spec {P : Program} {ops : Array Oper} : ∀ {i0 : Nat} {os : List Oper}, allFreeL P ops i0 os = true → ∀ (k : Nat) (o : Oper), os[k]? = some o → isQuiet (kindOf P o.op) = true → freeS ops (i0 + k) o 0 ops.toList = true
  | i0, [], _, k, o, hk, _ => by simp at hk
  | i0, x :: r, h, k, o, hk, hq => by
    simp only [allFreeL, Bool.and_eq_true, Bool.or_eq_true, Bool.not_eq_true'] at h
    cases k with
    | zero =>
      simp only [List.getElem?_cons_zero, Option.some.injEq] at hk
      subst hk
      rcases h.1 with h1 | h1
      · rw [hq] at h1; cases h1
      · exact h1
    | succ k =>
      rw [show i0 + (k + 1) = i0 + 1 + k by omega]
      exact allFreeL_spec h.2 k o (by simpa using hk) hq
/-- What of a region may come up next. -/
def seAny (P : Program) (A : List (Nat × CK)) (ops : Array Oper) (n0 : Nat) (MO : List (List Nat)) (fr : Bool) : Nat → List Bool → St → (St → Prop) → Prop
  | 0, l, s, K => match rdys l 0 ops.toList with
    | [] => K s
    | _ => False
  | n + 1, l, s, K => match rdys l 0 ops.toList with
    | [] => K s
    | i0 :: r0 => match pickT P ops n0 MO fr l s (i0 :: r0) with
      | some (i, o) => seG A ops s o (fun s1 => seQ P (restr n0 (fzM ops n0 MO i (opRefs s1 o.op)) s1) o.op fun sv => if isJunk sv then False else seAny P A ops n0 MO fr n (l.set i true) (putS s1 o.dst sv) K)
          (fun s1 => seAny P A ops n0 MO fr n (l.set i true) (putS s1 o.dst (.v undef)) K)
      | none => allP (fun i => match ops[i]? with
          | some o => seG A ops s o (fun s1 => if modOk n0 MO i (modsC P A s1 o) then seO P A s1 o fun s2 => seAny P A ops n0 MO fr n (l.set i true) s2 K else False)
              (fun s1 => seAny P A ops n0 MO fr n (l.set i true) (putS s1 o.dst (.v undef)) K)
          | none => False) (i0 :: r0)

/-! The same where all quiet operations may be taken first; what has come up is a number's bits. -/
def bitB (m n : Nat) : Bool := Nat.beq (Nat.land (Nat.shiftRight m n) 1) 1
def setB (m i : Nat) : Nat := Nat.lor m (Nat.shiftLeft 1 i)
theorem bitB_eq (m n : Nat) : bitB m n = m.testBit n := by
  have h : ∀ x : Nat, Nat.beq (Nat.land x 1) 1 = (1 &&& x != 0) := fun x => by
    show Nat.beq (x &&& 1) 1 = (1 &&& x != 0)
    rw [Nat.and_comm 1 x, Nat.and_one_is_mod]
    rcases Nat.mod_two_eq_zero_or_one x with h | h <;> rw [h] <;> rfl
  exact h (m >>> n)
theorem bitB_set (m i j : Nat) : bitB (setB m i) j = (bitB m j || decide (i = j)) := by
  rw [bitB_eq, bitB_eq]
  show (m ||| 1 <<< i).testBit j = _
  rw [Nat.testBit_or, Nat.shiftLeft_eq, Nat.one_mul, Nat.testBit_two_pow]
def rdyN (m : Nat) (o : Oper) : Bool := o.after.toList.all fun e => !bindsB e || bitB m e.on
def rdysN (m : Nat) : Nat → List Oper → List Nat
  | _, [] => []
  | i, o :: r => bif !bitB m i && rdyN m o then i :: rdysN m (i + 1) r else rdysN m (i + 1) r
def listB (m n : Nat) : List Bool := (List.range n).map fun i => bitB m i
theorem listB_getD {m n : Nat} (hm : ∀ j, n ≤ j → bitB m j = false) (j : Nat) : (listB m n).getD j false = bitB m j := by
  rw [listB, List.getD_eq_getElem?_getD, List.getElem?_map]
  by_cases h : j < n
  · rw [List.getElem?_range h]; rfl
  · rw [List.getElem?_eq_none (by simpa using Nat.le_of_not_lt h), hm j (by omega)]; rfl
theorem listB_getT {m n j : Nat} (h : j < n) : (listB m n).getD j true = bitB m j := by
  rw [listB, List.getD_eq_getElem?_getD, List.getElem?_map, List.getElem?_range h]; rfl
theorem listB_set {m n i : Nat} (h : i < n) : (listB m n).set i true = listB (setB m i) n := by
  apply List.ext_getElem?
  intro j
  rw [List.getElem?_set]
  simp only [listB, List.getElem?_map, List.length_map, List.length_range]
  by_cases hj : i = j
  · subst hj
    rw [if_pos rfl, if_pos h, List.getElem?_range h, Option.map_some, bitB_set]
    simp
  · rw [if_neg hj]
    by_cases hn : j < n
    · rw [List.getElem?_range hn, Option.map_some, Option.map_some, bitB_set]
      simp [hj]
    · rw [List.getElem?_eq_none (by simpa using Nat.le_of_not_lt hn)]; rfl
theorem rdysN_eq {m n : Nat} (hm : ∀ j, n ≤ j → bitB m j = false) : ∀ {i : Nat} {os : List Oper}, i + os.length ≤ n → rdysN m i os = rdys (listB m n) i os
  | i, [], _ => rfl
  | i, o :: r, h => by
    simp only [List.length_cons] at h
    have e : rdyN m o = rdyO (listB m n) o := by simp only [rdyN, rdyO, listB_getD hm]
    rw [rdysN, rdys, listB_getT (by omega), e, rdysN_eq hm (i := i + 1) (os := r) (by omega)]
theorem takeable_true {P : Program} {ops : Array Oper} {n0 : Nat} {MO : List (List Nat)} {l : List Bool} {s : St} {i : Nat} {o : Oper} : takeable P ops n0 MO true l s i o = takeable P ops n0 MO true [] s i o := by
  simp only [takeable, Bool.true_or]
theorem pickT_true {P : Program} {ops : Array Oper} {n0 : Nat} {MO : List (List Nat)} {l : List Bool} {s : St} : ∀ {rs : List Nat}, pickT P ops n0 MO true l s rs = pickT P ops n0 MO true [] s rs
  | [] => rfl
  | i :: r => by
    rw [pickT, pickT]
    split
    · rw [takeable_true, pickT_true (rs := r)]
    · exact pickT_true
def seAnyN (P : Program) (A : List (Nat × CK)) (ops : Array Oper) (n0 : Nat) (MO : List (List Nat)) : Nat → Nat → St → (St → Prop) → Prop
  | 0, m, s, K => match rdysN m 0 ops.toList with
    | [] => K s
    | _ => False
  | n + 1, m, s, K => match rdysN m 0 ops.toList with
    | [] => K s
    | i0 :: r0 => match pickT P ops n0 MO true [] s (i0 :: r0) with
      | some (i, o) => seG A ops s o (fun s1 => seQ P (restr n0 (fzM ops n0 MO i (opRefs s1 o.op)) s1) o.op fun sv => if isJunk sv then False else seAnyN P A ops n0 MO n (setB m i) (putS s1 o.dst sv) K)
          (fun s1 => seAnyN P A ops n0 MO n (setB m i) (putS s1 o.dst (.v undef)) K)
      | none => allP (fun i => match ops[i]? with
          | some o => seG A ops s o (fun s1 => if modOk n0 MO i (modsC P A s1 o) then seO P A s1 o fun s2 => seAnyN P A ops n0 MO n (setB m i) s2 K else False)
              (fun s1 => seAnyN P A ops n0 MO n (setB m i) (putS s1 o.dst (.v undef)) K)
          | none => False) (i0 :: r0)
theorem allP_congr {F G : Nat → Prop} : ∀ {l : List Nat}, (∀ i ∈ l, F i = G i) → allP F l = allP G l
  | [], _ => rfl
  | [i], h => h i (by simp)
  | i :: j :: r, h => by
    show (F i ∧ allP F (j :: r)) = (G i ∧ allP G (j :: r))
    rw [h i (by simp), allP_congr (l := j :: r) fun k hk => h k (List.mem_cons_of_mem _ hk)]
theorem pickT_ops {P : Program} {ops : Array Oper} {n0 : Nat} {MO : List (List Nat)} {fr : Bool} {l : List Bool} {s : St} {i : Nat} {o : Oper} : ∀ {rs : List Nat}, pickT P ops n0 MO fr l s rs = some (i, o) → ops[i]? = some o
  | [], h => by cases h
  | j :: r, h => by
    rw [pickT] at h
    split at h
    · rename_i o' ho
      cases ht : takeable P ops n0 MO fr l s j o' with
      | true =>
        rw [ht, cond_true] at h
        cases h; exact ho
      | false =>
        rw [ht, cond_false] at h
        exact pickT_ops h
    · exact pickT_ops h
theorem seAnyN_eq {P : Program} {A : List (Nat × CK)} {ops : Array Oper} {n0 : Nat} {MO : List (List Nat)} {K : St → Prop} : ∀ {n m : Nat} {s : St}, (∀ j, ops.toList.length ≤ j → bitB m j = false) →
    seAnyN P A ops n0 MO n m s K = seAny P A ops n0 MO true n (listB m ops.toList.length) s K
  | 0, m, s, hm => by rw [seAnyN, seAny, rdysN_eq hm (by omega)]
  | n + 1, m, s, hm => by
    have e : ∀ i, i < ops.toList.length → ∀ s', seAnyN P A ops n0 MO n (setB m i) s' K = seAny P A ops n0 MO true n ((listB m ops.toList.length).set i true) s' K := fun i hi s' => by
      rw [listB_set hi]
      refine seAnyN_eq fun j hj => ?_
      rw [bitB_set, hm j hj]
      simp; omega
    rw [seAnyN, seAny, rdysN_eq hm (by omega)]
    cases hr : rdys (listB m ops.toList.length) 0 ops.toList with
    | nil => rfl
    | cons i0 r0 =>
      simp only
      rw [pickT_true (l := listB m ops.toList.length)]
      cases hp : pickT P ops n0 MO true [] s (i0 :: r0) with
      | some io =>
        obtain ⟨i, o⟩ := io
        have hi := (Array.getElem?_eq_some_iff.1 (pickT_ops hp)).1
        simp only [e i (by simpa using hi)]
      | none =>
        simp only
        refine allP_congr fun i _ => ?_
        cases ho : ops[i]? with
        | none => rfl
        | some o =>
          have hi := (Array.getElem?_eq_some_iff.1 ho).1
          simp only [e i (by simpa using hi)]

def findDst (t : Nat) : List Oper → Option Op
  | [] => none
  | o :: r => match o.dst with
    | some d => bif Nat.beq d t then some o.op else findDst t r
    | none => findDst t r
/-- The entries that an address may lie in. -/
def baseIds (ops : List Oper) (s : St) : Nat → Operand → Option (List Nat)
  | 0, _ => none
  | n + 1, x =>
    let now : Option (List Nat) := match ev s x with
      | .ptr id _ | .sptr id _ | .rsl id _ | .xsl id _ _ _ => some [id]
      | _ => none
    match x with
    | .tmp t => match findDst t ops with
      | some (.fieldAddr _ y _) | some (.indexAddr _ y _) | some (.nilCheck y) | some (.move y) => baseIds ops s n y
      | some (.alloc _) | some (.box _ _) | some (.buildSlice _ _ _) | some (.makeSlice _ _ _) => some []
      | some _ => none
      | none => now
    | _ => now
def rowIds : Nat → List Ent → List Nat
  | _, [] => []
  | i, ⟨.row _ _ _, _⟩ :: r => i :: rowIds (i + 1) r
  | i, _ :: r => rowIds (i + 1) r
def modO (A : List (Nat × CK)) (ops : List Oper) (s : St) (o : Oper) : List Nat :=
  match o.op with
  | .store _ ad _ => (baseIds ops s 8 ad).getD (List.range s.H.length)
  | .call c => match c.callee with
    | .builtin .append => rowIds 0 s.H
    | _ => match ckOf A o.dst with
      | some (.lend ids _ _) => ids
      | some (.lendT _ _ _) => rowIds 0 s.H
      | _ => []
  | _ => []
def modReg (A : List (Nat × CK)) (ops : List Oper) (s : St) (os : List Oper) : List (List Nat) := os.map (modO A ops s)
def okO (o : Oper) : Bool :=
  match o.op with
  | .select _ _ | .defer _ => false
  | _ => true

/-- A region that draws its order. -/
def seDraw (P : Program) (A : List (Nat × CK)) (ops : Array Oper) (s : St) (K : St → Prop) : Prop :=
  if P.follows .mixedOrders && ops.toList.all okO then
    match allFreeL P ops 0 ops.toList with
    | true => seAnyN P A ops s.H.length (modReg A ops.toList s ops.toList) ops.toList.length 0 s K
    | false => seAny P A ops s.H.length (modReg A ops.toList s ops.toList) false ops.toList.length (List.replicate ops.toList.length false) s K
  else False

section
variable {P : Program} {c : Ctx} {e : Env} {s : St} {w : World} {a : Act} {r : Option Nat} {ops : Array Oper}

theorem seG_sound {o : Oper} {run skip : St → Prop} (h : seG0 ops s o run skip) (hS : SatX c e s w) (hA : SatA e s a) :
    ∃ s1, SatX c e s1 w ∧ SatA e s1 a ∧ s1.H = s.H ∧ s1.G = s.G ∧ s1.I = s.I ∧ s1.tm.length = s.tm.length ∧
      ((Region.wanted o (yielded ops a.tmps) = true ∧ run s1) ∨ (Region.wanted o (yielded ops a.tmps) = false ∧ skip s1)) := by
  unfold seG0 at h
  split at h
  · rename_i hg
    exact ⟨s, hS, hA, rfl, rfl, rfl, rfl, .inl ⟨by simp [Region.wanted, hg], h⟩⟩
  · rename_i j want hg
    have hw : Region.wanted o (yielded ops a.tmps) = (yielded ops a.tmps j == some want) := by simp [Region.wanted, hg]
    split at h
    · rename_i d hd
      split at h
      · rename_i t ht
        have hy : yielded ops a.tmps j = some t := by
          have := hA.tm d _ ht rfl
          simp only [den] at this
          unfold yielded
          rw [hd]
          simp [this]
        rw [hw, hy]
        cases t with
        | true =>
          simp only [Br_true] at h
          cases want with
          | true => exact ⟨_, hS.lit _, hA.lit ht, rfl, rfl, rfl, by simp, .inl ⟨rfl, h⟩⟩
          | false => exact ⟨_, hS.lit _, hA.lit ht, rfl, rfl, rfl, by simp, .inr ⟨rfl, h⟩⟩
        | false =>
          simp only [Br_false] at h
          cases want with
          | false => exact ⟨_, hS.lit _, hA.lit ht, rfl, rfl, rfl, by simp, .inl ⟨rfl, h⟩⟩
          | true => exact ⟨_, hS.lit _, hA.lit ht, rfl, rfl, rfl, by simp, .inr ⟨rfl, h⟩⟩
      · rename_i vs ht
        have hy : yielded ops a.tmps j = none := by
          have := hA.tm d _ ht rfl
          simp only [den] at this
          unfold yielded
          rw [hd]
          simp [this]
        rw [hw, hy]
        exact ⟨s, hS, hA, rfl, rfl, rfl, rfl, .inr ⟨rfl, h⟩⟩
      · exact h.elim
    · exact h.elim

/-- What holds throughout a region that draws: B are the blocks that nothing in it writes, hb what lies there. -/
structure RI (B : Nat → Prop) (hb : Nat → Option Obj) (n0 : Nat) (M : List Nat) (s : St) (e : Env) (w : World) : Prop where
  heap : ∀ b, B b → b < w.heap.size ∧ w.heap[b]? = hb b
  own : ∀ (id : Nat) (x : Ent), frz n0 M id = true → s.H[id]? = some x → alive x.obj = true → e.nil id = false → B (e.blk id)
  apart : ∀ (id : Nat) (x : Ent), frz n0 M id = false → s.H[id]? = some x → alive x.obj = true → e.nil id = false → ¬ B (e.blk id)
  len : n0 ≤ s.H.length
  gB : ∀ b, B b → s.G b = none

theorem frz_lt {n0 : Nat} {M : List Nat} {id : Nat} (h : frz n0 M id = true) : id < n0 := by
  simp only [frz, Bool.and_eq_true, Nat.blt_eq] at h
  exact h.1

theorem RI.step {B : Nat → Prop} {hb : Nat → Option Obj} {n0 : Nat} {M mods : List Nat} {s s' : St} {e e' : Env} {w w' : World} (h : RI B hb n0 M s e w) {gm : Bool} (hev : Evo gm mods s e w s' e' w')
    (hm : mods.all (fun id => !frz n0 M id) = true) : RI B hb n0 M s' e' w' := by
  have hm' : ∀ id, id ∈ mods → frz n0 M id = false := fun id hid => by simpa using List.all_eq_true.1 hm id hid
  refine ⟨fun b hB => ?_, fun id x hf hx hal hn => ?_, fun id x hf hx hal hn => ?_, Nat.le_trans h.len hev.len, fun b hB => hev.gN b (h.heap b hB).1 (h.gB b hB)⟩
  · obtain ⟨h1, h2⟩ := h.heap b hB
    refine ⟨Nat.lt_of_lt_of_le h1 hev.size, ?_⟩
    rw [hev.heap b h1 (fun _ => h.gB b hB) (fun id x hid hx hal hn hbe => h.apart id x (hm' id hid) hx hal hn (hbe ▸ hB))]
    exact h2
  · have hlt := Nat.lt_of_lt_of_le (frz_lt hf) h.len
    obtain ⟨x0, hx0, hal0⟩ := hev.live id x hlt hx hal
    obtain ⟨a1, _, a3⟩ := hev.same id hlt (fun hid => by rw [hm' id hid] at hf; cases hf)
    rw [← a1]
    exact h.own id x0 hf hx0 hal0 (a3.trans hn)
  · by_cases hlt : id < s.H.length
    · obtain ⟨x0, hx0, hal0⟩ := hev.live id x hlt hx hal
      by_cases hid : id ∈ mods
      · rcases hev.mod id x hlt hid hx hal hn with h1 | ⟨j, y, hj, hy, haly, hny, hbe⟩
        · exact fun hB => absurd (h.heap _ hB).1 (by omega)
        · rw [hbe]; exact h.apart j y (hm' j hj) hy haly hny
      · obtain ⟨a1, _, a3⟩ := hev.same id hlt hid
        rw [← a1]
        exact h.apart id x0 hf hx0 hal0 (a3.trans hn)
    · rcases hev.new id x (by omega) hx hal hn with h1 | ⟨j, y, hj, hy, haly, hny, hbe⟩
      · exact fun hB => absurd (h.heap _ hB).1 (by omega)
      · rw [hbe]; exact h.apart j y (hm' j hj) hy haly hny

theorem RI.same {B : Nat → Prop} {hb : Nat → Option Obj} {n0 : Nat} {M : List Nat} {s s' : St} {e : Env} {w : World} (h : RI B hb n0 M s e w) (hH : s'.H = s.H) (hG : s'.G = s.G) : RI B hb n0 M s' e w :=
  ⟨h.heap, by rw [hH]; exact h.own, by rw [hH]; exact h.apart, by rw [hH]; exact h.len, by rw [hG]; exact h.gB⟩

/-- The worlds in which what has been taken first keeps its value. -/
def Sx (W : World) (B : Nat → Prop) (hb : Nat → Option Obj) (I : Mem) (u : World) : Prop := Same W u ∧ I.inW u ∧ ∀ b, B b → u.heap[b]? = hb b

theorem restr_sat {B : Nat → Prop} {hb : Nat → Option Obj} {n0 : Nat} {M M' : List Nat} (hsub : ∀ id, frz n0 M' id = true → frz n0 M id = true) {u : World} (hS : Sat c e s w) (hR : RI B hb n0 M s e w) (hu : Sx c.W0 B hb s.I u) :
    Sat { W0 := { c.W0 with heap := #[] }, I0 := Mem.emp, hf := Mem.emp } e (restr n0 M' s) u := by
  have key : ∀ {id : Nat} {x : Ent}, (restr n0 M' s).H[id]? = some x → alive x.obj = true → frz n0 M id = true ∧ s.H[id]? = some x := by
    intro id x hx hal
    obtain ⟨h1, h2⟩ := restrH_get (i := 0) hx hal
    exact ⟨hsub _ (by simpa using h1), h2⟩
  refine ⟨⟨hu.1.os, hu.1.tape, hu.1.output⟩, Nat.zero_le _, hu.2.1, fun _ _ h => (by cases h), fun _ h => absurd rfl h, ?_, ?_, ?_⟩
  · intro id x hx hal
    obtain ⟨hf, hx⟩ := key hx hal
    obtain ⟨h1, h2⟩ := hS.owned id x hx hal
    refine ⟨holds_mem (fun hn => ?_) h1, fun hn => ⟨(h2 hn).1, rfl⟩⟩
    have hB := hR.own id x hf hx hal hn
    rw [hu.2.2 _ hB, (hR.heap _ hB).2]
  · intro i j x y hx hy hal1 hal2 hn1 hn2 hij
    exact hS.apart i j x y (key hx hal1).2 (key hy hal2).2 hal1 hal2 hn1 hn2 hij
  · intro id x b hx hb
    exact hS.names id x b (restrH_name (i := 0) hx hb) hb

theorem pickT_spec {n0 : Nat} {MO : List (List Nat)} {fr : Bool} {l : List Bool} : ∀ {rs : List Nat} {i : Nat} {o : Oper}, pickT P ops n0 MO fr l s rs = some (i, o) → i ∈ rs ∧ ops[i]? = some o ∧ takeable P ops n0 MO fr l s i o = true
  | [], i, o, h => by simp [pickT] at h
  | j :: rs, i, o, h => by
    simp only [pickT] at h
    split at h
    · rename_i o' ho'
      cases ht : takeable P ops n0 MO fr l s j o' with
      | true =>
        rw [ht, cond_true] at h
        simp only [Option.some.injEq, Prod.mk.injEq] at h
        obtain ⟨rfl, rfl⟩ := h
        exact ⟨List.mem_cons_self .., ho', ht⟩
      | false =>
        rw [ht, cond_false] at h
        obtain ⟨h1, h2⟩ := pickT_spec h
        exact ⟨List.mem_cons_of_mem _ h1, h2⟩
    · obtain ⟨h1, h2⟩ := pickT_spec h
      exact ⟨List.mem_cons_of_mem _ h1, h2⟩

theorem memB_append {x : Nat} : ∀ {l m : List Nat}, memB x (l ++ m) = (memB x l || memB x m)
  | [], m => by simp [memB]
  | y :: r, m => by simp [memB, memB_append (l := r), Bool.or_assoc]
theorem mkM_sub {i id : Nat} : ∀ {os : List Oper} {MO : List (List Nat)}, memB id (mkM i os MO) = true → memB id MO.flatten = true
  | [], MO, h => by simp [mkM, memB] at h
  | _ :: _, [], h => by simp [mkM, memB] at h
  | o :: r, m :: ms, h => by
    rw [List.flatten_cons, memB_append]
    rw [mkM] at h
    cases hc : (m.isEmpty || o.after.toList.any (fun e => bindsB e && Nat.beq e.on i)) with
    | true =>
      rw [hc, cond_true] at h
      rw [mkM_sub h, Bool.or_true]
    | false =>
      rw [hc, cond_false, memB_append] at h
      rcases Bool.or_eq_true_iff.1 h with h | h
      · rw [h, Bool.true_or]
      · rw [mkM_sub h, Bool.or_true]
theorem mkM_has {i id : Nat} : ∀ {os : List Oper} {MO : List (List Nat)} {j : Nat} {o : Oper}, os[j]? = some o → (∀ e ∈ o.after, bindsB e = true → e.on ≠ i) → memB id ((MO[j]?).getD []) = true → memB id (mkM i os MO) = true
  | [], MO, j, o, h, _, _ => by simp at h
  | _ :: _, [], j, o, _, _, h => by simp [memB] at h
  | x :: r, m :: ms, j, o, ho, hb, h => by
    rw [mkM]
    cases j with
    | zero =>
      simp only [List.getElem?_cons_zero, Option.some.injEq, Option.getD_some] at ho h
      subst ho
      have hc : x.after.toList.any (fun e => bindsB e && Nat.beq e.on i) = false := by
        rw [List.any_eq_false]
        intro e he hh
        simp only [Bool.and_eq_true] at hh
        exact hb e (by simpa using he) hh.1 (Nat.eq_of_beq_eq_true hh.2)
      cases m with
      | nil => simp [memB] at h
      | cons y ys => rw [hc, Bool.or_false, List.isEmpty_cons, cond_false, memB_append, h, Bool.true_or]
    | succ j =>
      have ih := mkM_has (i := i) (id := id) (os := r) (MO := ms) (j := j) (by simpa using ho) hb (by simpa using h)
      cases hc : (m.isEmpty || x.after.toList.any (fun e => bindsB e && Nat.beq e.on i)) with
      | true => rw [cond_true]; exact ih
      | false => rw [cond_false, memB_append, ih, Bool.or_true]
theorem fzM_sub {n0 : Nat} {MO : List (List Nat)} {i : Nat} {rs : List Nat} (id : Nat) (h : frz n0 (fzM ops n0 MO i rs) id = true) : frz n0 (mkM i ops.toList MO) id = true := by
  unfold fzM at h
  cases hc : rs.all (frz n0 MO.flatten) with
  | false => rw [hc, cond_false] at h; exact h
  | true =>
    rw [hc, cond_true] at h
    simp only [frz, Bool.and_eq_true, Bool.not_eq_true'] at h ⊢
    refine ⟨h.1, ?_⟩
    rw [Bool.eq_false_iff]
    intro hm
    rw [mkM_sub hm] at h
    cases h.2

/-- The worlds in which an operation may still come up. -/
def SK (dead : Nat → Prop) (W : World) (B : Nat → Nat → Prop) (hb : Nat → Option Obj) (I : Mem) (k : Nat) (u : World) : Prop := ¬ dead k → Sx W (B k) hb I u
theorem seAny_sound {A : List (Nat × CK)} {Q : Exit → Act → World → Prop} {n0 : Nat} {MO : List (List Nat)} {B : Nat → Nat → Prop} {hb : Nat → Option Obj} {fr : Bool} (hfr : fr = true → allFreeL P ops 0 ops.toList = true) (hQ : ∀ c a w, ¬ Q (.panic c) a w) (hok : ops.toList.all okO = true) :
    ∀ {n : Nat} {listed : Array Bool} {s : St} {e : Env} {a : Act} {w : World} {K : St → Prop} {dead : Nat → Prop}, seAny P A ops n0 MO fr n listed.toList s K → SatX c e s w → SatA e s a → (∀ k, ¬ dead k → RI (B k) hb n0 (mkM k ops.toList MO) s e w) →
      (∀ k, dead k → listed.getD k true = true) →
      (∀ (e' : Env) (s' : St) (a' : Act) (w' : World), K s' → SatX c e' s' w' → SatA e' s' a' → s.I.le s'.I → s'.tm.length = s.tm.length → Q .normal a' w') →
      WA r P ops Q n listed (SK dead c.W0 B hb s.I) a w := by
  have hsel : ∀ (j : Nat) (o : Oper) cs b, ops[j]? = some o → o.op ≠ .select cs b := fun j o cs b ho hop => by
    have := List.all_eq_true.1 hok o (by simpa using Array.mem_of_getElem? ho)
    simp [okO, hop] at this
  have hdf : ∀ (j : Nat) (o : Oper) cl, ops[j]? = some o → o.op ≠ .defer cl := fun j o cl ho hop => by
    have := List.all_eq_true.1 hok o (by simpa using Array.mem_of_getElem? ho)
    simp [okO, hop] at this
  have nil_of : ∀ {listed : Array Bool}, rdys listed.toList 0 ops.toList = [] → Region.ready .any ops listed = [] := fun h => by
    apply List.eq_nil_iff_forall_not_mem.2
    intro j hj
    rw [ready_iff, h] at hj
    cases hj
  have cons_of : ∀ {listed : Array Bool} {i0 : Nat} {r0 : List Nat}, rdys listed.toList 0 ops.toList = i0 :: r0 → Region.ready .any ops listed ≠ [] := fun {listed i0 r0} h hn => by
    have : i0 ∈ Region.ready .any ops listed := ready_iff.2 (by rw [h]; exact List.mem_cons_self ..)
    rw [hn] at this
    cases this
  intro n
  induction n with
  | zero =>
    intro listed s e a w K dead h hS hA hR hD hn
    simp only [seAny] at h
    split at h
    · rename_i hrd
      exact ⟨nil_of hrd, hn e s a w h hS hA (Mem.le_refl _) rfl⟩
    · exact h.elim
  | succ n ih =>
    intro listed s e a w K dead h hS hA hR hD hn
    have sxw : ∀ {d1 : Nat → Prop} {s1 : St} {e1 : Env} {w1 : World}, SatX c e1 s1 w1 → (∀ k, ¬ d1 k → RI (B k) hb n0 (mkM k ops.toList MO) s1 e1 w1) → ∀ k, SK d1 c.W0 B hb s1.I k w1 := fun hS1 hR1 k hk => ⟨hS1.same, hS1.I, fun b hB => ((hR1 k hk).heap b hB).2⟩
    have setD : ∀ {i : Nat} {dead : Nat → Prop}, (∀ k, dead k → listed.getD k true = true) → ∀ k, dead k → (listed.setIfInBounds i true).getD k true = true := fun {i dead} hD k hk => by
      by_cases hik : i = k
      · subst hik
        rcases Nat.lt_or_ge i listed.size with h' | h'
        · simp [h']
        · simp [h']
      · rw [getD_set_ne true hik]; exact hD k hk
    have hset : ∀ i, (listed.setIfInBounds i true).toList = listed.toList.set i true := fun i => by simp
    simp only [seAny] at h
    split at h
    · rename_i hrd
      exact ⟨fun _ => hn e s a w h hS hA (Mem.le_refl _) rfl, fun i hi => by rw [nil_of hrd] at hi; cases hi⟩
    · rename_i i0 r0 hrd
      split at h
      · rename_i i o hp
        obtain ⟨hmem, hio, htk⟩ := pickT_spec hp
        simp only [takeable, Bool.and_eq_true] at htk
        have hrdy : i ∈ Region.ready .any ops listed := ready_iff.2 (by rw [hrd]; exact hmem)
        have hfree : ∀ j oj, ops[j]? = some oj → j ≠ i → listed.getD j true = false → (∀ e ∈ oj.after, Region.binds .any e = true → e.on ≠ i) → o.apart ops oj = true := by
          intro j oj hj hne hun hno
          rcases Bool.or_eq_true_iff.1 htk.2.1 with hf | hf
          · have h0 := allFreeL_spec (hfr hf) i o (by simpa using hio) htk.1
            rw [Nat.zero_add] at h0
            refine freeS_spec h0 j oj (by simpa using hj) (by omega) (fun e he hb heq => ?_) (fun e he hb => hno e he (by rw [bindsB_eq]; exact hb))
            rw [Nat.zero_add] at heq
            obtain ⟨_, o', ho', hall⟩ := mem_ready.1 hrdy
            rw [hio] at ho'
            cases ho'
            have h1 := hall e he (by rw [bindsB_eq]; exact hb)
            rw [heq] at h1
            rcases Nat.lt_or_ge j listed.size with h' | h'
            · simp [h'] at hun h1; rw [hun] at h1; cases h1
            · simp [Array.getElem?_eq_none h'] at h1
          refine freeL_spec hf j oj (by simpa using hj) (by omega) ?_ (fun e he hb => hno e he (by rw [bindsB_eq]; exact hb))
          rw [Nat.zero_add]
          simpa [Array.getD_eq_getD_getElem?, List.getD_eq_getElem?_getD] using hun
        obtain ⟨s1, hS1, hA1, hH1, hG1, hI1, hl1, hrs⟩ := seG_sound (seG_old h) hS hA
        have hR1 := fun k hk => (hR k hk).same hH1 hG1
        have hal : ¬ dead i := fun hd => by
          have h1 := hD i hd
          rw [(mem_ready.1 hrdy).1] at h1
          cases h1
        rw [← hI1]
        rcases hrs with ⟨hw, h⟩ | ⟨hw, h⟩
        · obtain ⟨sv, h, hrun⟩ := seQ_sound (c := { W0 := { c.W0 with heap := #[] }, I0 := Mem.emp, hf := Mem.emp }) h
          split at h
          · exact h.elim
          · rename_i hj
            refine WA_first hio hsel hdf hQ n listed _ a w hfree hrdy (v := den e sv) (.inl ⟨hw, fun u hu => ?_⟩) (sxw hS1 hR1) ?_
            · obtain ⟨x, hx, hd⟩ := hrun e a u (restr_sat fzM_sub hS1.toSat (hR1 i hal) (hu hal)) ⟨hA1.size, hA1.tm, hA1.defers⟩
              rcases hd with hd | rfl
              · exact absurd hd hj
              · exact hx o.dst o.type o.pos o.after o.guard
            · rw [← putS_I s1 o.dst sv]
              refine ih (by rw [hset]; exact h) (hS1.put _ _) (hA1.put _ (.inr rfl)) (fun k hk => (hR1 k hk).same (putS_H ..) (putS_G ..)) (setD hD) fun e' s' a' w' hK hS' hA' hle hlen => ?_
              exact hn e' s' a' w' hK hS' hA' (by rw [putS_I, hI1] at hle; exact hle) (hlen.trans ((putS_len ..).trans hl1))
        · refine WA_first hio hsel hdf hQ n listed _ a w hfree hrdy (v := undef) (.inr ⟨hw, rfl⟩) (sxw hS1 hR1) ?_
          rw [← putS_I s1 o.dst (.v undef)]
          refine ih (by rw [hset]; exact h) (hS1.put _ _) (hA1.put _ (.inr (by simp [den]))) (fun k hk => (hR1 k hk).same (putS_H ..) (putS_G ..)) (setD hD) fun e' s' a' w' hK hS' hA' hle hlen => ?_
          exact hn e' s' a' w' hK hS' hA' (by rw [putS_I, hI1] at hle; exact hle) (hlen.trans ((putS_len ..).trans hl1))
      · refine ⟨fun h0 => absurd h0 (cons_of hrd), fun i hi => ?_⟩
        have h := allP_mem h i (by rw [← hrd]; exact ready_iff.1 hi)
        split at h
        · rename_i o hio
          obtain ⟨s1, hS1, hA1, hH1, hG1, hI1, hl1, hrs⟩ := seG_sound (seG_old h) hS hA
          have hR1 := fun k hk => (hR k hk).same hH1 hG1
          have hD' : ∀ k, dead k ∨ bndO ops i k → (listed.setIfInBounds i true).getD k true = true := setD fun k hk => by
            rcases hk with hk | ⟨o', ho', e0, he, hb, rfl⟩
            · exact hD k hk
            · obtain ⟨_, o2, ho2, hall⟩ := mem_ready.1 hi
              rw [ho'] at ho2
              cases ho2
              have h1 := hall e0 he hb
              rcases Nat.lt_or_ge e0.on listed.size with h' | h'
              · simp [h'] at h1 ⊢; exact h1
              · simp [h']
          unfold wpOpIn
          simp only [hio]
          rcases hrs with ⟨hw, h⟩ | ⟨hw, h⟩
          · rw [if_pos hw]
            split at h
            · rename_i hmods
              refine seO_sound h hS1 hA1 fun e' s' a' w' hK hS' hA' hle hlen ⟨gm, hev⟩ => ?_
              have hR' : ∀ k, ¬ (dead k ∨ bndO ops i k) → RI (B k) hb n0 (mkM k ops.toList MO) s' e' w' := fun k hk => by
                refine (hR1 k fun hd => hk (.inl hd)).step hev ?_
                rw [List.all_eq_true]
                intro id hid
                have h1 := List.all_eq_true.1 hmods id hid
                simp only [Bool.or_eq_true, Bool.not_eq_true'] at h1 ⊢
                rw [Bool.eq_false_iff]
                intro hf
                simp only [frz, Bool.and_eq_true, Bool.not_eq_true'] at hf
                rcases h1 with h1 | h1
                · rw [hf.1] at h1; cases h1
                · have h2 := mkM_has (i := k) (os := ops.toList) (by simpa using hio) (fun e0 he hb heq => hk (.inr ⟨o, hio, e0, he, by rw [bindsB_eq]; exact hb, heq⟩)) h1
                  rw [h2] at hf
                  cases hf.2
              refine ⟨SK (fun k => dead k ∨ bndO ops i k) c.W0 B hb s'.I, fun k hk u hu hd => ?_, sxw hS' hR', ?_⟩
              · have hu := hu fun h => h.elim hd hk
                exact ⟨hu.1, Mem.inW_of_le (hI1 ▸ hle) hu.2.1, hu.2.2⟩
              refine ih (by rw [hset]; exact hK) hS' hA' hR' hD' fun e2 s2 a2 w2 hK2 hS2 hA2 hle2 hlen2 => ?_
              exact hn e2 s2 a2 w2 hK2 hS2 hA2 (Mem.le_trans (hI1 ▸ hle) hle2) (hlen2.trans (hlen.trans hl1))
            · exact h.elim
          · rw [if_neg (by simp [hw])]
            refine ⟨fun _ _ => trivial, SK dead c.W0 B hb (putS s1 o.dst (.v undef)).I, fun k _ u hu => (by rw [putS_I, hI1] at hu; exact hu), sxw (hS1.put _ _) (fun k hk => (hR1 k hk).same (putS_H ..) (putS_G ..)), ?_⟩
            refine ih (by rw [hset]; exact h) (hS1.put _ _) (hA1.put _ (.inr (by simp [den]))) (fun k hk => (hR1 k hk).same (putS_H ..) (putS_G ..)) (setD hD) fun e' s' a' w' hK hS' hA' hle hlen => ?_
            exact hn e' s' a' w' hK hS' hA' (by rw [putS_I, hI1] at hle; exact hle) (hlen.trans ((putS_len ..).trans hl1))
        · exact h.elim

theorem SatX.drew (hS : SatX c e s w) (n : Nat) : SatX c e s { w with drawn := n } :=
  ⟨⟨⟨hS.same.os, hS.same.tape, hS.same.output⟩, hS.size, hS.I, hS.hf, hS.old, hS.owned, hS.apart, hS.names⟩, hS.gIn, hS.gI, hS.gOwn⟩

theorem Sat.drew (hS : Sat c e s w) (n : Nat) : Sat c e s { w with drawn := n } :=
  ⟨⟨hS.same.os, hS.same.tape, hS.same.output⟩, hS.size, hS.I, hS.hf, hS.old, hS.owned, hS.apart, hS.names⟩

theorem seDraw_sound {A : List (Nat × CK)} {Q : Exit → Act → World → Prop} {K : St → Prop} {id : Nat} (h : seDraw P A ops s K) (hS : SatX c e s w) (hA : SatA e s a)
    (hn : ∀ (e' : Env) (s' : St) (a' : Act) (w' : World), K s' → SatX c e' s' w' → SatA e' s' a' → s.I.le s'.I → s'.tm.length = s.tm.length → Q .normal a' w') :
    (Code.region id ops true).wpIn (Fr r) 0 P Q a w := by
  unfold seDraw at h
  split at h
  · rename_i hc
    simp only [Bool.and_eq_true] at hc
    have hS' : SatX c e s { w with drawn := w.drawn + 1 } := hS.drew _
    have hRI : ∀ k, ¬ False → RI (fun b => ∃ (id : Nat) (x : Ent), frz s.H.length (mkM k ops.toList (modReg A ops.toList s ops.toList)) id = true ∧ s.H[id]? = some x ∧ alive x.obj = true ∧ e.nil id = false ∧ b = e.blk id)
        (fun b => ({ w with drawn := w.drawn + 1 } : World).heap[b]?) s.H.length (mkM k ops.toList (modReg A ops.toList s ops.toList)) s e { w with drawn := w.drawn + 1 } := by
      intro k _
      refine ⟨?_, fun id x hf hx hal hn => ⟨id, x, hf, hx, hal, hn, rfl⟩, ?_, Nat.le_refl _, by rintro b ⟨id, x, _, hx, hal, hn, rfl⟩; exact hS.gOwn id x hx hal hn⟩
      · rintro b ⟨id, x, hf, hx, hal, hn, rfl⟩
        exact ⟨blk_lt hS'.toSat hx hal hn, rfl⟩
      · rintro id x hf hx hal hn ⟨id2, x2, hf2, hx2, hal2, hn2, hb⟩
        refine hS.apart id id2 x x2 hx hx2 hal hal2 hn hn2 ?_ hb
        rintro rfl
        rw [hf] at hf2
        cases hf2
    have key : (Code.region id ops true).wpIn (Fr r) 0 P (fun ex a' w' => ex = .normal ∧ Q .normal a' w') a w := by
      refine wpIn_region_any hc.1 (wpAnyIn_of_WA (r := r) (S := SK (fun _ => False) c.W0 (fun k b => ∃ (id : Nat) (x : Ent), frz s.H.length (mkM k ops.toList (modReg A ops.toList s ops.toList)) id = true ∧ s.H[id]? = some x ∧ alive x.obj = true ∧ e.nil id = false ∧ b = e.blk id) (fun b => ({ w with drawn := w.drawn + 1 } : World).heap[b]?) s.I) ?_)
      split at h
      · rename_i hfr
        have h0 : listB 0 ops.toList.length = List.replicate ops.toList.length false := by
          apply List.ext_getElem?
          intro j
          simp only [listB, List.getElem?_map, List.getElem?_replicate]
          by_cases hj : j < ops.toList.length
          · rw [List.getElem?_range hj, if_pos hj, Option.map_some, bitB_eq, Nat.zero_testBit]
          · rw [List.getElem?_eq_none (by simpa using Nat.le_of_not_lt hj), if_neg hj]; rfl
        rw [seAnyN_eq (fun j _ => by rw [bitB_eq, Nat.zero_testBit]), h0] at h
        refine seAny_sound (A := A) (c := c) (fr := true) (fun _ => hfr) (fun _ _ _ h => by cases h.1) hc.2 ?_ hS' hA hRI (fun _ h => h.elim) fun e' s' a' w' hK hS1 hA1 hle hlen => ⟨rfl, hn e' s' a' w' hK hS1 hA1 hle hlen⟩
        simpa using h
      · refine seAny_sound (A := A) (c := c) (fr := false) (fun h => by cases h) (fun _ _ _ h => by cases h.1) hc.2 ?_ hS' hA hRI (fun _ h => h.elim) fun e' s' a' w' hK hS1 hA1 hle hlen => ⟨rfl, hn e' s' a' w' hK hS1 hA1 hle hlen⟩
        simpa using h
    intro b k cs hro hb hr
    obtain ⟨ex, a', w', hq, harr⟩ := key b k cs hro hb hr
    exact ⟨ex, a', w', hq.1 ▸ hq.2, harr⟩
  · exact h.elim

end
end Go.SE
