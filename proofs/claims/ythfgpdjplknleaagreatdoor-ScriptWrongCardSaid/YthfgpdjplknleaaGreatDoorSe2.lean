/- Operations that read no memory of the call's own and write none: what is to be shown of each, and that this suffices. -/
import Derived.Test.YthfgpdjplknleaaGreatDoorSe1
import Derived.Laws.Slices
import Derived.Laws.Strings2
import Derived.Laws.Strings3
import Derived.WalkLawsBesides
import Derived.WalkSpells
import Derived.Laws.StructEq
namespace Go.SE
open Go.RowKit

/-- A branch on a Bool. -/
def Br (t : Bool) (A B : Prop) : Prop := Bool.rec B A t
theorem Br_true (A B : Prop) : Br true A B = A := rfl
theorem Br_false (A B : Prop) : Br false A B = B := rfl
theorem Br.mk {t : Bool} {A B : Prop} (h : t = true → A) (h' : t = false → B) : Br t A B := by
  cases t
  · exact h' rfl
  · exact h rfl
theorem Br.elim {t : Bool} {A B C : Prop} (h : Br t A B) (ha : t = true → A → C) (hb : t = false → B → C) : C := by
  cases t
  · exact hb rfl h
  · exact ha rfl h

/-- A number that has been wrapped into its kind. -/
def Wr (k : IntKind) (n : Int) (K : Int → Prop) : Prop := ∃ c, k.wrap n = c ∧ K c

def bitsV (op : BinOp) (k : IntKind) (x y : Int) : Int :=
  match op with
  | .and => k.wrap ((BitVec.ofInt k.bits x &&& BitVec.ofInt k.bits y).toNat : Int)
  | .or => k.wrap ((BitVec.ofInt k.bits x ||| BitVec.ofInt k.bits y).toNat : Int)
  | .xor => k.wrap ((BitVec.ofInt k.bits x ^^^ BitVec.ofInt k.bits y).toNat : Int)
  | _ => k.wrap ((BitVec.ofInt k.bits x &&& ~~~BitVec.ofInt k.bits y).toNat : Int)

def sBinInt (op : BinOp) (k : IntKind) (a b : Int) (K : SV → Prop) : Prop :=
  match op with
  | .add => Wr k (a + b) fun c => K (.v (.int k c))
  | .sub => Wr k (a - b) fun c => K (.v (.int k c))
  | .mul => Wr k (a * b) fun c => K (.v (.int k c))
  | .quo => b ≠ 0 ∧ Wr k (a.tdiv b) fun c => K (.v (.int k c))
  | .rem => b ≠ 0 ∧ K (.v (.int k (a.tmod b)))
  | .and => K (.v (.int k (bitsV .and k a b)))
  | .or => K (.v (.int k (bitsV .or k a b)))
  | .xor => K (.v (.int k (bitsV .xor k a b)))
  | .andNot => K (.v (.int k (bitsV .andNot k a b)))
  | .eql => K (.v (.bool (a == b)))
  | .neq => K (.v (.bool (a != b)))
  | .lss => K (.v (.bool (decide (a < b))))
  | .leq => K (.v (.bool (decide (a ≤ b))))
  | .gtr => K (.v (.bool (decide (b < a))))
  | .geq => K (.v (.bool (decide (b ≤ a))))
  | .shl => 0 ≤ b ∧ Wr k (a * 2 ^ (min b.toNat k.bits)) fun c => K (.v (.int k c))
  | .shr => 0 ≤ b ∧ K (.v (.int k (a.fdiv (2 ^ (min b.toNat k.bits)))))

def sBinStr (op : BinOp) (a b : ByteArray) (K : SV → Prop) : Prop :=
  match op with
  | .add => a.size + b.size ≤ 4611686018427387904 ∧ K (.v (.string (a ++ b)))
  | .eql => K (.v (.bool (a.toList == b.toList)))
  | .neq => K (.v (.bool (!(a.toList == b.toList))))
  | .lss => K (.v (.bool (Op.bytesLess a.toList b.toList)))
  | .leq => K (.v (.bool (Op.bytesLess a.toList b.toList || a.toList == b.toList)))
  | .gtr => K (.v (.bool (!(Op.bytesLess a.toList b.toList || a.toList == b.toList))))
  | .geq => K (.v (.bool (!(Op.bytesLess a.toList b.toList))))
  | _ => False

def isShift : BinOp → Bool
  | .shl | .shr => true
  | _ => false

def kindEq (k k' : IntKind) : Bool := decide (k = k')

/-- Equality other than of numbers and strings. -/
def sEq (P : Program) (t : TypeId) (x y : SV) (K : Bool → Prop) : Prop :=
  match P.underlying t, x, y with
  | some (.slice _), .v (.slice a _ _), .v (.slice none _ _) => K a.isNone
  | some (.slice _), .v (.slice none _ _), .v (.slice (some _) _ _) => K false
  | some (.slice _), .xsl _ _ _ _, .v (.slice none _ _) => K false
  | some .bool, .v (.bool a), .v (.bool b) => K (a == b)
  | some (.pointer _), .v (.pointer a), .v (.pointer none) => K a.isNone
  | some (.pointer _), .v (.pointer none), .v (.pointer b) => K b.isNone
  | some (.pointer _), .ptr _ _, .v (.pointer none) => K false
  | some (.pointer _), .ep (some _) _, .v (.pointer none) => K false
  | some (.func _ _ _), .v .nilFunc, .v .nilFunc => K true
  | some (.func _ _ _), .fn _ _ _, .v .nilFunc => K false
  | some (.func _ _ _), .v (.func _ _ _), .v .nilFunc => K false
  | _, _, _ => False

/-- Equality of cells that are numbers, Bools or strings. -/
def eqC (u : Option TypeDesc) (x y : SV) : Option Bool :=
  match u, x, y with
  | some (.int _), .v (.int k a), .v (.int k' b) => if kindEq k k' then some (a == b) else none
  | some .bool, .v (.bool a), .v (.bool b) => some (a == b)
  | some .string, .v (.string a), .v (.string b) => some (a.toList == b.toList)
  | _, _, _ => none
/-- Equality of structs whose fields are numbers, Bools and strings. -/
def eqFs (P : Program) : List Field → List SV → List SV → Nat → Option Bool
  | [], _, _, _ => some true
  | f :: fs, x :: xs, y :: ys, i =>
    if f.name != "_" && Nat.beq f.offset i then
      match eqC (P.underlying f.type) x y with
      | some r0 => (match eqFs P fs xs ys (i + 1) with | some r => some (r0 && r) | none => none)
      | none => none
    else none
  | _, _, _, _ => none
/-- One field of a struct: a cell, or a struct of cells; and how many cells it has. -/
def eqF1 (P : Program) (t : TypeId) (xs ys : List SV) : Option (Bool × Nat) :=
  match P.underlying t, (P.info? t).map (·.size) with
  | some (.struct gs), some z => if P.stoodInHeld t || !(Nat.ble z xs.length && Nat.ble z ys.length) then none else match eqFs P gs.toList (xs.take z) (ys.take z) 0 with
    | some b => some (b, z)
    | none => none
  | u, _ => match xs, ys with
    | x :: _, y :: _ => match eqC u x y with
      | some b => some (b, 1)
      | none => none
    | _, _ => none
/-- Equality of structs whose fields are numbers, Bools, strings, or such structs. -/
def eqFs2 (P : Program) : List Field → List SV → List SV → Nat → Option Bool
  | [], _, _, _ => some true
  | f :: fs, xs, ys, i =>
    if f.name != "_" && Nat.beq f.offset i then
      match eqF1 P f.type xs ys with
      | some (r0, z) => (match eqFs2 P fs (xs.drop z) (ys.drop z) (i + z) with | some r => some (r0 && r) | none => none)
      | none => none
    else none
def eqFsA (P : Program) (fs : List Field) (xs ys : List SV) : Option Bool :=
  match eqFs P fs xs ys 0 with
  | some b => some b
  | none => eqFs2 P fs xs ys 0
def sEqA (P : Program) (op : BinOp) (t : TypeId) (xs ys : List SV) (K : SV → Prop) : Prop :=
  match P.underlying t with
  | some (.struct fs) => if P.stoodInHeld t || P.eqGuardType P.depth t then False else
    match eqFsA P fs.toList xs ys with
    | some b => match op with
      | .eql => K (.v (.bool b))
      | .neq => K (.v (.bool (!b)))
      | _ => False
    | none => False
  | _ => False

def sBin (P : Program) (op : BinOp) (t : TypeId) (x y : SV) (K : SV → Prop) : Prop :=
  match x, y with
  | .v (.int k a), .v (.int k' b) => if isShift op || kindEq k k' then sBinInt op k a b K else False
  | .v (.string a), .v (.string b) => sBinStr op a b K
  | .agg xs, .agg ys => sEqA P op t xs ys K
  | x, y => match op with
    | .eql => sEq P t x y fun b => K (.v (.bool b))
    | .neq => sEq P t x y fun b => K (.v (.bool (!b)))
    | _ => False

theorem run_bits_eq (op : BinOp) (k : IntKind) (x y : Int) (hop : op = .and ∨ op = .or ∨ op = .xor ∨ op = .andNot) (P : Program) (w : World) :
    (Op.intBits op k x y).run P w = .ok (.int k (bitsV op k x y)) w := by
  rcases hop with rfl | rfl | rfl | rfl <;> simp [Op.intBits, bitsV]

theorem sBinInt_sound {P : Program} {op : BinOp} {k k' : IntKind} {a b : Int} {K : SV → Prop} (hk : (isShift op || kindEq k k') = true) (h : sBinInt op k a b K) :
    ∃ x, K (.v x) ∧ ∀ t w, (binOp op t (.int k a) (.int k' b)).run P w = .ok x w := by
  cases op <;> simp only [isShift, Bool.true_or, Bool.false_or, kindEq, decide_eq_true_eq] at hk <;> (try subst hk) <;> simp only [sBinInt, Wr] at h
  case add | sub | mul => obtain ⟨c, hc, hK⟩ := h; exact ⟨_, hK, fun t w => by simp [binOp, Op.intArith, hc]⟩
  case quo => obtain ⟨h0, c, hc, hK⟩ := h; exact ⟨_, hK, fun t w => by simp [binOp, Op.intDiv, hc, h0]⟩
  case rem => obtain ⟨h0, hK⟩ := h; exact ⟨_, hK, fun t w => by simp [binOp, Op.intDiv, h0]⟩
  case and | or | xor | andNot => exact ⟨_, h, fun t w => by simp [binOp, run_bits_eq]⟩
  case eql | neq | lss | leq | gtr | geq => exact ⟨_, h, fun t w => by simp [binOp, Op.intCmp]⟩
  case shl => obtain ⟨h0, c, hc, hK⟩ := h; exact ⟨_, hK, fun t w => by simp [binOp, Op.shift, Int.not_lt.2 h0, hc]⟩
  case shr => obtain ⟨h0, hK⟩ := h; exact ⟨_, hK, fun t w => by simp [binOp, Op.shift, Int.not_lt.2 h0]⟩

theorem ev_v {e : Env} {s : St} {a : Act} (hA : SatA e s a) {x : Operand} {v : Value} (h : ev s x = .v v) : a.eval x = v := by
  have := ev_ok hA x (by rw [h]; rfl)
  rw [this, h]; simp [den]

theorem ev_d {e : Env} {s : St} {a : Act} (hA : SatA e s a) {x : Operand} {sv : SV} (h : ev s x = sv) (hj : isJunk sv = false) : a.eval x = den e sv := by
  subst h; exact ev_ok hA x hj

theorem sBinStr_sound {P : Program} {op : BinOp} {a b : ByteArray} {K : SV → Prop} (h : sBinStr op a b K) :
    ∃ x, K (.v x) ∧ ∀ t w, (binOp op t (.string a) (.string b)).run P w = .ok x w := by
  cases op <;> simp only [sBinStr] at h
  case add =>
    refine ⟨_, h.2, fun t w => ?_⟩
    have h0 := h.1
    have : ¬ ((a.size + b.size : Nat) : Int) > IntKind.i64.max := by simp [IntKind.max, IntKind.signed, IntKind.bits]; omega
    simp only [binOp, Op.stringOp, if_neg this]
    rfl
  case eql | neq | lss | leq | gtr | geq => exact ⟨_, h, fun t w => by simp [binOp, Op.stringOp]⟩
  all_goals exact h.elim

theorem equalIn_run {P : Program} {t : TypeId} {x y : SV} {K : Bool → Prop} (h : sEq P t x y K) :
    ∃ b, K b ∧ isJunk x = false ∧ isJunk y = false ∧ ∀ (d : Nat) (e : Env) (w : World), (Op.equalIn (d + 1) t (den e x) (den e y)).run P w = .ok b w := by
  unfold sEq at h
  split at h
  case h_12 => exact h.elim
  case h_1 a _ _ _ _ hu =>
    refine ⟨_, h, rfl, rfl, fun d e w => ?_⟩
    cases a <;> simp [Op.equalIn, den, run_underlying hu]
  case h_5 a hu =>
    refine ⟨_, h, rfl, rfl, fun d e w => ?_⟩
    cases a <;> simp [Op.equalIn, den, run_underlying hu]
  all_goals
    rename_i hu
    refine ⟨_, h, rfl, rfl, fun d e w => ?_⟩
    simp [Op.equalIn, den, run_underlying hu]

theorem sEq_sound {P : Program} {t : TypeId} {x y : SV} {K : Bool → Prop} (h : sEq P t x y K) :
    ∃ b, K b ∧ isJunk x = false ∧ isJunk y = false ∧ ∀ (e : Env) (w : World) (p q : Operand),
      (do eqGuard .eql t p q (den e x) (den e y); binOp .eql t (den e x) (den e y) : Sem Value).run P w = .ok (.bool b) w ∧
      (do eqGuard .neq t p q (den e x) (den e y); binOp .neq t (den e x) (den e y) : Sem Value).run P w = .ok (.bool (!b)) w := by
  obtain ⟨b, hK, j1, j2, hrun⟩ := equalIn_run h
  refine ⟨b, hK, j1, j2, fun e w p q => ?_⟩
  have h2 : (Op.equal t (den e x) (den e y)).run P w = .ok b w := hrun 9999 e w
  unfold sEq at h
  split at h
  case h_12 => exact h.elim
  all_goals
    clear h hrun
    simp only [den, Option.map_some] at h2 ⊢
    simp only [eqGuard, binOp]
    constructor <;> simp [h2]

theorem eqC_run {P : Program} {t : TypeId} {x y : SV} {r : Bool} (h : eqC (P.underlying t) x y = some r) (e : Env) (w : World) (d : Nat) :
    (Op.equalIn (d + 1) t (den e x) (den e y)).run P w = .ok r w ∧ ∀ (cs : Array Value) (off : Nat) (v : Value), cs[off]? = some v → (part t cs off).run P w = .ok v w := by
  unfold eqC at h
  split at h
  · rename_i k0 k a k' b hu
    split at h
    · rename_i hk
      have hk : k = k' := by simpa [kindEq] using hk
      subst hk
      cases h
      exact ⟨run_equalIn_int _ d _ _ _ _ _ hu, fun cs off v hv => by simp [part, isAgg, run_underlying hu, hv]⟩
    · cases h
  · rename_i a b hu
    cases h
    exact ⟨run_equalIn_bool' _ d _ _ _ hu, fun cs off v hv => by simp [part, isAgg, run_underlying hu, hv]⟩
  · rename_i a b hu
    cases h
    exact ⟨run_equalIn_string _ d _ _ _ hu, fun cs off v hv => by simp [part, isAgg, run_underlying hu, hv]⟩
  · cases h
theorem eqFs_run {P : Program} (e : Env) (w : World) (d : Nat) : ∀ (fs : List Field) (xs ys : List SV) (i : Nat) (b : Bool) (p q : List Value), p.length = i → q.length = i → eqFs P fs xs ys i = some b →
    (Op.eqFields (d + 1) (p ++ xs.map (den e)).toArray (q ++ ys.map (den e)).toArray fs).run P w = .ok b w
  | [], xs, ys, i, b, p, q, _, _, h => by
    simp only [eqFs, Option.some.injEq] at h
    subst h
    simp [Op.eqFields]
  | f :: fs, [], _, i, b, p, q, _, _, h => by simp [eqFs] at h
  | f :: fs, x :: xs, [], i, b, p, q, _, _, h => by simp [eqFs] at h
  | f :: fs, x :: xs, y :: ys, i, b, p, q, hp, hq, h => by
    rw [eqFs] at h
    split at h
    · rename_i hc
      simp only [Bool.and_eq_true, bne_iff_ne, ne_eq] at hc
      have hoff : f.offset = i := Nat.eq_of_beq_eq_true hc.2
      have ex : (p ++ (x :: xs).map (den e)).toArray[f.offset]? = some (den e x) := by
        rw [hoff, List.getElem?_toArray, List.getElem?_append_right (by omega), hp, Nat.sub_self]; simp
      have ey : (q ++ (y :: ys).map (den e)).toArray[f.offset]? = some (den e y) := by
        rw [hoff, List.getElem?_toArray, List.getElem?_append_right (by omega), hq, Nat.sub_self]; simp
      split at h
      · rename_i r0 hr0
        obtain ⟨h1, h2⟩ := eqC_run hr0 e w d
        split at h
        · rename_i r hr
          cases h
          have ih := eqFs_run e w d fs xs ys (i + 1) r (p ++ [den e x]) (q ++ [den e y]) (by simp [hp]) (by simp [hq]) hr
          have ih : (Op.eqFields (d + 1) (p ++ (x :: xs).map (den e)).toArray (q ++ (y :: ys).map (den e)).toArray fs).run P w = .ok r w := by simpa using ih
          simp only [Op.eqFields]
          rw [if_pos hc.1]
          simp only [Sem.run_bind, h2 _ _ _ ex, h2 _ _ _ ey, Result.andThen_ok, h1]
          cases r0
          · simp
          · simp only [Bool.not_true, Bool.false_eq_true, if_false, ih, Bool.true_and]
        · cases h
      · cases h
    · cases h
theorem eqF1_run {P : Program} {t : TypeId} {xs ys : List SV} {r : Bool} {z : Nat} (h : eqF1 P t xs ys = some (r, z)) (e : Env) (w : World) (d : Nat) (p q : List Value) (i : Nat) (hp : p.length = i) (hq : q.length = i) :
    z ≤ xs.length ∧ z ≤ ys.length ∧ ∃ u v, (part t (p ++ xs.map (den e)).toArray i).run P w = .ok u w ∧ (part t (q ++ ys.map (den e)).toArray i).run P w = .ok v w ∧ (Op.equalIn (d + 2) t u v).run P w = .ok r w := by
  unfold eqF1 at h
  split at h
  · rename_i gs z' hu hz
    split at h
    · cases h
    · rename_i hc
      simp only [Bool.or_eq_true, not_or, Bool.not_eq_true, Bool.not_eq_false', Bool.and_eq_true, Nat.ble_eq] at hc
      obtain ⟨hst, hx, hy⟩ := hc
      split at h
      · rename_i b hb
        cases h
        have hfs : P.fieldsOf t = gs := by simp [Program.fieldsOf, hu]
        have hsz : ∀ w, (sizeOf t).run P w = .ok z w := fun w => by
          cases hi : P.info? t with
          | none => rw [hi] at hz; cases hz
          | some inf =>
            rw [hi] at hz
            simp only [Option.map_some, Option.some.injEq] at hz
            rw [← hz]
            simp [sizeOf, typeInfo, hi]
        have hag : ∀ w, (isAgg t).run P w = .ok true w := fun w => by simp [isAgg, run_underlying hu]
        have prt : ∀ (p : List Value) (xs : List SV), p.length = i → (part t (p ++ xs.map (den e)).toArray i).run P w = .ok (.agg (xs.take z |>.map (den e)).toArray) w := by
          intro p xs hp
          simp only [part, Sem.run_bind, hag, hsz, Result.andThen_ok, if_true, Sem.run_pure]
          congr 1
          simp only [List.extract_toArray, List.extract_eq_take_drop]
          rw [show i + z - i = z by omega, List.drop_append, List.drop_eq_nil_of_le (by omega), hp, Nat.sub_self, List.drop_zero, List.nil_append, List.map_take]
        refine ⟨hx, hy, _, _, prt p xs hp, prt q ys hq, ?_⟩
        rw [run_equalIn_struct w (d + 1) t _ _ (by rw [hfs]; exact hu) hst, hfs]
        exact eqFs_run e w d gs.toList _ _ 0 r [] [] rfl rfl hb
      · cases h
  · split at h
    · rename_i x _ y _
      split at h
      · rename_i b hb
        cases h
        obtain ⟨h1, h2⟩ := eqC_run hb e w (d + 1)
        refine ⟨by simp, by simp, den e x, den e y, h2 _ _ _ ?_, h2 _ _ _ ?_, h1⟩
        · rw [List.getElem?_toArray, List.getElem?_append_right (by omega), hp, Nat.sub_self]; simp
        · rw [List.getElem?_toArray, List.getElem?_append_right (by omega), hq, Nat.sub_self]; simp
      · cases h
    · cases h
theorem eqFs2_run {P : Program} (e : Env) (w : World) (d : Nat) : ∀ (fs : List Field) (xs ys : List SV) (i : Nat) (b : Bool) (p q : List Value), p.length = i → q.length = i → eqFs2 P fs xs ys i = some b →
    (Op.eqFields (d + 2) (p ++ xs.map (den e)).toArray (q ++ ys.map (den e)).toArray fs).run P w = .ok b w
  | [], xs, ys, i, b, p, q, _, _, h => by
    simp only [eqFs2, Option.some.injEq] at h
    subst h
    simp [Op.eqFields]
  | f :: fs, xs, ys, i, b, p, q, hp, hq, h => by
    rw [eqFs2] at h
    split at h
    · rename_i hc
      simp only [Bool.and_eq_true, bne_iff_ne, ne_eq] at hc
      have hoff : f.offset = i := Nat.eq_of_beq_eq_true hc.2
      split at h
      · rename_i r0 z hr0
        obtain ⟨hx, hy, u, v, h1, h2, h3⟩ := eqF1_run hr0 e w d p q i hp hq
        split at h
        · rename_i r hr
          cases h
          have ih := eqFs2_run e w d fs (xs.drop z) (ys.drop z) (i + z) r (p ++ (xs.take z).map (den e)) (q ++ (ys.take z).map (den e)) (by simp [hp]; omega) (by simp [hq]; omega) hr
          rw [List.append_assoc, List.append_assoc, ← List.map_append, ← List.map_append, List.take_append_drop, List.take_append_drop] at ih
          simp only [Op.eqFields]
          rw [if_pos hc.1, hoff]
          simp only [Sem.run_bind, h1, h2, Result.andThen_ok, h3]
          cases r0
          · simp
          · simp only [Bool.not_true, Bool.false_eq_true, if_false, ih, Bool.true_and]
        · cases h
      · cases h
    · cases h
theorem eqFsA_run {P : Program} (e : Env) (w : World) (fs : List Field) (xs ys : List SV) (b : Bool) (h : eqFsA P fs xs ys = some b) :
    (Op.eqFields 9999 (xs.map (den e)).toArray (ys.map (den e)).toArray fs).run P w = .ok b w := by
  unfold eqFsA at h
  split at h
  · rename_i b' hb
    cases h
    exact eqFs_run e w 9998 fs xs ys 0 b [] [] rfl rfl hb
  · exact eqFs2_run e w 9997 fs xs ys 0 b [] [] rfl rfl h
theorem sEqA_sound {P : Program} {op : BinOp} {t : TypeId} {xs ys : List SV} {K : SV → Prop} (h : sEqA P op t xs ys K) :
    ∃ v, K (.v v) ∧ ∀ (e : Env) (w : World) (p q : Operand), (do eqGuard op t p q (den e (.agg xs)) (den e (.agg ys)); binOp op t (den e (.agg xs)) (den e (.agg ys)) : Sem Value).run P w = .ok v w := by
  unfold sEqA at h
  split at h
  · rename_i fs hu
    split at h
    · exact h.elim
    · rename_i hg
      simp only [Bool.or_eq_true, not_or, Bool.not_eq_true] at hg
      split at h
      · rename_i b hb
        have hfs : P.fieldsOf t = fs := by simp [Program.fieldsOf, hu]
        have hrun : ∀ (e : Env) (w : World), (Op.equalIn 10000 t (.agg (denL e xs).toArray) (.agg (denL e ys).toArray)).run P w = .ok b w := fun e w => by
          rw [show (10000 : Nat) = 9999 + 1 from rfl, run_equalIn_struct w 9999 t _ _ (by rw [hfs]; exact hu) hg.1, hfs, denL_eq, denL_eq]
          exact eqFsA_run e w fs.toList xs ys b hb
        split at h
        · refine ⟨_, h, fun e w p q => ?_⟩
          simp only [den, Sem.run_bind, run_eqGuard_agg w _ t p q _ _ hg.2, Result.andThen_ok, run_eql_struct, hrun]
        · refine ⟨_, h, fun e w p q => ?_⟩
          simp only [den, Sem.run_bind, run_eqGuard_agg w _ t p q _ _ hg.2, Result.andThen_ok, run_neq_struct, hrun]
        · exact h.elim
      · exact h.elim
  · exact h.elim

theorem sBin_sound {P : Program} {op : BinOp} {t yt : TypeId} {x y : Operand} {c : Ctx} {s : St} {K : SV → Prop} (h : sBin P op t (ev s x) (ev s y) K) :
    ∃ sv, K sv ∧ RunsTo P (.binOp op t x y yt) c s sv := by
  unfold sBin at h
  split at h
  · rename_i k a k' b hx hy
    split at h
    · rename_i hk
      obtain ⟨v, hK, hrun⟩ := sBinInt_sound (P := P) hk h
      refine ⟨_, hK, .of fun e a' w _ hA d ty pos af g => ?_⟩
      simp only [execOp, ev_v hA hx, ev_v hA hy, eqGuard]
      cases op <;> simp [hrun, den]
    · exact h.elim
  · rename_i a b hx hy
    obtain ⟨v, hK, hrun⟩ := sBinStr_sound (P := P) h
    refine ⟨_, hK, .of fun e a' w _ hA d ty pos af g => ?_⟩
    simp only [execOp, ev_v hA hx, ev_v hA hy, eqGuard]
    cases op <;> simp [hrun, den]
  · rename_i xs ys hx hy
    obtain ⟨v, hK, hrun⟩ := sEqA_sound h
    refine ⟨_, hK, .of fun e a' w _ hA d ty pos af g => ?_⟩
    have h1 := ev_d hA hx rfl
    have h2 := ev_d hA hy rfl
    simp only [execOp, h1, h2]
    simp only [Sem.run_bind, hrun e w x y]
    simp [den]
  · split at h
    · obtain ⟨b, hK, hj1, hj2, hrun⟩ := sEq_sound h
      refine ⟨_, hK, .of fun e a' w _ hA d ty pos af g => ?_⟩
      simp only [execOp, ev_ok hA x hj1, ev_ok hA y hj2]
      simp only [Sem.run_bind, (hrun e w x y).1]
      simp [den]
    · obtain ⟨b, hK, hj1, hj2, hrun⟩ := sEq_sound h
      refine ⟨_, hK, .of fun e a' w _ hA d ty pos af g => ?_⟩
      simp only [execOp, ev_ok hA x hj1, ev_ok hA y hj2]
      simp only [Sem.run_bind, (hrun e w x y).2]
      simp [den]
    · exact h.elim

end Go.SE
