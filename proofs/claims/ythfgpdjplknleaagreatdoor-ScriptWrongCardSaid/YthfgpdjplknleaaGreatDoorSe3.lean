/- More operations that change no memory: parts of values, places, slices, loads. -/
import Derived.Test.YthfgpdjplknleaaGreatDoorSe2
namespace Go.SE
open Go.RowKit

/-- Shapes of one-cell values. -/
inductive Sh where
  | int (k : IntKind)
  | bool | str | sl | ptr | map | other

def shOf (P : Program) (t : TypeId) : Sh :=
  match P.underlying t with
  | some (.int k) => .int k
  | some .bool => .bool
  | some .string => .str
  | some (.slice _) => .sl
  | some (.pointer _) => .ptr
  | some (.map _ _) => .map
  | _ => .other

def isAggT (P : Program) (t : TypeId) : Option Bool :=
  match P.underlying t with
  | some (.struct _) => some true
  | some (.array _ _) => some true
  | some _ => some false
  | none => none

def reps {α : Type} (l : List α) : Nat → List α
  | 0 => []
  | n + 1 => l ++ reps l n

/-- The shapes of the cells of a variable of type t. -/
def leaves (P : Program) : Nat → TypeId → List Sh
  | 0, _ => []
  | d + 1, t =>
    match P.underlying t with
    | some (.struct fs) => fs.toList.flatMap fun f => leaves P d f.type
    | some (.array n e) => reps (leaves P d e) n
    | _ => [shOf P t]

def szT (P : Program) (t : TypeId) : Option Nat := (P.info? t).map (·.size)

/-- There is a value of the shape that p lets. -/
def ExSh (sh : Sh) (p : Value → Prop) (K : SV → Prop) : Prop :=
  match sh with
  | .int k => ∃ n : Int, p (.int k n) ∧ K (.v (.int k n))
  | .bool => ∃ b : Bool, p (.bool b) ∧ K (.v (.bool b))
  | .str => ∃ q : ByteArray, p (.string q) ∧ K (.v (.string q))
  | .sl => ∃ (a : Option Addr) (n c : Nat), p (.slice a n c) ∧ K (.v (.slice a n c))
  | .ptr => ∃ a : Option Addr, p (.pointer a) ∧ K (.v (.pointer a))
  | .map => ∃ r : Option Nat, p (.map r) ∧ K (.v (.map r))
  | .other => ∃ x : Value, p x ∧ K (.v x)
def ExShL : List Sh → Nat → (Nat → Value → Prop) → (List SV → Prop) → Prop
  | [], _, _, K => K []
  | sh :: r, j, p, K => ExSh sh (p j) fun sv => ExShL r (j + 1) p fun l => K (sv :: l)
/-- There are cells that p lets, of a variable of type t. -/
def ExT (P : Program) (t : TypeId) (p : Nat → Value → Prop) (K : SV → Prop) : Prop :=
  match isAggT P t, szT P t with
  | some true, some z => (leaves P 12 t).length = z ∧ ExShL (leaves P 12 t) 0 p fun l => K (.agg l)
  | some false, some _ => ExSh (shOf P t) (p 0) K
  | _, _ => False

theorem ExSh_sound {sh : Sh} {p : Value → Prop} {K : SV → Prop} (h : ExSh sh p K) : ∃ v, p v ∧ K (.v v) := by
  cases sh <;> simp only [ExSh] at h
  case sl => obtain ⟨a, n, c, h⟩ := h; exact ⟨_, h⟩
  all_goals obtain ⟨x, h⟩ := h; exact ⟨_, h⟩
theorem ExShL_sound : ∀ {l : List Sh} {j : Nat} {p : Nat → Value → Prop} {K : List SV → Prop}, ExShL l j p K →
    ∃ vs : List Value, vs.length = l.length ∧ (∀ i v, vs[i]? = some v → p (j + i) v) ∧ K (vs.map .v)
  | [], _, _, _, h => ⟨[], rfl, fun _ _ h => by simp at h, h⟩
  | sh :: r, j, p, K, h => by
    obtain ⟨v, hp, h2⟩ := ExSh_sound h
    obtain ⟨vs, h3, h4, h5⟩ := ExShL_sound h2
    refine ⟨v :: vs, by simp [h3], fun i u hu => ?_, h5⟩
    cases i with
    | zero => simp at hu; subst hu; exact hp
    | succ i => have := h4 i u (by simpa using hu); rwa [show j + (i + 1) = j + 1 + i from by omega]
theorem ExT_sound {P : Program} {t : TypeId} {p : Nat → Value → Prop} {K : SV → Prop} (h : ExT P t p K) :
    ∃ b z, isAggT P t = some b ∧ szT P t = some z ∧
      ((b = true ∧ ∃ vs : List Value, vs.length = z ∧ (∀ i v, vs[i]? = some v → p i v) ∧ K (.agg (vs.map .v))) ∨ (b = false ∧ ∃ v, p 0 v ∧ K (.v v))) := by
  unfold ExT at h
  split at h
  · rename_i z h1 h2
    obtain ⟨vs, h3, h4, h5⟩ := ExShL_sound h.2
    exact ⟨true, z, h1, h2, .inl ⟨rfl, vs, h3.trans h.1, fun i v hv => by simpa using h4 i v hv, h5⟩⟩
  · rename_i z h1 h2
    exact ⟨false, z, h1, h2, .inr ⟨rfl, ExSh_sound h⟩⟩
  · exact h.elim

theorem denL_v (e : Env) (vs : List Value) : denL e (vs.map .v) = vs := by
  induction vs with
  | nil => rfl
  | cons x xs ih => simp [denL, den, ih]

theorem run_szT {P : Program} {t : TypeId} {z : Nat} (h : szT P t = some z) (w : World) : (sizeOf t).run P w = .ok z w := by
  simp only [szT, Option.map_eq_some_iff] at h
  obtain ⟨i, h1, rfl⟩ := h
  simp [sizeOf, typeInfo, h1]
theorem run_isAggT {P : Program} {t : TypeId} {b : Bool} (h : isAggT P t = some b) (w : World) : (isAgg t).run P w = .ok b w := by
  unfold isAggT at h
  split at h <;> simp only [Option.some.injEq, reduceCtorEq] at h <;> subst h
  · rename_i fs hu; simp [isAgg, run_underlying hu]
  · rename_i n e hu; simp [isAgg, run_underlying hu]
  · rename_i d h1 h2 hu
    simp only [isAgg, Sem.run_bind, run_underlying hu, Result.andThen_ok]
    cases d <;> simp_all

/-! ### Parts of values -/

def aggOf : SV → Option (List SV)
  | .agg xs => some xs
  | .v (.agg cs) => some (cs.toList.map .v)
  | _ => none
theorem aggOf_den {e : Env} {x : SV} {l : List SV} (h : aggOf x = some l) : isJunk x = false ∧ den e x = .agg (l.map (den e)).toArray := by
  unfold aggOf at h
  split at h <;> simp only [Option.some.injEq, reduceCtorEq] at h <;> subst h
  · exact ⟨rfl, by simp [den, denL_eq]⟩
  · refine ⟨rfl, ?_⟩
    rename_i cs
    rw [← denL_eq, denL_v]
    simp [den]

/-- A part of a struct's or an array's cells. -/
def sPart (P : Program) (t : TypeId) (l : List SV) (off : Nat) (K : SV → Prop) : Prop :=
  match isAggT P t, szT P t with
  | some true, some z => K (.agg ((l.drop off).take z))
  | some false, some _ => match l[off]? with
    | some sv => K sv
    | none => False
  | _, _ => False
theorem sPart_sound {P : Program} {t : TypeId} {l : List SV} {off : Nat} {K : SV → Prop} (h : sPart P t l off K) :
    ∃ sv, K sv ∧ ∀ e w, (part t (l.map (den e)).toArray off).run P w = .ok (den e sv) w := by
  unfold sPart at h
  split at h
  · rename_i z h1 h2
    refine ⟨_, h, fun e w => ?_⟩
    simp only [part, Sem.run_bind, run_isAggT h1, run_szT h2, Result.andThen_ok, if_true, Sem.run_pure]
    congr 1
    simp only [den, denL_eq, List.extract_toArray, List.extract_eq_take_drop, List.map_take, List.map_drop]
    rw [show off + z - off = z from by omega]
  · rename_i z h1 h2
    split at h
    · rename_i sv hsv
      refine ⟨_, h, fun e w => ?_⟩
      simp [part, run_isAggT h1, hsv]
    · exact h.elim
  · exact h.elim

def sField (P : Program) (t : TypeId) (x : SV) (f : Nat) (K : SV → Prop) : Prop :=
  match P.underlying t, aggOf x with
  | some (.struct fields), some l => match fields[f]? with
    | some fd => sPart P fd.type l fd.offset K
    | none => False
  | _, _ => False

def sExtract (x : SV) (i : Nat) (K : SV → Prop) : Prop :=
  match x with
  | .tup xs => match xs[i]? with
    | some sv => K sv
    | none => False
  | .v (.tuple vs) => match vs[i]? with
    | some v => K (.v v)
    | none => False
  | _ => False

/-- The number that an operand is, if it is a constant. -/
def litOf : Operand → Option Int
  | .const (.int _ n) => some n
  | _ => none
def vOf : SV → Option Value
  | .v x => some x
  | _ => none
theorem vOf_den {e : Env} {o : Option SV} {v : Value} (h : o.bind vOf = some v) : ∃ sv, o = some sv ∧ den e sv = v := by
  cases o with
  | none => simp at h
  | some sv =>
    simp only [Option.bind_some] at h
    unfold vOf at h
    split at h <;> simp only [Option.some.injEq, reduceCtorEq] at h
    subst h
    exact ⟨_, rfl, by simp [den]⟩

def sIndex (P : Program) (t : TypeId) (x : SV) (i : Operand) (iv : SV) (K : SV → Prop) : Prop :=
  match P.underlying t, x, iv with
  | some .string, .v (.string q), .v (.int _ n) => ∃ c : UInt8, q.data.toList[n.toNat]? = some c ∧ 0 ≤ n ∧ K (.v (.int .u8 c.toNat))
  | some (.array len el), x, .v (.int _ n) =>
    match aggOf x, szT P el with
    | some l, some z => match litOf i with
      | some m => if decide (0 ≤ m) && decide (m < len) then sPart P el l (m.toNat * z) K else False
      | none => if l.all (fun x => (vOf x).isSome) then 0 ≤ n ∧ n < len ∧ ExT P el (fun j v => ((l[n.toNat * z + j]?).bind vOf) = some v) K else 0 ≤ n ∧ n < len ∧ sPart P el l (n.toNat * z) K
    | _, _ => False
  | _, _, _ => False

section
variable {P : Program} {c : Ctx} {s : St} {K : SV → Prop}

theorem sField_sound {t : TypeId} {x : Operand} {f : Nat} (h : sField P t (ev s x) f K) : ∃ sv, K sv ∧ RunsTo P (.field t x f) c s sv := by
  unfold sField at h
  split at h
  · rename_i fields l hu hl
    split at h
    · rename_i fd hfd
      obtain ⟨sv, hK, hr⟩ := sPart_sound h
      refine ⟨sv, hK, .of fun e a w _ hA d ty pos af g => ?_⟩
      obtain ⟨hj, hd⟩ := aggOf_den (e := e) hl
      simp [execOp, ev_ok hA x hj, hd, Instr.field, run_underlying hu, hfd, asAgg, hr]
    · exact h.elim
  · exact h.elim

theorem sExtract_sound {x : Operand} {i : Nat} (h : sExtract (ev s x) i K) : ∃ sv, K sv ∧ RunsTo P (.extract x i) c s sv := by
  unfold sExtract at h
  split at h
  · rename_i xs hx
    split at h
    · rename_i sv hsv
      refine ⟨sv, h, .of fun e a w _ hA d ty pos af g => ?_⟩
      simp [execOp, ev_d hA hx rfl, den, denL_eq, Instr.extract, hsv]
    · exact h.elim
  · rename_i vs hx
    split at h
    · rename_i v hv
      refine ⟨_, h, .of fun e a w _ hA d ty pos af g => ?_⟩
      simp [execOp, ev_v hA hx, den, Instr.extract, hv]
    · exact h.elim
  · exact h.elim

theorem litOf_ev {i : Operand} {m n : Int} {k : IntKind} (h : litOf i = some m) (he : ev s i = .v (.int k n)) : m = n := by
  unfold litOf at h
  split at h <;> simp only [Option.some.injEq, reduceCtorEq] at h
  subst h
  simp only [ev, SV.v.injEq, Value.int.injEq] at he
  exact he.2

theorem sIndex_sound {t : TypeId} {x i : Operand} (h : sIndex P t (ev s x) i (ev s i) K) : ∃ sv, K sv ∧ RunsTo P (.index t x i) c s sv := by
  unfold sIndex at h
  split at h
  · rename_i q k n hu hx hi
    obtain ⟨b, hb, h0, hK⟩ := h
    refine ⟨_, hK, .of fun e a w _ hA d ty pos af g => ?_⟩
    have hb' : q[n.toNat]? = some b := by
      have hlt : n.toNat < q.size := by
        have := (List.getElem?_eq_some_iff.1 hb).1
        simpa using this
      have h2 := (List.getElem?_eq_some_iff.1 hb).2
      rw [getElem?_pos q n.toNat hlt]
      congr 1
    simp [execOp, ev_v hA hx, ev_v hA hi, den, Instr.index, asIntOf, run_underlying hu, h0, hb']
  · rename_i len el k n hu hi
    split at h
    · rename_i l z hl hz
      split at h
      · rename_i m hm
        have hmn := litOf_ev hm hi
        subst hmn
        split at h
        · rename_i hb
          simp only [Bool.and_eq_true, decide_eq_true_eq] at hb
          obtain ⟨sv, hK, hr⟩ := sPart_sound h
          refine ⟨sv, hK, .of fun e a w _ hA d ty pos af g => ?_⟩
          obtain ⟨hj, hd⟩ := aggOf_den (e := e) hl
          simp [execOp, ev_ok hA x hj, hd, ev_v hA hi, Instr.index, asIntOf, run_underlying hu, hb, run_szT hz, hr]
        · exact h.elim
      · split at h
        · obtain ⟨h0, h1, h2⟩ := h
          obtain ⟨b, z', hb, hz', h3⟩ := ExT_sound h2
          obtain rfl : z = z' := by rw [hz] at hz'; exact Option.some.inj hz'
          rcases h3 with ⟨rfl, vs, hl1, hv, hK⟩ | ⟨rfl, v, hv, hK⟩
          · refine ⟨_, hK, .of fun e a w _ hA d ty pos af g => ?_⟩
            obtain ⟨hj, hd⟩ := aggOf_den (e := e) hl
            have hex : List.take z (List.drop (n.toNat * z) (l.map (den e))) = vs := by
              apply List.ext_getElem?
              intro j
              simp only [List.getElem?_take, List.getElem?_drop, List.getElem?_map]
              by_cases hjz : j < z
              · obtain ⟨v, hvj⟩ : ∃ v, vs[j]? = some v := ⟨_, List.getElem?_eq_getElem (by omega)⟩
                obtain ⟨sv, hs1, hs2⟩ := vOf_den (e := e) (hv j v hvj)
                rw [if_pos hjz, hs1, hvj]
                simp [hs2]
              · rw [if_neg hjz, List.getElem?_eq_none (by omega)]
            have hex2 : (l.map (den e)).toArray.extract (n.toNat * z) (n.toNat * z + z) = vs.toArray := by
              simp only [List.extract_toArray, List.extract_eq_take_drop]
              rw [show n.toNat * z + z - n.toNat * z = z from by omega, hex]
            have hp : (part el (l.map (den e)).toArray (n.toNat * z)).run P w = .ok (.agg vs.toArray) w := by
              simp only [part, Sem.run_bind, run_isAggT hb, run_szT hz, Result.andThen_ok, if_true, Sem.run_pure, hex2]
            simp [execOp, ev_ok hA x hj, hd, ev_v hA hi, Instr.index, asIntOf, run_underlying hu, h0, h1, run_szT hz, hp]
            simp [den, denL_v]
          · refine ⟨_, hK, .of fun e a w _ hA d ty pos af g => ?_⟩
            obtain ⟨hj, hd⟩ := aggOf_den (e := e) hl
            obtain ⟨sv, hs1, hs2⟩ := vOf_den (e := e) hv
            simp only [Nat.add_zero] at hs1
            simp [execOp, ev_ok hA x hj, hd, ev_v hA hi, Instr.index, asIntOf, run_underlying hu, h0, h1, run_szT hz, part, run_isAggT hb, hs1, hs2, den]
        · obtain ⟨h0, h1, h2⟩ := h
          obtain ⟨sv, hK, hr⟩ := sPart_sound h2
          refine ⟨sv, hK, .of fun e a w _ hA d ty pos af g => ?_⟩
          obtain ⟨hj, hd⟩ := aggOf_den (e := e) hl
          simp [execOp, ev_ok hA x hj, hd, ev_v hA hi, Instr.index, asIntOf, run_underlying hu, h0, h1, run_szT hz, hr]
    · exact h.elim
  · exact h.elim

end
end Go.SE
