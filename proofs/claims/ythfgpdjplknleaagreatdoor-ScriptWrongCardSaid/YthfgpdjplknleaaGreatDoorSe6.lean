/- The other quiet operations; all of them in one function, 'seQ'. -/
import Derived.Test.YthfgpdjplknleaaGreatDoorSe5
namespace Go.SE
open Go.RowKit

def sUn (op : UnOp) (x : SV) (K : SV → Prop) : Prop :=
  match op, x with
  | .not, .v (.bool b) => K (.v (.bool (!b)))
  | .neg, .v (.int k n) => Wr k (0 - n) fun c => K (.v (.int k c))
  | .xor, .v (.int k n) => K (.v (.int k (bitsV .xor k (if k.signed then -1 else k.max) n)))
  | _, _ => False

/-- Bytes of read-only memory as a string. -/
def sConv (P : Program) (s : St) (src dst : TypeId) (x : SV) (K : SV → Prop) : Prop :=
  match P.underlying src, P.underlying dst, x with
  | some _, some (.int k), .v (.int _ n) => Wr k n fun c => K (.v (.int k c))
  | some _, some .string, .v (.string q) => K (.v (.string q))
  | some (.slice el), some .string, .v (.slice a n _) => match P.underlying el with
    | some (.int .u8) => ∃ q : List UInt8, q.length = n ∧ (a = none → n = 0) ∧ (∀ (j : Nat) (b : UInt8), q[j]? = some b → atI s.I a j = some (.int .u8 b.toNat)) ∧ K (.v (.string ⟨q.toArray⟩))
    | _ => False
  | some (.slice el), some .string, .rsl id len => match P.underlying el, s.H[id]? with
    | some (.int .u8), some ⟨.row xs _ _, _⟩ => ∃ q : List UInt8, q.length = len ∧ xs.take len = q.map (fun b => Value.int .u8 b.toNat) ∧ K (.v (.string ⟨q.toArray⟩))
    | _, _ => False
  | _, _, _ => False

def sLen (P : Program) (t : TypeId) (x : SV) (K : SV → Prop) : Prop :=
  match P.underlying t, x with
  | some .string, .v (.string q) => K (.v (.int .i64 (q.size : Nat)))
  | some (.slice _), .v (.slice _ n _) => K (.v (.int .i64 (n : Nat)))
  | some (.slice _), .rsl _ n => K (.v (.int .i64 (n : Nat)))
  | some (.slice _), .xsl _ _ n _ => K (.v (.int .i64 (n : Nat)))
  | some (.array n _), _ => K (.v (.int .i64 (n : Nat)))
  | _, _ => False

def sCap (P : Program) (t : TypeId) (x : SV) (K : SV → Prop) : Prop :=
  match P.underlying t, x with
  | some (.slice _), .v (.slice _ _ c) => K (.v (.int .i64 (c : Nat)))
  | _, _ => False

def imin (x y : Int) : Int := if y < x then y else x
def imax (x y : Int) : Int := if x < y then y else x
def sMin (mx : Bool) (x y : SV) (K : SV → Prop) : Prop :=
  match x, y with
  | .v (.int k a), .v (.int _ b) => K (.v (.int k (bif mx then imax a b else imin a b)))
  | _, _ => False

def sNilCheck (x : SV) (K : SV → Prop) : Prop :=
  match x with
  | .v (.pointer a) => a.isSome = true ∧ K x
  | .ep a _ => a.isSome = true ∧ K x
  | .ptr _ _ | .sptr _ _ => K x
  | .fn (.func _) _ _ => K x
  | .v (.func (.func _) _ _) => K x
  | _ => False

def sMkIface (P : Program) (t : TypeId) (x : SV) (K : SV → Prop) : Prop :=
  match P.underlying t, x with
  | some (.interface _), _ => False
  | some _, .v v => K (.v (.iface t v))
  | _, _ => False

def svCells : SV → Option (List SV)
  | .agg xs => some xs
  | .v (.agg cs) => some (cs.toList.map .v)
  | .v x => some [.v x]
  | .tup _ | .junk => none
  | x => some [x]
theorem svCells_den {e : Env} {x : SV} {l : List SV} (h : svCells x = some l) : isJunk x = false ∧ (den e x).cells = (l.map (den e)).toArray := by
  cases x with
  | v x =>
    cases x with
    | agg cs =>
      simp only [svCells, Option.some.injEq] at h
      subst h
      refine ⟨rfl, ?_⟩
      rw [← denL_eq, denL_v]
      simp [den, Value.cells]
    | _ =>
      simp only [svCells, Option.some.injEq] at h
      subst h
      simp [isJunk, den, Value.cells]
  | agg xs =>
    simp only [svCells, Option.some.injEq] at h
    subst h
    exact ⟨rfl, by simp [den, denL_eq, Value.cells]⟩
  | tup xs => simp [svCells] at h
  | junk => simp [svCells] at h
  | _ =>
    simp only [svCells, Option.some.injEq] at h
    subst h
    simp [isJunk, den, Value.cells]

def setAt (cells : List SV) (off : Nat) : List SV → List SV
  | [] => cells
  | x :: xs => setAt (cells.set off x) (off + 1) xs
def fillS (place : Nat → Option (Nat × Nat)) (cells : List SV) : List (Nat × SV) → Option (List SV)
  | [] => some cells
  | (i, x) :: r => match place i, svCells x with
    | some (off, size), some l => if Nat.beq l.length size && Nat.ble (off + l.length) cells.length then fillS place (setAt cells off l) r else none
    | _, _ => none

theorem setAt_length : ∀ (l cells : List SV) (off : Nat), (setAt cells off l).length = cells.length
  | [], _, _ => rfl
  | x :: xs, cells, off => by simp [setAt, setAt_length xs]
theorem setAt_den (e : Env) : ∀ (l cells : List SV) (off k : Nat),
    ((l.map (den e)).zipIdx k).foldl (fun (cs : Array Value) (x : Value × Nat) => cs.setIfInBounds (off + x.2) x.1) (cells.map (den e)).toArray =
      ((setAt cells (off + k) l).map (den e)).toArray
  | [], _, _, _ => rfl
  | x :: xs, cells, off, k => by
    simp only [List.map_cons, List.zipIdx_cons, List.foldl_cons, setAt]
    have h1 : (cells.map (den e)).toArray.setIfInBounds (off + k) (den e x) = ((cells.set (off + k) x).map (den e)).toArray := by
      simp [List.map_set]
    rw [h1, setAt_den e xs _ off (k + 1)]
    rfl
theorem fillS_sound (e : Env) {place : Nat → Option (Nat × Nat)} : ∀ (ps : List (Nat × SV)) (cells r : List SV), fillS place cells ps = some r →
    Instr.fill place (cells.map (den e)).toArray (ps.map fun x => (x.1, den e x.2)) = some (r.map (den e)).toArray ∧ ∀ x ∈ ps, isJunk x.2 = false
  | [], cells, r, h => by
    simp only [fillS, Option.some.injEq] at h
    subst h
    exact ⟨by simp [Instr.fill], fun x h => by cases h⟩
  | (i, x) :: ps, cells, r, h => by
    simp only [fillS] at h
    split at h
    · rename_i off size l hp hl
      split at h
      · rename_i hc
        simp only [Bool.and_eq_true, Nat.ble_eq] at hc
        have hc1 := Nat.eq_of_beq_eq_true hc.1
        obtain ⟨hj, hd⟩ := svCells_den (e := e) hl
        obtain ⟨ih1, ih2⟩ := fillS_sound e ps _ r h
        refine ⟨?_, fun y hy => ?_⟩
        · have hsz : (den e x).cells.size = l.length := by rw [hd]; simp
          simp only [List.map_cons, Instr.fill, hp, hsz]
          rw [if_neg (by simp; omega)]
          have := setAt_den e l cells off 0
          simp only [Nat.add_zero] at this
          rw [hd]
          simp only [Array.zipIdx_toArray, List.size_toArray, List.foldl_toArray']
          rw [this]
          exact ih1
        · cases hy with
          | head => exact hj
          | tail _ hm => exact ih2 y hm
      · cases h
    · cases h

/-- The places of a struct's fields. -/
def placesS (P : Program) : List Field → Option (List (Nat × Nat))
  | [] => some []
  | f :: fs => match szT P f.type, placesS P fs with
    | some z, some r => some ((f.offset, z) :: r)
    | _, _ => none
theorem placesS_run {P : Program} (w : World) : ∀ {fs : List Field} {r : List (Nat × Nat)}, placesS P fs = some r →
    (fs.mapM fun f => (do pure (f.offset, ← sizeOf f.type) : Sem (Nat × Nat))).run P w = .ok r w
  | [], r, h => by simp only [placesS, Option.some.injEq] at h; subst h; simp
  | f :: fs, r, h => by
    simp only [placesS] at h
    split at h
    · rename_i z r' hz hr
      simp only [Option.some.injEq] at h
      subst h
      simp only [List.mapM_cons, Sem.run_bind, run_szT hz, Result.andThen_ok, Sem.run_pure, placesS_run w hr]
    · cases h

def zeroT (P : Program) (t : TypeId) : Option Value := (P.info? t).bind (·.zero)
theorem run_zeroT {P : Program} {t : TypeId} {z : Value} (h : zeroT P t = some z) (w : World) : (zeroValue t).run P w = .ok z w := by
  simp only [zeroT, Option.bind_eq_some_iff] at h
  obtain ⟨i, h1, h2⟩ := h
  simp [zeroValue, typeInfo, h1, h2]

def sBuild (P : Program) (s : St) (t : TypeId) (ps : List (Nat × Operand)) (K : SV → Prop) : Prop :=
  match zeroT P t, P.underlying t with
  | some z, some (.struct fields) => match placesS P fields.toList with
    | some pl => match fillS (fun i => pl[i]?) (z.cells.toList.map .v) (ps.map fun x => (x.1, ev s x.2)) with
      | some r => K (.agg r)
      | none => False
    | none => False
  | some z, some (.array _ el) => match szT P el with
    | some n => match fillS (fun i => some (i * n, n)) (z.cells.toList.map .v) (ps.map fun x => (x.1, ev s x.2)) with
      | some r => K (.agg r)
      | none => False
    | none => False
  | _, _ => False

section
variable {P : Program} {c : Ctx} {s : St} {K : SV → Prop}

theorem map_v_den (e : Env) (l : List Value) : (l.map SV.v).map (den e) = l := by rw [← denL_eq, denL_v]

theorem parts_eval {e : Env} {a : Act} (hA : SatA e s a) {ps : List (Nat × Operand)} (h : ∀ x ∈ ps.map (fun x => (x.1, ev s x.2)), isJunk x.2 = false) :
    (ps.map fun x => (x.1, ev s x.2)).map (fun x => (x.1, den e x.2)) = ps.map fun x => (x.1, a.eval x.2) := by
  rw [List.map_map]
  refine List.map_congr_left fun x hx => ?_
  have hj := h (x.1, ev s x.2) (List.mem_map_of_mem (f := fun x : Nat × Operand => (x.1, ev s x.2)) hx)
  simp only [Function.comp]
  rw [ev_ok hA x.2 hj]

theorem sBuild_sound {t : TypeId} {ps : Array (Nat × Operand)} (h : sBuild P s t ps.toList K) : ∃ sv, K sv ∧ RunsTo P (.build t ps) c s sv := by
  unfold sBuild at h
  split at h
  · rename_i z fields hz hu
    split at h
    · rename_i pl hpl
      split at h
      · rename_i r hr
        refine ⟨_, h, .of fun e a w hS hA d ty pos af g => ?_⟩
        obtain ⟨hf, hj⟩ := fillS_sound e _ _ _ hr
        rw [parts_eval hA hj, map_v_den] at hf
        have hm : (fields.mapM fun f => (do pure (f.offset, ← sizeOf f.type) : Sem (Nat × Nat))).run P w = .ok pl.toArray w := by
          rw [Array.mapM_eq_mapM_toList]
          rw [Sem.run_map, placesS_run w hpl]
          rfl
        have hf' : Instr.fill (fun x => pl.toArray[x]?) z.cells (ps.toList.map fun x => (x.1, a.eval x.2)) = some (r.map (den e)).toArray := by
          rw [← hf]
          congr 1
          funext x; simp
        simp only [execOp, Instr.build, Sem.run_bind, run_zeroT hz, run_underlying hu, Result.andThen_ok, hm, Array.toList_map]
        rw [hf']
        simp [den, denL_eq]
      · exact h.elim
    · exact h.elim
  · rename_i z n el hz hu
    split at h
    · rename_i m hm
      split at h
      · rename_i r hr
        refine ⟨_, h, .of fun e a w hS hA d ty pos af g => ?_⟩
        obtain ⟨hf, hj⟩ := fillS_sound e _ _ _ hr
        rw [parts_eval hA hj, map_v_den] at hf
        simp only [execOp, Instr.build, Sem.run_bind, run_zeroT hz, run_underlying hu, Result.andThen_ok, run_szT hm, Array.toList_map]
        rw [show z.cells = z.cells.toList.toArray from rfl, hf]
        simp [den, denL_eq]
      · exact h.elim
    · exact h.elim
  · exact h.elim

theorem sUn_sound {op : UnOp} {t : TypeId} {x : Operand} (h : sUn op (ev s x) K) : ∃ sv, K sv ∧ RunsTo P (.unOp op t x) c s sv := by
  unfold sUn at h
  split at h
  · rename_i b hx
    exact ⟨_, h, .of fun e a w hS hA d ty pos af g => by simp [execOp, ev_v hA hx, Op.unary, den]⟩
  · rename_i k n hx
    obtain ⟨v, hv, hK⟩ := h
    refine ⟨_, hK, .of fun e a w hS hA d ty pos af g => ?_⟩
    simp only [execOp, ev_v hA hx, Op.unary, Op.intArith, Sem.run_bind, Sem.run_pure, Result.andThen_ok, hv, den]
  · rename_i k n hx
    refine ⟨_, h, .of fun e a w hS hA d ty pos af g => ?_⟩
    simp [execOp, ev_v hA hx, Op.unary, run_bits_eq, den]
  · exact h.elim

theorem sLen_sound {t : TypeId} {x : Operand} (h : sLen P t (ev s x) K) : ∃ sv, K sv ∧ RunsTo P (.call { callee := .builtin .len, args := #[x], argTypes := #[t] }) c s sv := by
  unfold sLen at h
  split at h
  · rename_i q hu hx
    exact ⟨_, h, .of fun e a w hS hA d ty pos af g => by simp [execOp, resolve, invoke, builtin, ev_v hA hx, Builtin.len_, run_underlying hu, goInt, den]⟩
  · rename_i el ad n cp hu hx
    exact ⟨_, h, .of fun e a w hS hA d ty pos af g => by simp [execOp, resolve, invoke, builtin, ev_v hA hx, Builtin.len_, run_underlying hu, goInt, den]⟩
  · rename_i el id n hu hx
    exact ⟨_, h, .of fun e a w hS hA d ty pos af g => by simp [execOp, resolve, invoke, builtin, ev_d hA hx rfl, Builtin.len_, run_underlying hu, goInt, den]⟩
  · rename_i el id off n cp hu hx
    exact ⟨_, h, .of fun e a w hS hA d ty pos af g => by simp [execOp, resolve, invoke, builtin, ev_d hA hx rfl, Builtin.len_, run_underlying hu, goInt, den]⟩
  · rename_i n el hu
    exact ⟨_, h, .of fun e a w hS hA d ty pos af g => by simp [execOp, resolve, invoke, builtin, Builtin.len_, run_underlying hu, goInt, den]⟩
  · exact h.elim

theorem sCap_sound {t : TypeId} {x : Operand} (h : sCap P t (ev s x) K) : ∃ sv, K sv ∧ RunsTo P (.call { callee := .builtin .cap, args := #[x], argTypes := #[t] }) c s sv := by
  unfold sCap at h
  split at h
  · rename_i el ad n cp hu hx
    exact ⟨_, h, .of fun e a w hS hA d ty pos af g => by simp [execOp, resolve, invoke, builtin, ev_v hA hx, Builtin.cap_, run_underlying hu, goInt, den]⟩
  · exact h.elim

theorem sMin_sound {mx : Bool} {x y : Operand} {ts : Array TypeId} (h : sMin mx (ev s x) (ev s y) K) :
    ∃ sv, K sv ∧ RunsTo P (.call { callee := .builtin (bif mx then .max else .min), args := #[x, y], argTypes := ts }) c s sv := by
  unfold sMin at h
  split at h
  · rename_i k n k2 m hx hy
    refine ⟨_, h, .of fun e a w hS hA d ty pos af g => ?_⟩
    cases mx <;> simp [execOp, resolve, invoke, builtin, ev_v hA hx, ev_v hA hy, Builtin.min_, Builtin.min2, Builtin.max_, Builtin.max2, den, imin, imax]
  · exact h.elim

theorem sNilCheck_sound {x : Operand} (h : sNilCheck (ev s x) K) : ∃ sv, K sv ∧ RunsTo P (.nilCheck x) c s sv := by
  unfold sNilCheck at h
  split at h
  · rename_i ad hx
    obtain ⟨h1, hK⟩ := h
    obtain ⟨ad, rfl⟩ := Option.isSome_iff_exists.1 h1
    refine ⟨_, hK, .of fun e a w hS hA d ty pos af g => ?_⟩
    simp [execOp, ev_v hA hx, hx, den]
  · rename_i ad k hx
    obtain ⟨h1, hK⟩ := h
    obtain ⟨ad, rfl⟩ := Option.isSome_iff_exists.1 h1
    refine ⟨_, hK, .of fun e a w hS hA d ty pos af g => ?_⟩
    simp [execOp, ev_d hA hx rfl, hx, den]
  · rename_i id off hx
    exact ⟨_, h, .of fun e a w hS hA d ty pos af g => by simp [execOp, ev_d hA hx rfl, hx, den]⟩
  · rename_i id off hx
    exact ⟨_, h, .of fun e a w hS hA d ty pos af g => by simp [execOp, ev_d hA hx rfl, hx, den]⟩
  · rename_i id off hx _
    exact ⟨_, h, .of fun e a w hS hA d ty pos af g => by simp [execOp, ev_d hA (by assumption) rfl, *, den]⟩
  · rename_i hx
    exact ⟨_, h, .of fun e a w hS hA d ty pos af g => by simp [execOp, ev_v hA hx, hx, den]⟩
  · exact h.elim

theorem sMkIface_sound {t : TypeId} {x : Operand} (h : sMkIface P t (ev s x) K) : ∃ sv, K sv ∧ RunsTo P (.makeInterface t x) c s sv := by
  unfold sMkIface at h
  split at h
  · exact h.elim
  · rename_i dd v hni hu hx
    refine ⟨_, h, .of fun e a w hS hA d ty pos af g => ?_⟩
    simp only [execOp, ev_v hA hx, Instr.makeInterface, Sem.run_bind, run_underlying hu, Result.andThen_ok]
    cases dd <;> simp_all [den]
  · exact h.elim

end
end Go.SE
