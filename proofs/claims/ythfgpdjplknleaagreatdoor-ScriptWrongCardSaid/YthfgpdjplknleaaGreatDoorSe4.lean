/- Places, slices, lengths, loads; and all quiet operations in one function. -/
import Derived.Test.YthfgpdjplknleaaGreatDoorSe3
namespace Go.SE
open Go.RowKit

/-- A cell of read-only memory. -/
def cellM (I : Mem) (a : Addr) : Option Value :=
  match I a.block with
  | some (.cells c _ _) => if a.spot.isSome then none else c[a.off]?
  | _ => none
def atI (I : Mem) (a : Option Addr) (k : Nat) : Option Value := a.bind fun ad => cellM I (ad.add k)

theorem cellM_world {I : Mem} {w : World} (h : I.inW w) {a : Addr} {v : Value} (hc : cellM I a = some v) : w.cell? a = some v := by
  unfold cellM at hc
  split at hc
  · rename_i c el fz hb
    simp [World.cell?, h _ _ hb, hc]
  · cases hc
theorem cellM_le {I J : Mem} (h : I.le J) {a : Addr} {v : Value} (hc : cellM I a = some v) : cellM J a = some v := by
  unfold cellM at hc
  split at hc
  · rename_i c el fz hb
    simp [cellM, h _ _ hb, hc]
  · cases hc
theorem atI_le {I J : Mem} (h : I.le J) {a : Option Addr} {k : Nat} {v : Value} (hc : atI I a k = some v) : atI J a k = some v := by
  cases a with
  | none => simp [atI] at hc
  | some ad => simp only [atI, Option.bind_some] at hc ⊢; exact cellM_le h hc

/-- Where a slice begins whose first l elements are cut off. -/
def sladdr (a : Option Addr) (c l z : Nat) : Option Addr := if c = l then a else a.map (·.add (l * z))

/-- The Int that a bound is; a bound that is not there. -/
def bnd (s : St) : Option Operand → Option (Option Int)
  | none => some none
  | some x => match ev s x with
    | .v (.int _ n) => some (some n)
    | _ => none

theorem bnd_run {s : St} {e : Env} {a : Act} (hA : SatA e s a) {x : Option Operand} {r : Option Int} (h : bnd s x = some r) :
    (∃ k n, r = some n ∧ x.map a.eval = some (.int k n)) ∨ (r = none ∧ x.map a.eval = none) := by
  unfold bnd at h
  split at h
  · simp at h; subst h; exact .inr ⟨rfl, rfl⟩
  · split at h
    · rename_i k n hx
      simp only [Option.some.injEq] at h
      subst h
      exact .inl ⟨k, n, rfl, by simp [ev_v hA hx]⟩
    · cases h

def sIndexAddr (P : Program) (s : St) (t : TypeId) (x : SV) (i : Operand) (iv : SV) (K : SV → Prop) : Prop :=
  match P.underlying t, x, iv with
  | some (.slice el), .v (.slice a n _), .v (.int _ m) => match szT P el with
    | some z => 0 ≤ m ∧ m < n ∧ a.isSome = true ∧ K (.ep a (m.toNat * z))
    | none => False
  | some (.slice el), .rsl id len, .v (.int _ m) => match szT P el, s.H[id]? with
    | some z, some ⟨.row xs sz _, _⟩ => 0 ≤ m ∧ m < len ∧ len * sz ≤ xs.length ∧ K (.sptr id (m.toNat * z))
    | _, _ => False
  | some (.slice el), .xsl id off len _, .v (.int _ m) => match szT P el, litOf i with
    | some z, some q => 0 ≤ q ∧ q < len ∧ K (.ptr id (off + q.toNat * z))
    | some z, none => 0 ≤ m ∧ m < len ∧ K (.sptr id (off + m.toNat * z))
    | _, _ => False
  | some (.array n el), .ptr id off, .v (.int _ m) => match szT P el, litOf i with
    | some z, some q => 0 ≤ q ∧ q < n ∧ K (.ptr id (off + q.toNat * z))
    | some z, none => 0 ≤ m ∧ m < n ∧ K (.sptr id (off + m.toNat * z))
    | _, _ => False
  | some (.array n el), .sptr id off, .v (.int _ m) => match szT P el with
    | some z => 0 ≤ m ∧ m < n ∧ K (.sptr id (off + m.toNat * z))
    | none => False
  | some (.array n el), .ep a k, .v (.int _ m) => match szT P el with
    | some z => 0 ≤ m ∧ m < n ∧ a.isSome = true ∧ K (.ep a (k + m.toNat * z))
    | none => False
  | some (.array n el), .v (.pointer a), .v (.int _ m) => match szT P el with
    | some z => 0 ≤ m ∧ m < n ∧ a.isSome = true ∧ K (.ep a (m.toNat * z))
    | none => False
  | _, _, _ => False

theorem add_add (a : Addr) (m n : Nat) : (a.add m).add n = a.add (m + n) := by
  unfold Addr.add
  by_cases hm : m = 0 <;> by_cases hn : n = 0 <;> simp [hm, hn, Nat.add_assoc]

section
variable {P : Program} {c : Ctx} {s : St} {K : SV → Prop}

theorem sIndexAddr_sound {t : TypeId} {x i : Operand} (h : sIndexAddr P s t (ev s x) i (ev s i) K) : ∃ sv, K sv ∧ RunsTo P (.indexAddr t x i) c s sv := by
  unfold sIndexAddr at h
  split at h
  · rename_i el ad n cp k m hu hx hi
    split at h
    · rename_i z hz
      obtain ⟨h0, h1, h2, hK⟩ := h
      obtain ⟨ad, rfl⟩ := Option.isSome_iff_exists.1 h2
      refine ⟨_, hK, .of fun e a w _ hA d ty pos af g => ?_⟩
      simp [execOp, ev_v hA hx, ev_v hA hi, Instr.indexAt, run_underlying hu, asIntOf, h0, h1, run_szT hz, den]
    · exact h.elim
  · rename_i el id len k m hu hx hi
    split at h
    · rename_i z xs sz el' nm hz hH
      obtain ⟨h0, h1, h2, hK⟩ := h
      refine ⟨_, hK, .of fun e a w hS hA d ty pos af g => ?_⟩
      have hh := (hS.owned id _ hH rfl).1
      simp only [holds] at hh
      have hnil : e.nil id = false := by
        rcases hh.2.2 with ⟨_, _, rfl⟩ | ⟨hn, _⟩
        · exfalso
          simp only [List.length_nil, Nat.le_zero, Nat.mul_eq_zero] at h2
          have := hh.1
          omega
        · exact hn
      simp [execOp, ev_d hA hx rfl, ev_v hA hi, Instr.indexAt, run_underlying hu, asIntOf, h0, h1, run_szT hz, den, hnil, Addr.add_lit]
    · exact h.elim
  · rename_i el id off len cp k m hu hx hi
    split at h
    · rename_i z q hz hq
      have hqm := litOf_ev hq hi
      subst hqm
      obtain ⟨h0, h1, hK⟩ := h
      refine ⟨_, hK, .of fun e a w hS hA d ty pos af g => ?_⟩
      simp [execOp, ev_d hA hx rfl, ev_v hA hi, Instr.indexAt, run_underlying hu, asIntOf, h0, h1, run_szT hz, den, Addr.add_lit]
    · rename_i z hz hq
      obtain ⟨h0, h1, hK⟩ := h
      refine ⟨_, hK, .of fun e a w hS hA d ty pos af g => ?_⟩
      simp [execOp, ev_d hA hx rfl, ev_v hA hi, Instr.indexAt, run_underlying hu, asIntOf, h0, h1, run_szT hz, den, Addr.add_lit]
    · exact h.elim
  · rename_i n el id off k m hu hx hi
    split at h
    · rename_i z q hz hq
      have hqm := litOf_ev hq hi
      subst hqm
      obtain ⟨h0, h1, hK⟩ := h
      refine ⟨_, hK, .of fun e a w hS hA d ty pos af g => ?_⟩
      simp [execOp, ev_d hA hx rfl, ev_v hA hi, Instr.indexAt, run_underlying hu, asIntOf, Instr.sureAddr, h0, h1, run_szT hz, den, Addr.add_lit]
    · rename_i z hz hq
      obtain ⟨h0, h1, hK⟩ := h
      refine ⟨_, hK, .of fun e a w hS hA d ty pos af g => ?_⟩
      simp [execOp, ev_d hA hx rfl, ev_v hA hi, Instr.indexAt, run_underlying hu, asIntOf, Instr.sureAddr, h0, h1, run_szT hz, den, Addr.add_lit]
    · exact h.elim
  · rename_i n el id off k m hu hx hi
    split at h
    · rename_i z hz
      obtain ⟨h0, h1, hK⟩ := h
      refine ⟨_, hK, .of fun e a w hS hA d ty pos af g => ?_⟩
      simp [execOp, ev_d hA hx rfl, ev_v hA hi, Instr.indexAt, run_underlying hu, asIntOf, Instr.sureAddr, h0, h1, run_szT hz, den, Addr.add_lit]
    · exact h.elim
  · rename_i n el ad k0 k m hu hx hi
    split at h
    · rename_i z hz
      obtain ⟨h0, h1, h2, hK⟩ := h
      obtain ⟨ad, rfl⟩ := Option.isSome_iff_exists.1 h2
      refine ⟨_, hK, .of fun e a w hS hA d ty pos af g => ?_⟩
      simp [execOp, ev_d hA hx rfl, ev_v hA hi, Instr.indexAt, run_underlying hu, asIntOf, Instr.sureAddr, h0, h1, run_szT hz, den, add_add]
    · exact h.elim
  · rename_i n el ad k m hu hx hi
    split at h
    · rename_i z hz
      obtain ⟨h0, h1, h2, hK⟩ := h
      obtain ⟨ad, rfl⟩ := Option.isSome_iff_exists.1 h2
      refine ⟨_, hK, .of fun e a w hS hA d ty pos af g => ?_⟩
      simp [execOp, ev_v hA hx, ev_v hA hi, Instr.indexAt, run_underlying hu, asIntOf, Instr.sureAddr, h0, h1, run_szT hz, den]
    · exact h.elim
  · exact h.elim
end

/-- A field's place. -/
def sFieldAddr (P : Program) (t : TypeId) (x : SV) (f : Nat) (K : SV → Prop) : Prop :=
  match P.underlying t with
  | some (.struct fields) => match fields[f]? with
    | some fd => match szT P fd.type with
      | some (_ + 1) => match x with
        | .ptr id off => K (.ptr id (off + fd.offset))
        | .sptr id off => K (.sptr id (off + fd.offset))
        | .ep a k => a.isSome = true ∧ K (.ep a (k + fd.offset))
        | .v (.pointer a) => a.isSome = true ∧ K (.ep a fd.offset)
        | _ => False
      | _ => False
    | none => False
  | _ => False

theorem sFieldAddr_sound {P : Program} {c : Ctx} {s : St} {K : SV → Prop} {t : TypeId} {x : Operand} {f : Nat} (h : sFieldAddr P t (ev s x) f K) :
    ∃ sv, K sv ∧ RunsTo P (.fieldAddr t x f) c s sv := by
  unfold sFieldAddr at h
  split at h
  · rename_i fields hu
    split at h
    · rename_i fd hfd
      split at h
      · rename_i z hz
        split at h
        · rename_i id off hx
          refine ⟨_, h, .of fun e a w hS hA d ty pos af g => ?_⟩
          simp [execOp, ev_d hA hx rfl, Instr.fieldAt, run_underlying hu, hfd, Instr.sureAddr, fieldPlace, run_szT hz, den, Addr.add_lit]
        · rename_i id off hx
          refine ⟨_, h, .of fun e a w hS hA d ty pos af g => ?_⟩
          simp [execOp, ev_d hA hx rfl, Instr.fieldAt, run_underlying hu, hfd, Instr.sureAddr, fieldPlace, run_szT hz, den, Addr.add_lit]
        · rename_i ad k hx
          obtain ⟨h2, hK⟩ := h
          obtain ⟨ad, rfl⟩ := Option.isSome_iff_exists.1 h2
          refine ⟨_, hK, .of fun e a w hS hA d ty pos af g => ?_⟩
          simp [execOp, ev_d hA hx rfl, Instr.fieldAt, run_underlying hu, hfd, Instr.sureAddr, fieldPlace, run_szT hz, den, add_add]
        · rename_i ad hx
          obtain ⟨h2, hK⟩ := h
          obtain ⟨ad, rfl⟩ := Option.isSome_iff_exists.1 h2
          refine ⟨_, hK, .of fun e a w hS hA d ty pos af g => ?_⟩
          simp [execOp, ev_v hA hx, Instr.fieldAt, run_underlying hu, hfd, Instr.sureAddr, fieldPlace, run_szT hz, den]
        · exact h.elim
      · exact h.elim
    · exact h.elim
  · exact h.elim

def nz (P : Program) (t : TypeId) : Bool :=
  match szT P t with
  | some 0 => false
  | _ => true

/-- A load. -/
def isPtrT (P : Program) (t : TypeId) : Bool :=
  match P.underlying t with
  | some (.pointer _) => true
  | _ => false

def isVS : SV → Bool
  | .v _ => true
  | _ => false
/-- A value out of an array, at a place that is not known: place by place. -/
def splitS (cs : List SV) (off z : Nat) (K : SV → Prop) : Nat → Prop
  | 0 => True
  | n + 1 => splitS cs off z K n ∧ (off = n * z → if Nat.ble (n * z + z) cs.length && ((cs.drop (n * z)).take z).all (fun x => !isJunk x) then K (.agg ((cs.drop (n * z)).take z)) else False)
theorem splitS_get {cs : List SV} {off z : Nat} {K : SV → Prop} : ∀ {n q : Nat}, splitS cs off z K n → q < n → off = q * z → if Nat.ble (off + z) cs.length && ((cs.drop off).take z).all (fun x => !isJunk x) then K (.agg ((cs.drop off).take z)) else False
  | n + 1, q, h, hq, e => by
    by_cases hn : q = n
    · subst hn
      have := h.2 e
      rwa [← e] at this
    · exact splitS_get h.1 (by omega) e
def sLoad (P : Program) (s : St) (t : TypeId) (x : SV) (K : SV → Prop) : Prop :=
  match x with
  | .ptr id off => match s.H[id]? with
    | some ⟨.cells cs _, _⟩ => match isAggT P t, szT P t with
      | some true, some z => if nz P t && (Nat.ble (off + z) cs.length && ((cs.drop off).take z).all (fun x => !isJunk x)) then K (.agg ((cs.drop off).take z)) else False
      | some false, some _ => match cs[off]? with
        | some sv => if isJunk sv then False else K sv
        | none => False
      | _, _ => False
    | some ⟨.row xs _ _, _⟩ => if nz P t then ExT P t (fun j v => xs[off + j]? = some v) K else False
    | some ⟨.vec xs _, _⟩ => if nz P t then ExT P t (fun j v => xs[off + j]? = some v) K else False
    | _ => False
  | .sptr id off => match s.H[id]? with
    | some ⟨.cells cs _, _⟩ => match isPtrT P t with
      | true => match isAggT P t, szT P t with
        | some true, some z => if nz P t && (Nat.ble (off + z) cs.length && ((cs.drop off).take z).all (fun x => !isJunk x)) then K (.agg ((cs.drop off).take z)) else False
        | some false, some _ => match cs[off]? with
          | some sv => if isJunk sv then False else K sv
          | none => False
        | _, _ => False
      | false => if cs.all isVS then (if nz P t then ExT P t (fun j v => ((cs[off + j]?).bind vOf) = some v) K else False) else match isAggT P t, szT P t with
        | some true, some z => if nz P t && Nat.blt 0 z then off % z = 0 ∧ off + z ≤ cs.length ∧ splitS cs off z K (cs.length / z) else False
        | _, _ => if nz P t then ExT P t (fun j v => ((cs[off + j]?).bind vOf) = some v) K else False
    | some ⟨.row xs _ _, _⟩ => if nz P t then ExT P t (fun j v => xs[off + j]? = some v) K else False
    | some ⟨.vec xs _, _⟩ => if nz P t then ExT P t (fun j v => xs[off + j]? = some v) K else False
    | _ => False
  | .ep a k => if nz P t then ExT P t (fun j v => atI s.I a (k + j) = some v) K else False
  | .v (.pointer a) => if nz P t then ExT P t (fun j v => atI s.I a j = some v) K else False
  | _ => False

theorem run_loadVarT {P : Program} {t : TypeId} {z : Nat} {b : Bool} (hz : szT P t = some z) (hb : isAggT P t = some b) (w : World) (a : Addr) :
    (b = true → ∀ vs : List Value, vs.length = z → (∀ j v, vs[j]? = some v → w.cell? (a.add j) = some v) → (loadVar t a).run P w = .ok (.agg vs.toArray) w) ∧
    (b = false → ∀ v, w.cell? a = some v → (loadVar t a).run P w = .ok v w) := by
  constructor
  · rintro rfl vs rfl hv
    have := run_loadCells_list (P := P) (w := w) a vs hv
    simp only [loadVar, Sem.run_bind, run_isAggT hb, run_szT hz, Result.andThen_ok, if_true, this]
    rfl
  · rintro rfl v hv
    simp [loadVar, run_isAggT hb, hv]

theorem holds_cells_owned {c : Ctx} {e : Env} {s : St} {w : World} (hS : Sat c e s w) {id : Nat} {cs : List SV} {el : TypeId} {nm : Option Nat}
    (hH : s.H[id]? = some ⟨.cells cs el, nm⟩) :
    ∀ (k : Nat) (sv : SV), cs[k]? = some sv → isJunk sv = false → w.cell? ⟨e.blk id, k, none⟩ = some (den e sv) := by
  intro k sv hk hj
  obtain ⟨⟨_, arr, h1, h2, h3⟩, _⟩ := hS.owned id _ hH rfl
  simp only at h1
  simp [World.cell?, h1, h3 k sv hk hj]

theorem holds_vec_owned {c : Ctx} {e : Env} {s : St} {w : World} (hS : Sat c e s w) {id : Nat} {xs : List Value} {el : TypeId} {nm : Option Nat}
    (hH : s.H[id]? = some ⟨.vec xs el, nm⟩) : ∀ (k : Nat) (v : Value), xs[k]? = some v → w.cell? ⟨e.blk id, k, none⟩ = some v := by
  intro k v hk
  obtain ⟨⟨_, h1⟩, _⟩ := hS.owned id _ hH rfl
  simp only at h1
  simp [World.cell?, h1, hk]

theorem holds_row_owned {c : Ctx} {e : Env} {s : St} {w : World} (hS : Sat c e s w) {id : Nat} {xs : List Value} {sz : Nat} {el : TypeId} {nm : Option Nat}
    (hH : s.H[id]? = some ⟨.row xs sz el, nm⟩) :
    ∀ (k : Nat) (v : Value), xs[k]? = some v → e.nil id = false ∧ w.cell? ⟨e.blk id, k, none⟩ = some v := by
  intro k v hk
  obtain ⟨⟨_, _, hh⟩, _⟩ := hS.owned id _ hH rfl
  rcases hh with ⟨_, _, rfl⟩ | ⟨hn, arr, h1, h2, h3, h4, h5⟩
  · simp at hk
  · refine ⟨hn, ?_⟩
    simp only at h1
    have hlt := (List.getElem?_eq_some_iff.1 hk).1
    have : arr.toList[k]? = some v := by
      rw [← h5, List.getElem?_take] at hk
      split at hk
      · exact hk
      · rename_i hn2; exact absurd hlt hn2
    simp [World.cell?, h1]
    simpa using this

theorem ep_cells {I : Mem} {w : World} (h : I.inW w) {a : Option Addr} {k : Nat} {v : Value} (hc : atI I a k = some v) :
    ∃ ad, a = some ad ∧ w.cell? (ad.add k) = some v := by
  cases a with
  | none => simp [atI] at hc
  | some ad => exact ⟨ad, rfl, cellM_world h (by simpa [atI] using hc)⟩

section
variable {P : Program} {c : Ctx} {s : St} {K : SV → Prop}

/-- A load at an address, of cells that are read one by one. -/
theorem load_of_cells {t : TypeId} {x : Operand} {p : Nat → Value → Prop} (hp : ExT P t p K)
    (hx : ∀ e a w, Sat c e s w → SatA e s a → ∀ v0, p 0 v0 → ∃ ad : Addr, a.eval x = .pointer (some ad) ∧ ∀ j v, p j v → w.cell? (ad.add j) = some v)
    (hz0 : isAggT P t = some true → szT P t ≠ some 0) :
    ∃ sv, K sv ∧ RunsTo P (.load t x) c s sv := by
  obtain ⟨b, z, hb, hz, h⟩ := ExT_sound hp
  rcases h with ⟨rfl, vs, hl, hv, hK⟩ | ⟨rfl, v, hv, hK⟩
  · refine ⟨_, hK, .of fun e a w hS hA d ty pos af g => ?_⟩
    have hne : 0 < vs.length := by
      rcases Nat.eq_zero_or_pos vs.length with h0 | h0
      · exact absurd (hz.trans (by rw [← hl, h0])) (hz0 hb)
      · exact h0
    obtain ⟨ad, h1, h2⟩ := hx e a w hS hA vs[0] (hv 0 _ (List.getElem?_eq_getElem hne))
    have hr := (run_loadVarT hz hb w ad).1 rfl vs hl fun j v hj => h2 j v (hv j v hj)
    simp [execOp, h1, Instr.loadAt, Instr.sureAddr, hr, den, denL_v]
  · refine ⟨_, hK, .of fun e a w hS hA d ty pos af g => ?_⟩
    obtain ⟨ad, h1, h2⟩ := hx e a w hS hA v hv
    have hr := (run_loadVarT hz hb w ad).2 rfl v (by simpa [Addr.add] using h2 0 v hv)
    simp [execOp, h1, Instr.loadAt, Instr.sureAddr, hr, den]

theorem nz_ne {t : TypeId} (h : nz P t = true) : szT P t ≠ some 0 := by
  intro h0
  simp [nz, h0] at h

theorem load_own {t : TypeId} {x : Operand} {id off : Nat} {cs : List SV} {el : TypeId} {nm : Option Nat}
    (hx : ∀ e a, SatA e s a → a.eval x = .pointer (some ⟨e.blk id, off, none⟩))
    (hH : s.H[id]? = some ⟨.cells cs el, nm⟩)
    (h : match isAggT P t, szT P t with
      | some true, some z => if nz P t && (Nat.ble (off + z) cs.length && ((cs.drop off).take z).all (fun x => !isJunk x)) then K (.agg ((cs.drop off).take z)) else False
      | some false, some _ => match cs[off]? with
        | some sv => if isJunk sv then False else K sv
        | none => False
      | _, _ => False) : ∃ sv, K sv ∧ RunsTo P (.load t x) c s sv := by
  split at h
  · rename_i z hb hz
    split at h
    · rename_i hc
      simp only [Bool.and_eq_true, Nat.ble_eq, List.all_eq_true, Bool.not_eq_true'] at hc
      obtain ⟨_, hle, hall⟩ := hc
      refine ⟨_, h, .of fun e a w hS hA d ty pos af g => ?_⟩
      have hcell := holds_cells_owned hS hH
      have hr := (run_loadVarT hz hb w ⟨e.blk id, off, none⟩).1 rfl (((cs.drop off).take z).map (den e)) (by simp; omega) (fun j v hj => by
        simp only [List.getElem?_map, Option.map_eq_some_iff] at hj
        obtain ⟨sv, hs1, rfl⟩ := hj
        have hjunk := hall sv (List.mem_of_getElem? hs1)
        rw [List.getElem?_take] at hs1
        split at hs1
        · rw [List.getElem?_drop] at hs1
          rw [Addr.add_lit]
          exact hcell _ _ hs1 hjunk
        · exact absurd hs1 (by simp))
      simp [execOp, hx e a hA, Instr.loadAt, Instr.sureAddr, hr, den, denL_eq]
    · exact h.elim
  · rename_i z hb hz
    split at h
    · rename_i sv hsv
      split at h
      · exact h.elim
      · rename_i hj
        simp only [Bool.not_eq_true] at hj
        refine ⟨_, h, .of fun e a w hS hA d ty pos af g => ?_⟩
        have hcell := holds_cells_owned hS hH _ _ hsv hj
        have hr := (run_loadVarT hz hb w ⟨e.blk id, off, none⟩).2 rfl _ hcell
        simp [execOp, hx e a hA, Instr.loadAt, Instr.sureAddr, hr]
    · exact h.elim
  · exact h.elim

theorem load_row {t : TypeId} {x : Operand} {id off : Nat} {xs : List Value} {sz : Nat} {el : TypeId} {nm : Option Nat}
    (hx : ∀ e a, SatA e s a → a.eval x = .pointer (some ⟨e.blk id, off, none⟩))
    (hH : s.H[id]? = some ⟨.row xs sz el, nm⟩)
    (h : if nz P t then ExT P t (fun j v => xs[off + j]? = some v) K else False) : ∃ sv, K sv ∧ RunsTo P (.load t x) c s sv := by
  split at h
  · rename_i hn
    refine load_of_cells h (fun e a w hS hA v0 hv0 => ⟨⟨e.blk id, off, none⟩, hx e a hA, fun j v hj => ?_⟩) (fun _ => nz_ne hn)
    rw [Addr.add_lit]
    exact (holds_row_owned hS hH _ _ hj).2
  · exact h.elim

theorem load_vec {t : TypeId} {x : Operand} {id off : Nat} {xs : List Value} {el : TypeId} {nm : Option Nat}
    (hx : ∀ e a, SatA e s a → a.eval x = .pointer (some ⟨e.blk id, off, none⟩))
    (hH : s.H[id]? = some ⟨.vec xs el, nm⟩)
    (h : if nz P t then ExT P t (fun j v => xs[off + j]? = some v) K else False) : ∃ sv, K sv ∧ RunsTo P (.load t x) c s sv := by
  split at h
  · rename_i hn
    refine load_of_cells h (fun e a w hS hA v0 hv0 => ⟨⟨e.blk id, off, none⟩, hx e a hA, fun j v hj => ?_⟩) (fun _ => nz_ne hn)
    rw [Addr.add_lit]
    exact holds_vec_owned hS hH _ _ hj
  · exact h.elim

theorem load_ownS {t : TypeId} {x : Operand} {id off : Nat} {cs : List SV} {el : TypeId} {nm : Option Nat}
    (hx : ∀ e a, SatA e s a → a.eval x = .pointer (some ⟨e.blk id, off, none⟩))
    (hH : s.H[id]? = some ⟨.cells cs el, nm⟩)
    (h : if nz P t then ExT P t (fun j v => ((cs[off + j]?).bind vOf) = some v) K else False) : ∃ sv, K sv ∧ RunsTo P (.load t x) c s sv := by
  split at h
  · rename_i hn
    refine load_of_cells h (fun e a w hS hA v0 hv0 => ⟨⟨e.blk id, off, none⟩, hx e a hA, fun j v hj => ?_⟩) (fun _ => nz_ne hn)
    rw [Addr.add_lit]
    obtain ⟨sv, h1, h2⟩ := vOf_den (e := e) hj
    have hjk : isJunk sv = false := by
      rw [h1] at hj
      cases sv <;> simp [vOf] at hj
      rfl
    rw [← h2]
    exact holds_cells_owned hS hH _ _ h1 hjk
  · exact h.elim

theorem sLoad_sound {t : TypeId} {x : Operand} (h : sLoad P s t (ev s x) K) : ∃ sv, K sv ∧ RunsTo P (.load t x) c s sv := by
  unfold sLoad at h
  split at h
  · rename_i id off hx
    have hx' : ∀ e a, SatA e s a → a.eval x = .pointer (some ⟨e.blk id, off, none⟩) := fun e a hA => by simp [ev_d hA hx rfl, den]
    split at h
    · rename_i cs el nm hH
      exact load_own hx' hH h
    · rename_i xs sz el nm hH
      exact load_row hx' hH h
    · rename_i xs el nm hH
      exact load_vec hx' hH h
    · exact h.elim
  · rename_i id off hx
    have hx' : ∀ e a, SatA e s a → a.eval x = .pointer (some ⟨e.blk id, off, none⟩) := fun e a hA => by simp [ev_d hA hx rfl, den]
    split at h
    · rename_i cs el nm hH
      split at h
      · exact load_own hx' hH h
      · split at h
        · exact load_ownS hx' hH h
        · split at h
          · rename_i z hb hz
            split at h
            · rename_i hc
              simp only [Bool.and_eq_true, Nat.blt_eq] at hc
              obtain ⟨h1, h2, h3⟩ := h
              have e : off = off / z * z := by
                have := Nat.div_add_mod off z
                rw [h1, Nat.mul_comm] at this
                omega
              have hlt : off / z < cs.length / z := by
                refine (Nat.le_div_iff_mul_le hc.2).2 ?_
                rw [Nat.succ_mul, ← e]; exact h2
              have h4 := splitS_get h3 hlt e
              refine load_own hx' hH ?_
              rw [hb, hz]
              split at h4
              · rename_i h5
                simp only
                rw [if_pos (by rw [hc.1, h5]; rfl)]
                exact h4
              · exact h4.elim
            · exact h.elim
          · exact load_ownS hx' hH h
    · rename_i xs sz el nm hH
      exact load_row hx' hH h
    · rename_i xs el nm hH
      exact load_vec hx' hH h
    · exact h.elim
  · rename_i ad k hx
    split at h
    · rename_i hn
      refine load_of_cells h (fun e a w hS hA v0 hv0 => ?_) (fun _ => nz_ne hn)
      obtain ⟨ad', rfl, _⟩ := ep_cells hS.I hv0
      refine ⟨ad'.add k, by simp [ev_d hA hx rfl, den], fun j v hj => ?_⟩
      obtain ⟨_, h1, h2⟩ := ep_cells hS.I hj
      cases h1
      rwa [add_add]
    · exact h.elim
  · rename_i ad hx
    split at h
    · rename_i hn
      refine load_of_cells h (fun e a w hS hA v0 hv0 => ?_) (fun _ => nz_ne hn)
      obtain ⟨ad', rfl, _⟩ := ep_cells hS.I hv0
      refine ⟨ad', by simp [ev_v hA hx], fun j v hj => ?_⟩
      obtain ⟨_, h1, h2⟩ := ep_cells hS.I hj
      cases h1
      exact h2
    · exact h.elim
  · exact h.elim

end
end Go.SE
