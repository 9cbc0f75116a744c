/- Part of a proof by the rules of the symbolic walk (see the law's own text): contracts of functions of the program. -/
import Derived.Test.YtglkgdkdcmilcaaRa3
open Go Go.Proofs Go.SE Go.RowKit
theorem okM_all {ms : List Int} : okM ms = true ↔ ∀ m ∈ ms, okM [m] = true := by simp [okM]
theorem step16 : ∀ a b : Fin 16, (handV a.val b.val = 0 → bitsV .andNot .u8 b.val a.val = 0 ∧ bitsV .and .u8 a.val 4 = 4 ∧ bitsV .and .u8 a.val b.val = b.val) ∧ (handV a.val b.val = 0 ∨ handV a.val b.val = 221) ∧
    bitsV .and .u8 15 a.val = a.val ∧ bitsV .andNot .u8 a.val a.val = 0 ∧ 0 ≤ bitsV .or .u8 a.val 4 ∧ bitsV .or .u8 a.val 4 ≤ 15 ∧ bitsV .and .u8 (bitsV .or .u8 a.val 4) 4 = 4 ∧
    (bitsV .and .u8 b.val 4 = 4 → 0 ≤ bitsV .and .u8 (bitsV .or .u8 a.val 4) b.val ∧ bitsV .and .u8 (bitsV .or .u8 a.val 4) b.val ≤ 15 ∧ bitsV .and .u8 (bitsV .and .u8 (bitsV .or .u8 a.val 4) b.val) 4 = 4 ∧ handV b.val (bitsV .and .u8 (bitsV .or .u8 a.val 4) b.val) = 0) := by decide +kernel
theorem trans16 : ∀ a b c : Fin 16, bitsV .andNot .u8 b.val a.val = 0 → bitsV .andNot .u8 c.val b.val = 0 → bitsV .andNot .u8 c.val a.val = 0 := by decide +kernel
theorem fin16 {x : Int} (h : 0 ≤ x ∧ x ≤ 15) : ∃ a : Fin 16, x = a.val := ⟨⟨x.toNat, by omega⟩, by simp only; omega⟩
theorem step15 {a b : Int} (ha : 0 ≤ a ∧ a ≤ 15) (hb : 0 ≤ b ∧ b ≤ 15) : (handV a b = 0 → bitsV .andNot .u8 b a = 0 ∧ bitsV .and .u8 a 4 = 4 ∧ bitsV .and .u8 a b = b) ∧ (handV a b = 0 ∨ handV a b = 221) ∧
    bitsV .and .u8 15 a = a ∧ bitsV .andNot .u8 a a = 0 ∧ 0 ≤ bitsV .or .u8 a 4 ∧ bitsV .or .u8 a 4 ≤ 15 ∧ bitsV .and .u8 (bitsV .or .u8 a 4) 4 = 4 ∧
    (bitsV .and .u8 b 4 = 4 → 0 ≤ bitsV .and .u8 (bitsV .or .u8 a 4) b ∧ bitsV .and .u8 (bitsV .or .u8 a 4) b ≤ 15 ∧ bitsV .and .u8 (bitsV .and .u8 (bitsV .or .u8 a 4) b) 4 = 4 ∧ handV b (bitsV .and .u8 (bitsV .or .u8 a 4) b) = 0) := by
  obtain ⟨a, rfl⟩ := fin16 ha
  obtain ⟨b, rfl⟩ := fin16 hb
  exact step16 a b
theorem trans15 {a b c : Int} (ha : 0 ≤ a ∧ a ≤ 15) (hb : 0 ≤ b ∧ b ≤ 15) (hc : 0 ≤ c ∧ c ≤ 15) (h : bitsV .andNot .u8 b a = 0) (h' : bitsV .andNot .u8 c b = 0) : bitsV .andNot .u8 c a = 0 := by
  obtain ⟨a, rfl⟩ := fin16 ha
  obtain ⟨b, rfl⟩ := fin16 hb
  obtain ⟨c, rfl⟩ := fin16 hc
  exact trans16 a b c h h'
/-- Masks of four bits. -/
def L15 (L : List Int) : Prop := ∀ y ∈ L, 0 ≤ y ∧ y ≤ 15
/-- The chain holds up to E. -/
def Holds (L : List Int) (E : Nat) : Prop := ∀ (i : Nat) (x y : Int), i + 1 < E → L[i]? = some x → L[i + 1]? = some y → handV x y = 0
theorem L15.at_ {L : List Int} (h : L15 L) {i : Nat} {x : Int} (hx : L[i]? = some x) : 0 ≤ x ∧ x ≤ 15 := h _ (List.mem_of_getElem? hx)
theorem holds_below {L : List Int} (h : L15 L) {E : Nat} (hh : Holds L E) {k : Nat} {x : Int} (hx : L[k]? = some x) : ∀ (d : Nat) {y : Int}, k + d < E → L[k + d]? = some y → bitsV .andNot .u8 y x = 0
  | 0, y, hd, hy => by
    rw [Nat.add_zero, hx] at hy
    cases hy
    exact (step15 (h.at_ hx) (h.at_ hx)).2.2.2.1
  | d + 1, y, hd, hy => by
    have hl := (List.getElem?_eq_some_iff.1 hy).1
    have hz : L[k + d]? = some L[k + d] := List.getElem?_eq_getElem (by omega)
    have ih := holds_below h hh hx d (by omega) hz
    have h0 := hh (k + d) _ _ (by omega) hz hy
    exact trans15 (h.at_ hx) (h.at_ hz) (h.at_ hy) ih ((step15 (h.at_ hz) (h.at_ hy)).1 h0).1
theorem holds_grant {L : List Int} (h : L15 L) {E : Nat} (hh : Holds L E) {k : Nat} {x : Int} (hx : L[k]? = some x) (hk : k + 1 < E) (hE : E ≤ L.length) : bitsV .and .u8 x 4 = 4 := by
  have hz : L[k + 1]? = some L[k + 1] := List.getElem?_eq_getElem (by omega)
  exact ((step15 (h.at_ hx) (h.at_ hz)).1 (hh k _ _ hk hx hz)).2.1
theorem holds_most {L : List Int} (h : L15 L) {E : Nat} (hh : Holds L E) : ∀ (i : Nat) {y : Int}, i < E → L[i]? = some y → mostV (L.take (i + 1)) = y
  | 0, y, hi, hy => by
    rw [take_succ' hy, List.take_zero, List.nil_append]
    exact (step15 (h.at_ hy) (h.at_ hy)).2.2.1
  | i + 1, y, hi, hy => by
    have hl := (List.getElem?_eq_some_iff.1 hy).1
    have hz : L[i]? = some L[i] := List.getElem?_eq_getElem (by omega)
    have ih := holds_most h hh i (by omega) hz
    rw [take_succ' hy]
    have e : mostV (L.take (i + 1) ++ [y]) = bitsV .and .u8 (mostV (L.take (i + 1))) y := by simp [mostV]
    rw [e, ih]
    exact ((step15 (h.at_ hz) (h.at_ hy)).1 (hh i _ _ hi hz hy)).2.2
theorem handsV_inv : ∀ {L : List Int} {k : Nat} {e : Int}, handsV L = some (k, e) →
    ∃ x y, L[k]? = some x ∧ L[k + 1]? = some y ∧ handV x y = e ∧ e ≠ 0 ∧ ∀ (i : Nat) (x y : Int), i < k → L[i]? = some x → L[i + 1]? = some y → handV x y = 0
  | [], k, e, h => by simp [handsV] at h
  | [a], k, e, h => by simp [handsV] at h
  | a :: b :: r, k, e, h => by
    rw [handsV] at h
    split at h
    · rename_i h0
      cases h
      exact ⟨a, b, rfl, rfl, rfl, h0, fun i x y hi => by omega⟩
    · rename_i h0
      have h0 : handV a b = 0 := by simpa using h0
      cases hr : handsV (b :: r) with
      | none => rw [hr] at h; cases h
      | some p =>
        obtain ⟨k', e'⟩ := p
        rw [hr] at h
        cases h
        obtain ⟨x, y, hx, hy, h1, h2, h3⟩ := handsV_inv hr
        refine ⟨x, y, by simpa using hx, by simpa using hy, h1, h2, fun i x y hi hx hy => ?_⟩
        cases i with
        | zero => simp at hx hy; subst hx; subst hy; exact h0
        | succ i => exact h3 i x y (by simp only at hi; omega) (by simpa using hx) (by simpa using hy)
theorem handsV_inv0 : ∀ {L : List Int}, handsV L = none → ∀ (i : Nat) (x y : Int), L[i]? = some x → L[i + 1]? = some y → handV x y = 0
  | [], _, i, x, y, hx, _ => by simp at hx
  | [a], _, i, x, y, hx, hy => by simp at hy
  | a :: b :: r, h, i, x, y, hx, hy => by
    rw [handsV] at h
    split at h
    · cases h
    · rename_i h0
      have h0 : handV a b = 0 := by simpa using h0
      cases hr : handsV (b :: r) with
      | some p => rw [hr] at h; cases h
      | none =>
        cases i with
        | zero => simp at hx hy; subst hx; subst hy; exact h0
        | succ i => exact handsV_inv0 hr i x y (by simpa using hx) (by simpa using hy)
theorem chain15 {L : List Int} (h : L15 L) : (chainV L = (-1, 0) ∧ Holds L L.length) ∨
    ∃ (k : Nat) (x y : Int), chainV L = ((k : Int) + 1, 221) ∧ k + 1 < L.length ∧ L[k]? = some x ∧ L[k + 1]? = some y ∧ handV x y = 221 ∧ Holds L (k + 1) := by
  have hf : L.findIdx? (fun m => !okM [m]) = none := by
    rw [List.findIdx?_eq_none_iff]
    intro x hx
    rw [okM_lt (by have := h x hx; omega)]; rfl
  cases hr : handsV L with
  | none =>
    refine .inl ⟨by simp only [chainV, hf, hr], fun i x y _ hx hy => handsV_inv0 hr i x y hx hy⟩
  | some p =>
    obtain ⟨k, e⟩ := p
    obtain ⟨x, y, hx, hy, h1, h2, h3⟩ := handsV_inv hr
    have he : e = 221 := by
      rcases (step15 (h.at_ hx) (h.at_ hy)).2.1 with h0 | h0
      · exact absurd (h1.symm.trans h0) h2
      · exact h1.symm.trans h0
    subst he
    exact .inr ⟨k, x, y, by simp only [chainV, hf, hr], (List.getElem?_eq_some_iff.1 hy).1, hx, hy, h1, fun i x y hi hx hy => h3 i x y (by omega) hx hy⟩
def GoodL (ys : List Int) : Prop := (∀ y ∈ ys, (0 ≤ y ∧ y ≤ 15) ∧ bitsV .and .u8 y 4 = 4) ∧ ∀ (i : Nat) (x y : Int), ys[i]? = some x → ys[i + 1]? = some y → handV x y = 0
theorem GoodL.l15 {ys : List Int} (h : GoodL ys) : L15 ys := fun y hy => (h.1 y hy).1
theorem GoodL.chain {ys : List Int} (h : GoodL ys) : chainV ys = (-1, 0) := by
  rcases chain15 h.l15 with ⟨h1, _⟩ | ⟨k, x, y, _, _, hx, hy, he, _⟩
  · exact h1
  · have := h.2 k x y hx hy
    rw [he] at this
    cases this
theorem GoodL.snoc {ys : List Int} (h : GoodL ys) {z : Int} (hz : (0 ≤ z ∧ z ≤ 15) ∧ bitsV .and .u8 z 4 = 4) (hl : ∀ y, ys.getLast? = some y → handV y z = 0) : GoodL (ys ++ [z]) := by
  refine ⟨fun y hy => ?_, fun i x y hx hy => ?_⟩
  · rcases List.mem_append.1 hy with hy | hy
    · exact h.1 y hy
    · cases List.mem_singleton.1 hy
      exact hz
  · by_cases hi : i + 1 < ys.length
    · rw [List.getElem?_append_left (by omega)] at hx
      rw [List.getElem?_append_left hi] at hy
      exact h.2 i x y hx hy
    · have := (List.getElem?_eq_some_iff.1 hy).1
      simp at this
      have : i + 1 = ys.length := by omega
      rw [List.getElem?_append_left (by omega)] at hx
      rw [List.getElem?_append_right (by omega), this, Nat.sub_self] at hy
      cases hy
      refine hl x ?_
      rw [List.getLast?_eq_getElem?, ← hx]
      congr 1
      omega
theorem sl_take {I : Mem} {a : Option Addr} {n k : Nat} {bs : List Int} {kd : IntKind} (h : SlM I a n 1 (ints kd bs)) (hk : k ≤ n) : SlM I a k 1 (ints kd (bs.take k)) := by
  have hl := h.numLen
  refine ⟨by simp [ints]; omega, fun ha => by have := h.nil ha; omega, Nat.le_trans hk h.max, fun j v hj => ?_⟩
  simp only [ints, List.getElem?_map, Option.map_eq_some_iff] at hj
  obtain ⟨z, hj, rfl⟩ := hj
  rw [List.getElem?_take] at hj
  split at hj
  · exact h.at_ j _ (ints_get hj)
  · cases hj
set_option maxRecDepth 100000 in
set_option linter.unusedVariables false in
set_option maxHeartbeats 4000000 in
theorem ct4 (I : Mem) (a : Option Addr) (n c : Nat) (zs : List Int) (sl : SlM I a n 1 (ints .u8 zs)) (hc : n ≤ c) (hm : c ≤ maxLen) (hz : ∀ z ∈ zs, 0 ≤ z ∧ z ≤ 255) : Ct Try.prog (fnv 4) #[.slice a n c] I (fun v _ => v = .bool true) := by
  refine viaR (ct_via (A := { hands := [(13, [0, 1])], loops := [
    (5, ⟨[(3, .row 0), (4, .row 1), (25, .keep), (26, .keep), (27, .sh (.int .i64))], [(0, .row), (1, .row)], [(3, 1, 26), (4, 1, 26)], fun vals xss _ _ => match vals, xss with | [.int .i64 j], [xs, ys] => 0 ≤ j ∧ j ≤ imin n 40 ∧ xs = ints .u8 ((zs.take j.toNat).map (· % 16)) ∧ ∃ L, ys = ints .u8 L ∧ (L.length : Int) = j ∧ GoodL L | _, _ => False, fun vals _ => match vals with | [.int .i64 j] => (imin n 40 - j).toNat | _ => 0⟩),
    (14, ⟨[(56, .keep), (57, .keep), (58, .sh (.int .i64))], [(2, .vec)], [], fun vals xss I' _ => match vals, xss with | [.int .i64 w], [xs] => 0 ≤ w ∧ w ≤ 2 ∧ ∃ a1 n1 c1 a2 n2 c2 L1 L2, xs = [.slice a1 n1 c1, .slice a2 n2 c2] ∧ SlM I' a1 n1 1 (ints .u8 L1) ∧ SlM I' a2 n2 1 (ints .u8 L2) ∧ n1 ≤ 40 ∧ n2 ≤ 40 ∧ n1 ≤ c1 ∧ n2 ≤ c2 ∧ L15 L1 ∧ GoodL L2 | _, _ => False, fun vals _ => match vals with | [.int .i64 j] => (2 - j).toNat | _ => 0⟩),
    (25, ⟨[(9, .keep), (56, .keep), (57, .keep), (58, .keep), (108, .keep), (109, .sh (.int .i64))], [(2, .keep)], [], fun vals _ _ _ => match vals with | [.int .i64 j] => 0 ≤ j ∧ j ≤ 40 | _ => False, fun vals _ => match vals with | [.int .i64 j] => (40 - j).toNat | _ => 0⟩),
    (28, ⟨[(9, .keep), (13, .keep), (56, .keep), (57, .keep), (58, .keep), (108, .keep), (109, .keep), (112, .keep), (113, .sh (.int .i64))], [(2, .keep)], [], fun vals _ _ _ => match vals with | [.int .i64 j] => 0 ≤ j ∧ j ≤ 40 | _ => False, fun vals _ => match vals with | [.int .i64 j] => (40 - j).toNat | _ => 0⟩)] }) Try.func4 rfl Try.call4 rfl rfl) (Ct Try.prog (Value.func (Fn.func (13 : Nat)) #[] #[]) #[] I fun (v : Value) (I' : Mem) => ∃ (b : Bool), v = Value.bool b ∧ Br (!b) (Value.bool false = Value.bool true) (((0 : Int) ≤ bif false then imax (↑n : Int) (40 : Int) else imin (↑n : Int) (40 : Int)) ∧ (bif false then imax (↑n : Int) (40 : Int) else imin (↑n : Int) (40 : Int)) ≤ (↑c : Int) ∧ ((0 : Nat) = (0 : Nat) ∧ (0 : Nat) = (0 : Nat) ∧ SV.v (Value.slice a (Int.toNat (bif false then imax (↑n : Int) (40 : Int) else imin (↑n : Int) (40 : Int))) c) = SV.v (Value.slice a (Int.toNat (bif false then imax (↑n : Int) (40 : Int) else imin (↑n : Int) (40 : Int))) c) ∧ SV.v (Value.int IntKind.i64 (↑(Int.toNat (bif false then imax (↑n : Int) (40 : Int) else imin (↑n : Int) (40 : Int))) : Int)) = SV.v (Value.int IntKind.i64 (↑(Int.toNat (bif false then imax (↑n : Int) (40 : Int) else imin (↑n : Int) (40 : Int))) : Int)) ∧ (0 : Int) ≤ (0 : Int) ∧ (0 : Int) ≤ imin (↑n : Int) (40 : Int) ∧ ([] : List Value) = [] ∧ ∃ (L : List Int), [] = List.map (Value.int IntKind.u8) L ∧ (↑(List.length L) : Int) = (0 : Int) ∧ GoodL L) ∧ ∀ (I'_1 G' : Mem), Mem.le I' I'_1 → ∀ (xs xs_1 : List Value) (n_1 : Int), ((0 : Int) ≤ n_1 ∧ n_1 ≤ imin (↑n : Int) (40 : Int) ∧ xs = List.map (Value.int IntKind.u8) (List.map (fun (x : Int) => x % (16 : Int)) (List.take (Int.toNat n_1) zs)) ∧ ∃ (L : List Int), xs_1 = List.map (Value.int IntKind.u8) L ∧ (↑(List.length L) : Int) = n_1 ∧ GoodL L) → Br (decide (n_1 < (↑(Int.toNat (bif false then imax (↑n : Int) (40 : Int) else imin (↑n : Int) (40 : Int))) : Int))) ((0 : Int) ≤ n_1 ∧ n_1 < (↑(Int.toNat (bif false then imax (↑n : Int) (40 : Int) else imin (↑n : Int) (40 : Int))) : Int) ∧ Option.isSome a = true ∧ ∃ (n_2 : Int), atI I'_1 a (Int.toNat n_1 * (1 : Nat) + (0 : Nat)) = some (Value.int IntKind.u8 n_2) ∧ (16 : Int) ≠ (0 : Int) ∧ List.length xs = List.length xs * (1 : Nat) ∧ List.length xs + (1 : Nat) ≤ (9223372036854775807 : Nat) ∧ (List.length xs + (1 : Nat)) * (1 : Nat) ≤ (140737488355328 : Nat) ∧ (16 : Int) ≠ (0 : Int) ∧ Br (decide ((0 : Int) < n_1)) (Wr IntKind.i64 (n_1 - (1 : Int)) fun (c_1 : Int) => (0 : Int) ≤ c_1 ∧ c_1 < (↑(List.length xs_1) : Int) ∧ List.length xs_1 * (1 : Nat) ≤ List.length xs_1 ∧ ∃ (n_3 : Int), xs_1[Int.toNat c_1 * (1 : Nat) + (0 : Nat)]? = some (Value.int IntKind.u8 n_3) ∧ List.length xs_1 = List.length xs_1 * (1 : Nat) ∧ List.length xs_1 + (1 : Nat) ≤ (9223372036854775807 : Nat) ∧ (List.length xs_1 + (1 : Nat)) * (1 : Nat) ≤ (140737488355328 : Nat) ∧ Wr IntKind.i64 (n_1 + (1 : Int)) fun (c_2 : Int) => List.length xs + (1 : Nat) = List.length (xs ++ [Value.int IntKind.u8 (Int.tmod n_2 (16 : Int))]) ∧ List.length xs_1 + (1 : Nat) = List.length (xs_1 ++ [Value.int IntKind.u8 (bitsV BinOp.and IntKind.u8 (bitsV BinOp.or IntKind.u8 (Int.tmod n_2 (16 : Int)) (4 : Int)) n_3)]) ∧ SV.v (Value.slice a (Int.toNat (bif false then imax (↑n : Int) (40 : Int) else imin (↑n : Int) (40 : Int))) c) = SV.v (Value.slice a (Int.toNat (bif false then imax (↑n : Int) (40 : Int) else imin (↑n : Int) (40 : Int))) c) ∧ SV.v (Value.int IntKind.i64 (↑(Int.toNat (bif false then imax (↑n : Int) (40 : Int) else imin (↑n : Int) (40 : Int))) : Int)) = SV.v (Value.int IntKind.i64 (↑(Int.toNat (bif false then imax (↑n : Int) (40 : Int) else imin (↑n : Int) (40 : Int))) : Int)) ∧ ((0 : Int) ≤ c_2 ∧ c_2 ≤ imin (↑n : Int) (40 : Int) ∧ xs ++ [Value.int IntKind.u8 (Int.tmod n_2 (16 : Int))] = List.map (Value.int IntKind.u8) (List.map (fun (x : Int) => x % (16 : Int)) (List.take (Int.toNat c_2) zs)) ∧ ∃ (L : List Int), xs_1 ++ [Value.int IntKind.u8 (bitsV BinOp.and IntKind.u8 (bitsV BinOp.or IntKind.u8 (Int.tmod n_2 (16 : Int)) (4 : Int)) n_3)] = List.map (Value.int IntKind.u8) L ∧ (↑(List.length L) : Int) = c_2 ∧ GoodL L) ∧ Int.toNat (imin (↑n : Int) (40 : Int) - c_2) < Int.toNat (imin (↑n : Int) (40 : Int) - n_1)) (List.length xs_1 = List.length xs_1 * (1 : Nat) ∧ List.length xs_1 + (1 : Nat) ≤ (9223372036854775807 : Nat) ∧ (List.length xs_1 + (1 : Nat)) * (1 : Nat) ≤ (140737488355328 : Nat) ∧ Wr IntKind.i64 (n_1 + (1 : Int)) fun (c_1 : Int) => List.length xs + (1 : Nat) = List.length (xs ++ [Value.int IntKind.u8 (Int.tmod n_2 (16 : Int))]) ∧ List.length xs_1 + (1 : Nat) = List.length (xs_1 ++ [Value.int IntKind.u8 (bitsV BinOp.or IntKind.u8 (Int.tmod n_2 (16 : Int)) (4 : Int))]) ∧ SV.v (Value.slice a (Int.toNat (bif false then imax (↑n : Int) (40 : Int) else imin (↑n : Int) (40 : Int))) c) = SV.v (Value.slice a (Int.toNat (bif false then imax (↑n : Int) (40 : Int) else imin (↑n : Int) (40 : Int))) c) ∧ SV.v (Value.int IntKind.i64 (↑(Int.toNat (bif false then imax (↑n : Int) (40 : Int) else imin (↑n : Int) (40 : Int))) : Int)) = SV.v (Value.int IntKind.i64 (↑(Int.toNat (bif false then imax (↑n : Int) (40 : Int) else imin (↑n : Int) (40 : Int))) : Int)) ∧ ((0 : Int) ≤ c_1 ∧ c_1 ≤ imin (↑n : Int) (40 : Int) ∧ xs ++ [Value.int IntKind.u8 (Int.tmod n_2 (16 : Int))] = List.map (Value.int IntKind.u8) (List.map (fun (x : Int) => x % (16 : Int)) (List.take (Int.toNat c_1) zs)) ∧ ∃ (L : List Int), xs_1 ++ [Value.int IntKind.u8 (bitsV BinOp.or IntKind.u8 (Int.tmod n_2 (16 : Int)) (4 : Int))] = List.map (Value.int IntKind.u8) L ∧ (↑(List.length L) : Int) = c_1 ∧ GoodL L) ∧ Int.toNat (imin (↑n : Int) (40 : Int) - c_1) < Int.toNat (imin (↑n : Int) (40 : Int) - n_1))) (∀ (a : Option Addr) (cp : Nat) (I' : Mem), Mem.le I'_1 I' → RowM I' a cp (1 : Nat) xs → ∀ (a_5 : Option Addr) (cp_1 : Nat) (I'_2 : Mem), Mem.le I' I'_2 → RowM I'_2 a_5 cp_1 (1 : Nat) xs_1 → ((none : Option Nat) = none ∧ SV.xsl (2 : Nat) (0 : Nat) (2 : Nat) (2 : Nat) = SV.xsl (2 : Nat) (0 : Nat) (2 : Nat) (2 : Nat) ∧ SV.v (Value.int IntKind.i64 (2 : Int)) = SV.v (Value.int IntKind.i64 (2 : Int)) ∧ (0 : Int) ≤ (0 : Int) ∧ (0 : Int) ≤ (2 : Int) ∧ ∃ (a1 : Option Addr), ∃ (n1 : Nat), ∃ (c1 : Nat), ∃ (a2 : Option Addr), ∃ (n2 : Nat), ∃ (c2 : Nat), ∃ (L1 : List Int), ∃ (L2 : List Int), [Value.slice a (List.length xs) cp, Value.slice a_5 (List.length xs_1) cp_1] = [Value.slice a1 n1 c1, Value.slice a2 n2 c2] ∧ SlM I'_2 a1 n1 (1 : Nat) (List.map (Value.int IntKind.u8) L1) ∧ SlM I'_2 a2 n2 (1 : Nat) (List.map (Value.int IntKind.u8) L2) ∧ n1 ≤ (40 : Nat) ∧ n2 ≤ (40 : Nat) ∧ n1 ≤ c1 ∧ n2 ≤ c2 ∧ L15 L1 ∧ GoodL L2) ∧ ∀ (I' G' : Mem), Mem.le I'_2 I' → ∀ (xs : List Value) (n : Int), ((0 : Int) ≤ n ∧ n ≤ (2 : Int) ∧ ∃ (a1 : Option Addr), ∃ (n1 : Nat), ∃ (c1 : Nat), ∃ (a2 : Option Addr), ∃ (n2 : Nat), ∃ (c2 : Nat), ∃ (L1 : List Int), ∃ (L2 : List Int), xs = [Value.slice a1 n1 c1, Value.slice a2 n2 c2] ∧ SlM I' a1 n1 (1 : Nat) (List.map (Value.int IntKind.u8) L1) ∧ SlM I' a2 n2 (1 : Nat) (List.map (Value.int IntKind.u8) L2) ∧ n1 ≤ (40 : Nat) ∧ n2 ≤ (40 : Nat) ∧ n1 ≤ c1 ∧ n2 ≤ c2 ∧ L15 L1 ∧ GoodL L2) → Br (decide (n < (2 : Int))) ((0 : Int) ≤ n ∧ n < (2 : Int) ∧ ∃ (a : Option Addr), ∃ (n_2 : Nat), ∃ (c : Nat), xs[(0 : Nat) + Int.toNat n * (1 : Nat) + (0 : Nat)]? = some (Value.slice a n_2 c) ∧ Ct Try.prog (Value.func (Fn.func (14 : Nat)) #[] #[]) #[Value.slice a n_2 c] I' fun (v : Value) (I' : Mem) => ∃ (n_3 : Int), ∃ (n_4 : Int), v = Value.tuple #[Value.int IntKind.i64 n_3, Value.int IntKind.i64 n_4] ∧ Br (n == (1 : Int)) (Br (n_3 != (-1 : Int)) (Value.bool false = Value.bool true) (Br (n_4 != (0 : Int)) (Value.bool false = Value.bool true) (Br (n_4 == (0 : Int)) ((Ent.mk (EO.vec xs (25 : Nat)) none = Ent.mk (EO.vec xs (25 : Nat)) none ∧ SV.v (Value.slice a n_2 c) = SV.v (Value.slice a n_2 c) ∧ SV.xsl (2 : Nat) (0 : Nat) (2 : Nat) (2 : Nat) = SV.xsl (2 : Nat) (0 : Nat) (2 : Nat) (2 : Nat) ∧ SV.v (Value.int IntKind.i64 (2 : Int)) = SV.v (Value.int IntKind.i64 (2 : Int)) ∧ SV.v (Value.int IntKind.i64 n) = SV.v (Value.int IntKind.i64 n) ∧ SV.v (Value.int IntKind.i64 (↑n_2 : Int)) = SV.v (Value.int IntKind.i64 (↑n_2 : Int)) ∧ (0 : Int) ≤ (0 : Int) ∧ (0 : Int) ≤ (40 : Int)) ∧ ∀ (I'_3 G' : Mem), Mem.le I' I'_3 → ∀ (n_5 : Int), (0 : Int) ≤ n_5 ∧ n_5 ≤ (40 : Int) → Br (decide (n_5 < (↑n_2 : Int))) ((Ent.mk (EO.vec xs (25 : Nat)) none = Ent.mk (EO.vec xs (25 : Nat)) none ∧ SV.v (Value.slice a n_2 c) = SV.v (Value.slice a n_2 c) ∧ SV.v (Value.int IntKind.i64 n_5) = SV.v (Value.int IntKind.i64 n_5) ∧ SV.xsl (2 : Nat) (0 : Nat) (2 : Nat) (2 : Nat) = SV.xsl (2 : Nat) (0 : Nat) (2 : Nat) (2 : Nat) ∧ SV.v (Value.int IntKind.i64 (2 : Int)) = SV.v (Value.int IntKind.i64 (2 : Int)) ∧ SV.v (Value.int IntKind.i64 n) = SV.v (Value.int IntKind.i64 n) ∧ SV.v (Value.int IntKind.i64 (↑n_2 : Int)) = SV.v (Value.int IntKind.i64 (↑n_2 : Int)) ∧ SV.v (Value.int IntKind.i64 n_5) = SV.v (Value.int IntKind.i64 n_5) ∧ SV.v (Value.int IntKind.i64 n_5) = SV.v (Value.int IntKind.i64 n_5) ∧ (0 : Int) ≤ (0 : Int) ∧ (0 : Int) ≤ (40 : Int)) ∧ ∀ (I' G' : Mem), Mem.le I'_3 I' → ∀ (n_6 : Int), (0 : Int) ≤ n_6 ∧ n_6 ≤ (40 : Int) → Br (decide (n_6 < n_5)) ((0 : Int) ≤ n_5 ∧ n_5 < (↑n_2 : Int) ∧ Option.isSome a = true ∧ ∃ (n_7 : Int), atI I' a (Int.toNat n_5 * (1 : Nat) + (0 : Nat)) = some (Value.int IntKind.u8 n_7) ∧ (0 : Int) ≤ n_6 ∧ n_6 < (↑n_2 : Int) ∧ Option.isSome a = true ∧ ∃ (n_8 : Int), atI I' a (Int.toNat n_6 * (1 : Nat) + (0 : Nat)) = some (Value.int IntKind.u8 n_8) ∧ Ct Try.prog (Value.func (Fn.func (16 : Nat)) #[] #[]) #[Value.int IntKind.u8 n_7, Value.int IntKind.u8 n_8] I' fun (v : Value) (I' : Mem) => ∃ (b : Bool), v = Value.bool b ∧ Br (!b) (Value.bool false = Value.bool true) ((0 : Int) ≤ n_6 ∧ n_6 < (↑n_2 : Int) ∧ Option.isSome a = true ∧ ∃ (n_9 : Int), atI I' a (Int.toNat n_6 * (1 : Nat) + (0 : Nat)) = some (Value.int IntKind.u8 n_9) ∧ Br (bitsV BinOp.and IntKind.u8 n_9 (4 : Int) == (0 : Int)) (Value.bool false = Value.bool true) (Wr IntKind.i64 (n_6 + (1 : Int)) fun (c_1 : Int) => Ent.mk (EO.vec xs (25 : Nat)) none = Ent.mk (EO.vec xs (25 : Nat)) none ∧ SV.v (Value.slice a n_2 c) = SV.v (Value.slice a n_2 c) ∧ SV.v (Value.int IntKind.i64 n_5) = SV.v (Value.int IntKind.i64 n_5) ∧ SV.xsl (2 : Nat) (0 : Nat) (2 : Nat) (2 : Nat) = SV.xsl (2 : Nat) (0 : Nat) (2 : Nat) (2 : Nat) ∧ SV.v (Value.int IntKind.i64 (2 : Int)) = SV.v (Value.int IntKind.i64 (2 : Int)) ∧ SV.v (Value.int IntKind.i64 n) = SV.v (Value.int IntKind.i64 n) ∧ SV.v (Value.int IntKind.i64 (↑n_2 : Int)) = SV.v (Value.int IntKind.i64 (↑n_2 : Int)) ∧ SV.v (Value.int IntKind.i64 n_5) = SV.v (Value.int IntKind.i64 n_5) ∧ SV.v (Value.int IntKind.i64 n_5) = SV.v (Value.int IntKind.i64 n_5) ∧ ((0 : Int) ≤ c_1 ∧ c_1 ≤ (40 : Int)) ∧ Int.toNat ((40 : Int) - c_1) < Int.toNat ((40 : Int) - n_6)))) (Wr IntKind.i64 (n_5 + (1 : Int)) fun (c_1 : Int) => (0 : Int) ≤ c_1 ∧ c_1 ≤ (↑c : Int) ∧ Ct Try.prog (Value.func (Fn.func (17 : Nat)) #[] #[]) #[Value.slice a (Int.toNat c_1) c] I' fun (v : Value) (I' : Mem) => ∃ (n_7 : Int), ∃ (n_8 : Int), v = Value.tuple #[Value.int IntKind.u8 n_7, Value.int IntKind.i64 n_8] ∧ (0 : Int) ≤ n_5 ∧ n_5 < (↑n_2 : Int) ∧ Option.isSome a = true ∧ ∃ (n_9 : Int), atI I' a (Int.toNat n_5 * (1 : Nat) + (0 : Nat)) = some (Value.int IntKind.u8 n_9) ∧ Br (n_7 != n_9) (Value.bool false = Value.bool true) (Br (n_8 != (0 : Int)) (Value.bool false = Value.bool true) (Wr IntKind.i64 (n_5 + (1 : Int)) fun (c_2 : Int) => Ent.mk (EO.vec xs (25 : Nat)) none = Ent.mk (EO.vec xs (25 : Nat)) none ∧ SV.v (Value.slice a n_2 c) = SV.v (Value.slice a n_2 c) ∧ SV.xsl (2 : Nat) (0 : Nat) (2 : Nat) (2 : Nat) = SV.xsl (2 : Nat) (0 : Nat) (2 : Nat) (2 : Nat) ∧ SV.v (Value.int IntKind.i64 (2 : Int)) = SV.v (Value.int IntKind.i64 (2 : Int)) ∧ SV.v (Value.int IntKind.i64 n) = SV.v (Value.int IntKind.i64 n) ∧ SV.v (Value.int IntKind.i64 (↑n_2 : Int)) = SV.v (Value.int IntKind.i64 (↑n_2 : Int)) ∧ ((0 : Int) ≤ c_2 ∧ c_2 ≤ (40 : Int)) ∧ Int.toNat ((40 : Int) - c_2) < Int.toNat ((40 : Int) - n_5))))) (Wr IntKind.i64 (n + (1 : Int)) fun (c : Int) => (none : Option Nat) = none ∧ SV.xsl (2 : Nat) (0 : Nat) (2 : Nat) (2 : Nat) = SV.xsl (2 : Nat) (0 : Nat) (2 : Nat) (2 : Nat) ∧ SV.v (Value.int IntKind.i64 (2 : Int)) = SV.v (Value.int IntKind.i64 (2 : Int)) ∧ ((0 : Int) ≤ c ∧ c ≤ (2 : Int) ∧ ∃ (a1 : Option Addr), ∃ (n1 : Nat), ∃ (c1 : Nat), ∃ (a2 : Option Addr), ∃ (n2 : Nat), ∃ (c2 : Nat), ∃ (L1 : List Int), ∃ (L2 : List Int), xs = [Value.slice a1 n1 c1, Value.slice a2 n2 c2] ∧ SlM I'_3 a1 n1 (1 : Nat) (List.map (Value.int IntKind.u8) L1) ∧ SlM I'_3 a2 n2 (1 : Nat) (List.map (Value.int IntKind.u8) L2) ∧ n1 ≤ (40 : Nat) ∧ n2 ≤ (40 : Nat) ∧ n1 ≤ c1 ∧ n2 ≤ c2 ∧ L15 L1 ∧ GoodL L2) ∧ Int.toNat ((2 : Int) - c) < Int.toNat ((2 : Int) - n))) (Br (n_4 != (221 : Int)) (Value.bool false = Value.bool true) (Br (decide (n_3 < (1 : Int))) (Value.bool false = Value.bool true) (Br (decide ((↑n_2 : Int) ≤ n_3)) (Value.bool false = Value.bool true) (Wr IntKind.i64 (n_3 - (1 : Int)) fun (c_1 : Int) => (0 : Int) ≤ c_1 ∧ c_1 < (↑n_2 : Int) ∧ Option.isSome a = true ∧ ∃ (n_5 : Int), atI I' a (Int.toNat c_1 * (1 : Nat) + (0 : Nat)) = some (Value.int IntKind.u8 n_5) ∧ (0 : Int) ≤ n_3 ∧ n_3 < (↑n_2 : Int) ∧ Option.isSome a = true ∧ ∃ (n_6 : Int), atI I' a (Int.toNat n_3 * (1 : Nat) + (0 : Nat)) = some (Value.int IntKind.u8 n_6) ∧ Ct Try.prog (Value.func (Fn.func (15 : Nat)) #[] #[]) #[Value.int IntKind.u8 n_5, Value.int IntKind.u8 n_6] I' fun (v : Value) (I' : Mem) => ∃ (n_7 : Int), v = Value.int IntKind.i64 n_7 ∧ Br (n_7 != (221 : Int)) (Value.bool false = Value.bool true) ((Ent.mk (EO.vec xs (25 : Nat)) none = Ent.mk (EO.vec xs (25 : Nat)) none ∧ SV.v (Value.slice a n_2 c) = SV.v (Value.slice a n_2 c) ∧ SV.xsl (2 : Nat) (0 : Nat) (2 : Nat) (2 : Nat) = SV.xsl (2 : Nat) (0 : Nat) (2 : Nat) (2 : Nat) ∧ SV.v (Value.int IntKind.i64 (2 : Int)) = SV.v (Value.int IntKind.i64 (2 : Int)) ∧ SV.v (Value.int IntKind.i64 n) = SV.v (Value.int IntKind.i64 n) ∧ SV.v (Value.int IntKind.i64 n_3) = SV.v (Value.int IntKind.i64 n_3) ∧ (0 : Int) ≤ (0 : Int) ∧ (0 : Int) ≤ (40 : Int)) ∧ ∀ (I'_3 G' : Mem), Mem.le I' I'_3 → ∀ (n_8 : Int), (0 : Int) ≤ n_8 ∧ n_8 ≤ (40 : Int) → Br (decide (n_8 < n_3)) ((Ent.mk (EO.vec xs (25 : Nat)) none = Ent.mk (EO.vec xs (25 : Nat)) none ∧ SV.v (Value.slice a n_2 c) = SV.v (Value.slice a n_2 c) ∧ SV.v (Value.int IntKind.i64 n_8) = SV.v (Value.int IntKind.i64 n_8) ∧ SV.xsl (2 : Nat) (0 : Nat) (2 : Nat) (2 : Nat) = SV.xsl (2 : Nat) (0 : Nat) (2 : Nat) (2 : Nat) ∧ SV.v (Value.int IntKind.i64 (2 : Int)) = SV.v (Value.int IntKind.i64 (2 : Int)) ∧ SV.v (Value.int IntKind.i64 n) = SV.v (Value.int IntKind.i64 n) ∧ SV.v (Value.int IntKind.i64 n_3) = SV.v (Value.int IntKind.i64 n_3) ∧ SV.v (Value.int IntKind.i64 n_8) = SV.v (Value.int IntKind.i64 n_8) ∧ SV.v (Value.int IntKind.i64 n_8) = SV.v (Value.int IntKind.i64 n_8) ∧ (0 : Int) ≤ (0 : Int) ∧ (0 : Int) ≤ (40 : Int)) ∧ ∀ (I' G' : Mem), Mem.le I'_3 I' → ∀ (n_9 : Int), (0 : Int) ≤ n_9 ∧ n_9 ≤ (40 : Int) → Br (decide (n_9 < n_8)) ((0 : Int) ≤ n_8 ∧ n_8 < (↑n_2 : Int) ∧ Option.isSome a = true ∧ ∃ (n_10 : Int), atI I' a (Int.toNat n_8 * (1 : Nat) + (0 : Nat)) = some (Value.int IntKind.u8 n_10) ∧ (0 : Int) ≤ n_9 ∧ n_9 < (↑n_2 : Int) ∧ Option.isSome a = true ∧ ∃ (n_11 : Int), atI I' a (Int.toNat n_9 * (1 : Nat) + (0 : Nat)) = some (Value.int IntKind.u8 n_11) ∧ Ct Try.prog (Value.func (Fn.func (16 : Nat)) #[] #[]) #[Value.int IntKind.u8 n_10, Value.int IntKind.u8 n_11] I' fun (v : Value) (I' : Mem) => ∃ (b : Bool), v = Value.bool b ∧ Br (!b) (Value.bool false = Value.bool true) ((0 : Int) ≤ n_9 ∧ n_9 < (↑n_2 : Int) ∧ Option.isSome a = true ∧ ∃ (n_12 : Int), atI I' a (Int.toNat n_9 * (1 : Nat) + (0 : Nat)) = some (Value.int IntKind.u8 n_12) ∧ Br (bitsV BinOp.and IntKind.u8 n_12 (4 : Int) == (0 : Int)) (Value.bool false = Value.bool true) (Wr IntKind.i64 (n_9 + (1 : Int)) fun (c_2 : Int) => Ent.mk (EO.vec xs (25 : Nat)) none = Ent.mk (EO.vec xs (25 : Nat)) none ∧ SV.v (Value.slice a n_2 c) = SV.v (Value.slice a n_2 c) ∧ SV.v (Value.int IntKind.i64 n_8) = SV.v (Value.int IntKind.i64 n_8) ∧ SV.xsl (2 : Nat) (0 : Nat) (2 : Nat) (2 : Nat) = SV.xsl (2 : Nat) (0 : Nat) (2 : Nat) (2 : Nat) ∧ SV.v (Value.int IntKind.i64 (2 : Int)) = SV.v (Value.int IntKind.i64 (2 : Int)) ∧ SV.v (Value.int IntKind.i64 n) = SV.v (Value.int IntKind.i64 n) ∧ SV.v (Value.int IntKind.i64 n_3) = SV.v (Value.int IntKind.i64 n_3) ∧ SV.v (Value.int IntKind.i64 n_8) = SV.v (Value.int IntKind.i64 n_8) ∧ SV.v (Value.int IntKind.i64 n_8) = SV.v (Value.int IntKind.i64 n_8) ∧ ((0 : Int) ≤ c_2 ∧ c_2 ≤ (40 : Int)) ∧ Int.toNat ((40 : Int) - c_2) < Int.toNat ((40 : Int) - n_9)))) (Wr IntKind.i64 (n_8 + (1 : Int)) fun (c_2 : Int) => (0 : Int) ≤ c_2 ∧ c_2 ≤ (↑c : Int) ∧ Ct Try.prog (Value.func (Fn.func (17 : Nat)) #[] #[]) #[Value.slice a (Int.toNat c_2) c] I' fun (v : Value) (I' : Mem) => ∃ (n_10 : Int), ∃ (n_11 : Int), v = Value.tuple #[Value.int IntKind.u8 n_10, Value.int IntKind.i64 n_11] ∧ (0 : Int) ≤ n_8 ∧ n_8 < (↑n_2 : Int) ∧ Option.isSome a = true ∧ ∃ (n_12 : Int), atI I' a (Int.toNat n_8 * (1 : Nat) + (0 : Nat)) = some (Value.int IntKind.u8 n_12) ∧ Br (n_10 != n_12) (Value.bool false = Value.bool true) (Br (n_11 != (0 : Int)) (Value.bool false = Value.bool true) (Wr IntKind.i64 (n_8 + (1 : Int)) fun (c_3 : Int) => Ent.mk (EO.vec xs (25 : Nat)) none = Ent.mk (EO.vec xs (25 : Nat)) none ∧ SV.v (Value.slice a n_2 c) = SV.v (Value.slice a n_2 c) ∧ SV.xsl (2 : Nat) (0 : Nat) (2 : Nat) (2 : Nat) = SV.xsl (2 : Nat) (0 : Nat) (2 : Nat) (2 : Nat) ∧ SV.v (Value.int IntKind.i64 (2 : Int)) = SV.v (Value.int IntKind.i64 (2 : Int)) ∧ SV.v (Value.int IntKind.i64 n) = SV.v (Value.int IntKind.i64 n) ∧ SV.v (Value.int IntKind.i64 n_3) = SV.v (Value.int IntKind.i64 n_3) ∧ ((0 : Int) ≤ c_3 ∧ c_3 ≤ (40 : Int)) ∧ Int.toNat ((40 : Int) - c_3) < Int.toNat ((40 : Int) - n_8))))) (Wr IntKind.i64 (n + (1 : Int)) fun (c : Int) => (none : Option Nat) = none ∧ SV.xsl (2 : Nat) (0 : Nat) (2 : Nat) (2 : Nat) = SV.xsl (2 : Nat) (0 : Nat) (2 : Nat) (2 : Nat) ∧ SV.v (Value.int IntKind.i64 (2 : Int)) = SV.v (Value.int IntKind.i64 (2 : Int)) ∧ ((0 : Int) ≤ c ∧ c ≤ (2 : Int) ∧ ∃ (a1 : Option Addr), ∃ (n1 : Nat), ∃ (c1 : Nat), ∃ (a2 : Option Addr), ∃ (n2 : Nat), ∃ (c2 : Nat), ∃ (L1 : List Int), ∃ (L2 : List Int), xs = [Value.slice a1 n1 c1, Value.slice a2 n2 c2] ∧ SlM I'_3 a1 n1 (1 : Nat) (List.map (Value.int IntKind.u8) L1) ∧ SlM I'_3 a2 n2 (1 : Nat) (List.map (Value.int IntKind.u8) L2) ∧ n1 ≤ (40 : Nat) ∧ n2 ≤ (40 : Nat) ∧ n1 ≤ c1 ∧ n2 ≤ c2 ∧ L15 L1 ∧ GoodL L2) ∧ Int.toNat ((2 : Int) - c) < Int.toNat ((2 : Int) - n)))))))))) (Br (n_4 == (0 : Int)) ((Ent.mk (EO.vec xs (25 : Nat)) none = Ent.mk (EO.vec xs (25 : Nat)) none ∧ SV.v (Value.slice a n_2 c) = SV.v (Value.slice a n_2 c) ∧ SV.xsl (2 : Nat) (0 : Nat) (2 : Nat) (2 : Nat) = SV.xsl (2 : Nat) (0 : Nat) (2 : Nat) (2 : Nat) ∧ SV.v (Value.int IntKind.i64 (2 : Int)) = SV.v (Value.int IntKind.i64 (2 : Int)) ∧ SV.v (Value.int IntKind.i64 n) = SV.v (Value.int IntKind.i64 n) ∧ SV.v (Value.int IntKind.i64 (↑n_2 : Int)) = SV.v (Value.int IntKind.i64 (↑n_2 : Int)) ∧ (0 : Int) ≤ (0 : Int) ∧ (0 : Int) ≤ (40 : Int)) ∧ ∀ (I'_3 G' : Mem), Mem.le I' I'_3 → ∀ (n_5 : Int), (0 : Int) ≤ n_5 ∧ n_5 ≤ (40 : Int) → Br (decide (n_5 < (↑n_2 : Int))) ((Ent.mk (EO.vec xs (25 : Nat)) none = Ent.mk (EO.vec xs (25 : Nat)) none ∧ SV.v (Value.slice a n_2 c) = SV.v (Value.slice a n_2 c) ∧ SV.v (Value.int IntKind.i64 n_5) = SV.v (Value.int IntKind.i64 n_5) ∧ SV.xsl (2 : Nat) (0 : Nat) (2 : Nat) (2 : Nat) = SV.xsl (2 : Nat) (0 : Nat) (2 : Nat) (2 : Nat) ∧ SV.v (Value.int IntKind.i64 (2 : Int)) = SV.v (Value.int IntKind.i64 (2 : Int)) ∧ SV.v (Value.int IntKind.i64 n) = SV.v (Value.int IntKind.i64 n) ∧ SV.v (Value.int IntKind.i64 (↑n_2 : Int)) = SV.v (Value.int IntKind.i64 (↑n_2 : Int)) ∧ SV.v (Value.int IntKind.i64 n_5) = SV.v (Value.int IntKind.i64 n_5) ∧ SV.v (Value.int IntKind.i64 n_5) = SV.v (Value.int IntKind.i64 n_5) ∧ (0 : Int) ≤ (0 : Int) ∧ (0 : Int) ≤ (40 : Int)) ∧ ∀ (I' G' : Mem), Mem.le I'_3 I' → ∀ (n_6 : Int), (0 : Int) ≤ n_6 ∧ n_6 ≤ (40 : Int) → Br (decide (n_6 < n_5)) ((0 : Int) ≤ n_5 ∧ n_5 < (↑n_2 : Int) ∧ Option.isSome a = true ∧ ∃ (n_7 : Int), atI I' a (Int.toNat n_5 * (1 : Nat) + (0 : Nat)) = some (Value.int IntKind.u8 n_7) ∧ (0 : Int) ≤ n_6 ∧ n_6 < (↑n_2 : Int) ∧ Option.isSome a = true ∧ ∃ (n_8 : Int), atI I' a (Int.toNat n_6 * (1 : Nat) + (0 : Nat)) = some (Value.int IntKind.u8 n_8) ∧ Ct Try.prog (Value.func (Fn.func (16 : Nat)) #[] #[]) #[Value.int IntKind.u8 n_7, Value.int IntKind.u8 n_8] I' fun (v : Value) (I' : Mem) => ∃ (b : Bool), v = Value.bool b ∧ Br (!b) (Value.bool false = Value.bool true) ((0 : Int) ≤ n_6 ∧ n_6 < (↑n_2 : Int) ∧ Option.isSome a = true ∧ ∃ (n_9 : Int), atI I' a (Int.toNat n_6 * (1 : Nat) + (0 : Nat)) = some (Value.int IntKind.u8 n_9) ∧ Br (bitsV BinOp.and IntKind.u8 n_9 (4 : Int) == (0 : Int)) (Value.bool false = Value.bool true) (Wr IntKind.i64 (n_6 + (1 : Int)) fun (c_1 : Int) => Ent.mk (EO.vec xs (25 : Nat)) none = Ent.mk (EO.vec xs (25 : Nat)) none ∧ SV.v (Value.slice a n_2 c) = SV.v (Value.slice a n_2 c) ∧ SV.v (Value.int IntKind.i64 n_5) = SV.v (Value.int IntKind.i64 n_5) ∧ SV.xsl (2 : Nat) (0 : Nat) (2 : Nat) (2 : Nat) = SV.xsl (2 : Nat) (0 : Nat) (2 : Nat) (2 : Nat) ∧ SV.v (Value.int IntKind.i64 (2 : Int)) = SV.v (Value.int IntKind.i64 (2 : Int)) ∧ SV.v (Value.int IntKind.i64 n) = SV.v (Value.int IntKind.i64 n) ∧ SV.v (Value.int IntKind.i64 (↑n_2 : Int)) = SV.v (Value.int IntKind.i64 (↑n_2 : Int)) ∧ SV.v (Value.int IntKind.i64 n_5) = SV.v (Value.int IntKind.i64 n_5) ∧ SV.v (Value.int IntKind.i64 n_5) = SV.v (Value.int IntKind.i64 n_5) ∧ ((0 : Int) ≤ c_1 ∧ c_1 ≤ (40 : Int)) ∧ Int.toNat ((40 : Int) - c_1) < Int.toNat ((40 : Int) - n_6)))) (Wr IntKind.i64 (n_5 + (1 : Int)) fun (c_1 : Int) => (0 : Int) ≤ c_1 ∧ c_1 ≤ (↑c : Int) ∧ Ct Try.prog (Value.func (Fn.func (17 : Nat)) #[] #[]) #[Value.slice a (Int.toNat c_1) c] I' fun (v : Value) (I' : Mem) => ∃ (n_7 : Int), ∃ (n_8 : Int), v = Value.tuple #[Value.int IntKind.u8 n_7, Value.int IntKind.i64 n_8] ∧ (0 : Int) ≤ n_5 ∧ n_5 < (↑n_2 : Int) ∧ Option.isSome a = true ∧ ∃ (n_9 : Int), atI I' a (Int.toNat n_5 * (1 : Nat) + (0 : Nat)) = some (Value.int IntKind.u8 n_9) ∧ Br (n_7 != n_9) (Value.bool false = Value.bool true) (Br (n_8 != (0 : Int)) (Value.bool false = Value.bool true) (Wr IntKind.i64 (n_5 + (1 : Int)) fun (c_2 : Int) => Ent.mk (EO.vec xs (25 : Nat)) none = Ent.mk (EO.vec xs (25 : Nat)) none ∧ SV.v (Value.slice a n_2 c) = SV.v (Value.slice a n_2 c) ∧ SV.xsl (2 : Nat) (0 : Nat) (2 : Nat) (2 : Nat) = SV.xsl (2 : Nat) (0 : Nat) (2 : Nat) (2 : Nat) ∧ SV.v (Value.int IntKind.i64 (2 : Int)) = SV.v (Value.int IntKind.i64 (2 : Int)) ∧ SV.v (Value.int IntKind.i64 n) = SV.v (Value.int IntKind.i64 n) ∧ SV.v (Value.int IntKind.i64 (↑n_2 : Int)) = SV.v (Value.int IntKind.i64 (↑n_2 : Int)) ∧ ((0 : Int) ≤ c_2 ∧ c_2 ≤ (40 : Int)) ∧ Int.toNat ((40 : Int) - c_2) < Int.toNat ((40 : Int) - n_5))))) (Wr IntKind.i64 (n + (1 : Int)) fun (c : Int) => (none : Option Nat) = none ∧ SV.xsl (2 : Nat) (0 : Nat) (2 : Nat) (2 : Nat) = SV.xsl (2 : Nat) (0 : Nat) (2 : Nat) (2 : Nat) ∧ SV.v (Value.int IntKind.i64 (2 : Int)) = SV.v (Value.int IntKind.i64 (2 : Int)) ∧ ((0 : Int) ≤ c ∧ c ≤ (2 : Int) ∧ ∃ (a1 : Option Addr), ∃ (n1 : Nat), ∃ (c1 : Nat), ∃ (a2 : Option Addr), ∃ (n2 : Nat), ∃ (c2 : Nat), ∃ (L1 : List Int), ∃ (L2 : List Int), xs = [Value.slice a1 n1 c1, Value.slice a2 n2 c2] ∧ SlM I'_3 a1 n1 (1 : Nat) (List.map (Value.int IntKind.u8) L1) ∧ SlM I'_3 a2 n2 (1 : Nat) (List.map (Value.int IntKind.u8) L2) ∧ n1 ≤ (40 : Nat) ∧ n2 ≤ (40 : Nat) ∧ n1 ≤ c1 ∧ n2 ≤ c2 ∧ L15 L1 ∧ GoodL L2) ∧ Int.toNat ((2 : Int) - c) < Int.toNat ((2 : Int) - n))) (Br (n_4 != (221 : Int)) (Value.bool false = Value.bool true) (Br (decide (n_3 < (1 : Int))) (Value.bool false = Value.bool true) (Br (decide ((↑n_2 : Int) ≤ n_3)) (Value.bool false = Value.bool true) (Wr IntKind.i64 (n_3 - (1 : Int)) fun (c_1 : Int) => (0 : Int) ≤ c_1 ∧ c_1 < (↑n_2 : Int) ∧ Option.isSome a = true ∧ ∃ (n_5 : Int), atI I' a (Int.toNat c_1 * (1 : Nat) + (0 : Nat)) = some (Value.int IntKind.u8 n_5) ∧ (0 : Int) ≤ n_3 ∧ n_3 < (↑n_2 : Int) ∧ Option.isSome a = true ∧ ∃ (n_6 : Int), atI I' a (Int.toNat n_3 * (1 : Nat) + (0 : Nat)) = some (Value.int IntKind.u8 n_6) ∧ Ct Try.prog (Value.func (Fn.func (15 : Nat)) #[] #[]) #[Value.int IntKind.u8 n_5, Value.int IntKind.u8 n_6] I' fun (v : Value) (I' : Mem) => ∃ (n_7 : Int), v = Value.int IntKind.i64 n_7 ∧ Br (n_7 != (221 : Int)) (Value.bool false = Value.bool true) ((Ent.mk (EO.vec xs (25 : Nat)) none = Ent.mk (EO.vec xs (25 : Nat)) none ∧ SV.v (Value.slice a n_2 c) = SV.v (Value.slice a n_2 c) ∧ SV.xsl (2 : Nat) (0 : Nat) (2 : Nat) (2 : Nat) = SV.xsl (2 : Nat) (0 : Nat) (2 : Nat) (2 : Nat) ∧ SV.v (Value.int IntKind.i64 (2 : Int)) = SV.v (Value.int IntKind.i64 (2 : Int)) ∧ SV.v (Value.int IntKind.i64 n) = SV.v (Value.int IntKind.i64 n) ∧ SV.v (Value.int IntKind.i64 n_3) = SV.v (Value.int IntKind.i64 n_3) ∧ (0 : Int) ≤ (0 : Int) ∧ (0 : Int) ≤ (40 : Int)) ∧ ∀ (I'_3 G' : Mem), Mem.le I' I'_3 → ∀ (n_8 : Int), (0 : Int) ≤ n_8 ∧ n_8 ≤ (40 : Int) → Br (decide (n_8 < n_3)) ((Ent.mk (EO.vec xs (25 : Nat)) none = Ent.mk (EO.vec xs (25 : Nat)) none ∧ SV.v (Value.slice a n_2 c) = SV.v (Value.slice a n_2 c) ∧ SV.v (Value.int IntKind.i64 n_8) = SV.v (Value.int IntKind.i64 n_8) ∧ SV.xsl (2 : Nat) (0 : Nat) (2 : Nat) (2 : Nat) = SV.xsl (2 : Nat) (0 : Nat) (2 : Nat) (2 : Nat) ∧ SV.v (Value.int IntKind.i64 (2 : Int)) = SV.v (Value.int IntKind.i64 (2 : Int)) ∧ SV.v (Value.int IntKind.i64 n) = SV.v (Value.int IntKind.i64 n) ∧ SV.v (Value.int IntKind.i64 n_3) = SV.v (Value.int IntKind.i64 n_3) ∧ SV.v (Value.int IntKind.i64 n_8) = SV.v (Value.int IntKind.i64 n_8) ∧ SV.v (Value.int IntKind.i64 n_8) = SV.v (Value.int IntKind.i64 n_8) ∧ (0 : Int) ≤ (0 : Int) ∧ (0 : Int) ≤ (40 : Int)) ∧ ∀ (I' G' : Mem), Mem.le I'_3 I' → ∀ (n_9 : Int), (0 : Int) ≤ n_9 ∧ n_9 ≤ (40 : Int) → Br (decide (n_9 < n_8)) ((0 : Int) ≤ n_8 ∧ n_8 < (↑n_2 : Int) ∧ Option.isSome a = true ∧ ∃ (n_10 : Int), atI I' a (Int.toNat n_8 * (1 : Nat) + (0 : Nat)) = some (Value.int IntKind.u8 n_10) ∧ (0 : Int) ≤ n_9 ∧ n_9 < (↑n_2 : Int) ∧ Option.isSome a = true ∧ ∃ (n_11 : Int), atI I' a (Int.toNat n_9 * (1 : Nat) + (0 : Nat)) = some (Value.int IntKind.u8 n_11) ∧ Ct Try.prog (Value.func (Fn.func (16 : Nat)) #[] #[]) #[Value.int IntKind.u8 n_10, Value.int IntKind.u8 n_11] I' fun (v : Value) (I' : Mem) => ∃ (b : Bool), v = Value.bool b ∧ Br (!b) (Value.bool false = Value.bool true) ((0 : Int) ≤ n_9 ∧ n_9 < (↑n_2 : Int) ∧ Option.isSome a = true ∧ ∃ (n_12 : Int), atI I' a (Int.toNat n_9 * (1 : Nat) + (0 : Nat)) = some (Value.int IntKind.u8 n_12) ∧ Br (bitsV BinOp.and IntKind.u8 n_12 (4 : Int) == (0 : Int)) (Value.bool false = Value.bool true) (Wr IntKind.i64 (n_9 + (1 : Int)) fun (c_2 : Int) => Ent.mk (EO.vec xs (25 : Nat)) none = Ent.mk (EO.vec xs (25 : Nat)) none ∧ SV.v (Value.slice a n_2 c) = SV.v (Value.slice a n_2 c) ∧ SV.v (Value.int IntKind.i64 n_8) = SV.v (Value.int IntKind.i64 n_8) ∧ SV.xsl (2 : Nat) (0 : Nat) (2 : Nat) (2 : Nat) = SV.xsl (2 : Nat) (0 : Nat) (2 : Nat) (2 : Nat) ∧ SV.v (Value.int IntKind.i64 (2 : Int)) = SV.v (Value.int IntKind.i64 (2 : Int)) ∧ SV.v (Value.int IntKind.i64 n) = SV.v (Value.int IntKind.i64 n) ∧ SV.v (Value.int IntKind.i64 n_3) = SV.v (Value.int IntKind.i64 n_3) ∧ SV.v (Value.int IntKind.i64 n_8) = SV.v (Value.int IntKind.i64 n_8) ∧ SV.v (Value.int IntKind.i64 n_8) = SV.v (Value.int IntKind.i64 n_8) ∧ ((0 : Int) ≤ c_2 ∧ c_2 ≤ (40 : Int)) ∧ Int.toNat ((40 : Int) - c_2) < Int.toNat ((40 : Int) - n_9)))) (Wr IntKind.i64 (n_8 + (1 : Int)) fun (c_2 : Int) => (0 : Int) ≤ c_2 ∧ c_2 ≤ (↑c : Int) ∧ Ct Try.prog (Value.func (Fn.func (17 : Nat)) #[] #[]) #[Value.slice a (Int.toNat c_2) c] I' fun (v : Value) (I' : Mem) => ∃ (n_10 : Int), ∃ (n_11 : Int), v = Value.tuple #[Value.int IntKind.u8 n_10, Value.int IntKind.i64 n_11] ∧ (0 : Int) ≤ n_8 ∧ n_8 < (↑n_2 : Int) ∧ Option.isSome a = true ∧ ∃ (n_12 : Int), atI I' a (Int.toNat n_8 * (1 : Nat) + (0 : Nat)) = some (Value.int IntKind.u8 n_12) ∧ Br (n_10 != n_12) (Value.bool false = Value.bool true) (Br (n_11 != (0 : Int)) (Value.bool false = Value.bool true) (Wr IntKind.i64 (n_8 + (1 : Int)) fun (c_3 : Int) => Ent.mk (EO.vec xs (25 : Nat)) none = Ent.mk (EO.vec xs (25 : Nat)) none ∧ SV.v (Value.slice a n_2 c) = SV.v (Value.slice a n_2 c) ∧ SV.xsl (2 : Nat) (0 : Nat) (2 : Nat) (2 : Nat) = SV.xsl (2 : Nat) (0 : Nat) (2 : Nat) (2 : Nat) ∧ SV.v (Value.int IntKind.i64 (2 : Int)) = SV.v (Value.int IntKind.i64 (2 : Int)) ∧ SV.v (Value.int IntKind.i64 n) = SV.v (Value.int IntKind.i64 n) ∧ SV.v (Value.int IntKind.i64 n_3) = SV.v (Value.int IntKind.i64 n_3) ∧ ((0 : Int) ≤ c_3 ∧ c_3 ≤ (40 : Int)) ∧ Int.toNat ((40 : Int) - c_3) < Int.toNat ((40 : Int) - n_8))))) (Wr IntKind.i64 (n + (1 : Int)) fun (c : Int) => (none : Option Nat) = none ∧ SV.xsl (2 : Nat) (0 : Nat) (2 : Nat) (2 : Nat) = SV.xsl (2 : Nat) (0 : Nat) (2 : Nat) (2 : Nat) ∧ SV.v (Value.int IntKind.i64 (2 : Int)) = SV.v (Value.int IntKind.i64 (2 : Int)) ∧ ((0 : Int) ≤ c ∧ c ≤ (2 : Int) ∧ ∃ (a1 : Option Addr), ∃ (n1 : Nat), ∃ (c1 : Nat), ∃ (a2 : Option Addr), ∃ (n2 : Nat), ∃ (c2 : Nat), ∃ (L1 : List Int), ∃ (L2 : List Int), xs = [Value.slice a1 n1 c1, Value.slice a2 n2 c2] ∧ SlM I'_3 a1 n1 (1 : Nat) (List.map (Value.int IntKind.u8) L1) ∧ SlM I'_3 a2 n2 (1 : Nat) (List.map (Value.int IntKind.u8) L2) ∧ n1 ≤ (40 : Nat) ∧ n2 ≤ (40 : Nat) ∧ n1 ≤ c1 ∧ n2 ≤ c2 ∧ L15 L1 ∧ GoodL L2) ∧ Int.toNat ((2 : Int) - c) < Int.toNat ((2 : Int) - n))))))))) (Ct Try.prog (Value.func (Fn.func (17 : Nat)) #[] #[]) #[Value.slice none (0 : Nat) (0 : Nat)] I' fun (v : Value) (I' : Mem) => ∃ (n : Int), ∃ (n_2 : Int), v = Value.tuple #[Value.int IntKind.u8 n, Value.int IntKind.i64 n_2] ∧ Br (n == (15 : Int)) (Value.bool (n_2 == (0 : Int)) = Value.bool true) (Value.bool false = Value.bool true))))) (by kernel_rfl) ?_
  simp only [cond_false, eq_self, true_and]
  have hn := sl.numLen
  have hN : imin (n : Int) 40 = ((min zs.length 40 : Nat) : Int) := by unfold imin; split <;> omega
  have hN2 : min zs.length 40 ≤ 40 ∧ min zs.length 40 ≤ n := by omega
  rw [hN]
  generalize min zs.length 40 = N at hN hN2 ⊢
  refine (ct13 I).mono fun v I0 l0 hv => ⟨_, hv, Br.f rfl ⟨by omega, by omega, ⟨by omega, by omega, [], rfl, rfl, ⟨fun y hy => (by cases hy), fun i x y hx => by simp at hx⟩⟩, fun I1 _ l1 xs ys j ⟨h0, h1, h2, L, h3, h4, h5⟩ => Br.mk (fun hlt => ?_) (fun hge => ?_)⟩⟩
  · have hlt := of_decide_eq_true hlt
    obtain ⟨x, hx, hat⟩ := (sl.mono (Mem.le_trans l0 l1)).intAt h0 (by omega)
    have hxr := hz _ (List.mem_of_getElem? hx)
    have hmod : x.tmod 16 = x % 16 := Int.tmod_eq_emod_of_nonneg hxr.1
    have hxl : xs.length ≤ 40 := by subst h2; simp; omega
    have hyl : ys.length = j.toNat := by subst h3; simp; omega
    have hm15 : 0 ≤ x % 16 ∧ x % 16 ≤ 15 := by omega
    have hor := (step15 hm15 hm15).2.2.2.2
    have hxs : xs ++ [Value.int IntKind.u8 (x % 16)] = List.map (Value.int IntKind.u8) (List.map (fun x => x % 16) (List.take (j + 1).toNat zs)) := by
      rw [show (j + 1).toNat = j.toNat + 1 by omega, take_succ' hx, h2]; simp
    refine ⟨h0, by omega, sl.isSome (by omega), x, hat, ?_⟩
    rw [hmod]
    refine ⟨by decide, by omega, by omega, by omega, by decide, Br.mk (fun hp => ?_) (fun hp => ?_)⟩
    · have hp := of_decide_eq_true hp
      have hz' : L[(j - 1).toNat]? = some L[(j - 1).toNat] := List.getElem?_eq_getElem (by omega)
      have hyr := h5.1 _ (List.mem_of_getElem? hz')
      have hlast : L.getLast? = some L[(j - 1).toNat] := by rw [List.getLast?_eq_getElem?, show L.length - 1 = (j - 1).toNat by omega]; exact hz'
      have hs := (step15 hm15 hyr.1).2.2.2.2.2.2.2 hyr.2
      generalize L[(j - 1).toNat] = y at *
      refine wr_i64 (by omega) (by omega) ⟨by omega, by omega, by omega, y, ?_, by omega, by omega, by omega, wr_i64 (by omega) (by omega) ⟨by simp, by simp, ⟨by omega, by omega, hxs, L ++ [bitsV .and .u8 (bitsV .or .u8 (x % 16) 4) y], ?_, by simp; omega, h5.snoc ⟨⟨hs.1, hs.2.1⟩, hs.2.2.1⟩ fun y' hy' => ?_⟩, by omega⟩⟩
      · rw [Nat.mul_one, Nat.add_zero, h3]; exact ints_get hz'
      · rw [h3]; simp
      · rw [hlast] at hy'; cases hy'; exact hs.2.2.2
    · have hp := of_decide_eq_false hp
      have hL0 : L = [] := List.eq_nil_of_length_eq_zero (by omega)
      refine ⟨by omega, by omega, by omega, wr_i64 (by omega) (by omega) ⟨by simp, by simp, ⟨by omega, by omega, hxs, L ++ [bitsV .or .u8 (x % 16) 4], ?_, by simp; omega, h5.snoc ⟨⟨hor.1, hor.2.1⟩, hor.2.2.1⟩ fun y' hy' => ?_⟩, by omega⟩⟩
      · rw [h3]; simp
      · rw [hL0] at hy'; cases hy'
  · have hge := of_decide_eq_false hge
    intro a1 cp1 I2 l2 row1 a2 cp2 I3 l3 row2
    have hL1 : L15 ((zs.take j.toNat).map (· % 16)) := fun y hy => by
      obtain ⟨z, _, rfl⟩ := List.mem_map.1 hy
      omega
    have hlen1 : ((zs.take j.toNat).map (· % 16)).length ≤ 40 := by simp; omega
    change xs = ints .u8 ((zs.take j.toNat).map (· % 16)) at h2
    change ys = ints .u8 L at h3
    generalize (zs.take j.toNat).map (· % 16) = L1 at h2 hL1 hlen1
    subst h2; subst h3
    simp only [ints_len] at *
    have s1 := (row1.sl (n := L1.length) (by omega) (by rw [ints_len]; omega)).mono l3
    have s2 := row2.sl (n := L.length) (by omega) (by rw [ints_len]; omega)
    have c1 : L1.length ≤ cp1 := by have := row1.1; rw [ints_len] at this; omega
    have c2 : L.length ≤ cp2 := by have := row2.1; rw [ints_len] at this; omega
    have hL40 : L.length ≤ 40 := by omega
    clear h1 h4 hge
    have hG := h5
    refine ⟨⟨by omega, by omega, a1, L1.length, cp1, a2, L.length, cp2, L1, L, rfl, s1, s2, by omega, by omega, c1, c2, hL1, hG⟩, fun I4 _ l4 xs w ⟨w0, w1, a1', n1', c1', a2', n2', c2', M1, M2, g1, g2, g3, g4, g5, g6, g7, g8, g9⟩ => Br.mk (fun hlt => ?_) (fun _ => ?_)⟩
    · have hlt := of_decide_eq_true hlt
      have hw : ∃ b m d M, xs[0 + w.toNat * 1 + 0]? = some (.slice b m d) ∧ SlM I4 b m 1 (ints .u8 M) ∧ m ≤ 40 ∧ m ≤ d ∧ L15 M ∧ (w = 1 → GoodL M) := by
        rcases (by omega : w = 0 ∨ w = 1) with rfl | rfl
        · exact ⟨_, _, _, M1, by rw [g1]; rfl, g2, g4, g6, g8, fun h => by omega⟩
        · exact ⟨_, _, _, M2, by rw [g1]; rfl, g3, g5, g7, g9.l15, fun _ => g9⟩
      obtain ⟨b, m, d, M, hat, sM, m40, hmd, hM, hMG⟩ := hw
      have hmM := sM.numLen
      have back : ∀ {I' : Mem}, I4.le I' → ∃ a1 n1 c1 a2 n2 c2 L1 L2, xs = [.slice a1 n1 c1, .slice a2 n2 c2] ∧ SlM I' a1 n1 1 (ints .u8 L1) ∧ SlM I' a2 n2 1 (ints .u8 L2) ∧ n1 ≤ 40 ∧ n2 ≤ 40 ∧ n1 ≤ c1 ∧ n2 ≤ c2 ∧ L15 L1 ∧ GoodL L2 :=
        fun hle => ⟨a1', n1', c1', a2', n2', c2', M1, M2, g1, g2.mono hle, g3.mono hle, g4, g5, g6, g7, g8, g9⟩
      have mkHB : ∀ {E : Nat}, Holds M E → E ≤ M.length → (∀ (k i : Nat) (x y : Int), k < i → i < E → M[k]? = some x → M[i]? = some y → bitsV .andNot .u8 y x = 0 ∧ bitsV .and .u8 x 4 = 4) ∧ (∀ (i : Nat) (y : Int), i < E → M[i]? = some y → mostV (M.take (i + 1)) = y) := fun {E} hE hlE =>
        ⟨fun k i x y hk hi hx hy => ⟨holds_below hM hE hx (i - k) (by omega) (by rw [show k + (i - k) = i by omega]; exact hy), holds_grant hM hE hx (by omega) hlE⟩, fun i y hi hy => holds_most hM hE i hi hy⟩
      refine ⟨w0, hlt, b, m, d, hat, (ct14 M b m d I4 sM).mono fun v I5 l5 hv => ⟨_, _, hv, ?_⟩⟩
      have s5 := sM.mono l5
      rcases chain15 hM with ⟨hc0, hH⟩ | ⟨k, x, y, hc0, hk, hx, hy, hxy, hH⟩
      · obtain ⟨HB, HM⟩ := mkHB hH (Nat.le_refl _)
        rw [hc0]
        have hE : (0 : Int) ≤ (m : Int) ∧ (m : Int) ≤ M.length ∧ ∀ i : Nat, (i : Int) < (m : Int) → i < M.length := ⟨by omega, by omega, fun i hi => by omega⟩
        refine Br.mk (fun hw => Br.f rfl (Br.f rfl (Br.t rfl ?_))) (fun hw => Br.t rfl ?_)
        all_goals
          have lx := l5
          refine ⟨⟨by omega, by omega⟩, fun I7 _ l7 i ⟨i0, i1⟩ => Br.mk (fun hi => ?_) (fun hi => wr_i64 (by omega) (by omega) ⟨⟨by omega, by omega, back (Mem.le_trans lx l7)⟩, by omega⟩)⟩
          have hi := of_decide_eq_true hi
          obtain ⟨y, hy, haty⟩ := (sM.mono (Mem.le_trans lx l7)).intAt i0 (by omega)
          have hyr := hM.at_ hy
          refine ⟨⟨by omega, by omega⟩, fun I8 _ l8 j ⟨j0, j1⟩ => Br.mk (fun hj => ?_) (fun hj => ?_)⟩
          · have hj := of_decide_eq_true hj
            obtain ⟨x, hx, hatx⟩ := (sM.mono (Mem.le_trans (Mem.le_trans lx l7) l8)).intAt j0 (by omega)
            have hxr := hM.at_ hx
            have hB := HB j.toNat i.toNat x y (by omega) (by omega) hx hy
            have hok : okM [y, x] = true := by simp [okM]; omega
            refine ⟨i0, by omega, sM.isSome (by omega), y, atI_le l8 haty, j0, by omega, sM.isSome (by omega), x, hatx, (ct16 y x I8).mono fun v I9 l9 hv => ⟨_, hv, Br.f (by rw [hok, hB.1]; rfl) ⟨j0, by omega, sM.isSome (by omega), x, atI_le l9 hatx, Br.f (by rw [hB.2]; rfl) (wr_i64 (by omega) (by omega) ⟨by omega, by omega⟩)⟩⟩⟩
          · refine wr_i64 (by omega) (by omega) ⟨by omega, by omega, ?_⟩
            have hto : (i + 1).toNat = i.toNat + 1 := by omega
            have hokT : okM (M.take (i.toNat + 1)) = true := okM_all.2 fun z hz => okM_lt (by have := hM z (List.mem_of_mem_take hz); omega)
            have hmv := HM i.toNat y (by omega) hy
            rw [hto]
            refine (ct17 (M.take (i.toNat + 1)) b _ d I8 (sl_take (sM.mono (Mem.le_trans (Mem.le_trans lx l7) l8)) (by omega))).mono fun v I9 l9 hv => ⟨_, _, hv, i0, by omega, sM.isSome (by omega), y, atI_le (Mem.le_trans l8 l9) haty, Br.f (by rw [if_pos hokT, hmv]; simp) (Br.f (by rw [if_pos hokT]; rfl) (wr_i64 (by omega) (by omega) ⟨by omega, by omega⟩))⟩
      · obtain ⟨HB, HM⟩ := mkHB hH (by omega)
        rw [hc0]
        have hxr := hM.at_ hx
        have hyr := hM.at_ hy
        refine Br.mk (fun hw => ?_) (fun hw => Br.f rfl (Br.f rfl (Br.f (by simp; omega) (Br.f (by simp; omega) (wr_i64 (by omega) (by omega) ⟨by omega, by omega, s5.isSome (by omega), x, ?_, by omega, by omega, s5.isSome (by omega), y, ?_, (ct15 x y I5).mono fun v I6 l6 hv => ⟨_, hv, Br.f (by rw [hxy]; rfl) ?_⟩⟩)))))
        · have hw : w = 1 := by simpa using hw
          have := (hMG hw).chain
          rw [hc0] at this
          cases this
        · rw [show ((k : Int) + 1 - 1).toNat * 1 + 0 = k by omega]; exact s5.at_ k _ (ints_get hx)
        · rw [show ((k : Int) + 1).toNat * 1 + 0 = k + 1 by omega]; exact s5.at_ (k + 1) _ (ints_get hy)
        · have lx := Mem.le_trans l5 l6
          clear hxr hyr hxy hx hy
          refine ⟨⟨by omega, by omega⟩, fun I7 _ l7 i ⟨i0, i1⟩ => Br.mk (fun hi => ?_) (fun hi => wr_i64 (by omega) (by omega) ⟨⟨by omega, by omega, back (Mem.le_trans lx l7)⟩, by omega⟩)⟩
          have hi := of_decide_eq_true hi
          obtain ⟨y, hy, haty⟩ := (sM.mono (Mem.le_trans lx l7)).intAt i0 (by omega)
          have hyr := hM.at_ hy
          refine ⟨⟨by omega, by omega⟩, fun I8 _ l8 j ⟨j0, j1⟩ => Br.mk (fun hj => ?_) (fun hj => ?_)⟩
          · have hj := of_decide_eq_true hj
            obtain ⟨x, hx, hatx⟩ := (sM.mono (Mem.le_trans (Mem.le_trans lx l7) l8)).intAt j0 (by omega)
            have hxr := hM.at_ hx
            have hB := HB j.toNat i.toNat x y (by omega) (by omega) hx hy
            have hok : okM [y, x] = true := by simp [okM]; omega
            refine ⟨i0, by omega, sM.isSome (by omega), y, atI_le l8 haty, j0, by omega, sM.isSome (by omega), x, hatx, (ct16 y x I8).mono fun v I9 l9 hv => ⟨_, hv, Br.f (by rw [hok, hB.1]; rfl) ⟨j0, by omega, sM.isSome (by omega), x, atI_le l9 hatx, Br.f (by rw [hB.2]; rfl) (wr_i64 (by omega) (by omega) ⟨by omega, by omega⟩)⟩⟩⟩
          · refine wr_i64 (by omega) (by omega) ⟨by omega, by omega, ?_⟩
            have hto : (i + 1).toNat = i.toNat + 1 := by omega
            have hokT : okM (M.take (i.toNat + 1)) = true := okM_all.2 fun z hz => okM_lt (by have := hM z (List.mem_of_mem_take hz); omega)
            have hmv := HM i.toNat y (by omega) hy
            rw [hto]
            refine (ct17 (M.take (i.toNat + 1)) b _ d I8 (sl_take (sM.mono (Mem.le_trans (Mem.le_trans lx l7) l8)) (by omega))).mono fun v I9 l9 hv => ⟨_, _, hv, i0, by omega, sM.isSome (by omega), y, atI_le (Mem.le_trans l8 l9) haty, Br.f (by rw [if_pos hokT, hmv]; simp) (Br.f (by rw [if_pos hokT]; rfl) (wr_i64 (by omega) (by omega) ⟨by omega, by omega⟩))⟩
    · refine (ct17 [] none 0 0 I4 (sl_nil _ _)).mono fun v I5 _ hv => ⟨_, _, hv, Br.t rfl rfl⟩
