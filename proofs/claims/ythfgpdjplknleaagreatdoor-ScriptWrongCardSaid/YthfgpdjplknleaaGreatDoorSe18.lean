/- Rows of read-only memory as lists; small helps for proofs of conditions. -/
import Derived.Test.YthfgpdjplknleaaGreatDoorSe17
namespace Go.SE
open Go.RowKit

/-- A slice of read-only memory: where it begins, its length, the cells of an element, all cells. -/
structure SlM (I : Mem) (a : Option Addr) (n sz : Nat) (xs : List Value) : Prop where
  len : xs.length = n * sz
  nil : a = none → n = 0
  max : n ≤ maxLen
  at_ : ∀ (j : Nat) (v : Value), xs[j]? = some v → atI I a j = some v

theorem SlM.mono {I J : Mem} {a : Option Addr} {n sz : Nat} {xs : List Value} (h : SlM I a n sz xs) (hle : I.le J) : SlM J a n sz xs :=
  ⟨h.len, h.nil, h.max, fun j v hj => atI_le hle (h.at_ j v hj)⟩
theorem RowM.sl {I : Mem} {a : Option Addr} {cp sz n : Nat} {xs : List Value} (h : RowM I a cp sz xs) (hz : 0 < sz) (hn : xs.length = n * sz) : SlM I a n sz xs := by
  obtain ⟨h1, h2, h3, h4⟩ := h
  refine ⟨hn, fun ha => ?_, ?_, h4⟩
  · rw [(h3 ha).1] at hn
    simp only [List.length_nil] at hn
    rcases Nat.mul_eq_zero.1 hn.symm with h | h
    · exact h
    · omega
  · rw [hn] at h1
    have := Nat.le_of_mul_le_mul_right h1 hz
    omega
theorem SlM.isSome {I : Mem} {a : Option Addr} {n sz : Nat} {xs : List Value} (h : SlM I a n sz xs) (hn : 0 < n) : a.isSome = true := by
  cases ha : a with
  | none => have := h.nil ha; omega
  | some x => rfl

/-- Bytes or numbers of one kind. -/
def ints (k : IntKind) (l : List Int) : List Value := l.map (.int k)
theorem ints_get {k : IntKind} {l : List Int} {j : Nat} {x : Int} (h : l[j]? = some x) : (ints k l)[j]? = some (.int k x) := by simp [ints, h]
theorem ints_len {k : IntKind} {l : List Int} : (ints k l).length = l.length := by simp [ints]
theorem SlM.numLen {I : Mem} {a : Option Addr} {n : Nat} {k : IntKind} {l : List Int} (h : SlM I a n 1 (ints k l)) : n = l.length := by
  have := h.len
  rw [ints_len] at this
  omega
theorem SlM.intAt {I : Mem} {a : Option Addr} {n : Nat} {k : IntKind} {l : List Int} (h : SlM I a n 1 (ints k l)) {i : Int} (h0 : 0 ≤ i) (h1 : i < n) :
    ∃ x, l[i.toNat]? = some x ∧ atI I a (i.toNat * 1 + 0) = some (.int k x) := by
  have hn := h.numLen
  have hlt : i.toNat < l.length := by omega
  refine ⟨l[i.toNat], List.getElem?_eq_getElem hlt, ?_⟩
  rw [Nat.mul_one, Nat.add_zero]
  exact h.at_ _ _ (ints_get (List.getElem?_eq_getElem hlt))

theorem wr_i64 {n : Int} {K : Int → Prop} (h0 : -9223372036854775808 ≤ n) (h1 : n ≤ 9223372036854775807) (h : K n) : Wr .i64 n K :=
  ⟨n, IntWalk.i64_in n ⟨h0, h1⟩, h⟩

/-- A block of cells is a slice. -/
theorem sl_cells {I : Mem} {b n sz : Nat} {cs : Array Value} {el : TypeId} (h : I b = some (.cells cs el)) (hn : cs.size = n * sz) (hm : n ≤ maxLen) : SlM I (some ⟨b, 0, none⟩) n sz cs.toList := by
  refine ⟨by rw [Array.length_toList, hn], fun h => (by cases h), hm, fun j v hj => ?_⟩
  rw [Array.getElem?_toList] at hj
  cases j with
  | zero => simp [atI, cellM, Addr.add, h, hj]
  | succ k => simp [atI, cellM, Addr.add, h, hj]
theorem sl_nil (I : Mem) (sz : Nat) : SlM I none 0 sz [] := ⟨by simp, fun _ => rfl, Nat.zero_le _, fun j v hj => by simp at hj⟩

end Go.SE
