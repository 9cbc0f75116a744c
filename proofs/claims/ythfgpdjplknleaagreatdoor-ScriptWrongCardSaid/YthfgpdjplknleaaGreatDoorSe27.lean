/- Slices of read-only memory whose elements are records: each element's cells stand for a datum. -/
import Derived.Test.YthfgpdjplknleaaGreatDoorSe21
namespace Go.SE
open Go.RowKit
section
variable {α : Type} {k : Nat} {E : Mem → List Value → α → Prop} {I J : Mem}
/-- Cells, k for each datum. -/
def RowR {α : Type} (k : Nat) (E : Mem → List Value → α → Prop) (I : Mem) : List Value → List α → Prop
  | xs, [] => xs = []
  | xs, e :: l => ∃ c r, xs = c ++ r ∧ c.length = k ∧ E I c e ∧ RowR k E I r l
theorem RowR.mono (hE : ∀ (I J : Mem) (c : List Value) (e : α), I.le J → E I c e → E J c e) (hle : I.le J) : ∀ {l : List α} {xs : List Value}, RowR k E I xs l → RowR k E J xs l
  | [], _, h => h
  | _ :: _, _, ⟨c, r, h1, h2, h3, h4⟩ => ⟨c, r, h1, h2, hE _ _ _ _ hle h3, RowR.mono hE hle h4⟩
theorem RowR.len : ∀ {l : List α} {xs : List Value}, RowR k E I xs l → xs.length = l.length * k
  | [], _, h => by rw [show _ = [] from h]; simp
  | _ :: l, _, ⟨c, r, h1, h2, _, h4⟩ => by rw [h1, List.length_append, h2, h4.len, List.length_cons, Nat.add_mul]; omega
theorem RowR.app {ys : List Value} {m : List α} (h' : RowR k E I ys m) : ∀ {l : List α} {xs : List Value}, RowR k E I xs l → RowR k E I (xs ++ ys) (l ++ m)
  | [], _, h => by rw [show _ = [] from h]; exact h'
  | _ :: _, _, ⟨c, r, h1, h2, h3, h4⟩ => ⟨c, r ++ ys, by rw [h1, List.append_assoc], h2, h3, RowR.app h' h4⟩
theorem RowR.one {c : List Value} {e : α} (hc : c.length = k) (h : E I c e) : RowR k E I c [e] := ⟨c, [], by simp, hc, h, rfl⟩
theorem RowR.snoc {xs c : List Value} {l : List α} {e : α} (h : RowR k E I xs l) (hc : c.length = k) (he : E I c e) : RowR k E I (xs ++ c) (l ++ [e]) := (RowR.one hc he).app h
theorem RowR.get : ∀ {l : List α} {xs : List Value}, RowR k E I xs l → ∀ {j : Nat} {e : α}, l[j]? = some e → ∃ c, c.length = k ∧ E I c e ∧ ∀ (i : Nat) (v : Value), c[i]? = some v → xs[j * k + i]? = some v
  | [], _, _, j, e, hj => by simp at hj
  | _ :: l, _, ⟨c, r, h1, h2, h3, h4⟩, 0, e, hj => by
    simp only [List.getElem?_cons_zero, Option.some.injEq] at hj
    subst hj
    refine ⟨c, h2, h3, fun i v hi => ?_⟩
    have := (List.getElem?_eq_some_iff.1 hi).1
    rw [h1, Nat.zero_mul, Nat.zero_add, List.getElem?_append_left this]; exact hi
  | _ :: l, _, ⟨c, r, h1, h2, h3, h4⟩, j + 1, e, hj => by
    obtain ⟨d, g1, g2, g3⟩ := RowR.get h4 (j := j) (e := e) (by simpa using hj)
    refine ⟨d, g1, g2, fun i v hi => ?_⟩
    have := g3 i v hi
    rw [h1, show (j + 1) * k + i = c.length + (j * k + i) by rw [h2, Nat.add_mul]; omega, List.getElem?_append_right (by omega), Nat.add_sub_cancel_left]
    exact this
theorem RowR.take : ∀ (n : Nat) {l : List α} {xs : List Value}, RowR k E I xs l → RowR k E I (xs.take (n * k)) (l.take n)
  | 0, _, _, _ => by simp [RowR]
  | n + 1, [], _, h => by rw [show _ = [] from h]; simp [RowR]
  | n + 1, _ :: l, _, ⟨c, r, h1, h2, h3, h4⟩ => by
    refine ⟨c, r.take (n * k), ?_, h2, h3, RowR.take n h4⟩
    rw [h1, Nat.add_mul, Nat.one_mul, List.take_append, List.take_of_length_le (by omega), h2, Nat.add_sub_cancel]
theorem RowR.all {P : α → Prop} (hP : ∀ {I : Mem} {c : List Value} {e : α}, E I c e → P e) : ∀ {l : List α} {xs : List Value}, RowR k E I xs l → ∀ e ∈ l, P e
  | [], _, _, e, he => by cases he
  | _ :: _, _, ⟨c, r, _, _, h3, h4⟩, e, he => by
    rcases List.mem_cons.1 he with rfl | he
    · exact hP h3
    · exact RowR.all hP h4 e he
/-- A slice of such. -/
def SlR {α : Type} (k : Nat) (E : Mem → List Value → α → Prop) (I : Mem) (a : Option Addr) (n : Nat) (l : List α) : Prop := ∃ xs, SlM I a n k xs ∧ RowR k E I xs l
theorem SlR.mono {a : Option Addr} {n : Nat} {l : List α} (hE : ∀ (I J : Mem) (c : List Value) (e : α), I.le J → E I c e → E J c e) (h : SlR k E I a n l) (hle : I.le J) : SlR k E J a n l := by
  obtain ⟨xs, h1, h2⟩ := h
  exact ⟨xs, h1.mono hle, h2.mono hE hle⟩
theorem SlR.len {a : Option Addr} {n : Nat} {l : List α} (hk : 0 < k) (h : SlR k E I a n l) : l.length = n := by
  obtain ⟨xs, h1, h2⟩ := h
  exact Nat.eq_of_mul_eq_mul_right hk (h2.len.symm.trans h1.len)
theorem SlR.max {a : Option Addr} {n : Nat} {l : List α} (h : SlR k E I a n l) : n ≤ maxLen := by
  obtain ⟨xs, h1, _⟩ := h
  exact h1.max
theorem SlR.isSome {a : Option Addr} {n : Nat} {l : List α} (h : SlR k E I a n l) (hn : 0 < n) : a.isSome = true := by
  obtain ⟨xs, h1, _⟩ := h
  exact h1.isSome hn
theorem SlR.at_ {a : Option Addr} {n : Nat} {l : List α} (hk : 0 < k) (h : SlR k E I a n l) {j : Int} (h0 : 0 ≤ j) (h1 : j < n) :
    ∃ e c, l[j.toNat]? = some e ∧ c.length = k ∧ E I c e ∧ ∀ (i : Nat) (v : Value), c[i]? = some v → atI I a (j.toNat * k + i) = some v := by
  have hl := h.len hk
  obtain ⟨xs, hs, hr⟩ := h
  have hg : l[j.toNat]? = some l[j.toNat] := List.getElem?_eq_getElem (by omega)
  obtain ⟨c, g1, g2, g3⟩ := hr.get hg
  exact ⟨_, c, hg, g1, g2, fun i v hi => hs.at_ _ _ (g3 i v hi)⟩
theorem SlR.row {a : Option Addr} {cp : Nat} {xs : List Value} {l : List α} (hk : 0 < k) (h : RowM I a cp k xs) (hr : RowR k E I xs l) : SlR k E I a l.length l :=
  ⟨xs, h.sl hk hr.len, hr⟩
theorem SlR.nil : SlR k E I none 0 [] := ⟨[], ⟨by simp, fun _ => rfl, Nat.zero_le _, fun j v hj => by simp at hj⟩, rfl⟩
theorem SlR.take {a : Option Addr} {n m : Nat} {l : List α} (hk : 0 < k) (h : SlR k E I a n l) (hm : m ≤ n) : SlR k E I a m (l.take m) := by
  have hl := h.len hk
  obtain ⟨xs, hs, hr⟩ := h
  have hx := hs.len
  refine ⟨xs.take (m * k), ⟨?_, fun ha => by have := hs.nil ha; omega, Nat.le_trans hm hs.max, fun j v hj => hs.at_ j v ?_⟩, hr.take m⟩
  · rw [List.length_take, hx, Nat.min_eq_left (Nat.mul_le_mul_right k hm)]
  · rw [List.getElem?_take] at hj
    split at hj
    · exact hj
    · cases hj
end
end Go.SE
namespace Go.SE
theorem RowR.of {α : Type} {k : Nat} {E : Mem → List Value → α → Prop} {I : Mem} : ∀ (n : Nat) (xs : List Value), xs.length = n * k → (∀ i, i < n → ∃ e, E I ((xs.drop (i * k)).take k) e) → ∃ l : List α, l.length = n ∧ RowR k E I xs l
  | 0, xs, hl, _ => by
    have : xs = [] := List.eq_nil_of_length_eq_zero (by omega)
    subst this; exact ⟨[], rfl, rfl⟩
  | n + 1, xs, hl, h => by
    have hk : k ≤ xs.length := by rw [hl, Nat.add_mul]; omega
    obtain ⟨e, he⟩ := h 0 (by omega)
    rw [Nat.zero_mul, List.drop_zero] at he
    obtain ⟨l, h1, h2⟩ := RowR.of (k := k) (E := E) (I := I) n (xs.drop k) (by rw [List.length_drop, hl, Nat.add_mul]; omega) fun i hi => by
      have := h (i + 1) (by omega)
      rwa [List.drop_drop, show k + i * k = (i + 1) * k by rw [Nat.add_mul]; omega]
    exact ⟨e :: l, by rw [List.length_cons, h1], xs.take k, xs.drop k, (List.take_append_drop k xs).symm, by rw [List.length_take]; omega, he, h2⟩
end Go.SE
