/- Operations that make memory or write it. -/
import Derived.Test.YthfgpdjplknleaaGreatDoorSe8
namespace Go.SE
open Go.RowKit

/-! ### append, whatever is appended -/
section
variable {P : Program} {w : World}

structure Src (P : Program) (w : World) (xt : TypeId) (x : Value) (size m : Nat) (news : List Value) : Prop where
  ty : P.underlying xt = some .string ∨ ∃ u, P.underlying xt = some (.slice u)
  len : ∀ w', (Builtin.lenOf x).run P w' = .ok m w'
  cells : ∀ w' : World, w'.heap = w.heap → (Builtin.firstCells size m x).run P w' = .ok news.toArray w'
  length : news.length = m * size

theorem run_app_room {t xt ty e : TypeId} {i : TypeInfo} {x : Value} {m : Nat} {news : List Value} (ht : P.underlying t = some (.slice e)) (hi : P.info? e = some i) (hx : Src P w xt x i.size m news)
    (g sLen sCap : Nat) (cur : Array Value) (hg : w.heap[g]? = some (.cells cur e (0, 0))) (h1 : ∀ u ∈ news, u.oneCell' = true)
    (hroom : sLen + m ≤ sCap) (hfit : sLen * i.size + news.length ≤ cur.size) :
    (Builtin.append_ #[t, xt] ty #[.slice (some ⟨g, 0, none⟩) sLen sCap, x]).run P w =
      .ok (.slice (some ⟨g, 0, none⟩) (sLen + m) sCap) (w.setRow g (cur.toList.take (sLen * i.size) ++ news ++ cur.toList.drop (sLen * i.size + news.length)).toArray) := by
  have hst := run_storeCells_at P g (sLen * i.size) e news 0 cur w hg (by simpa using hfit) h1
  simp only [Nat.add_zero] at hst
  rcases hx.ty with hd | ⟨u, hd⟩ <;>
  simp [Builtin.append_, run_underlying ht, run_underlying hd, sizeOf, typeInfo, hi, hx.len, hroom, hx.cells w rfl, Addr.add_lit, hst]

theorem run_app_none {t xt ty e : TypeId} {i : TypeInfo} {x : Value} {news : List Value} (ht : P.underlying t = some (.slice e)) (hi : P.info? e = some i) (hx : Src P w xt x i.size 0 news) :
    (Builtin.append_ #[t, xt] ty #[.slice none 0 0, x]).run P w = .ok (.slice none 0 0) w := by
  rcases hx.ty with hd | ⟨u, hd⟩ <;>
  simp [Builtin.append_, run_underlying ht, run_underlying hd, sizeOf, typeInfo, hi, hx.len, hx.cells w rfl]

theorem run_app_nil {t xt ty e : TypeId} {i : TypeInfo} {z x : Value} {m : Nat} {news : List Value} (ht : P.underlying t = some (.slice e)) (hi : P.info? e = some i) (hz : i.zero = some z) (hx : Src P w xt x i.size m news)
    (h0 : 0 < m) (h63 : (m : Int) ≤ 9223372036854775807) (h48 : m * i.bytes ≤ 281474976710656) :
    (Builtin.append_ #[t, xt] ty #[.slice none 0 0, x]).run P w =
      .ok (.slice (some ⟨w.heap.size, 0, none⟩) m (grownCap w m 0 e)) (w.drew.alloc (.cells (news.toArray ++ Builtin.zeroCells z.cells (grownCap w m 0 e - m)) e)) := by
  have hn : m ≠ 0 := by omega
  have h63' : ¬ (9223372036854775807 < (m : Int)) := by omega
  have h48' : ¬ (281474976710656 < Builtin.nextslicecap m 0 * i.bytes) := by rw [nextslicecap_zero h0]; omega
  have hf := hx.cells w.drew rfl
  rcases hx.ty with hd | ⟨u, hd⟩ <;>
  simp [Builtin.append_, run_underlying ht, run_underlying hd, sizeOf, typeInfo, zeroValue, hi, hz, hx.len, hn, h63', h48', Question.forced, run_firstCells_none, hf, newRow, grownCap]

theorem run_app_grow {t xt ty e : TypeId} {i : TypeInfo} {z x : Value} {m : Nat} {news : List Value} (ht : P.underlying t = some (.slice e)) (hi : P.info? e = some i) (hz : i.zero = some z) (hx : Src P w xt x i.size m news)
    (b : Addr) (sLen sCap : Nat) (olds : List Value) (hlo : olds.length = sLen * i.size) (holds : ∀ j v, olds[j]? = some v → w.cell? (b.add j) = some v)
    (hg : sCap < sLen + m) (h63 : ((sLen + m : Nat) : Int) ≤ 9223372036854775807) (hfit : Builtin.nextslicecap (sLen + m) sCap * i.bytes ≤ 281474976710656) :
    (Builtin.append_ #[t, xt] ty #[.slice (some b) sLen sCap, x]).run P w =
      .ok (.slice (some ⟨w.heap.size, 0, none⟩) (sLen + m) (grownCap w (sLen + m) sCap e))
        (w.drew.alloc (.cells (olds.toArray ++ news.toArray ++ Builtin.zeroCells z.cells (grownCap w (sLen + m) sCap e - (sLen + m))) e)) := by
  have hn : ¬ (sLen + m ≤ sCap) := by omega
  have h63' : ¬ (9223372036854775807 < ((sLen : Int) + (m : Int))) := by omega
  have h48' : ¬ (281474976710656 < Builtin.nextslicecap (sLen + m) sCap * i.bytes) := by omega
  have hf := hx.cells w.drew rfl
  have hfo := run_firstCells_some (P := P) w.drew i.size sLen b sLen sCap olds hlo (by simpa using holds)
  rcases hx.ty with hd | ⟨u, hd⟩ <;>
  simp [Builtin.append_, run_underlying ht, run_underlying hd, sizeOf, typeInfo, zeroValue, hi, hz, hx.len, hn, h63', h48', Question.forced, hf, hfo, newRow, grownCap]
  all_goals
    congr 2
    apply Array.ext'
    simp [List.append_assoc]

theorem Src.slice {xt u : TypeId} {a : Option Addr} {m c size : Nat} {news : List Value} (hu : P.underlying xt = some (.slice u)) (hl : news.length = m * size)
    (ha : a = none → m = 0) (hc : ∀ j v, news[j]? = some v → ∃ ad, a = some ad ∧ w.cell? (ad.add j) = some v) : Src P w xt (.slice a m c) size m news := by
  refine ⟨.inr ⟨_, hu⟩, fun w' => by simp [Builtin.lenOf], fun w' hw' => ?_, hl⟩
  cases a with
  | none =>
    have h0 := ha rfl
    subst h0
    have : news = [] := List.length_eq_zero_iff.1 (by simpa using hl)
    subst this
    simp [Builtin.firstCells]
  | some ad =>
    exact run_firstCells_some (P := P) w' size m ad m c news hl (fun j v hj => by
      obtain ⟨_, h1, h2⟩ := hc j v hj
      cases h1
      simpa [World.cell?, hw'] using h2)
theorem Src.string {xt : TypeId} {q : ByteArray} (hu : P.underlying xt = some .string) : Src P w xt (.string q) 1 q.size (q.data.toList.map fun b => .int .u8 b.toNat) := by
  refine ⟨.inl hu, fun w' => by simp [Builtin.lenOf], fun w' hw' => ?_, by simp⟩
  simp only [Builtin.firstCells, Sem.run_pure]
  congr 1
  have : q.extract 0 q.size = q := by simp
  rw [this]
  apply Array.ext'
  simp
end

/-- What lies in a row that append may add to, as a fact about memory. -/
def isRow (h : Nat → Option Obj) (nil : Bool) (blk cap sz : Nat) (el : TypeId) (xs : List Value) : Prop :=
  (nil = true ∧ cap = 0 ∧ xs = []) ∨ (nil = false ∧ ∃ c : Array Value, h blk = some (.cells c el (0, 0)) ∧ c.size = cap * sz ∧ cap ≤ maxLen ∧ xs.length ≤ c.size ∧ c.toList.take xs.length = xs)

/-- APPEND TO A ROW: where the new row lies, and what else has changed. -/
theorem run_app_row {P : Program} {w : World} {t xt ty e : TypeId} {i : TypeInfo} {z x : Value} {m n blk cap : Nat} {nil : Bool} {xs news : List Value}
    (ht : P.underlying t = some (.slice e)) (hi : P.info? e = some i) (hz : i.zero = some z) (hzs : z.cells.size = i.size) (hsz : 0 < i.size)
    (hx : Src P w xt x i.size m news) (h1 : ∀ u ∈ news, u.oneCell' = true) (hrow : isRow (fun b => w.heap[b]?) nil blk cap i.size e xs) (hn : xs.length = n * i.size)
    (h63 : n + m ≤ maxLen) (hbytes : (n + m) * i.bytes ≤ 140737488355328) :
    ∃ (nil' : Bool) (blk' cap' : Nat) (w' : World),
      (Builtin.append_ #[t, xt] ty #[.slice (if nil then none else some ⟨blk, 0, none⟩) n cap, x]).run P w = .ok (.slice (if nil' then none else some ⟨blk', 0, none⟩) (n + m) cap') w' ∧
      isRow (fun b => w'.heap[b]?) nil' blk' cap' i.size e (xs ++ news) ∧ w.heap.size ≤ w'.heap.size ∧ Same w w' ∧
      (∀ b, b < w.heap.size → (nil = false → b ≠ blk) → w'.heap[b]? = w.heap[b]?) ∧ (nil' = false → (nil = false ∧ blk' = blk) ∨ w.heap.size ≤ blk') := by
  have hsmall : n + m ≤ 9223372036854775807 := by simp only [maxLen] at h63; omega
  have hlen : (xs ++ news).length = (n + m) * i.size := by rw [List.length_append, hn, hx.length, Nat.add_mul]
  have grown : ∀ (old : Nat), old < n + m →
      isRow (fun b => (w.drew.alloc (.cells (xs.toArray ++ news.toArray ++ Builtin.zeroCells z.cells (grownCap w (n + m) old e - (n + m))) e)).heap[b]?) false w.heap.size (grownCap w (n + m) old e) i.size e (xs ++ news) ∧
      (∀ b, b < w.heap.size → (w.drew.alloc (.cells (xs.toArray ++ news.toArray ++ Builtin.zeroCells z.cells (grownCap w (n + m) old e - (n + m))) e)).heap[b]? = w.heap[b]?) := by
    intro old ho
    have hge := grownCap_ge w (n + m) old e
    have hcm : grownCap w (n + m) old e ≤ maxLen := grownCap_le_maxLen w (n + m) old e h63
    have hsize : (xs.toArray ++ news.toArray ++ Builtin.zeroCells z.cells (grownCap w (n + m) old e - (n + m))).size = grownCap w (n + m) old e * i.size := by
      simp only [Array.size_append, List.size_toArray, size_zeroCells, hzs, hn, hx.length, ← Nat.add_mul]
      congr 1
      omega
    refine ⟨.inr ⟨rfl, _, heap_alloc_new w.drew _, hsize, hcm, ?_, ?_⟩, fun k hk => heap_alloc_old w.drew _ k hk⟩
    · rw [hsize, hlen]; exact Nat.mul_le_mul_right _ hge
    · simp only [Array.toList_append, List.append_assoc]
      rw [← List.append_assoc]
      exact List.take_left
  rcases hrow with ⟨rfl, rfl, rfl⟩ | ⟨rfl, cur, hg, hcs, hcm, hle, htake⟩
  · have h0 : n = 0 := by
      simp only [List.length_nil] at hn
      rcases Nat.mul_eq_zero.1 hn.symm with h | h
      · exact h
      · omega
    subst h0
    by_cases hm : m = 0
    · subst hm
      have hnn : news = [] := List.length_eq_zero_iff.1 (by simpa using hx.length)
      subst hnn
      exact ⟨true, 0, 0, w, by simpa using run_app_none ht hi hx, .inl ⟨rfl, rfl, rfl⟩, Nat.le_refl _, Same.refl _, fun _ _ _ => rfl, fun h => by cases h⟩
    · have hr := run_app_nil (ty := ty) ht hi hz hx (by omega) (by omega) (by have hb := hbytes; simp only [Nat.zero_add] at hb; omega)
      obtain ⟨g1, g2⟩ := grown 0 (by omega)
      simp only [Nat.zero_add, List.nil_append, Array.empty_append] at g1 g2 ⊢
      refine ⟨false, w.heap.size, _, _, by simpa using hr, g1, by simp, ⟨rfl, rfl, rfl⟩, fun b hb _ => g2 b hb, fun _ => .inr (Nat.le_refl _)⟩
  · by_cases hroom : n + m ≤ cap
    · have hfit : n * i.size + news.length ≤ cur.size := by rw [hx.length, hcs, ← Nat.add_mul]; exact Nat.mul_le_mul_right _ hroom
      have hr := run_app_room (ty := ty) ht hi hx blk n cap cur hg h1 hroom hfit
      refine ⟨false, blk, cap, _, by simpa using hr, .inr ⟨rfl, _, setRow_heap w blk cur _ e _ hg, ?_, hcm, ?_, ?_⟩, by simp, ⟨rfl, rfl, rfl⟩, fun b _ hb => setRow_other w blk b _ (hb rfl), fun _ => .inl ⟨rfl, rfl⟩⟩
      · simp only [List.size_toArray, List.length_append, List.length_take, List.length_drop, Array.length_toList]
        omega
      · simp only [List.size_toArray, List.length_append, List.length_take, List.length_drop, Array.length_toList]
        omega
      · rw [← hn, htake]
        show List.take (xs ++ news).length (xs ++ (news ++ _)) = xs ++ news
        rw [← List.append_assoc]
        exact List.take_left
    · have hcells : ∀ j u, xs[j]? = some u → w.cell? ((⟨blk, 0, none⟩ : Addr).add j) = some u := by
        intro j u hj
        rw [Addr.add_lit, Nat.zero_add]
        have hlt := (List.getElem?_eq_some_iff.1 hj).1
        have : cur.toList[j]? = some u := by
          rw [← htake, List.getElem?_take] at hj
          split at hj
          · exact hj
          · rename_i hn2; exact absurd hlt hn2
        simp [World.cell?, hg]
        simpa using this
      have hr := run_app_grow (ty := ty) ht hi hz hx ⟨blk, 0, none⟩ n cap xs hn hcells (by omega) (by omega) (growslice_fits (by omega) hbytes)
      obtain ⟨g1, g2⟩ := grown cap (by omega)
      exact ⟨false, w.heap.size, _, _, by simpa using hr, g1, by simp, ⟨rfl, rfl, rfl⟩, fun b hb _ => g2 b hb, fun _ => .inr (Nat.le_refl _)⟩

end Go.SE
