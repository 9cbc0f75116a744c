/- The law's end: arguments that are slices of slices of bytes. -/
import Derived.Test.YthfgpdjplknleaaGreatDoorSe20
namespace Go.SE
open Go.RowKit Go.ChangeShapes Go.WideShapes Go.ChangeAt Go.ChangeMaps

/-- A slice of bytes. -/
def BySl (I : Mem) (v : Value) (bs : List Int) : Prop := ∃ b m c, v = .slice b m c ∧ SlM I b m 1 (ints .u8 bs) ∧ m ≤ c ∧ c ≤ maxLen
theorem BySl.mono {I J : Mem} {v : Value} {bs : List Int} (h : BySl I v bs) (hle : I.le J) : BySl J v bs := by
  obtain ⟨b, m, c, h1, h2, h3⟩ := h
  exact ⟨b, m, c, h1, h2.mono hle, h3⟩
def byteL (bs : List Int) : Prop := ∀ z ∈ bs, 0 ≤ z ∧ z ≤ 255
/-- Cells that are texts. -/
def TR (I : Mem) (xs : List Value) (ts : List (List Int)) : Prop := xs.length = ts.length ∧ ∀ (j : Nat) (bs : List Int), ts[j]? = some bs → byteL bs ∧ ∃ y, xs[j]? = some y ∧ BySl I y bs
/-- A slice of texts. -/
def TxM (I : Mem) (a : Option Addr) (n : Nat) (ts : List (List Int)) : Prop := ∃ xs, SlM I a n 1 xs ∧ TR I xs ts
theorem TxM.mono {I J : Mem} {a : Option Addr} {n : Nat} {ts : List (List Int)} (h : TxM I a n ts) (hle : I.le J) : TxM J a n ts := by
  obtain ⟨xs, h1, h2, h3⟩ := h
  refine ⟨xs, h1.mono hle, h2, fun j bs hj => ?_⟩
  obtain ⟨h4, y, h5, h6⟩ := h3 j bs hj
  exact ⟨h4, y, h5, h6.mono hle⟩
theorem TxM.len {I : Mem} {a : Option Addr} {n : Nat} {ts : List (List Int)} (h : TxM I a n ts) : n = ts.length := by
  obtain ⟨xs, h1, h2, h3⟩ := h
  have := h1.len
  omega
theorem TxM.max {I : Mem} {a : Option Addr} {n : Nat} {ts : List (List Int)} (h : TxM I a n ts) : n ≤ maxLen := by
  obtain ⟨xs, h1, _⟩ := h
  exact h1.max
theorem TxM.isSome {I : Mem} {a : Option Addr} {n : Nat} {ts : List (List Int)} (h : TxM I a n ts) (hn : 0 < n) : a.isSome = true := by
  obtain ⟨xs, h1, _⟩ := h
  exact h1.isSome hn
theorem TxM.bytes {I : Mem} {a : Option Addr} {n : Nat} {ts : List (List Int)} (h : TxM I a n ts) : ∀ bs ∈ ts, byteL bs := fun bs hb => by
  obtain ⟨xs, h1, h2, h3⟩ := h
  obtain ⟨j, hj, rfl⟩ := List.mem_iff_getElem.1 hb
  exact (h3 j _ (List.getElem?_eq_getElem hj)).1
theorem TxM.at_ {I : Mem} {a : Option Addr} {n : Nat} {ts : List (List Int)} (h : TxM I a n ts) {i : Int} (h0 : 0 ≤ i) (h1 : i < n) :
    ∃ bs b m c, ts[i.toNat]? = some bs ∧ atI I a (i.toNat * 1 + 0) = some (.slice b m c) ∧ SlM I b m 1 (ints .u8 bs) ∧ m ≤ c ∧ c ≤ maxLen := by
  have hl := h.len
  obtain ⟨xs, hs, h2, h3⟩ := h
  have hg : ts[i.toNat]? = some ts[i.toNat] := List.getElem?_eq_getElem (by omega)
  obtain ⟨_, y, hy, b, m, c, rfl, h4, h5, h6⟩ := h3 _ _ hg
  refine ⟨_, b, m, c, hg, ?_, h4, h5, h6⟩
  rw [Nat.mul_one, Nat.add_zero]
  exact hs.at_ _ _ hy
theorem list_choice {α : Type} {Q : Nat → α → Prop} : ∀ (n : Nat), (∀ i, i < n → ∃ b, Q i b) → ∃ l : List α, l.length = n ∧ ∀ i b, l[i]? = some b → Q i b
  | 0, _ => ⟨[], rfl, fun i b h => by simp at h⟩
  | n + 1, h => by
    obtain ⟨l, hl, hq⟩ := list_choice n fun i hi => h i (by omega)
    obtain ⟨b, hb⟩ := h n (by omega)
    refine ⟨l ++ [b], by simp [hl], fun i c hc => ?_⟩
    by_cases hi : i < n
    · rw [List.getElem?_append_left (by omega)] at hc
      exact hq i c hc
    · have hlt := (List.getElem?_eq_some_iff.1 hc).1
      simp [hl] at hlt
      have : i = n := by omega
      subst this
      rw [List.getElem?_append_right (by omega), hl, Nat.sub_self] at hc
      cases hc
      exact hb
section
variable {H : Type} {enc : TypeId × Value → H} {P : Program} {W : World}
theorem opSlC {t e : TypeId} {k : IntKind} {fuel : Nat} {cs : List Value} {x : DataW H × List MemPlace} (ht : P.underlying t = some (.slice e)) (he : P.underlying e = some (.int k)) (hc : P.cellsOf e = 1)
    (hf : DataW.trod enc P W 0 (fun _ => true) true fuel t cs = some x) :
    ∃ (a : Option Addr) (n c : Nat) (zs : List Int), cs = [.slice a n c] ∧ SlM (memW W) a n 1 (ints k zs) ∧ n ≤ c ∧ c ≤ maxLen ∧ ∀ z ∈ zs, k.min ≤ z ∧ z ≤ k.max := by
  rcases open_ints ht he hc hf with ⟨hcs, _⟩ | ⟨a', len, cap, zs, hcs, _, hl, hm, hz, _, hcell, hwz⟩
  · exact ⟨none, 0, 0, [], hcs, sl_nil _ _, Nat.le_refl _, Nat.zero_le _, fun z hz => by cases hz⟩
  · simp only [if_true] at hz
    refine ⟨some a', len, cap, zs.take len, hcs, ⟨by simp [ints]; omega, fun h => (by cases h), by omega, fun j y hj => ?_⟩, hl, hm, fun z hz => lit_wf (hwz z (List.mem_of_mem_take hz))⟩
    rw [memW_at]
    simp only [ints, List.getElem?_map, Option.map_eq_some_iff] at hj
    obtain ⟨z, hj, rfl⟩ := hj
    rw [List.getElem?_take] at hj
    split at hj
    · rename_i hjn
      rw [hcell j (by omega)]
      simp [List.getD_eq_getElem?_getD, hj]
    · cases hj
/-- A slice whose elements have m cells. -/
theorem opRowC {t e : TypeId} {m : Nat} {sp : Nat → Bool} {fuel : Nat} {cs : List Value} {x : DataW H × List MemPlace} (hm0 : 0 < m) (ht : P.underlying t = some (.slice e)) (hc : P.cellsOf e = m)
    (hf : DataW.trod enc P W 0 sp true fuel t cs = some x) :
    ∃ (a : Option Addr) (n c : Nat) (xs : List Value), cs = [.slice a n c] ∧ n ≤ c ∧ c ≤ maxLen ∧ SlM (memW W) a n m xs ∧ ∀ i, i < n → ∃ fuel z, DataW.trod enc P W 0 sp true fuel e ((xs.drop (i * m)).take m) = some z := by
  rcases DataW.trod_slice ht hf with ⟨hcs, _⟩ | ⟨a, len, cap, elems, rest, k, _, hcs, _, _, hl, hm, hlen, hel, _, _⟩
  · exact ⟨none, 0, 0, [], hcs, Nat.le_refl _, Nat.zero_le _, sl_nil _ _, fun i hi => by omega⟩
  · rw [hc] at hel
    have each : ∀ i, i < len → ∃ ys, ys.length = m ∧ (∀ j, j < m → W.cell? ((a.add (i * m)).add j) = ys[j]?) ∧ ∃ z, DataW.trod enc P W 0 sp true k e ys = some z := fun i hi => by
      have h1 := hel i hi
      have h2 : elems[i]? = some elems[i] := List.getElem?_eq_getElem (by omega)
      rw [h2, Option.bind_eq_some_iff] at h1
      obtain ⟨ys, h3, h4⟩ := h1
      obtain ⟨_, h5, h6⟩ := World.cells?_some h3
      exact ⟨ys, h5, h6, _, h4⟩
    have cellAt : ∀ j, j < len * m → ∃ v, W.cell? (a.add j) = some v := fun j hj => by
      have hd : j / m < len := (Nat.div_lt_iff_lt_mul hm0).2 hj
      obtain ⟨ys, h1, h2, _⟩ := each (j / m) hd
      have h3 := h2 (j % m) (Nat.mod_lt _ hm0)
      have hm' : j % m < ys.length := by rw [h1]; exact Nat.mod_lt _ hm0
      rw [List.getElem?_eq_getElem hm', add_add, Nat.mul_comm (j / m) m, Nat.div_add_mod] at h3
      exact ⟨_, h3⟩
    obtain ⟨xs, hxl, hxs⟩ := list_choice (Q := fun j v => W.cell? (a.add j) = some v) (len * m) cellAt
    refine ⟨some a, len, cap, xs, hcs, hl, hm, ⟨hxl, fun h => (by cases h), by omega, fun j v hj => ?_⟩, fun i hi => ?_⟩
    · rw [memW_at]; exact hxs j v hj
    · obtain ⟨ys, h1, h2, z, h3⟩ := each i hi
      have him : i * m + m ≤ len * m := by rw [← Nat.succ_mul]; exact Nat.mul_le_mul_right m hi
      have : (xs.drop (i * m)).take m = ys := by
        apply List.ext_getElem?
        intro j
        rw [List.getElem?_take]
        split
        · rename_i hj
          have h4 := h2 j hj
          rw [List.getElem?_drop, List.getElem?_eq_getElem (by omega : i * m + j < xs.length)]
          have h5 := hxs (i * m + j) _ (List.getElem?_eq_getElem (by omega))
          rw [add_add] at h4
          rw [← h4, h5]
        · rw [List.getElem?_eq_none (by omega)]
      exact ⟨k, z, by rw [this]; exact h3⟩
theorem opTxC {t e b : TypeId} {fuel : Nat} {cs : List Value} {x : DataW H × List MemPlace} (ht : P.underlying t = some (.slice e)) (he : P.underlying e = some (.slice b)) (hb : P.underlying b = some (.int .u8)) (hc : P.cellsOf e = 1) (hcb : P.cellsOf b = 1)
    (hf : DataW.trod enc P W 0 (fun _ => true) true fuel t cs = some x) :
    ∃ (a : Option Addr) (n c : Nat) (ts : List (List Int)), cs = [.slice a n c] ∧ TxM (memW W) a n ts ∧ n ≤ c ∧ c ≤ maxLen := by
  obtain ⟨a, n, c, xs, hcs, h1, h2, h3, h4⟩ := opRowC (by omega) ht hc hf
  have hl := h3.len
  have each : ∀ i, i < n → ∃ bs, byteL bs ∧ ∃ y, xs[i]? = some y ∧ BySl (memW W) y bs := fun i hi => by
    obtain ⟨f, z, h5⟩ := h4 i hi
    have hx : (xs.drop (i * 1)).take 1 = [xs[i]] := by
      rw [Nat.mul_one, List.drop_eq_getElem_cons (by omega)]; rfl
    rw [hx] at h5
    obtain ⟨a', n', c', zs, h6, h7, h8, h9, h10⟩ := opSlC he hb hcb h5
    exact ⟨zs, h10, xs[i], List.getElem?_eq_getElem (by omega), a', n', c', by simpa using h6, h7, h8, h9⟩
  obtain ⟨ts, ht1, ht2⟩ := list_choice n each
  exact ⟨a, n, c, ts, hcs, ⟨xs, h3, by omega, fun j bs hj => ht2 j bs hj⟩, h1, h2⟩
theorem opTx {t e b : TypeId} {r : Reach} {b0 : Nat} {v : Value} {d : DataW H} {ps : List MemPlace} (ht : P.underlying t = some (.slice e)) (he : P.underlying e = some (.slice b)) (hb : P.underlying b = some (.int .u8)) (hc : P.cellsOf e = 1) (hcb : P.cellsOf b = 1)
    (hval : Value.okWide P W r b0 t v) (hd : DataW.Trod enc P W 0 (fun _ => true) true t v d ps) :
    ∃ (a : Option Addr) (n c : Nat) (ts : List (List Int)), v = .slice a n c ∧ TxM (memW W) a n ts ∧ n ≤ c ∧ c ≤ maxLen := by
  obtain ⟨a, n, c, rfl⟩ := okWide_slice ht hval
  obtain ⟨fuel, hf⟩ := hd
  obtain ⟨a', n', c', ts, h1, h2⟩ := opTxC ht he hb hc hcb hf
  simp [Value.cells] at h1
  obtain ⟨rfl, rfl, rfl⟩ := h1
  exact ⟨_, _, _, ts, rfl, h2⟩
end
end Go.SE
