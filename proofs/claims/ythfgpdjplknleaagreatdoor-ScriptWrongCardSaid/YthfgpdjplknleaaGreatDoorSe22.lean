/- The law's end: arguments of any shape, with how great they may be. -/
import Derived.Test.YthfgpdjplknleaaGreatDoorSe21
import Derived.SizedLaws
namespace Go.SE
open Go.RowKit Go.ChangeShapes Go.WideShapes Go.ChangeAt Go.ChangeMaps

/-- What is known of cells that are read as a value of this type. -/
def OpC (P : Program) (W : World) (t : TypeId) (Q : List Value → Prop) : Prop :=
  ∀ (H : Type) (enc : TypeId × Value → H) (fuel : Nat) (cs : List Value) (d : DataW H) (ps : List MemPlace), DataW.trod enc P W 0 (fun _ => true) true fuel t cs = some (d, ps) → (∀ n ∈ d.weights P t, n ≤ reachBytes) → Q cs

section
variable {P : Program} {W : World} {t e : TypeId}
theorem opc_int {k : IntKind} (ht : P.underlying t = some (.int k)) : OpC P W t fun cs => ∃ n, cs = [.int k n] ∧ k.min ≤ n ∧ n ≤ k.max := by
  intro H enc fuel cs d ps h _
  obtain ⟨n, h1, _, h2⟩ := DataW.trod_int ht h
  exact ⟨n, h1, lit_wf h2⟩
theorem opc_bool (ht : P.underlying t = some .bool) : OpC P W t fun cs => ∃ b, cs = [.bool b] := by
  intro H enc fuel cs d ps h _
  obtain ⟨b, h1, _⟩ := DataW.trod_bool ht h
  exact ⟨b, h1⟩
theorem opc_str (ht : P.underlying t = some .string) : OpC P W t fun cs => ∃ s : ByteArray, cs = [.string s] ∧ s.size ≤ reachBytes := by
  intro H enc fuel cs d ps h hw
  obtain ⟨s, h1, h2, _⟩ := DataW.trod_string ht h
  cases h2
  refine ⟨s, h1, ?_⟩
  have := hw s.data.toList.length (by simp [DataW.weights])
  simpa using this
theorem opc_ints {k : IntKind} (ht : P.underlying t = some (.slice e)) (he : P.underlying e = some (.int k)) (hc : P.cellsOf e = 1) :
    OpC P W t fun cs => ∃ (a : Option Addr) (n c : Nat) (zs : List Int), cs = [.slice a n c] ∧ SlM (memW W) a n 1 (ints k zs) ∧ n ≤ c ∧ c ≤ maxLen ∧ (∀ z ∈ zs, k.min ≤ z ∧ z ≤ k.max) ∧ n * P.bytesOf e ≤ reachBytes := by
  intro H enc fuel cs d ps h hw
  obtain ⟨a, n, c, zs, h1, h2, h3, h4, h5⟩ := opSlC ht he hc h
  refine ⟨a, n, c, zs, h1, h2, h3, h4, h5, ?_⟩
  rcases DataW.trod_slice ht h with ⟨hcs, _⟩ | ⟨a', len, cap, elems, rest, m, _, hcs, hx, _, _, _, hlen, _⟩
  · rw [hcs] at h1; cases h1; simp
  · rw [hcs] at h1; cases h1
    cases hx
    have := hw ((elems.map (·.1)).length + (rest.map (·.1)).length |> (· * P.bytesOf e)) (by simp [DataW.weights, ht])
    simp only [List.length_map] at this
    exact Nat.le_trans (Nat.mul_le_mul_right _ (by omega)) this
theorem weights_all {H : Type} {ds : List (DataW H)} {i : Nat} {d : DataW H} (hd : ds[i]? = some d) : ∀ n ∈ d.weights P e, n ∈ DataW.weightsAll P e ds := by
  induction ds generalizing i with
  | nil => simp at hd
  | cons x r ih =>
    intro n hn
    rw [DataW.weightsAll]
    cases i with
    | zero =>
      simp at hd; subst hd
      exact List.mem_append_left _ hn
    | succ i => exact List.mem_append_right _ (ih (by simpa using hd) n hn)
/-- A slice whose elements have m cells. -/
theorem opc_slice {m : Nat} {Q : List Value → Prop} (hm0 : 0 < m) (ht : P.underlying t = some (.slice e)) (hc : P.cellsOf e = m) (he : OpC P W e Q) :
    OpC P W t fun cs => ∃ (a : Option Addr) (n c : Nat) (xs : List Value), cs = [.slice a n c] ∧ n ≤ c ∧ c ≤ maxLen ∧ SlM (memW W) a n m xs ∧ n * P.bytesOf e ≤ reachBytes ∧ ∀ i, i < n → Q ((xs.drop (i * m)).take m) := by
  intro H enc fuel cs d ps h hw
  rcases DataW.trod_slice ht h with ⟨hcs, _⟩ | ⟨a, len, cap, elems, rest, k, _, hcs, hx, _, hl, hm, hlen, hel, _, _⟩
  · exact ⟨none, 0, 0, [], hcs, Nat.le_refl _, Nat.zero_le _, sl_nil _ _, by simp, fun i hi => by omega⟩
  · cases hx
    rw [hc] at hel
    have each : ∀ i, i < len → ∃ ys, ys.length = m ∧ (∀ j, j < m → W.cell? ((a.add (i * m)).add j) = ys[j]?) ∧ Q ys := fun i hi => by
      have h1 := hel i hi
      have h2 : elems[i]? = some elems[i] := List.getElem?_eq_getElem (by omega)
      rw [h2, Option.bind_eq_some_iff] at h1
      obtain ⟨ys, h3, h4⟩ := h1
      obtain ⟨_, h5, h6⟩ := World.cells?_some h3
      refine ⟨ys, h5, h6, he H enc k ys elems[i].1 elems[i].2 h4 fun n hn => hw n ?_⟩
      have : (elems.map (·.1))[i]? = some elems[i].1 := by rw [List.getElem?_map, h2]; rfl
      simp only [DataW.weights, ht, List.mem_cons, List.mem_append]
      exact .inr (.inl (weights_all this n hn))
    have cellAt : ∀ j, j < len * m → ∃ v, W.cell? (a.add j) = some v := fun j hj => by
      have hd : j / m < len := (Nat.div_lt_iff_lt_mul hm0).2 hj
      obtain ⟨ys, h1, h2, _⟩ := each (j / m) hd
      have h3 := h2 (j % m) (Nat.mod_lt _ hm0)
      have hm' : j % m < ys.length := by rw [h1]; exact Nat.mod_lt _ hm0
      rw [List.getElem?_eq_getElem hm', add_add, Nat.mul_comm (j / m) m, Nat.div_add_mod] at h3
      exact ⟨_, h3⟩
    obtain ⟨xs, hxl, hxs⟩ := list_choice (Q := fun j v => W.cell? (a.add j) = some v) (len * m) cellAt
    refine ⟨some a, len, cap, xs, hcs, hl, hm, ⟨hxl, fun h => (by cases h), by omega, fun j v hj => ?_⟩, ?_, fun i hi => ?_⟩
    · rw [memW_at]; exact hxs j v hj
    · have := hw (((elems.map (·.1)).length + (rest.map (·.1)).length) * P.bytesOf e) (by simp [DataW.weights, ht])
      simp only [List.length_map] at this
      exact Nat.le_trans (Nat.mul_le_mul_right _ (by omega)) this
    · obtain ⟨ys, h1, h2, h3⟩ := each i hi
      have him : i * m + m ≤ len * m := by rw [← Nat.succ_mul]; exact Nat.mul_le_mul_right m hi
      have : (xs.drop (i * m)).take m = ys := by
        apply List.ext_getElem?
        intro j
        rw [List.getElem?_take]
        split
        · rename_i hj
          have h4 := h2 j hj
          rw [List.getElem?_drop, List.getElem?_eq_getElem (by omega : i * m + j < xs.length)]
          have h5 := hxs (i * m + j) _ (List.getElem?_eq_getElem (by omega))
          rw [add_add] at h4
          rw [← h4, h5]
        · rw [List.getElem?_eq_none (by omega)]
      rw [this]; exact h3
/-- The fields of a struct: where they lie, how many cells, what is known. -/
inductive OpFs (P : Program) (W : World) : List Field → List (Nat × Nat × (List Value → Prop)) → Prop
  | nil : OpFs P W [] []
  | cons {f : Field} {fs : List Field} {o s : Nat} {Q : List Value → Prop} {l : List (Nat × Nat × (List Value → Prop))} : f.offset = o → P.cellsOf f.type = s → OpC P W f.type Q → OpFs P W fs l → OpFs P W (f :: fs) ((o, s, Q) :: l)
def allQ (cs : List Value) : List (Nat × Nat × (List Value → Prop)) → Prop
  | [] => True
  | (o, s, Q) :: l => Q ((cs.drop o).take s) ∧ allQ cs l
theorem allQ_of {H : Type} {enc : TypeId × Value → H} {n : Nat} {cs : List Value} : ∀ {fs : List Field} {l : List (Nat × Nat × (List Value → Prop))} {xs : List (DataW H × List MemPlace)}, OpFs P W fs l → xs.length = fs.length →
    (∀ (i : Nat) (f : Field), fs[i]? = some f → DataW.trod enc P W 0 (fun _ => true) true n f.type ((cs.drop f.offset).take (P.cellsOf f.type)) = xs[i]?) → (∀ k ∈ DataW.weightsEach P (fs.map (·.type)) (xs.map (·.1)), k ≤ reachBytes) → allQ cs l
  | [], _, xs, .nil, _, _, _ => trivial
  | f :: fs, _, x :: xs, .cons (s := s) (o := o) h1 h2 h3 h4, hl, h, hw => by
    subst h1; subst h2
    have h0 := h 0 f rfl
    refine ⟨h3 H enc n _ x.1 x.2 h0 fun k hk => hw k ?_, allQ_of h4 (by simpa using hl) (fun i g hg => by simpa using h (i + 1) g (by simpa using hg)) fun k hk => hw k ?_⟩
    · simp only [List.map_cons, DataW.weightsEach, List.mem_append]; exact .inl hk
    · simp only [List.map_cons, DataW.weightsEach, List.mem_append]; exact .inr hk
theorem opc_struct {fs : Array Field} {l : List (Nat × Nat × (List Value → Prop))} {m : Nat} (ht : P.underlying t = some (.struct fs)) (hc : P.cellsOf t = m) (hf : OpFs P W fs.toList l) :
    OpC P W t fun cs => cs.length = m ∧ allQ cs l := by
  intro H enc fuel cs d ps h hw
  obtain ⟨xs, n, _, hx, h1, h2, h3⟩ := DataW.trod_struct ht h
  cases hx
  refine ⟨by rw [h1, hc], allQ_of hf (by simpa using h2) (fun i f hi => h3 i f (by simpa using hi)) fun k hk => hw k ?_⟩
  simpa [DataW.weights, ht] using hk
theorem OpC.mono {Q Q' : List Value → Prop} (h : OpC P W t Q) (hq : ∀ cs, Q cs → Q' cs) : OpC P W t Q' := fun H enc fuel cs d ps hd hw => hq cs (h H enc fuel cs d ps hd hw)
theorem opc_top_slice {H : Type} {enc : TypeId × Value → H} {Q : List Value → Prop} {r : Reach} {b0 : Nat} {v : Value} {d : DataW H} {ps : List MemPlace} (h : OpC P W t Q) (ht : P.underlying t = some (.slice e)) (hval : Value.okWide P W r b0 t v)
    (hd : DataW.Trod enc P W 0 (fun _ => true) true t v d ps) (hw : ∀ n ∈ d.weights P t, n ≤ reachBytes) : Q [v] := by
  obtain ⟨a, n, c, rfl⟩ := okWide_slice ht hval
  obtain ⟨fuel, hf⟩ := hd
  exact h H enc fuel _ d ps hf hw
theorem opc_top_struct {H : Type} {enc : TypeId × Value → H} {fs : Array Field} {Q : List Value → Prop} {r : Reach} {b0 : Nat} {v : Value} {d : DataW H} {ps : List MemPlace} (h : OpC P W t Q) (ht : P.underlying t = some (.struct fs)) (hval : Value.okWide P W r b0 t v)
    (hd : DataW.Trod enc P W 0 (fun _ => true) true t v d ps) (hw : ∀ n ∈ d.weights P t, n ≤ reachBytes) : ∃ cs : Array Value, v = .agg cs ∧ Q cs.toList := by
  simp only [Value.okWide, ht] at hval
  obtain ⟨cs, rfl, _⟩ := hval
  obtain ⟨fuel, hf⟩ := hd
  exact ⟨cs, rfl, h H enc fuel _ d ps hf hw⟩
theorem weights_at {H : Type} {ts us : List TypeId} {ds : List (DataW H)} (h : (DataW.weightsEach P (ts ++ us) (ds ++ [])).all (· ≤ reachBytes) = true) {j : Nat} {d : DataW H} (ht : ts[j]? = some t) (hd : ds[j]? = some d) : ∀ n ∈ d.weights P t, n ≤ reachBytes := fun n hn => by
  rw [List.append_nil] at h
  have hl := (List.getElem?_eq_some_iff.1 ht).1
  have := List.all_eq_true.1 h _ (DataW.weights_mem_each (ts := ts ++ us) (by rw [List.getElem?_append_left hl]; exact ht) hd n hn)
  simpa using this
end
end Go.SE
