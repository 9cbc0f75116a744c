/- Calls to which own memory is lent: soundness. -/
import Derived.Test.YthfgpdjplknleaaGreatDoorSe14M
namespace Go.SE
open Go.RowKit

section
variable {P : Program} {c : Ctx} {e : Env} {s : St} {w : World} {a : Act} {r : Option Nat}

theorem entsAt_spec {H : List Ent} : ∀ {ids : List Nat} {H0 : List Ent}, entsAt H ids = some H0 → H0.length = ids.length ∧
    ∀ (j id : Nat), ids[j]? = some id → ∃ x, H0[j]? = some x ∧ H[id]? = some x ∧ alive x.obj = true
  | [], H0, h => by simp only [entsAt, Option.some.injEq] at h; subst h; simp
  | id :: r, H0, h => by
    simp only [entsAt] at h
    split at h
    · rename_i x l hx hl
      split at h
      · rename_i hal
        simp only [Option.some.injEq] at h
        subst h
        obtain ⟨h1, h2⟩ := entsAt_spec hl
        refine ⟨by simp [h1], fun j id' hj => ?_⟩
        cases j with
        | zero => simp only [List.getElem?_cons_zero, Option.some.injEq] at hj; subst hj; exact ⟨x, rfl, hx, hal⟩
        | succ j => exact (by simpa using h2 j id' (by simpa using hj))
      · cases h
    · cases h

def name1 (b : Nat) (x : Ent) : Ent :=
  match x with
  | ⟨.row xs sz el, _⟩ => ⟨.row xs sz el, none⟩
  | ⟨o, some b'⟩ => ⟨o, some b'⟩
  | ⟨o, none⟩ => ⟨o, some b⟩
def nameL (g : Nat → Nat) : Nat → List Ent → List Ent
  | _, [] => []
  | i, x :: r => name1 (g i) x :: nameL g (i + 1) r
theorem nameL_get {g : Nat → Nat} : ∀ {i : Nat} {l : List Ent} {k : Nat} {x : Ent}, (nameL g i l)[k]? = some x → ∃ y, l[k]? = some y ∧ x = name1 (g (i + k)) y
  | i, [], k, x, h => by simp [nameL] at h
  | i, y :: r, k, x, h => by
    simp only [nameL] at h
    cases k with
    | zero => simp only [List.getElem?_cons_zero, Option.some.injEq] at h; exact ⟨y, rfl, h.symm⟩
    | succ k =>
      obtain ⟨z, h1, h2⟩ := nameL_get (i := i + 1) (k := k) (by simpa using h)
      exact ⟨z, by simpa using h1, by rw [h2, show i + (k + 1) = i + 1 + k from by omega]⟩
theorem nameQ_sound (g : Nat → Nat) : ∀ {l : List Ent} {i : Nat} {F : List Ent → Prop}, nameQ l F → F (nameL g i l)
  | [], i, F, h => h
  | x :: r, i, F, h => by
    obtain ⟨o, nm⟩ := x
    cases o <;> cases nm <;> simp only [nameQ] at h <;>
      first
        | exact nameQ_sound g (i := i + 1) h
        | exact nameQ_sound g (i := i + 1) (h (g i))
theorem name1_obj (b : Nat) (x : Ent) : (name1 b x).obj = x.obj := by
  obtain ⟨o, nm⟩ := x
  cases o <;> cases nm <;> rfl

mutual
theorem exR_sound : ∀ {sh : RSh} {F : SV → Prop}, exR sh F → ∃ sv, F sv
  | .sh s, F, h => by
    simp only [exR] at h
    obtain ⟨_, sv, h1, _⟩ := ExV1_sound h
    exact ⟨sv, h1⟩
  | .row j, F, h => by obtain ⟨n, h⟩ := h; exact ⟨_, h⟩
  | .ptr j off, F, h => ⟨_, h⟩
  | .agg l, F, h => by obtain ⟨xs, h⟩ := exRs_sound h; exact ⟨_, h⟩
  | .tup l, F, h => by obtain ⟨xs, h⟩ := exRs_sound h; exact ⟨_, h⟩
theorem exRs_sound : ∀ {l : List RSh} {F : List SV → Prop}, exRs l F → ∃ xs, F xs
  | [], F, h => ⟨[], h⟩
  | sh :: l, F, h => by
    obtain ⟨x, h⟩ := exR_sound h
    obtain ⟨xs, h⟩ := exRs_sound h
    exact ⟨_, h⟩
end
theorem exE_sound {o : Option Ent} {sh : ESh} {F : Ent → Prop} (h : exE o sh F) : ∃ x, F x ∧ (x.name = none ∨ ∃ y, o = some y ∧ x.name = y.name) := by
  cases sh <;> simp only [exE] at h
  case same =>
    split at h
    · exact ⟨_, h, .inr ⟨_, rfl, rfl⟩⟩
    · exact h.elim
  case dead => exact ⟨_, h, .inl rfl⟩
  case row sz el => obtain ⟨xs, h⟩ := h; exact ⟨_, h, .inl rfl⟩
  case vec el =>
    obtain ⟨xs, h⟩ := h
    refine ⟨_, h, ?_⟩
    cases o with
    | none => exact .inl rfl
    | some y => exact .inr ⟨y, rfl, rfl⟩
  case cells l el =>
    obtain ⟨xs, h⟩ := exRs_sound h
    refine ⟨_, h, ?_⟩
    cases o with
    | none => exact .inl rfl
    | some y => exact .inr ⟨y, rfl, rfl⟩
theorem exEs_sound : ∀ {H : List Ent} {l : List ESh} {F : List Ent → Prop}, exEs H l F → ∃ H2, F H2 ∧ ∀ (j : Nat) (x : Ent), H2[j]? = some x → x.name = none ∨ ∃ y, H[j]? = some y ∧ x.name = y.name
  | H, [], F, h => ⟨[], by cases H <;> exact h, fun j x hx => by simp at hx⟩
  | [], sh :: r, F, h => by
    obtain ⟨x, h, hx⟩ := exE_sound h
    obtain ⟨H2, h, h2⟩ := exEs_sound h
    refine ⟨_, h, fun j y hy => ?_⟩
    cases j with
    | zero =>
      simp only [List.getElem?_cons_zero, Option.some.injEq] at hy
      subst hy
      rcases hx with hx | ⟨_, h0, _⟩
      · exact .inl hx
      · cases h0
    | succ j => exact (by simpa using h2 j y (by simpa using hy))
  | z :: H, sh :: r, F, h => by
    obtain ⟨x, h, hx⟩ := exE_sound h
    obtain ⟨H2, h, h2⟩ := exEs_sound h
    refine ⟨_, h, fun j y hy => ?_⟩
    cases j with
    | zero =>
      simp only [List.getElem?_cons_zero, Option.some.injEq] at hy
      subst hy
      rcases hx with hx | ⟨y', h0, h1⟩
      · exact .inl hx
      · cases h0; exact .inr ⟨_, rfl, h1⟩
    | succ j => exact (by simpa using h2 j y (by simpa using hy))

theorem moved_spec : ∀ {ids : List Nat} {H' : List Ent} {j id : Nat}, ids[j]? = some id → id ∉ moved ids H' → ∃ y b, H'[j]? = some y ∧ y.name = some b
  | [], _, j, id, h, _ => by simp at h
  | i :: r, [], j, id, h, hm => by
    exfalso
    simp only [moved, List.mem_cons, not_or] at hm
    cases j with
    | zero => simp only [List.getElem?_cons_zero, Option.some.injEq] at h; exact hm.1 h.symm
    | succ j =>
      obtain ⟨_, _, h1, _⟩ := moved_spec (ids := r) (H' := []) (j := j) (by simpa using h) hm.2
      simp at h1
  | i :: r, ⟨o, none⟩ :: l, j, id, h, hm => by
    simp only [moved, List.mem_cons, not_or] at hm
    cases j with
    | zero => simp only [List.getElem?_cons_zero, Option.some.injEq] at h; exact absurd h.symm hm.1
    | succ j => exact (by simpa using moved_spec (j := j) (by simpa using h) hm.2)
  | i :: r, ⟨o, some b⟩ :: l, j, id, h, hm => by
    simp only [moved] at hm
    cases j with
    | zero => exact ⟨_, b, rfl, rfl⟩
    | succ j => exact (by simpa using moved_spec (j := j) (by simpa using h) hm)

theorem newH_get {jl ids : List Nat} {H' : List Ent} {n : Nat} : ∀ {i : Nat} {l : List Ent} {k : Nat} {x : Ent}, (newH jl ids H' n i l)[k]? = some x →
    (∃ x0, l[k]? = some x0 ∧ ((memB (i + k) ids = true ∧ ((∃ y, H'[posOf (i + k) ids]? = some y ∧ x = renE (bck ids n) y) ∨ x = ⟨.dead, none⟩)) ∨ (memB (i + k) ids = false ∧ x = junkEL jl ids x0))) ∨
    (l.length ≤ k ∧ ∃ y, H'[ids.length + (k - l.length)]? = some y ∧ x = renE (bck ids n) y)
  | i, [], k, x, h => by
    simp only [newH, List.getElem?_map, List.getElem?_drop, Option.map_eq_some_iff] at h
    obtain ⟨y, h1, h2⟩ := h
    exact .inr ⟨Nat.zero_le _, y, by simpa using h1, h2.symm⟩
  | i, x0 :: l, k, x, h => by
    simp only [newH] at h
    cases k with
    | zero =>
      simp only [List.getElem?_cons_zero, Option.some.injEq] at h
      refine .inl ⟨x0, rfl, ?_⟩
      cases hm : memB i ids with
      | true =>
        rw [hm, cond_true] at h
        refine .inl ⟨by simp, ?_⟩
        split at h
        · rename_i y hy; exact .inl ⟨y, hy, h.symm⟩
        · exact .inr h.symm
      | false => rw [hm, cond_false] at h; exact .inr ⟨by simp, h.symm⟩
    | succ k =>
      have hi : i + 1 + k = i + (k + 1) := by omega
      rcases newH_get (i := i + 1) (k := k) (by simpa using h) with ⟨x1, h1, h2⟩ | ⟨h1, y, h2, h3⟩
      · rw [hi] at h2
        exact .inl ⟨x1, by simpa using h1, h2⟩
      · refine .inr ⟨by simpa using h1, y, ?_, h3⟩
        simp only [List.length_cons]
        rw [show k + 1 - (l.length + 1) = k - l.length from by omega]
        exact h2
theorem newH_len {jl ids : List Nat} {H' : List Ent} {n : Nat} : ∀ {i : Nat} {l : List Ent}, l.length ≤ (newH jl ids H' n i l).length
  | i, [] => Nat.zero_le _
  | i, x :: l => by simp only [newH, List.length_cons]; exact Nat.succ_le_succ newH_len

theorem junkEL_alive (jl ids : List Nat) (x : Ent) : alive (junkEL jl ids x).obj = alive x.obj ∧ (junkEL jl ids x).name = x.name := by
  unfold junkEL
  split
  · rename_i h; simp [h, alive]
  · exact ⟨rfl, rfl⟩

/-- What an entry holds under other names. -/
theorem holds_ren {e1 : Env} {f : Nat → Nat} {id j : Nat} {h h' : Nat → Option Obj} {x : Ent} (hb : e1.blk j = e.blk id) (hn : e1.nil j = e.nil id) (hc : e1.cap j = e.cap id)
    (hh : e.nil id = false → ∀ o, h (e.blk id) = some o → h' (e.blk id) = some o) (hr : ∀ sv i, (∃ (cs : List SV) (el : TypeId) (k : Nat), x.obj = .cells cs el ∧ cs[k]? = some sv) → refs i sv = true → e1.blk (f i) = e.blk i ∧ e1.nil (f i) = e.nil i ∧ (rslR i sv = true → e1.cap (f i) = e.cap i))
    (H : holds e id h x.obj) : holds e1 j h' (renE f x).obj := by
  unfold renE
  cases hx : x.obj with
  | cells cs el =>
    rw [hx] at H
    obtain ⟨h0, cc, h1, h2, h3⟩ := H
    refine ⟨hn ▸ h0, cc, by rw [hb]; exact hh h0 _ h1, by simpa [renFL_eq] using h2, fun k sv hk hj => ?_⟩
    rw [renFL_eq, List.getElem?_map, Option.map_eq_some_iff] at hk
    obtain ⟨sv0, hk0, rfl⟩ := hk
    obtain ⟨d1, d2⟩ := den_ren (e1 := e1) (e := e) (f := f) (x := sv0) (fun i hi => hr sv0 i ⟨cs, el, k, hx, hk0⟩ hi)
    rw [d2] at hj
    rw [d1]
    exact h3 k sv0 hk0 hj
  | vec xs el => rw [hx] at H; simp only [hx]; exact ⟨hn ▸ H.1, by rw [hb]; exact hh H.1 _ H.2⟩
  | row xs sz el =>
    rw [hx] at H
    simp only [hx]
    refine ⟨H.1, H.2.1, ?_⟩
    rw [hb, hn, hc]
    rcases H.2.2 with h | ⟨h0, cc, h3, h4⟩
    · exact .inl h
    · exact .inr ⟨h0, cc, hh h0 _ h3, h4⟩
  | raw o => rw [hx] at H; simp only [hx]; exact ⟨hn ▸ H.1, by rw [hb]; exact hh H.1 _ H.2⟩
  | dead => simp only [hx]; trivial

theorem holds_nil {id : Nat} {h : Nat → Option Obj} {o : EO} (H : holds e id h o) (hr : ∀ xs sz el, o ≠ .row xs sz el) (hal : alive o = true) : e.nil id = false := by
  cases o with
  | cells cs el => exact H.1
  | vec xs el => exact H.1
  | row xs sz el => exact absurd rfl (hr xs sz el)
  | raw o => exact H.1
  | dead => cases hal
theorem holds_blk {id : Nat} {h : Nat → Option Obj} {o : EO} (H : holds e id h o) (hal : alive o = true) (hn : e.nil id = false) : h (e.blk id) ≠ none := by
  cases o with
  | cells cs el => obtain ⟨_, cc, h1, _⟩ := H; rw [h1]; simp
  | vec xs el => rw [H.2]; simp
  | row xs sz el =>
    rcases H.2.2 with h | ⟨_, cc, h1, _⟩
    · rw [h.1] at hn; cases hn
    · rw [h1]; simp
  | raw o => rw [H.2]; simp
  | dead => cases hal

end
end Go.SE
