/- Part of a proof by the rules of the symbolic walk (see the law's own text): contracts of functions of the program. -/
import Derived.Test.YtnjbojekknpknaaLR18
open Go Go.Proofs Go.SE Go.RowKit
set_option linter.unusedVariables false
/-- A request with one field set to another value. -/
def bentR (r : Rq) (t : Int) : Rq :=
  if t = 1 then { r with what := 1 } else if t = 2 then { r with name := ⟨#[120]⟩ } else if t = 3 then { r with p3 := 5 } else if t = 4 then { r with p4 := 5 } else if t = 5 then { r with p5 := 5 } else if t = 6 then { r with p6 := 5 }
  else if t = 7 then { r with p7 := 5 } else if t = 8 then { r with p8 := 5 } else if t = 9 then { r with p9 := 5 } else if t = 10 then { r with val := 5 } else { r with fed := [5] }
def zeroAt (r : Rq) (t : Int) : Prop :=
  if t = 1 then r.what = 0 else if t = 2 then r.name = ⟨#[]⟩ else if t = 3 then r.p3 = 0 else if t = 4 then r.p4 = 0 else if t = 5 then r.p5 = 0 else if t = 6 then r.p6 = 0
  else if t = 7 then r.p7 = 0 else if t = 8 then r.p8 = 0 else if t = 9 then r.p9 = 0 else if t = 10 then r.val = 0 else r.fed = []
theorem zero_copy (r h : Rq) {t s : Int} (ht : 1 ≤ t ∧ t ≤ 11) (hs : 1 ≤ s ∧ s ≤ 11) (hne : s ≠ t) : zeroAt (copyT r h s) t = zeroAt h t := by
  rcases (by omega : t = 1 ∨ t = 2 ∨ t = 3 ∨ t = 4 ∨ t = 5 ∨ t = 6 ∨ t = 7 ∨ t = 8 ∨ t = 9 ∨ t = 10 ∨ t = 11) with rfl | rfl | rfl | rfl | rfl | rfl | rfl | rfl | rfl | rfl | rfl
  all_goals
    rcases (by omega : s = 1 ∨ s = 2 ∨ s = 3 ∨ s = 4 ∨ s = 5 ∨ s = 6 ∨ s = 7 ∨ s = 8 ∨ s = 9 ∨ s = 10 ∨ s = 11) with rfl | rfl | rfl | rfl | rfl | rfl | rfl | rfl | rfl | rfl | rfl
    all_goals first | rfl | exact absurd rfl hne
theorem zero_fold (r : Rq) {t : Int} (ht : 1 ≤ t ∧ t ≤ 11) : ∀ (l : List Int) (h : Rq), (∀ s ∈ l, 1 ≤ s ∧ s ≤ 11) → t ∉ l → zeroAt (l.foldl (copyT r) h) t = zeroAt h t
  | [], h, _, _ => rfl
  | s :: l, h, hl, hn => by
    rw [List.foldl_cons, zero_fold r ht l _ (fun x hx => hl x (by simp [hx])) (fun hx => hn (by simp [hx])), zero_copy r h ht (hl s (by simp)) (fun he => hn (by simp [he]))]
theorem had_zero (r : Rq) {t : Int} (ht : 1 ≤ t ∧ t ≤ 11) : zeroAt (had0 r) t := by
  rcases (by omega : t = 1 ∨ t = 2 ∨ t = 3 ∨ t = 4 ∨ t = 5 ∨ t = 6 ∨ t = 7 ∨ t = 8 ∨ t = 9 ∨ t = 10 ∨ t = 11) with rfl | rfl | rfl | rfl | rfl | rfl | rfl | rfl | rfl | rfl | rfl
  all_goals rfl
theorem bent_zero (r : Rq) {t : Int} (ht : 1 ≤ t ∧ t ≤ 11) : ¬ zeroAt (bentR r t) t := by
  rcases (by omega : t = 1 ∨ t = 2 ∨ t = 3 ∨ t = 4 ∨ t = 5 ∨ t = 6 ∨ t = 7 ∨ t = 8 ∨ t = 9 ∨ t = 10 ∨ t = 11) with rfl | rfl | rfl | rfl | rfl | rfl | rfl | rfl | rfl | rfl | rfl
  · exact fun h => absurd (show (1 : Int) = 0 from h) (by decide)
  · exact fun h => absurd (congrArg ByteArray.size (show (⟨#[120]⟩ : ByteArray) = ⟨#[]⟩ from h)) (by decide)
  · exact fun h => absurd (show (5 : Int) = 0 from h) (by decide)
  · exact fun h => absurd (show (5 : Int) = 0 from h) (by decide)
  · exact fun h => absurd (show (5 : Int) = 0 from h) (by decide)
  · exact fun h => absurd (show (5 : Int) = 0 from h) (by decide)
  · exact fun h => absurd (show (5 : Int) = 0 from h) (by decide)
  · exact fun h => absurd (show (5 : Int) = 0 from h) (by decide)
  · exact fun h => absurd (show (5 : Int) = 0 from h) (by decide)
  · exact fun h => absurd (show (5 : Int) = 0 from h) (by decide)
  · exact fun h => absurd (show ([5] : List Int) = [] from h) (by decide)
/-- A field that is set, and that the request does not have, makes it wrong. -/
theorem right_not {r : Rq} (hr : okRq r) {l : List Int} (hl : tagL r.kind r.what = some l) {t : Int} (ht : 1 ≤ t ∧ t ≤ 11) (hn : t ∉ l) (hz : ¬ zeroAt r t) : rightR r = false := by
  cases h : rightR r with
  | false => rfl
  | true =>
    obtain ⟨_, hf⟩ := right_run hr h
    have htr : tagsR r = l := by rw [tagsR, hl]; rfl
    rw [htr] at hf
    have := zero_fold r ht l (had0 r) (tagL_ok hl).1 hn
    rw [hf] at this
    exact absurd (this ▸ had_zero r ht) hz
theorem bent_copy (r h : Rq) {t s : Int} (ht : 1 ≤ t ∧ t ≤ 11) (hs : 1 ≤ s ∧ s ≤ 11) : copyT (bentR r t) (bentR h t) s = bentR (copyT r h s) t ∧ (s ≠ t → copyT (bentR r t) h s = copyT r h s) ∧ (s = t → copyT (bentR r t) h s = bentR (copyT r h s) t) := by
  rcases (by omega : t = 1 ∨ t = 2 ∨ t = 3 ∨ t = 4 ∨ t = 5 ∨ t = 6 ∨ t = 7 ∨ t = 8 ∨ t = 9 ∨ t = 10 ∨ t = 11) with rfl | rfl | rfl | rfl | rfl | rfl | rfl | rfl | rfl | rfl | rfl
  all_goals
    rcases (by omega : s = 1 ∨ s = 2 ∨ s = 3 ∨ s = 4 ∨ s = 5 ∨ s = 6 ∨ s = 7 ∨ s = 8 ∨ s = 9 ∨ s = 10 ∨ s = 11) with rfl | rfl | rfl | rfl | rfl | rfl | rfl | rfl | rfl | rfl | rfl
    all_goals first | exact ⟨rfl, fun h => absurd rfl h, fun _ => rfl⟩ | exact ⟨rfl, fun _ => rfl, fun h => absurd h (by decide)⟩
theorem bent_fold (r : Rq) {t : Int} (ht : 1 ≤ t ∧ t ≤ 11) : ∀ (l : List Int) (h : Rq), (∀ s ∈ l, 1 ≤ s ∧ s ≤ 11) → l.foldl (copyT (bentR r t)) (bentR h t) = bentR (l.foldl (copyT r) h) t ∧ (t ∈ l → l.foldl (copyT (bentR r t)) h = bentR (l.foldl (copyT r) h) t)
  | [], h, _ => ⟨rfl, fun h => by cases h⟩
  | s :: l, h, hl => by
    obtain ⟨g1, g2, g3⟩ := bent_copy r h ht (hl s (by simp))
    have hl' : ∀ x ∈ l, 1 ≤ x ∧ x ≤ 11 := fun x hx => hl x (by simp [hx])
    rw [List.foldl_cons, List.foldl_cons, List.foldl_cons, g1]
    refine ⟨(bent_fold r ht l _ hl').1, fun hm => ?_⟩
    by_cases he : s = t
    · rw [g3 he]; exact (bent_fold r ht l _ hl').1
    · rw [g2 he]
      exact (bent_fold r ht l _ hl').2 (by simpa [Ne.symm he] using hm)
theorem bent_had (r : Rq) {t : Int} (ht : 2 ≤ t ∧ t ≤ 11) : had0 (bentR r t) = had0 r ∧ (bentR r t).kind = r.kind ∧ (bentR r t).what = r.what := by
  rcases (by omega : t = 2 ∨ t = 3 ∨ t = 4 ∨ t = 5 ∨ t = 6 ∨ t = 7 ∨ t = 8 ∨ t = 9 ∨ t = 10 ∨ t = 11) with rfl | rfl | rfl | rfl | rfl | rfl | rfl | rfl | rfl | rfl
  all_goals exact ⟨rfl, rfl, rfl⟩
theorem bent_okT {r : Rq} {t s : Int} (ht : 2 ≤ t ∧ t ≤ 11) (hs : 1 ≤ s ∧ s ≤ 11) (h : okT r s = true) : okT (bentR r t) s = true := by
  rcases (by omega : t = 2 ∨ t = 3 ∨ t = 4 ∨ t = 5 ∨ t = 6 ∨ t = 7 ∨ t = 8 ∨ t = 9 ∨ t = 10 ∨ t = 11) with rfl | rfl | rfl | rfl | rfl | rfl | rfl | rfl | rfl | rfl
  all_goals
    rcases (by omega : s = 1 ∨ s = 2 ∨ s = 3 ∨ s = 4 ∨ s = 5 ∨ s = 6 ∨ s = 7 ∨ s = 8 ∨ s = 9 ∨ s = 10 ∨ s = 11) with rfl | rfl | rfl | rfl | rfl | rfl | rfl | rfl | rfl | rfl | rfl
    all_goals first | exact h | exact decide_eq_true (fun _ _ => show (0 : Int) ≤ 5 by decide)
theorem bent_size {r : Rq} {t : Int} (h1 : r.name.size ≤ 100) (h2 : r.fed.length ≤ 100) : (bentR r t).name.size ≤ 100 ∧ (bentR r t).fed.length ≤ 100 := by
  unfold bentR
  repeat' split
  all_goals first | exact ⟨h1, h2⟩ | exact ⟨show (1 : Nat) ≤ 100 by decide, h2⟩ | exact ⟨h1, show (1 : Nat) ≤ 100 by decide⟩
theorem bent_okRq {r : Rq} (h : okRq r) (t : Int) : okRq (bentR r t) := by
  obtain ⟨g1, g2, g3, g4, g5, g6, g7, g8, g9, g10, g11⟩ := h
  have h5 : i64R 5 := by unfold i64R; omega
  have hb : byteL [5] := fun z hz => by
    have := List.mem_singleton.1 hz
    omega
  unfold bentR
  repeat' split
  all_goals first | exact ⟨g1, g2, g3, g4, g5, g6, g7, g8, g9, g10, g11⟩ | exact ⟨g1, show (0 : Int) ≤ 1 ∧ (1 : Int) ≤ 255 by omega, g3, g4, g5, g6, g7, g8, g9, g10, g11⟩ | exact ⟨g1, g2, h5, g4, g5, g6, g7, g8, g9, g10, g11⟩ | exact ⟨g1, g2, g3, h5, g5, g6, g7, g8, g9, g10, g11⟩ | exact ⟨g1, g2, g3, g4, h5, g6, g7, g8, g9, g10, g11⟩ | exact ⟨g1, g2, g3, g4, g5, h5, g7, g8, g9, g10, g11⟩ | exact ⟨g1, g2, g3, g4, g5, g6, h5, g8, g9, g10, g11⟩ | exact ⟨g1, g2, g3, g4, g5, g6, g7, h5, g9, g10, g11⟩ | exact ⟨g1, g2, g3, g4, g5, g6, g7, g8, h5, g10, g11⟩ | exact ⟨g1, g2, g3, g4, g5, g6, g7, g8, g9, h5, g11⟩ | exact ⟨g1, g2, g3, g4, g5, g6, g7, g8, g9, g10, hb⟩
/-- A field of its own may be anything; another one may not be set. -/
theorem right_bent {r : Rq} (hr : okRq r) (h : rightR r = true) (h1 : r.name.size ≤ 100) (h2 : r.fed.length ≤ 100) {t : Int} (ht : 2 ≤ t ∧ t ≤ 11) : rightR (bentR r t) = decide (t ∈ tagsR r) := by
  have htg := (right_tag h).1
  obtain ⟨k1, k2, k3⟩ := bent_had r ht
  have htb : tagL (bentR r t).kind (bentR r t).what = some (tagsR r) := by rw [k2, k3, htg]
  have ht1 : 1 ≤ t ∧ t ≤ 11 := ⟨by omega, ht.2⟩
  by_cases hm : t ∈ tagsR r
  · rw [decide_eq_true hm, right_eq (bent_okRq hr t)]
    obtain ⟨ha, hf⟩ := right_run hr h
    obtain ⟨s1, s2⟩ := bent_size (t := t) h1 h2
    have hlt := (tagL_ok htg).1
    refine rightS_of htb (by omega) (by omega) (List.all_eq_true.2 fun s hs => bent_okT ht (hlt s hs) (List.all_eq_true.1 ha s hs)) ?_
    rw [k1, (bent_fold r ht1 _ _ hlt).2 hm, hf]
  · rw [decide_eq_false hm]
    exact right_not (bent_okRq hr t) htb ht1 hm (bent_zero r ht1)
theorem right_bent1 {r : Rq} (hr : okRq r) (h : rightR r = true) (h7 : r.kind ≠ 7) : rightR (bentR r 1) = false := by
  rcases tag_seven (right_tag h).1 with ⟨k7, _⟩ | ⟨_, hn, ha⟩
  · exact absurd k7 h7
  · exact right_not (bent_okRq hr 1) (l := tagsR r) (ha 1) (by omega) (fun hm => hn 1 hm rfl) (bent_zero r (by omega))
theorem tags_up {k w : Int} {l : List Int} (h : tagL k w = some l) {j : Nat} {t s : Int} (ht : l[j + 1]? = some t) (hs : l[j]? = some s) : s < t := by
  have := tagL_shape h
  have up : ∀ l ∈ shapesL, ∀ j < 4, ∀ s ∈ l[j]?, ∀ t ∈ l[j + 1]?, s < t := by decide
  have hj : j < 4 := by
    have := (List.getElem?_eq_some_iff.1 hs).1
    have := (tagL_ok h).2
    omega
  exact up l this j hj s hs t ht
