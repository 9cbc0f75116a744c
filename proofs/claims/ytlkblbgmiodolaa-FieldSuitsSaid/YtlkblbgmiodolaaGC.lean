/- Part of a proof by the rules of the symbolic walk (see the law's own text): contracts of functions of the program. -/
import Derived.Test.YtlkblbgmiodolaaGB
open Go Go.Proofs Go.SE Go.RowKit
set_option linter.unusedVariables false
/-! Sets. -/
theorem rightStep_more : ∀ {l : List (Int × List Int)} {last left left' : Int}, left ≤ left' → rightStep last left l = true → rightStep last left' l = true
  | [], _, _, _, _, _ => rfl
  | f :: r, last, left, left', hl, h => by
    rw [rightStep] at h ⊢
    split at h
    · cases h
    · rename_i hc
      rw [if_neg (by omega)]
      exact rightStep_more (by omega) h
theorem setR_true (f : Int × List Int) : ∀ {l : List (Int × List Int)} {last left : Int}, f.1 ≤ last → rightStep last left l = true → setR f true l = l
  | [], _, _, _, _ => rfl
  | x :: r, last, left, hf, h => by
    rw [rightStep] at h
    split at h
    · cases h
    · rename_i hc
      rw [setR, if_pos (by omega), setR_true f (by omega) h]
theorem setR_right (f : Int × List Int) (h200 : f.1 ≤ 200) : ∀ {l : List (Int × List Int)} {last left : Int}, 0 ≤ left → last < f.1 → rightStep last left l = true → rightStep last (left + f.2.length) (setR f false l) = true
  | [], last, left, h0, hf, _ => by
    rw [setR, rightStep, if_neg (by omega)]; rfl
  | x :: r, last, left, h0, hf, h => by
    rw [rightStep] at h
    split at h
    · cases h
    · rename_i hc
      rw [setR]
      split
      · rename_i hle
        rw [rightStep, if_neg (by omega)]
        split
        · rename_i hne
          rw [setR_true f (by omega) h, rightStep, if_neg (by omega)]
          exact rightStep_more (by omega) h
        · rename_i hne
          have hne : x.1 = f.1 := by simpa using hne
          rw [setR_true f (by omega) h, ← hne]
          exact rightStep_more (by omega) h
      · rename_i hle
        rw [rightStep, if_neg (by omega)]
        have := setR_right f h200 (by omega) (by omega) h
        rw [show left - (x.2.length : Int) + f.2.length = left + f.2.length - x.2.length by omega] at this
        exact this
theorem setR_other (f : Int × List Int) {t : Int} (ht : t ≠ f.1) : ∀ (d : Bool) (l : List (Int × List Int)), (setR f d l).find? (fun g => g.1 == t) = l.find? fun g => g.1 == t
  | true, [] => rfl
  | false, [] => by
    have : (f.1 == t) = false := by simpa using Ne.symm ht
    simp [setR, this]
  | true, x :: r => by
    have ih := setR_other f ht true r
    rw [setR]
    split
    · rw [List.find?_cons, List.find?_cons, ih]
    · rename_i hx
      have hx : x.1 = f.1 := by simpa using hx
      have : (x.1 == t) = false := by rw [hx]; simpa using Ne.symm ht
      rw [ih, List.find?_cons, this]
  | false, x :: r => by
    have ih := setR_other f ht true r
    have ih2 := setR_other f ht false r
    have hft : (f.1 == t) = false := by simpa using Ne.symm ht
    rw [setR]
    by_cases hle : f.1 ≤ x.1
    · rw [if_pos hle, List.find?_cons_of_neg (by simp [hft])]
      by_cases hx : x.1 = f.1
      · have : (x.1 == t) = false := by rw [hx]; exact hft
        rw [if_neg (by simpa using hx), ih, List.find?_cons_of_neg (by simp [this])]
      · rw [if_pos hx, List.find?_cons, List.find?_cons, ih]
    · rw [if_neg hle, List.find?_cons, List.find?_cons, ih2]
theorem setR_self (f : Int × List Int) : ∀ (l : List (Int × List Int)), (setR f false l).find? (fun g => g.1 == f.1) = some f
  | [] => by simp [setR]
  | x :: r => by
    rw [setR]
    split
    · rw [List.find?_cons]; simp
    · rename_i hx
      rw [List.find?_cons_of_neg (by simp; omega), setR_self f r]
theorem setR_count (f : Int × List Int) : ∀ {l : List (Int × List Int)} {last left : Int}, rightStep last left l = true →
    ((l.find? fun g => g.1 == f.1).isSome = true → (setR f false l).length = l.length) ∧ ((l.find? fun g => g.1 == f.1).isSome = false → (setR f false l).length = l.length + 1)
  | [], _, _, _ => ⟨fun h => by simp at h, fun _ => rfl⟩
  | x :: r, last, left, h => by
    rw [rightStep] at h
    split at h
    · cases h
    · rename_i hc
      rw [setR]
      by_cases hle : f.1 ≤ x.1
      · rw [if_pos hle]
        by_cases hx : x.1 = f.1
        · have e : (x.1 == f.1) = true := by simpa using hx
          rw [List.find?_cons_of_pos (by simpa using hx), if_neg (by simpa using hx), setR_true f (by omega) h]
          exact ⟨fun _ => rfl, fun h => by simp at h⟩
        · have e : (x.1 == f.1) = false := by simpa using hx
          rw [List.find?_cons_of_neg (by simpa using hx), if_pos hx, setR_true f (by omega) h]
          have hn : r.find? (fun g => g.1 == f.1) = none := by
            rw [List.find?_eq_none]
            intro g hg
            have := right_at h g hg
            simp; omega
          rw [hn]
          exact ⟨fun h => by simp at h, fun _ => by simp⟩
      · rw [if_neg hle, List.find?_cons_of_neg (by simp; omega)]
        have ih := setR_count f h
        simp only [List.length_cons]
        exact ⟨fun g => by rw [ih.1 g], fun g => by rw [ih.2 g]⟩
theorem setR_there : ∀ {l : List (Int × List Int)} {last left : Int} {j : Nat} {f : Int × List Int}, rightStep last left l = true → l[j]? = some f → setR f false l = l
  | [], _, _, _, _, _, hj => by simp at hj
  | x :: r, last, left, 0, f, h, hj => by
    simp at hj
    subst hj
    rw [rightStep] at h
    split at h
    · cases h
    · rw [setR, if_pos (Int.le_refl _), if_neg (by simp), setR_true x (Int.le_refl _) h]
  | x :: r, last, left, j + 1, f, h, hj => by
    have hj : r[j]? = some f := by simpa using hj
    rw [rightStep] at h
    split at h
    · cases h
    · have := right_at h f (List.mem_of_getElem? hj)
      rw [setR, if_neg (by omega), setR_there h hj]
theorem setR_front : ∀ {l : List (Int × List Int)} {last left : Int} {j : Nat} {f : Int × List Int}, rightStep last left l = true → l[j]? = some f → setR f false (l.drop (j + 1)) = l.drop j := by
  intro l
  induction l with
  | nil => intro last left j f _ hj; simp at hj
  | cons x r ih =>
    intro last left j f h hj
    rw [rightStep] at h
    split at h
    · cases h
    · cases j with
      | zero =>
        simp at hj
        subst hj
        rw [List.drop_succ_cons, List.drop_zero, List.drop_zero]
        cases r with
        | nil => rfl
        | cons y s =>
          rw [rightStep] at h
          split at h
          · cases h
          · rw [setR, if_pos (by omega), if_pos (by omega), setR_true x (by omega) h]
      | succ j =>
        rw [List.drop_succ_cons, List.drop_succ_cons]
        exact ih h (by simpa using hj)
theorem rightStep_drop : ∀ {l : List (Int × List Int)} {last left : Int} (j : Nat), 0 ≤ last → rightStep last left l = true → rightStep 0 left (l.drop j) = true
  | [], _, _, _, _, _ => by simp [rightStep]
  | x :: r, last, left, 0, h0, h => by
    rw [List.drop_zero]
    rw [rightStep] at h ⊢
    split at h
    · cases h
    · rw [if_neg (by omega)]; exact h
  | x :: r, last, left, j + 1, h0, h => by
    rw [rightStep] at h
    split at h
    · cases h
    · rename_i hc
      rw [List.drop_succ_cons]
      exact rightStep_more (by omega) (rightStep_drop j (by omega) h)
theorem rightF_drop {l : List (Int × List Int)} (h : rightF l = true) (j : Nat) : rightF (l.drop j) = true := by
  obtain ⟨h1, h2⟩ := rightF_iff.1 h
  exact rightF_iff.2 ⟨rightStep_drop j (by omega) h1, by simp; omega⟩
theorem rightStep_take : ∀ {l : List (Int × List Int)} {last left : Int} (j : Nat), rightStep last left l = true → rightStep last left (l.take j) = true
  | [], _, _, _, _ => by simp [rightStep]
  | x :: r, last, left, 0, h => rfl
  | x :: r, last, left, j + 1, h => by
    rw [rightStep] at h
    split at h
    · cases h
    · rename_i hc
      rw [List.take_succ_cons, rightStep, if_neg (by omega)]
      exact rightStep_take j h
theorem rightF_take {l : List (Int × List Int)} (h : rightF l = true) (j : Nat) : rightF (l.take j) = true := by
  obtain ⟨h1, h2⟩ := rightF_iff.1 h
  exact rightF_iff.2 ⟨rightStep_take j h1, by simp; omega⟩
theorem madeV_step (gs : List Int) (ts : List (List Int)) : rightStep 0 2000 (madeV gs ts) = true := by
  have h20 : (gs.take 20).length ≤ 20 := by simp; omega
  exact madeF_right ts _ 0 0 0 2000 (by omega) (by omega) (by omega)
/-! Cuts. -/
def lastT : Int → List (Int × List Int) → Int
  | last, [] => last
  | _, f :: r => lastT f.1 r
def leftT : Int → List (Int × List Int) → Int
  | left, [] => left
  | left, f :: r => leftT (left - f.2.length) r
theorem goF_tail : ∀ (r : List (Int × List Int)) (pre T : List Int) (last left : Int) (out : List (Int × List Int)), left ≤ 16384 → rightStep last left r = true → out.length + r.length ≤ 64 →
    goF (yields ((pre ++ writeF r) ++ T) pre.length) last left out = goF (yields ((pre ++ writeF r) ++ T) (pre ++ writeF r).length) (lastT last r) (leftT left r) (out ++ r)
  | [], pre, T, last, left, out, _, _, _ => by simp [writeF, lastT, leftT]
  | f :: r, pre, T, last, left, out, hl, h, hn => by
    rw [rightStep] at h
    split at h
    · cases h
    · rename_i hc
      have e1 : writeF [f] = f.1 :: (formN f.2.length ++ f.2) := by rw [writeF_cons]; simp [writeF]
      have e2 : pre ++ writeF (f :: r) = (pre ++ writeF [f]) ++ writeF r := by rw [writeF_cons, e1]; simp
      have e3 : (pre ++ writeF (f :: r)) ++ T = pre ++ (f.1 :: (formN f.2.length ++ (f.2 ++ (writeF r ++ T)))) := by rw [writeF_cons]; simp
      have hn2 : (pre ++ writeF [f]).length = pre.length + 1 + (formN f.2.length).length + f.2.length := by rw [e1]; simp; omega
      have hy : yields ((pre ++ writeF (f :: r)) ++ T) pre.length = (pre.length, f) :: yields ((pre ++ writeF (f :: r)) ++ T) (pre ++ writeF [f]).length := by
        rw [yields, dif_pos (by rw [e3]; simp)]
        have hfs := fstep_form pre (writeF r ++ T) f (by omega)
        rw [← e3] at hfs
        rw [hfs]
        simp only
        rw [dif_pos (by omega), hn2]
        congr 2
        rw [e3, List.getElem?_append_right (by omega), Nat.sub_self]; rfl
      rw [hy, goF, if_neg (by simp only; simp at hn; omega)]
      simp only
      rw [e2]
      rw [goF_tail r (pre ++ writeF [f]) T f.1 (left - f.2.length) (out ++ [f]) (by omega) h (by simp at hn ⊢; omega)]
      simp [lastT, leftT]
theorem lastT_ge : ∀ {r : List (Int × List Int)} {last left : Int}, rightStep last left r = true → last ≤ lastT last r
  | [], _, _, _ => Int.le_refl _
  | f :: r, last, left, h => by
    rw [rightStep] at h
    split at h
    · cases h
    · have := lastT_ge h
      rw [lastT]
      omega
/-- A beginning of a field's form that is not all of it is none. -/
theorem fstep_cut (pre P : List Int) (f : Int × List Int) (hf : f.2.length ≤ 16384) (hb : byteL (pre ++ P)) {m : Nat} (hP : P = (f.1 :: (formN f.2.length ++ f.2)).take (m + 1)) (hm : m < (formN f.2.length).length + f.2.length) :
    fstep (pre ++ P) pre.length = none := by
  cases h : fstep (pre ++ P) pre.length with
  | none => rfl
  | some p =>
    exfalso
    obtain ⟨_, g2, g3, g4⟩ := fstep_some hb h
    have hd : (pre ++ P).drop (pre.length + 1) = (formN f.2.length ++ f.2).take m := by
      rw [hP, ← List.drop_drop, List.drop_left]; rfl
    rw [hd] at g4
    have hall : formN p.1.length ++ ((p.1 ++ (pre ++ P).drop p.2) ++ (formN f.2.length ++ f.2).drop m) = formN f.2.length ++ (f.2 ++ []) := by
      rw [← List.append_assoc, ← g4, List.take_append_drop, List.append_nil]
    have r1 := readN_form [] ((p.1 ++ (pre ++ P).drop p.2) ++ (formN f.2.length ++ f.2).drop m) p.1.length (by omega)
    have r2 := readN_form [] (f.2 ++ []) f.2.length (by omega)
    rw [List.nil_append, hall] at r1
    rw [List.nil_append] at r2
    have r3 := r1.symm.trans r2
    injection r3 with r3 _
    have hn : p.1.length = f.2.length := by omega
    rw [hn, List.append_nil] at hall
    have := List.append_cancel_left hall
    have hl := congrArg List.length this
    simp at hl
    omega
theorem cut_at {l : List (Int × List Int)} {j k : Nat} (hj : (writeF (l.take j)).length = k) : (writeF l).take k = writeF (l.take j) := by
  have : writeF l = writeF (l.take j) ++ writeF (l.drop j) := by rw [← writeF_app, List.take_append_drop]
  rw [this, ← hj, List.take_left]
theorem read_cut {l : List (Int × List Int)} (hr : rightF l = true) (hok : ∀ f ∈ l, okFld f) {j k : Nat} (h1 : (writeF (l.take j)).length ≤ k) (h2 : j < l.length → k < (writeF (l.take (j + 1))).length) (h3 : k ≤ (writeF l).length) (hjl : j ≤ l.length) :
    readF ((writeF l).take k) = if (writeF (l.take j)).length = k then (l.take j, 0, 0) else ([], ((writeF (l.take j)).length : Int), 21) := by
  split
  · rename_i he
    rw [cut_at he, read_write (rightF_take hr j)]
  · rename_i hne
    have hjlt : j < l.length := by
      rcases Nat.lt_or_ge j l.length with h | h
      · exact h
      · rw [List.take_of_length_le h] at h1 hne
        omega
    have h2 := h2 hjlt
    obtain ⟨hs, h64⟩ := rightF_iff.1 (rightF_take hr j)
    have hf : l[j]? = some l[j] := List.getElem?_eq_getElem hjlt
    generalize l[j] = f at hf
    have hfr := right_at (rightF_iff.1 hr).1 f (List.mem_of_getElem? hf)
    have hwb := write_bytes hr hok
    have e1 : writeF [f] = f.1 :: (formN f.2.length ++ f.2) := by rw [writeF_cons]; simp [writeF]
    have hall : writeF l = writeF (l.take j) ++ ((f.1 :: (formN f.2.length ++ f.2)) ++ writeF (l.drop (j + 1))) := by
      have : l = l.take j ++ ([f] ++ l.drop (j + 1)) := by
        rw [List.singleton_append, ← drop_cons hf, List.take_append_drop]
      rw [← e1, ← writeF_app, ← writeF_app, ← this]
    rw [take_succ' hf, writeF_app, List.length_append, e1] at h2
    simp only [List.length_cons, List.length_append] at h2
    obtain ⟨m, hm⟩ : ∃ m, k = (writeF (l.take j)).length + (m + 1) := ⟨k - (writeF (l.take j)).length - 1, by omega⟩
    have hcut : (writeF l).take k = writeF (l.take j) ++ (f.1 :: (formN f.2.length ++ f.2)).take (m + 1) := by
      rw [hall, hm, List.take_length_add_append, List.take_append_of_le_length (by simp; omega)]
    have hB : byteL ((writeF l).take k) := fun z hz => hwb z (List.mem_of_mem_take hz)
    have hfc := fstep_cut (writeF (l.take j)) ((f.1 :: (formN f.2.length ++ f.2)).take (m + 1)) f (by omega) (hcut ▸ hB) rfl (by omega)
    have hg := goF_tail (l.take j) [] ((f.1 :: (formN f.2.length ++ f.2)).take (m + 1)) 0 16384 [] (by omega) hs (by simp at h64 ⊢; omega)
    simp only [List.nil_append, List.length_nil] at hg
    have hl0 := lastT_ge hs
    have hlen := write_len2 (by omega) (by omega) hs
    have hkl : ((writeF l).take k).length = k := by simp; omega
    have hwl := write_len2 (by omega) (by omega) (rightF_iff.1 hr).1
    have hl64 := (rightF_iff.1 hr).2
    have hy : yields (writeF (l.take j) ++ (f.1 :: (formN f.2.length ++ f.2)).take (m + 1)) (writeF (l.take j)).length = [((writeF (l.take j)).length, (0, []))] := by
      rw [yields, dif_pos (by simp), hfc]
    rw [hy, goF, if_pos (.inl hl0)] at hg
    rw [readF, if_neg (by omega), hcut, hg, if_pos (by simp)]
theorem read_twice {l : List (Int × List Int)} (hr : rightF l = true) (hsm : (writeF l).length ≤ 16000) {f : Int × List Int} (hf : l[0]? = some f) : readF (writeF l ++ [f.1, 0]) = ([], ((writeF l).length : Int), 21) := by
  obtain ⟨hs, h64⟩ := rightF_iff.1 hr
  have hg := goF_tail l [] [f.1, 0] 0 16384 [] (by omega) hs (by simp; omega)
  simp only [List.nil_append, List.length_nil] at hg
  have hwl := write_len2 (by omega) (by omega) hs
  have hy : yields (writeF l ++ [f.1, 0]) (writeF l).length = (((writeF l).length, (f.1, [])) :: yields (writeF l ++ [f.1, 0]) ((writeF l).length + 2)) := by
    have e : writeF l ++ [f.1, 0] = writeF l ++ ((f.1, ([] : List Int)).1 :: (formN ([] : List Int).length ++ ([] ++ []))) := by simp [formN]
    have hfs := fstep_form (writeF l) [] (f.1, []) (by simp)
    rw [← e] at hfs
    rw [yields, dif_pos (by simp), hfs]
    simp only [List.length_nil, Nat.add_zero]
    rw [dif_pos (by omega)]
    have hf0 : (formN 0).length = 1 := by simp [formN]
    rw [hf0]
    congr 2
    rw [List.getElem?_append_right (by omega), Nat.sub_self]; rfl
  have hl0 : f.1 ≤ lastT 0 l := by
    cases l with
    | nil => simp at hf
    | cons x r =>
      simp at hf
      subst hf
      rw [rightStep] at hs
      split at hs
      · cases hs
      · exact lastT_ge hs
  rw [hy, goF, if_pos (.inl hl0)] at hg
  simp only at hg
  rw [readF, if_neg (by simp; omega), hg, if_pos (by simp)]
