/- Part of a proof by the rules of the symbolic walk (see the law's own text): contracts of functions of the program. -/
import Derived.Test.YtnjbojekknpknaaGS
open Go Go.Proofs Go.SE Go.RowKit
set_option linter.unusedVariables false
theorem same_iff {r q : Rq} : sameR r q = true ↔ r = q := by
  constructor
  · intro h
    have h := of_decide_eq_true h
    cases r; cases q
    simp only at h
    obtain ⟨rfl, rfl, rfl, rfl, rfl, rfl, rfl, rfl, rfl, rfl, rfl, rfl⟩ := h
    rfl
  · rintro rfl
    simp [sameR]
theorem same_dec (r q : Rq) [Decidable (r = q)] : sameR r q = decide (r = q) := by
  by_cases h : r = q
  · rw [decide_eq_true h]; exact same_iff.2 h
  · rw [decide_eq_false h]
    cases hs : sameR r q with
    | false => rfl
    | true => exact absurd (same_iff.1 hs) h
/-- What a right request is made of. -/
theorem right_run {r : Rq} (hr : okRq r) (h : rightR r = true) : (tagsR r).all (okT r) = true ∧ (tagsR r).foldl (copyT r) (had0 r) = r := by
  have ht := (right_tag h).1
  rw [right_eq hr, rightS, ht] at h
  simp only [Bool.and_eq_true] at h
  exact ⟨h.2.2.1, same_iff.1 h.2.2.2⟩
theorem tag_seven {k w : Int} {l : List Int} (h : tagL k w = some l) : (k = 7 ∧ ∃ m, askL w = some m ∧ l = 1 :: m) ∨ (k ≠ 7 ∧ (∀ t ∈ l, t ≠ 1) ∧ ∀ w', tagL k w' = some l) := by
  by_cases h7 : k = 7
  · subst h7
    have : (askL w).map (1 :: ·) = some l := h
    cases hq : askL w with
    | none => rw [hq] at this; cases this
    | some m =>
      rw [hq] at this
      cases this
      exact .inl ⟨rfl, m, rfl, rfl⟩
  · refine .inr ⟨h7, ?_, fun w' => ?_⟩
    · unfold tagL at h
      rw [if_neg h7] at h
      repeat' split at h
      all_goals first | (cases h; simp; done) | (cases h; done)
    · unfold tagL at h ⊢
      rw [if_neg h7] at h ⊢
      exact h
theorem fold_what (r : Rq) : ∀ (l : List Int) (h : Rq), (∀ t ∈ l, t ≠ 1) → (l.foldl (copyT r) h).what = h.what
  | [], h, _ => rfl
  | t :: l, h, ht => by
    rw [List.foldl_cons, fold_what r l _ fun s hs => ht s (by simp [hs])]
    have h1 := ht t (by simp)
    unfold copyT
    rw [if_neg h1]
    repeat' split
    all_goals rfl
def setW (h : Rq) (w : Int) : Rq := { h with what := w }
theorem copy_what (r h : Rq) (t : Int) : copyT r (setW h r.what) t = setW (copyT r h t) r.what := by
  unfold copyT
  by_cases h1 : t = 1
  · rw [if_pos h1, if_pos h1]; rfl
  rw [if_neg h1, if_neg h1]
  by_cases h2 : t = 2
  · rw [if_pos h2, if_pos h2]; rfl
  rw [if_neg h2, if_neg h2]
  by_cases h3 : t = 3
  · rw [if_pos h3, if_pos h3]; rfl
  rw [if_neg h3, if_neg h3]
  by_cases h4 : t = 4
  · rw [if_pos h4, if_pos h4]; rfl
  rw [if_neg h4, if_neg h4]
  by_cases h5 : t = 5
  · rw [if_pos h5, if_pos h5]; rfl
  rw [if_neg h5, if_neg h5]
  by_cases h6 : t = 6
  · rw [if_pos h6, if_pos h6]; rfl
  rw [if_neg h6, if_neg h6]
  by_cases h7 : t = 7
  · rw [if_pos h7, if_pos h7]; rfl
  rw [if_neg h7, if_neg h7]
  by_cases h8 : t = 8
  · rw [if_pos h8, if_pos h8]; rfl
  rw [if_neg h8, if_neg h8]
  by_cases h9 : t = 9
  · rw [if_pos h9, if_pos h9]; rfl
  rw [if_neg h9, if_neg h9]
  by_cases h10 : t = 10
  · rw [if_pos h10, if_pos h10]; rfl
  rw [if_neg h10, if_neg h10]
  rfl
theorem fold_set (r : Rq) : ∀ (l : List Int) (h : Rq), l.foldl (copyT r) (setW h r.what) = setW (l.foldl (copyT r) h) r.what
  | [], h => rfl
  | t :: l, h => by
    rw [List.foldl_cons, copy_what, fold_set r l]; rfl
theorem try_copy {r : Rq} (hr : okRq r) : ∀ (l : List Int) (h : Rq), (∀ t ∈ l, 1 ≤ t ∧ t ≤ 11) → h.what = r.what → l.all (okT r) = true → tryT h l (fldsR r l) = (l.foldl (copyT r) h, true)
  | [], h, _, _, _ => rfl
  | t :: l, h, ht, hw, ha => by
    rw [List.all_cons, Bool.and_eq_true] at ha
    obtain ⟨g1, g2⟩ := step_copy (h := h) hr (ht t (by simp))
    have hp : preR r h t = h := by
      unfold preR
      split
      · rw [← hw]
      · rfl
    rw [hp, ha.1] at g1
    have g2 := g2 ha.1
    rw [hp] at g2
    have hf : fldsR r (t :: l) = (t, bytesR r t) :: fldsR r l := rfl
    have hcw : (copyT r h t).what = r.what := by
      unfold copyT
      repeat' split
      all_goals first | rfl | exact hw
    rw [hf, tryT, if_pos rfl, if_pos g1, g2, try_copy hr l _ (fun s hs => ht s (by simp [hs])) hcw ha.2, List.foldl_cons]
theorem flds_ok {r : Rq} (hr : okRq r) {l : List Int} (hl : ∀ t ∈ l, 1 ≤ t ∧ t ≤ 11) : ∀ f ∈ fldsR r l, okFld f := fun f hf => by
  obtain ⟨t, ht, rfl⟩ := List.mem_map.1 hf
  have := hl t ht
  exact ⟨⟨by show -9223372036854775808 ≤ t; omega, by show t ≤ 9223372036854775807; omega⟩, bytesR_ok hr t⟩
theorem write_ok {r : Rq} (hr : okRq r) (h : rightR r = true) : byteL (writeR r) := fun z hz => by
  have hk := hr.kind
  rcases List.mem_cons.1 hz with rfl | hz
  · omega
  rcases List.mem_cons.1 hz with rfl | hz
  · exact hk
  exact write_bytes (right_flds hr h) (flds_ok hr (tagL_ok (right_tag h).1).1) z hz
/-- What is written is read back. -/
theorem read_writeR {r : Rq} (hr : okRq r) (h : rightR r = true) : accB (writeR r) = true ∧ readR (writeR r) = (r, 0) := by
  obtain ⟨ha, hf⟩ := right_run hr h
  have ht := (right_tag h).1
  have hl := (tagL_ok ht).1
  have hF := right_flds hr h
  have hrd := read_write hF
  have hd : (writeR r).drop 2 = writeF (fldsR r (tagsR r)) := rfl
  have hk : kindB (writeR r) = r.kind := rfl
  have hfl : flB (writeR r) = fldsR r (tagsR r) := by rw [flB, hd, hrd]
  have hw : whatB (writeR r) = r.what := by
    rw [whatB, hk, hfl]
    rcases tag_seven ht with ⟨h7, m, hm, he⟩ | ⟨h7, hn, _⟩
    · have hwr := hr.what
      obtain ⟨g1, g2⟩ := lastN_f2 (x := r.what.toNat) (by omega)
      rw [Int.toNat_of_nonneg hwr.1] at g1
      have : fldsR r (tagsR r) = (1, formN r.what.toNat) :: fldsR r m := by rw [he]; rfl
      rw [this]
      show (if r.kind = 7 ∧ (lastN (formN r.what.toNat)).2.2 = 0 ∧ (lastN (formN r.what.toNat)).1 < 256 then (lastN (formN r.what.toNat)).1 else 0) = r.what
      rw [g1, g2, if_pos ⟨h7, rfl, by omega⟩]
    · have hw0 : r.what = 0 := by
        have := fold_what r (tagsR r) (had0 r) hn
        rw [hf] at this
        exact this
      rw [hw0]
      cases fldsR r (tagsR r) with
      | nil => rfl
      | cons f fs =>
        show (if r.kind = 7 ∧ _ then _ else _) = _
        rw [if_neg (fun hc => h7 hc.1)]
  have hst : startQ (writeR r) = setW (had0 r) r.what := by rw [startQ, hk, hw]; rfl
  have htb : tagB (writeR r) = some (tagsR r) := by rw [tagB, hk, hw, ht]
  have hrun : runB (writeR r) = (r, true) := by
    rw [runB, htb, hfl, hst, Option.getD_some, try_copy hr (tagsR r) (setW (had0 r) r.what) hl rfl ha, fold_set, hf]; rfl
  have hacc : accB (writeR r) = true := by
    rw [accB, hd, hrd, htb, hrun]
    simp only [h]
    have h1 : 2 ≤ (writeR r).length := by rw [writeR, List.length_cons, List.length_cons]; omega
    have h2 : (writeR r)[0]? = some 1 := rfl
    rw [decide_eq_true h1, decide_eq_true h2]; rfl
  exact ⟨hacc, by rw [readR, hacc, if_pos rfl, hrun]⟩
theorem strL_strB {bs : List Int} (h : byteL bs) : strL (strB bs) = bs := by
  show (u8s bs).toArray.toList.map _ = bs
  simp only [u8s, List.map_map]
  conv => rhs; rw [← List.map_id bs]
  apply List.map_congr_left
  intro z hz
  exact u8_nat (h z hz)
theorem fold_unfold {y : Int} (h : 0 ≤ y) : foldZ (unfoldZ y) = y := by
  unfold foldZ unfoldZ
  split <;> split <;> omega
theorem form_last {bs : List Int} (hb : byteL bs) (h : (lastN bs).2.2 = 0) : formN (lastN bs).1.toNat = bs ∧ 0 ≤ (lastN bs).1 := by
  rcases lastN_cases bs hb with ⟨_, h1, _, h2⟩ | ⟨_, h1⟩
  · exact ⟨h2, h1⟩
  · omega
theorem num_back {h : Rq} {t : Int} {bs : List Int} (hb : byteL bs) (ht : 3 ≤ t ∧ t ≤ 9) (ha : takeB h t bs = true) : formN (IntKind.u64.wrap (IntKind.i64.wrap (lastN bs).1)).toNat = bs := by
  rw [takeB, if_neg (by omega), if_neg (by omega), if_neg (by omega), Bool.and_eq_true, decide_eq_true_eq, decide_eq_true_eq] at ha
  obtain ⟨g1, g2⟩ := form_last hb ha.1
  have : IntKind.u64.wrap (IntKind.i64.wrap (lastN bs).1) = (lastN bs).1 := by
    rw [w64, IntKind.wrap_i64]; omega
  rw [this, g1]
theorem bytes_take {h : Rq} {t : Int} {bs : List Int} (hb : byteL bs) (ht : 1 ≤ t ∧ t ≤ 11) (ha : takeB h t bs = true) : bytesR (takeR h t bs) t = bs := by
  rcases (by omega : t = 1 ∨ t = 2 ∨ t = 3 ∨ t = 4 ∨ t = 5 ∨ t = 6 ∨ t = 7 ∨ t = 8 ∨ t = 9 ∨ t = 10 ∨ t = 11) with rfl | rfl | rfl | rfl | rfl | rfl | rfl | rfl | rfl | rfl | rfl
  · rw [takeB, if_neg (by omega), if_pos rfl, Bool.and_eq_true, decide_eq_true_eq, decide_eq_true_eq] at ha
    show formN h.what.toNat = bs
    rw [← ha.2]
    exact (form_last hb ha.1).1
  · exact strL_strB hb
  · exact num_back hb (by omega) ha
  · exact num_back hb (by omega) ha
  · exact num_back hb (by omega) ha
  · exact num_back hb (by omega) ha
  · exact num_back hb (by omega) ha
  · exact num_back hb (by omega) ha
  · exact num_back hb (by omega) ha
  · rw [takeB, if_neg (by omega), if_neg (by omega), if_pos rfl, decide_eq_true_eq] at ha
    obtain ⟨g1, g2⟩ := form_last hb ha
    show formN (foldZ (unfoldZ (lastN bs).1)).toNat = bs
    rw [fold_unfold g2, g1]
  · rfl
theorem bytes_other {h : Rq} {t s : Int} {bs : List Int} (ht : 1 ≤ t ∧ t ≤ 11) (hs : 1 ≤ s ∧ s ≤ 11) (hne : s ≠ t) : bytesR (takeR h t bs) s = bytesR h s := by
  rcases (by omega : t = 1 ∨ t = 2 ∨ t = 3 ∨ t = 4 ∨ t = 5 ∨ t = 6 ∨ t = 7 ∨ t = 8 ∨ t = 9 ∨ t = 10 ∨ t = 11) with rfl | rfl | rfl | rfl | rfl | rfl | rfl | rfl | rfl | rfl | rfl
  all_goals
    rcases (by omega : s = 1 ∨ s = 2 ∨ s = 3 ∨ s = 4 ∨ s = 5 ∨ s = 6 ∨ s = 7 ∨ s = 8 ∨ s = 9 ∨ s = 10 ∨ s = 11) with rfl | rfl | rfl | rfl | rfl | rfl | rfl | rfl | rfl | rfl | rfl
    all_goals first | rfl | exact absurd rfl hne
theorem take_kw (h : Rq) (t : Int) (bs : List Int) : (takeR h t bs).kind = h.kind ∧ (takeR h t bs).what = h.what := by
  unfold takeR
  repeat' split
  all_goals exact ⟨rfl, rfl⟩
theorem try_back : ∀ (ts : List Int) (fs : List (Int × List Int)) (h r : Rq), okRq h → (∀ t ∈ ts, 1 ≤ t ∧ t ≤ 11) → ts.Nodup → (∀ f ∈ fs, okFld f) → tryT h ts fs = (r, true) →
    okRq r ∧ r.kind = h.kind ∧ r.what = h.what ∧ fldsR r ts = fs ∧ ∀ s, 1 ≤ s ∧ s ≤ 11 → s ∉ ts → bytesR r s = bytesR h s
  | [], [], h, r, hh, _, _, _, he => by
    cases he
    exact ⟨hh, rfl, rfl, rfl, fun _ _ _ => rfl⟩
  | [], _ :: _, h, r, hh, _, _, _, he => by simp [tryT] at he
  | _ :: _, [], h, r, hh, _, _, _, he => by simp [tryT] at he
  | t :: ts, f :: fs, h, r, hh, ht, hn, hok, he => by
    rw [tryT] at he
    split at he
    · rename_i hft
      split at he
      · rename_i hb
        have hof := hok f (by simp)
        have htr := ht t (by simp)
        rw [List.nodup_cons] at hn
        obtain ⟨g1, g2, g3, g4, g5⟩ := try_back ts fs _ r (okRq_take hh t hof.2) (fun s hs => ht s (by simp [hs])) hn.2 (fun g hg => hok g (by simp [hg])) he
        obtain ⟨k1, k2⟩ := take_kw h t f.2
        refine ⟨g1, g2.trans k1, g3.trans k2, ?_, fun s hs hns => ?_⟩
        · have : fldsR r (t :: ts) = (t, bytesR r t) :: fldsR r ts := rfl
          rw [this, g4, g5 t htr hn.1, bytes_take hof.2 htr hb, ← hft]
        · rw [g5 s hs (fun hc => hns (by simp [hc])), bytes_other htr hs (fun hc => hns (by simp [hc]))]
      · cases he
    · cases he
theorem tag_nodup {k w : Int} {l : List Int} (h : tagL k w = some l) : l.Nodup := by
  have := tagL_shape h
  simp only [shapesL, List.mem_cons, List.not_mem_nil, or_false] at this
  rcases this with rfl | rfl | rfl | rfl | rfl | rfl | rfl | rfl | rfl | rfl | rfl | rfl
  all_goals decide
theorem what_range {bs : List Int} (hb : byteL bs) : (0 ≤ kindB bs ∧ kindB bs ≤ 255) ∧ (0 ≤ whatB bs ∧ whatB bs ≤ 255) ∧ ∀ f ∈ flB bs, okFld f := by
  have hbd : byteL (bs.drop 2) := fun z hz => hb z (List.mem_of_mem_drop hz)
  have hk : 0 ≤ kindB bs ∧ kindB bs ≤ 255 := by
    rw [kindB]
    cases hq : bs[1]? with
    | none => show (0 : Int) ≤ 0 ∧ (0 : Int) ≤ 255; omega
    | some x => exact hb x (List.mem_of_getElem? hq)
  have hfo : ∀ f ∈ flB bs, okFld f := by
    rcases read_cases (bs.drop 2) hbd with ⟨_, _, hr, hw⟩ | ⟨hr, _⟩
    · intro f hf
      have h1 := right_at (rightF_iff.1 hr).1 f hf
      refine ⟨⟨by omega, by omega⟩, fun z hz => hbd z ?_⟩
      rw [← hw, writeF, List.mem_flatMap]
      exact ⟨f, hf, by simp [hz]⟩
    · intro f hf
      have : flB bs = [] := hr
      rw [this] at hf; cases hf
  refine ⟨hk, ?_, hfo⟩
  rw [whatB]
  cases hq : flB bs with
  | nil =>
    show (0 : Int) ≤ 0 ∧ (0 : Int) ≤ 255
    omega
  | cons f r0 =>
    have hok := hfo f (by rw [hq]; simp)
    have hr := last_range hok.2
    rw [whatL]
    split <;> omega
/-- What is read of any bytes is right, and is written as these bytes. -/
theorem read_back {bs : List Int} (hb : byteL bs) (h : accB bs = true) : okRq (readR bs).1 ∧ rightR (readR bs).1 = true ∧ writeR (readR bs).1 = bs ∧ (readR bs).2 = 0 := by
  have hrd : readR bs = ((runB bs).1, 0) := by rw [readR, h, if_pos rfl]
  rw [hrd]
  simp only
  rw [accB, Bool.and_eq_true, Bool.and_eq_true, Bool.and_eq_true, Bool.and_eq_true, Bool.and_eq_true] at h
  obtain ⟨h1, h2, h3, h4, h5, h6⟩ := h
  have h1 := of_decide_eq_true h1
  have h2 := of_decide_eq_true h2
  have h3 := of_decide_eq_true h3
  obtain ⟨ts, hts⟩ := Option.isSome_iff_exists.1 h4
  obtain ⟨hk, hw, hfo⟩ := what_range hb
  have hrun : runB bs = tryT (startQ bs) ts (flB bs) := by rw [runB, hts]; rfl
  have hpair : tryT (startQ bs) ts (flB bs) = ((runB bs).1, true) := by rw [← hrun]; exact Prod.ext rfl h5
  obtain ⟨g1, g2, g3, g4, _⟩ := try_back ts (flB bs) (startQ bs) (runB bs).1 (okRq_start hk hw) (tagL_ok hts).1 (tag_nodup hts) hfo hpair
  refine ⟨g1, h6, ?_, trivial⟩
  have g2 : (runB bs).1.kind = kindB bs := g2
  have g3 : (runB bs).1.what = whatB bs := g3
  have htg : tagsR (runB bs).1 = ts := by
    rw [tagsR, g2, g3]
    have : tagL (kindB bs) (whatB bs) = some ts := hts
    rw [this]; rfl
  rw [writeR, htg, g4, g2]
  have hbd : byteL (bs.drop 2) := fun z hz => hb z (List.mem_of_mem_drop hz)
  have hwf : writeF (flB bs) = bs.drop 2 := by
    rcases read_cases (bs.drop 2) hbd with ⟨_, _, _, hw⟩ | ⟨_, hr⟩
    · exact hw
    · omega
  rw [hwf]
  match bs, h1, h2 with
  | x :: y :: r, _, h2 =>
    cases h2
    rfl
theorem form_pre {x y : Nat} {r s : List Int} (hx : x < 256 ^ 8) (hy : y < 256 ^ 8) (h : formN x ++ r = formN y ++ s) : x = y ∧ r = s := by
  have h1 := readN_form [] r x hx
  have h2 := readN_form [] s y hy
  rw [List.nil_append] at h1 h2
  rw [h, h2] at h1
  have : (y : Int) = x := (Prod.mk.inj h1).1
  have hxy : x = y := by omega
  subst hxy
  exact ⟨rfl, List.append_cancel_left h⟩
theorem writeF_pre {f g : Int × List Int} {fs gs : List (Int × List Int)} {rest : List Int} (hf : f.2.length ≤ 16384) (hg : g.2.length ≤ 16384) (h : writeF (f :: fs) ++ rest = writeF (g :: gs)) : f = g ∧ writeF fs ++ rest = writeF gs := by
  rw [writeF_cons, writeF_cons, List.cons_append, List.append_assoc, List.append_assoc] at h
  have h0 := (List.cons.inj h).1
  obtain ⟨h1, h2⟩ := form_pre (by omega) (by omega) (List.cons.inj h).2
  obtain ⟨h3, h4⟩ := List.append_inj h2 h1
  exact ⟨Prod.ext h0 h3, h4⟩
theorem writeF_pres : ∀ (fs gs : List (Int × List Int)) (rest : List Int), (∀ f ∈ fs, f.2.length ≤ 16384) → (∀ f ∈ gs, f.2.length ≤ 16384) → fs.length = gs.length → writeF fs ++ rest = writeF gs → rest = []
  | [], [], rest, _, _, _, h => h
  | [], _ :: _, rest, _, _, hl, _ => by cases hl
  | _ :: _, [], rest, _, _, hl, _ => by cases hl
  | f :: fs, g :: gs, rest, h1, h2, hl, h =>
    writeF_pres fs gs rest (fun x hx => h1 x (by simp [hx])) (fun x hx => h2 x (by simp [hx])) (Nat.succ.inj hl) (writeF_pre (h1 f (by simp)) (h2 g (by simp)) h).2
theorem right_short2 {r : Rq} (hr : okRq r) (h : rightR r = true) : ∀ f ∈ fldsR r (tagsR r), f.2.length ≤ 16384 := fun f hf => by
  have := right_at (rightF_iff.1 (right_flds hr h)).1 f hf
  omega
/-- No form is the beginning of another one. -/
theorem write_pre {p q : Rq} (hp : okRq p) (hq : okRq q) (rp : rightR p = true) (rq : rightR q = true) {rest : List Int} (h : writeR p ++ rest = writeR q) : p = q ∧ rest = [] := by
  have hpt := (right_tag rp).1
  have hqt := (right_tag rq).1
  have h1 : p.kind = q.kind := (List.cons.inj (List.cons.inj h).2).1
  have h2 : writeF (fldsR p (tagsR p)) ++ rest = writeF (fldsR q (tagsR q)) := (List.cons.inj (List.cons.inj h).2).2
  have sp := right_short2 hp rp
  have sq := right_short2 hq rq
  have hlen : (tagsR p).length = (tagsR q).length := by
    rcases tag_seven hpt with ⟨h7, m, hm, he⟩ | ⟨h7, _, ha⟩
    · rcases tag_seven hqt with ⟨_, m', hm', he'⟩ | ⟨h7', _⟩
      · have e1 : fldsR p (tagsR p) = (1, formN p.what.toNat) :: fldsR p m := by rw [he]; rfl
        have e2 : fldsR q (tagsR q) = (1, formN q.what.toNat) :: fldsR q m' := by rw [he']; rfl
        rw [e1] at h2 sp
        rw [e2] at h2 sq
        have hf := (Prod.mk.inj (writeF_pre (sp _ (by simp)) (sq _ (by simp)) h2).1).2
        have w1 := hp.what
        have w2 := hq.what
        have := (form_pre (r := []) (s := []) (by omega : p.what.toNat < 256 ^ 8) (by omega : q.what.toNat < 256 ^ 8) (by rw [hf])).1
        have hw : p.what = q.what := by omega
        rw [hw, hm'] at hm
        cases hm
        rw [he, he']
      · exact absurd (h1 ▸ h7) h7'
    · have := ha q.what
      rw [h1, hqt] at this
      rw [Option.some.inj this]
  have hr := writeF_pres _ _ rest sp sq (by simp [fldsR, hlen]) h2
  subst hr
  rw [List.append_nil] at h
  have a := (read_writeR hp rp).2
  rw [h, (read_writeR hq rq).2] at a
  exact ⟨(Prod.mk.inj a).1.symm, rfl⟩
theorem write_injR {p q : Rq} (hp : okRq p) (hq : okRq q) (rp : rightR p = true) (rq : rightR q = true) (h : writeR p = writeR q) : p = q :=
  (write_pre hp hq rp rq (rest := []) (by rw [List.append_nil, h])).1
theorem read_bad {bs : List Int} (h : accB bs = false) : readR bs = (zeroRq, 341) := by rw [readR, h]; rfl
