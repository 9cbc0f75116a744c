/- Part of a proof by the rules of the symbolic walk (see the law's own text): contracts of functions of the program. -/
import Derived.Test.YtdmhilnnendcoaaGS
open Go Go.Proofs Go.SE Go.RowKit
set_option linter.unusedVariables false
theorem next_form (x : Nat) (h : x < 256 ^ 8) (post : List Int) : nextR (formN x ++ post, false) = ((x : Int), post, false) := by
  have h1 := readN_form [] post x h
  simp only [List.nil_append, List.length_nil] at h1
  have h1 : readN (formN x ++ post) 0 = ((x : Int), ((formN x).length : Int), 0) := h1
  rw [nextR, h1, if_neg (by simp)]
  simp
theorem num_form {x : Int} (h0 : 0 ≤ x) (h1 : i64R x) (post : List Int) : numQ (formN (IntKind.u64.wrap x).toNat ++ post, false) = (x, post, false) := by
  have hw : IntKind.u64.wrap x = x := by rw [IntKind.wrap_u64]; unfold i64R at h1; omega
  unfold i64R at h1
  rw [hw, numQ, next_form _ (by omega)]
  have e : ((x.toNat : Nat) : Int) = x := Int.toNat_of_nonneg h0
  have hi : IntKind.i64.wrap x = x := by rw [IntKind.wrap_i64]; omega
  simp only [e, hi]
  rw [decide_eq_false (by omega)]; rfl
theorem num_zero (t x : Int) : (fN t x).2 ≠ [] := fun h => by
  have h : formN (IntKind.u64.wrap x).toNat = [] := h
  have hw := w64_range x
  have := (formN_le (IntKind.u64.wrap x).toNat (by omega)).2
  rw [h] at this; simp at this
theorem forms_cons (x : Int) (l : List Int) : formsL (x :: l) = formN (IntKind.u64.wrap x).toNat ++ formsL l := by simp [formsL]
theorem forms_nil : formsL [] = [] := rfl
theorem key_form {a b c : Int} (ha : 0 ≤ a ∧ i64R a) (hb : 0 ≤ b ∧ i64R b) (hc : 0 ≤ c ∧ i64R c) (post : List Int) : keyQ (formsL [a, b, c] ++ post, false) = ((a, b, c), post, false) := by
  simp only [forms_cons, forms_nil, List.append_nil, List.append_assoc]
  rw [keyQ, num_form ha.1 ha.2, num_form hb.1 hb.2, num_form hc.1 hc.2]
theorem unfold_fold {x : Int} (h : i64R x) : unfoldZ (foldZ x) = x := by
  unfold foldZ unfoldZ
  split
  · rw [if_pos (by omega)]; omega
  · rw [if_neg (by omega)]; omega
theorem val_form {x : Int} (h : i64R x) (post : List Int) : valQ (celF x ++ post, false) = (x, post, false) := by
  have hr := foldZ_range h
  rw [celF, valQ, next_form _ (by omega)]
  have e : (((foldZ x).toNat : Nat) : Int) = foldZ x := Int.toNat_of_nonneg hr.1
  simp only [e, unfold_fold h]
theorem ev_form {x : EvT} (hx : evOk x = true) (hr : (i64R x.1.1 ∧ i64R x.1.2.1 ∧ i64R x.1.2.2) ∧ i64R x.2.1 ∧ i64R x.2.2) (post : List Int) : evQ (evF x ++ post, false) = (x, post, false) := by
  obtain ⟨⟨a, b, c⟩, d, v⟩ := x
  have hn : (0 ≤ a ∧ 0 ≤ b ∧ 0 ≤ c ∧ 0 ≤ d) := by
    simp only [evOk, negL, List.any_cons, List.any_nil, Bool.not_eq_true', Bool.or_eq_false_iff, decide_eq_false_iff_not] at hx
    omega
  obtain ⟨⟨r1, r2, r3⟩, r4, r5⟩ := hr
  have hv := val_form r5 post
  rw [evF, List.append_assoc, List.append_assoc, evQ, key_form ⟨hn.1, r1⟩ ⟨hn.2.1, r2⟩ ⟨hn.2.2.1, r3⟩]
  simp only [forms_cons, forms_nil, List.append_nil]
  rw [num_form hn.2.2.2 r4]
  rw [valQ] at hv
  obtain ⟨e1, e2⟩ := Prod.mk.inj hv
  have e1 : unfoldZ (nextR (formN (foldZ v).toNat ++ post, false)).1 = v := e1
  have e2 : (nextR (formN (foldZ v).toNat ++ post, false)).2 = (post, false) := e2
  simp only [e1, e2]
theorem pt_form {x : PtT} (hx : ptOk x = true) (hr : i64R x.1 ∧ byteL x.2.1 ∧ i64R x.2.2) (post : List Int) : portQ (ptF x ++ post, false) = (x, post, false) := by
  obtain ⟨a, s, c⟩ := x
  have hx := hx
  simp only [ptOk, nameB, negL, List.any_cons, List.any_nil, Bool.and_eq_true, Bool.not_eq_true', Bool.or_eq_false_iff, decide_eq_false_iff_not, decide_eq_true_eq] at hx
  obtain ⟨⟨h1, h2, _⟩, h3, h4, _⟩ := hx
  obtain ⟨r1, _, r3⟩ := hr
  simp only at h1 h2 h3 h4 r1 r3
  have q1 := num_form (x := a) (by omega) r1
  have q2 := num_form (x := c) (by omega) r3
  have q3 := num_form (x := (s.length : Int)) (by omega) (by unfold i64R; omega)
  rw [ptF]
  simp only [forms_cons, forms_nil, List.append_nil, List.append_assoc]
  rw [portQ, szQ, q1, q2, q3]
  simp only []
  rw [if_neg (by rw [List.length_append]; simp; omega)]
  simp
theorem hd_form {x : HdT} (hx : hdOk x = true) (hr : (i64R x.1 ∧ i64R x.2.1 ∧ i64R x.2.2.1 ∧ i64R x.2.2.2.1) ∧ 0 ≤ x.2.2.2.2 ∧ x.2.2.2.2 ≤ 255) (post : List Int) : hdQ (hdF x ++ post, false) = (x, post, false) := by
  obtain ⟨a, b, c, d, e⟩ := x
  have hx := hx
  simp only [hdOk, negL, List.any_cons, List.any_nil, Bool.and_eq_true, Bool.not_eq_true', Bool.or_eq_false_iff, decide_eq_false_iff_not, decide_eq_true_eq] at hx
  obtain ⟨⟨h1, h2, h3, h4, _⟩, _⟩ := hx
  obtain ⟨⟨r1, r2, r3, r4⟩, r5, r6⟩ := hr
  simp only at h1 h2 h3 h4 r1 r2 r3 r4 r5 r6
  have q1 := num_form (x := a) (by omega) r1
  have q2 := num_form (x := b) (by omega) r2
  have q3 := num_form (x := c) (by omega) r3
  have q4 := num_form (x := d) (by omega) r4
  have q5 := num_form (x := e) r5 (by unfold i64R; omega)
  rw [hdF]
  simp only [forms_cons, forms_nil, List.append_nil, List.append_assoc]
  rw [hdQ, q1, q2, q3, q4, q5]
  have hw : IntKind.u8.wrap e = e := by rw [IntKind.wrap_u8]; omega
  simp only [hw]
  rw [decide_eq_false (by omega)]; rfl
theorem runAll_flat {α : Type} {take : RS → α × RS} {F : α → List Int} : ∀ {l : List α}, (∀ x ∈ l, ∀ post, take (F x ++ post, false) = (x, post, false)) → (∀ x ∈ l, F x ≠ []) → ∀ k, l.length ≤ k → runAll take k (l.flatMap F, false) = (l, [], false)
  | [], _, _, k, _ => runAll_done (.inl rfl) k
  | x :: l, h1, h2, k, hk => by
    obtain ⟨k, rfl⟩ : ∃ j, k = j + 1 := ⟨k - 1, by simp at hk; omega⟩
    have hne : F x ++ l.flatMap F ≠ [] := fun h => h2 x (by simp) (List.append_eq_nil_iff.1 h).1
    rw [List.flatMap_cons, runAll_step (by simp only [not_or]; exact ⟨hne, by simp⟩), h1 x (by simp)]
    have ih := runAll_flat (l := l) (fun y hy => h1 y (by simp [hy])) (fun y hy => h2 y (by simp [hy])) k (by simp at hk; omega)
    simp only [ih]
theorem flat_len {α : Type} {F : α → List Int} : ∀ {l : List α}, (∀ x ∈ l, F x ≠ []) → l.length ≤ (l.flatMap F).length
  | [], _ => by simp
  | x :: l, h => by
    have ih := flat_len (l := l) fun y hy => h y (by simp [hy])
    have hx : 1 ≤ (F x).length := by
      rcases hl : F x with _ | ⟨a, r⟩
      · exact absurd hl (h x (by simp))
      · simp
    rw [List.flatMap_cons, List.length_append, List.length_cons]; omega
theorem flat_nil {α : Type} {F : α → List Int} {l : List α} (h : ∀ x ∈ l, F x ≠ []) (hf : l.flatMap F = []) : l = [] := by
  have := flat_len h
  rw [hf] at this
  exact List.eq_nil_of_length_eq_zero (Nat.le_zero.1 this)
theorem form_ne (x : Nat) (h : x < 256 ^ 8) : formN x ≠ [] := fun hf => by
  have := (formN_le x h).2
  rw [hf] at this; simp at this
theorem numF_ne (x : Int) : numF x ≠ [] := fun h => by
  rw [numF, forms_cons] at h
  have hw := w64_range x
  exact form_ne _ (by omega) (List.append_eq_nil_iff.1 h).1
theorem celF_ne {x : Int} (h : i64R x) : celF x ≠ [] := by
  have := foldZ_range h
  exact form_ne _ (by omega)
theorem evF_ne (x : EvT) : evF x ≠ [] := fun h => by
  rw [evF, forms_cons, List.append_assoc, List.append_assoc] at h
  have hw := w64_range x.1.1
  exact form_ne _ (by omega) (List.append_eq_nil_iff.1 h).1
theorem ptF_ne (x : PtT) : ptF x ≠ [] := fun h => by
  rw [ptF, forms_cons, List.append_assoc] at h
  have hw := w64_range x.1
  exact form_ne _ (by omega) (List.append_eq_nil_iff.1 h).1
theorem hdF_ne (x : HdT) : hdF x ≠ [] := fun h => by
  rw [hdF, forms_cons] at h
  have hw := w64_range x.1
  exact form_ne _ (by omega) (List.append_eq_nil_iff.1 h).1
/-- One field of a response put into another one. -/
def copyT (r h : Rs) (t : Int) : Rs :=
  if t = 1 then { h with num := r.num } else if t = 2 then { h with kind := r.kind } else if t = 3 then { h with code := r.code } else if t = 4 then { h with ser := r.ser } else if t = 5 then { h with port := r.port } else if t = 6 then { h with time := r.time }
  else if t = 7 then { h with more := true } else if t = 8 then { h with key := r.key } else if t = 9 then { h with counts := r.counts } else if t = 10 then { h with cells := r.cells } else if t = 11 then { h with events := r.events } else if t = 12 then { h with ports := r.ports } else { h with handles := r.handles }
theorem runNum {l : List Int} (h : ∀ x ∈ l, 0 ≤ x ∧ i64R x) : runAll numQ (l.flatMap numF).length (l.flatMap numF, false) = (l, [], false) :=
  runAll_flat (fun x hx post => by rw [numF, forms_cons, forms_nil, List.append_nil]; exact num_form (h x hx).1 (h x hx).2 post) (fun x _ => numF_ne x) _ (flat_len fun x _ => numF_ne x)
theorem take_all {r : Rs} (hr : okRs r) (hv : vokS r = true) : ∀ f ∈ allF r, ∀ h, takeS h f.1 f.2 = (copyT r h f.1, [], false) := by
  intro f hf h
  have hv := hv
  simp only [vokS, headOk, negL, List.any_cons, List.any_nil, Bool.and_eq_true, Bool.not_eq_true', Bool.or_eq_false_iff, decide_eq_false_iff_not, decide_eq_true_eq] at hv
  obtain ⟨⟨g1, g2, g3, ⟨g4, g5, g6, g7, g8, g9, g10, _⟩, g11⟩, _, g12, g13, g14⟩ := hv
  have hcn : ∀ x ∈ r.counts, 0 ≤ x ∧ i64R x := fun x hx => by
    have := List.any_eq_false.1 g11 x hx
    simp only [decide_eq_true_eq] at this
    exact ⟨by omega, hr.counts x hx⟩
  have hk := hr.kind
  have N : ∀ x : Int, 0 ≤ x → i64R x → numQ ((fN 0 x).2, false) = (x, [], false) := fun x h0 h1 => by
    have := num_form h0 h1 []
    rw [List.append_nil] at this
    exact this
  have n1 := N r.num (by omega) hr.num
  have n2 := N r.kind (by omega) (by unfold i64R; omega)
  have n3 := N r.code (by omega) hr.code
  have n4 := N r.ser (by omega) hr.ser
  have n5 := N r.port (by omega) hr.port
  have n6 := N r.time (by omega) hr.time
  have n8 := key_form (a := r.key.1) (b := r.key.2.1) (c := r.key.2.2) ⟨by omega, hr.key.1⟩ ⟨by omega, hr.key.2.1⟩ ⟨by omega, hr.key.2.2⟩ []
  rw [List.append_nil] at n8
  have n9 := runNum hcn
  have n10 := runAll_flat (take := valQ) (F := celF) (l := r.cells) (fun x hx post => val_form (hr.cells x hx) post) (fun x hx => celF_ne (hr.cells x hx)) _ (flat_len fun x hx => celF_ne (hr.cells x hx))
  have n11 := runAll_flat (take := evQ) (F := evF) (l := r.events) (fun x hx post => ev_form (List.all_eq_true.1 g12 x hx) (hr.events x hx) post) (fun x _ => evF_ne x) _ (flat_len fun x _ => evF_ne x)
  have n12 := runAll_flat (take := portQ) (F := ptF) (l := r.ports) (fun x hx post => pt_form (List.all_eq_true.1 g13 x hx) (hr.ports x hx) post) (fun x _ => ptF_ne x) _ (flat_len fun x _ => ptF_ne x)
  have n13 := runAll_flat (take := hdQ) (F := hdF) (l := r.handles) (fun x hx post => hd_form (List.all_eq_true.1 g14 x hx) (hr.handles x hx) post) (fun x _ => hdF_ne x) _ (flat_len fun x _ => hdF_ne x)
  simp only [allF, List.mem_cons, List.not_mem_nil, or_false] at hf
  rcases hf with rfl | rfl | rfl | rfl | rfl | rfl | rfl | rfl | rfl | rfl | rfl | rfl | rfl
  · show ({ h with num := (numQ ((fN 0 r.num).2, false)).1 }, (numQ ((fN 0 r.num).2, false)).2) = _
    rw [n1]; rfl
  · show ({ h with kind := IntKind.u8.wrap (imin (numQ ((fN 0 r.kind).2, false)).1 255) }, (numQ ((fN 0 r.kind).2, false)).2) = _
    rw [n2]
    have e : IntKind.u8.wrap (imin r.kind 255) = r.kind := by
      unfold imin
      rw [if_neg (by omega), IntKind.wrap_u8]; omega
    simp only [e]; rfl
  · show ({ h with code := (numQ ((fN 0 r.code).2, false)).1 }, (numQ ((fN 0 r.code).2, false)).2) = _
    rw [n3]; rfl
  · show ({ h with ser := (numQ ((fN 0 r.ser).2, false)).1 }, (numQ ((fN 0 r.ser).2, false)).2) = _
    rw [n4]; rfl
  · show ({ h with port := (numQ ((fN 0 r.port).2, false)).1 }, (numQ ((fN 0 r.port).2, false)).2) = _
    rw [n5]; rfl
  · show ({ h with time := (numQ ((fN 0 r.time).2, false)).1 }, (numQ ((fN 0 r.time).2, false)).2) = _
    rw [n6]; rfl
  · rfl
  · show ({ h with key := (keyQ (formsL [r.key.1, r.key.2.1, r.key.2.2], false)).1 }, (keyQ (formsL [r.key.1, r.key.2.1, r.key.2.2], false)).2) = _
    rw [n8]; rfl
  · show ({ h with counts := (runAll numQ (r.counts.flatMap numF).length (r.counts.flatMap numF, false)).1 }, (runAll numQ (r.counts.flatMap numF).length (r.counts.flatMap numF, false)).2) = _
    rw [n9]; rfl
  · show ({ h with cells := (runAll valQ (r.cells.flatMap celF).length (r.cells.flatMap celF, false)).1 }, (runAll valQ (r.cells.flatMap celF).length (r.cells.flatMap celF, false)).2) = _
    rw [n10]; rfl
  · show ({ h with events := (runAll evQ (r.events.flatMap evF).length (r.events.flatMap evF, false)).1 }, (runAll evQ (r.events.flatMap evF).length (r.events.flatMap evF, false)).2) = _
    rw [n11]; rfl
  · show ({ h with ports := (runAll portQ (r.ports.flatMap ptF).length (r.ports.flatMap ptF, false)).1 }, (runAll portQ (r.ports.flatMap ptF).length (r.ports.flatMap ptF, false)).2) = _
    rw [n12]; rfl
  · show ({ h with handles := (runAll hdQ (r.handles.flatMap hdF).length (r.handles.flatMap hdF, false)).1 }, (runAll hdQ (r.handles.flatMap hdF).length (r.handles.flatMap hdF, false)).2) = _
    rw [n13]; rfl
theorem run_all {r : Rs} (hr : okRs r) (hv : vokS r = true) : ∀ (l : List (Int × List Int)) (h : Rs), (∀ f ∈ l, f ∈ allF r) → runTS h l = (l.foldl (fun h f => copyT r h f.1) h, true)
  | [], h, _ => rfl
  | f :: l, h, hl => by
    have e := take_all hr hv f (hl f (by simp)) h
    rw [runTS, e, List.foldl_cons]
    show (if okS ([], false) = true then runTS (copyT r h f.1) l else (h, false)) = _
    rw [if_pos (show okS ([], false) = true from rfl)]
    exact run_all hr hv l _ fun g hg => hl g (by simp [hg])
/-- A step that is taken where the field is there. -/
def stF (r h : Rs) (t : Int) : Rs := if hasF r t then copyT r h t else h
theorem stF_eq {r h q : Rs} {t : Int} (hc : copyT r h t = q) (hn : hasF r t = false → q = h) : stF r h t = q := by
  unfold stF
  cases hb : hasF r t with
  | true => exact hc
  | false => exact (hn hb).symm
theorem of_dec {p : Prop} [Decidable p] (h : decide (¬ p) = false) : p := by
  by_cases hp : p
  · exact hp
  · rw [decide_eq_true hp] at h; cases h
theorem st1 (r h : Rs) : stF r h 1 = { h with num := r.num } := stF_eq rfl fun h => by cases h
theorem st2 (r h : Rs) (h0 : h.kind = 0) : stF r h 2 = { h with kind := r.kind } := stF_eq rfl fun hb => by
  have hb : r.kind = 0 := of_dec hb
  cases h; simp only at h0; rw [hb, h0]
theorem st3 (r h : Rs) (h0 : h.code = 0) : stF r h 3 = { h with code := r.code } := stF_eq rfl fun hb => by
  have hb : r.code = 0 := of_dec hb
  cases h; simp only at h0; rw [hb, h0]
theorem st4 (r h : Rs) (h0 : h.ser = 0) : stF r h 4 = { h with ser := r.ser } := stF_eq rfl fun hb => by
  have hb : r.ser = 0 := of_dec hb
  cases h; simp only at h0; rw [hb, h0]
theorem st5 (r h : Rs) (h0 : h.port = 0) : stF r h 5 = { h with port := r.port } := stF_eq rfl fun hb => by
  have hb : r.port = 0 := of_dec hb
  cases h; simp only at h0; rw [hb, h0]
theorem st6 (r h : Rs) (h0 : h.time = 0) : stF r h 6 = { h with time := r.time } := stF_eq rfl fun hb => by
  have hb : r.time = 0 := of_dec hb
  cases h; simp only at h0; rw [hb, h0]
theorem st7 (r h : Rs) (h0 : h.more = false) : stF r h 7 = { h with more := r.more } := by
  have hh : hasF r 7 = r.more := rfl
  unfold stF
  rw [hh]
  cases hm : r.more with
  | true => rfl
  | false => cases h; simp only at h0; rw [h0]; rfl
theorem st8 (r h : Rs) (h0 : h.key = (0, 0, 0)) : stF r h 8 = { h with key := r.key } := stF_eq rfl fun hb => by
  have hb : r.key = (0, 0, 0) := of_dec hb
  cases h; simp only at h0; rw [hb, h0]
theorem st9 (r h : Rs) (hr : okRs r) (h0 : h.counts = []) : stF r h 9 = { h with counts := r.counts } := stF_eq rfl fun hb => by
  have hb : r.counts = [] := flat_nil (fun x hx => numF_ne x) (of_dec hb)
  cases h; simp only at h0; rw [hb, h0]
theorem st10 (r h : Rs) (hr : okRs r) (h0 : h.cells = []) : stF r h 10 = { h with cells := r.cells } := stF_eq rfl fun hb => by
  have hb : r.cells = [] := flat_nil (fun x hx => celF_ne (hr.cells x hx)) (of_dec hb)
  cases h; simp only at h0; rw [hb, h0]
theorem st11 (r h : Rs) (hr : okRs r) (h0 : h.events = []) : stF r h 11 = { h with events := r.events } := stF_eq rfl fun hb => by
  have hb : r.events = [] := flat_nil (fun x hx => evF_ne x) (of_dec hb)
  cases h; simp only at h0; rw [hb, h0]
theorem st12 (r h : Rs) (hr : okRs r) (h0 : h.ports = []) : stF r h 12 = { h with ports := r.ports } := stF_eq rfl fun hb => by
  have hb : r.ports = [] := flat_nil (fun x hx => ptF_ne x) (of_dec hb)
  cases h; simp only at h0; rw [hb, h0]
theorem st13 (r h : Rs) (hr : okRs r) (h0 : h.handles = []) : stF r h 13 = { h with handles := r.handles } := stF_eq rfl fun hb => by
  have hb : r.handles = [] := flat_nil (fun x hx => hdF_ne x) (of_dec hb)
  cases h; simp only at h0; rw [hb, h0]
theorem fold_fields {r : Rs} (hr : okRs r) : (fieldsS r).foldl (fun h f => copyT r h f.1) zeroRs = r := by
  rw [fields_eq, List.foldl_filter]
  have e : ∀ (h : Rs), (allF r).foldl (fun x y => if hasF r y.1 = true then copyT r x y.1 else x) h = stF r (stF r (stF r (stF r (stF r (stF r (stF r (stF r (stF r (stF r (stF r (stF r (stF r h 1) 2) 3) 4) 5) 6) 7) 8) 9) 10) 11) 12) 13 := fun h => rfl
  rw [e, st1, st2 _ _ rfl, st3 _ _ rfl, st4 _ _ rfl, st5 _ _ rfl, st6 _ _ rfl, st7 _ _ rfl, st8 _ _ rfl, st9 _ _ hr rfl, st10 _ _ hr rfl, st11 _ _ hr rfl, st12 _ _ hr rfl, st13 _ _ hr rfl]
theorem right_parts {r : Rs} (h : rightS r = true) : vokS r = true ∧ rightF (fieldsS r) = true ∧ (writeF (fieldsS r)).length ≤ 16320 := by
  simp only [rightS, Bool.and_eq_true, decide_eq_true_eq] at h
  exact h
/-- What is written is read back. -/
theorem read_writeS {r : Rs} (hr : okRs r) (h : rightS r = true) : accS (writeS r) = true ∧ readS (writeS r) = (r, 0) := by
  obtain ⟨h1, h2, h3⟩ := right_parts h
  have hd : (writeS r).drop 1 = writeF (fieldsS r) := rfl
  have hrw := read_write h2
  have hf : flS (writeS r) = fieldsS r := by rw [flS, hd, hrw]
  have hrun : runS (writeS r) = (r, true) := by
    rw [runS, hf, run_all hr h1 _ _ fun f hf => (tags_in r f hf).1, fold_fields hr]
  have ha : accS (writeS r) = true := by
    rw [accS, hd, hrw, hrun, h]
    simp [writeS]
  exact ⟨ha, by rw [readS, ha, if_pos rfl, hrun]⟩
theorem write_injS {r q : Rs} (hr : okRs r) (hq : okRs q) (h1 : rightS r = true) (h2 : rightS q = true) (h : writeS r = writeS q) : r = q := by
  have a := (read_writeS hr h1).2
  have b := (read_writeS hq h2).2
  rw [h, b] at a
  exact (Prod.mk.inj a).1.symm
