/- Part of a proof by the rules of the symbolic walk (see the law's own text): contracts of functions of the program. -/
import Derived.Test.YthfgpdjplknleaaGreatDoorGS
import Derived.Lib.AtoiAll
import Derived.Test.YthfgpdjplknleaaGreatDoorRows
import Derived.Lib.LaidTab
import Derived.Lib.LaidU8
import Derived.Stop.LaidErr
import Derived.Stop.Joined
import Derived.Shelf.Vars
import Derived.Lay
import Derived.MakeChecks
import Derived.ProofKit
open Go Go.Proofs Go.SE Go.RowKit
set_option linter.unusedVariables false
set_option maxRecDepth 100000
def tickB : Tx := [116, 105, 99, 107]
def pickB : Tx := [112, 105, 99, 107]
def rawB : Tx := [114, 97, 119]
def askB : Tx := [97, 115, 107]
/-- The line of an entry. -/
def lineT (e : En) : Tx :=
  if cleanE e = false then []
  else if e.kind = 2 then tickB
  else if e.kind = 3 then pickB ++ 32 :: Lib.itoa e.n
  else if (readR e.bs).2 = 0 then askB ++ 32 :: (Lib.itoa e.slot ++ 32 :: tx (wordsB (readR e.bs).1))
  else rawB ++ 32 :: (Lib.itoa e.slot ++ 32 :: wordT e.bs)
def lineE (e : En) : Int := if cleanE e then 0 else 410
theorem strT_add (a b : Tx) : strT a ++ strT b = strT (a ++ b) := by
  apply ByteArray.ext; simp [strT]
theorem clean_len {e : En} (h : cleanE e = true) : e.bs.length ≤ 16384 ∧ (e.kind = 1 ∨ e.kind = 2 ∨ e.kind = 3) := by
  unfold cleanE at h
  split at h
  · rename_i hk
    simp only [Bool.and_eq_true, decide_eq_true_eq] at h
    exact ⟨h.2.2, .inl hk⟩
  · split at h
    · rename_i hk
      have h := of_decide_eq_true h
      rw [h]; exact ⟨by decide, .inr (.inl rfl)⟩
    · split at h
      · rename_i hk
        simp only [Bool.and_eq_true, decide_eq_true_eq] at h
        rw [h.2]; exact ⟨by simp, .inr (.inr rfl)⟩
      · cases h
theorem sz1 (a : UInt8) : (⟨#[a]⟩ : ByteArray).size = 1 := rfl
theorem sz3 (a b c : UInt8) : (⟨#[a, b, c]⟩ : ByteArray).size = 3 := rfl
theorem str_line (k x w : Tx) : strT k ++ (strT [32] ++ strT x ++ strT [32]) ++ strT w = strT (k ++ 32 :: (x ++ 32 :: w)) := by
  rw [strT_add, strT_add, strT_add, strT_add]; simp
theorem ct22 (e : En) (hk : okEn e) (y : Value) (I : Mem) (hG : Globs I) (hy : BySl I y e.bs) :
    Ct Tryz.prog (fnv 22) #[.agg (enV e y).toArray] I (fun v _ => v = .tuple #[.string (strT (lineT e)), .int .i64 (lineE e)]) := by
  have hy' := hy
  obtain ⟨p, n, c, rfl, hp, hpc, hpm⟩ := hy
  obtain ⟨Q, hQ⟩ : ∃ q : Value, q = .tuple #[.string (strT (lineT e)), .int .i64 (lineE e)] := ⟨_, rfl⟩
  rw [← hQ]
  refine viaR (ct_via (A := { }) Tryz.func22 rfl Tryz.call22 rfl rfl) (Ct Tryz.prog (.func (.func 32) #[] #[]) #[.agg #[.int .u8 e.kind, .int .i64 e.slot, .int .i64 e.n, .slice p n c]] I fun (v : Value) (a : Mem) => ∃ (b : Bool), v = .bool b ∧ Br (!b) (Value.tuple #[.string ⟨#[]⟩, .int .i64 410] = Q) (Br (e.kind == 2) (Value.tuple #[.string ⟨#[116, 105, 99, 107]⟩, .int .i64 0] = Q) (Br (e.kind == 3) (Ct Tryz.prog (.func (.func 57) #[] #[]) #[.int .i64 e.n] a (fun (d : Value) (f : Mem) => ∃ (q : ByteArray), d = .string q ∧ 5 + q.size ≤ 4611686018427387904 ∧ Value.tuple #[.string (⟨#[112, 105, 99, 107, 32]⟩ ++ q), .int .i64 0] = Q)) (Ct Tryz.prog (.func (.func 57) #[] #[]) #[.int .i64 e.slot] a (fun (d : Value) (f : Mem) => ∃ (q : ByteArray), d = .string q ∧ 1 + q.size ≤ 4611686018427387904 ∧ ByteArray.size (⟨#[32]⟩ ++ q) + 1 ≤ 4611686018427387904 ∧ Ct Tryz.prog (.func (.func 23) #[] #[]) #[.slice p n c] f fun (g : Value) (h : Mem) => ∃ (i j : Int) (k : ByteArray) (l m o r s t u w : Int) (x : Option Addr) (y z : Nat) (n1 : Int), g = .tuple #[.agg #[.int .u8 i, .int .u8 j, .string k, .int .i64 l, .int .i64 m, .int .i64 o, .int .i64 r, .int .i64 s, .int .i64 t, .int .i64 u, .int .i64 w, .slice x y z], .int .i64 n1] ∧ Br (n1 == 0) (Ct Tryz.prog (.func (.func 21) #[] #[]) #[.agg #[.int .u8 i, .int .u8 j, .string k, .int .i64 l, .int .i64 m, .int .i64 o, .int .i64 r, .int .i64 s, .int .i64 t, .int .i64 u, .int .i64 w, .slice x y z]] h (fun (v1 : Value) (I1 : Mem) => ∃ (q1 : ByteArray) (n2 : Int), v1 = .tuple #[.string q1, .int .i64 n2] ∧ 3 + ByteArray.size (⟨#[32]⟩ ++ q ++ ⟨#[32]⟩) ≤ 4611686018427387904 ∧ ByteArray.size (⟨#[97, 115, 107]⟩ ++ (⟨#[32]⟩ ++ q ++ ⟨#[32]⟩)) + q1.size ≤ 4611686018427387904 ∧ Value.tuple #[.string (⟨#[97, 115, 107]⟩ ++ (⟨#[32]⟩ ++ q ++ ⟨#[32]⟩) ++ q1), .int .i64 n2] = Q)) (3 + ByteArray.size (⟨#[32]⟩ ++ q ++ ⟨#[32]⟩) ≤ 4611686018427387904 ∧ ∃ (q1 : List UInt8), q1.length = n ∧ (p = none → n = 0) ∧ (∀ (j1 : Nat) (b1 : UInt8), q1[j1]? = some b1 → atI h p j1 = some (.int .u8 (b1.toNat : Int))) ∧ Ct Tryz.prog (.func (.func 55) #[] #[]) #[.string ⟨q1.toArray⟩] h fun (v1 : Value) (I1 : Mem) => ∃ (q2 : ByteArray), v1 = .string q2 ∧ ByteArray.size (⟨#[114, 97, 119]⟩ ++ (⟨#[32]⟩ ++ q ++ ⟨#[32]⟩)) + q2.size ≤ 4611686018427387904 ∧ Value.tuple #[.string (⟨#[114, 97, 119]⟩ ++ (⟨#[32]⟩ ++ q ++ ⟨#[32]⟩) ++ q2), .int .i64 0] = Q)))))) (by kernel_rfl) ?_
  have hnum : ∀ {z : Int}, i64R z → (strT (Lib.itoa z)).size ≤ 21 := fun h => by rw [strT_size]; exact itoa_len h
  refine (ct32 e _ I hy' hk.bs).mono fun v I1 l1 hv => ⟨_, hv, Br.mk (fun h => ?_) (fun h => Br.mk (fun h2 => ?_) (fun h2 => Br.mk (fun h3 => ?_) (fun h3 => ?_)))⟩
  · have h : cleanE e = false := by simpa using h
    rw [hQ, lineT, lineE, if_pos h, h]; rfl
  · have h : cleanE e = true := by simpa using h
    have h2 : e.kind = 2 := by simpa using h2
    rw [hQ, lineT, lineE, if_neg (by rw [h]; decide), if_pos h2, h]; rfl
  · have h : cleanE e = true := by simpa using h
    have h2 : e.kind ≠ 2 := by simpa using h2
    have h3 : e.kind = 3 := by simpa using h3
    refine (ct57 e.n hk.n I1 (hG.mono l1)).mono fun v I2 l2 hv => ⟨_, hv, by have := hnum hk.n; omega, ?_⟩
    rw [hQ, lineT, lineE, if_neg (by rw [h]; decide), if_neg h2, if_pos h3, h]
    rfl
  · have h : cleanE e = true := by simpa using h
    have h2 : e.kind ≠ 2 := by simpa using h2
    have h3 : e.kind ≠ 3 := by simpa using h3
    obtain ⟨hbl, _⟩ := clean_len h
    have hn := hp.numLen
    have g1 := hnum hk.slot
    refine (ct57 e.slot hk.slot I1 (hG.mono l1)).mono fun v I2 l2 hv => ⟨_, hv, by omega, by rw [ByteArray.size_append]; show 1 + _ + 1 ≤ _; omega, ?_⟩
    have l12 := Mem.le_trans l1 l2
    refine (ct23 e.bs hk.bs p n c I2 (hp.mono l12) (by omega) hpc hpm).mono fun v I3 l3 ⟨y2, hv, hy2, _⟩ => ?_
    obtain ⟨p2, n2, c2, rfl, hp2, hpc2, hpm2⟩ := hy2
    refine ⟨_, _, _, _, _, _, _, _, _, _, _, _, _, _, _, hv, Br.mk (fun h4 => ?_) (fun h4 => ?_)⟩
    · have h4 : (readR e.bs).2 = 0 := by simpa using h4
      have hacc : accB e.bs = true := by
        cases ha : accB e.bs with
        | true => rfl
        | false => rw [read_bad ha] at h4; cases h4
      obtain ⟨ho, hr, _, _⟩ := read_back hk.bs hacc
      obtain ⟨_, hn1, hf1, _⟩ := right_tag hr
      have hfb : byteL (readR e.bs).1.fed := ho.fed
      have hwl := (words_len ho hr).2
      refine (ct21 (readR e.bs).1 ho (by omega) _ I3 (hG.mono (Mem.le_trans l12 l3)) ⟨p2, n2, c2, rfl, hp2, hpc2, hpm2⟩ (by omega) hfb).mono fun v I4 l4 hv => ?_
      rw [hr] at hv
      simp only [if_true] at hv
      refine ⟨_, _, hv, by simp only [ByteArray.size_append, sz1]; omega, by simp only [ByteArray.size_append, sz1, sz3]; omega, ?_⟩
      rw [hQ, lineT, lineE, if_neg (by rw [h]; decide), if_neg h2, if_neg h3, if_pos h4, h]
      refine congrArg (fun z => Value.tuple #[.string z, .int .i64 0]) ?_
      exact str_line askB _ _
    · have h4 : (readR e.bs).2 ≠ 0 := by simpa using h4
      obtain ⟨us, hus, hnil, hat⟩ : ∃ us : List UInt8, us = u8s e.bs ∧ (p = none → n = 0) ∧ ∀ (q : Nat) (b : UInt8), us[q]? = some b → atI I3 p q = some (Value.int IntKind.u8 ↑b.toNat) := ⟨_, rfl, (u8s_at hk.bs (hp.mono (Mem.le_trans l12 l3))).2⟩
      have hsz : (⟨us.toArray⟩ : ByteArray).size = e.bs.length := by show us.toArray.size = _; rw [hus]; simp [u8s]
      refine ⟨by simp only [ByteArray.size_append, sz1]; omega, us, by rw [hus, u8s, List.length_map]; exact hn.symm, hnil, hat, (ct55 ⟨us.toArray⟩ (by omega) I3).mono fun v I4 l4 hv => ⟨_, hv, ?_, ?_⟩⟩
      · have : (⟨(wordT (strL ⟨us.toArray⟩)).toArray⟩ : ByteArray).size ≤ 40000 := by
          show (wordT (strL ⟨us.toArray⟩)).toArray.size ≤ _
          rw [List.size_toArray, word_len, strL_len]; omega
        simp only [ByteArray.size_append, sz1, sz3]; omega
      · rw [hQ, lineT, lineE, if_neg (by rw [h]; decide), if_neg h2, if_neg h3, if_neg h4, h]
        refine congrArg (fun z => Value.tuple #[.string z, .int .i64 0]) ?_
        have : wordT (strL ⟨us.toArray⟩) = wordT e.bs := by rw [hus]; exact congrArg wordT (strL_strB hk.bs)
        rw [this]
        exact str_line rawB _ _
open Go Go.Proofs Go.SE Go.RowKit
set_option linter.unusedVariables false
set_option maxRecDepth 100000
/-! ### What a request's words are read as -/
theorem num_itoa {n : Int} (h : i64R n) : numP (tx (strT (Lib.itoa n))) = (n, true) := by
  rw [tx_strT, numP, itoa_parse h]
theorem strT_tx (s : ByteArray) : strT (tx s) = s := rfl
theorem strB_strLS (s : ByteArray) : strB (strL s) = s := strB_strL s
theorem word_noName (bs : List Int) : nameB (strL (strT (wordT bs))) = false := by
  have : strL (strT (wordT bs)) = 37 :: intT (bs.flatMap hex2) := by
    rw [strL_tx, tx_strT, wordT, intT, List.map_cons]; rfl
  rw [this, nameB]
  simp
theorem strL_bytes (s : ByteArray) : ∀ z ∈ strL s, 0 ≤ z ∧ z ≤ 255 := fun z hz => by
  obtain ⟨c, _, rfl⟩ := List.mem_map.1 hz
  have := c.toNat_lt
  omega
theorem step_word {r h : Rq} (hr : okRq r) (hf : byteL r.fed) {t : Int} (ht : 2 ≤ t ∧ t ≤ 11) (l : List ByteArray) :
    stepW t h (strT (fieldT r t) :: l, true) = (copyT r h t, (l, true)) := by
  have num : 3 ≤ t ∧ t ≤ 9 → ∀ p : Int, numR r t = p → i64R p → stepW t h (strT (fieldT r t) :: l, true) = (setN h t p, (l, true)) := fun h3 p hp hi => by
    rw [stepW_num h3, fieldT, if_neg (by omega), if_neg (by omega), if_neg (by omega), if_neg (by omega), hp]
    simp only [numW, nextW]
    rw [num_itoa hi]; rfl
  rcases (by omega : t = 2 ∨ t = 3 ∨ t = 4 ∨ t = 5 ∨ t = 6 ∨ t = 7 ∨ t = 8 ∨ t = 9 ∨ t = 10 ∨ t = 11) with rfl | rfl | rfl | rfl | rfl | rfl | rfl | rfl | rfl | rfl
  · have e : fieldT r 2 = if nameB (strL r.name) then tx r.name else wordT (strL r.name) := rfl
    rw [e]
    cases hn : nameB (strL r.name) with
    | true =>
      simp only [if_true, stepW, nextW, strT_tx, hn]
      rfl
    | false =>
      simp only [Bool.false_eq_true, if_false, stepW, nextW, word_noName, tx_strT, unword_word (strL_bytes _), Option.getD_some, Option.isSome_some, Bool.and_true, strB_strLS]
      rfl
  · rw [num (by decide) r.p3 rfl hr.p3]; rfl
  · rw [num (by decide) r.p4 rfl hr.p4]; rfl
  · rw [num (by decide) r.p5 rfl hr.p5]; rfl
  · rw [num (by decide) r.p6 rfl hr.p6]; rfl
  · rw [num (by decide) r.p7 rfl hr.p7]; rfl
  · rw [num (by decide) r.p8 rfl hr.p8]; rfl
  · rw [num (by decide) r.p9 rfl hr.p9]; rfl
  · have e : fieldT r 10 = Lib.itoa r.val := rfl
    rw [e]
    simp only [stepW, numW, nextW, num_itoa hr.val]
    rfl
  · have e : fieldT r 11 = wordT r.fed := rfl
    rw [e]
    simp only [stepW, nextW, tx_strT, unword_word hf, Option.getD_some, Option.isSome_some, Bool.and_true]
    rfl
theorem run_words {r : Rq} (hr : okRq r) (hf : byteL r.fed) : ∀ (ts : List Int) (h : Rq) (l : List ByteArray), (∀ t ∈ ts, 2 ≤ t ∧ t ≤ 11) →
    runW ts h (ts.map (fun t => strT (fieldT r t)) ++ l, true) = (ts.foldl (copyT r) h, (l, true))
  | [], h, l, _ => rfl
  | t :: ts, h, l, ht => by
    rw [List.map_cons, List.cons_append, runW_on, step_word hr hf (ht t (by simp)), run_words hr hf ts _ l fun s hs => ht s (by simp [hs])]
    rfl
theorem kind_name : ∀ {k : Int}, 0 ≤ k → k ≤ 9 → kindS nameS (nameS k) = k := by
  have : ∀ k : Fin 10, kindS nameS (nameS k.val) = k.val := by decide +kernel
  intro k h0 h1
  have := this ⟨k.toNat, by omega⟩
  simp only at this
  rw [Int.toNat_of_nonneg h0] at this
  exact this
theorem kind_ask : ∀ {k : Int}, 0 ≤ k → k ≤ 5 → kindS askS (askS k) = k := by
  have : ∀ k : Fin 6, kindS askS (askS k.val) = k.val := by decide +kernel
  intro k h0 h1
  have := this ⟨k.toNat, by omega⟩
  simp only at this
  rw [Int.toNat_of_nonneg h0] at this
  exact this
theorem tag_shape {k w : Int} {l : List Int} (h : tagL k w = some l) : (k = 7 ∧ (1 ≤ w ∧ w ≤ 5) ∧ ∃ q, l = 1 :: q ∧ ∀ t ∈ q, 2 ≤ t ∧ t ≤ 11) ∨ (k ≠ 7 ∧ (1 ≤ k ∧ k ≤ 9) ∧ ∀ t ∈ l, 2 ≤ t ∧ t ≤ 11) := by
  have aw : ∀ {q}, askL w = some q → (1 ≤ w ∧ w ≤ 5) ∧ ∀ t ∈ q, 2 ≤ t ∧ t ≤ 11 := fun {q} hq => by
    unfold askL at hq
    repeat' split at hq
    all_goals first | (cases hq; exact ⟨by omega, by decide⟩) | cases hq
  by_cases h7 : k = 7
  · subst h7
    simp only [tagL, show ¬ (7 : Int) = 1 by decide, show ¬ (7 : Int) = 2 by decide, show ¬ (7 : Int) = 3 by decide, show ¬ (7 : Int) = 4 by decide, show ¬ (7 : Int) = 5 by decide, show ¬ (7 : Int) = 6 by decide, if_false, if_true] at h
    cases hq : askL w with
    | none => rw [hq] at h; simp at h
    | some q =>
      rw [hq] at h
      simp at h
      subst h
      exact .inl ⟨rfl, (aw hq).1, q, rfl, (aw hq).2⟩
  · refine .inr ⟨h7, ?_⟩
    simp only [tagL, h7, if_false] at h
    repeat' split at h
    all_goals first | (cases h; exact ⟨by omega, by decide⟩) | cases h
theorem same_eq {r q : Rq} (h : sameR r q = true) : r = q := by
  have h := of_decide_eq_true h
  obtain ⟨h1, h2, h3, h4, h5, h6, h7, h8, h9, h10, h11, h12⟩ := h
  cases r; cases q
  simp only at *
  subst_vars
  rfl
theorem ask_words {r : Rq} (hr : okRq r) (hf : byteL r.fed) (h : rightR r = true) : askW (wordsL r) = (r, true) := by
  rw [right_eq hr, rightS] at h
  cases ht : tagL r.kind r.what with
  | none => rw [ht] at h; cases h
  | some l =>
    rw [ht] at h
    simp only [Bool.and_eq_true] at h
    have hs := same_eq h.2.2.2
    have hw : wordsL r = nameS r.kind :: l.map fun t => strT (fieldT r t) := by rw [wordsL, tagsR, ht]; rfl
    rcases tag_shape ht with ⟨h7, hw5, q, rfl, hq⟩ | ⟨h7, hk, hl⟩
    · have hK : askK (wordsL r) = 7 := by
        rw [askK, hw, nextW, h7]; exact kind_name (k := 7) (by decide) (by decide)
      have hQ : askQ (wordsL r) = r.what := by
        rw [askQ, if_pos hK, hw]
        simp only [nextW, List.map_cons]
        rw [show fieldT r 1 = tx (askS r.what) from rfl, strT_tx]
        exact kind_ask (by omega) (by omega)
      have hW : askW1 (wordsL r) = (q.map (fun t => strT (fieldT r t)), true) := by
        rw [askW1, if_pos hK, hw]; rfl
      have ht' : tagL (askK (wordsL r)) (askQ (wordsL r)) = some (1 :: q) := by rw [hK, hQ, ← h7, ht]
      have h0 : ({ zeroRq with kind := 7, what := r.what } : Rq) = copyT r (had0 r) 1 := by rw [← h7]; rfl
      have hrun : runW (1 :: q) { zeroRq with kind := 7, what := r.what } (q.map (fun t => strT (fieldT r t)), true) = (r, ([], true)) := by
        rw [runW_on]
        have := run_words hr hf q { zeroRq with kind := 7, what := r.what } [] hq
        rw [List.append_nil] at this
        rw [show (stepW 1 { zeroRq with kind := 7, what := r.what } (q.map (fun t => strT (fieldT r t)), true)) = ({ zeroRq with kind := 7, what := r.what }, (q.map (fun t => strT (fieldT r t)), true)) from rfl, this, h0]
        rw [List.foldl_cons] at hs
        rw [hs]
      rw [askW, ht', hK, hQ, hW]
      simp only [Option.getD_some, Option.isSome_some, Bool.and_true]
      rw [hrun]; rfl
    · have hK : askK (wordsL r) = r.kind := by
        rw [askK, hw, nextW]; exact kind_name (by omega) (by omega)
      have hQ : askQ (wordsL r) = 0 := by rw [askQ, if_neg (by rw [hK]; exact h7)]
      have hW : askW1 (wordsL r) = (l.map (fun t => strT (fieldT r t)), true) := by
        rw [askW1, if_neg (by rw [hK]; exact h7), hw]; rfl
      have hwz : r.what = 0 := by
        have key : ∀ (l : List Int) (h : Rq), (∀ t ∈ l, 2 ≤ t ∧ t ≤ 11) → (l.foldl (copyT r) h).what = h.what := by
          intro l
          induction l with
          | nil => intro h _; rfl
          | cons t l ih =>
            intro h hl
            rw [List.foldl_cons, ih _ fun s hs => hl s (by simp [hs])]
            have := hl t (by simp)
            unfold copyT
            rw [if_neg (by omega)]
            repeat' split
            all_goals rfl
        have := key l (had0 r) hl
        rw [hs] at this
        exact this
      have ht' : tagL (askK (wordsL r)) (askQ (wordsL r)) = some l := by rw [hK, hQ, ← hwz, ht]
      have hrun : runW l { zeroRq with kind := r.kind, what := 0 } (l.map (fun t => strT (fieldT r t)), true) = (r, ([], true)) := by
        have := run_words hr hf l { zeroRq with kind := r.kind, what := 0 } [] hl
        rw [List.append_nil] at this
        rw [this, show ({ zeroRq with kind := r.kind, what := 0 } : Rq) = had0 r from rfl, hs]
      rw [askW, ht', hK, hQ, hW]
      simp only [Option.getD_some, Option.isSome_some, Bool.and_true]
      rw [hrun]; rfl
theorem uint10_eq : ∀ (l : Tx) (acc : Nat), Lib.parseUint10 acc l = Lib.parseUintM 18446744073709551615 acc l
  | [], acc => rfl
  | c :: r, acc => by
    rw [Lib.parseUint10, Lib.parseUintM]
    split
    · split
      · rfl
      · split
        · rw [if_pos (by omega)]
        · rw [if_neg (by omega)]; exact uint10_eq r _
    · rfl
theorem atoi_eq (l : Tx) : Lib.atoiAll l = Lib.parseIntB 64 l := by
  cases l with
  | nil => rfl
  | cons c r =>
    have e1 : (2 : Nat) ^ 64 - 1 = 18446744073709551615 := by decide
    have e2 : (2 : Nat) ^ (64 - 1) = 9223372036854775808 := by decide
    have e3 : ∀ q, Lib.parseMag q = Lib.parseUintB 64 q := fun q => by rw [Lib.parseMag, Lib.parseUintB, e1, uint10_eq]
    rw [Lib.atoiAll, Lib.parseIntB, e2, e3]
    rfl
theorem numA_itoa {n : Int} (h : i64R n) : numA (tx (strT (Lib.itoa n))) = (n, true) := by
  rw [tx_strT, numA, atoi_eq, itoa_parse h]
theorem parseM_le (M : Nat) : ∀ (l : Tx) (acc u : Nat), acc ≤ M → Lib.parseUintM M acc l = .ok u → u ≤ M
  | [], acc, u, ha, h => by simp only [Lib.parseUintM, Lib.NumEnd.ok.injEq] at h; omega
  | c :: r, acc, u, ha, h => by
    rw [Lib.parseUintM] at h
    split at h
    · split at h
      · cases h
      · split at h
        · cases h
        · exact parseM_le M r _ u (by omega) h
    · cases h
theorem intB_rng {l : Tx} {v : Int} (h : Lib.parseIntB 64 l = .ok v) : i64R v := by
  cases l with
  | nil => cases h
  | cons c r =>
    have e2 : (2 : Nat) ^ (64 - 1) = 9223372036854775808 := by decide
    rw [Lib.parseIntB, e2] at h
    split at h
    · cases h
    · cases h
    · rename_i u hu
      split at h
      · cases h
      · rename_i h1
        split at h
        · cases h
        · rename_i h2
          simp only [Lib.NumEnd.ok.injEq] at h
          subst h
          unfold i64R
          by_cases hn : c.toNat = 45
          · rw [if_pos hn]
            have : ¬ 9223372036854775808 < u := fun h => h2 ⟨hn, h⟩
            omega
          · rw [if_neg hn]
            have : ¬ 9223372036854775808 ≤ u := fun h => h1 ⟨hn, h⟩
            omega
theorem numP_rng (t : Tx) : i64R (numP t).1 := by
  unfold numP
  split
  · rename_i h; exact intB_rng h
  · simp only [Lib.intSat]
    split
    · exact ⟨by decide, by decide⟩
    · exact ⟨by decide, by decide⟩
  · exact ⟨by decide, by decide⟩
theorem numA_rng (t : Tx) : i64R (numA t).1 := by
  unfold numA
  split
  · rename_i h; rw [atoi_eq] at h; exact intB_rng h
  · simp only [Lib.atoiSat]
    split
    · exact ⟨by decide, by decide⟩
    · exact ⟨by decide, by decide⟩
  · exact ⟨by decide, by decide⟩
theorem kind_rng (f : Int → ByteArray) (s : ByteArray) : 0 ≤ kindS f s ∧ kindS f s ≤ 255 := by
  have : ∀ (k : Nat) (n : Int), 0 ≤ n → n + k ≤ 255 → 0 ≤ kindGo f s k n ∧ kindGo f s k n ≤ 255 := by
    intro k
    induction k with
    | zero => intro n h0 h1; rw [kindGo]; omega
    | succ k ih =>
      intro n h0 h1
      rw [kindGo]
      split
      · omega
      · split
        · omega
        · exact ih (n + 1) (by omega) (by omega)
  exact this 19 1 (by decide) (by decide)
/-- A request that words set: its parts are within their limits. -/
structure smRq (r : Rq) : Prop where
  ok : okRq r
  name : r.name.size ≤ 1000000
  fed : r.fed.length ≤ 1000000
theorem unw_len {w : ByteArray} (hs : w.size ≤ 1000000) : ((unwordT (tx w)).getD []).length ≤ 1000000 := by
  have := unw_size (o := unwordT (tx w)) rfl hs
  rwa [strB_len] at this
theorem step_sm {r : Rq} (h : smRq r) (t : Int) {w : WS} (hw : ∀ x ∈ w.1, x.size ≤ 1000000) : smRq (stepW t r w).1 ∧ ∀ x ∈ (stepW t r w).2.1, x.size ≤ 1000000 := by
  obtain ⟨wl, b⟩ := w
  have hn := next_size (b := b) hw
  have hq := numP_rng (tx (nextW (wl, b)).1)
  obtain ⟨⟨k1, k2, k3, k4, k5, k6, k7, k8, k9, k10, k11⟩, h2, h3⟩ := h
  unfold stepW
  split
  · exact ⟨⟨⟨k1, k2, k3, k4, k5, k6, k7, k8, k9, k10, k11⟩, h2, h3⟩, hw⟩
  · split
    · split
      · exact ⟨⟨⟨k1, k2, k3, k4, k5, k6, k7, k8, k9, k10, k11⟩, hn.1, h3⟩, hn.2⟩
      · exact ⟨⟨⟨k1, k2, k3, k4, k5, k6, k7, k8, k9, k10, k11⟩, unw_size rfl hn.1, h3⟩, hn.2⟩
    · split
      · exact ⟨⟨⟨k1, k2, k3, k4, k5, k6, k7, k8, k9, hq, k11⟩, h2, h3⟩, hn.2⟩
      · split
        · exact ⟨⟨⟨k1, k2, k3, k4, k5, k6, k7, k8, k9, k10, unw_bytes rfl⟩, h2, unw_len hn.1⟩, hn.2⟩
        · refine ⟨?_, hn.2⟩
          unfold setN
          repeat' split
          · exact ⟨⟨k1, k2, hq, k4, k5, k6, k7, k8, k9, k10, k11⟩, h2, h3⟩
          · exact ⟨⟨k1, k2, k3, hq, k5, k6, k7, k8, k9, k10, k11⟩, h2, h3⟩
          · exact ⟨⟨k1, k2, k3, k4, hq, k6, k7, k8, k9, k10, k11⟩, h2, h3⟩
          · exact ⟨⟨k1, k2, k3, k4, k5, hq, k7, k8, k9, k10, k11⟩, h2, h3⟩
          · exact ⟨⟨k1, k2, k3, k4, k5, k6, hq, k8, k9, k10, k11⟩, h2, h3⟩
          · exact ⟨⟨k1, k2, k3, k4, k5, k6, k7, hq, k9, k10, k11⟩, h2, h3⟩
          · exact ⟨⟨k1, k2, k3, k4, k5, k6, k7, k8, hq, k10, k11⟩, h2, h3⟩
theorem run_sm : ∀ (ts : List Int) {r : Rq} (h : smRq r) {w : WS} (hw : ∀ x ∈ w.1, x.size ≤ 1000000), smRq (runW ts r w).1
  | [], r, h, w, hw => h
  | t :: ts, r, h, w, hw => by
    rw [runW]
    split
    · exact h
    · obtain ⟨h1, h2⟩ := step_sm h t hw
      exact run_sm ts h1 h2
theorem i64R_zero : i64R 0 := ⟨by decide, by decide⟩
theorem ask_sm {ws : List ByteArray} (hws : ∀ w ∈ ws, w.size ≤ 1000000) : smRq (askW ws).1 := by
  have h1 := next_size (b := true) hws
  have hw1 : ∀ x ∈ (askW1 ws).1, x.size ≤ 1000000 := by
    unfold askW1
    split
    · exact (next_size h1.2).2
    · exact h1.2
  rw [askW]
  refine run_sm _ ⟨⟨?_, ?_, ?_, ?_, ?_, ?_, ?_, ?_, ?_, ?_, byteL_nil⟩, Nat.zero_le _, Nat.zero_le _⟩ hw1
  · exact kind_rng nameS (nextW (ws, true)).1
  · show 0 ≤ askQ ws ∧ askQ ws ≤ 255
    unfold askQ
    split
    · exact kind_rng _ _
    · omega
  all_goals exact i64R_zero
open Go Go.Proofs Go.SE Go.RowKit
set_option linter.unusedVariables false
set_option maxRecDepth 100000
/-- The entry that words may be those of. -/
def wordAt (ws : List ByteArray) (j : Nat) : ByteArray := (ws[j]?).getD ⟨#[]⟩
def entAt (ws : List ByteArray) : Int := if wordAt ws 0 = strT pickB then 0 else 1
def entN (ws : List ByteArray) : Int := if ws.length > 1 then (numA (tx (wordAt ws 1))).1 else 0
def entryW (ws : List ByteArray) : En × Bool :=
  if wordAt ws 0 = strT tickB then (⟨2, 0, 0, []⟩, true)
  else if (ws.length : Int) < 2 + entAt ws then (zeroEn, false)
  else if wordAt ws 0 = strT pickB then (⟨3, 0, entN ws, []⟩, true)
  else if wordAt ws 0 = strT rawB then (⟨1, entN ws, 0, (unwordT (tx (wordAt ws 2))).getD []⟩, (unwordT (tx (wordAt ws 2))).isSome)
  else if wordAt ws 0 = strT askB then (if (askW (ws.drop 2)).2 then ((askE (entN ws) (askW (ws.drop 2)).1).1, decide ((askE (entN ws) (askW (ws.drop 2)).1).2 = 0)) else (zeroEn, false))
  else (zeroEn, false)
theorem ct82 (ws : List ByteArray) (hne : ws ≠ []) (hws : ∀ w ∈ ws, w.size ≤ 1000000) (v : Value) (I : Mem) (hG : Globs I) (hw : WsL I v ws) :
    Ct Tryz.prog (fnv 82) #[v] I (fun u I' => ∃ y, u = .tuple #[.agg (enV (entryW ws).1 y).toArray, .bool (entryW ws).2] ∧ BySl I' y (entryW ws).1.bs) := by
  obtain ⟨p, n, c, rfl, hp, hpc, hpm⟩ := hw
  obtain ⟨Q, hQ⟩ : ∃ q : Value → Mem → Prop, q = fun u I' => ∃ y, u = .tuple #[.agg (enV (entryW ws).1 y).toArray, .bool (entryW ws).2] ∧ BySl I' y (entryW ws).1.bs := ⟨_, rfl⟩
  obtain ⟨AT, hAT⟩ : ∃ a, a = entAt ws := ⟨_, rfl⟩
  obtain ⟨NW, hNW⟩ : ∃ a, a = entN ws := ⟨_, rfl⟩
  rw [← hQ]
  refine viaR (ct_via (A := { cuts := [(4, ⟨[(0, .keep), (2, .keep), (3, .keep), (4, .sh (.int .i64))], [(0, .keep)], [], fun vals _ _ _ => match vals with | [.int .i64 a] => a = AT | _ => False, fun _ _ => 0⟩), (7, ⟨[(0, .keep), (2, .keep), (3, .keep), (4, .keep), (5, .sh (.int .i64))], [(0, .keep)], [], fun vals _ _ _ => match vals with | [.int .i64 a] => a = NW | _ => False, fun _ _ => 0⟩)] }) Tryz.func82 rfl Tryz.call82 rfl rfl) (let E1 := Ent.mk (.cells [.v (.int .u8 0), .v (.int .i64 0), .v (.int .i64 0), .v (.slice none 0 0)] 35) none
      ((0 : Int) ≤ 0 ∧ 0 < (n : Int) ∧ p.isSome = true ∧ ∃ q, atI I p 0 = some (.string q) ∧ Br (q.toList == (ByteArray.mk #[112, 105, 99, 107]).toList) (Rf E1 ∧ Rf (SV.v (.slice p n c)) ∧ Rf (SV.ptr 0 0) ∧ Rf (SV.v (.bool false)) ∧ 0 = AT) (Rf E1 ∧ Rf (SV.v (.slice p n c)) ∧ Rf (SV.ptr 0 0) ∧ Rf (SV.v (.bool false)) ∧ 1 = AT)) ∧ ∀ (a : Mem), Mem → I.le a → ∀ (b : Int), b = AT → Br (decide (1 < (n : Int))) ((0 : Int) ≤ 1 ∧ 1 < (n : Int) ∧ p.isSome = true ∧ ∃ q, atI a p 1 = some (.string q) ∧ Ct Tryz.prog (.func (.func 114) #[] #[]) #[.string q] a fun v d => ∃ e x, v = .tuple #[.int .i64 e, x] ∧ Rf E1 ∧ Rf (SV.v (.slice p n c)) ∧ Rf (SV.ptr 0 0) ∧ Rf (SV.v (.bool false)) ∧ Rf (SV.v (.int .i64 b)) ∧ e = NW) (Rf E1 ∧ Rf (SV.v (.slice p n c)) ∧ Rf (SV.ptr 0 0) ∧ Rf (SV.v (.bool false)) ∧ Rf (SV.v (.int .i64 b)) ∧ 0 = NW) ∧ ∀ (d : Mem), Mem → a.le d → ∀ (e : Int), e = NW → (0 : Int) ≤ 0 ∧ 0 < (n : Int) ∧ p.isSome = true ∧ ∃ q, atI d p 0 = some (.string q) ∧ Br (q.toList == (ByteArray.mk #[116, 105, 99, 107]).toList) (Q (.tuple #[.agg #[.int .u8 2, .int .i64 0, .int .i64 0, .slice none 0 0], .bool true]) d) (Wr .i64 (2 + b) (fun f => Br (decide ((n : Int) < f)) (Q (.tuple #[.agg #[.int .u8 0, .int .i64 0, .int .i64 0, .slice none 0 0], .bool false]) d) ((0 : Int) ≤ 0 ∧ 0 < (n : Int) ∧ p.isSome = true ∧ ∃ g, atI d p 0 = some (.string g) ∧ Br (g.toList == (ByteArray.mk #[112, 105, 99, 107]).toList) (Q (.tuple #[.agg #[.int .u8 3, .int .i64 0, .int .i64 e, .slice none 0 0], .bool true]) d) ((0 : Int) ≤ 0 ∧ 0 < (n : Int) ∧ p.isSome = true ∧ ∃ h, atI d p 0 = some (.string h) ∧ Br (h.toList == (ByteArray.mk #[114, 97, 119]).toList) ((0 : Int) ≤ 2 ∧ 2 < (n : Int) ∧ p.isSome = true ∧ ∃ i, atI d p 2 = some (.string i) ∧ Ct Tryz.prog (.func (.func 115) #[] #[]) #[.string i] d fun v j => ∃ k l, v = .tuple #[.string k, .bool l] ∧ k.size ≤ 4611686018427387904 ∧ ∀ (m : Option Addr) (o : Nat) (r : Mem), j.le r → m.isSome = true → k.size ≤ o → o ≤ 9223372036854775807 → (∀ (s : Nat) (t : UInt8), k.data.toList[s]? = some t → atI r m s = some (.int .u8 (t.toNat : Int))) → Q (.tuple #[.agg #[.int .u8 1, .int .i64 e, .int .i64 0, .slice m k.size o], .bool l]) r) ((0 : Int) ≤ 0 ∧ 0 < (n : Int) ∧ p.isSome = true ∧ ∃ i, atI d p 0 = some (.string i) ∧ Br (i.toList == (ByteArray.mk #[97, 115, 107]).toList) ((0 : Int) ≤ 2 ∧ 2 ≤ (n : Int) ∧ Ct Tryz.prog (.func (.func 116) #[] #[]) #[.slice (sladdr p c 2 1) (n - 2) (c - 2)] d fun v j => ∃ k l m o r s t u w x y z n1 c1 b1, v = .tuple #[.agg #[.int .u8 k, .int .u8 l, .string m, .int .i64 o, .int .i64 r, .int .i64 s, .int .i64 t, .int .i64 u, .int .i64 w, .int .i64 x, .int .i64 y, .slice z n1 c1], .bool b1] ∧ Br (!b1) (Q (.tuple #[.agg #[.int .u8 0, .int .i64 0, .int .i64 0, .slice none 0 0], .bool false]) j) (Ct Tryz.prog (.func (.func 20) #[] #[]) #[.int .i64 e, .agg #[.int .u8 k, .int .u8 l, .string m, .int .i64 o, .int .i64 r, .int .i64 s, .int .i64 t, .int .i64 u, .int .i64 w, .int .i64 x, .int .i64 y, .slice z n1 c1]] j (fun v1 I1 => ∃ n2 n3 n4 a1 n5 c2 n6, v1 = .tuple #[.agg #[.int .u8 n2, .int .i64 n3, .int .i64 n4, .slice a1 n5 c2], .int .i64 n6] ∧ Q (.tuple #[.agg #[.int .u8 n2, .int .i64 n3, .int .i64 n4, .slice a1 n5 c2], .bool (n6 == 0)]) I1))) (Q (.tuple #[.agg #[.int .u8 0, .int .i64 0, .int .i64 0, .slice none 0 0], .bool false]) d))))))) (by kernel_rfl) ?_
  intro E1
  have hl : ws.length = n := by have := hp.len; rw [Nat.mul_one] at this; rw [← this]; simp [strs]
  have hpos : 0 < ws.length := List.length_pos_iff.2 hne
  have wat : ∀ {J : Mem} (j : Nat), I.le J → j < ws.length → atI J p j = some (.string (wordAt ws j)) := fun {J} j hJ hj =>
    (hp.mono hJ).at_ j _ (strs_get (by rw [wordAt, List.getElem?_eq_getElem hj]; rfl))
  have wsz : ∀ j : Nat, (wordAt ws j).size ≤ 1000000 := fun j => by
    rw [wordAt]
    cases hq : ws[j]? with
    | none => exact Nat.zero_le _
    | some w => exact hws w (List.mem_of_getElem? hq)
  have hnp : 0 < n := by rw [← hl]; exact hpos
  have hsome : p.isSome = true := hp.isSome hnp
  have hn0 : (0 : Int) < n := by omega
  have h01 : entAt ws = 0 ∨ entAt ws = 1 := by rw [entAt]; split <;> simp
  refine ⟨⟨Int.le_refl 0, hn0, hsome, _, wat 0 (fun _ _ h => h) hpos, ?_⟩, fun a G1 la b hb => ⟨Br.mk (fun h => ⟨by omega, of_decide_eq_true h, hsome, _, wat 1 la (by have := of_decide_eq_true h; omega), (ct114 _ (wsz 1) a (hG.mono la)).mono fun v d ld ⟨e, hv, _⟩ => ⟨_, e, hv, rfl, rfl, rfl, rfl, rfl, ?_⟩⟩) (fun h => ⟨rfl, rfl, rfl, rfl, rfl, ?_⟩), fun d G2 ld e he => ?_⟩⟩
  · rw [str_eq]
    refine Br.mk (fun h => ⟨rfl, rfl, rfl, rfl, ?_⟩) (fun h => ⟨rfl, rfl, rfl, rfl, ?_⟩)
    · have h : wordAt ws 0 = strT pickB := of_decide_eq_true h
      rw [hAT, entAt, if_pos h]
    · have h : wordAt ws 0 ≠ strT pickB := of_decide_eq_false h
      rw [hAT, entAt, if_neg h]
  · have h := of_decide_eq_true h
    rw [hNW, entN, if_pos (by omega)]
  · have h := of_decide_eq_false h
    rw [hNW, entN, if_neg (by omega)]
  have hd := Mem.le_trans la ld
  obtain rfl := hb.symm
  obtain rfl := he.symm
  refine ⟨Int.le_refl 0, hn0, hsome, _, wat 0 hd hpos, ?_⟩
  rw [str_eq]
  refine Br.mk (fun h1 => ?_) (fun h1 => wr_i64 (by omega) (by omega) (Br.mk (fun h2 => ?_) (fun h2 => ⟨Int.le_refl 0, hn0, hsome, _, wat 0 hd hpos, ?_⟩)))
  · have h1 : wordAt ws 0 = strT tickB := of_decide_eq_true h1
    rw [hQ, entryW, if_pos h1]
    exact ⟨_, rfl, bysl_nil _⟩
  · have h1 : wordAt ws 0 ≠ strT tickB := of_decide_eq_false h1
    have h2 := of_decide_eq_true h2
    rw [hQ, entryW, if_neg h1, if_pos (by rw [← hAT, hl]; exact h2)]
    exact ⟨_, rfl, bysl_nil _⟩
  have h1 : wordAt ws 0 ≠ strT tickB := of_decide_eq_false h1
  have h2 : ¬ (ws.length : Int) < 2 + entAt ws := by rw [← hAT, hl]; exact of_decide_eq_false h2
  rw [str_eq]
  refine Br.mk (fun h3 => ?_) (fun h3 => ⟨Int.le_refl 0, hn0, hsome, _, wat 0 hd hpos, ?_⟩)
  · have h3 : wordAt ws 0 = strT pickB := of_decide_eq_true h3
    rw [hQ, entryW, if_neg h1, if_neg h2, if_pos h3, hNW]
    exact ⟨_, rfl, bysl_nil _⟩
  have h3 : wordAt ws 0 ≠ strT pickB := of_decide_eq_false h3
  have h22 : 2 < ws.length := by
    have : entAt ws = 1 := by rw [entAt, if_neg h3]
    omega
  rw [str_eq]
  refine Br.mk (fun h4 => ⟨by omega, by omega, hsome, _, wat 2 hd h22, (ct115 _ (wsz 2) d).mono fun v j lj hv => ?_⟩) (fun h4 => ⟨Int.le_refl 0, hn0, hsome, _, wat 0 hd hpos, ?_⟩)
  · have h4 : wordAt ws 0 = strT rawB := of_decide_eq_true h4
    obtain ⟨o, ho⟩ : ∃ o, o = unwordT (tx (wordAt ws 2)) := ⟨_, rfl⟩
    rw [← ho] at hv
    have hv : v = .tuple #[.string (strB (o.getD [])), .bool o.isSome] := by rw [hv]; cases o <;> rfl
    have hol := unw_size ho.symm (wsz 2)
    refine ⟨_, _, hv, by omega, fun m q r lr g1 g2 g3 g4 => ?_⟩
    rw [hQ, entryW, if_neg h1, if_neg h2, if_neg h3, if_pos h4, hNW, ← ho]
    exact ⟨_, rfl, bysl_str (unw_bytes ho.symm) g1 (by omega) g2 g3 g4⟩
  have h4 : wordAt ws 0 ≠ strT rawB := of_decide_eq_false h4
  rw [str_eq]
  refine Br.mk (fun h5 => ⟨by omega, by omega, ?_⟩) (fun h5 => ?_)
  · have h5 : wordAt ws 0 = strT askB := of_decide_eq_true h5
    have hsm := ask_sm (ws := ws.drop 2) fun w hw => hws w (List.mem_of_mem_drop hw)
    have hdr : WsL d (.slice (sladdr p c 2 1) (n - 2) (c - 2)) (ws.drop 2) := ⟨_, _, _, rfl, by
      have := sl_drop (k := 2) (hp.mono hd) (by omega) hpc
      rwa [show (strs ws).drop 2 = strs (ws.drop 2) by simp [strs]] at this, by omega, Nat.le_trans (Nat.sub_le _ _) hpm⟩
    refine (ct116 (ws.drop 2) (fun w hw => hws w (List.mem_of_mem_drop hw)) _ d (hG.mono hd) hdr).mono fun v j lj ⟨y, hv, hy⟩ => ?_
    have hy' := hy
    obtain ⟨p2, n2, c2, rfl, _, _, _⟩ := hy'
    refine ⟨_, _, _, _, _, _, _, _, _, _, _, _, _, _, _, hv, Br.mk (fun h6 => ?_) (fun h6 => ?_)⟩
    · have h6 : (askW (ws.drop 2)).2 = false := by simpa using h6
      rw [hQ, entryW, if_neg h1, if_neg h2, if_neg h3, if_neg h4, if_pos h5, h6]
      exact ⟨_, rfl, bysl_nil _⟩
    · have h6 : (askW (ws.drop 2)).2 = true := by simpa using h6
      have hnr : i64R NW := by
        rw [hNW, entN]
        split
        · exact numA_rng _
        · exact i64R_zero
      refine (ct20 NW hnr _ hsm.ok hsm.name _ j hy hsm.fed).mono fun v k lk ⟨z, hv, hz⟩ => ?_
      have hz' := hz
      obtain ⟨p3, n3, c3, rfl, _, _, _⟩ := hz'
      refine ⟨_, _, _, _, _, _, _, hv, ?_⟩
      have e : entryW ws = ((askE NW (askW (ws.drop 2)).1).1, decide ((askE NW (askW (ws.drop 2)).1).2 = 0)) := by
        rw [entryW, if_neg h1, if_neg h2, if_neg h3, if_neg h4, if_pos h5, if_pos h6, hNW]
      rw [hQ, e]
      exact ⟨_, rfl, hz⟩
  · have h5 : wordAt ws 0 ≠ strT askB := of_decide_eq_false h5
    rw [hQ, entryW, if_neg h1, if_neg h2, if_neg h3, if_neg h4, if_neg h5]
    exact ⟨_, rfl, bysl_nil _⟩
open Go Go.Proofs Go.SE Go.RowKit
set_option linter.unusedVariables false
set_option maxRecDepth 100000
theorem splitC_len (c : UInt8) : ∀ (s : Tx), ∀ x ∈ splitC c s, x.length ≤ s.length
  | [], x, hx => by simp [splitC] at hx; subst hx; simp
  | b :: r, x, hx => by
    have ih := splitC_len c r
    rw [splitC] at hx
    split at hx
    · rcases List.mem_cons.1 hx with rfl | hx
      · simp
      · have := ih x hx; simp only [List.length_cons]; omega
    · split at hx
      · rename_i y ys e
        rw [e] at ih
        rcases List.mem_cons.1 hx with rfl | hx
        · have := ih y (by simp); simp only [List.length_cons]; omega
        · have := ih x (List.mem_cons_of_mem _ hx); simp only [List.length_cons]; omega
      · rename_i e
        exact absurd e (splitC_ne c r)
/-- The words of a line. -/
def pieces (t : Tx) : List ByteArray := (splitC 32 t).map strT
theorem pieces_of {l : List ByteArray} {t : Tx} (h : l.map tx = splitC 32 t) : l = pieces t := by
  rw [pieces, ← h, List.map_map]
  have : (strT ∘ tx) = id := by funext s; exact strT_tx s
  rw [this, List.map_id]
theorem pieces_ne (t : Tx) : pieces t ≠ [] := by
  rw [pieces]
  intro h
  exact splitC_ne 32 t (List.map_eq_nil_iff.1 h)
theorem pieces_len {t : Tx} {n : Nat} (h : t.length ≤ n) : ∀ w ∈ pieces t, w.size ≤ n := fun w hw => by
  obtain ⟨x, hx, rfl⟩ := List.mem_map.1 hw
  have := splitC_len 32 t x hx
  rw [strT_size]; omega
theorem k255 {k : Int} (h : k = 0 ∨ k = 1 ∨ k = 2 ∨ k = 3) : 0 ≤ k ∧ k ≤ 255 := by omega
theorem zero_okE : okEn zeroEn := ⟨⟨by decide, by decide⟩, i64R_zero, i64R_zero, byteL_nil⟩
theorem askE_ok {n : Int} (hn : i64R n) {r : Rq} (hr : okRq r) : okEn (askE n r).1 := by
  rw [askE]
  cases hR : rightR r with
  | false => exact zero_okE
  | true =>
    simp only [if_true]
    split
    · exact ⟨k255 (.inr (.inl rfl)), hn, i64R_zero, write_ok hr hR⟩
    · exact zero_okE
theorem entN_rng (ws : List ByteArray) : i64R (entN ws) := by
  rw [entN]
  split
  · exact numA_rng _
  · exact i64R_zero
theorem entry_ok {ws : List ByteArray} (hws : ∀ w ∈ ws, w.size ≤ 1000000) : okEn (entryW ws).1 := by
  have hn := entN_rng ws
  have hsm := ask_sm (ws := ws.drop 2) fun w hw => hws w (List.mem_of_mem_drop hw)
  unfold entryW
  repeat' split
  · exact ⟨k255 (.inr (.inr (.inl rfl))), i64R_zero, i64R_zero, byteL_nil⟩
  · exact zero_okE
  · exact ⟨k255 (.inr (.inr (.inr rfl))), i64R_zero, hn, byteL_nil⟩
  · exact ⟨k255 (.inr (.inl rfl)), hn, i64R_zero, unw_bytes rfl⟩
  · exact askE_ok hn hsm.ok
  · exact zero_okE
  · exact zero_okE
/-- The entry with a line. -/
def readL (t : Tx) : En × Int :=
  if t.length ≤ 32868 ∧ (entryW (pieces t)).2 = true ∧ cleanE (entryW (pieces t)).1 = true ∧ lineT (entryW (pieces t)).1 = t then ((entryW (pieces t)).1, 0) else (zeroEn, 411)
theorem ct38 (s : ByteArray) (hs : s.size ≤ 1000000000) (I : Mem) (hG : Globs I) :
    Ct Tryz.prog (fnv 38) #[.string s] I (fun u I' => ∃ y, u = .tuple #[.agg (enV (readL (tx s)).1 y).toArray, .int .i64 (readL (tx s)).2] ∧ BySl I' y (readL (tx s)).1.bs) := by
  obtain ⟨Q, hQ⟩ : ∃ q : Value → Mem → Prop, q = fun u I' => ∃ y, u = .tuple #[.agg (enV (readL (tx s)).1 y).toArray, .int .i64 (readL (tx s)).2] ∧ BySl I' y (readL (tx s)).1.bs := ⟨_, rfl⟩
  rw [← hQ]
  refine viaR (ct_via (A := { }) Tryz.func38 rfl Tryz.call38 rfl rfl) (Br (decide (32868 < (s.size : Int))) (Q (.tuple #[.agg #[.int .u8 0, .int .i64 0, .int .i64 0, .slice none 0 0], .int .i64 411]) I) (Ct Tryz.prog (.func (.func 83) #[] #[]) #[.string s, .string ⟨#[32]⟩] I (fun v a => ∃ b n c, v = .slice b n c ∧ Ct Tryz.prog (.func (.func 82) #[] #[]) #[.slice b n c] a fun d e => ∃ f g h i j k l, d = .tuple #[.agg #[.int .u8 f, .int .i64 g, .int .i64 h, .slice i j k], .bool l] ∧ Br (!l) (Q (.tuple #[.agg #[.int .u8 0, .int .i64 0, .int .i64 0, .slice none 0 0], .int .i64 411]) e) (Ct Tryz.prog (.func (.func 22) #[] #[]) #[.agg #[.int .u8 f, .int .i64 g, .int .i64 h, .slice i j k]] e (fun m o => ∃ q p, m = .tuple #[.string q, .int .i64 p] ∧ Br (p != 0) (Q (.tuple #[.agg #[.int .u8 0, .int .i64 0, .int .i64 0, .slice none 0 0], .int .i64 411]) o) (Br (!(q.toList == s.toList)) (Q (.tuple #[.agg #[.int .u8 0, .int .i64 0, .int .i64 0, .slice none 0 0], .int .i64 411]) o) (Q (.tuple #[.agg #[.int .u8 f, .int .i64 g, .int .i64 h, .slice i j k], .int .i64 0]) o))))))) (by kernel_rfl) ?_
  have hl : (tx s).length = s.size := Array.length_toList
  have no : ∀ J : Mem, (¬ ((tx s).length ≤ 32868 ∧ (entryW (pieces (tx s))).2 = true ∧ cleanE (entryW (pieces (tx s))).1 = true ∧ lineT (entryW (pieces (tx s))).1 = tx s)) → Q (.tuple #[.agg #[.int .u8 0, .int .i64 0, .int .i64 0, .slice none 0 0], .int .i64 411]) J := fun J h => by
    rw [hQ, readL, if_neg h]
    exact ⟨_, rfl, bysl_nil _⟩
  refine Br.mk (fun h => no I fun hh => ?_) (fun h => ?_)
  · have h := of_decide_eq_true h
    have := hh.1
    omega
  have h := of_decide_eq_false h
  have hls : (tx s).length ≤ 32868 := by omega
  refine (ct83 s (by omega) I hG).mono fun v a la ⟨ws, b, n, c, hv, hm, hsl, hnc, hcm⟩ => ⟨_, _, _, hv, ?_⟩
  obtain rfl := pieces_of hm
  have hp6 : ∀ w ∈ pieces (tx s), w.size ≤ 1000000 := pieces_len (by omega)
  refine (ct82 (pieces (tx s)) (pieces_ne _) hp6 _ a (hG.mono la) ⟨b, n, c, rfl, hsl, hnc, hcm⟩).mono fun d e le ⟨y, hv, hy⟩ => ?_
  have hy' := hy
  obtain ⟨p2, n2, c2, rfl, _, _, _⟩ := hy'
  have hok := entry_ok hp6
  refine ⟨_, _, _, _, _, _, _, hv, Br.mk (fun h1 => no e fun hh => ?_) (fun h1 => ?_)⟩
  · rw [hh.2.1] at h1; cases h1
  have h1 : (entryW (pieces (tx s))).2 = true := by simpa using h1
  refine (ct22 _ hok _ e (hG.mono (Mem.le_trans la le)) hy).mono fun m o lo hv => ⟨_, _, hv, Br.mk (fun h2 => no o fun hh => ?_) (fun h2 => ?_)⟩
  · rw [lineE, if_pos hh.2.2.1] at h2; cases h2
  have h2 : cleanE (entryW (pieces (tx s))).1 = true := by
    cases hc : cleanE (entryW (pieces (tx s))).1 with
    | true => rfl
    | false => rw [lineE, hc] at h2; cases h2
  rw [str_eq]
  refine Br.mk (fun h3 => no o fun hh => ?_) (fun h3 => ?_)
  · rw [hh.2.2.2, strT_tx, decide_eq_true rfl] at h3; cases h3
  have h3 : strT (lineT (entryW (pieces (tx s))).1) = s := by simpa using h3
  have h4 : lineT (entryW (pieces (tx s))).1 = tx s := by have := congrArg tx h3; rwa [tx_strT] at this
  rw [hQ, readL, if_pos ⟨hls, h1, h2, by rw [h4]⟩]
  exact ⟨_, rfl, hy.mono lo⟩
open Go Go.Proofs Go.SE Go.RowKit
set_option linter.unusedVariables false
set_option maxRecDepth 100000
theorem readL_okE {t : Tx} (ht : t.length ≤ 1000000) : okEn (readL t).1 := by
  rw [readL]
  split
  · exact entry_ok (pieces_len ht)
  · exact zero_okE
theorem readL_spec {t : Tx} (h : (readL t).2 = 0) : cleanE (readL t).1 = true ∧ lineT (readL t).1 = t ∧ t.length ≤ 32868 := by
  rw [readL] at h ⊢
  split
  · rename_i hh
    exact ⟨hh.2.2.1, hh.2.2.2, hh.1⟩
  · rename_i hh
    rw [if_neg hh] at h; cases h
theorem readL_two (t : Tx) : (readL t).2 = 0 ∨ readL t = (zeroEn, 411) := by
  rw [readL]
  split
  · exact .inl rfl
  · exact .inr rfl
def okLs : List ByteArray := [⟨#[116, 105, 99, 107]⟩, ⟨#[112, 105, 99, 107, 32, 51]⟩, ⟨#[97, 115, 107, 32, 48, 32, 115, 116, 101, 112, 32, 53]⟩, ⟨#[97, 115, 107, 32, 50, 32, 111, 112, 101, 110, 32, 97, 46, 98, 32, 49]⟩, ⟨#[97, 115, 107, 32, 50, 32, 111, 112, 101, 110, 32, 37, 52, 49, 32, 49]⟩, ⟨#[97, 115, 107, 32, 48, 32, 115, 117, 98, 109, 105, 116, 32, 51, 48, 48, 32, 55, 32, 45, 49]⟩, ⟨#[97, 115, 107, 32, 48, 32, 113, 117, 101, 114, 121, 32, 101, 118, 101, 110, 116, 115, 32, 48, 32, 48, 32, 48]⟩, ⟨#[97, 115, 107, 32, 49, 32, 99, 114, 101, 97, 116, 101, 32, 37, 48, 49, 48, 50]⟩, ⟨#[97, 115, 107, 32, 48, 32, 100, 101, 115, 116, 114, 111, 121]⟩, ⟨#[114, 97, 119, 32, 48, 32, 37, 102, 102]⟩, ⟨#[114, 97, 119, 32, 48, 32, 37]⟩]
def noLs : List ByteArray := [⟨#[114, 97, 119, 32, 48, 32, 37, 48, 49, 48, 54, 48, 55, 48, 49, 48, 53]⟩, ⟨#[112, 105, 99, 107, 32, 48, 51]⟩, ⟨#[116, 105, 99, 107, 32, 49]⟩, ⟨#[97, 115, 107, 32, 48, 32, 115, 116, 101, 112]⟩, ⟨#[97, 115, 107, 32, 48, 32, 111, 112, 101, 110, 32, 37, 54, 49, 50, 101, 54, 50, 32, 49]⟩, ⟨#[114, 97, 119, 32, 48, 32, 37, 70, 70]⟩]
theorem okLs_read : ∀ q ∈ okLs, q.size ≤ 100 ∧ (readL (tx q)).2 = 0 := by decide +kernel
theorem noLs_read : ∀ q ∈ noLs, q.size ≤ 100 ∧ (readL (tx q)).2 = 411 := by decide +kernel
theorem step5_read : readL (tx ⟨#[97, 115, 107, 32, 48, 32, 115, 116, 101, 112, 32, 53]⟩) = (⟨1, 0, 0, [1, 6, 7, 1, 5]⟩, 0) := by decide +kernel
theorem lit_at {I : Mem} {b : Nat} {cs : Array Value} {el : TypeId} {l : List ByteArray} (h : I b = some (.cells cs el)) (hx : cs = (strs l).toArray) {n : Int} (h0 : 0 ≤ n) (h1 : n < l.length) : ∃ q, q ∈ l ∧ atI I (some ⟨b, 0, none⟩) (n.toNat * 1 + 0) = some (.string q) := by
  have hlt : n.toNat < l.length := by omega
  refine ⟨l[n.toNat], List.getElem_mem _, ?_⟩
  simp only [atI, Option.bind_some, Addr.add_lit, cellM, h, Option.isSome_none, Bool.false_eq_true, if_false]
  subst hx
  simp [strs, hlt]
theorem bysl_lit {I : Mem} {b n : Nat} {cs : Array Value} {el : TypeId} {bs : List Int} (h : I b = some (.cells cs el)) (hx : cs = (ints .u8 bs).toArray) (hn : n = bs.length) (hm : n ≤ 100) : SlM I (some ⟨b, 0, none⟩) n 1 (ints .u8 bs) := by
  subst hx
  have := sl_cells (n := n) (sz := 1) h (by simp [ints]; omega) (by simp only [maxLen]; omega)
  simpa using this
theorem ct14 (I : Mem) (hG : Globs I) : Ct Tryz.prog (fnv 14) #[] I (fun v I' => v = .bool true) := by
  refine viaR (ct_via (A := { befores := [(2, [0]), (10, [1])], loops := [(2, ⟨[(13, .keep), (14, .keep), (15, .sh (.int .i64))], [], [], fun vals _ _ _ => match vals with | [.int .i64 j] => 0 ≤ j ∧ j ≤ 11 | _ => False, fun vals _ => match vals with | [.int .i64 j] => (11 - j).toNat | _ => 0⟩), (10, ⟨[(39, .keep), (40, .keep), (41, .sh (.int .i64))], [], [], fun vals _ _ _ => match vals with | [.int .i64 j] => 0 ≤ j ∧ j ≤ 6 | _ => False, fun vals _ => match vals with | [.int .i64 j] => (6 - j).toNat | _ => 0⟩)] }) Tryz.func14 rfl Tryz.call14 rfl rfl) (∀ (b : Nat) (a : Mem), I.le a → a b = some (.cells #[.string ⟨#[116, 105, 99, 107]⟩, .string ⟨#[112, 105, 99, 107, 32, 51]⟩, .string ⟨#[97, 115, 107, 32, 48, 32, 115, 116, 101, 112, 32, 53]⟩, .string ⟨#[97, 115, 107, 32, 50, 32, 111, 112, 101, 110, 32, 97, 46, 98, 32, 49]⟩, .string ⟨#[97, 115, 107, 32, 50, 32, 111, 112, 101, 110, 32, 37, 52, 49, 32, 49]⟩, .string ⟨#[97, 115, 107, 32, 48, 32, 115, 117, 98, 109, 105, 116, 32, 51, 48, 48, 32, 55, 32, 45, 49]⟩, .string ⟨#[97, 115, 107, 32, 48, 32, 113, 117, 101, 114, 121, 32, 101, 118, 101, 110, 116, 115, 32, 48, 32, 48, 32, 48]⟩, .string ⟨#[97, 115, 107, 32, 49, 32, 99, 114, 101, 97, 116, 101, 32, 37, 48, 49, 48, 50]⟩, .string ⟨#[97, 115, 107, 32, 48, 32, 100, 101, 115, 116, 114, 111, 121]⟩, .string ⟨#[114, 97, 119, 32, 48, 32, 37, 102, 102]⟩, .string ⟨#[114, 97, 119, 32, 48, 32, 37]⟩] 9 (0, 0)) → (Rf (SV.v (.slice (some ⟨b, 0, none⟩) 11 11)) ∧ Rf (SV.v (.int .i64 11)) ∧ (0 : Int) ≤ 0 ∧ (0 : Int) ≤ 11) ∧ ∀ (c : Mem), Mem → a.le c → ∀ (n : Int), 0 ≤ n ∧ n ≤ 11 → Br (decide (n < 11)) (0 ≤ n ∧ n < 11 ∧ true = true ∧ ∃ q, atI c (some ⟨b, 0, none⟩) (n.toNat * 1 + 0) = some (.string q) ∧ Ct Tryz.prog (.func (.func 38) #[] #[]) #[.string q] c fun v d => ∃ e f g h i j k, v = .tuple #[.agg #[.int .u8 e, .int .i64 f, .int .i64 g, .slice h i j], .int .i64 k] ∧ Ct Tryz.prog (.func (.func 22) #[] #[]) #[.agg #[.int .u8 e, .int .i64 f, .int .i64 g, .slice h i j]] d fun l m => ∃ o p, l = .tuple #[.string o, .int .i64 p] ∧ Wr .i64 (k + p) fun r => Br (r != 0) (Value.bool false = .bool true) (Br (!(o.toList == q.toList)) (Value.bool false = .bool true) (Wr .i64 (n + 1) (fun s => Rf (SV.v (.slice (some ⟨b, 0, none⟩) 11 11)) ∧ Rf (SV.v (.int .i64 11)) ∧ (0 ≤ s ∧ s ≤ 11) ∧ Int.toNat (11 - s) < Int.toNat (11 - n))))) (∀ (d : Nat) (e : Mem), c.le e → e d = some (.cells #[.string ⟨#[114, 97, 119, 32, 48, 32, 37, 48, 49, 48, 54, 48, 55, 48, 49, 48, 53]⟩, .string ⟨#[112, 105, 99, 107, 32, 48, 51]⟩, .string ⟨#[116, 105, 99, 107, 32, 49]⟩, .string ⟨#[97, 115, 107, 32, 48, 32, 115, 116, 101, 112]⟩, .string ⟨#[97, 115, 107, 32, 48, 32, 111, 112, 101, 110, 32, 37, 54, 49, 50, 101, 54, 50, 32, 49]⟩, .string ⟨#[114, 97, 119, 32, 48, 32, 37, 70, 70]⟩] 9 (0, 0)) → (Rf (SV.v (.slice (some ⟨d, 0, none⟩) 6 6)) ∧ Rf (SV.v (.int .i64 6)) ∧ (0 : Int) ≤ 0 ∧ (0 : Int) ≤ 6) ∧ ∀ (f : Mem), Mem → e.le f → ∀ (g : Int), 0 ≤ g ∧ g ≤ 6 → Br (decide (g < 6)) (0 ≤ g ∧ g < 6 ∧ true = true ∧ ∃ q, atI f (some ⟨d, 0, none⟩) (g.toNat * 1 + 0) = some (.string q) ∧ Ct Tryz.prog (.func (.func 38) #[] #[]) #[.string q] f fun v h => ∃ i j k l m o p, v = .tuple #[.agg #[.int .u8 i, .int .i64 j, .int .i64 k, .slice l m o], .int .i64 p] ∧ Br (p != 411) (Value.bool false = .bool true) (Wr .i64 (g + 1) (fun r => Rf (SV.v (.slice (some ⟨d, 0, none⟩) 6 6)) ∧ Rf (SV.v (.int .i64 6)) ∧ (0 ≤ r ∧ r ≤ 6) ∧ Int.toNat (6 - r) < Int.toNat (6 - g)))) (Ct Tryz.prog (.func (.func 38) #[] #[]) #[.string ⟨#[97, 115, 107, 32, 48, 32, 115, 116, 101, 112, 32, 53]⟩] f (fun v h => ∃ i j k l m o p, v = .tuple #[.agg #[.int .u8 i, .int .i64 j, .int .i64 k, .slice l m o], .int .i64 p] ∧ Br (p == 0) (Br (i == 1) (Br (j == 0) (∀ (q : Nat) (r : Mem), h.le r → r q = some (.cells #[.int .u8 1, .int .u8 6, .int .u8 7, .int .u8 1, .int .u8 5] 5 (0, 0)) → Ct Tryz.prog (.func (.func 43) #[] #[]) #[.slice l m o, .slice (some ⟨q, 0, none⟩) 5 5] r fun s t => ∃ u, s = .bool u ∧ Value.bool u = .bool true) (Value.bool false = .bool true)) (Value.bool false = .bool true)) (Value.bool false = .bool true))))) (by kernel_rfl) ?_
  intro b a la hb
  refine ⟨⟨rfl, rfl, by omega, by omega⟩, fun c G1 lc n ⟨n0, n1⟩ => Br.mk (fun hlt => ?_) (fun _ d e le hd => ⟨⟨rfl, rfl, by omega, by omega⟩, fun f G2 lf g ⟨g0, g1⟩ => Br.mk (fun hlt => ?_) (fun _ => ?_)⟩)⟩
  · have hlt := of_decide_eq_true hlt
    obtain ⟨q, hq, hat⟩ := lit_at (l := okLs) (lc _ _ hb) rfl n0 (by simpa [okLs] using hlt)
    obtain ⟨hs, hr⟩ := okLs_read q hq
    have hl : (tx q).length = q.size := Array.length_toList
    obtain ⟨r1, r2, r3⟩ := readL_spec hr
    have hok := readL_okE (t := tx q) (by omega)
    have hGc := hG.mono (Mem.le_trans la lc)
    refine ⟨n0, hlt, rfl, q, hat, (ct38 q (by omega) c hGc).mono fun v d ld ⟨y, hv, hy⟩ => ?_⟩
    have hy' := hy
    obtain ⟨p2, n2, c2, rfl, _, _, _⟩ := hy'
    refine ⟨_, _, _, _, _, _, _, hv, (ct22 _ hok _ d (hGc.mono ld) hy).mono fun v m lm hv => ⟨_, _, hv, ?_⟩⟩
    rw [hr, lineE, r1, r2, strT_tx]
    refine wr_i64 (by decide) (by decide) (Br.f rfl (Br.f ?_ (wr_i64 (by omega) (by omega) ⟨rfl, rfl, ⟨by omega, by omega⟩, by omega⟩)))
    rw [str_eq, decide_eq_true rfl]; rfl
  · have hlt := of_decide_eq_true hlt
    obtain ⟨q, hq, hat⟩ := lit_at (l := noLs) (lf _ _ hd) rfl g0 (by simpa [noLs] using hlt)
    obtain ⟨hs, hr⟩ := noLs_read q hq
    have hGf := hG.mono (Mem.le_trans la (Mem.le_trans lc (Mem.le_trans le lf)))
    refine ⟨g0, hlt, rfl, q, hat, (ct38 q (by omega) f hGf).mono fun v d ld ⟨y, hv, hy⟩ => ?_⟩
    obtain ⟨p2, n2, c2, rfl, _, _, _⟩ := hy
    refine ⟨_, _, _, _, _, _, _, hv, Br.f (by rw [hr]; rfl) (wr_i64 (by omega) (by omega) ⟨rfl, rfl, ⟨by omega, by omega⟩, by omega⟩)⟩
  · have hGf := hG.mono (Mem.le_trans la (Mem.le_trans lc (Mem.le_trans le lf)))
    refine (ct38 _ (by decide) f hGf).mono fun v h lh ⟨y, hv, hy⟩ => ?_
    rw [step5_read] at hv hy
    obtain ⟨p2, n2, c2, rfl, hp2, hpc2, hpm2⟩ := hy
    refine ⟨_, _, _, _, _, _, _, hv, Br.t rfl (Br.t rfl (Br.t rfl fun q r lr hq => ?_))⟩
    exact (ct43 [1, 6, 7, 1, 5] [1, 6, 7, 1, 5] (by simp [byteL]) (by simp [byteL]) _ _ _ _ _ _ r (hp2.mono lr) (bysl_lit hq rfl rfl (by decide))).mono fun v J l hv => ⟨_, hv, rfl⟩
open Go Go.Proofs Go.SE Go.RowKit
set_option linter.unusedVariables false
set_option maxRecDepth 100000
theorem ct25 (s p : ByteArray) (I : Mem) : Ct Tryz.prog (fnv 25) #[.string s, .string p] I (fun v _ => v = .bool ((tx p).isPrefixOf (tx s))) := by
  refine ct_of_calls Tryz.call25 fun w _ => ?_
  refine (Tryz.strings_HasPrefix _ _ w).mono fun e w' h => ?_
  obtain ⟨rfl, rfl⟩ := h
  exact ⟨⟨_, rfl, rfl⟩, Below.refl _ _⟩
theorem ct26 (s p : ByteArray) (hs : s.size ≤ 9223372036854775807) (I : Mem) : Ct Tryz.prog (fnv 26) #[.string s, .string p] I (fun v _ => v = .bool ((tx p).isSuffixOf (tx s))) := by
  refine ct_of_calls Tryz.call26 fun w _ => ?_
  refine (Tryz.strings_HasSuffix _ _ w hs).mono fun e w' h => ?_
  obtain ⟨rfl, rfl⟩ := h
  exact ⟨⟨_, rfl, rfl⟩, Below.refl _ _⟩
theorem ct37 (s p : ByteArray) (hs : s.size ≤ 9223372036854775807) (I : Mem) : Ct Tryz.prog (fnv 37) #[.string s, .string p] I (fun v _ => v = .string (strT (Lib.trimSuffix (tx s) (tx p)))) := by
  refine ct_of_calls Tryz.call37 fun w _ => ?_
  refine (Tryz.strings_TrimSuffix _ _ w hs).mono fun e w' h => ?_
  obtain ⟨rfl, rfl⟩ := h
  exact ⟨⟨_, rfl, rfl⟩, Below.refl _ _⟩
theorem countB_eq (c : UInt8) (s : Tx) : Lib.countByte s c = s.count c := rfl
theorem ct29 (s : ByteArray) (c : UInt8) (I : Mem) : Ct Tryz.prog (fnv 29) #[.string s, .string ⟨#[c]⟩] I (fun v _ => v = .int .i64 ((tx s).count c : Nat)) := by
  refine ct_of_calls Tryz.call29 fun w _ => ?_
  refine (Tryz.strings_Count_one _ _ w).mono fun e w' h => ?_
  obtain ⟨rfl, rfl⟩ := h
  rw [countB_eq]
  exact ⟨⟨_, rfl, rfl⟩, Below.refl _ _⟩
theorem ct39 (s : ByteArray) (c : UInt8) (I : Mem) : Ct Tryz.prog (fnv 39) #[.string s, .string ⟨#[c]⟩] I (fun v _ => v = .bool (decide (0 ≤ Lib.indexByte (tx s) c))) := by
  refine ct_of_calls Tryz.call39 fun w _ => ?_
  refine (Tryz.strings_Contains_one _ _ w).mono fun e w' h => ?_
  obtain ⟨rfl, rfl⟩ := h
  exact ⟨⟨_, rfl, rfl⟩, Below.refl _ _⟩
theorem wr_u8 {x : Int} {P : Int → Prop} (h0 : 0 ≤ x) (h1 : x ≤ 255) (h : P x) : Wr .u8 x P := by
  unfold Wr
  rw [IntKind.wrap_u8, Int.emod_eq_of_lt h0 (by omega)]; exact ⟨x, rfl, h⟩
/-- Two digits for each byte. -/
theorem ct30 (bs : List Int) (hb : byteL bs) (a : Option Addr) (n c : Nat) (I : Mem) (h : SlM I a n 1 (ints .u8 bs)) (hn : n ≤ 1000000) :
    Ct Tryz.prog (fnv 30) #[.slice a n c] I (fun v _ => v = .string (strT (bs.flatMap hex2))) := by
  obtain ⟨WI, hWI⟩ : ∃ f : Int → List Value → Prop, f = fun (j : Int) xs => 0 ≤ j ∧ j ≤ bs.length ∧ xs = ints .u8 (intT ((bs.take j.toNat).flatMap hex2)) := ⟨_, rfl⟩
  obtain ⟨Q, hQ⟩ : ∃ q : Value, q = .string (strT (bs.flatMap hex2)) := ⟨_, rfl⟩
  rw [← hQ]
  refine viaR (ct_via (A := { loops := [(3, ⟨[(3, .row 0), (6, .keep), (7, .keep), (8, .sh (.int .i64))], [(0, .row)], [(3, 1, 5)], fun vals xss _ _ => match vals, xss with | [.int .i64 j], [xs] => WI j xs | _, _ => False, fun vals _ => match vals with | [.int .i64 j] => (bs.length - j).toNat | _ => 0⟩)] }) Tryz.func30 rfl Tryz.call30 rfl rfl) (((0 : Nat) = 0 ∧ Rf (SV.v (.slice a n c)) ∧ Rf (SV.v (.int .i64 (n : Int))) ∧ WI 0 []) ∧ ∀ (b : Mem), Mem → I.le b → ∀ (x : List Value) (d : Int), WI d x → Br (decide (d < (n : Int))) (0 ≤ d ∧ d < (n : Int) ∧ a.isSome = true ∧ ∃ e, atI b a (d.toNat * 1 + 0) = some (.int .u8 e) ∧ (16 : Int) ≠ 0 ∧ Wr .u8 (e.tdiv 16) fun f => ∃ g, [UInt8.ofNat 48, UInt8.ofNat 49, UInt8.ofNat 50, UInt8.ofNat 51, UInt8.ofNat 52, UInt8.ofNat 53, UInt8.ofNat 54, UInt8.ofNat 55, UInt8.ofNat 56, UInt8.ofNat 57, UInt8.ofNat 97, UInt8.ofNat 98, UInt8.ofNat 99, UInt8.ofNat 100, UInt8.ofNat 101, UInt8.ofNat 102][f.toNat]? = some g ∧ 0 ≤ f ∧ (16 : Int) ≠ 0 ∧ ∃ i, [UInt8.ofNat 48, UInt8.ofNat 49, UInt8.ofNat 50, UInt8.ofNat 51, UInt8.ofNat 52, UInt8.ofNat 53, UInt8.ofNat 54, UInt8.ofNat 55, UInt8.ofNat 56, UInt8.ofNat 57, UInt8.ofNat 97, UInt8.ofNat 98, UInt8.ofNat 99, UInt8.ofNat 100, UInt8.ofNat 101, UInt8.ofNat 102][(e.tmod 16).toNat]? = some i ∧ 0 ≤ e.tmod 16 ∧ x.length = x.length * 1 ∧ x.length + 2 ≤ 9223372036854775807 ∧ (x.length + 2) * 1 ≤ 140737488355328 ∧ Wr .i64 (d + 1) fun j => x.length + 2 = List.length (x ++ [.int .u8 (g.toNat : Int), .int .u8 (i.toNat : Int)]) ∧ Rf (SV.v (.slice a n c)) ∧ Rf (SV.v (.int .i64 (n : Int))) ∧ WI j (x ++ [.int .u8 (g.toNat : Int), .int .u8 (i.toNat : Int)]) ∧ Int.toNat ((bs.length : Int) - j) < Int.toNat ((bs.length : Int) - d)) (∃ q, q.length = x.length ∧ List.take x.length x = List.map (fun (e : UInt8) => .int .u8 (e.toNat : Int)) q ∧ Value.string ⟨q.toArray⟩ = Q)) (by kernel_rfl) ?_
  have hl := h.numLen
  refine ⟨⟨rfl, rfl, rfl, by rw [hWI]; exact ⟨by omega, by omega, rfl⟩⟩, fun J G' lJ x d hd => ?_⟩
  rw [hWI] at hd
  obtain ⟨h0, h1, rfl⟩ := hd
  have hlen : (ints .u8 (intT ((bs.take d.toNat).flatMap hex2))).length = 2 * d.toNat := by
    rw [ints_len, intT, List.length_map, hex_len, List.length_take]; omega
  refine Br.mk (fun h2 => ?_) (fun h2 => ?_)
  · have h2 := of_decide_eq_true h2
    obtain ⟨z, hz, hat⟩ := (h.mono lJ).intAt (i := d) h0 h2
    have hzb := hb z (List.mem_of_getElem? hz)
    have e1 : z.tdiv 16 = ((z.toNat / 16 : Nat) : Int) := by rw [Int.tdiv_eq_ediv_of_nonneg hzb.1]; omega
    have e2 : z.tmod 16 = ((z.toNat % 16 : Nat) : Int) := by rw [Int.tmod_eq_emod_of_nonneg hzb.1]; omega
    refine ⟨h0, h2, h.isSome (by omega), z, hat, by decide, wr_u8 (by omega) (by omega) ⟨hexC (z.toNat / 16), by rw [e1, Int.toNat_natCast]; exact hexAt (by omega), by omega, by decide, hexC (z.toNat % 16), by rw [e2, Int.toNat_natCast]; exact hexAt (by omega), by omega, by omega, by omega, by omega, wr_i64 (by omega) (by omega) ⟨by simp, rfl, rfl, ?_, by omega⟩⟩⟩
    rw [hWI]
    refine ⟨by omega, by omega, ?_⟩
    rw [show (d + 1).toNat = d.toNat + 1 by omega, List.take_add_one, hz, Option.toList_some, List.flatMap_append]
    simp [ints_T, hex2]
  · have h2 := of_decide_eq_false h2
    have hj : bs.take d.toNat = bs := List.take_of_length_le (by omega)
    rw [hj] at hlen ⊢
    exact ⟨bs.flatMap hex2, by rw [ints_T, List.length_map], by rw [List.take_length, ints_T], hQ.symm⟩
open Go Go.Proofs Go.SE Go.RowKit
set_option linter.unusedVariables false
set_option maxRecDepth 100000
/-! ### Lines of requests' frames -/
theorem bytesR_sz {r : Rq} (hr : okRq r) (h : rightR r = true) {t : Int} (ht : t ≠ 11) : (bytesR r t).length ≤ 255 := by
  obtain ⟨_, hn, _, _⟩ := right_tag h
  have hw := hr.what
  have hv := foldZ_range hr.val
  unfold bytesR
  split
  · have := formN_le r.what.toNat (by omega); omega
  · split
    · rw [strL_len]; exact hn
    · split
      · have := formN_le (foldZ r.val).toNat (by omega); omega
      · have hq := w64_range (numR r t)
        have := formN_le (IntKind.u64.wrap (numR r t)).toNat (by omega); omega
theorem writeR_len {r : Rq} (hr : okRq r) (h : rightR r = true) : (writeR r).length ≤ 16384 := by
  obtain ⟨h1, _, hf, _⟩ := right_tag h
  have hs := tagL_shape h1
  have b := fun t ht => bytesR_sz hr h (t := t) ht
  have g := fun (n : Nat) (hn : n < 256 ^ 8) => (formN_le n hn).1
  have key : ∀ ts : List Int, (11 : Int) ∉ ts → (writeF (fldsR r ts)).length ≤ 265 * ts.length := by
    intro ts
    induction ts with
    | nil => intro _; simp [fldsR, writeF]
    | cons t ts ih =>
      intro hn
      simp only [List.mem_cons, not_or] at hn
      have hb := b t (fun e => hn.1 e.symm)
      have hg := g (bytesR r t).length (by omega)
      have := ih hn.2
      rw [show fldsR r (t :: ts) = (t, bytesR r t) :: fldsR r ts from rfl, writeF_cons]
      simp only [List.length_cons, List.length_append]
      omega
  simp only [shapesL, List.mem_cons, List.not_mem_nil, or_false] at hs
  rw [writeR]
  by_cases hq : tagsR r = [11]
  · rw [hq, show fldsR r [11] = [(11, r.fed)] from rfl, writeF_cons]
    have := g r.fed.length (by omega)
    simp only [List.length_cons, List.length_append, writeF, List.flatMap_nil, List.length_nil]
    omega
  · have hk : (11 : Int) ∉ tagsR r ∧ (tagsR r).length ≤ 4 := by
      rcases hs with hs | hs | hs | hs | hs | hs | hs | hs | hs | hs | hs | hs
      · exact absurd hs hq
      all_goals (rw [hs]; decide)
    have := key _ hk.1
    simp only [List.length_cons]
    omega
/-- The frame of a right request, in a slot that there is. -/
theorem askE_right {r : Rq} (hr : okRq r) (h : rightR r = true) {slot : Int} (hs : 0 ≤ slot ∧ slot ≤ 4294967295) : askE slot r = (⟨1, slot, 0, writeR r⟩, 0) ∧ cleanE ⟨1, slot, 0, writeR r⟩ = true := by
  have hc : cleanE ⟨1, slot, 0, writeR r⟩ = true := by
    rw [cleanE, if_pos rfl, withinB, decide_eq_true hs, decide_eq_true (p := (0 : Int) = 0) rfl, decide_eq_true (writeR_len hr h)]; rfl
  exact ⟨by rw [askE, if_pos h, if_pos hc], hc⟩
theorem line_right {r : Rq} (hr : okRq r) (h : rightR r = true) {slot : Int} (hc : cleanE ⟨1, slot, 0, writeR r⟩ = true) : lineT ⟨1, slot, 0, writeR r⟩ = askB ++ 32 :: (Lib.itoa slot ++ 32 :: tx (wordsB r)) := by
  obtain ⟨_, h2⟩ := read_writeR hr h
  rw [lineT, if_neg (by rw [hc]; decide), if_neg (fun e => absurd (show (1 : Int) = 2 from e) (by decide)), if_neg (fun e => absurd (show (1 : Int) = 3 from e) (by decide)), h2, if_pos rfl]
/-- No word has a blank in it, or a line feed. -/
def freeT (t : Tx) : Prop := ∀ c ∈ t, c ≠ 32 ∧ c ≠ 10
theorem nameGo_in : ∀ (l : List Int) (b : Int) {x : Int}, nameGo l b = some x → ∀ c ∈ l, c ≠ 32 ∧ c ≠ 10
  | [], b, x, _, c, hc => by cases hc
  | d :: r, b, x, h, c, hc => by
    rw [nameGo] at h
    split at h
    · rename_i hs
      rcases List.mem_cons.1 hc with rfl | hc
      · refine ⟨?_, ?_⟩ <;> (rintro rfl; revert hs; simp [nameStep])
      · exact nameGo_in r d h c hc
    · cases h
theorem name_free {s : ByteArray} (h : nameB (strL s) = true) : freeT (tx s) := fun c hc => by
  simp only [nameB, Bool.and_eq_true] at h
  have h4 := h.2.2.2
  cases hg : nameGo (strL s) 46 with
  | none => rw [hg] at h4; cases h4
  | some x =>
    have := nameGo_in _ _ hg (c.toNat : Int) (List.mem_map.2 ⟨c, hc, rfl⟩)
    refine ⟨?_, ?_⟩
    · rintro rfl; exact this.1 rfl
    · rintro rfl; exact this.2 rfl
theorem nameS_free (k : Int) : freeT (tx (nameS k)) := by
  rw [nameS]
  cases h : namesL[k.toNat]? with
  | none => intro c hc; simp [tx] at hc
  | some x =>
    have := List.mem_of_getElem? h
    simp only [namesL, List.mem_cons, List.not_mem_nil, or_false] at this
    rcases this with rfl | rfl | rfl | rfl | rfl | rfl | rfl | rfl | rfl | rfl <;> (simp only [Option.getD_some]; unfold freeT; decide)
theorem askS_free (k : Int) : freeT (tx (askS k)) := by
  rw [askS]
  cases h : asksL[k.toNat]? with
  | none => intro c hc; simp [tx] at hc
  | some x =>
    have := List.mem_of_getElem? h
    simp only [asksL, List.mem_cons, List.not_mem_nil, or_false] at this
    rcases this with rfl | rfl | rfl | rfl | rfl | rfl <;> (simp only [Option.getD_some]; unfold freeT; decide)
theorem itoa_free (n : Int) : freeT (Lib.itoa n) := fun c hc => ⟨(itoa_ok n c hc).1, (itoa_ok n c hc).2.1⟩
theorem word_free {bs : List Int} (h : byteL bs) : freeT (wordT bs) := fun c hc => word_ok h c hc
theorem field_free {r : Rq} (hf : byteL r.fed) (t : Int) : freeT (fieldT r t) := by
  unfold fieldT
  repeat' split
  · exact askS_free _
  · rename_i h; exact name_free h
  · exact word_free (strL_bytes _)
  · exact itoa_free _
  · exact word_free hf
  · exact itoa_free _
theorem words_free {r : Rq} (hf : byteL r.fed) : ∀ x ∈ (wordsL r).map tx, freeT x := fun x hx => by
  obtain ⟨w, hw, rfl⟩ := List.mem_map.1 hx
  rw [wordsL] at hw
  rcases List.mem_cons.1 hw with rfl | hw
  · exact nameS_free _
  · obtain ⟨t, _, rfl⟩ := List.mem_map.1 hw
    rw [tx_strT]; exact field_free hf t
theorem free_no {t : Tx} (h : freeT t) : (32 : UInt8) ∉ t ∧ (10 : UInt8) ∉ t := ⟨fun hc => (h 32 hc).1 rfl, fun hc => (h 10 hc).2 rfl⟩
theorem words_split {r : Rq} (hf : byteL r.fed) : splitC 32 (tx (wordsB r)) = (wordsL r).map tx := by
  rw [wordsB, joinB, tx_strT]
  exact split_join (by simp [wordsL]) fun x hx => (free_no (words_free hf x hx)).1
theorem words_count {r : Rq} (hf : byteL r.fed) : (tx (wordsB r)).count 32 = (tagsR r).length := by
  have h1 := count_splitC 32 (tx (wordsB r))
  rw [words_split hf, List.length_map, wordsL, List.length_cons, List.length_map] at h1
  omega
theorem free_count {t : Tx} (h : freeT t) : t.count 32 = 0 := List.count_eq_zero.2 (free_no h).1
/-- What is read of a line is its entry. -/
theorem readL_line {e : En} (hk : okEn e) (hc : cleanE e = true) (hl : (lineT e).length ≤ 32868) : readL (lineT e) = (e, 0) := by
  have key : entryW (pieces (lineT e)) = (e, true) := by
    obtain ⟨_, h3⟩ := clean_len hc
    obtain ⟨kd, sl, n, bs⟩ := e
    simp only at h3
    rcases h3 with rfl | rfl | rfl
    · have hn : n = 0 := by
        simp only [cleanE, if_true, Bool.and_eq_true, decide_eq_true_eq] at hc
        exact hc.2.1
      subst hn
      cases ha : accB bs with
      | true =>
        obtain ⟨ho, hr, hw, h0⟩ := read_back hk.bs ha
        have hlt : lineT ⟨1, sl, 0, bs⟩ = askB ++ 32 :: (Lib.itoa sl ++ 32 :: tx (wordsB (readR bs).1)) := by
          have := line_right ho hr (slot := sl) (by rw [hw]; exact hc)
          rwa [hw] at this
        have hsp : pieces (lineT ⟨1, sl, 0, bs⟩) = strT askB :: strT (Lib.itoa sl) :: wordsL (readR bs).1 := by
          rw [hlt, pieces, split_app (by decide), split_app (free_no (itoa_free sl)).1, words_split ho.fed, List.map_cons, List.map_cons, List.map_map]
          have : (strT ∘ tx) = id := by funext s; exact strT_tx s
          rw [this, List.map_id]
        have hwl : 0 < (wordsL (readR bs).1).length := by simp [wordsL]
        have e0 : ∀ (a b : ByteArray) (l : List ByteArray), wordAt (a :: b :: l) 0 = a := fun _ _ _ => rfl
        have hN : entN (strT askB :: strT (Lib.itoa sl) :: wordsL (readR bs).1) = sl := by
          rw [entN, if_pos (by simp)]
          show (numA (tx (strT (Lib.itoa sl)))).1 = sl
          rw [numA_itoa hk.slot]
        have hA : entAt (strT askB :: strT (Lib.itoa sl) :: wordsL (readR bs).1) = 1 := by
          rw [entAt, e0, if_neg (by decide)]
        have hE : askE sl (readR bs).1 = (⟨1, sl, 0, bs⟩, 0) := by
          rw [askE, if_pos hr, hw, if_pos hc]
        rw [hsp, entryW, e0, if_neg (by decide), hA, if_neg (by simp only [List.length_cons]; omega), if_neg (by decide), if_neg (by decide), if_pos rfl, hN]
        rw [show (strT askB :: strT (Lib.itoa sl) :: wordsL (readR bs).1).drop 2 = wordsL (readR bs).1 from rfl, ask_words ho ho.fed hr, if_pos rfl, hE]; rfl
      | false =>
        have hlt : lineT ⟨1, sl, 0, bs⟩ = rawB ++ 32 :: (Lib.itoa sl ++ 32 :: wordT bs) := by
          rw [lineT, if_neg (by rw [hc]; decide), if_neg (fun e => absurd (show (1 : Int) = 2 from e) (by decide)), if_neg (fun e => absurd (show (1 : Int) = 3 from e) (by decide)), read_bad ha, if_neg (by decide)]
        have hsp : pieces (lineT ⟨1, sl, 0, bs⟩) = [strT rawB, strT (Lib.itoa sl), strT (wordT bs)] := by
          rw [hlt, pieces, split_app (by decide), split_app (free_no (itoa_free sl)).1, split_free (free_no (word_free hk.bs)).1]; rfl
        have hN : entN [strT rawB, strT (Lib.itoa sl), strT (wordT bs)] = sl := by
          rw [entN, if_pos (by simp)]
          show (numA (tx (strT (Lib.itoa sl)))).1 = sl
          rw [numA_itoa hk.slot]
        have hA : entAt [strT rawB, strT (Lib.itoa sl), strT (wordT bs)] = 1 := by
          rw [entAt]; exact if_neg (by show ¬ strT rawB = strT pickB; decide)
        have e0 : wordAt [strT rawB, strT (Lib.itoa sl), strT (wordT bs)] 0 = strT rawB := rfl
        have e2 : wordAt [strT rawB, strT (Lib.itoa sl), strT (wordT bs)] 2 = strT (wordT bs) := rfl
        rw [hsp, entryW, e0, if_neg (by decide), hA, if_neg (by simp), if_neg (by decide), if_pos rfl, hN, e2, tx_strT, unword_word hk.bs]; rfl
    · have he : (⟨2, sl, n, bs⟩ : En) = ⟨2, 0, 0, []⟩ := by
        rw [cleanE] at hc
        exact of_decide_eq_true (by simpa using hc)
      rw [he]
      decide +kernel
    · have he : (⟨3, sl, n, bs⟩ : En) = ⟨3, 0, n, []⟩ := by
        rw [cleanE] at hc
        simp only [show ¬ (3 : Int) = 1 by decide, show ¬ (3 : Int) = 2 by decide, if_false, if_true, Bool.and_eq_true, decide_eq_true_eq] at hc
        exact hc.2
      rw [he] at hc ⊢
      have hlt : lineT ⟨3, 0, n, []⟩ = pickB ++ 32 :: Lib.itoa n := by
        rw [lineT, if_neg (by rw [hc]; decide), if_neg (fun e => absurd (show (3 : Int) = 2 from e) (by decide)), if_pos rfl]
      have hsp : pieces (lineT ⟨3, 0, n, []⟩) = [strT pickB, strT (Lib.itoa n)] := by
        rw [hlt, pieces, split_app (by decide), split_free (free_no (itoa_free n)).1]; rfl
      have hN : entN [strT pickB, strT (Lib.itoa n)] = n := by
        rw [entN, if_pos (by simp)]
        show (numA (tx (strT (Lib.itoa n)))).1 = n
        rw [numA_itoa hk.n]
      have hA : entAt [strT pickB, strT (Lib.itoa n)] = 0 := by
        rw [entAt]; exact if_pos rfl
      have e0 : wordAt [strT pickB, strT (Lib.itoa n)] 0 = strT pickB := rfl
      rw [hsp, entryW, e0, if_neg (by decide), hA, if_neg (by simp), if_pos rfl, hN]
  rw [readL, key, if_pos ⟨hl, rfl, hc, rfl⟩]
open Go Go.Proofs Go.SE Go.RowKit
set_option linter.unusedVariables false
set_option maxRecDepth 100000
/-- What the rows list. -/
def laidL : List (String × DataW Unit) := [("math/bits.deBruijn32tab", YthfgpdjplknleaaGreatDoor.Rows.laid_math_bits_deBruijn32tab), ("math/bits.deBruijn64tab", YthfgpdjplknleaaGreatDoor.Rows.laid_math_bits_deBruijn64tab), ("internal/strconv.uint64pow10", YthfgpdjplknleaaGreatDoor.Rows.laid_internal_strconv_uint64pow10), ("unicode/utf8.acceptRanges", YthfgpdjplknleaaGreatDoor.Rows.laid_unicode_utf8_acceptRanges), ("strconv.ErrRange", YthfgpdjplknleaaGreatDoor.Rows.laid_strconv_ErrRange), ("strconv.ErrSyntax", YthfgpdjplknleaaGreatDoor.Rows.laid_strconv_ErrSyntax), ("unicode/utf8.first", YthfgpdjplknleaaGreatDoor.Rows.laid_unicode_utf8_first)]
theorem gMax : Tryz.prog.globalNamed "internal/bytealg.MaxLen" = some 0 := by kernel_rfl
theorem gPow : Tryz.prog.globalNamed "internal/strconv.uint64pow10" = some 1 := by kernel_rfl
theorem gSyn : Tryz.prog.globalNamed "strconv.ErrSyntax" = some 2 := by kernel_rfl
theorem gRng : Tryz.prog.globalNamed "strconv.ErrRange" = some 3 := by kernel_rfl
theorem cell_to {W w : World} (hw : (memW W).inW w) {a : Addr} {v : Value} (h : W.cell? a = some v) (hs : a.spot = none) : w.cell? a = some v := by
  refine cellM_world hw ?_
  unfold World.cell? at h
  unfold cellM memW
  rw [hs] at h ⊢
  cases hb : W.heap[a.block]? with
  | none => rw [hb] at h; simp at h
  | some o =>
    rw [hb] at h
    cases o <;> simp_all
theorem var_to {W w : World} (hw : (memW W).inW w) {n : String} {cs : Array Value} (h : W.var? Tryz.prog n = some cs) : w.var? Tryz.prog n = some cs := by
  unfold World.var? at h ⊢
  cases hg : Tryz.prog.globalNamed n with
  | none => rw [hg] at h; cases h
  | some g =>
    rw [hg] at h
    simp only [Option.bind_some] at h ⊢
    cases hb : W.heap[g]? with
    | none => rw [hb] at h; cases h
    | some o =>
      have := hw g o hb
      rw [hb] at h
      rw [this]; exact h
theorem starS : "*errors.errorString" = "*" ++ "errors.errorString" := by decide +kernel
theorem rowS : ∀ u, Tryz.prog.typeName? 3 u = some "*errors.errorString" → u = 244 := fun u h =>
  typeName_ptr_named (nm := "errors.errorString") (by rw [← starS]; kernel_rfl) (by kernel_rfl) (by decide) u (by rw [← starS]; exact h)
theorem sent {W : World} {n : String} {text : List UInt8} {r : List (String × DataW Unit)} {g : Nat} (hg : Tryz.prog.globalNamed n = some g) (ht : (Tryz.prog.globals[g]?).map (·.type) = some 119)
    (h : laidMet Tryz.prog ((n, .iface "*errors.errorString" (.ptr (.agg [.lit (.string text)]))) :: r) W) : ∃ tp p, W.cell? ⟨g, 0, none⟩ = some (.iface tp p) := by
  obtain ⟨a, s, hv, _⟩ := laid_sentinel h hg ht Tryz.underlying119 rowS Tryz.underlying244 Tryz.underlying246 rfl rfl Tryz.underlying9 (by kernel_rfl) (by kernel_rfl)
  have := World.var?_cell hg hv 0
  exact ⟨_, _, this⟩
theorem globs_of {W : World} (hsh : W.ShapedOpen Tryz.prog) (hL : laidMetH Tryz.prog laidL W) : Globs (memW W) := by
  rw [MakeChecks.laidMetH_plain _ _ _ (by kernel_rfl)] at hL
  obtain ⟨m, hm⟩ := cell_of_shapedOpen_int (P := Tryz.prog) (g := 0) (t := 3) (zero := #[.int .i64 0]) (k := .i64) hsh (of_decide_eq_true (by kernel_rfl)) (by kernel_rfl) rfl (by kernel_rfl) (by kernel_rfl) Tryz.underlying3
  have h1 : laidMet Tryz.prog (laidL.drop 2) W := hL.tail.tail
  have hT : Lib.TabIs Tryz.prog W "internal/strconv.uint64pow10" .u64 Lib.pow10Tab := Lib.tabIs_of_head (t := 224) (e := 100) (n := 20) gPow (by kernel_rfl) (by kernel_rfl) (by kernel_rfl) (by kernel_rfl) (by kernel_rfl) h1
  have h2 : laidMet Tryz.prog (laidL.drop 4) W := hL.tail.tail.tail.tail
  obtain ⟨t1, p1, hr⟩ := sent gRng (by kernel_rfl) h2
  obtain ⟨t2, p2, hs⟩ := sent gSyn (by kernel_rfl) h2.tail
  intro w hw
  exact ⟨⟨m, cell_to hw hm rfl⟩, var_to hw hT, ⟨t2, p2, cell_to hw hs rfl⟩, ⟨t1, p1, cell_to hw hr rfl⟩⟩
