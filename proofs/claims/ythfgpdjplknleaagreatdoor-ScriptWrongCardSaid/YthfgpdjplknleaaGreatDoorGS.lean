/- Part of a proof by the rules of the symbolic walk (see the law's own text): contracts of functions of the program. -/
import Derived.Lib.SplitLaws
import Derived.Lib.IndexBytes
import Derived.Lib.ItoaNum
import Derived.Lib.ParseIntB
import Derived.Lib.Join
import Derived.Test.YthfgpdjplknleaaGreatDoorGQ
import Derived.Test.YthfgpdjplknleaaGreatDoorShelf
import Derived.Lib.SmallJoins
open Go
set_option linter.unusedVariables false
abbrev Tx := List UInt8
/-- A digit to the base 16. -/
def hexC (n : Nat) : UInt8 := if n < 10 then UInt8.ofNat (48 + n) else UInt8.ofNat (87 + n)
def hexV (c : UInt8) : Option Nat := if 48 ≤ c.toNat ∧ c.toNat ≤ 57 then some (c.toNat - 48) else if 97 ≤ c.toNat ∧ c.toNat ≤ 102 then some (c.toNat - 87) else none
theorem hexC_nat {n : Nat} (h : n < 16) : (hexC n).toNat = if n < 10 then 48 + n else 87 + n := by
  unfold hexC
  split
  · rw [UInt8.toNat_ofNat']; omega
  · rw [UInt8.toNat_ofNat']; omega
theorem hexV_C {n : Nat} (h : n < 16) : hexV (hexC n) = some n := by
  unfold hexV
  rw [hexC_nat h]
  split
  · rw [if_pos (by omega)]; congr 1; omega
  · rw [if_neg (by omega), if_pos (by omega)]; congr 1; omega
theorem hexV_lt {c : UInt8} {n : Nat} (h : hexV c = some n) : n < 16 ∧ hexC n = c := by
  unfold hexV at h
  split at h
  · simp only [Option.some.injEq] at h
    subst h
    refine ⟨by omega, UInt8.toNat_inj.1 ?_⟩
    rw [hexC_nat (by omega), if_pos (by omega)]; omega
  · split at h
    · simp only [Option.some.injEq] at h
      subst h
      refine ⟨by omega, UInt8.toNat_inj.1 ?_⟩
      rw [hexC_nat (by omega), if_neg (by omega)]; omega
    · cases h
theorem hexC_ok {n : Nat} (h : n < 16) : hexC n ≠ 32 ∧ hexC n ≠ 10 ∧ hexC n ≠ 37 := by
  have e := hexC_nat h
  refine ⟨?_, ?_, ?_⟩ <;> (intro hc; rw [hc] at e; revert e; split <;> (simp; omega))
def hex2 (b : Int) : Tx := [hexC (b.toNat / 16), hexC (b.toNat % 16)]
/-- The word of bytes. -/
def wordT (bs : List Int) : Tx := 37 :: bs.flatMap hex2
def pairsT : Tx → Option (List Int)
  | [] => some []
  | [_] => none
  | a :: b :: r => match hexV a, hexV b, pairsT r with
    | some x, some y, some l => some (((16 * x + y : Nat) : Int) :: l)
    | _, _, _ => none
/-- The bytes of a word. -/
def unwordT : Tx → Option (List Int)
  | [] => none
  | c :: r => if c = 37 ∧ r.length % 2 = 0 then pairsT r else none
theorem pairs_hex : ∀ (bs : List Int), (∀ z ∈ bs, 0 ≤ z ∧ z ≤ 255) → pairsT (bs.flatMap hex2) = some bs
  | [], _ => rfl
  | b :: r, h => by
    have hb := h b (by simp)
    have ih := pairs_hex r fun z hz => h z (List.mem_cons_of_mem _ hz)
    simp only [List.flatMap_cons, hex2, List.cons_append, List.nil_append, pairsT]
    rw [hexV_C (by omega), hexV_C (by omega)]
    rw [ih]
    simp only [Option.some.injEq, List.cons.injEq, and_true]
    omega
theorem hex_len (bs : List Int) : (bs.flatMap hex2).length = 2 * bs.length := by
  induction bs with
  | nil => rfl
  | cons b r ih => simp only [List.flatMap_cons, List.length_append, ih, hex2, List.length_cons, List.length_nil]; omega
theorem unword_word {bs : List Int} (h : ∀ z ∈ bs, 0 ≤ z ∧ z ≤ 255) : unwordT (wordT bs) = some bs := by
  rw [wordT, unwordT, if_pos ⟨rfl, by rw [hex_len]; omega⟩, pairs_hex bs h]
theorem pairs_spec : ∀ {s : Tx} {bs : List Int}, pairsT s = some bs → (∀ z ∈ bs, 0 ≤ z ∧ z ≤ 255) ∧ bs.flatMap hex2 = s
  | [], bs, h => by simp only [pairsT, Option.some.injEq] at h; subst h; exact ⟨fun z hz => (by cases hz), rfl⟩
  | [_], _, h => by simp [pairsT] at h
  | a :: b :: r, bs, h => by
    rw [pairsT] at h
    split at h
    · rename_i x y l hx hy hl
      simp only [Option.some.injEq] at h
      subst h
      obtain ⟨h1, h2⟩ := hexV_lt hx
      obtain ⟨h3, h4⟩ := hexV_lt hy
      obtain ⟨h5, h6⟩ := pairs_spec hl
      refine ⟨fun z hz => ?_, ?_⟩
      · rcases List.mem_cons.1 hz with rfl | hz
        · omega
        · exact h5 z hz
      · simp only [List.flatMap_cons, hex2, h6, Int.toNat_natCast]
        rw [show (16 * x + y) / 16 = x by omega, show (16 * x + y) % 16 = y by omega, h2, h4]
        rfl
    · cases h
theorem unword_spec {s : Tx} {bs : List Int} (h : unwordT s = some bs) : (∀ z ∈ bs, 0 ≤ z ∧ z ≤ 255) ∧ wordT bs = s := by
  cases s with
  | nil => cases h
  | cons c r =>
    rw [unwordT] at h
    split at h
    · rename_i hc
      obtain ⟨h1, h2⟩ := pairs_spec h
      exact ⟨h1, by rw [wordT, h2, hc.1]⟩
    · cases h
theorem word_inj {a b : List Int} (ha : ∀ z ∈ a, 0 ≤ z ∧ z ≤ 255) (hb : ∀ z ∈ b, 0 ≤ z ∧ z ≤ 255) (h : wordT a = wordT b) : a = b := by
  have h1 := unword_word ha
  rw [h, unword_word hb] at h1
  exact (Option.some.inj h1).symm
theorem word_ok {bs : List Int} (h : ∀ z ∈ bs, 0 ≤ z ∧ z ≤ 255) : ∀ c ∈ wordT bs, c ≠ 32 ∧ c ≠ 10 := fun c hc => by
  rw [wordT] at hc
  rcases List.mem_cons.1 hc with rfl | hc
  · decide
  · obtain ⟨b, hb, hc⟩ := List.mem_flatMap.1 hc
    have := h b hb
    simp only [hex2, List.mem_cons, List.not_mem_nil, or_false] at hc
    rcases hc with rfl | rfl
    · have := hexC_ok (n := b.toNat / 16) (by omega); exact ⟨this.1, this.2.1⟩
    · have := hexC_ok (n := b.toNat % 16) (by omega); exact ⟨this.1, this.2.1⟩
/-- The pieces between single bytes. -/
def splitC (c : UInt8) : Tx → List Tx
  | [] => [[]]
  | b :: r => if b = c then [] :: splitC c r else match splitC c r with
    | x :: xs => (b :: x) :: xs
    | [] => [[b]]
theorem splitC_ne (c : UInt8) (s : Tx) : splitC c s ≠ [] := by
  cases s with
  | nil => simp [splitC]
  | cons b r =>
    rw [splitC]
    split
    · simp
    · split <;> simp
theorem splitC_free (c : UInt8) : ∀ (s : Tx), ∀ x ∈ splitC c s, c ∉ x
  | [], x, hx => by simp [splitC] at hx; subst hx; simp
  | b :: r, x, hx => by
    have ih := splitC_free c r
    rw [splitC] at hx
    split at hx
    · rcases List.mem_cons.1 hx with rfl | hx
      · simp
      · exact ih x hx
    · rename_i hb
      split at hx
      · rename_i y ys e
        rw [e] at ih
        rcases List.mem_cons.1 hx with rfl | hx
        · have := ih y (by simp)
          simp only [List.mem_cons, not_or]
          exact ⟨fun h => hb h.symm, this⟩
        · exact ih x (List.mem_cons_of_mem _ hx)
      · rename_i e
        exact absurd e (splitC_ne c r)
/-- What is put together of pieces. -/
def joinC (c : UInt8) : List Tx → Tx
  | [] => []
  | [x] => x
  | x :: y :: r => x ++ c :: joinC c (y :: r)
theorem join_split (c : UInt8) : ∀ (s : Tx), joinC c (splitC c s) = s
  | [] => rfl
  | b :: r => by
    have ih := join_split c r
    rw [splitC]
    split
    · rename_i hb
      subst hb
      cases e : splitC b r with
      | nil => exact absurd e (splitC_ne b r)
      | cons x xs => rw [e] at ih; rw [joinC, ih]; rfl
    · cases e : splitC c r with
      | nil => exact absurd e (splitC_ne c r)
      | cons x xs =>
        rw [e] at ih
        simp only
        cases xs with
        | nil => rw [joinC] at ih ⊢; rw [ih]
        | cons y ys => rw [joinC] at ih ⊢; rw [List.cons_append, ih]
theorem split_app {c : UInt8} {x : Tx} (hx : c ∉ x) (s : Tx) : splitC c (x ++ c :: s) = x :: splitC c s := by
  induction x with
  | nil => rw [List.nil_append, splitC, if_pos rfl]
  | cons b r ih =>
    simp only [List.mem_cons, not_or] at hx
    rw [List.cons_append, splitC, if_neg (fun h => hx.1 h.symm), ih hx.2]
theorem split_free {c : UInt8} {x : Tx} (hx : c ∉ x) : splitC c x = [x] := by
  induction x with
  | nil => rfl
  | cons b r ih =>
    simp only [List.mem_cons, not_or] at hx
    rw [splitC, if_neg (fun h => hx.1 h.symm), ih hx.2]
theorem split_join {c : UInt8} : ∀ {ws : List Tx}, ws ≠ [] → (∀ x ∈ ws, c ∉ x) → splitC c (joinC c ws) = ws
  | [], h, _ => absurd rfl h
  | [x], _, h => by rw [joinC]; exact split_free (h x (by simp))
  | x :: y :: r, _, h => by
    rw [joinC, split_app (h x (by simp)), split_join (by simp) fun z hz => h z (List.mem_cons_of_mem _ hz)]
theorem joinC_eq (c : UInt8) : ∀ ws : List Tx, Lib.join ws [c] = joinC c ws
  | [] => rfl
  | [x] => by rw [Lib.join_one, joinC]
  | x :: y :: r => by
    have ih := joinC_eq c (y :: r)
    rw [joinC, ← ih, Lib.join_cons, Lib.join_cons, Lib.joinTail, List.map_cons, List.flatten_cons, Lib.joinTail]
    simp
theorem count_splitC (c : UInt8) : ∀ s : Tx, s.count c + 1 = (splitC c s).length
  | [] => rfl
  | b :: r => by
    have ih := count_splitC c r
    rw [splitC]
    split
    · rename_i h; subst h; rw [List.count_cons_self, List.length_cons, ih]
    · rename_i h
      rw [List.count_cons_of_ne (fun e => h e), ih]
      cases e : splitC c r with
      | nil => exact absurd e (splitC_ne c r)
      | cons x xs => rfl
theorem splitK_one (c : UInt8) : ∀ (s : Tx), Lib.splitK [c] 0 (s.count c) s = splitC c s := by
  have key : ∀ (x : Tx) (r : Tx), c ∉ x → Lib.index (x ++ c :: r) [c] = x.length := by
    intro x r hx
    rw [Lib.index_one]
    induction x with
    | nil => simp [Lib.indexByte]
    | cons b t ih =>
      simp only [List.mem_cons, not_or] at hx
      rw [List.cons_append, Lib.indexByte, ih hx.2, if_neg (by simpa using fun h => hx.1 h.symm), if_neg (by simp)]
      simp
  have miss : ∀ (x : Tx), c ∉ x → Lib.index x [c] = -1 := by
    intro x hx
    rw [Lib.index_one]
    induction x with
    | nil => rfl
    | cons b t ih =>
      simp only [List.mem_cons, not_or] at hx
      rw [Lib.indexByte, ih hx.2, if_neg (by simpa using fun h => hx.1 h.symm)]
      simp
  have main : ∀ (n : Nat) (s : Tx), s.length ≤ n → Lib.splitK [c] 0 (s.count c) s = splitC c s := by
    intro n
    induction n with
    | zero =>
      intro s hs
      have : s = [] := List.eq_nil_of_length_eq_zero (by omega)
      subst this; rfl
    | succ n ih =>
      intro s hs
      by_cases hc : c ∈ s
      · obtain ⟨x, r, rfl, hx⟩ := List.eq_append_cons_of_mem hc
        have hcnt : (x ++ c :: r).count c = r.count c + 1 := by
          rw [List.count_append, List.count_cons_self, List.count_eq_zero.2 hx]; omega
        rw [hcnt, Lib.splitK, key x r hx, split_app hx]
        have h1 : ((x.length : Int) == -1) = false := by simp
        rw [h1]
        simp only [Bool.false_eq_true, if_false, Int.toNat_natCast, Nat.add_zero, List.length_singleton]
        rw [List.take_left', List.drop_append, List.drop_of_length_le (by omega), show x.length + 1 - x.length = 1 by omega, List.nil_append, List.drop_succ_cons, List.drop_zero]
        · rw [ih r (by simp at hs; omega)]
        · rfl
      · rw [List.count_eq_zero.2 hc, Lib.splitK, split_free hc]
  exact fun s => main s.length s (Nat.le_refl _)
/-- Decimal numbers. -/
theorem dec_digits : ∀ u : Nat, Lib.decDigits u ≠ [] ∧ (∀ c ∈ Lib.decDigits u, 48 ≤ c.toNat ∧ c.toNat ≤ 57) := by
  intro u
  induction u using Nat.strongRecOn with
  | _ u ih =>
    rw [Lib.decDigits]
    split
    · rename_i h
      refine ⟨by simp, fun c hc => ?_⟩
      simp only [List.mem_cons, List.not_mem_nil, or_false] at hc
      subst hc
      rw [UInt8.toNat_ofNat']; omega
    · rename_i h
      refine ⟨by simp, fun c hc => ?_⟩
      rcases List.mem_append.1 hc with hc | hc
      · exact (ih (u / 10) (by omega)).2 c hc
      · simp only [List.mem_cons, List.not_mem_nil, or_false] at hc
        subst hc
        rw [UInt8.toNat_ofNat']; omega
theorem parseM_app (M acc : Nat) : ∀ (x : Tx) (r : Tx) (v : Nat), Lib.parseUintM M acc x = .ok v → Lib.parseUintM M acc (x ++ r) = Lib.parseUintM M v r := by
  intro x
  induction x generalizing acc with
  | nil => intro r v h; simp only [Lib.parseUintM, Lib.NumEnd.ok.injEq] at h; subst h; rfl
  | cons c t ih =>
    intro r v h
    rw [Lib.parseUintM] at h
    rw [List.cons_append, Lib.parseUintM]
    split at h
    · rename_i h1
      rw [if_pos h1]
      split at h
      · cases h
      · rename_i h2
        rw [if_neg h2]
        split at h
        · cases h
        · rename_i h3
          rw [if_neg h3]
          exact ih _ r v h
    · cases h
theorem parse_dec : ∀ u : Nat, u < 18446744073709551616 → Lib.parseUintM 18446744073709551615 0 (Lib.decDigits u) = .ok u := by
  intro u
  induction u using Nat.strongRecOn with
  | _ u ih =>
    intro hu
    rw [Lib.decDigits]
    split
    · rename_i h
      have e : (UInt8.ofNat (48 + u)).toNat = 48 + u := by rw [UInt8.toNat_ofNat']; omega
      rw [Lib.parseUintM, e, if_pos (by omega), if_neg (by omega), if_neg (by omega), Lib.parseUintM]
      congr 1; omega
    · rename_i h
      have e : (UInt8.ofNat (48 + u % 10)).toNat = 48 + u % 10 := by rw [UInt8.toNat_ofNat']; omega
      rw [parseM_app _ _ _ _ _ (ih (u / 10) (by omega) (by omega)), Lib.parseUintM, e, if_pos (by omega), if_neg (by omega), if_neg (by omega), Lib.parseUintM]
      congr 1; omega
theorem itoa_parse {n : Int} (h : -9223372036854775808 ≤ n ∧ n ≤ 9223372036854775807) : Lib.parseIntB 64 (Lib.itoa n) = .ok n := by
  have e1 : (2 : Nat) ^ 64 - 1 = 18446744073709551615 := by decide
  have e2 : (2 : Nat) ^ (64 - 1) = 9223372036854775808 := by decide
  unfold Lib.itoa
  split
  · rename_i hn
    have hp : Lib.parseUintB 64 (Lib.decDigits n.natAbs) = .ok n.natAbs := by
      rw [Lib.parseUintB, if_neg (dec_digits _).1, e1, parse_dec _ (by omega)]
    have h45 : (45 : UInt8).toNat = 45 := by decide
    simp only [Lib.parseIntB, h45, or_true, if_true, hp, e2, not_true, false_and, if_false, true_and]
    rw [if_neg (by omega)]
    congr 1; omega
  · rename_i hn
    obtain ⟨h1, h2⟩ := dec_digits n.toNat
    have hp : Lib.parseUintB 64 (Lib.decDigits n.toNat) = .ok n.toNat := by
      rw [Lib.parseUintB, if_neg (dec_digits _).1, e1, parse_dec _ (by omega)]
    cases hd : Lib.decDigits n.toNat with
    | nil => exact absurd hd h1
    | cons c r =>
      rw [hd] at hp
      have hc := h2 c (by rw [hd]; simp)
      have n1 : ¬ c.toNat = 43 := by omega
      have n2 : ¬ c.toNat = 45 := by omega
      simp only [Lib.parseIntB, n1, n2, or_self, if_false, hp, e2, not_false_eq_true, true_and, false_and]
      rw [if_neg (by omega)]
      congr 1; omega
theorem itoa_ok (n : Int) : ∀ c ∈ Lib.itoa n, c ≠ 32 ∧ c ≠ 10 ∧ c ≠ 37 := fun c hc => by
  have key : ∀ u, ∀ c ∈ Lib.decDigits u, c ≠ 32 ∧ c ≠ 10 ∧ c ≠ 37 := fun u c hc => by
    have := (dec_digits u).2 c hc
    refine ⟨?_, ?_, ?_⟩ <;> (rintro rfl; revert this; decide)
  unfold Lib.itoa at hc
  split at hc
  · rcases List.mem_cons.1 hc with rfl | hc
    · decide
    · exact key _ c hc
  · exact key _ c hc
theorem itoa_inj {a b : Int} (ha : -9223372036854775808 ≤ a ∧ a ≤ 9223372036854775807) (hb : -9223372036854775808 ≤ b ∧ b ≤ 9223372036854775807) (h : Lib.itoa a = Lib.itoa b) : a = b := by
  have h1 := itoa_parse ha
  rw [h, itoa_parse hb] at h1
  simpa using h1.symm
open Go Go.Proofs Go.SE Go.RowKit
set_option linter.unusedVariables false
set_option maxRecDepth 100000
structure En where
  kind : Int
  slot : Int
  n : Int
  bs : List Int
  deriving DecidableEq
def enV (e : En) (y : Value) : List Value := [.int .u8 e.kind, .int .i64 e.slot, .int .i64 e.n, y]
structure okEn (e : En) : Prop where
  kind : 0 ≤ e.kind ∧ e.kind ≤ 255
  slot : i64R e.slot
  n : i64R e.n
  bs : byteL e.bs
def withinB (n : Int) : Bool := decide (0 ≤ n ∧ n ≤ 4294967295)
def cleanE (e : En) : Bool :=
  if e.kind = 1 then withinB e.slot && (decide (e.n = 0) && decide (e.bs.length ≤ 16384))
  else if e.kind = 2 then decide (e = ⟨2, 0, 0, []⟩)
  else if e.kind = 3 then withinB e.n && decide (e = ⟨3, 0, e.n, []⟩) else false
theorem ct72 (n : Int) (I : Mem) : Ct Tryz.prog (fnv 72) #[.int .i64 n] I (fun v _ => v = .bool (withinB n)) := by
  refine viaR (ct_via (A := { }) Tryz.func72 rfl Tryz.call72 rfl rfl) (Br (decide (0 ≤ n)) (Value.bool (decide (n ≤ 4294967295)) = .bool (withinB n)) (Value.bool false = .bool (withinB n))) (by kernel_rfl) ?_
  refine Br.mk (fun h => ?_) (fun h => ?_)
  · have h := of_decide_eq_true h
    rw [withinB]; congr 1; exact decide_eq_decide.2 ⟨fun h1 => ⟨by omega, by omega⟩, fun h1 => by omega⟩
  · have h := of_decide_eq_false h
    rw [withinB, decide_eq_false (by omega)]
theorem ct33 (a b : En) (y z : Value) (I : Mem) (hy : BySl I y a.bs) (hz : BySl I z b.bs) (ha : byteL a.bs) (hb : byteL b.bs) :
    Ct Tryz.prog (fnv 33) #[.agg (enV a y).toArray, .agg (enV b z).toArray] I (fun v _ => v = .bool (decide (a = b))) := by
  obtain ⟨p, n, c, rfl, hp, _⟩ := hy
  obtain ⟨q, m, d, rfl, hq, _⟩ := hz
  obtain ⟨D, hD⟩ : ∃ D, D = decide (a = b) := ⟨_, rfl⟩
  rw [← hD]
  refine viaR (ct_via (A := { }) Tryz.func33 rfl Tryz.call33 rfl rfl) (Br (a.kind == b.kind) (Br (a.slot == b.slot) (Br (a.n == b.n) (Ct Tryz.prog (.func (.func 43) #[] #[]) #[.slice p n c, .slice q m d] I (fun v e => ∃ f, v = .bool f ∧ Value.bool f = .bool D)) (Value.bool false = .bool D)) (Value.bool false = .bool D)) (Value.bool false = .bool D)) (by kernel_rfl) ?_
  have NO : ∀ {P : Prop}, ¬ P → (a = b → P) → Value.bool false = Value.bool D := fun h1 h2 => by rw [hD, decide_eq_false fun e => h1 (h2 e)]
  refine Br.mk (fun h1 => Br.mk (fun h2 => Br.mk (fun h3 => (ct43 _ _ ha hb _ _ _ _ _ _ I hp hq).mono fun v J l hv => ⟨_, hv, ?_⟩) (fun h => NO (P := a.n = b.n) (by simpa using h) (by rintro rfl; rfl))) (fun h => NO (P := a.slot = b.slot) (by simpa using h) (by rintro rfl; rfl))) (fun h => NO (P := a.kind = b.kind) (by simpa using h) (by rintro rfl; rfl))
  rw [hD]
  obtain ⟨k, sl, m1, bs⟩ := a
  obtain ⟨k', sl', m1', bs'⟩ := b
  simp only [beq_iff_eq] at h1 h2 h3
  simp only at h1 h2 h3 ⊢
  subst h1 h2 h3
  congr 1
  exact decide_eq_decide.2 ⟨fun h => by rw [h], fun h => by cases h; rfl⟩
theorem byteL_nil : byteL [] := fun z hz => by cases hz
theorem bysl_nil (I : Mem) : BySl I (.slice none 0 0) [] := ⟨none, 0, 0, rfl, sl_nil _ _, Nat.le_refl 0, Nat.zero_le _⟩
theorem ct32 (e : En) (y : Value) (I : Mem) (hy : BySl I y e.bs) (hb : byteL e.bs) : Ct Tryz.prog (fnv 32) #[.agg (enV e y).toArray] I (fun v _ => v = .bool (cleanE e)) := by
  have hy' := hy
  obtain ⟨p, n, c, rfl, hp, hpc, hpm⟩ := hy
  obtain ⟨D, hD⟩ : ∃ D, D = cleanE e := ⟨_, rfl⟩
  rw [← hD]
  refine viaR (ct_via (A := { }) Tryz.func32 rfl Tryz.call32 rfl rfl) (Br (e.kind == 1) (Ct Tryz.prog (.func (.func 72) #[] #[]) #[.int .i64 e.slot] I (fun v a => ∃ b, v = .bool b ∧ Br b (Br (e.n == 0) (Value.bool (decide ((n : Int) ≤ 16384)) = .bool D) (Value.bool false = .bool D)) (Value.bool false = .bool D))) (Br (e.kind == 2) (Ct Tryz.prog (.func (.func 33) #[] #[]) #[.agg #[.int .u8 e.kind, .int .i64 e.slot, .int .i64 e.n, .slice p n c], .agg #[.int .u8 2, .int .i64 0, .int .i64 0, .slice none 0 0]] I (fun v a => ∃ b, v = .bool b ∧ Value.bool b = .bool D)) (Br (e.kind == 3) (Ct Tryz.prog (.func (.func 72) #[] #[]) #[.int .i64 e.n] I (fun v a => ∃ b, v = .bool b ∧ Br b (Ct Tryz.prog (.func (.func 33) #[] #[]) #[.agg #[.int .u8 e.kind, .int .i64 e.slot, .int .i64 e.n, .slice p n c], .agg #[.int .u8 3, .int .i64 0, .int .i64 e.n, .slice none 0 0]] a (fun d f => ∃ g, d = .bool g ∧ Value.bool g = .bool D)) (Value.bool false = .bool D))) (Value.bool false = .bool D)))) (by kernel_rfl) ?_
  have hn := hp.numLen
  have e1 := fun (x : Int) => beq_iff_eq (a := e.kind) (b := x)
  refine Br.mk (fun h => ?_) (fun h => ?_)
  · have hk : e.kind = 1 := by simpa using h
    refine (ct72 e.slot I).mono fun v J l hv => ⟨_, hv, ?_⟩
    rw [hD, cleanE, if_pos hk]
    refine Br.mk (fun h1 => Br.mk (fun h2 => ?_) (fun h2 => ?_)) (fun h1 => ?_)
    · have h2 : e.n = 0 := by simpa using h2
      rw [h1, decide_eq_true h2, Bool.true_and, Bool.true_and]
      congr 1; exact decide_eq_decide.2 (by omega)
    · have h2 : e.n ≠ 0 := by simpa using h2
      rw [decide_eq_false h2, Bool.false_and, Bool.and_false]
    · rw [h1, Bool.false_and]
  have hk : e.kind ≠ 1 := by simpa using h
  refine Br.mk (fun h => ?_) (fun h => ?_)
  · have hk2 : e.kind = 2 := by simpa using h
    refine (ct33 e ⟨2, 0, 0, []⟩ _ _ I hy' (bysl_nil I) hb byteL_nil).mono fun v J l hv => ⟨_, hv, ?_⟩
    rw [hD, cleanE, if_neg hk, if_pos hk2]
  have hk2 : e.kind ≠ 2 := by simpa using h
  refine Br.mk (fun h => ?_) (fun h => ?_)
  · have hk3 : e.kind = 3 := by simpa using h
    refine (ct72 e.n I).mono fun v J l hv => ⟨_, hv, ?_⟩
    rw [hD, cleanE, if_neg hk, if_neg hk2, if_pos hk3]
    refine Br.mk (fun h1 => ?_) (fun h1 => ?_)
    · exact (ct33 e ⟨3, 0, e.n, []⟩ _ _ J (hy'.mono l) (bysl_nil J) hb byteL_nil).mono fun v J' l' hv => ⟨_, hv, by rw [h1, Bool.true_and]⟩
    · rw [h1, Bool.false_and]
  · have hk3 : e.kind ≠ 3 := by simpa using h
    rw [hD, cleanE, if_neg hk, if_neg hk2, if_neg hk3]
open Go Go.Proofs Go.SE Go.RowKit
set_option linter.unusedVariables false
set_option maxRecDepth 100000
/-- Bytes as integers. -/
def intT (t : Tx) : List Int := t.map fun c => (c.toNat : Int)
def tx (s : ByteArray) : Tx := s.data.toList
theorem strL_tx (s : ByteArray) : strL s = intT (tx s) := rfl
theorem hexAt : ∀ {k : Nat}, k < 16 → [UInt8.ofNat 48, UInt8.ofNat 49, UInt8.ofNat 50, UInt8.ofNat 51, UInt8.ofNat 52, UInt8.ofNat 53, UInt8.ofNat 54, UInt8.ofNat 55, UInt8.ofNat 56, UInt8.ofNat 57, UInt8.ofNat 97, UInt8.ofNat 98, UInt8.ofNat 99, UInt8.ofNat 100, UInt8.ofNat 101, UInt8.ofNat 102][k]? = some (hexC k) := by
  have : ∀ k : Fin 16, [UInt8.ofNat 48, UInt8.ofNat 49, UInt8.ofNat 50, UInt8.ofNat 51, UInt8.ofNat 52, UInt8.ofNat 53, UInt8.ofNat 54, UInt8.ofNat 55, UInt8.ofNat 56, UInt8.ofNat 57, UInt8.ofNat 97, UInt8.ofNat 98, UInt8.ofNat 99, UInt8.ofNat 100, UInt8.ofNat 101, UInt8.ofNat 102][k.val]? = some (hexC k.val) := by decide
  intro k h
  exact this ⟨k, h⟩
theorem and15 (c : UInt8) : bitsV .and .u8 (c.toNat : Int) 15 = ((c.toNat % 16 : Nat) : Int) := by
  have : ∀ x : Fin 256, bitsV .and .u8 (x.val : Int) 15 = ((x.val % 16 : Nat) : Int) := by decide +kernel
  exact this ⟨c.toNat, c.toNat_lt⟩
theorem fdiv16 (c : UInt8) : (c.toNat : Int).fdiv 16 = ((c.toNat / 16 : Nat) : Int) := by
  rw [Int.fdiv_eq_ediv_of_nonneg _ (by omega)]; omega
theorem word_app (l : List Int) (x : Int) : wordT (l ++ [x]) = wordT l ++ hex2 x := by simp [wordT]
theorem ints_T (t : Tx) : ints .u8 (intT t) = t.map fun b => Value.int .u8 b.toNat := by simp [ints, intT]
theorem ct55 (s : ByteArray) (hs : s.size ≤ 1000000) (I : Mem) : Ct Tryz.prog (fnv 55) #[.string s] I (fun v _ => v = .string ⟨(wordT (strL s)).toArray⟩) := by
  obtain ⟨WI, hWI⟩ : ∃ f : Int → List Value → Prop, f = fun (j : Int) xs => 0 ≤ j ∧ j ≤ s.size ∧ xs = ints .u8 (intT (wordT ((strL s).take j.toNat))) := ⟨_, rfl⟩
  obtain ⟨Q, hQ⟩ : ∃ q : Value, q = .string ⟨(wordT (strL s)).toArray⟩ := ⟨_, rfl⟩
  rw [← hQ]
  refine viaR (ct_via (A := { loops := [(3, ⟨[(0, .keep), (3, .row 0), (7, .keep), (8, .sh (.int .i64))], [(0, .row)], [(3, 1, 5)], fun vals xss _ _ => match vals, xss with | [.int .i64 j], [xs] => WI j xs | _, _ => False, fun vals _ => match vals with | [.int .i64 j] => (s.size - j).toNat | _ => 0⟩)] }) Tryz.func55 rfl Tryz.call55 rfl rfl) ((Rf (SV.v (.string s)) ∧ (1 : Nat) = 1 ∧ Rf (SV.v (.int .i64 (s.size : Int))) ∧ WI 0 [.int .u8 37]) ∧ ∀ (a : Mem), Mem → I.le a → ∀ (x : List Value) (n : Int), WI n x → Br (decide (n < (s.size : Int))) (∃ c, s.data.toList[n.toNat]? = some c ∧ 0 ≤ n ∧ (0 : Int) ≤ 4 ∧ ∃ b, [UInt8.ofNat 48, UInt8.ofNat 49, UInt8.ofNat 50, UInt8.ofNat 51, UInt8.ofNat 52, UInt8.ofNat 53, UInt8.ofNat 54, UInt8.ofNat 55, UInt8.ofNat 56, UInt8.ofNat 57, UInt8.ofNat 97, UInt8.ofNat 98, UInt8.ofNat 99, UInt8.ofNat 100, UInt8.ofNat 101, UInt8.ofNat 102][(Int.fdiv (c.toNat : Int) 16).toNat]? = some b ∧ 0 ≤ Int.fdiv (c.toNat : Int) 16 ∧ ∃ d, s.data.toList[n.toNat]? = some d ∧ 0 ≤ n ∧ ∃ e, [UInt8.ofNat 48, UInt8.ofNat 49, UInt8.ofNat 50, UInt8.ofNat 51, UInt8.ofNat 52, UInt8.ofNat 53, UInt8.ofNat 54, UInt8.ofNat 55, UInt8.ofNat 56, UInt8.ofNat 57, UInt8.ofNat 97, UInt8.ofNat 98, UInt8.ofNat 99, UInt8.ofNat 100, UInt8.ofNat 101, UInt8.ofNat 102][(bitsV .and .u8 (d.toNat : Int) 15).toNat]? = some e ∧ 0 ≤ bitsV .and .u8 (d.toNat : Int) 15 ∧ x.length = x.length * 1 ∧ x.length + 2 ≤ 9223372036854775807 ∧ (x.length + 2) * 1 ≤ 140737488355328 ∧ Wr .i64 (n + 1) fun f => Rf (SV.v (.string s)) ∧ x.length + 2 = List.length (x ++ [.int .u8 (b.toNat : Int), .int .u8 (e.toNat : Int)]) ∧ Rf (SV.v (.int .i64 (s.size : Int))) ∧ WI f (x ++ [.int .u8 (b.toNat : Int), .int .u8 (e.toNat : Int)]) ∧ Int.toNat ((s.size : Int) - f) < Int.toNat ((s.size : Int) - n)) (∃ q, q.length = x.length ∧ List.take x.length x = List.map (fun (b : UInt8) => .int .u8 (b.toNat : Int)) q ∧ Value.string ⟨q.toArray⟩ = Q)) (by kernel_rfl) ?_
  have hl := strL_len s
  refine ⟨⟨rfl, rfl, rfl, by rw [hWI]; exact ⟨by omega, by omega, rfl⟩⟩, fun I' G' hle xs j hj => ?_⟩
  rw [hWI] at hj
  obtain ⟨h0, h1, rfl⟩ := hj
  have hlen : (ints .u8 (intT (wordT ((strL s).take j.toNat)))).length = 1 + 2 * j.toNat := by
    rw [ints_len, intT, List.length_map, wordT, List.length_cons, hex_len, List.length_take]; omega
  refine Br.mk (fun h => ?_) (fun h => ?_)
  · have h := of_decide_eq_true h
    obtain ⟨c, hc⟩ := str_at h0 h
    have hcb := c.toNat_lt
    have e1 := fdiv16 c
    have e2 := and15 c
    refine ⟨c, hc, h0, by omega, hexC (c.toNat / 16), by rw [e1, Int.toNat_natCast]; exact hexAt (by omega), by omega, c, hc, h0, hexC (c.toNat % 16), by rw [e2, Int.toNat_natCast]; exact hexAt (by omega), by omega, by omega, by omega, by omega, wr_i64 (by omega) (by omega) ⟨rfl, by simp, rfl, ?_, by omega⟩⟩
    rw [hWI]
    refine ⟨by omega, by omega, ?_⟩
    rw [show (j + 1).toNat = j.toNat + 1 by omega, List.take_add_one, strL_get hc, Option.toList_some, word_app]
    simp [ints_T, hex2]
  · have h := of_decide_eq_false h
    have hj : (strL s).take j.toNat = strL s := List.take_of_length_le (by omega)
    rw [hj] at hlen ⊢
    exact ⟨wordT (strL s), by rw [ints_T, List.length_map], by rw [List.take_length, ints_T], hQ.symm⟩
def hexI (c : UInt8) : Int := match hexV c with
  | some n => n
  | none => -1
theorem hexI_eq (c : UInt8) : Lib.indexByte [48, 49, 50, 51, 52, 53, 54, 55, 56, 57, 97, 98, 99, 100, 101, 102] c = hexI c := by
  have : ∀ x : Fin 256, Lib.indexByte [48, 49, 50, 51, 52, 53, 54, 55, 56, 57, 97, 98, 99, 100, 101, 102] (UInt8.ofNat x.val) = hexI (UInt8.ofNat x.val) := by decide +kernel
  have h := this ⟨c.toNat, c.toNat_lt⟩
  simpa using h
theorem ct156 (c : UInt8) (I : Mem) : Ct Tryz.prog (fnv 156) #[.string ⟨#[UInt8.ofNat 48, UInt8.ofNat 49, UInt8.ofNat 50, UInt8.ofNat 51, UInt8.ofNat 52, UInt8.ofNat 53, UInt8.ofNat 54, UInt8.ofNat 55, UInt8.ofNat 56, UInt8.ofNat 57, UInt8.ofNat 97, UInt8.ofNat 98, UInt8.ofNat 99, UInt8.ofNat 100, UInt8.ofNat 101, UInt8.ofNat 102]⟩, .int .u8 c.toNat] I (fun v _ => v = .int .i64 (hexI c)) := by
  refine ct_of_calls Tryz.call156 fun w _ => ?_
  refine (Tryz.strings_IndexByte _ _ w).mono fun e w' h => ?_
  obtain ⟨rfl, rfl⟩ := h
  have e : ((c.toNat : Int).toNat).toUInt8 = c := by simp
  refine ⟨⟨_, rfl, ?_⟩, Below.refl _ _⟩
  rw [e, ← hexI_eq c]
  rfl
theorem or16 {a b : Nat} (ha : a < 16) (hb : b < 16) : bitsV .or .i64 ((a : Int) * 16) (b : Int) = ((16 * a + b : Nat) : Int) := by
  have : ∀ (x y : Fin 16), bitsV .or .i64 ((x.val : Int) * 16) (y.val : Int) = ((16 * x.val + y.val : Nat) : Int) := by decide +kernel
  exact this ⟨a, ha⟩ ⟨b, hb⟩
theorem hexI_neg {c : UInt8} (h : hexI c < 0) : hexV c = none := by
  unfold hexI at h
  split at h
  · omega
  · assumption
theorem hexI_pos {c : UInt8} (h : ¬ hexI c < 0) : ∃ n, hexV c = some n ∧ hexI c = n ∧ n < 16 := by
  unfold hexI at h ⊢
  split at h
  · rename_i n hn
    exact ⟨n, hn, rfl, (hexV_lt hn).1⟩
  · omega
theorem ints_u8s {L : List Int} (h : byteL L) : (u8s L).map (fun b => Value.int .u8 b.toNat) = ints .u8 L := by
  simp only [u8s, ints, List.map_map]
  refine List.map_congr_left fun z hz => ?_
  have := h z hz
  simp only [Function.comp]
  congr 1
  rw [UInt8.toNat_ofNat']; omega
def unwV (o : Option (List Int)) : Value := match o with
  | some bs => .tuple #[.string (strB bs), .bool true]
  | none => .tuple #[.string ⟨#[]⟩, .bool false]
theorem drop_two {α : Type} {l : List α} {j : Nat} {b e : α} (hb : l[j]? = some b) (he : l[j + 1]? = some e) : l.drop j = b :: e :: l.drop (j + 2) := by
  have h1 := (List.getElem?_eq_some_iff.1 hb)
  have h2 := (List.getElem?_eq_some_iff.1 he)
  obtain ⟨g1, g2⟩ := h1
  obtain ⟨g3, g4⟩ := h2
  rw [List.drop_eq_getElem_cons g1, g2, List.drop_eq_getElem_cons g3, g4]
theorem ct115 (s : ByteArray) (hs : s.size ≤ 1000000) (I : Mem) : Ct Tryz.prog (fnv 115) #[.string s] I (fun v _ => v = unwV (unwordT (tx s))) := by
  obtain ⟨WI, hWI⟩ : ∃ f : Int → List Value → Prop, f = fun (j : Int) xs => 1 ≤ j ∧ j % 2 = 1 ∧ j ≤ s.size ∧ ∃ L, xs = ints .u8 L ∧ L.length ≤ j ∧ byteL L ∧ pairsT ((tx s).drop 1) = (pairsT ((tx s).drop j.toNat)).map (L ++ ·) := ⟨_, rfl⟩
  obtain ⟨Q, hQ⟩ : ∃ q : Value, q = unwV (unwordT (tx s)) := ⟨_, rfl⟩
  rw [← hQ]
  refine viaR (ct_via (A := { loops := [(5, ⟨[(0, .keep), (4, .row 0), (5, .sh (.int .i64))], [(0, .row)], [(4, 1, 5)], fun vals xss _ _ => match vals, xss with | [.int .i64 j], [xs] => WI j xs | _, _ => False, fun vals _ => match vals with | [.int .i64 j] => (s.size - j).toNat | _ => 0⟩)] }) Tryz.func115 rfl Tryz.call115 rfl rfl) ((2 : Int) ≠ 0 ∧ Br (Int.tmod (s.size : Int) 2 != 1) (Value.tuple #[.string ⟨#[]⟩, .bool false] = Q) (∃ c, s.data.toList[0]? = some c ∧ (0 : Int) ≤ 0 ∧ Br ((c.toNat : Int) != 37) (Value.tuple #[.string ⟨#[]⟩, .bool false] = Q) ((Rf (SV.v (.string s)) ∧ (0 : Nat) = 0 ∧ WI 1 []) ∧ ∀ (a : Mem), Mem → I.le a → ∀ (x : List Value) (n : Int), WI n x → Br (decide (n < (s.size : Int))) (∃ b, s.data.toList[n.toNat]? = some b ∧ 0 ≤ n ∧ Wr .i64 (n + 1) fun d => ∃ e, s.data.toList[d.toNat]? = some e ∧ 0 ≤ d ∧ Ct Tryz.prog (.func (.func 156) #[] #[]) #[.string ⟨#[48, 49, 50, 51, 52, 53, 54, 55, 56, 57, 97, 98, 99, 100, 101, 102]⟩, .int .u8 (b.toNat : Int)] a fun v f => ∃ g, v = .int .i64 g ∧ Ct Tryz.prog (.func (.func 156) #[] #[]) #[.string ⟨#[48, 49, 50, 51, 52, 53, 54, 55, 56, 57, 97, 98, 99, 100, 101, 102]⟩, .int .u8 (e.toNat : Int)] f fun h i => ∃ j, h = .int .i64 j ∧ Br (decide (g < 0)) (Value.tuple #[.string ⟨#[]⟩, .bool false] = Q) (Br (decide (j < 0)) (Value.tuple #[.string ⟨#[]⟩, .bool false] = Q) ((0 : Int) ≤ 4 ∧ Wr .i64 (g * 16) fun k => Wr .u8 (bitsV .or .i64 k j) fun l => x.length = x.length * 1 ∧ x.length + 1 ≤ 9223372036854775807 ∧ (x.length + 1) * 1 ≤ 140737488355328 ∧ Wr .i64 (n + 2) fun m => Rf (SV.v (.string s)) ∧ x.length + 1 = List.length (x ++ [.int .u8 l]) ∧ WI m (x ++ [.int .u8 l]) ∧ Int.toNat ((s.size : Int) - m) < Int.toNat ((s.size : Int) - n)))) (∃ q, q.length = x.length ∧ List.take x.length x = List.map (fun (b : UInt8) => .int .u8 (b.toNat : Int)) q ∧ Value.tuple #[.string ⟨q.toArray⟩, .bool true] = Q)))) (by kernel_rfl) ?_
  have hsz : (tx s).length = s.size := Array.length_toList
  have ht : ((s.size : Nat) : Int).tmod 2 = ((s.size % 2 : Nat) : Int) := by rw [Int.tmod_eq_emod_of_nonneg (by omega)]; omega
  have bad : unwordT (tx s) = none → Value.tuple #[Value.string ⟨#[]⟩, Value.bool false] = Q := fun h => by rw [hQ, h]; rfl
  refine ⟨by omega, Br.mk (fun h => bad ?_) (fun h => ?_)⟩
  · have h : s.size % 2 ≠ 1 := fun hq => by rw [ht, hq] at h; exact absurd h (by decide)
    cases hc : tx s with
    | nil => rfl
    | cons c r => rw [hc, List.length_cons] at hsz; rw [unwordT, if_neg (by omega)]
  have h : s.size % 2 = 1 := by rw [ht] at h; simp at h; omega
  obtain ⟨c, hc⟩ := str_at (s := s) (j := 0) (by omega) (by omega)
  have hc0 : (tx s)[0]? = some c := hc
  obtain ⟨r, hr⟩ : ∃ r, tx s = c :: r := by
    cases hq : tx s with
    | nil => rw [hq] at hc0; cases hc0
    | cons d r => rw [hq] at hc0; simp at hc0; exact ⟨r, by rw [hc0]⟩
  have hrl : r.length + 1 = s.size := by rw [← hsz, hr, List.length_cons]
  refine ⟨c, hc, by omega, Br.mk (fun h2 => bad ?_) (fun h2 => ?_)⟩
  · have h2 : ¬ c = 37 := fun e => by subst e; simp at h2
    rw [hr, unwordT, if_neg (fun hh => h2 hh.1)]
  have h2 : c = 37 := by
    have : (c.toNat : Int) = 37 := by simpa using h2
    exact UInt8.toNat_inj.1 (by rw [show (37 : UInt8).toNat = 37 by decide]; omega)
  have hun : unwordT (tx s) = pairsT ((tx s).drop 1) := by
    rw [hr, unwordT, if_pos ⟨h2, by omega⟩]; rfl
  refine ⟨⟨rfl, rfl, by rw [hWI]; exact ⟨by omega, by omega, by omega, [], rfl, by simp, byteL_nil, by simp⟩⟩, fun I' G' hle xs j hj => ?_⟩
  rw [hWI] at hj
  obtain ⟨h0, h1, h3, L, rfl, hL, hbL, hp⟩ := hj
  refine Br.mk (fun h4 => ?_) (fun h4 => ?_)
  · have h4 := of_decide_eq_true h4
    obtain ⟨b, hb⟩ := str_at (s := s) (j := j) (by omega) (by omega)
    obtain ⟨e, he⟩ := str_at (s := s) (j := j + 1) (by omega) (by omega)
    have hd := drop_two (l := tx s) hb (by rw [show j.toNat + 1 = (j + 1).toNat by omega]; exact he)
    refine ⟨b, hb, by omega, wr_i64 (by omega) (by omega) ⟨e, he, by omega, (ct156 b I').mono fun v J l hv => ⟨_, hv, (ct156 e J).mono fun v2 J2 l2 hv2 => ⟨_, hv2, Br.mk (fun h5 => bad ?_) (fun h5 => Br.mk (fun h6 => bad ?_) (fun h6 => ?_))⟩⟩⟩⟩
    · rw [hun, hp, hd, pairsT, hexI_neg (of_decide_eq_true h5)]; rfl
    · obtain ⟨x, hx, _⟩ := hexI_pos (of_decide_eq_false h5)
      rw [hun, hp, hd, pairsT, hexI_neg (of_decide_eq_true h6), hx]; rfl
    · obtain ⟨x, hx, hx2, hx3⟩ := hexI_pos (of_decide_eq_false h5)
      obtain ⟨y, hy, hy2, hy3⟩ := hexI_pos (of_decide_eq_false h6)
      rw [hx2, hy2]
      refine ⟨by omega, wr_i64 (by omega) (by omega) ⟨((16 * x + y : Nat) : Int), by rw [or16 hx3 hy3, IntKind.wrap_u8]; omega, by rw [ints_len]; omega, by rw [ints_len]; omega, by rw [ints_len]; omega, wr_i64 (by omega) (by omega) ⟨rfl, by simp, ?_, by omega⟩⟩⟩
      rw [hWI]
      refine ⟨by omega, by omega, by omega, L ++ [((16 * x + y : Nat) : Int)], by simp [ints], by simp; omega, fun z hz => ?_, ?_⟩
      · rcases List.mem_append.1 hz with hz | hz
        · exact hbL z hz
        · simp only [List.mem_cons, List.not_mem_nil, or_false] at hz
          subst hz; omega
      · rw [hp, hd, pairsT, hx, hy, show (j + 2).toNat = j.toNat + 2 by omega]
        cases pairsT ((tx s).drop (j.toNat + 2)) with
        | none => rfl
        | some l => simp
  · have h4 := of_decide_eq_false h4
    have hnil : (tx s).drop j.toNat = [] := List.drop_eq_nil_of_le (by omega)
    rw [hnil] at hp
    have hQ2 : unwordT (tx s) = some L := by rw [hun, hp]; simp [pairsT]
    refine ⟨u8s L, ?_, ?_, by rw [hQ, hQ2]; rfl⟩
    · rw [ints_len]; simp [u8s]
    · rw [List.take_length, ints_u8s hbL]
open Go Go.Proofs Go.SE Go.RowKit
set_option linter.unusedVariables false
set_option maxRecDepth 100000
/-- What the library's variables hold. -/
def Globs (I : Mem) : Prop := ∀ w : World, I.inW w → (∃ m, w.cell? ⟨0, 0, none⟩ = some (.int .i64 m)) ∧ Lib.TabIs Tryz.prog w "internal/strconv.uint64pow10" .u64 Lib.pow10Tab ∧
  (∃ tp p, w.cell? ⟨2, 0, none⟩ = some (.iface tp p)) ∧ ∃ tp p, w.cell? ⟨3, 0, none⟩ = some (.iface tp p)
theorem Globs.mono {I J : Mem} (h : Globs I) (hle : I.le J) : Globs J := fun w hw => h w (Mem.inW_of_le hle hw)
def strT (t : Tx) : ByteArray := ⟨t.toArray⟩
theorem below_gr (w : World) (n : Nat) (os : Array Obj) : Below w.heap.size w (Go.Sort.grow (w.drewN n) os) :=
  ⟨rfl, rfl, rfl, by simp [Go.Sort.grow, World.drewN], fun k hk => by simp [Go.Sort.grow, World.drewN, Array.getElem?_append_left hk]⟩
theorem ct57 (n : Int) (hn : i64R n) (I : Mem) (hG : Globs I) : Ct Tryz.prog (fnv 57) #[.int .i64 n] I (fun v _ => v = .string (strT (Lib.itoa n))) := by
  refine ct_of_calls Tryz.call57 fun w hw => ?_
  refine (Tryz.strconv_Itoa n hn.1 hn.2 w (hG w hw).2.1).mono fun e w' h => ?_
  obtain ⟨rfl, k, os, rfl⟩ := h
  exact ⟨⟨_, rfl, rfl⟩, below_gr _ _ _⟩
theorem ct103 (n : Int) (hn : i64R n) (I : Mem) (hG : Globs I) : Ct Tryz.prog (fnv 103) #[.int .i64 n, .int .i64 10] I (fun v _ => v = .string (strT (Lib.itoa n))) := by
  refine ct_of_calls Tryz.call103 fun w hw => ?_
  refine (Tryz.internal_strconv_FormatInt_10 n hn.1 hn.2 w (hG w hw).2.1).mono fun e w' h => ?_
  obtain ⟨rfl, k, os, rfl⟩ := h
  exact ⟨⟨_, rfl, rfl⟩, below_gr _ _ _⟩
theorem ct56 (n : Int) (hn : i64R n) (I : Mem) (hG : Globs I) : Ct Tryz.prog (fnv 56) #[.int .i64 n, .int .i64 10] I (fun v _ => v = .string (strT (Lib.itoa n))) := by
  obtain ⟨Q, hQ⟩ : ∃ q : Value, q = .string (strT (Lib.itoa n)) := ⟨_, rfl⟩
  rw [← hQ]
  refine viaR (ct_via (A := { }) Tryz.func56 rfl Tryz.call56 rfl rfl) (Ct Tryz.prog (.func (.func 103) #[] #[]) #[.int .i64 n, .int .i64 10] I fun v a => ∃ q, v = .string q ∧ Value.string q = Q) (by kernel_rfl) ?_
  exact (ct103 n hn I hG).mono fun v J l hv => ⟨_, hv, hQ.symm⟩
def errV (ok : Bool) (e : Value) : Prop := if ok then e = .nilIface else ∃ t p, e = .iface t p
/-- What ParseInt answers. -/
def numP (t : Tx) : Int × Bool := match Lib.parseIntB 64 t with
  | .ok v => (v, true)
  | .range => (Lib.intSat 64 t, false)
  | _ => (0, false)
def numA (t : Tx) : Int × Bool := match Lib.atoiAll t with
  | .ok v => (v, true)
  | .range => (Lib.atoiSat t, false)
  | _ => (0, false)
def NumR (p : Int × Bool) (v : Value) : Prop := ∃ e, v = .tuple #[.int .i64 p.1, e] ∧ errV p.2 e
theorem ct159 (s : ByteArray) (hs : s.size ≤ 1000000) (I : Mem) (hG : Globs I) : Ct Tryz.prog (fnv 159) #[.string s, .int .i64 10, .int .i64 64] I (fun v _ => NumR (numP (tx s)) v) := by
  refine ct_of_calls Tryz.call159 fun w hw => ?_
  obtain ⟨_, _, ⟨tp, p, h1⟩, ⟨tq, q, h2⟩⟩ := hG w hw
  cases h : Lib.parseIntB 64 s.data.toList
  · rename_i v
    refine (Tryz.strconv_ParseInt_10_at64_ok s (by omega) v h w).mono fun e w' hh => ?_
    obtain ⟨rfl, hw'⟩ := hh
    refine ⟨⟨_, rfl, .nilIface, by rw [numP, tx, h], by rw [numP, tx, h]; rfl⟩, ?_⟩
    rcases hw' with rfl | ⟨t, rfl⟩
    · exact Below.refl _ _
    · exact Go.Joins.below_bytesWorld _ _ _ _ (Nat.le_refl _)
  · refine (Tryz.strconv_ParseInt_10_at64_syntax s (by omega) h _ w h1 (.inr ⟨_, _, rfl⟩)).mono fun e w' hh => ?_
    obtain ⟨N, rfl, _, _, hb⟩ := hh
    exact ⟨⟨_, rfl, _, by rw [numP, tx, h], by rw [numP, tx, h]; exact ⟨_, _, rfl⟩⟩, hb⟩
  · refine (Tryz.strconv_ParseInt_10_at64_range s (by omega) h _ w h2 (.inr ⟨_, _, rfl⟩)).mono fun e w' hh => ?_
    obtain ⟨N, rfl, _, _, hb⟩ := hh
    exact ⟨⟨_, rfl, _, by rw [numP, tx, h], by rw [numP, tx, h]; exact ⟨_, _, rfl⟩⟩, hb⟩
theorem ct114 (s : ByteArray) (hs : s.size ≤ 1000000) (I : Mem) (hG : Globs I) : Ct Tryz.prog (fnv 114) #[.string s] I (fun v _ => NumR (numA (tx s)) v) := by
  refine ct_of_calls Tryz.call114 fun w hw => ?_
  obtain ⟨_, _, ⟨tp, p, h1⟩, ⟨tq, q, h2⟩⟩ := hG w hw
  cases h : Lib.atoiAll s.data.toList
  · rename_i v
    refine (Tryz.strconv_Atoi_ok s (by omega) v h w).mono fun e w' hh => ?_
    obtain ⟨rfl, hw'⟩ := hh
    refine ⟨⟨_, rfl, .nilIface, by rw [numA, tx, h], by rw [numA, tx, h]; rfl⟩, ?_⟩
    rcases hw' with rfl | ⟨t, rfl⟩
    · exact Below.refl _ _
    · exact Go.Joins.below_bytesWorld _ _ _ _ (Nat.le_refl _)
  · refine (Tryz.strconv_Atoi_syntax s (by omega) h _ w h1 (.inr ⟨_, _, rfl⟩)).mono fun e w' hh => ?_
    obtain ⟨N, rfl, _, _, hb⟩ := hh
    exact ⟨⟨_, rfl, _, by rw [numA, tx, h], by rw [numA, tx, h]; exact ⟨_, _, rfl⟩⟩, hb⟩
  · refine (Tryz.strconv_Atoi_range s (by omega) h _ w h2 (.inr ⟨_, _, rfl⟩)).mono fun e w' hh => ?_
    obtain ⟨N, rfl, _, _, hb⟩ := hh
    exact ⟨⟨_, rfl, _, by rw [numA, tx, h], by rw [numA, tx, h]; exact ⟨_, _, rfl⟩⟩, hb⟩
/-- The number with a name. -/
def kindGo (f : Int → ByteArray) (s : ByteArray) : Nat → Int → Int
  | 0, _ => 0
  | k + 1, n => if f n = ⟨#[]⟩ then 0 else if f n = s then n else kindGo f s k (n + 1)
def kindS (f : Int → ByteArray) (s : ByteArray) : Int := kindGo f s 19 1
theorem ct160 (s : ByteArray) (fv : Value) (f : Int → ByteArray) (hf : ∀ (k : Int) (J : Mem), 0 ≤ k ∧ k ≤ 255 → Ct Tryz.prog fv #[.int .u8 k] J (fun v _ => v = .string (f k))) (I : Mem) :
    Ct Tryz.prog (fnv 160) #[.string s, fv] I (fun v _ => v = .int .u8 (kindS f s)) := by
  obtain ⟨K, hK⟩ : ∃ k, k = kindS f s := ⟨_, rfl⟩
  rw [← hK]
  refine viaR (ct_via (A := { loops := [(2, ⟨[(0, .keep), (1, .keep), (5, .sh (.int .u8))], [], [], fun vals _ _ _ => match vals with | [.int .u8 n] => 1 ≤ n ∧ n ≤ 20 ∧ K = kindGo f s (20 - n.toNat) n | _ => False, fun vals _ => match vals with | [.int .u8 n] => (20 - n).toNat | _ => 0⟩)] }) Tryz.func160 rfl Tryz.call160 rfl rfl) ((Rf (SV.v (.string s)) ∧ Rf (SV.v fv) ∧ (1 : Int) ≤ 1 ∧ (1 : Int) ≤ 20 ∧ K = kindGo f s 19 1) ∧ ∀ (a : Mem), Mem → I.le a → ∀ (n : Int), 1 ≤ n ∧ n ≤ 20 ∧ K = kindGo f s (20 - n.toNat) n → Br (decide (n < 20)) (Ct Tryz.prog fv #[.int .u8 n] a (fun v b => ∃ q, v = .string q ∧ Br (!(q.toList == (ByteArray.mk #[]).toList)) (Ct Tryz.prog fv #[.int .u8 n] b (fun c d => ∃ e, c = .string e ∧ Br (e.toList == s.toList) (Value.int .u8 n = .int .u8 K) (Wr .u8 (n + 1) (fun g => Rf (SV.v (.string s)) ∧ Rf (SV.v fv) ∧ (1 ≤ g ∧ g ≤ 20 ∧ K = kindGo f s (20 - g.toNat) g) ∧ Int.toNat (20 - g) < Int.toNat (20 - n))))) (Value.int .u8 0 = .int .u8 K))) (Value.int .u8 0 = .int .u8 K)) (by kernel_rfl) ?_
  refine ⟨⟨rfl, rfl, by omega, by omega, hK⟩, fun I' G' hle n hn => ?_⟩
  obtain ⟨h1, h2, h3⟩ := hn
  refine Br.mk (fun h => ?_) (fun h => ?_)
  · have h := of_decide_eq_true h
    obtain ⟨k, hk⟩ : ∃ k, 20 - n.toNat = k + 1 := ⟨19 - n.toNat, by omega⟩
    rw [hk, kindGo] at h3
    refine (hf n I' (by omega)).mono fun v J l hv => ⟨_, hv, ?_⟩
    rw [str_eq]
    refine Br.mk (fun h4 => ?_) (fun h4 => ?_)
    · have h4 : f n ≠ ⟨#[]⟩ := by simpa using h4
      rw [if_neg h4] at h3
      refine (hf n J (by omega)).mono fun v2 J2 l2 hv2 => ⟨_, hv2, ?_⟩
      rw [str_eq]
      refine Br.mk (fun h5 => ?_) (fun h5 => ?_)
      · rw [if_pos (of_decide_eq_true h5)] at h3; rw [h3]
      · rw [if_neg (of_decide_eq_false h5)] at h3
        exact ⟨n + 1, by rw [IntKind.wrap_u8]; omega, rfl, rfl, ⟨by omega, by omega, by rw [h3]; congr 1; omega⟩, by omega⟩
    · have h4 : f n = ⟨#[]⟩ := by simpa using h4
      rw [if_pos h4] at h3; rw [h3]
  · have h := of_decide_eq_false h
    rw [show 20 - n.toNat = 0 by omega, kindGo] at h3; rw [h3]
open Go Go.Proofs Go.SE Go.RowKit
set_option linter.unusedVariables false
set_option maxRecDepth 100000
def strs (l : List ByteArray) : List Value := l.map .string
theorem strs_get {l : List ByteArray} {j : Nat} {y : ByteArray} (h : l[j]? = some y) : (strs l)[j]? = some (.string y) := by simp [strs, h]
/-- Strings, blanks between them. -/
def joinB (l : List ByteArray) : ByteArray := strT (joinC 32 (l.map tx))
theorem ct58 (l : List ByteArray) (a : Option Addr) (cp : Nat) (I : Mem) (h : RowM I a cp 1 (strs l)) (hlen : (joinB l).size ≤ 1000000000) (hN : l.length ≤ 1000000) :
    Ct Tryz.prog (fnv 58) #[.slice a l.length cp, .string ⟨#[UInt8.ofNat 32]⟩] I (fun v _ => v = .string (joinB l)) := by
  have e0 : joinB l = ⟨(Lib.join (l.map (·.data.toList)) [UInt8.ofNat 32]).toArray⟩ := by rw [joinB, strT, ← joinC_eq]; rfl
  obtain ⟨h1, h2, h3, h4⟩ := h
  have hl : l.length ≤ cp := by simpa [strs] using h1
  refine ct_of_calls Tryz.call58 fun w hI => ?_
  cases a with
  | none =>
    have hnil : l = [] := by
      have := (h3 rfl).1
      simpa [strs] using this
    subst hnil
    refine (Tryz.strings_Join_none _ _ _ w).mono fun e w' ⟨he, hw⟩ => ⟨⟨_, he, by rfl⟩, hw ▸ Below.refl _ _⟩
  | some ad =>
    cases l with
    | nil => exact (Tryz.strings_Join_none _ _ _ w).mono fun e w' ⟨he, hw⟩ => ⟨⟨_, he, by rfl⟩, hw ▸ Below.refl _ _⟩
    | cons x r =>
      have hc : ∀ (j : Nat) (y : ByteArray), (x :: r)[j]? = some y → w.cell? (ad.add j) = some (.string y) := fun j y hj =>
        cellM_world hI (h4 j _ (strs_get hj))
      have h0 := hc 0 x rfl
      obtain ⟨b, o, sp⟩ := ad
      obtain rfl : sp = none := by
        cases sp with
        | none => rfl
        | some s => have := h4 0 (.string x) rfl; simp only [atI, Option.bind_some, cellM, Addr.add, if_true] at this; split at this <;> simp at this
      have hlt : b < w.heap.size := by
        have := h4 0 (.string x) rfl
        simp only [atI, Option.bind_some, cellM, Addr.add, if_true] at this
        split at this
        · rename_i hb; exact Mem.inW_lt hI hb
        · cases this
      have hln : (Lib.join ((x :: r).map (·.data.toList)) [UInt8.ofNat 32]).length ≤ 140737488355328 := by
        have : (joinB (x :: r)).size = (Lib.join ((x :: r).map (·.data.toList)) [UInt8.ofNat 32]).length := by rw [e0]; rfl
        omega
      refine (Tryz.strings_Join b o cp (x :: r) ⟨#[UInt8.ofNat 32]⟩ w (fun j y hj => ?_) hlt (by omega) hl hln).mono fun e w' ⟨he, hw⟩ => ⟨⟨_, he, by rw [e0]⟩, hw⟩
      have := hc j y hj
      by_cases hj0 : j = 0
      · subst hj0; exact this
      · simpa [Addr.add, hj0] using this
/-- A contract of the library's kind whose new memory is told. -/
theorem ct_of_callsN {P : Program} {f : FuncId} {args : Array Value} {I : Mem} {post : Value → Mem → Prop}
    (hcall : ∀ (args : Array Value) (w : World), (callFunc f args).run P w = .ok (.enter f args) w)
    (h : ∀ w : World, I.inW w → Calls P f args w fun e w' => ∃ v M, e = .returned v ∧ M.inW w' ∧ I.le M ∧ (∀ b, b < w.heap.size → I b = none → M b = none) ∧ post v M ∧ Below w.heap.size w w') : Ct P (fnv f) args I post := by
  intro W hI _ _
  refine callV_func hcall (args := args.toList) (by simp) (callsIn_wide.2 ?_)
  refine (h W hI).mono ?_
  rintro e w' ⟨v, M, he, hM, hle, hn, hp, hb⟩
  exact ⟨v, M, Mem.emp, he, hle, hM, Mem.emp_inW _, fun b => .inr rfl, hb.size, ⟨hb.os, hb.tape, hb.output⟩, fun b hlt _ => hb.block b hlt, fun b hb _ => ⟨rfl, hn b hb⟩, hp⟩
/-- Pieces that lie in new memory. -/
theorem ct83 (s : ByteArray) (hs : s.size ≤ 1000000) (I : Mem) (hG : Globs I) :
    Ct Tryz.prog (fnv 83) #[.string s, .string ⟨#[UInt8.ofNat 32]⟩] I (fun v I' => ∃ (l : List ByteArray) (a : Option Addr) (n c : Nat), v = .slice a n c ∧ l.map tx = splitC 32 (tx s) ∧ SlM I' a n 1 (strs l) ∧ n ≤ c ∧ c ≤ maxLen) := by
  refine ct_of_callsN Tryz.call83 fun w hI => ?_
  obtain ⟨⟨m, hm⟩, _⟩ := hG w hI
  refine (Tryz.strings_Split s ⟨#[UInt8.ofNat 32]⟩ m w (by omega) hm (Nat.le_refl 1)).mono fun e w' ⟨he, hw⟩ => ?_
  obtain ⟨L, hL⟩ : ∃ L, L = Lib.splitB ⟨#[UInt8.ofNat 32]⟩ 0 (Lib.countB s ⟨#[UInt8.ofNat 32]⟩) s := ⟨_, rfl⟩
  have hlen := Lib.splitB_all ⟨#[UInt8.ofNat 32]⟩ (Nat.le_refl 1) 0 _ s rfl
  have hcnt : Lib.countB s ⟨#[UInt8.ofNat 32]⟩ = (tx s).count 32 := Lib.count_one 32 (tx s)
  have hmap : L.map tx = splitC 32 (tx s) := by
    rw [hL, hcnt]
    have := Lib.splitB_data ⟨#[UInt8.ofNat 32]⟩ 0 ((tx s).count 32) s
    exact this.trans (splitK_one 32 (tx s))
  rw [← hL] at hw hlen
  have hcle : Lib.countB s ⟨#[UInt8.ofNat 32]⟩ ≤ s.size := Lib.countB_le ⟨#[UInt8.ofNat 32]⟩ (Nat.le_refl 1) _ s (Nat.le_refl _)
  subst hw
  have hnew : I w.heap.size = none := by
    cases hb : I w.heap.size with
    | none => rfl
    | some o => exact absurd (Mem.inW_lt hI hb) (Nat.lt_irrefl _)
  refine ⟨_, fun b => if b = w.heap.size then some (.cells (L.map Value.string).toArray 9 (0, 0)) else I b, he, fun b o hb => ?_, fun b o hb => ?_, fun b hb hn => ?_, ⟨L, some ⟨w.heap.size, 0, none⟩, _, _, rfl, hmap, ?_, Nat.le_refl _, ?_⟩, (Below.refl _ _).alloc (Nat.le_refl _) _⟩
  · simp only at hb
    split at hb
    · rename_i h; subst h; cases hb; exact Array.getElem?_push_size
    · rw [Below.heap_alloc w _ b (Mem.inW_lt hI hb)]; exact hI b o hb
  · simp only
    rw [if_neg (fun h => by subst h; rw [hnew] at hb; cases hb)]; exact hb
  · simp only
    rw [if_neg (by omega)]; exact hn
  · exact sl_cells (if_pos rfl) (by simp; omega) (by simp only [maxLen]; omega)
  · simp only [maxLen]; omega
/-- A text up to the first line feed, and what is behind it. -/
def cutT (t : Tx) : Tx × Tx × Bool := Lib.cut t [10]
theorem ct113 (s : ByteArray) (hs : s.size ≤ 10000000) (I : Mem) (hG : Globs I) :
    Ct Tryz.prog (fnv 113) #[.string s, .string ⟨#[UInt8.ofNat 10]⟩] I (fun v _ => v = .tuple #[.string (strT (cutT (tx s)).1), .string (strT (cutT (tx s)).2.1), .bool (cutT (tx s)).2.2]) := by
  refine ct_of_calls Tryz.call113 fun w hI => ?_
  obtain ⟨⟨m, hm⟩, _⟩ := hG w hI
  refine (Tryz.strings_Cut s ⟨#[UInt8.ofNat 10]⟩ m w (by omega) hm).mono fun e w' ⟨he, n, hw⟩ => ⟨⟨_, he, rfl⟩, hw ▸ Go.Joins.below_draws _ _ _⟩
open Go Go.Proofs Go.SE Go.RowKit
set_option linter.unusedVariables false
set_option maxRecDepth 100000
/-- The word of a request's field. -/
def fieldT (r : Rq) (t : Int) : Tx :=
  if t = 1 then tx (askS r.what) else if t = 2 then (if nameB (strL r.name) then tx r.name else wordT (strL r.name)) else if t = 10 then Lib.itoa r.val else if t = 11 then wordT r.fed else Lib.itoa (numR r t)
def wordsL (r : Rq) : List ByteArray := nameS r.kind :: (tagsR r).map fun t => strT (fieldT r t)
def wordsB (r : Rq) : ByteArray := joinB (wordsL r)
theorem dec_len : ∀ (k u : Nat), u < 10 ^ (k + 1) → (Lib.decDigits u).length ≤ k + 1
  | 0, u, h => by rw [Lib.decDigits, dif_pos (by simpa using h)]; simp
  | k + 1, u, h => by
    rw [Lib.decDigits]
    split
    · simp
    · have := dec_len k (u / 10) (by rw [Nat.pow_succ] at h; omega)
      simp only [List.length_append, List.length_cons, List.length_nil]; omega
theorem itoa_len {n : Int} (h : i64R n) : (Lib.itoa n).length ≤ 21 := by
  have h1 := h.1
  have h2 := h.2
  unfold Lib.itoa
  split
  · have := dec_len 19 n.natAbs (by omega)
    simp only [List.length_cons]; omega
  · have := dec_len 19 n.toNat (by omega)
    omega
theorem joinC_len (c : UInt8) (B : Nat) : ∀ ws : List Tx, (∀ w ∈ ws, w.length ≤ B) → (joinC c ws).length ≤ ws.length * (B + 1)
  | [], _ => by simp [joinC]
  | [x], h => by have := h x (by simp); simp only [joinC, List.length_cons, List.length_nil]; omega
  | x :: y :: r, h => by
    have h1 := h x (by simp)
    have h2 := joinC_len c B (y :: r) fun w hw => h w (List.mem_cons_of_mem _ hw)
    simp only [joinC, List.length_append, List.length_cons] at h2 ⊢
    rw [Nat.add_mul _ 1]
    omega
theorem tag_some {k w : Int} {l : List Int} (h : tagL k w = some l) : l.length ≤ 4 ∧ ∀ t ∈ l, 1 ≤ t ∧ t ≤ 11 := by
  unfold tagL at h
  by_cases h7 : k = 7
  · subst h7
    simp only [show ¬ (7 : Int) = 1 by decide, show ¬ (7 : Int) = 2 by decide, show ¬ (7 : Int) = 3 by decide, show ¬ (7 : Int) = 4 by decide, show ¬ (7 : Int) = 5 by decide, show ¬ (7 : Int) = 6 by decide, if_false, if_true] at h
    unfold askL at h
    repeat' split at h
    all_goals first | (cases h; exact ⟨by decide, by decide⟩) | cases h
  · simp only [h7, if_false] at h
    repeat' split at h
    all_goals first | (cases h; exact ⟨by decide, by decide⟩) | cases h
theorem tag_len (k w : Int) : ((tagL k w).getD []).length ≤ 4 ∧ ∀ t ∈ (tagL k w).getD [], 1 ≤ t ∧ t ≤ 11 := by
  cases h : tagL k w with
  | none => exact ⟨by decide, by decide⟩
  | some l => exact tag_some h
theorem num_ok {r : Rq} (hr : okRq r) (t : Int) : i64R (numR r t) := by
  unfold numR
  repeat' split
  · exact hr.p3
  · exact hr.p4
  · exact hr.p5
  · exact hr.p6
  · exact hr.p7
  · exact hr.p8
  · exact hr.p9
theorem word_len (bs : List Int) : (wordT bs).length = 1 + 2 * bs.length := by rw [wordT, List.length_cons, hex_len]; omega
theorem field_len {r : Rq} (hr : okRq r) (hn : r.name.size ≤ 255) (hf : r.fed.length ≤ 15000) (t : Int) : (fieldT r t).length ≤ 40000 := by
  have h1 : (tx r.name).length = r.name.size := Array.length_toList
  have h2 := strL_len r.name
  unfold fieldT
  split
  · have : ∀ w : Int, (tx (askS w)).length ≤ 40000 := fun w => by
      rw [askS]
      cases h : asksL[w.toNat]? with
      | none => decide
      | some x =>
        have := List.mem_of_getElem? h
        simp only [asksL, List.mem_cons, List.not_mem_nil, or_false] at this
        rcases this with rfl | rfl | rfl | rfl | rfl | rfl <;> decide
    exact this _
  · split
    · split
      · omega
      · rw [word_len]; omega
    · split
      · have := itoa_len hr.val; omega
      · split
        · rw [word_len]; omega
        · have := itoa_len (num_ok hr t); omega
theorem name_len (k : Int) : (nameS k).size ≤ 40000 := by
  rw [nameS]
  cases h : namesL[k.toNat]? with
  | none => decide
  | some x =>
    have := List.mem_of_getElem? h
    simp only [namesL, List.mem_cons, List.not_mem_nil, or_false] at this
    rcases this with rfl | rfl | rfl | rfl | rfl | rfl | rfl | rfl | rfl | rfl <;> decide
theorem tx_strT (t : Tx) : tx (strT t) = t := by simp [tx, strT]
theorem strT_size (t : Tx) : (strT t).size = t.length := by show t.toArray.size = _; simp
theorem words_len {r : Rq} (hr : okRq r) (h : rightR r = true) : (wordsL r).length ≤ 5 ∧ (wordsB r).size ≤ 1000000 := by
  obtain ⟨_, h1, h2, _⟩ := right_tag h
  have h3 := (tag_len r.kind r.what).1
  have h4 : (wordsL r).length ≤ 5 := by simp only [wordsL, tagsR, List.length_cons, List.length_map]; omega
  refine ⟨h4, ?_⟩
  rw [wordsB, joinB, strT_size]
  have := joinC_len 32 40000 ((wordsL r).map tx) fun w hw => by
    obtain ⟨u, hu, rfl⟩ := List.mem_map.1 hw
    simp only [wordsL, List.mem_cons, List.mem_map] at hu
    rcases hu with rfl | ⟨t, _, rfl⟩
    · have := name_len r.kind
      have e : (tx (nameS r.kind)).length = (nameS r.kind).size := Array.length_toList
      omega
    · rw [tx_strT]; exact field_len hr h1 h2 t
  rw [List.length_map] at this
  have h5 : (wordsL r).length * (40000 + 1) ≤ 5 * (40000 + 1) := Nat.mul_le_mul_right _ h4
  omega
def numsV (r : Rq) : List Value := [.int .i64 0, .int .i64 0, .int .i64 0, .int .i64 r.p3, .int .i64 r.p4, .int .i64 r.p5, .int .i64 r.p6, .int .i64 r.p7, .int .i64 r.p8, .int .i64 r.p9]
theorem ct21 (r : Rq) (hr : okRq r) (hnm : r.name.size ≤ 1000000) (y : Value) (I : Mem) (hG : Globs I) (hy : BySl I y r.fed) (hfl : r.fed.length ≤ 1000000) (hfb : byteL r.fed) :
    Ct Tryz.prog (fnv 21) #[.agg (rqV r y).toArray] I (fun v _ => v = .tuple #[.string (if rightR r then wordsB r else ⟨#[]⟩), .int .i64 (if rightR r then 0 else 412)]) := by
  have hy' := hy
  obtain ⟨p, n, c, rfl, hp, hpc, hpm⟩ := hy
  obtain ⟨WI, hWI⟩ : ∃ f : Int → List Value → List Value → Prop, f = fun (j : Int) xs ns => ns = numsV r ∧ 0 ≤ j ∧ j ≤ (tagsR r).length ∧ xs = strs ((wordsL r).take (1 + j.toNat)) := ⟨_, rfl⟩
  obtain ⟨Q, hQ⟩ : ∃ q : Value, q = .tuple #[.string (if rightR r then wordsB r else ⟨#[]⟩), .int .i64 (if rightR r then 0 else 412)] := ⟨_, rfl⟩
  rw [← hQ]
  refine viaR (ct_via (A := { hands := [(21, [1])], calls := [(49, .sym)], loops := [(7, ⟨[(1, .keep), (4, .row 1), (7, .keep), (40, .keep), (41, .keep), (42, .sh (.int .i64))], [(0, .keep), (1, .row), (2, .vec)], [(4, 1, 9)], fun vals xss _ _ => match vals, xss with | [.int .i64 j], [xs, ns] => WI j xs ns | _, _ => False, fun vals _ => match vals with | [.int .i64 j] => ((tagsR r).length - j).toNat | _ => 0⟩)] }) Tryz.func21 rfl Tryz.call21 rfl rfl) (let E1 := Ent.mk (.cells [.v (.int .u8 r.kind), .v (.int .u8 r.what), .v (.string r.name), .v (.int .i64 r.p3), .v (.int .i64 r.p4), .v (.int .i64 r.p5), .v (.int .i64 r.p6), .v (.int .i64 r.p7), .v (.int .i64 r.p8), .v (.int .i64 r.p9), .v (.int .i64 r.val), .v (.slice p n c)] 26) none
      Ct Tryz.prog (.func (.func 52) #[] #[]) #[.agg #[.int .u8 r.kind, .int .u8 r.what, .string r.name, .int .i64 r.p3, .int .i64 r.p4, .int .i64 r.p5, .int .i64 r.p6, .int .i64 r.p7, .int .i64 r.p8, .int .i64 r.p9, .int .i64 r.val, .slice p n c]] I fun (v : Value) (a : Mem) => ∃ (b : Bool), v = .bool b ∧ Br (!b) (Value.tuple #[.string ⟨#[]⟩, .int .i64 412] = Q) (Ct Tryz.prog (.func (.func 27) #[] #[]) #[.int .u8 r.kind] a (fun (d : Value) (e : Mem) => ∃ (q : ByteArray), d = .string q ∧ Ct Tryz.prog (.func (.func 28) #[] #[]) #[.int .u8 r.kind, .int .u8 r.what] e fun (f : Value) (g : Mem) => ∃ (h : Option Addr) (i j : Nat) (k : Bool), f = .tuple #[.slice h i j, .bool k] ∧ (Rf E1 ∧ Rf (none : Option Nat) ∧ Rf (SV.ptr 0 0) ∧ (1 : Nat) = 1 ∧ Rf (SV.ptr 2 0) ∧ Rf (SV.v (.slice h i j)) ∧ Rf (SV.v (.int .i64 (i : Int))) ∧ WI 0 [.string q] [.int .i64 0, .int .i64 0, .int .i64 0, .int .i64 r.p3, .int .i64 r.p4, .int .i64 r.p5, .int .i64 r.p6, .int .i64 r.p7, .int .i64 r.p8, .int .i64 r.p9]) ∧ ∀ (l : Mem), Mem → g.le l → ∀ (x m : List Value) (o : Int), WI o x m → Br (decide (o < (i : Int))) (0 ≤ o ∧ o < (i : Int) ∧ h.isSome = true ∧ ∃ (s : Int), atI l h (o.toNat * 1 + 0) = some (.int .i64 s) ∧ Br (s == 1) (Ct Tryz.prog (.func (.func 53) #[] #[]) #[.int .u8 r.what] l (fun (t : Value) (u : Mem) => ∃ (w : ByteArray), t = .string w ∧ x.length = x.length * 1 ∧ x.length + 1 ≤ 9223372036854775807 ∧ (x.length + 1) * 16 ≤ 140737488355328 ∧ Wr .i64 (o + 1) fun (y : Int) => Rf E1 ∧ Rf (none : Option Nat) ∧ Rf (SV.ptr 0 0) ∧ x.length + 1 = List.length (x ++ [.string w]) ∧ Rf (SV.ptr 2 0) ∧ Rf (SV.v (.slice h i j)) ∧ Rf (SV.v (.int .i64 (i : Int))) ∧ WI y (x ++ [.string w]) m ∧ Int.toNat (((tagsR r).length : Int) - y) < Int.toNat (((tagsR r).length : Int) - o))) (Br (s == 2) (Ct Tryz.prog (.func (.func 54) #[] #[]) #[.string r.name] l (fun (t : Value) (u : Mem) => ∃ (w : Bool), t = .bool w ∧ Br w (x.length = x.length * 1 ∧ x.length + 1 ≤ 9223372036854775807 ∧ (x.length + 1) * 16 ≤ 140737488355328 ∧ Wr .i64 (o + 1) fun (y : Int) => Rf E1 ∧ Rf (none : Option Nat) ∧ Rf (SV.ptr 0 0) ∧ x.length + 1 = List.length (x ++ [.string r.name]) ∧ Rf (SV.ptr 2 0) ∧ Rf (SV.v (.slice h i j)) ∧ Rf (SV.v (.int .i64 (i : Int))) ∧ WI y (x ++ [.string r.name]) m ∧ Int.toNat (((tagsR r).length : Int) - y) < Int.toNat (((tagsR r).length : Int) - o)) (Br (s == 2) (Ct Tryz.prog (.func (.func 55) #[] #[]) #[.string r.name] u (fun (y : Value) (z : Mem) => ∃ (q1 : ByteArray), y = .string q1 ∧ x.length = x.length * 1 ∧ x.length + 1 ≤ 9223372036854775807 ∧ (x.length + 1) * 16 ≤ 140737488355328 ∧ Wr .i64 (o + 1) fun (c1 : Int) => Rf E1 ∧ Rf (none : Option Nat) ∧ Rf (SV.ptr 0 0) ∧ x.length + 1 = List.length (x ++ [.string q1]) ∧ Rf (SV.ptr 2 0) ∧ Rf (SV.v (.slice h i j)) ∧ Rf (SV.v (.int .i64 (i : Int))) ∧ WI c1 (x ++ [.string q1]) m ∧ Int.toNat (((tagsR r).length : Int) - c1) < Int.toNat (((tagsR r).length : Int) - o))) (Br (s == 10) (Ct Tryz.prog (.func (.func 56) #[] #[]) #[.int .i64 r.val, .int .i64 10] u (fun (y : Value) (z : Mem) => ∃ (q1 : ByteArray), y = .string q1 ∧ x.length = x.length * 1 ∧ x.length + 1 ≤ 9223372036854775807 ∧ (x.length + 1) * 16 ≤ 140737488355328 ∧ Wr .i64 (o + 1) fun (c1 : Int) => Rf E1 ∧ Rf (none : Option Nat) ∧ Rf (SV.ptr 0 0) ∧ x.length + 1 = List.length (x ++ [.string q1]) ∧ Rf (SV.ptr 2 0) ∧ Rf (SV.v (.slice h i j)) ∧ Rf (SV.v (.int .i64 (i : Int))) ∧ WI c1 (x ++ [.string q1]) m ∧ Int.toNat (((tagsR r).length : Int) - c1) < Int.toNat (((tagsR r).length : Int) - o))) (Br (s == 11) (∃ (y : List UInt8), y.length = n ∧ (p = none → n = 0) ∧ (∀ (z : Nat) (b1 : UInt8), y[z]? = some b1 → atI u p z = some (.int .u8 (b1.toNat : Int))) ∧ Ct Tryz.prog (.func (.func 55) #[] #[]) #[.string ⟨y.toArray⟩] u fun (z : Value) (I1 : Mem) => ∃ (q1 : ByteArray), z = .string q1 ∧ x.length = x.length * 1 ∧ x.length + 1 ≤ 9223372036854775807 ∧ (x.length + 1) * 16 ≤ 140737488355328 ∧ Wr .i64 (o + 1) fun (c1 : Int) => Rf E1 ∧ Rf (none : Option Nat) ∧ Rf (SV.ptr 0 0) ∧ x.length + 1 = List.length (x ++ [.string q1]) ∧ Rf (SV.ptr 2 0) ∧ Rf (SV.v (.slice h i j)) ∧ Rf (SV.v (.int .i64 (i : Int))) ∧ WI c1 (x ++ [.string q1]) m ∧ Int.toNat (((tagsR r).length : Int) - c1) < Int.toNat (((tagsR r).length : Int) - o)) (0 ≤ s ∧ s < 10 ∧ ∃ (y : Int), m[0 + s.toNat * 1 + 0]? = some (.int .i64 y) ∧ Ct Tryz.prog (.func (.func 57) #[] #[]) #[.int .i64 y] u fun (z : Value) (I1 : Mem) => ∃ (q1 : ByteArray), z = .string q1 ∧ x.length = x.length * 1 ∧ x.length + 1 ≤ 9223372036854775807 ∧ (x.length + 1) * 16 ≤ 140737488355328 ∧ Wr .i64 (o + 1) fun (c1 : Int) => Rf E1 ∧ Rf (none : Option Nat) ∧ Rf (SV.ptr 0 0) ∧ x.length + 1 = List.length (x ++ [.string q1]) ∧ Rf (SV.ptr 2 0) ∧ Rf (SV.v (.slice h i j)) ∧ Rf (SV.v (.int .i64 (i : Int))) ∧ WI c1 (x ++ [.string q1]) m ∧ Int.toNat (((tagsR r).length : Int) - c1) < Int.toNat (((tagsR r).length : Int) - o))))))) (Br (s == 2) (Ct Tryz.prog (.func (.func 55) #[] #[]) #[.string r.name] l (fun (t : Value) (u : Mem) => ∃ (w : ByteArray), t = .string w ∧ x.length = x.length * 1 ∧ x.length + 1 ≤ 9223372036854775807 ∧ (x.length + 1) * 16 ≤ 140737488355328 ∧ Wr .i64 (o + 1) fun (y : Int) => Rf E1 ∧ Rf (none : Option Nat) ∧ Rf (SV.ptr 0 0) ∧ x.length + 1 = List.length (x ++ [.string w]) ∧ Rf (SV.ptr 2 0) ∧ Rf (SV.v (.slice h i j)) ∧ Rf (SV.v (.int .i64 (i : Int))) ∧ WI y (x ++ [.string w]) m ∧ Int.toNat (((tagsR r).length : Int) - y) < Int.toNat (((tagsR r).length : Int) - o))) (Br (s == 10) (Ct Tryz.prog (.func (.func 56) #[] #[]) #[.int .i64 r.val, .int .i64 10] l (fun (t : Value) (u : Mem) => ∃ (w : ByteArray), t = .string w ∧ x.length = x.length * 1 ∧ x.length + 1 ≤ 9223372036854775807 ∧ (x.length + 1) * 16 ≤ 140737488355328 ∧ Wr .i64 (o + 1) fun (y : Int) => Rf E1 ∧ Rf (none : Option Nat) ∧ Rf (SV.ptr 0 0) ∧ x.length + 1 = List.length (x ++ [.string w]) ∧ Rf (SV.ptr 2 0) ∧ Rf (SV.v (.slice h i j)) ∧ Rf (SV.v (.int .i64 (i : Int))) ∧ WI y (x ++ [.string w]) m ∧ Int.toNat (((tagsR r).length : Int) - y) < Int.toNat (((tagsR r).length : Int) - o))) (Br (s == 11) (∃ (t : List UInt8), t.length = n ∧ (p = none → n = 0) ∧ (∀ (u : Nat) (w : UInt8), t[u]? = some w → atI l p u = some (.int .u8 (w.toNat : Int))) ∧ Ct Tryz.prog (.func (.func 55) #[] #[]) #[.string ⟨t.toArray⟩] l fun (u : Value) (w : Mem) => ∃ (y : ByteArray), u = .string y ∧ x.length = x.length * 1 ∧ x.length + 1 ≤ 9223372036854775807 ∧ (x.length + 1) * 16 ≤ 140737488355328 ∧ Wr .i64 (o + 1) fun (z : Int) => Rf E1 ∧ Rf (none : Option Nat) ∧ Rf (SV.ptr 0 0) ∧ x.length + 1 = List.length (x ++ [.string y]) ∧ Rf (SV.ptr 2 0) ∧ Rf (SV.v (.slice h i j)) ∧ Rf (SV.v (.int .i64 (i : Int))) ∧ WI z (x ++ [.string y]) m ∧ Int.toNat (((tagsR r).length : Int) - z) < Int.toNat (((tagsR r).length : Int) - o)) (0 ≤ s ∧ s < 10 ∧ ∃ (t : Int), m[0 + s.toNat * 1 + 0]? = some (.int .i64 t) ∧ Ct Tryz.prog (.func (.func 57) #[] #[]) #[.int .i64 t] l fun (u : Value) (w : Mem) => ∃ (y : ByteArray), u = .string y ∧ x.length = x.length * 1 ∧ x.length + 1 ≤ 9223372036854775807 ∧ (x.length + 1) * 16 ≤ 140737488355328 ∧ Wr .i64 (o + 1) fun (z : Int) => Rf E1 ∧ Rf (none : Option Nat) ∧ Rf (SV.ptr 0 0) ∧ x.length + 1 = List.length (x ++ [.string y]) ∧ Rf (SV.ptr 2 0) ∧ Rf (SV.v (.slice h i j)) ∧ Rf (SV.v (.int .i64 (i : Int))) ∧ WI z (x ++ [.string y]) m ∧ Int.toNat (((tagsR r).length : Int) - z) < Int.toNat (((tagsR r).length : Int) - o))))))) (∀ (s : Option Addr) (t : Nat) (u : Mem), l.le u → RowM u s t 1 x → Ct Tryz.prog (.func (.func 58) #[] #[]) #[.slice s x.length t, .string ⟨#[32]⟩] u fun (w : Value) (y : Mem) => ∃ (z : ByteArray), w = .string z ∧ Value.tuple #[.string z, .int .i64 0] = Q)))) (by kernel_rfl) ?_
  intro E1
  refine (ct52 r hr hnm _ I hy' hfl).mono fun v I1 l1 hv => ⟨_, hv, Br.mk (fun h => ?_) (fun h => ?_)⟩
  · have h : rightR r = false := by simpa using h
    rw [hQ, h]; rfl
  have hR : rightR r = true := by simpa using h
  obtain ⟨htl, hn1, hf1, _⟩ := right_tag hR
  have hTL := tag_len r.kind r.what
  have htg : (tagL r.kind r.what).getD [] = tagsR r := rfl
  rw [htg] at hTL
  have hwl : (wordsL r).length = 1 + (tagsR r).length := by simp only [wordsL, List.length_cons, List.length_map]; omega
  refine (ct27 r.kind hr.kind I1).mono fun v I2 l2 hv => ⟨_, hv, (ct28 r.kind r.what I2).mono fun v I3 l3 ⟨ta, tn, tc, hv, hsl, hle, hcm, hnew⟩ => ⟨ta, tn, tc, _, hv, ⟨rfl, rfl, rfl, rfl, rfl, rfl, rfl, ?_⟩, fun J G' lJ xs ns j hj => ?_⟩⟩
  · rw [hWI]; exact ⟨rfl, by omega, by omega, rfl⟩
  have hGJ := hG.mono (Mem.le_trans l1 (Mem.le_trans l2 (Mem.le_trans l3 lJ)))
  have hlJ := Mem.le_trans l1 (Mem.le_trans l2 (Mem.le_trans l3 lJ))
  rw [htg] at hsl
  have htn := hsl.numLen
  rw [hWI] at hj
  obtain ⟨hns, h0, h1, hxs⟩ := hj
  have hlen : xs.length = 1 + j.toNat := by rw [hxs, strs, List.length_map, List.length_take]; omega
  refine Br.mk (fun h2 => ?_) (fun h2 => ?_)
  · have h2 := of_decide_eq_true h2
    obtain ⟨t, ht, hcell⟩ := (hsl.mono lJ).intAt (i := j) h0 h2
    have htr := hTL.2 t (List.mem_of_getElem? ht)
    have key : ∀ u : ByteArray, u = strT (fieldT r t) → WI (j + 1) (xs ++ [.string u]) ns := fun u hu => by
      rw [hWI]
      refine ⟨hns, by omega, by omega, ?_⟩
      have hw : (wordsL r)[1 + j.toNat]? = some (strT (fieldT r t)) := by
        rw [wordsL, Nat.add_comm, List.getElem?_cons_succ, List.getElem?_map, ht]; rfl
      rw [show 1 + (j + 1).toNat = 1 + j.toNat + 1 by omega, List.take_add_one, hw, hxs, hu]
      simp [strs]
    have mk : ∀ {A B C D E F : Prop} {u : ByteArray} , u = strT (fieldT r t) → A → B → C → D → E → F → (xs.length = xs.length * 1 ∧ xs.length + 1 ≤ 9223372036854775807 ∧ (xs.length + 1) * 16 ≤ 140737488355328 ∧ Wr .i64 (j + 1) fun w => A ∧ B ∧ C ∧ xs.length + 1 = (xs ++ [Value.string u]).length ∧ D ∧ E ∧ F ∧ WI w (xs ++ [.string u]) ns ∧ (((tagsR r).length : Int) - w).toNat < (((tagsR r).length : Int) - j).toNat) :=
      fun hu a b c d e f => ⟨by omega, by omega, by omega, wr_i64 (by omega) (by omega) ⟨a, b, c, by simp, d, e, f, key _ hu, by omega⟩⟩
    refine ⟨h0, h2, hsl.isSome (by omega), t, hcell, Br.mk (fun e1 => ?_) (fun e1 => ?_)⟩
    · have e1 : t = 1 := by simpa using e1
      refine (ct53 r.what hr.what J).mono fun v J2 lJ2 hv => ⟨_, hv, mk (by rw [fieldT, if_pos e1]; rfl) rfl rfl rfl rfl rfl rfl⟩
    have e1 : t ≠ 1 := by simpa using e1
    have d10 : t = 10 → fieldT r t = Lib.itoa r.val := fun e => by rw [fieldT, if_neg (by omega), if_neg (by omega), if_pos e]
    have d11 : t = 11 → fieldT r t = wordT r.fed := fun e => by rw [fieldT, if_neg (by omega), if_neg (by omega), if_neg (by omega), if_pos e]
    have dN : t ≠ 2 → t ≠ 10 → t ≠ 11 → fieldT r t = Lib.itoa (numR r t) := fun h3 h4 h5 => by rw [fieldT, if_neg e1, if_neg h3, if_neg h4, if_neg h5]
    obtain ⟨us, hus, hnil, hat⟩ : ∃ us : List UInt8, us = u8s r.fed ∧ (p = none → n = 0) ∧ ∀ (q : Nat) (b : UInt8), us[q]? = some b → atI J p q = some (Value.int IntKind.u8 ↑b.toNat) := ⟨_, rfl, (u8s_at hfb (hp.mono hlJ)).2⟩
    refine Br.mk (fun e2 => ?_) (fun e2 => ?_)
    · have e2 : t = 2 := by simpa using e2
      refine (ct54 r.name J).mono fun v J2 lJ2 hv => ⟨_, hv, Br.mk (fun e3 => ?_) (fun e3 => Br.mk (fun _ => ?_) (fun h => absurd (by simp [e2]) (Bool.eq_false_iff.1 h)))⟩
      · exact mk (by rw [fieldT, if_neg e1, if_pos e2, if_pos e3]; rfl) rfl rfl rfl rfl rfl rfl
      · refine (ct55 r.name (by omega) J2).mono fun v J3 lJ3 hv => ⟨_, hv, mk (by rw [fieldT, if_neg e1, if_pos e2, if_neg (by rw [e3]; decide)]; rfl) rfl rfl rfl rfl rfl rfl⟩
    have e2 : t ≠ 2 := by simpa using e2
    refine Br.f (by simpa using e2) (Br.mk (fun e3 => ?_) (fun e3 => ?_))
    · have e3 : t = 10 := by simpa using e3
      exact (ct56 r.val hr.val J hGJ).mono fun v J2 lJ2 hv => ⟨_, hv, mk (by rw [d10 e3]) rfl rfl rfl rfl rfl rfl⟩
    have e3 : t ≠ 10 := by simpa using e3
    refine Br.mk (fun e4 => ?_) (fun e4 => ?_)
    · have e4 : t = 11 := by simpa using e4
      have hsz : (⟨us.toArray⟩ : ByteArray).size = r.fed.length := by show us.toArray.size = _; rw [hus]; simp [u8s]
      refine ⟨us, by rw [hus, u8s, List.length_map]; exact hp.numLen.symm, hnil, hat, (ct55 ⟨us.toArray⟩ (by omega) J).mono fun v J2 lJ2 hv => ⟨_, hv, mk (by rw [d11 e4, hus]; exact congrArg (fun z => (⟨(wordT z).toArray⟩ : ByteArray)) (strL_strB hfb)) rfl rfl rfl rfl rfl rfl⟩⟩
    have e4 : t ≠ 11 := by simpa using e4
    have hnum : ns[0 + t.toNat * 1 + 0]? = some (Value.int IntKind.i64 (numR r t)) := by
      rw [hns]
      rcases (by omega : t = 3 ∨ t = 4 ∨ t = 5 ∨ t = 6 ∨ t = 7 ∨ t = 8 ∨ t = 9) with rfl | rfl | rfl | rfl | rfl | rfl | rfl <;> rfl
    exact ⟨by omega, by omega, _, hnum, (ct57 _ (num_ok hr t) J hGJ).mono fun v J2 lJ2 hv => ⟨_, hv, mk (by rw [dN e2 e3 e4]) rfl rfl rfl rfl rfl rfl⟩⟩
  · have h2 := of_decide_eq_false h2
    intro o cp J2 lJ2 hrow
    have hx : xs = strs (wordsL r) := by rw [hxs, List.take_of_length_le (by omega)]
    have hwb := words_len hr hR
    rw [hx] at hrow ⊢
    have hl2 : (strs (wordsL r)).length = (wordsL r).length := by simp [strs]
    rw [hl2]
    exact (ct58 _ o cp J2 hrow (by have := hwb.2; rw [wordsB] at this; omega) (by omega)).mono fun v J3 lJ3 hv => ⟨_, hv, by rw [hQ, hR]; rfl⟩
open Go Go.Proofs Go.SE Go.RowKit
set_option linter.unusedVariables false
set_option maxRecDepth 100000
def zeroEn : En := ⟨0, 0, 0, []⟩
/-- The frame of a request. -/
def askE (slot : Int) (r : Rq) : En × Int := if rightR r then (if cleanE ⟨1, slot, 0, writeR r⟩ then (⟨1, slot, 0, writeR r⟩, 0) else (zeroEn, 410)) else (zeroEn, 412)
theorem ct20 (slot : Int) (hsl : i64R slot) (r : Rq) (hr : okRq r) (hnm : r.name.size ≤ 1000000) (y : Value) (I : Mem) (hy : BySl I y r.fed) (hfl : r.fed.length ≤ 1000000) :
    Ct Tryz.prog (fnv 20) #[.int .i64 slot, .agg (rqV r y).toArray] I (fun v I' => ∃ z, v = .tuple #[.agg (enV (askE slot r).1 z).toArray, .int .i64 (askE slot r).2] ∧ BySl I' z (askE slot r).1.bs) := by
  have hy' := hy
  obtain ⟨p, n, c, rfl, hp, hpc, hpm⟩ := hy
  obtain ⟨Q, hQ⟩ : ∃ q : Value → Mem → Prop, q = fun v I' => ∃ z, v = .tuple #[.agg (enV (askE slot r).1 z).toArray, .int .i64 (askE slot r).2] ∧ BySl I' z (askE slot r).1.bs := ⟨_, rfl⟩
  rw [← hQ]
  refine viaR (ct_via (A := { }) Tryz.func20 rfl Tryz.call20 rfl rfl) (Ct Tryz.prog (.func (.func 51) #[] #[]) #[.agg #[.int .u8 r.kind, .int .u8 r.what, .string r.name, .int .i64 r.p3, .int .i64 r.p4, .int .i64 r.p5, .int .i64 r.p6, .int .i64 r.p7, .int .i64 r.p8, .int .i64 r.p9, .int .i64 r.val, .slice p n c]] I fun v a => ∃ b d e f, v = .tuple #[.slice b d e, .int .i64 f] ∧ Br (f != 0) (Q (.tuple #[.agg #[.int .u8 0, .int .i64 0, .int .i64 0, .slice none 0 0], .int .i64 412]) a) (Ct Tryz.prog (.func (.func 32) #[] #[]) #[.agg #[.int .u8 1, .int .i64 slot, .int .i64 0, .slice b d e]] a (fun g h => ∃ i, g = .bool i ∧ Br (!i) (Q (.tuple #[.agg #[.int .u8 0, .int .i64 0, .int .i64 0, .slice none 0 0], .int .i64 410]) h) (Q (.tuple #[.agg #[.int .u8 1, .int .i64 slot, .int .i64 0, .slice b d e], .int .i64 0]) h)))) (by kernel_rfl) ?_
  refine (ct51 r hr hnm _ I hy' hfl).mono fun v I1 l1 ⟨a, m, d, hv, hs, h1, h2⟩ => ⟨a, m, d, _, hv, Br.mk (fun h => ?_) (fun h => ?_)⟩
  · have h : rightR r = false := by
      cases hR : rightR r with
      | false => rfl
      | true => rw [hR] at h; exact absurd h (by decide)
    have e : askE slot r = (zeroEn, 412) := by rw [askE, h]; rfl
    rw [hQ, e]
    exact ⟨_, rfl, bysl_nil _⟩
  have hR : rightR r = true := by
    cases hR : rightR r with
    | true => rfl
    | false => rw [hR] at h; exact absurd h (by decide)
  rw [hR] at hs
  simp only [if_true] at hs
  have hb := write_ok hr hR
  refine (ct32 ⟨1, slot, 0, writeR r⟩ (.slice a m d) I1 ⟨a, m, d, rfl, hs, h1, h2⟩ hb).mono fun v I2 l2 hv => ⟨_, hv, Br.mk (fun h => ?_) (fun h => ?_)⟩
  · have hc : cleanE ⟨1, slot, 0, writeR r⟩ = false := by simpa using h
    have e : askE slot r = (zeroEn, 410) := by rw [askE, hR, hc]; rfl
    rw [hQ, e]
    exact ⟨_, rfl, bysl_nil _⟩
  · have hc : cleanE ⟨1, slot, 0, writeR r⟩ = true := by simpa using h
    have e : askE slot r = (⟨1, slot, 0, writeR r⟩, 0) := by rw [askE, hR, hc]; rfl
    rw [hQ, e]
    exact ⟨_, rfl, a, m, d, rfl, hs.mono l2, h1, h2⟩
/-- Closures: what is captured is handed on. -/
theorem cts_cap {P : Program} {f : FuncId} {first args cap : List SV} {H : List Ent} {I : Mem} {post : SV → List Ent → Mem → Prop} (h : CtS P (.v (fnv f)) (first ++ args ++ cap) H I post) : CtS P (.fn (.func f) first cap) args H I post := by
  intro e hp hO W h1 h2 h3
  have h := h e hp hO W h1 h2 h3
  simp only [den, denL_eq] at h ⊢
  unfold CallV fnv at *
  rw [run_semV_func] at *
  simpa using h
def nextW : List ByteArray × Bool → ByteArray × (List ByteArray × Bool)
  | ([], _) => (⟨#[]⟩, ([], false))
  | (w :: r, b) => (w, (r, b))
def WsL (I : Mem) (v : Value) (ws : List ByteArray) : Prop := ∃ p n c, v = .slice p n c ∧ SlM I p n 1 (strs ws) ∧ n ≤ c ∧ c ≤ maxLen
theorem WsL.mono {I J : Mem} {v : Value} {ws : List ByteArray} (h : WsL I v ws) (hle : I.le J) : WsL J v ws := by
  obtain ⟨p, n, c, h1, h2, h3⟩ := h
  exact ⟨p, n, c, h1, h2.mono hle, h3⟩
theorem sl_drop {I : Mem} {a : Option Addr} {n c k : Nat} {xs : List Value} (h : SlM I a n 1 xs) (hk : k ≤ n) (hc : n ≤ c) : SlM I (sladdr a c k 1) (n - k) 1 (xs.drop k) := by
  have hl := h.len
  refine ⟨by rw [List.length_drop]; omega, fun hs => ?_, Nat.le_trans (by omega) h.max, fun j v hj => ?_⟩
  · unfold sladdr at hs
    split at hs
    · omega
    · cases a with
      | none => have := h.nil rfl; omega
      | some ad => cases hs
  · rw [List.getElem?_drop] at hj
    have hlt := (List.getElem?_eq_some_iff.1 hj).1
    have hat := h.at_ _ _ hj
    unfold sladdr
    rw [if_neg (by omega)]
    cases a with
    | none => have := h.nil rfl; omega
    | some ad =>
      simp only [Option.map_some, Nat.mul_one]
      simp only [atI, Option.bind_some] at hat ⊢
      rw [add_add]
      exact hat
def wsE (v : Value) (k : Nat) : Ent := ⟨.cells [.v v] 64, some k⟩
def okE (b : Bool) (k : Nat) : Ent := ⟨.cells [.v (.bool b)] 4, some k⟩
theorem cs157 (ws : List ByteArray) (b : Bool) (k1 k2 : Nat) (v : Value) (I : Mem) (h : WsL I v ws) :
    CtS Tryz.prog (.v (fnv 157)) [.ptr 0 0, .ptr 1 0] [wsE v k1, okE b k2] I (fun sv H' I' => ∃ v', sv = .v (.string (nextW (ws, b)).1) ∧ H' = [wsE v' k1, okE (nextW (ws, b)).2.2 k2] ∧ WsL I' v' (nextW (ws, b)).2.1) := by
  obtain ⟨p, n, c, rfl, hp, hpc, hpm⟩ := h
  obtain ⟨Q, hQ⟩ : ∃ q : SV → List Ent → Mem → Prop, q = fun sv H' I' => ∃ v', sv = .v (.string (nextW (ws, b)).1) ∧ H' = [wsE v' k1, okE (nextW (ws, b)).2.2 k2] ∧ WsL I' v' (nextW (ws, b)).2.1 := ⟨_, rfl⟩
  rw [← hQ]
  refine viaR (ctS_via (A := { }) Tryz.func157 rfl Tryz.call157 [0, 1] rfl) (Br ((n : Int) == 0) (Q (.v (.string ⟨#[]⟩)) [⟨.cells [.v (.slice p n c)] 64, some k1⟩, ⟨.cells [.v (.bool false)] 4, some k2⟩] I) ((0 : Int) ≤ 0 ∧ 0 < (n : Int) ∧ p.isSome = true ∧ ∃ q, atI I p 0 = some (.string q) ∧ (0 : Int) ≤ 1 ∧ 1 ≤ (n : Int) ∧ Q (.v (.string q)) [⟨.cells [.v (.slice (sladdr p c 1 1) (n - 1) (c - 1))] 64, some k1⟩, ⟨.cells [.v (.bool b)] 4, some k2⟩] I)) (by kernel_rfl) ?_
  have hl : (strs ws).length = n := by rw [hp.len, Nat.mul_one]
  refine Br.mk (fun h => ?_) (fun h => ?_)
  · have h : n = 0 := by simpa using h
    have hw : ws = [] := by
      rw [h] at hl
      simpa [strs] using hl
    subst hw
    rw [hQ]
    exact ⟨.slice p n c, rfl, rfl, p, n, c, rfl, hp, hpc, hpm⟩
  · have h : n ≠ 0 := by simpa using h
    cases ws with
    | nil => exact absurd hl (by simp [strs]; omega)
    | cons w r =>
      have h0 : atI I p 0 = some (.string w) := hp.at_ 0 _ rfl
      refine ⟨by omega, by omega, hp.isSome (by omega), w, h0, by omega, by omega, ?_⟩
      rw [hQ]
      exact ⟨_, rfl, rfl, _, _, _, rfl, sl_drop (k := 1) hp (by omega) hpc, by omega, by omega⟩
def numW (s : List ByteArray × Bool) : Int × (List ByteArray × Bool) := ((numP (tx (nextW s).1)).1, ((nextW s).2.1, (nextW s).2.2 && (numP (tx (nextW s).1)).2))
def nxE (k : Nat) : Ent := ⟨.cells [.fn (.func 157) [] [.ptr 0 0, .ptr 1 0]] 122, some k⟩
theorem next_size {ws : List ByteArray} {b : Bool} (h : ∀ w ∈ ws, w.size ≤ 1000000) : (nextW (ws, b)).1.size ≤ 1000000 ∧ ∀ w ∈ (nextW (ws, b)).2.1, w.size ≤ 1000000 := by
  cases ws with
  | nil => exact ⟨Nat.zero_le _, fun w hw => by cases hw⟩
  | cons w r => exact ⟨h w (by simp), fun x hx => h x (List.mem_cons_of_mem _ hx)⟩
theorem cs158 (ws : List ByteArray) (hws : ∀ w ∈ ws, w.size ≤ 1000000) (b : Bool) (k1 k2 k3 : Nat) (v : Value) (I : Mem) (hG : Globs I) (h : WsL I v ws) :
    CtS Tryz.prog (.v (fnv 158)) [.ptr 2 0, .ptr 1 0] [wsE v k1, okE b k2, nxE k3] I (fun sv H' I' => ∃ v', sv = .v (.int .i64 (numW (ws, b)).1) ∧ H' = [wsE v' k1, okE (numW (ws, b)).2.2 k2, nxE k3] ∧ WsL I' v' (numW (ws, b)).2.1) := by
  obtain ⟨Q, hQ⟩ : ∃ q : SV → List Ent → Mem → Prop, q = fun sv H' I' => ∃ v', sv = .v (.int .i64 (numW (ws, b)).1) ∧ H' = [wsE v' k1, okE (numW (ws, b)).2.2 k2, nxE k3] ∧ WsL I' v' (numW (ws, b)).2.1 := ⟨_, rfl⟩
  rw [← hQ]
  refine viaR (ctS_via (A := { calls := [(7, .lend [0, 1] (.sh .str) [.cells [.sh .sl] 64, .cells [.sh .bool] 4])] }) Tryz.func158 rfl Tryz.call158 [0, 1, 2] rfl) (CtS Tryz.prog (.fn (.func 157) [] [.ptr 0 0, .ptr 1 0]) [] [⟨.cells [.v v] 64, some k1⟩, ⟨.cells [.v (.bool b)] 4, some k2⟩] I fun s H a => ∃ q c n d e, s = .v (.string q) ∧ H = [⟨.cells [.v (.slice c n d)] 64, some k1⟩, ⟨.cells [.v (.bool e)] 4, some k2⟩] ∧ Ct Tryz.prog (.func (.func 159) #[] #[]) #[.string q, .int .i64 10, .int .i64 64] a fun f g => ∃ i x, f = .tuple #[.int .i64 i, x] ∧ Br e ((x = .nilIface ∨ ∃ t p, x = .iface t p) ∧ Q (.v (.int .i64 i)) [⟨.cells [.v (.slice c n d)] 64, some k1⟩, ⟨.cells [.v (.bool (isNilI x))] 4, some k2⟩, ⟨.cells [.fn (.func 157) [] [.ptr 0 0, .ptr 1 0]] 122, some k3⟩] g) (Q (.v (.int .i64 i)) [⟨.cells [.v (.slice c n d)] 64, some k1⟩, ⟨.cells [.v (.bool false)] 4, some k2⟩, ⟨.cells [.fn (.func 157) [] [.ptr 0 0, .ptr 1 0]] 122, some k3⟩] g)) (by kernel_rfl) ?_
  refine (cts_cap (first := []) (args := []) (cap := [.ptr 0 0, .ptr 1 0]) (cs157 ws b k1 k2 v I h)).mono fun sv H' I1 l1 ⟨v', hs, hH, hw⟩ => ?_
  obtain ⟨p, n, c, rfl, hp, hpc, hpm⟩ := hw
  have hsz := next_size (b := b) hws
  refine ⟨_, _, _, _, _, hs, hH, (ct159 _ hsz.1 I1 (hG.mono l1)).mono fun u I2 l2 ⟨e, hu, he⟩ => ⟨_, _, hu, ?_⟩⟩
  have hb : (numW (ws, b)).2.2 = ((nextW (ws, b)).2.2 && (numP (tx (nextW (ws, b)).1)).2) := rfl
  have hW : WsL I2 (.slice p n c) (numW (ws, b)).2.1 := ⟨p, n, c, rfl, hp.mono l2, hpc, hpm⟩
  refine Br.mk (fun h1 => ?_) (fun h1 => ?_)
  · have hn : isNilI e = (numP (tx (nextW (ws, b)).1)).2 ∧ (e = .nilIface ∨ ∃ t p, e = .iface t p) := by
      unfold errV at he
      cases hc : (numP (tx (nextW (ws, b)).1)).2 with
      | true => rw [hc] at he; simp only [if_true] at he; subst he; exact ⟨rfl, .inl rfl⟩
      | false =>
        rw [hc] at he
        simp only [Bool.false_eq_true, if_false] at he
        obtain ⟨t, q, rfl⟩ := he
        exact ⟨rfl, .inr ⟨_, _, rfl⟩⟩
    refine ⟨hn.2, ?_⟩
    rw [hQ]
    exact ⟨_, rfl, by rw [hb, h1, Bool.true_and, hn.1]; rfl, hW⟩
  · rw [hQ]
    exact ⟨_, rfl, by rw [hb, h1, Bool.false_and]; rfl, hW⟩
open Go Go.Proofs Go.SE Go.RowKit
set_option linter.unusedVariables false
set_option maxRecDepth 100000
def setN (r : Rq) (t n : Int) : Rq := if t = 3 then { r with p3 := n } else if t = 4 then { r with p4 := n } else if t = 5 then { r with p5 := n } else if t = 6 then { r with p6 := n } else if t = 7 then { r with p7 := n } else if t = 8 then { r with p8 := n } else { r with p9 := n }
abbrev WS := List ByteArray × Bool
/-- What a word sets. -/
def stepW (t : Int) (r : Rq) (w : WS) : Rq × WS :=
  if t = 1 then (r, w)
  else if t = 2 then (if nameB (strL (nextW w).1) then ({ r with name := (nextW w).1 }, (nextW w).2) else ({ r with name := strB ((unwordT (tx (nextW w).1)).getD []) }, ((nextW w).2.1, (nextW w).2.2 && (unwordT (tx (nextW w).1)).isSome)))
  else if t = 10 then ({ r with val := (numW w).1 }, (numW w).2)
  else if t = 11 then ({ r with fed := (unwordT (tx (nextW w).1)).getD [] }, ((nextW w).2.1, (nextW w).2.2 && (unwordT (tx (nextW w).1)).isSome))
  else (setN r t (numW w).1, (numW w).2)
def runW : List Int → Rq → WS → Rq × WS
  | [], r, w => (r, w)
  | t :: ts, r, w => if w.2 = false then (r, w) else runW ts (stepW t r w).1 (stepW t r w).2
def askK (ws : List ByteArray) : Int := kindS nameS (nextW (ws, true)).1
def askQ (ws : List ByteArray) : Int := if askK ws = 7 then kindS askS (nextW (nextW (ws, true)).2).1 else 0
def askW1 (ws : List ByteArray) : WS := if askK ws = 7 then (nextW (nextW (ws, true)).2).2 else (nextW (ws, true)).2
/-- The request that words are those of. -/
def askW (ws : List ByteArray) : Rq × Bool :=
  let q := runW ((tagL (askK ws) (askQ ws)).getD []) { zeroRq with kind := askK ws, what := askQ ws } ((askW1 ws).1, (askW1 ws).2 && (tagL (askK ws) (askQ ws)).isSome)
  (q.1, q.2.2 && q.2.1.isEmpty)
def AskI (ws : List ByteArray) (I : Mem) (j : Int) (wv : Value) (b : Bool) (cs : List Value) : Prop :=
  ∃ (r : Rq) (y : Value) (l : List ByteArray), 0 ≤ j ∧ cs = rqV r y ∧ BySl I y r.fed ∧ WsL I wv l ∧ (∀ w ∈ l, w.size ≤ 1000000) ∧
    askW ws = (let q := runW (((tagL (askK ws) (askQ ws)).getD []).drop j.toNat) r (l, b); (q.1, q.2.2 && q.2.1.isEmpty))
/-- What stands behind the first words. -/
def FirstI (ws : List ByteArray) (I : Mem) (wv : Value) (b : Bool) (k q : Int) : Prop :=
  ∃ l : List ByteArray, k = askK ws ∧ q = askQ ws ∧ WsL I wv l ∧ (∀ w ∈ l, w.size ≤ 1000000) ∧ askW1 ws = (l, b)
theorem runW_off (ts : List Int) (r : Rq) (l : List ByteArray) : runW ts r (l, false) = (r, (l, false)) := by
  cases ts <;> rfl
theorem runW_on (t : Int) (ts : List Int) (r : Rq) (l : List ByteArray) : runW (t :: ts) r (l, true) = runW ts (stepW t r (l, true)).1 (stepW t r (l, true)).2 := rfl
theorem askL_rng (w : Int) : ∀ t ∈ (askL w).getD [], 1 ≤ t ∧ t ≤ 11 := by
  unfold askL
  intro t ht
  repeat' split at ht
  all_goals simp at ht
  all_goals omega
theorem tagL_rng (k w : Int) : ∀ t ∈ (tagL k w).getD [], 1 ≤ t ∧ t ≤ 11 := by
  unfold tagL
  intro t ht
  have ha := askL_rng w
  repeat' split at ht
  all_goals first
    | (simp at ht; done)
    | (simp at ht; omega)
    | (cases hq : askL w with
       | none => rw [hq] at ht; simp at ht
       | some q =>
         rw [hq] at ht ha
         simp at ht
         rcases ht with rfl | ht
         · omega
         · exact ha t (by simpa using ht))
theorem tag_cases {t : Int} (h : 1 ≤ t ∧ t ≤ 11) : t = 1 ∨ t = 2 ∨ t = 3 ∨ t = 4 ∨ t = 5 ∨ t = 6 ∨ t = 7 ∨ t = 8 ∨ t = 9 ∨ t = 10 ∨ t = 11 := by omega
/-- A step at a number's tag. -/
theorem stepW_num {t : Int} (h : 3 ≤ t ∧ t ≤ 9) (r : Rq) (w : WS) : stepW t r w = (setN r t (numW w).1, (numW w).2) := by
  unfold stepW
  rw [if_neg (by omega), if_neg (by omega), if_neg (by omega), if_neg (by omega)]
theorem tagL_len (k w : Int) : ((tagL k w).getD []).length ≤ 100 := by
  have ha : ((askL w).getD []).length ≤ 99 := by
    unfold askL
    repeat' split
    all_goals simp
  unfold tagL
  repeat' split
  all_goals first
    | (simp; done)
    | (cases hq : askL w with
       | none => simp
       | some q => rw [hq] at ha; simp at ha ⊢; omega)
open Go Go.Proofs Go.SE Go.RowKit
set_option linter.unusedVariables false
set_option maxRecDepth 100000
theorem num_size {wl : List ByteArray} {b : Bool} (h : ∀ w ∈ wl, w.size ≤ 1000000) : ∀ w ∈ (numW (wl, b)).2.1, w.size ≤ 1000000 := (next_size (b := b) h).2
theorem unw_bytes {s : Tx} {o : Option (List Int)} (h : unwordT s = o) : byteL (o.getD []) := by
  cases o with
  | none => exact byteL_nil
  | some l => exact (unword_spec h).1
theorem strB_len (l : List Int) : (strB l).size = l.length := by show (u8s l).toArray.size = _; simp [u8s]
theorem unw_size {w : ByteArray} {o : Option (List Int)} (h : unwordT (tx w) = o) (hs : w.size ≤ 1000000) : (strB (o.getD [])).size ≤ 1000000 := by
  rw [strB_len]
  cases o with
  | none => exact Nat.zero_le _
  | some l =>
    have h2 := congrArg List.length (unword_spec h).2
    rw [wordT, List.length_cons, hex_len] at h2
    have h3 : (tx w).length = w.size := Array.length_toList
    simp only [Option.getD_some]
    omega
theorem bysl_str {I : Mem} {a : Option Addr} {c : Nat} {L : List Int} (hL : byteL L) (ha : a.isSome = true) (hn : (strB L).size ≤ 1000000) (hc : (strB L).size ≤ c) (hm : c ≤ 9223372036854775807)
    (h : ∀ (j : Nat) (b : UInt8), (strB L).data.toList[j]? = some b → atI I a j = some (Value.int .u8 b.toNat)) : BySl I (.slice a (strB L).size c) L := by
  refine ⟨_, _, _, rfl, ⟨?_, fun hx => ?_, by simp only [maxLen]; omega, fun j v hj => ?_⟩, hc, hm⟩
  · rw [ints_len, strB_len]; omega
  · rw [hx] at ha; cases ha
  · rw [← ints_u8s hL, List.getElem?_map] at hj
    cases hq : (u8s L)[j]? with
    | none => rw [hq] at hj; cases hj
    | some b =>
      rw [hq] at hj
      cases hj
      exact h j b hq
theorem ct116 (ws : List ByteArray) (hws : ∀ w ∈ ws, w.size ≤ 1000000) (v : Value) (I : Mem) (hG : Globs I) (h : WsL I v ws) :
    Ct Tryz.prog (fnv 116) #[v] I (fun u I' => ∃ y, u = .tuple #[.agg (rqV (askW ws).1 y).toArray, .bool (askW ws).2] ∧ BySl I' y (askW ws).1.fed) := by
  obtain ⟨p, n, c, rfl, hp, hpc, hpm⟩ := h
  obtain ⟨Q, hQ⟩ : ∃ q : Value → Mem → Prop, q = fun u I' => ∃ y, u = .tuple #[.agg (rqV (askW ws).1 y).toArray, .bool (askW ws).2] ∧ BySl I' y (askW ws).1.fed := ⟨_, rfl⟩
  obtain ⟨AI, hAI⟩ : ∃ f, f = AskI ws := ⟨_, rfl⟩
  obtain ⟨FI, hFI⟩ : ∃ f, f = FirstI ws := ⟨_, rfl⟩
  obtain ⟨RI, hRI⟩ : ∃ f : Bool → Prop, f = fun b => b = ((askW1 ws).2 && (tagL (askK ws) (askQ ws)).isSome) := ⟨_, rfl⟩
  rw [← hQ]
  refine viaR (ct_via (A := { calls := [(18, .lend [0, 2] (.sh .str) [.cells [.sh .sl] 64, .cells [.sh .bool] 4]), (25, .lend [0, 2] (.sh .str) [.cells [.sh .sl] 64, .cells [.sh .bool] 4]), (68, .lend [0, 2] (.sh .str) [.cells [.sh .sl] 64, .cells [.sh .bool] 4]), (94, .lend [0, 2] (.sh .str) [.cells [.sh .sl] 64, .cells [.sh .bool] 4]), (61, .lend [0, 2, 3] (.sh (.int .i64)) [.cells [.sh .sl] 64, .cells [.sh .bool] 4, .same]), (88, .lend [0, 2, 3] (.sh (.int .i64)) [.cells [.sh .sl] 64, .cells [.sh .bool] 4, .same]), (53, .cs [1, 2, 3, 4, 5, 6, 7, 8, 9, 10, 11])], cuts := [(7, ⟨[(1, .keep), (2, .keep), (4, .keep), (5, .keep), (6, .keep), (7, .keep)], [(0, .cells [.sh .sl]), (1, .keep), (2, .cells [.sh .bool]), (3, .keep), (4, .cells [.sh (.int .u8), .sh (.int .u8), .keep, .keep, .keep, .keep, .keep, .keep, .keep, .keep, .keep, .keep])], [], fun vals _ I' _ => match vals with | [wv, .bool b, .int .u8 k, .int .u8 q] => FI I' wv b k q | _ => False, fun _ _ => 0⟩), (9, ⟨[(1, .keep), (2, .keep), (4, .keep), (5, .keep), (6, .keep), (7, .keep), (8, .keep)], [(0, .keep), (1, .keep), (2, .cells [.sh .bool]), (3, .keep), (4, .keep)], [], fun vals _ _ _ => match vals with | [.bool b] => RI b | _ => False, fun _ _ => 0⟩)], loops := [(11, ⟨[(1, .keep), (2, .keep), (4, .keep), (5, .keep), (6, .keep), (7, .keep), (10, .keep), (48, .keep), (49, .keep), (50, .sh (.int .i64))], [(0, .cells [.sh .sl]), (1, .keep), (2, .cells [.sh .bool]), (3, .cells [.keep]), (4, .cells cellsA), (5, .keep)], [], fun vals _ I' _ => match vals with | .int .i64 j :: wv :: .bool b :: cs => AI I' j wv b cs | _ => False, fun vals _ => match vals with | .int .i64 j :: _ => (100 - j).toNat | _ => 0⟩)] }) Tryz.func116 rfl Tryz.call116 rfl rfl) (let E2 := Ent.mk (.cells [.v (.pointer none), .v (.pointer none), .v (.pointer none), .ptr 4 3, .ptr 4 4, .ptr 4 5, .ptr 4 6, .ptr 4 7, .ptr 4 8, .ptr 4 9] 215) none
      let E4 := [SV.ptr 2 0]
      let E5 := SV.v (.int .i64 0)
      let E6 := SV.ptr 0 0 :: E4
      let E7 := SV.ptr 3 0 :: E4
      let E8 := fun (x : Option Addr) (a : Nat) (b : Nat) (d : Nat) (e : Bool) (f : Nat) => [⟨.cells [.v (.slice x a b)] 64, some d⟩, ⟨.cells [.v (.bool e)] 4, some f⟩]
      let E9 := [SV.ptr 2 0, .ptr 1 0]
      let E10 := [SV.ptr 0 0, .ptr 1 0]
      let E1 := Ent.mk (.cells [.v (.int .u8 0), .v (.int .u8 0), .v (.string ⟨#[]⟩), E5, E5, E5, E5, E5, E5, E5, E5, .v (.slice none 0 0)] 26) none
      let E3 := fun (x : Option Addr) (a : Nat) (b : Nat) (d : Nat) (e : Bool) (f : Nat) (g : Nat) => [⟨.cells [.v (.slice x a b)] 64, some d⟩, ⟨.cells [.v (.bool e)] 4, some f⟩, ⟨.cells [.fn (.func 157) [] E10] 122, some g⟩]
      ∀ (b a : Nat), CtS Tryz.prog (.fn (.func 157) [] E10) [] [⟨.cells [.v (.slice p n c)] 64, some b⟩, ⟨.cells [.v (.bool true)] 4, some a⟩] I fun s H d => ∃ q e f g h, s = .v (.string q) ∧ H = E8 e f g b h a ∧ Ct Tryz.prog (.func (.func 160) #[] #[]) #[.string q, .func (.func 27) #[] #[]] d fun v i => ∃ j, v = .int .u8 j ∧ Br (j == 7) (CtS Tryz.prog (.fn (.func 157) [] E10) [] (E8 e f g b h a) i (fun k l m => ∃ o r t u w, k = .v (.string o) ∧ l = E8 r t u b w a ∧ Ct Tryz.prog (.func (.func 160) #[] #[]) #[.string o, .func (.func 53) #[] #[]] m fun x y => ∃ z, x = .int .u8 z ∧ Rf E1 ∧ Rf (Ent.mk (.cells [.fn (.func 157) [] E6] 122) none) ∧ Rf (SV.ptr 0 0) ∧ Rf (SV.ptr 1 0) ∧ Rf (SV.ptr 2 0) ∧ Rf (SV.ptr 3 0) ∧ Rf (SV.fn (.func 158) [] E7) ∧ Rf (SV.ptr 4 0) ∧ Rf (some b) ∧ Rf (some a) ∧ Rf (none : Option Nat) ∧ Rf (SV.v (.string ⟨#[]⟩)) ∧ Rf E5 ∧ Rf E5 ∧ Rf E5 ∧ Rf E5 ∧ Rf E5 ∧ Rf E5 ∧ Rf E5 ∧ Rf E5 ∧ Rf (SV.v (.slice none 0 0)) ∧ FI y (.slice r t u) w j z)) (Rf E1 ∧ Rf (Ent.mk (.cells [.fn (.func 157) [] E6] 122) none) ∧ Rf (SV.ptr 0 0) ∧ Rf (SV.ptr 1 0) ∧ Rf (SV.ptr 2 0) ∧ Rf (SV.ptr 3 0) ∧ Rf (SV.fn (.func 158) [] E7) ∧ Rf (SV.ptr 4 0) ∧ Rf (some b) ∧ Rf (some a) ∧ Rf (none : Option Nat) ∧ Rf (SV.v (.string ⟨#[]⟩)) ∧ Rf E5 ∧ Rf E5 ∧ Rf E5 ∧ Rf E5 ∧ Rf E5 ∧ Rf E5 ∧ Rf E5 ∧ Rf E5 ∧ Rf (SV.v (.slice none 0 0)) ∧ FI i (.slice e f g) h j 0) ∧ ∀ (k : Mem), Mem → i.le k → ∀ (l : Option Addr) (m o : Nat) (r : Bool) (t u : Int), FI k (.slice l m o) r t u → Ct Tryz.prog (.func (.func 28) #[] #[]) #[.int .u8 t, .int .u8 u] k fun w x => ∃ y z c1 b1, w = .tuple #[.slice y z c1, .bool b1] ∧ Br r (Rf (Ent.mk (.cells [.v (.slice l m o)] 64) (some b)) ∧ Rf E1 ∧ Rf (Ent.mk (.cells [.fn (.func 157) [] E6] 122) none) ∧ Rf (Ent.mk (.cells [.v (.int .u8 t), .v (.int .u8 u), .v (.string ⟨#[]⟩), E5, E5, E5, E5, E5, E5, E5, E5, .v (.slice none 0 0)] 26) none) ∧ Rf (SV.ptr 0 0) ∧ Rf (SV.ptr 1 0) ∧ Rf (SV.ptr 2 0) ∧ Rf (SV.ptr 3 0) ∧ Rf (SV.fn (.func 158) [] E7) ∧ Rf (SV.ptr 4 0) ∧ Rf (SV.v (.slice y z c1)) ∧ Rf (some a) ∧ RI b1) (Rf (Ent.mk (.cells [.v (.slice l m o)] 64) (some b)) ∧ Rf E1 ∧ Rf (Ent.mk (.cells [.fn (.func 157) [] E6] 122) none) ∧ Rf (Ent.mk (.cells [.v (.int .u8 t), .v (.int .u8 u), .v (.string ⟨#[]⟩), E5, E5, E5, E5, E5, E5, E5, E5, .v (.slice none 0 0)] 26) none) ∧ Rf (SV.ptr 0 0) ∧ Rf (SV.ptr 1 0) ∧ Rf (SV.ptr 2 0) ∧ Rf (SV.ptr 3 0) ∧ Rf (SV.fn (.func 158) [] E7) ∧ Rf (SV.ptr 4 0) ∧ Rf (SV.v (.slice y z c1)) ∧ Rf (some a) ∧ RI false) ∧ ∀ (I1 : Mem), Mem → x.le I1 → ∀ (b2 : Bool), RI b2 → (Rf E1 ∧ Rf E2 ∧ Rf (SV.ptr 0 0) ∧ Rf (SV.ptr 1 0) ∧ Rf (SV.ptr 2 0) ∧ Rf (SV.ptr 3 0) ∧ Rf (SV.fn (.func 158) [] E7) ∧ Rf (SV.ptr 4 0) ∧ Rf (SV.ptr 5 0) ∧ Rf (SV.v (.slice y z c1)) ∧ Rf (SV.v (.int .i64 (z : Int))) ∧ Rf (some b) ∧ Rf (some a) ∧ Rf (none : Option Nat) ∧ Rf (SV.fn (.func 157) [] E6) ∧ Rf (none : Option Nat) ∧ AI I1 0 (.slice l m o) b2 [.int .u8 t, .int .u8 u, .string ⟨#[]⟩, .int .i64 0, .int .i64 0, .int .i64 0, .int .i64 0, .int .i64 0, .int .i64 0, .int .i64 0, .int .i64 0, .slice none 0 0]) ∧ ∀ (I2 : Mem), Mem → I1.le I2 → ∀ (n1 : Int) (a1 : Option Addr) (n2 c2 : Nat) (b3 : Bool) (n3 n4 : Int) (q1 : ByteArray) (n5 n6 n7 n8 n9 n10 n11 n12 : Int) (a2 : Option Addr) (n13 c3 : Nat), AI I2 n1 (.slice a1 n2 c2) b3 [.int .u8 n3, .int .u8 n4, .string q1, .int .i64 n5, .int .i64 n6, .int .i64 n7, .int .i64 n8, .int .i64 n9, .int .i64 n10, .int .i64 n11, .int .i64 n12, .slice a2 n13 c3] → Br (decide (n1 < (z : Int))) (0 ≤ n1 ∧ n1 < (z : Int) ∧ y.isSome = true ∧ ∃ n14, atI I2 y (n1.toNat * 1 + 0) = some (.int .i64 n14) ∧ (n14 = 1 ∨ n14 = 2 ∨ n14 = 3 ∨ n14 = 4 ∨ n14 = 5 ∨ n14 = 6 ∨ n14 = 7 ∨ n14 = 8 ∨ n14 = 9 ∨ n14 = 10 ∨ n14 = 11) ∧ (n14 = 1 → Br (!b3) (Br b3 (Q (.tuple #[.agg #[.int .u8 n3, .int .u8 n4, .string q1, .int .i64 n5, .int .i64 n6, .int .i64 n7, .int .i64 n8, .int .i64 n9, .int .i64 n10, .int .i64 n11, .int .i64 n12, .slice a2 n13 c3], .bool ((n2 : Int) == 0)]) I2) (Q (.tuple #[.agg #[.int .u8 n3, .int .u8 n4, .string q1, .int .i64 n5, .int .i64 n6, .int .i64 n7, .int .i64 n8, .int .i64 n9, .int .i64 n10, .int .i64 n11, .int .i64 n12, .slice a2 n13 c3], .bool false]) I2)) (Wr .i64 (n1 + 1) (fun c4 => Rf E1 ∧ Rf E2 ∧ Rf (SV.ptr 0 0) ∧ Rf (SV.ptr 1 0) ∧ Rf (SV.ptr 2 0) ∧ Rf (SV.ptr 3 0) ∧ Rf (SV.fn (.func 158) [] E7) ∧ Rf (SV.ptr 4 0) ∧ Rf (SV.ptr 5 0) ∧ Rf (SV.v (.slice y z c1)) ∧ Rf (SV.v (.int .i64 (z : Int))) ∧ Rf (some b) ∧ Rf (some a) ∧ Rf (none : Option Nat) ∧ Rf (SV.fn (.func 157) [] E6) ∧ Rf (none : Option Nat) ∧ AI I2 c4 (.slice a1 n2 c2) b3 [.int .u8 n3, .int .u8 n4, .string q1, .int .i64 n5, .int .i64 n6, .int .i64 n7, .int .i64 n8, .int .i64 n9, .int .i64 n10, .int .i64 n11, .int .i64 n12, .slice a2 n13 c3] ∧ Int.toNat (100 - c4) < Int.toNat (100 - n1)))) ∧ (n14 = 2 → Br (!b3) (Br b3 (Q (.tuple #[.agg #[.int .u8 n3, .int .u8 n4, .string q1, .int .i64 n5, .int .i64 n6, .int .i64 n7, .int .i64 n8, .int .i64 n9, .int .i64 n10, .int .i64 n11, .int .i64 n12, .slice a2 n13 c3], .bool ((n2 : Int) == 0)]) I2) (Q (.tuple #[.agg #[.int .u8 n3, .int .u8 n4, .string q1, .int .i64 n5, .int .i64 n6, .int .i64 n7, .int .i64 n8, .int .i64 n9, .int .i64 n10, .int .i64 n11, .int .i64 n12, .slice a2 n13 c3], .bool false]) I2)) (CtS Tryz.prog (.fn (.func 157) [] E10) [] (E8 a1 n2 c2 b b3 a) I2 (fun s1 H1 I3 => ∃ q2 a3 n15 c4 b4, s1 = .v (.string q2) ∧ H1 = E8 a3 n15 c4 b b4 a ∧ Ct Tryz.prog (.func (.func 54) #[] #[]) #[.string q2] I3 fun v1 I4 => ∃ b5, v1 = .bool b5 ∧ Br (!b5) (Ct Tryz.prog (.func (.func 115) #[] #[]) #[.string q2] I4 (fun v2 I5 => ∃ q3 b6, v2 = .tuple #[.string q3, .bool b6] ∧ Br b4 (Wr .i64 (n1 + 1) (fun c5 => Rf E1 ∧ Rf E2 ∧ Rf (SV.ptr 0 0) ∧ Rf (SV.ptr 1 0) ∧ Rf (SV.ptr 2 0) ∧ Rf (SV.ptr 3 0) ∧ Rf (SV.fn (.func 158) [] E7) ∧ Rf (SV.ptr 4 0) ∧ Rf (SV.ptr 5 0) ∧ Rf (SV.v (.slice y z c1)) ∧ Rf (SV.v (.int .i64 (z : Int))) ∧ Rf (some b) ∧ Rf (some a) ∧ Rf (none : Option Nat) ∧ Rf (SV.fn (.func 157) [] E6) ∧ Rf (none : Option Nat) ∧ AI I5 c5 (.slice a3 n15 c4) b6 [.int .u8 n3, .int .u8 n4, .string q3, .int .i64 n5, .int .i64 n6, .int .i64 n7, .int .i64 n8, .int .i64 n9, .int .i64 n10, .int .i64 n11, .int .i64 n12, .slice a2 n13 c3] ∧ Int.toNat (100 - c5) < Int.toNat (100 - n1))) (Wr .i64 (n1 + 1) (fun c5 => Rf E1 ∧ Rf E2 ∧ Rf (SV.ptr 0 0) ∧ Rf (SV.ptr 1 0) ∧ Rf (SV.ptr 2 0) ∧ Rf (SV.ptr 3 0) ∧ Rf (SV.fn (.func 158) [] E7) ∧ Rf (SV.ptr 4 0) ∧ Rf (SV.ptr 5 0) ∧ Rf (SV.v (.slice y z c1)) ∧ Rf (SV.v (.int .i64 (z : Int))) ∧ Rf (some b) ∧ Rf (some a) ∧ Rf (none : Option Nat) ∧ Rf (SV.fn (.func 157) [] E6) ∧ Rf (none : Option Nat) ∧ AI I5 c5 (.slice a3 n15 c4) false [.int .u8 n3, .int .u8 n4, .string q3, .int .i64 n5, .int .i64 n6, .int .i64 n7, .int .i64 n8, .int .i64 n9, .int .i64 n10, .int .i64 n11, .int .i64 n12, .slice a2 n13 c3] ∧ Int.toNat (100 - c5) < Int.toNat (100 - n1))))) (Wr .i64 (n1 + 1) (fun c5 => Rf E1 ∧ Rf E2 ∧ Rf (SV.ptr 0 0) ∧ Rf (SV.ptr 1 0) ∧ Rf (SV.ptr 2 0) ∧ Rf (SV.ptr 3 0) ∧ Rf (SV.fn (.func 158) [] E7) ∧ Rf (SV.ptr 4 0) ∧ Rf (SV.ptr 5 0) ∧ Rf (SV.v (.slice y z c1)) ∧ Rf (SV.v (.int .i64 (z : Int))) ∧ Rf (some b) ∧ Rf (some a) ∧ Rf (none : Option Nat) ∧ Rf (SV.fn (.func 157) [] E6) ∧ Rf (none : Option Nat) ∧ AI I4 c5 (.slice a3 n15 c4) b4 [.int .u8 n3, .int .u8 n4, .string q2, .int .i64 n5, .int .i64 n6, .int .i64 n7, .int .i64 n8, .int .i64 n9, .int .i64 n10, .int .i64 n11, .int .i64 n12, .slice a2 n13 c3] ∧ Int.toNat (100 - c5) < Int.toNat (100 - n1)))))) ∧ (n14 = 3 → Br (!b3) (Br b3 (Q (.tuple #[.agg #[.int .u8 n3, .int .u8 n4, .string q1, .int .i64 n5, .int .i64 n6, .int .i64 n7, .int .i64 n8, .int .i64 n9, .int .i64 n10, .int .i64 n11, .int .i64 n12, .slice a2 n13 c3], .bool ((n2 : Int) == 0)]) I2) (Q (.tuple #[.agg #[.int .u8 n3, .int .u8 n4, .string q1, .int .i64 n5, .int .i64 n6, .int .i64 n7, .int .i64 n8, .int .i64 n9, .int .i64 n10, .int .i64 n11, .int .i64 n12, .slice a2 n13 c3], .bool false]) I2)) ((0 : Int) ≤ 3 ∧ (3 : Int) < 10 ∧ ∀ (b4 : Nat), CtS Tryz.prog (.fn (.func 158) [] E9) [] (E3 a1 n2 c2 b b3 a b4) I2 fun s1 H1 I3 => ∃ n15 a3 n16 c4 b5, s1 = .v (.int .i64 n15) ∧ H1 = E3 a3 n16 c4 b b5 a b4 ∧ Wr .i64 (n1 + 1) fun c5 => Rf E1 ∧ Rf E2 ∧ Rf (SV.ptr 0 0) ∧ Rf (SV.ptr 1 0) ∧ Rf (SV.ptr 2 0) ∧ Rf (SV.ptr 3 0) ∧ Rf (SV.fn (.func 158) [] E7) ∧ Rf (SV.ptr 4 0) ∧ Rf (SV.ptr 5 0) ∧ Rf (SV.v (.slice y z c1)) ∧ Rf (SV.v (.int .i64 (z : Int))) ∧ Rf (some b) ∧ Rf (some a) ∧ Rf (SV.fn (.func 157) [] E6) ∧ Rf (none : Option Nat) ∧ AI I3 c5 (.slice a3 n16 c4) b5 [.int .u8 n3, .int .u8 n4, .string q1, .int .i64 n15, .int .i64 n6, .int .i64 n7, .int .i64 n8, .int .i64 n9, .int .i64 n10, .int .i64 n11, .int .i64 n12, .slice a2 n13 c3] ∧ Int.toNat (100 - c5) < Int.toNat (100 - n1))) ∧ (n14 = 4 → Br (!b3) (Br b3 (Q (.tuple #[.agg #[.int .u8 n3, .int .u8 n4, .string q1, .int .i64 n5, .int .i64 n6, .int .i64 n7, .int .i64 n8, .int .i64 n9, .int .i64 n10, .int .i64 n11, .int .i64 n12, .slice a2 n13 c3], .bool ((n2 : Int) == 0)]) I2) (Q (.tuple #[.agg #[.int .u8 n3, .int .u8 n4, .string q1, .int .i64 n5, .int .i64 n6, .int .i64 n7, .int .i64 n8, .int .i64 n9, .int .i64 n10, .int .i64 n11, .int .i64 n12, .slice a2 n13 c3], .bool false]) I2)) ((0 : Int) ≤ 4 ∧ (4 : Int) < 10 ∧ ∀ (b4 : Nat), CtS Tryz.prog (.fn (.func 158) [] E9) [] (E3 a1 n2 c2 b b3 a b4) I2 fun s1 H1 I3 => ∃ n15 a3 n16 c4 b5, s1 = .v (.int .i64 n15) ∧ H1 = E3 a3 n16 c4 b b5 a b4 ∧ Wr .i64 (n1 + 1) fun c5 => Rf E1 ∧ Rf E2 ∧ Rf (SV.ptr 0 0) ∧ Rf (SV.ptr 1 0) ∧ Rf (SV.ptr 2 0) ∧ Rf (SV.ptr 3 0) ∧ Rf (SV.fn (.func 158) [] E7) ∧ Rf (SV.ptr 4 0) ∧ Rf (SV.ptr 5 0) ∧ Rf (SV.v (.slice y z c1)) ∧ Rf (SV.v (.int .i64 (z : Int))) ∧ Rf (some b) ∧ Rf (some a) ∧ Rf (SV.fn (.func 157) [] E6) ∧ Rf (none : Option Nat) ∧ AI I3 c5 (.slice a3 n16 c4) b5 [.int .u8 n3, .int .u8 n4, .string q1, .int .i64 n5, .int .i64 n15, .int .i64 n7, .int .i64 n8, .int .i64 n9, .int .i64 n10, .int .i64 n11, .int .i64 n12, .slice a2 n13 c3] ∧ Int.toNat (100 - c5) < Int.toNat (100 - n1))) ∧ (n14 = 5 → Br (!b3) (Br b3 (Q (.tuple #[.agg #[.int .u8 n3, .int .u8 n4, .string q1, .int .i64 n5, .int .i64 n6, .int .i64 n7, .int .i64 n8, .int .i64 n9, .int .i64 n10, .int .i64 n11, .int .i64 n12, .slice a2 n13 c3], .bool ((n2 : Int) == 0)]) I2) (Q (.tuple #[.agg #[.int .u8 n3, .int .u8 n4, .string q1, .int .i64 n5, .int .i64 n6, .int .i64 n7, .int .i64 n8, .int .i64 n9, .int .i64 n10, .int .i64 n11, .int .i64 n12, .slice a2 n13 c3], .bool false]) I2)) ((0 : Int) ≤ 5 ∧ (5 : Int) < 10 ∧ ∀ (b4 : Nat), CtS Tryz.prog (.fn (.func 158) [] E9) [] (E3 a1 n2 c2 b b3 a b4) I2 fun s1 H1 I3 => ∃ n15 a3 n16 c4 b5, s1 = .v (.int .i64 n15) ∧ H1 = E3 a3 n16 c4 b b5 a b4 ∧ Wr .i64 (n1 + 1) fun c5 => Rf E1 ∧ Rf E2 ∧ Rf (SV.ptr 0 0) ∧ Rf (SV.ptr 1 0) ∧ Rf (SV.ptr 2 0) ∧ Rf (SV.ptr 3 0) ∧ Rf (SV.fn (.func 158) [] E7) ∧ Rf (SV.ptr 4 0) ∧ Rf (SV.ptr 5 0) ∧ Rf (SV.v (.slice y z c1)) ∧ Rf (SV.v (.int .i64 (z : Int))) ∧ Rf (some b) ∧ Rf (some a) ∧ Rf (SV.fn (.func 157) [] E6) ∧ Rf (none : Option Nat) ∧ AI I3 c5 (.slice a3 n16 c4) b5 [.int .u8 n3, .int .u8 n4, .string q1, .int .i64 n5, .int .i64 n6, .int .i64 n15, .int .i64 n8, .int .i64 n9, .int .i64 n10, .int .i64 n11, .int .i64 n12, .slice a2 n13 c3] ∧ Int.toNat (100 - c5) < Int.toNat (100 - n1))) ∧ (n14 = 6 → Br (!b3) (Br b3 (Q (.tuple #[.agg #[.int .u8 n3, .int .u8 n4, .string q1, .int .i64 n5, .int .i64 n6, .int .i64 n7, .int .i64 n8, .int .i64 n9, .int .i64 n10, .int .i64 n11, .int .i64 n12, .slice a2 n13 c3], .bool ((n2 : Int) == 0)]) I2) (Q (.tuple #[.agg #[.int .u8 n3, .int .u8 n4, .string q1, .int .i64 n5, .int .i64 n6, .int .i64 n7, .int .i64 n8, .int .i64 n9, .int .i64 n10, .int .i64 n11, .int .i64 n12, .slice a2 n13 c3], .bool false]) I2)) ((0 : Int) ≤ 6 ∧ (6 : Int) < 10 ∧ ∀ (b4 : Nat), CtS Tryz.prog (.fn (.func 158) [] E9) [] (E3 a1 n2 c2 b b3 a b4) I2 fun s1 H1 I3 => ∃ n15 a3 n16 c4 b5, s1 = .v (.int .i64 n15) ∧ H1 = E3 a3 n16 c4 b b5 a b4 ∧ Wr .i64 (n1 + 1) fun c5 => Rf E1 ∧ Rf E2 ∧ Rf (SV.ptr 0 0) ∧ Rf (SV.ptr 1 0) ∧ Rf (SV.ptr 2 0) ∧ Rf (SV.ptr 3 0) ∧ Rf (SV.fn (.func 158) [] E7) ∧ Rf (SV.ptr 4 0) ∧ Rf (SV.ptr 5 0) ∧ Rf (SV.v (.slice y z c1)) ∧ Rf (SV.v (.int .i64 (z : Int))) ∧ Rf (some b) ∧ Rf (some a) ∧ Rf (SV.fn (.func 157) [] E6) ∧ Rf (none : Option Nat) ∧ AI I3 c5 (.slice a3 n16 c4) b5 [.int .u8 n3, .int .u8 n4, .string q1, .int .i64 n5, .int .i64 n6, .int .i64 n7, .int .i64 n15, .int .i64 n9, .int .i64 n10, .int .i64 n11, .int .i64 n12, .slice a2 n13 c3] ∧ Int.toNat (100 - c5) < Int.toNat (100 - n1))) ∧ (n14 = 7 → Br (!b3) (Br b3 (Q (.tuple #[.agg #[.int .u8 n3, .int .u8 n4, .string q1, .int .i64 n5, .int .i64 n6, .int .i64 n7, .int .i64 n8, .int .i64 n9, .int .i64 n10, .int .i64 n11, .int .i64 n12, .slice a2 n13 c3], .bool ((n2 : Int) == 0)]) I2) (Q (.tuple #[.agg #[.int .u8 n3, .int .u8 n4, .string q1, .int .i64 n5, .int .i64 n6, .int .i64 n7, .int .i64 n8, .int .i64 n9, .int .i64 n10, .int .i64 n11, .int .i64 n12, .slice a2 n13 c3], .bool false]) I2)) ((0 : Int) ≤ 7 ∧ (7 : Int) < 10 ∧ ∀ (b4 : Nat), CtS Tryz.prog (.fn (.func 158) [] E9) [] (E3 a1 n2 c2 b b3 a b4) I2 fun s1 H1 I3 => ∃ n15 a3 n16 c4 b5, s1 = .v (.int .i64 n15) ∧ H1 = E3 a3 n16 c4 b b5 a b4 ∧ Wr .i64 (n1 + 1) fun c5 => Rf E1 ∧ Rf E2 ∧ Rf (SV.ptr 0 0) ∧ Rf (SV.ptr 1 0) ∧ Rf (SV.ptr 2 0) ∧ Rf (SV.ptr 3 0) ∧ Rf (SV.fn (.func 158) [] E7) ∧ Rf (SV.ptr 4 0) ∧ Rf (SV.ptr 5 0) ∧ Rf (SV.v (.slice y z c1)) ∧ Rf (SV.v (.int .i64 (z : Int))) ∧ Rf (some b) ∧ Rf (some a) ∧ Rf (SV.fn (.func 157) [] E6) ∧ Rf (none : Option Nat) ∧ AI I3 c5 (.slice a3 n16 c4) b5 [.int .u8 n3, .int .u8 n4, .string q1, .int .i64 n5, .int .i64 n6, .int .i64 n7, .int .i64 n8, .int .i64 n15, .int .i64 n10, .int .i64 n11, .int .i64 n12, .slice a2 n13 c3] ∧ Int.toNat (100 - c5) < Int.toNat (100 - n1))) ∧ (n14 = 8 → Br (!b3) (Br b3 (Q (.tuple #[.agg #[.int .u8 n3, .int .u8 n4, .string q1, .int .i64 n5, .int .i64 n6, .int .i64 n7, .int .i64 n8, .int .i64 n9, .int .i64 n10, .int .i64 n11, .int .i64 n12, .slice a2 n13 c3], .bool ((n2 : Int) == 0)]) I2) (Q (.tuple #[.agg #[.int .u8 n3, .int .u8 n4, .string q1, .int .i64 n5, .int .i64 n6, .int .i64 n7, .int .i64 n8, .int .i64 n9, .int .i64 n10, .int .i64 n11, .int .i64 n12, .slice a2 n13 c3], .bool false]) I2)) ((0 : Int) ≤ 8 ∧ (8 : Int) < 10 ∧ ∀ (b4 : Nat), CtS Tryz.prog (.fn (.func 158) [] E9) [] (E3 a1 n2 c2 b b3 a b4) I2 fun s1 H1 I3 => ∃ n15 a3 n16 c4 b5, s1 = .v (.int .i64 n15) ∧ H1 = E3 a3 n16 c4 b b5 a b4 ∧ Wr .i64 (n1 + 1) fun c5 => Rf E1 ∧ Rf E2 ∧ Rf (SV.ptr 0 0) ∧ Rf (SV.ptr 1 0) ∧ Rf (SV.ptr 2 0) ∧ Rf (SV.ptr 3 0) ∧ Rf (SV.fn (.func 158) [] E7) ∧ Rf (SV.ptr 4 0) ∧ Rf (SV.ptr 5 0) ∧ Rf (SV.v (.slice y z c1)) ∧ Rf (SV.v (.int .i64 (z : Int))) ∧ Rf (some b) ∧ Rf (some a) ∧ Rf (SV.fn (.func 157) [] E6) ∧ Rf (none : Option Nat) ∧ AI I3 c5 (.slice a3 n16 c4) b5 [.int .u8 n3, .int .u8 n4, .string q1, .int .i64 n5, .int .i64 n6, .int .i64 n7, .int .i64 n8, .int .i64 n9, .int .i64 n15, .int .i64 n11, .int .i64 n12, .slice a2 n13 c3] ∧ Int.toNat (100 - c5) < Int.toNat (100 - n1))) ∧ (n14 = 9 → Br (!b3) (Br b3 (Q (.tuple #[.agg #[.int .u8 n3, .int .u8 n4, .string q1, .int .i64 n5, .int .i64 n6, .int .i64 n7, .int .i64 n8, .int .i64 n9, .int .i64 n10, .int .i64 n11, .int .i64 n12, .slice a2 n13 c3], .bool ((n2 : Int) == 0)]) I2) (Q (.tuple #[.agg #[.int .u8 n3, .int .u8 n4, .string q1, .int .i64 n5, .int .i64 n6, .int .i64 n7, .int .i64 n8, .int .i64 n9, .int .i64 n10, .int .i64 n11, .int .i64 n12, .slice a2 n13 c3], .bool false]) I2)) ((0 : Int) ≤ 9 ∧ (9 : Int) < 10 ∧ ∀ (b4 : Nat), CtS Tryz.prog (.fn (.func 158) [] E9) [] (E3 a1 n2 c2 b b3 a b4) I2 fun s1 H1 I3 => ∃ n15 a3 n16 c4 b5, s1 = .v (.int .i64 n15) ∧ H1 = E3 a3 n16 c4 b b5 a b4 ∧ Wr .i64 (n1 + 1) fun c5 => Rf E1 ∧ Rf E2 ∧ Rf (SV.ptr 0 0) ∧ Rf (SV.ptr 1 0) ∧ Rf (SV.ptr 2 0) ∧ Rf (SV.ptr 3 0) ∧ Rf (SV.fn (.func 158) [] E7) ∧ Rf (SV.ptr 4 0) ∧ Rf (SV.ptr 5 0) ∧ Rf (SV.v (.slice y z c1)) ∧ Rf (SV.v (.int .i64 (z : Int))) ∧ Rf (some b) ∧ Rf (some a) ∧ Rf (SV.fn (.func 157) [] E6) ∧ Rf (none : Option Nat) ∧ AI I3 c5 (.slice a3 n16 c4) b5 [.int .u8 n3, .int .u8 n4, .string q1, .int .i64 n5, .int .i64 n6, .int .i64 n7, .int .i64 n8, .int .i64 n9, .int .i64 n10, .int .i64 n15, .int .i64 n12, .slice a2 n13 c3] ∧ Int.toNat (100 - c5) < Int.toNat (100 - n1))) ∧ (n14 = 10 → Br (!b3) (Br b3 (Q (.tuple #[.agg #[.int .u8 n3, .int .u8 n4, .string q1, .int .i64 n5, .int .i64 n6, .int .i64 n7, .int .i64 n8, .int .i64 n9, .int .i64 n10, .int .i64 n11, .int .i64 n12, .slice a2 n13 c3], .bool ((n2 : Int) == 0)]) I2) (Q (.tuple #[.agg #[.int .u8 n3, .int .u8 n4, .string q1, .int .i64 n5, .int .i64 n6, .int .i64 n7, .int .i64 n8, .int .i64 n9, .int .i64 n10, .int .i64 n11, .int .i64 n12, .slice a2 n13 c3], .bool false]) I2)) (∀ (b4 : Nat), CtS Tryz.prog (.fn (.func 158) [] E9) [] (E3 a1 n2 c2 b b3 a b4) I2 fun s1 H1 I3 => ∃ n15 a3 n16 c4 b5, s1 = .v (.int .i64 n15) ∧ H1 = E3 a3 n16 c4 b b5 a b4 ∧ Wr .i64 (n1 + 1) fun c5 => Rf E1 ∧ Rf E2 ∧ Rf (SV.ptr 0 0) ∧ Rf (SV.ptr 1 0) ∧ Rf (SV.ptr 2 0) ∧ Rf (SV.ptr 3 0) ∧ Rf (SV.fn (.func 158) [] E7) ∧ Rf (SV.ptr 4 0) ∧ Rf (SV.ptr 5 0) ∧ Rf (SV.v (.slice y z c1)) ∧ Rf (SV.v (.int .i64 (z : Int))) ∧ Rf (some b) ∧ Rf (some a) ∧ Rf (SV.fn (.func 157) [] E6) ∧ Rf (none : Option Nat) ∧ AI I3 c5 (.slice a3 n16 c4) b5 [.int .u8 n3, .int .u8 n4, .string q1, .int .i64 n5, .int .i64 n6, .int .i64 n7, .int .i64 n8, .int .i64 n9, .int .i64 n10, .int .i64 n11, .int .i64 n15, .slice a2 n13 c3] ∧ Int.toNat (100 - c5) < Int.toNat (100 - n1))) ∧ (n14 = 11 → Br (!b3) (Br b3 (Q (.tuple #[.agg #[.int .u8 n3, .int .u8 n4, .string q1, .int .i64 n5, .int .i64 n6, .int .i64 n7, .int .i64 n8, .int .i64 n9, .int .i64 n10, .int .i64 n11, .int .i64 n12, .slice a2 n13 c3], .bool ((n2 : Int) == 0)]) I2) (Q (.tuple #[.agg #[.int .u8 n3, .int .u8 n4, .string q1, .int .i64 n5, .int .i64 n6, .int .i64 n7, .int .i64 n8, .int .i64 n9, .int .i64 n10, .int .i64 n11, .int .i64 n12, .slice a2 n13 c3], .bool false]) I2)) (CtS Tryz.prog (.fn (.func 157) [] E10) [] (E8 a1 n2 c2 b b3 a) I2 (fun s1 H1 I3 => ∃ q2 a3 n15 c4 b4, s1 = .v (.string q2) ∧ H1 = E8 a3 n15 c4 b b4 a ∧ Ct Tryz.prog (.func (.func 115) #[] #[]) #[.string q2] I3 fun v1 I4 => ∃ q3 b5, v1 = .tuple #[.string q3, .bool b5] ∧ q3.size ≤ 4611686018427387904 ∧ ∀ (a4 : Option Addr) (c5 : Nat) (I5 : Mem), I4.le I5 → a4.isSome = true → q3.size ≤ c5 → c5 ≤ 9223372036854775807 → (∀ (j1 : Nat) (b6 : UInt8), q3.data.toList[j1]? = some b6 → atI I5 a4 j1 = some (.int .u8 (b6.toNat : Int))) → Br b4 (Wr .i64 (n1 + 1) (fun c6 => Rf E1 ∧ Rf E2 ∧ Rf (SV.ptr 0 0) ∧ Rf (SV.ptr 1 0) ∧ Rf (SV.ptr 2 0) ∧ Rf (SV.ptr 3 0) ∧ Rf (SV.fn (.func 158) [] E7) ∧ Rf (SV.ptr 4 0) ∧ Rf (SV.ptr 5 0) ∧ Rf (SV.v (.slice y z c1)) ∧ Rf (SV.v (.int .i64 (z : Int))) ∧ Rf (some b) ∧ Rf (some a) ∧ Rf (none : Option Nat) ∧ Rf (SV.fn (.func 157) [] E6) ∧ Rf (none : Option Nat) ∧ AI I5 c6 (.slice a3 n15 c4) b5 [.int .u8 n3, .int .u8 n4, .string q1, .int .i64 n5, .int .i64 n6, .int .i64 n7, .int .i64 n8, .int .i64 n9, .int .i64 n10, .int .i64 n11, .int .i64 n12, .slice a4 q3.size c5] ∧ Int.toNat (100 - c6) < Int.toNat (100 - n1))) (Wr .i64 (n1 + 1) (fun c6 => Rf E1 ∧ Rf E2 ∧ Rf (SV.ptr 0 0) ∧ Rf (SV.ptr 1 0) ∧ Rf (SV.ptr 2 0) ∧ Rf (SV.ptr 3 0) ∧ Rf (SV.fn (.func 158) [] E7) ∧ Rf (SV.ptr 4 0) ∧ Rf (SV.ptr 5 0) ∧ Rf (SV.v (.slice y z c1)) ∧ Rf (SV.v (.int .i64 (z : Int))) ∧ Rf (some b) ∧ Rf (some a) ∧ Rf (none : Option Nat) ∧ Rf (SV.fn (.func 157) [] E6) ∧ Rf (none : Option Nat) ∧ AI I5 c6 (.slice a3 n15 c4) false [.int .u8 n3, .int .u8 n4, .string q1, .int .i64 n5, .int .i64 n6, .int .i64 n7, .int .i64 n8, .int .i64 n9, .int .i64 n10, .int .i64 n11, .int .i64 n12, .slice a4 q3.size c5] ∧ Int.toNat (100 - c6) < Int.toNat (100 - n1))))))) (Br b3 (Q (.tuple #[.agg #[.int .u8 n3, .int .u8 n4, .string q1, .int .i64 n5, .int .i64 n6, .int .i64 n7, .int .i64 n8, .int .i64 n9, .int .i64 n10, .int .i64 n11, .int .i64 n12, .slice a2 n13 c3], .bool ((n2 : Int) == 0)]) I2) (Q (.tuple #[.agg #[.int .u8 n3, .int .u8 n4, .string q1, .int .i64 n5, .int .i64 n6, .int .i64 n7, .int .i64 n8, .int .i64 n9, .int .i64 n10, .int .i64 n11, .int .i64 n12, .slice a2 n13 c3], .bool false]) I2))) (by kernel_rfl) ?_
  intro E2 E4 E5 E6 E7 E8 E9 E10 E1 E3
  intro k1 k2
  refine (cts_cap (first := []) (args := []) (cap := [.ptr 0 0, .ptr 1 0]) (cs157 ws true k1 k2 _ I ⟨p, n, c, rfl, hp, hpc, hpm⟩)).mono fun s H I1 l1 ⟨v', hs, hH, hw⟩ => ?_
  have hz1 := next_size (b := true) hws
  obtain ⟨p1, n1, c1, rfl, hp1, hpc1, hpm1⟩ := hw
  refine ⟨_, _, _, _, _, hs, hH, (ct160 _ _ nameS (fun k J hk => ct27 k hk J) I1).mono fun u I2 l2 hu => ⟨_, hu, Br.mk (fun h => ?_) (fun h => ?_), fun I3 G3 l3 a3 n3 c3 b3 k q hF => ?_⟩⟩
  · have h : askK ws = 7 := by simpa [askK] using h
    refine (cts_cap (first := []) (args := []) (cap := [.ptr 0 0, .ptr 1 0]) (cs157 _ _ k1 k2 _ I2 ⟨p1, n1, c1, rfl, hp1.mono l2, hpc1, hpm1⟩)).mono fun s H I3 l3 ⟨v', hs, hH, hw⟩ => ?_
    have hz2 := next_size (b := (nextW (ws, true)).2.2) hz1.2
    obtain ⟨p2, n2, c2, rfl, hp2, hpc2, hpm2⟩ := hw
    refine ⟨_, _, _, _, _, hs, hH, (ct160 _ _ askS (fun k J hk => ct53 k hk J) I3).mono fun u I4 l4 hu => ⟨_, hu, ?_⟩⟩
    repeat (refine And.intro rfl ?_)
    rw [hFI]
    exact ⟨_, rfl, by rw [askQ, if_pos h], ⟨p2, n2, c2, rfl, hp2.mono l4, hpc2, hpm2⟩, hz2.2, by rw [askW1, if_pos h]⟩
  · have h : askK ws ≠ 7 := by simpa [askK] using h
    repeat (refine And.intro rfl ?_)
    rw [hFI]
    exact ⟨_, rfl, by rw [askQ, if_neg h], ⟨p1, n1, c1, rfl, hp1.mono l2, hpc1, hpm1⟩, hz1.2, by rw [askW1, if_neg h]⟩
  rw [hFI] at hF
  obtain ⟨l, rfl, rfl, hw3, hz3, hW1⟩ := hF
  refine (ct28 _ _ I3).mono fun u I4 l4 ⟨ya, yn, yc, hu, hs, hyc, hym, _⟩ => ⟨ya, yn, yc, _, hu, Br.mk (fun h => ?_) (fun h => ?_), fun I5 G5 l5 b5 hR => ?_⟩
  · repeat (refine And.intro rfl ?_)
    rw [hRI, hW1, h]
    exact (Bool.true_and _).symm
  · repeat (refine And.intro rfl ?_)
    rw [hRI, hW1, h]
    rfl
  rw [hRI, hW1] at hR
  have hyl : (ints .i64 ((tagL (askK ws) (askQ ws)).getD [])).length = yn := by rw [hs.len, Nat.mul_one]
  have hyl : ((tagL (askK ws) (askQ ws)).getD []).length = yn := by rw [← hyl]; simp [ints]
  have hy100 : yn ≤ 100 := by rw [← hyl]; exact tagL_len _ _
  refine ⟨?_, fun I6 G6 l6 j a1 m1 d1 b1 k1' q1' nm x3 x4 x5 x6 x7 x8 x9 x10 fa fn fc hA => ?_⟩
  · repeat (refine And.intro rfl ?_)
    rw [hAI]
    refine ⟨{ zeroRq with kind := askK ws, what := askQ ws }, .slice none 0 0, l, Int.le_refl _, rfl, bysl_nil _, (hw3.mono l4).mono l5, hz3, ?_⟩
    rw [askW, hW1, hR]
    rfl
  have hA' := hA
  rw [hAI] at hA
  obtain ⟨r, y, wl, hj, hcs, hy, hwl, hwz, hrun⟩ := hA
  have hcs' := hcs
  simp only [rqV, List.cons.injEq, Value.int.injEq, Value.string.injEq, true_and, and_true] at hcs
  obtain ⟨rfl, rfl, rfl, rfl, rfl, rfl, rfl, rfl, rfl, rfl, rfl, rfl⟩ := hcs
  have fin : ∀ bb, askW ws = (r, bb) → Q (.tuple #[.agg (rqV r (.slice fa fn fc)).toArray, .bool bb]) I6 := fun bb e => by
    rw [hQ, e]
    exact ⟨_, rfl, hy⟩
  have hemp : wl.isEmpty = ((m1 : Int) == 0) := by
    obtain ⟨_, _, _, e, hwp, _⟩ := hwl
    cases e
    have h1 := hwp.len
    cases wl with
    | nil => simp [strs] at h1; subst h1; rfl
    | cons w t => simp [strs] at h1; rw [← h1]; rfl
  have ret : ∀ (ts : List Int), b1 = false ∨ ts = [] → runW ts r (wl, b1) = (r, (wl, b1)) := fun ts h => by
    rcases h with rfl | rfl
    · exact runW_off _ _ _
    · rfl
  have stop : b1 = false ∨ ((tagL (askK ws) (askQ ws)).getD []).drop j.toNat = [] → askW ws = (r, b1 && wl.isEmpty) := fun h => by
    rw [hrun, ret _ h]
  refine Br.mk (fun h => ?_) (fun h => ?_)
  · have hjl : j < yn := of_decide_eq_true h
    have hlt : j.toNat < ((tagL (askK ws) (askQ ws)).getD []).length := by omega
    obtain ⟨t, ht⟩ : ∃ t, t = ((tagL (askK ws) (askQ ws)).getD [])[j.toNat] := ⟨_, rfl⟩
    have htr := tagL_rng _ _ t (by rw [ht]; exact List.getElem_mem _)
    have hdr : ((tagL (askK ws) (askQ ws)).getD []).drop j.toNat = t :: ((tagL (askK ws) (askQ ws)).getD []).drop (j.toNat + 1) := by rw [ht]; exact List.drop_eq_getElem_cons hlt
    have hs6 := (hs.mono l5).mono l6
    have adv : b1 = true → ∀ (J : Mem) (v' y' : Value), BySl J y' (stepW t r (wl, true)).1.fed → WsL J v' (stepW t r (wl, true)).2.1 → (∀ w ∈ (stepW t r (wl, true)).2.1, w.size ≤ 1000000) → AI J (j + 1) v' (stepW t r (wl, true)).2.2 (rqV (stepW t r (wl, true)).1 y') := by
      intro hb J v' y' h1 h2 h3
      rw [hAI]
      refine ⟨_, _, _, by omega, rfl, h1, h2, h3, ?_⟩
      rw [hrun, hdr, hb, runW_on, show (j + 1).toNat = j.toNat + 1 by omega]
    have offQ : b1 = false → Q (.tuple #[.agg (rqV r (.slice fa fn fc)).toArray, .bool false]) I6 := fun e => fin _ (by rw [stop (.inl e), e, Bool.false_and])
    have off : ∀ {X Z : Prop}, (b1 = true → Z) → Br (!b1) (Br b1 X (Q (.tuple #[.agg (rqV r (.slice fa fn fc)).toArray, .bool false]) I6)) Z := fun {X Z} hz =>
      Br.mk (fun h1 => Br.f (by simpa using h1) (offQ (by simpa using h1))) (fun h1 => hz (by simpa using h1))
    have hat : atI I6 ya (j.toNat * 1 + 0) = some (.int .i64 t) := by
      obtain ⟨t', ht', hc'⟩ := hs6.intAt (i := j) hj hjl
      have : t' = t := by
        rw [List.getElem?_eq_getElem hlt] at ht'
        rw [ht]; exact (Option.some.inj ht').symm
      rw [← this]; simpa using hc'
    have hG6 : Globs I6 := hG.mono (Mem.le_trans l1 (Mem.le_trans l2 (Mem.le_trans l3 (Mem.le_trans l4 (Mem.le_trans l5 l6)))))
    refine ⟨hj, hjl, hs.isSome (by omega), t, hat, by omega, ?_⟩
    refine ⟨fun e => off fun hb => ?_, fun e => off fun hb => ?_, fun e => off fun hb => ?_, fun e => off fun hb => ?_, fun e => off fun hb => ?_, fun e => off fun hb => ?_, fun e => off fun hb => ?_, fun e => off fun hb => ?_, fun e => off fun hb => ?_, fun e => off fun hb => ?_, fun e => off fun hb => ?_⟩
    · refine wr_i64 (by omega) (by omega) ?_
      repeat (refine And.intro rfl ?_)
      have A := adv hb I6 _ (.slice fa fn fc) (by rw [e]; exact hy) (by rw [e]; exact hwl) (by rw [e]; exact hwz)
      rw [e] at A
      rw [hb]
      exact ⟨A, by omega⟩
    · refine (cts_cap (first := []) (args := []) (cap := [.ptr 0 0, .ptr 1 0]) (cs157 wl b1 k1 k2 _ I6 hwl)).mono fun s H I7 l7 ⟨v', hs', hH, hw⟩ => ?_
      have hnz := next_size (b := b1) hwz
      have hw' := hw
      obtain ⟨p1, n1, c1, rfl, hp1, hpc1, hpm1⟩ := hw
      refine ⟨_, _, _, _, _, hs', hH, (ct54 _ I7).mono fun u I8 l8 hu => ⟨_, hu, Br.mk (fun h1 => ?_) (fun h1 => ?_)⟩⟩
      · have h1 : nameB (strL (nextW (wl, b1)).1) = false := by simpa using h1
        refine (ct115 _ hnz.1 I8).mono fun u I9 l9 hu => ?_
        have A := fun J v' h2 h3 h4 => adv hb J v' (.slice fa fn fc) h2 h3 h4
        rw [e] at A
        rw [hb] at h1 hu hw' hnz
        simp only [stepW, h1, Bool.false_eq_true, if_false, if_true, show ¬ (2 : Int) = 1 by decide] at A
        have A := A I9 _ (hy.mono (Mem.le_trans l7 (Mem.le_trans l8 l9))) (hw'.mono (Mem.le_trans l8 l9)) hnz.2
        obtain ⟨o, ho⟩ : ∃ o, o = unwordT (tx (nextW (wl, true)).1) := ⟨_, rfl⟩
        rw [← ho] at hu A
        have hu : u = .tuple #[.string (strB (o.getD [])), .bool o.isSome] := by rw [hu]; cases o <;> rfl
        refine ⟨_, _, hu, Br.mk (fun h5 => ?_) (fun h5 => ?_)⟩
        · rw [hb] at h5
          rw [h5, Bool.true_and] at A
          refine wr_i64 (by omega) (by omega) ?_
          repeat (refine And.intro rfl ?_)
          exact ⟨A, by omega⟩
        · rw [hb] at h5
          rw [h5, Bool.false_and] at A
          refine wr_i64 (by omega) (by omega) ?_
          repeat (refine And.intro rfl ?_)
          exact ⟨A, by omega⟩
      · have h1 : nameB (strL (nextW (wl, b1)).1) = true := by simpa using h1
        have A := fun J v' h2 h3 h4 => adv hb J v' (.slice fa fn fc) h2 h3 h4
        rw [e] at A
        rw [hb] at h1 hw' hnz
        simp only [stepW, h1, eq_self, if_true, show ¬ (2 : Int) = 1 by decide, if_false] at A
        refine wr_i64 (by omega) (by omega) ?_
        repeat (refine And.intro rfl ?_)
        rw [hb]
        exact ⟨A I8 _ (hy.mono (Mem.le_trans l7 l8)) (hw'.mono l8) hnz.2, by omega⟩
    · refine ⟨by decide, by decide, fun b4 => (cts_cap (first := []) (args := []) (cap := [.ptr 2 0, .ptr 1 0]) (cs158 wl hwz b1 k1 k2 b4 _ I6 hG6 hwl)).mono fun s H I7 l7 ⟨v', hs', hH, hw⟩ => ?_⟩
      have A := adv hb I7 v' (.slice fa fn fc) (by rw [e]; exact hy.mono l7) (by rw [e, hb] at *; exact hw) (by rw [e]; exact num_size hwz)
      rw [e] at A
      obtain ⟨p1, n1, c1, rfl, hp1, hpc1, hpm1⟩ := hw
      refine ⟨_, _, _, _, _, hs', hH, wr_i64 (by omega) (by omega) ?_⟩
      repeat (refine And.intro rfl ?_)
      rw [hb]
      exact ⟨A, by omega⟩
    · refine ⟨by decide, by decide, fun b4 => (cts_cap (first := []) (args := []) (cap := [.ptr 2 0, .ptr 1 0]) (cs158 wl hwz b1 k1 k2 b4 _ I6 hG6 hwl)).mono fun s H I7 l7 ⟨v', hs', hH, hw⟩ => ?_⟩
      have A := adv hb I7 v' (.slice fa fn fc) (by rw [e]; exact hy.mono l7) (by rw [e, hb] at *; exact hw) (by rw [e]; exact num_size hwz)
      rw [e] at A
      obtain ⟨p1, n1, c1, rfl, hp1, hpc1, hpm1⟩ := hw
      refine ⟨_, _, _, _, _, hs', hH, wr_i64 (by omega) (by omega) ?_⟩
      repeat (refine And.intro rfl ?_)
      rw [hb]
      exact ⟨A, by omega⟩
    · refine ⟨by decide, by decide, fun b4 => (cts_cap (first := []) (args := []) (cap := [.ptr 2 0, .ptr 1 0]) (cs158 wl hwz b1 k1 k2 b4 _ I6 hG6 hwl)).mono fun s H I7 l7 ⟨v', hs', hH, hw⟩ => ?_⟩
      have A := adv hb I7 v' (.slice fa fn fc) (by rw [e]; exact hy.mono l7) (by rw [e, hb] at *; exact hw) (by rw [e]; exact num_size hwz)
      rw [e] at A
      obtain ⟨p1, n1, c1, rfl, hp1, hpc1, hpm1⟩ := hw
      refine ⟨_, _, _, _, _, hs', hH, wr_i64 (by omega) (by omega) ?_⟩
      repeat (refine And.intro rfl ?_)
      rw [hb]
      exact ⟨A, by omega⟩
    · refine ⟨by decide, by decide, fun b4 => (cts_cap (first := []) (args := []) (cap := [.ptr 2 0, .ptr 1 0]) (cs158 wl hwz b1 k1 k2 b4 _ I6 hG6 hwl)).mono fun s H I7 l7 ⟨v', hs', hH, hw⟩ => ?_⟩
      have A := adv hb I7 v' (.slice fa fn fc) (by rw [e]; exact hy.mono l7) (by rw [e, hb] at *; exact hw) (by rw [e]; exact num_size hwz)
      rw [e] at A
      obtain ⟨p1, n1, c1, rfl, hp1, hpc1, hpm1⟩ := hw
      refine ⟨_, _, _, _, _, hs', hH, wr_i64 (by omega) (by omega) ?_⟩
      repeat (refine And.intro rfl ?_)
      rw [hb]
      exact ⟨A, by omega⟩
    · refine ⟨by decide, by decide, fun b4 => (cts_cap (first := []) (args := []) (cap := [.ptr 2 0, .ptr 1 0]) (cs158 wl hwz b1 k1 k2 b4 _ I6 hG6 hwl)).mono fun s H I7 l7 ⟨v', hs', hH, hw⟩ => ?_⟩
      have A := adv hb I7 v' (.slice fa fn fc) (by rw [e]; exact hy.mono l7) (by rw [e, hb] at *; exact hw) (by rw [e]; exact num_size hwz)
      rw [e] at A
      obtain ⟨p1, n1, c1, rfl, hp1, hpc1, hpm1⟩ := hw
      refine ⟨_, _, _, _, _, hs', hH, wr_i64 (by omega) (by omega) ?_⟩
      repeat (refine And.intro rfl ?_)
      rw [hb]
      exact ⟨A, by omega⟩
    · refine ⟨by decide, by decide, fun b4 => (cts_cap (first := []) (args := []) (cap := [.ptr 2 0, .ptr 1 0]) (cs158 wl hwz b1 k1 k2 b4 _ I6 hG6 hwl)).mono fun s H I7 l7 ⟨v', hs', hH, hw⟩ => ?_⟩
      have A := adv hb I7 v' (.slice fa fn fc) (by rw [e]; exact hy.mono l7) (by rw [e, hb] at *; exact hw) (by rw [e]; exact num_size hwz)
      rw [e] at A
      obtain ⟨p1, n1, c1, rfl, hp1, hpc1, hpm1⟩ := hw
      refine ⟨_, _, _, _, _, hs', hH, wr_i64 (by omega) (by omega) ?_⟩
      repeat (refine And.intro rfl ?_)
      rw [hb]
      exact ⟨A, by omega⟩
    · refine ⟨by decide, by decide, fun b4 => (cts_cap (first := []) (args := []) (cap := [.ptr 2 0, .ptr 1 0]) (cs158 wl hwz b1 k1 k2 b4 _ I6 hG6 hwl)).mono fun s H I7 l7 ⟨v', hs', hH, hw⟩ => ?_⟩
      have A := adv hb I7 v' (.slice fa fn fc) (by rw [e]; exact hy.mono l7) (by rw [e, hb] at *; exact hw) (by rw [e]; exact num_size hwz)
      rw [e] at A
      obtain ⟨p1, n1, c1, rfl, hp1, hpc1, hpm1⟩ := hw
      refine ⟨_, _, _, _, _, hs', hH, wr_i64 (by omega) (by omega) ?_⟩
      repeat (refine And.intro rfl ?_)
      rw [hb]
      exact ⟨A, by omega⟩
    · refine (fun b4 => (cts_cap (first := []) (args := []) (cap := [.ptr 2 0, .ptr 1 0]) (cs158 wl hwz b1 k1 k2 b4 _ I6 hG6 hwl)).mono fun s H I7 l7 ⟨v', hs', hH, hw⟩ => ?_)
      have A := adv hb I7 v' (.slice fa fn fc) (by rw [e]; exact hy.mono l7) (by rw [e, hb] at *; exact hw) (by rw [e]; exact num_size hwz)
      rw [e] at A
      obtain ⟨p1, n1, c1, rfl, hp1, hpc1, hpm1⟩ := hw
      refine ⟨_, _, _, _, _, hs', hH, wr_i64 (by omega) (by omega) ?_⟩
      repeat (refine And.intro rfl ?_)
      rw [hb]
      exact ⟨A, by omega⟩
    · refine (cts_cap (first := []) (args := []) (cap := [.ptr 0 0, .ptr 1 0]) (cs157 wl b1 k1 k2 _ I6 hwl)).mono fun s H I7 l7 ⟨v', hs', hH, hw⟩ => ?_
      have hnz := next_size (b := b1) hwz
      have hw' := hw
      obtain ⟨p1, n1, c1, rfl, hp1, hpc1, hpm1⟩ := hw
      refine ⟨_, _, _, _, _, hs', hH, (ct115 _ hnz.1 I7).mono fun u I8 l8 hu => ?_⟩
      rw [hb] at hu hw' hnz
      obtain ⟨o, ho⟩ : ∃ o, o = unwordT (tx (nextW (wl, true)).1) := ⟨_, rfl⟩
      rw [← ho] at hu
      have hu : u = .tuple #[.string (strB (o.getD [])), .bool o.isSome] := by rw [hu]; cases o <;> rfl
      have hob := unw_bytes ho.symm
      have hol : (strB (o.getD [])).size ≤ 1000000 := unw_size ho.symm hnz.1
      refine ⟨_, _, hu, by omega, fun a4 c5 I9 l9 h1 h2 h3 h4 => ?_⟩
      have A := adv hb I9 (.slice p1 n1 c1) (.slice a4 (strB (o.getD [])).size c5) (by rw [e]; show BySl I9 _ ((unwordT (tx (nextW (wl, true)).1)).getD []); rw [← ho]; exact bysl_str hob h1 (by omega) h2 h3 h4) (by rw [e]; exact hw'.mono (Mem.le_trans l8 l9)) (by rw [e]; exact hnz.2)
      rw [e] at A
      simp only [stepW, show ¬ (11 : Int) = 1 by decide, show ¬ (11 : Int) = 2 by decide, show ¬ (11 : Int) = 10 by decide, if_false, if_true, ← ho] at A
      refine Br.mk (fun h5 => ?_) (fun h5 => ?_)
      · rw [hb] at h5
        rw [h5, Bool.true_and] at A
        refine wr_i64 (by omega) (by omega) ?_
        repeat (refine And.intro rfl ?_)
        exact ⟨A, by omega⟩
      · rw [hb] at h5
        rw [h5, Bool.false_and] at A
        refine wr_i64 (by omega) (by omega) ?_
        repeat (refine And.intro rfl ?_)
        exact ⟨A, by omega⟩
  · have hjl : ¬ j < yn := of_decide_eq_false h
    have e := stop (.inr (List.drop_eq_nil_of_le (by omega)))
    exact Br.mk (fun h => fin _ (by rw [e, h, hemp, Bool.true_and])) (fun h => fin _ (by rw [e, h, Bool.false_and]))
