/- Part of a proof by the rules of the symbolic walk (see the law's own text): contracts of functions of the program. -/
import Derived.Test.YtdmhilnnendcoaaGR
open Go Go.Proofs Go.SE Go.RowKit
set_option linter.unusedVariables false
theorem strB_inj {xs ys : List Int} (hx : byteL xs) (hy : byteL ys) (h : strB xs = strB ys) : xs = ys := by
  refine u8s_inj hx hy ?_
  have := congrArg (fun s : ByteArray => s.data.toList) h
  exact this
theorem iE (x z : Int) : (!(x == z)) = !decide (x = z) := by by_cases h : x = z <;> simp [h]
theorem eE (x z : EvT) : ((x.1.1 == z.1.1 && (x.1.2.1 == z.1.2.1 && (x.1.2.2 == z.1.2.2 && true))) && (x.2.1 == z.2.1 && (x.2.2 == z.2.2 && true))) = decide (x = z) := by
  rw [Bool.eq_iff_iff]
  simp [Prod.ext_iff, and_assoc]
theorem hE (x z : HdT) : (x.1 == z.1 && (x.2.1 == z.2.1 && (x.2.2.1 == z.2.2.1 && (x.2.2.2.1 == z.2.2.2.1 && (x.2.2.2.2 == z.2.2.2.2 && true))))) = decide (x = z) := by
  rw [Bool.eq_iff_iff]
  simp [Prod.ext_iff]
theorem pE (x z : PtT) (hx : byteL x.2.1) (hz : byteL z.2.1) : (x.1 == z.1 && ((strB x.2.1).toList == (strB z.2.1).toList && (x.2.2 == z.2.2 && true))) = decide (x = z) := by
  rw [str_eq, Bool.eq_iff_iff]
  simp only [Bool.and_eq_true, beq_iff_eq, decide_eq_true_eq, and_true]
  constructor
  · rintro ⟨h1, h2, h3⟩
    exact Prod.ext h1 (Prod.ext (strB_inj hx hz h2) h3)
  · rintro rfl; exact ⟨rfl, rfl, rfl⟩
theorem eq_len {α : Type} [DecidableEq α] {xs ys : List α} (h : xs.length ≠ ys.length) : decide (xs = ys) = false := decide_eq_false fun e => h (by rw [e])
theorem eq_at {α : Type} [DecidableEq α] {xs ys : List α} {j : Nat} {x z : α} (hx : xs[j]? = some x) (hz : ys[j]? = some z) (h : x ≠ z) : decide (xs = ys) = false := decide_eq_false fun e => h (by rw [e, hz] at hx; exact (Option.some.inj hx).symm)
theorem oneI (l : List Int) : ∀ v ∈ l.flatMap cI, v.oneCell' = true := by
  intro v hv; rw [List.mem_flatMap] at hv; obtain ⟨x, _, hx⟩ := hv; simp only [cI, List.mem_singleton] at hx; subst hx; rfl
theorem oneE (l : List EvT) : ∀ v ∈ l.flatMap cE, v.oneCell' = true := by
  intro v hv; rw [List.mem_flatMap] at hv; obtain ⟨x, _, hx⟩ := hv; simp only [cE, List.mem_cons, List.not_mem_nil, or_false] at hx
  rcases hx with rfl | rfl | rfl | rfl | rfl <;> rfl
theorem oneP (l : List PtT) : ∀ v ∈ l.flatMap cP, v.oneCell' = true := by
  intro v hv; rw [List.mem_flatMap] at hv; obtain ⟨x, _, hx⟩ := hv; simp only [cP, List.mem_cons, List.not_mem_nil, or_false] at hx
  rcases hx with rfl | rfl | rfl <;> rfl
theorem oneH (l : List HdT) : ∀ v ∈ l.flatMap cH, v.oneCell' = true := by
  intro v hv; rw [List.mem_flatMap] at hv; obtain ⟨x, _, hx⟩ := hv; simp only [cH, List.mem_cons, List.not_mem_nil, or_false] at hx
  rcases hx with rfl | rfl | rfl | rfl | rfl <;> rfl

theorem ct22 (xs ys : List Int) (a b : Option Addr) (n m c d : Nat) (I : Mem) (h : SlM I a n 1 (xs.flatMap cI)) (h' : SlM I b m 1 (ys.flatMap cI)) :
    Ct Try.prog (fnv 22) #[.slice a n c, .slice b m d] I (fun v _ => v = .bool (decide (xs = ys))) := by
  obtain ⟨D, hD⟩ : ∃ D, D = decide (xs = ys) := ⟨_, rfl⟩
  rw [← hD]
  refine viaR (ct_via (A := { loops := [(4, ⟨[(0, .keep), (1, .keep), (12, .keep), (13, .sh (.int .i64))], [], [], fun vals _ _ _ => match vals with | [.int .i64 j] => 0 ≤ j ∧ j ≤ n ∧ xs.take j.toNat = ys.take j.toNat | _ => False, fun vals _ => match vals with | [.int .i64 j] => (n - j).toNat | _ => 0⟩)] }) Try.func22 rfl Try.call22 rfl rfl) (Br ((↑n : Int) != (↑m : Int)) (Value.bool false = Value.bool D) ((SV.v (Value.slice a n c) = SV.v (Value.slice a n c) ∧ SV.v (Value.slice b m d) = SV.v (Value.slice b m d) ∧ SV.v (Value.int IntKind.i64 (↑n : Int)) = SV.v (Value.int IntKind.i64 (↑n : Int)) ∧ (0 : Int) ≤ (0 : Int) ∧ (0 : Int) ≤ (↑n : Int) ∧ @List.nil Int = @List.nil Int) ∧ ∀ (I' G' : Mem), Mem.le I I' → ∀ (n_1 : Int), (0 : Int) ≤ n_1 ∧ n_1 ≤ (↑n : Int) ∧ List.take (Int.toNat n_1) xs = List.take (Int.toNat n_1) ys → Br (decide (n_1 < (↑n : Int))) ((0 : Int) ≤ n_1 ∧ n_1 < (↑n : Int) ∧ Option.isSome a = true ∧ ∃ (n_2 : Int), atI I' a (Int.toNat n_1 * (1 : Nat) + (0 : Nat)) = some (Value.int IntKind.i64 n_2) ∧ (0 : Int) ≤ n_1 ∧ n_1 < (↑m : Int) ∧ Option.isSome b = true ∧ ∃ (n_3 : Int), atI I' b (Int.toNat n_1 * (1 : Nat) + (0 : Nat)) = some (Value.int IntKind.i64 n_3) ∧ Br (n_2 != n_3) (Value.bool false = Value.bool D) (Wr IntKind.i64 (n_1 + (1 : Int)) fun (c_1 : Int) => SV.v (Value.slice a n c) = SV.v (Value.slice a n c) ∧ SV.v (Value.slice b m d) = SV.v (Value.slice b m d) ∧ SV.v (Value.int IntKind.i64 (↑n : Int)) = SV.v (Value.int IntKind.i64 (↑n : Int)) ∧ ((0 : Int) ≤ c_1 ∧ c_1 ≤ (↑n : Int) ∧ List.take (Int.toNat c_1) xs = List.take (Int.toNat c_1) ys) ∧ Int.toNat ((↑n : Int) - c_1) < Int.toNat ((↑n : Int) - n_1))) (Value.bool true = Value.bool D))) (by kernel_rfl) ?_
  simp only [eq_self, true_and]
  have hx1 := h.len
  have hy1 := h'.len
  have hx2 := fm_len (c := cI) (k := 1) (fun _ => rfl) xs
  have hy2 := fm_len (c := cI) (k := 1) (fun _ => rfl) ys
  have hm := h.max
  have hmx : maxLen = 9223372036854775807 := by decide
  have hn : n = xs.length := by omega
  have hn' : m = ys.length := by omega
  refine Br.mk (fun g => ?_) (fun g => ⟨⟨by omega, by omega, trivial⟩, fun I1 _ l1 j ⟨j0, j1, hj⟩ => Br.mk (fun hlt => ?_) (fun hge => ?_)⟩)
  · have g : (n : Int) ≠ m := by simpa using g
    rw [hD, eq_len (by omega)]
  · have hlt := of_decide_eq_true hlt
    have g : n = m := by have : (n : Int) = m := (by simpa using g); omega
    obtain ⟨x, hx, e1⟩ := lst_at (c := cI) (k := 1) (fun _ => rfl) (h.mono l1) hn j0 hlt
    obtain ⟨z, hz, e2⟩ := lst_at (c := cI) (k := 1) (fun _ => rfl) (h'.mono l1) hn' j0 (by omega)
    refine ⟨j0, hlt, h.isSome (by omega), _, e1 0 _ (by omega) rfl, j0, by omega, h'.isSome (by omega), _, e2 0 _ (by omega) rfl, ?_⟩
    skip
    refine Br.mk (fun hq => ?_) (fun hq => ?_)
    · have hq : x ≠ z := by simpa using hq
      rw [hD, eq_at hx hz hq]
    · have hq : x = z := by simpa using hq
      refine wr_i64 (by omega) (by omega) ⟨⟨by omega, by omega, ?_⟩, by omega⟩
      rw [show (j + 1).toNat = j.toNat + 1 by omega, take_succ' hx, take_succ' hz, hj, hq]
  · have hge := of_decide_eq_false hge
    have g : n = m := by have : (n : Int) = m := (by simpa using g); omega
    rw [List.take_of_length_le (by omega), List.take_of_length_le (by omega)] at hj
    rw [hD, decide_eq_true hj]
theorem ct27 (xs : List Int) (a : Option Addr) (n c : Nat) (I : Mem) (h : SlM I a n 1 (xs.flatMap cI)) (hn : n ≤ 1000000) :
    Ct Try.prog (fnv 27) #[.slice a n c] I (fun v I' => LstN 1 I I' v (xs.flatMap cI)) := by
  obtain ⟨L, hL⟩ : ∃ L, L = xs.flatMap cI := ⟨_, rfl⟩
  rw [← hL] at h ⊢
  have h1 : ∀ v ∈ L, v.oneCell' = true := by rw [hL]; exact oneI xs
  refine viaR (ctF_via (A := { }) Try.func27 rfl Try.call27 rfl rfl) (Br (Option.isNone a) (LstN (1 : Nat) I I (Value.slice none (0 : Nat) (0 : Nat)) L) (∃ (ys : List Value), List.length ys = n * (1 : Nat) ∧ (a = none → n = (0 : Nat)) ∧ (∀ (j : Nat) (v : Value), ys[j]? = some v → atI I a j = some v) ∧ (∀ (v : Value), v ∈ ys → Value.oneCell' v = true) ∧ (0 : Nat) = (0 : Nat) ∧ (0 : Nat) + n ≤ (9223372036854775807 : Nat) ∧ ((0 : Nat) + n) * (8 : Nat) ≤ (140737488355328 : Nat) ∧ ∀ (a : Option Addr) (cp : Nat) (I' : Mem), Mem.le I I' → RowF I I' a cp (1 : Nat) ys → LstN (1 : Nat) I I' (Value.slice a ((0 : Nat) + n) cp) L)) (by kernel_rfl) ?_
  refine Br.mk (fun h0 => ?_) (fun h0 => ⟨L, h.len, h.nil, h.at_, h1, rfl, by omega, by omega, fun a' cp I' _ hrow => lstN_row hrow (Mem.le_refl _) (by omega) (by simpa using h.len) (by simp)⟩)
  · have h0 : a = none := by simpa using h0
    have hz := h.nil h0
    have hl := h.len
    rw [hz, Nat.zero_mul] at hl
    rw [List.eq_nil_of_length_eq_zero hl]
    exact ⟨none, 0, 0, rfl, sl_nil _ _, Nat.le_refl 0, Nat.zero_le _, fun hc => absurd hc (by omega)⟩

theorem ct23 (xs ys : List Int) (a b : Option Addr) (n m c d : Nat) (I : Mem) (h : SlM I a n 1 (xs.flatMap cI)) (h' : SlM I b m 1 (ys.flatMap cI)) :
    Ct Try.prog (fnv 23) #[.slice a n c, .slice b m d] I (fun v _ => v = .bool (decide (xs = ys))) := by
  obtain ⟨D, hD⟩ : ∃ D, D = decide (xs = ys) := ⟨_, rfl⟩
  rw [← hD]
  refine viaR (ct_via (A := { loops := [(4, ⟨[(0, .keep), (1, .keep), (12, .keep), (13, .sh (.int .i64))], [], [], fun vals _ _ _ => match vals with | [.int .i64 j] => 0 ≤ j ∧ j ≤ n ∧ xs.take j.toNat = ys.take j.toNat | _ => False, fun vals _ => match vals with | [.int .i64 j] => (n - j).toNat | _ => 0⟩)] }) Try.func23 rfl Try.call23 rfl rfl) (Br ((↑n : Int) != (↑m : Int)) (Value.bool false = Value.bool D) ((SV.v (Value.slice a n c) = SV.v (Value.slice a n c) ∧ SV.v (Value.slice b m d) = SV.v (Value.slice b m d) ∧ SV.v (Value.int IntKind.i64 (↑n : Int)) = SV.v (Value.int IntKind.i64 (↑n : Int)) ∧ (0 : Int) ≤ (0 : Int) ∧ (0 : Int) ≤ (↑n : Int) ∧ @List.nil Int = @List.nil Int) ∧ ∀ (I' G' : Mem), Mem.le I I' → ∀ (n_1 : Int), (0 : Int) ≤ n_1 ∧ n_1 ≤ (↑n : Int) ∧ List.take (Int.toNat n_1) xs = List.take (Int.toNat n_1) ys → Br (decide (n_1 < (↑n : Int))) ((0 : Int) ≤ n_1 ∧ n_1 < (↑n : Int) ∧ Option.isSome a = true ∧ ∃ (n_2 : Int), atI I' a (Int.toNat n_1 * (1 : Nat) + (0 : Nat)) = some (Value.int IntKind.i64 n_2) ∧ (0 : Int) ≤ n_1 ∧ n_1 < (↑m : Int) ∧ Option.isSome b = true ∧ ∃ (n_3 : Int), atI I' b (Int.toNat n_1 * (1 : Nat) + (0 : Nat)) = some (Value.int IntKind.i64 n_3) ∧ Br (n_2 != n_3) (Value.bool false = Value.bool D) (Wr IntKind.i64 (n_1 + (1 : Int)) fun (c_1 : Int) => SV.v (Value.slice a n c) = SV.v (Value.slice a n c) ∧ SV.v (Value.slice b m d) = SV.v (Value.slice b m d) ∧ SV.v (Value.int IntKind.i64 (↑n : Int)) = SV.v (Value.int IntKind.i64 (↑n : Int)) ∧ ((0 : Int) ≤ c_1 ∧ c_1 ≤ (↑n : Int) ∧ List.take (Int.toNat c_1) xs = List.take (Int.toNat c_1) ys) ∧ Int.toNat ((↑n : Int) - c_1) < Int.toNat ((↑n : Int) - n_1))) (Value.bool true = Value.bool D))) (by kernel_rfl) ?_
  simp only [eq_self, true_and]
  have hx1 := h.len
  have hy1 := h'.len
  have hx2 := fm_len (c := cI) (k := 1) (fun _ => rfl) xs
  have hy2 := fm_len (c := cI) (k := 1) (fun _ => rfl) ys
  have hm := h.max
  have hmx : maxLen = 9223372036854775807 := by decide
  have hn : n = xs.length := by omega
  have hn' : m = ys.length := by omega
  refine Br.mk (fun g => ?_) (fun g => ⟨⟨by omega, by omega, trivial⟩, fun I1 _ l1 j ⟨j0, j1, hj⟩ => Br.mk (fun hlt => ?_) (fun hge => ?_)⟩)
  · have g : (n : Int) ≠ m := by simpa using g
    rw [hD, eq_len (by omega)]
  · have hlt := of_decide_eq_true hlt
    have g : n = m := by have : (n : Int) = m := (by simpa using g); omega
    obtain ⟨x, hx, e1⟩ := lst_at (c := cI) (k := 1) (fun _ => rfl) (h.mono l1) hn j0 hlt
    obtain ⟨z, hz, e2⟩ := lst_at (c := cI) (k := 1) (fun _ => rfl) (h'.mono l1) hn' j0 (by omega)
    refine ⟨j0, hlt, h.isSome (by omega), _, e1 0 _ (by omega) rfl, j0, by omega, h'.isSome (by omega), _, e2 0 _ (by omega) rfl, ?_⟩
    skip
    refine Br.mk (fun hq => ?_) (fun hq => ?_)
    · have hq : x ≠ z := by simpa using hq
      rw [hD, eq_at hx hz hq]
    · have hq : x = z := by simpa using hq
      refine wr_i64 (by omega) (by omega) ⟨⟨by omega, by omega, ?_⟩, by omega⟩
      rw [show (j + 1).toNat = j.toNat + 1 by omega, take_succ' hx, take_succ' hz, hj, hq]
  · have hge := of_decide_eq_false hge
    have g : n = m := by have : (n : Int) = m := (by simpa using g); omega
    rw [List.take_of_length_le (by omega), List.take_of_length_le (by omega)] at hj
    rw [hD, decide_eq_true hj]
theorem ct28 (xs : List Int) (a : Option Addr) (n c : Nat) (I : Mem) (h : SlM I a n 1 (xs.flatMap cI)) (hn : n ≤ 1000000) :
    Ct Try.prog (fnv 28) #[.slice a n c] I (fun v I' => LstN 1 I I' v (xs.flatMap cI)) := by
  obtain ⟨L, hL⟩ : ∃ L, L = xs.flatMap cI := ⟨_, rfl⟩
  rw [← hL] at h ⊢
  have h1 : ∀ v ∈ L, v.oneCell' = true := by rw [hL]; exact oneI xs
  refine viaR (ctF_via (A := { }) Try.func28 rfl Try.call28 rfl rfl) (Br (Option.isNone a) (LstN (1 : Nat) I I (Value.slice none (0 : Nat) (0 : Nat)) L) (∃ (ys : List Value), List.length ys = n * (1 : Nat) ∧ (a = none → n = (0 : Nat)) ∧ (∀ (j : Nat) (v : Value), ys[j]? = some v → atI I a j = some v) ∧ (∀ (v : Value), v ∈ ys → Value.oneCell' v = true) ∧ (0 : Nat) = (0 : Nat) ∧ (0 : Nat) + n ≤ (9223372036854775807 : Nat) ∧ ((0 : Nat) + n) * (8 : Nat) ≤ (140737488355328 : Nat) ∧ ∀ (a : Option Addr) (cp : Nat) (I' : Mem), Mem.le I I' → RowF I I' a cp (1 : Nat) ys → LstN (1 : Nat) I I' (Value.slice a ((0 : Nat) + n) cp) L)) (by kernel_rfl) ?_
  refine Br.mk (fun h0 => ?_) (fun h0 => ⟨L, h.len, h.nil, h.at_, h1, rfl, by omega, by omega, fun a' cp I' _ hrow => lstN_row hrow (Mem.le_refl _) (by omega) (by simpa using h.len) (by simp)⟩)
  · have h0 : a = none := by simpa using h0
    have hz := h.nil h0
    have hl := h.len
    rw [hz, Nat.zero_mul] at hl
    rw [List.eq_nil_of_length_eq_zero hl]
    exact ⟨none, 0, 0, rfl, sl_nil _ _, Nat.le_refl 0, Nat.zero_le _, fun hc => absurd hc (by omega)⟩

theorem ct24 (xs ys : List EvT) (a b : Option Addr) (n m c d : Nat) (I : Mem) (h : SlM I a n 5 (xs.flatMap cE)) (h' : SlM I b m 5 (ys.flatMap cE)) :
    Ct Try.prog (fnv 24) #[.slice a n c, .slice b m d] I (fun v _ => v = .bool (decide (xs = ys))) := by
  obtain ⟨D, hD⟩ : ∃ D, D = decide (xs = ys) := ⟨_, rfl⟩
  rw [← hD]
  refine viaR (ct_via (A := { loops := [(4, ⟨[(0, .keep), (1, .keep), (12, .keep), (13, .sh (.int .i64))], [], [], fun vals _ _ _ => match vals with | [.int .i64 j] => 0 ≤ j ∧ j ≤ n ∧ xs.take j.toNat = ys.take j.toNat | _ => False, fun vals _ => match vals with | [.int .i64 j] => (n - j).toNat | _ => 0⟩)] }) Try.func24 rfl Try.call24 rfl rfl) (Br ((↑n : Int) != (↑m : Int)) (Value.bool false = Value.bool D) ((SV.v (Value.slice a n c) = SV.v (Value.slice a n c) ∧ SV.v (Value.slice b m d) = SV.v (Value.slice b m d) ∧ SV.v (Value.int IntKind.i64 (↑n : Int)) = SV.v (Value.int IntKind.i64 (↑n : Int)) ∧ (0 : Int) ≤ (0 : Int) ∧ (0 : Int) ≤ (↑n : Int) ∧ @List.nil EvT = @List.nil EvT) ∧ ∀ (I' G' : Mem), Mem.le I I' → ∀ (n_1 : Int), (0 : Int) ≤ n_1 ∧ n_1 ≤ (↑n : Int) ∧ List.take (Int.toNat n_1) xs = List.take (Int.toNat n_1) ys → Br (decide (n_1 < (↑n : Int))) ((0 : Int) ≤ n_1 ∧ n_1 < (↑n : Int) ∧ Option.isSome a = true ∧ (5 : Nat) = (5 : Nat) ∧ ∃ (n_2 : Int), atI I' a (Int.toNat n_1 * (5 : Nat) + (0 : Nat)) = some (Value.int IntKind.i64 n_2) ∧ ∃ (n_3 : Int), atI I' a (Int.toNat n_1 * (5 : Nat) + (1 : Nat)) = some (Value.int IntKind.i64 n_3) ∧ ∃ (n_4 : Int), atI I' a (Int.toNat n_1 * (5 : Nat) + (2 : Nat)) = some (Value.int IntKind.i64 n_4) ∧ ∃ (n_5 : Int), atI I' a (Int.toNat n_1 * (5 : Nat) + (3 : Nat)) = some (Value.int IntKind.i64 n_5) ∧ ∃ (n_6 : Int), atI I' a (Int.toNat n_1 * (5 : Nat) + (4 : Nat)) = some (Value.int IntKind.i64 n_6) ∧ (0 : Int) ≤ n_1 ∧ n_1 < (↑m : Int) ∧ Option.isSome b = true ∧ (5 : Nat) = (5 : Nat) ∧ ∃ (n_7 : Int), atI I' b (Int.toNat n_1 * (5 : Nat) + (0 : Nat)) = some (Value.int IntKind.i64 n_7) ∧ ∃ (n_8 : Int), atI I' b (Int.toNat n_1 * (5 : Nat) + (1 : Nat)) = some (Value.int IntKind.i64 n_8) ∧ ∃ (n_9 : Int), atI I' b (Int.toNat n_1 * (5 : Nat) + (2 : Nat)) = some (Value.int IntKind.i64 n_9) ∧ ∃ (n_10 : Int), atI I' b (Int.toNat n_1 * (5 : Nat) + (3 : Nat)) = some (Value.int IntKind.i64 n_10) ∧ ∃ (n_11 : Int), atI I' b (Int.toNat n_1 * (5 : Nat) + (4 : Nat)) = some (Value.int IntKind.i64 n_11) ∧ Br (!(n_2 == n_7 && (n_3 == n_8 && (n_4 == n_9 && true)) && (n_5 == n_10 && (n_6 == n_11 && true)))) (Value.bool false = Value.bool D) (Wr IntKind.i64 (n_1 + (1 : Int)) fun (c_1 : Int) => SV.v (Value.slice a n c) = SV.v (Value.slice a n c) ∧ SV.v (Value.slice b m d) = SV.v (Value.slice b m d) ∧ SV.v (Value.int IntKind.i64 (↑n : Int)) = SV.v (Value.int IntKind.i64 (↑n : Int)) ∧ ((0 : Int) ≤ c_1 ∧ c_1 ≤ (↑n : Int) ∧ List.take (Int.toNat c_1) xs = List.take (Int.toNat c_1) ys) ∧ Int.toNat ((↑n : Int) - c_1) < Int.toNat ((↑n : Int) - n_1))) (Value.bool true = Value.bool D))) (by kernel_rfl) ?_
  simp only [eq_self, true_and]
  have hx1 := h.len
  have hy1 := h'.len
  have hx2 := fm_len (c := cE) (k := 5) (fun _ => rfl) xs
  have hy2 := fm_len (c := cE) (k := 5) (fun _ => rfl) ys
  have hm := h.max
  have hmx : maxLen = 9223372036854775807 := by decide
  have hn : n = xs.length := by omega
  have hn' : m = ys.length := by omega
  refine Br.mk (fun g => ?_) (fun g => ⟨⟨by omega, by omega, trivial⟩, fun I1 _ l1 j ⟨j0, j1, hj⟩ => Br.mk (fun hlt => ?_) (fun hge => ?_)⟩)
  · have g : (n : Int) ≠ m := by simpa using g
    rw [hD, eq_len (by omega)]
  · have hlt := of_decide_eq_true hlt
    have g : n = m := by have : (n : Int) = m := (by simpa using g); omega
    obtain ⟨x, hx, e1⟩ := lst_at (c := cE) (k := 5) (fun _ => rfl) (h.mono l1) hn j0 hlt
    obtain ⟨z, hz, e2⟩ := lst_at (c := cE) (k := 5) (fun _ => rfl) (h'.mono l1) hn' j0 (by omega)
    refine ⟨j0, hlt, h.isSome (by omega), _, e1 0 _ (by omega) rfl, _, e1 1 _ (by omega) rfl, _, e1 2 _ (by omega) rfl, _, e1 3 _ (by omega) rfl, _, e1 4 _ (by omega) rfl, j0, by omega, h'.isSome (by omega), _, e2 0 _ (by omega) rfl, _, e2 1 _ (by omega) rfl, _, e2 2 _ (by omega) rfl, _, e2 3 _ (by omega) rfl, _, e2 4 _ (by omega) rfl, ?_⟩
    rw [eE]
    refine Br.mk (fun hq => ?_) (fun hq => ?_)
    · have hq : x ≠ z := by simpa using hq
      rw [hD, eq_at hx hz hq]
    · have hq : x = z := by simpa using hq
      refine wr_i64 (by omega) (by omega) ⟨⟨by omega, by omega, ?_⟩, by omega⟩
      rw [show (j + 1).toNat = j.toNat + 1 by omega, take_succ' hx, take_succ' hz, hj, hq]
  · have hge := of_decide_eq_false hge
    have g : n = m := by have : (n : Int) = m := (by simpa using g); omega
    rw [List.take_of_length_le (by omega), List.take_of_length_le (by omega)] at hj
    rw [hD, decide_eq_true hj]
theorem ct29 (xs : List EvT) (a : Option Addr) (n c : Nat) (I : Mem) (h : SlM I a n 5 (xs.flatMap cE)) (hn : n ≤ 1000000) :
    Ct Try.prog (fnv 29) #[.slice a n c] I (fun v I' => LstN 5 I I' v (xs.flatMap cE)) := by
  obtain ⟨L, hL⟩ : ∃ L, L = xs.flatMap cE := ⟨_, rfl⟩
  rw [← hL] at h ⊢
  have h1 : ∀ v ∈ L, v.oneCell' = true := by rw [hL]; exact oneE xs
  refine viaR (ctF_via (A := { }) Try.func29 rfl Try.call29 rfl rfl) (Br (Option.isNone a) (LstN (5 : Nat) I I (Value.slice none (0 : Nat) (0 : Nat)) L) (∃ (ys : List Value), List.length ys = n * (5 : Nat) ∧ (a = none → n = (0 : Nat)) ∧ (∀ (j : Nat) (v : Value), ys[j]? = some v → atI I a j = some v) ∧ (∀ (v : Value), v ∈ ys → Value.oneCell' v = true) ∧ (0 : Nat) = (0 : Nat) ∧ (0 : Nat) + n ≤ (9223372036854775807 : Nat) ∧ ((0 : Nat) + n) * (40 : Nat) ≤ (140737488355328 : Nat) ∧ ∀ (a : Option Addr) (cp : Nat) (I' : Mem), Mem.le I I' → RowF I I' a cp (5 : Nat) ys → LstN (5 : Nat) I I' (Value.slice a ((0 : Nat) + n) cp) L)) (by kernel_rfl) ?_
  refine Br.mk (fun h0 => ?_) (fun h0 => ⟨L, h.len, h.nil, h.at_, h1, rfl, by omega, by omega, fun a' cp I' _ hrow => lstN_row hrow (Mem.le_refl _) (by omega) (by simpa using h.len) (by simp)⟩)
  · have h0 : a = none := by simpa using h0
    have hz := h.nil h0
    have hl := h.len
    rw [hz, Nat.zero_mul] at hl
    rw [List.eq_nil_of_length_eq_zero hl]
    exact ⟨none, 0, 0, rfl, sl_nil _ _, Nat.le_refl 0, Nat.zero_le _, fun hc => absurd hc (by omega)⟩

theorem ct25 (xs ys : List PtT) (hpx : ∀ x ∈ xs, byteL x.2.1) (hpy : ∀ x ∈ ys, byteL x.2.1) (a b : Option Addr) (n m c d : Nat) (I : Mem) (h : SlM I a n 3 (xs.flatMap cP)) (h' : SlM I b m 3 (ys.flatMap cP)) :
    Ct Try.prog (fnv 25) #[.slice a n c, .slice b m d] I (fun v _ => v = .bool (decide (xs = ys))) := by
  obtain ⟨D, hD⟩ : ∃ D, D = decide (xs = ys) := ⟨_, rfl⟩
  rw [← hD]
  refine viaR (ct_via (A := { loops := [(4, ⟨[(0, .keep), (1, .keep), (12, .keep), (13, .sh (.int .i64))], [], [], fun vals _ _ _ => match vals with | [.int .i64 j] => 0 ≤ j ∧ j ≤ n ∧ xs.take j.toNat = ys.take j.toNat | _ => False, fun vals _ => match vals with | [.int .i64 j] => (n - j).toNat | _ => 0⟩)] }) Try.func25 rfl Try.call25 rfl rfl) (Br ((↑n : Int) != (↑m : Int)) (Value.bool false = Value.bool D) ((SV.v (Value.slice a n c) = SV.v (Value.slice a n c) ∧ SV.v (Value.slice b m d) = SV.v (Value.slice b m d) ∧ SV.v (Value.int IntKind.i64 (↑n : Int)) = SV.v (Value.int IntKind.i64 (↑n : Int)) ∧ (0 : Int) ≤ (0 : Int) ∧ (0 : Int) ≤ (↑n : Int) ∧ @List.nil PtT = @List.nil PtT) ∧ ∀ (I' G' : Mem), Mem.le I I' → ∀ (n_1 : Int), (0 : Int) ≤ n_1 ∧ n_1 ≤ (↑n : Int) ∧ List.take (Int.toNat n_1) xs = List.take (Int.toNat n_1) ys → Br (decide (n_1 < (↑n : Int))) ((0 : Int) ≤ n_1 ∧ n_1 < (↑n : Int) ∧ Option.isSome a = true ∧ (3 : Nat) = (3 : Nat) ∧ ∃ (n_2 : Int), atI I' a (Int.toNat n_1 * (3 : Nat) + (0 : Nat)) = some (Value.int IntKind.i64 n_2) ∧ ∃ (q : ByteArray), atI I' a (Int.toNat n_1 * (3 : Nat) + (1 : Nat)) = some (Value.string q) ∧ ∃ (n_3 : Int), atI I' a (Int.toNat n_1 * (3 : Nat) + (2 : Nat)) = some (Value.int IntKind.i64 n_3) ∧ (0 : Int) ≤ n_1 ∧ n_1 < (↑m : Int) ∧ Option.isSome b = true ∧ (3 : Nat) = (3 : Nat) ∧ ∃ (n_4 : Int), atI I' b (Int.toNat n_1 * (3 : Nat) + (0 : Nat)) = some (Value.int IntKind.i64 n_4) ∧ ∃ (q_1 : ByteArray), atI I' b (Int.toNat n_1 * (3 : Nat) + (1 : Nat)) = some (Value.string q_1) ∧ ∃ (n_5 : Int), atI I' b (Int.toNat n_1 * (3 : Nat) + (2 : Nat)) = some (Value.int IntKind.i64 n_5) ∧ Br (!(n_2 == n_4 && (ByteArray.toList q == ByteArray.toList q_1 && (n_3 == n_5 && true)))) (Value.bool false = Value.bool D) (Wr IntKind.i64 (n_1 + (1 : Int)) fun (c_1 : Int) => SV.v (Value.slice a n c) = SV.v (Value.slice a n c) ∧ SV.v (Value.slice b m d) = SV.v (Value.slice b m d) ∧ SV.v (Value.int IntKind.i64 (↑n : Int)) = SV.v (Value.int IntKind.i64 (↑n : Int)) ∧ ((0 : Int) ≤ c_1 ∧ c_1 ≤ (↑n : Int) ∧ List.take (Int.toNat c_1) xs = List.take (Int.toNat c_1) ys) ∧ Int.toNat ((↑n : Int) - c_1) < Int.toNat ((↑n : Int) - n_1))) (Value.bool true = Value.bool D))) (by kernel_rfl) ?_
  simp only [eq_self, true_and]
  have hx1 := h.len
  have hy1 := h'.len
  have hx2 := fm_len (c := cP) (k := 3) (fun _ => rfl) xs
  have hy2 := fm_len (c := cP) (k := 3) (fun _ => rfl) ys
  have hm := h.max
  have hmx : maxLen = 9223372036854775807 := by decide
  have hn : n = xs.length := by omega
  have hn' : m = ys.length := by omega
  refine Br.mk (fun g => ?_) (fun g => ⟨⟨by omega, by omega, trivial⟩, fun I1 _ l1 j ⟨j0, j1, hj⟩ => Br.mk (fun hlt => ?_) (fun hge => ?_)⟩)
  · have g : (n : Int) ≠ m := by simpa using g
    rw [hD, eq_len (by omega)]
  · have hlt := of_decide_eq_true hlt
    have g : n = m := by have : (n : Int) = m := (by simpa using g); omega
    obtain ⟨x, hx, e1⟩ := lst_at (c := cP) (k := 3) (fun _ => rfl) (h.mono l1) hn j0 hlt
    obtain ⟨z, hz, e2⟩ := lst_at (c := cP) (k := 3) (fun _ => rfl) (h'.mono l1) hn' j0 (by omega)
    refine ⟨j0, hlt, h.isSome (by omega), _, e1 0 _ (by omega) rfl, _, e1 1 _ (by omega) rfl, _, e1 2 _ (by omega) rfl, j0, by omega, h'.isSome (by omega), _, e2 0 _ (by omega) rfl, _, e2 1 _ (by omega) rfl, _, e2 2 _ (by omega) rfl, ?_⟩
    rw [pE x z (hpx x (List.mem_of_getElem? hx)) (hpy z (List.mem_of_getElem? hz))]
    refine Br.mk (fun hq => ?_) (fun hq => ?_)
    · have hq : x ≠ z := by simpa using hq
      rw [hD, eq_at hx hz hq]
    · have hq : x = z := by simpa using hq
      refine wr_i64 (by omega) (by omega) ⟨⟨by omega, by omega, ?_⟩, by omega⟩
      rw [show (j + 1).toNat = j.toNat + 1 by omega, take_succ' hx, take_succ' hz, hj, hq]
  · have hge := of_decide_eq_false hge
    have g : n = m := by have : (n : Int) = m := (by simpa using g); omega
    rw [List.take_of_length_le (by omega), List.take_of_length_le (by omega)] at hj
    rw [hD, decide_eq_true hj]
theorem ct30 (xs : List PtT) (a : Option Addr) (n c : Nat) (I : Mem) (h : SlM I a n 3 (xs.flatMap cP)) (hn : n ≤ 1000000) :
    Ct Try.prog (fnv 30) #[.slice a n c] I (fun v I' => LstN 3 I I' v (xs.flatMap cP)) := by
  obtain ⟨L, hL⟩ : ∃ L, L = xs.flatMap cP := ⟨_, rfl⟩
  rw [← hL] at h ⊢
  have h1 : ∀ v ∈ L, v.oneCell' = true := by rw [hL]; exact oneP xs
  refine viaR (ctF_via (A := { }) Try.func30 rfl Try.call30 rfl rfl) (Br (Option.isNone a) (LstN (3 : Nat) I I (Value.slice none (0 : Nat) (0 : Nat)) L) (∃ (ys : List Value), List.length ys = n * (3 : Nat) ∧ (a = none → n = (0 : Nat)) ∧ (∀ (j : Nat) (v : Value), ys[j]? = some v → atI I a j = some v) ∧ (∀ (v : Value), v ∈ ys → Value.oneCell' v = true) ∧ (0 : Nat) = (0 : Nat) ∧ (0 : Nat) + n ≤ (9223372036854775807 : Nat) ∧ ((0 : Nat) + n) * (32 : Nat) ≤ (140737488355328 : Nat) ∧ ∀ (a : Option Addr) (cp : Nat) (I' : Mem), Mem.le I I' → RowF I I' a cp (3 : Nat) ys → LstN (3 : Nat) I I' (Value.slice a ((0 : Nat) + n) cp) L)) (by kernel_rfl) ?_
  refine Br.mk (fun h0 => ?_) (fun h0 => ⟨L, h.len, h.nil, h.at_, h1, rfl, by omega, by omega, fun a' cp I' _ hrow => lstN_row hrow (Mem.le_refl _) (by omega) (by simpa using h.len) (by simp)⟩)
  · have h0 : a = none := by simpa using h0
    have hz := h.nil h0
    have hl := h.len
    rw [hz, Nat.zero_mul] at hl
    rw [List.eq_nil_of_length_eq_zero hl]
    exact ⟨none, 0, 0, rfl, sl_nil _ _, Nat.le_refl 0, Nat.zero_le _, fun hc => absurd hc (by omega)⟩

theorem ct26 (xs ys : List HdT) (a b : Option Addr) (n m c d : Nat) (I : Mem) (h : SlM I a n 5 (xs.flatMap cH)) (h' : SlM I b m 5 (ys.flatMap cH)) :
    Ct Try.prog (fnv 26) #[.slice a n c, .slice b m d] I (fun v _ => v = .bool (decide (xs = ys))) := by
  obtain ⟨D, hD⟩ : ∃ D, D = decide (xs = ys) := ⟨_, rfl⟩
  rw [← hD]
  refine viaR (ct_via (A := { loops := [(4, ⟨[(0, .keep), (1, .keep), (12, .keep), (13, .sh (.int .i64))], [], [], fun vals _ _ _ => match vals with | [.int .i64 j] => 0 ≤ j ∧ j ≤ n ∧ xs.take j.toNat = ys.take j.toNat | _ => False, fun vals _ => match vals with | [.int .i64 j] => (n - j).toNat | _ => 0⟩)] }) Try.func26 rfl Try.call26 rfl rfl) (Br ((↑n : Int) != (↑m : Int)) (Value.bool false = Value.bool D) ((SV.v (Value.slice a n c) = SV.v (Value.slice a n c) ∧ SV.v (Value.slice b m d) = SV.v (Value.slice b m d) ∧ SV.v (Value.int IntKind.i64 (↑n : Int)) = SV.v (Value.int IntKind.i64 (↑n : Int)) ∧ (0 : Int) ≤ (0 : Int) ∧ (0 : Int) ≤ (↑n : Int) ∧ @List.nil HdT = @List.nil HdT) ∧ ∀ (I' G' : Mem), Mem.le I I' → ∀ (n_1 : Int), (0 : Int) ≤ n_1 ∧ n_1 ≤ (↑n : Int) ∧ List.take (Int.toNat n_1) xs = List.take (Int.toNat n_1) ys → Br (decide (n_1 < (↑n : Int))) ((0 : Int) ≤ n_1 ∧ n_1 < (↑n : Int) ∧ Option.isSome a = true ∧ (5 : Nat) = (5 : Nat) ∧ ∃ (n_2 : Int), atI I' a (Int.toNat n_1 * (5 : Nat) + (0 : Nat)) = some (Value.int IntKind.i64 n_2) ∧ ∃ (n_3 : Int), atI I' a (Int.toNat n_1 * (5 : Nat) + (1 : Nat)) = some (Value.int IntKind.i64 n_3) ∧ ∃ (n_4 : Int), atI I' a (Int.toNat n_1 * (5 : Nat) + (2 : Nat)) = some (Value.int IntKind.i64 n_4) ∧ ∃ (n_5 : Int), atI I' a (Int.toNat n_1 * (5 : Nat) + (3 : Nat)) = some (Value.int IntKind.i64 n_5) ∧ ∃ (n_6 : Int), atI I' a (Int.toNat n_1 * (5 : Nat) + (4 : Nat)) = some (Value.int IntKind.u8 n_6) ∧ (0 : Int) ≤ n_1 ∧ n_1 < (↑m : Int) ∧ Option.isSome b = true ∧ (5 : Nat) = (5 : Nat) ∧ ∃ (n_7 : Int), atI I' b (Int.toNat n_1 * (5 : Nat) + (0 : Nat)) = some (Value.int IntKind.i64 n_7) ∧ ∃ (n_8 : Int), atI I' b (Int.toNat n_1 * (5 : Nat) + (1 : Nat)) = some (Value.int IntKind.i64 n_8) ∧ ∃ (n_9 : Int), atI I' b (Int.toNat n_1 * (5 : Nat) + (2 : Nat)) = some (Value.int IntKind.i64 n_9) ∧ ∃ (n_10 : Int), atI I' b (Int.toNat n_1 * (5 : Nat) + (3 : Nat)) = some (Value.int IntKind.i64 n_10) ∧ ∃ (n_11 : Int), atI I' b (Int.toNat n_1 * (5 : Nat) + (4 : Nat)) = some (Value.int IntKind.u8 n_11) ∧ Br (!(n_2 == n_7 && (n_3 == n_8 && (n_4 == n_9 && (n_5 == n_10 && (n_6 == n_11 && true)))))) (Value.bool false = Value.bool D) (Wr IntKind.i64 (n_1 + (1 : Int)) fun (c_1 : Int) => SV.v (Value.slice a n c) = SV.v (Value.slice a n c) ∧ SV.v (Value.slice b m d) = SV.v (Value.slice b m d) ∧ SV.v (Value.int IntKind.i64 (↑n : Int)) = SV.v (Value.int IntKind.i64 (↑n : Int)) ∧ ((0 : Int) ≤ c_1 ∧ c_1 ≤ (↑n : Int) ∧ List.take (Int.toNat c_1) xs = List.take (Int.toNat c_1) ys) ∧ Int.toNat ((↑n : Int) - c_1) < Int.toNat ((↑n : Int) - n_1))) (Value.bool true = Value.bool D))) (by kernel_rfl) ?_
  simp only [eq_self, true_and]
  have hx1 := h.len
  have hy1 := h'.len
  have hx2 := fm_len (c := cH) (k := 5) (fun _ => rfl) xs
  have hy2 := fm_len (c := cH) (k := 5) (fun _ => rfl) ys
  have hm := h.max
  have hmx : maxLen = 9223372036854775807 := by decide
  have hn : n = xs.length := by omega
  have hn' : m = ys.length := by omega
  refine Br.mk (fun g => ?_) (fun g => ⟨⟨by omega, by omega, trivial⟩, fun I1 _ l1 j ⟨j0, j1, hj⟩ => Br.mk (fun hlt => ?_) (fun hge => ?_)⟩)
  · have g : (n : Int) ≠ m := by simpa using g
    rw [hD, eq_len (by omega)]
  · have hlt := of_decide_eq_true hlt
    have g : n = m := by have : (n : Int) = m := (by simpa using g); omega
    obtain ⟨x, hx, e1⟩ := lst_at (c := cH) (k := 5) (fun _ => rfl) (h.mono l1) hn j0 hlt
    obtain ⟨z, hz, e2⟩ := lst_at (c := cH) (k := 5) (fun _ => rfl) (h'.mono l1) hn' j0 (by omega)
    refine ⟨j0, hlt, h.isSome (by omega), _, e1 0 _ (by omega) rfl, _, e1 1 _ (by omega) rfl, _, e1 2 _ (by omega) rfl, _, e1 3 _ (by omega) rfl, _, e1 4 _ (by omega) rfl, j0, by omega, h'.isSome (by omega), _, e2 0 _ (by omega) rfl, _, e2 1 _ (by omega) rfl, _, e2 2 _ (by omega) rfl, _, e2 3 _ (by omega) rfl, _, e2 4 _ (by omega) rfl, ?_⟩
    rw [hE]
    refine Br.mk (fun hq => ?_) (fun hq => ?_)
    · have hq : x ≠ z := by simpa using hq
      rw [hD, eq_at hx hz hq]
    · have hq : x = z := by simpa using hq
      refine wr_i64 (by omega) (by omega) ⟨⟨by omega, by omega, ?_⟩, by omega⟩
      rw [show (j + 1).toNat = j.toNat + 1 by omega, take_succ' hx, take_succ' hz, hj, hq]
  · have hge := of_decide_eq_false hge
    have g : n = m := by have : (n : Int) = m := (by simpa using g); omega
    rw [List.take_of_length_le (by omega), List.take_of_length_le (by omega)] at hj
    rw [hD, decide_eq_true hj]
theorem ct31 (xs : List HdT) (a : Option Addr) (n c : Nat) (I : Mem) (h : SlM I a n 5 (xs.flatMap cH)) (hn : n ≤ 1000000) :
    Ct Try.prog (fnv 31) #[.slice a n c] I (fun v I' => LstN 5 I I' v (xs.flatMap cH)) := by
  obtain ⟨L, hL⟩ : ∃ L, L = xs.flatMap cH := ⟨_, rfl⟩
  rw [← hL] at h ⊢
  have h1 : ∀ v ∈ L, v.oneCell' = true := by rw [hL]; exact oneH xs
  refine viaR (ctF_via (A := { }) Try.func31 rfl Try.call31 rfl rfl) (Br (Option.isNone a) (LstN (5 : Nat) I I (Value.slice none (0 : Nat) (0 : Nat)) L) (∃ (ys : List Value), List.length ys = n * (5 : Nat) ∧ (a = none → n = (0 : Nat)) ∧ (∀ (j : Nat) (v : Value), ys[j]? = some v → atI I a j = some v) ∧ (∀ (v : Value), v ∈ ys → Value.oneCell' v = true) ∧ (0 : Nat) = (0 : Nat) ∧ (0 : Nat) + n ≤ (9223372036854775807 : Nat) ∧ ((0 : Nat) + n) * (40 : Nat) ≤ (140737488355328 : Nat) ∧ ∀ (a : Option Addr) (cp : Nat) (I' : Mem), Mem.le I I' → RowF I I' a cp (5 : Nat) ys → LstN (5 : Nat) I I' (Value.slice a ((0 : Nat) + n) cp) L)) (by kernel_rfl) ?_
  refine Br.mk (fun h0 => ?_) (fun h0 => ⟨L, h.len, h.nil, h.at_, h1, rfl, by omega, by omega, fun a' cp I' _ hrow => lstN_row hrow (Mem.le_refl _) (by omega) (by simpa using h.len) (by simp)⟩)
  · have h0 : a = none := by simpa using h0
    have hz := h.nil h0
    have hl := h.len
    rw [hz, Nat.zero_mul] at hl
    rw [List.eq_nil_of_length_eq_zero hl]
    exact ⟨none, 0, 0, rfl, sl_nil _ _, Nat.le_refl 0, Nat.zero_le _, fun hc => absurd hc (by omega)⟩
open Go Go.Proofs Go.SE Go.RowKit
set_option linter.unusedVariables false
def sameS (r q : Rs) : Bool := decide (r.num = q.num ∧ r.code = q.code ∧ r.ser = q.ser ∧ r.port = q.port ∧ r.time = q.time ∧ r.kind = q.kind ∧ r.more = q.more ∧ r.key = q.key ∧ r.counts = q.counts ∧ r.cells = q.cells ∧ r.events = q.events ∧ r.ports = q.ports ∧ r.handles = q.handles)
theorem sameS_iff {r q : Rs} : sameS r q = true ↔ r = q := by
  rw [sameS, decide_eq_true_eq]
  constructor
  · rintro ⟨h1, h2, h3, h4, h5, h6, h7, h8, h9, h10, h11, h12, h13⟩
    cases r; cases q
    simp only at *
    subst h1 h2 h3 h4 h5 h6 h7 h8 h9 h10 h11 h12 h13
    rfl
  · rintro rfl; simp
theorem sameS_no {r q : Rs} {P : Prop} (hp : ¬ P) (h : r = q → P) : sameS r q = false := by
  cases hs : sameS r q with
  | false => rfl
  | true => exact absurd (h (sameS_iff.1 hs)) hp
theorem kE (a b c x y z : Int) : (a == x && (b == y && (c == z && true))) = decide ((a, b, c) = (x, y, z)) := by
  rw [Bool.eq_iff_iff]; simp
theorem ct13 (r q : Rs) (hr : okRs r) (hq : okRs q) (y z : Ys) (I : Mem) (hM : RsM I r y) (hM' : RsM I q z) :
    Ct Try.prog (fnv 13) #[.agg (rsV r y).toArray, .agg (rsV q z).toArray] I (fun v _ => v = .bool (sameS r q)) := by
  obtain ⟨⟨ac, nc, cc, h1, hc, _⟩, ⟨al, nl, cl, h2, hl, _⟩, ⟨ae, ne, ce, h3, he, _⟩, ⟨ap, np, cp, h4, hp, _⟩, ⟨ah, nh, ch, h5, hh, _⟩⟩ := hM
  obtain ⟨⟨bc, mc, dc, g1, kc, _⟩, ⟨bl, ml, dl, g2, kl, _⟩, ⟨be, me, de, g3, ke, _⟩, ⟨bp, mp, dp, g4, kp, _⟩, ⟨bh, mh, dh, g5, kh, _⟩⟩ := hM'
  obtain ⟨yc, yl, ye, yp, yh⟩ := y
  obtain ⟨zc, zl, ze, zp, zh⟩ := z
  subst h1 h2 h3 h4 h5 g1 g2 g3 g4 g5
  obtain ⟨D, hD⟩ : ∃ D, D = sameS r q := ⟨_, rfl⟩
  rw [← hD]
  refine viaR (ct_via (A := { }) Try.func13 rfl Try.call13 rfl rfl) (Br (Rs.num r != Rs.num q) (Value.bool false = Value.bool D) (Br (Rs.code r != Rs.code q) (Value.bool false = Value.bool D) (Br (Rs.ser r != Rs.ser q) (Value.bool false = Value.bool D) (Br (Rs.port r != Rs.port q) (Value.bool false = Value.bool D) (Br (Rs.time r != Rs.time q) (Value.bool false = Value.bool D) (Br (Rs.kind r != Rs.kind q) (Value.bool false = Value.bool D) (Br (!Rs.more r == Rs.more q) (Value.bool false = Value.bool D) (Br (!(Prod.fst (Rs.key r) == Prod.fst (Rs.key q) && (Prod.fst (Prod.snd (Rs.key r)) == Prod.fst (Prod.snd (Rs.key q)) && (Prod.snd (Prod.snd (Rs.key r)) == Prod.snd (Prod.snd (Rs.key q)) && true)))) (Value.bool false = Value.bool D) (Ct Try.prog (Value.func (Fn.func (22 : Nat)) #[] #[]) #[Value.slice ac nc cc, Value.slice bc mc dc] I fun (v : Value) (I' : Mem) => ∃ (b : Bool), v = Value.bool b ∧ Br b (Ct Try.prog (Value.func (Fn.func (23 : Nat)) #[] #[]) #[Value.slice al nl cl, Value.slice bl ml dl] I' fun (v : Value) (I' : Mem) => ∃ (b : Bool), v = Value.bool b ∧ Br b (Ct Try.prog (Value.func (Fn.func (24 : Nat)) #[] #[]) #[Value.slice ae ne ce, Value.slice be me de] I' fun (v : Value) (I' : Mem) => ∃ (b : Bool), v = Value.bool b ∧ Br b (Ct Try.prog (Value.func (Fn.func (25 : Nat)) #[] #[]) #[Value.slice ap np cp, Value.slice bp mp dp] I' fun (v : Value) (I' : Mem) => ∃ (b : Bool), v = Value.bool b ∧ Br b (Ct Try.prog (Value.func (Fn.func (26 : Nat)) #[] #[]) #[Value.slice ah nh ch, Value.slice bh mh dh] I' fun (v : Value) (I' : Mem) => ∃ (b : Bool), v = Value.bool b ∧ Value.bool b = Value.bool D) (Value.bool false = Value.bool D)) (Value.bool false = Value.bool D)) (Value.bool false = Value.bool D)) (Value.bool false = Value.bool D)))))))))) (by kernel_rfl) ?_
  rw [kE]
  have NO : ∀ {P : Prop}, ¬ P → (r = q → P) → Value.bool false = Value.bool D := fun h1 h2 => by rw [hD, sameS_no h1 h2]
  refine Br.mk (fun h => NO (P := r.num = q.num) (by simpa using h) (fun e => by rw [e])) (fun f1 => Br.mk (fun h => NO (P := r.code = q.code) (by simpa using h) (fun e => by rw [e])) (fun f2 => Br.mk (fun h => NO (P := r.ser = q.ser) (by simpa using h) (fun e => by rw [e])) (fun f3 => Br.mk (fun h => NO (P := r.port = q.port) (by simpa using h) (fun e => by rw [e])) (fun f4 => Br.mk (fun h => NO (P := r.time = q.time) (by simpa using h) (fun e => by rw [e])) (fun f5 => Br.mk (fun h => NO (P := r.kind = q.kind) (by simpa using h) (fun e => by rw [e])) (fun f6 => Br.mk (fun h => NO (P := r.more = q.more) (by simpa using h) (fun e => by rw [e])) (fun f7 => Br.mk (fun h => NO (P := (r.key.1, r.key.2.1, r.key.2.2) = (q.key.1, q.key.2.1, q.key.2.2)) (fun e => by rw [decide_eq_true e] at h; cases h) (fun e => by rw [e])) (fun f8 => ?_))))))))
  refine (ct22 r.counts q.counts ac bc nc mc cc dc I hc kc).mono fun v I1 l1 hv => ⟨_, hv, Br.mk (fun f9 => ?_) (fun h => NO (of_decide_eq_false h) (fun e => by rw [e]))⟩
  refine (ct23 r.cells q.cells al bl nl ml cl dl I1 (hl.mono l1) (kl.mono l1)).mono fun v I2 l2 hv => ⟨_, hv, Br.mk (fun f10 => ?_) (fun h => NO (of_decide_eq_false h) (fun e => by rw [e]))⟩
  have i2 := Mem.le_trans l1 l2
  refine (ct24 r.events q.events ae be ne me ce de I2 (he.mono i2) (ke.mono i2)).mono fun v I3 l3 hv => ⟨_, hv, Br.mk (fun f11 => ?_) (fun h => NO (of_decide_eq_false h) (fun e => by rw [e]))⟩
  have i3 := Mem.le_trans i2 l3
  refine (ct25 r.ports q.ports (fun x hx => (hr.ports x hx).2.1) (fun x hx => (hq.ports x hx).2.1) ap bp np mp cp dp I3 (hp.mono i3) (kp.mono i3)).mono fun v I4 l4 hv => ⟨_, hv, Br.mk (fun f12 => ?_) (fun h => NO (of_decide_eq_false h) (fun e => by rw [e]))⟩
  have i4 := Mem.le_trans i3 l4
  refine (ct26 r.handles q.handles ah bh nh mh ch dh I4 (hh.mono i4) (kh.mono i4)).mono fun v I5 l5 hv => ⟨_, hv, ?_⟩
  rw [hD, sameS]
  congr 1
  apply decide_eq_decide.2
  have e8 : r.key = q.key := by
    have : (r.key.1, r.key.2.1, r.key.2.2) = (q.key.1, q.key.2.1, q.key.2.2) := by simpa using f8
    exact this
  exact ⟨fun f13 => ⟨by simpa using f1, by simpa using f2, by simpa using f3, by simpa using f4, by simpa using f5, by simpa using f6, by simpa using f7, e8, of_decide_eq_true f9, of_decide_eq_true f10, of_decide_eq_true f11, of_decide_eq_true f12, f13⟩, fun h => h.2.2.2.2.2.2.2.2.2.2.2.2⟩
open Go Go.Proofs Go.SE Go.RowKit
set_option linter.unusedVariables false
theorem i64_wrapR (x : Int) : i64R (IntKind.i64.wrap x) := by
  rw [IntKind.wrap_i64]
  unfold i64R
  omega
theorem u8_wrapR (x : Int) : 0 ≤ IntKind.u8.wrap x ∧ IntKind.u8.wrap x ≤ 255 := by
  rw [IntKind.wrap_u8]; omega
theorem unfold_range {y : Int} (h : 0 ≤ y ∧ y ≤ 18446744073709551615) : i64R (unfoldZ y) := by
  unfold unfoldZ i64R
  split <;> omega
theorem numQ_R (s : RS) : i64R (numQ s).1 := i64_wrapR _
theorem runAll_all {α : Type} {take : RS → α × RS} {Q : α → Prop} (h : ∀ s : RS, byteL s.1 → Q (take s).1 ∧ byteL (take s).2.1) : ∀ (k : Nat) (s : RS), byteL s.1 → ∀ x ∈ (runAll take k s).1, Q x
  | 0, s, _, x, hx => by cases hx
  | k + 1, s, hb, x, hx => by
    rw [runAll] at hx
    split at hx
    · cases hx
    · rcases List.mem_cons.1 hx with rfl | hx
      · exact (h s hb).1
      · exact runAll_all h k _ (h s hb).2 x hx
theorem keyQ_R (s : RS) : i64R (keyQ s).1.1 ∧ i64R (keyQ s).1.2.1 ∧ i64R (keyQ s).1.2.2 := ⟨numQ_R _, numQ_R _, numQ_R _⟩
theorem ev_all (s : RS) (hb : byteL s.1) : ((i64R (evQ s).1.1.1 ∧ i64R (evQ s).1.1.2.1 ∧ i64R (evQ s).1.1.2.2) ∧ i64R (evQ s).1.2.1 ∧ i64R (evQ s).1.2.2) ∧ byteL (evQ s).2.1 := by
  obtain ⟨_, b1, _⟩ := key_len hb
  obtain ⟨_, b2, _⟩ := num_len b1
  obtain ⟨_, b3, _⟩ := next_len b2
  exact ⟨⟨keyQ_R s, numQ_R _, unfold_range (nextR_range b2)⟩, b3⟩
theorem sz_bytes {s : RS} (hb : byteL s.1) : byteL (szQ s).2.1 := by
  obtain ⟨_, b1, _⟩ := num_len hb
  obtain ⟨_, b2, _⟩ := num_len b1
  exact (num_len b2).2.1
theorem port_all (s : RS) (hb : byteL s.1) : (i64R (portQ s).1.1 ∧ byteL (portQ s).1.2.1 ∧ i64R (portQ s).1.2.2) ∧ byteL (portQ s).2.1 := by
  have hz := sz_bytes hb
  unfold portQ
  split
  · exact ⟨⟨by simp [i64R], (fun z hz => by cases hz), by simp [i64R]⟩, hz⟩
  · exact ⟨⟨numQ_R _, fun z h => hz z (List.mem_of_mem_take h), numQ_R _⟩, fun z h => hz z (List.mem_of_mem_drop h)⟩
theorem hd_all (s : RS) (hb : byteL s.1) : ((i64R (hdQ s).1.1 ∧ i64R (hdQ s).1.2.1 ∧ i64R (hdQ s).1.2.2.1 ∧ i64R (hdQ s).1.2.2.2.1) ∧ 0 ≤ (hdQ s).1.2.2.2.2 ∧ (hdQ s).1.2.2.2.2 ≤ 255) ∧ byteL (hdQ s).2.1 := by
  obtain ⟨_, a2, _⟩ := num_len hb
  obtain ⟨s1, h1⟩ : ∃ s1, (numQ s).2 = s1 := ⟨_, rfl⟩
  rw [h1] at a2
  obtain ⟨_, b2, _⟩ := num_len a2
  obtain ⟨s2, h2⟩ : ∃ s2, (numQ s1).2 = s2 := ⟨_, rfl⟩
  rw [h2] at b2
  obtain ⟨_, c2, _⟩ := num_len b2
  obtain ⟨s3, h3⟩ : ∃ s3, (numQ s2).2 = s3 := ⟨_, rfl⟩
  rw [h3] at c2
  obtain ⟨_, d2, _⟩ := num_len c2
  obtain ⟨s4, h4⟩ : ∃ s4, (numQ s3).2 = s4 := ⟨_, rfl⟩
  rw [h4] at d2
  obtain ⟨_, e2, _⟩ := num_len d2
  rw [hd_rest h1 h2 h3 h4]
  refine ⟨?_, e2⟩
  rw [hd_eq, h1, h2, h3, h4]
  exact ⟨⟨numQ_R _, numQ_R _, numQ_R _, numQ_R _⟩, u8_wrapR _⟩
theorem val_all (s : RS) (hb : byteL s.1) : i64R (valQ s).1 ∧ byteL (valQ s).2.1 := ⟨unfold_range (nextR_range hb), (next_len hb).2.1⟩
theorem num_all (s : RS) (hb : byteL s.1) : i64R (numQ s).1 ∧ byteL (numQ s).2.1 := ⟨numQ_R s, (num_len hb).2.1⟩
theorem ok_take {r : Rs} (h : okRs r) (t : Int) {bs : List Int} (hb : byteL bs) : okRs (takeS r t bs).1 := by
  have hn := numQ_R (bs, false)
  have hk := keyQ_R (bs, false)
  have hu := u8_wrapR (imin (numQ (bs, false)).1 255)
  have h9 := runAll_all num_all bs.length (bs, false) hb
  have h10 := runAll_all val_all bs.length (bs, false) hb
  have h11 := runAll_all (Q := fun (x : EvT) => (i64R x.1.1 ∧ i64R x.1.2.1 ∧ i64R x.1.2.2) ∧ i64R x.2.1 ∧ i64R x.2.2) ev_all bs.length (bs, false) hb
  have h12 := runAll_all (Q := fun (x : PtT) => i64R x.1 ∧ byteL x.2.1 ∧ i64R x.2.2) port_all bs.length (bs, false) hb
  have h13 := runAll_all (Q := fun (x : HdT) => (i64R x.1 ∧ i64R x.2.1 ∧ i64R x.2.2.1 ∧ i64R x.2.2.2.1) ∧ 0 ≤ x.2.2.2.2 ∧ x.2.2.2.2 ≤ 255) hd_all bs.length (bs, false) hb
  obtain ⟨a1, a2, a3, a4, a5, a6, a7, a8, a9, a10, a11, a12⟩ := h
  rw [takeS]
  by_cases e1 : t = 1
  · rw [if_pos e1]; constructor <;> assumption
  rw [if_neg e1]
  by_cases e2 : t = 2
  · rw [if_pos e2]; constructor <;> assumption
  rw [if_neg e2]
  by_cases e3 : t = 3
  · rw [if_pos e3]; constructor <;> assumption
  rw [if_neg e3]
  by_cases e4 : t = 4
  · rw [if_pos e4]; constructor <;> assumption
  rw [if_neg e4]
  by_cases e5 : t = 5
  · rw [if_pos e5]; constructor <;> assumption
  rw [if_neg e5]
  by_cases e6 : t = 6
  · rw [if_pos e6]; constructor <;> assumption
  rw [if_neg e6]
  by_cases e7 : t = 7
  · rw [if_pos e7]; constructor <;> assumption
  rw [if_neg e7]
  by_cases e8 : t = 8
  · rw [if_pos e8]; constructor <;> assumption
  rw [if_neg e8]
  by_cases e9 : t = 9
  · rw [if_pos e9]; constructor <;> assumption
  rw [if_neg e9]
  by_cases e10 : t = 10
  · rw [if_pos e10]; constructor <;> assumption
  rw [if_neg e10]
  by_cases e11 : t = 11
  · rw [if_pos e11]; constructor <;> assumption
  rw [if_neg e11]
  by_cases e12 : t = 12
  · rw [if_pos e12]; constructor <;> assumption
  rw [if_neg e12]
  by_cases e13 : t = 13
  · rw [if_pos e13]; constructor <;> assumption
  rw [if_neg e13]
  constructor <;> assumption
theorem counts_take {r : Rs} {B : Nat} (h : r.counts.length ≤ B) (t : Int) {bs : List Int} (hb : bs.length ≤ B) : (takeS r t bs).1.counts.length ≤ B := by
  have := runAll_len (take := numQ) bs.length (bs, false)
  rw [takeS]
  by_cases e1 : t = 1
  · rw [if_pos e1]; first | exact h | exact Nat.le_trans this hb
  rw [if_neg e1]
  by_cases e2 : t = 2
  · rw [if_pos e2]; first | exact h | exact Nat.le_trans this hb
  rw [if_neg e2]
  by_cases e3 : t = 3
  · rw [if_pos e3]; first | exact h | exact Nat.le_trans this hb
  rw [if_neg e3]
  by_cases e4 : t = 4
  · rw [if_pos e4]; first | exact h | exact Nat.le_trans this hb
  rw [if_neg e4]
  by_cases e5 : t = 5
  · rw [if_pos e5]; first | exact h | exact Nat.le_trans this hb
  rw [if_neg e5]
  by_cases e6 : t = 6
  · rw [if_pos e6]; first | exact h | exact Nat.le_trans this hb
  rw [if_neg e6]
  by_cases e7 : t = 7
  · rw [if_pos e7]; first | exact h | exact Nat.le_trans this hb
  rw [if_neg e7]
  by_cases e8 : t = 8
  · rw [if_pos e8]; first | exact h | exact Nat.le_trans this hb
  rw [if_neg e8]
  by_cases e9 : t = 9
  · rw [if_pos e9]; first | exact h | exact Nat.le_trans this hb
  rw [if_neg e9]
  by_cases e10 : t = 10
  · rw [if_pos e10]; first | exact h | exact Nat.le_trans this hb
  rw [if_neg e10]
  by_cases e11 : t = 11
  · rw [if_pos e11]; first | exact h | exact Nat.le_trans this hb
  rw [if_neg e11]
  by_cases e12 : t = 12
  · rw [if_pos e12]; first | exact h | exact Nat.le_trans this hb
  rw [if_neg e12]
  by_cases e13 : t = 13
  · rw [if_pos e13]; first | exact h | exact Nat.le_trans this hb
  rw [if_neg e13]
  exact h
def zeroRs : Rs := { num := 0, code := 0, ser := 0, port := 0, time := 0, kind := 0, more := false, key := (0, 0, 0), counts := [], cells := [], events := [], ports := [], handles := [] }
def nilY : Ys := ⟨.slice none 0 0, .slice none 0 0, .slice none 0 0, .slice none 0 0, .slice none 0 0⟩
theorem zero_ok : okRs zeroRs := by
  refine ⟨?_, ?_, ?_, ?_, ?_, ?_, ?_, ?_, ?_, ?_, ?_, ?_⟩
  all_goals simp [zeroRs, i64R]
theorem lst_nil (sz : Nat) (I : Mem) : LstM sz I (.slice none 0 0) [] := ⟨none, 0, 0, rfl, sl_nil _ _, Nat.le_refl 0, Nat.zero_le _⟩
theorem zero_M (I : Mem) : RsM I zeroRs nilY := ⟨lst_nil 1 I, lst_nil 1 I, lst_nil 5 I, lst_nil 3 I, lst_nil 5 I⟩
theorem newL_nil (sz : Nat) (I I' : Mem) : NewL sz I I' (.slice none 0 0) := fun a n c h => by cases h; exact fun hc => absurd hc (by omega)
theorem zero_N (I I' : Mem) : NewY I I' nilY := ⟨newL_nil 1 I I', newL_nil 1 I I', newL_nil 5 I I', newL_nil 3 I I', newL_nil 5 I I'⟩
def runTS (r : Rs) : List (Int × List Int) → Rs × Bool
  | [] => (r, true)
  | f :: l => if okS (takeS r f.1 f.2).2 then runTS (takeS r f.1 f.2).1 l else (r, false)
def flS (bs : List Int) : List (Int × List Int) := (readF (bs.drop 1)).1
def runS (bs : List Int) : Rs × Bool := runTS zeroRs (flS bs)
def accS (bs : List Int) : Bool := decide (1 ≤ bs.length) && (decide (bs[0]? = some 1) && (decide ((readF (bs.drop 1)).2.2 = 0) && ((runS bs).2 && (rightS (runS bs).1 && decide (writeS (runS bs).1 = bs)))))
def readS (bs : List Int) : Rs × Int := if accS bs then ((runS bs).1, 0) else (zeroRs, 351)
def ReadP (bs : List Int) (I I' : Mem) (v : Value) : Prop := ∃ y, v = .tuple #[.agg (rsV (readS bs).1 y).toArray, .int .i64 (readS bs).2] ∧ RsM I' (readS bs).1 y ∧ NewY I I' y
theorem cs_agg {P : Program} {fv : SV} {x : SV} {a b : Value} {H : List Ent} {I : Mem} {post : SV → List Ent → Mem → Prop} (h : CtS P fv [x, .v (.agg #[a, b])] H I post) : CtS P fv [x, .agg [.v a, .v b]] H I post :=
  fun e hp hO => h e hp hO
def cellsE : List RSh := [.sh (.int .i64), .sh (.int .i64), .sh (.int .i64), .sh (.int .i64), .sh (.int .i64), .sh (.int .u8), .sh .bool, .sh (.int .i64), .sh (.int .i64), .sh (.int .i64), .sh .sl, .sh .sl, .sh .sl, .sh .sl, .sh .sl]
def cellsA : List TA := [.sh (.int .i64), .sh (.int .i64), .sh (.int .i64), .sh (.int .i64), .sh (.int .i64), .sh (.int .u8), .sh .bool, .sh (.int .i64), .sh (.int .i64), .sh (.int .i64), .sh .sl, .sh .sl, .sh .sl, .sh .sl, .sh .sl]
def cB (x : Int) : List Value := [.int .u8 x]
theorem fm_u8 {l : List Int} : l.flatMap cB = ints .u8 l := by
  induction l with
  | nil => rfl
  | cons x r ih => rw [List.flatMap_cons, ih]; rfl
theorem ct21 (xs ys : List Int) (a b : Option Addr) (n m c d : Nat) (I : Mem) (h : SlM I a n 1 (xs.flatMap cB)) (h' : SlM I b m 1 (ys.flatMap cB)) :
    Ct Try.prog (fnv 21) #[.slice a n c, .slice b m d] I (fun v _ => v = .bool (decide (xs = ys))) := by
  obtain ⟨D, hD⟩ : ∃ D, D = decide (xs = ys) := ⟨_, rfl⟩
  rw [← hD]
  refine viaR (ct_via (A := { loops := [(4, ⟨[(0, .keep), (1, .keep), (12, .keep), (13, .sh (.int .i64))], [], [], fun vals _ _ _ => match vals with | [.int .i64 j] => 0 ≤ j ∧ j ≤ n ∧ xs.take j.toNat = ys.take j.toNat | _ => False, fun vals _ => match vals with | [.int .i64 j] => (n - j).toNat | _ => 0⟩)] }) Try.func21 rfl Try.call21 rfl rfl) (Br ((↑n : Int) != (↑m : Int)) (Value.bool false = Value.bool D) ((SV.v (Value.slice a n c) = SV.v (Value.slice a n c) ∧ SV.v (Value.slice b m d) = SV.v (Value.slice b m d) ∧ SV.v (Value.int IntKind.i64 (↑n : Int)) = SV.v (Value.int IntKind.i64 (↑n : Int)) ∧ (0 : Int) ≤ (0 : Int) ∧ (0 : Int) ≤ (↑n : Int) ∧ @List.nil Int = @List.nil Int) ∧ ∀ (I' G' : Mem), Mem.le I I' → ∀ (n_1 : Int), (0 : Int) ≤ n_1 ∧ n_1 ≤ (↑n : Int) ∧ List.take (Int.toNat n_1) xs = List.take (Int.toNat n_1) ys → Br (decide (n_1 < (↑n : Int))) ((0 : Int) ≤ n_1 ∧ n_1 < (↑n : Int) ∧ Option.isSome a = true ∧ ∃ (n_2 : Int), atI I' a (Int.toNat n_1 * (1 : Nat) + (0 : Nat)) = some (Value.int IntKind.u8 n_2) ∧ (0 : Int) ≤ n_1 ∧ n_1 < (↑m : Int) ∧ Option.isSome b = true ∧ ∃ (n_3 : Int), atI I' b (Int.toNat n_1 * (1 : Nat) + (0 : Nat)) = some (Value.int IntKind.u8 n_3) ∧ Br (n_2 != n_3) (Value.bool false = Value.bool D) (Wr IntKind.i64 (n_1 + (1 : Int)) fun (c_1 : Int) => SV.v (Value.slice a n c) = SV.v (Value.slice a n c) ∧ SV.v (Value.slice b m d) = SV.v (Value.slice b m d) ∧ SV.v (Value.int IntKind.i64 (↑n : Int)) = SV.v (Value.int IntKind.i64 (↑n : Int)) ∧ ((0 : Int) ≤ c_1 ∧ c_1 ≤ (↑n : Int) ∧ List.take (Int.toNat c_1) xs = List.take (Int.toNat c_1) ys) ∧ Int.toNat ((↑n : Int) - c_1) < Int.toNat ((↑n : Int) - n_1))) (Value.bool true = Value.bool D))) (by kernel_rfl) ?_
  simp only [eq_self, true_and]
  have hx1 := h.len
  have hy1 := h'.len
  have hx2 := fm_len (c := cB) (k := 1) (fun _ => rfl) xs
  have hy2 := fm_len (c := cB) (k := 1) (fun _ => rfl) ys
  have hm := h.max
  have hmx : maxLen = 9223372036854775807 := by decide
  have hn : n = xs.length := by omega
  have hn' : m = ys.length := by omega
  refine Br.mk (fun g => ?_) (fun g => ⟨⟨by omega, by omega, trivial⟩, fun I1 _ l1 j ⟨j0, j1, hj⟩ => Br.mk (fun hlt => ?_) (fun hge => ?_)⟩)
  · have g : (n : Int) ≠ m := by simpa using g
    rw [hD, eq_len (by omega)]
  · have hlt := of_decide_eq_true hlt
    have g : n = m := by have : (n : Int) = m := (by simpa using g); omega
    obtain ⟨x, hx, e1⟩ := lst_at (c := cB) (k := 1) (fun _ => rfl) (h.mono l1) hn j0 hlt
    obtain ⟨z, hz, e2⟩ := lst_at (c := cB) (k := 1) (fun _ => rfl) (h'.mono l1) hn' j0 (by omega)
    refine ⟨j0, hlt, h.isSome (by omega), _, e1 0 _ (by omega) rfl, j0, by omega, h'.isSome (by omega), _, e2 0 _ (by omega) rfl, ?_⟩
    skip
    refine Br.mk (fun hq => ?_) (fun hq => ?_)
    · have hq : x ≠ z := by simpa using hq
      rw [hD, eq_at hx hz hq]
    · have hq : x = z := by simpa using hq
      refine wr_i64 (by omega) (by omega) ⟨⟨by omega, by omega, ?_⟩, by omega⟩
      rw [show (j + 1).toNat = j.toNat + 1 by omega, take_succ' hx, take_succ' hz, hj, hq]
  · have hge := of_decide_eq_false hge
    have g : n = m := by have : (n : Int) = m := (by simpa using g); omega
    rw [List.take_of_length_le (by omega), List.take_of_length_le (by omega)] at hj
    rw [hD, decide_eq_true hj]
theorem ct12 (bs : List Int) (hbs : byteL bs) (a : Option Addr) (n c : Nat) (I : Mem) (h : SlM I a n 1 (ints .u8 bs)) (hn : n ≤ 1000000) (hc : n ≤ c) (hm : c ≤ maxLen) :
    Ct Try.prog (fnv 12) #[.slice a n c] I (fun v I' => ReadP bs I I' v) := by
  refine viaR (ctF_via (A := { calls := [(38, .lend [1] (.sh .bool) [.cells cellsE 37])], loops := [(8, ⟨[(0, .keep), (2, .keep), (7, .keep), (31, .keep), (32, .keep), (33, .sh (.int .i64))], [(0, .keep), (1, .cells cellsA)], [], fun vals _ I' _ => match vals with | .int .i64 j :: cs => 0 ≤ j ∧ j ≤ (flS bs).length ∧ ∃ r y, cs = rsV r y ∧ okRs r ∧ r.counts.length ≤ 1000000 ∧ RsM I' r y ∧ NewY I I' y ∧ runS bs = runTS r ((flS bs).drop j.toNat) | _ => False, fun vals _ => match vals with | .int .i64 j :: cs => ((flS bs).length - j).toNat | _ => 0⟩)] }) Try.func12 rfl Try.call12 rfl rfl) (Br (decide ((↑n : Int) < (1 : Int))) (ReadP bs I I (Value.tuple #[Value.agg #[Value.int IntKind.i64 (0 : Int), Value.int IntKind.i64 (0 : Int), Value.int IntKind.i64 (0 : Int), Value.int IntKind.i64 (0 : Int), Value.int IntKind.i64 (0 : Int), Value.int IntKind.u8 (0 : Int), Value.bool false, Value.int IntKind.i64 (0 : Int), Value.int IntKind.i64 (0 : Int), Value.int IntKind.i64 (0 : Int), Value.slice none (0 : Nat) (0 : Nat), Value.slice none (0 : Nat) (0 : Nat), Value.slice none (0 : Nat) (0 : Nat), Value.slice none (0 : Nat) (0 : Nat), Value.slice none (0 : Nat) (0 : Nat)], Value.int IntKind.i64 (351 : Int)])) ((0 : Int) ≤ (0 : Int) ∧ (0 : Int) < (↑n : Int) ∧ Option.isSome a = true ∧ ∃ (n_1 : Int), atI I a (0 : Nat) = some (Value.int IntKind.u8 n_1) ∧ Br (n_1 != (1 : Int)) (ReadP bs I I (Value.tuple #[Value.agg #[Value.int IntKind.i64 (0 : Int), Value.int IntKind.i64 (0 : Int), Value.int IntKind.i64 (0 : Int), Value.int IntKind.i64 (0 : Int), Value.int IntKind.i64 (0 : Int), Value.int IntKind.u8 (0 : Int), Value.bool false, Value.int IntKind.i64 (0 : Int), Value.int IntKind.i64 (0 : Int), Value.int IntKind.i64 (0 : Int), Value.slice none (0 : Nat) (0 : Nat), Value.slice none (0 : Nat) (0 : Nat), Value.slice none (0 : Nat) (0 : Nat), Value.slice none (0 : Nat) (0 : Nat), Value.slice none (0 : Nat) (0 : Nat)], Value.int IntKind.i64 (351 : Int)])) ((0 : Int) ≤ (1 : Int) ∧ (1 : Int) ≤ (↑n : Int) ∧ Ct Try.prog (Value.func (Fn.func (19 : Nat)) #[] #[]) #[Value.slice (sladdr a c (1 : Nat) (1 : Nat)) (n - (1 : Nat)) (c - (1 : Nat))] I fun (v : Value) (I' : Mem) => ∃ (a_1 : Option Addr), ∃ (n_2 : Nat), ∃ (c_1 : Nat), ∃ (n_3 : Int), ∃ (n_4 : Int), v = Value.tuple #[Value.slice a_1 n_2 c_1, Value.int IntKind.i64 n_3, Value.int IntKind.i64 n_4] ∧ Br (n_4 != (0 : Int)) (ReadP bs I I' (Value.tuple #[Value.agg #[Value.int IntKind.i64 (0 : Int), Value.int IntKind.i64 (0 : Int), Value.int IntKind.i64 (0 : Int), Value.int IntKind.i64 (0 : Int), Value.int IntKind.i64 (0 : Int), Value.int IntKind.u8 (0 : Int), Value.bool false, Value.int IntKind.i64 (0 : Int), Value.int IntKind.i64 (0 : Int), Value.int IntKind.i64 (0 : Int), Value.slice none (0 : Nat) (0 : Nat), Value.slice none (0 : Nat) (0 : Nat), Value.slice none (0 : Nat) (0 : Nat), Value.slice none (0 : Nat) (0 : Nat), Value.slice none (0 : Nat) (0 : Nat)], Value.int IntKind.i64 (351 : Int)])) ((Ent.mk (EO.cells [SV.v (Value.int IntKind.i64 (0 : Int)), SV.v (Value.int IntKind.i64 (0 : Int)), SV.v (Value.int IntKind.i64 (0 : Int)), SV.v (Value.int IntKind.i64 (0 : Int)), SV.v (Value.int IntKind.i64 (0 : Int)), SV.v (Value.int IntKind.u8 (0 : Int)), SV.v (Value.bool false), SV.v (Value.int IntKind.i64 (0 : Int)), SV.v (Value.int IntKind.i64 (0 : Int)), SV.v (Value.int IntKind.i64 (0 : Int)), SV.v (Value.slice none (0 : Nat) (0 : Nat)), SV.v (Value.slice none (0 : Nat) (0 : Nat)), SV.v (Value.slice none (0 : Nat) (0 : Nat)), SV.v (Value.slice none (0 : Nat) (0 : Nat)), SV.v (Value.slice none (0 : Nat) (0 : Nat))] (37 : Nat)) none = Ent.mk (EO.cells [SV.v (Value.int IntKind.i64 (0 : Int)), SV.v (Value.int IntKind.i64 (0 : Int)), SV.v (Value.int IntKind.i64 (0 : Int)), SV.v (Value.int IntKind.i64 (0 : Int)), SV.v (Value.int IntKind.i64 (0 : Int)), SV.v (Value.int IntKind.u8 (0 : Int)), SV.v (Value.bool false), SV.v (Value.int IntKind.i64 (0 : Int)), SV.v (Value.int IntKind.i64 (0 : Int)), SV.v (Value.int IntKind.i64 (0 : Int)), SV.v (Value.slice none (0 : Nat) (0 : Nat)), SV.v (Value.slice none (0 : Nat) (0 : Nat)), SV.v (Value.slice none (0 : Nat) (0 : Nat)), SV.v (Value.slice none (0 : Nat) (0 : Nat)), SV.v (Value.slice none (0 : Nat) (0 : Nat))] (37 : Nat)) none ∧ SV.v (Value.slice a n c) = SV.v (Value.slice a n c) ∧ SV.ptr (0 : Nat) (0 : Nat) = SV.ptr (0 : Nat) (0 : Nat) ∧ SV.ptr (1 : Nat) (0 : Nat) = SV.ptr (1 : Nat) (0 : Nat) ∧ SV.v (Value.slice a_1 n_2 c_1) = SV.v (Value.slice a_1 n_2 c_1) ∧ SV.v (Value.int IntKind.i64 (↑n_2 : Int)) = SV.v (Value.int IntKind.i64 (↑n_2 : Int)) ∧ @none Nat = @none Nat ∧ (0 : Int) ≤ (0 : Int) ∧ (0 : Int) ≤ (↑(List.length (flS bs)) : Int) ∧ ∃ (r : Rs), ∃ (y : Ys), [Value.int IntKind.i64 (0 : Int), Value.int IntKind.i64 (0 : Int), Value.int IntKind.i64 (0 : Int), Value.int IntKind.i64 (0 : Int), Value.int IntKind.i64 (0 : Int), Value.int IntKind.u8 (0 : Int), Value.bool false, Value.int IntKind.i64 (0 : Int), Value.int IntKind.i64 (0 : Int), Value.int IntKind.i64 (0 : Int), Value.slice none (0 : Nat) (0 : Nat), Value.slice none (0 : Nat) (0 : Nat), Value.slice none (0 : Nat) (0 : Nat), Value.slice none (0 : Nat) (0 : Nat), Value.slice none (0 : Nat) (0 : Nat)] = [Value.int IntKind.i64 (Rs.num r), Value.int IntKind.i64 (Rs.code r), Value.int IntKind.i64 (Rs.ser r), Value.int IntKind.i64 (Rs.port r), Value.int IntKind.i64 (Rs.time r), Value.int IntKind.u8 (Rs.kind r), Value.bool (Rs.more r), Value.int IntKind.i64 (Prod.fst (Rs.key r)), Value.int IntKind.i64 (Prod.fst (Prod.snd (Rs.key r))), Value.int IntKind.i64 (Prod.snd (Prod.snd (Rs.key r))), Ys.c y, Ys.l y, Ys.e y, Ys.p y, Ys.h y] ∧ okRs r ∧ List.length (Rs.counts r) ≤ (1000000 : Nat) ∧ RsM I' r y ∧ NewY I I' y ∧ runS bs = runTS r (List.drop (0 : Nat) (flS bs))) ∧ ∀ (I'_1 G' : Mem), Mem.le I' I'_1 → ∀ (n_5 n_6 n_7 n_8 n_9 n_10 n_11 : Int) (b : Bool) (n_12 n_13 n_14 : Int) (a_3 : Option Addr) (n_15 c_2 : Nat) (a_4 : Option Addr) (n_16 c_3 : Nat) (a_5 : Option Addr) (n_17 c_4 : Nat) (a_6 : Option Addr) (n_18 c_5 : Nat) (a_7 : Option Addr) (n_19 c_6 : Nat), ((0 : Int) ≤ n_5 ∧ n_5 ≤ (↑(List.length (flS bs)) : Int) ∧ ∃ (r : Rs), ∃ (y : Ys), [Value.int IntKind.i64 n_6, Value.int IntKind.i64 n_7, Value.int IntKind.i64 n_8, Value.int IntKind.i64 n_9, Value.int IntKind.i64 n_10, Value.int IntKind.u8 n_11, Value.bool b, Value.int IntKind.i64 n_12, Value.int IntKind.i64 n_13, Value.int IntKind.i64 n_14, Value.slice a_3 n_15 c_2, Value.slice a_4 n_16 c_3, Value.slice a_5 n_17 c_4, Value.slice a_6 n_18 c_5, Value.slice a_7 n_19 c_6] = [Value.int IntKind.i64 (Rs.num r), Value.int IntKind.i64 (Rs.code r), Value.int IntKind.i64 (Rs.ser r), Value.int IntKind.i64 (Rs.port r), Value.int IntKind.i64 (Rs.time r), Value.int IntKind.u8 (Rs.kind r), Value.bool (Rs.more r), Value.int IntKind.i64 (Prod.fst (Rs.key r)), Value.int IntKind.i64 (Prod.fst (Prod.snd (Rs.key r))), Value.int IntKind.i64 (Prod.snd (Prod.snd (Rs.key r))), Ys.c y, Ys.l y, Ys.e y, Ys.p y, Ys.h y] ∧ okRs r ∧ List.length (Rs.counts r) ≤ (1000000 : Nat) ∧ RsM I'_1 r y ∧ NewY I I'_1 y ∧ runS bs = runTS r (List.drop (Int.toNat n_5) (flS bs))) → Br (decide (n_5 < (↑n_2 : Int))) ((0 : Int) ≤ n_5 ∧ n_5 < (↑n_2 : Int) ∧ Option.isSome a_1 = true ∧ (2 : Nat) = (2 : Nat) ∧ ∃ (n_20 : Int), atI I'_1 a_1 (Int.toNat n_5 * (2 : Nat) + (0 : Nat)) = some (Value.int IntKind.i64 n_20) ∧ ∃ (a_9 : Option Addr), ∃ (n_21 : Nat), ∃ (c_7 : Nat), atI I'_1 a_1 (Int.toNat n_5 * (2 : Nat) + (1 : Nat)) = some (Value.slice a_9 n_21 c_7) ∧ ∀ (b_1 : Nat), CtS Try.prog (SV.v (Value.func (Fn.func (20 : Nat)) #[] #[])) [SV.ptr (0 : Nat) (0 : Nat), SV.agg [SV.v (Value.int IntKind.i64 n_20), SV.v (Value.slice a_9 n_21 c_7)]] [Ent.mk (EO.cells [SV.v (Value.int IntKind.i64 n_6), SV.v (Value.int IntKind.i64 n_7), SV.v (Value.int IntKind.i64 n_8), SV.v (Value.int IntKind.i64 n_9), SV.v (Value.int IntKind.i64 n_10), SV.v (Value.int IntKind.u8 n_11), SV.v (Value.bool b), SV.v (Value.int IntKind.i64 n_12), SV.v (Value.int IntKind.i64 n_13), SV.v (Value.int IntKind.i64 n_14), SV.v (Value.slice a_3 n_15 c_2), SV.v (Value.slice a_4 n_16 c_3), SV.v (Value.slice a_5 n_17 c_4), SV.v (Value.slice a_6 n_18 c_5), SV.v (Value.slice a_7 n_19 c_6)] (37 : Nat)) (some b_1)] I'_1 fun (sv : SV) (H' : List Ent) (I' : Mem) => ∃ (b : Bool), ∃ (n_22 : Int), ∃ (n_23 : Int), ∃ (n_24 : Int), ∃ (n_25 : Int), ∃ (n_26 : Int), ∃ (n_27 : Int), ∃ (b_2 : Bool), ∃ (n_28 : Int), ∃ (n_29 : Int), ∃ (n_30 : Int), ∃ (a_10 : Option Addr), ∃ (n_31 : Nat), ∃ (c_8 : Nat), ∃ (a_11 : Option Addr), ∃ (n_32 : Nat), ∃ (c_9 : Nat), ∃ (a_12 : Option Addr), ∃ (n_33 : Nat), ∃ (c_10 : Nat), ∃ (a_13 : Option Addr), ∃ (n_34 : Nat), ∃ (c_11 : Nat), ∃ (a_14 : Option Addr), ∃ (n_35 : Nat), ∃ (c_12 : Nat), sv = SV.v (Value.bool b) ∧ H' = [Ent.mk (EO.cells [SV.v (Value.int IntKind.i64 n_22), SV.v (Value.int IntKind.i64 n_23), SV.v (Value.int IntKind.i64 n_24), SV.v (Value.int IntKind.i64 n_25), SV.v (Value.int IntKind.i64 n_26), SV.v (Value.int IntKind.u8 n_27), SV.v (Value.bool b_2), SV.v (Value.int IntKind.i64 n_28), SV.v (Value.int IntKind.i64 n_29), SV.v (Value.int IntKind.i64 n_30), SV.v (Value.slice a_10 n_31 c_8), SV.v (Value.slice a_11 n_32 c_9), SV.v (Value.slice a_12 n_33 c_10), SV.v (Value.slice a_13 n_34 c_11), SV.v (Value.slice a_14 n_35 c_12)] (37 : Nat)) (some b_1)] ∧ Br (!b) (ReadP bs I I' (Value.tuple #[Value.agg #[Value.int IntKind.i64 (0 : Int), Value.int IntKind.i64 (0 : Int), Value.int IntKind.i64 (0 : Int), Value.int IntKind.i64 (0 : Int), Value.int IntKind.i64 (0 : Int), Value.int IntKind.u8 (0 : Int), Value.bool false, Value.int IntKind.i64 (0 : Int), Value.int IntKind.i64 (0 : Int), Value.int IntKind.i64 (0 : Int), Value.slice none (0 : Nat) (0 : Nat), Value.slice none (0 : Nat) (0 : Nat), Value.slice none (0 : Nat) (0 : Nat), Value.slice none (0 : Nat) (0 : Nat), Value.slice none (0 : Nat) (0 : Nat)], Value.int IntKind.i64 (351 : Int)])) (Wr IntKind.i64 (n_5 + (1 : Int)) fun (c_13 : Int) => Ent.mk (EO.cells [SV.v (Value.int IntKind.i64 (0 : Int)), SV.v (Value.int IntKind.i64 (0 : Int)), SV.v (Value.int IntKind.i64 (0 : Int)), SV.v (Value.int IntKind.i64 (0 : Int)), SV.v (Value.int IntKind.i64 (0 : Int)), SV.v (Value.int IntKind.u8 (0 : Int)), SV.v (Value.bool false), SV.v (Value.int IntKind.i64 (0 : Int)), SV.v (Value.int IntKind.i64 (0 : Int)), SV.v (Value.int IntKind.i64 (0 : Int)), SV.v (Value.slice none (0 : Nat) (0 : Nat)), SV.v (Value.slice none (0 : Nat) (0 : Nat)), SV.v (Value.slice none (0 : Nat) (0 : Nat)), SV.v (Value.slice none (0 : Nat) (0 : Nat)), SV.v (Value.slice none (0 : Nat) (0 : Nat))] (37 : Nat)) none = Ent.mk (EO.cells [SV.v (Value.int IntKind.i64 (0 : Int)), SV.v (Value.int IntKind.i64 (0 : Int)), SV.v (Value.int IntKind.i64 (0 : Int)), SV.v (Value.int IntKind.i64 (0 : Int)), SV.v (Value.int IntKind.i64 (0 : Int)), SV.v (Value.int IntKind.u8 (0 : Int)), SV.v (Value.bool false), SV.v (Value.int IntKind.i64 (0 : Int)), SV.v (Value.int IntKind.i64 (0 : Int)), SV.v (Value.int IntKind.i64 (0 : Int)), SV.v (Value.slice none (0 : Nat) (0 : Nat)), SV.v (Value.slice none (0 : Nat) (0 : Nat)), SV.v (Value.slice none (0 : Nat) (0 : Nat)), SV.v (Value.slice none (0 : Nat) (0 : Nat)), SV.v (Value.slice none (0 : Nat) (0 : Nat))] (37 : Nat)) none ∧ SV.v (Value.slice a n c) = SV.v (Value.slice a n c) ∧ SV.ptr (0 : Nat) (0 : Nat) = SV.ptr (0 : Nat) (0 : Nat) ∧ SV.ptr (1 : Nat) (0 : Nat) = SV.ptr (1 : Nat) (0 : Nat) ∧ SV.v (Value.slice a_1 n_2 c_1) = SV.v (Value.slice a_1 n_2 c_1) ∧ SV.v (Value.int IntKind.i64 (↑n_2 : Int)) = SV.v (Value.int IntKind.i64 (↑n_2 : Int)) ∧ ((0 : Int) ≤ c_13 ∧ c_13 ≤ (↑(List.length (flS bs)) : Int) ∧ ∃ (r : Rs), ∃ (y : Ys), [Value.int IntKind.i64 n_22, Value.int IntKind.i64 n_23, Value.int IntKind.i64 n_24, Value.int IntKind.i64 n_25, Value.int IntKind.i64 n_26, Value.int IntKind.u8 n_27, Value.bool b_2, Value.int IntKind.i64 n_28, Value.int IntKind.i64 n_29, Value.int IntKind.i64 n_30, Value.slice a_10 n_31 c_8, Value.slice a_11 n_32 c_9, Value.slice a_12 n_33 c_10, Value.slice a_13 n_34 c_11, Value.slice a_14 n_35 c_12] = [Value.int IntKind.i64 (Rs.num r), Value.int IntKind.i64 (Rs.code r), Value.int IntKind.i64 (Rs.ser r), Value.int IntKind.i64 (Rs.port r), Value.int IntKind.i64 (Rs.time r), Value.int IntKind.u8 (Rs.kind r), Value.bool (Rs.more r), Value.int IntKind.i64 (Prod.fst (Rs.key r)), Value.int IntKind.i64 (Prod.fst (Prod.snd (Rs.key r))), Value.int IntKind.i64 (Prod.snd (Prod.snd (Rs.key r))), Ys.c y, Ys.l y, Ys.e y, Ys.p y, Ys.h y] ∧ okRs r ∧ List.length (Rs.counts r) ≤ (1000000 : Nat) ∧ RsM I' r y ∧ NewY I I' y ∧ runS bs = runTS r (List.drop (Int.toNat c_13) (flS bs))) ∧ Int.toNat ((↑(List.length (flS bs)) : Int) - c_13) < Int.toNat ((↑(List.length (flS bs)) : Int) - n_5))) (Ct Try.prog (Value.func (Fn.func (10 : Nat)) #[] #[]) #[Value.agg #[Value.int IntKind.i64 n_6, Value.int IntKind.i64 n_7, Value.int IntKind.i64 n_8, Value.int IntKind.i64 n_9, Value.int IntKind.i64 n_10, Value.int IntKind.u8 n_11, Value.bool b, Value.int IntKind.i64 n_12, Value.int IntKind.i64 n_13, Value.int IntKind.i64 n_14, Value.slice a_3 n_15 c_2, Value.slice a_4 n_16 c_3, Value.slice a_5 n_17 c_4, Value.slice a_6 n_18 c_5, Value.slice a_7 n_19 c_6]] I'_1 fun (v : Value) (I' : Mem) => ∃ (a_9 : Option Addr), ∃ (n_20 : Nat), ∃ (c_7 : Nat), ∃ (n_21 : Int), v = Value.tuple #[Value.slice a_9 n_20 c_7, Value.int IntKind.i64 n_21] ∧ Br (n_21 != (0 : Int)) (ReadP bs I I' (Value.tuple #[Value.agg #[Value.int IntKind.i64 (0 : Int), Value.int IntKind.i64 (0 : Int), Value.int IntKind.i64 (0 : Int), Value.int IntKind.i64 (0 : Int), Value.int IntKind.i64 (0 : Int), Value.int IntKind.u8 (0 : Int), Value.bool false, Value.int IntKind.i64 (0 : Int), Value.int IntKind.i64 (0 : Int), Value.int IntKind.i64 (0 : Int), Value.slice none (0 : Nat) (0 : Nat), Value.slice none (0 : Nat) (0 : Nat), Value.slice none (0 : Nat) (0 : Nat), Value.slice none (0 : Nat) (0 : Nat), Value.slice none (0 : Nat) (0 : Nat)], Value.int IntKind.i64 (351 : Int)])) (Ct Try.prog (Value.func (Fn.func (21 : Nat)) #[] #[]) #[Value.slice a_9 n_20 c_7, Value.slice a n c] I' fun (v : Value) (I' : Mem) => ∃ (b_1 : Bool), v = Value.bool b_1 ∧ Br (!b_1) (ReadP bs I I' (Value.tuple #[Value.agg #[Value.int IntKind.i64 (0 : Int), Value.int IntKind.i64 (0 : Int), Value.int IntKind.i64 (0 : Int), Value.int IntKind.i64 (0 : Int), Value.int IntKind.i64 (0 : Int), Value.int IntKind.u8 (0 : Int), Value.bool false, Value.int IntKind.i64 (0 : Int), Value.int IntKind.i64 (0 : Int), Value.int IntKind.i64 (0 : Int), Value.slice none (0 : Nat) (0 : Nat), Value.slice none (0 : Nat) (0 : Nat), Value.slice none (0 : Nat) (0 : Nat), Value.slice none (0 : Nat) (0 : Nat), Value.slice none (0 : Nat) (0 : Nat)], Value.int IntKind.i64 (351 : Int)])) (ReadP bs I I' (Value.tuple #[Value.agg #[Value.int IntKind.i64 n_6, Value.int IntKind.i64 n_7, Value.int IntKind.i64 n_8, Value.int IntKind.i64 n_9, Value.int IntKind.i64 n_10, Value.int IntKind.u8 n_11, Value.bool b, Value.int IntKind.i64 n_12, Value.int IntKind.i64 n_13, Value.int IntKind.i64 n_14, Value.slice a_3 n_15 c_2, Value.slice a_4 n_16 c_3, Value.slice a_5 n_17 c_4, Value.slice a_6 n_18 c_5, Value.slice a_7 n_19 c_6], Value.int IntKind.i64 (0 : Int)])))))))) (by kernel_rfl) ?_
  simp only [eq_self, true_and]
  have hmx : maxLen = 9223372036854775807 := by decide
  have hln := h.numLen
  have Z : ∀ {J : Mem}, accS bs = false → ReadP bs I J (.tuple #[.agg (rsV zeroRs nilY).toArray, .int .i64 351]) := fun {J} hz => by
    have : readS bs = (zeroRs, 351) := by rw [readS, hz]; rfl
    refine ⟨nilY, ?_, ?_, zero_N _ _⟩
    · rw [this]
    · rw [this]; exact zero_M J
  refine Br.mk (fun h1 => Z ?_) (fun h1 => ?_)
  · have h1 := of_decide_eq_true h1
    rw [accS, decide_eq_false (by omega)]; rfl
  have h1 := of_decide_eq_false h1
  obtain ⟨x0, hx0, e0⟩ := h.intAt (i := 0) (by omega) (by omega)
  have hx0 : bs[0]? = some x0 := hx0
  refine ⟨by omega, by omega, h.isSome (by omega), x0, e0, Br.mk (fun h2 => Z ?_) (fun h2 => ?_)⟩
  · have h2 : x0 ≠ 1 := by simpa using h2
    rw [accS, hx0, decide_eq_false (p := some x0 = some 1) (fun hc => h2 (Option.some.inj hc)), Bool.false_and, Bool.and_false]
  have h2 : x0 = 1 := by simpa using h2
  have hsub := sl_sub h (f := 1) (t := n) (by omega) (by omega) hc
  rw [List.take_of_length_le (by rw [List.length_drop]; omega)] at hsub
  have hbd : byteL (bs.drop 1) := fun z hz => hbs z (List.mem_of_mem_drop hz)
  refine ⟨by omega, by omega, (ct19 (bs.drop 1) hbd _ (n - 1) (c - 1) I hsub (by omega) (by omega) (by omega)).mono fun v I1 l1 ⟨a1, n1, c1, hv, hF, hn1, hc1⟩ => ⟨_, _, _, _, _, hv, Br.mk (fun h3 => Z ?_) (fun h3 => ?_)⟩⟩
  · have h3 : (readF (bs.drop 1)).2.2 ≠ 0 := by simpa using h3
    rw [accS, decide_eq_false (p := (readF (bs.drop 1)).2.2 = 0) h3]
    simp
  have h3 : (readF (bs.drop 1)).2.2 = 0 := by simpa using h3
  have hacc : accS bs = ((runS bs).2 && (rightS (runS bs).1 && decide (writeS (runS bs).1 = bs))) := by
    rw [accS, hx0, h2, decide_eq_true (p := 1 ≤ bs.length) (by omega), h3]; simp
  have hF : FldM I1 a1 n1 (flS bs) := hF
  have hlen := hF.len
  have hle : ∀ f ∈ flS bs, f.2.length ≤ 16384 := by
    rcases read_cases (bs.drop 1) hbd with ⟨_, _, hr, _⟩ | ⟨hr, _⟩
    · intro f hf
      have := right_at (rightF_iff.1 hr).1 f hf
      omega
    · intro f hf
      have : flS bs = [] := hr
      rw [this] at hf; cases hf
  refine ⟨⟨by omega, by omega, zeroRs, nilY, rfl, zero_ok, by simp [zeroRs], zero_M I1, zero_N I I1, rfl⟩, fun I2 _ l2 j y0 y1 y2 y3 y4 y5 y6 y7 y8 y9 ac nc cc al nl cl ae ne ce ap np cp ah nh ch ⟨j0, j1, r, y, heq, okr, hcr, hM, hN, hrun⟩ => ?_⟩
  obtain ⟨yc, yl, ye, yp, yh⟩ := y
  simp only [List.cons.injEq, Value.int.injEq, Value.bool.injEq, true_and, and_true] at heq
  obtain ⟨rfl, rfl, rfl, rfl, rfl, rfl, rfl, rfl, rfl, rfl, rfl, rfl, rfl, rfl, rfl⟩ := heq
  refine Br.mk (fun hlt => ?_) (fun hge => ?_)
  · have hlt := of_decide_eq_true hlt
    obtain ⟨f, b, m, c', hf, hokf, e2, e3, hfs, hm1, hm2⟩ := (hF.mono l2).at_ j0 hlt
    have hfm := List.mem_of_getElem? hf
    have hml := hfs.numLen
    have hf16 := hle f hfm
    rw [drop_cons hf, runTS] at hrun
    refine ⟨j0, hlt, hF.isSome (by omega), _, e2, _, _, _, e3, fun kb => ?_⟩
    refine (cs_agg (cs20 f.1 kb r ⟨_, _, _, _, _⟩ f.2 hokf.2 b m c' I I2 hfs hm1 hm2 (by omega))).mono fun sv H' I3 l3 ⟨y', hv, hH, hM', hN'⟩ => ?_
    have hM3 := hM' hM
    have hN3 := hN' hN (Mem.le_trans l1 l2)
    have okr' := ok_take okr f.1 hokf.2
    have hcr' := counts_take hcr f.1 (bs := f.2) (by omega)
    obtain ⟨⟨a5, n5, c5, q1, _⟩, ⟨a6, n6, c6, q2, _⟩, ⟨a7, n7, c7, q3, _⟩, ⟨a8, n8, c8, q4, _⟩, ⟨a9, n9, c9, q5, _⟩⟩ := id hM3
    obtain ⟨zc, zl, ze, zp, zh⟩ := y'
    simp only at q1 q2 q3 q4 q5
    subst q1 q2 q3 q4 q5
    generalize (takeS r f.1 f.2).1 = r' at *
    refine ⟨_, _, _, _, _, _, _, _, _, _, _, _, _, _, _, _, _, _, _, _, _, _, _, _, _, _, hv, hH, Br.mk (fun hb => Z ?_) (fun hb => ?_)⟩
    · have hb : okS (takeS r f.1 f.2).2 = false := by simpa using hb
      rw [if_neg (by rw [hb]; simp)] at hrun
      rw [hacc, hrun]; rfl
    · have hb : okS (takeS r f.1 f.2).2 = true := by simpa using hb
      rw [if_pos hb] at hrun
      refine wr_i64 (by omega) (by omega) ⟨⟨by omega, by omega, r', ⟨_, _, _, _, _⟩, rfl, okr', hcr', hM3, hN3, ?_⟩, by omega⟩
      rw [show (j + 1).toNat = j.toNat + 1 by omega]; exact hrun
  · have hge := of_decide_eq_false hge
    rw [List.drop_eq_nil_of_le (by omega), runTS] at hrun
    rw [hrun, Bool.true_and] at hacc
    refine (ct10 r okr _ I2 hM hcr).mono fun v I3 l3 ⟨a3, n3, c3, hv, hs3, hn3, hc3, _⟩ => ⟨_, _, _, _, hv, Br.mk (fun hb => Z ?_) (fun hb => ?_)⟩
    · have hb : rightS r = false := by
        cases hrr : rightS r with
        | false => rfl
        | true => rw [hrr] at hb; cases hb
      rw [hacc, hb]; rfl
    · have hb : rightS r = true := by
        cases hrr : rightS r with
        | true => rfl
        | false => rw [hrr] at hb; cases hb
      rw [hb, if_pos rfl] at hs3
      rw [hb, Bool.true_and] at hacc
      have hI := h.mono (Mem.le_trans l1 (Mem.le_trans l2 l3))
      rw [← fm_u8] at hs3 hI
      refine (ct21 (writeS r) bs a3 a n3 n c3 c I3 hs3 hI).mono fun v I4 l4 hv => ⟨_, hv, Br.mk (fun hq => Z ?_) (fun hq => ?_)⟩
      · rw [hacc]; simpa using hq
      · have hq : decide (writeS r = bs) = true := by simpa using hq
        rw [hq] at hacc
        have hR : readS bs = (r, 0) := by rw [readS, hacc, if_pos rfl, hrun]
        refine ⟨⟨_, _, _, _, _⟩, ?_, ?_, hN.mono (Mem.le_trans l3 l4)⟩
        · rw [hR]; rfl
        · rw [hR]; exact hM.mono (Mem.le_trans l3 l4)
open Go Go.Proofs Go.SE Go.RowKit
set_option linter.unusedVariables false
def e1 : Rs := { zeroRs with num := 1, kind := 6, time := 5 }
def e2 : Rs := { zeroRs with num := 300, code := 341 }
def e3 : Rs := { zeroRs with num := 1, cells := [-1] }
theorem ok_e : okRs e1 ∧ okRs e2 ∧ okRs e3 := by
  refine ⟨?_, ?_, ?_⟩
  all_goals constructor
  all_goals first
    | (intro z hz; cases hz; done)
    | (intro z hz; rw [List.mem_singleton.1 hz]; simp [i64R])
    | (simp [e1, e2, e3, zeroRs, i64R])
theorem f300 : formN 300 = [248, 1, 44] := by simp [formN, digN, be]
theorem f341 : formN 341 = [248, 1, 85] := by simp [formN, digN, be]
theorem fields_e2 : fieldsS e2 = [(1, [248, 1, 44]), (3, [248, 1, 85])] := by
  have h1 : fN 1 300 = (1, [248, 1, 44]) := by
    show (1, formN (IntKind.u64.wrap 300).toNat) = _
    rw [show (IntKind.u64.wrap 300).toNat = 300 by decide, f300]
  have h2 : fN 3 341 = (3, [248, 1, 85]) := by
    show (3, formN (IntKind.u64.wrap 341).toNat) = _
    rw [show (IntKind.u64.wrap 341).toNat = 341 by decide, f341]
  have : fieldsS e2 = [fN 1 300, fN 3 341] := rfl
  rw [this, h1, h2]
theorem fields_e1 : fieldsS e1 = [(1, [1]), (2, [6]), (6, [5])] := by decide +kernel
theorem fields_e3 : fieldsS e3 = [(1, [1]), (10, [1])] := by decide +kernel
theorem vok_e : vokS e1 = true ∧ vokS e2 = true ∧ vokS e3 = true := by decide +kernel
theorem right_e : rightS e1 = true ∧ rightS e2 = true ∧ rightS e3 = true := by
  obtain ⟨h1, h2, h3⟩ := vok_e
  rw [rightS, rightS, rightS, h1, h2, h3, fields_e1, fields_e2, fields_e3]
  decide +kernel
theorem write_e : writeS e1 = [1, 1, 1, 1, 2, 1, 6, 6, 1, 5] ∧ writeS e2 = [1, 1, 3, 248, 1, 44, 3, 3, 248, 1, 85] ∧ writeS e3 = [1, 1, 1, 1, 10, 1, 1] := by
  rw [writeS, writeS, writeS, fields_e1, fields_e2, fields_e3]
  decide +kernel
theorem acc_no {bs : List Int} (h : (runS bs).2 = false ∨ rightS (runS bs).1 = false ∨ writeS (runS bs).1 ≠ bs) : accS bs = false := by
  rw [accS]
  rcases h with h | h | h
  · rw [h]; simp
  · rw [h]; simp
  · rw [decide_eq_false (p := writeS _ = _) h]; simp
theorem n1 : accS [1] = false := by
  have h : flS [1] = [] := by show (readF []).1 = []; simp [readF, yields, goF]
  refine acc_no (.inr (.inl ?_))
  rw [runS, h]; decide +kernel
theorem n2 : accS [1, 1, 1, 0] = false := by
  have h : flS [1, 1, 1, 0] = [(1, [0])] := by show (readF [1, 1, 0]).1 = _; simp [readF, yields, fstep, intN, readN, goF]
  refine acc_no (.inr (.inl ?_))
  rw [runS, h]; decide +kernel
theorem n3 : accS [2, 1, 1, 1] = false := by
  rw [accS]; simp
theorem n4 : accS [1, 1, 1, 1, 2, 1, 0] = false := by
  have h : flS [1, 1, 1, 1, 2, 1, 0] = [(1, [1]), (2, [0])] := by show (readF [1, 1, 1, 2, 1, 0]).1 = _; simp [readF, yields, fstep, intN, readN, goF]
  refine acc_no (.inr (.inr ?_))
  rw [runS, h]; decide +kernel
theorem n5 : accS [1, 1, 1, 1, 7, 1, 0] = false := by
  have h : flS [1, 1, 1, 1, 7, 1, 0] = [(1, [1]), (7, [0])] := by show (readF [1, 1, 1, 7, 1, 0]).1 = _; simp [readF, yields, fstep, intN, readN, goF]
  refine acc_no (.inl ?_)
  rw [runS, h]; decide +kernel
theorem bysl_lit {I : Mem} {b n : Nat} {cs : Array Value} {el : TypeId} {bs : List Int} (h : I b = some (.cells cs el)) (hx : cs = (ints .u8 bs).toArray) (hn : n = bs.length) (hm : n ≤ 100) : SlM I (some ⟨b, 0, none⟩) n 1 (ints .u8 bs) := by
  subst hx
  have := sl_cells (n := n) (sz := 1) h (by simp [ints]; omega) (by simp only [maxLen]; omega)
  simpa using this
theorem ex_step (e : Rs) (hok : okRs e) (y : Ys) (hc : e.counts.length ≤ 1000000) (hr : rightS e = true) (form : List Int) (hw : writeS e = form) (hf : byteL form) (J : Mem) (hM : RsM J e y) (b : Option Addr) (m c : Nat) (hs : SlM J b m 1 (ints .u8 form)) (Q : Prop) (hq : Q) :
    Ct Try.prog (fnv 10) #[.agg (rsV e y).toArray] J (fun v I' => ∃ a n_13 c_1 n_14, v = Value.tuple #[Value.slice a n_13 c_1, Value.int .i64 n_14] ∧ Br (n_14 != 0) (Value.bool false = Value.bool true) (Ct Try.prog (fnv 14) #[Value.slice a n_13 c_1, Value.slice b m c] I' fun v I' => ∃ b, v = Value.bool b ∧ Br (!b) (Value.bool false = Value.bool true) Q)) := by
  refine (ct10 e hok y J hM hc).mono fun v I1 l1 ⟨a, n, c', hv, h1, h2, h3, _⟩ => ⟨_, _, _, _, hv, ?_⟩
  rw [hr, if_pos rfl, hw] at h1
  rw [hr]
  exact Br.f rfl ((ct14 form form hf hf a b n c' m c I1 h1 (hs.mono l1)).mono fun v I2 l2 hv => ⟨_, hv, Br.f (by simp) hq⟩)
theorem no_step (bs : List Int) (hb : byteL bs) (hno : accS bs = false) (J : Mem) (b : Option Addr) (m : Nat) (hm : m ≤ 100) (hs : SlM J b m 1 (ints .u8 bs)) (Q : Mem → Prop) (hq : ∀ J', J.le J' → Q J') :
    Ct Try.prog (fnv 12) #[.slice b m m] J (fun v I' => ∃ n_2 n_3 n_4 n_5 n_6 n_7 b n_8 n_9 n_10 a n_11 c a_1 n_12 c_1 a_2 n_13 c_2 a_3 n_14 c_3 a_4 n_15 c_4 n_16, v = Value.tuple #[Value.agg #[Value.int IntKind.i64 n_2, Value.int IntKind.i64 n_3, Value.int IntKind.i64 n_4, Value.int IntKind.i64 n_5, Value.int IntKind.i64 n_6, Value.int IntKind.u8 n_7, Value.bool b, Value.int IntKind.i64 n_8, Value.int IntKind.i64 n_9, Value.int IntKind.i64 n_10, Value.slice a n_11 c, Value.slice a_1 n_12 c_1, Value.slice a_2 n_13 c_2, Value.slice a_3 n_14 c_3, Value.slice a_4 n_15 c_4], Value.int IntKind.i64 n_16] ∧ Br (n_16 != 351) (Value.bool false = Value.bool true) (Q I')) := by
  refine (ct12 bs hb b m m J hs (by omega) (by omega) (by simp only [maxLen]; omega)).mono fun v I1 l1 ⟨y, hv, hM, _⟩ => ?_
  obtain ⟨⟨_, _, _, h1, _⟩, ⟨_, _, _, h2, _⟩, ⟨_, _, _, h3, _⟩, ⟨_, _, _, h4, _⟩, ⟨_, _, _, h5, _⟩⟩ := hM
  obtain ⟨yc, yl, ye, yp, yh⟩ := y
  subst h1 h2 h3 h4 h5
  have hr : readS bs = (zeroRs, 351) := by rw [readS, hno]; rfl
  rw [hr] at hv
  exact ⟨_, _, _, _, _, _, _, _, _, _, _, _, _, _, _, _, _, _, _, _, _, _, _, _, _, _, hv, Br.f rfl (hq I1 l1)⟩
theorem ct8 (I : Mem) : Ct Try.prog (fnv 8) #[] I (fun v I' => v = .bool true) := by
  refine viaR (ct_via (A := { befores := [(2, [4]), (9, [10])], loops := [(2, ⟨[(19, .keep), (20, .keep), (21, .sh (.int .i64))], [], [], fun vals _ _ _ => match vals with | [.int .i64 j] => 0 ≤ j ∧ j ≤ 3 | _ => False, fun vals _ => match vals with | [.int .i64 j] => (3 - j).toNat | _ => 0⟩), (9, ⟨[(46, .keep), (47, .keep), (48, .sh (.int .i64))], [], [], fun vals _ _ _ => match vals with | [.int .i64 j] => 0 ≤ j ∧ j ≤ 5 | _ => False, fun vals _ => match vals with | [.int .i64 j] => (5 - j).toNat | _ => 0⟩)] }) Try.func8 rfl Try.call8 rfl rfl) (∀ (b : Nat) (I' : Mem), Mem.le I I' → I' b = some (Obj.cells #[Value.int IntKind.u8 (1 : Int), Value.int IntKind.u8 (1 : Int), Value.int IntKind.u8 (1 : Int), Value.int IntKind.u8 (1 : Int), Value.int IntKind.u8 (2 : Int), Value.int IntKind.u8 (1 : Int), Value.int IntKind.u8 (6 : Int), Value.int IntKind.u8 (6 : Int), Value.int IntKind.u8 (1 : Int), Value.int IntKind.u8 (5 : Int)] (5 : Nat)) → ∀ (b_1 : Nat) (I'_1 : Mem), Mem.le I' I'_1 → I'_1 b_1 = some (Obj.cells #[Value.int IntKind.u8 (1 : Int), Value.int IntKind.u8 (1 : Int), Value.int IntKind.u8 (3 : Int), Value.int IntKind.u8 (248 : Int), Value.int IntKind.u8 (1 : Int), Value.int IntKind.u8 (44 : Int), Value.int IntKind.u8 (3 : Int), Value.int IntKind.u8 (3 : Int), Value.int IntKind.u8 (248 : Int), Value.int IntKind.u8 (1 : Int), Value.int IntKind.u8 (85 : Int)] (5 : Nat)) → ∀ (b_2 : Nat) (I' : Mem), Mem.le I'_1 I' → I' b_2 = some (Obj.cells #[Value.int IntKind.i64 (-1 : Int)] (2 : Nat)) → ∀ (b_3 : Nat) (I'_2 : Mem), Mem.le I' I'_2 → I'_2 b_3 = some (Obj.cells #[Value.int IntKind.u8 (1 : Int), Value.int IntKind.u8 (1 : Int), Value.int IntKind.u8 (1 : Int), Value.int IntKind.u8 (1 : Int), Value.int IntKind.u8 (10 : Int), Value.int IntKind.u8 (1 : Int), Value.int IntKind.u8 (1 : Int)] (5 : Nat)) → ∀ (b_4 : Nat) (I' : Mem), Mem.le I'_2 I' → I' b_4 = some (Obj.cells #[Value.int IntKind.i64 (1 : Int), Value.int IntKind.i64 (0 : Int), Value.int IntKind.i64 (0 : Int), Value.int IntKind.i64 (0 : Int), Value.int IntKind.i64 (5 : Int), Value.int IntKind.u8 (6 : Int), Value.bool false, Value.int IntKind.i64 (0 : Int), Value.int IntKind.i64 (0 : Int), Value.int IntKind.i64 (0 : Int), Value.slice none (0 : Nat) (0 : Nat), Value.slice none (0 : Nat) (0 : Nat), Value.slice none (0 : Nat) (0 : Nat), Value.slice none (0 : Nat) (0 : Nat), Value.slice none (0 : Nat) (0 : Nat), Value.slice (some (Addr.mk b (0 : Nat) none)) (10 : Nat) (10 : Nat), Value.int IntKind.i64 (300 : Int), Value.int IntKind.i64 (341 : Int), Value.int IntKind.i64 (0 : Int), Value.int IntKind.i64 (0 : Int), Value.int IntKind.i64 (0 : Int), Value.int IntKind.u8 (0 : Int), Value.bool false, Value.int IntKind.i64 (0 : Int), Value.int IntKind.i64 (0 : Int), Value.int IntKind.i64 (0 : Int), Value.slice none (0 : Nat) (0 : Nat), Value.slice none (0 : Nat) (0 : Nat), Value.slice none (0 : Nat) (0 : Nat), Value.slice none (0 : Nat) (0 : Nat), Value.slice none (0 : Nat) (0 : Nat), Value.slice (some (Addr.mk b_1 (0 : Nat) none)) (11 : Nat) (11 : Nat), Value.int IntKind.i64 (1 : Int), Value.int IntKind.i64 (0 : Int), Value.int IntKind.i64 (0 : Int), Value.int IntKind.i64 (0 : Int), Value.int IntKind.i64 (0 : Int), Value.int IntKind.u8 (0 : Int), Value.bool false, Value.int IntKind.i64 (0 : Int), Value.int IntKind.i64 (0 : Int), Value.int IntKind.i64 (0 : Int), Value.slice none (0 : Nat) (0 : Nat), Value.slice (some (Addr.mk b_2 (0 : Nat) none)) (1 : Nat) (1 : Nat), Value.slice none (0 : Nat) (0 : Nat), Value.slice none (0 : Nat) (0 : Nat), Value.slice none (0 : Nat) (0 : Nat), Value.slice (some (Addr.mk b_3 (0 : Nat) none)) (7 : Nat) (7 : Nat)] (67 : Nat)) → (SV.v (Value.slice (some (Addr.mk b_4 (0 : Nat) none)) (3 : Nat) (3 : Nat)) = SV.v (Value.slice (some (Addr.mk b_4 (0 : Nat) none)) (3 : Nat) (3 : Nat)) ∧ SV.v (Value.int IntKind.i64 (3 : Int)) = SV.v (Value.int IntKind.i64 (3 : Int)) ∧ (0 : Int) ≤ (0 : Int) ∧ (0 : Int) ≤ (3 : Int)) ∧ ∀ (I'_3 G' : Mem), Mem.le I' I'_3 → ∀ (n : Int), (0 : Int) ≤ n ∧ n ≤ (3 : Int) → Br (decide (n < (3 : Int))) ((0 : Int) ≤ n ∧ n < (3 : Int) ∧ true = true ∧ (16 : Nat) = (16 : Nat) ∧ ∃ (n_1 : Int), atI I'_3 (some (Addr.mk b_4 (0 : Nat) none)) (Int.toNat n * (16 : Nat) + (0 : Nat)) = some (Value.int IntKind.i64 n_1) ∧ ∃ (n_2 : Int), atI I'_3 (some (Addr.mk b_4 (0 : Nat) none)) (Int.toNat n * (16 : Nat) + (1 : Nat)) = some (Value.int IntKind.i64 n_2) ∧ ∃ (n_3 : Int), atI I'_3 (some (Addr.mk b_4 (0 : Nat) none)) (Int.toNat n * (16 : Nat) + (2 : Nat)) = some (Value.int IntKind.i64 n_3) ∧ ∃ (n_4 : Int), atI I'_3 (some (Addr.mk b_4 (0 : Nat) none)) (Int.toNat n * (16 : Nat) + (3 : Nat)) = some (Value.int IntKind.i64 n_4) ∧ ∃ (n_5 : Int), atI I'_3 (some (Addr.mk b_4 (0 : Nat) none)) (Int.toNat n * (16 : Nat) + (4 : Nat)) = some (Value.int IntKind.i64 n_5) ∧ ∃ (n_6 : Int), atI I'_3 (some (Addr.mk b_4 (0 : Nat) none)) (Int.toNat n * (16 : Nat) + (5 : Nat)) = some (Value.int IntKind.u8 n_6) ∧ ∃ (b : Bool), atI I'_3 (some (Addr.mk b_4 (0 : Nat) none)) (Int.toNat n * (16 : Nat) + (6 : Nat)) = some (Value.bool b) ∧ ∃ (n_7 : Int), atI I'_3 (some (Addr.mk b_4 (0 : Nat) none)) (Int.toNat n * (16 : Nat) + (7 : Nat)) = some (Value.int IntKind.i64 n_7) ∧ ∃ (n_8 : Int), atI I'_3 (some (Addr.mk b_4 (0 : Nat) none)) (Int.toNat n * (16 : Nat) + (8 : Nat)) = some (Value.int IntKind.i64 n_8) ∧ ∃ (n_9 : Int), atI I'_3 (some (Addr.mk b_4 (0 : Nat) none)) (Int.toNat n * (16 : Nat) + (9 : Nat)) = some (Value.int IntKind.i64 n_9) ∧ ∃ (a : Option Addr), ∃ (n_10 : Nat), ∃ (c : Nat), atI I'_3 (some (Addr.mk b_4 (0 : Nat) none)) (Int.toNat n * (16 : Nat) + (10 : Nat)) = some (Value.slice a n_10 c) ∧ ∃ (a_1 : Option Addr), ∃ (n_11 : Nat), ∃ (c_1 : Nat), atI I'_3 (some (Addr.mk b_4 (0 : Nat) none)) (Int.toNat n * (16 : Nat) + (11 : Nat)) = some (Value.slice a_1 n_11 c_1) ∧ ∃ (a_2 : Option Addr), ∃ (n_12 : Nat), ∃ (c_2 : Nat), atI I'_3 (some (Addr.mk b_4 (0 : Nat) none)) (Int.toNat n * (16 : Nat) + (12 : Nat)) = some (Value.slice a_2 n_12 c_2) ∧ ∃ (a_3 : Option Addr), ∃ (n_13 : Nat), ∃ (c_3 : Nat), atI I'_3 (some (Addr.mk b_4 (0 : Nat) none)) (Int.toNat n * (16 : Nat) + (13 : Nat)) = some (Value.slice a_3 n_13 c_3) ∧ ∃ (a_4 : Option Addr), ∃ (n_14 : Nat), ∃ (c_4 : Nat), atI I'_3 (some (Addr.mk b_4 (0 : Nat) none)) (Int.toNat n * (16 : Nat) + (14 : Nat)) = some (Value.slice a_4 n_14 c_4) ∧ ∃ (a_5 : Option Addr), ∃ (n_15 : Nat), ∃ (c_5 : Nat), atI I'_3 (some (Addr.mk b_4 (0 : Nat) none)) (Int.toNat n * (16 : Nat) + (15 : Nat)) = some (Value.slice a_5 n_15 c_5) ∧ Ct Try.prog (Value.func (Fn.func (10 : Nat)) #[] #[]) #[Value.agg #[Value.int IntKind.i64 n_1, Value.int IntKind.i64 n_2, Value.int IntKind.i64 n_3, Value.int IntKind.i64 n_4, Value.int IntKind.i64 n_5, Value.int IntKind.u8 n_6, Value.bool b, Value.int IntKind.i64 n_7, Value.int IntKind.i64 n_8, Value.int IntKind.i64 n_9, Value.slice a n_10 c, Value.slice a_1 n_11 c_1, Value.slice a_2 n_12 c_2, Value.slice a_3 n_13 c_3, Value.slice a_4 n_14 c_4]] I'_3 fun (v : Value) (I' : Mem) => ∃ (a : Option Addr), ∃ (n_16 : Nat), ∃ (c : Nat), ∃ (n_17 : Int), v = Value.tuple #[Value.slice a n_16 c, Value.int IntKind.i64 n_17] ∧ Br (n_17 != (0 : Int)) (Value.bool false = Value.bool true) (Ct Try.prog (Value.func (Fn.func (14 : Nat)) #[] #[]) #[Value.slice a n_16 c, Value.slice a_5 n_15 c_5] I' fun (v : Value) (I' : Mem) => ∃ (b : Bool), v = Value.bool b ∧ Br (!b) (Value.bool false = Value.bool true) (Wr IntKind.i64 (n + (1 : Int)) fun (c : Int) => SV.v (Value.slice (some (Addr.mk b_4 (0 : Nat) none)) (3 : Nat) (3 : Nat)) = SV.v (Value.slice (some (Addr.mk b_4 (0 : Nat) none)) (3 : Nat) (3 : Nat)) ∧ SV.v (Value.int IntKind.i64 (3 : Int)) = SV.v (Value.int IntKind.i64 (3 : Int)) ∧ ((0 : Int) ≤ c ∧ c ≤ (3 : Int)) ∧ Int.toNat ((3 : Int) - c) < Int.toNat ((3 : Int) - n)))) (∀ (b : Nat) (I' : Mem), Mem.le I'_3 I' → I' b = some (Obj.cells #[Value.int IntKind.u8 (1 : Int)] (5 : Nat)) → ∀ (b_5 : Nat) (I'_4 : Mem), Mem.le I' I'_4 → I'_4 b_5 = some (Obj.cells #[Value.int IntKind.u8 (1 : Int), Value.int IntKind.u8 (1 : Int), Value.int IntKind.u8 (1 : Int), Value.int IntKind.u8 (0 : Int)] (5 : Nat)) → ∀ (b_6 : Nat) (I' : Mem), Mem.le I'_4 I' → I' b_6 = some (Obj.cells #[Value.int IntKind.u8 (2 : Int), Value.int IntKind.u8 (1 : Int), Value.int IntKind.u8 (1 : Int), Value.int IntKind.u8 (1 : Int)] (5 : Nat)) → ∀ (b_7 : Nat) (I'_5 : Mem), Mem.le I' I'_5 → I'_5 b_7 = some (Obj.cells #[Value.int IntKind.u8 (1 : Int), Value.int IntKind.u8 (1 : Int), Value.int IntKind.u8 (1 : Int), Value.int IntKind.u8 (1 : Int), Value.int IntKind.u8 (2 : Int), Value.int IntKind.u8 (1 : Int), Value.int IntKind.u8 (0 : Int)] (5 : Nat)) → ∀ (b_8 : Nat) (I' : Mem), Mem.le I'_5 I' → I' b_8 = some (Obj.cells #[Value.int IntKind.u8 (1 : Int), Value.int IntKind.u8 (1 : Int), Value.int IntKind.u8 (1 : Int), Value.int IntKind.u8 (1 : Int), Value.int IntKind.u8 (7 : Int), Value.int IntKind.u8 (1 : Int), Value.int IntKind.u8 (0 : Int)] (5 : Nat)) → ∀ (b_9 : Nat) (I'_6 : Mem), Mem.le I' I'_6 → I'_6 b_9 = some (Obj.cells #[Value.slice (some (Addr.mk b (0 : Nat) none)) (1 : Nat) (1 : Nat), Value.slice (some (Addr.mk b_5 (0 : Nat) none)) (4 : Nat) (4 : Nat), Value.slice (some (Addr.mk b_6 (0 : Nat) none)) (4 : Nat) (4 : Nat), Value.slice (some (Addr.mk b_7 (0 : Nat) none)) (7 : Nat) (7 : Nat), Value.slice (some (Addr.mk b_8 (0 : Nat) none)) (7 : Nat) (7 : Nat)] (47 : Nat)) → (SV.v (Value.slice (some (Addr.mk b_9 (0 : Nat) none)) (5 : Nat) (5 : Nat)) = SV.v (Value.slice (some (Addr.mk b_9 (0 : Nat) none)) (5 : Nat) (5 : Nat)) ∧ SV.v (Value.int IntKind.i64 (5 : Int)) = SV.v (Value.int IntKind.i64 (5 : Int)) ∧ (0 : Int) ≤ (0 : Int) ∧ (0 : Int) ≤ (5 : Int)) ∧ ∀ (I' G' : Mem), Mem.le I'_6 I' → ∀ (n : Int), (0 : Int) ≤ n ∧ n ≤ (5 : Int) → Br (decide (n < (5 : Int))) ((0 : Int) ≤ n ∧ n < (5 : Int) ∧ true = true ∧ ∃ (a : Option Addr), ∃ (n_1 : Nat), ∃ (c : Nat), atI I' (some (Addr.mk b_9 (0 : Nat) none)) (Int.toNat n * (1 : Nat) + (0 : Nat)) = some (Value.slice a n_1 c) ∧ Ct Try.prog (Value.func (Fn.func (12 : Nat)) #[] #[]) #[Value.slice a n_1 c] I' fun (v : Value) (I' : Mem) => ∃ (n_2 : Int), ∃ (n_3 : Int), ∃ (n_4 : Int), ∃ (n_5 : Int), ∃ (n_6 : Int), ∃ (n_7 : Int), ∃ (b : Bool), ∃ (n_8 : Int), ∃ (n_9 : Int), ∃ (n_10 : Int), ∃ (a : Option Addr), ∃ (n_11 : Nat), ∃ (c : Nat), ∃ (a_1 : Option Addr), ∃ (n_12 : Nat), ∃ (c_1 : Nat), ∃ (a_2 : Option Addr), ∃ (n_13 : Nat), ∃ (c_2 : Nat), ∃ (a_3 : Option Addr), ∃ (n_14 : Nat), ∃ (c_3 : Nat), ∃ (a_4 : Option Addr), ∃ (n_15 : Nat), ∃ (c_4 : Nat), ∃ (n_16 : Int), v = Value.tuple #[Value.agg #[Value.int IntKind.i64 n_2, Value.int IntKind.i64 n_3, Value.int IntKind.i64 n_4, Value.int IntKind.i64 n_5, Value.int IntKind.i64 n_6, Value.int IntKind.u8 n_7, Value.bool b, Value.int IntKind.i64 n_8, Value.int IntKind.i64 n_9, Value.int IntKind.i64 n_10, Value.slice a n_11 c, Value.slice a_1 n_12 c_1, Value.slice a_2 n_13 c_2, Value.slice a_3 n_14 c_3, Value.slice a_4 n_15 c_4], Value.int IntKind.i64 n_16] ∧ Br (n_16 != (351 : Int)) (Value.bool false = Value.bool true) (Wr IntKind.i64 (n + (1 : Int)) fun (c : Int) => SV.v (Value.slice (some (Addr.mk b_9 (0 : Nat) none)) (5 : Nat) (5 : Nat)) = SV.v (Value.slice (some (Addr.mk b_9 (0 : Nat) none)) (5 : Nat) (5 : Nat)) ∧ SV.v (Value.int IntKind.i64 (5 : Int)) = SV.v (Value.int IntKind.i64 (5 : Int)) ∧ ((0 : Int) ≤ c ∧ c ≤ (5 : Int)) ∧ Int.toNat ((5 : Int) - c) < Int.toNat ((5 : Int) - n))) (Value.bool true = Value.bool true))) (by kernel_rfl) ?_
  simp only [eq_self, true_and]
  intro b1 I1 l1 bh1 b2 I2 l2 bh2 b3 I3 l3 bh3 b4 I4 l4 bh4 b5 I5 l5 bh5
  obtain ⟨o1, o2, o3⟩ := ok_e
  obtain ⟨r1, r2, r3⟩ := right_e
  obtain ⟨w1, w2, w3⟩ := write_e
  refine ⟨⟨by omega, by omega⟩, fun I6 _ l6 n ⟨n0, nn⟩ => Br.mk (fun hlt => ?_) (fun hge => ?_)⟩
  · have hlt := of_decide_eq_true hlt
    have m5 := l6
    have m4 := Mem.le_trans l5 m5
    have m3 := Mem.le_trans l4 m4
    have m2 := Mem.le_trans l3 m3
    have m1 := Mem.le_trans l2 m2
    have g5 := m5 _ _ bh5
    have g4 := m4 _ _ bh4
    have g3 := m3 _ _ bh3
    have g2 := m2 _ _ bh2
    have g1 := m1 _ _ bh1
    refine ⟨n0, hlt, ?_⟩
    rcases (by omega : n = 0 ∨ n = 1 ∨ n = 2) with rfl | rfl | rfl
    · refine ⟨_, atC g5 rfl, _, atC g5 rfl, _, atC g5 rfl, _, atC g5 rfl, _, atC g5 rfl, _, atC g5 rfl, _, atC g5 rfl, _, atC g5 rfl, _, atC g5 rfl, _, atC g5 rfl, _, _, _, atC g5 rfl, _, _, _, atC g5 rfl, _, _, _, atC g5 rfl, _, _, _, atC g5 rfl, _, _, _, atC g5 rfl, _, _, _, atC g5 rfl, ?_⟩
      exact ex_step e1 o1 nilY (by decide) r1 [1, 1, 1, 1, 2, 1, 6, 6, 1, 5] w1 (by simp [byteL]) I6 ⟨lst_nil 1 _, lst_nil 1 _, lst_nil 5 _, lst_nil 3 _, lst_nil 5 _⟩ _ _ _ (bysl_lit g1 rfl rfl (by decide)) _ (wr_i64 (by omega) (by omega) ⟨⟨by omega, by omega⟩, by omega⟩)
    · refine ⟨_, atC g5 rfl, _, atC g5 rfl, _, atC g5 rfl, _, atC g5 rfl, _, atC g5 rfl, _, atC g5 rfl, _, atC g5 rfl, _, atC g5 rfl, _, atC g5 rfl, _, atC g5 rfl, _, _, _, atC g5 rfl, _, _, _, atC g5 rfl, _, _, _, atC g5 rfl, _, _, _, atC g5 rfl, _, _, _, atC g5 rfl, _, _, _, atC g5 rfl, ?_⟩
      exact ex_step e2 o2 nilY (by decide) r2 [1, 1, 3, 248, 1, 44, 3, 3, 248, 1, 85] w2 (by simp [byteL]) I6 ⟨lst_nil 1 _, lst_nil 1 _, lst_nil 5 _, lst_nil 3 _, lst_nil 5 _⟩ _ _ _ (bysl_lit g2 rfl rfl (by decide)) _ (wr_i64 (by omega) (by omega) ⟨⟨by omega, by omega⟩, by omega⟩)
    · refine ⟨_, atC g5 rfl, _, atC g5 rfl, _, atC g5 rfl, _, atC g5 rfl, _, atC g5 rfl, _, atC g5 rfl, _, atC g5 rfl, _, atC g5 rfl, _, atC g5 rfl, _, atC g5 rfl, _, _, _, atC g5 rfl, _, _, _, atC g5 rfl, _, _, _, atC g5 rfl, _, _, _, atC g5 rfl, _, _, _, atC g5 rfl, _, _, _, atC g5 rfl, ?_⟩
      exact ex_step e3 o3 ⟨.slice none 0 0, .slice (some ⟨b3, 0, none⟩) 1 1, .slice none 0 0, .slice none 0 0, .slice none 0 0⟩ (by decide) r3 [1, 1, 1, 1, 10, 1, 1] w3 (by simp [byteL]) I6 ⟨lst_nil 1 _, ⟨_, _, _, rfl, (by have := sl_cells (n := 1) (sz := 1) g3 (by decide) (by decide); simpa [e3, cI, List.flatMap] using this), by decide, by decide⟩, lst_nil 5 _, lst_nil 3 _, lst_nil 5 _⟩ _ _ _ (bysl_lit g4 rfl rfl (by decide)) _ (wr_i64 (by omega) (by omega) ⟨⟨by omega, by omega⟩, by omega⟩)
  intro c1 J1 k1 ch1 c2 J2 k2 ch2 c3 J3 k3 ch3 c4 J4 k4 ch4 c5 J5 k5 ch5 c6 J6 k6 ch6
  refine ⟨⟨by omega, by omega⟩, fun J7 _ k7 n ⟨n0, nn⟩ => Br.mk (fun hlt => ?_) (fun hge => trivial)⟩
  have hlt := of_decide_eq_true hlt
  have m6 := k7
  have m5 := Mem.le_trans k6 m6
  have m4 := Mem.le_trans k5 m5
  have m3 := Mem.le_trans k4 m4
  have m2 := Mem.le_trans k3 m3
  have m1 := Mem.le_trans k2 m2
  have g6 := m6 _ _ ch6
  have g5 := m5 _ _ ch5
  have g4 := m4 _ _ ch4
  have g3 := m3 _ _ ch3
  have g2 := m2 _ _ ch2
  have g1 := m1 _ _ ch1
  refine ⟨n0, hlt, ?_⟩
  rcases (by omega : n = 0 ∨ n = 1 ∨ n = 2 ∨ n = 3 ∨ n = 4) with rfl | rfl | rfl | rfl | rfl
  · refine ⟨_, _, _, atC g6 rfl, ?_⟩
    exact no_step [1] (by simp [byteL]) n1 J7 _ _ (by decide) (bysl_lit g1 rfl rfl (by decide)) (fun _ => _) fun J' _ => (wr_i64 (by omega) (by omega) ⟨⟨by omega, by omega⟩, by omega⟩)
  · refine ⟨_, _, _, atC g6 rfl, ?_⟩
    exact no_step [1, 1, 1, 0] (by simp [byteL]) n2 J7 _ _ (by decide) (bysl_lit g2 rfl rfl (by decide)) (fun _ => _) fun J' _ => (wr_i64 (by omega) (by omega) ⟨⟨by omega, by omega⟩, by omega⟩)
  · refine ⟨_, _, _, atC g6 rfl, ?_⟩
    exact no_step [2, 1, 1, 1] (by simp [byteL]) n3 J7 _ _ (by decide) (bysl_lit g3 rfl rfl (by decide)) (fun _ => _) fun J' _ => (wr_i64 (by omega) (by omega) ⟨⟨by omega, by omega⟩, by omega⟩)
  · refine ⟨_, _, _, atC g6 rfl, ?_⟩
    exact no_step [1, 1, 1, 1, 2, 1, 0] (by simp [byteL]) n4 J7 _ _ (by decide) (bysl_lit g4 rfl rfl (by decide)) (fun _ => _) fun J' _ => (wr_i64 (by omega) (by omega) ⟨⟨by omega, by omega⟩, by omega⟩)
  · refine ⟨_, _, _, atC g6 rfl, ?_⟩
    exact no_step [1, 1, 1, 1, 7, 1, 0] (by simp [byteL]) n5 J7 _ _ (by decide) (bysl_lit g5 rfl rfl (by decide)) (fun _ => _) fun J' _ => (wr_i64 (by omega) (by omega) ⟨⟨by omega, by omega⟩, by omega⟩)
open Go Go.Proofs Go.SE Go.RowKit
set_option linter.unusedVariables false
def nmsL : List ByteArray := [⟨#[97]⟩, ⟨#[97, 45, 98]⟩, ⟨#[97, 48]⟩, ⟨#[98]⟩, ⟨#[105, 110]⟩, ⟨#[111, 117, 116]⟩, ⟨#[112, 111, 114, 116, 45, 49]⟩, ⟨#[122]⟩]
def okNm (s : ByteArray) : Bool := nameB (strL s) && decide (s.size ≤ 20)
theorem nm_all : (nmsL.all fun a => decide (a.size ≤ 6) && (okNm a && nmsL.all fun b => okNm (a ++ (({ data := #[46] } : ByteArray) ++ b)) && nmsL.all fun c => okNm (a ++ (({ data := #[46] } : ByteArray) ++ b) ++ (({ data := #[46] } : ByteArray) ++ c)))) = true := by decide +kernel
theorem nm1 {a : ByteArray} (h : a ∈ nmsL) : a.size ≤ 6 ∧ okNm a = true := by
  have := List.all_eq_true.1 nm_all a h
  simp only [Bool.and_eq_true, decide_eq_true_eq] at this
  exact ⟨this.1, this.2.1⟩
theorem nm2 {a b : ByteArray} (h : a ∈ nmsL) (hb : b ∈ nmsL) : okNm (a ++ (({ data := #[46] } : ByteArray) ++ b)) = true := by
  have := List.all_eq_true.1 nm_all a h
  simp only [Bool.and_eq_true] at this
  have := List.all_eq_true.1 this.2.2 b hb
  simp only [Bool.and_eq_true] at this
  exact this.1
theorem nm3 {a b c : ByteArray} (h : a ∈ nmsL) (hb : b ∈ nmsL) (hc : c ∈ nmsL) : okNm (a ++ (({ data := #[46] } : ByteArray) ++ b) ++ (({ data := #[46] } : ByteArray) ++ c)) = true := by
  have := List.all_eq_true.1 nm_all a h
  simp only [Bool.and_eq_true] at this
  have := List.all_eq_true.1 this.2.2 b hb
  simp only [Bool.and_eq_true] at this
  exact List.all_eq_true.1 this.2 c hc
theorem okNm_sz {s : ByteArray} (h : okNm s = true) : s.size ≤ 20 := by
  simp only [okNm, Bool.and_eq_true, decide_eq_true_eq] at h
  exact h.2
theorem nm_at {i : Nat} (h : i < 8) : ∃ q, q ∈ nmsL ∧ ((nmsL.map fun q => SV.v (Value.string q))[0 + i * 1 + 0]?.bind fun x => match x with | SV.v x => some x | x => none) = some (.string q) := by
  rcases (by omega : i = 0 ∨ i = 1 ∨ i = 2 ∨ i = 3 ∨ i = 4 ∨ i = 5 ∨ i = 6 ∨ i = 7) with rfl | rfl | rfl | rfl | rfl | rfl | rfl | rfl
  all_goals exact ⟨_, by simp [nmsL], rfl⟩
theorem dot_sz {a b : ByteArray} (ha : a.size ≤ 20) (hb : b.size ≤ 6) : 1 + b.size ≤ 4611686018427387904 ∧ a.size + (({ data := #[46] } : ByteArray) ++ b).size ≤ 4611686018427387904 := by
  have : (({ data := #[46] } : ByteArray) ++ b).size = 1 + b.size := ByteArray.size_append
  omega
theorem ct17 (k : Int) (hk : 0 ≤ k ∧ k ≤ 65535) (I : Mem) : Ct Try.prog (fnv 17) #[.int .u16 k] I (fun v I' => ∃ s, v = .string s ∧ okNm s = true) := by
  refine viaR (ct_via (A := { }) Try.func17 rfl Try.call17 rfl rfl) ((8 : Int) ≠ (0 : Int) ∧
        (0 : Int) ≤ Int.tmod k (8 : Int) ∧
          Int.tmod k (8 : Int) < (8 : Int) ∧
            ∃ (q : ByteArray),
              (Option.bind [SV.v (Value.string (ByteArray.mk #[(97 : UInt8)])), SV.v (Value.string (ByteArray.mk #[(97 : UInt8), (45 : UInt8), (98 : UInt8)])), SV.v (Value.string (ByteArray.mk #[(97 : UInt8), (48 : UInt8)])), SV.v (Value.string (ByteArray.mk #[(98 : UInt8)])), SV.v (Value.string (ByteArray.mk #[(105 : UInt8), (110 : UInt8)])), SV.v (Value.string (ByteArray.mk #[(111 : UInt8), (117 : UInt8), (116 : UInt8)])), SV.v (Value.string (ByteArray.mk #[(112 : UInt8), (111 : UInt8), (114 : UInt8), (116 : UInt8), (45 : UInt8), (49 : UInt8)])), SV.v (Value.string (ByteArray.mk #[(122 : UInt8)]))][(0 : Nat) + Int.toNat (Int.tmod k (8 : Int)) * (1 : Nat) + (0 : Nat)]? fun (x : SV) =>
                    match x with
                    | SV.v x => some x
                    | x => none) =
                  some (Value.string q) ∧
                (8 : Int) ≠ (0 : Int) ∧
                  Wr IntKind.u16 (Int.tdiv k (8 : Int)) fun (c : Int) =>
                    (4 : Int) ≠ (0 : Int) ∧
                      Br (decide ((0 : Int) < Int.tmod c (4 : Int)))
                        ((32 : Int) ≠ (0 : Int) ∧
                          Wr IntKind.u16 (Int.tdiv k (32 : Int)) fun (c : Int) =>
                            (8 : Int) ≠ (0 : Int) ∧
                              (0 : Int) ≤ Int.tmod c (8 : Int) ∧
                                Int.tmod c (8 : Int) < (8 : Int) ∧
                                  ∃ (q_1 : ByteArray),
                                    (Option.bind [SV.v (Value.string (ByteArray.mk #[(97 : UInt8)])), SV.v (Value.string (ByteArray.mk #[(97 : UInt8), (45 : UInt8), (98 : UInt8)])), SV.v (Value.string (ByteArray.mk #[(97 : UInt8), (48 : UInt8)])), SV.v (Value.string (ByteArray.mk #[(98 : UInt8)])), SV.v (Value.string (ByteArray.mk #[(105 : UInt8), (110 : UInt8)])), SV.v (Value.string (ByteArray.mk #[(111 : UInt8), (117 : UInt8), (116 : UInt8)])), SV.v (Value.string (ByteArray.mk #[(112 : UInt8), (111 : UInt8), (114 : UInt8), (116 : UInt8), (45 : UInt8), (49 : UInt8)])), SV.v (Value.string (ByteArray.mk #[(122 : UInt8)]))][(0 : Nat) + Int.toNat (Int.tmod c (8 : Int)) * (1 : Nat) + (0 : Nat)]? fun (x : SV) =>
                                          match x with
                                          | SV.v x => some x
                                          | x => none) =
                                        some (Value.string q_1) ∧
                                      (1 : Nat) + ByteArray.size q_1 ≤ (4611686018427387904 : Nat) ∧
                                        ByteArray.size q + ByteArray.size (ByteArray.mk #[(46 : UInt8)] ++ q_1) ≤ (4611686018427387904 : Nat) ∧
                                          (8 : Int) ≠ (0 : Int) ∧
                                            Wr IntKind.u16 (Int.tdiv k (8 : Int)) fun (c : Int) =>
                                              (4 : Int) ≠ (0 : Int) ∧
                                                Br (decide ((1 : Int) < Int.tmod c (4 : Int)))
                                                  ((256 : Int) ≠ (0 : Int) ∧
                                                    Wr IntKind.u16 (Int.tdiv k (256 : Int)) fun (c : Int) =>
                                                      (8 : Int) ≠ (0 : Int) ∧
                                                        (0 : Int) ≤ Int.tmod c (8 : Int) ∧
                                                          Int.tmod c (8 : Int) < (8 : Int) ∧
                                                            ∃ (q_2 : ByteArray),
                                                              (Option.bind [SV.v (Value.string (ByteArray.mk #[(97 : UInt8)])), SV.v (Value.string (ByteArray.mk #[(97 : UInt8), (45 : UInt8), (98 : UInt8)])), SV.v (Value.string (ByteArray.mk #[(97 : UInt8), (48 : UInt8)])), SV.v (Value.string (ByteArray.mk #[(98 : UInt8)])), SV.v (Value.string (ByteArray.mk #[(105 : UInt8), (110 : UInt8)])), SV.v (Value.string (ByteArray.mk #[(111 : UInt8), (117 : UInt8), (116 : UInt8)])), SV.v (Value.string (ByteArray.mk #[(112 : UInt8), (111 : UInt8), (114 : UInt8), (116 : UInt8), (45 : UInt8), (49 : UInt8)])), SV.v (Value.string (ByteArray.mk #[(122 : UInt8)]))][(0 : Nat) + Int.toNat (Int.tmod c (8 : Int)) * (1 : Nat) + (0 : Nat)]? fun (x : SV) =>
                                                                    match x with
                                                                    | SV.v x => some x
                                                                    | x => none) =
                                                                  some (Value.string q_2) ∧
                                                                (1 : Nat) + ByteArray.size q_2 ≤ (4611686018427387904 : Nat) ∧ ByteArray.size (q ++ (ByteArray.mk #[(46 : UInt8)] ++ q_1)) + ByteArray.size (ByteArray.mk #[(46 : UInt8)] ++ q_2) ≤ (4611686018427387904 : Nat) ∧ ∃ (s : ByteArray), Value.string (q ++ (ByteArray.mk #[(46 : UInt8)] ++ q_1) ++ (ByteArray.mk #[(46 : UInt8)] ++ q_2)) = Value.string s ∧ okNm s = true)
                                                  (∃ (s : ByteArray), Value.string (q ++ (ByteArray.mk #[(46 : UInt8)] ++ q_1)) = Value.string s ∧ okNm s = true))
                        ((8 : Int) ≠ (0 : Int) ∧
                          Wr IntKind.u16 (Int.tdiv k (8 : Int)) fun (c : Int) =>
                            (4 : Int) ≠ (0 : Int) ∧
                              Br (decide ((1 : Int) < Int.tmod c (4 : Int)))
                                ((256 : Int) ≠ (0 : Int) ∧
                                  Wr IntKind.u16 (Int.tdiv k (256 : Int)) fun (c : Int) =>
                                    (8 : Int) ≠ (0 : Int) ∧
                                      (0 : Int) ≤ Int.tmod c (8 : Int) ∧
                                        Int.tmod c (8 : Int) < (8 : Int) ∧
                                          ∃ (q_1 : ByteArray),
                                            (Option.bind [SV.v (Value.string (ByteArray.mk #[(97 : UInt8)])), SV.v (Value.string (ByteArray.mk #[(97 : UInt8), (45 : UInt8), (98 : UInt8)])), SV.v (Value.string (ByteArray.mk #[(97 : UInt8), (48 : UInt8)])), SV.v (Value.string (ByteArray.mk #[(98 : UInt8)])), SV.v (Value.string (ByteArray.mk #[(105 : UInt8), (110 : UInt8)])), SV.v (Value.string (ByteArray.mk #[(111 : UInt8), (117 : UInt8), (116 : UInt8)])), SV.v (Value.string (ByteArray.mk #[(112 : UInt8), (111 : UInt8), (114 : UInt8), (116 : UInt8), (45 : UInt8), (49 : UInt8)])), SV.v (Value.string (ByteArray.mk #[(122 : UInt8)]))][(0 : Nat) + Int.toNat (Int.tmod c (8 : Int)) * (1 : Nat) + (0 : Nat)]? fun (x : SV) =>
                                                  match x with
                                                  | SV.v x => some x
                                                  | x => none) =
                                                some (Value.string q_1) ∧
                                              (1 : Nat) + ByteArray.size q_1 ≤ (4611686018427387904 : Nat) ∧ ByteArray.size q + ByteArray.size (ByteArray.mk #[(46 : UInt8)] ++ q_1) ≤ (4611686018427387904 : Nat) ∧ ∃ (s : ByteArray), Value.string (q ++ (ByteArray.mk #[(46 : UInt8)] ++ q_1)) = Value.string s ∧ okNm s = true)
                                (∃ (s : ByteArray), Value.string q = Value.string s ∧ okNm s = true))) (by kernel_rfl) ?_
  obtain ⟨k0, k1⟩ := hk
  have T : ∀ x : Int, 0 ≤ x → 0 ≤ x.tmod 8 ∧ x.tmod 8 < 8 ∧ (x.tmod 8).toNat < 8 := fun x hx => by
    rw [Int.tmod_eq_emod_of_nonneg hx]; omega
  have D : ∀ d : Int, 0 < d → 0 ≤ k.tdiv d ∧ k.tdiv d ≤ 65535 := fun d hd => by
    rw [Int.tdiv_eq_ediv_of_nonneg k0]
    exact ⟨Int.ediv_nonneg k0 (by omega), Int.le_trans (Int.ediv_le_self d k0) k1⟩
  have W : ∀ (d : Int) (q : Int → Prop), 0 < d → q (k.tdiv d) → Wr .u16 (k.tdiv d) q := fun d q hd hq => ⟨_, by have := D d hd; rw [IntKind.wrap_u16]; omega, hq⟩
  obtain ⟨t0, t1, t2⟩ := T k k0
  obtain ⟨q, hq, e⟩ := nm_at t2
  obtain ⟨qs, qo⟩ := nm1 hq
  have d8 := D 8 (by omega)
  obtain ⟨a0, a1, a2⟩ := T (k.tdiv 32) (D 32 (by omega)).1
  obtain ⟨b0, b1, b2⟩ := T (k.tdiv 256) (D 256 (by omega)).1
  obtain ⟨qa, ha, ea⟩ := nm_at a2
  obtain ⟨qb, hb, eb⟩ := nm_at b2
  refine ⟨by omega, t0, t1, q, e, by omega, W 8 _ (by omega) ⟨by omega, Br.mk (fun h => ?_) (fun h => ?_)⟩⟩
  · obtain ⟨z1, z2⟩ := dot_sz (okNm_sz qo) (nm1 ha).1
    refine ⟨by omega, W 32 _ (by omega) ⟨by omega, a0, a1, qa, ea, z1, z2, by omega, W 8 _ (by omega) ⟨by omega, Br.mk (fun h => ?_) (fun h => ?_)⟩⟩⟩
    · obtain ⟨z3, z4⟩ := dot_sz (okNm_sz (nm2 hq ha)) (nm1 hb).1
      exact ⟨by omega, W 256 _ (by omega) ⟨by omega, b0, b1, qb, eb, z3, z4, _, rfl, nm3 hq ha hb⟩⟩
    · exact ⟨_, rfl, nm2 hq ha⟩
  · refine ⟨by omega, W 8 _ (by omega) ⟨by omega, Br.mk (fun h => ?_) (fun h => ?_)⟩⟩
    · obtain ⟨z3, z4⟩ := dot_sz (okNm_sz qo) (nm1 hb).1
      exact ⟨by omega, W 256 _ (by omega) ⟨by omega, b0, b1, qb, eb, z3, z4, _, rfl, nm2 hq hb⟩⟩
    · exact ⟨_, rfl, qo⟩
open Go Go.Proofs Go.SE Go.RowKit
set_option linter.unusedVariables false
/-- All fields that a response can have. -/
def allF (r : Rs) : List (Int × List Int) := [fN 1 r.num, fN 2 r.kind, fN 3 r.code, fN 4 r.ser, fN 5 r.port, fN 6 r.time, (7, []), (8, formsL [r.key.1, r.key.2.1, r.key.2.2]), (9, r.counts.flatMap numF), (10, r.cells.flatMap celF), (11, r.events.flatMap evF), (12, r.ports.flatMap ptF), (13, r.handles.flatMap hdF)]
def hasF (r : Rs) (t : Int) : Bool :=
  if t = 1 then true else if t = 2 then decide (r.kind ≠ 0) else if t = 3 then decide (r.code ≠ 0) else if t = 4 then decide (r.ser ≠ 0) else if t = 5 then decide (r.port ≠ 0) else if t = 6 then decide (r.time ≠ 0) else if t = 7 then r.more else if t = 8 then decide (r.key ≠ (0, 0, 0))
  else if t = 9 then decide (r.counts.flatMap numF ≠ []) else if t = 10 then decide (r.cells.flatMap celF ≠ []) else if t = 11 then decide (r.events.flatMap evF ≠ []) else if t = 12 then decide (r.ports.flatMap ptF ≠ []) else decide (r.handles.flatMap hdF ≠ [])
theorem filter_one {α : Type} {p : α → Bool} {a : α} {l : List α} : (a :: l).filter p = (if p a then [a] else []) ++ l.filter p := by
  cases h : p a with
  | true => simp [h]
  | false => simp [h]
theorem map_ite {α β : Type} {f : α → β} {b : Bool} {a : α} : (if b then [a] else []).map f = if b then [f a] else [] := by
  cases b <;> rfl
theorem fields_eq (r : Rs) : fieldsS r = (allF r).filter fun p => hasF r p.1 := by
  have h1 : (numsL r).take 5 = numsL r := rfl
  have h2 : (listsL r).take 5 = listsL r := rfl
  have hm : moreF r = if r.more then [(7, [])] else [] := rfl
  have hk : keyF r = if decide (r.key ≠ (0, 0, 0)) then [(8, formsL [r.key.1, r.key.2.1, r.key.2.2])] else [] := by
    unfold keyF
    by_cases h : r.key = (0, 0, 0)
    · rw [if_pos h, decide_eq_false (by simpa using h)]; rfl
    · rw [if_neg h, decide_eq_true h]; rfl
  rw [fieldsS, fl2, fl1, h1, h2, hm, hk, numsL, listsL, allF]
  simp only [filter_one, List.filter_nil, List.map_append, map_ite, List.append_nil, List.cons_append, List.append_assoc]
  rfl
theorem tags_lt (r : Rs) : (fieldsS r).Pairwise fun f g => f.1 < g.1 := by
  rw [fields_eq]
  apply List.Pairwise.filter
  simp [allF, fN]
theorem tags_in (r : Rs) : ∀ f ∈ fieldsS r, f ∈ allF r ∧ hasF r f.1 = true := by
  intro f hf
  rw [fields_eq] at hf
  exact List.mem_filter.1 hf
def sumF (l : List (Int × List Int)) : Nat := (l.map fun f => f.2.length).sum
theorem sumF_cons (f : Int × List Int) (l : List (Int × List Int)) : sumF (f :: l) = f.2.length + sumF l := by simp [sumF]
theorem sumF_filter (p : Int × List Int → Bool) : ∀ l, sumF (l.filter p) ≤ sumF l
  | [] => Nat.le_refl _
  | f :: l => by
    have ih := sumF_filter p l
    cases h : p f with
    | true => rw [List.filter_cons_of_pos h, sumF_cons, sumF_cons]; omega
    | false => rw [List.filter_cons_of_neg (by rw [h]; simp), sumF_cons]; omega
theorem step_of : ∀ {l : List (Int × List Int)} {last left : Int}, (l.Pairwise fun f g => f.1 < g.1) → (∀ f ∈ l, last < f.1 ∧ f.1 ≤ 200) → (sumF l : Int) ≤ left → rightStep last left l = true
  | [], _, _, _, _, _ => rfl
  | f :: l, last, left, h1, h2, h3 => by
    obtain ⟨g1, g2⟩ := List.pairwise_cons.1 h1
    have hf := h2 f (by simp)
    rw [sumF_cons] at h3
    rw [rightStep, if_neg (by omega)]
    exact step_of g2 (fun g hg => ⟨g1 g hg, (h2 g (by simp [hg])).2⟩) (by omega)
theorem all_tags {r : Rs} : ∀ f ∈ allF r, 1 ≤ f.1 ∧ f.1 ≤ 13 := by
  intro f hf
  simp only [allF, List.mem_cons, List.not_mem_nil, or_false] at hf
  rcases hf with rfl | rfl | rfl | rfl | rfl | rfl | rfl | rfl | rfl | rfl | rfl | rfl | rfl
  all_goals simp [fN]
theorem right_sum {r : Rs} (h : sumF (allF r) ≤ 16000) : rightF (fieldsS r) = true ∧ (writeF (fieldsS r)).length ≤ 16320 := by
  have hs : sumF (fieldsS r) ≤ 16000 := by
    rw [fields_eq]
    exact Nat.le_trans (sumF_filter _ _) h
  have hl := fl2_len r 5
  have hl : (fieldsS r).length ≤ 13 := hl
  have h1 : rightStep 0 16000 (fieldsS r) = true := step_of (tags_lt r) (fun f hf => by have := all_tags f (tags_in r f hf).1; omega) (by omega)
  have h2 : rightStep 0 16384 (fieldsS r) = true := step_of (tags_lt r) (fun f hf => by have := all_tags f (tags_in r f hf).1; omega) (by omega)
  refine ⟨rightF_iff.2 ⟨h2, by omega⟩, ?_⟩
  have := write_len2 (by omega) (by omega) h1
  omega
theorem fN_len (t x : Int) : (fN t x).2.length ≤ 9 := by
  have := w64_range x
  exact (formN_le _ (by omega)).1
/-- A response of few and short things has a form. -/
theorem right_of {r : Rs} (hr : okRs r) (hv : vokS r = true) (h1 : r.counts.length ≤ 16) (h2 : r.cells.length ≤ 30) (h3 : r.events.length ≤ 31) (h4 : r.ports.length ≤ 31) (h5 : r.handles.length ≤ 31) (hp : ∀ x ∈ r.ports, x.2.1.length ≤ 32) : rightS r = true := by
  have e1 : (r.counts.flatMap numF).length ≤ 9 * r.counts.length := fm_bound fun x _ => numF_len x
  have e2 : (r.cells.flatMap celF).length ≤ 9 * r.cells.length := fm_bound fun x hx => celF_len (hr.cells x hx)
  have e3 : (r.events.flatMap evF).length ≤ 45 * r.events.length := fm_bound fun x hx => evF_len (hr.events x hx).2.2
  have e4 : (r.ports.flatMap ptF).length ≤ 59 * r.ports.length := fm_bound fun x hx => by have := ptF_len x; have := hp x hx; omega
  have e5 : (r.handles.flatMap hdF).length ≤ 45 * r.handles.length := fm_bound fun x _ => hdF_len x
  have e6 := forms_len [r.key.1, r.key.2.1, r.key.2.2]
  have hs : sumF (allF r) ≤ 16000 := by
    have a1 := fN_len 1 r.num
    have a2 := fN_len 2 r.kind
    have a3 := fN_len 3 r.code
    have a4 := fN_len 4 r.ser
    have a5 := fN_len 5 r.port
    have a6 := fN_len 6 r.time
    simp only [List.length_cons, List.length_nil] at e6
    rw [allF]
    simp only [sumF_cons]
    simp only [sumF, List.map_nil, List.sum_nil, List.length_nil]
    omega
  obtain ⟨g1, g2⟩ := right_sum hs
  rw [rightS, hv, g1, decide_eq_true g2]; rfl
