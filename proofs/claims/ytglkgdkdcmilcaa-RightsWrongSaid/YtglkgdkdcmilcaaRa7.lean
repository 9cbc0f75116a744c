/- Part of a proof by the rules of the symbolic walk (see the law's own text): contracts of functions of the program. -/
import Derived.Test.YtglkgdkdcmilcaaRa6
open Go Go.Proofs Go.SE Go.RowKit
def hasB (m : Int) (j : Nat) : Bool := (m / 2 ^ j) % 2 == 1
def hasL (m : Int) (i : Int) : List Value := [.bool (decide (0 < i) && hasB m 0), .bool (decide (1 < i) && hasB m 1), .bool (decide (2 < i) && hasB m 2), .bool (decide (3 < i) && hasB m 3)]
def hasV (m : Int) : Value := .tuple #[.agg #[.bool (hasB m 0), .bool (hasB m 1), .bool (hasB m 2), .bool (hasB m 3)], .bool (m / 16 == 0)]
theorem ct47 (m : Int) (hm : 0 ≤ m ∧ m ≤ 1000000) (I : Mem) : Ct Try.prog (fnv 47) #[.int .i64 m] I (fun v _ => v = hasV m) := by
  refine viaR (ct_via (A := { loops := [(3, ⟨[(0, .sh (.int .i64)), (2, .keep), (4, .keep), (5, .sh (.int .i64))], [(0, .keep), (1, .vec)], [], fun vals xss _ _ => match vals, xss with | [.int .i64 v0, .int .i64 i], [xs] => 0 ≤ i ∧ i ≤ 4 ∧ v0 = m / 2 ^ i.toNat ∧ xs = hasL m i | _, _ => False, fun vals _ => match vals with | [_, .int .i64 i] => (4 - i).toNat | _ => 0⟩)] }) Try.func47 rfl Try.call47 rfl rfl) ((Ent.mk (EO.cells [SV.v (Value.bool false), SV.v (Value.bool false), SV.v (Value.bool false), SV.v (Value.bool false)] (75 : Nat)) none = Ent.mk (EO.cells [SV.v (Value.bool false), SV.v (Value.bool false), SV.v (Value.bool false), SV.v (Value.bool false)] (75 : Nat)) none ∧ (none : Option Nat) = none ∧ SV.ptr (0 : Nat) (0 : Nat) = SV.ptr (0 : Nat) (0 : Nat) ∧ SV.ptr (1 : Nat) (0 : Nat) = SV.ptr (1 : Nat) (0 : Nat) ∧ (0 : Int) ≤ (0 : Int) ∧ (0 : Int) ≤ (4 : Int) ∧ m = m / (1 : Int) ∧ [Value.bool false, Value.bool false, Value.bool false, Value.bool false] = [Value.bool false, Value.bool false, Value.bool false, Value.bool false]) ∧ ∀ (I' G' : Mem), Mem.le I I' → ∀ (xs : List Value) (n n_1 : Int), (0 : Int) ≤ n_1 ∧ n_1 ≤ (4 : Int) ∧ n = m / (2 : Int) ^ Int.toNat n_1 ∧ xs = [Value.bool (decide ((0 : Int) < n_1) && hasB m (0 : Nat)), Value.bool (decide ((1 : Int) < n_1) && hasB m (1 : Nat)), Value.bool (decide ((2 : Int) < n_1) && hasB m (2 : Nat)), Value.bool (decide ((3 : Int) < n_1) && hasB m (3 : Nat))] → Br (decide (n_1 < (4 : Int))) ((2 : Int) ≠ (0 : Int) ∧ (0 : Int) ≤ n_1 ∧ n_1 < (4 : Int) ∧ (0 : Nat) + Int.toNat n_1 * (1 : Nat) + (1 : Nat) ≤ List.length xs ∧ (2 : Int) ≠ (0 : Int) ∧ Wr IntKind.i64 (Int.tdiv n (2 : Int)) fun (c : Int) => Wr IntKind.i64 (n_1 + (1 : Int)) fun (c_1 : Int) => Ent.mk (EO.cells [SV.v (Value.bool false), SV.v (Value.bool false), SV.v (Value.bool false), SV.v (Value.bool false)] (75 : Nat)) none = Ent.mk (EO.cells [SV.v (Value.bool false), SV.v (Value.bool false), SV.v (Value.bool false), SV.v (Value.bool false)] (75 : Nat)) none ∧ (none : Option Nat) = none ∧ SV.ptr (0 : Nat) (0 : Nat) = SV.ptr (0 : Nat) (0 : Nat) ∧ SV.ptr (1 : Nat) (0 : Nat) = SV.ptr (1 : Nat) (0 : Nat) ∧ ((0 : Int) ≤ c_1 ∧ c_1 ≤ (4 : Int) ∧ c = m / (2 : Int) ^ Int.toNat c_1 ∧ splice xs ((0 : Nat) + Int.toNat n_1 * (1 : Nat)) [Value.bool (Int.tmod n (2 : Int) == (1 : Int))] = [Value.bool (decide ((0 : Int) < c_1) && hasB m (0 : Nat)), Value.bool (decide ((1 : Int) < c_1) && hasB m (1 : Nat)), Value.bool (decide ((2 : Int) < c_1) && hasB m (2 : Nat)), Value.bool (decide ((3 : Int) < c_1) && hasB m (3 : Nat))]) ∧ Int.toNat ((4 : Int) - c_1) < Int.toNat ((4 : Int) - n_1)) ((4 : Nat) = (4 : Nat) ∧ ∃ (b : Bool), xs[(0 : Nat)]? = some (Value.bool b) ∧ ∃ (b_1 : Bool), xs[(1 : Nat)]? = some (Value.bool b_1) ∧ ∃ (b_2 : Bool), xs[(2 : Nat)]? = some (Value.bool b_2) ∧ ∃ (b_3 : Bool), xs[(3 : Nat)]? = some (Value.bool b_3) ∧ Value.tuple #[Value.agg #[Value.bool b, Value.bool b_1, Value.bool b_2, Value.bool b_3], Value.bool (n == (0 : Int))] = Value.tuple #[Value.agg #[Value.bool (hasB m (0 : Nat)), Value.bool (hasB m (1 : Nat)), Value.bool (hasB m (2 : Nat)), Value.bool (hasB m (3 : Nat))], Value.bool (m / (16 : Int) == (0 : Int))])) (by kernel_rfl) ?_
  simp only [eq_self, true_and, and_true]
  refine ⟨⟨by omega, by omega, by simp⟩, fun I1 G1 _ xs n i ⟨h0, h1, h2, h3⟩ => Br.mk (fun hlt => ?_) (fun hge => ?_)⟩
  · have hlt := of_decide_eq_true hlt
    have hn : 0 ≤ n := by rw [h2]; exact Int.ediv_nonneg hm.1 (Int.le_of_lt (Int.pow_pos (by decide)))
    have hn2 : n ≤ 1000000 := by rw [h2]; exact Int.le_trans (Int.ediv_le_self _ hm.1) hm.2
    have e1 : n.tmod 2 = n % 2 := Int.tmod_eq_emod_of_nonneg hn
    have e2 : n.tdiv 2 = n / 2 := Int.tdiv_eq_ediv_of_nonneg hn
    refine ⟨by decide, h0, hlt, by rw [h3]; simp [hasL]; omega, by decide, wr_i64 (by omega) (by omega) (wr_i64 (by omega) (by omega) ⟨⟨by omega, by omega, ?_, ?_⟩, by omega⟩)⟩
    · rw [e2, h2, show (i + 1).toNat = i.toNat + 1 by omega, Int.pow_succ, Int.ediv_ediv_of_nonneg (Int.le_of_lt (Int.pow_pos (by decide)))]
    · rw [e1]
      rcases (by omega : i = 0 ∨ i = 1 ∨ i = 2 ∨ i = 3) with rfl | rfl | rfl | rfl <;> subst h2 <;> subst h3 <;> simp [splice, hasL, hasB]
  · have hge := of_decide_eq_false hge
    obtain rfl : i = 4 := by omega
    subst h2; subst h3
    exact ⟨_, rfl, _, rfl, _, rfl, _, rfl, by simp [hasV]⟩
/-- The text after i rights. -/
def refT (m : Int) : Nat → ByteArray
  | 0 => ⟨#[]⟩
  | i + 1 => if hasB m i then ((if decide (refT m i = ⟨#[]⟩) then refT m i else refT m i ++ ⟨#[43]⟩) ++ nameV i) else refT m i
theorem nameV_size (i : Nat) : (nameV i).size ≤ 5 := by
  match i with
  | 0 => decide
  | 1 => decide
  | 2 => decide
  | 3 => decide
  | n + 4 => simp [nameV, ByteArray.size]
theorem refT_size (m : Int) : ∀ i, (refT m i).size ≤ 6 * i
  | 0 => by simp [refT, ByteArray.size]
  | i + 1 => by
    have h1 := refT_size m i
    have h2 := nameV_size i
    unfold refT
    split
    · split
      · rw [ByteArray.size_append]; omega
      · rw [ByteArray.size_append, ByteArray.size_append]
        have : ByteArray.size ⟨#[43]⟩ = 1 := rfl
        omega
    · omega
theorem nameL_at {n : Int} (h0 : 0 ≤ n) (h1 : n < 4) : [Value.string ⟨#[115, 101, 110, 100]⟩, Value.string ⟨#[108, 111, 111, 107]⟩, Value.string ⟨#[103, 114, 97, 110, 116]⟩, Value.string ⟨#[99, 117, 116]⟩][0 + n.toNat * 1 + 0]? = some (Value.string (nameV n.toNat)) := by
  rcases (by omega : n = 0 ∨ n = 1 ∨ n = 2 ∨ n = 3) with rfl | rfl | rfl | rfl <;> rfl
theorem hasL_at (m : Int) {n : Int} (h0 : 0 ≤ n) (h1 : n < 4) : [Value.bool (true && hasB m 0), Value.bool (true && hasB m 1), Value.bool (true && hasB m 2), Value.bool (true && hasB m 3)][0 + n.toNat * 1 + 0]? = some (Value.bool (hasB m n.toNat)) := by
  rcases (by omega : n = 0 ∨ n = 1 ∨ n = 2 ∨ n = 3) with rfl | rfl | rfl | rfl <;> rfl
def refTextV (m : Int) : Value := if m / 16 == 0 then .tuple #[.string (if decide (refT m 4 = ⟨#[]⟩) then ⟨#[45]⟩ else refT m 4), .int .i64 0] else .tuple #[.string ⟨#[]⟩, .int .i64 220]
theorem ct28 (m : Int) (hm : 0 ≤ m ∧ m ≤ 1000000) (I : Mem) : Ct Try.prog (fnv 28) #[.int .i64 m] I (fun v _ => v = refTextV m) := by
  refine viaR (ct_via (A := { calls := [(31, .sym)], loops := [(6, ⟨[(4, .keep), (6, .sh .str), (7, .sh (.int .i64))], [(0, .vec)], [], fun vals xss _ _ => match vals, xss with | [.string q, .int .i64 i], [xs] => 0 ≤ i ∧ i ≤ 4 ∧ q = refT m i.toNat ∧ xs = hasL m 4 | _, _ => False, fun vals _ => match vals with | [_, .int .i64 i] => (4 - i).toNat | _ => 0⟩)] }) Try.func28 rfl Try.call28 rfl rfl) (Ct Try.prog (Value.func (Fn.func (47 : Nat)) #[] #[]) #[Value.int IntKind.i64 m] I fun (v : Value) (I' : Mem) => ∃ (b : Bool), ∃ (b_1 : Bool), ∃ (b_2 : Bool), ∃ (b_3 : Bool), ∃ (b_4 : Bool), v = Value.tuple #[Value.agg #[Value.bool b, Value.bool b_1, Value.bool b_2, Value.bool b_3], Value.bool b_4] ∧ Br (!b_4) (Value.tuple #[Value.string (ByteArray.mk #[]), Value.int IntKind.i64 (220 : Int)] = refTextV m) (((none : Option Nat) = none ∧ SV.ptr (0 : Nat) (0 : Nat) = SV.ptr (0 : Nat) (0 : Nat) ∧ (0 : Int) ≤ (0 : Int) ∧ (0 : Int) ≤ (4 : Int) ∧ ByteArray.mk #[] = refT m (Int.toNat (0 : Int)) ∧ [Value.bool b, Value.bool b_1, Value.bool b_2, Value.bool b_3] = [Value.bool (true && hasB m (0 : Nat)), Value.bool (true && hasB m (1 : Nat)), Value.bool (true && hasB m (2 : Nat)), Value.bool (true && hasB m (3 : Nat))]) ∧ ∀ (I'_1 G' : Mem), Mem.le I' I'_1 → ∀ (xs : List Value) (q : ByteArray) (n : Int), (0 : Int) ≤ n ∧ n ≤ (4 : Int) ∧ q = refT m (Int.toNat n) ∧ xs = [Value.bool (true && hasB m (0 : Nat)), Value.bool (true && hasB m (1 : Nat)), Value.bool (true && hasB m (2 : Nat)), Value.bool (true && hasB m (3 : Nat))] → Br (decide (n < (4 : Int))) ((0 : Int) ≤ n ∧ n < (4 : Int) ∧ ∃ (b : Bool), xs[(0 : Nat) + Int.toNat n * (1 : Nat) + (0 : Nat)]? = some (Value.bool b) ∧ Br (!b) (Wr IntKind.i64 (n + (1 : Int)) fun (c : Int) => (none : Option Nat) = none ∧ SV.ptr (0 : Nat) (0 : Nat) = SV.ptr (0 : Nat) (0 : Nat) ∧ ((0 : Int) ≤ c ∧ c ≤ (4 : Int) ∧ q = refT m (Int.toNat c) ∧ xs = [Value.bool (true && hasB m (0 : Nat)), Value.bool (true && hasB m (1 : Nat)), Value.bool (true && hasB m (2 : Nat)), Value.bool (true && hasB m (3 : Nat))]) ∧ Int.toNat ((4 : Int) - c) < Int.toNat ((4 : Int) - n)) (Br (!ByteArray.toList q == ByteArray.toList (ByteArray.mk #[])) (ByteArray.size q + (1 : Nat) ≤ (4611686018427387904 : Nat) ∧ (0 : Int) ≤ n ∧ n < (4 : Int) ∧ ∃ (q_1 : ByteArray), [Value.string (ByteArray.mk #[(115 : UInt8), (101 : UInt8), (110 : UInt8), (100 : UInt8)]), Value.string (ByteArray.mk #[(108 : UInt8), (111 : UInt8), (111 : UInt8), (107 : UInt8)]), Value.string (ByteArray.mk #[(103 : UInt8), (114 : UInt8), (97 : UInt8), (110 : UInt8), (116 : UInt8)]), Value.string (ByteArray.mk #[(99 : UInt8), (117 : UInt8), (116 : UInt8)])][(0 : Nat) + Int.toNat n * (1 : Nat) + (0 : Nat)]? = some (Value.string q_1) ∧ ByteArray.size (q ++ ByteArray.mk #[(43 : UInt8)]) + ByteArray.size q_1 ≤ (4611686018427387904 : Nat) ∧ Wr IntKind.i64 (n + (1 : Int)) fun (c : Int) => (none : Option Nat) = none ∧ SV.ptr (0 : Nat) (0 : Nat) = SV.ptr (0 : Nat) (0 : Nat) ∧ ((0 : Int) ≤ c ∧ c ≤ (4 : Int) ∧ q ++ ByteArray.mk #[(43 : UInt8)] ++ q_1 = refT m (Int.toNat c) ∧ xs = [Value.bool (true && hasB m (0 : Nat)), Value.bool (true && hasB m (1 : Nat)), Value.bool (true && hasB m (2 : Nat)), Value.bool (true && hasB m (3 : Nat))]) ∧ Int.toNat ((4 : Int) - c) < Int.toNat ((4 : Int) - n)) ((0 : Int) ≤ n ∧ n < (4 : Int) ∧ ∃ (q_1 : ByteArray), [Value.string (ByteArray.mk #[(115 : UInt8), (101 : UInt8), (110 : UInt8), (100 : UInt8)]), Value.string (ByteArray.mk #[(108 : UInt8), (111 : UInt8), (111 : UInt8), (107 : UInt8)]), Value.string (ByteArray.mk #[(103 : UInt8), (114 : UInt8), (97 : UInt8), (110 : UInt8), (116 : UInt8)]), Value.string (ByteArray.mk #[(99 : UInt8), (117 : UInt8), (116 : UInt8)])][(0 : Nat) + Int.toNat n * (1 : Nat) + (0 : Nat)]? = some (Value.string q_1) ∧ ByteArray.size q + ByteArray.size q_1 ≤ (4611686018427387904 : Nat) ∧ Wr IntKind.i64 (n + (1 : Int)) fun (c : Int) => (none : Option Nat) = none ∧ SV.ptr (0 : Nat) (0 : Nat) = SV.ptr (0 : Nat) (0 : Nat) ∧ ((0 : Int) ≤ c ∧ c ≤ (4 : Int) ∧ q ++ q_1 = refT m (Int.toNat c) ∧ xs = [Value.bool (true && hasB m (0 : Nat)), Value.bool (true && hasB m (1 : Nat)), Value.bool (true && hasB m (2 : Nat)), Value.bool (true && hasB m (3 : Nat))]) ∧ Int.toNat ((4 : Int) - c) < Int.toNat ((4 : Int) - n)))) (Br (ByteArray.toList q == ByteArray.toList (ByteArray.mk #[])) (Value.tuple #[Value.string (ByteArray.mk #[(45 : UInt8)]), Value.int IntKind.i64 (0 : Int)] = refTextV m) (Value.tuple #[Value.string q, Value.int IntKind.i64 (0 : Int)] = refTextV m)))) (by kernel_rfl) ?_
  simp only [eq_self, true_and, and_true]
  refine (ct47 m hm I).mono fun v I1 hI1 hv => ⟨_, _, _, _, _, hv, Br.mk (fun h => ?_) (fun h => ⟨⟨by omega, by omega, rfl, rfl⟩, fun I2 G2 hI2 xs q n ⟨h0, h1, h2, h3⟩ => Br.mk (fun hlt => ?_) (fun hge => ?_)⟩)⟩
  · rw [Bool.not_eq_true'] at h
    rw [refTextV, if_neg (by simp [h])]
  · have hlt := of_decide_eq_true hlt
    have hsz := refT_size m n.toNat
    have hnz := nameV_size n.toNat
    have hs1 : ByteArray.size ⟨#[43]⟩ = 1 := rfl
    subst h2; subst h3
    refine ⟨h0, hlt, _, hasL_at m h0 hlt, Br.mk (fun hb => ?_) (fun hb => Br.mk (fun hq => ?_) (fun hq => ?_))⟩
    · rw [Bool.not_eq_true'] at hb
      refine wr_i64 (by omega) (by omega) ⟨⟨by omega, by omega, ?_, rfl⟩, by omega⟩
      rw [show (n + 1).toNat = n.toNat + 1 by omega, refT, if_neg (by simp [hb])]
    · rw [Bool.not_eq_false'] at hb
      rw [str_eq, Bool.not_eq_true'] at hq
      refine ⟨by omega, h0, hlt, _, nameL_at h0 hlt, by rw [ByteArray.size_append]; omega, wr_i64 (by omega) (by omega) ⟨⟨by omega, by omega, ?_, rfl⟩, by omega⟩⟩
      rw [show (n + 1).toNat = n.toNat + 1 by omega, refT, if_pos hb, if_neg (by simp [hq])]
    · rw [Bool.not_eq_false'] at hb
      rw [str_eq, Bool.not_eq_false'] at hq
      refine ⟨h0, hlt, _, nameL_at h0 hlt, by omega, wr_i64 (by omega) (by omega) ⟨⟨by omega, by omega, ?_, rfl⟩, by omega⟩⟩
      rw [show (n + 1).toNat = n.toNat + 1 by omega, refT, if_pos hb, if_pos hq]
  · have hge := of_decide_eq_false hge
    obtain rfl : n = 4 := by omega
    rw [Bool.not_eq_false'] at h
    subst h2
    refine Br.mk (fun hq => ?_) (fun hq => ?_)
    · rw [str_eq] at hq
      have hq : decide (refT m 4 = ⟨#[]⟩) = true := hq
      rw [refTextV, if_pos h, if_pos hq]
    · rw [str_eq] at hq
      have hq : decide (refT m 4 = ⟨#[]⟩) = false := hq
      rw [refTextV, if_pos h, if_neg (by rw [hq]; decide)]
      rfl
/-- Both texts are one. -/
theorem text_same : ∀ m : Fin 16, refTextV (m.val : Int) = .tuple #[.string (textV (m.val : Int)), .int .i64 0] := by
  have h : ∀ m : Fin 16, ((m.val : Int) / 16 == 0) = true ∧ (if decide (refT (m.val : Int) 4 = ⟨#[]⟩) then ⟨#[45]⟩ else refT (m.val : Int) 4) = textV (m.val : Int) := by decide +kernel
  intro m
  rw [refTextV, if_pos (h m).1, (h m).2]
theorem ct31 (q : ByteArray) (I : Mem) : Ct Try.prog (fnv 31) #[.string q] I (fun v _ => v = .tuple #[.int .i64 ((readV q).getD 0 : Nat), .int .i64 (if (readV q).isSome then 0 else 222)]) := by
  refine viaR (ct_via (A := { loops := [(2, ⟨[(0, .keep), (4, .sh (.int .i64))], [], [], fun vals _ _ _ => match vals with
    | [.int .i64 j] => 0 ≤ j ∧ j ≤ 16 ∧ ∀ i : Nat, (i : Int) < j → decide (textV i = q) = false | _ => False, fun vals _ => match vals with | [.int .i64 j] => (16 - j).toNat | _ => 0⟩)] }) Try.func31 rfl Try.call31 rfl rfl) ((SV.v (Value.string q) = SV.v (Value.string q) ∧ (0 : Int) ≤ (0 : Int) ∧ (0 : Int) ≤ (16 : Int) ∧ ∀ (i : Nat), (↑i : Int) < (0 : Int) → decide (textV (↑i : Int) = q) = false) ∧ ∀ (I' G' : Mem), Mem.le I I' → ∀ (n : Int), ((0 : Int) ≤ n ∧ n ≤ (16 : Int) ∧ ∀ (i : Nat), (↑i : Int) < n → decide (textV (↑i : Int) = q) = false) → Br (decide (n < (16 : Int))) (Ct Try.prog (Value.func (Fn.func (28 : Nat)) #[] #[]) #[Value.int IntKind.i64 n] I' fun (v : Value) (I' : Mem) => ∃ (q_1 : ByteArray), ∃ (n_1 : Int), v = Value.tuple #[Value.string q_1, Value.int IntKind.i64 n_1] ∧ Br (ByteArray.toList q_1 == ByteArray.toList q) (Value.tuple #[Value.int IntKind.i64 n, Value.int IntKind.i64 (0 : Int)] = Value.tuple #[Value.int IntKind.i64 (↑(Option.getD (readV q) (0 : Nat)) : Int), Value.int IntKind.i64 (if Option.isSome (readV q) = true then (0 : Int) else (222 : Int))]) (Wr IntKind.i64 (n + (1 : Int)) fun (c : Int) => SV.v (Value.string q) = SV.v (Value.string q) ∧ ((0 : Int) ≤ c ∧ c ≤ (16 : Int) ∧ ∀ (i : Nat), (↑i : Int) < c → decide (textV (↑i : Int) = q) = false) ∧ Int.toNat ((16 : Int) - c) < Int.toNat ((16 : Int) - n))) (Value.tuple #[Value.int IntKind.i64 (0 : Int), Value.int IntKind.i64 (222 : Int)] = Value.tuple #[Value.int IntKind.i64 (↑(Option.getD (readV q) (0 : Nat)) : Int), Value.int IntKind.i64 (if Option.isSome (readV q) = true then (0 : Int) else (222 : Int))])) (by kernel_rfl) ?_
  refine ⟨⟨rfl, by omega, by omega, fun i hi => by omega⟩, fun I1 _ hI1 j ⟨h0, h1, h2⟩ => Br.mk (fun hlt => ?_) (fun hge => ?_)⟩
  · have hlt := of_decide_eq_true hlt
    refine (ct28 j ⟨h0, by omega⟩ I1).mono fun v I2 hI2 hv => ?_
    have ht := text_same ⟨j.toNat, by omega⟩
    simp only [show ((j.toNat : Nat) : Int) = j by omega] at ht
    rw [ht] at hv
    have nxt : decide (textV j = q) = false → ∀ i : Nat, (i : Int) < j + 1 → decide (textV i = q) = false := fun hq i hi => by
      by_cases hij : (i : Int) < j
      · exact h2 i hij
      · rw [show (i : Int) = j by omega]; exact hq
    refine ⟨_, _, hv, Br.mk (fun hq => ?_) (fun hq => wr_i64 (by omega) (by omega) ⟨rfl, ⟨by omega, by omega, nxt ?_⟩, by omega⟩)⟩
    · rw [str_eq] at hq
      have hq := of_decide_eq_true hq
      have hf : readV q = some j.toNat := by
        unfold readV
        rw [List.find?_range_eq_some]
        refine ⟨by rw [show ((j.toNat : Nat) : Int) = j by omega, hq]; exact decide_eq_true rfl, by simp; omega, fun i hi => by simp [h2 i (by omega)]⟩
      simp only [hf, Option.getD_some, Option.isSome_some, if_true, show ((j.toNat : Nat) : Int) = j by omega]
    · rw [str_eq] at hq
      exact hq
  · have hge := of_decide_eq_false hge
    have hf : readV q = none := by
      unfold readV
      rw [List.find?_range_eq_none]
      intro i hi
      simp [h2 i (by omega)]
    simp [hf]
theorem readV_lt (q : ByteArray) : (readV q).getD 0 < 16 := by
  cases hr : readV q with
  | none => decide
  | some m =>
    have := List.mem_of_find?_eq_some hr
    simpa using this
theorem ct12 (q : ByteArray) (I : Mem) : Ct Try.prog (fnv 12) #[.string q] I (fun v _ => v = .bool true) := by
  refine viaR (ct_via (A := {}) Try.func12 rfl Try.call12 rfl rfl) (Br (decide ((100 : Int) < (↑(ByteArray.size q) : Int))) (Value.bool true = Value.bool true) (Ct Try.prog (Value.func (Fn.func (29 : Nat)) #[] #[]) #[Value.string q] I fun (v : Value) (I' : Mem) => ∃ (n : Int), ∃ (n_1 : Int), v = Value.tuple #[Value.int IntKind.u8 n, Value.int IntKind.i64 n_1] ∧ Ct Try.prog (Value.func (Fn.func (31 : Nat)) #[] #[]) #[Value.string q] I' fun (v : Value) (I' : Mem) => ∃ (n_2 : Int), ∃ (n_3 : Int), v = Value.tuple #[Value.int IntKind.i64 n_2, Value.int IntKind.i64 n_3] ∧ Wr IntKind.i64 n fun (c : Int) => Br (c == n_2) (Value.bool (n_1 == n_3) = Value.bool true) (Value.bool false = Value.bool true))) (by kernel_rfl) ?_
  have hlt := readV_lt q
  refine Br.mk (fun _ => rfl) (fun _ => (ct29' q I).mono fun v I1 hI hv => ⟨_, _, hv, (ct31 q I1).mono fun v I2 hI2 hv => ⟨_, _, hv, wr_i64 (by omega) (by omega) (Br.t (by simp) (by simp))⟩⟩)
theorem ct3 (I : Mem) (q : ByteArray) (hs : q.size ≤ maxLen) : Ct Try.prog (fnv 3) #[.string q] I (fun v _ => v = .bool true) := by
  refine viaR (ct_via (A := {}) Try.func3 rfl Try.call3 rfl rfl) (Ct Try.prog (Value.func (Fn.func (12 : Nat)) #[] #[]) #[Value.string q] I fun (v : Value) (I' : Mem) => ∃ (b : Bool), v = Value.bool b ∧ Br b (Ct Try.prog (Value.func (Fn.func (13 : Nat)) #[] #[]) #[] I' fun (v : Value) (I' : Mem) => ∃ (b : Bool), v = Value.bool b ∧ Value.bool b = Value.bool true) (Value.bool false = Value.bool true)) (by kernel_rfl) ?_
  exact (ct12 q I).mono fun v I1 _ hv => ⟨_, hv, Br.t rfl ((ct13 _).mono fun v _ _ hv => ⟨_, hv, rfl⟩)⟩
