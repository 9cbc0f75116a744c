/- Part of a proof by the rules of the symbolic walk (see the law's own text): contracts of functions of the program. -/
import Derived.Test.YtlkblbgmiodolaaGC
open Go Go.Proofs Go.SE Go.RowKit
set_option linter.unusedVariables false
/-- Fields without bytes, with the tags from 1 on. -/
def tagsL (n : Nat) : List (Int × List Int) := (List.range n).map fun (i : Nat) => (1 + (i : Int), [])
theorem rightStep_app : ∀ (K L : List (Int × List Int)) (last left : Int), rightStep last left (K ++ L) = (rightStep last left K && rightStep (lastT last K) (leftT left K) L)
  | [], L, last, left => by simp [rightStep, lastT, leftT]
  | f :: r, L, last, left => by
    rw [List.cons_append, rightStep, rightStep, lastT, leftT]
    split
    · rfl
    · exact rightStep_app r L _ _
theorem rightF_false {l : List (Int × List Int)} (h : rightStep 0 16384 l = false) : rightF l = false := by rw [rightF, h]; rfl
theorem leftT_le : ∀ (K : List (Int × List Int)) (left : Int), leftT left K ≤ left
  | [], left => Int.le_refl _
  | f :: r, left => by
    have := leftT_le r (left - f.2.length)
    rw [leftT]
    omega
theorem lastT_get : ∀ {K : List (Int × List Int)} {last : Int} {f : Int × List Int}, K[K.length - 1]? = some f → lastT last K = f.1
  | [], _, _, h => by simp at h
  | [x], last, f, h => by
    simp at h
    subst h
    rfl
  | x :: y :: r, last, f, h => by
    rw [lastT]
    refine lastT_get (K := y :: r) ?_
    simpa using h
theorem FR.one {I : Mem} : ∀ {l : List (Int × List Int)} {xs : List Value}, FR I xs l → ∀ v ∈ xs, v.oneCell' = true := by
  intro l
  induction l with
  | nil =>
    intro xs h v hv
    rcases h.cases with ⟨rfl, _⟩ | ⟨_, _, _, _, _, _, h, _⟩
    · cases hv
    · cases h
  | cons f l ih =>
    intro xs h v hv
    rcases h.cases with ⟨_, h⟩ | ⟨x, y, xs', f', l', rfl, h2, h3, h4⟩
    · cases h
    · cases h2
      rcases List.mem_cons.1 hv with rfl | hv
      · rw [h3.2.1]; rfl
      · rcases List.mem_cons.1 hv with rfl | hv
        · obtain ⟨_, _, _, e, _⟩ := h3.2.2
          rw [e]; rfl
        · exact ih h4 v hv
theorem fr_bad {I : Mem} {a : Option Addr} {cp m : Nat} {xs : List Value} {bad : List (Int × List Int)} (hrow : RowM I a cp 2 xs) (hF : FR I xs bad) (hm : m = bad.length) (hb : rightF bad = false) : ∃ bad, FldM I a m bad ∧ rightF bad = false :=
  ⟨bad, hm ▸ fldM_row hrow hF, hb⟩
theorem bysl_none (I : Mem) : BySl I (.slice none 0 0) [] := ⟨none, 0, 0, rfl, sl_nil _ _, by omega, by omega⟩
theorem setR_low {f : Int × List Int} (h : f.1 ≤ 0) {K : List (Int × List Int)} {left : Int} (hK : rightStep 0 left K = true) : rightStep 0 16384 (setR f false K) = false := by
  cases K with
  | nil => rw [setR, rightStep, if_pos (.inl h)]
  | cons x r =>
    rw [rightStep] at hK
    split at hK
    · cases hK
    · rw [setR, if_pos (by omega), rightStep, if_pos (.inl h)]
theorem ct7 (I : Mem) (a1 : Option Addr) (n1 c1 : Nat) (g1 : List Int) (sl1 : SlM I a1 n1 1 (ints .u8 g1)) (hc1 : n1 ≤ c1) (hm1 : c1 ≤ maxLen) (hz1 : ∀ z ∈ g1, 0 ≤ z ∧ z ≤ 255)
    (a3 : Option Addr) (n3 c3 : Nat) (ts : List (List Int)) (tx : TxM I a3 n3 ts) (hc3 : n3 ≤ c3) (hm3 : c3 ≤ maxLen) (way : Int) (hway : 0 ≤ way ∧ way ≤ 255) (n : Int) (hn : -9223372036854775808 ≤ n ∧ n ≤ 9223372036854775807) :
    Ct Try.prog (fnv 7) #[.slice a1 n1 c1, .slice a3 n3 c3, .int .u8 way, .int .i64 n] I (fun v _ => v = .bool true) := by
  refine viaR (ct_via (A := { calls := [(88, .hd)], chands := [(25, [10])], cuts := [(8, ⟨[(2, .keep), (3, .keep), (9, .keep), (10, .row 0), (11, .sh (.int .i64))], [(0, .row)], [], fun vals xss I' _ => match vals, xss with | [.int .i64 last], [xs] => last = lastT 0 (madeV g1 ts) ∧ FR I' xs (madeV g1 ts) | _, _ => False, fun _ _ => 0⟩), (25, ⟨[(3, .keep), (9, .keep), (10, .sh .sl)], [], [], fun vals _ I' _ => match vals with | [.slice a n c] => n ≤ 100 ∧ ∃ bad, FldM I' a n bad ∧ rightF bad = false | _ => False, fun _ _ => 0⟩)], loops := [(11, ⟨[(3, .keep), (9, .keep), (10, .row 1), (46, .sh (.int .i64))], [(1, .row)], [(10, 2, 29)], fun vals xss I' _ => match vals, xss with | [.int .i64 j], [xs] => 0 ≤ j ∧ j ≤ 65 ∧ FR I' xs (tagsL j.toNat) | _, _ => False, fun vals _ => match vals with | [.int .i64 j] => (65 - j).toNat | _ => 0⟩)] }) Try.func7 rfl Try.call7 rfl rfl) (Ct Try.prog (Value.func (Fn.func (12 : Nat)) #[] #[]) #[] I fun (v : Value) (I' : Mem) => ∃ (b : Bool), v = Value.bool b ∧ Br (!b) (Value.bool false = Value.bool true) (Ct Try.prog (Value.func (Fn.func (13 : Nat)) #[] #[]) #[Value.slice a1 n1 c1, Value.slice a3 n3 c3] I' fun (v : Value) (I' : Mem) => ∃ (a : Option Addr), ∃ (n_1 : Nat), ∃ (c : Nat), v = Value.slice a n_1 c ∧ ∃ (ys : List Value), List.length ys = n_1 * (2 : Nat) ∧ (a = none → n_1 = (0 : Nat)) ∧ (∀ (j : Nat) (v : Value), ys[j]? = some v → atI I' a j = some v) ∧ (∀ (v : Value), v ∈ ys → Value.oneCell' v = true) ∧ (0 : Nat) = (0 : Nat) ∧ (0 : Nat) + n_1 ≤ (9223372036854775807 : Nat) ∧ ((0 : Nat) + n_1) * (32 : Nat) ≤ (140737488355328 : Nat) ∧ Br (decide ((0 : Int) < (↑n_1 : Int))) (Wr IntKind.i64 ((↑n_1 : Int) - (1 : Int)) fun (c_1 : Int) => (0 : Int) ≤ c_1 ∧ c_1 < (↑n_1 : Int) ∧ Option.isSome a = true ∧ Option.isSome a = true ∧ ∃ (n_2 : Int), atI I' a (Int.toNat c_1 * (2 : Nat) + (0 : Nat) + (0 : Nat)) = some (Value.int IntKind.i64 n_2) ∧ SV.v (Value.int IntKind.u8 way) = SV.v (Value.int IntKind.u8 way) ∧ SV.v (Value.int IntKind.i64 n) = SV.v (Value.int IntKind.i64 n) ∧ SV.v (Value.slice a n_1 c) = SV.v (Value.slice a n_1 c) ∧ (0 : Nat) + n_1 = List.length ys / (2 : Nat) ∧ n_2 = lastT (0 : Int) (madeV g1 ts) ∧ FR I' ys (madeV g1 ts)) (SV.v (Value.int IntKind.u8 way) = SV.v (Value.int IntKind.u8 way) ∧ SV.v (Value.int IntKind.i64 n) = SV.v (Value.int IntKind.i64 n) ∧ SV.v (Value.slice a n_1 c) = SV.v (Value.slice a n_1 c) ∧ (0 : Nat) + n_1 = List.length ys / (2 : Nat) ∧ (0 : Int) = lastT (0 : Int) (madeV g1 ts) ∧ FR I' ys (madeV g1 ts)) ∧ ∀ (I'_1 G' : Mem), Mem.le I' I'_1 → ∀ (xs : List Value) (n_2 : Int), n_2 = lastT (0 : Int) (madeV g1 ts) ∧ FR I'_1 xs (madeV g1 ts) → ((6 : Int) ≠ (0 : Int) ∧ Br (Int.tmod way (6 : Int) == (0 : Int)) (List.length xs = List.length xs / (2 : Nat) * (2 : Nat) ∧ List.length xs / (2 : Nat) + (1 : Nat) ≤ (9223372036854775807 : Nat) ∧ (List.length xs / (2 : Nat) + (1 : Nat)) * (32 : Nat) ≤ (140737488355328 : Nat) ∧ ∀ (a_3 : Option Addr) (cp : Nat) (I' : Mem), Mem.le I'_1 I' → RowM I' a_3 cp (2 : Nat) (xs ++ [Value.int IntKind.i64 (bif false then imax n n_2 else imin n n_2), Value.slice none (0 : Nat) (0 : Nat)]) → SV.v (Value.int IntKind.i64 n) = SV.v (Value.int IntKind.i64 n) ∧ SV.v (Value.slice a n_1 c) = SV.v (Value.slice a n_1 c) ∧ List.length xs / (2 : Nat) + (1 : Nat) ≤ (100 : Nat) ∧ ∃ (bad : List (Int × List Int)), FldM I' a_3 (List.length xs / (2 : Nat) + (1 : Nat)) bad ∧ rightF bad = false) (Br (Int.tmod way (6 : Int) == (1 : Int)) (List.length xs = List.length xs / (2 : Nat) * (2 : Nat) ∧ List.length xs / (2 : Nat) + (1 : Nat) ≤ (9223372036854775807 : Nat) ∧ (List.length xs / (2 : Nat) + (1 : Nat)) * (32 : Nat) ≤ (140737488355328 : Nat) ∧ ∀ (a_3 : Option Addr) (cp : Nat) (I' : Mem), Mem.le I'_1 I' → RowM I' a_3 cp (2 : Nat) (xs ++ [Value.int IntKind.i64 (bif true then imax n (201 : Int) else imin n (201 : Int)), Value.slice none (0 : Nat) (0 : Nat)]) → SV.v (Value.int IntKind.i64 n) = SV.v (Value.int IntKind.i64 n) ∧ SV.v (Value.slice a n_1 c) = SV.v (Value.slice a n_1 c) ∧ List.length xs / (2 : Nat) + (1 : Nat) ≤ (100 : Nat) ∧ ∃ (bad : List (Int × List Int)), FldM I' a_3 (List.length xs / (2 : Nat) + (1 : Nat)) bad ∧ rightF bad = false) (Br (Int.tmod way (6 : Int) == (2 : Int)) (List.length xs / (2 : Nat) * (2 : Nat) ≤ List.length xs ∧ (∀ (v : Value), v ∈ List.take (List.length xs / (2 : Nat) * (2 : Nat)) xs → Value.oneCell' v = true) ∧ (2 : Nat) = (2 : Nat) ∧ (1 : Nat) + List.length xs / (2 : Nat) ≤ (9223372036854775807 : Nat) ∧ ((1 : Nat) + List.length xs / (2 : Nat)) * (32 : Nat) ≤ (140737488355328 : Nat) ∧ ∀ (a_3 : Option Addr) (cp : Nat) (I' : Mem), Mem.le I'_1 I' → RowM I' a_3 cp (2 : Nat) (Value.int IntKind.i64 (bif false then imax n (0 : Int) else imin n (0 : Int)) :: Value.slice none (0 : Nat) (0 : Nat) :: List.append ([] : List Value) (List.take (List.length xs / (2 : Nat) * 2) xs)) → SV.v (Value.int IntKind.i64 n) = SV.v (Value.int IntKind.i64 n) ∧ SV.v (Value.slice a n_1 c) = SV.v (Value.slice a n_1 c) ∧ (1 : Nat) + List.length xs / (2 : Nat) ≤ (100 : Nat) ∧ ∃ (bad : List (Int × List Int)), FldM I' a_3 ((1 : Nat) + List.length xs / (2 : Nat)) bad ∧ rightF bad = false) (Br (Int.tmod way (6 : Int) == (3 : Int)) (Wr IntKind.i64 (n_2 + (1 : Int)) fun (c_1 : Int) => (0 : Int) ≤ (16385 : Int) ∧ (16385 : Int) ≤ (16385 : Int) ∧ (16385 : Int) ≤ (281474976710656 : Int) ∧ (16385 : Int) ≤ (281474976710656 : Int) ∧ ∀ (xs_1 : List Value), List.length xs_1 = (16385 : Nat) → (∀ (j : Nat) (v : Value), xs_1[j]? = some v → #[Value.int IntKind.u8 (0 : Int)][j % (1 : Nat)]? = some v) → ∀ (a_5 : Option Addr) (cp : Nat) (I' : Mem), Mem.le I'_1 I' → RowM I' a_5 cp (1 : Nat) xs_1 → List.length xs = List.length xs / (2 : Nat) * (2 : Nat) ∧ List.length xs / (2 : Nat) + (1 : Nat) ≤ (9223372036854775807 : Nat) ∧ (List.length xs / (2 : Nat) + (1 : Nat)) * (32 : Nat) ≤ (140737488355328 : Nat) ∧ ∀ (a_8 : Option Addr) (cp_1 : Nat) (I'_2 : Mem), Mem.le I' I'_2 → RowM I'_2 a_8 cp_1 (2 : Nat) (xs ++ [Value.int IntKind.i64 c_1, Value.slice a_5 (16385 : Nat) cp]) → SV.v (Value.int IntKind.i64 n) = SV.v (Value.int IntKind.i64 n) ∧ SV.v (Value.slice a n_1 c) = SV.v (Value.slice a n_1 c) ∧ List.length xs / (2 : Nat) + (1 : Nat) ≤ (100 : Nat) ∧ ∃ (bad : List (Int × List Int)), FldM I'_2 a_8 (List.length xs / (2 : Nat) + (1 : Nat)) bad ∧ rightF bad = false) (Br (Int.tmod way (6 : Int) == (4 : Int)) (Wr IntKind.i64 (n_2 + (1 : Int)) fun (c_1 : Int) => Wr IntKind.i64 (n_2 + (1 : Int)) fun (c_2 : Int) => List.length xs = List.length xs / (2 : Nat) * (2 : Nat) ∧ List.length xs / (2 : Nat) + (2 : Nat) ≤ (9223372036854775807 : Nat) ∧ (List.length xs / (2 : Nat) + (2 : Nat)) * (32 : Nat) ≤ (140737488355328 : Nat) ∧ ∀ (a_3 : Option Addr) (cp : Nat) (I' : Mem), Mem.le I'_1 I' → RowM I' a_3 cp (2 : Nat) (xs ++ [Value.int IntKind.i64 c_1, Value.slice none (0 : Nat) (0 : Nat), Value.int IntKind.i64 c_2, Value.slice none (0 : Nat) (0 : Nat)]) → SV.v (Value.int IntKind.i64 n) = SV.v (Value.int IntKind.i64 n) ∧ SV.v (Value.slice a n_1 c) = SV.v (Value.slice a n_1 c) ∧ List.length xs / (2 : Nat) + (2 : Nat) ≤ (100 : Nat) ∧ ∃ (bad : List (Int × List Int)), FldM I' a_3 (List.length xs / (2 : Nat) + (2 : Nat)) bad ∧ rightF bad = false) ((SV.v (Value.int IntKind.i64 n) = SV.v (Value.int IntKind.i64 n) ∧ SV.v (Value.slice a n_1 c) = SV.v (Value.slice a n_1 c) ∧ (0 : Nat) = (0 : Nat) ∧ (0 : Int) ≤ (0 : Int) ∧ (0 : Int) ≤ (65 : Int) ∧ FR I'_1 [] []) ∧ ∀ (I' G' : Mem), Mem.le I'_1 I' → ∀ (xs : List Value) (n_3 : Int), (0 : Int) ≤ n_3 ∧ n_3 ≤ (65 : Int) ∧ FR I' xs (tagsL (Int.toNat n_3)) → Br (decide (n_3 < (65 : Int))) (Wr IntKind.i64 ((1 : Int) + n_3) fun (c_1 : Int) => List.length xs = List.length xs / (2 : Nat) * (2 : Nat) ∧ List.length xs / (2 : Nat) + (1 : Nat) ≤ (9223372036854775807 : Nat) ∧ (List.length xs / (2 : Nat) + (1 : Nat)) * (32 : Nat) ≤ (140737488355328 : Nat) ∧ Wr IntKind.i64 (n_3 + (1 : Int)) fun (c_2 : Int) => SV.v (Value.int IntKind.i64 n) = SV.v (Value.int IntKind.i64 n) ∧ SV.v (Value.slice a n_1 c) = SV.v (Value.slice a n_1 c) ∧ List.length xs / (2 : Nat) + (1 : Nat) = List.length (xs ++ [Value.int IntKind.i64 c_1, Value.slice none (0 : Nat) (0 : Nat)]) / (2 : Nat) ∧ ((0 : Int) ≤ c_2 ∧ c_2 ≤ (65 : Int) ∧ FR I' (xs ++ [Value.int IntKind.i64 c_1, Value.slice none (0 : Nat) (0 : Nat)]) (tagsL (Int.toNat c_2))) ∧ Int.toNat ((65 : Int) - c_2) < Int.toNat ((65 : Int) - n_3)) (∀ (a_5 : Option Addr) (cp : Nat) (I'_2 : Mem), Mem.le I' I'_2 → RowM I'_2 a_5 cp (2 : Nat) xs → SV.v (Value.int IntKind.i64 n) = SV.v (Value.int IntKind.i64 n) ∧ SV.v (Value.slice a n_1 c) = SV.v (Value.slice a n_1 c) ∧ List.length xs / (2 : Nat) ≤ (100 : Nat) ∧ ∃ (bad : List (Int × List Int)), FldM I'_2 a_5 (List.length xs / (2 : Nat)) bad ∧ rightF bad = false))))))) ∧ ∀ (I' G' : Mem), Mem.le I'_1 I' → ∀ (a_4 : Option Addr) (n_3 c_1 : Nat), (n_3 ≤ (100 : Nat) ∧ ∃ (bad : List (Int × List Int)), FldM I' a_4 n_3 bad ∧ rightF bad = false) → Ct Try.prog (Value.func (Fn.func (16 : Nat)) #[] #[]) #[Value.slice a_4 n_3 c_1] I' fun (v : Value) (I' : Mem) => ∃ (a_6 : Option Addr), ∃ (n_4 : Nat), ∃ (c_2 : Nat), ∃ (n_5 : Int), v = Value.tuple #[Value.slice a_6 n_4 c_2, Value.int IntKind.i64 n_5] ∧ Ct Try.prog (Value.func (Fn.func (22 : Nat)) #[] #[]) #[Value.slice a_4 n_3 c_1, Value.agg #[Value.int IntKind.i64 (1 : Int), Value.slice none (0 : Nat) (0 : Nat)]] I' fun (v : Value) (I' : Mem) => ∃ (a_7 : Option Addr), ∃ (n_6 : Nat), ∃ (c_3 : Nat), ∃ (n_7 : Int), v = Value.tuple #[Value.slice a_7 n_6 c_3, Value.int IntKind.i64 n_7] ∧ ∀ (b : Nat) (I'_2 : Mem), Mem.le I' I'_2 → I'_2 b = some (Obj.cells #[Value.int IntKind.i64 (5 : Int), Value.bool false, Value.int IntKind.i64 (0 : Int), Value.int IntKind.i64 (0 : Int), Value.int IntKind.i64 (bif false then imax n (5 : Int) else imin n (5 : Int)), Value.bool false, Value.int IntKind.i64 (0 : Int), Value.int IntKind.i64 (0 : Int)] (31 : Nat)) → Ct Try.prog (Value.func (Fn.func (14 : Nat)) #[] #[]) #[Value.slice a_4 n_3 c_1, Value.slice (some (Addr.mk b (0 : Nat) none)) (2 : Nat) (2 : Nat)] I'_2 fun (v : Value) (I' : Mem) => ∃ (n_8 : Int), ∃ (n_9 : Int), v = Value.tuple #[Value.int IntKind.i64 n_8, Value.int IntKind.i64 n_9] ∧ Ct Try.prog (Value.func (Fn.func (14 : Nat)) #[] #[]) #[Value.slice a n_1 c, Value.slice (some (Addr.mk b (0 : Nat) none)) (2 : Nat) (2 : Nat)] I' fun (v : Value) (I' : Mem) => ∃ (n_10 : Int), ∃ (n_11 : Int), v = Value.tuple #[Value.int IntKind.i64 n_10, Value.int IntKind.i64 n_11] ∧ Ct Try.prog (Value.func (Fn.func (22 : Nat)) #[] #[]) #[Value.slice a n_1 c, Value.agg #[Value.int IntKind.i64 (bif false then imax n (0 : Int) else imin n (0 : Int)), Value.slice none (0 : Nat) (0 : Nat)]] I' fun (v : Value) (I' : Mem) => ∃ (a_10 : Option Addr), ∃ (n : Nat), ∃ (c_4 : Nat), ∃ (n_12 : Int), v = Value.tuple #[Value.slice a_10 n c_4, Value.int IntKind.i64 n_12] ∧ ∀ (b : Nat) (I'_3 : Mem), Mem.le I' I'_3 → I'_3 b = some (Obj.cells #[Value.int IntKind.i64 (1 : Int), Value.bool false, Value.int IntKind.i64 (5 : Int), Value.int IntKind.i64 (4 : Int)] (31 : Nat)) → Ct Try.prog (Value.func (Fn.func (14 : Nat)) #[] #[]) #[Value.slice a n_1 c, Value.slice (some (Addr.mk b (0 : Nat) none)) (1 : Nat) (1 : Nat)] I'_3 fun (v : Value) (I' : Mem) => ∃ (n_13 : Int), ∃ (n_14 : Int), v = Value.tuple #[Value.int IntKind.i64 n_13, Value.int IntKind.i64 n_14] ∧ Ct Try.prog (Value.func (Fn.func (19 : Nat)) #[] #[]) #[Value.slice a_4 n_3 c_1] I' fun (v : Value) (I' : Mem) => ∃ (b : Bool), v = Value.bool b ∧ Br (!b) (Wr IntKind.i64 ((↑n_4 : Int) + (↑n_6 : Int)) fun (c : Int) => Wr IntKind.i64 (c + (↑n : Int)) fun (c : Int) => Wr IntKind.i64 (c + n_8) fun (c : Int) => Wr IntKind.i64 (c + n_10) fun (c : Int) => Wr IntKind.i64 (c + n_13) fun (c : Int) => Br (c == (0 : Int)) (Br (n_5 == (20 : Int)) (Br (n_7 == (20 : Int)) (Br (n_9 == (20 : Int)) (Br (n_11 == (22 : Int)) (Br (n_12 == (20 : Int)) (Value.bool (n_14 == (22 : Int)) = Value.bool true) (Value.bool false = Value.bool true)) (Value.bool false = Value.bool true)) (Value.bool false = Value.bool true)) (Value.bool false = Value.bool true)) (Value.bool false = Value.bool true)) (Value.bool false = Value.bool true)) (Value.bool false = Value.bool true))) (by kernel_rfl) ?_
  simp only [eq_self, true_and, cond_true, cond_false]
  refine (ct12 I).mono fun v I1 l1 hv => ⟨_, hv, Br.f rfl ?_⟩
  refine (ct13 g1 hz1 ts _ _ _ _ _ _ I1 (sl1.mono l1) hc1 (tx.mono l1)).mono fun v I2 l2 ⟨ka, kn, kc, hv, hK, hkc, _⟩ => ⟨ka, kn, kc, hv, ?_⟩
  have rK := madeV_right g1 ts
  have nK := madeV_len g1 ts
  have sK := madeV_step g1 ts
  generalize madeV g1 ts = K at hK rK nK sK ⊢
  have kK := hK.len
  have sK2 := (rightF_iff.1 rK).1
  have hlast : 0 ≤ lastT 0 K ∧ lastT 0 K ≤ 200 := by
    refine ⟨lastT_ge sK, ?_⟩
    rcases Nat.eq_zero_or_pos K.length with h | h
    · rw [List.eq_nil_of_length_eq_zero h]; simp [lastT]
    · have hg : K[K.length - 1]? = some K[K.length - 1] := List.getElem?_eq_getElem (by omega)
      rw [lastT_get hg]
      exact (right_at sK _ (List.mem_of_getElem? hg)).2.1
  obtain ⟨xs0, hs0, hF0⟩ := hK
  have hK : FldM I2 ka kn K := ⟨xs0, hs0, hF0⟩
  have hx0 := hF0.len
  refine ⟨xs0, hs0.len, hs0.nil, hs0.at_, hF0.one, by omega, by omega, ⟨Br.mk (fun hp => ?_) (fun hp => ⟨by omega, ?_, hF0⟩), fun I3 _ l3 xs last ⟨hl, hF⟩ => ⟨⟨by decide, ?_⟩, fun I4 _ l4 ba bn bc ⟨h100, bad, hB, hbad⟩ => ?_⟩⟩⟩
  · have hp := of_decide_eq_true hp
    obtain ⟨f, _, _, _, hf, _, e1, _⟩ := hK.at_ (i := (kn : Int) - 1) (by omega) (by omega)
    refine wr_i64 (by omega) (by omega) ⟨by omega, by omega, hK.isSome (by omega), hK.isSome (by omega), f.1, e1, by omega, ?_, hF0⟩
    rw [show ((kn : Int) - 1).toNat = K.length - 1 by omega] at hf
    exact (lastT_get hf).symm
  · have hp := of_decide_eq_false hp
    rw [List.eq_nil_of_length_eq_zero (by omega : K.length = 0)]
    rfl
  · subst hl
    have hxl := hF.len
    have one : ∀ (f : Int × List Int) {J : Mem} {y : Value} {a5 : Option Addr} {cp : Nat}, I3.le J → okFld f → BySl J y f.2 → rightF (K ++ [f]) = false → RowM J a5 cp 2 (xs ++ [.int .i64 f.1, y]) → xs.length / 2 + 1 ≤ 100 ∧ ∃ bad, FldM J a5 (xs.length / 2 + 1) bad ∧ rightF bad = false :=
      fun f {J y a5 cp} hle hok hy hb hrow => ⟨by omega, fr_bad hrow (FR.snoc (hF.mono hle) ⟨hok, rfl, hy⟩) (by simp; omega) hb⟩
    have bad1 : ∀ f : Int × List Int, (f.1 ≤ lastT 0 K ∨ 200 < f.1 ∨ leftT 16384 K < f.2.length) → rightF (K ++ [f]) = false := fun f hf => by
      refine rightF_false ?_
      rw [rightStep_app, sK2, rightStep, if_pos hf]; rfl
    refine Br.mk (fun _ => ?_) (fun _ => Br.mk (fun _ => ?_) (fun _ => Br.mk (fun _ => ?_) (fun _ => Br.mk (fun _ => ?_) (fun _ => Br.mk (fun _ => ?_) (fun _ => ?_)))))
    · have h1 : imin n (lastT 0 K) ≤ lastT 0 K ∧ -9223372036854775808 ≤ imin n (lastT 0 K) := by unfold imin; split <;> omega
      exact ⟨by omega, by omega, by omega, fun a5 cp J hle hrow => one (imin n (lastT 0 K), []) hle ⟨by simp only; omega, fun z hz => by cases hz⟩ (bysl_none _) (bad1 _ (.inl h1.1)) hrow⟩
    · have h1 : 201 ≤ imax n 201 ∧ imax n 201 ≤ 9223372036854775807 := by unfold imax; split <;> omega
      exact ⟨by omega, by omega, by omega, fun a5 cp J hle hrow => one (imax n 201, []) hle ⟨by simp only; omega, fun z hz => by cases hz⟩ (bysl_none _) (bad1 _ (.inr (.inl (by simp only; omega)))) hrow⟩
    · have h1 : imin n 0 ≤ 0 ∧ -9223372036854775808 ≤ imin n 0 := by unfold imin; split <;> omega
      have ht : List.take (xs.length / 2 * 2) xs = xs := List.take_of_length_le (by omega)
      refine ⟨by omega, by rw [ht]; exact hF.one, by omega, by omega, fun a5 cp J hle hrow => ⟨by omega, ?_⟩⟩
      change RowM J a5 cp 2 (.int .i64 (imin n 0) :: .slice none 0 0 :: List.take (xs.length / 2 * 2) xs) at hrow
      rw [ht] at hrow
      refine fr_bad (bad := (imin n 0, []) :: K) hrow (FR.cons ⟨⟨by simp only; omega, fun z hz => by cases hz⟩, rfl, bysl_none _⟩ (hF.mono hle)) (by simp; omega) (rightF_false ?_)
      rw [rightStep, if_pos (.inl h1.1)]
    · refine wr_i64 (by omega) (by omega) ⟨by omega, by omega, by omega, by omega, fun zs hzl hzs az cz J1 m1 hrz => ⟨by omega, by omega, by omega, fun a5 cp J hle hrow => ?_⟩⟩
      have hz : zs = ints .u8 (List.replicate 16385 0) := by
        apply List.ext_getElem?
        intro k
        by_cases hk : k < zs.length
        · have h1 := hzs k _ (List.getElem?_eq_getElem hk)
          rw [Nat.mod_one] at h1
          rw [List.getElem?_eq_getElem hk]
          have h2 : (some (Value.int IntKind.u8 0) : Option Value) = some zs[k] := h1
          rw [← h2]
          simp only [ints, List.getElem?_map]
          rw [List.getElem?_replicate_of_lt (by omega)]
          rfl
        · rw [List.getElem?_eq_none (by omega), List.getElem?_eq_none (by simp only [ints, List.length_map, List.length_replicate]; omega)]
      have hy : BySl J1 (.slice az 16385 cz) (List.replicate 16385 0) := row_bysl (by rw [← hz]; exact hrz) (by rw [List.length_replicate])
      refine one (lastT 0 K + 1, List.replicate 16385 0) (Mem.le_trans m1 hle) ⟨by simp only; omega, fun z hz => ?_⟩ (hy.mono hle) (bad1 _ (.inr (.inr ?_))) hrow
      · rw [(List.mem_replicate.1 hz).2]; omega
      · have := leftT_le K 16384
        simp only [List.length_replicate]; omega
    · refine wr_i64 (by omega) (by omega) (wr_i64 (by omega) (by omega) ⟨by omega, by omega, by omega, fun a5 cp J hle hrow => ⟨by omega, ?_⟩⟩)
      have hok : okFld (lastT 0 K + 1, ([] : List Int)) := ⟨by simp only; omega, fun z hz => by cases hz⟩
      refine fr_bad (bad := K ++ [(lastT 0 K + 1, []), (lastT 0 K + 1, [])]) hrow (FR.app (FR.cons ⟨hok, rfl, bysl_none _⟩ (FR.cons ⟨hok, rfl, bysl_none _⟩ FR.nil)) (hF.mono hle)) (by simp; omega) (rightF_false ?_)
      rw [rightStep_app, sK2, Bool.true_and, rightStep]
      split
      · rfl
      · rw [rightStep, if_pos (.inl (Int.le_refl _))]
    · refine ⟨⟨by omega, by omega, trivial⟩, fun J1 _ m1 zs j ⟨j0, j1, hT⟩ => Br.mk (fun hlt => ?_) (fun hge => ?_)⟩
      · have hlt := of_decide_eq_true hlt
        have hzl := hT.len
        have htl : (tagsL j.toNat).length = j.toNat := by simp [tagsL]
        have hnx : tagsL (j + 1).toNat = tagsL j.toNat ++ [(1 + j, [])] := by
          rw [show (j + 1).toNat = j.toNat + 1 by omega]
          simp only [tagsL, List.range_succ, List.map_append, List.map_cons, List.map_nil]
          rw [show ((j.toNat : Nat) : Int) = j by omega]
        refine wr_i64 (by omega) (by omega) ⟨by omega, by omega, by omega, wr_i64 (by omega) (by omega) ⟨by simp, ⟨by omega, by omega, ?_⟩, by omega⟩⟩
        rw [hnx]
        exact FR.snoc hT ⟨⟨by simp only; omega, fun z hz => by cases hz⟩, rfl, bysl_none _⟩
      · have hge := of_decide_eq_false hge
        have hj : j = 65 := by omega
        subst hj
        have hzl := hT.len
        have htl : (tagsL (65 : Int).toNat).length = 65 := by simp [tagsL]
        intro a5 cp J hle hrow
        refine ⟨by omega, fr_bad hrow (hT.mono hle) (by omega) ?_⟩
        rw [rightF, htl]
        simp
  · have hK4 := hK.mono (Mem.le_trans l3 l4)
    have h1 : imin n 5 ≤ 5 ∧ -9223372036854775808 ≤ imin n 5 := by unfold imin; split <;> omega
    have h2 : imin n 0 ≤ 0 ∧ -9223372036854775808 ≤ imin n 0 := by unfold imin; split <;> omega
    generalize imin n 5 = t5 at h1 ⊢
    generalize imin n 0 = t0 at h2 ⊢
    refine (ct16 bad ba bn bc I4 hB (by omega)).mono fun v J1 m1 ⟨wa, wn, wc', hv, hw, _, _⟩ => ⟨wa, wn, wc', _, hv, ?_⟩
    rw [hbad] at hw ⊢
    have hwn : wn = 0 := hw.numLen
    have hsb : ∀ f, setF bad f = ([], 20) := fun f => by rw [setF, hbad]; rfl
    refine (ct22 bad (1, []) ⟨by simp, fun z hz => by cases hz⟩ (by simp) ba none bn bc 0 0 J1 (hB.mono m1) (by omega) (sl_nil _ _) (by omega) (by omega)).mono fun v J2 m2 ⟨sa, sn, sc, hv, hS, _, _⟩ => ⟨sa, sn, sc, _, hv, ?_⟩
    rw [hsb] at hS ⊢
    have hsn : [].length = sn := hS.len
    intro b5 J3 m3 hb5
    have hW : WntM J3 (some ⟨b5, 0, none⟩) 2 [(5, false, 0, 0), (t5, false, 0, 0)] := by
      refine ⟨sl_cells (n := 2) (sz := 4) hb5 rfl (by decide), fun w hw => ?_⟩
      simp at hw
      rcases hw with rfl | rfl
      · simp [okW]
      · simp [okW]; omega
    have rW : rightW [(5, false, 0, 0), (t5, false, 0, 0)] = false := by
      have : rightWS 0 [(5, false, 0, 0), (t5, false, 0, 0)] = false := by
        rw [rightWS, if_neg (by simp), rightWS, if_pos (.inl h1.1)]
      rw [rightW, this]; rfl
    have lA := Mem.le_trans m1 (Mem.le_trans m2 m3)
    refine (ct14 bad _ _ _ _ _ _ _ J3 (hB.mono lA) (by omega) hW (by omega)).mono fun v J4 m4 hv => ⟨_, _, hv, ?_⟩
    have e1 : suitF bad [(5, false, 0, 0), (t5, false, 0, 0)] = (0, 20) := by rw [suitF, hbad]; rfl
    rw [e1]
    refine (ct14 K _ _ _ _ _ _ _ J4 (hK4.mono (Mem.le_trans lA m4)) (by omega) (hW.mono m4) (by omega)).mono fun v J5 m5 hv => ⟨_, _, hv, ?_⟩
    have e2 : suitF K [(5, false, 0, 0), (t5, false, 0, 0)] = (0, 22) := by rw [suitF, rK, rW]; rfl
    rw [e2]
    refine (ct22 K (t0, []) ⟨by simp only; omega, fun z hz => by cases hz⟩ (by simp) ka none kn kc 0 0 J5 (hK4.mono (Mem.le_trans lA (Mem.le_trans m4 m5))) (by omega) (sl_nil _ _) (by omega) (by omega)).mono fun v J6 m6 ⟨ua, un, uc, hv, hU, _, _⟩ => ⟨ua, un, uc, _, hv, ?_⟩
    have e3 : setF K (t0, []) = ([], 20) := by
      rw [setF, rK, rightF_false (setR_low h2.1 sK)]; rfl
    rw [e3] at hU ⊢
    have hun : [].length = un := hU.len
    intro b6 J7 m7 hb6
    have hW2 : WntM J7 (some ⟨b6, 0, none⟩) 1 [(1, false, 5, 4)] := by
      refine ⟨sl_cells (n := 1) (sz := 4) hb6 rfl (by decide), fun w hw => ?_⟩
      simp at hw
      subst hw
      simp [okW]
    refine (ct14 K _ _ _ _ _ _ _ J7 (hK4.mono (Mem.le_trans lA (Mem.le_trans m4 (Mem.le_trans m5 (Mem.le_trans m6 m7))))) (by omega) hW2 (by omega)).mono fun v J8 m8 hv => ⟨_, _, hv, ?_⟩
    have e4 : suitF K [(1, false, 5, 4)] = (0, 22) := by rw [suitF, rK]; rfl
    rw [e4]
    refine (ct19 bad ba bn bc J8 (hB.mono (Mem.le_trans lA (Mem.le_trans m4 (Mem.le_trans m5 (Mem.le_trans m6 (Mem.le_trans m7 m8)))))) (by omega)).mono fun v J9 m9 hv => ⟨_, hv, ?_⟩
    rw [hbad]
    simp only [List.length_nil] at hsn hun
    refine Br.t rfl (wr_i64 (by omega) (by omega) (wr_i64 (by omega) (by omega) (wr_i64 (by omega) (by omega) (wr_i64 (by omega) (by omega) (wr_i64 (by omega) (by omega) (Br.t (by simp; omega) (Br.t rfl (Br.t rfl (Br.t rfl (Br.t rfl (Br.t rfl rfl)))))))))))
open Go Go.Proofs Go.SE Go.RowKit
set_option linter.unusedVariables false
/-- The want that a field is made into. -/
def wOf (q : Int) (f : Int × List Int) : Wnt := (f.1, q.tmod 2 == 0, (f.2.length : Int) - imin (q.tmod 10) f.2.length, (f.2.length : Int) + q.tmod 7)
def wantsF (q : Int) : Int → List (Int × List Int) → List Wnt
  | _, [] => []
  | last, f :: r => (if last + 1 < f.1 then [(last + 1, false, 0, 5)] else []) ++ (wOf q f :: wantsF q f.1 r)
def tightW (t n q : Int) (w : Wnt) : Wnt := if w.1 = t then (w.1, w.2.1, n + 1, n + 1 + q) else w
def withoutW (t n q : Int) (w : Wnt) : Wnt := if w.1 = t then (w.1, true, n + 1, n + 1 + q) else w
theorem wOf_ok (q : Int) (hq : 0 ≤ q ∧ q ≤ 255) (f : Int × List Int) : 0 ≤ (wOf q f).2.2.1 ∧ (wOf q f).2.2.1 ≤ f.2.length ∧ (f.2.length : Int) ≤ (wOf q f).2.2.2 ∧ (wOf q f).2.2.2 ≤ f.2.length + 6 := by
  have h1 : 0 ≤ q.tmod 10 := Int.tmod_nonneg _ hq.1
  have h2 : 0 ≤ q.tmod 7 := Int.tmod_nonneg _ hq.1
  have h3 : q.tmod 7 < 7 := Int.tmod_lt_of_pos _ (by omega)
  have h4 : 0 ≤ imin (q.tmod 10) f.2.length ∧ imin (q.tmod 10) f.2.length ≤ f.2.length := by unfold imin; split <;> omega
  simp only [wOf]
  omega
theorem rightWS_low : ∀ {ws : List Wnt} {last last' : Int}, last' ≤ last → rightWS last ws = true → rightWS last' ws = true
  | [], _, _, _, _ => rfl
  | w :: r, last, last', hl, h => by
    rw [rightWS] at h ⊢
    split at h
    · cases h
    · rename_i hc
      rw [if_neg (by omega)]
      exact h
theorem rightWS_filter (p : Wnt → Bool) : ∀ {ws : List Wnt} {last : Int}, rightWS last ws = true → rightWS last (ws.filter p) = true
  | [], _, _ => rfl
  | w :: r, last, h => by
    rw [rightWS] at h
    split at h
    · cases h
    · rename_i hc
      rw [List.filter_cons]
      split
      · rw [rightWS, if_neg hc]
        exact rightWS_filter p h
      · exact rightWS_low (by omega) (rightWS_filter p h)
theorem rightWS_map (g : Wnt → Wnt) (hg : ∀ w, (g w).1 = w.1 ∧ (g w = w ∨ (0 ≤ (g w).2.2.1 ∧ (g w).2.2.1 ≤ (g w).2.2.2 ∧ (g w).2.2.2 ≤ 16384))) : ∀ {ws : List Wnt} {last : Int}, rightWS last ws = true → rightWS last (ws.map g) = true
  | [], _, _ => rfl
  | w :: r, last, h => by
    rw [rightWS] at h
    split at h
    · cases h
    · rename_i hc
      obtain ⟨h1, h2⟩ := hg w
      rw [List.map_cons, rightWS, h1]
      rw [if_neg ?_]
      · exact rightWS_map g hg h
      · rcases h2 with h2 | h2
        · rw [h2]; exact hc
        · omega
theorem wantsF_right (q : Int) (hq : 0 ≤ q ∧ q ≤ 255) : ∀ {K : List (Int × List Int)} {last left : Int}, 0 ≤ last → left ≤ 16000 → rightStep last left K = true → rightWS last (wantsF q last K) = true
  | [], _, _, _, _, _ => rfl
  | f :: r, last, left, h0, hl, h => by
    rw [rightStep] at h
    split at h
    · cases h
    · rename_i hc
      have hw := wOf_ok q hq f
      have h1 : (wOf q f).1 = f.1 := rfl
      have ih := wantsF_right q hq (K := r) (last := f.1) (by omega) (by omega) h
      rw [wantsF]
      split
      · rw [List.singleton_append, rightWS, if_neg (by simp only; omega), rightWS, if_neg (by simp only [h1]; omega)]
        exact ih
      · rw [List.nil_append, rightWS, if_neg (by rw [h1]; omega)]
        exact ih
theorem wantsF_len (q : Int) : ∀ (K : List (Int × List Int)) (last : Int), (wantsF q last K).length ≤ 2 * K.length
  | [], _ => by simp [wantsF]
  | f :: r, last => by
    have := wantsF_len q r f.1
    rw [wantsF]
    split <;> simp <;> omega
theorem wantsF_find (q : Int) : ∀ {K : List (Int × List Int)} {last left : Int} {f : Int × List Int}, rightStep last left K = true → f ∈ K → (wantsF q last K).find? (fun w => w.1 == f.1) = some (wOf q f)
  | [], _, _, _, _, hf => by cases hf
  | x :: r, last, left, f, h, hf => by
    have hall := right_at h f hf
    rw [rightStep] at h
    split at h
    · cases h
    · rename_i hc
      have skip : (wantsF q last (x :: r)).find? (fun w => w.1 == f.1) = (wOf q x :: wantsF q x.1 r).find? (fun w => w.1 == f.1) := by
        rw [wantsF]
        split
        · rename_i hx
          have hne : ¬ (((last + 1, false, 0, 5) : Wnt).1 == f.1) = true := by
            have : x.1 ≤ f.1 := by
              rcases List.mem_cons.1 hf with rfl | hf
              · exact Int.le_refl _
              · have := right_at h f hf
                omega
            simp; omega
          rw [List.singleton_append, List.find?_cons_of_neg (p := fun w : Wnt => w.1 == f.1) hne]
        · rfl
      rw [skip]
      rcases List.mem_cons.1 hf with rfl | hf
      · exact List.find?_cons_of_pos (by simp [wOf])
      · have := right_at h f hf
        rw [List.find?_cons_of_neg (by simp [wOf]; omega), wantsF_find q h hf]
theorem wantsF_mem (q : Int) : ∀ {K : List (Int × List Int)} {last : Int} {w : Wnt}, w ∈ wantsF q last K → w.2.1 = false ∨ ∃ f ∈ K, w = wOf q f
  | [], _, _, hw => by cases hw
  | f :: r, last, w, hw => by
    rw [wantsF] at hw
    rcases List.mem_append.1 hw with hw | hw
    · split at hw
      · cases List.mem_singleton.1 hw
        exact .inl rfl
      · cases hw
    · rcases List.mem_cons.1 hw with rfl | hw
      · exact .inr ⟨f, by simp, rfl⟩
      · rcases wantsF_mem q hw with h | ⟨g, hg, h⟩
        · exact .inl h
        · exact .inr ⟨g, by simp [hg], h⟩
theorem suitG_good (ws : List Wnt) (g : (Int × List Int) → Wnt) : ∀ (l r : List (Int × List Int)) (met : List Wnt), (∀ f ∈ l, ws.find? (fun w => w.1 == f.1) = some (g f) ∧ (g f).2.2.1 ≤ f.2.length ∧ (f.2.length : Int) ≤ (g f).2.2.2) →
    suitG ws (l ++ r) met = suitG ws r (met ++ l.map g)
  | [], r, met, _ => by simp
  | f :: l, r, met, h => by
    obtain ⟨h1, h2, h3⟩ := h f (by simp)
    rw [List.cons_append, suitG, h1]
    simp only
    rw [if_neg (by omega), suitG_good ws g l r _ fun x hx => h x (by simp [hx])]
    simp
theorem suitM_find (met : List Wnt) : ∀ (ws : List Wnt), suitM met ws = match ws.find? (fun w => w.2.1 && !met.contains w) with
    | none => (0, 0)
    | some w => (w.1, 25)
  | [] => rfl
  | w :: r => by
    rw [suitM, List.find?_cons]
    cases h : (w.2.1 && !met.contains w) with
    | true => simp
    | false => simp [suitM_find met r]
theorem find_congr {α : Type} {p r : α → Bool} : ∀ {l : List α}, (∀ x ∈ l, p x = r x) → l.find? p = l.find? r
  | [], _ => rfl
  | x :: l, h => by
    rw [List.find?_cons, List.find?_cons, h x (by simp), find_congr fun y hy => h y (by simp [hy])]
theorem find_map {α β : Type} (p : β → Bool) (g : α → β) : ∀ (l : List α), (l.map g).find? p = (l.find? fun x => p (g x)).map g
  | [] => rfl
  | x :: l => by
    rw [List.map_cons, List.find?_cons, List.find?_cons, find_map p g l]
    cases p (g x) <;> rfl
theorem rightStep_low : ∀ {l : List (Int × List Int)} {last last' left left' : Int}, last' ≤ last → left ≤ left' → rightStep last left l = true → rightStep last' left' l = true
  | [], _, _, _, _, _, _, _ => rfl
  | f :: r, last, last', left, left', h1, h2, h => by
    rw [rightStep] at h ⊢
    split at h
    · cases h
    · rename_i hc
      rw [if_neg (by omega)]
      exact rightStep_low (Int.le_refl _) (by omega) h
theorem rightStep_filter (p : (Int × List Int) → Bool) : ∀ {l : List (Int × List Int)} {last left : Int}, rightStep last left l = true → rightStep last left (l.filter p) = true
  | [], _, _, _ => rfl
  | f :: r, last, left, h => by
    rw [rightStep] at h
    split at h
    · cases h
    · rename_i hc
      rw [List.filter_cons]
      split
      · rw [rightStep, if_neg hc]
        exact rightStep_filter p h
      · exact rightStep_low (by omega) (by omega) (rightStep_filter p h)
theorem tags_ne : ∀ {K : List (Int × List Int)} {last left : Int} {i : Nat} {f : Int × List Int}, rightStep last left K = true → K[i]? = some f → ∀ g ∈ K.take i, g.1 ≠ f.1
  | [], _, _, _, _, _, hi => by simp at hi
  | x :: r, last, left, 0, f, h, hi => fun g hg => by cases hg
  | x :: r, last, left, i + 1, f, h, hi => fun g hg => by
    have hi : r[i]? = some f := by simpa using hi
    rw [rightStep] at h
    split at h
    · cases h
    · rw [List.take_succ_cons] at hg
      rcases List.mem_cons.1 hg with rfl | hg
      · have := right_at h f (List.mem_of_getElem? hi)
        omega
      · exact tags_ne h hi g hg
theorem cont {ws : List Wnt} {w : Wnt} (h : w ∈ ws) : ws.contains w = true := by simpa using h
theorem rW_of {ws : List Wnt} (h : rightWS 0 ws = true) (hl : ws.length ≤ 64) : rightW ws = true := by
  rw [rightW, h, decide_eq_true (by omega)]; rfl
section
variable {q : Int} {K : List (Int × List Int)} (hq : 0 ≤ q ∧ q ≤ 255) (hK : rightStep 0 2000 K = true) (h20 : K.length ≤ 20)
include hq hK h20
theorem suit_all : suitF K (wantsF q 0 K) = (0, 0) := by
  have rK : rightF K = true := rightF_iff.2 ⟨rightStep_more (by omega) hK, by omega⟩
  have hl := wantsF_len q K 0
  have rW := rW_of (wantsF_right q hq (by omega) (by omega) hK) (by omega)
  have hg := suitG_good (wantsF q 0 K) (wOf q) K [] [] fun f hf => ⟨wantsF_find q hK hf, (wOf_ok q hq f).2.1, (wOf_ok q hq f).2.2.1⟩
  rw [List.append_nil, List.nil_append] at hg
  rw [suitF, if_pos rK, if_pos rW, hg, suitG, if_pos rfl, suitM_find]
  have : (wantsF q 0 K).find? (fun w => w.2.1 && !(K.map (wOf q)).contains w) = none := by
    rw [List.find?_eq_none]
    intro w hw
    rcases wantsF_mem q hw with h | ⟨f, hf, rfl⟩
    · simp [h]
    · have : (K.map (wOf q)).contains (wOf q f) = true := cont (List.mem_map.2 ⟨f, hf, rfl⟩)
      rw [this]
      simp
  rw [this]
theorem suit_less {i : Nat} {f : Int × List Int} (hi : K[i]? = some f) : suitF K ((wantsF q 0 K).filter fun w => w.1 != f.1) = (f.1, 23) := by
  have rK : rightF K = true := rightF_iff.2 ⟨rightStep_more (by omega) hK, by omega⟩
  have hl := wantsF_len q K 0
  have hfl : ((wantsF q 0 K).filter fun w => w.1 != f.1).length ≤ (wantsF q 0 K).length := List.length_filter_le _ _
  have rW := rW_of (rightWS_filter (fun w => w.1 != f.1) (wantsF_right q hq (by omega) (by omega) hK)) (by omega)
  have hsplit : K = K.take i ++ f :: K.drop (i + 1) := by rw [← drop_cons hi, List.take_append_drop]
  have hne := tags_ne hK hi
  have hg := suitG_good ((wantsF q 0 K).filter fun w => w.1 != f.1) (wOf q) (K.take i) (f :: K.drop (i + 1)) [] fun g hg => ⟨by
    have hgK := List.mem_of_mem_take hg
    rw [List.find?_filter, ← wantsF_find q hK hgK]
    refine find_congr fun w _ => ?_
    by_cases hw : w.1 = g.1
    · have := hne g hg
      simp [hw, this]
    · simp [hw], (wOf_ok q hq g).2.1, (wOf_ok q hq g).2.2.1⟩
  rw [← hsplit] at hg
  have hnone : ((wantsF q 0 K).filter fun w => w.1 != f.1).find? (fun w => w.1 == f.1) = none := by
    rw [List.find?_eq_none]
    intro w hw
    have := (List.mem_filter.1 hw).2
    simpa using this
  rw [suitG, hnone] at hg
  rw [suitF, if_pos rK, if_pos rW, hg, if_neg (by simp)]
theorem suit_tight {i : Nat} {f : Int × List Int} (hi : K[i]? = some f) : suitF K ((wantsF q 0 K).map (tightW f.1 f.2.length q)) = (f.1, 24) := by
  have rK : rightF K = true := rightF_iff.2 ⟨rightStep_more (by omega) hK, by omega⟩
  have hl := wantsF_len q K 0
  have hfr := right_at hK f (List.mem_of_getElem? hi)
  have rW := rW_of (rightWS_map (tightW f.1 f.2.length q) (fun w => by
    unfold tightW
    split
    · exact ⟨rfl, .inr (by simp only; omega)⟩
    · exact ⟨rfl, .inl rfl⟩) (wantsF_right q hq (by omega) (by omega) hK)) (by simp; omega)
  have hsplit : K = K.take i ++ f :: K.drop (i + 1) := by rw [← drop_cons hi, List.take_append_drop]
  have hne := tags_ne hK hi
  have htag : ∀ w, (tightW f.1 f.2.length q w).1 = w.1 := fun w => by unfold tightW; split <;> rfl
  have hfind : ∀ g ∈ K, ((wantsF q 0 K).map (tightW f.1 f.2.length q)).find? (fun w => w.1 == g.1) = some (tightW f.1 f.2.length q (wOf q g)) := fun g hg => by
    rw [find_map]
    simp only [htag]
    rw [wantsF_find q hK hg]; rfl
  have hg := suitG_good ((wantsF q 0 K).map (tightW f.1 f.2.length q)) (wOf q) (K.take i) (f :: K.drop (i + 1)) [] fun g hg => ⟨by
    rw [hfind g (List.mem_of_mem_take hg)]
    have h1 : (wOf q g).1 = g.1 := rfl
    rw [tightW, if_neg (by rw [h1]; exact hne g hg)], (wOf_ok q hq g).2.1, (wOf_ok q hq g).2.2.1⟩
  rw [← hsplit] at hg
  have h1 : tightW f.1 f.2.length q (wOf q f) = (f.1, (wOf q f).2.1, (f.2.length : Int) + 1, (f.2.length : Int) + 1 + q) := by
    rw [tightW, if_pos (show (wOf q f).1 = f.1 from rfl)]; rfl
  rw [suitG, hfind f (List.mem_of_getElem? hi), h1] at hg
  simp only at hg
  rw [if_pos (.inl (by omega))] at hg
  rw [suitF, if_pos rK, if_pos rW, hg, if_neg (by simp)]
theorem suit_without {i : Nat} {f : Int × List Int} (hi : K[i]? = some f) : suitF (K.filter fun x => x.1 != f.1) ((wantsF q 0 K).map (withoutW f.1 f.2.length q)) = (f.1, 25) := by
  have hfl : (K.filter fun x => x.1 != f.1).length ≤ K.length := List.length_filter_le _ _
  have rK : rightF (K.filter fun x => x.1 != f.1) = true := rightF_iff.2 ⟨rightStep_filter _ (rightStep_more (by omega) hK), by omega⟩
  have hl := wantsF_len q K 0
  have hfr := right_at hK f (List.mem_of_getElem? hi)
  have rW := rW_of (rightWS_map (withoutW f.1 f.2.length q) (fun w => by
    unfold withoutW
    split
    · exact ⟨rfl, .inr (by simp only; omega)⟩
    · exact ⟨rfl, .inl rfl⟩) (wantsF_right q hq (by omega) (by omega) hK)) (by simp; omega)
  have htag : ∀ w, (withoutW f.1 f.2.length q w).1 = w.1 := fun w => by unfold withoutW; split <;> rfl
  have hg := suitG_good ((wantsF q 0 K).map (withoutW f.1 f.2.length q)) (wOf q) (K.filter fun x => x.1 != f.1) [] [] fun g hg => ⟨by
    obtain ⟨hgK, hgn⟩ := List.mem_filter.1 hg
    have hgn : g.1 ≠ f.1 := by simpa using hgn
    rw [find_map]
    simp only [htag]
    rw [wantsF_find q hK hgK]
    have h1 : (wOf q g).1 = g.1 := rfl
    rw [Option.map_some, withoutW, if_neg (by rw [h1]; exact hgn)], (wOf_ok q hq g).2.1, (wOf_ok q hq g).2.2.1⟩
  rw [List.append_nil, List.nil_append] at hg
  rw [suitF, if_pos rK, if_pos rW, hg, suitG, if_pos rfl, suitM_find]
  have hm : (((wantsF q 0 K).map (withoutW f.1 f.2.length q)).find? fun w => w.2.1 && !((K.filter fun x => x.1 != f.1).map (wOf q)).contains w) = some (withoutW f.1 f.2.length q (wOf q f)) := by
    rw [find_map]
    have : ((wantsF q 0 K).find? fun w => (withoutW f.1 f.2.length q w).2.1 && !((K.filter fun x => x.1 != f.1).map (wOf q)).contains (withoutW f.1 f.2.length q w)) = (wantsF q 0 K).find? fun w => w.1 == f.1 := by
      refine find_congr fun w hw => ?_
      by_cases hwt : w.1 = f.1
      · have h1 : withoutW f.1 f.2.length q w = (w.1, true, (f.2.length : Int) + 1, (f.2.length : Int) + 1 + q) := by rw [withoutW, if_pos hwt]
        have h2 : ((K.filter fun x => x.1 != f.1).map (wOf q)).contains (withoutW f.1 f.2.length q w) = false := by
          rw [Bool.eq_false_iff]
          intro hc
          have hc : withoutW f.1 f.2.length q w ∈ (K.filter fun x => x.1 != f.1).map (wOf q) := by simpa using hc
          obtain ⟨g, hg, he⟩ := List.mem_map.1 hc
          have hgn : g.1 ≠ f.1 := by simpa using (List.mem_filter.1 hg).2
          have := congrArg (fun w : Wnt => w.1) he
          rw [h1] at this
          exact hgn (this.trans hwt)
        rw [h2, h1, hwt]
        simp
      · have h1 : withoutW f.1 f.2.length q w = w := by rw [withoutW, if_neg hwt]
        rw [h1]
        have hr : (w.1 == f.1) = false := by simpa using hwt
        rw [hr]
        rcases wantsF_mem q hw with h | ⟨g, hgK, rfl⟩
        · rw [h]; rfl
        · have hgn : g.1 ≠ f.1 := hwt
          have : ((K.filter fun x => x.1 != f.1).map (wOf q)).contains (wOf q g) = true := cont (List.mem_map.2 ⟨g, List.mem_filter.2 ⟨hgK, by simpa using hgn⟩, rfl⟩)
          rw [this]; simp
    rw [this, wantsF_find q hK (List.mem_of_getElem? hi)]; rfl
  rw [hm]
  simp only [htag]
  rfl
end
open Go Go.Proofs Go.SE Go.RowKit
set_option linter.unusedVariables false
theorem rightWS_ok : ∀ {ws : List Wnt} {last : Int}, 0 ≤ last → rightWS last ws = true → ∀ w ∈ ws, okW w
  | [], _, _, _, w, hw => by cases hw
  | v :: r, last, h0, h, w, hw => by
    rw [rightWS] at h
    split at h
    · cases h
    · rename_i hc
      rcases List.mem_cons.1 hw with rfl | hw
      · unfold okW; omega
      · exact rightWS_ok (by omega) h w hw
theorem wnt_row {I : Mem} {a : Option Addr} {cp m : Nat} {xs : List Value} {ws : List Wnt} (hrow : RowM I a cp 4 xs) (hx : xs = ws.flatMap wc) (hm : m = xs.length / 4) (hok : ∀ w ∈ ws, okW w) : WntM I a m ws := by
  have hl := wc_len ws
  rw [← hx] at hl
  have : m = ws.length := by omega
  subst this
  subst hx
  exact ⟨hrow.sl (by omega) (wc_len ws), hok⟩
theorem dup3 {Q : Prop} (h : Q) : (Q ∧ Q) ∧ Q := ⟨⟨h, h⟩, h⟩
set_option maxHeartbeats 4000000 in
theorem ct3 (I : Mem) (a1 : Option Addr) (n1 c1 : Nat) (g1 : List Int) (sl1 : SlM I a1 n1 1 (ints .u8 g1)) (hc1 : n1 ≤ c1) (hm1 : c1 ≤ maxLen) (hz1 : ∀ z ∈ g1, 0 ≤ z ∧ z ≤ 255)
    (a3 : Option Addr) (n3 c3 : Nat) (ts : List (List Int)) (tx : TxM I a3 n3 ts) (hc3 : n3 ≤ c3) (hm3 : c3 ≤ maxLen) (p : Int) (hp : 0 ≤ p ∧ p ≤ 255) (q : Int) (hq : 0 ≤ q ∧ q ≤ 255) :
    Ct Try.prog (fnv 3) #[.slice a1 n1 c1, .slice a3 n3 c3, .int .u8 p, .int .u8 q] I (fun v _ => v = .bool true) := by
  refine viaR (ct_via (A := { loops := [(7, ⟨[(2, .keep), (3, .keep), (9, .keep), (10, .row 0), (11, .sh (.int .i64)), (38, .keep), (39, .keep), (40, .sh (.int .i64))], [(0, .row)], [(10, 4, 31)], fun vals xss _ _ => match vals, xss with | [.int .i64 last, .int .i64 j], [xs] => 0 ≤ j ∧ j ≤ (madeV g1 ts).length ∧ 0 ≤ last ∧ last ≤ 200 ∧ ∃ V, xs = V.flatMap wc ∧ wantsF q 0 (madeV g1 ts) = V ++ wantsF q last ((madeV g1 ts).drop j.toNat) ∧ (V.length : Int) ≤ 2 * j | _, _ => False, fun vals _ => match vals with | [_, .int .i64 j] => ((madeV g1 ts).length - j).toNat | _ => 0⟩), (23, ⟨[(3, .keep), (9, .keep), (18, .keep), (19, .row 2), (20, .row 3), (21, .row 4), (145, .keep), (146, .keep), (147, .sh (.int .i64))], [(1, .keep), (2, .row), (3, .row), (4, .row)], [(19, 4, 31), (20, 4, 31), (21, 4, 31)], fun vals xss _ _ => match vals, xss with | [.int .i64 j], [xs, ys, zs] => 0 ≤ j ∧ j ≤ (wantsF q 0 (madeV g1 ts)).length ∧ ∃ f, (madeV g1 ts)[(p.tmod (madeV g1 ts).length).toNat]? = some f ∧ xs = (((wantsF q 0 (madeV g1 ts)).take j.toNat).filter fun w => w.1 != f.1).flatMap wc ∧ ys = (((wantsF q 0 (madeV g1 ts)).take j.toNat).map (tightW f.1 f.2.length q)).flatMap wc ∧ zs = (((wantsF q 0 (madeV g1 ts)).take j.toNat).map (withoutW f.1 f.2.length q)).flatMap wc | _, _ => False, fun vals _ => match vals with | [.int .i64 j] => ((wantsF q 0 (madeV g1 ts)).length - j).toNat | _ => 0⟩), (35, ⟨[(9, .keep), (18, .keep), (19, .keep), (20, .keep), (21, .keep), (24, .row 5), (191, .keep), (192, .keep), (193, .sh (.int .i64))], [(1, .keep), (2, .keep), (3, .keep), (4, .keep), (5, .row)], [(24, 2, 29)], fun vals xss I' _ => match vals, xss with | [.int .i64 j], [xs] => 0 ≤ j ∧ j ≤ (madeV g1 ts).length ∧ ∃ f, (madeV g1 ts)[(p.tmod (madeV g1 ts).length).toNat]? = some f ∧ FR I' xs (((madeV g1 ts).take j.toNat).filter fun x => x.1 != f.1) | _, _ => False, fun vals _ => match vals with | [.int .i64 j] => ((madeV g1 ts).length - j).toNat | _ => 0⟩)] }) Try.func3 rfl Try.call3 rfl rfl) (Ct Try.prog (Value.func (Fn.func (12 : Nat)) #[] #[]) #[] I fun (v : Value) (I' : Mem) => ∃ (b : Bool), v = Value.bool b ∧ Br (!b) (Value.bool false = Value.bool true) (Ct Try.prog (Value.func (Fn.func (13 : Nat)) #[] #[]) #[Value.slice a1 n1 c1, Value.slice a3 n3 c3] I' fun (v : Value) (I' : Mem) => ∃ (a : Option Addr), ∃ (n : Nat), ∃ (c : Nat), v = Value.slice a n c ∧ (SV.v (Value.int IntKind.u8 p) = SV.v (Value.int IntKind.u8 p) ∧ SV.v (Value.int IntKind.u8 q) = SV.v (Value.int IntKind.u8 q) ∧ SV.v (Value.slice a n c) = SV.v (Value.slice a n c) ∧ (0 : Nat) = (0 : Nat) ∧ SV.v (Value.slice a n c) = SV.v (Value.slice a n c) ∧ SV.v (Value.int IntKind.i64 (↑n : Int)) = SV.v (Value.int IntKind.i64 (↑n : Int)) ∧ (0 : Int) ≤ (0 : Int) ∧ (0 : Int) ≤ (↑(List.length (madeV g1 ts)) : Int) ∧ (0 : Int) ≤ (0 : Int) ∧ (0 : Int) ≤ (200 : Int) ∧ ∃ (V : List Wnt), [] = List.flatMap (fun (w : Wnt) => [Value.int IntKind.i64 (Prod.fst w), Value.bool (Prod.fst (Prod.snd w)), Value.int IntKind.i64 (Prod.fst (Prod.snd (Prod.snd w))), Value.int IntKind.i64 (Prod.snd (Prod.snd (Prod.snd w)))]) V ∧ wantsF q (0 : Int) (madeV g1 ts) = V ++ wantsF q (0 : Int) (List.drop (0 : Nat) (madeV g1 ts)) ∧ (↑(List.length V) : Int) ≤ (0 : Int)) ∧ ∀ (I'_1 G' : Mem), Mem.le I' I'_1 → ∀ (xs : List Value) (n_1 n_2 : Int), ((0 : Int) ≤ n_2 ∧ n_2 ≤ (↑(List.length (madeV g1 ts)) : Int) ∧ (0 : Int) ≤ n_1 ∧ n_1 ≤ (200 : Int) ∧ ∃ (V : List Wnt), xs = List.flatMap (fun (w : Wnt) => [Value.int IntKind.i64 (Prod.fst w), Value.bool (Prod.fst (Prod.snd w)), Value.int IntKind.i64 (Prod.fst (Prod.snd (Prod.snd w))), Value.int IntKind.i64 (Prod.snd (Prod.snd (Prod.snd w)))]) V ∧ wantsF q (0 : Int) (madeV g1 ts) = V ++ wantsF q n_1 (List.drop (Int.toNat n_2) (madeV g1 ts)) ∧ (↑(List.length V) : Int) ≤ (2 : Int) * n_2) → Br (decide (n_2 < (↑n : Int))) ((0 : Int) ≤ n_2 ∧ n_2 < (↑n : Int) ∧ Option.isSome a = true ∧ (2 : Nat) = (2 : Nat) ∧ ∃ (n_3 : Int), atI I'_1 a (Int.toNat n_2 * (2 : Nat) + (0 : Nat)) = some (Value.int IntKind.i64 n_3) ∧ ∃ (a_3 : Option Addr), ∃ (n_4 : Nat), ∃ (c_1 : Nat), atI I'_1 a (Int.toNat n_2 * (2 : Nat) + (1 : Nat)) = some (Value.slice a_3 n_4 c_1) ∧ Wr IntKind.i64 (n_1 + (1 : Int)) fun (c_2 : Int) => Br (decide (c_2 < n_3)) (Wr IntKind.i64 (n_1 + (1 : Int)) fun (c_3 : Int) => List.length xs = List.length xs / (4 : Nat) * (4 : Nat) ∧ List.length xs / (4 : Nat) + (1 : Nat) ≤ (9223372036854775807 : Nat) ∧ (List.length xs / (4 : Nat) + (1 : Nat)) * (32 : Nat) ≤ (140737488355328 : Nat) ∧ (2 : Int) ≠ (0 : Int) ∧ Wr IntKind.i64 q fun (c_4 : Int) => (10 : Int) ≠ (0 : Int) ∧ Wr IntKind.i64 ((↑n_4 : Int) - bif false then imax (Int.tmod c_4 (10 : Int)) (↑n_4 : Int) else imin (Int.tmod c_4 (10 : Int)) (↑n_4 : Int)) fun (c_5 : Int) => Wr IntKind.i64 q fun (c_6 : Int) => (7 : Int) ≠ (0 : Int) ∧ Wr IntKind.i64 ((↑n_4 : Int) + Int.tmod c_6 (7 : Int)) fun (c_7 : Int) => List.length (xs ++ [Value.int IntKind.i64 c_3, Value.bool false, Value.int IntKind.i64 (0 : Int), Value.int IntKind.i64 (5 : Int)]) = (List.length xs / (4 : Nat) + (1 : Nat)) * (4 : Nat) ∧ List.length xs / (4 : Nat) + (1 : Nat) + (1 : Nat) ≤ (9223372036854775807 : Nat) ∧ (List.length xs / (4 : Nat) + (1 : Nat) + (1 : Nat)) * (32 : Nat) ≤ (140737488355328 : Nat) ∧ Wr IntKind.i64 (n_2 + (1 : Int)) fun (c_8 : Int) => SV.v (Value.int IntKind.u8 p) = SV.v (Value.int IntKind.u8 p) ∧ SV.v (Value.int IntKind.u8 q) = SV.v (Value.int IntKind.u8 q) ∧ SV.v (Value.slice a n c) = SV.v (Value.slice a n c) ∧ List.length xs / (4 : Nat) + (1 : Nat) + (1 : Nat) = List.length (xs ++ [Value.int IntKind.i64 c_3, Value.bool false, Value.int IntKind.i64 (0 : Int), Value.int IntKind.i64 (5 : Int)] ++ [Value.int IntKind.i64 n_3, Value.bool (Int.tmod q (2 : Int) == (0 : Int)), Value.int IntKind.i64 c_5, Value.int IntKind.i64 c_7]) / (4 : Nat) ∧ SV.v (Value.slice a n c) = SV.v (Value.slice a n c) ∧ SV.v (Value.int IntKind.i64 (↑n : Int)) = SV.v (Value.int IntKind.i64 (↑n : Int)) ∧ ((0 : Int) ≤ c_8 ∧ c_8 ≤ (↑(List.length (madeV g1 ts)) : Int) ∧ (0 : Int) ≤ n_3 ∧ n_3 ≤ (200 : Int) ∧ ∃ (V : List Wnt), xs ++ [Value.int IntKind.i64 c_3, Value.bool false, Value.int IntKind.i64 (0 : Int), Value.int IntKind.i64 (5 : Int)] ++ [Value.int IntKind.i64 n_3, Value.bool (Int.tmod q (2 : Int) == (0 : Int)), Value.int IntKind.i64 c_5, Value.int IntKind.i64 c_7] = List.flatMap (fun (w : Wnt) => [Value.int IntKind.i64 (Prod.fst w), Value.bool (Prod.fst (Prod.snd w)), Value.int IntKind.i64 (Prod.fst (Prod.snd (Prod.snd w))), Value.int IntKind.i64 (Prod.snd (Prod.snd (Prod.snd w)))]) V ∧ wantsF q (0 : Int) (madeV g1 ts) = V ++ wantsF q n_3 (List.drop (Int.toNat c_8) (madeV g1 ts)) ∧ (↑(List.length V) : Int) ≤ (2 : Int) * c_8) ∧ Int.toNat ((↑(List.length (madeV g1 ts)) : Int) - c_8) < Int.toNat ((↑(List.length (madeV g1 ts)) : Int) - n_2)) ((2 : Int) ≠ (0 : Int) ∧ Wr IntKind.i64 q fun (c_3 : Int) => (10 : Int) ≠ (0 : Int) ∧ Wr IntKind.i64 ((↑n_4 : Int) - bif false then imax (Int.tmod c_3 (10 : Int)) (↑n_4 : Int) else imin (Int.tmod c_3 (10 : Int)) (↑n_4 : Int)) fun (c_4 : Int) => Wr IntKind.i64 q fun (c_5 : Int) => (7 : Int) ≠ (0 : Int) ∧ Wr IntKind.i64 ((↑n_4 : Int) + Int.tmod c_5 (7 : Int)) fun (c_6 : Int) => List.length xs = List.length xs / (4 : Nat) * (4 : Nat) ∧ List.length xs / (4 : Nat) + (1 : Nat) ≤ (9223372036854775807 : Nat) ∧ (List.length xs / (4 : Nat) + (1 : Nat)) * (32 : Nat) ≤ (140737488355328 : Nat) ∧ Wr IntKind.i64 (n_2 + (1 : Int)) fun (c_7 : Int) => SV.v (Value.int IntKind.u8 p) = SV.v (Value.int IntKind.u8 p) ∧ SV.v (Value.int IntKind.u8 q) = SV.v (Value.int IntKind.u8 q) ∧ SV.v (Value.slice a n c) = SV.v (Value.slice a n c) ∧ List.length xs / (4 : Nat) + (1 : Nat) = List.length (xs ++ [Value.int IntKind.i64 n_3, Value.bool (Int.tmod q (2 : Int) == (0 : Int)), Value.int IntKind.i64 c_4, Value.int IntKind.i64 c_6]) / (4 : Nat) ∧ SV.v (Value.slice a n c) = SV.v (Value.slice a n c) ∧ SV.v (Value.int IntKind.i64 (↑n : Int)) = SV.v (Value.int IntKind.i64 (↑n : Int)) ∧ ((0 : Int) ≤ c_7 ∧ c_7 ≤ (↑(List.length (madeV g1 ts)) : Int) ∧ (0 : Int) ≤ n_3 ∧ n_3 ≤ (200 : Int) ∧ ∃ (V : List Wnt), xs ++ [Value.int IntKind.i64 n_3, Value.bool (Int.tmod q (2 : Int) == (0 : Int)), Value.int IntKind.i64 c_4, Value.int IntKind.i64 c_6] = List.flatMap (fun (w : Wnt) => [Value.int IntKind.i64 (Prod.fst w), Value.bool (Prod.fst (Prod.snd w)), Value.int IntKind.i64 (Prod.fst (Prod.snd (Prod.snd w))), Value.int IntKind.i64 (Prod.snd (Prod.snd (Prod.snd w)))]) V ∧ wantsF q (0 : Int) (madeV g1 ts) = V ++ wantsF q n_3 (List.drop (Int.toNat c_7) (madeV g1 ts)) ∧ (↑(List.length V) : Int) ≤ (2 : Int) * c_7) ∧ Int.toNat ((↑(List.length (madeV g1 ts)) : Int) - c_7) < Int.toNat ((↑(List.length (madeV g1 ts)) : Int) - n_2))) (∀ (a_3 : Option Addr) (cp : Nat) (I' : Mem), Mem.le I'_1 I' → RowM I' a_3 cp (4 : Nat) xs → Ct Try.prog (Value.func (Fn.func (14 : Nat)) #[] #[]) #[Value.slice a n c, Value.slice a_3 (List.length xs / (4 : Nat)) cp] I' fun (v : Value) (I' : Mem) => ∃ (n_3 : Int), ∃ (n_4 : Int), v = Value.tuple #[Value.int IntKind.i64 n_3, Value.int IntKind.i64 n_4] ∧ Br (n_3 != (0 : Int)) (Value.bool false = Value.bool true) (Br (n_4 != (0 : Int)) (Value.bool false = Value.bool true) (Br ((↑n : Int) == (0 : Int)) (Wr IntKind.i64 p fun (c_1 : Int) => Wr IntKind.i64 ((1 : Int) + c_1) fun (c_2 : Int) => ∀ (b : Nat) (I'_2 : Mem), Mem.le I' I'_2 → I'_2 b = some (Obj.cells #[Value.int IntKind.i64 c_2, Value.bool (decide (p < (200 : Int))), Value.int IntKind.i64 (0 : Int), Value.int IntKind.i64 (0 : Int)] (31 : Nat)) → Ct Try.prog (Value.func (Fn.func (14 : Nat)) #[] #[]) #[Value.slice a n c, Value.slice (some (Addr.mk b (0 : Nat) none)) (1 : Nat) (1 : Nat)] I'_2 fun (v : Value) (I' : Mem) => ∃ (n : Int), ∃ (n_5 : Int), v = Value.tuple #[Value.int IntKind.i64 n, Value.int IntKind.i64 n_5] ∧ Br (decide ((200 : Int) ≤ p)) (Br (n == (0 : Int)) (Br (n_5 == (22 : Int)) (Value.bool true = Value.bool true) (Br (decide (p < (200 : Int))) (Wr IntKind.i64 p fun (c : Int) => Wr IntKind.i64 ((1 : Int) + c) fun (c : Int) => Br (n == c) (Value.bool (n_5 == (25 : Int)) = Value.bool true) (Value.bool false = Value.bool true)) (Value.bool false = Value.bool true))) (Br (decide (p < (200 : Int))) (Wr IntKind.i64 p fun (c : Int) => Wr IntKind.i64 ((1 : Int) + c) fun (c : Int) => Br (n == c) (Value.bool (n_5 == (25 : Int)) = Value.bool true) (Value.bool false = Value.bool true)) (Value.bool false = Value.bool true))) (Br (decide (p < (200 : Int))) (Wr IntKind.i64 p fun (c : Int) => Wr IntKind.i64 ((1 : Int) + c) fun (c : Int) => Br (n == c) (Value.bool (n_5 == (25 : Int)) = Value.bool true) (Value.bool false = Value.bool true)) (Value.bool false = Value.bool true))) (Wr IntKind.i64 p fun (c_1 : Int) => (↑n : Int) ≠ (0 : Int) ∧ (0 : Int) ≤ Int.tmod c_1 (↑n : Int) ∧ Int.tmod c_1 (↑n : Int) < (↑n : Int) ∧ Option.isSome a = true ∧ (2 : Nat) = (2 : Nat) ∧ ∃ (n_5 : Int), atI I' a (Int.toNat (Int.tmod c_1 (↑n : Int)) * (2 : Nat) + (0 : Nat)) = some (Value.int IntKind.i64 n_5) ∧ ∃ (a_6 : Option Addr), ∃ (n_6 : Nat), ∃ (c_2 : Nat), atI I' a (Int.toNat (Int.tmod c_1 (↑n : Int)) * (2 : Nat) + (1 : Nat)) = some (Value.slice a_6 n_6 c_2) ∧ (Ent.mk (EO.cells [SV.v (Value.int IntKind.i64 n_5), SV.v (Value.slice a_6 n_6 c_2)] (29 : Nat)) none = Ent.mk (EO.cells [SV.v (Value.int IntKind.i64 n_5), SV.v (Value.slice a_6 n_6 c_2)] (29 : Nat)) none ∧ SV.v (Value.int IntKind.u8 q) = SV.v (Value.int IntKind.u8 q) ∧ SV.v (Value.slice a n c) = SV.v (Value.slice a n c) ∧ SV.ptr (1 : Nat) (0 : Nat) = SV.ptr (1 : Nat) (0 : Nat) ∧ (0 : Nat) = (0 : Nat) ∧ (0 : Nat) = (0 : Nat) ∧ (0 : Nat) = (0 : Nat) ∧ SV.v (Value.slice a_3 (List.length xs / (4 : Nat)) cp) = SV.v (Value.slice a_3 (List.length xs / (4 : Nat)) cp) ∧ SV.v (Value.int IntKind.i64 (↑(List.length xs / (4 : Nat)) : Int)) = SV.v (Value.int IntKind.i64 (↑(List.length xs / (4 : Nat)) : Int)) ∧ (0 : Int) ≤ (0 : Int) ∧ (0 : Int) ≤ (↑(List.length (wantsF q (0 : Int) (madeV g1 ts))) : Int) ∧ ∃ (f : Int × List Int), (madeV g1 ts)[Int.toNat (Int.tmod p (↑(List.length (madeV g1 ts)) : Int))]? = some f ∧ ([] : List Value) = [] ∧ ([] : List Value) = [] ∧ ([] : List Value) = []) ∧ ∀ (I'_2 G' : Mem), Mem.le I' I'_2 → ∀ (xs_1 xs_2 xs_3 : List Value) (n_7 : Int), ((0 : Int) ≤ n_7 ∧ n_7 ≤ (↑(List.length (wantsF q (0 : Int) (madeV g1 ts))) : Int) ∧ ∃ (f : Int × List Int), (madeV g1 ts)[Int.toNat (Int.tmod p (↑(List.length (madeV g1 ts)) : Int))]? = some f ∧ xs_1 = List.flatMap (fun (w : Wnt) => [Value.int IntKind.i64 (Prod.fst w), Value.bool (Prod.fst (Prod.snd w)), Value.int IntKind.i64 (Prod.fst (Prod.snd (Prod.snd w))), Value.int IntKind.i64 (Prod.snd (Prod.snd (Prod.snd w)))]) (List.filter (fun (w : Wnt) => Prod.fst w != Prod.fst f) (List.take (Int.toNat n_7) (wantsF q (0 : Int) (madeV g1 ts)))) ∧ xs_2 = List.flatMap (fun (w : Wnt) => [Value.int IntKind.i64 (Prod.fst w), Value.bool (Prod.fst (Prod.snd w)), Value.int IntKind.i64 (Prod.fst (Prod.snd (Prod.snd w))), Value.int IntKind.i64 (Prod.snd (Prod.snd (Prod.snd w)))]) (List.map (fun (w : Wnt) => if Prod.fst w = Prod.fst f then (Prod.fst w, Prod.fst (Prod.snd w), (↑(List.length (Prod.snd f)) : Int) + (1 : Int), (↑(List.length (Prod.snd f)) : Int) + (1 : Int) + q) else w) (List.take (Int.toNat n_7) (wantsF q (0 : Int) (madeV g1 ts)))) ∧ xs_3 = List.flatMap (fun (w : Wnt) => [Value.int IntKind.i64 (Prod.fst w), Value.bool (Prod.fst (Prod.snd w)), Value.int IntKind.i64 (Prod.fst (Prod.snd (Prod.snd w))), Value.int IntKind.i64 (Prod.snd (Prod.snd (Prod.snd w)))]) (List.map (fun (w : Wnt) => if Prod.fst w = Prod.fst f then (Prod.fst w, true, (↑(List.length (Prod.snd f)) : Int) + (1 : Int), (↑(List.length (Prod.snd f)) : Int) + (1 : Int) + q) else w) (List.take (Int.toNat n_7) (wantsF q (0 : Int) (madeV g1 ts))))) → Br (decide (n_7 < (↑(List.length xs / (4 : Nat)) : Int))) ((0 : Int) ≤ n_7 ∧ n_7 < (↑(List.length xs / (4 : Nat)) : Int) ∧ Option.isSome a_3 = true ∧ (4 : Nat) = (4 : Nat) ∧ ∃ (n_8 : Int), atI I'_2 a_3 (Int.toNat n_7 * (4 : Nat) + (0 : Nat)) = some (Value.int IntKind.i64 n_8) ∧ ∃ (b : Bool), atI I'_2 a_3 (Int.toNat n_7 * (4 : Nat) + (1 : Nat)) = some (Value.bool b) ∧ ∃ (n_9 : Int), atI I'_2 a_3 (Int.toNat n_7 * (4 : Nat) + (2 : Nat)) = some (Value.int IntKind.i64 n_9) ∧ ∃ (n_10 : Int), atI I'_2 a_3 (Int.toNat n_7 * (4 : Nat) + (3 : Nat)) = some (Value.int IntKind.i64 n_10) ∧ Br (n_8 != n_5) (((List.length xs_1 = List.length xs_1 / (4 : Nat) * (4 : Nat) ∧ List.length xs_1 / (4 : Nat) + (1 : Nat) ≤ (9223372036854775807 : Nat) ∧ (List.length xs_1 / (4 : Nat) + (1 : Nat)) * (32 : Nat) ≤ (140737488355328 : Nat) ∧ List.length xs_2 = List.length xs_2 / (4 : Nat) * (4 : Nat) ∧ List.length xs_2 / (4 : Nat) + (1 : Nat) ≤ (9223372036854775807 : Nat) ∧ (List.length xs_2 / (4 : Nat) + (1 : Nat)) * (32 : Nat) ≤ (140737488355328 : Nat) ∧ List.length xs_3 = List.length xs_3 / (4 : Nat) * (4 : Nat) ∧ List.length xs_3 / (4 : Nat) + (1 : Nat) ≤ (9223372036854775807 : Nat) ∧ (List.length xs_3 / (4 : Nat) + (1 : Nat)) * (32 : Nat) ≤ (140737488355328 : Nat) ∧ Wr IntKind.i64 (n_7 + (1 : Int)) fun (c_3 : Int) => Ent.mk (EO.cells [SV.v (Value.int IntKind.i64 n_5), SV.v (Value.slice a_6 n_6 c_2)] (29 : Nat)) none = Ent.mk (EO.cells [SV.v (Value.int IntKind.i64 n_5), SV.v (Value.slice a_6 n_6 c_2)] (29 : Nat)) none ∧ SV.v (Value.int IntKind.u8 q) = SV.v (Value.int IntKind.u8 q) ∧ SV.v (Value.slice a n c) = SV.v (Value.slice a n c) ∧ SV.ptr (1 : Nat) (0 : Nat) = SV.ptr (1 : Nat) (0 : Nat) ∧ List.length xs_1 / (4 : Nat) + (1 : Nat) = List.length (xs_1 ++ [Value.int IntKind.i64 n_8, Value.bool b, Value.int IntKind.i64 n_9, Value.int IntKind.i64 n_10]) / (4 : Nat) ∧ List.length xs_2 / (4 : Nat) + (1 : Nat) = List.length (xs_2 ++ [Value.int IntKind.i64 n_8, Value.bool b, Value.int IntKind.i64 n_9, Value.int IntKind.i64 n_10]) / (4 : Nat) ∧ List.length xs_3 / (4 : Nat) + (1 : Nat) = List.length (xs_3 ++ [Value.int IntKind.i64 n_8, Value.bool b, Value.int IntKind.i64 n_9, Value.int IntKind.i64 n_10]) / (4 : Nat) ∧ SV.v (Value.slice a_3 (List.length xs / (4 : Nat)) cp) = SV.v (Value.slice a_3 (List.length xs / (4 : Nat)) cp) ∧ SV.v (Value.int IntKind.i64 (↑(List.length xs / (4 : Nat)) : Int)) = SV.v (Value.int IntKind.i64 (↑(List.length xs / (4 : Nat)) : Int)) ∧ ((0 : Int) ≤ c_3 ∧ c_3 ≤ (↑(List.length (wantsF q (0 : Int) (madeV g1 ts))) : Int) ∧ ∃ (f : Int × List Int), (madeV g1 ts)[Int.toNat (Int.tmod p (↑(List.length (madeV g1 ts)) : Int))]? = some f ∧ xs_1 ++ [Value.int IntKind.i64 n_8, Value.bool b, Value.int IntKind.i64 n_9, Value.int IntKind.i64 n_10] = List.flatMap (fun (w : Wnt) => [Value.int IntKind.i64 (Prod.fst w), Value.bool (Prod.fst (Prod.snd w)), Value.int IntKind.i64 (Prod.fst (Prod.snd (Prod.snd w))), Value.int IntKind.i64 (Prod.snd (Prod.snd (Prod.snd w)))]) (List.filter (fun (w : Wnt) => Prod.fst w != Prod.fst f) (List.take (Int.toNat c_3) (wantsF q (0 : Int) (madeV g1 ts)))) ∧ xs_2 ++ [Value.int IntKind.i64 n_8, Value.bool b, Value.int IntKind.i64 n_9, Value.int IntKind.i64 n_10] = List.flatMap (fun (w : Wnt) => [Value.int IntKind.i64 (Prod.fst w), Value.bool (Prod.fst (Prod.snd w)), Value.int IntKind.i64 (Prod.fst (Prod.snd (Prod.snd w))), Value.int IntKind.i64 (Prod.snd (Prod.snd (Prod.snd w)))]) (List.map (fun (w : Wnt) => if Prod.fst w = Prod.fst f then (Prod.fst w, Prod.fst (Prod.snd w), (↑(List.length (Prod.snd f)) : Int) + (1 : Int), (↑(List.length (Prod.snd f)) : Int) + (1 : Int) + q) else w) (List.take (Int.toNat c_3) (wantsF q (0 : Int) (madeV g1 ts)))) ∧ xs_3 ++ [Value.int IntKind.i64 n_8, Value.bool b, Value.int IntKind.i64 n_9, Value.int IntKind.i64 n_10] = List.flatMap (fun (w : Wnt) => [Value.int IntKind.i64 (Prod.fst w), Value.bool (Prod.fst (Prod.snd w)), Value.int IntKind.i64 (Prod.fst (Prod.snd (Prod.snd w))), Value.int IntKind.i64 (Prod.snd (Prod.snd (Prod.snd w)))]) (List.map (fun (w : Wnt) => if Prod.fst w = Prod.fst f then (Prod.fst w, true, (↑(List.length (Prod.snd f)) : Int) + (1 : Int), (↑(List.length (Prod.snd f)) : Int) + (1 : Int) + q) else w) (List.take (Int.toNat c_3) (wantsF q (0 : Int) (madeV g1 ts))))) ∧ Int.toNat ((↑(List.length (wantsF q (0 : Int) (madeV g1 ts))) : Int) - c_3) < Int.toNat ((↑(List.length (wantsF q (0 : Int) (madeV g1 ts))) : Int) - n_7)) ∧ List.length xs_1 = List.length xs_1 / (4 : Nat) * (4 : Nat) ∧ List.length xs_1 / (4 : Nat) + (1 : Nat) ≤ (9223372036854775807 : Nat) ∧ (List.length xs_1 / (4 : Nat) + (1 : Nat)) * (32 : Nat) ≤ (140737488355328 : Nat) ∧ List.length xs_2 = List.length xs_2 / (4 : Nat) * (4 : Nat) ∧ List.length xs_2 / (4 : Nat) + (1 : Nat) ≤ (9223372036854775807 : Nat) ∧ (List.length xs_2 / (4 : Nat) + (1 : Nat)) * (32 : Nat) ≤ (140737488355328 : Nat) ∧ List.length xs_3 = List.length xs_3 / (4 : Nat) * (4 : Nat) ∧ List.length xs_3 / (4 : Nat) + (1 : Nat) ≤ (9223372036854775807 : Nat) ∧ (List.length xs_3 / (4 : Nat) + (1 : Nat)) * (32 : Nat) ≤ (140737488355328 : Nat) ∧ Wr IntKind.i64 (n_7 + (1 : Int)) fun (c_3 : Int) => Ent.mk (EO.cells [SV.v (Value.int IntKind.i64 n_5), SV.v (Value.slice a_6 n_6 c_2)] (29 : Nat)) none = Ent.mk (EO.cells [SV.v (Value.int IntKind.i64 n_5), SV.v (Value.slice a_6 n_6 c_2)] (29 : Nat)) none ∧ SV.v (Value.int IntKind.u8 q) = SV.v (Value.int IntKind.u8 q) ∧ SV.v (Value.slice a n c) = SV.v (Value.slice a n c) ∧ SV.ptr (1 : Nat) (0 : Nat) = SV.ptr (1 : Nat) (0 : Nat) ∧ List.length xs_1 / (4 : Nat) + (1 : Nat) = List.length (xs_1 ++ [Value.int IntKind.i64 n_8, Value.bool b, Value.int IntKind.i64 n_9, Value.int IntKind.i64 n_10]) / (4 : Nat) ∧ List.length xs_2 / (4 : Nat) + (1 : Nat) = List.length (xs_2 ++ [Value.int IntKind.i64 n_8, Value.bool b, Value.int IntKind.i64 n_9, Value.int IntKind.i64 n_10]) / (4 : Nat) ∧ List.length xs_3 / (4 : Nat) + (1 : Nat) = List.length (xs_3 ++ [Value.int IntKind.i64 n_8, Value.bool b, Value.int IntKind.i64 n_9, Value.int IntKind.i64 n_10]) / (4 : Nat) ∧ SV.v (Value.slice a_3 (List.length xs / (4 : Nat)) cp) = SV.v (Value.slice a_3 (List.length xs / (4 : Nat)) cp) ∧ SV.v (Value.int IntKind.i64 (↑(List.length xs / (4 : Nat)) : Int)) = SV.v (Value.int IntKind.i64 (↑(List.length xs / (4 : Nat)) : Int)) ∧ ((0 : Int) ≤ c_3 ∧ c_3 ≤ (↑(List.length (wantsF q (0 : Int) (madeV g1 ts))) : Int) ∧ ∃ (f : Int × List Int), (madeV g1 ts)[Int.toNat (Int.tmod p (↑(List.length (madeV g1 ts)) : Int))]? = some f ∧ xs_1 ++ [Value.int IntKind.i64 n_8, Value.bool b, Value.int IntKind.i64 n_9, Value.int IntKind.i64 n_10] = List.flatMap (fun (w : Wnt) => [Value.int IntKind.i64 (Prod.fst w), Value.bool (Prod.fst (Prod.snd w)), Value.int IntKind.i64 (Prod.fst (Prod.snd (Prod.snd w))), Value.int IntKind.i64 (Prod.snd (Prod.snd (Prod.snd w)))]) (List.filter (fun (w : Wnt) => Prod.fst w != Prod.fst f) (List.take (Int.toNat c_3) (wantsF q (0 : Int) (madeV g1 ts)))) ∧ xs_2 ++ [Value.int IntKind.i64 n_8, Value.bool b, Value.int IntKind.i64 n_9, Value.int IntKind.i64 n_10] = List.flatMap (fun (w : Wnt) => [Value.int IntKind.i64 (Prod.fst w), Value.bool (Prod.fst (Prod.snd w)), Value.int IntKind.i64 (Prod.fst (Prod.snd (Prod.snd w))), Value.int IntKind.i64 (Prod.snd (Prod.snd (Prod.snd w)))]) (List.map (fun (w : Wnt) => if Prod.fst w = Prod.fst f then (Prod.fst w, Prod.fst (Prod.snd w), (↑(List.length (Prod.snd f)) : Int) + (1 : Int), (↑(List.length (Prod.snd f)) : Int) + (1 : Int) + q) else w) (List.take (Int.toNat c_3) (wantsF q (0 : Int) (madeV g1 ts)))) ∧ xs_3 ++ [Value.int IntKind.i64 n_8, Value.bool b, Value.int IntKind.i64 n_9, Value.int IntKind.i64 n_10] = List.flatMap (fun (w : Wnt) => [Value.int IntKind.i64 (Prod.fst w), Value.bool (Prod.fst (Prod.snd w)), Value.int IntKind.i64 (Prod.fst (Prod.snd (Prod.snd w))), Value.int IntKind.i64 (Prod.snd (Prod.snd (Prod.snd w)))]) (List.map (fun (w : Wnt) => if Prod.fst w = Prod.fst f then (Prod.fst w, true, (↑(List.length (Prod.snd f)) : Int) + (1 : Int), (↑(List.length (Prod.snd f)) : Int) + (1 : Int) + q) else w) (List.take (Int.toNat c_3) (wantsF q (0 : Int) (madeV g1 ts))))) ∧ Int.toNat ((↑(List.length (wantsF q (0 : Int) (madeV g1 ts))) : Int) - c_3) < Int.toNat ((↑(List.length (wantsF q (0 : Int) (madeV g1 ts))) : Int) - n_7)) ∧ List.length xs_1 = List.length xs_1 / (4 : Nat) * (4 : Nat) ∧ List.length xs_1 / (4 : Nat) + (1 : Nat) ≤ (9223372036854775807 : Nat) ∧ (List.length xs_1 / (4 : Nat) + (1 : Nat)) * (32 : Nat) ≤ (140737488355328 : Nat) ∧ List.length xs_2 = List.length xs_2 / (4 : Nat) * (4 : Nat) ∧ List.length xs_2 / (4 : Nat) + (1 : Nat) ≤ (9223372036854775807 : Nat) ∧ (List.length xs_2 / (4 : Nat) + (1 : Nat)) * (32 : Nat) ≤ (140737488355328 : Nat) ∧ List.length xs_3 = List.length xs_3 / (4 : Nat) * (4 : Nat) ∧ List.length xs_3 / (4 : Nat) + (1 : Nat) ≤ (9223372036854775807 : Nat) ∧ (List.length xs_3 / (4 : Nat) + (1 : Nat)) * (32 : Nat) ≤ (140737488355328 : Nat) ∧ Wr IntKind.i64 (n_7 + (1 : Int)) fun (c_3 : Int) => Ent.mk (EO.cells [SV.v (Value.int IntKind.i64 n_5), SV.v (Value.slice a_6 n_6 c_2)] (29 : Nat)) none = Ent.mk (EO.cells [SV.v (Value.int IntKind.i64 n_5), SV.v (Value.slice a_6 n_6 c_2)] (29 : Nat)) none ∧ SV.v (Value.int IntKind.u8 q) = SV.v (Value.int IntKind.u8 q) ∧ SV.v (Value.slice a n c) = SV.v (Value.slice a n c) ∧ SV.ptr (1 : Nat) (0 : Nat) = SV.ptr (1 : Nat) (0 : Nat) ∧ List.length xs_1 / (4 : Nat) + (1 : Nat) = List.length (xs_1 ++ [Value.int IntKind.i64 n_8, Value.bool b, Value.int IntKind.i64 n_9, Value.int IntKind.i64 n_10]) / (4 : Nat) ∧ List.length xs_2 / (4 : Nat) + (1 : Nat) = List.length (xs_2 ++ [Value.int IntKind.i64 n_8, Value.bool b, Value.int IntKind.i64 n_9, Value.int IntKind.i64 n_10]) / (4 : Nat) ∧ List.length xs_3 / (4 : Nat) + (1 : Nat) = List.length (xs_3 ++ [Value.int IntKind.i64 n_8, Value.bool b, Value.int IntKind.i64 n_9, Value.int IntKind.i64 n_10]) / (4 : Nat) ∧ SV.v (Value.slice a_3 (List.length xs / (4 : Nat)) cp) = SV.v (Value.slice a_3 (List.length xs / (4 : Nat)) cp) ∧ SV.v (Value.int IntKind.i64 (↑(List.length xs / (4 : Nat)) : Int)) = SV.v (Value.int IntKind.i64 (↑(List.length xs / (4 : Nat)) : Int)) ∧ ((0 : Int) ≤ c_3 ∧ c_3 ≤ (↑(List.length (wantsF q (0 : Int) (madeV g1 ts))) : Int) ∧ ∃ (f : Int × List Int), (madeV g1 ts)[Int.toNat (Int.tmod p (↑(List.length (madeV g1 ts)) : Int))]? = some f ∧ xs_1 ++ [Value.int IntKind.i64 n_8, Value.bool b, Value.int IntKind.i64 n_9, Value.int IntKind.i64 n_10] = List.flatMap (fun (w : Wnt) => [Value.int IntKind.i64 (Prod.fst w), Value.bool (Prod.fst (Prod.snd w)), Value.int IntKind.i64 (Prod.fst (Prod.snd (Prod.snd w))), Value.int IntKind.i64 (Prod.snd (Prod.snd (Prod.snd w)))]) (List.filter (fun (w : Wnt) => Prod.fst w != Prod.fst f) (List.take (Int.toNat c_3) (wantsF q (0 : Int) (madeV g1 ts)))) ∧ xs_2 ++ [Value.int IntKind.i64 n_8, Value.bool b, Value.int IntKind.i64 n_9, Value.int IntKind.i64 n_10] = List.flatMap (fun (w : Wnt) => [Value.int IntKind.i64 (Prod.fst w), Value.bool (Prod.fst (Prod.snd w)), Value.int IntKind.i64 (Prod.fst (Prod.snd (Prod.snd w))), Value.int IntKind.i64 (Prod.snd (Prod.snd (Prod.snd w)))]) (List.map (fun (w : Wnt) => if Prod.fst w = Prod.fst f then (Prod.fst w, Prod.fst (Prod.snd w), (↑(List.length (Prod.snd f)) : Int) + (1 : Int), (↑(List.length (Prod.snd f)) : Int) + (1 : Int) + q) else w) (List.take (Int.toNat c_3) (wantsF q (0 : Int) (madeV g1 ts)))) ∧ xs_3 ++ [Value.int IntKind.i64 n_8, Value.bool b, Value.int IntKind.i64 n_9, Value.int IntKind.i64 n_10] = List.flatMap (fun (w : Wnt) => [Value.int IntKind.i64 (Prod.fst w), Value.bool (Prod.fst (Prod.snd w)), Value.int IntKind.i64 (Prod.fst (Prod.snd (Prod.snd w))), Value.int IntKind.i64 (Prod.snd (Prod.snd (Prod.snd w)))]) (List.map (fun (w : Wnt) => if Prod.fst w = Prod.fst f then (Prod.fst w, true, (↑(List.length (Prod.snd f)) : Int) + (1 : Int), (↑(List.length (Prod.snd f)) : Int) + (1 : Int) + q) else w) (List.take (Int.toNat c_3) (wantsF q (0 : Int) (madeV g1 ts))))) ∧ Int.toNat ((↑(List.length (wantsF q (0 : Int) (madeV g1 ts))) : Int) - c_3) < Int.toNat ((↑(List.length (wantsF q (0 : Int) (madeV g1 ts))) : Int) - n_7)) (Wr IntKind.i64 ((↑n_6 : Int) + (1 : Int)) fun (c_3 : Int) => Wr IntKind.i64 ((↑n_6 : Int) + (1 : Int)) fun (c_4 : Int) => Wr IntKind.i64 q fun (c_5 : Int) => Wr IntKind.i64 (c_4 + c_5) fun (c_6 : Int) => List.length xs_2 = List.length xs_2 / (4 : Nat) * (4 : Nat) ∧ List.length xs_2 / (4 : Nat) + (1 : Nat) ≤ (9223372036854775807 : Nat) ∧ (List.length xs_2 / (4 : Nat) + (1 : Nat)) * (32 : Nat) ≤ (140737488355328 : Nat) ∧ List.length xs_3 = List.length xs_3 / (4 : Nat) * (4 : Nat) ∧ List.length xs_3 / (4 : Nat) + (1 : Nat) ≤ (9223372036854775807 : Nat) ∧ (List.length xs_3 / (4 : Nat) + (1 : Nat)) * (32 : Nat) ≤ (140737488355328 : Nat) ∧ Wr IntKind.i64 (n_7 + (1 : Int)) fun (c_7 : Int) => Ent.mk (EO.cells [SV.v (Value.int IntKind.i64 n_5), SV.v (Value.slice a_6 n_6 c_2)] (29 : Nat)) none = Ent.mk (EO.cells [SV.v (Value.int IntKind.i64 n_5), SV.v (Value.slice a_6 n_6 c_2)] (29 : Nat)) none ∧ SV.v (Value.int IntKind.u8 q) = SV.v (Value.int IntKind.u8 q) ∧ SV.v (Value.slice a n c) = SV.v (Value.slice a n c) ∧ SV.ptr (1 : Nat) (0 : Nat) = SV.ptr (1 : Nat) (0 : Nat) ∧ List.length xs_1 / (4 : Nat) = List.length xs_1 / (4 : Nat) ∧ List.length xs_2 / (4 : Nat) + (1 : Nat) = List.length (xs_2 ++ [Value.int IntKind.i64 n_8, Value.bool b, Value.int IntKind.i64 c_3, Value.int IntKind.i64 c_6]) / (4 : Nat) ∧ List.length xs_3 / (4 : Nat) + (1 : Nat) = List.length (xs_3 ++ [Value.int IntKind.i64 n_8, Value.bool true, Value.int IntKind.i64 c_3, Value.int IntKind.i64 c_6]) / (4 : Nat) ∧ SV.v (Value.slice a_3 (List.length xs / (4 : Nat)) cp) = SV.v (Value.slice a_3 (List.length xs / (4 : Nat)) cp) ∧ SV.v (Value.int IntKind.i64 (↑(List.length xs / (4 : Nat)) : Int)) = SV.v (Value.int IntKind.i64 (↑(List.length xs / (4 : Nat)) : Int)) ∧ ((0 : Int) ≤ c_7 ∧ c_7 ≤ (↑(List.length (wantsF q (0 : Int) (madeV g1 ts))) : Int) ∧ ∃ (f : Int × List Int), (madeV g1 ts)[Int.toNat (Int.tmod p (↑(List.length (madeV g1 ts)) : Int))]? = some f ∧ xs_1 = List.flatMap (fun (w : Wnt) => [Value.int IntKind.i64 (Prod.fst w), Value.bool (Prod.fst (Prod.snd w)), Value.int IntKind.i64 (Prod.fst (Prod.snd (Prod.snd w))), Value.int IntKind.i64 (Prod.snd (Prod.snd (Prod.snd w)))]) (List.filter (fun (w : Wnt) => Prod.fst w != Prod.fst f) (List.take (Int.toNat c_7) (wantsF q (0 : Int) (madeV g1 ts)))) ∧ xs_2 ++ [Value.int IntKind.i64 n_8, Value.bool b, Value.int IntKind.i64 c_3, Value.int IntKind.i64 c_6] = List.flatMap (fun (w : Wnt) => [Value.int IntKind.i64 (Prod.fst w), Value.bool (Prod.fst (Prod.snd w)), Value.int IntKind.i64 (Prod.fst (Prod.snd (Prod.snd w))), Value.int IntKind.i64 (Prod.snd (Prod.snd (Prod.snd w)))]) (List.map (fun (w : Wnt) => if Prod.fst w = Prod.fst f then (Prod.fst w, Prod.fst (Prod.snd w), (↑(List.length (Prod.snd f)) : Int) + (1 : Int), (↑(List.length (Prod.snd f)) : Int) + (1 : Int) + q) else w) (List.take (Int.toNat c_7) (wantsF q (0 : Int) (madeV g1 ts)))) ∧ xs_3 ++ [Value.int IntKind.i64 n_8, Value.bool true, Value.int IntKind.i64 c_3, Value.int IntKind.i64 c_6] = List.flatMap (fun (w : Wnt) => [Value.int IntKind.i64 (Prod.fst w), Value.bool (Prod.fst (Prod.snd w)), Value.int IntKind.i64 (Prod.fst (Prod.snd (Prod.snd w))), Value.int IntKind.i64 (Prod.snd (Prod.snd (Prod.snd w)))]) (List.map (fun (w : Wnt) => if Prod.fst w = Prod.fst f then (Prod.fst w, true, (↑(List.length (Prod.snd f)) : Int) + (1 : Int), (↑(List.length (Prod.snd f)) : Int) + (1 : Int) + q) else w) (List.take (Int.toNat c_7) (wantsF q (0 : Int) (madeV g1 ts))))) ∧ Int.toNat ((↑(List.length (wantsF q (0 : Int) (madeV g1 ts))) : Int) - c_7) < Int.toNat ((↑(List.length (wantsF q (0 : Int) (madeV g1 ts))) : Int) - n_7))) ((Ent.mk (EO.cells [SV.v (Value.int IntKind.i64 n_5), SV.v (Value.slice a_6 n_6 c_2)] (29 : Nat)) none = Ent.mk (EO.cells [SV.v (Value.int IntKind.i64 n_5), SV.v (Value.slice a_6 n_6 c_2)] (29 : Nat)) none ∧ Ent.mk (EO.row xs_1 (4 : Nat) (31 : Nat)) none = Ent.mk (EO.row xs_1 (4 : Nat) (31 : Nat)) none ∧ Ent.mk (EO.row xs_2 (4 : Nat) (31 : Nat)) none = Ent.mk (EO.row xs_2 (4 : Nat) (31 : Nat)) none ∧ Ent.mk (EO.row xs_3 (4 : Nat) (31 : Nat)) none = Ent.mk (EO.row xs_3 (4 : Nat) (31 : Nat)) none ∧ SV.v (Value.slice a n c) = SV.v (Value.slice a n c) ∧ SV.ptr (1 : Nat) (0 : Nat) = SV.ptr (1 : Nat) (0 : Nat) ∧ SV.rsl (2 : Nat) (List.length xs_1 / (4 : Nat)) = SV.rsl (2 : Nat) (List.length xs_1 / (4 : Nat)) ∧ SV.rsl (3 : Nat) (List.length xs_2 / (4 : Nat)) = SV.rsl (3 : Nat) (List.length xs_2 / (4 : Nat)) ∧ SV.rsl (4 : Nat) (List.length xs_3 / (4 : Nat)) = SV.rsl (4 : Nat) (List.length xs_3 / (4 : Nat)) ∧ (0 : Nat) = (0 : Nat) ∧ SV.v (Value.slice a n c) = SV.v (Value.slice a n c) ∧ SV.v (Value.int IntKind.i64 (↑n : Int)) = SV.v (Value.int IntKind.i64 (↑n : Int)) ∧ (0 : Int) ≤ (0 : Int) ∧ (0 : Int) ≤ (↑(List.length (madeV g1 ts)) : Int) ∧ ∃ (f : Int × List Int), (madeV g1 ts)[Int.toNat (Int.tmod p (↑(List.length (madeV g1 ts)) : Int))]? = some f ∧ FR I'_2 [] []) ∧ ∀ (I' G' : Mem), Mem.le I'_2 I' → ∀ (xs : List Value) (n_8 : Int), ((0 : Int) ≤ n_8 ∧ n_8 ≤ (↑(List.length (madeV g1 ts)) : Int) ∧ ∃ (f : Int × List Int), (madeV g1 ts)[Int.toNat (Int.tmod p (↑(List.length (madeV g1 ts)) : Int))]? = some f ∧ FR I' xs (List.filter (fun (x : Int × List Int) => Prod.fst x != Prod.fst f) (List.take (Int.toNat n_8) (madeV g1 ts)))) → Br (decide (n_8 < (↑n : Int))) ((0 : Int) ≤ n_8 ∧ n_8 < (↑n : Int) ∧ Option.isSome a = true ∧ (2 : Nat) = (2 : Nat) ∧ ∃ (n_9 : Int), atI I' a (Int.toNat n_8 * (2 : Nat) + (0 : Nat)) = some (Value.int IntKind.i64 n_9) ∧ ∃ (a_11 : Option Addr), ∃ (n_10 : Nat), ∃ (c_3 : Nat), atI I' a (Int.toNat n_8 * (2 : Nat) + (1 : Nat)) = some (Value.slice a_11 n_10 c_3) ∧ Br (n_9 != n_5) (List.length xs = List.length xs / (2 : Nat) * (2 : Nat) ∧ List.length xs / (2 : Nat) + (1 : Nat) ≤ (9223372036854775807 : Nat) ∧ (List.length xs / (2 : Nat) + (1 : Nat)) * (32 : Nat) ≤ (140737488355328 : Nat) ∧ Wr IntKind.i64 (n_8 + (1 : Int)) fun (c_4 : Int) => Ent.mk (EO.cells [SV.v (Value.int IntKind.i64 n_5), SV.v (Value.slice a_6 n_6 c_2)] (29 : Nat)) none = Ent.mk (EO.cells [SV.v (Value.int IntKind.i64 n_5), SV.v (Value.slice a_6 n_6 c_2)] (29 : Nat)) none ∧ Ent.mk (EO.row xs_1 (4 : Nat) (31 : Nat)) none = Ent.mk (EO.row xs_1 (4 : Nat) (31 : Nat)) none ∧ Ent.mk (EO.row xs_2 (4 : Nat) (31 : Nat)) none = Ent.mk (EO.row xs_2 (4 : Nat) (31 : Nat)) none ∧ Ent.mk (EO.row xs_3 (4 : Nat) (31 : Nat)) none = Ent.mk (EO.row xs_3 (4 : Nat) (31 : Nat)) none ∧ SV.v (Value.slice a n c) = SV.v (Value.slice a n c) ∧ SV.ptr (1 : Nat) (0 : Nat) = SV.ptr (1 : Nat) (0 : Nat) ∧ SV.rsl (2 : Nat) (List.length xs_1 / (4 : Nat)) = SV.rsl (2 : Nat) (List.length xs_1 / (4 : Nat)) ∧ SV.rsl (3 : Nat) (List.length xs_2 / (4 : Nat)) = SV.rsl (3 : Nat) (List.length xs_2 / (4 : Nat)) ∧ SV.rsl (4 : Nat) (List.length xs_3 / (4 : Nat)) = SV.rsl (4 : Nat) (List.length xs_3 / (4 : Nat)) ∧ List.length xs / (2 : Nat) + (1 : Nat) = List.length (xs ++ [Value.int IntKind.i64 n_9, Value.slice a_11 n_10 c_3]) / (2 : Nat) ∧ SV.v (Value.slice a n c) = SV.v (Value.slice a n c) ∧ SV.v (Value.int IntKind.i64 (↑n : Int)) = SV.v (Value.int IntKind.i64 (↑n : Int)) ∧ ((0 : Int) ≤ c_4 ∧ c_4 ≤ (↑(List.length (madeV g1 ts)) : Int) ∧ ∃ (f : Int × List Int), (madeV g1 ts)[Int.toNat (Int.tmod p (↑(List.length (madeV g1 ts)) : Int))]? = some f ∧ FR I' (xs ++ [Value.int IntKind.i64 n_9, Value.slice a_11 n_10 c_3]) (List.filter (fun (x : Int × List Int) => Prod.fst x != Prod.fst f) (List.take (Int.toNat c_4) (madeV g1 ts)))) ∧ Int.toNat ((↑(List.length (madeV g1 ts)) : Int) - c_4) < Int.toNat ((↑(List.length (madeV g1 ts)) : Int) - n_8)) (Wr IntKind.i64 (n_8 + (1 : Int)) fun (c_4 : Int) => Ent.mk (EO.cells [SV.v (Value.int IntKind.i64 n_5), SV.v (Value.slice a_6 n_6 c_2)] (29 : Nat)) none = Ent.mk (EO.cells [SV.v (Value.int IntKind.i64 n_5), SV.v (Value.slice a_6 n_6 c_2)] (29 : Nat)) none ∧ Ent.mk (EO.row xs_1 (4 : Nat) (31 : Nat)) none = Ent.mk (EO.row xs_1 (4 : Nat) (31 : Nat)) none ∧ Ent.mk (EO.row xs_2 (4 : Nat) (31 : Nat)) none = Ent.mk (EO.row xs_2 (4 : Nat) (31 : Nat)) none ∧ Ent.mk (EO.row xs_3 (4 : Nat) (31 : Nat)) none = Ent.mk (EO.row xs_3 (4 : Nat) (31 : Nat)) none ∧ SV.v (Value.slice a n c) = SV.v (Value.slice a n c) ∧ SV.ptr (1 : Nat) (0 : Nat) = SV.ptr (1 : Nat) (0 : Nat) ∧ SV.rsl (2 : Nat) (List.length xs_1 / (4 : Nat)) = SV.rsl (2 : Nat) (List.length xs_1 / (4 : Nat)) ∧ SV.rsl (3 : Nat) (List.length xs_2 / (4 : Nat)) = SV.rsl (3 : Nat) (List.length xs_2 / (4 : Nat)) ∧ SV.rsl (4 : Nat) (List.length xs_3 / (4 : Nat)) = SV.rsl (4 : Nat) (List.length xs_3 / (4 : Nat)) ∧ List.length xs / (2 : Nat) = List.length xs / (2 : Nat) ∧ SV.v (Value.slice a n c) = SV.v (Value.slice a n c) ∧ SV.v (Value.int IntKind.i64 (↑n : Int)) = SV.v (Value.int IntKind.i64 (↑n : Int)) ∧ ((0 : Int) ≤ c_4 ∧ c_4 ≤ (↑(List.length (madeV g1 ts)) : Int) ∧ ∃ (f : Int × List Int), (madeV g1 ts)[Int.toNat (Int.tmod p (↑(List.length (madeV g1 ts)) : Int))]? = some f ∧ FR I' xs (List.filter (fun (x : Int × List Int) => Prod.fst x != Prod.fst f) (List.take (Int.toNat c_4) (madeV g1 ts)))) ∧ Int.toNat ((↑(List.length (madeV g1 ts)) : Int) - c_4) < Int.toNat ((↑(List.length (madeV g1 ts)) : Int) - n_8))) (∀ (a_11 : Option Addr) (cp : Nat) (I'_3 : Mem), Mem.le I' I'_3 → RowM I'_3 a_11 cp (4 : Nat) xs_1 → Ct Try.prog (Value.func (Fn.func (14 : Nat)) #[] #[]) #[Value.slice a n c, Value.slice a_11 (List.length xs_1 / (4 : Nat)) cp] I'_3 fun (v : Value) (I' : Mem) => ∃ (n_9 : Int), ∃ (n_10 : Int), v = Value.tuple #[Value.int IntKind.i64 n_9, Value.int IntKind.i64 n_10] ∧ ∀ (a_14 : Option Addr) (cp : Nat) (I'_4 : Mem), Mem.le I' I'_4 → RowM I'_4 a_14 cp (4 : Nat) xs_2 → Ct Try.prog (Value.func (Fn.func (14 : Nat)) #[] #[]) #[Value.slice a n c, Value.slice a_14 (List.length xs_2 / (4 : Nat)) cp] I'_4 fun (v : Value) (I' : Mem) => ∃ (n : Int), ∃ (n_11 : Int), v = Value.tuple #[Value.int IntKind.i64 n, Value.int IntKind.i64 n_11] ∧ ∀ (a : Option Addr) (cp : Nat) (I'_5 : Mem), Mem.le I' I'_5 → RowM I'_5 a cp (2 : Nat) xs → ∀ (a_19 : Option Addr) (cp_1 : Nat) (I' : Mem), Mem.le I'_5 I' → RowM I' a_19 cp_1 (4 : Nat) xs_3 → Ct Try.prog (Value.func (Fn.func (14 : Nat)) #[] #[]) #[Value.slice a (List.length xs / (2 : Nat)) cp, Value.slice a_19 (List.length xs_3 / (4 : Nat)) cp_1] I' fun (v : Value) (I' : Mem) => ∃ (n_12 : Int), ∃ (n_13 : Int), v = Value.tuple #[Value.int IntKind.i64 n_12, Value.int IntKind.i64 n_13] ∧ Br (n_9 == n_5) (Br (n_10 == (23 : Int)) (Br (n == n_5) (Br (n_11 == (24 : Int)) (Br (n_12 == n_5) (Value.bool (n_13 == (25 : Int)) = Value.bool true) (Value.bool false = Value.bool true)) (Value.bool false = Value.bool true)) (Value.bool false = Value.bool true)) (Value.bool false = Value.bool true)) (Value.bool false = Value.bool true))))))))) (by kernel_rfl) ?_
  simp only [eq_self, true_and, cond_false]
  have q10 : 0 ≤ q.tmod 10 ∧ q.tmod 10 < 10 := ⟨Int.tmod_nonneg _ hq.1, Int.tmod_lt_of_pos _ (by omega)⟩
  have q7 : 0 ≤ q.tmod 7 ∧ q.tmod 7 < 7 := ⟨Int.tmod_nonneg _ hq.1, Int.tmod_lt_of_pos _ (by omega)⟩
  refine (ct12 I).mono fun v I1 l1 hv => ⟨_, hv, Br.f rfl ?_⟩
  refine (ct13 g1 hz1 ts _ _ _ _ _ _ I1 (sl1.mono l1) hc1 (tx.mono l1)).mono fun v I2 l2 ⟨ka, kn, kc, hv, hK, hkc, _⟩ => ⟨ka, kn, kc, hv, ?_⟩
  have rK := madeV_right g1 ts
  have nK := madeV_len g1 ts
  have sK := madeV_step g1 ts
  generalize madeV g1 ts = K at hK rK nK sK ⊢
  have kK := hK.len
  subst kK
  have hWl := wantsF_len q K 0
  have hWr := wantsF_right q hq (by omega) (by omega) sK
  have hWok := rightWS_ok (by omega) hWr
  refine ⟨⟨by omega, by omega, by omega, by omega, [], rfl, rfl, by simp⟩, fun I3 _ l3 xs last j ⟨h0, h1, h2, h3, V, k1, k2, k3⟩ => Br.mk (fun hlt => ?_) (fun hge => ?_)⟩
  · have hlt := of_decide_eq_true hlt
    obtain ⟨f, b', m', c', hf, hok, e1, e2, hfs, hm1, hm2⟩ := (hK.mono l3).at_ h0 hlt
    have hml := hfs.numLen
    subst hml
    have hfr := right_at sK f (List.mem_of_getElem? hf)
    have hwo := wOf_ok q hq f
    simp only [wOf] at hwo
    rw [drop_cons hf, wantsF] at k2
    have hxl : xs.length = V.length * 4 := by rw [k1]; exact wc_len V
    have hj1 : (j + 1).toNat = j.toNat + 1 := by omega
    refine ⟨h0, hlt, hK.isSome (by omega), f.1, e1, b', f.2.length, c', e2, wr_i64 (by omega) (by omega) (Br.mk (fun hgt => ?_) (fun hle => ?_))⟩
    · have hgt := of_decide_eq_true hgt
      rw [if_pos hgt] at k2
      refine wr_i64 (by omega) (by omega) ⟨by omega, by omega, by omega, by decide, wr_i64 (by omega) (by omega) ⟨by decide, wr_i64 (by omega) (by omega) (wr_i64 (by omega) (by omega) ⟨by decide, wr_i64 (by omega) (by omega) ⟨by simp; omega, by omega, by omega, wr_i64 (by omega) (by omega) ⟨by simp; omega, ⟨by omega, by omega, by omega, by omega, V ++ [(last + 1, false, 0, 5), wOf q f], ?_, ?_, ?_⟩, by omega⟩⟩⟩)⟩⟩
      · rw [k1]; simp [wOf]
      · rw [k2, hj1]; simp
      · simp; omega
    · have hle := of_decide_eq_false hle
      rw [if_neg hle] at k2
      refine ⟨by decide, wr_i64 (by omega) (by omega) ⟨by decide, wr_i64 (by omega) (by omega) (wr_i64 (by omega) (by omega) ⟨by decide, wr_i64 (by omega) (by omega) ⟨by omega, by omega, by omega, wr_i64 (by omega) (by omega) ⟨by simp, ⟨by omega, by omega, by omega, by omega, V ++ [wOf q f], ?_, ?_, ?_⟩, by omega⟩⟩⟩)⟩⟩
      · rw [k1]; simp [wOf]
      · rw [k2, hj1]; simp
      · simp; omega
  · have hge := of_decide_eq_false hge
    rw [List.drop_eq_nil_of_le (by omega), wantsF, List.append_nil] at k2
    rw [← k2] at k1
    change xs = (wantsF q 0 K).flatMap wc at k1
    have hxl : xs.length = (wantsF q 0 K).length * 4 := by rw [k1]; exact wc_len _
    intro wa wcp I4 l4 hrow
    have hW := wnt_row (m := xs.length / 4) hrow k1 rfl hWok
    have e4 : xs.length / 4 = (wantsF q 0 K).length := by omega
    rw [e4] at hW ⊢
    have hK4 := hK.mono (Mem.le_trans l3 l4)
    refine (ct14 K (wantsF q 0 K) ka wa _ kc _ wcp I4 hK4 (by omega) hW (by omega)).mono fun v I5 l5 hv => ⟨_, _, hv, ?_⟩
    rw [suit_all hq sK nK]
    have hK5 := hK4.mono l5
    refine Br.f rfl (Br.f rfl (Br.mk (fun hn0 => ?_) (fun hn0 => ?_)))
    · have hn0 : (K.length : Int) = 0 := by simpa using hn0
      have hKn : K = [] := List.eq_nil_of_length_eq_zero (by omega)
      refine wr_i64 (by omega) (by omega) (wr_i64 (by omega) (by omega) fun b6 I6 l6 hb6 => ?_)
      have hW6 : WntM I6 (some ⟨b6, 0, none⟩) 1 [(1 + p, decide (p < 200), 0, 0)] := by
        refine ⟨sl_cells (n := 1) (sz := 4) hb6 rfl (by decide), fun w hw => ?_⟩
        simp at hw
        subst hw
        simp [okW]
        omega
      refine (ct14 K _ ka _ _ kc 1 1 I6 (hK5.mono l6) (by omega) hW6 (by omega)).mono fun v I7 l7 hv => ⟨_, _, hv, ?_⟩
      subst hKn
      by_cases hp2 : p < 200
      · have : suitF [] [(1 + p, decide (p < 200), 0, 0)] = (1 + p, 25) := by
          have r1 : rightW [(1 + p, decide (p < 200), 0, 0)] = true := rW_of (by rw [rightWS, if_neg (by simp only; omega)]; rfl) (by simp)
          rw [suitF, if_pos rK, if_pos r1]
          simp [suitG, suitM, hp2]
        rw [this]
        exact Br.f (by simp; omega) (Br.t (by simpa using hp2) (wr_i64 (by omega) (by omega) (wr_i64 (by omega) (by omega) (Br.t (by simp) rfl))))
      · have : suitF [] [(1 + p, decide (p < 200), 0, 0)] = (0, 22) := by
          have r1 : rightW [(1 + p, decide (p < 200), 0, 0)] = false := by rw [rightW, rightWS, if_pos (by simp only; omega)]; rfl
          rw [suitF, if_pos rK, r1]; rfl
        rw [this]
        exact Br.t (by simp; omega) (Br.t rfl (Br.t rfl trivial))
    · have hn0 : (K.length : Int) ≠ 0 := by simpa using hn0
      have hp0 : 0 ≤ p.tmod K.length := Int.tmod_nonneg _ hp.1
      have hp1 : p.tmod K.length < K.length := Int.tmod_lt_of_pos _ (by omega)
      obtain ⟨f, fb, fm, fc, hf, hok, e1, e2, hfs, hm1, hm2⟩ := hK5.at_ hp0 hp1
      have hml := hfs.numLen
      subst hml
      have hfr := right_at sK f (List.mem_of_getElem? hf)
      have hW5 := hW.mono l5
      refine wr_i64 (by omega) (by omega) ⟨hn0, hp0, hp1, hK.isSome (by omega), f.1, e1, fb, f.2.length, fc, e2, ⟨by omega, by omega, f, hf, trivial⟩, fun I6 _ l6 x1 x2 x3 j ⟨j0, j1, f', hf', y1, y2, y3⟩ => ?_⟩
      rw [hf] at hf'
      cases hf'
      change x1 = (((wantsF q 0 K).take j.toNat).filter fun w => w.1 != f.1).flatMap wc at y1
      change x2 = (((wantsF q 0 K).take j.toNat).map (tightW f.1 f.2.length q)).flatMap wc at y2
      change x3 = (((wantsF q 0 K).take j.toNat).map (withoutW f.1 f.2.length q)).flatMap wc at y3
      have z1 := wc_len (((wantsF q 0 K).take j.toNat).filter fun w => w.1 != f.1)
      have z2 := wc_len (((wantsF q 0 K).take j.toNat).map (tightW f.1 f.2.length q))
      have z3 := wc_len (((wantsF q 0 K).take j.toNat).map (withoutW f.1 f.2.length q))
      rw [← y1] at z1
      rw [← y2] at z2
      rw [← y3] at z3
      have b1 : (((wantsF q 0 K).take j.toNat).filter fun w => w.1 != f.1).length ≤ ((wantsF q 0 K).take j.toNat).length := List.length_filter_le _ _
      rw [List.length_map] at z2 z3
      have b2 : ((wantsF q 0 K).take j.toNat).length ≤ 40 := by simp; omega
      refine Br.mk (fun hlt => ?_) (fun hge => ?_)
      · have hlt := of_decide_eq_true hlt
        obtain ⟨w, hw, hwok, a1', a2', a3', a4'⟩ := (hW5.mono l6).at_ j0 hlt
        have hj1 : (j + 1).toNat = j.toNat + 1 := by omega
        refine ⟨j0, hlt, hW.isSome (by omega), _, a1', _, a2', _, a3', _, a4', Br.mk (fun hne => ?_) (fun hne => ?_)⟩
        · have hne : w.1 ≠ f.1 := by simpa using hne
          refine dup3 ⟨by omega, by omega, by omega, by omega, by omega, by omega, by omega, by omega, by omega, wr_i64 (by omega) (by omega) ⟨by simp, by simp, by simp, ⟨by omega, by omega, f, hf, ?_, ?_, ?_⟩, by omega⟩⟩
          · rw [hj1, take_succ' hw, List.filter_append, List.flatMap_append, y1]
            have : [w].filter (fun w => w.1 != f.1) = [w] := by simp [hne]
            rw [this]; rfl
          · rw [hj1, take_succ' hw, List.map_append, List.flatMap_append, y2]
            have : [w].map (tightW f.1 f.2.length q) = [w] := by simp [tightW, hne]
            change _ = List.flatMap wc (List.map (tightW f.1 f.2.length q) _) ++ List.flatMap wc (List.map (tightW f.1 f.2.length q) [w])
            rw [this]; rfl
          · rw [hj1, take_succ' hw, List.map_append, List.flatMap_append, y3]
            have : [w].map (withoutW f.1 f.2.length q) = [w] := by simp [withoutW, hne]
            change _ = List.flatMap wc (List.map (withoutW f.1 f.2.length q) _) ++ List.flatMap wc (List.map (withoutW f.1 f.2.length q) [w])
            rw [this]; rfl
        · have hne : w.1 = f.1 := by simpa using hne
          refine wr_i64 (by omega) (by omega) (wr_i64 (by omega) (by omega) (wr_i64 (by omega) (by omega) (wr_i64 (by omega) (by omega) ⟨by omega, by omega, by omega, by omega, by omega, by omega, wr_i64 (by omega) (by omega) ⟨by simp, by simp, ⟨by omega, by omega, f, hf, ?_, ?_, ?_⟩, by omega⟩⟩)))
          · rw [hj1, take_succ' hw, List.filter_append, List.flatMap_append, y1]
            have : [w].filter (fun w => w.1 != f.1) = [] := by simp [hne]
            rw [this]; simp; rfl
          · rw [hj1, take_succ' hw, List.map_append, List.flatMap_append, y2]
            have : [w].map (tightW f.1 f.2.length q) = [(w.1, w.2.1, (f.2.length : Int) + 1, (f.2.length : Int) + 1 + q)] := by simp [tightW, hne]
            change _ = List.flatMap wc (List.map (tightW f.1 f.2.length q) _) ++ List.flatMap wc (List.map (tightW f.1 f.2.length q) [w])
            rw [this]; rfl
          · rw [hj1, take_succ' hw, List.map_append, List.flatMap_append, y3]
            have : [w].map (withoutW f.1 f.2.length q) = [(w.1, true, (f.2.length : Int) + 1, (f.2.length : Int) + 1 + q)] := by simp [withoutW, hne]
            change _ = List.flatMap wc (List.map (withoutW f.1 f.2.length q) _) ++ List.flatMap wc (List.map (withoutW f.1 f.2.length q) [w])
            rw [this]; rfl
      · have hge := of_decide_eq_false hge
        have ht : (wantsF q 0 K).take j.toNat = wantsF q 0 K := List.take_of_length_le (by omega)
        rw [ht] at y1 y2 y3
        refine ⟨⟨by omega, by omega, f, hf, trivial⟩, fun I7 _ l7 rs k ⟨r0, r1, f', hf', hR⟩ => ?_⟩
        rw [hf] at hf'
        cases hf'
        have hRl := hR.len
        have b3 : ((K.take k.toNat).filter fun x => x.1 != f.1).length ≤ (K.take k.toNat).length := List.length_filter_le _ _
        have b4 : (K.take k.toNat).length ≤ 20 := by simp; omega
        refine Br.mk (fun hlt => ?_) (fun hge => ?_)
        · have hlt := of_decide_eq_true hlt
          obtain ⟨g, gb, gm, gc, hg, hgok, u1, u2, hgs, u3, u4⟩ := (hK5.mono (Mem.le_trans l6 l7)).at_ r0 hlt
          have hk1 : (k + 1).toNat = k.toNat + 1 := by omega
          refine ⟨r0, hlt, hK.isSome (by omega), g.1, u1, gb, gm, gc, u2, Br.mk (fun hne => ?_) (fun hne => ?_)⟩
          · have hne : g.1 ≠ f.1 := by simpa using hne
            refine ⟨by omega, by omega, by omega, wr_i64 (by omega) (by omega) ⟨by simp, ⟨by omega, by omega, f, hf, ?_⟩, by omega⟩⟩
            rw [hk1, take_succ' hg, List.filter_append]
            have : [g].filter (fun x => x.1 != f.1) = [g] := by simp [hne]
            rw [this]
            exact FR.snoc hR ⟨hgok, rfl, gb, gm, gc, rfl, hgs, u3, u4⟩
          · have hne : g.1 = f.1 := by simpa using hne
            refine wr_i64 (by omega) (by omega) ⟨⟨by omega, by omega, f, hf, ?_⟩, by omega⟩
            rw [hk1, take_succ' hg, List.filter_append]
            have : [g].filter (fun x => x.1 != f.1) = [] := by simp [hne]
            rw [this, List.append_nil]
            exact hR
        · have hge := of_decide_eq_false hge
          have htk : K.take k.toNat = K := List.take_of_length_le (by omega)
          rw [htk] at hR hRl b3
          have w1 := rightWS_filter (fun w => w.1 != f.1) hWr
          have w2 := rightWS_map (tightW f.1 f.2.length q) (fun w => by
            unfold tightW
            split
            · exact ⟨rfl, .inr (by simp only; omega)⟩
            · exact ⟨rfl, .inl rfl⟩) hWr
          have w3 := rightWS_map (withoutW f.1 f.2.length q) (fun w => by
            unfold withoutW
            split
            · exact ⟨rfl, .inr (by simp only; omega)⟩
            · exact ⟨rfl, .inl rfl⟩) hWr
          have hK7 := hK5.mono (Mem.le_trans l6 l7)
          intro A1 P1 J1 m1 R1
          refine (ct14 K _ ka _ _ kc _ _ J1 (hK7.mono m1) (by omega) (wnt_row R1 y1 rfl (rightWS_ok (by omega) w1)) (by omega)).mono fun v J2 m2 hv => ⟨_, _, hv, ?_⟩
          rw [suit_less hq sK nK hf]
          intro A2 P2 J3 m3 R2
          refine (ct14 K _ ka _ _ kc _ _ J3 (hK7.mono (Mem.le_trans m1 (Mem.le_trans m2 m3))) (by omega) (wnt_row R2 y2 rfl (rightWS_ok (by omega) w2)) (by omega)).mono fun v J4 m4 hv => ⟨_, _, hv, ?_⟩
          rw [suit_tight hq sK nK hf]
          intro A3 P3 J5 m5 R3 A4 P4 J6 m6 R4
          obtain ⟨e5, hfr2⟩ : rs.length / 2 = (K.filter fun x => x.1 != f.1).length ∧ FldM J5 A3 (K.filter fun x => x.1 != f.1).length (K.filter fun x => x.1 != f.1) :=
            ⟨by omega, fldM_row R3 (hR.mono (Mem.le_trans m1 (Mem.le_trans m2 (Mem.le_trans m3 (Mem.le_trans m4 m5)))))⟩
          rw [e5]
          refine (ct14 (K.filter fun x => x.1 != f.1) _ _ _ _ _ _ _ J6 (hfr2.mono m6) (by omega) (wnt_row R4 y3 rfl (rightWS_ok (by omega) w3)) (by omega)).mono fun v J7 m7 hv => ⟨_, _, hv, ?_⟩
          rw [suit_without hq sK nK hf]
          exact Br.t (by simp) (Br.t rfl (Br.t (by simp) (Br.t rfl (Br.t (by simp) rfl))))
