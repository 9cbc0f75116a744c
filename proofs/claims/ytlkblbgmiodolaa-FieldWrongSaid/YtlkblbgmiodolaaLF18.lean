/- Part of a proof by the rules of the symbolic walk (see the law's own text): contracts of functions of the program. -/
import Derived.Test.YtlkblbgmiodolaaGC
open Go Go.Proofs Go.SE Go.RowKit
set_option linter.unusedVariables false
/-- Fields without bytes, with the tags from 1 on. -/
def tagsL (n : Nat) : List (Int × List Int) := (List.range n).map fun (i : Nat) => (1 + (i : Int), [])
theorem rightStep_app : ∀ (K L : List (Int × List Int)) (last left : Int), rightStep last left (K ++ L) = (rightStep last left K && rightStep (lastT last K) (leftT left K) L)
  | [], L, last, left => by simp [rightStep, lastT, leftT]
  | f :: r, L, last, left => by
    rw [List.cons_append, rightStep, rightStep, lastT, leftT]
    split
    · rfl
    · exact rightStep_app r L _ _
theorem rightF_false {l : List (Int × List Int)} (h : rightStep 0 16384 l = false) : rightF l = false := by rw [rightF, h]; rfl
theorem leftT_le : ∀ (K : List (Int × List Int)) (left : Int), leftT left K ≤ left
  | [], left => Int.le_refl _
  | f :: r, left => by
    have := leftT_le r (left - f.2.length)
    rw [leftT]
    omega
theorem lastT_get : ∀ {K : List (Int × List Int)} {last : Int} {f : Int × List Int}, K[K.length - 1]? = some f → lastT last K = f.1
  | [], _, _, h => by simp at h
  | [x], last, f, h => by
    simp at h
    subst h
    rfl
  | x :: y :: r, last, f, h => by
    rw [lastT]
    refine lastT_get (K := y :: r) ?_
    simpa using h
theorem FR.one {I : Mem} : ∀ {l : List (Int × List Int)} {xs : List Value}, FR I xs l → ∀ v ∈ xs, v.oneCell' = true := by
  intro l
  induction l with
  | nil =>
    intro xs h v hv
    rcases h.cases with ⟨rfl, _⟩ | ⟨_, _, _, _, _, _, h, _⟩
    · cases hv
    · cases h
  | cons f l ih =>
    intro xs h v hv
    rcases h.cases with ⟨_, h⟩ | ⟨x, y, xs', f', l', rfl, h2, h3, h4⟩
    · cases h
    · cases h2
      rcases List.mem_cons.1 hv with rfl | hv
      · rw [h3.2.1]; rfl
      · rcases List.mem_cons.1 hv with rfl | hv
        · obtain ⟨_, _, _, e, _⟩ := h3.2.2
          rw [e]; rfl
        · exact ih h4 v hv
theorem fr_bad {I : Mem} {a : Option Addr} {cp m : Nat} {xs : List Value} {bad : List (Int × List Int)} (hrow : RowM I a cp 2 xs) (hF : FR I xs bad) (hm : m = bad.length) (hb : rightF bad = false) : ∃ bad, FldM I a m bad ∧ rightF bad = false :=
  ⟨bad, hm ▸ fldM_row hrow hF, hb⟩
theorem bysl_none (I : Mem) : BySl I (.slice none 0 0) [] := ⟨none, 0, 0, rfl, sl_nil _ _, by omega, by omega⟩
theorem setR_low {f : Int × List Int} (h : f.1 ≤ 0) {K : List (Int × List Int)} {left : Int} (hK : rightStep 0 left K = true) : rightStep 0 16384 (setR f false K) = false := by
  cases K with
  | nil => rw [setR, rightStep, if_pos (.inl h)]
  | cons x r =>
    rw [rightStep] at hK
    split at hK
    · cases hK
    · rw [setR, if_pos (by omega), rightStep, if_pos (.inl h)]
theorem ct7 (I : Mem) (a1 : Option Addr) (n1 c1 : Nat) (g1 : List Int) (sl1 : SlM I a1 n1 1 (ints .u8 g1)) (hc1 : n1 ≤ c1) (hm1 : c1 ≤ maxLen) (hz1 : ∀ z ∈ g1, 0 ≤ z ∧ z ≤ 255)
    (a3 : Option Addr) (n3 c3 : Nat) (ts : List (List Int)) (tx : TxM I a3 n3 ts) (hc3 : n3 ≤ c3) (hm3 : c3 ≤ maxLen) (way : Int) (hway : 0 ≤ way ∧ way ≤ 255) (n : Int) (hn : -9223372036854775808 ≤ n ∧ n ≤ 9223372036854775807) :
    Ct Try.prog (fnv 7) #[.slice a1 n1 c1, .slice a3 n3 c3, .int .u8 way, .int .i64 n] I (fun v _ => v = .bool true) := by
  refine viaR (ct_via (A := { calls := [(88, .hd)], chands := [(25, [10])], cuts := [(8, ⟨[(2, .keep), (3, .keep), (9, .keep), (10, .row 0), (11, .sh (.int .i64))], [(0, .row)], [], fun vals xss I' _ => match vals, xss with | [.int .i64 last], [xs] => last = lastT 0 (madeV g1 ts) ∧ FR I' xs (madeV g1 ts) | _, _ => False, fun _ _ => 0⟩), (25, ⟨[(3, .keep), (9, .keep), (10, .sh .sl)], [], [], fun vals _ I' _ => match vals with | [.slice a n c] => n ≤ 100 ∧ ∃ bad, FldM I' a n bad ∧ rightF bad = false | _ => False, fun _ _ => 0⟩)], loops := [(11, ⟨[(3, .keep), (9, .keep), (10, .row 1), (46, .sh (.int .i64))], [(1, .row)], [(10, 2, 29)], fun vals xss I' _ => match vals, xss with | [.int .i64 j], [xs] => 0 ≤ j ∧ j ≤ 65 ∧ FR I' xs (tagsL j.toNat) | _, _ => False, fun vals _ => match vals with | [.int .i64 j] => (65 - j).toNat | _ => 0⟩)] }) Try.func7 rfl Try.call7 rfl rfl) (Ct Try.prog (Value.func (Fn.func (12 : Nat)) #[] #[]) #[] I fun (v : Value) (I' : Mem) => ∃ (b : Bool), v = Value.bool b ∧ Br (!b) (Value.bool false = Value.bool true) (Ct Try.prog (Value.func (Fn.func (13 : Nat)) #[] #[]) #[Value.slice a1 n1 c1, Value.slice a3 n3 c3] I' fun (v : Value) (I' : Mem) => ∃ (a : Option Addr), ∃ (n_1 : Nat), ∃ (c : Nat), v = Value.slice a n_1 c ∧ ∃ (ys : List Value), List.length ys = n_1 * (2 : Nat) ∧ (a = none → n_1 = (0 : Nat)) ∧ (∀ (j : Nat) (v : Value), ys[j]? = some v → atI I' a j = some v) ∧ (∀ (v : Value), v ∈ ys → Value.oneCell' v = true) ∧ (0 : Nat) = (0 : Nat) ∧ (0 : Nat) + n_1 ≤ (9223372036854775807 : Nat) ∧ ((0 : Nat) + n_1) * (32 : Nat) ≤ (140737488355328 : Nat) ∧ Br (decide ((0 : Int) < (↑n_1 : Int))) (Wr IntKind.i64 ((↑n_1 : Int) - (1 : Int)) fun (c_1 : Int) => (0 : Int) ≤ c_1 ∧ c_1 < (↑n_1 : Int) ∧ Option.isSome a = true ∧ Option.isSome a = true ∧ ∃ (n_2 : Int), atI I' a (Int.toNat c_1 * (2 : Nat) + (0 : Nat) + (0 : Nat)) = some (Value.int IntKind.i64 n_2) ∧ SV.v (Value.int IntKind.u8 way) = SV.v (Value.int IntKind.u8 way) ∧ SV.v (Value.int IntKind.i64 n) = SV.v (Value.int IntKind.i64 n) ∧ SV.v (Value.slice a n_1 c) = SV.v (Value.slice a n_1 c) ∧ (0 : Nat) + n_1 = List.length ys / (2 : Nat) ∧ n_2 = lastT (0 : Int) (madeV g1 ts) ∧ FR I' ys (madeV g1 ts)) (SV.v (Value.int IntKind.u8 way) = SV.v (Value.int IntKind.u8 way) ∧ SV.v (Value.int IntKind.i64 n) = SV.v (Value.int IntKind.i64 n) ∧ SV.v (Value.slice a n_1 c) = SV.v (Value.slice a n_1 c) ∧ (0 : Nat) + n_1 = List.length ys / (2 : Nat) ∧ (0 : Int) = lastT (0 : Int) (madeV g1 ts) ∧ FR I' ys (madeV g1 ts)) ∧ ∀ (I'_1 G' : Mem), Mem.le I' I'_1 → ∀ (xs : List Value) (n_2 : Int), n_2 = lastT (0 : Int) (madeV g1 ts) ∧ FR I'_1 xs (madeV g1 ts) → ((6 : Int) ≠ (0 : Int) ∧ Br (Int.tmod way (6 : Int) == (0 : Int)) (List.length xs = List.length xs / (2 : Nat) * (2 : Nat) ∧ List.length xs / (2 : Nat) + (1 : Nat) ≤ (9223372036854775807 : Nat) ∧ (List.length xs / (2 : Nat) + (1 : Nat)) * (32 : Nat) ≤ (140737488355328 : Nat) ∧ ∀ (a_3 : Option Addr) (cp : Nat) (I' : Mem), Mem.le I'_1 I' → RowM I' a_3 cp (2 : Nat) (xs ++ [Value.int IntKind.i64 (bif false then imax n n_2 else imin n n_2), Value.slice none (0 : Nat) (0 : Nat)]) → SV.v (Value.int IntKind.i64 n) = SV.v (Value.int IntKind.i64 n) ∧ SV.v (Value.slice a n_1 c) = SV.v (Value.slice a n_1 c) ∧ List.length xs / (2 : Nat) + (1 : Nat) ≤ (100 : Nat) ∧ ∃ (bad : List (Int × List Int)), FldM I' a_3 (List.length xs / (2 : Nat) + (1 : Nat)) bad ∧ rightF bad = false) (Br (Int.tmod way (6 : Int) == (1 : Int)) (List.length xs = List.length xs / (2 : Nat) * (2 : Nat) ∧ List.length xs / (2 : Nat) + (1 : Nat) ≤ (9223372036854775807 : Nat) ∧ (List.length xs / (2 : Nat) + (1 : Nat)) * (32 : Nat) ≤ (140737488355328 : Nat) ∧ ∀ (a_3 : Option Addr) (cp : Nat) (I' : Mem), Mem.le I'_1 I' → RowM I' a_3 cp (2 : Nat) (xs ++ [Value.int IntKind.i64 (bif true then imax n (201 : Int) else imin n (201 : Int)), Value.slice none (0 : Nat) (0 : Nat)]) → SV.v (Value.int IntKind.i64 n) = SV.v (Value.int IntKind.i64 n) ∧ SV.v (Value.slice a n_1 c) = SV.v (Value.slice a n_1 c) ∧ List.length xs / (2 : Nat) + (1 : Nat) ≤ (100 : Nat) ∧ ∃ (bad : List (Int × List Int)), FldM I' a_3 (List.length xs / (2 : Nat) + (1 : Nat)) bad ∧ rightF bad = false) (Br (Int.tmod way (6 : Int) == (2 : Int)) (List.length xs / (2 : Nat) * (2 : Nat) ≤ List.length xs ∧ (∀ (v : Value), v ∈ List.take (List.length xs / (2 : Nat) * (2 : Nat)) xs → Value.oneCell' v = true) ∧ (2 : Nat) = (2 : Nat) ∧ (1 : Nat) + List.length xs / (2 : Nat) ≤ (9223372036854775807 : Nat) ∧ ((1 : Nat) + List.length xs / (2 : Nat)) * (32 : Nat) ≤ (140737488355328 : Nat) ∧ ∀ (a_3 : Option Addr) (cp : Nat) (I' : Mem), Mem.le I'_1 I' → RowM I' a_3 cp (2 : Nat) (Value.int IntKind.i64 (bif false then imax n (0 : Int) else imin n (0 : Int)) :: Value.slice none (0 : Nat) (0 : Nat) :: List.append ([] : List Value) (List.take (List.length xs / (2 : Nat) * 2) xs)) → SV.v (Value.int IntKind.i64 n) = SV.v (Value.int IntKind.i64 n) ∧ SV.v (Value.slice a n_1 c) = SV.v (Value.slice a n_1 c) ∧ (1 : Nat) + List.length xs / (2 : Nat) ≤ (100 : Nat) ∧ ∃ (bad : List (Int × List Int)), FldM I' a_3 ((1 : Nat) + List.length xs / (2 : Nat)) bad ∧ rightF bad = false) (Br (Int.tmod way (6 : Int) == (3 : Int)) (Wr IntKind.i64 (n_2 + (1 : Int)) fun (c_1 : Int) => (0 : Int) ≤ (16385 : Int) ∧ (16385 : Int) ≤ (16385 : Int) ∧ (16385 : Int) ≤ (281474976710656 : Int) ∧ (16385 : Int) ≤ (281474976710656 : Int) ∧ ∀ (xs_1 : List Value), List.length xs_1 = (16385 : Nat) → (∀ (j : Nat) (v : Value), xs_1[j]? = some v → #[Value.int IntKind.u8 (0 : Int)][j % (1 : Nat)]? = some v) → ∀ (a_5 : Option Addr) (cp : Nat) (I' : Mem), Mem.le I'_1 I' → RowM I' a_5 cp (1 : Nat) xs_1 → List.length xs = List.length xs / (2 : Nat) * (2 : Nat) ∧ List.length xs / (2 : Nat) + (1 : Nat) ≤ (9223372036854775807 : Nat) ∧ (List.length xs / (2 : Nat) + (1 : Nat)) * (32 : Nat) ≤ (140737488355328 : Nat) ∧ ∀ (a_8 : Option Addr) (cp_1 : Nat) (I'_2 : Mem), Mem.le I' I'_2 → RowM I'_2 a_8 cp_1 (2 : Nat) (xs ++ [Value.int IntKind.i64 c_1, Value.slice a_5 (16385 : Nat) cp]) → SV.v (Value.int IntKind.i64 n) = SV.v (Value.int IntKind.i64 n) ∧ SV.v (Value.slice a n_1 c) = SV.v (Value.slice a n_1 c) ∧ List.length xs / (2 : Nat) + (1 : Nat) ≤ (100 : Nat) ∧ ∃ (bad : List (Int × List Int)), FldM I'_2 a_8 (List.length xs / (2 : Nat) + (1 : Nat)) bad ∧ rightF bad = false) (Br (Int.tmod way (6 : Int) == (4 : Int)) (Wr IntKind.i64 (n_2 + (1 : Int)) fun (c_1 : Int) => Wr IntKind.i64 (n_2 + (1 : Int)) fun (c_2 : Int) => List.length xs = List.length xs / (2 : Nat) * (2 : Nat) ∧ List.length xs / (2 : Nat) + (2 : Nat) ≤ (9223372036854775807 : Nat) ∧ (List.length xs / (2 : Nat) + (2 : Nat)) * (32 : Nat) ≤ (140737488355328 : Nat) ∧ ∀ (a_3 : Option Addr) (cp : Nat) (I' : Mem), Mem.le I'_1 I' → RowM I' a_3 cp (2 : Nat) (xs ++ [Value.int IntKind.i64 c_1, Value.slice none (0 : Nat) (0 : Nat), Value.int IntKind.i64 c_2, Value.slice none (0 : Nat) (0 : Nat)]) → SV.v (Value.int IntKind.i64 n) = SV.v (Value.int IntKind.i64 n) ∧ SV.v (Value.slice a n_1 c) = SV.v (Value.slice a n_1 c) ∧ List.length xs / (2 : Nat) + (2 : Nat) ≤ (100 : Nat) ∧ ∃ (bad : List (Int × List Int)), FldM I' a_3 (List.length xs / (2 : Nat) + (2 : Nat)) bad ∧ rightF bad = false) ((SV.v (Value.int IntKind.i64 n) = SV.v (Value.int IntKind.i64 n) ∧ SV.v (Value.slice a n_1 c) = SV.v (Value.slice a n_1 c) ∧ (0 : Nat) = (0 : Nat) ∧ (0 : Int) ≤ (0 : Int) ∧ (0 : Int) ≤ (65 : Int) ∧ FR I'_1 [] []) ∧ ∀ (I' G' : Mem), Mem.le I'_1 I' → ∀ (xs : List Value) (n_3 : Int), (0 : Int) ≤ n_3 ∧ n_3 ≤ (65 : Int) ∧ FR I' xs (tagsL (Int.toNat n_3)) → Br (decide (n_3 < (65 : Int))) (Wr IntKind.i64 ((1 : Int) + n_3) fun (c_1 : Int) => List.length xs = List.length xs / (2 : Nat) * (2 : Nat) ∧ List.length xs / (2 : Nat) + (1 : Nat) ≤ (9223372036854775807 : Nat) ∧ (List.length xs / (2 : Nat) + (1 : Nat)) * (32 : Nat) ≤ (140737488355328 : Nat) ∧ Wr IntKind.i64 (n_3 + (1 : Int)) fun (c_2 : Int) => SV.v (Value.int IntKind.i64 n) = SV.v (Value.int IntKind.i64 n) ∧ SV.v (Value.slice a n_1 c) = SV.v (Value.slice a n_1 c) ∧ List.length xs / (2 : Nat) + (1 : Nat) = List.length (xs ++ [Value.int IntKind.i64 c_1, Value.slice none (0 : Nat) (0 : Nat)]) / (2 : Nat) ∧ ((0 : Int) ≤ c_2 ∧ c_2 ≤ (65 : Int) ∧ FR I' (xs ++ [Value.int IntKind.i64 c_1, Value.slice none (0 : Nat) (0 : Nat)]) (tagsL (Int.toNat c_2))) ∧ Int.toNat ((65 : Int) - c_2) < Int.toNat ((65 : Int) - n_3)) (∀ (a_5 : Option Addr) (cp : Nat) (I'_2 : Mem), Mem.le I' I'_2 → RowM I'_2 a_5 cp (2 : Nat) xs → SV.v (Value.int IntKind.i64 n) = SV.v (Value.int IntKind.i64 n) ∧ SV.v (Value.slice a n_1 c) = SV.v (Value.slice a n_1 c) ∧ List.length xs / (2 : Nat) ≤ (100 : Nat) ∧ ∃ (bad : List (Int × List Int)), FldM I'_2 a_5 (List.length xs / (2 : Nat)) bad ∧ rightF bad = false))))))) ∧ ∀ (I' G' : Mem), Mem.le I'_1 I' → ∀ (a_4 : Option Addr) (n_3 c_1 : Nat), (n_3 ≤ (100 : Nat) ∧ ∃ (bad : List (Int × List Int)), FldM I' a_4 n_3 bad ∧ rightF bad = false) → Ct Try.prog (Value.func (Fn.func (16 : Nat)) #[] #[]) #[Value.slice a_4 n_3 c_1] I' fun (v : Value) (I' : Mem) => ∃ (a_6 : Option Addr), ∃ (n_4 : Nat), ∃ (c_2 : Nat), ∃ (n_5 : Int), v = Value.tuple #[Value.slice a_6 n_4 c_2, Value.int IntKind.i64 n_5] ∧ Ct Try.prog (Value.func (Fn.func (22 : Nat)) #[] #[]) #[Value.slice a_4 n_3 c_1, Value.agg #[Value.int IntKind.i64 (1 : Int), Value.slice none (0 : Nat) (0 : Nat)]] I' fun (v : Value) (I' : Mem) => ∃ (a_7 : Option Addr), ∃ (n_6 : Nat), ∃ (c_3 : Nat), ∃ (n_7 : Int), v = Value.tuple #[Value.slice a_7 n_6 c_3, Value.int IntKind.i64 n_7] ∧ ∀ (b : Nat) (I'_2 : Mem), Mem.le I' I'_2 → I'_2 b = some (Obj.cells #[Value.int IntKind.i64 (5 : Int), Value.bool false, Value.int IntKind.i64 (0 : Int), Value.int IntKind.i64 (0 : Int), Value.int IntKind.i64 (bif false then imax n (5 : Int) else imin n (5 : Int)), Value.bool false, Value.int IntKind.i64 (0 : Int), Value.int IntKind.i64 (0 : Int)] (31 : Nat)) → Ct Try.prog (Value.func (Fn.func (14 : Nat)) #[] #[]) #[Value.slice a_4 n_3 c_1, Value.slice (some (Addr.mk b (0 : Nat) none)) (2 : Nat) (2 : Nat)] I'_2 fun (v : Value) (I' : Mem) => ∃ (n_8 : Int), ∃ (n_9 : Int), v = Value.tuple #[Value.int IntKind.i64 n_8, Value.int IntKind.i64 n_9] ∧ Ct Try.prog (Value.func (Fn.func (14 : Nat)) #[] #[]) #[Value.slice a n_1 c, Value.slice (some (Addr.mk b (0 : Nat) none)) (2 : Nat) (2 : Nat)] I' fun (v : Value) (I' : Mem) => ∃ (n_10 : Int), ∃ (n_11 : Int), v = Value.tuple #[Value.int IntKind.i64 n_10, Value.int IntKind.i64 n_11] ∧ Ct Try.prog (Value.func (Fn.func (22 : Nat)) #[] #[]) #[Value.slice a n_1 c, Value.agg #[Value.int IntKind.i64 (bif false then imax n (0 : Int) else imin n (0 : Int)), Value.slice none (0 : Nat) (0 : Nat)]] I' fun (v : Value) (I' : Mem) => ∃ (a_10 : Option Addr), ∃ (n : Nat), ∃ (c_4 : Nat), ∃ (n_12 : Int), v = Value.tuple #[Value.slice a_10 n c_4, Value.int IntKind.i64 n_12] ∧ ∀ (b : Nat) (I'_3 : Mem), Mem.le I' I'_3 → I'_3 b = some (Obj.cells #[Value.int IntKind.i64 (1 : Int), Value.bool false, Value.int IntKind.i64 (5 : Int), Value.int IntKind.i64 (4 : Int)] (31 : Nat)) → Ct Try.prog (Value.func (Fn.func (14 : Nat)) #[] #[]) #[Value.slice a n_1 c, Value.slice (some (Addr.mk b (0 : Nat) none)) (1 : Nat) (1 : Nat)] I'_3 fun (v : Value) (I' : Mem) => ∃ (n_13 : Int), ∃ (n_14 : Int), v = Value.tuple #[Value.int IntKind.i64 n_13, Value.int IntKind.i64 n_14] ∧ Ct Try.prog (Value.func (Fn.func (19 : Nat)) #[] #[]) #[Value.slice a_4 n_3 c_1] I' fun (v : Value) (I' : Mem) => ∃ (b : Bool), v = Value.bool b ∧ Br (!b) (Wr IntKind.i64 ((↑n_4 : Int) + (↑n_6 : Int)) fun (c : Int) => Wr IntKind.i64 (c + (↑n : Int)) fun (c : Int) => Wr IntKind.i64 (c + n_8) fun (c : Int) => Wr IntKind.i64 (c + n_10) fun (c : Int) => Wr IntKind.i64 (c + n_13) fun (c : Int) => Br (c == (0 : Int)) (Br (n_5 == (20 : Int)) (Br (n_7 == (20 : Int)) (Br (n_9 == (20 : Int)) (Br (n_11 == (22 : Int)) (Br (n_12 == (20 : Int)) (Value.bool (n_14 == (22 : Int)) = Value.bool true) (Value.bool false = Value.bool true)) (Value.bool false = Value.bool true)) (Value.bool false = Value.bool true)) (Value.bool false = Value.bool true)) (Value.bool false = Value.bool true)) (Value.bool false = Value.bool true)) (Value.bool false = Value.bool true))) (by kernel_rfl) ?_
  simp only [eq_self, true_and, cond_true, cond_false]
  refine (ct12 I).mono fun v I1 l1 hv => ⟨_, hv, Br.f rfl ?_⟩
  refine (ct13 g1 hz1 ts _ _ _ _ _ _ I1 (sl1.mono l1) hc1 (tx.mono l1)).mono fun v I2 l2 ⟨ka, kn, kc, hv, hK, hkc, _⟩ => ⟨ka, kn, kc, hv, ?_⟩
  have rK := madeV_right g1 ts
  have nK := madeV_len g1 ts
  have sK := madeV_step g1 ts
  generalize madeV g1 ts = K at hK rK nK sK ⊢
  have kK := hK.len
  have sK2 := (rightF_iff.1 rK).1
  have hlast : 0 ≤ lastT 0 K ∧ lastT 0 K ≤ 200 := by
    refine ⟨lastT_ge sK, ?_⟩
    rcases Nat.eq_zero_or_pos K.length with h | h
    · rw [List.eq_nil_of_length_eq_zero h]; simp [lastT]
    · have hg : K[K.length - 1]? = some K[K.length - 1] := List.getElem?_eq_getElem (by omega)
      rw [lastT_get hg]
      exact (right_at sK _ (List.mem_of_getElem? hg)).2.1
  obtain ⟨xs0, hs0, hF0⟩ := hK
  have hK : FldM I2 ka kn K := ⟨xs0, hs0, hF0⟩
  have hx0 := hF0.len
  refine ⟨xs0, hs0.len, hs0.nil, hs0.at_, hF0.one, by omega, by omega, ⟨Br.mk (fun hp => ?_) (fun hp => ⟨by omega, ?_, hF0⟩), fun I3 _ l3 xs last ⟨hl, hF⟩ => ⟨⟨by decide, ?_⟩, fun I4 _ l4 ba bn bc ⟨h100, bad, hB, hbad⟩ => ?_⟩⟩⟩
  · have hp := of_decide_eq_true hp
    obtain ⟨f, _, _, _, hf, _, e1, _⟩ := hK.at_ (i := (kn : Int) - 1) (by omega) (by omega)
    refine wr_i64 (by omega) (by omega) ⟨by omega, by omega, hK.isSome (by omega), hK.isSome (by omega), f.1, e1, by omega, ?_, hF0⟩
    rw [show ((kn : Int) - 1).toNat = K.length - 1 by omega] at hf
    exact (lastT_get hf).symm
  · have hp := of_decide_eq_false hp
    rw [List.eq_nil_of_length_eq_zero (by omega : K.length = 0)]
    rfl
  · subst hl
    have hxl := hF.len
    have one : ∀ (f : Int × List Int) {J : Mem} {y : Value} {a5 : Option Addr} {cp : Nat}, I3.le J → okFld f → BySl J y f.2 → rightF (K ++ [f]) = false → RowM J a5 cp 2 (xs ++ [.int .i64 f.1, y]) → xs.length / 2 + 1 ≤ 100 ∧ ∃ bad, FldM J a5 (xs.length / 2 + 1) bad ∧ rightF bad = false :=
      fun f {J y a5 cp} hle hok hy hb hrow => ⟨by omega, fr_bad hrow (FR.snoc (hF.mono hle) ⟨hok, rfl, hy⟩) (by simp; omega) hb⟩
    have bad1 : ∀ f : Int × List Int, (f.1 ≤ lastT 0 K ∨ 200 < f.1 ∨ leftT 16384 K < f.2.length) → rightF (K ++ [f]) = false := fun f hf => by
      refine rightF_false ?_
      rw [rightStep_app, sK2, rightStep, if_pos hf]; rfl
    refine Br.mk (fun _ => ?_) (fun _ => Br.mk (fun _ => ?_) (fun _ => Br.mk (fun _ => ?_) (fun _ => Br.mk (fun _ => ?_) (fun _ => Br.mk (fun _ => ?_) (fun _ => ?_)))))
    · have h1 : imin n (lastT 0 K) ≤ lastT 0 K ∧ -9223372036854775808 ≤ imin n (lastT 0 K) := by unfold imin; split <;> omega
      exact ⟨by omega, by omega, by omega, fun a5 cp J hle hrow => one (imin n (lastT 0 K), []) hle ⟨by simp only; omega, fun z hz => by cases hz⟩ (bysl_none _) (bad1 _ (.inl h1.1)) hrow⟩
    · have h1 : 201 ≤ imax n 201 ∧ imax n 201 ≤ 9223372036854775807 := by unfold imax; split <;> omega
      exact ⟨by omega, by omega, by omega, fun a5 cp J hle hrow => one (imax n 201, []) hle ⟨by simp only; omega, fun z hz => by cases hz⟩ (bysl_none _) (bad1 _ (.inr (.inl (by simp only; omega)))) hrow⟩
    · have h1 : imin n 0 ≤ 0 ∧ -9223372036854775808 ≤ imin n 0 := by unfold imin; split <;> omega
      have ht : List.take (xs.length / 2 * 2) xs = xs := List.take_of_length_le (by omega)
      refine ⟨by omega, by rw [ht]; exact hF.one, by omega, by omega, fun a5 cp J hle hrow => ⟨by omega, ?_⟩⟩
      change RowM J a5 cp 2 (.int .i64 (imin n 0) :: .slice none 0 0 :: List.take (xs.length / 2 * 2) xs) at hrow
      rw [ht] at hrow
      refine fr_bad (bad := (imin n 0, []) :: K) hrow (FR.cons ⟨⟨by simp only; omega, fun z hz => by cases hz⟩, rfl, bysl_none _⟩ (hF.mono hle)) (by simp; omega) (rightF_false ?_)
      rw [rightStep, if_pos (.inl h1.1)]
    · refine wr_i64 (by omega) (by omega) ⟨by omega, by omega, by omega, by omega, fun zs hzl hzs az cz J1 m1 hrz => ⟨by omega, by omega, by omega, fun a5 cp J hle hrow => ?_⟩⟩
      have hz : zs = ints .u8 (List.replicate 16385 0) := by
        apply List.ext_getElem?
        intro k
        by_cases hk : k < zs.length
        · have h1 := hzs k _ (List.getElem?_eq_getElem hk)
          rw [Nat.mod_one] at h1
          rw [List.getElem?_eq_getElem hk]
          have h2 : (some (Value.int IntKind.u8 0) : Option Value) = some zs[k] := h1
          rw [← h2]
          simp only [ints, List.getElem?_map]
          rw [List.getElem?_replicate_of_lt (by omega)]
          rfl
        · rw [List.getElem?_eq_none (by omega), List.getElem?_eq_none (by simp only [ints, List.length_map, List.length_replicate]; omega)]
      have hy : BySl J1 (.slice az 16385 cz) (List.replicate 16385 0) := row_bysl (by rw [← hz]; exact hrz) (by rw [List.length_replicate])
      refine one (lastT 0 K + 1, List.replicate 16385 0) (Mem.le_trans m1 hle) ⟨by simp only; omega, fun z hz => ?_⟩ (hy.mono hle) (bad1 _ (.inr (.inr ?_))) hrow
      · rw [(List.mem_replicate.1 hz).2]; omega
      · have := leftT_le K 16384
        simp only [List.length_replicate]; omega
    · refine wr_i64 (by omega) (by omega) (wr_i64 (by omega) (by omega) ⟨by omega, by omega, by omega, fun a5 cp J hle hrow => ⟨by omega, ?_⟩⟩)
      have hok : okFld (lastT 0 K + 1, ([] : List Int)) := ⟨by simp only; omega, fun z hz => by cases hz⟩
      refine fr_bad (bad := K ++ [(lastT 0 K + 1, []), (lastT 0 K + 1, [])]) hrow (FR.app (FR.cons ⟨hok, rfl, bysl_none _⟩ (FR.cons ⟨hok, rfl, bysl_none _⟩ FR.nil)) (hF.mono hle)) (by simp; omega) (rightF_false ?_)
      rw [rightStep_app, sK2, Bool.true_and, rightStep]
      split
      · rfl
      · rw [rightStep, if_pos (.inl (Int.le_refl _))]
    · refine ⟨⟨by omega, by omega, trivial⟩, fun J1 _ m1 zs j ⟨j0, j1, hT⟩ => Br.mk (fun hlt => ?_) (fun hge => ?_)⟩
      · have hlt := of_decide_eq_true hlt
        have hzl := hT.len
        have htl : (tagsL j.toNat).length = j.toNat := by simp [tagsL]
        have hnx : tagsL (j + 1).toNat = tagsL j.toNat ++ [(1 + j, [])] := by
          rw [show (j + 1).toNat = j.toNat + 1 by omega]
          simp only [tagsL, List.range_succ, List.map_append, List.map_cons, List.map_nil]
          rw [show ((j.toNat : Nat) : Int) = j by omega]
        refine wr_i64 (by omega) (by omega) ⟨by omega, by omega, by omega, wr_i64 (by omega) (by omega) ⟨by simp, ⟨by omega, by omega, ?_⟩, by omega⟩⟩
        rw [hnx]
        exact FR.snoc hT ⟨⟨by simp only; omega, fun z hz => by cases hz⟩, rfl, bysl_none _⟩
      · have hge := of_decide_eq_false hge
        have hj : j = 65 := by omega
        subst hj
        have hzl := hT.len
        have htl : (tagsL (65 : Int).toNat).length = 65 := by simp [tagsL]
        intro a5 cp J hle hrow
        refine ⟨by omega, fr_bad hrow (hT.mono hle) (by omega) ?_⟩
        rw [rightF, htl]
        simp
  · have hK4 := hK.mono (Mem.le_trans l3 l4)
    have h1 : imin n 5 ≤ 5 ∧ -9223372036854775808 ≤ imin n 5 := by unfold imin; split <;> omega
    have h2 : imin n 0 ≤ 0 ∧ -9223372036854775808 ≤ imin n 0 := by unfold imin; split <;> omega
    generalize imin n 5 = t5 at h1 ⊢
    generalize imin n 0 = t0 at h2 ⊢
    refine (ct16 bad ba bn bc I4 hB (by omega)).mono fun v J1 m1 ⟨wa, wn, wc', hv, hw, _, _⟩ => ⟨wa, wn, wc', _, hv, ?_⟩
    rw [hbad] at hw ⊢
    have hwn : wn = 0 := hw.numLen
    have hsb : ∀ f, setF bad f = ([], 20) := fun f => by rw [setF, hbad]; rfl
    refine (ct22 bad (1, []) ⟨by simp, fun z hz => by cases hz⟩ (by simp) ba none bn bc 0 0 J1 (hB.mono m1) (by omega) (sl_nil _ _) (by omega) (by omega)).mono fun v J2 m2 ⟨sa, sn, sc, hv, hS, _, _⟩ => ⟨sa, sn, sc, _, hv, ?_⟩
    rw [hsb] at hS ⊢
    have hsn : [].length = sn := hS.len
    intro b5 J3 m3 hb5
    have hW : WntM J3 (some ⟨b5, 0, none⟩) 2 [(5, false, 0, 0), (t5, false, 0, 0)] := by
      refine ⟨sl_cells (n := 2) (sz := 4) hb5 rfl (by decide), fun w hw => ?_⟩
      simp at hw
      rcases hw with rfl | rfl
      · simp [okW]
      · simp [okW]; omega
    have rW : rightW [(5, false, 0, 0), (t5, false, 0, 0)] = false := by
      have : rightWS 0 [(5, false, 0, 0), (t5, false, 0, 0)] = false := by
        rw [rightWS, if_neg (by simp), rightWS, if_pos (.inl h1.1)]
      rw [rightW, this]; rfl
    have lA := Mem.le_trans m1 (Mem.le_trans m2 m3)
    refine (ct14 bad _ _ _ _ _ _ _ J3 (hB.mono lA) (by omega) hW (by omega)).mono fun v J4 m4 hv => ⟨_, _, hv, ?_⟩
    have e1 : suitF bad [(5, false, 0, 0), (t5, false, 0, 0)] = (0, 20) := by rw [suitF, hbad]; rfl
    rw [e1]
    refine (ct14 K _ _ _ _ _ _ _ J4 (hK4.mono (Mem.le_trans lA m4)) (by omega) (hW.mono m4) (by omega)).mono fun v J5 m5 hv => ⟨_, _, hv, ?_⟩
    have e2 : suitF K [(5, false, 0, 0), (t5, false, 0, 0)] = (0, 22) := by rw [suitF, rK, rW]; rfl
    rw [e2]
    refine (ct22 K (t0, []) ⟨by simp only; omega, fun z hz => by cases hz⟩ (by simp) ka none kn kc 0 0 J5 (hK4.mono (Mem.le_trans lA (Mem.le_trans m4 m5))) (by omega) (sl_nil _ _) (by omega) (by omega)).mono fun v J6 m6 ⟨ua, un, uc, hv, hU, _, _⟩ => ⟨ua, un, uc, _, hv, ?_⟩
    have e3 : setF K (t0, []) = ([], 20) := by
      rw [setF, rK, rightF_false (setR_low h2.1 sK)]; rfl
    rw [e3] at hU ⊢
    have hun : [].length = un := hU.len
    intro b6 J7 m7 hb6
    have hW2 : WntM J7 (some ⟨b6, 0, none⟩) 1 [(1, false, 5, 4)] := by
      refine ⟨sl_cells (n := 1) (sz := 4) hb6 rfl (by decide), fun w hw => ?_⟩
      simp at hw
      subst hw
      simp [okW]
    refine (ct14 K _ _ _ _ _ _ _ J7 (hK4.mono (Mem.le_trans lA (Mem.le_trans m4 (Mem.le_trans m5 (Mem.le_trans m6 m7))))) (by omega) hW2 (by omega)).mono fun v J8 m8 hv => ⟨_, _, hv, ?_⟩
    have e4 : suitF K [(1, false, 5, 4)] = (0, 22) := by rw [suitF, rK]; rfl
    rw [e4]
    refine (ct19 bad ba bn bc J8 (hB.mono (Mem.le_trans lA (Mem.le_trans m4 (Mem.le_trans m5 (Mem.le_trans m6 (Mem.le_trans m7 m8)))))) (by omega)).mono fun v J9 m9 hv => ⟨_, hv, ?_⟩
    rw [hbad]
    simp only [List.length_nil] at hsn hun
    refine Br.t rfl (wr_i64 (by omega) (by omega) (wr_i64 (by omega) (by omega) (wr_i64 (by omega) (by omega) (wr_i64 (by omega) (by omega) (wr_i64 (by omega) (by omega) (Br.t (by simp; omega) (Br.t rfl (Br.t rfl (Br.t rfl (Br.t rfl (Br.t rfl rfl)))))))))))
