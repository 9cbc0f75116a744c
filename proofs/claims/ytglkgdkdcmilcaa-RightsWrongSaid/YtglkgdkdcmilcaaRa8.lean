/- Part of a proof by the rules of the symbolic walk (see the law's own text): contracts of functions of the program. -/
import Derived.Test.YtglkgdkdcmilcaaRa12
open Go Go.Proofs Go.SE Go.RowKit
theorem sl_lt {I : Mem} {a : Option Addr} {cp : Nat} {xs : List Value} (h : RowM I a cp 1 xs) (k : Nat) (hk : k ≤ xs.length) :
    (a = none → k = 0) ∧ (∀ (j : Nat) (v : Value), (xs.take k)[j]? = some v → atI I a j = some v) ∧ (sladdr a cp k 1 = none → xs.length - k = 0) ∧
    (∀ (j : Nat) (v : Value), (xs.drop k)[j]? = some v → atI I (sladdr a cp k 1) j = some v) := by
  obtain ⟨h1, h2, h3, h4⟩ := h
  refine ⟨fun ha => ?_, fun j v hj => ?_, fun hs => ?_, fun j v hj => ?_⟩
  · have := (h3 ha).1
    subst this
    simp at hk
    exact hk
  · rw [List.getElem?_take] at hj
    split at hj
    · exact h4 j v hj
    · cases hj
  · unfold sladdr at hs
    split at hs
    · omega
    · cases a with
      | none => have := (h3 rfl).1; subst this; simp
      | some ad => cases hs
  · rw [List.getElem?_drop] at hj
    have hlt := (List.getElem?_eq_some_iff.1 hj).1
    have := h4 _ v hj
    unfold sladdr
    rw [if_neg (by omega)]
    cases a with
    | none => have := (h3 rfl).1; subst this; simp at hj
    | some ad =>
      simp only [Option.map_some, Nat.mul_one]
      simp only [atI, Option.bind_some] at this ⊢
      rw [add_add]
      exact this
theorem bad_chain {L : List Int} {B : Int} {k : Nat} (hk : k ≤ L.length) (hL : ∀ x ∈ L, okM [x] = true) (hB : okM [B] = false) (e : Int) :
    chainV (L.take k ++ [B, e] ++ L.drop k) = ((k : Int), 220) ∧ okM (L.take k ++ [B, e] ++ L.drop k) = false := by
  have hf : (L.take k ++ [B, e] ++ L.drop k).findIdx? (fun m => !okM [m]) = some k := by
    rw [List.findIdx?_eq_some_iff_getElem]
    have hlen : (L.take k).length = k := by simp; omega
    refine ⟨by simp; omega, ?_, fun j hj => ?_⟩
    · have : (L.take k ++ [B, e] ++ L.drop k)[k]? = some B := by
        rw [List.append_assoc, List.getElem?_append_right (by omega), hlen, Nat.sub_self]; rfl
      rw [(List.getElem?_eq_some_iff.1 this).2, hB]; rfl
    · have : (L.take k ++ [B, e] ++ L.drop k)[j]? = L[j]? := by
        rw [List.append_assoc, List.getElem?_append_left (by omega), List.getElem?_take, if_pos hj]
      rw [List.getElem?_eq_getElem (l := L) (by omega)] at this
      rw [(List.getElem?_eq_some_iff.1 this).2, hL _ (List.getElem_mem _)]; simp
  refine ⟨by simp only [chainV, hf], ?_⟩
  cases ho : okM (L.take k ++ [B, e] ++ L.drop k) with
  | false => rfl
  | true =>
    have : ∀ m ∈ (L.take k ++ [B, e] ++ L.drop k), okM [m] = true := okM_all.1 ho
    rw [this B (by simp)] at hB
    cases hB
set_option maxRecDepth 100000 in
set_option linter.unusedVariables false in
set_option maxHeartbeats 4000000 in
theorem ct9 (I : Mem) (p : Int) (hp : 0 ≤ p ∧ p ≤ 255) (q : Int) (hq : 0 ≤ q ∧ q ≤ 255) (a : Option Addr) (n c : Nat) (zs : List Int) (sl : SlM I a n 1 (ints .u8 zs)) (hc : n ≤ c) (hm : c ≤ maxLen) (hz : ∀ z ∈ zs, 0 ≤ z ∧ z ≤ 255)
    (w : Int) (hw : 0 ≤ w ∧ w ≤ 255) : Ct Try.prog (fnv 9) #[.int .u8 p, .int .u8 q, .slice a n c, .int .u8 w] I (fun v _ => v = .bool true) := by
  refine viaR (ct_via (A := { hands := [(24, [1])], loops := [(10, ⟨[(2, .keep), (3, .keep), (9, .keep), (10, .keep), (19, .keep), (76, .keep), (77, .keep), (78, .sh (.int .i64))], [(0, .vec)], [], fun vals xss _ _ => match vals, xss with | [.int .i64 j], [xs] => 0 ≤ j ∧ j ≤ 7 ∧ xs = ints .i64 [220, 220, 220, 220, 220, 220, 220] | _, _ => False, fun vals _ => match vals with | [.int .i64 j] => (7 - j).toNat | _ => 0⟩),
    (19, ⟨[(3, .keep), (9, .keep), (23, .row 1), (115, .keep), (116, .keep), (117, .sh (.int .i64))], [(1, .row)], [(23, 1, 26)], fun vals xss _ _ => match vals, xss with | [.int .i64 j], [xs] => 0 ≤ j ∧ j ≤ imin n 30 ∧ xs = ints .u8 ((zs.take j.toNat).map (· % 16)) | _, _ => False, fun vals _ => match vals with | [.int .i64 j] => (imin n 30 - j).toNat | _ => 0⟩)] }) Try.func9 rfl Try.call9 rfl rfl) (Ct Try.prog (Value.func (Fn.func (13 : Nat)) #[] #[]) #[] I fun (v : Value) (I' : Mem) => ∃ (b : Bool), v = Value.bool b ∧ Br (!b) (Value.bool false = Value.bool true) ((16 : Int) ≠ (0 : Int) ∧ Ct Try.prog (Value.func (Fn.func (20 : Nat)) #[] #[]) #[Value.int IntKind.u8 (bif true then imax p (16 : Int) else imin p (16 : Int)), Value.int IntKind.u8 (Int.tmod q (16 : Int))] I' fun (v : Value) (I' : Mem) => ∃ (n_1 : Int), ∃ (n_2 : Int), v = Value.tuple #[Value.int IntKind.u8 n_1, Value.int IntKind.i64 n_2] ∧ Ct Try.prog (Value.func (Fn.func (21 : Nat)) #[] #[]) #[Value.int IntKind.u8 (Int.tmod q (16 : Int)), Value.int IntKind.u8 (bif true then imax p (16 : Int) else imin p (16 : Int))] I' fun (v : Value) (I' : Mem) => ∃ (n_3 : Int), ∃ (n_4 : Int), v = Value.tuple #[Value.int IntKind.u8 n_3, Value.int IntKind.i64 n_4] ∧ Ct Try.prog (Value.func (Fn.func (22 : Nat)) #[] #[]) #[Value.int IntKind.u8 (Int.tmod q (16 : Int)), Value.int IntKind.u8 (bif true then imax p (16 : Int) else imin p (16 : Int))] I' fun (v : Value) (I' : Mem) => ∃ (n_5 : Int), ∃ (n_6 : Int), v = Value.tuple #[Value.int IntKind.u8 n_5, Value.int IntKind.i64 n_6] ∧ Ct Try.prog (Value.func (Fn.func (19 : Nat)) #[] #[]) #[Value.int IntKind.u8 (bif true then imax p (16 : Int) else imin p (16 : Int))] I' fun (v : Value) (I' : Mem) => ∃ (n_7 : Int), ∃ (n_8 : Int), v = Value.tuple #[Value.int IntKind.u8 n_7, Value.int IntKind.i64 n_8] ∧ Ct Try.prog (Value.func (Fn.func (26 : Nat)) #[] #[]) #[Value.int IntKind.u8 (bif true then imax p (16 : Int) else imin p (16 : Int))] I' fun (v : Value) (I' : Mem) => ∃ (q_1 : ByteArray), ∃ (n_9 : Int), v = Value.tuple #[Value.string q_1, Value.int IntKind.i64 n_9] ∧ Ct Try.prog (Value.func (Fn.func (15 : Nat)) #[] #[]) #[Value.int IntKind.u8 (bif true then imax p (16 : Int) else imin p (16 : Int)), Value.int IntKind.u8 (Int.tmod q (16 : Int))] I' fun (v : Value) (I' : Mem) => ∃ (n_10 : Int), v = Value.int IntKind.i64 n_10 ∧ Ct Try.prog (Value.func (Fn.func (15 : Nat)) #[] #[]) #[Value.int IntKind.u8 (Int.tmod q (16 : Int)), Value.int IntKind.u8 (bif true then imax p (16 : Int) else imin p (16 : Int))] I' fun (v : Value) (I' : Mem) => ∃ (n_11 : Int), v = Value.int IntKind.i64 n_11 ∧ ((none : Option Nat) = none ∧ SV.v (Value.slice a n c) = SV.v (Value.slice a n c) ∧ SV.v (Value.int IntKind.u8 w) = SV.v (Value.int IntKind.u8 w) ∧ SV.v (Value.int IntKind.u8 (bif true then imax p (16 : Int) else imin p (16 : Int))) = SV.v (Value.int IntKind.u8 (bif true then imax p (16 : Int) else imin p (16 : Int))) ∧ SV.v (Value.int IntKind.u8 (Int.tmod q (16 : Int))) = SV.v (Value.int IntKind.u8 (Int.tmod q (16 : Int))) ∧ SV.v (Value.string q_1) = SV.v (Value.string q_1) ∧ SV.xsl (0 : Nat) (0 : Nat) (7 : Nat) (7 : Nat) = SV.xsl (0 : Nat) (0 : Nat) (7 : Nat) (7 : Nat) ∧ SV.v (Value.int IntKind.i64 (7 : Int)) = SV.v (Value.int IntKind.i64 (7 : Int)) ∧ (0 : Int) ≤ (0 : Int) ∧ (0 : Int) ≤ (7 : Int) ∧ [Value.int IntKind.i64 n_2, Value.int IntKind.i64 n_4, Value.int IntKind.i64 n_6, Value.int IntKind.i64 n_8, Value.int IntKind.i64 n_9, Value.int IntKind.i64 n_10, Value.int IntKind.i64 n_11] = [Value.int IntKind.i64 (220 : Int), Value.int IntKind.i64 (220 : Int), Value.int IntKind.i64 (220 : Int), Value.int IntKind.i64 (220 : Int), Value.int IntKind.i64 (220 : Int), Value.int IntKind.i64 (220 : Int), Value.int IntKind.i64 (220 : Int)]) ∧ ∀ (I'_1 G' : Mem), Mem.le I' I'_1 → ∀ (xs : List Value) (n_12 : Int), (0 : Int) ≤ n_12 ∧ n_12 ≤ (7 : Int) ∧ xs = [Value.int IntKind.i64 (220 : Int), Value.int IntKind.i64 (220 : Int), Value.int IntKind.i64 (220 : Int), Value.int IntKind.i64 (220 : Int), Value.int IntKind.i64 (220 : Int), Value.int IntKind.i64 (220 : Int), Value.int IntKind.i64 (220 : Int)] → Br (decide (n_12 < (7 : Int))) ((0 : Int) ≤ n_12 ∧ n_12 < (7 : Int) ∧ ∃ (n_13 : Int), xs[(0 : Nat) + Int.toNat n_12 * (1 : Nat) + (0 : Nat)]? = some (Value.int IntKind.i64 n_13) ∧ Br (n_13 != (220 : Int)) (Value.bool false = Value.bool true) (Wr IntKind.i64 (n_12 + (1 : Int)) fun (c_1 : Int) => (none : Option Nat) = none ∧ SV.v (Value.slice a n c) = SV.v (Value.slice a n c) ∧ SV.v (Value.int IntKind.u8 w) = SV.v (Value.int IntKind.u8 w) ∧ SV.v (Value.int IntKind.u8 (bif true then imax p (16 : Int) else imin p (16 : Int))) = SV.v (Value.int IntKind.u8 (bif true then imax p (16 : Int) else imin p (16 : Int))) ∧ SV.v (Value.int IntKind.u8 (Int.tmod q (16 : Int))) = SV.v (Value.int IntKind.u8 (Int.tmod q (16 : Int))) ∧ SV.v (Value.string q_1) = SV.v (Value.string q_1) ∧ SV.xsl (0 : Nat) (0 : Nat) (7 : Nat) (7 : Nat) = SV.xsl (0 : Nat) (0 : Nat) (7 : Nat) (7 : Nat) ∧ SV.v (Value.int IntKind.i64 (7 : Int)) = SV.v (Value.int IntKind.i64 (7 : Int)) ∧ ((0 : Int) ≤ c_1 ∧ c_1 ≤ (7 : Int) ∧ xs = [Value.int IntKind.i64 (220 : Int), Value.int IntKind.i64 (220 : Int), Value.int IntKind.i64 (220 : Int), Value.int IntKind.i64 (220 : Int), Value.int IntKind.i64 (220 : Int), Value.int IntKind.i64 (220 : Int), Value.int IntKind.i64 (220 : Int)]) ∧ Int.toNat ((7 : Int) - c_1) < Int.toNat ((7 : Int) - n_12))) (Br (!ByteArray.toList q_1 == ByteArray.toList (ByteArray.mk #[])) (Value.bool false = Value.bool true) (Ct Try.prog (Value.func (Fn.func (27 : Nat)) #[] #[]) #[Value.int IntKind.u8 (bif true then imax p (16 : Int) else imin p (16 : Int))] I'_1 fun (v : Value) (I' : Mem) => ∃ (b : Bool), v = Value.bool b ∧ Br b (Value.bool false = Value.bool true) (Ct Try.prog (Value.func (Fn.func (27 : Nat)) #[] #[]) #[Value.int IntKind.u8 (Int.tmod q (16 : Int))] I' fun (v : Value) (I' : Mem) => ∃ (b : Bool), v = Value.bool b ∧ Br (!b) (Value.bool false = Value.bool true) (Ct Try.prog (Value.func (Fn.func (16 : Nat)) #[] #[]) #[Value.int IntKind.u8 (bif true then imax p (16 : Int) else imin p (16 : Int)), Value.int IntKind.u8 (bif true then imax p (16 : Int) else imin p (16 : Int))] I' fun (v : Value) (I' : Mem) => ∃ (b : Bool), v = Value.bool b ∧ Br b (Value.bool false = Value.bool true) (Ct Try.prog (Value.func (Fn.func (16 : Nat)) #[] #[]) #[Value.int IntKind.u8 (Int.tmod q (16 : Int)), Value.int IntKind.u8 (bif true then imax p (16 : Int) else imin p (16 : Int))] I' fun (v : Value) (I' : Mem) => ∃ (b : Bool), v = Value.bool b ∧ Br b (Value.bool false = Value.bool true) (Ct Try.prog (Value.func (Fn.func (23 : Nat)) #[] #[]) #[Value.int IntKind.u8 (bif true then imax p (16 : Int) else imin p (16 : Int))] I' fun (v : Value) (I' : Mem) => ∃ (n_13 : Int), v = Value.int IntKind.i64 n_13 ∧ Br (n_13 != (0 : Int)) (Value.bool false = Value.bool true) (((0 : Int) ≤ bif false then imax (↑n : Int) (30 : Int) else imin (↑n : Int) (30 : Int)) ∧ (bif false then imax (↑n : Int) (30 : Int) else imin (↑n : Int) (30 : Int)) ≤ (↑c : Int) ∧ (SV.v (Value.int IntKind.u8 w) = SV.v (Value.int IntKind.u8 w) ∧ SV.v (Value.int IntKind.u8 (bif true then imax p (16 : Int) else imin p (16 : Int))) = SV.v (Value.int IntKind.u8 (bif true then imax p (16 : Int) else imin p (16 : Int))) ∧ (0 : Nat) = (0 : Nat) ∧ SV.v (Value.slice a (Int.toNat (bif false then imax (↑n : Int) (30 : Int) else imin (↑n : Int) (30 : Int))) c) = SV.v (Value.slice a (Int.toNat (bif false then imax (↑n : Int) (30 : Int) else imin (↑n : Int) (30 : Int))) c) ∧ SV.v (Value.int IntKind.i64 (↑(Int.toNat (bif false then imax (↑n : Int) (30 : Int) else imin (↑n : Int) (30 : Int))) : Int)) = SV.v (Value.int IntKind.i64 (↑(Int.toNat (bif false then imax (↑n : Int) (30 : Int) else imin (↑n : Int) (30 : Int))) : Int)) ∧ (0 : Int) ≤ (0 : Int) ∧ (0 : Int) ≤ imin (↑n : Int) (30 : Int) ∧ ([] : List Value) = []) ∧ ∀ (I'_2 G' : Mem), Mem.le I' I'_2 → ∀ (xs : List Value) (n_14 : Int), (0 : Int) ≤ n_14 ∧ n_14 ≤ imin (↑n : Int) (30 : Int) ∧ xs = List.map (Value.int IntKind.u8) (List.map (fun (x : Int) => x % (16 : Int)) (List.take (Int.toNat n_14) zs)) → Br (decide (n_14 < (↑(Int.toNat (bif false then imax (↑n : Int) (30 : Int) else imin (↑n : Int) (30 : Int))) : Int))) ((0 : Int) ≤ n_14 ∧ n_14 < (↑(Int.toNat (bif false then imax (↑n : Int) (30 : Int) else imin (↑n : Int) (30 : Int))) : Int) ∧ Option.isSome a = true ∧ ∃ (n_15 : Int), atI I'_2 a (Int.toNat n_14 * (1 : Nat) + (0 : Nat)) = some (Value.int IntKind.u8 n_15) ∧ (16 : Int) ≠ (0 : Int) ∧ List.length xs = List.length xs * (1 : Nat) ∧ List.length xs + (1 : Nat) ≤ (9223372036854775807 : Nat) ∧ (List.length xs + (1 : Nat)) * (1 : Nat) ≤ (140737488355328 : Nat) ∧ Wr IntKind.i64 (n_14 + (1 : Int)) fun (c_1 : Int) => SV.v (Value.int IntKind.u8 w) = SV.v (Value.int IntKind.u8 w) ∧ SV.v (Value.int IntKind.u8 (bif true then imax p (16 : Int) else imin p (16 : Int))) = SV.v (Value.int IntKind.u8 (bif true then imax p (16 : Int) else imin p (16 : Int))) ∧ List.length xs + (1 : Nat) = List.length (xs ++ [Value.int IntKind.u8 (Int.tmod n_15 (16 : Int))]) ∧ SV.v (Value.slice a (Int.toNat (bif false then imax (↑n : Int) (30 : Int) else imin (↑n : Int) (30 : Int))) c) = SV.v (Value.slice a (Int.toNat (bif false then imax (↑n : Int) (30 : Int) else imin (↑n : Int) (30 : Int))) c) ∧ SV.v (Value.int IntKind.i64 (↑(Int.toNat (bif false then imax (↑n : Int) (30 : Int) else imin (↑n : Int) (30 : Int))) : Int)) = SV.v (Value.int IntKind.i64 (↑(Int.toNat (bif false then imax (↑n : Int) (30 : Int) else imin (↑n : Int) (30 : Int))) : Int)) ∧ ((0 : Int) ≤ c_1 ∧ c_1 ≤ imin (↑n : Int) (30 : Int) ∧ xs ++ [Value.int IntKind.u8 (Int.tmod n_15 (16 : Int))] = List.map (Value.int IntKind.u8) (List.map (fun (x : Int) => x % (16 : Int)) (List.take (Int.toNat c_1) zs))) ∧ Int.toNat (imin (↑n : Int) (30 : Int) - c_1) < Int.toNat (imin (↑n : Int) (30 : Int) - n_14)) (Wr IntKind.i64 w fun (c : Int) => Wr IntKind.i64 ((↑(List.length xs) : Int) + (1 : Int)) fun (c_1 : Int) => c_1 ≠ (0 : Int) ∧ ∀ (a : Option Addr) (cp : Nat) (I' : Mem), Mem.le I'_2 I' → RowM I' a cp (1 : Nat) xs → (0 : Int) ≤ Int.tmod c c_1 ∧ Int.tmod c c_1 ≤ (↑cp : Int) ∧ (0 : Int) ≤ Int.tmod c c_1 ∧ Int.tmod c c_1 ≤ (↑(List.length xs) : Int) ∧ ((∃ (ys : List Value), List.length ys = Int.toNat (Int.tmod c c_1) * (1 : Nat) ∧ (a = none → Int.toNat (Int.tmod c c_1) = (0 : Nat)) ∧ (∀ (j : Nat) (v : Value), ys[j]? = some v → atI I' a j = some v) ∧ (∀ (v : Value), v ∈ ys → Value.oneCell' v = true) ∧ (0 : Nat) = (0 : Nat) ∧ (0 : Nat) + Int.toNat (Int.tmod c c_1) ≤ (9223372036854775807 : Nat) ∧ ((0 : Nat) + Int.toNat (Int.tmod c c_1)) * (1 : Nat) ≤ (140737488355328 : Nat) ∧ List.length ys = ((0 : Nat) + Int.toNat (Int.tmod c c_1)) * (1 : Nat) ∧ (0 : Nat) + Int.toNat (Int.tmod c c_1) + (2 : Nat) ≤ (9223372036854775807 : Nat) ∧ ((0 : Nat) + Int.toNat (Int.tmod c c_1) + (2 : Nat)) * (1 : Nat) ≤ (140737488355328 : Nat) ∧ ∃ (ys_1 : List Value), List.length ys_1 = (List.length xs - Int.toNat (Int.tmod c c_1)) * (1 : Nat) ∧ (sladdr a cp (Int.toNat (Int.tmod c c_1)) (1 : Nat) = none → List.length xs - Int.toNat (Int.tmod c c_1) = (0 : Nat)) ∧ (∀ (j : Nat) (v : Value), ys_1[j]? = some v → atI I' (sladdr a cp (Int.toNat (Int.tmod c c_1)) (1 : Nat)) j = some v) ∧ (∀ (v : Value), v ∈ ys_1 → Value.oneCell' v = true) ∧ List.length (ys ++ [Value.int IntKind.u8 (bif true then imax p (16 : Int) else imin p (16 : Int)), Value.int IntKind.u8 (255 : Int)]) = ((0 : Nat) + Int.toNat (Int.tmod c c_1) + (2 : Nat)) * (1 : Nat) ∧ (0 : Nat) + Int.toNat (Int.tmod c c_1) + (2 : Nat) + (List.length xs - Int.toNat (Int.tmod c c_1)) ≤ (9223372036854775807 : Nat) ∧ ((0 : Nat) + Int.toNat (Int.tmod c c_1) + (2 : Nat) + (List.length xs - Int.toNat (Int.tmod c c_1))) * (1 : Nat) ≤ (140737488355328 : Nat) ∧ ∀ (a : Option Addr) (cp : Nat) (I'_3 : Mem), Mem.le I' I'_3 → RowM I'_3 a cp (1 : Nat) (ys ++ [Value.int IntKind.u8 (bif true then imax p (16 : Int) else imin p (16 : Int)), Value.int IntKind.u8 (255 : Int)] ++ ys_1) → Ct Try.prog (Value.func (Fn.func (14 : Nat)) #[] #[]) #[Value.slice a ((0 : Nat) + Int.toNat (Int.tmod c c_1) + (2 : Nat) + (List.length xs - Int.toNat (Int.tmod c c_1))) cp] I'_3 fun (v : Value) (I' : Mem) => ∃ (n : Int), ∃ (n_15 : Int), v = Value.tuple #[Value.int IntKind.i64 n, Value.int IntKind.i64 n_15] ∧ Ct Try.prog (Value.func (Fn.func (17 : Nat)) #[] #[]) #[Value.slice a ((0 : Nat) + Int.toNat (Int.tmod c c_1) + (2 : Nat) + (List.length xs - Int.toNat (Int.tmod c c_1))) cp] I' fun (v : Value) (I' : Mem) => ∃ (n_16 : Int), ∃ (n_17 : Int), v = Value.tuple #[Value.int IntKind.u8 n_16, Value.int IntKind.i64 n_17] ∧ Br (n == Int.tmod c c_1) (Br (n_15 == (220 : Int)) (Br (n_16 == (0 : Int)) (Value.bool (n_17 == (220 : Int)) = Value.bool true) (Value.bool false = Value.bool true)) (Value.bool false = Value.bool true)) (Value.bool false = Value.bool true)) ∧ ∃ (ys : List Value), List.length ys = Int.toNat (Int.tmod c c_1) * (1 : Nat) ∧ (a = none → Int.toNat (Int.tmod c c_1) = (0 : Nat)) ∧ (∀ (j : Nat) (v : Value), ys[j]? = some v → atI I' a j = some v) ∧ (∀ (v : Value), v ∈ ys → Value.oneCell' v = true) ∧ (0 : Nat) = (0 : Nat) ∧ (0 : Nat) + Int.toNat (Int.tmod c c_1) ≤ (9223372036854775807 : Nat) ∧ ((0 : Nat) + Int.toNat (Int.tmod c c_1)) * (1 : Nat) ≤ (140737488355328 : Nat) ∧ List.length ys = ((0 : Nat) + Int.toNat (Int.tmod c c_1)) * (1 : Nat) ∧ (0 : Nat) + Int.toNat (Int.tmod c c_1) + (2 : Nat) ≤ (9223372036854775807 : Nat) ∧ ((0 : Nat) + Int.toNat (Int.tmod c c_1) + (2 : Nat)) * (1 : Nat) ≤ (140737488355328 : Nat) ∧ ∃ (ys_1 : List Value), List.length ys_1 = (List.length xs - Int.toNat (Int.tmod c c_1)) * (1 : Nat) ∧ (sladdr a cp (Int.toNat (Int.tmod c c_1)) (1 : Nat) = none → List.length xs - Int.toNat (Int.tmod c c_1) = (0 : Nat)) ∧ (∀ (j : Nat) (v : Value), ys_1[j]? = some v → atI I' (sladdr a cp (Int.toNat (Int.tmod c c_1)) (1 : Nat)) j = some v) ∧ (∀ (v : Value), v ∈ ys_1 → Value.oneCell' v = true) ∧ List.length (ys ++ [Value.int IntKind.u8 (bif true then imax p (16 : Int) else imin p (16 : Int)), Value.int IntKind.u8 (255 : Int)]) = ((0 : Nat) + Int.toNat (Int.tmod c c_1) + (2 : Nat)) * (1 : Nat) ∧ (0 : Nat) + Int.toNat (Int.tmod c c_1) + (2 : Nat) + (List.length xs - Int.toNat (Int.tmod c c_1)) ≤ (9223372036854775807 : Nat) ∧ ((0 : Nat) + Int.toNat (Int.tmod c c_1) + (2 : Nat) + (List.length xs - Int.toNat (Int.tmod c c_1))) * (1 : Nat) ≤ (140737488355328 : Nat) ∧ ∀ (a : Option Addr) (cp : Nat) (I'_3 : Mem), Mem.le I' I'_3 → RowM I'_3 a cp (1 : Nat) (ys ++ [Value.int IntKind.u8 (bif true then imax p (16 : Int) else imin p (16 : Int)), Value.int IntKind.u8 (255 : Int)] ++ ys_1) → Ct Try.prog (Value.func (Fn.func (14 : Nat)) #[] #[]) #[Value.slice a ((0 : Nat) + Int.toNat (Int.tmod c c_1) + (2 : Nat) + (List.length xs - Int.toNat (Int.tmod c c_1))) cp] I'_3 fun (v : Value) (I' : Mem) => ∃ (n : Int), ∃ (n_15 : Int), v = Value.tuple #[Value.int IntKind.i64 n, Value.int IntKind.i64 n_15] ∧ Ct Try.prog (Value.func (Fn.func (17 : Nat)) #[] #[]) #[Value.slice a ((0 : Nat) + Int.toNat (Int.tmod c c_1) + (2 : Nat) + (List.length xs - Int.toNat (Int.tmod c c_1))) cp] I' fun (v : Value) (I' : Mem) => ∃ (n_16 : Int), ∃ (n_17 : Int), v = Value.tuple #[Value.int IntKind.u8 n_16, Value.int IntKind.i64 n_17] ∧ Br (n == Int.tmod c c_1) (Br (n_15 == (220 : Int)) (Br (n_16 == (0 : Int)) (Value.bool (n_17 == (220 : Int)) = Value.bool true) (Value.bool false = Value.bool true)) (Value.bool false = Value.bool true)) (Value.bool false = Value.bool true)) ∧ ∃ (ys : List Value), List.length ys = Int.toNat (Int.tmod c c_1) * (1 : Nat) ∧ (a = none → Int.toNat (Int.tmod c c_1) = (0 : Nat)) ∧ (∀ (j : Nat) (v : Value), ys[j]? = some v → atI I' a j = some v) ∧ (∀ (v : Value), v ∈ ys → Value.oneCell' v = true) ∧ (0 : Nat) = (0 : Nat) ∧ (0 : Nat) + Int.toNat (Int.tmod c c_1) ≤ (9223372036854775807 : Nat) ∧ ((0 : Nat) + Int.toNat (Int.tmod c c_1)) * (1 : Nat) ≤ (140737488355328 : Nat) ∧ List.length ys = ((0 : Nat) + Int.toNat (Int.tmod c c_1)) * (1 : Nat) ∧ (0 : Nat) + Int.toNat (Int.tmod c c_1) + (2 : Nat) ≤ (9223372036854775807 : Nat) ∧ ((0 : Nat) + Int.toNat (Int.tmod c c_1) + (2 : Nat)) * (1 : Nat) ≤ (140737488355328 : Nat) ∧ ∃ (ys_1 : List Value), List.length ys_1 = (List.length xs - Int.toNat (Int.tmod c c_1)) * (1 : Nat) ∧ (sladdr a cp (Int.toNat (Int.tmod c c_1)) (1 : Nat) = none → List.length xs - Int.toNat (Int.tmod c c_1) = (0 : Nat)) ∧ (∀ (j : Nat) (v : Value), ys_1[j]? = some v → atI I' (sladdr a cp (Int.toNat (Int.tmod c c_1)) (1 : Nat)) j = some v) ∧ (∀ (v : Value), v ∈ ys_1 → Value.oneCell' v = true) ∧ List.length (ys ++ [Value.int IntKind.u8 (bif true then imax p (16 : Int) else imin p (16 : Int)), Value.int IntKind.u8 (255 : Int)]) = ((0 : Nat) + Int.toNat (Int.tmod c c_1) + (2 : Nat)) * (1 : Nat) ∧ (0 : Nat) + Int.toNat (Int.tmod c c_1) + (2 : Nat) + (List.length xs - Int.toNat (Int.tmod c c_1)) ≤ (9223372036854775807 : Nat) ∧ ((0 : Nat) + Int.toNat (Int.tmod c c_1) + (2 : Nat) + (List.length xs - Int.toNat (Int.tmod c c_1))) * (1 : Nat) ≤ (140737488355328 : Nat) ∧ ∀ (a : Option Addr) (cp : Nat) (I'_3 : Mem), Mem.le I' I'_3 → RowM I'_3 a cp (1 : Nat) (ys ++ [Value.int IntKind.u8 (bif true then imax p (16 : Int) else imin p (16 : Int)), Value.int IntKind.u8 (255 : Int)] ++ ys_1) → Ct Try.prog (Value.func (Fn.func (14 : Nat)) #[] #[]) #[Value.slice a ((0 : Nat) + Int.toNat (Int.tmod c c_1) + (2 : Nat) + (List.length xs - Int.toNat (Int.tmod c c_1))) cp] I'_3 fun (v : Value) (I' : Mem) => ∃ (n : Int), ∃ (n_15 : Int), v = Value.tuple #[Value.int IntKind.i64 n, Value.int IntKind.i64 n_15] ∧ Ct Try.prog (Value.func (Fn.func (17 : Nat)) #[] #[]) #[Value.slice a ((0 : Nat) + Int.toNat (Int.tmod c c_1) + (2 : Nat) + (List.length xs - Int.toNat (Int.tmod c c_1))) cp] I' fun (v : Value) (I' : Mem) => ∃ (n_16 : Int), ∃ (n_17 : Int), v = Value.tuple #[Value.int IntKind.u8 n_16, Value.int IntKind.i64 n_17] ∧ Br (n == Int.tmod c c_1) (Br (n_15 == (220 : Int)) (Br (n_16 == (0 : Int)) (Value.bool (n_17 == (220 : Int)) = Value.bool true) (Value.bool false = Value.bool true)) (Value.bool false = Value.bool true)) (Value.bool false = Value.bool true))))))))))) (by kernel_rfl) ?_
  simp only [cond_true, cond_false, str_eq, eq_self, true_and, and_true]
  have hB1 : 16 ≤ imax p 16 ∧ imax p 16 ≤ 255 := by unfold imax; split <;> omega
  generalize imax p 16 = B at hB1 ⊢
  have hN : 0 ≤ imin (n : Int) 30 ∧ imin (n : Int) 30 ≤ n ∧ imin (n : Int) 30 ≤ 30 := by unfold imin; split <;> omega
  generalize imin (n : Int) 30 = N at hN ⊢
  have hG : 0 ≤ q.tmod 16 ∧ q.tmod 16 ≤ 15 := by rw [Int.tmod_eq_emod_of_nonneg hq.1]; omega
  generalize q.tmod 16 = G at hG ⊢
  have hnlen := sl.numLen
  have oB : okM [B] = false := by simp only [okM, List.any_cons, List.any_nil, Bool.or_false]; rw [decide_eq_true (by omega)]; rfl
  have oG : okM [G] = true := okM_lt (by omega)
  have o1 : ∀ x, okM [B, x] = false := fun x => by simp only [okM, List.any_cons, List.any_nil, Bool.or_false]; rw [decide_eq_true (by omega : (15 : Int) < B)]; rfl
  have o2 : ∀ x, okM [x, B] = false := fun x => by simp only [okM, List.any_cons, List.any_nil, Bool.or_false]; rw [decide_eq_true (by omega : (15 : Int) < B)]; simp
  have eB : ∀ x, (if okM [B, x] = true then (0 : Int) else 220) = 220 := fun x => by rw [o1]; rfl
  have eB' : ∀ x, (if okM [x, B] = true then (0 : Int) else 220) = 220 := fun x => by rw [o2]; rfl
  have eB1 : (if okM [B] = true then (0 : Int) else 220) = 220 := by rw [oB]; rfl
  have hd1 : ∀ x, handV B x = 220 := fun x => by rw [handV, if_neg (by rw [o1]; decide)]
  have hd2 : ∀ x, handV x B = 220 := fun x => by rw [handV, if_neg (by rw [o2]; decide)]
  have tB : textV B = ⟨#[]⟩ := by rw [textV, if_neg (by rw [oB]; decide)]
  have cB : countV B = 0 := by rw [countV, if_neg (by rw [oB]; decide)]
  refine (ct13 I).mono fun v I0 l0 hv => ⟨_, hv, Br.f rfl ⟨by decide, ?_⟩⟩
  refine (ct20 B G I0).mono fun v I1 l1 hv => ⟨_, _, hv, ?_⟩
  refine (ct21 G B I1).mono fun v I2 l2 hv => ⟨_, _, hv, ?_⟩
  refine (ct22 G B I2).mono fun v I3 l3 hv => ⟨_, _, hv, ?_⟩
  refine (ct19 B I3).mono fun v I4 l4 hv => ⟨_, _, hv, ?_⟩
  refine (ct26 B I4).mono fun v I5 l5 hv => ⟨_, _, hv, ?_⟩
  refine (ct15 B G I5).mono fun v I6 l6 hv => ⟨_, hv, ?_⟩
  refine (ct15 G B I6).mono fun v I7 l7 hv => ⟨_, hv, ⟨by omega, by omega, ?_⟩, fun I8 G8 l8 xs j ⟨h0, h1, h2⟩ => Br.mk (fun hlt => ?_) (fun _ => ?_)⟩
  · rw [eB, eB', eB1, hd1, hd2]
  · have hlt := of_decide_eq_true hlt
    subst h2
    refine ⟨h0, hlt, 220, ?_, Br.f rfl (wr_i64 (by omega) (by omega) ⟨⟨by omega, by omega, rfl⟩, by omega⟩)⟩
    rcases (by omega : j = 0 ∨ j = 1 ∨ j = 2 ∨ j = 3 ∨ j = 4 ∨ j = 5 ∨ j = 6) with rfl | rfl | rfl | rfl | rfl | rfl | rfl <;> rfl
  refine Br.f (by rw [tB]; rfl) ?_
  refine (ct27 B I8).mono fun v I9 l9 hv => ⟨_, hv, Br.f oB ?_⟩
  refine (ct27 G I9).mono fun v I10 l10 hv => ⟨_, hv, Br.f (by rw [oG]; rfl) ?_⟩
  refine (ct16 B B I10).mono fun v I11 l11 hv => ⟨_, hv, Br.f (by rw [o1]; rfl) ?_⟩
  refine (ct16 G B I11).mono fun v I12 l12 hv => ⟨_, hv, Br.f (by rw [o2]; rfl) ?_⟩
  refine (ct23 B I12).mono fun v I13 l13 hv => ⟨_, hv, Br.f (by rw [cB]; rfl) ⟨hN.1, by omega, ⟨by omega, by omega⟩, fun I14 G14 l14 xs j ⟨h0, h1, h2⟩ => Br.mk (fun hlt => ?_) (fun hge => ?_)⟩⟩
  · have hlt := of_decide_eq_true hlt
    have lall : I.le I14 := Mem.le_trans l0 (Mem.le_trans l1 (Mem.le_trans l2 (Mem.le_trans l3 (Mem.le_trans l4 (Mem.le_trans l5 (Mem.le_trans l6 (Mem.le_trans l7 (Mem.le_trans l8 (Mem.le_trans l9 (Mem.le_trans l10 (Mem.le_trans l11 (Mem.le_trans l12 (Mem.le_trans l13 l14)))))))))))))
    obtain ⟨x, hx, hat⟩ := (sl.mono lall).intAt h0 (by omega)
    have hxr := hz _ (List.mem_of_getElem? hx)
    have hlen : xs.length ≤ 30 := by subst h2; simp; omega
    have hmod : x.tmod 16 = x % 16 := Int.tmod_eq_emod_of_nonneg hxr.1
    refine ⟨h0, by omega, sl.isSome (by omega), x, hat, by decide, by omega, by omega, by omega, wr_i64 (by omega) (by omega) ⟨by simp, ⟨by omega, by omega, ?_⟩, by omega⟩⟩
    rw [show (j + 1).toNat = j.toNat + 1 by omega, take_succ' hx, h2, hmod]
    simp
  · have hge := of_decide_eq_false hge
    have hj : j = N := by omega
    subst hj
    have hL : ∀ x ∈ (zs.take j.toNat).map (· % 16), okM [x] = true := fun x hx => by
      obtain ⟨y, _, rfl⟩ := List.mem_map.1 hx
      exact okM_lt (by omega)
    have hxs : xs = ints .u8 ((zs.take j.toNat).map (· % 16)) := h2
    have hL30 : ((zs.take j.toNat).map (· % 16)).length ≤ 30 := by simp; omega
    generalize (zs.take j.toNat).map (· % 16) = L at hL hxs hL30
    clear h2
    subst hxs
    have hLl : (ints .u8 L).length = L.length := ints_len
    rw [hLl]
    refine wr_i64 (by omega) (by omega) (wr_i64 (by omega) (by omega) ⟨by omega, fun ar cp I15 l15 hrow => ?_⟩)
    have hk0 : 0 ≤ w.tmod (L.length + 1) := Int.tmod_nonneg _ hw.1
    have hk1 : w.tmod (L.length + 1) < L.length + 1 := Int.tmod_lt_of_pos _ (by omega)
    generalize hK : w.tmod (L.length + 1) = K at hk0 hk1 ⊢
    have hcp : (L.length : Int) ≤ cp := by have := hrow.1; rw [hLl] at this; omega
    have hsl := sl_lt hrow K.toNat (by rw [hLl]; omega)
    rw [hLl] at hsl
    have one : ∀ (l : List Int) (v : Value), v ∈ ints .u8 l → v.oneCell' = true := fun l v hv => by
      simp only [ints, List.mem_map] at hv
      obtain ⟨z, _, rfl⟩ := hv
      rfl
    have hch := bad_chain (L := L) (B := B) (k := K.toNat) (by omega) hL oB 255
    have dup3 : ∀ {Q : Prop}, Q → (Q ∧ Q) ∧ Q := fun h => ⟨⟨h, h⟩, h⟩
    refine ⟨hk0, by omega, hk0, by omega, dup3 ?_⟩
    have ht : (ints .u8 L).take K.toNat = ints .u8 (L.take K.toNat) := by simp [ints, List.map_take]
    have hdr : (ints .u8 L).drop K.toNat = ints .u8 (L.drop K.toNat) := by simp [ints, List.map_drop]
    rw [ht, hdr] at hsl
    refine ⟨ints .u8 (L.take K.toNat), by rw [ints_len, List.length_take]; omega, hsl.1, hsl.2.1, one _, by omega, by omega, by rw [ints_len, List.length_take]; omega, by omega, by omega, ints .u8 (L.drop K.toNat), by rw [ints_len, List.length_drop]; omega, hsl.2.2.1, hsl.2.2.2, one _, ?_, by omega, by omega, fun ar2 cp2 I16 l16 hrow2 => ?_⟩
    · simp [ints_len]; omega
    have hsl2 : SlM I16 ar2 (0 + K.toNat + 2 + (L.length - K.toNat)) 1 (ints .u8 (L.take K.toNat ++ [B, 255] ++ L.drop K.toNat)) := by
      refine RowM.sl (cp := cp2) ?_ (by omega) ?_
      · simpa [ints] using hrow2
      · simp [ints_len]; omega
    refine (ct14 _ ar2 _ cp2 I16 hsl2).mono fun v I17 l17 hv => ⟨_, _, hv, (ct17 _ ar2 _ cp2 I17 (hsl2.mono l17)).mono fun v I18 l18 hv => ⟨_, _, hv, ?_⟩⟩
    rw [hch.1, hch.2]
    exact Br.t (by simp; omega) (Br.t rfl (Br.t rfl rfl))
