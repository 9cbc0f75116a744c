/- Part of a proof by the rules of the symbolic walk (see the law's own text): contracts of functions of the program. -/
import Derived.Test.YtlkblbgmiodolaaGC
open Go Go.Proofs Go.SE Go.RowKit
set_option linter.unusedVariables false
theorem find_at : ∀ {l : List (Int × List Int)} {last left : Int} {j : Nat} {f : Int × List Int}, rightStep last left l = true → l[j]? = some f → (l.find? fun g => g.1 == f.1) = some f
  | [], _, _, _, _, _, hj => by simp at hj
  | x :: r, last, left, 0, f, h, hj => by
    simp at hj
    subst hj
    exact List.find?_cons_of_pos (by simp)
  | x :: r, last, left, j + 1, f, h, hj => by
    have hj : r[j]? = some f := by simpa using hj
    rw [rightStep] at h
    split at h
    · cases h
    · have := right_at h f (List.mem_of_getElem? hj)
      rw [List.find?_cons_of_neg (by simp; omega), find_at h hj]
theorem ct8 (I : Mem) (a1 : Option Addr) (n1 c1 : Nat) (g1 : List Int) (sl1 : SlM I a1 n1 1 (ints .u8 g1)) (hc1 : n1 ≤ c1) (hm1 : c1 ≤ maxLen) (hz1 : ∀ z ∈ g1, 0 ≤ z ∧ z ≤ 255)
    (a3 : Option Addr) (n3 c3 : Nat) (ts : List (List Int)) (tx : TxM I a3 n3 ts) (hc3 : n3 ≤ c3) (hm3 : c3 ≤ maxLen) (tag : Int) (htag : 0 ≤ tag ∧ tag ≤ 255)
    (a4 : Option Addr) (n4 c4 : Nat) (z4 : List Int) (sl4 : SlM I a4 n4 1 (ints .u8 z4)) (hc4 : n4 ≤ c4) (hm4 : c4 ≤ maxLen) (hz4 : ∀ z ∈ z4, 0 ≤ z ∧ z ≤ 255) :
    Ct Try.prog (fnv 8) #[.slice a1 n1 c1, .slice a3 n3 c3, .int .u8 tag, .slice a4 n4 c4] I (fun v _ => v = .bool true) := by
  refine viaR (ct_via (A := { cuts := [(12, ⟨[(2, .keep), (9, .keep), (10, .keep), (11, .keep)], [(0, .keep)], [], fun _ _ _ _ => True, fun _ _ => 0⟩), (20, ⟨[(2, .keep), (9, .keep), (10, .keep), (11, .keep), (17, .keep), (19, .keep), (97, .keep), (98, .keep)], [(0, .keep), (1, .keep)], [], fun _ _ _ _ => True, fun _ _ => 0⟩)], loops := [(14, ⟨[(2, .keep), (9, .keep), (11, .keep), (10, .keep), (17, .sh .sl), (97, .keep), (98, .sh (.int .i64))], [(0, .keep)], [], fun vals _ I' _ => match vals with | [.slice a n c, .int .i64 j] => 0 ≤ j ∧ j ≤ (madeV g1 ts).length ∧ FldM I' a n ((madeV g1 ts).drop ((madeV g1 ts).length - j.toNat)) ∧ n ≤ c ∧ c ≤ maxLen | _ => False, fun vals _ => match vals with | [_, .int .i64 j] => ((madeV g1 ts).length - j).toNat | _ => 0⟩)] }) Try.func8 rfl Try.call8 rfl rfl) (Ct Try.prog (Value.func (Fn.func (12 : Nat)) #[] #[]) #[] I fun (v : Value) (I' : Mem) => ∃ (b : Bool), v = Value.bool b ∧ Br (!b) (Value.bool false = Value.bool true) (Ct Try.prog (Value.func (Fn.func (13 : Nat)) #[] #[]) #[Value.slice a1 n1 c1, Value.slice a3 n3 c3] I' fun (v : Value) (I' : Mem) => ∃ (a : Option Addr), ∃ (n : Nat), ∃ (c : Nat), v = Value.slice a n c ∧ Wr IntKind.i64 tag fun (c_1 : Int) => (200 : Int) ≠ (0 : Int) ∧ Wr IntKind.i64 ((1 : Int) + Int.tmod c_1 (200 : Int)) fun (c_2 : Int) => ((0 : Int) ≤ bif false then imax (↑n4 : Int) (100 : Int) else imin (↑n4 : Int) (100 : Int)) ∧ (bif false then imax (↑n4 : Int) (100 : Int) else imin (↑n4 : Int) (100 : Int)) ≤ (↑c4 : Int) ∧ Ct Try.prog (Value.func (Fn.func (22 : Nat)) #[] #[]) #[Value.slice a n c, Value.agg #[Value.int IntKind.i64 c_2, Value.slice a4 (Int.toNat (bif false then imax (↑n4 : Int) (100 : Int) else imin (↑n4 : Int) (100 : Int))) c4]] I' fun (v : Value) (I' : Mem) => ∃ (a_1 : Option Addr), ∃ (n_1 : Nat), ∃ (c_3 : Nat), ∃ (n_2 : Int), v = Value.tuple #[Value.slice a_1 n_1 c_3, Value.int IntKind.i64 n_2] ∧ Ct Try.prog (Value.func (Fn.func (23 : Nat)) #[] #[]) #[Value.slice a_1 n_1 c_3, Value.int IntKind.i64 c_2] I' fun (v : Value) (I' : Mem) => ∃ (a_2 : Option Addr), ∃ (n_3 : Nat), ∃ (c_4 : Nat), ∃ (b : Bool), v = Value.tuple #[Value.slice a_2 n_3 c_4, Value.bool b] ∧ Br (n_2 != (0 : Int)) (Value.bool false = Value.bool true) (Br (!b) (Value.bool false = Value.bool true) (Ct Try.prog (Value.func (Fn.func (20 : Nat)) #[] #[]) #[Value.slice a_2 n_3 c_4, Value.slice a4 (Int.toNat (bif false then imax (↑n4 : Int) (100 : Int) else imin (↑n4 : Int) (100 : Int))) c4] I' fun (v : Value) (I' : Mem) => ∃ (b : Bool), v = Value.bool b ∧ Br (!b) (Value.bool false = Value.bool true) (Ct Try.prog (Value.func (Fn.func (19 : Nat)) #[] #[]) #[Value.slice a_1 n_1 c_3] I' fun (v : Value) (I' : Mem) => ∃ (b : Bool), v = Value.bool b ∧ Br (!b) (Value.bool false = Value.bool true) (Ct Try.prog (Value.func (Fn.func (23 : Nat)) #[] #[]) #[Value.slice a n c, Value.int IntKind.i64 c_2] I' fun (v : Value) (I' : Mem) => ∃ (a_3 : Option Addr), ∃ (n_4 : Nat), ∃ (c_5 : Nat), ∃ (b : Bool), v = Value.tuple #[Value.slice a_3 n_4 c_5, Value.bool b] ∧ Br (!b == ((↑n_1 : Int) == (↑n : Int))) (Value.bool false = Value.bool true) (Br (!b) (Wr IntKind.i64 ((↑n : Int) + (1 : Int)) fun (c_6 : Int) => Br ((↑n_1 : Int) != c_6) (Value.bool false = Value.bool true) (Ent.mk (EO.cells [SV.v (Value.int IntKind.i64 c_2), SV.v (Value.slice a4 (Int.toNat (bif false then imax (↑n4 : Int) (100 : Int) else imin (↑n4 : Int) (100 : Int))) c4)] (29 : Nat)) none = Ent.mk (EO.cells [SV.v (Value.int IntKind.i64 c_2), SV.v (Value.slice a4 (Int.toNat (bif false then imax (↑n4 : Int) (100 : Int) else imin (↑n4 : Int) (100 : Int))) c4)] (29 : Nat)) none ∧ SV.v (Value.int IntKind.u8 tag) = SV.v (Value.int IntKind.u8 tag) ∧ SV.v (Value.slice a n c) = SV.v (Value.slice a n c) ∧ SV.ptr (0 : Nat) (0 : Nat) = SV.ptr (0 : Nat) (0 : Nat) ∧ SV.v (Value.slice a_1 n_1 c_3) = SV.v (Value.slice a_1 n_1 c_3) ∧ True)) (Ent.mk (EO.cells [SV.v (Value.int IntKind.i64 c_2), SV.v (Value.slice a4 (Int.toNat (bif false then imax (↑n4 : Int) (100 : Int) else imin (↑n4 : Int) (100 : Int))) c4)] (29 : Nat)) none = Ent.mk (EO.cells [SV.v (Value.int IntKind.i64 c_2), SV.v (Value.slice a4 (Int.toNat (bif false then imax (↑n4 : Int) (100 : Int) else imin (↑n4 : Int) (100 : Int))) c4)] (29 : Nat)) none ∧ SV.v (Value.int IntKind.u8 tag) = SV.v (Value.int IntKind.u8 tag) ∧ SV.v (Value.slice a n c) = SV.v (Value.slice a n c) ∧ SV.ptr (0 : Nat) (0 : Nat) = SV.ptr (0 : Nat) (0 : Nat) ∧ SV.v (Value.slice a_1 n_1 c_3) = SV.v (Value.slice a_1 n_1 c_3) ∧ True)) ∧ ∀ (I'_1 G' : Mem), Mem.le I' I'_1 → True → (Ent.mk (EO.cells [SV.v (Value.int IntKind.i64 c_2), SV.v (Value.slice a4 (Int.toNat (bif false then imax (↑n4 : Int) (100 : Int) else imin (↑n4 : Int) (100 : Int))) c4)] (29 : Nat)) none = Ent.mk (EO.cells [SV.v (Value.int IntKind.i64 c_2), SV.v (Value.slice a4 (Int.toNat (bif false then imax (↑n4 : Int) (100 : Int) else imin (↑n4 : Int) (100 : Int))) c4)] (29 : Nat)) none ∧ SV.v (Value.int IntKind.u8 tag) = SV.v (Value.int IntKind.u8 tag) ∧ SV.v (Value.slice a n c) = SV.v (Value.slice a n c) ∧ SV.v (Value.slice a_1 n_1 c_3) = SV.v (Value.slice a_1 n_1 c_3) ∧ SV.ptr (0 : Nat) (0 : Nat) = SV.ptr (0 : Nat) (0 : Nat) ∧ SV.v (Value.int IntKind.i64 (↑n : Int)) = SV.v (Value.int IntKind.i64 (↑n : Int)) ∧ (0 : Int) ≤ (0 : Int) ∧ (0 : Int) ≤ (↑(List.length (madeV g1 ts)) : Int) ∧ FldM I'_1 none (0 : Nat) (List.drop (List.length (madeV g1 ts) - (0 : Nat)) (madeV g1 ts)) ∧ (0 : Nat) ≤ (0 : Nat) ∧ (0 : Nat) ≤ (9223372036854775807 : Nat)) ∧ ∀ (I' G' : Mem), Mem.le I'_1 I' → ∀ (a_7 : Option Addr) (n_5 c_6 : Nat) (n_6 : Int), (0 : Int) ≤ n_6 ∧ n_6 ≤ (↑(List.length (madeV g1 ts)) : Int) ∧ FldM I' a_7 n_5 (List.drop (List.length (madeV g1 ts) - Int.toNat n_6) (madeV g1 ts)) ∧ n_5 ≤ c_6 ∧ c_6 ≤ (9223372036854775807 : Nat) → Br (decide (n_6 < (↑n : Int))) (Wr IntKind.i64 ((↑n : Int) - (1 : Int)) fun (c_7 : Int) => Wr IntKind.i64 (c_7 - n_6) fun (c_8 : Int) => (0 : Int) ≤ c_8 ∧ c_8 < (↑n : Int) ∧ Option.isSome a = true ∧ (2 : Nat) = (2 : Nat) ∧ ∃ (n_7 : Int), atI I' a (Int.toNat c_8 * (2 : Nat) + (0 : Nat)) = some (Value.int IntKind.i64 n_7) ∧ ∃ (a_9 : Option Addr), ∃ (n_8 : Nat), ∃ (c_9 : Nat), atI I' a (Int.toNat c_8 * (2 : Nat) + (1 : Nat)) = some (Value.slice a_9 n_8 c_9) ∧ Ct Try.prog (Value.func (Fn.func (23 : Nat)) #[] #[]) #[Value.slice a_1 n_1 c_3, Value.int IntKind.i64 n_7] I' fun (v : Value) (I' : Mem) => ∃ (a_10 : Option Addr), ∃ (n_9 : Nat), ∃ (c_10 : Nat), ∃ (b : Bool), v = Value.tuple #[Value.slice a_10 n_9 c_10, Value.bool b] ∧ Br (!b) (Value.bool false = Value.bool true) (Br (n_7 != c_2) (Ct Try.prog (Value.func (Fn.func (20 : Nat)) #[] #[]) #[Value.slice a_10 n_9 c_10, Value.slice a_9 n_8 c_9] I' fun (v : Value) (I' : Mem) => ∃ (b : Bool), v = Value.bool b ∧ Br (!b) (Value.bool false = Value.bool true) (Ent.mk (EO.cells [SV.v (Value.int IntKind.i64 c_2), SV.v (Value.slice a4 (Int.toNat (bif false then imax (↑n4 : Int) (100 : Int) else imin (↑n4 : Int) (100 : Int))) c4)] (29 : Nat)) none = Ent.mk (EO.cells [SV.v (Value.int IntKind.i64 c_2), SV.v (Value.slice a4 (Int.toNat (bif false then imax (↑n4 : Int) (100 : Int) else imin (↑n4 : Int) (100 : Int))) c4)] (29 : Nat)) none ∧ Ent.mk (EO.cells [SV.v (Value.int IntKind.i64 n_7), SV.v (Value.slice a_9 n_8 c_9)] (29 : Nat)) none = Ent.mk (EO.cells [SV.v (Value.int IntKind.i64 n_7), SV.v (Value.slice a_9 n_8 c_9)] (29 : Nat)) none ∧ SV.v (Value.int IntKind.u8 tag) = SV.v (Value.int IntKind.u8 tag) ∧ SV.v (Value.slice a n c) = SV.v (Value.slice a n c) ∧ SV.ptr (0 : Nat) (0 : Nat) = SV.ptr (0 : Nat) (0 : Nat) ∧ SV.v (Value.slice a_1 n_1 c_3) = SV.v (Value.slice a_1 n_1 c_3) ∧ SV.v (Value.slice a_7 n_5 c_6) = SV.v (Value.slice a_7 n_5 c_6) ∧ SV.ptr (1 : Nat) (0 : Nat) = SV.ptr (1 : Nat) (0 : Nat) ∧ SV.v (Value.int IntKind.i64 (↑n : Int)) = SV.v (Value.int IntKind.i64 (↑n : Int)) ∧ SV.v (Value.int IntKind.i64 n_6) = SV.v (Value.int IntKind.i64 n_6) ∧ True)) (Ent.mk (EO.cells [SV.v (Value.int IntKind.i64 c_2), SV.v (Value.slice a4 (Int.toNat (bif false then imax (↑n4 : Int) (100 : Int) else imin (↑n4 : Int) (100 : Int))) c4)] (29 : Nat)) none = Ent.mk (EO.cells [SV.v (Value.int IntKind.i64 c_2), SV.v (Value.slice a4 (Int.toNat (bif false then imax (↑n4 : Int) (100 : Int) else imin (↑n4 : Int) (100 : Int))) c4)] (29 : Nat)) none ∧ Ent.mk (EO.cells [SV.v (Value.int IntKind.i64 n_7), SV.v (Value.slice a_9 n_8 c_9)] (29 : Nat)) none = Ent.mk (EO.cells [SV.v (Value.int IntKind.i64 n_7), SV.v (Value.slice a_9 n_8 c_9)] (29 : Nat)) none ∧ SV.v (Value.int IntKind.u8 tag) = SV.v (Value.int IntKind.u8 tag) ∧ SV.v (Value.slice a n c) = SV.v (Value.slice a n c) ∧ SV.ptr (0 : Nat) (0 : Nat) = SV.ptr (0 : Nat) (0 : Nat) ∧ SV.v (Value.slice a_1 n_1 c_3) = SV.v (Value.slice a_1 n_1 c_3) ∧ SV.v (Value.slice a_7 n_5 c_6) = SV.v (Value.slice a_7 n_5 c_6) ∧ SV.ptr (1 : Nat) (0 : Nat) = SV.ptr (1 : Nat) (0 : Nat) ∧ SV.v (Value.int IntKind.i64 (↑n : Int)) = SV.v (Value.int IntKind.i64 (↑n : Int)) ∧ SV.v (Value.int IntKind.i64 n_6) = SV.v (Value.int IntKind.i64 n_6) ∧ True)) ∧ ∀ (I'_2 G' : Mem), Mem.le I' I'_2 → True → Ct Try.prog (Value.func (Fn.func (22 : Nat)) #[] #[]) #[Value.slice a n c, Value.agg #[Value.int IntKind.i64 n_7, Value.slice a_9 n_8 c_9]] I'_2 fun (v : Value) (I' : Mem) => ∃ (a_13 : Option Addr), ∃ (n_10 : Nat), ∃ (c_11 : Nat), ∃ (n_11 : Int), v = Value.tuple #[Value.slice a_13 n_10 c_11, Value.int IntKind.i64 n_11] ∧ Br (n_11 != (0 : Int)) (Value.bool false = Value.bool true) (Ct Try.prog (Value.func (Fn.func (18 : Nat)) #[] #[]) #[Value.slice a_13 n_10 c_11, Value.slice a n c] I' fun (v : Value) (I' : Mem) => ∃ (b : Bool), v = Value.bool b ∧ Br (!b) (Value.bool false = Value.bool true) (Ct Try.prog (Value.func (Fn.func (22 : Nat)) #[] #[]) #[Value.slice a_7 n_5 c_6, Value.agg #[Value.int IntKind.i64 n_7, Value.slice a_9 n_8 c_9]] I' fun (v : Value) (I' : Mem) => ∃ (a_14 : Option Addr), ∃ (n_12 : Nat), ∃ (c_12 : Nat), ∃ (n_13 : Int), v = Value.tuple #[Value.slice a_14 n_12 c_12, Value.int IntKind.i64 n_13] ∧ Br (n_13 != (0 : Int)) (Value.bool false = Value.bool true) (Wr IntKind.i64 (n_6 + (1 : Int)) fun (c_13 : Int) => Ent.mk (EO.cells [SV.v (Value.int IntKind.i64 c_2), SV.v (Value.slice a4 (Int.toNat (bif false then imax (↑n4 : Int) (100 : Int) else imin (↑n4 : Int) (100 : Int))) c4)] (29 : Nat)) none = Ent.mk (EO.cells [SV.v (Value.int IntKind.i64 c_2), SV.v (Value.slice a4 (Int.toNat (bif false then imax (↑n4 : Int) (100 : Int) else imin (↑n4 : Int) (100 : Int))) c4)] (29 : Nat)) none ∧ SV.v (Value.int IntKind.u8 tag) = SV.v (Value.int IntKind.u8 tag) ∧ SV.v (Value.slice a n c) = SV.v (Value.slice a n c) ∧ SV.v (Value.slice a_1 n_1 c_3) = SV.v (Value.slice a_1 n_1 c_3) ∧ SV.ptr (0 : Nat) (0 : Nat) = SV.ptr (0 : Nat) (0 : Nat) ∧ SV.v (Value.int IntKind.i64 (↑n : Int)) = SV.v (Value.int IntKind.i64 (↑n : Int)) ∧ ((0 : Int) ≤ c_13 ∧ c_13 ≤ (↑(List.length (madeV g1 ts)) : Int) ∧ FldM I' a_14 n_12 (List.drop (List.length (madeV g1 ts) - Int.toNat c_13) (madeV g1 ts)) ∧ n_12 ≤ c_12 ∧ c_12 ≤ (9223372036854775807 : Nat)) ∧ Int.toNat ((↑(List.length (madeV g1 ts)) : Int) - c_13) < Int.toNat ((↑(List.length (madeV g1 ts)) : Int) - n_6))))) (Wr IntKind.i64 tag fun (c_7 : Int) => Wr IntKind.i64 ((0 : Int) - c_7) fun (c_8 : Int) => Ct Try.prog (Value.func (Fn.func (23 : Nat)) #[] #[]) #[Value.slice a n c, Value.int IntKind.i64 c_8] I' fun (v : Value) (I' : Mem) => ∃ (a_9 : Option Addr), ∃ (n_7 : Nat), ∃ (c_9 : Nat), ∃ (b : Bool), v = Value.tuple #[Value.slice a_9 n_7 c_9, Value.bool b] ∧ Ct Try.prog (Value.func (Fn.func (18 : Nat)) #[] #[]) #[Value.slice a_7 n_5 c_6, Value.slice a n c] I' fun (v : Value) (I' : Mem) => ∃ (b_1 : Bool), v = Value.bool b_1 ∧ Br b_1 ((Value.bool !b) = Value.bool true) (Value.bool false = Value.bool true)))))))) (by kernel_rfl) ?_
  simp only [cond_false]
  refine (ct12 I).mono fun v I1 l1 hv => ⟨_, hv, Br.f rfl ?_⟩
  refine (ct13 g1 hz1 ts _ _ _ _ _ _ I1 (sl1.mono l1) hc1 (tx.mono l1)).mono fun v I2 l2 ⟨ka, kn, kc, hv, hK, hkc, _⟩ => ⟨ka, kn, kc, hv, ?_⟩
  have rK := madeV_right g1 ts
  have nK := madeV_len g1 ts
  have sK := madeV_step g1 ts
  generalize madeV g1 ts = K at hK rK nK sK ⊢
  have kK := hK.len
  have hN : imin (n4 : Int) 100 = ((min n4 100 : Nat) : Int) := by unfold imin; split <;> omega
  rw [hN]
  have hN2 : min n4 100 ≤ n4 ∧ min n4 100 ≤ 100 := by omega
  generalize min n4 100 = N at hN2 ⊢
  have hT0 : 0 ≤ tag.tmod 200 := Int.tmod_nonneg _ htag.1
  have hT1 : tag.tmod 200 < 200 := Int.tmod_lt_of_pos _ (by omega)
  refine wr_i64 (by omega) (by omega) ⟨by decide, wr_i64 (by omega) (by omega) ⟨by omega, by omega, ?_⟩⟩
  have hT : 1 ≤ 1 + tag.tmod 200 ∧ 1 + tag.tmod 200 ≤ 200 := by omega
  generalize 1 + tag.tmod 200 = T at hT ⊢
  have sW := sl_take (sl4.mono (Mem.le_trans l1 l2)) hN2.1
  have hn4 := sl4.numLen
  have hzW : byteL (z4.take N) := fun z hz => hz4 z (List.mem_of_mem_take hz)
  have hlW : (z4.take N).length = N := by simp; omega
  rw [Int.toNat_natCast]
  generalize z4.take N = W at sW hzW hlW
  have hS1 : rightStep 0 (2000 + (W.length : Int)) (setR (T, W) false K) = true := setR_right (T, W) (by simp only; omega) (by omega) (by simp only; omega) sK
  have hSl := setR_len (T, W) K false
  have rS : rightF (setR (T, W) false K) = true := rightF_iff.2 ⟨rightStep_more (by omega) hS1, by omega⟩
  have hset : setF K (T, W) = (setR (T, W) false K, 0) := by rw [setF, rK, rS]; rfl
  have hself : ((setR (T, W) false K).find? fun g => g.1 == T) = some (T, W) := setR_self (T, W) K
  have hcount := setR_count (T, W) sK
  have hother : ∀ t, t ≠ T → ((setR (T, W) false K).find? fun g => g.1 == t) = K.find? fun g => g.1 == t := fun t ht => setR_other (T, W) ht false K
  refine (ct22 K (T, W) ⟨by simp only; omega, hzW⟩ (by simp only; omega) ka a4 kn kc N c4 I2 hK (by omega) sW (by omega) hm4).mono fun v I3 l3 ⟨sa, sn, sc, hv, hS, _, _⟩ => ⟨sa, sn, sc, _, hv, ?_⟩
  rw [hset] at hS ⊢
  simp only at hS hcount ⊢
  generalize setR (T, W) false K = S at hS rS hself hSl hcount hother
  have kS := hS.len
  refine (ct23 S (right_short rS) T sa sn sc I3 hS (by omega)).mono fun v I4 l4 ⟨y, hv, hy⟩ => ?_
  rw [hself] at hv hy
  obtain ⟨ga, gn, gc, rfl, hg, hgc, hgm⟩ := hy
  have hg : SlM I4 ga gn 1 (ints .u8 W) := hg
  refine ⟨ga, gn, gc, _, hv, Br.f rfl (Br.f rfl ?_)⟩
  refine (ct20 W W hzW hzW _ _ _ _ _ _ I4 hg (sW.mono (Mem.le_trans l3 l4))).mono fun v I5 l5 hv => ⟨_, hv, Br.f (by simp) ?_⟩
  refine (ct19 S sa sn sc I5 (hS.mono (Mem.le_trans l4 l5)) (by omega)).mono fun v I6 l6 hv => ⟨_, hv, Br.f (by rw [rS]; rfl) ?_⟩
  refine (ct23 K (right_short rK) T ka kn kc I6 (hK.mono (Mem.le_trans l3 (Mem.le_trans l4 (Mem.le_trans l5 l6)))) (by omega)).mono fun v I7 l7 ⟨y, hv, hy⟩ => ?_
  obtain ⟨ha, hn, hc, rfl, _, _, _⟩ := hy
  have hK7 := hK.mono (Mem.le_trans l3 (Mem.le_trans l4 (Mem.le_trans l5 (Mem.le_trans l6 l7))))
  have hS7 := hS.mono (Mem.le_trans l4 (Mem.le_trans l5 (Mem.le_trans l6 l7)))
  simp only [eq_self, true_and, and_true]
  refine ⟨ha, hn, hc, _, hv, ?_, fun I8 _ l8 _ => ⟨⟨by omega, by omega, ?_, by omega, by omega⟩, fun I9 _ l9 ta tn tc j ⟨j0, j1, hTu, htc, htm⟩ => Br.mk (fun hlt => ?_) (fun hge => ?_)⟩⟩
  · cases hw : (K.find? fun g => g.1 == T).isSome with
    | true =>
      have := hcount.1 hw
      have e : ((sn : Int) == (kn : Int)) = true := by simp; omega
      rw [e]
      exact Br.f rfl (Br.f rfl trivial)
    | false =>
      have := hcount.2 hw
      have e : ((sn : Int) == (kn : Int)) = false := by simp; omega
      rw [e]
      exact Br.f rfl (Br.t rfl (wr_i64 (by omega) (by omega) (Br.f (by simp; omega) trivial)))
  · rw [Nat.sub_zero, List.drop_length]
    exact fldM_nil _
  · have hlt := of_decide_eq_true hlt
    refine wr_i64 (by omega) (by omega) (wr_i64 (by omega) (by omega) ?_)
    have hK9 := hK7.mono (Mem.le_trans l8 l9)
    have hS9 := hS7.mono (Mem.le_trans l8 l9)
    obtain ⟨x, xb, xm, xc, hx, hxok, e1, e2, hxs, hx1, hx2⟩ := hK9.at_ (i := (kn : Int) - 1 - j) (by omega) (by omega)
    have hxl := hxs.numLen
    have hxr := right_at sK x (List.mem_of_getElem? hx)
    have hsx : setR x false K = K := setR_there sK hx
    have hfx : setR x false (K.drop (K.length - j.toNat)) = K.drop (K.length - (j + 1).toNat) := by
      have e : ((kn : Int) - 1 - j).toNat = K.length - (j + 1).toNat := by omega
      rw [e] at hx
      have := setR_front sK hx
      rw [← this]
      congr 2
      omega
    have rD := rightF_drop rK (K.length - j.toNat)
    have rD2 := rightF_drop rK (K.length - (j + 1).toNat)
    have hset1 : setF K x = (K, 0) := by rw [setF, hsx, rK]; rfl
    have hset2 : setF (K.drop (K.length - j.toNat)) x = (K.drop (K.length - (j + 1).toNat), 0) := by rw [setF, hfx, rD, rD2]; rfl
    have hTl := hTu.len
    refine ⟨by omega, by omega, hK.isSome (by omega), x.1, e1, xb, xm, xc, e2, ?_⟩
    refine (ct23 S (right_short rS) x.1 sa sn sc I9 hS9 (by omega)).mono fun v I10 l10 ⟨y, hv, hy⟩ => ?_
    have hfind : ∃ z, (S.find? fun g => g.1 == x.1) = some z ∧ (x.1 ≠ T → z = x) := by
      by_cases hxT : x.1 = T
      · exact ⟨(T, W), by rw [hxT]; exact hself, fun h => absurd hxT h⟩
      · exact ⟨x, by rw [hother _ hxT]; exact find_at sK hx, fun _ => rfl⟩
    obtain ⟨z, hz, hzx⟩ := hfind
    rw [hz] at hv hy
    obtain ⟨ya, yn, yc, rfl, hy, _, _⟩ := hy
    have hy : SlM I10 ya yn 1 (ints .u8 z.2) := hy
    refine ⟨ya, yn, yc, _, hv, Br.f rfl (Br.mk (fun hne => ?_) (fun _ => trivial)), fun I11 _ l11 _ => ?_⟩
    · have hne : x.1 ≠ T := by simpa using hne
      have hzx := hzx hne
      subst hzx
      exact (ct20 z.2 z.2 hxok.2 hxok.2 _ _ _ _ _ _ I10 hy (hxs.mono l10)).mono fun v _ _ hv => ⟨_, hv, Br.f (by simp) trivial⟩
    · refine (ct22 K x hxok (by omega) ka xb kn kc xm xc I11 (hK9.mono (Mem.le_trans l10 l11)) (by omega) (hxs.mono (Mem.le_trans l10 l11)) hx1 hx2).mono fun v I12 l12 ⟨ua, un, uc, hv, hU, _, _⟩ => ⟨ua, un, uc, _, hv, ?_⟩
      rw [hset1] at hU ⊢
      have kU : K.length = un := hU.len
      refine Br.f rfl ?_
      refine (ct18 K K (right_short rK) _ _ _ _ _ _ I12 hU (hK9.mono (Mem.le_trans l10 (Mem.le_trans l11 l12))) (by omega) (by omega)).mono fun v I13 l13 hv => ⟨_, hv, Br.f (by simp) ?_⟩
      have lx := Mem.le_trans l10 (Mem.le_trans l11 (Mem.le_trans l12 l13))
      refine (ct22 (K.drop (K.length - j.toNat)) x hxok (by omega) ta xb tn tc xm xc I13 (hTu.mono lx) (by simp at hTl; omega) (hxs.mono lx) hx1 hx2).mono fun v I14 l14 ⟨wa, wn, wc', hv, hW, hwc, hwm⟩ => ⟨wa, wn, wc', _, hv, ?_⟩
      rw [hset2] at hW ⊢
      exact Br.f rfl (wr_i64 (by omega) (by omega) ⟨⟨by omega, by omega, hW, hwc, hwm⟩, by omega⟩)
  · have hge := of_decide_eq_false hge
    have hj : j = K.length := by omega
    subst hj
    rw [Int.toNat_natCast, Nat.sub_self, List.drop_zero] at hTu
    refine wr_i64 (by omega) (by omega) (wr_i64 (by omega) (by omega) ?_)
    have hK9 := hK7.mono (Mem.le_trans l8 l9)
    refine (ct23 K (right_short rK) (0 - tag) ka kn kc I9 hK9 (by omega)).mono fun v I10 l10 ⟨y, hv, hy⟩ => ?_
    have hnone : (K.find? fun g => g.1 == 0 - tag) = none := by
      rw [List.find?_eq_none]
      intro g hg
      have := right_at sK g hg
      simp; omega
    rw [hnone] at hv hy
    obtain ⟨ya, yn, yc, rfl, _, _, _⟩ := hy
    refine ⟨ya, yn, yc, _, hv, ?_⟩
    have kTu := hTu.len
    refine (ct18 K K (right_short rK) _ _ _ _ _ _ I10 (hTu.mono l10) (hK9.mono l10) (by omega) (by omega)).mono fun v _ _ hv => ⟨_, hv, ?_⟩
    exact Br.t (by simp) rfl
