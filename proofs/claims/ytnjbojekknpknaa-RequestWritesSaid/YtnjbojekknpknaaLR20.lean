/- Part of a proof by the rules of the symbolic walk (see the law's own text): contracts of functions of the program. -/
import Derived.Test.YtnjbojekknpknaaLR19
open Go Go.Proofs Go.SE Go.RowKit
set_option linter.unusedVariables false
def refQ (r : Rq) (l : List Int) (t : Int) : Bool := decide (0 ≤ numR r t) && (decide (numR r t ≤ 0) || decide (t ∈ l))
def refR (r : Rq) : Bool := match tagL r.kind r.what with
  | none => false
  | some l => decide (r.name.size ≤ 255) && decide (r.fed.length ≤ 15000) && ([3, 4, 5, 6, 7, 8, 9].all (refQ r l) && ((decide (r.what = 0) || decide ((1 : Int) ∈ l)) && ((decide (r.name = ⟨#[]⟩) || decide ((2 : Int) ∈ l)) && ((decide (r.val = 0) || decide ((10 : Int) ∈ l)) && (decide (r.fed = []) || decide ((11 : Int) ∈ l))))))
theorem refR_eq {r : Rq} (hr : okRq r) : refR r = rightR r := by
  rw [right_eq hr, refR, rightS]
  cases hq : tagL r.kind r.what with
  | none => rfl
  | some l =>
    simp only
    rw [Bool.and_assoc]
    congr 2
    have hsh := tagL_shape hq
    simp only [shapesL, List.mem_cons, List.not_mem_nil, or_false] at hsh
    obtain ⟨e, he⟩ : ∃ e : ByteArray, e = ⟨#[]⟩ := ⟨_, rfl⟩
    have hh : had0 r = { kind := r.kind, what := 0, name := e, p3 := 0, p4 := 0, p5 := 0, p6 := 0, p7 := 0, p8 := 0, p9 := 0, val := 0, fed := [] } := by rw [he]; rfl
    rw [hh, ← he]
    clear hh he hq hr
    by_cases hnm : r.name = e
    · by_cases hfd : r.fed = []
      · rcases hsh with rfl | rfl | rfl | rfl | rfl | rfl | rfl | rfl | rfl | rfl | rfl | rfl
        all_goals
          rw [Bool.eq_iff_iff]
          simp [refQ, okT, numR, sameR, copyT, hnm, hfd]
          try omega
      · have hfd' : ¬ [] = r.fed := fun h => hfd h.symm
        rcases hsh with rfl | rfl | rfl | rfl | rfl | rfl | rfl | rfl | rfl | rfl | rfl | rfl
        all_goals
          rw [Bool.eq_iff_iff]
          simp [refQ, okT, numR, sameR, copyT, hnm, hfd, hfd']
          try omega
    · have hnm' : ¬ e = r.name := fun h => hnm h.symm
      by_cases hfd : r.fed = []
      · rcases hsh with rfl | rfl | rfl | rfl | rfl | rfl | rfl | rfl | rfl | rfl | rfl | rfl
        all_goals
          rw [Bool.eq_iff_iff]
          simp [refQ, okT, numR, sameR, copyT, hnm, hnm', hfd]
          try omega
      · have hfd' : ¬ [] = r.fed := fun h => hfd h.symm
        rcases hsh with rfl | rfl | rfl | rfl | rfl | rfl | rfl | rfl | rfl | rfl | rfl | rfl
        all_goals
          rw [Bool.eq_iff_iff]
          simp [refQ, okT, numR, sameR, copyT, hnm, hnm', hfd, hfd']
          try omega
theorem ct46 (r : Rq) (hr : okRq r) (y : Value) (I : Mem) (hy : BySl I y r.fed) (hn : r.fed.length ≤ 1000000) :
    Ct Try.prog (fnv 46) #[.agg (rqV r y).toArray] I (fun v _ => v = .bool (rightR r)) := by
  obtain ⟨a1, n1, c1, rfl, hs1, _⟩ := hy
  refine viaR (ct_via (A := { befores := [(1, [0])], cuts := [(10, ⟨[(1, .keep), (3, .keep)], [], [], fun vals _ _ _ => ∀ i : Int, 3 ≤ i → i ≤ 9 → refQ r (tagsR r) i = true, fun _ _ => 0⟩)], loops := [(5, ⟨[(1, .keep), (3, .keep), (5, .sh (.int .i64))], [], [], fun vals _ _ _ => match vals with | [.int .i64 j] => 3 ≤ j ∧ j ≤ 10 ∧ ∀ i : Int, 3 ≤ i → i ≤ 9 → i < j → refQ r (tagsR r) i = true | _ => False, fun vals _ => match vals with | [.int .i64 j] => (10 - j).toNat | _ => 0⟩)] }) Try.func46 rfl Try.call46 rfl rfl) (∀ (b : Nat) (I' : Mem), Mem.le I I' → I' b = some (Obj.cells #[Value.int IntKind.u8 (Rq.kind r), Value.int IntKind.u8 (Rq.what r), Value.string (Rq.name r), Value.int IntKind.i64 (Rq.p3 r), Value.int IntKind.i64 (Rq.p4 r), Value.int IntKind.i64 (Rq.p5 r), Value.int IntKind.i64 (Rq.p6 r), Value.int IntKind.i64 (Rq.p7 r), Value.int IntKind.i64 (Rq.p8 r), Value.int IntKind.i64 (Rq.p9 r), Value.int IntKind.i64 (Rq.val r), Value.slice a1 n1 c1] (55 : Nat)) → true = true ∧ ∃ (n : Int), atI I' (some (Addr.mk b (0 : Nat) none)) (0 : Nat) = some (Value.int IntKind.u8 n) ∧ true = true ∧ ∃ (n_1 : Int), atI I' (some (Addr.mk b (0 : Nat) none)) (1 : Nat) = some (Value.int IntKind.u8 n_1) ∧ Ct Try.prog (Value.func (Fn.func (26 : Nat)) #[] #[]) #[Value.int IntKind.u8 n, Value.int IntKind.u8 n_1] I' fun (v : Value) (I' : Mem) => ∃ (a : Option Addr), ∃ (n : Nat), ∃ (c : Nat), ∃ (b_1 : Bool), v = Value.tuple #[Value.slice a n c, Value.bool b_1] ∧ Br (!b_1) (Value.bool false = Value.bool (rightR r)) (true = true ∧ ∃ (q : ByteArray), atI I' (some (Addr.mk b (0 : Nat) none)) (2 : Nat) = some (Value.string q) ∧ Br (decide ((255 : Int) < (↑(ByteArray.size q) : Int))) (Value.bool false = Value.bool (rightR r)) (true = true ∧ ∃ (a_1 : Option Addr), ∃ (n_2 : Nat), ∃ (c_1 : Nat), atI I' (some (Addr.mk b (0 : Nat) none)) (11 : Nat) = some (Value.slice a_1 n_2 c_1) ∧ Br (decide ((15000 : Int) < (↑n_2 : Int))) (Value.bool false = Value.bool (rightR r)) (((SV.v (Value.pointer (some (Addr.mk b (0 : Nat) none))) = SV.v (Value.pointer (some (Addr.mk b (0 : Nat) none))) ∧ SV.v (Value.slice a n c) = SV.v (Value.slice a n c) ∧ (3 : Int) ≤ (3 : Int) ∧ (3 : Int) ≤ (10 : Int) ∧ ∀ (i : Int), (3 : Int) ≤ i → i ≤ (9 : Int) → i < (3 : Int) → refQ r (tagsR r) i = true) ∧ ∀ (I'_1 G' : Mem), Mem.le I' I'_1 → ∀ (n_3 : Int), ((3 : Int) ≤ n_3 ∧ n_3 ≤ (10 : Int) ∧ ∀ (i : Int), (3 : Int) ≤ i → i ≤ (9 : Int) → i < n_3 → refQ r (tagsR r) i = true) → Br (decide (n_3 < (10 : Int))) ((12 : Nat) = (12 : Nat) ∧ ∃ (n_4 : Int), atI I'_1 (some (Addr.mk b (0 : Nat) none)) (0 : Nat) = some (Value.int IntKind.u8 n_4) ∧ ∃ (n_5 : Int), atI I'_1 (some (Addr.mk b (0 : Nat) none)) (1 : Nat) = some (Value.int IntKind.u8 n_5) ∧ ∃ (q : ByteArray), atI I'_1 (some (Addr.mk b (0 : Nat) none)) (2 : Nat) = some (Value.string q) ∧ ∃ (n_6 : Int), atI I'_1 (some (Addr.mk b (0 : Nat) none)) (3 : Nat) = some (Value.int IntKind.i64 n_6) ∧ ∃ (n_7 : Int), atI I'_1 (some (Addr.mk b (0 : Nat) none)) (4 : Nat) = some (Value.int IntKind.i64 n_7) ∧ ∃ (n_8 : Int), atI I'_1 (some (Addr.mk b (0 : Nat) none)) (5 : Nat) = some (Value.int IntKind.i64 n_8) ∧ ∃ (n_9 : Int), atI I'_1 (some (Addr.mk b (0 : Nat) none)) (6 : Nat) = some (Value.int IntKind.i64 n_9) ∧ ∃ (n_10 : Int), atI I'_1 (some (Addr.mk b (0 : Nat) none)) (7 : Nat) = some (Value.int IntKind.i64 n_10) ∧ ∃ (n_11 : Int), atI I'_1 (some (Addr.mk b (0 : Nat) none)) (8 : Nat) = some (Value.int IntKind.i64 n_11) ∧ ∃ (n_12 : Int), atI I'_1 (some (Addr.mk b (0 : Nat) none)) (9 : Nat) = some (Value.int IntKind.i64 n_12) ∧ ∃ (n_13 : Int), atI I'_1 (some (Addr.mk b (0 : Nat) none)) (10 : Nat) = some (Value.int IntKind.i64 n_13) ∧ ∃ (a_4 : Option Addr), ∃ (n_14 : Nat), ∃ (c_2 : Nat), atI I'_1 (some (Addr.mk b (0 : Nat) none)) (11 : Nat) = some (Value.slice a_4 n_14 c_2) ∧ Ct Try.prog (Value.func (Fn.func (50 : Nat)) #[] #[]) #[Value.agg #[Value.int IntKind.u8 n_4, Value.int IntKind.u8 n_5, Value.string q, Value.int IntKind.i64 n_6, Value.int IntKind.i64 n_7, Value.int IntKind.i64 n_8, Value.int IntKind.i64 n_9, Value.int IntKind.i64 n_10, Value.int IntKind.i64 n_11, Value.int IntKind.i64 n_12, Value.int IntKind.i64 n_13, Value.slice a_4 n_14 c_2], Value.int IntKind.i64 n_3] I'_1 fun (v : Value) (I' : Mem) => ∃ (n_15 : Int), v = Value.int IntKind.i64 n_15 ∧ Br (decide (n_15 < (0 : Int))) (Value.bool false = Value.bool (rightR r)) (Br (decide ((0 : Int) < n_15)) (Ct Try.prog (Value.func (Fn.func (69 : Nat)) #[] #[]) #[Value.slice a n c, Value.int IntKind.i64 n_3] I' fun (v : Value) (I' : Mem) => ∃ (b_2 : Bool), v = Value.bool b_2 ∧ Br (!b_2) (Value.bool false = Value.bool (rightR r)) (Wr IntKind.i64 (n_3 + (1 : Int)) fun (c_3 : Int) => SV.v (Value.pointer (some (Addr.mk b (0 : Nat) none))) = SV.v (Value.pointer (some (Addr.mk b (0 : Nat) none))) ∧ SV.v (Value.slice a n c) = SV.v (Value.slice a n c) ∧ ((3 : Int) ≤ c_3 ∧ c_3 ≤ (10 : Int) ∧ ∀ (i : Int), (3 : Int) ≤ i → i ≤ (9 : Int) → i < c_3 → refQ r (tagsR r) i = true) ∧ Int.toNat ((10 : Int) - c_3) < Int.toNat ((10 : Int) - n_3))) (Wr IntKind.i64 (n_3 + (1 : Int)) fun (c_3 : Int) => SV.v (Value.pointer (some (Addr.mk b (0 : Nat) none))) = SV.v (Value.pointer (some (Addr.mk b (0 : Nat) none))) ∧ SV.v (Value.slice a n c) = SV.v (Value.slice a n c) ∧ ((3 : Int) ≤ c_3 ∧ c_3 ≤ (10 : Int) ∧ ∀ (i : Int), (3 : Int) ≤ i → i ≤ (9 : Int) → i < c_3 → refQ r (tagsR r) i = true) ∧ Int.toNat ((10 : Int) - c_3) < Int.toNat ((10 : Int) - n_3)))) (SV.v (Value.pointer (some (Addr.mk b (0 : Nat) none))) = SV.v (Value.pointer (some (Addr.mk b (0 : Nat) none))) ∧ SV.v (Value.slice a n c) = SV.v (Value.slice a n c) ∧ ∀ (i : Int), (3 : Int) ≤ i → i ≤ (9 : Int) → refQ r (tagsR r) i = true)) ∧ ∀ (I'_1 G' : Mem), Mem.le I' I'_1 → (∀ (i : Int), (3 : Int) ≤ i → i ≤ (9 : Int) → refQ r (tagsR r) i = true) → true = true ∧ ∃ (n_3 : Int), atI I'_1 (some (Addr.mk b (0 : Nat) none)) (1 : Nat) = some (Value.int IntKind.u8 n_3) ∧ Br (n_3 == (0 : Int)) (true = true ∧ ∃ (q : ByteArray), atI I'_1 (some (Addr.mk b (0 : Nat) none)) (2 : Nat) = some (Value.string q) ∧ Br (ByteArray.toList q == ByteArray.toList (ByteArray.mk #[])) (true = true ∧ ∃ (n_4 : Int), atI I'_1 (some (Addr.mk b (0 : Nat) none)) (10 : Nat) = some (Value.int IntKind.i64 n_4) ∧ Br (n_4 == (0 : Int)) (true = true ∧ ∃ (a_4 : Option Addr), ∃ (n_5 : Nat), ∃ (c_2 : Nat), atI I'_1 (some (Addr.mk b (0 : Nat) none)) (11 : Nat) = some (Value.slice a_4 n_5 c_2) ∧ Br ((↑n_5 : Int) == (0 : Int)) (Value.bool true = Value.bool (rightR r)) (Ct Try.prog (Value.func (Fn.func (69 : Nat)) #[] #[]) #[Value.slice a n c, Value.int IntKind.i64 (11 : Int)] I'_1 fun (v : Value) (I' : Mem) => ∃ (b : Bool), v = Value.bool b ∧ Value.bool b = Value.bool (rightR r))) (Ct Try.prog (Value.func (Fn.func (69 : Nat)) #[] #[]) #[Value.slice a n c, Value.int IntKind.i64 (10 : Int)] I'_1 fun (v : Value) (I' : Mem) => ∃ (b_2 : Bool), v = Value.bool b_2 ∧ Br b_2 (true = true ∧ ∃ (a_4 : Option Addr), ∃ (n_5 : Nat), ∃ (c_2 : Nat), atI I' (some (Addr.mk b (0 : Nat) none)) (11 : Nat) = some (Value.slice a_4 n_5 c_2) ∧ Br ((↑n_5 : Int) == (0 : Int)) (Value.bool true = Value.bool (rightR r)) (Ct Try.prog (Value.func (Fn.func (69 : Nat)) #[] #[]) #[Value.slice a n c, Value.int IntKind.i64 (11 : Int)] I' fun (v : Value) (I' : Mem) => ∃ (b : Bool), v = Value.bool b ∧ Value.bool b = Value.bool (rightR r))) (Value.bool false = Value.bool (rightR r)))) (Ct Try.prog (Value.func (Fn.func (69 : Nat)) #[] #[]) #[Value.slice a n c, Value.int IntKind.i64 (2 : Int)] I'_1 fun (v : Value) (I' : Mem) => ∃ (b_2 : Bool), v = Value.bool b_2 ∧ Br b_2 (true = true ∧ ∃ (n_4 : Int), atI I' (some (Addr.mk b (0 : Nat) none)) (10 : Nat) = some (Value.int IntKind.i64 n_4) ∧ Br (n_4 == (0 : Int)) (true = true ∧ ∃ (a_4 : Option Addr), ∃ (n_5 : Nat), ∃ (c_2 : Nat), atI I' (some (Addr.mk b (0 : Nat) none)) (11 : Nat) = some (Value.slice a_4 n_5 c_2) ∧ Br ((↑n_5 : Int) == (0 : Int)) (Value.bool true = Value.bool (rightR r)) (Ct Try.prog (Value.func (Fn.func (69 : Nat)) #[] #[]) #[Value.slice a n c, Value.int IntKind.i64 (11 : Int)] I' fun (v : Value) (I' : Mem) => ∃ (b : Bool), v = Value.bool b ∧ Value.bool b = Value.bool (rightR r))) (Ct Try.prog (Value.func (Fn.func (69 : Nat)) #[] #[]) #[Value.slice a n c, Value.int IntKind.i64 (10 : Int)] I' fun (v : Value) (I' : Mem) => ∃ (b_3 : Bool), v = Value.bool b_3 ∧ Br b_3 (true = true ∧ ∃ (a_4 : Option Addr), ∃ (n_5 : Nat), ∃ (c_2 : Nat), atI I' (some (Addr.mk b (0 : Nat) none)) (11 : Nat) = some (Value.slice a_4 n_5 c_2) ∧ Br ((↑n_5 : Int) == (0 : Int)) (Value.bool true = Value.bool (rightR r)) (Ct Try.prog (Value.func (Fn.func (69 : Nat)) #[] #[]) #[Value.slice a n c, Value.int IntKind.i64 (11 : Int)] I' fun (v : Value) (I' : Mem) => ∃ (b : Bool), v = Value.bool b ∧ Value.bool b = Value.bool (rightR r))) (Value.bool false = Value.bool (rightR r)))) (Value.bool false = Value.bool (rightR r)))) (Ct Try.prog (Value.func (Fn.func (69 : Nat)) #[] #[]) #[Value.slice a n c, Value.int IntKind.i64 (1 : Int)] I'_1 fun (v : Value) (I' : Mem) => ∃ (b_2 : Bool), v = Value.bool b_2 ∧ Br b_2 (true = true ∧ ∃ (q : ByteArray), atI I' (some (Addr.mk b (0 : Nat) none)) (2 : Nat) = some (Value.string q) ∧ Br (ByteArray.toList q == ByteArray.toList (ByteArray.mk #[])) (true = true ∧ ∃ (n_4 : Int), atI I' (some (Addr.mk b (0 : Nat) none)) (10 : Nat) = some (Value.int IntKind.i64 n_4) ∧ Br (n_4 == (0 : Int)) (true = true ∧ ∃ (a_4 : Option Addr), ∃ (n_5 : Nat), ∃ (c_2 : Nat), atI I' (some (Addr.mk b (0 : Nat) none)) (11 : Nat) = some (Value.slice a_4 n_5 c_2) ∧ Br ((↑n_5 : Int) == (0 : Int)) (Value.bool true = Value.bool (rightR r)) (Ct Try.prog (Value.func (Fn.func (69 : Nat)) #[] #[]) #[Value.slice a n c, Value.int IntKind.i64 (11 : Int)] I' fun (v : Value) (I' : Mem) => ∃ (b : Bool), v = Value.bool b ∧ Value.bool b = Value.bool (rightR r))) (Ct Try.prog (Value.func (Fn.func (69 : Nat)) #[] #[]) #[Value.slice a n c, Value.int IntKind.i64 (10 : Int)] I' fun (v : Value) (I' : Mem) => ∃ (b_3 : Bool), v = Value.bool b_3 ∧ Br b_3 (true = true ∧ ∃ (a_4 : Option Addr), ∃ (n_5 : Nat), ∃ (c_2 : Nat), atI I' (some (Addr.mk b (0 : Nat) none)) (11 : Nat) = some (Value.slice a_4 n_5 c_2) ∧ Br ((↑n_5 : Int) == (0 : Int)) (Value.bool true = Value.bool (rightR r)) (Ct Try.prog (Value.func (Fn.func (69 : Nat)) #[] #[]) #[Value.slice a n c, Value.int IntKind.i64 (11 : Int)] I' fun (v : Value) (I' : Mem) => ∃ (b : Bool), v = Value.bool b ∧ Value.bool b = Value.bool (rightR r))) (Value.bool false = Value.bool (rightR r)))) (Ct Try.prog (Value.func (Fn.func (69 : Nat)) #[] #[]) #[Value.slice a n c, Value.int IntKind.i64 (2 : Int)] I' fun (v : Value) (I' : Mem) => ∃ (b_3 : Bool), v = Value.bool b_3 ∧ Br b_3 (true = true ∧ ∃ (n_4 : Int), atI I' (some (Addr.mk b (0 : Nat) none)) (10 : Nat) = some (Value.int IntKind.i64 n_4) ∧ Br (n_4 == (0 : Int)) (true = true ∧ ∃ (a_4 : Option Addr), ∃ (n_5 : Nat), ∃ (c_2 : Nat), atI I' (some (Addr.mk b (0 : Nat) none)) (11 : Nat) = some (Value.slice a_4 n_5 c_2) ∧ Br ((↑n_5 : Int) == (0 : Int)) (Value.bool true = Value.bool (rightR r)) (Ct Try.prog (Value.func (Fn.func (69 : Nat)) #[] #[]) #[Value.slice a n c, Value.int IntKind.i64 (11 : Int)] I' fun (v : Value) (I' : Mem) => ∃ (b : Bool), v = Value.bool b ∧ Value.bool b = Value.bool (rightR r))) (Ct Try.prog (Value.func (Fn.func (69 : Nat)) #[] #[]) #[Value.slice a n c, Value.int IntKind.i64 (10 : Int)] I' fun (v : Value) (I' : Mem) => ∃ (b_4 : Bool), v = Value.bool b_4 ∧ Br b_4 (true = true ∧ ∃ (a_4 : Option Addr), ∃ (n_5 : Nat), ∃ (c_2 : Nat), atI I' (some (Addr.mk b (0 : Nat) none)) (11 : Nat) = some (Value.slice a_4 n_5 c_2) ∧ Br ((↑n_5 : Int) == (0 : Int)) (Value.bool true = Value.bool (rightR r)) (Ct Try.prog (Value.func (Fn.func (69 : Nat)) #[] #[]) #[Value.slice a n c, Value.int IntKind.i64 (11 : Int)] I' fun (v : Value) (I' : Mem) => ∃ (b : Bool), v = Value.bool b ∧ Value.bool b = Value.bool (rightR r))) (Value.bool false = Value.bool (rightR r)))) (Value.bool false = Value.bool (rightR r)))) (Value.bool false = Value.bool (rightR r))))))) (by kernel_rfl) ?_
  intro b I1 l1 hb
  obtain ⟨sfr, hsf⟩ : ∃ R, R = rightR r := ⟨_, rfl⟩
  refine ⟨rfl, _, atC hb rfl, rfl, _, atC hb rfl, (ct26 r.kind r.what hr.kind hr.what I1).mono fun v I2 l2 ⟨a, n, c, hv, hs, hn1, hc1⟩ => ⟨_, _, _, _, hv, Br.mk (fun h => ?_) (fun h => ?_)⟩⟩
  · have h : tagL r.kind r.what = none := by simpa using h
    rw [right_none h]
  have h : (tagL r.kind r.what).isSome = true := by simpa using h
  obtain ⟨l, hq⟩ := Option.isSome_iff_exists.1 h
  rw [hq, Option.getD_some] at hs
  have htg : tagsR r = l := by rw [tagsR, hq]; rfl
  rw [htg]
  have hll := tagL_ok hq
  have hln := hs.numLen
  have hb2 := l2 _ _ hb
  have hfl := hs1.numLen
  refine ⟨rfl, _, atC hb2 rfl, Br.mk (fun g => ?_) (fun g1 => ⟨rfl, _, _, _, atC hb2 rfl, Br.mk (fun g => ?_) (fun g2 => ?_)⟩)⟩
  · have g := of_decide_eq_true g
    rw [right_size (.inl (by omega))]
  · have g := of_decide_eq_true g
    rw [right_size (.inr (by omega))]
  have g1 := of_decide_eq_false g1
  have g2 := of_decide_eq_false g2
  have hR : rightR r = ([3, 4, 5, 6, 7, 8, 9].all (refQ r l) && ((decide (r.what = 0) || decide ((1 : Int) ∈ l)) && ((decide (r.name = ⟨#[]⟩) || decide ((2 : Int) ∈ l)) && ((decide (r.val = 0) || decide ((10 : Int) ∈ l)) && (decide (r.fed = []) || decide ((11 : Int) ∈ l)))))) := by
    rw [← refR_eq hr, refR, hq]
    simp only
    rw [decide_eq_true (by omega : r.name.size ≤ 255), decide_eq_true (by omega : r.fed.length ≤ 15000)]; rfl
  have C : ∀ (t : Int) (J : Mem), I2.le J → Ct Try.prog (fnv 69) #[.slice a n c, .int .i64 t] J (fun v _ => v = .bool (decide (t ∈ l))) := fun t J lJ => ct69 l t a n c J (hs.mono lJ) (by omega)
  refine ⟨⟨⟨rfl, rfl, by omega, by omega, fun i h3 h9 h => by omega⟩, fun I3 _ l3 j ⟨j3, j10, hj⟩ => Br.mk (fun hlt => ?_) (fun hge => ?_)⟩, ?_⟩
  · have hlt := of_decide_eq_true hlt
    have hb3 := l3 _ _ hb2
    have NO : refQ r l j = false → Value.bool false = Value.bool (rightR r) := fun hx => by
      have : [3, 4, 5, 6, 7, 8, 9].all (refQ r l) = false := by
        cases hz : [3, 4, 5, 6, 7, 8, 9].all (refQ r l) with
        | false => rfl
        | true =>
          have := (List.all_eq_true.1 hz) j (by rcases (by omega : j = 3 ∨ j = 4 ∨ j = 5 ∨ j = 6 ∨ j = 7 ∨ j = 8 ∨ j = 9) with rfl | rfl | rfl | rfl | rfl | rfl | rfl <;> simp)
          rw [hx] at this; cases this
      rw [hR, this, Bool.false_and]
    have YES : refQ r l j = true → ∀ i : Int, 3 ≤ i → i ≤ 9 → i < j + 1 → refQ r l i = true := fun hx i h3 h9 hi => by
      by_cases hij : i = j
      · rw [hij]; exact hx
      · exact hj i h3 h9 (by omega)
    refine ⟨rfl, _, atC hb3 rfl, _, atC hb3 rfl, _, atC hb3 rfl, _, atC hb3 rfl, _, atC hb3 rfl, _, atC hb3 rfl, _, atC hb3 rfl, _, atC hb3 rfl, _, atC hb3 rfl, _, atC hb3 rfl, _, atC hb3 rfl, _, _, _, atC hb3 rfl, ?_⟩
    refine (ct50 r _ j ⟨j3, by omega⟩ I3).mono fun v I4 l4 hv => ⟨_, hv, Br.mk (fun g => ?_) (fun g => Br.mk (fun g' => ?_) (fun g' => ?_))⟩
    · have g := of_decide_eq_true g
      exact NO (by rw [refQ, decide_eq_false (by omega), Bool.false_and])
    · have g := of_decide_eq_false g
      have g' := of_decide_eq_true g'
      refine (C j I4 (Mem.le_trans l3 l4)).mono fun v I5 l5 hv => ⟨_, hv, Br.mk (fun k => ?_) (fun k => ?_)⟩
      · have k : ¬ j ∈ l := by simpa using k
        exact NO (by rw [refQ, decide_eq_false (p := numR r j ≤ 0) (by omega), decide_eq_false k]; simp)
      · have k : j ∈ l := by simpa using k
        exact wr_i64 (by omega) (by omega) ⟨rfl, rfl, ⟨by omega, by omega, YES (by rw [refQ, decide_eq_true k, decide_eq_true (by omega)]; simp)⟩, by omega⟩
    · have g := of_decide_eq_false g
      have g' := of_decide_eq_false g'
      exact wr_i64 (by omega) (by omega) ⟨rfl, rfl, ⟨by omega, by omega, YES (by rw [refQ, decide_eq_true (by omega : 0 ≤ numR r j), decide_eq_true (by omega : numR r j ≤ 0)]; rfl)⟩, by omega⟩
  · have hge := of_decide_eq_false hge
    exact ⟨rfl, rfl, fun i h3 h9 => hj i h3 h9 (by omega)⟩
  intro I3 _ l3 hall
  have hb3 := (Mem.le_trans l2 l3) _ _ hb
  have ha : [3, 4, 5, 6, 7, 8, 9].all (refQ r l) = true := by
    rw [List.all_eq_true]
    intro i hi
    simp only [List.mem_cons, List.not_mem_nil, or_false] at hi
    exact hall i (by omega) (by omega)
  rw [ha, Bool.true_and] at hR
  have sF : ∀ J, I3.le J → rightR r = (decide (r.fed = []) || decide ((11 : Int) ∈ l)) → (true = true ∧ ∃ a_4 n_5 c_2, atI J (some { block := b, off := 0 }) 11 = some (Value.slice a_4 n_5 c_2) ∧ Br (((n_5 : Nat) : Int) == 0) (Value.bool true = Value.bool (rightR r)) (Ct Try.prog (fnv 69) #[Value.slice a n c, Value.int IntKind.i64 11] J fun v I' => ∃ b, v = Value.bool b ∧ Value.bool b = Value.bool (rightR r))) := fun J lJ e => by
    refine ⟨rfl, _, _, _, atC (lJ _ _ hb3) rfl, Br.mk (fun g => ?_) (fun g => ?_)⟩
    · have g : n1 = 0 := by simpa using g
      rw [e, decide_eq_true (List.eq_nil_of_length_eq_zero (by omega))]; rfl
    · have g : n1 ≠ 0 := by simpa using g
      refine (C 11 J (Mem.le_trans l3 lJ)).mono fun v I5 l5 hv => ⟨_, hv, ?_⟩
      rw [e, decide_eq_false (p := r.fed = []) (fun hc => by rw [hc] at hfl; simp at hfl; omega), Bool.false_or]
  have sV : ∀ J, I3.le J → rightR r = ((decide (r.val = 0) || decide ((10 : Int) ∈ l)) && (decide (r.fed = []) || decide ((11 : Int) ∈ l))) → (true = true ∧ ∃ n_4, atI J (some { block := b, off := 0 }) 10 = some (Value.int IntKind.i64 n_4) ∧ Br (n_4 == 0) (true = true ∧ ∃ a_4 n_5 c_2, atI J (some { block := b, off := 0 }) 11 = some (Value.slice a_4 n_5 c_2) ∧ Br (((n_5 : Nat) : Int) == 0) (Value.bool true = Value.bool (rightR r)) (Ct Try.prog (fnv 69) #[Value.slice a n c, Value.int IntKind.i64 11] J fun v I' => ∃ b, v = Value.bool b ∧ Value.bool b = Value.bool (rightR r))) (Ct Try.prog (fnv 69) #[Value.slice a n c, Value.int IntKind.i64 10] J fun v I' => ∃ b_2, v = Value.bool b_2 ∧ Br b_2 (true = true ∧ ∃ a_4 n_5 c_2, atI I' (some { block := b, off := 0 }) 11 = some (Value.slice a_4 n_5 c_2) ∧ Br (((n_5 : Nat) : Int) == 0) (Value.bool true = Value.bool (rightR r)) (Ct Try.prog (fnv 69) #[Value.slice a n c, Value.int IntKind.i64 11] I' fun v I' => ∃ b, v = Value.bool b ∧ Value.bool b = Value.bool (rightR r))) (Value.bool false = Value.bool (rightR r)))) := fun J lJ e => by
    refine ⟨rfl, _, atC (lJ _ _ hb3) rfl, Br.mk (fun g => ?_) (fun g => ?_)⟩
    · have g := eqv g
      exact sF J lJ (by rw [e, decide_eq_true g]; simp)
    · have g := nev g
      refine (C 10 J (Mem.le_trans l3 lJ)).mono fun v I5 l5 hv => ⟨_, hv, Br.mk (fun k => ?_) (fun k => ?_)⟩
      · exact sF I5 (Mem.le_trans lJ l5) (by rw [e, k]; simp)
      · rw [e, k, decide_eq_false g]; rfl
  have sN : ∀ J, I3.le J → rightR r = ((decide (r.name = ⟨#[]⟩) || decide ((2 : Int) ∈ l)) && ((decide (r.val = 0) || decide ((10 : Int) ∈ l)) && (decide (r.fed = []) || decide ((11 : Int) ∈ l)))) → (true = true ∧ ∃ q, atI J (some { block := b, off := 0 }) 2 = some (Value.string q) ∧ Br (q.toList == (⟨#[]⟩ : ByteArray).toList) (true = true ∧ ∃ n_4, atI J (some { block := b, off := 0 }) 10 = some (Value.int IntKind.i64 n_4) ∧ Br (n_4 == 0) (true = true ∧ ∃ a_4 n_5 c_2, atI J (some { block := b, off := 0 }) 11 = some (Value.slice a_4 n_5 c_2) ∧ Br (((n_5 : Nat) : Int) == 0) (Value.bool true = Value.bool (rightR r)) (Ct Try.prog (fnv 69) #[Value.slice a n c, Value.int IntKind.i64 11] J fun v I' => ∃ b, v = Value.bool b ∧ Value.bool b = Value.bool (rightR r))) (Ct Try.prog (fnv 69) #[Value.slice a n c, Value.int IntKind.i64 10] J fun v I' => ∃ b_2, v = Value.bool b_2 ∧ Br b_2 (true = true ∧ ∃ a_4 n_5 c_2, atI I' (some { block := b, off := 0 }) 11 = some (Value.slice a_4 n_5 c_2) ∧ Br (((n_5 : Nat) : Int) == 0) (Value.bool true = Value.bool (rightR r)) (Ct Try.prog (fnv 69) #[Value.slice a n c, Value.int IntKind.i64 11] I' fun v I' => ∃ b, v = Value.bool b ∧ Value.bool b = Value.bool (rightR r))) (Value.bool false = Value.bool (rightR r)))) (Ct Try.prog (fnv 69) #[Value.slice a n c, Value.int IntKind.i64 2] J fun v I' => ∃ b_2, v = Value.bool b_2 ∧ Br b_2 (true = true ∧ ∃ n_4, atI I' (some { block := b, off := 0 }) 10 = some (Value.int IntKind.i64 n_4) ∧ Br (n_4 == 0) (true = true ∧ ∃ a_4 n_5 c_2, atI I' (some { block := b, off := 0 }) 11 = some (Value.slice a_4 n_5 c_2) ∧ Br (((n_5 : Nat) : Int) == 0) (Value.bool true = Value.bool (rightR r)) (Ct Try.prog (fnv 69) #[Value.slice a n c, Value.int IntKind.i64 11] I' fun v K => ∃ b, v = Value.bool b ∧ Value.bool b = Value.bool (rightR r))) (Ct Try.prog (fnv 69) #[Value.slice a n c, Value.int IntKind.i64 10] I' fun v K => ∃ b_2, v = Value.bool b_2 ∧ Br b_2 (true = true ∧ ∃ a_4 n_5 c_2, atI K (some { block := b, off := 0 }) 11 = some (Value.slice a_4 n_5 c_2) ∧ Br (((n_5 : Nat) : Int) == 0) (Value.bool true = Value.bool (rightR r)) (Ct Try.prog (fnv 69) #[Value.slice a n c, Value.int IntKind.i64 11] K fun v K => ∃ b, v = Value.bool b ∧ Value.bool b = Value.bool (rightR r))) (Value.bool false = Value.bool (rightR r)))) (Value.bool false = Value.bool (rightR r)))) := fun J lJ e => by
    refine ⟨rfl, _, atC (lJ _ _ hb3) rfl, Br.mk (fun g => ?_) (fun g => ?_)⟩
    · rw [str_eq] at g
      have g : r.name = ⟨#[]⟩ := by simpa using g
      exact sV J lJ (by rw [e, decide_eq_true g]; simp)
    · rw [str_eq] at g
      have g : ¬ r.name = ⟨#[]⟩ := by simpa using g
      refine (C 2 J (Mem.le_trans l3 lJ)).mono fun v I5 l5 hv => ⟨_, hv, Br.mk (fun k => ?_) (fun k => ?_)⟩
      · exact sV I5 (Mem.le_trans lJ l5) (by rw [e, k]; simp)
      · rw [e, k, decide_eq_false g]; rfl
  refine ⟨rfl, _, atC hb3 rfl, Br.mk (fun g => ?_) (fun g => ?_)⟩
  · have g := eqv g
    exact sN I3 (Mem.le_refl _) (by rw [hR, decide_eq_true g]; simp)
  · have g := nev g
    refine (C 1 I3 l3).mono fun v I5 l5 hv => ⟨_, hv, Br.mk (fun k => ?_) (fun k => ?_)⟩
    · exact sN I5 l5 (by rw [hR, k]; simp)
    · rw [hR, k, decide_eq_false g]; rfl
theorem ct36 (r q : Rq) (hr : okRq r) (hq : okRq q) (y z : Value) (I : Mem) (hy : BySl I y r.fed) (hz : BySl I z q.fed) (hn : r.fed.length ≤ 1000000) :
    Ct Try.prog (fnv 36) #[.agg (rqV r y).toArray, .agg (rqV q z).toArray] I (fun v _ => v = .bool (sameR r q)) := by
  obtain ⟨a1, n1, c1, rfl, hs1, _⟩ := hy
  obtain ⟨a2, n2, c2, rfl, hs2, _⟩ := hz
  refine viaR (ct_via (A := { befores := [(1, [0, 1])], loops := [(4, ⟨[(2, .keep), (3, .keep), (5, .sh (.int .i64))], [], [], fun vals _ _ _ => match vals with | [.int .i64 j] => 0 ≤ j ∧ j ≤ n1 ∧ r.fed.take j.toNat = q.fed.take j.toNat | _ => False, fun vals _ => match vals with | [.int .i64 j] => (n1 - j).toNat | _ => 0⟩), (9, ⟨[(2, .keep), (3, .keep), (6, .sh (.int .i64))], [], [], fun vals _ _ _ => match vals with | [.int .i64 j] => 3 ≤ j ∧ j ≤ 10 ∧ ∀ i : Int, 3 ≤ i → i ≤ 9 → i < j → numR r i = numR q i | _ => False, fun vals _ => match vals with | [.int .i64 j] => (10 - j).toNat | _ => 0⟩)] }) Try.func36 rfl Try.call36 rfl rfl) (∀ (b : Nat) (I' : Mem), Mem.le I I' → I' b = some (Obj.cells #[Value.int IntKind.u8 (Rq.kind r), Value.int IntKind.u8 (Rq.what r), Value.string (Rq.name r), Value.int IntKind.i64 (Rq.p3 r), Value.int IntKind.i64 (Rq.p4 r), Value.int IntKind.i64 (Rq.p5 r), Value.int IntKind.i64 (Rq.p6 r), Value.int IntKind.i64 (Rq.p7 r), Value.int IntKind.i64 (Rq.p8 r), Value.int IntKind.i64 (Rq.p9 r), Value.int IntKind.i64 (Rq.val r), Value.slice a1 n1 c1] (55 : Nat)) → ∀ (b_1 : Nat) (I'_1 : Mem), Mem.le I' I'_1 → I'_1 b_1 = some (Obj.cells #[Value.int IntKind.u8 (Rq.kind q), Value.int IntKind.u8 (Rq.what q), Value.string (Rq.name q), Value.int IntKind.i64 (Rq.p3 q), Value.int IntKind.i64 (Rq.p4 q), Value.int IntKind.i64 (Rq.p5 q), Value.int IntKind.i64 (Rq.p6 q), Value.int IntKind.i64 (Rq.p7 q), Value.int IntKind.i64 (Rq.p8 q), Value.int IntKind.i64 (Rq.p9 q), Value.int IntKind.i64 (Rq.val q), Value.slice a2 n2 c2] (55 : Nat)) → true = true ∧ ∃ (a : Option Addr), ∃ (n : Nat), ∃ (c : Nat), atI I'_1 (some (Addr.mk b (0 : Nat) none)) (11 : Nat) = some (Value.slice a n c) ∧ true = true ∧ ∃ (a : Option Addr), ∃ (n_1 : Nat), ∃ (c : Nat), atI I'_1 (some (Addr.mk b_1 (0 : Nat) none)) (11 : Nat) = some (Value.slice a n_1 c) ∧ Br ((↑n : Int) != (↑n_1 : Int)) (Value.bool false = Value.bool (sameR r q)) ((SV.v (Value.pointer (some (Addr.mk b (0 : Nat) none))) = SV.v (Value.pointer (some (Addr.mk b (0 : Nat) none))) ∧ SV.v (Value.pointer (some (Addr.mk b_1 (0 : Nat) none))) = SV.v (Value.pointer (some (Addr.mk b_1 (0 : Nat) none))) ∧ (0 : Int) ≤ (0 : Int) ∧ (0 : Int) ≤ (↑n1 : Int) ∧ @List.nil Int = @List.nil Int) ∧ ∀ (I' G' : Mem), Mem.le I'_1 I' → ∀ (n : Int), (0 : Int) ≤ n ∧ n ≤ (↑n1 : Int) ∧ List.take (Int.toNat n) (Rq.fed r) = List.take (Int.toNat n) (Rq.fed q) → true = true ∧ ∃ (a : Option Addr), ∃ (n_2 : Nat), ∃ (c : Nat), atI I' (some (Addr.mk b (0 : Nat) none)) (11 : Nat) = some (Value.slice a n_2 c) ∧ Br (decide (n < (↑n_2 : Int))) (true = true ∧ ∃ (a : Option Addr), ∃ (n_3 : Nat), ∃ (c : Nat), atI I' (some (Addr.mk b (0 : Nat) none)) (11 : Nat) = some (Value.slice a n_3 c) ∧ (0 : Int) ≤ n ∧ n < (↑n_3 : Int) ∧ Option.isSome a = true ∧ ∃ (n_4 : Int), atI I' a (Int.toNat n * (1 : Nat) + (0 : Nat)) = some (Value.int IntKind.u8 n_4) ∧ true = true ∧ ∃ (a : Option Addr), ∃ (n_5 : Nat), ∃ (c : Nat), atI I' (some (Addr.mk b_1 (0 : Nat) none)) (11 : Nat) = some (Value.slice a n_5 c) ∧ (0 : Int) ≤ n ∧ n < (↑n_5 : Int) ∧ Option.isSome a = true ∧ ∃ (n_6 : Int), atI I' a (Int.toNat n * (1 : Nat) + (0 : Nat)) = some (Value.int IntKind.u8 n_6) ∧ Br (n_4 != n_6) (Value.bool false = Value.bool (sameR r q)) (Wr IntKind.i64 (n + (1 : Int)) fun (c : Int) => SV.v (Value.pointer (some (Addr.mk b (0 : Nat) none))) = SV.v (Value.pointer (some (Addr.mk b (0 : Nat) none))) ∧ SV.v (Value.pointer (some (Addr.mk b_1 (0 : Nat) none))) = SV.v (Value.pointer (some (Addr.mk b_1 (0 : Nat) none))) ∧ ((0 : Int) ≤ c ∧ c ≤ (↑n1 : Int) ∧ List.take (Int.toNat c) (Rq.fed r) = List.take (Int.toNat c) (Rq.fed q)) ∧ Int.toNat ((↑n1 : Int) - c) < Int.toNat ((↑n1 : Int) - n))) ((SV.v (Value.pointer (some (Addr.mk b (0 : Nat) none))) = SV.v (Value.pointer (some (Addr.mk b (0 : Nat) none))) ∧ SV.v (Value.pointer (some (Addr.mk b_1 (0 : Nat) none))) = SV.v (Value.pointer (some (Addr.mk b_1 (0 : Nat) none))) ∧ (3 : Int) ≤ (3 : Int) ∧ (3 : Int) ≤ (10 : Int) ∧ ∀ (i : Int), (3 : Int) ≤ i → i ≤ (9 : Int) → i < (3 : Int) → numR r i = numR q i) ∧ ∀ (I'_2 G' : Mem), Mem.le I' I'_2 → ∀ (n : Int), ((3 : Int) ≤ n ∧ n ≤ (10 : Int) ∧ ∀ (i : Int), (3 : Int) ≤ i → i ≤ (9 : Int) → i < n → numR r i = numR q i) → Br (decide (n < (10 : Int))) ((12 : Nat) = (12 : Nat) ∧ ∃ (n_3 : Int), atI I'_2 (some (Addr.mk b (0 : Nat) none)) (0 : Nat) = some (Value.int IntKind.u8 n_3) ∧ ∃ (n_4 : Int), atI I'_2 (some (Addr.mk b (0 : Nat) none)) (1 : Nat) = some (Value.int IntKind.u8 n_4) ∧ ∃ (q_1 : ByteArray), atI I'_2 (some (Addr.mk b (0 : Nat) none)) (2 : Nat) = some (Value.string q_1) ∧ ∃ (n_5 : Int), atI I'_2 (some (Addr.mk b (0 : Nat) none)) (3 : Nat) = some (Value.int IntKind.i64 n_5) ∧ ∃ (n_6 : Int), atI I'_2 (some (Addr.mk b (0 : Nat) none)) (4 : Nat) = some (Value.int IntKind.i64 n_6) ∧ ∃ (n_7 : Int), atI I'_2 (some (Addr.mk b (0 : Nat) none)) (5 : Nat) = some (Value.int IntKind.i64 n_7) ∧ ∃ (n_8 : Int), atI I'_2 (some (Addr.mk b (0 : Nat) none)) (6 : Nat) = some (Value.int IntKind.i64 n_8) ∧ ∃ (n_9 : Int), atI I'_2 (some (Addr.mk b (0 : Nat) none)) (7 : Nat) = some (Value.int IntKind.i64 n_9) ∧ ∃ (n_10 : Int), atI I'_2 (some (Addr.mk b (0 : Nat) none)) (8 : Nat) = some (Value.int IntKind.i64 n_10) ∧ ∃ (n_11 : Int), atI I'_2 (some (Addr.mk b (0 : Nat) none)) (9 : Nat) = some (Value.int IntKind.i64 n_11) ∧ ∃ (n_12 : Int), atI I'_2 (some (Addr.mk b (0 : Nat) none)) (10 : Nat) = some (Value.int IntKind.i64 n_12) ∧ ∃ (a : Option Addr), ∃ (n_13 : Nat), ∃ (c : Nat), atI I'_2 (some (Addr.mk b (0 : Nat) none)) (11 : Nat) = some (Value.slice a n_13 c) ∧ (12 : Nat) = (12 : Nat) ∧ ∃ (n_14 : Int), atI I'_2 (some (Addr.mk b_1 (0 : Nat) none)) (0 : Nat) = some (Value.int IntKind.u8 n_14) ∧ ∃ (n_15 : Int), atI I'_2 (some (Addr.mk b_1 (0 : Nat) none)) (1 : Nat) = some (Value.int IntKind.u8 n_15) ∧ ∃ (q_2 : ByteArray), atI I'_2 (some (Addr.mk b_1 (0 : Nat) none)) (2 : Nat) = some (Value.string q_2) ∧ ∃ (n_16 : Int), atI I'_2 (some (Addr.mk b_1 (0 : Nat) none)) (3 : Nat) = some (Value.int IntKind.i64 n_16) ∧ ∃ (n_17 : Int), atI I'_2 (some (Addr.mk b_1 (0 : Nat) none)) (4 : Nat) = some (Value.int IntKind.i64 n_17) ∧ ∃ (n_18 : Int), atI I'_2 (some (Addr.mk b_1 (0 : Nat) none)) (5 : Nat) = some (Value.int IntKind.i64 n_18) ∧ ∃ (n_19 : Int), atI I'_2 (some (Addr.mk b_1 (0 : Nat) none)) (6 : Nat) = some (Value.int IntKind.i64 n_19) ∧ ∃ (n_20 : Int), atI I'_2 (some (Addr.mk b_1 (0 : Nat) none)) (7 : Nat) = some (Value.int IntKind.i64 n_20) ∧ ∃ (n_21 : Int), atI I'_2 (some (Addr.mk b_1 (0 : Nat) none)) (8 : Nat) = some (Value.int IntKind.i64 n_21) ∧ ∃ (n_22 : Int), atI I'_2 (some (Addr.mk b_1 (0 : Nat) none)) (9 : Nat) = some (Value.int IntKind.i64 n_22) ∧ ∃ (n_23 : Int), atI I'_2 (some (Addr.mk b_1 (0 : Nat) none)) (10 : Nat) = some (Value.int IntKind.i64 n_23) ∧ ∃ (a_1 : Option Addr), ∃ (n_24 : Nat), ∃ (c_1 : Nat), atI I'_2 (some (Addr.mk b_1 (0 : Nat) none)) (11 : Nat) = some (Value.slice a_1 n_24 c_1) ∧ Ct Try.prog (Value.func (Fn.func (50 : Nat)) #[] #[]) #[Value.agg #[Value.int IntKind.u8 n_3, Value.int IntKind.u8 n_4, Value.string q_1, Value.int IntKind.i64 n_5, Value.int IntKind.i64 n_6, Value.int IntKind.i64 n_7, Value.int IntKind.i64 n_8, Value.int IntKind.i64 n_9, Value.int IntKind.i64 n_10, Value.int IntKind.i64 n_11, Value.int IntKind.i64 n_12, Value.slice a n_13 c], Value.int IntKind.i64 n] I'_2 fun (v : Value) (I' : Mem) => ∃ (n_25 : Int), v = Value.int IntKind.i64 n_25 ∧ Ct Try.prog (Value.func (Fn.func (50 : Nat)) #[] #[]) #[Value.agg #[Value.int IntKind.u8 n_14, Value.int IntKind.u8 n_15, Value.string q_2, Value.int IntKind.i64 n_16, Value.int IntKind.i64 n_17, Value.int IntKind.i64 n_18, Value.int IntKind.i64 n_19, Value.int IntKind.i64 n_20, Value.int IntKind.i64 n_21, Value.int IntKind.i64 n_22, Value.int IntKind.i64 n_23, Value.slice a_1 n_24 c_1], Value.int IntKind.i64 n] I' fun (v : Value) (I' : Mem) => ∃ (n_26 : Int), v = Value.int IntKind.i64 n_26 ∧ Br (n_25 != n_26) (Value.bool false = Value.bool (sameR r q)) (Wr IntKind.i64 (n + (1 : Int)) fun (c : Int) => SV.v (Value.pointer (some (Addr.mk b (0 : Nat) none))) = SV.v (Value.pointer (some (Addr.mk b (0 : Nat) none))) ∧ SV.v (Value.pointer (some (Addr.mk b_1 (0 : Nat) none))) = SV.v (Value.pointer (some (Addr.mk b_1 (0 : Nat) none))) ∧ ((3 : Int) ≤ c ∧ c ≤ (10 : Int) ∧ ∀ (i : Int), (3 : Int) ≤ i → i ≤ (9 : Int) → i < c → numR r i = numR q i) ∧ Int.toNat ((10 : Int) - c) < Int.toNat ((10 : Int) - n))) (true = true ∧ ∃ (n : Int), atI I'_2 (some (Addr.mk b (0 : Nat) none)) (0 : Nat) = some (Value.int IntKind.u8 n) ∧ true = true ∧ ∃ (n_3 : Int), atI I'_2 (some (Addr.mk b_1 (0 : Nat) none)) (0 : Nat) = some (Value.int IntKind.u8 n_3) ∧ Br (n == n_3) (true = true ∧ ∃ (n : Int), atI I'_2 (some (Addr.mk b (0 : Nat) none)) (1 : Nat) = some (Value.int IntKind.u8 n) ∧ true = true ∧ ∃ (n_4 : Int), atI I'_2 (some (Addr.mk b_1 (0 : Nat) none)) (1 : Nat) = some (Value.int IntKind.u8 n_4) ∧ Br (n == n_4) (true = true ∧ ∃ (q_1 : ByteArray), atI I'_2 (some (Addr.mk b (0 : Nat) none)) (2 : Nat) = some (Value.string q_1) ∧ true = true ∧ ∃ (q_2 : ByteArray), atI I'_2 (some (Addr.mk b_1 (0 : Nat) none)) (2 : Nat) = some (Value.string q_2) ∧ Br (ByteArray.toList q_1 == ByteArray.toList q_2) (true = true ∧ ∃ (n : Int), atI I'_2 (some (Addr.mk b (0 : Nat) none)) (10 : Nat) = some (Value.int IntKind.i64 n) ∧ true = true ∧ ∃ (n_5 : Int), atI I'_2 (some (Addr.mk b_1 (0 : Nat) none)) (10 : Nat) = some (Value.int IntKind.i64 n_5) ∧ Value.bool (n == n_5) = Value.bool (sameR r q)) (Value.bool false = Value.bool (sameR r q))) (Value.bool false = Value.bool (sameR r q))) (Value.bool false = Value.bool (sameR r q)))))) (by kernel_rfl) ?_
  intro b I1 l1 hb c I2 l2 hc
  have hb := l2 _ _ hb
  have hn1 := hs1.numLen
  have hn2 := hs2.numLen
  refine ⟨rfl, _, _, _, atC hb rfl, rfl, _, _, _, atC hc rfl, Br.mk (fun h => ?_) (fun h => ?_)⟩
  · have h : n1 ≠ n2 := by simp at h; omega
    exact same_no (Q := r.fed.length = q.fed.length) (by omega) fun hs => by rw [same_iff.1 hs]
  have h : n1 = n2 := by simp at h; omega
  refine ⟨⟨rfl, rfl, by omega, by omega, by simp⟩, fun I3 _ l3 j ⟨j0, j1, hj⟩ => ⟨rfl, _, _, _, atC (l3 _ _ hb) rfl, Br.mk (fun hlt => ?_) (fun hge => ?_)⟩⟩
  · have hlt := of_decide_eq_true hlt
    obtain ⟨x, hx, e1⟩ := (hs1.mono (Mem.le_trans l1 (Mem.le_trans l2 l3))).intAt j0 (by omega)
    obtain ⟨z, hz, e2⟩ := (hs2.mono (Mem.le_trans l1 (Mem.le_trans l2 l3))).intAt j0 (by omega)
    refine ⟨rfl, _, _, _, atC (l3 _ _ hb) rfl, j0, hlt, hs1.isSome (by omega), x, e1, rfl, _, _, _, atC (l3 _ _ hc) rfl, j0, by omega, hs2.isSome (by omega), z, e2, Br.mk (fun hq => ?_) (fun hq => ?_)⟩
    · have hq : ¬ x = z := by simpa using hq
      exact same_no hq fun hs => by
        have := same_iff.1 hs
        rw [this, hz] at hx
        exact (Option.some.inj hx).symm
    · have hq : x = z := by simpa using hq
      subst hq
      refine wr_i64 (by omega) (by omega) ⟨rfl, rfl, ⟨by omega, by omega, ?_⟩, by omega⟩
      rw [show (j + 1).toNat = j.toNat + 1 by omega, take_succ' hx, take_succ' hz, hj]
  have hge := of_decide_eq_false hge
  have hfd : r.fed = q.fed := by rw [List.take_of_length_le (by omega), List.take_of_length_le (by omega)] at hj; exact hj
  refine ⟨⟨rfl, rfl, by omega, by omega, fun i h3 h9 h => by omega⟩, fun I4 _ l4 j ⟨j3, j10, hj⟩ => Br.mk (fun hlt => ?_) (fun hge => ?_)⟩
  · have hlt := of_decide_eq_true hlt
    have hb4 := (Mem.le_trans l3 l4) _ _ hb
    have hc4 := (Mem.le_trans l3 l4) _ _ hc
    refine ⟨rfl, _, atC hb4 rfl, _, atC hb4 rfl, _, atC hb4 rfl, _, atC hb4 rfl, _, atC hb4 rfl, _, atC hb4 rfl, _, atC hb4 rfl, _, atC hb4 rfl, _, atC hb4 rfl, _, atC hb4 rfl, _, atC hb4 rfl, _, _, _, atC hb4 rfl, rfl, _, atC hc4 rfl, _, atC hc4 rfl, _, atC hc4 rfl, _, atC hc4 rfl, _, atC hc4 rfl, _, atC hc4 rfl, _, atC hc4 rfl, _, atC hc4 rfl, _, atC hc4 rfl, _, atC hc4 rfl, _, atC hc4 rfl, _, _, _, atC hc4 rfl, ?_⟩
    refine (ct50 r _ j ⟨j3, by omega⟩ I4).mono fun v I5 l5 hv => ⟨_, hv, (ct50 q _ j ⟨j3, by omega⟩ I5).mono fun v I6 l6 hv => ⟨_, hv, Br.mk (fun hq => ?_) (fun hq => ?_)⟩⟩
    · have hq : ¬ numR r j = numR q j := by simpa using hq
      exact same_no hq fun hs => same_num hs j
    · have hq : numR r j = numR q j := by simpa using hq
      refine wr_i64 (by omega) (by omega) ⟨rfl, rfl, ⟨by omega, by omega, fun i h3 h9 hi => ?_⟩, by omega⟩
      by_cases hij : i = j
      · rw [hij]; exact hq
      · exact hj i h3 h9 (by omega)
  have hge := of_decide_eq_false hge
  have hb4 := (Mem.le_trans l3 l4) _ _ hb
  have hc4 := (Mem.le_trans l3 l4) _ _ hc
  have g := fun i h3 h9 => hj i h3 h9 (by omega)
  refine ⟨rfl, _, atC hb4 rfl, rfl, _, atC hc4 rfl, Br.mk (fun e1 => ⟨rfl, _, atC hb4 rfl, rfl, _, atC hc4 rfl, Br.mk (fun e2 => ⟨rfl, _, atC hb4 rfl, rfl, _, atC hc4 rfl, Br.mk (fun e3 => ⟨rfl, _, atC hb4 rfl, rfl, _, atC hc4 rfl, ?_⟩) (fun h => ?_)⟩) (fun h => ?_)⟩) (fun h => ?_)⟩
  · have e1 := eqv e1
    have e2 := eqv e2
    rw [str_eq] at e3
    have e3 : r.name = q.name := by simpa using e3
    by_cases e4 : r.val = q.val
    · have : sameR r q = true := decide_eq_true ⟨hfd, e1, e2, e3, e4, g 3 (by omega) (by omega), g 4 (by omega) (by omega), g 5 (by omega) (by omega), g 6 (by omega) (by omega), g 7 (by omega) (by omega), g 8 (by omega) (by omega), g 9 (by omega) (by omega)⟩
      rw [this, e4]; simp
    · rw [← same_no e4 fun hs => by rw [same_iff.1 hs]]
      simp [e4]
  · rw [str_eq] at h
    have h : ¬ r.name = q.name := by simpa using h
    exact same_no h fun hs => by rw [same_iff.1 hs]
  · exact same_no (nev h) fun hs => by rw [same_iff.1 hs]
  · exact same_no (nev h) fun hs => by rw [same_iff.1 hs]
