/- Part of a proof by the rules of the symbolic walk (see the law's own text): contracts of functions of the program. -/
import Derived.Test.YtnjbojekknpknaaLR18
open Go Go.Proofs Go.SE Go.RowKit
set_option linter.unusedVariables false
theorem ct69 (l : List Int) (t : Int) (a : Option Addr) (n c : Nat) (I : Mem) (h : SlM I a n 1 (ints .i64 l)) (hn : n ≤ 1000000) :
    Ct Try.prog (fnv 69) #[.slice a n c, .int .i64 t] I (fun v _ => v = .bool (decide (t ∈ l))) := by
  refine viaR (ct_via (A := { loops := [(2, ⟨[(0, .keep), (1, .keep), (5, .sh (.int .i64))], [], [], fun vals _ _ _ => match vals with | [.int .i64 j] => 0 ≤ j ∧ j ≤ n ∧ t ∉ l.take j.toNat | _ => False, fun vals _ => match vals with | [.int .i64 j] => (n - j).toNat | _ => 0⟩)] }) Try.func69 rfl Try.call69 rfl rfl) ((SV.v (Value.slice a n c) = SV.v (Value.slice a n c) ∧ SV.v (Value.int IntKind.i64 t) = SV.v (Value.int IntKind.i64 t) ∧ (0 : Int) ≤ (0 : Int) ∧ (0 : Int) ≤ (↑n : Int) ∧ ¬t ∈ []) ∧ ∀ (I' G' : Mem), Mem.le I I' → ∀ (n_1 : Int), (0 : Int) ≤ n_1 ∧ n_1 ≤ (↑n : Int) ∧ ¬t ∈ List.take (Int.toNat n_1) l → Br (decide (n_1 < (↑n : Int))) ((0 : Int) ≤ n_1 ∧ n_1 < (↑n : Int) ∧ Option.isSome a = true ∧ ∃ (n_2 : Int), atI I' a (Int.toNat n_1 * (1 : Nat) + (0 : Nat)) = some (Value.int IntKind.i64 n_2) ∧ Br (n_2 == t) (Value.bool true = Value.bool (decide (t ∈ l))) (Wr IntKind.i64 (n_1 + (1 : Int)) fun (c_1 : Int) => SV.v (Value.slice a n c) = SV.v (Value.slice a n c) ∧ SV.v (Value.int IntKind.i64 t) = SV.v (Value.int IntKind.i64 t) ∧ ((0 : Int) ≤ c_1 ∧ c_1 ≤ (↑n : Int) ∧ ¬t ∈ List.take (Int.toNat c_1) l) ∧ Int.toNat ((↑n : Int) - c_1) < Int.toNat ((↑n : Int) - n_1))) (Value.bool false = Value.bool (decide (t ∈ l)))) (by kernel_rfl) ?_
  have hl := h.numLen
  refine ⟨⟨rfl, rfl, by omega, by omega, by simp⟩, fun I' _ l' j ⟨j0, j1, hj⟩ => Br.mk (fun hlt => ?_) (fun hge => ?_)⟩
  · have hlt := of_decide_eq_true hlt
    obtain ⟨x, hx, e⟩ := (h.mono l').intAt j0 (by omega)
    refine ⟨j0, hlt, h.isSome (by omega), x, e, Br.mk (fun hq => ?_) (fun hq => ?_)⟩
    · have hq := eqv hq
      rw [decide_eq_true (by rw [← hq]; exact List.mem_of_getElem? hx)]
    · have hq := nev hq
      refine wr_i64 (by omega) (by omega) ⟨rfl, rfl, ⟨by omega, by omega, ?_⟩, by omega⟩
      rw [show (j + 1).toNat = j.toNat + 1 by omega, take_succ' hx]
      simp only [List.mem_append, List.mem_singleton]
      rintro (hc | hc)
      · exact hj hc
      · exact hq hc.symm
  · have hge := of_decide_eq_false hge
    rw [List.take_of_length_le (by omega)] at hj
    rw [decide_eq_false hj]
theorem ct50 (r : Rq) (y : Value) (t : Int) (ht : 3 ≤ t ∧ t ≤ 9) (I : Mem) :
    Ct Try.prog (fnv 50) #[.agg (rqV r y).toArray, .int .i64 t] I (fun v _ => v = .int .i64 (numR r t)) := by
  refine viaR (ct_via (A := { }) Try.func50 rfl Try.call50 rfl rfl) (Wr IntKind.i64 (t - (3 : Int)) fun (c : Int) =>
        (0 : Int) ≤ c ∧
          c < (7 : Int) ∧
            ∃ (n : Int),
              (Option.bind [SV.v (Value.int IntKind.i64 (Rq.p3 r)), SV.v (Value.int IntKind.i64 (Rq.p4 r)), SV.v (Value.int IntKind.i64 (Rq.p5 r)), SV.v (Value.int IntKind.i64 (Rq.p6 r)), SV.v (Value.int IntKind.i64 (Rq.p7 r)), SV.v (Value.int IntKind.i64 (Rq.p8 r)), SV.v (Value.int IntKind.i64 (Rq.p9 r))][(0 : Nat) + Int.toNat c * (1 : Nat) + (0 : Nat)]? fun (x : SV) =>
                    match x with
                    | SV.v x => some x
                    | x => none) =
                  some (Value.int IntKind.i64 n) ∧
                Value.int IntKind.i64 n = Value.int IntKind.i64 (numR r t)) (by kernel_rfl) ?_
  rcases (by omega : t = 3 ∨ t = 4 ∨ t = 5 ∨ t = 6 ∨ t = 7 ∨ t = 8 ∨ t = 9) with rfl | rfl | rfl | rfl | rfl | rfl | rfl
  all_goals exact wr_i64 (by omega) (by omega) ⟨by omega, by omega, _, rfl, rfl⟩
theorem ct33 (r : Rq) (y : Value) (I : Mem) (hy : BySl I y r.fed) (hfl : r.fed.length ≤ 1000000) :
    Ct Try.prog (fnv 33) #[.agg (rqV r y).toArray] I (fun v I' => ∃ y', v = .agg (rqV r y').toArray ∧ BySl I' y' r.fed) := by
  obtain ⟨a1, n1, c1, rfl, hs1, hc1, hm1⟩ := hy
  refine viaR (ct_via (A := { }) Try.func33 rfl Try.call33 rfl rfl) (Ct Try.prog (Value.func (Fn.func (54 : Nat)) #[] #[]) #[Value.slice a1 n1 c1] I fun (v : Value) (I' : Mem) => ∃ (a : Option Addr), ∃ (n : Nat), ∃ (c : Nat), v = Value.slice a n c ∧ ∃ (y' : Value), Value.agg #[Value.int IntKind.u8 (Rq.kind r), Value.int IntKind.u8 (Rq.what r), Value.string (Rq.name r), Value.int IntKind.i64 (Rq.p3 r), Value.int IntKind.i64 (Rq.p4 r), Value.int IntKind.i64 (Rq.p5 r), Value.int IntKind.i64 (Rq.p6 r), Value.int IntKind.i64 (Rq.p7 r), Value.int IntKind.i64 (Rq.p8 r), Value.int IntKind.i64 (Rq.p9 r), Value.int IntKind.i64 (Rq.val r), Value.slice a n c] = Value.agg #[Value.int IntKind.u8 (Rq.kind r), Value.int IntKind.u8 (Rq.what r), Value.string (Rq.name r), Value.int IntKind.i64 (Rq.p3 r), Value.int IntKind.i64 (Rq.p4 r), Value.int IntKind.i64 (Rq.p5 r), Value.int IntKind.i64 (Rq.p6 r), Value.int IntKind.i64 (Rq.p7 r), Value.int IntKind.i64 (Rq.p8 r), Value.int IntKind.i64 (Rq.p9 r), Value.int IntKind.i64 (Rq.val r), y'] ∧ ∃ (b : Option Addr), ∃ (m : Nat), ∃ (c : Nat), y' = Value.slice b m c ∧ SlM I' b m (1 : Nat) (List.map (Value.int IntKind.u8) (Rq.fed r)) ∧ m ≤ c ∧ c ≤ (9223372036854775807 : Nat)) (by kernel_rfl) ?_
  have hn := hs1.numLen
  exact (ct54 r.fed a1 n1 c1 I hs1 (by omega)).mono fun v I1 l1 ⟨a, n, c, hv, h1, h2, h3⟩ => ⟨a, n, c, hv, _, rfl, a, n, c, rfl, h1, h2, h3⟩
theorem ct23 (r : Rq) (y : Value) (I : Mem) (hy : BySl I y r.fed) (hfl : r.fed.length ≤ 1000000) :
    Ct Try.prog (fnv 23) #[.agg (rqV r y).toArray] I (fun v I' => ∃ y', v = .agg (rqV r y').toArray ∧ BySl I' y' r.fed ∧ NewB I I' y') := by
  obtain ⟨a1, n1, c1, rfl, hs1, hc1, hm1⟩ := hy
  refine viaR (ct_via (A := { }) Try.func23 rfl Try.call23 rfl rfl) (Ct Try.prog (Value.func (Fn.func (30 : Nat)) #[] #[]) #[Value.slice a1 n1 c1] I fun (v : Value) (I' : Mem) => ∃ (a : Option Addr), ∃ (n : Nat), ∃ (c : Nat), v = Value.slice a n c ∧ ∃ (y' : Value), Value.agg #[Value.int IntKind.u8 (Rq.kind r), Value.int IntKind.u8 (Rq.what r), Value.string (Rq.name r), Value.int IntKind.i64 (Rq.p3 r), Value.int IntKind.i64 (Rq.p4 r), Value.int IntKind.i64 (Rq.p5 r), Value.int IntKind.i64 (Rq.p6 r), Value.int IntKind.i64 (Rq.p7 r), Value.int IntKind.i64 (Rq.p8 r), Value.int IntKind.i64 (Rq.p9 r), Value.int IntKind.i64 (Rq.val r), Value.slice a n c] = Value.agg #[Value.int IntKind.u8 (Rq.kind r), Value.int IntKind.u8 (Rq.what r), Value.string (Rq.name r), Value.int IntKind.i64 (Rq.p3 r), Value.int IntKind.i64 (Rq.p4 r), Value.int IntKind.i64 (Rq.p5 r), Value.int IntKind.i64 (Rq.p6 r), Value.int IntKind.i64 (Rq.p7 r), Value.int IntKind.i64 (Rq.p8 r), Value.int IntKind.i64 (Rq.p9 r), Value.int IntKind.i64 (Rq.val r), y'] ∧ (∃ (b : Option Addr), ∃ (m : Nat), ∃ (c : Nat), y' = Value.slice b m c ∧ SlM I' b m (1 : Nat) (List.map (Value.int IntKind.u8) (Rq.fed r)) ∧ m ≤ c ∧ c ≤ (9223372036854775807 : Nat)) ∧ NewB I I' y') (by kernel_rfl) ?_
  have hn := hs1.numLen
  exact (ct30N r.fed a1 n1 c1 I hs1 (by omega)).mono fun v I1 l1 ⟨⟨a, n, c, hv, h1, h2, h3⟩, hnb⟩ => ⟨a, n, c, hv, _, rfl, ⟨a, n, c, rfl, h1, h2, h3⟩, hv ▸ hnb⟩
/-- What is known of a small slice, as append asks it. -/
theorem small_at {J : Mem} {b : Nat} {l : List Int} (h : J b = some (.cells (ints .i64 l).toArray 3)) : ∀ (j : Nat) (v : Value), (ints .i64 l)[j]? = some v → atI J (some ⟨b, 0, none⟩) j = some v := fun j v hj => atC h (by simpa using hj)
theorem tagE {J : Mem} {a : Option Addr} {n cp : Nat} {k w : Int} {l : List Int} (ht : tagL k w = some l) (hr : RowM J a cp 1 (ints .i64 l)) (hn : n = l.length) : ∃ a_3 n_1 c, Value.tuple #[Value.slice a n cp, Value.bool true] = Value.tuple #[Value.slice a_3 n_1 c, Value.bool (tagL k w).isSome] ∧ SlM J a_3 n_1 1 (ints .i64 ((tagL k w).getD [])) ∧ n_1 ≤ c ∧ c ≤ maxLen := by
  rw [ht]
  have h1 := hr.1
  rw [ints_len] at h1
  exact ⟨a, n, cp, rfl, hr.sl (by omega) (by rw [ints_len]; omega), by omega, hr.2.1⟩
theorem ct26 (k w : Int) (hk : 0 ≤ k ∧ k ≤ 255) (hw : 0 ≤ w ∧ w ≤ 255) (I : Mem) : Ct Try.prog (fnv 26) #[.int .u8 k, .int .u8 w] I (fun v I' => ∃ (a : Option Addr) (n c : Nat), v = .tuple #[.slice a n c, .bool (tagL k w).isSome] ∧ SlM I' a n 1 (ints .i64 ((tagL k w).getD [])) ∧ n ≤ c ∧ c ≤ maxLen) := by
  refine viaR (ct_via (A := { befores := [(3, [0, 1, 2, 3, 4, 5, 6, 7, 8, 10, 11, 12, 13, 14])] }) Try.func26 rfl Try.call26 rfl rfl) (∀ (b : Nat) (I' : Mem),
        Mem.le I I' →
          I' b = some (Obj.cells #[Value.int IntKind.i64 (11 : Int)] (3 : Nat)) →
            ∀ (b_1 : Nat) (I'_1 : Mem),
              Mem.le I' I'_1 →
                I'_1 b_1 = some (Obj.cells #[Value.int IntKind.i64 (2 : Int), Value.int IntKind.i64 (3 : Int)] (3 : Nat)) →
                  ∀ (b_2 : Nat) (I' : Mem),
                    Mem.le I'_1 I' →
                      I' b_2 = some (Obj.cells #[Value.int IntKind.i64 (4 : Int), Value.int IntKind.i64 (5 : Int), Value.int IntKind.i64 (6 : Int)] (3 : Nat)) →
                        ∀ (b_3 : Nat) (I'_2 : Mem),
                          Mem.le I' I'_2 →
                            I'_2 b_3 = some (Obj.cells #[Value.int IntKind.i64 (4 : Int)] (3 : Nat)) →
                              ∀ (b_4 : Nat) (I' : Mem),
                                Mem.le I'_2 I' →
                                  I' b_4 = some (Obj.cells #[Value.int IntKind.i64 (4 : Int), Value.int IntKind.i64 (7 : Int), Value.int IntKind.i64 (10 : Int)] (3 : Nat)) →
                                    ∀ (b_5 : Nat) (I'_3 : Mem),
                                      Mem.le I' I'_3 →
                                        I'_3 b_5 = some (Obj.cells #[Value.int IntKind.i64 (7 : Int)] (3 : Nat)) →
                                          ∀ (b_6 : Nat) (I' : Mem),
                                            Mem.le I'_3 I' →
                                              I' b_6 = some (Obj.cells #[Value.int IntKind.i64 (1 : Int)] (3 : Nat)) →
                                                ∀ (b_7 : Nat) (I'_4 : Mem),
                                                  Mem.le I' I'_4 →
                                                    I'_4 b_7 = some (Obj.cells #[Value.int IntKind.i64 (8 : Int), Value.int IntKind.i64 (9 : Int)] (3 : Nat)) →
                                                      ∀ (b_8 : Nat) (I' : Mem),
                                                        Mem.le I'_4 I' →
                                                          I' b_8 = some (Obj.cells #[] (3 : Nat)) →
                                                            ∀ (b_9 : Nat) (I'_5 : Mem),
                                                              Mem.le I' I'_5 →
                                                                I'_5 b_9 = some (Obj.cells #[] (3 : Nat)) →
                                                                  ∀ (b_10 : Nat) (I' : Mem),
                                                                    Mem.le I'_5 I' →
                                                                      I' b_10 = some (Obj.cells #[Value.int IntKind.i64 (4 : Int)] (3 : Nat)) →
                                                                        ∀ (b_11 : Nat) (I'_6 : Mem),
                                                                          Mem.le I' I'_6 →
                                                                            I'_6 b_11 = some (Obj.cells #[Value.int IntKind.i64 (7 : Int), Value.int IntKind.i64 (8 : Int), Value.int IntKind.i64 (9 : Int)] (3 : Nat)) →
                                                                              ∀ (b_12 : Nat) (I' : Mem),
                                                                                Mem.le I'_6 I' →
                                                                                  I' b_12 = some (Obj.cells #[Value.int IntKind.i64 (2 : Int)] (3 : Nat)) →
                                                                                    ∀ (b_13 : Nat) (I'_7 : Mem),
                                                                                      Mem.le I' I'_7 →
                                                                                        I'_7 b_13 = some (Obj.cells #[Value.int IntKind.i64 (4 : Int)] (3 : Nat)) →
                                                                                          Br (decide (k < (1 : Int))) (∃ (a : Option Addr), ∃ (n : Nat), ∃ (c : Nat), Value.tuple #[Value.slice none (0 : Nat) (0 : Nat), Value.bool false] = Value.tuple #[Value.slice a n c, Value.bool (Option.isSome (tagL k w))] ∧ SlM I'_7 a n (1 : Nat) (List.map (Value.int IntKind.i64) (Option.getD (tagL k w) [])) ∧ n ≤ c ∧ c ≤ (9223372036854775807 : Nat))
                                                                                            (Br (decide ((9 : Int) < k)) (∃ (a : Option Addr), ∃ (n : Nat), ∃ (c : Nat), Value.tuple #[Value.slice none (0 : Nat) (0 : Nat), Value.bool false] = Value.tuple #[Value.slice a n c, Value.bool (Option.isSome (tagL k w))] ∧ SlM I'_7 a n (1 : Nat) (List.map (Value.int IntKind.i64) (Option.getD (tagL k w) [])) ∧ n ≤ c ∧ c ≤ (9223372036854775807 : Nat))
                                                                                              ((0 : Int) ≤ k ∧
                                                                                                k < (10 : Int) ∧
                                                                                                  ∃ (a : Option Addr),
                                                                                                    ∃ (n : Nat),
                                                                                                      ∃ (c : Nat),
                                                                                                        (Option.bind [SV.v (Value.slice none (0 : Nat) (0 : Nat)), SV.v (Value.slice (some (Addr.mk b (0 : Nat) none)) (1 : Nat) (1 : Nat)), SV.v (Value.slice (some (Addr.mk b_1 (0 : Nat) none)) (2 : Nat) (2 : Nat)), SV.v (Value.slice (some (Addr.mk b_2 (0 : Nat) none)) (3 : Nat) (3 : Nat)), SV.v (Value.slice (some (Addr.mk b_3 (0 : Nat) none)) (1 : Nat) (1 : Nat)), SV.v (Value.slice (some (Addr.mk b_4 (0 : Nat) none)) (3 : Nat) (3 : Nat)), SV.v (Value.slice (some (Addr.mk b_5 (0 : Nat) none)) (1 : Nat) (1 : Nat)), SV.v (Value.slice (some (Addr.mk b_6 (0 : Nat) none)) (1 : Nat) (1 : Nat)), SV.v (Value.slice (some (Addr.mk b_7 (0 : Nat) none)) (2 : Nat) (2 : Nat)), SV.v (Value.slice (some (Addr.mk b_8 (0 : Nat) none)) (0 : Nat) (0 : Nat))][(0 : Nat) + Int.toNat k * (1 : Nat) + (0 : Nat)]? fun (x : SV) =>
                                                                                                              match x with
                                                                                                              | SV.v x => some x
                                                                                                              | x => none) =
                                                                                                            some (Value.slice a n c) ∧
                                                                                                          ∃ (ys : List Value),
                                                                                                            List.length ys = n * (1 : Nat) ∧
                                                                                                              (a = none → n = (0 : Nat)) ∧
                                                                                                                (∀ (j : Nat) (v : Value), ys[j]? = some v → atI I'_7 a j = some v) ∧
                                                                                                                  (∀ (v : Value), v ∈ ys → Value.oneCell' v = true) ∧
                                                                                                                    (0 : Nat) = (0 : Nat) ∧
                                                                                                                      (0 : Nat) + n ≤ (9223372036854775807 : Nat) ∧
                                                                                                                        ((0 : Nat) + n) * (8 : Nat) ≤ (140737488355328 : Nat) ∧
                                                                                                                          Br (k == (7 : Int))
                                                                                                                            (Br (decide (w < (1 : Int))) (∃ (a : Option Addr), ∃ (n : Nat), ∃ (c : Nat), Value.tuple #[Value.slice none (0 : Nat) (0 : Nat), Value.bool false] = Value.tuple #[Value.slice a n c, Value.bool (Option.isSome (tagL k w))] ∧ SlM I'_7 a n (1 : Nat) (List.map (Value.int IntKind.i64) (Option.getD (tagL k w) [])) ∧ n ≤ c ∧ c ≤ (9223372036854775807 : Nat))
                                                                                                                              (Br (decide ((5 : Int) < w)) (∃ (a : Option Addr), ∃ (n : Nat), ∃ (c : Nat), Value.tuple #[Value.slice none (0 : Nat) (0 : Nat), Value.bool false] = Value.tuple #[Value.slice a n c, Value.bool (Option.isSome (tagL k w))] ∧ SlM I'_7 a n (1 : Nat) (List.map (Value.int IntKind.i64) (Option.getD (tagL k w) [])) ∧ n ≤ c ∧ c ≤ (9223372036854775807 : Nat))
                                                                                                                                ((0 : Int) ≤ w ∧
                                                                                                                                  w < (6 : Int) ∧
                                                                                                                                    ∃ (a : Option Addr),
                                                                                                                                      ∃ (n_1 : Nat),
                                                                                                                                        ∃ (c : Nat),
                                                                                                                                          (Option.bind [SV.v (Value.slice none (0 : Nat) (0 : Nat)), SV.v (Value.slice (some (Addr.mk b_9 (0 : Nat) none)) (0 : Nat) (0 : Nat)), SV.v (Value.slice (some (Addr.mk b_10 (0 : Nat) none)) (1 : Nat) (1 : Nat)), SV.v (Value.slice (some (Addr.mk b_11 (0 : Nat) none)) (3 : Nat) (3 : Nat)), SV.v (Value.slice (some (Addr.mk b_12 (0 : Nat) none)) (1 : Nat) (1 : Nat)), SV.v (Value.slice (some (Addr.mk b_13 (0 : Nat) none)) (1 : Nat) (1 : Nat))][(0 : Nat) + Int.toNat w * (1 : Nat) + (0 : Nat)]? fun (x : SV) =>
                                                                                                                                                match x with
                                                                                                                                                | SV.v x => some x
                                                                                                                                                | x => none) =
                                                                                                                                              some (Value.slice a n_1 c) ∧
                                                                                                                                            ∃ (ys_1 : List Value), List.length ys_1 = n_1 * (1 : Nat) ∧ (a = none → n_1 = (0 : Nat)) ∧ (∀ (j : Nat) (v : Value), ys_1[j]? = some v → atI I'_7 a j = some v) ∧ (∀ (v : Value), v ∈ ys_1 → Value.oneCell' v = true) ∧ List.length ys = ((0 : Nat) + n) * (1 : Nat) ∧ (0 : Nat) + n + n_1 ≤ (9223372036854775807 : Nat) ∧ ((0 : Nat) + n + n_1) * (8 : Nat) ≤ (140737488355328 : Nat) ∧ ∀ (a : Option Addr) (cp : Nat) (I' : Mem), Mem.le I'_7 I' → RowM I' a cp (1 : Nat) (ys ++ ys_1) → ∃ (a_3 : Option Addr), ∃ (n_2 : Nat), ∃ (c : Nat), Value.tuple #[Value.slice a ((0 : Nat) + n + n_1) cp, Value.bool true] = Value.tuple #[Value.slice a_3 n_2 c, Value.bool (Option.isSome (tagL k w))] ∧ SlM I' a_3 n_2 (1 : Nat) (List.map (Value.int IntKind.i64) (Option.getD (tagL k w) [])) ∧ n_2 ≤ c ∧ c ≤ (9223372036854775807 : Nat))))
                                                                                                                            (∀ (a : Option Addr) (cp : Nat) (I' : Mem), Mem.le I'_7 I' → RowM I' a cp (1 : Nat) ys → ∃ (a_3 : Option Addr), ∃ (n_1 : Nat), ∃ (c : Nat), Value.tuple #[Value.slice a ((0 : Nat) + n) cp, Value.bool true] = Value.tuple #[Value.slice a_3 n_1 c, Value.bool (Option.isSome (tagL k w))] ∧ SlM I' a_3 n_1 (1 : Nat) (List.map (Value.int IntKind.i64) (Option.getD (tagL k w) [])) ∧ n_1 ≤ c ∧ c ≤ (9223372036854775807 : Nat))))) (by kernel_rfl) ?_
  have Z : ∀ {J : Mem}, tagL k w = none → ∃ a n c, Value.tuple #[Value.slice none 0 0, Value.bool false] = Value.tuple #[Value.slice a n c, Value.bool (tagL k w).isSome] ∧ SlM J a n 1 (ints .i64 ((tagL k w).getD [])) ∧ n ≤ c ∧ c ≤ maxLen := fun {J} hz => by
    rw [hz]
    exact ⟨none, 0, 0, rfl, sl_nil _ _, by omega, by omega⟩
  intro b0 J0 l0 h0 b1 J1 l1 h1 b2 J2 l2 h2 b3 J3 l3 h3 b4 J4 l4 h4 b5 J5 l5 h5 b6 J6 l6 h6 b7 J7 l7 h7 b8 J8 l8 h8 b9 J9 l9 h9 b10 J10 l10 h10 b11 J11 l11 h11 b12 J12 l12 h12 b13 J13 l13 h13
  have h0 := (Mem.le_trans l1 (Mem.le_trans l2 (Mem.le_trans l3 (Mem.le_trans l4 (Mem.le_trans l5 (Mem.le_trans l6 (Mem.le_trans l7 (Mem.le_trans l8 (Mem.le_trans l9 (Mem.le_trans l10 (Mem.le_trans l11 (Mem.le_trans l12 l13)))))))))))) _ _ h0
  have h1 := (Mem.le_trans l2 (Mem.le_trans l3 (Mem.le_trans l4 (Mem.le_trans l5 (Mem.le_trans l6 (Mem.le_trans l7 (Mem.le_trans l8 (Mem.le_trans l9 (Mem.le_trans l10 (Mem.le_trans l11 (Mem.le_trans l12 l13))))))))))) _ _ h1
  have h2 := (Mem.le_trans l3 (Mem.le_trans l4 (Mem.le_trans l5 (Mem.le_trans l6 (Mem.le_trans l7 (Mem.le_trans l8 (Mem.le_trans l9 (Mem.le_trans l10 (Mem.le_trans l11 (Mem.le_trans l12 l13)))))))))) _ _ h2
  have h3 := (Mem.le_trans l4 (Mem.le_trans l5 (Mem.le_trans l6 (Mem.le_trans l7 (Mem.le_trans l8 (Mem.le_trans l9 (Mem.le_trans l10 (Mem.le_trans l11 (Mem.le_trans l12 l13))))))))) _ _ h3
  have h4 := (Mem.le_trans l5 (Mem.le_trans l6 (Mem.le_trans l7 (Mem.le_trans l8 (Mem.le_trans l9 (Mem.le_trans l10 (Mem.le_trans l11 (Mem.le_trans l12 l13)))))))) _ _ h4
  have h5 := (Mem.le_trans l6 (Mem.le_trans l7 (Mem.le_trans l8 (Mem.le_trans l9 (Mem.le_trans l10 (Mem.le_trans l11 (Mem.le_trans l12 l13))))))) _ _ h5
  have h6 := (Mem.le_trans l7 (Mem.le_trans l8 (Mem.le_trans l9 (Mem.le_trans l10 (Mem.le_trans l11 (Mem.le_trans l12 l13)))))) _ _ h6
  have h7 := (Mem.le_trans l8 (Mem.le_trans l9 (Mem.le_trans l10 (Mem.le_trans l11 (Mem.le_trans l12 l13))))) _ _ h7
  have h8 := (Mem.le_trans l9 (Mem.le_trans l10 (Mem.le_trans l11 (Mem.le_trans l12 l13)))) _ _ h8
  have h9 := (Mem.le_trans l10 (Mem.le_trans l11 (Mem.le_trans l12 l13))) _ _ h9
  have h10 := (Mem.le_trans l11 (Mem.le_trans l12 l13)) _ _ h10
  have h11 := (Mem.le_trans l12 l13) _ _ h11
  have h12 := l13 _ _ h12
  refine Br.mk (fun g => Z (tag_none (.inl (of_decide_eq_true g)))) (fun g1 => Br.mk (fun g => Z (tag_none (.inr (of_decide_eq_true g)))) (fun g2 => ?_))
  have g1 := of_decide_eq_false g1
  have g2 := of_decide_eq_false g2
  refine ⟨by omega, by omega, ?_⟩
  rcases (by omega : k = 1 ∨ k = 2 ∨ k = 3 ∨ k = 4 ∨ k = 5 ∨ k = 6 ∨ k = 7 ∨ k = 8 ∨ k = 9) with rfl | rfl | rfl | rfl | rfl | rfl | rfl | rfl | rfl
  · exact ⟨_, _, _, rfl, ints .i64 [11], rfl, (fun h => by cases h), small_at h0, one_ints, rfl, by omega, by omega, Br.f rfl (fun a cp J _ hr => tagE (l := [11]) rfl hr rfl)⟩
  · exact ⟨_, _, _, rfl, ints .i64 [2, 3], rfl, (fun h => by cases h), small_at h1, one_ints, rfl, by omega, by omega, Br.f rfl (fun a cp J _ hr => tagE (l := [2, 3]) rfl hr rfl)⟩
  · exact ⟨_, _, _, rfl, ints .i64 [4, 5, 6], rfl, (fun h => by cases h), small_at h2, one_ints, rfl, by omega, by omega, Br.f rfl (fun a cp J _ hr => tagE (l := [4, 5, 6]) rfl hr rfl)⟩
  · exact ⟨_, _, _, rfl, ints .i64 [4], rfl, (fun h => by cases h), small_at h3, one_ints, rfl, by omega, by omega, Br.f rfl (fun a cp J _ hr => tagE (l := [4]) rfl hr rfl)⟩
  · exact ⟨_, _, _, rfl, ints .i64 [4, 7, 10], rfl, (fun h => by cases h), small_at h4, one_ints, rfl, by omega, by omega, Br.f rfl (fun a cp J _ hr => tagE (l := [4, 7, 10]) rfl hr rfl)⟩
  · exact ⟨_, _, _, rfl, ints .i64 [7], rfl, (fun h => by cases h), small_at h5, one_ints, rfl, by omega, by omega, Br.f rfl (fun a cp J _ hr => tagE (l := [7]) rfl hr rfl)⟩
  · refine ⟨_, _, _, rfl, ints .i64 [1], rfl, (fun h => by cases h), small_at h6, one_ints, rfl, by omega, by omega, Br.t rfl (Br.mk (fun g => Z (ask_none (.inl (of_decide_eq_true g)))) (fun g3 => Br.mk (fun g => Z (ask_none (.inr (of_decide_eq_true g)))) (fun g4 => ?_)))⟩
    have g3 := of_decide_eq_false g3
    have g4 := of_decide_eq_false g4
    refine ⟨by omega, by omega, ?_⟩
    rcases (by omega : w = 1 ∨ w = 2 ∨ w = 3 ∨ w = 4 ∨ w = 5) with rfl | rfl | rfl | rfl | rfl
    · exact ⟨_, _, _, rfl, ints .i64 [], rfl, (fun h => by cases h), small_at h9, one_ints, rfl, by omega, by omega, fun a cp J _ hr => tagE (l := [1]) rfl hr rfl⟩
    · exact ⟨_, _, _, rfl, ints .i64 [4], rfl, (fun h => by cases h), small_at h10, one_ints, rfl, by omega, by omega, fun a cp J _ hr => tagE (l := [1, 4]) rfl hr rfl⟩
    · exact ⟨_, _, _, rfl, ints .i64 [7, 8, 9], rfl, (fun h => by cases h), small_at h11, one_ints, rfl, by omega, by omega, fun a cp J _ hr => tagE (l := [1, 7, 8, 9]) rfl hr rfl⟩
    · exact ⟨_, _, _, rfl, ints .i64 [2], rfl, (fun h => by cases h), small_at h12, one_ints, rfl, by omega, by omega, fun a cp J _ hr => tagE (l := [1, 2]) rfl hr rfl⟩
    · exact ⟨_, _, _, rfl, ints .i64 [4], rfl, (fun h => by cases h), small_at h13, one_ints, rfl, by omega, by omega, fun a cp J _ hr => tagE (l := [1, 4]) rfl hr rfl⟩
  · exact ⟨_, _, _, rfl, ints .i64 [8, 9], rfl, (fun h => by cases h), small_at h7, one_ints, rfl, by omega, by omega, Br.f rfl (fun a cp J _ hr => tagE (l := [8, 9]) rfl hr rfl)⟩
  · exact ⟨_, _, _, rfl, ints .i64 [], rfl, (fun h => by cases h), small_at h8, one_ints, rfl, by omega, by omega, Br.f rfl (fun a cp J _ hr => tagE (l := []) rfl hr rfl)⟩
