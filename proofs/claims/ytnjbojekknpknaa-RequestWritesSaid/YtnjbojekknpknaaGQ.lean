/- Part of a proof by the rules of the symbolic walk (see the law's own text): contracts of functions of the program. -/
import Derived.Test.YtnjbojekknpknaaGP
open Go Go.Proofs Go.SE Go.RowKit
set_option linter.unusedVariables false
theorem ct73 (k i : Int) (I : Mem) (hk : 0 ≤ k ∧ k ≤ 100) (hi : 0 ≤ i ∧ i ≤ 1000000000000000) :
    Ct Try.prog (fnv 73) #[.int .i64 k, .int .i64 i] I (fun v _ => v = .int .i64 (1000003 * (k + 7) + i)) := by
  refine viaR (ct_via (A := { }) Try.func73 rfl Try.call73 rfl rfl) (Wr IntKind.i64 (k + (7 : Int)) fun (c : Int) => Wr IntKind.i64 ((1000003 : Int) * c) fun (c : Int) => Wr IntKind.i64 (c + i) fun (c : Int) => Value.int IntKind.i64 c = Value.int IntKind.i64 ((1000003 : Int) * (k + (7 : Int)) + i)) (by kernel_rfl) ?_
  exact wr_i64 (by omega) (by omega) (wr_i64 (by omega) (by omega) (wr_i64 (by omega) (by omega) rfl))
/-- The mark for index i of slice k. -/
def markB (k i : Int) : Int := IntKind.u8.wrap ((IntKind.u64.wrap (IntKind.u64.wrap (1000003 * (k + 7) + i) * 11400714819323198485)).fdiv 72057594037927936)
theorem wrap_u8 (x : Int) : 0 ≤ IntKind.u8.wrap x ∧ IntKind.u8.wrap x ≤ 255 := by
  have h : IntKind.u8.wrap x = x % 256 := rfl
  omega
theorem ct55 (k i : Int) (I : Mem) (hk : 0 ≤ k ∧ k ≤ 100) (hi : 0 ≤ i ∧ i ≤ 1000000000000000) :
    Ct Try.prog (fnv 55) #[.int .i64 k, .int .i64 i] I (fun v _ => v = .int .u8 (markB k i)) := by
  refine viaR (ct_via (A := { }) Try.func55 rfl Try.call55 rfl rfl) (Ct Try.prog (Value.func (Fn.func (73 : Nat)) #[] #[]) #[Value.int IntKind.i64 k, Value.int IntKind.i64 i] I fun (v : Value) (I' : Mem) => ∃ (n : Int), v = Value.int IntKind.i64 n ∧ Wr IntKind.u64 n fun (c : Int) => Wr IntKind.u64 (c * (11400714819323198485 : Int)) fun (c : Int) => (0 : Int) ≤ (56 : Int) ∧ Wr IntKind.u8 (Int.fdiv c (72057594037927936 : Int)) fun (c : Int) => Value.int IntKind.u8 c = Value.int IntKind.u8 (markB k i)) (by kernel_rfl) ?_
  exact (ct73 k i I hk hi).mono fun v I1 l1 hv => ⟨_, hv, _, rfl, _, rfl, by decide, _, rfl, rfl⟩
/-- Memory as another one, but for the contents of one block. -/
def OverB (G : Mem) (a : Option Addr) (c : Nat) (G' : Mem) : Prop :=
  (c = 0 ∧ G' = G) ∨ 0 < c ∧ ∃ (b off : Nat) (cur cur' : Array Value) (el : TypeId), a = some ⟨b, off, none⟩ ∧ G b = some (.cells cur el (0, 0)) ∧ G' b = some (.cells cur' el (0, 0)) ∧ cur'.size = cur.size ∧ ∀ k, k ≠ b → G' k = G k
theorem ct37 (a : Option Addr) (n c : Nat) (I G : Mem) (hn : n ≤ c) (hc : n ≤ 1000000) (h : OwnS 1 G a c) :
    CtH Try.prog (fnv 37) #[.slice a n c] I G (fun v I' G' => v = .tuple #[] ∧ OverB G a c G') := by
  refine viaR (ctG_via (A := { calls := [(22, .st)], loops := [(2, ⟨[(2, .keep), (3, .sh (.int .i64))], [], [], fun vals _ _ G' => match vals with | [.int .i64 j] => 0 ≤ j ∧ j ≤ n + 12 ∧ OverB G a c G' | _ => False, fun vals _ => match vals with | [.int .i64 j] => (n + 12 - j).toNat | _ => 0⟩)] }) Try.func37 rfl Try.call37 rfl rfl) (Wr IntKind.i64 ((↑n : Int) + (12 : Int)) fun (c_1 : Int) => ((0 : Int) ≤ bif false then imax (↑c : Int) c_1 else imin (↑c : Int) c_1) ∧ (bif false then imax (↑c : Int) c_1 else imin (↑c : Int) c_1) ≤ (↑c : Int) ∧ (SV.v (Value.slice a (Int.toNat (bif false then imax (↑c : Int) c_1 else imin (↑c : Int) c_1)) c) = SV.v (Value.slice a (Int.toNat (bif false then imax (↑c : Int) c_1 else imin (↑c : Int) c_1)) c) ∧ (0 : Int) ≤ (0 : Int) ∧ (0 : Int) ≤ (↑n : Int) + (12 : Int) ∧ OverB G a c G) ∧ ∀ (I' G' : Mem), Mem.le I I' → ∀ (n_1 : Int), (0 : Int) ≤ n_1 ∧ n_1 ≤ (↑n : Int) + (12 : Int) ∧ OverB G a c G' → Br (decide (n_1 < (↑(Int.toNat (bif false then imax (↑c : Int) c_1 else imin (↑c : Int) c_1)) : Int))) (Ct Try.prog (Value.func (Fn.func (55 : Nat)) #[] #[]) #[Value.int IntKind.i64 (2 : Int), Value.int IntKind.i64 n_1] I' fun (v : Value) (I' : Mem) => ∃ (n_2 : Int), v = Value.int IntKind.u8 n_2 ∧ (0 : Int) ≤ n_1 ∧ n_1 < (↑(Int.toNat (bif false then imax (↑c : Int) c_1 else imin (↑c : Int) c_1)) : Int) ∧ Option.isSome a = true ∧ ∃ (G'_1 : Mem), PutG G' a (Int.toNat n_1 * (1 : Nat)) [Value.int IntKind.u8 n_2] G'_1 ∧ Wr IntKind.i64 (n_1 + (1 : Int)) fun (c_2 : Int) => SV.v (Value.slice a (Int.toNat (bif false then imax (↑c : Int) c_1 else imin (↑c : Int) c_1)) c) = SV.v (Value.slice a (Int.toNat (bif false then imax (↑c : Int) c_1 else imin (↑c : Int) c_1)) c) ∧ ((0 : Int) ≤ c_2 ∧ c_2 ≤ (↑n : Int) + (12 : Int) ∧ OverB G a c G'_1) ∧ Int.toNat ((↑n : Int) + (12 : Int) - c_2) < Int.toNat ((↑n : Int) + (12 : Int) - n_1)) (Value.tuple #[] = Value.tuple #[] ∧ OverB G a c G')) (by kernel_rfl) ?_
  
  have hs : 0 ≤ (bif false then imax (c : Int) (n + 12) else imin (c : Int) (n + 12)) ∧ (bif false then imax (c : Int) (n + 12) else imin (c : Int) (n + 12)) ≤ c ∧ (bif false then imax (c : Int) (n + 12) else imin (c : Int) (n + 12)) ≤ n + 12 := by
    simp only [cond_false, imin]
    split <;> omega
  have o0 : OverB G a c G := by
    by_cases h0 : c = 0
    · exact .inl ⟨h0, rfl⟩
    · obtain ⟨b, off, cur, el, h1, h2, h3⟩ := h (by omega)
      exact .inr ⟨by omega, b, off, cur, cur, el, h1, h2, h2, rfl, fun _ _ => rfl⟩
  refine wr_i64 (by omega) (by omega) ?_
  obtain ⟨m0, m1, m2⟩ := hs
  generalize (bif false then imax (c : Int) (n + 12) else imin (c : Int) (n + 12)) = m at m0 m1 m2 ⊢
  refine ⟨m0, m1, ⟨rfl, by omega, by omega, o0⟩, fun I1 G1 l1 j ⟨j0, j1, j2⟩ => Br.mk (fun hlt => ?_) (fun hge => ⟨rfl, j2⟩)⟩
  have hlt := of_decide_eq_true hlt
  refine (ct55 2 j I1 (by omega) ⟨j0, by omega⟩).mono fun v I2 l2 hv => ⟨_, hv, j0, hlt, ?_⟩
  rcases j2 with ⟨c0, _⟩ | ⟨cp, b, off, cur, cur', el, h1, h2, h3, h4, h5⟩
  · omega
  obtain ⟨b', off', cur2, el2, g1, g2, g3⟩ := h (by omega)
  rw [h1] at g1; cases g1
  rw [h2] at g2; cases g2
  refine ⟨by rw [h1]; rfl, _, ⟨b, off, cur', el, h1, h3, by simp only [List.length_singleton]; omega, rfl⟩, wr_i64 (by omega) (by omega) ⟨rfl, ⟨by omega, by omega, .inr ⟨by omega, b, off, cur, _, el, h1, h2, if_pos rfl, ?_, fun k hk => by simp only; rw [if_neg hk]; exact h5 k hk⟩⟩, by omega⟩⟩
  simp only [List.size_toArray, List.length_append, List.length_take, List.length_drop, Array.length_toList, List.length_singleton]
  omega
theorem ovl_over {G G' : Mem} {a : Option Addr} {n : Nat} (h : OvL G a n) {a1 : Option Addr} {c1 : Nat} (ho : OverB G a1 c1 G') (hne : ∀ b off sp b1 off1 sp1, 0 < c1 → a = some ⟨b, off, sp⟩ → a1 = some ⟨b1, off1, sp1⟩ → b1 ≠ b) : OvL G' a n := by
  rcases ho with ⟨_, rfl⟩ | ⟨cp, b1, off1, cur1, cur1', el1, e1, e2, e3, e4, e5⟩
  · exact h
  intro h0
  obtain ⟨b, off, cur, el, h1, h2, h3, h4⟩ := h h0
  have hbb := hne _ _ _ _ _ _ cp h1 e1
  refine ⟨b, off, cur, el, h1, by rw [e5 b (Ne.symm hbb)]; exact h2, h3, fun i hi => ?_⟩
  obtain ⟨a', n', c', k1, k2, k3, k4, k5⟩ := h4 i hi
  refine ⟨a', n', c', k1, k2, k3, fun hc => ?_, k5⟩
  obtain ⟨b2, off2, cur2, el2, q1, q2, q3⟩ := k4 hc
  by_cases hb2 : b2 = b1
  · subst hb2
    rw [e2] at q2
    cases q2
    exact ⟨b2, off2, cur1', _, q1, e3, by omega⟩
  · exact ⟨b2, off2, cur2, el2, q1, by rw [e5 b2 hb2]; exact q2, q3⟩
theorem ovl_put {G G' : Mem} {a : Option Addr} {n i : Nat} (h : OvL G a n) (hi : i < n) {v : Value} (hp : PutG G a (i * 2 + 0) [v] G') : OvL G' a n := by
  intro h0
  obtain ⟨b, off, cur, el, h1, h2, h3, h4⟩ := h h0
  obtain ⟨b', off', cur', el', p1, p2, p3, rfl⟩ := hp
  rw [h1] at p1; cases p1
  rw [h2] at p2; cases p2
  refine ⟨b, off, _, el, h1, if_pos rfl, ?_, fun j hj => ?_⟩
  · simp only [List.size_toArray, List.length_append, List.length_take, List.length_drop, Array.length_toList, List.length_singleton]
    omega
  obtain ⟨a', n', c', k1, k2, k3, k4, k5⟩ := h4 j hj
  refine ⟨a', n', c', ?_, k2, k3, fun hc => ?_, k5⟩
  · rw [← k1]
    simp only [List.getElem?_toArray, List.getElem?_append, List.length_append, List.length_take, List.getElem?_take, List.getElem?_drop, List.length_singleton, Array.length_toList, Array.getElem?_toList]
    by_cases hlt : j < i
    · rw [if_pos (by omega), if_pos (by omega), if_pos (by omega)]
    · rw [if_neg (by omega)]
      congr 1
      omega
  · obtain ⟨b2, off2, cur2, el2, q1, q2, q3⟩ := k4 hc
    exact ⟨b2, off2, cur2, el2, q1, by simp only; rw [if_neg (k5 _ _ _ hc q1)]; exact q2, q3⟩
def marksB (k : Int) (n : Nat) : List Int := (List.range n).map fun (i : Nat) => markB k (i : Int)
theorem marksB_succ (k : Int) (n : Nat) : marksB k (n + 1) = marksB k n ++ [markB k n] := by simp [marksB, List.range_succ]
theorem marksB_len (k : Int) (n : Nat) : (marksB k n).length = n := by simp [marksB]
theorem marksB_at {k : Int} {n i : Nat} (h : i < n) : (marksB k n)[i]? = some (markB k i) := by simp [marksB, h]
theorem ct34 (xs : List Int) (a : Option Addr) (n c : Nat) (I : Mem) (h : SlM I a n 1 (ints .u8 xs)) (hn : n ≤ 1000000) :
    Ct Try.prog (fnv 34) #[.slice a n c] I (fun v I' => ∃ a' cp, v = .slice a' n cp ∧ n + 12 ≤ cp ∧ cp ≤ maxLen ∧ SlM I' a' (n + 12) 1 (ints .u8 (xs ++ marksB 1 12))) := by
  refine viaR (ct_via (A := { loops := [(4, ⟨[(0, .keep), (3, .row 0), (4, .sh (.int .i64))], [(0, .row)], [(3, 1, 5)], fun vals xss _ _ => match vals, xss with | [.int .i64 j], [ys] => 0 ≤ j ∧ j ≤ 12 ∧ ys = ints .u8 (xs ++ marksB 1 j.toNat) | _, _ => False, fun vals _ => match vals with | [.int .i64 j] => (12 - j).toNat | _ => 0⟩)] }) Try.func34 rfl Try.call34 rfl rfl) (Wr IntKind.i64 ((↑n : Int) + (12 : Int)) fun (c_1 : Int) => (0 : Int) ≤ (0 : Int) ∧ (0 : Int) ≤ c_1 ∧ c_1 ≤ (281474976710656 : Int) ∧ (1 : Int) * c_1 ≤ (281474976710656 : Int) ∧ ∃ (ys : List Value), List.length ys = n * (1 : Nat) ∧ (a = none → n = (0 : Nat)) ∧ (∀ (j : Nat) (v : Value), ys[j]? = some v → atI I a j = some v) ∧ (∀ (v : Value), v ∈ ys → Value.oneCell' v = true) ∧ (0 : Nat) = (0 : Nat) ∧ (0 : Nat) + n ≤ (9223372036854775807 : Nat) ∧ ((0 : Nat) + n) * (1 : Nat) ≤ (140737488355328 : Nat) ∧ (SV.v (Value.slice a n c) = SV.v (Value.slice a n c) ∧ (0 : Nat) + n = List.length ys ∧ (0 : Int) ≤ (0 : Int) ∧ (0 : Int) ≤ (12 : Int) ∧ ys = List.map (Value.int IntKind.u8) (xs ++ [])) ∧ ∀ (I' G' : Mem), Mem.le I I' → ∀ (xs_1 : List Value) (n_1 : Int), (0 : Int) ≤ n_1 ∧ n_1 ≤ (12 : Int) ∧ xs_1 = List.map (Value.int IntKind.u8) (xs ++ marksB (1 : Int) (Int.toNat n_1)) → Br (decide (n_1 < (12 : Int))) (Ct Try.prog (Value.func (Fn.func (55 : Nat)) #[] #[]) #[Value.int IntKind.i64 (1 : Int), Value.int IntKind.i64 n_1] I' fun (v : Value) (I' : Mem) => ∃ (n_2 : Int), v = Value.int IntKind.u8 n_2 ∧ List.length xs_1 = List.length xs_1 * (1 : Nat) ∧ List.length xs_1 + (1 : Nat) ≤ (9223372036854775807 : Nat) ∧ (List.length xs_1 + (1 : Nat)) * (1 : Nat) ≤ (140737488355328 : Nat) ∧ Wr IntKind.i64 (n_1 + (1 : Int)) fun (c_2 : Int) => SV.v (Value.slice a n c) = SV.v (Value.slice a n c) ∧ List.length xs_1 + (1 : Nat) = List.length (xs_1 ++ [Value.int IntKind.u8 n_2]) ∧ ((0 : Int) ≤ c_2 ∧ c_2 ≤ (12 : Int) ∧ xs_1 ++ [Value.int IntKind.u8 n_2] = List.map (Value.int IntKind.u8) (xs ++ marksB (1 : Int) (Int.toNat c_2))) ∧ Int.toNat ((12 : Int) - c_2) < Int.toNat ((12 : Int) - n_1)) ((0 : Int) ≤ (↑n : Int) ∧ (↑n : Int) ≤ (↑(List.length xs_1) : Int) ∧ List.length xs_1 * (1 : Nat) ≤ List.length xs_1 ∧ ∀ (a : Option Addr) (cp : Nat) (I'_1 : Mem), Mem.le I' I'_1 → RowM I'_1 a cp (1 : Nat) xs_1 → ∃ (a' : Option Addr), ∃ (cp_1 : Nat), Value.slice a n cp = Value.slice a' n cp_1 ∧ n + (12 : Nat) ≤ cp_1 ∧ cp_1 ≤ (9223372036854775807 : Nat) ∧ SlM I'_1 a' (n + (12 : Nat)) (1 : Nat) (List.map (Value.int IntKind.u8) (xs ++ [(190 : Int), (92 : Int), (250 : Int), (152 : Int), (55 : Int), (213 : Int), (115 : Int), (17 : Int), (175 : Int), (78 : Int), (236 : Int), (138 : Int)])))) (by kernel_rfl) ?_
  have hnl := h.numLen
  refine wr_i64 (by omega) (by omega) ⟨by omega, by omega, by omega, by omega, ints .u8 xs, h.len, h.nil, h.at_, one_ints, rfl, by omega, by omega, ⟨rfl, by rw [ints_len]; omega, by omega, by omega, by simp [ints]⟩, fun I1 _ l1 zs j ⟨j0, j1, hz⟩ => ?_⟩
  have hzl : zs.length = n + j.toNat := by rw [hz]; simp [marksB]; omega
  refine Br.mk (fun hlt => ?_) (fun hge => ?_)
  · have hlt := of_decide_eq_true hlt
    refine (ct55 1 j I1 (by omega) ⟨j0, by omega⟩).mono fun v I2 l2 hv => ⟨_, hv, by omega, by omega, by omega, wr_i64 (by omega) (by omega) ⟨rfl, by simp, ⟨by omega, by omega, ?_⟩, by omega⟩⟩
    rw [hz, show (j + 1).toNat = j.toNat + 1 by omega, marksB_succ, ← List.append_assoc, show ((j.toNat : Nat) : Int) = j by omega]
    simp
  · have hge := of_decide_eq_false hge
    have hj : j.toNat = 12 := by omega
    have hm : marksB 1 12 = [190, 92, 250, 152, 55, 213, 115, 17, 175, 78, 236, 138] := by decide
    rw [hj, hm] at hz
    rw [hj] at hzl
    refine ⟨by omega, by omega, by omega, fun a' cp I2 l2 hrow => ⟨a', cp, rfl, ?_, hrow.2.1, ?_⟩⟩
    · have := hrow.1; omega
    · rw [← hz]; exact hrow.sl (by omega) (by omega)
theorem ct38 (xs ys : List Int) (a : Option Addr) (n c : Nat) (b : Option Addr) (m d : Nat) (I : Mem) (h : SlM I a (n + 12) 1 (ints .u8 (xs ++ marksB 1 12))) (hx : xs = ys) (hnm : n = m) (hc : n + 12 ≤ c) (h' : SlM I b m 1 (ints .u8 ys)) (hn : n ≤ 1000000) :
    Ct Try.prog (fnv 38) #[.slice a n c, .slice b m d] I (fun v I' => v = .bool true) := by
  refine viaR (ct_via (A := { loops := [(5, ⟨[(1, .keep), (5, .keep), (6, .sh (.int .i64))], [], [], fun vals _ _ _ => match vals with | [.int .i64 j] => 0 ≤ j | _ => False, fun vals _ => match vals with | [.int .i64 j] => (n + 12 - j).toNat | _ => 0⟩)] }) Try.func38 rfl Try.call38 rfl rfl) (Br ((↑n : Int) != (↑m : Int)) (Value.bool false = Value.bool true) (Wr IntKind.i64 ((↑m : Int) + (12 : Int)) fun (c_1 : Int) => (0 : Int) ≤ c_1 ∧ c_1 ≤ (↑c : Int) ∧ (SV.v (Value.slice b m d) = SV.v (Value.slice b m d) ∧ SV.v (Value.slice a (Int.toNat c_1) c) = SV.v (Value.slice a (Int.toNat c_1) c) ∧ (0 : Int) ≤ (0 : Int)) ∧ ∀ (I' G' : Mem), Mem.le I I' → ∀ (n_1 : Int), (0 : Int) ≤ n_1 → Br (decide (n_1 < (↑(Int.toNat c_1) : Int))) (Br (decide (n_1 < (↑m : Int))) ((0 : Int) ≤ n_1 ∧ n_1 < (↑(Int.toNat c_1) : Int) ∧ Option.isSome a = true ∧ ∃ (n_2 : Int), atI I' a (Int.toNat n_1 * (1 : Nat) + (0 : Nat)) = some (Value.int IntKind.u8 n_2) ∧ (0 : Int) ≤ n_1 ∧ n_1 < (↑m : Int) ∧ Option.isSome b = true ∧ ∃ (n_3 : Int), atI I' b (Int.toNat n_1 * (1 : Nat) + (0 : Nat)) = some (Value.int IntKind.u8 n_3) ∧ Br (!n_2 == n_3) (Value.bool false = Value.bool true) (Br (decide ((↑m : Int) ≤ n_1)) ((0 : Int) ≤ n_1 ∧ n_1 < (↑(Int.toNat c_1) : Int) ∧ Option.isSome a = true ∧ ∃ (n_4 : Int), atI I' a (Int.toNat n_1 * (1 : Nat) + (0 : Nat)) = some (Value.int IntKind.u8 n_4) ∧ Wr IntKind.i64 (n_1 - (↑m : Int)) fun (c_2 : Int) => Ct Try.prog (Value.func (Fn.func (55 : Nat)) #[] #[]) #[Value.int IntKind.i64 (1 : Int), Value.int IntKind.i64 c_2] I' fun (v : Value) (I' : Mem) => ∃ (n_5 : Int), v = Value.int IntKind.u8 n_5 ∧ Br (!n_4 == n_5) (Value.bool false = Value.bool true) (Wr IntKind.i64 (n_1 + (1 : Int)) fun (c_3 : Int) => SV.v (Value.slice b m d) = SV.v (Value.slice b m d) ∧ SV.v (Value.slice a (Int.toNat c_1) c) = SV.v (Value.slice a (Int.toNat c_1) c) ∧ (0 : Int) ≤ c_3 ∧ Int.toNat ((↑n : Int) + (12 : Int) - c_3) < Int.toNat ((↑n : Int) + (12 : Int) - n_1))) (Wr IntKind.i64 (n_1 + (1 : Int)) fun (c_2 : Int) => SV.v (Value.slice b m d) = SV.v (Value.slice b m d) ∧ SV.v (Value.slice a (Int.toNat c_1) c) = SV.v (Value.slice a (Int.toNat c_1) c) ∧ (0 : Int) ≤ c_2 ∧ Int.toNat ((↑n : Int) + (12 : Int) - c_2) < Int.toNat ((↑n : Int) + (12 : Int) - n_1)))) (Br (decide ((↑m : Int) ≤ n_1)) ((0 : Int) ≤ n_1 ∧ n_1 < (↑(Int.toNat c_1) : Int) ∧ Option.isSome a = true ∧ ∃ (n_2 : Int), atI I' a (Int.toNat n_1 * (1 : Nat) + (0 : Nat)) = some (Value.int IntKind.u8 n_2) ∧ Wr IntKind.i64 (n_1 - (↑m : Int)) fun (c_2 : Int) => Ct Try.prog (Value.func (Fn.func (55 : Nat)) #[] #[]) #[Value.int IntKind.i64 (1 : Int), Value.int IntKind.i64 c_2] I' fun (v : Value) (I' : Mem) => ∃ (n_3 : Int), v = Value.int IntKind.u8 n_3 ∧ Br (!n_2 == n_3) (Value.bool false = Value.bool true) (Wr IntKind.i64 (n_1 + (1 : Int)) fun (c_3 : Int) => SV.v (Value.slice b m d) = SV.v (Value.slice b m d) ∧ SV.v (Value.slice a (Int.toNat c_1) c) = SV.v (Value.slice a (Int.toNat c_1) c) ∧ (0 : Int) ≤ c_3 ∧ Int.toNat ((↑n : Int) + (12 : Int) - c_3) < Int.toNat ((↑n : Int) + (12 : Int) - n_1))) (Wr IntKind.i64 (n_1 + (1 : Int)) fun (c_2 : Int) => SV.v (Value.slice b m d) = SV.v (Value.slice b m d) ∧ SV.v (Value.slice a (Int.toNat c_1) c) = SV.v (Value.slice a (Int.toNat c_1) c) ∧ (0 : Int) ≤ c_2 ∧ Int.toNat ((↑n : Int) + (12 : Int) - c_2) < Int.toNat ((↑n : Int) + (12 : Int) - n_1)))) (Value.bool true = Value.bool true))) (by kernel_rfl) ?_
  subst hx
  subst hnm
  have hnl := h'.numLen
  refine Br.f (by simp) (wr_i64 (by omega) (by omega) ⟨by omega, by omega, ⟨rfl, rfl, by omega⟩, fun I1 _ l1 j j0 => Br.mk (fun hlt => ?_) (fun hge => rfl)⟩)
  have hlt := of_decide_eq_true hlt
  have ha0 : a.isSome = true := h.isSome (by omega)
  have ha : ∀ x, (xs ++ marksB 1 12)[j.toNat]? = some x → atI I1 a (j.toNat * 1 + 0) = some (Value.int .u8 x) := fun x hx => by
    rw [Nat.mul_one, Nat.add_zero]
    exact (h.mono l1).at_ _ _ (ints_get hx)
  refine Br.mk (fun h1 => ?_) (fun h1 => ?_)
  · have h1 := of_decide_eq_true h1
    have hg : xs[j.toNat]? = some xs[j.toNat] := List.getElem?_eq_getElem (by omega)
    have hg2 := ha _ (by rw [List.getElem?_append_left (by omega)]; exact hg)
    refine ⟨j0, hlt, ha0, _, hg2, j0, h1, h'.isSome (by omega), xs[j.toNat], ?_, Br.f (by simp) (Br.f (by simpa using h1) (wr_i64 (by omega) (by omega) ⟨rfl, rfl, by omega, by omega⟩))⟩
    rw [Nat.mul_one, Nat.add_zero]
    exact (h'.mono l1).at_ _ _ (ints_get hg)
  · have h1 := of_decide_eq_false h1
    have hk : j.toNat - n < 12 := by omega
    have hg2 := ha _ (by rw [List.getElem?_append_right (by omega), ← hnl]; exact marksB_at hk)
    refine Br.t (by simp; omega) ⟨j0, hlt, ha0, _, hg2, wr_i64 (by omega) (by omega) ((ct55 1 (j - n) I1 (by omega) ⟨by omega, by omega⟩).mono fun v I2 l2 hv => ⟨_, hv, Br.f ?_ (wr_i64 (by omega) (by omega) ⟨rfl, rfl, by omega, by omega⟩)⟩)⟩
    rw [show ((j.toNat - n : Nat) : Int) = j - n by omega]
    simp

/-- A slice of a block that is filled is a row. -/
theorem CtS.rowed {P : Program} {fv : SV} {args : List SV} {H : List Ent} {I : Mem} {el : TypeId} {Q : List Value → Prop} (h : CtS P fv args H I (fun sv H' _ => ∃ zs, zs.length ≤ maxLen ∧ Q zs ∧
      ((sv = .xsl 0 0 zs.length zs.length ∧ H' = [⟨.cells (zs.map .v) el, none⟩]) ∨ (sv = .rsl 0 zs.length ∧ H' = [⟨.row zs 1 el, none⟩])))) :
    CtS P fv args H I (fun sv H' _ => ∃ zs, Q zs ∧ sv = .rsl 0 zs.length ∧ H' = [⟨.row zs 1 el, none⟩]) := fun e hp hO => by
  refine (h e hp hO).mono ?_
  rintro v I' hp' hle ⟨e', sv, H', h1, h2, zs, hm, hq, ⟨rfl, rfl⟩ | ⟨rfl, rfl⟩⟩
  · obtain ⟨g1, cur, g2, g3, g4⟩ := h2.hold 0 _ rfl rfl
    refine ⟨{ e' with cap := fun _ => zs.length }, .rsl 0 zs.length, [⟨.row zs 1 el, none⟩], ?_, ⟨fun id x hx hal => ?_, fun i j x y hx hy _ _ _ _ hij => ?_, fun b hb => ?_, fun id x b hx hb => ?_⟩, zs, hq, rfl, rfl⟩
    · rw [h1]; simp [den, g1]
    · cases id with
      | zero =>
        simp only [List.getElem?_cons_zero, Option.some.injEq] at hx
        subst hx
        refine ⟨by omega, ⟨zs.length, by omega⟩, .inr ⟨g1, cur, g2, by simpa using g3, hm, by simp at g3; omega, ?_⟩⟩
        apply List.ext_getElem?
        intro k
        rw [List.getElem?_take]
        split
        · rename_i hk
          have := g4 k (.v zs[k]) (by simp [hk]) rfl
          simp only [den] at this
          rw [Array.getElem?_toList, this, List.getElem?_eq_getElem hk]
        · rw [List.getElem?_eq_none (by omega)]
      | succ id => simp at hx
    · have hi := (List.getElem?_eq_some_iff.1 hx).1
      have hj := (List.getElem?_eq_some_iff.1 hy).1
      simp at hi hj
      omega
    · obtain ⟨id, x, hx, hal, hn, hbe⟩ := h2.dom b hb
      have hi := (List.getElem?_eq_some_iff.1 hx).1
      simp at hi
      subst hi
      exact ⟨0, _, rfl, rfl, hn, hbe⟩
    · have hi := (List.getElem?_eq_some_iff.1 hx).1
      simp at hi
      subst hi
      simp at hx
      subst hx
      cases hb
  · exact ⟨e', _, _, h1, h2, zs, hq, rfl, rfl⟩
theorem pow8 : ∀ l : Nat, l < 8 → (256 : Int) ^ (l + 1) ≤ 18446744073709551616 := by decide
theorem cs70 : ∀ (k : Nat) (x : Int), 0 ≤ x → x < 256 ^ (k + 1) → (k = 0 ∨ 256 ^ k ≤ x) → k ≤ 7 → ∀ (I : Mem),
    CtS Try.prog (.v (fnv 70)) [.v (.int .u64 x)] [] I (fun sv H' _ => ∃ zs, zs = ints .u8 (be (k + 1) x.toNat) ∧ sv = .rsl 0 zs.length ∧ H' = [⟨.row zs 1 5, none⟩]) := by
  intro k
  induction k with
  | zero =>
    intro x h0 h1 h2 hk I
    refine CtS.rowed ?_
    refine viaR (ctS_via (A := { calls := [(10, .lend [] (.row 0) [.row 1 5])] }) Try.func70 rfl Try.call70 [0] rfl) (Br (decide (x < (256 : Int))) (Wr IntKind.u8 x fun (c : Int) => ∃ (zs : List Value), List.length zs ≤ (9223372036854775807 : Nat) ∧ zs = [Value.int IntKind.u8 (↑(Int.toNat x % (256 : Nat)) : Int)] ∧ (SV.xsl (0 : Nat) (0 : Nat) (1 : Nat) (1 : Nat) = SV.xsl (0 : Nat) (0 : Nat) (List.length zs) (List.length zs) ∧ [Ent.mk (EO.cells [SV.v (Value.int IntKind.u8 c)] (5 : Nat)) none] = [Ent.mk (EO.cells (List.map SV.v zs) (5 : Nat)) none] ∨ SV.xsl (0 : Nat) (0 : Nat) (1 : Nat) (1 : Nat) = SV.rsl (0 : Nat) (List.length zs) ∧ [Ent.mk (EO.cells [SV.v (Value.int IntKind.u8 c)] (5 : Nat)) none] = [Ent.mk (EO.row zs (1 : Nat) (5 : Nat)) none])) ((256 : Int) ≠ (0 : Int) ∧ Wr IntKind.u64 (Int.tdiv x (256 : Int)) fun (c : Int) => CtS Try.prog (SV.v (Value.func (Fn.func (70 : Nat)) #[] #[])) [SV.v (Value.int IntKind.u64 c)] [] I fun (sv : SV) (H' : List Ent) (I' : Mem) => ∃ (n : Nat), ∃ (xs : List Value), sv = SV.rsl (0 : Nat) n ∧ H' = [Ent.mk (EO.row xs (1 : Nat) (5 : Nat)) none] ∧ (256 : Int) ≠ (0 : Int) ∧ Wr IntKind.u8 (Int.tmod x (256 : Int)) fun (c : Int) => List.length xs = n * (1 : Nat) ∧ n + (1 : Nat) ≤ (9223372036854775807 : Nat) ∧ (n + (1 : Nat)) * (1 : Nat) ≤ (140737488355328 : Nat) ∧ ∃ (zs : List Value), List.length zs ≤ (9223372036854775807 : Nat) ∧ zs = [Value.int IntKind.u8 (↑(Int.toNat x % (256 : Nat)) : Int)] ∧ (SV.rsl (0 : Nat) (n + (1 : Nat)) = SV.xsl (0 : Nat) (0 : Nat) (List.length zs) (List.length zs) ∧ [Ent.mk (EO.row (xs ++ [Value.int IntKind.u8 c]) (1 : Nat) (5 : Nat)) none] = [Ent.mk (EO.cells (List.map SV.v zs) (5 : Nat)) none] ∨ SV.rsl (0 : Nat) (n + (1 : Nat)) = SV.rsl (0 : Nat) (List.length zs) ∧ [Ent.mk (EO.row (xs ++ [Value.int IntKind.u8 c]) (1 : Nat) (5 : Nat)) none] = [Ent.mk (EO.row zs (1 : Nat) (5 : Nat)) none]))) (by kernel_rfl) ?_
    have h1 : x < 256 := by simpa using h1
    refine Br.t (by simpa using h1) ⟨_, IntWalk.u8_in x ⟨h0, by omega⟩, [.int .u8 x], by simp, ?_, .inl ⟨rfl, rfl⟩⟩
    rw [show ((x.toNat % 256 : Nat) : Int) = x by omega]
  | succ k ih =>
    intro x h0 h1 h2 hk I
    refine CtS.rowed ?_
    refine viaR (ctS_via (A := { calls := [(10, .lend [] (.row 0) [.row 1 5])] }) Try.func70 rfl Try.call70 [0] rfl) (Br (decide (x < (256 : Int))) (Wr IntKind.u8 x fun (c : Int) => ∃ (zs : List Value), List.length zs ≤ (9223372036854775807 : Nat) ∧ zs = List.map (Value.int IntKind.u8) (be (k + (1 : Nat) + (1 : Nat)) (Int.toNat x)) ∧ (SV.xsl (0 : Nat) (0 : Nat) (1 : Nat) (1 : Nat) = SV.xsl (0 : Nat) (0 : Nat) (List.length zs) (List.length zs) ∧ [Ent.mk (EO.cells [SV.v (Value.int IntKind.u8 c)] (5 : Nat)) none] = [Ent.mk (EO.cells (List.map SV.v zs) (5 : Nat)) none] ∨ SV.xsl (0 : Nat) (0 : Nat) (1 : Nat) (1 : Nat) = SV.rsl (0 : Nat) (List.length zs) ∧ [Ent.mk (EO.cells [SV.v (Value.int IntKind.u8 c)] (5 : Nat)) none] = [Ent.mk (EO.row zs (1 : Nat) (5 : Nat)) none])) ((256 : Int) ≠ (0 : Int) ∧ Wr IntKind.u64 (Int.tdiv x (256 : Int)) fun (c : Int) => CtS Try.prog (SV.v (Value.func (Fn.func (70 : Nat)) #[] #[])) [SV.v (Value.int IntKind.u64 c)] [] I fun (sv : SV) (H' : List Ent) (I' : Mem) => ∃ (n : Nat), ∃ (xs : List Value), sv = SV.rsl (0 : Nat) n ∧ H' = [Ent.mk (EO.row xs (1 : Nat) (5 : Nat)) none] ∧ (256 : Int) ≠ (0 : Int) ∧ Wr IntKind.u8 (Int.tmod x (256 : Int)) fun (c : Int) => List.length xs = n * (1 : Nat) ∧ n + (1 : Nat) ≤ (9223372036854775807 : Nat) ∧ (n + (1 : Nat)) * (1 : Nat) ≤ (140737488355328 : Nat) ∧ ∃ (zs : List Value), List.length zs ≤ (9223372036854775807 : Nat) ∧ zs = List.map (Value.int IntKind.u8) (be (k + (1 : Nat) + (1 : Nat)) (Int.toNat x)) ∧ (SV.rsl (0 : Nat) (n + (1 : Nat)) = SV.xsl (0 : Nat) (0 : Nat) (List.length zs) (List.length zs) ∧ [Ent.mk (EO.row (xs ++ [Value.int IntKind.u8 c]) (1 : Nat) (5 : Nat)) none] = [Ent.mk (EO.cells (List.map SV.v zs) (5 : Nat)) none] ∨ SV.rsl (0 : Nat) (n + (1 : Nat)) = SV.rsl (0 : Nat) (List.length zs) ∧ [Ent.mk (EO.row (xs ++ [Value.int IntKind.u8 c]) (1 : Nat) (5 : Nat)) none] = [Ent.mk (EO.row zs (1 : Nat) (5 : Nat)) none]))) (by kernel_rfl) ?_
    have hge : 256 ^ (k + 1) ≤ x := by rcases h2 with h2 | h2
                                       · omega
                                       · exact h2
    have hp : (1 : Int) ≤ 256 ^ k := Int.pow_pos (by omega)
    have hx : 256 ≤ x := by rw [Int.pow_succ] at hge; omega
    have hx8 : x < 18446744073709551616 := Int.lt_of_lt_of_le h1 (pow8 (k + 1) (by omega))
    have hd : x.tdiv 256 = x / 256 := Int.tdiv_eq_ediv_of_nonneg h0
    have hm : x.tmod 256 = x % 256 := Int.tmod_eq_emod_of_nonneg h0
    rw [hd, hm]
    refine Br.f (by simpa using hx) ⟨by omega, _, IntWalk.u64_in _ ⟨by omega, by omega⟩, (ih (x / 256) (by omega) (by rw [Int.pow_succ] at h1; omega) (.inr (by rw [Int.pow_succ] at hge; omega)) (by omega) I).mono ?_⟩
    rintro sv H' I' _ ⟨zs, rfl, rfl, rfl⟩
    refine ⟨_, _, rfl, rfl, by omega, _, IntWalk.u8_in _ ⟨by omega, by omega⟩, by omega, by rw [ints_len, be_len]; omega, by rw [ints_len, be_len]; omega, _, ?_, rfl, .inr ⟨?_, ?_⟩⟩
    · simp [be_len]; have : maxLen = 9223372036854775807 := by decide
      omega
    · simp [be_len, ints]
    · have e : x.toNat / 256 = (x / 256).toNat := by omega
      have e2 : ((x.toNat % 256 : Nat) : Int) = x % 256 := by omega
      rw [show be (k + 1 + 1) x.toNat = be (k + 1) (x.toNat / 256) ++ [((x.toNat % 256 : Nat) : Int)] from rfl, e, e2]
      simp [ints]
theorem ct48 (x : Int) (h : 0 ≤ x ∧ x ≤ 18446744073709551615) (I : Mem) : Ct Try.prog (fnv 48) #[.int .u64 x] I (fun v I' => BySl I' v (formN x.toNat)) := by
  refine viaR (ct_via (A := { calls := [(10, .lend [] (.row 0) [.row 1 5])] }) Try.func48 rfl Try.call48 rfl rfl) (Br (decide (x < (247 : Int))) (Wr IntKind.u8 x fun (c : Int) => ∀ (b : Nat) (I' : Mem), Mem.le I I' → I' b = some (Obj.cells #[Value.int IntKind.u8 c] (5 : Nat)) → ∃ (b_1 : Option Addr), ∃ (m : Nat), ∃ (c : Nat), Value.slice (some (Addr.mk b (0 : Nat) none)) (1 : Nat) (1 : Nat) = Value.slice b_1 m c ∧ SlM I' b_1 m (1 : Nat) (List.map (Value.int IntKind.u8) (formN (Int.toNat x))) ∧ m ≤ c ∧ c ≤ (9223372036854775807 : Nat)) (CtS Try.prog (SV.v (Value.func (Fn.func (70 : Nat)) #[] #[])) [SV.v (Value.int IntKind.u64 x)] [] I fun (sv : SV) (H' : List Ent) (I' : Mem) => ∃ (n : Nat), ∃ (xs : List Value), sv = SV.rsl (0 : Nat) n ∧ H' = [Ent.mk (EO.row xs (1 : Nat) (5 : Nat)) none] ∧ Wr IntKind.i64 ((246 : Int) + (↑n : Int)) fun (c : Int) => Wr IntKind.u8 c fun (c : Int) => n * (1 : Nat) ≤ List.length xs ∧ (∀ (v : Value), v ∈ List.take (n * (1 : Nat)) xs → Value.oneCell' v = true) ∧ (1 : Nat) = (1 : Nat) ∧ (1 : Nat) + n ≤ (9223372036854775807 : Nat) ∧ ((1 : Nat) + n) * (1 : Nat) ≤ (140737488355328 : Nat) ∧ ∀ (a : Option Addr) (cp : Nat) (I'_1 : Mem), Mem.le I' I'_1 → RowM I'_1 a cp (1 : Nat) (Value.int IntKind.u8 c :: List.append ([] : List Value) (List.take (n * 1) xs)) → ∃ (b : Option Addr), ∃ (m : Nat), ∃ (c : Nat), Value.slice a ((1 : Nat) + n) cp = Value.slice b m c ∧ SlM I'_1 b m (1 : Nat) (List.map (Value.int IntKind.u8) (formN (Int.toNat x))) ∧ m ≤ c ∧ c ≤ (9223372036854775807 : Nat))) (by kernel_rfl) ?_
  refine Br.mk (fun h1 => ?_) (fun h1 => ?_)
  · have h1 := of_decide_eq_true h1
    have hf : formN x.toNat = [x] := by rw [formN, if_pos (by omega)]; congr 1; omega
    refine ⟨_, IntWalk.u8_in x ⟨h.1, by omega⟩, fun b I1 l1 hb => ⟨_, _, _, rfl, ?_, by omega, by decide⟩⟩
    rw [hf]
    exact sl_cells (n := 1) (sz := 1) hb rfl (by decide)
  · have h1 := of_decide_eq_false h1
    have hd8 : digN x.toNat ≤ 8 := digN_le (k := 8) (by omega)
    have hbd := digN_bd (x := x.toNat) (by omega)
    obtain ⟨k, hk⟩ : ∃ k, digN x.toNat = k + 1 := ⟨digN x.toNat - 1, by rw [digN_pos (by omega)]; omega⟩
    have hf : formN x.toNat = ((246 + (k + 1) : Nat) : Int) :: be (k + 1) x.toNat := by rw [formN, if_neg (by omega), hk]
    rw [hk] at hbd
    have c1 : ((256 ^ (k + 1) : Nat) : Int) = (256 : Int) ^ (k + 1) := by simp
    have c2 : ((256 ^ k : Nat) : Int) = (256 : Int) ^ k := by simp
    refine (cs70 k x h.1 (by omega) (.inr (by simp only [Nat.add_sub_cancel] at hbd; omega)) (by omega) I).mono ?_
    rintro sv H' I' _ ⟨zs, rfl, rfl, rfl⟩
    refine ⟨_, _, rfl, rfl, ?_⟩
    have hl : (ints IntKind.u8 (be (k + 1) x.toNat)).length = k + 1 := by rw [ints_len, be_len]
    rw [hl, Nat.mul_one, List.take_of_length_le (by omega)]
    refine wr_i64 (by omega) (by omega) ⟨_, IntWalk.u8_in _ ⟨by omega, by omega⟩, by omega, fun v hv => one_ints v hv, rfl, by omega, by omega, fun a' cp I2 l2 hrow => ?_⟩
    rw [hf]
    exact row_bysl (xs := ((246 + (k + 1) : Nat) : Int) :: be (k + 1) x.toNat) hrow (by simp [be_len]; omega)
theorem ct81 (xs ys : List Int) (a b : Option Addr) (n c m d : Nat) (I : Mem) (h : SlM I a n 1 (ints .u8 xs)) (h' : SlM I b m 1 (ints .u8 ys)) (hn : n ≤ 1000000000) :
    Ct Try.prog (fnv 81) #[.slice a n c, .slice b m d] I (fun v _ => v = .bool (decide (xs = ys))) := by
  refine viaR (ct_via (A := { loops := [(4, ⟨[(0, .keep), (1, .keep), (5, .sh (.int .i64))], [], [], fun vals _ _ _ => match vals with | [.int .i64 j] => 0 ≤ j ∧ j ≤ n ∧ ∀ k : Nat, (k : Int) < j → xs[k]? = ys[k]? | _ => False, fun vals _ => match vals with | [.int .i64 j] => (n - j).toNat | _ => 0⟩)] }) Try.func81 rfl Try.call81 rfl rfl) (Br ((↑n : Int) != (↑m : Int)) (Value.bool false = Value.bool (decide (xs = ys))) ((SV.v (Value.slice a n c) = SV.v (Value.slice a n c) ∧ SV.v (Value.slice b m d) = SV.v (Value.slice b m d) ∧ (0 : Int) ≤ (0 : Int) ∧ (0 : Int) ≤ (↑n : Int) ∧ ∀ (k : Nat), (↑k : Int) < (0 : Int) → xs[k]? = ys[k]?) ∧ ∀ (I' G' : Mem), Mem.le I I' → ∀ (n_1 : Int), ((0 : Int) ≤ n_1 ∧ n_1 ≤ (↑n : Int) ∧ ∀ (k : Nat), (↑k : Int) < n_1 → xs[k]? = ys[k]?) → Br (decide (n_1 < (↑n : Int))) ((0 : Int) ≤ n_1 ∧ n_1 < (↑n : Int) ∧ Option.isSome a = true ∧ ∃ (n_2 : Int), atI I' a (Int.toNat n_1 * (1 : Nat) + (0 : Nat)) = some (Value.int IntKind.u8 n_2) ∧ (0 : Int) ≤ n_1 ∧ n_1 < (↑m : Int) ∧ Option.isSome b = true ∧ ∃ (n_3 : Int), atI I' b (Int.toNat n_1 * (1 : Nat) + (0 : Nat)) = some (Value.int IntKind.u8 n_3) ∧ Br (n_2 != n_3) (Value.bool false = Value.bool (decide (xs = ys))) (Wr IntKind.i64 (n_1 + (1 : Int)) fun (c_1 : Int) => SV.v (Value.slice a n c) = SV.v (Value.slice a n c) ∧ SV.v (Value.slice b m d) = SV.v (Value.slice b m d) ∧ ((0 : Int) ≤ c_1 ∧ c_1 ≤ (↑n : Int) ∧ ∀ (k : Nat), (↑k : Int) < c_1 → xs[k]? = ys[k]?) ∧ Int.toNat ((↑n : Int) - c_1) < Int.toNat ((↑n : Int) - n_1))) (Value.bool true = Value.bool (decide (xs = ys))))) (by kernel_rfl) ?_
  have e1 := h.numLen
  have e2 := h'.numLen
  refine Br.mk (fun hne => ?_) (fun he => ?_)
  · have hne : n ≠ m := by intro e; subst e; simp at hne
    rw [decide_eq_false (fun e => hne (by rw [e1, e2, e]))]
  have he : n = m := by
    have : (n : Int) = m := by simpa using he
    omega
  refine ⟨⟨rfl, rfl, by omega, by omega, fun k hk => by omega⟩, fun I1 _ l1 j ⟨j0, j1, j2⟩ => Br.mk (fun hlt => ?_) (fun hge => ?_)⟩
  · have hlt := of_decide_eq_true hlt
    obtain ⟨x, hx, hxc⟩ := (h.mono l1).intAt (i := j) j0 hlt
    obtain ⟨y, hy, hyc⟩ := (h'.mono l1).intAt (i := j) j0 (by omega)
    refine ⟨j0, hlt, h.isSome (by omega), x, hxc, j0, by omega, h'.isSome (by omega), y, hyc, Br.mk (fun hne => ?_) (fun hxy => ?_)⟩
    · have hne : x ≠ y := by simpa using hne
      rw [decide_eq_false (fun e => hne (by subst e; rw [hx] at hy; exact Option.some.inj hy))]
    · have hxy : x = y := by simpa using hxy
      subst hxy
      refine wr_i64 (by omega) (by omega) ⟨rfl, rfl, ⟨by omega, by omega, fun k hk => ?_⟩, by omega⟩
      by_cases hkj : (k : Int) < j
      · exact j2 k hkj
      · obtain rfl : k = j.toNat := by omega
        rw [hx, hy]
  · have hge := of_decide_eq_false hge
    have : xs = ys := List.ext_getElem? fun k => by
      by_cases hk : k < n
      · exact j2 k (by omega)
      · rw [List.getElem?_eq_none (by omega), List.getElem?_eq_none (by omega)]
    rw [decide_eq_true this]
theorem ref_end {bs : List Int} (hbs : ∀ b ∈ bs, 0 ≤ b ∧ b ≤ 255) {at_ x m : Int} (h0 : 0 ≤ at_) (hx : 0 ≤ x ∧ x ≤ 18446744073709551615) (hm0 : 0 ≤ m) (hm : at_ + m ≤ bs.length) (hacc : readN bs at_ = (0, 0, 11) ∨ readN bs at_ = (x, m, 0)) :
    readN bs at_ = if formN x.toNat = (bs.drop at_.toNat).take m.toNat then (x, m, 0) else (0, 0, 11) := by
  split
  · rename_i he
    have hl : (formN x.toNat).length = m.toNat := by rw [he]; simp; omega
    have hb : bs = bs.take at_.toNat ++ (formN x.toNat ++ bs.drop (at_.toNat + m.toNat)) := by
      rw [he, ← List.drop_drop, List.take_append_drop, List.take_append_drop]
    have h1 := readN_form (bs.take at_.toNat) (bs.drop (at_.toNat + m.toNat)) x.toNat (by omega)
    rw [← hb, List.length_take, show ((min at_.toNat bs.length : Nat) : Int) = at_ by omega, hl] at h1
    rw [h1]
    congr 1
    · omega
    · congr 1; omega
  · rename_i hne
    rcases hacc with h | h
    · exact h
    · exfalso
      obtain ⟨_, _, _, _, g1, g2, g3⟩ := readN_back hbs h
      refine hne ?_
      rw [g2, List.take_left' (by omega)]
theorem ct74 (bs : List Int) (hbs : ∀ b ∈ bs, 0 ≤ b ∧ b ≤ 255) (a : Option Addr) (n c : Nat) (at_ : Int) (hat : -1000000 ≤ at_ ∧ at_ ≤ 1000000000) (I : Mem) (h : SlM I a n 1 (ints .u8 bs)) (hl : n ≤ 1000000000) (hc : n ≤ c) :
    Ct Try.prog (fnv 74) #[.slice a n c, .int .i64 at_] I (fun v _ => v = T3 (readN bs at_)) := by
  refine viaR (ct_via (A := { loops := [(14, ⟨[(0, .keep), (1, .keep), (7, .keep), (8, .sh (.int .u64)), (9, .sh (.int .i64))], [], [], fun vals _ _ _ => match vals with | [.int .u64 v8, .int .i64 i] => 1 ≤ i ∧ i ≤ (bs[at_.toNat]?).getD 0 - 245 ∧ v8 = valN ((digs bs at_ ((bs[at_.toNat]?).getD 0)).take (i.toNat - 1)) | _ => False, fun vals _ => match vals with | [_, .int .i64 i] => (20 - i).toNat | _ => 0⟩)] }) Try.func74 rfl Try.call74 rfl rfl) (Br (decide (at_ < (0 : Int))) (Value.tuple #[Value.int IntKind.u64 (0 : Int), Value.int IntKind.i64 (0 : Int), Value.int IntKind.i64 (2 : Int)] = Value.tuple #[Value.int IntKind.u64 (Prod.fst (readN bs at_)), Value.int IntKind.i64 (Prod.fst (Prod.snd (readN bs at_))), Value.int IntKind.i64 (Prod.snd (Prod.snd (readN bs at_)))]) (Br (decide ((↑n : Int) < at_)) (Value.tuple #[Value.int IntKind.u64 (0 : Int), Value.int IntKind.i64 (0 : Int), Value.int IntKind.i64 (2 : Int)] = Value.tuple #[Value.int IntKind.u64 (Prod.fst (readN bs at_)), Value.int IntKind.i64 (Prod.fst (Prod.snd (readN bs at_))), Value.int IntKind.i64 (Prod.snd (Prod.snd (readN bs at_)))]) (Br (at_ == (↑n : Int)) (Value.tuple #[Value.int IntKind.u64 (0 : Int), Value.int IntKind.i64 (0 : Int), Value.int IntKind.i64 (10 : Int)] = Value.tuple #[Value.int IntKind.u64 (Prod.fst (readN bs at_)), Value.int IntKind.i64 (Prod.fst (Prod.snd (readN bs at_))), Value.int IntKind.i64 (Prod.snd (Prod.snd (readN bs at_)))]) ((0 : Int) ≤ at_ ∧ at_ < (↑n : Int) ∧ Option.isSome a = true ∧ ∃ (n_1 : Int), atI I a (Int.toNat at_ * (1 : Nat) + (0 : Nat)) = some (Value.int IntKind.u8 n_1) ∧ Br (decide ((246 : Int) < n_1)) ((0 : Int) ≤ at_ ∧ at_ < (↑n : Int) ∧ Option.isSome a = true ∧ ∃ (n_2 : Int), atI I a (Int.toNat at_ * (1 : Nat) + (0 : Nat)) = some (Value.int IntKind.u8 n_2) ∧ Br (decide (n_2 < (255 : Int))) ((0 : Int) ≤ at_ ∧ at_ < (↑n : Int) ∧ Option.isSome a = true ∧ ∃ (n_3 : Int), atI I a (Int.toNat at_ * (1 : Nat) + (0 : Nat)) = some (Value.int IntKind.u8 n_3) ∧ Wr IntKind.i64 n_3 fun (c_1 : Int) => Wr IntKind.i64 (c_1 - (245 : Int)) fun (c_2 : Int) => Wr IntKind.i64 ((↑n : Int) - at_) fun (c_3 : Int) => Br (decide (c_3 < c_2)) (Value.tuple #[Value.int IntKind.u64 (0 : Int), Value.int IntKind.i64 (0 : Int), Value.int IntKind.i64 (10 : Int)] = Value.tuple #[Value.int IntKind.u64 (Prod.fst (readN bs at_)), Value.int IntKind.i64 (Prod.fst (Prod.snd (readN bs at_))), Value.int IntKind.i64 (Prod.snd (Prod.snd (readN bs at_)))]) ((0 : Int) ≤ at_ ∧ at_ < (↑n : Int) ∧ Option.isSome a = true ∧ ∃ (n_4 : Int), atI I a (Int.toNat at_ * (1 : Nat) + (0 : Nat)) = some (Value.int IntKind.u8 n_4) ∧ Wr IntKind.u64 n_4 fun (c_4 : Int) => Br (decide ((1 : Int) < c_2)) ((SV.v (Value.slice a n c) = SV.v (Value.slice a n c) ∧ SV.v (Value.int IntKind.i64 at_) = SV.v (Value.int IntKind.i64 at_) ∧ SV.v (Value.int IntKind.i64 c_2) = SV.v (Value.int IntKind.i64 c_2) ∧ (1 : Int) ≤ (1 : Int) ∧ (1 : Int) ≤ Option.getD bs[Int.toNat at_]? (0 : Int) - (245 : Int) ∧ (0 : Int) = (0 : Int)) ∧ ∀ (I' G' : Mem), Mem.le I I' → ∀ (n_5 n_6 : Int), (1 : Int) ≤ n_6 ∧ n_6 ≤ Option.getD bs[Int.toNat at_]? (0 : Int) - (245 : Int) ∧ n_5 = valN (List.take (Int.toNat n_6 - (1 : Nat)) (digs bs at_ (Option.getD bs[Int.toNat at_]? (0 : Int)))) → Br (decide (n_6 < c_2)) (Wr IntKind.u64 ((256 : Int) * n_5) fun (c_5 : Int) => Wr IntKind.i64 (at_ + n_6) fun (c_6 : Int) => (0 : Int) ≤ c_6 ∧ c_6 < (↑n : Int) ∧ Option.isSome a = true ∧ ∃ (n_7 : Int), atI I' a (Int.toNat c_6 * (1 : Nat) + (0 : Nat)) = some (Value.int IntKind.u8 n_7) ∧ Wr IntKind.u64 n_7 fun (c_7 : Int) => Wr IntKind.u64 (c_5 + c_7) fun (c_8 : Int) => Wr IntKind.i64 (n_6 + (1 : Int)) fun (c_9 : Int) => SV.v (Value.slice a n c) = SV.v (Value.slice a n c) ∧ SV.v (Value.int IntKind.i64 at_) = SV.v (Value.int IntKind.i64 at_) ∧ SV.v (Value.int IntKind.i64 c_2) = SV.v (Value.int IntKind.i64 c_2) ∧ ((1 : Int) ≤ c_9 ∧ c_9 ≤ Option.getD bs[Int.toNat at_]? (0 : Int) - (245 : Int) ∧ c_8 = valN (List.take (Int.toNat c_9 - (1 : Nat)) (digs bs at_ (Option.getD bs[Int.toNat at_]? (0 : Int))))) ∧ Int.toNat ((20 : Int) - c_9) < Int.toNat ((20 : Int) - n_6)) (Wr IntKind.i64 (at_ + c_2) fun (c_5 : Int) => (0 : Int) ≤ at_ ∧ at_ ≤ c_5 ∧ c_5 ≤ (↑c : Int) ∧ Ct Try.prog (Value.func (Fn.func (48 : Nat)) #[] #[]) #[Value.int IntKind.u64 n_5] I' fun (v : Value) (I' : Mem) => ∃ (a_3 : Option Addr), ∃ (n : Nat), ∃ (c_6 : Nat), v = Value.slice a_3 n c_6 ∧ Ct Try.prog (Value.func (Fn.func (81 : Nat)) #[] #[]) #[Value.slice a_3 n c_6, Value.slice (sladdr a c (Int.toNat at_) (1 : Nat)) (Int.toNat c_5 - Int.toNat at_) (c - Int.toNat at_)] I' fun (v : Value) (I' : Mem) => ∃ (b : Bool), v = Value.bool b ∧ Br (!b) (Value.tuple #[Value.int IntKind.u64 (0 : Int), Value.int IntKind.i64 (0 : Int), Value.int IntKind.i64 (11 : Int)] = Value.tuple #[Value.int IntKind.u64 (Prod.fst (readN bs at_)), Value.int IntKind.i64 (Prod.fst (Prod.snd (readN bs at_))), Value.int IntKind.i64 (Prod.snd (Prod.snd (readN bs at_)))]) (Value.tuple #[Value.int IntKind.u64 n_5, Value.int IntKind.i64 c_2, Value.int IntKind.i64 (0 : Int)] = Value.tuple #[Value.int IntKind.u64 (Prod.fst (readN bs at_)), Value.int IntKind.i64 (Prod.fst (Prod.snd (readN bs at_))), Value.int IntKind.i64 (Prod.snd (Prod.snd (readN bs at_)))]))) (Wr IntKind.i64 (at_ + c_2) fun (c_5 : Int) => (0 : Int) ≤ at_ ∧ at_ ≤ c_5 ∧ c_5 ≤ (↑c : Int) ∧ Ct Try.prog (Value.func (Fn.func (48 : Nat)) #[] #[]) #[Value.int IntKind.u64 c_4] I fun (v : Value) (I' : Mem) => ∃ (a_1 : Option Addr), ∃ (n : Nat), ∃ (c_6 : Nat), v = Value.slice a_1 n c_6 ∧ Ct Try.prog (Value.func (Fn.func (81 : Nat)) #[] #[]) #[Value.slice a_1 n c_6, Value.slice (sladdr a c (Int.toNat at_) (1 : Nat)) (Int.toNat c_5 - Int.toNat at_) (c - Int.toNat at_)] I' fun (v : Value) (I' : Mem) => ∃ (b : Bool), v = Value.bool b ∧ Br (!b) (Value.tuple #[Value.int IntKind.u64 (0 : Int), Value.int IntKind.i64 (0 : Int), Value.int IntKind.i64 (11 : Int)] = Value.tuple #[Value.int IntKind.u64 (Prod.fst (readN bs at_)), Value.int IntKind.i64 (Prod.fst (Prod.snd (readN bs at_))), Value.int IntKind.i64 (Prod.snd (Prod.snd (readN bs at_)))]) (Value.tuple #[Value.int IntKind.u64 c_4, Value.int IntKind.i64 c_2, Value.int IntKind.i64 (0 : Int)] = Value.tuple #[Value.int IntKind.u64 (Prod.fst (readN bs at_)), Value.int IntKind.i64 (Prod.fst (Prod.snd (readN bs at_))), Value.int IntKind.i64 (Prod.snd (Prod.snd (readN bs at_)))])))) (Wr IntKind.i64 ((↑n : Int) - at_) fun (c_1 : Int) => Br (decide (c_1 < (1 : Int))) (Value.tuple #[Value.int IntKind.u64 (0 : Int), Value.int IntKind.i64 (0 : Int), Value.int IntKind.i64 (10 : Int)] = Value.tuple #[Value.int IntKind.u64 (Prod.fst (readN bs at_)), Value.int IntKind.i64 (Prod.fst (Prod.snd (readN bs at_))), Value.int IntKind.i64 (Prod.snd (Prod.snd (readN bs at_)))]) ((0 : Int) ≤ at_ ∧ at_ < (↑n : Int) ∧ Option.isSome a = true ∧ ∃ (n : Int), atI I a (Int.toNat at_ * (1 : Nat) + (0 : Nat)) = some (Value.int IntKind.u8 n) ∧ Wr IntKind.u64 n fun (c_2 : Int) => Wr IntKind.i64 (at_ + (1 : Int)) fun (c_3 : Int) => (0 : Int) ≤ at_ ∧ at_ ≤ c_3 ∧ c_3 ≤ (↑c : Int) ∧ Ct Try.prog (Value.func (Fn.func (48 : Nat)) #[] #[]) #[Value.int IntKind.u64 c_2] I fun (v : Value) (I' : Mem) => ∃ (a_1 : Option Addr), ∃ (n : Nat), ∃ (c_4 : Nat), v = Value.slice a_1 n c_4 ∧ Ct Try.prog (Value.func (Fn.func (81 : Nat)) #[] #[]) #[Value.slice a_1 n c_4, Value.slice (sladdr a c (Int.toNat at_) (1 : Nat)) (Int.toNat c_3 - Int.toNat at_) (c - Int.toNat at_)] I' fun (v : Value) (I' : Mem) => ∃ (b : Bool), v = Value.bool b ∧ Br (!b) (Value.tuple #[Value.int IntKind.u64 (0 : Int), Value.int IntKind.i64 (0 : Int), Value.int IntKind.i64 (11 : Int)] = Value.tuple #[Value.int IntKind.u64 (Prod.fst (readN bs at_)), Value.int IntKind.i64 (Prod.fst (Prod.snd (readN bs at_))), Value.int IntKind.i64 (Prod.snd (Prod.snd (readN bs at_)))]) (Value.tuple #[Value.int IntKind.u64 c_2, Value.int IntKind.i64 (1 : Int), Value.int IntKind.i64 (0 : Int)] = Value.tuple #[Value.int IntKind.u64 (Prod.fst (readN bs at_)), Value.int IntKind.i64 (Prod.fst (Prod.snd (readN bs at_))), Value.int IntKind.i64 (Prod.snd (Prod.snd (readN bs at_)))])))) (Wr IntKind.i64 ((↑n : Int) - at_) fun (c_1 : Int) => Br (decide (c_1 < (1 : Int))) (Value.tuple #[Value.int IntKind.u64 (0 : Int), Value.int IntKind.i64 (0 : Int), Value.int IntKind.i64 (10 : Int)] = Value.tuple #[Value.int IntKind.u64 (Prod.fst (readN bs at_)), Value.int IntKind.i64 (Prod.fst (Prod.snd (readN bs at_))), Value.int IntKind.i64 (Prod.snd (Prod.snd (readN bs at_)))]) ((0 : Int) ≤ at_ ∧ at_ < (↑n : Int) ∧ Option.isSome a = true ∧ ∃ (n : Int), atI I a (Int.toNat at_ * (1 : Nat) + (0 : Nat)) = some (Value.int IntKind.u8 n) ∧ Wr IntKind.u64 n fun (c_2 : Int) => Wr IntKind.i64 (at_ + (1 : Int)) fun (c_3 : Int) => (0 : Int) ≤ at_ ∧ at_ ≤ c_3 ∧ c_3 ≤ (↑c : Int) ∧ Ct Try.prog (Value.func (Fn.func (48 : Nat)) #[] #[]) #[Value.int IntKind.u64 c_2] I fun (v : Value) (I' : Mem) => ∃ (a_1 : Option Addr), ∃ (n : Nat), ∃ (c_4 : Nat), v = Value.slice a_1 n c_4 ∧ Ct Try.prog (Value.func (Fn.func (81 : Nat)) #[] #[]) #[Value.slice a_1 n c_4, Value.slice (sladdr a c (Int.toNat at_) (1 : Nat)) (Int.toNat c_3 - Int.toNat at_) (c - Int.toNat at_)] I' fun (v : Value) (I' : Mem) => ∃ (b : Bool), v = Value.bool b ∧ Br (!b) (Value.tuple #[Value.int IntKind.u64 (0 : Int), Value.int IntKind.i64 (0 : Int), Value.int IntKind.i64 (11 : Int)] = Value.tuple #[Value.int IntKind.u64 (Prod.fst (readN bs at_)), Value.int IntKind.i64 (Prod.fst (Prod.snd (readN bs at_))), Value.int IntKind.i64 (Prod.snd (Prod.snd (readN bs at_)))]) (Value.tuple #[Value.int IntKind.u64 c_2, Value.int IntKind.i64 (1 : Int), Value.int IntKind.i64 (0 : Int)] = Value.tuple #[Value.int IntKind.u64 (Prod.fst (readN bs at_)), Value.int IntKind.i64 (Prod.fst (Prod.snd (readN bs at_))), Value.int IntKind.i64 (Prod.snd (Prod.snd (readN bs at_)))]))))))) (by kernel_rfl) ?_
  have hn := h.numLen
  have fin : ∀ (I1 : Mem) (x m : Int), I.le I1 → 0 ≤ at_ → (0 ≤ x ∧ x ≤ 18446744073709551615) → 0 ≤ m → at_ + m ≤ bs.length → (readN bs at_ = (0, 0, 11) ∨ readN bs at_ = (x, m, 0)) →
      Ct Try.prog (Value.func (Fn.func 48) #[] #[]) #[Value.int IntKind.u64 x] I1 fun v I' => ∃ a_3 n c_6, v = Value.slice a_3 n c_6 ∧ Ct Try.prog (Value.func (Fn.func 81) #[] #[]) #[Value.slice a_3 n c_6, Value.slice (sladdr a c at_.toNat 1) ((at_ + m).toNat - at_.toNat) (c - at_.toNat)] I' fun v I' => ∃ b, v = Value.bool b ∧ Br (!b) (Value.tuple #[Value.int IntKind.u64 0, Value.int IntKind.i64 0, Value.int IntKind.i64 11] = Value.tuple #[Value.int IntKind.u64 (readN bs at_).fst, Value.int IntKind.i64 (readN bs at_).snd.fst, Value.int IntKind.i64 (readN bs at_).snd.snd]) (Value.tuple #[Value.int IntKind.u64 x, Value.int IntKind.i64 m, Value.int IntKind.i64 0] = Value.tuple #[Value.int IntKind.u64 (readN bs at_).fst, Value.int IntKind.i64 (readN bs at_).snd.fst, Value.int IntKind.i64 (readN bs at_).snd.snd]) := by
    intro I1 x m l1 a0 hx m0 hm hacc
    refine (ct48 x hx I1).mono fun v I2 l2 ⟨a3, n3, c3, hv, hs, hc3, hm3⟩ => ⟨a3, n3, c3, hv, ?_⟩
    have hsub := sl_sub (f := at_.toNat) (t := (at_ + m).toNat) ((h.mono l1).mono l2) (by omega) (by omega) hc
    have hf8 := formN_le x.toNat (by omega)
    have hn3 := hs.numLen
    refine (ct81 _ _ _ _ _ _ _ _ I2 hs hsub (by omega)).mono fun v I3 l3 hv => ⟨_, hv, ?_⟩
    rw [show (at_ + m).toNat - at_.toNat = m.toNat by omega, ref_end hbs a0 hx m0 hm hacc]
    by_cases he : formN x.toNat = (bs.drop at_.toNat).take m.toNat
    · rw [decide_eq_true he, if_pos he]; exact Br.f rfl rfl
    · rw [decide_eq_false he, if_neg he]; exact Br.t rfl rfl
  refine Br.mk (fun h0 => ?_) (fun h0 => Br.mk (fun h1 => ?_) (fun h1 => Br.mk (fun h2 => ?_) (fun h2 => ?_)))
  · have h0 := of_decide_eq_true h0
    rw [readN, if_pos (.inl h0)]
  · have h1 := of_decide_eq_true h1
    rw [readN, if_pos (.inr (by omega))]
  · have h2 : at_ = n := by simpa using h2
    rw [readN, if_neg (by omega), List.getElem?_eq_none (by omega)]
  have h0 := of_decide_eq_false h0
  have h1 := of_decide_eq_false h1
  have h2 : at_ ≠ n := by simpa using h2
  obtain ⟨b, hb, hcell⟩ := h.intAt (i := at_) (by omega) (by omega)
  have hbr := hbs b (List.mem_of_getElem? hb)
  have hrd : readN bs at_ = if b ≤ 246 then (b, 1, 0) else if b = 255 then (0, 0, 11) else
      if (bs.length : Int) - at_ - 1 < b - 246 then (0, 0, 10) else
      if (digs bs at_ b)[0]? = some 0 then (0, 0, 11) else
      if valN (digs bs at_ b) ≤ 246 then (0, 0, 11) else (valN (digs bs at_ b), b - 246 + 1, 0) := by
    rw [readN, if_neg (by omega), hb]
  have hsome := h.isSome (by omega)
  have one : (b ≤ 246 ∨ b = 255) → readN bs at_ = (0, 0, 11) ∨ readN bs at_ = (b, 1, 0) := fun hc => by
    rw [hrd]
    rcases hc with hc | hc
    · rw [if_pos hc]; exact .inr rfl
    · rw [if_neg (by omega), if_pos hc]; exact .inl rfl
  simp only [hb, Option.getD_some]
  refine ⟨by omega, by omega, hsome, b, hcell, Br.mk (fun h3 => ?_) (fun h3 => ?_)⟩
  · have h3 := of_decide_eq_true h3
    refine ⟨by omega, by omega, hsome, b, hcell, Br.mk (fun h4 => ?_) (fun h4 => ?_)⟩
    · have h4 := of_decide_eq_true h4
      rw [if_neg (by omega), if_neg (by omega)] at hrd
      refine ⟨by omega, by omega, hsome, b, hcell, wr_i64 (by omega) (by omega) (wr_i64 (by omega) (by omega) (wr_i64 (by omega) (by omega) (Br.mk (fun h5 => ?_) (fun h5 => ?_))))⟩
      · have h5 := of_decide_eq_true h5
        rw [hrd, if_pos (by omega)]
      have h5 := of_decide_eq_false h5
      rw [if_neg (by omega)] at hrd
      have hdl : (digs bs at_ b).length = (b - 246).toNat := by simp only [digs, List.length_take, List.length_drop]; omega
      have hdat : ∀ i : Nat, i < (b - 246).toNat → (digs bs at_ b)[i]? = bs[at_.toNat + 1 + i]? := fun i hi => by
        rw [digs, List.getElem?_take, if_pos hi, List.getElem?_drop]
      have hdb : ∀ d ∈ digs bs at_ b, 0 ≤ d ∧ d ≤ 255 := fun d hd => hbs d (List.mem_of_mem_drop (List.mem_of_mem_take hd))
      refine ⟨by omega, by omega, hsome, b, hcell, b, IntWalk.u64_in b ⟨hbr.1, by omega⟩, Br.t (by simp; omega) ⟨⟨trivial, trivial, trivial, by omega, by omega, trivial⟩, fun I1 G1 l1 x i ⟨k0, k1, k2⟩ => Br.mk (fun hlt => ?_) (fun hge => ?_)⟩⟩
      · have hlt := of_decide_eq_true hlt
        have hxb := valN_bd ((digs bs at_ b).take (i.toNat - 1)) fun y hy => hdb y (List.mem_of_mem_take hy)
        have hxl : ((digs bs at_ b).take (i.toNat - 1)).length ≤ 7 := by rw [List.length_take]; omega
        have hx7 : x < 72057594037927936 := by
          rw [k2]
          refine Int.lt_of_lt_of_le hxb.2 ?_
          exact pow7 _ (by omega)
        have hx0 : 0 ≤ x := by rw [k2]; exact hxb.1
        obtain ⟨d, hd, hdc⟩ := (h.mono l1).intAt (i := at_ + i) (by omega) (by omega)
        have hdr := hbs d (List.mem_of_getElem? hd)
        have hdi : (digs bs at_ b)[i.toNat - 1]? = some d := by rw [hdat _ (by omega), ← hd]; congr 1; omega
        refine ⟨_, IntWalk.u64_in _ ⟨by omega, by omega⟩, wr_i64 (by omega) (by omega) ⟨by omega, by omega, hsome, d, hdc, _, IntWalk.u64_in _ ⟨hdr.1, by omega⟩, _, IntWalk.u64_in _ ⟨by omega, by omega⟩, wr_i64 (by omega) (by omega) ⟨trivial, trivial, trivial, ⟨by omega, by omega, ?_⟩, by omega⟩⟩⟩
        rw [show (i + 1).toNat - 1 = i.toNat - 1 + 1 by omega, take_succ' hdi, valN_snoc, ← k2]
        omega
      · have hge := of_decide_eq_false hge
        have hix : x = valN (digs bs at_ b) := by rw [k2, List.take_of_length_le (by rw [hdl]; omega)]
        have hxb := valN_bd (digs bs at_ b) hdb
        have hp8 : (256 : Int) ^ (digs bs at_ b).length ≤ 18446744073709551616 := by
          rw [hdl]
          obtain ⟨k, hk⟩ : ∃ k, (b - 246).toNat = k + 1 := ⟨(b - 246).toNat - 1, by omega⟩
          rw [hk]
          exact pow8 k (by omega)
        refine wr_i64 (by omega) (by omega) ⟨by omega, by omega, by omega, fin I1 x (b - 245) l1 (by omega) ⟨by omega, by omega⟩ (by omega) (by omega) ?_⟩
        rw [hrd, hix]
        split
        · exact .inl rfl
        · split
          · exact .inl rfl
          · right; congr 2; omega
    · have h4 := of_decide_eq_false h4
      refine wr_i64 (by omega) (by omega) (Br.f (by simp; omega) ⟨by omega, by omega, hsome, b, hcell, b, IntWalk.u64_in b ⟨hbr.1, by omega⟩, wr_i64 (by omega) (by omega) ⟨by omega, by omega, by omega, fin I b 1 (Mem.le_refl _) (by omega) ⟨hbr.1, by omega⟩ (by omega) (by omega) (one (.inr (by omega)))⟩⟩)
  · have h3 := of_decide_eq_false h3
    refine wr_i64 (by omega) (by omega) (Br.f (by simp; omega) ⟨by omega, by omega, hsome, b, hcell, b, IntWalk.u64_in b ⟨hbr.1, by omega⟩, wr_i64 (by omega) (by omega) ⟨by omega, by omega, by omega, fin I b 1 (Mem.le_refl _) (by omega) ⟨hbr.1, by omega⟩ (by omega) (by omega) (one (.inl (by omega)))⟩⟩)
open Go Go.Proofs Go.SE Go.RowKit
set_option linter.unusedVariables false
def chainT : Int → List (Int × List Int) → Bool
  | _, [] => true
  | last, f :: r => decide (last < f.1) && (decide (f.1 ≤ 200) && chainT f.1 r)
def sumL : List (Int × List Int) → Int
  | [] => 0
  | f :: r => f.2.length + sumL r
theorem sumL_nonneg : ∀ l, 0 ≤ sumL l
  | [] => by simp [sumL]
  | f :: r => by have := sumL_nonneg r; rw [sumL]; omega
theorem sumL_app : ∀ k l, sumL (k ++ l) = sumL k + sumL l
  | [], l => by simp [sumL]
  | f :: r, l => by rw [List.cons_append, sumL, sumL, sumL_app r l]; omega
theorem step_split : ∀ (l : List (Int × List Int)) (last left : Int), 0 ≤ left → rightStep last left l = (chainT last l && decide (sumL l ≤ left))
  | [], last, left, h => by simp [rightStep, chainT, sumL, h]
  | f :: r, last, left, h => by
    have hs := sumL_nonneg r
    rw [rightStep, chainT, sumL]
    split
    · rename_i hc
      by_cases h1 : last < f.1
      · by_cases h2 : f.1 ≤ 200
        · rw [decide_eq_false (p := (f.2.length : Int) + sumL r ≤ left) (by omega)]; simp
        · simp [h2]
      · simp [h1]
    · rename_i hc
      rw [step_split r _ _ (by omega), decide_eq_true (p := last < f.1) (by omega), decide_eq_true (p := f.1 ≤ 200) (by omega)]
      simp only [Bool.true_and]
      congr 1
      exact decide_eq_decide.2 (by omega)
theorem right_split (l : List (Int × List Int)) : rightF l = (decide (l.length ≤ 64) && (chainT 0 l && decide (sumL l ≤ 16384))) := by
  rw [Bool.eq_iff_iff, rightF_iff, step_split _ _ _ (by omega)]
  simp only [Bool.and_eq_true, decide_eq_true_eq]
  exact ⟨fun h => ⟨h.2, h.1⟩, fun h => ⟨h.2, h.1⟩⟩
theorem sumL_take {l : List (Int × List Int)} {B : Int} (h : ∀ f ∈ l, (f.2.length : Int) ≤ B) : ∀ j, 0 ≤ B → sumL (l.take j) ≤ B * j := by
  intro j hB
  induction j generalizing l with
  | zero => simp [sumL]
  | succ j ih =>
    cases l with
    | nil => simp only [List.take_nil, sumL]; exact Int.mul_nonneg hB (by omega)
    | cons f r =>
      have h1 := h f (by simp)
      have h2 := ih (l := r) fun g hg => h g (by simp [hg])
      rw [List.take_succ_cons, sumL]
      have : B * ((j + 1 : Nat) : Int) = B * j + B := by rw [Int.natCast_add, Int.mul_add]; simp
      omega
theorem ct71 (l : List (Int × List Int)) (a : Option Addr) (n c : Nat) (I : Mem) (h : FldM I a n l) (hb : ∀ f ∈ l, f.2.length ≤ 1000000) :
    Ct Try.prog (fnv 71) #[.slice a n c] I (fun v _ => v = .bool (rightF l)) := by
  refine viaR (ct_via (A := { loops := [(5, ⟨[(0, .keep), (3, .sh (.int .i64)), (4, .sh (.int .i64))], [], [], fun vals _ _ _ => match vals with | [.int .i64 sum, .int .i64 j] => 0 ≤ j ∧ j ≤ n ∧ sum = sumL (l.take j.toNat) ∧ ∃ last, (j = 0 → last = 0) ∧ (0 < j → ∃ bs, l[j.toNat - 1]? = some (last, bs)) ∧ 0 ≤ last ∧ chainT 0 l = chainT last (l.drop j.toNat) | _ => False, fun vals _ => match vals with | [_, .int .i64 j] => (n - j).toNat | _ => 0⟩)] }) Try.func71 rfl Try.call71 rfl rfl) (Br (decide ((64 : Int) < (↑n : Int))) (Value.bool false = Value.bool (rightF l)) ((SV.v (Value.slice a n c) = SV.v (Value.slice a n c) ∧ (0 : Int) ≤ (0 : Int) ∧ (0 : Int) ≤ (↑n : Int) ∧ (0 : Int) = (0 : Int) ∧ ∃ (last : Int), ((0 : Int) = (0 : Int) → last = (0 : Int)) ∧ ((0 : Int) < (0 : Int) → ∃ (bs : List Int), l[(0 : Nat)]? = some (last, bs)) ∧ (0 : Int) ≤ last ∧ chainT (0 : Int) l = chainT last l) ∧ ∀ (I' G' : Mem), Mem.le I I' → ∀ (n_1 n_2 : Int), ((0 : Int) ≤ n_2 ∧ n_2 ≤ (↑n : Int) ∧ n_1 = sumL (List.take (Int.toNat n_2) l) ∧ ∃ (last : Int), (n_2 = (0 : Int) → last = (0 : Int)) ∧ ((0 : Int) < n_2 → ∃ (bs : List Int), l[Int.toNat n_2 - (1 : Nat)]? = some (last, bs)) ∧ (0 : Int) ≤ last ∧ chainT (0 : Int) l = chainT last (List.drop (Int.toNat n_2) l)) → Br (decide (n_2 < (↑n : Int))) ((0 : Int) ≤ n_2 ∧ n_2 < (↑n : Int) ∧ Option.isSome a = true ∧ Option.isSome a = true ∧ ∃ (a_3 : Option Addr), ∃ (n_3 : Nat), ∃ (c_1 : Nat), atI I' a (Int.toNat n_2 * (2 : Nat) + (1 : Nat) + (0 : Nat)) = some (Value.slice a_3 n_3 c_1) ∧ Wr IntKind.i64 (n_1 + (↑n_3 : Int)) fun (c_2 : Int) => (0 : Int) ≤ n_2 ∧ n_2 < (↑n : Int) ∧ Option.isSome a = true ∧ Option.isSome a = true ∧ ∃ (n_4 : Int), atI I' a (Int.toNat n_2 * (2 : Nat) + (0 : Nat) + (0 : Nat)) = some (Value.int IntKind.i64 n_4) ∧ Br (decide (n_4 < (1 : Int))) (Value.bool false = Value.bool (rightF l)) ((0 : Int) ≤ n_2 ∧ n_2 < (↑n : Int) ∧ Option.isSome a = true ∧ Option.isSome a = true ∧ ∃ (n_5 : Int), atI I' a (Int.toNat n_2 * (2 : Nat) + (0 : Nat) + (0 : Nat)) = some (Value.int IntKind.i64 n_5) ∧ Br (decide ((200 : Int) < n_5)) (Value.bool false = Value.bool (rightF l)) (Br (decide ((0 : Int) < n_2)) ((0 : Int) ≤ n_2 ∧ n_2 < (↑n : Int) ∧ Option.isSome a = true ∧ Option.isSome a = true ∧ ∃ (n_6 : Int), atI I' a (Int.toNat n_2 * (2 : Nat) + (0 : Nat) + (0 : Nat)) = some (Value.int IntKind.i64 n_6) ∧ Wr IntKind.i64 (n_2 - (1 : Int)) fun (c_3 : Int) => (0 : Int) ≤ c_3 ∧ c_3 < (↑n : Int) ∧ Option.isSome a = true ∧ Option.isSome a = true ∧ ∃ (n_7 : Int), atI I' a (Int.toNat c_3 * (2 : Nat) + (0 : Nat) + (0 : Nat)) = some (Value.int IntKind.i64 n_7) ∧ Br (decide (n_6 ≤ n_7)) (Value.bool false = Value.bool (rightF l)) (Wr IntKind.i64 (n_2 + (1 : Int)) fun (c_4 : Int) => SV.v (Value.slice a n c) = SV.v (Value.slice a n c) ∧ ((0 : Int) ≤ c_4 ∧ c_4 ≤ (↑n : Int) ∧ c_2 = sumL (List.take (Int.toNat c_4) l) ∧ ∃ (last : Int), (c_4 = (0 : Int) → last = (0 : Int)) ∧ ((0 : Int) < c_4 → ∃ (bs : List Int), l[Int.toNat c_4 - (1 : Nat)]? = some (last, bs)) ∧ (0 : Int) ≤ last ∧ chainT (0 : Int) l = chainT last (List.drop (Int.toNat c_4) l)) ∧ Int.toNat ((↑n : Int) - c_4) < Int.toNat ((↑n : Int) - n_2))) (Wr IntKind.i64 (n_2 + (1 : Int)) fun (c_3 : Int) => SV.v (Value.slice a n c) = SV.v (Value.slice a n c) ∧ ((0 : Int) ≤ c_3 ∧ c_3 ≤ (↑n : Int) ∧ c_2 = sumL (List.take (Int.toNat c_3) l) ∧ ∃ (last : Int), (c_3 = (0 : Int) → last = (0 : Int)) ∧ ((0 : Int) < c_3 → ∃ (bs : List Int), l[Int.toNat c_3 - (1 : Nat)]? = some (last, bs)) ∧ (0 : Int) ≤ last ∧ chainT (0 : Int) l = chainT last (List.drop (Int.toNat c_3) l)) ∧ Int.toNat ((↑n : Int) - c_3) < Int.toNat ((↑n : Int) - n_2))))) (Value.bool (decide (n_1 ≤ (16384 : Int))) = Value.bool (rightF l)))) (by kernel_rfl) ?_
  have hl := h.len
  have hmx := h.max
  refine Br.mk (fun h64 => ?_) (fun h64 => ?_)
  · have h64 := of_decide_eq_true h64
    rw [right_split, decide_eq_false (by omega)]; rfl
  have h64 := of_decide_eq_false h64
  refine ⟨⟨rfl, by omega, by omega, rfl, 0, fun _ => rfl, fun h => by omega, by omega, rfl⟩, fun I1 _ l1 sum j ⟨j0, j1, js, last, q1, q2, q3, q4⟩ => ?_⟩
  have hsb := sumL_take (l := l) (B := 1000000) (fun f hf => by have := hb f hf; omega) j.toNat (by omega)
  have hs0 := sumL_nonneg (l.take j.toNat)
  refine Br.mk (fun hlt => ?_) (fun hge => ?_)
  · have hlt := of_decide_eq_true hlt
    have hsome := h.isSome (by omega)
    obtain ⟨f, b', m', c', hf, hok, e1, e2, hfs, hm1, hm2⟩ := (h.mono l1).at_ j0 hlt
    have hfl := hfs.numLen
    have hfb := hb f (List.mem_of_getElem? hf)
    rw [drop_cons hf, chainT] at q4
    have hj1 : (j + 1).toNat = j.toNat + 1 := by omega
    have hsum : sum + m' = sumL (l.take (j + 1).toNat) := by
      rw [hj1, take_succ' hf, sumL_app, js]
      simp only [sumL]; omega
    have bad : chainT 0 l = false → Value.bool false = Value.bool (rightF l) := fun hc => by rw [right_split, hc]; simp
    have next : last < f.1 → f.1 ≤ 200 → Wr IntKind.i64 (j + 1) fun c_4 => SV.v (Value.slice a n c) = SV.v (Value.slice a n c) ∧ (0 ≤ c_4 ∧ c_4 ≤ ↑n ∧ sum + m' = sumL (List.take c_4.toNat l) ∧ ∃ last, (c_4 = 0 → last = 0) ∧ (0 < c_4 → ∃ bs, l[c_4.toNat - 1]? = some (last, bs)) ∧ 0 ≤ last ∧ chainT 0 l = chainT last (List.drop c_4.toNat l)) ∧ (↑n - c_4).toNat < (↑n - j).toNat := fun g1 g2 => by
      refine wr_i64 (by omega) (by omega) ⟨rfl, ⟨by omega, by omega, hsum, f.1, fun h => by omega, fun _ => ⟨f.2, ?_⟩, by omega, ?_⟩, by omega⟩
      · rw [hj1, Nat.add_sub_cancel]; exact hf
      · rw [q4, hj1]; simp [g1, g2]
    refine ⟨j0, hlt, hsome, hsome, b', m', c', e2, wr_i64 (by omega) (by omega) ⟨j0, hlt, hsome, hsome, f.1, e1, Br.mk (fun g1 => bad ?_) (fun g1 => ⟨j0, hlt, hsome, hsome, f.1, e1, Br.mk (fun g2 => bad ?_) (fun g2 => Br.mk (fun g3 => ?_) (fun g3 => ?_))⟩)⟩⟩
    · have g1 := of_decide_eq_true g1
      rw [q4, decide_eq_false (by omega)]; rfl
    · have g2 := of_decide_eq_true g2
      rw [q4, decide_eq_false (p := f.1 ≤ 200) (by omega)]; simp
    · have g1 := of_decide_eq_false g1
      have g2 := of_decide_eq_false g2
      have g3 := of_decide_eq_true g3
      obtain ⟨p, b2, m2, c2, hp, _, e3, _⟩ := (h.mono l1).at_ (i := j - 1) (by omega) (by omega)
      obtain ⟨bs, hq⟩ := q2 g3
      rw [show (j - 1).toNat = j.toNat - 1 by omega, hq] at hp
      cases hp
      refine ⟨j0, hlt, hsome, hsome, f.1, e1, wr_i64 (by omega) (by omega) ⟨by omega, by omega, hsome, hsome, last, e3, Br.mk (fun g4 => bad ?_) (fun g4 => next ?_ (by omega))⟩⟩
      · have g4 := of_decide_eq_true g4
        rw [q4, decide_eq_false (by omega)]; rfl
      · have g4 := of_decide_eq_false g4; omega
    · have g1 := of_decide_eq_false g1
      have g2 := of_decide_eq_false g2
      have g3 := of_decide_eq_false g3
      have := q1 (by omega)
      exact next (by omega) (by omega)
  · have hge := of_decide_eq_false hge
    have hj : j.toNat = l.length := by omega
    rw [hj, List.drop_length, chainT] at q4
    rw [hj, List.take_length] at js
    rw [right_split, q4, decide_eq_true (p := l.length ≤ 64) (by omega), js]
    rfl

theorem dup2 {Q : Prop} (h : Q) : Q ∧ Q := ⟨h, h⟩
theorem ct75 (xs : List Int) (a : Option Addr) (n c : Nat) (I : Mem) (h : SlM I a n 1 (ints .u8 xs)) (hn : n ≤ 1000000) :
    Ct Try.prog (fnv 75) #[.slice a n c] I (fun v I' => BySl I' v xs) := by
  refine viaR (ct_via (A := { }) Try.func75 rfl Try.call75 rfl rfl) (∃ (ys : List Value), List.length ys = n * (1 : Nat) ∧ (a = none → n = (0 : Nat)) ∧ (∀ (j : Nat) (v : Value), ys[j]? = some v → atI I a j = some v) ∧ (∀ (v : Value), v ∈ ys → Value.oneCell' v = true) ∧ (0 : Nat) = (0 : Nat) ∧ (0 : Nat) + n ≤ (9223372036854775807 : Nat) ∧ ((0 : Nat) + n) * (1 : Nat) ≤ (140737488355328 : Nat) ∧ ∀ (a : Option Addr) (cp : Nat) (I' : Mem), Mem.le I I' → RowM I' a cp (1 : Nat) ys → ∃ (b : Option Addr), ∃ (m : Nat), ∃ (c : Nat), Value.slice a ((0 : Nat) + n) cp = Value.slice b m c ∧ SlM I' b m (1 : Nat) (List.map (Value.int IntKind.u8) xs) ∧ m ≤ c ∧ c ≤ (9223372036854775807 : Nat)) (by kernel_rfl) ?_
  exact ⟨ints .u8 xs, h.len, h.nil, h.at_, one_ints, rfl, by omega, by omega, fun a' cp I' _ hrow => row_bysl hrow (by have := h.numLen; omega)⟩
def lastT : Int → List (Int × List Int) → Int
  | a, [] => a
  | _, f :: r => lastT f.1 r
theorem chainT_snoc (f : Int × List Int) : ∀ (L : List (Int × List Int)) (a : Int), chainT a (L ++ [f]) = (chainT a L && (decide (lastT a L < f.1) && decide (f.1 ≤ 200)))
  | [], a => by simp only [List.nil_append, chainT, lastT, Bool.and_true, Bool.true_and]; rfl
  | g :: r, a => by
    rw [List.cons_append, chainT, chainT, lastT, chainT_snoc f r g.1]
    simp [Bool.and_assoc]
theorem lastT_snoc (f : Int × List Int) : ∀ (L : List (Int × List Int)) (a : Int), lastT a (L ++ [f]) = f.1
  | [], a => rfl
  | g :: r, a => lastT_snoc f r g.1
theorem lastT_nonneg : ∀ (L : List (Int × List Int)) (a : Int), 0 ≤ a → chainT a L = true → a ≤ lastT a L
  | [], a, h, _ => Int.le_refl _
  | g :: r, a, h, hc => by
    simp only [chainT, Bool.and_eq_true, decide_eq_true_eq] at hc
    have := lastT_nonneg r g.1 (by omega) hc.2.2
    rw [lastT]; omega
theorem right_snoc {L : List (Int × List Int)} (h : rightF L = true) (f : Int × List Int) :
    rightF (L ++ [f]) = !decide (f.1 ≤ lastT 0 L ∨ 200 < f.1 ∨ 16384 - sumL L < f.2.length ∨ 64 ≤ L.length) := by
  rw [right_split] at h ⊢
  simp only [Bool.and_eq_true, decide_eq_true_eq] at h
  have hs : sumL (L ++ [f]) = sumL L + f.2.length := by rw [sumL_app]; simp [sumL]
  rw [chainT_snoc, h.2.1, Bool.true_and, List.length_append, List.length_singleton, hs]
  rw [Bool.eq_iff_iff]
  simp only [Bool.and_eq_true, decide_eq_true_eq, Bool.not_eq_true', decide_eq_false_iff_not]
  omega
theorem goF_bad {bs : List Int} {k : Nat} {last left : Int} {L : List (Int × List Int)} (hk : k < bs.length) (h : fstep bs k = none) (h0 : 0 ≤ last) : goF (yields bs k) last left L = ((k : Int), []) := by
  rw [yields, dif_pos hk, h]
  simp only [goF]
  rw [if_pos (.inl h0)]
theorem goF_step {bs : List Int} {k nx : Nat} {body : List Int} {last left : Int} {L : List (Int × List Int)} {b : Int} (hk : k < bs.length) (h : fstep bs k = some (body, nx)) (hb : bs[k]? = some b) (hn : k < nx) :
    goF (yields bs k) last left L = if b ≤ last ∨ 200 < b ∨ left < body.length ∨ 64 ≤ L.length then ((k : Int), []) else goF (yields bs nx) b (left - body.length) (L ++ [(b, body)]) := by
  rw [yields, dif_pos hk, h]
  simp only [dif_pos hn, hb, Option.getD_some]
  rw [goF]
theorem readN_m {bs : List Int} (hbs : ∀ b ∈ bs, 0 ≤ b ∧ b ≤ 255) (at_ : Int) : 0 ≤ (readN bs at_).2.1 ∧ (readN bs at_).2.1 ≤ 9 := by
  unfold readN
  split
  · simp
  · split
    · simp
    · rename_i b hb
      have := hbs b (List.mem_of_getElem? hb)
      split
      · simp
      · split
        · simp
        · split
          · simp
          · split
            · simp
            · split
              · simp
              · simp only; omega
theorem ct56 (bs : List Int) (hbs : byteL bs) (a : Option Addr) (n c : Nat) (I : Mem) (h : SlM I a n 1 (ints .u8 bs)) (hn : n ≤ 1000000) (hc : n ≤ c) (hm : c ≤ maxLen) :
    Ct Try.prog (fnv 56) #[.slice a n c] I (fun v I' => ∃ a' n' c', v = .tuple #[.slice a' n' c', .int .i64 (readF bs).2.1, .int .i64 (readF bs).2.2] ∧ FldM I' a' n' (readF bs).1 ∧ n' ≤ c' ∧ c' ≤ maxLen) := by
  refine viaR (ct_via (A := { calls := [(68, .ro)], loops := [(5, ⟨[(0, .keep), (5, .row 0), (6, .sh (.int .i64)), (7, .sh (.int .i64))], [(0, .row)], [(5, 2, 93)], fun vals xss I' _ => match vals, xss with | [.int .i64 at_, .int .i64 sum], [xs] => 0 ≤ at_ ∧ ∃ L, FR I' xs L ∧ rightF L = true ∧ sum = sumL L ∧ goF (yields bs 0) 0 16384 [] = goF (yields bs at_.toNat) (lastT 0 L) (16384 - sumL L) L | _, _ => False, fun vals _ => match vals with | [.int .i64 at_, _] => (n - at_).toNat | _ => 0⟩)] }) Try.func56 rfl Try.call56 rfl rfl) (Br (decide ((16768 : Int) < (↑n : Int))) (∃ (a' : Option Addr), ∃ (n' : Nat), ∃ (c' : Nat), Value.tuple #[Value.slice none (0 : Nat) (0 : Nat), Value.int IntKind.i64 (0 : Int), Value.int IntKind.i64 (3 : Int)] = Value.tuple #[Value.slice a' n' c', Value.int IntKind.i64 (Prod.fst (Prod.snd (readF bs))), Value.int IntKind.i64 (Prod.snd (Prod.snd (readF bs)))] ∧ FldM I a' n' (Prod.fst (readF bs)) ∧ n' ≤ c' ∧ c' ≤ (9223372036854775807 : Nat)) ((SV.v (Value.slice a n c) = SV.v (Value.slice a n c) ∧ (0 : Nat) = (0 : Nat) ∧ (0 : Int) ≤ (0 : Int) ∧ ∃ (L : List (Int × List Int)), FR I [] L ∧ rightF L = true ∧ (0 : Int) = sumL L ∧ goF (yields bs (0 : Nat)) (0 : Int) (16384 : Int) [] = goF (yields bs (0 : Nat)) (lastT (0 : Int) L) ((16384 : Int) - sumL L) L) ∧ ∀ (I' G' : Mem), Mem.le I I' → ∀ (xs : List Value) (n_1 n_2 : Int), ((0 : Int) ≤ n_1 ∧ ∃ (L : List (Int × List Int)), FR I' xs L ∧ rightF L = true ∧ n_2 = sumL L ∧ goF (yields bs (0 : Nat)) (0 : Int) (16384 : Int) [] = goF (yields bs (Int.toNat n_1)) (lastT (0 : Int) L) ((16384 : Int) - sumL L) L) → Br (decide (n_1 < (↑n : Int))) (Wr IntKind.i64 (n_1 + (1 : Int)) fun (c_1 : Int) => Ct Try.prog (Value.func (Fn.func (74 : Nat)) #[] #[]) #[Value.slice a n c, Value.int IntKind.i64 c_1] I' fun (v : Value) (I' : Mem) => ∃ (n_3 : Int), ∃ (n_4 : Int), ∃ (n_5 : Int), v = Value.tuple #[Value.int IntKind.u64 n_3, Value.int IntKind.i64 n_4, Value.int IntKind.i64 n_5] ∧ Wr IntKind.i64 (n_1 + (1 : Int)) fun (c_2 : Int) => Wr IntKind.i64 (c_2 + n_4) fun (c_3 : Int) => Br (n_5 != (0 : Int)) (∃ (a' : Option Addr), ∃ (n' : Nat), ∃ (c' : Nat), Value.tuple #[Value.slice none (0 : Nat) (0 : Nat), Value.int IntKind.i64 n_1, Value.int IntKind.i64 (21 : Int)] = Value.tuple #[Value.slice a' n' c', Value.int IntKind.i64 (Prod.fst (Prod.snd (readF bs))), Value.int IntKind.i64 (Prod.snd (Prod.snd (readF bs)))] ∧ FldM I' a' n' (Prod.fst (readF bs)) ∧ n' ≤ c' ∧ c' ≤ (9223372036854775807 : Nat)) (Wr IntKind.i64 ((↑n : Int) - c_3) fun (c_4 : Int) => Wr IntKind.u64 c_4 fun (c_5 : Int) => Br (decide (c_5 < n_3)) (∃ (a' : Option Addr), ∃ (n' : Nat), ∃ (c' : Nat), Value.tuple #[Value.slice none (0 : Nat) (0 : Nat), Value.int IntKind.i64 n_1, Value.int IntKind.i64 (21 : Int)] = Value.tuple #[Value.slice a' n' c', Value.int IntKind.i64 (Prod.fst (Prod.snd (readF bs))), Value.int IntKind.i64 (Prod.snd (Prod.snd (readF bs)))] ∧ FldM I' a' n' (Prod.fst (readF bs)) ∧ n' ≤ c' ∧ c' ≤ (9223372036854775807 : Nat)) ((0 : Int) ≤ n_1 ∧ n_1 < (↑n : Int) ∧ Option.isSome a = true ∧ ∃ (n_6 : Int), atI I' a (Int.toNat n_1 * (1 : Nat) + (0 : Nat)) = some (Value.int IntKind.u8 n_6) ∧ Wr IntKind.i64 n_6 fun (c_6 : Int) => Wr IntKind.i64 n_3 fun (c_7 : Int) => Wr IntKind.i64 (c_3 + c_7) fun (c_8 : Int) => (0 : Int) ≤ c_3 ∧ c_3 ≤ c_8 ∧ c_8 ≤ (↑c : Int) ∧ (Ct Try.prog (Value.func (Fn.func (75 : Nat)) #[] #[]) #[Value.slice (sladdr a c (Int.toNat c_3) (1 : Nat)) (Int.toNat c_8 - Int.toNat c_3) (c - Int.toNat c_3)] I' fun (v : Value) (I' : Mem) => ∃ (a_3 : Option Addr), ∃ (n_7 : Nat), ∃ (c_9 : Nat), v = Value.slice a_3 n_7 c_9 ∧ Wr IntKind.i64 (n_2 + (↑n_7 : Int)) fun (c_10 : Int) => List.length xs = List.length xs / (2 : Nat) * (2 : Nat) ∧ List.length xs / (2 : Nat) + (1 : Nat) ≤ (9223372036854775807 : Nat) ∧ (List.length xs / (2 : Nat) + (1 : Nat)) * (32 : Nat) ≤ (140737488355328 : Nat) ∧ ∀ (a_4 : Option Addr) (cp : Nat) (I'_1 : Mem), Mem.le I' I'_1 → RowM I'_1 a_4 cp (2 : Nat) (xs ++ [Value.int IntKind.i64 c_6, Value.slice a_3 n_7 c_9]) → Ct Try.prog (Value.func (Fn.func (71 : Nat)) #[] #[]) #[Value.slice a_4 (List.length xs / (2 : Nat) + (1 : Nat)) cp] I'_1 fun (v : Value) (x : Mem) => ∃ (b : Bool), v = Value.bool b ∧ Br (!b) (∃ (a' : Option Addr), ∃ (n' : Nat), ∃ (c' : Nat), Value.tuple #[Value.slice none (0 : Nat) (0 : Nat), Value.int IntKind.i64 n_1, Value.int IntKind.i64 (21 : Int)] = Value.tuple #[Value.slice a' n' c', Value.int IntKind.i64 (Prod.fst (Prod.snd (readF bs))), Value.int IntKind.i64 (Prod.snd (Prod.snd (readF bs)))] ∧ FldM I' a' n' (Prod.fst (readF bs)) ∧ n' ≤ c' ∧ c' ≤ (9223372036854775807 : Nat)) (Br (decide ((16384 : Int) < c_10)) (∃ (a' : Option Addr), ∃ (n' : Nat), ∃ (c' : Nat), Value.tuple #[Value.slice none (0 : Nat) (0 : Nat), Value.int IntKind.i64 n_1, Value.int IntKind.i64 (21 : Int)] = Value.tuple #[Value.slice a' n' c', Value.int IntKind.i64 (Prod.fst (Prod.snd (readF bs))), Value.int IntKind.i64 (Prod.snd (Prod.snd (readF bs)))] ∧ FldM I' a' n' (Prod.fst (readF bs)) ∧ n' ≤ c' ∧ c' ≤ (9223372036854775807 : Nat)) (Wr IntKind.i64 n_3 fun (c_11 : Int) => Wr IntKind.i64 (c_3 + c_11) fun (c_12 : Int) => SV.v (Value.slice a n c) = SV.v (Value.slice a n c) ∧ List.length xs / (2 : Nat) + (1 : Nat) = List.length (xs ++ [Value.int IntKind.i64 c_6, Value.slice a_3 n_7 c_9]) / (2 : Nat) ∧ ((0 : Int) ≤ c_12 ∧ ∃ (L : List (Int × List Int)), FR I' (xs ++ [Value.int IntKind.i64 c_6, Value.slice a_3 n_7 c_9]) L ∧ rightF L = true ∧ c_10 = sumL L ∧ goF (yields bs (0 : Nat)) (0 : Int) (16384 : Int) [] = goF (yields bs (Int.toNat c_12)) (lastT (0 : Int) L) ((16384 : Int) - sumL L) L) ∧ Int.toNat ((↑n : Int) - c_12) < Int.toNat ((↑n : Int) - n_1)))) ∧ Ct Try.prog (Value.func (Fn.func (75 : Nat)) #[] #[]) #[Value.slice (sladdr a c (Int.toNat c_3) (1 : Nat)) (Int.toNat c_8 - Int.toNat c_3) (c - Int.toNat c_3)] I' fun (v : Value) (I' : Mem) => ∃ (a_3 : Option Addr), ∃ (n_7 : Nat), ∃ (c_9 : Nat), v = Value.slice a_3 n_7 c_9 ∧ Wr IntKind.i64 (n_2 + (↑n_7 : Int)) fun (c_10 : Int) => List.length xs = List.length xs / (2 : Nat) * (2 : Nat) ∧ List.length xs / (2 : Nat) + (1 : Nat) ≤ (9223372036854775807 : Nat) ∧ (List.length xs / (2 : Nat) + (1 : Nat)) * (32 : Nat) ≤ (140737488355328 : Nat) ∧ ∀ (a_4 : Option Addr) (cp : Nat) (I'_1 : Mem), Mem.le I' I'_1 → RowM I'_1 a_4 cp (2 : Nat) (xs ++ [Value.int IntKind.i64 c_6, Value.slice a_3 n_7 c_9]) → Ct Try.prog (Value.func (Fn.func (71 : Nat)) #[] #[]) #[Value.slice a_4 (List.length xs / (2 : Nat) + (1 : Nat)) cp] I'_1 fun (v : Value) (x : Mem) => ∃ (b : Bool), v = Value.bool b ∧ Br (!b) (∃ (a' : Option Addr), ∃ (n' : Nat), ∃ (c' : Nat), Value.tuple #[Value.slice none (0 : Nat) (0 : Nat), Value.int IntKind.i64 n_1, Value.int IntKind.i64 (21 : Int)] = Value.tuple #[Value.slice a' n' c', Value.int IntKind.i64 (Prod.fst (Prod.snd (readF bs))), Value.int IntKind.i64 (Prod.snd (Prod.snd (readF bs)))] ∧ FldM I' a' n' (Prod.fst (readF bs)) ∧ n' ≤ c' ∧ c' ≤ (9223372036854775807 : Nat)) (Br (decide ((16384 : Int) < c_10)) (∃ (a' : Option Addr), ∃ (n' : Nat), ∃ (c' : Nat), Value.tuple #[Value.slice none (0 : Nat) (0 : Nat), Value.int IntKind.i64 n_1, Value.int IntKind.i64 (21 : Int)] = Value.tuple #[Value.slice a' n' c', Value.int IntKind.i64 (Prod.fst (Prod.snd (readF bs))), Value.int IntKind.i64 (Prod.snd (Prod.snd (readF bs)))] ∧ FldM I' a' n' (Prod.fst (readF bs)) ∧ n' ≤ c' ∧ c' ≤ (9223372036854775807 : Nat)) (Wr IntKind.i64 n_3 fun (c_11 : Int) => Wr IntKind.i64 (c_3 + c_11) fun (c_12 : Int) => SV.v (Value.slice a n c) = SV.v (Value.slice a n c) ∧ List.length xs / (2 : Nat) + (1 : Nat) = List.length (xs ++ [Value.int IntKind.i64 c_6, Value.slice a_3 n_7 c_9]) / (2 : Nat) ∧ ((0 : Int) ≤ c_12 ∧ ∃ (L : List (Int × List Int)), FR I' (xs ++ [Value.int IntKind.i64 c_6, Value.slice a_3 n_7 c_9]) L ∧ rightF L = true ∧ c_10 = sumL L ∧ goF (yields bs (0 : Nat)) (0 : Int) (16384 : Int) [] = goF (yields bs (Int.toNat c_12)) (lastT (0 : Int) L) ((16384 : Int) - sumL L) L) ∧ Int.toNat ((↑n : Int) - c_12) < Int.toNat ((↑n : Int) - n_1)))))) (∀ (a : Option Addr) (cp : Nat) (I'_1 : Mem), Mem.le I' I'_1 → RowM I'_1 a cp (2 : Nat) xs → ∃ (a' : Option Addr), ∃ (n' : Nat), ∃ (c' : Nat), Value.tuple #[Value.slice a (List.length xs / (2 : Nat)) cp, Value.int IntKind.i64 (0 : Int), Value.int IntKind.i64 (0 : Int)] = Value.tuple #[Value.slice a' n' c', Value.int IntKind.i64 (Prod.fst (Prod.snd (readF bs))), Value.int IntKind.i64 (Prod.snd (Prod.snd (readF bs)))] ∧ FldM I'_1 a' n' (Prod.fst (readF bs)) ∧ n' ≤ c' ∧ c' ≤ (9223372036854775807 : Nat)))) (by kernel_rfl) ?_
  simp only [eq_self, true_and]
  have hnl := h.numLen
  refine Br.mk (fun hlong => ?_) (fun hlong => ?_)
  · have hlong := of_decide_eq_true hlong
    have : readF bs = ([], 0, 3) := by rw [readF, if_pos (by omega)]
    rw [this]
    exact ⟨none, 0, 0, rfl, fldM_nil _, by omega, by omega⟩
  have hlong := of_decide_eq_false hlong
  have hrd0 : readF bs = if 0 ≤ (goF (yields bs 0) 0 16384 []).1 then ([], (goF (yields bs 0) 0 16384 []).1, 21) else ((goF (yields bs 0) 0 16384 []).2, 0, 0) := by rw [readF, if_neg (by omega)]
  refine ⟨⟨by omega, [], trivial, rfl, rfl, rfl⟩, fun I1 _ l1 xs at_ sum ⟨a0, L, hL, hR, hs, hg⟩ => ?_⟩
  obtain ⟨k, rfl⟩ : ∃ k : Nat, at_ = k := ⟨at_.toNat, by omega⟩
  rw [Int.toNat_natCast] at hg ⊢
  have hRs := hR
  rw [right_split] at hRs
  simp only [Bool.and_eq_true, decide_eq_true_eq] at hRs
  obtain ⟨r1, r2, r3⟩ := hRs
  have hl0 := lastT_nonneg L 0 (by omega) r2
  have hs0 := sumL_nonneg L
  have hxl := hL.len
  refine Br.mk (fun hlt => ?_) (fun hge => ?_)
  · have hlt := of_decide_eq_true hlt
    have hkl : k < bs.length := by omega
    have fail : goF (yields bs k) (lastT 0 L) (16384 - sumL L) L = ((k : Int), []) → ∀ J, ∃ a' n' c', Value.tuple #[Value.slice none 0 0, Value.int IntKind.i64 k, Value.int IntKind.i64 21] = Value.tuple #[Value.slice a' n' c', Value.int IntKind.i64 (readF bs).snd.fst, Value.int IntKind.i64 (readF bs).snd.snd] ∧ FldM J a' n' (readF bs).fst ∧ n' ≤ c' ∧ c' ≤ 9223372036854775807 := by
      intro hf J
      rw [hf] at hg
      have : readF bs = ([], (k : Int), 21) := by rw [hrd0, hg, if_pos (by simp only; omega)]
      rw [this]
      exact ⟨none, 0, 0, rfl, fldM_nil _, by omega, by omega⟩
    refine wr_i64 (by omega) (by omega) ((ct74 bs hbs a n c (k + 1) (by omega) I1 (h.mono l1) (by omega) hc).mono fun v I2 l2 hv => ?_)
    have hm9 := readN_m hbs (k + 1)
    rcases hre : readN bs (k + 1) with ⟨x, m, er⟩
    rw [hre] at hv hm9
    simp only at hm9
    refine ⟨x, m, er, hv, wr_i64 (by omega) (by omega) (wr_i64 (by omega) (by omega) (Br.mk (fun he => ?_) (fun he => ?_)))⟩
    · have he : er ≠ 0 := by simpa using he
      refine fail (goF_bad hkl ?_ hl0) _
      have hin : (intN bs (k + 1) 0 16384).2.2 ≠ 0 := by
        unfold intN
        rw [hre, if_pos he]
        exact he
      rw [fstep, if_pos (.inl hin)]
    have he : er = 0 := by simpa using he
    subst he
    obtain ⟨g0, g1, g2, g3, g4, g5, g6⟩ := readN_back hbs hre
    refine wr_i64 (by omega) (by omega) ⟨_, IntWalk.u64_in _ ⟨by omega, by omega⟩, Br.mk (fun hlx => ?_) (fun hlx => ?_)⟩
    · have hlx := of_decide_eq_true hlx
      refine fail (goF_bad hkl ?_ hl0) _
      by_cases hx : 16384 < x
      · have hin : (intN bs (k + 1) 0 16384).2.2 ≠ 0 := by
          unfold intN
          rw [hre, if_neg (by simp), if_pos (by simp only; omega)]
          simp
        rw [fstep, if_pos (.inl hin)]
      · have hin : intN bs (k + 1) 0 16384 = (x, m, 0) := by rw [intN, hre, if_neg (by simp), if_neg (by simp only; omega)]
        rw [fstep, hin, if_pos (.inr (by simp only; omega))]
    have hlx := of_decide_eq_false hlx
    obtain ⟨b, hb, hcell⟩ := (h.mono (Mem.le_trans l1 l2)).intAt (i := (k : Int)) (by omega) hlt
    rw [Int.toNat_natCast] at hb hcell
    have hbr := hbs b (List.mem_of_getElem? hb)
    refine ⟨by omega, hlt, h.isSome (by omega), b, hcell, wr_i64 (by omega) (by omega) (wr_i64 (by omega) (by omega) (wr_i64 (by omega) (by omega) ⟨by omega, by omega, by omega, dup2 ?_⟩))⟩
    have hsub := sl_sub (f := ((k : Int) + 1 + m).toNat) (t := ((k : Int) + 1 + m + x).toNat) ((h.mono l1).mono l2) (by omega) (by omega) hc
    have hbl : ((bs.drop ((k : Int) + 1 + m).toNat).take (((k : Int) + 1 + m + x).toNat - ((k : Int) + 1 + m).toNat)).length = x.toNat := by simp only [List.length_take, List.length_drop]; omega
    have hbb : byteL ((bs.drop ((k : Int) + 1 + m).toNat).take (((k : Int) + 1 + m + x).toNat - ((k : Int) + 1 + m).toNat)) := fun z hz => hbs z (List.mem_of_mem_drop (List.mem_of_mem_take hz))
    have hst : ¬ 16384 < x → fstep bs k = some ((bs.drop ((k : Int) + 1 + m).toNat).take (((k : Int) + 1 + m + x).toNat - ((k : Int) + 1 + m).toNat), ((k : Int) + 1 + m + x).toNat) := fun hx => by
      have hin : intN bs (k + 1) 0 16384 = (x, m, 0) := by rw [intN, hre, if_neg (by simp), if_neg (by simp only; omega)]
      rw [fstep, hin, if_neg (by simp only; omega)]
      simp only
      congr 3
      omega
    generalize (bs.drop ((k : Int) + 1 + m).toNat).take (((k : Int) + 1 + m + x).toNat - ((k : Int) + 1 + m).toNat) = body at hsub hbl hbb hst
    refine (ct75 body _ _ _ I2 hsub (by omega)).mono fun v I3 l3 hv => ?_
    have hv2 := hv
    obtain ⟨b2, m2, c2, rfl, hv3, _⟩ := hv
    have hm2 := hv3.numLen
    have hL2 : FR I3 (xs ++ [.int .i64 b, .slice b2 m2 c2]) (L ++ [(b, body)]) := FR.snoc (hL.mono (Mem.le_trans l2 l3)) ⟨⟨by simp only; omega, hbb⟩, rfl, hv2⟩
    refine ⟨b2, m2, c2, rfl, wr_i64 (by omega) (by omega) ⟨by omega, by omega, by omega, fun a4 cp I4 l4 hrow => ?_⟩⟩
    have hf4 := fldM_row hrow (hL2.mono l4)
    have hbnd : ∀ f ∈ L ++ [(b, body)], f.2.length ≤ 1000000 := fun f hf => by
      rcases List.mem_append.1 hf with hf | hf
      · have := right_at (rightF_iff.1 hR).1 f hf
        omega
      · cases List.mem_singleton.1 hf
        simp only
        omega
    have hll : (L ++ [(b, body)]).length = xs.length / 2 + 1 := by simp; omega
    rw [hll] at hf4
    refine (ct71 (L ++ [(b, body)]) _ _ _ I4 hf4 hbnd).mono fun v I5 l5 hv => ⟨_, hv, ?_⟩
    rw [right_snoc hR]
    by_cases hx : 16384 < x
    · refine Br.t ?_ (fail (goF_bad hkl ?_ hl0) _)
      · rw [decide_eq_true (by simp only; omega)]; rfl
      · have hin : (intN bs (k + 1) 0 16384).2.2 ≠ 0 := by
          unfold intN
          rw [hre, if_neg (by simp), if_pos (by simp only; omega)]
          simp
        rw [fstep, if_pos (.inl hin)]
    have hstep := goF_step (last := lastT 0 L) (left := 16384 - sumL L) (L := L) hkl (hst hx) hb (by omega)
    refine Br.mk (fun hbad => ?_) (fun hgood => ?_)
    · have hbad : b ≤ lastT 0 L ∨ 200 < b ∨ 16384 - sumL L < body.length ∨ 64 ≤ L.length := by simpa using hbad
      rw [if_pos hbad] at hstep
      exact fail hstep _
    · have hgood : ¬ (b ≤ lastT 0 L ∨ 200 < b ∨ 16384 - sumL L < body.length ∨ 64 ≤ L.length) := by simpa using hgood
      rw [if_neg hgood] at hstep
      refine Br.f (by simp; omega) (wr_i64 (by omega) (by omega) (wr_i64 (by omega) (by omega) ⟨by simp, ⟨by omega, L ++ [(b, body)], hL2, ?_, ?_, ?_⟩, by omega⟩))
      · rw [right_snoc hR, decide_eq_false hgood]; rfl
      · rw [sumL_app]; simp only [sumL]; omega
      · rw [hg, hstep, lastT_snoc, sumL_app]
        simp only [sumL]
        congr 1
        omega
  · have hge := of_decide_eq_false hge
    intro a4 cp I4 l4 hrow
    have hy : yields bs k = [] := by rw [yields, dif_neg (by omega)]
    rw [hy, goF] at hg
    have : readF bs = (L, 0, 0) := by rw [hrd0, hg]; rfl
    rw [this]
    obtain ⟨a3, n3, c3, e1, e2⟩ := fr_row hrow (hL.mono l4)
    cases e1
    exact ⟨_, _, _, rfl, e2⟩

theorem readN_bad (bs : List Int) (at_ : Int) : (readN bs at_).2.2 ≠ 0 → (readN bs at_).1 = 0 ∧ (readN bs at_).2.1 = 0 := by
  unfold readN
  split
  · simp
  · split
    · simp
    · split
      · simp
      · split
        · simp
        · split
          · simp
          · split
            · simp
            · split <;> simp
theorem ct57 (bs : List Int) (hbs : ∀ b ∈ bs, 0 ≤ b ∧ b ≤ 255) (a : Option Addr) (n c : Nat) (I : Mem) (h : SlM I a n 1 (ints .u8 bs)) (hl : n ≤ 1000000000) (hc : n ≤ c) :
    Ct Try.prog (fnv 57) #[.slice a n c] I (fun v _ => v = T3 (lastN bs)) := by
  refine viaR (ct_via (A := {}) Try.func57 rfl Try.call57 rfl rfl) (Ct Try.prog (Value.func (Fn.func (74 : Nat)) #[] #[]) #[Value.slice a n c, Value.int IntKind.i64 (0 : Int)] I fun (v : Value) (I' : Mem) => ∃ (n_1 : Int), ∃ (n_2 : Int), ∃ (n_3 : Int), v = Value.tuple #[Value.int IntKind.u64 n_1, Value.int IntKind.i64 n_2, Value.int IntKind.i64 n_3] ∧ Br (n_3 == (0 : Int)) (Br (n_2 != (↑n : Int)) (Value.tuple #[Value.int IntKind.u64 (0 : Int), Value.int IntKind.i64 (0 : Int), Value.int IntKind.i64 (11 : Int)] = Value.tuple #[Value.int IntKind.u64 (Prod.fst (lastN bs)), Value.int IntKind.i64 (Prod.fst (Prod.snd (lastN bs))), Value.int IntKind.i64 (Prod.snd (Prod.snd (lastN bs)))]) (Value.tuple #[Value.int IntKind.u64 n_1, Value.int IntKind.i64 n_2, Value.int IntKind.i64 n_3] = Value.tuple #[Value.int IntKind.u64 (Prod.fst (lastN bs)), Value.int IntKind.i64 (Prod.fst (Prod.snd (lastN bs))), Value.int IntKind.i64 (Prod.snd (Prod.snd (lastN bs)))])) (Value.tuple #[Value.int IntKind.u64 n_1, Value.int IntKind.i64 n_2, Value.int IntKind.i64 n_3] = Value.tuple #[Value.int IntKind.u64 (Prod.fst (lastN bs)), Value.int IntKind.i64 (Prod.fst (Prod.snd (lastN bs))), Value.int IntKind.i64 (Prod.snd (Prod.snd (lastN bs)))])) (by kernel_rfl) ?_
  refine (ct74 bs hbs a n c 0 (by omega) I h hl hc).mono fun v I1 l1 hv => ?_
  have hnl := h.numLen
  have hbad := readN_bad bs 0
  rcases hr : readN bs 0 with ⟨x, m, e⟩
  rw [hr] at hv hbad
  refine ⟨_, _, _, hv, ?_⟩
  unfold lastN
  rw [hr]
  refine Br.mk (fun he => ?_) (fun he => ?_)
  · have he : e = 0 := by simpa using he
    subst he
    obtain ⟨g0, g1, g2, g3, g4, g5, g6⟩ := readN_back hbs hr
    refine Br.mk (fun hm => ?_) (fun hm => ?_)
    · have hm : m ≠ n := by simpa using hm
      rw [if_neg (by simp), if_pos (by simp only; omega)]
    · have hm : m = n := by simpa using hm
      rw [if_neg (by simp), if_neg (by simp only; omega)]
  · have he : e ≠ 0 := by simpa using he
    obtain ⟨h1, h2⟩ := hbad he
    simp only at h1 h2
    rw [if_pos he, h1, h2]
theorem ct51 (l : List (Int × List Int)) (hb : ∀ f ∈ l, f.2.length ≤ 1000000) (a : Option Addr) (n c : Nat) (I : Mem) (h : FldM I a n l) (hn : n ≤ 1000000) :
    Ct Try.prog (fnv 51) #[.slice a n c] I (fun v I' => ∃ a' n' c', v = .tuple #[.slice a' n' c', .int .i64 (if rightF l then 0 else 20)] ∧ SlM I' a' n' 1 (ints .u8 (if rightF l then writeF l else [])) ∧ n' ≤ c' ∧ c' ≤ maxLen) := by
  refine viaR (ct_via (A := { loops := [(5, ⟨[(0, .keep), (4, .row 0), (5, .sh (.int .i64))], [(0, .row)], [(4, 1, 5)], fun vals xss I' _ => match vals, xss with | [.int .i64 j], [xs] => 0 ≤ j ∧ j ≤ n ∧ xs = ints .u8 (writeF (l.take j.toNat)) ∧ rightF l = true | _, _ => False, fun vals _ => match vals with | [.int .i64 j] => (n - j).toNat | _ => 0⟩)] }) Try.func51 rfl Try.call51 rfl rfl) (Ct Try.prog (Value.func (Fn.func (71 : Nat)) #[] #[]) #[Value.slice a n c] I fun (v : Value) (I' : Mem) => ∃ (b : Bool), v = Value.bool b ∧ Br (!b) (∃ (a' : Option Addr), ∃ (n' : Nat), ∃ (c' : Nat), Value.tuple #[Value.slice none (0 : Nat) (0 : Nat), Value.int IntKind.i64 (20 : Int)] = Value.tuple #[Value.slice a' n' c', Value.int IntKind.i64 (if rightF l = true then (0 : Int) else (20 : Int))] ∧ SlM I' a' n' (1 : Nat) (List.map (Value.int IntKind.u8) (if rightF l = true then writeF l else [])) ∧ n' ≤ c' ∧ c' ≤ (9223372036854775807 : Nat)) ((SV.v (Value.slice a n c) = SV.v (Value.slice a n c) ∧ (0 : Nat) = (0 : Nat) ∧ (0 : Int) ≤ (0 : Int) ∧ (0 : Int) ≤ (↑n : Int) ∧ @List.nil Value = @List.nil Value ∧ rightF l = true) ∧ ∀ (I'_1 G' : Mem), Mem.le I' I'_1 → ∀ (xs : List Value) (n_1 : Int), (0 : Int) ≤ n_1 ∧ n_1 ≤ (↑n : Int) ∧ xs = List.map (Value.int IntKind.u8) (writeF (List.take (Int.toNat n_1) l)) ∧ rightF l = true → Br (decide (n_1 < (↑n : Int))) ((0 : Int) ≤ n_1 ∧ n_1 < (↑n : Int) ∧ Option.isSome a = true ∧ Option.isSome a = true ∧ ∃ (n_2 : Int), atI I'_1 a (Int.toNat n_1 * (2 : Nat) + (0 : Nat) + (0 : Nat)) = some (Value.int IntKind.i64 n_2) ∧ Wr IntKind.u8 n_2 fun (c_1 : Int) => List.length xs = List.length xs * (1 : Nat) ∧ List.length xs + (1 : Nat) ≤ (9223372036854775807 : Nat) ∧ (List.length xs + (1 : Nat)) * (1 : Nat) ≤ (140737488355328 : Nat) ∧ (0 : Int) ≤ n_1 ∧ n_1 < (↑n : Int) ∧ Option.isSome a = true ∧ Option.isSome a = true ∧ ∃ (a_3 : Option Addr), ∃ (n_3 : Nat), ∃ (c_2 : Nat), atI I'_1 a (Int.toNat n_1 * (2 : Nat) + (1 : Nat) + (0 : Nat)) = some (Value.slice a_3 n_3 c_2) ∧ Wr IntKind.u64 (↑n_3 : Int) fun (c_3 : Int) => Ct Try.prog (Value.func (Fn.func (48 : Nat)) #[] #[]) #[Value.int IntKind.u64 c_3] I'_1 fun (v : Value) (I' : Mem) => ∃ (a_4 : Option Addr), ∃ (n_4 : Nat), ∃ (c_4 : Nat), v = Value.slice a_4 n_4 c_4 ∧ ∃ (ys : List Value), List.length ys = n_4 * (1 : Nat) ∧ (a_4 = none → n_4 = (0 : Nat)) ∧ (∀ (j : Nat) (v : Value), ys[j]? = some v → atI I' a_4 j = some v) ∧ (∀ (v : Value), v ∈ ys → Value.oneCell' v = true) ∧ List.length (xs ++ [Value.int IntKind.u8 c_1]) = (List.length xs + (1 : Nat)) * (1 : Nat) ∧ List.length xs + (1 : Nat) + n_4 ≤ (9223372036854775807 : Nat) ∧ (List.length xs + (1 : Nat) + n_4) * (1 : Nat) ≤ (140737488355328 : Nat) ∧ (0 : Int) ≤ n_1 ∧ n_1 < (↑n : Int) ∧ Option.isSome a = true ∧ Option.isSome a = true ∧ ∃ (a_5 : Option Addr), ∃ (n_5 : Nat), ∃ (c_5 : Nat), atI I' a (Int.toNat n_1 * (2 : Nat) + (1 : Nat) + (0 : Nat)) = some (Value.slice a_5 n_5 c_5) ∧ ∃ (ys_1 : List Value), List.length ys_1 = n_5 * (1 : Nat) ∧ (a_5 = none → n_5 = (0 : Nat)) ∧ (∀ (j : Nat) (v : Value), ys_1[j]? = some v → atI I' a_5 j = some v) ∧ (∀ (v : Value), v ∈ ys_1 → Value.oneCell' v = true) ∧ List.length (xs ++ [Value.int IntKind.u8 c_1] ++ ys) = (List.length xs + (1 : Nat) + n_4) * (1 : Nat) ∧ List.length xs + (1 : Nat) + n_4 + n_5 ≤ (9223372036854775807 : Nat) ∧ (List.length xs + (1 : Nat) + n_4 + n_5) * (1 : Nat) ≤ (140737488355328 : Nat) ∧ Wr IntKind.i64 (n_1 + (1 : Int)) fun (c_6 : Int) => SV.v (Value.slice a n c) = SV.v (Value.slice a n c) ∧ List.length xs + (1 : Nat) + n_4 + n_5 = List.length (xs ++ [Value.int IntKind.u8 c_1] ++ ys ++ ys_1) ∧ ((0 : Int) ≤ c_6 ∧ c_6 ≤ (↑n : Int) ∧ xs ++ [Value.int IntKind.u8 c_1] ++ ys ++ ys_1 = List.map (Value.int IntKind.u8) (writeF (List.take (Int.toNat c_6) l)) ∧ rightF l = true) ∧ Int.toNat ((↑n : Int) - c_6) < Int.toNat ((↑n : Int) - n_1)) (∀ (a : Option Addr) (cp : Nat) (I' : Mem), Mem.le I'_1 I' → RowM I' a cp (1 : Nat) xs → ∃ (a' : Option Addr), ∃ (n' : Nat), ∃ (c' : Nat), Value.tuple #[Value.slice a (List.length xs) cp, Value.int IntKind.i64 (0 : Int)] = Value.tuple #[Value.slice a' n' c', Value.int IntKind.i64 (if rightF l = true then (0 : Int) else (20 : Int))] ∧ SlM I' a' n' (1 : Nat) (List.map (Value.int IntKind.u8) (if rightF l = true then writeF l else [])) ∧ n' ≤ c' ∧ c' ≤ (9223372036854775807 : Nat)))) (by kernel_rfl) ?_
  have hl := h.len
  refine (ct71 l a n c I h hb).mono fun v I0 l0 hv => ⟨_, hv, Br.mk (fun hr => ?_) (fun hr => ?_)⟩
  · have hr : rightF l = false := by simpa using hr
    rw [hr]
    exact ⟨none, 0, 0, rfl, sl_nil _ _, by omega, by omega⟩
  have hr : rightF l = true := by simpa using hr
  obtain ⟨hs, hl64⟩ := rightF_iff.1 hr
  refine ⟨⟨rfl, rfl, by omega, by omega, rfl, hr⟩, fun I1 _ l1 xs j ⟨h0, h1, h2, _⟩ => Br.mk (fun hlt => ?_) (fun hge => ?_)⟩
  · have hlt := of_decide_eq_true hlt
    obtain ⟨f, b, m, c', hf, hok, e1, e2, hfs, hm1, hm2⟩ := (h.mono (Mem.le_trans l0 l1)).at_ h0 hlt
    have hm := hfs.numLen
    have hfr := right_at hs f (List.mem_of_getElem? hf)
    have hsome := h.isSome (by omega)
    have hwl := right_len (by omega) hs j.toNat
    have hxl : xs.length = (writeF (l.take j.toNat)).length := by rw [h2]; exact ints_len
    refine ⟨h0, hlt, hsome, hsome, f.1, e1, _, IntWalk.u8_in f.1 ⟨by omega, by omega⟩, by omega, by omega, by omega, h0, hlt, hsome, hsome, b, m, c', e2, _, IntWalk.u64_in _ ⟨by omega, by omega⟩, ?_⟩
    refine (ct48 (m : Int) ⟨by omega, by omega⟩ I1).mono fun v I2 l2 ⟨b2, m2, c2, hv, hs2, hm3, hm4⟩ => ⟨b2, m2, c2, hv, ?_⟩
    rw [Int.toNat_natCast] at hs2
    have hm2 := hs2.numLen
    have hf9 := formN_le m (by omega)
    obtain ⟨f2, b', m', c2', hf', _, _, e2', hfs', _⟩ := (h.mono (Mem.le_trans l0 (Mem.le_trans l1 l2))).at_ h0 hlt
    rw [hf] at hf'
    cases hf'
    refine ⟨_, hs2.len, hs2.nil, hs2.at_, one_ints, by simp, by omega, by omega, h0, hlt, hsome, hsome, b', m', c2', e2', _, hfs'.len, hfs'.nil, hfs'.at_, one_ints, ?_, ?_, ?_, wr_i64 (by omega) (by omega) ⟨rfl, ?_, ⟨by omega, by omega, ?_, hr⟩, by omega⟩⟩
    · simp [ints_len]; omega
    · have := hfs'.numLen; omega
    · have := hfs'.numLen; omega
    · have := hfs'.numLen
      simp [ints_len]; omega
    · rw [h2, show (j + 1).toNat = j.toNat + 1 by omega, take_succ' hf, writeF_app, show writeF [f] = f.1 :: (formN f.2.length ++ f.2) by simp [writeF], ← hm]
      simp [ints]
  · have hge := of_decide_eq_false hge
    intro a4 cp I4 l4 hrow
    rw [List.take_of_length_le (by omega)] at h2
    have hxl : xs.length = (writeF l).length := by rw [h2]; exact ints_len
    refine ⟨a4, xs.length, cp, ?_, ?_, ?_, hrow.2.1⟩
    · rw [hr]; rfl
    · rw [if_pos hr, ← h2]; exact hrow.sl (by omega) (by omega)
    · have := hrow.1; omega
theorem lastN_form (x : Nat) (h : x < 256 ^ 8) : lastN (formN x) = ((x : Int), ((formN x).length : Int), 0) := by
  have hr := readN_form [] [] x h
  simp only [List.nil_append, List.append_nil, List.length_nil] at hr
  have hr : readN (formN x) 0 = ((x : Int), ((formN x).length : Int), 0) := hr
  unfold lastN
  rw [hr, if_neg (by simp), if_neg (by simp)]
theorem readN_err (bs : List Int) (h : (readN bs 0).2.2 ≠ 0) : (readN bs 0).2.2 = 10 ∨ (readN bs 0).2.2 = 11 := by
  unfold readN at h ⊢
  rw [if_neg (by omega)] at h ⊢
  split
  · exact .inl rfl
  · rename_i b hb
    rw [hb] at h
    simp only at h
    split
    · rename_i h1; rw [if_pos h1] at h; exact absurd rfl h
    · rename_i h1
      rw [if_neg h1] at h
      split
      · exact .inr rfl
      · rename_i h2
        rw [if_neg h2] at h
        split
        · exact .inl rfl
        · rename_i h3
          rw [if_neg h3] at h
          split
          · exact .inr rfl
          · rename_i h4
            rw [if_neg h4] at h
            split
            · exact .inr rfl
            · rename_i h5
              rw [if_neg h5] at h
              exact absurd rfl h
theorem lastN_cases (bs : List Int) (hbs : byteL bs) : ((lastN bs).2.2 = 0 ∧ 0 ≤ (lastN bs).1 ∧ (lastN bs).1.toNat < 256 ^ 8 ∧ formN (lastN bs).1.toNat = bs) ∨ ((lastN bs).1 = 0 ∧ ((lastN bs).2.2 = 10 ∨ (lastN bs).2.2 = 11)) := by
  unfold lastN
  split
  · rename_i h
    exact .inr ⟨rfl, readN_err bs h⟩
  · rename_i h
    split
    · exact .inr ⟨rfl, .inr rfl⟩
    · rename_i h2
      have h : (readN bs 0).2.2 = 0 := by simpa using h
      obtain ⟨g1, g2, g3, g4, g5, g6, g7⟩ := readN_back hbs (at_ := 0) (x := (readN bs 0).1) (n := (readN bs 0).2.1) (Prod.ext rfl (Prod.ext rfl h))
      refine .inl ⟨rfl, g3, g4, ?_⟩
      have e1 : bs.drop (0 : Int).toNat = bs := rfl
      rw [e1, List.drop_eq_nil_of_le (by omega), List.append_nil] at g6
      exact g6.symm
