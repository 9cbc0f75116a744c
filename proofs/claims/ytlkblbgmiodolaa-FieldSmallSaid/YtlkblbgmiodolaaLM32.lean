/- Part of a proof by the rules of the symbolic walk (see the law's own text): contracts of functions of the program. -/
import Derived.Test.YtlkblbgmiodolaaGA
import Derived.Test.YtlkblbgmiodolaaGB
import Derived.Test.YtlkblbgmiodolaaGB
open Go Go.Proofs Go.SE Go.RowKit
set_option linter.unusedVariables false
theorem ct61 (k i : Int) (I : Mem) (hk : 0 ≤ k ∧ k ≤ 100) (hi : 0 ≤ i ∧ i ≤ 1000000000000000) :
    Ct Try.prog (fnv 61) #[.int .i64 k, .int .i64 i] I (fun v _ => v = .int .i64 (1000003 * (k + 7) + i)) := by
  refine viaR (ct_via (A := { }) Try.func61 rfl Try.call61 rfl rfl) (Wr IntKind.i64 (k + (7 : Int)) fun (c : Int) => Wr IntKind.i64 ((1000003 : Int) * c) fun (c : Int) => Wr IntKind.i64 (c + i) fun (c : Int) => Value.int IntKind.i64 c = Value.int IntKind.i64 ((1000003 : Int) * (k + (7 : Int)) + i)) (by kernel_rfl) ?_
  exact wr_i64 (by omega) (by omega) (wr_i64 (by omega) (by omega) (wr_i64 (by omega) (by omega) rfl))
/-- The mark for index i of slice k. -/
def markB (k i : Int) : Int := IntKind.u8.wrap ((IntKind.u64.wrap (IntKind.u64.wrap (1000003 * (k + 7) + i) * 11400714819323198485)).fdiv 72057594037927936)
theorem wrap_u8 (x : Int) : 0 ≤ IntKind.u8.wrap x ∧ IntKind.u8.wrap x ≤ 255 := by
  have h : IntKind.u8.wrap x = x % 256 := rfl
  omega
theorem ct53 (k i : Int) (I : Mem) (hk : 0 ≤ k ∧ k ≤ 100) (hi : 0 ≤ i ∧ i ≤ 1000000000000000) :
    Ct Try.prog (fnv 53) #[.int .i64 k, .int .i64 i] I (fun v _ => v = .int .u8 (markB k i)) := by
  refine viaR (ct_via (A := { }) Try.func53 rfl Try.call53 rfl rfl) (Ct Try.prog (Value.func (Fn.func (61 : Nat)) #[] #[]) #[Value.int IntKind.i64 k, Value.int IntKind.i64 i] I fun (v : Value) (I' : Mem) => ∃ (n : Int), v = Value.int IntKind.i64 n ∧ Wr IntKind.u64 n fun (c : Int) => Wr IntKind.u64 (c * (11400714819323198485 : Int)) fun (c : Int) => (0 : Int) ≤ (56 : Int) ∧ Wr IntKind.u8 (Int.fdiv c (72057594037927936 : Int)) fun (c : Int) => Value.int IntKind.u8 c = Value.int IntKind.u8 (markB k i)) (by kernel_rfl) ?_
  exact (ct61 k i I hk hi).mono fun v I1 l1 hv => ⟨_, hv, _, rfl, _, rfl, by decide, _, rfl, rfl⟩
/-- Memory as another one, but for the contents of one block. -/
def OverB (G : Mem) (a : Option Addr) (c : Nat) (G' : Mem) : Prop :=
  (c = 0 ∧ G' = G) ∨ 0 < c ∧ ∃ (b off : Nat) (cur cur' : Array Value) (el : TypeId), a = some ⟨b, off, none⟩ ∧ G b = some (.cells cur el (0, 0)) ∧ G' b = some (.cells cur' el (0, 0)) ∧ cur'.size = cur.size ∧ ∀ k, k ≠ b → G' k = G k
theorem ct46 (a : Option Addr) (n c : Nat) (I G : Mem) (hn : n ≤ c) (hc : n ≤ 1000000) (h : OwnS 1 G a c) :
    CtH Try.prog (fnv 46) #[.slice a n c] I G (fun v I' G' => v = .tuple #[] ∧ OverB G a c G') := by
  refine viaR (ctG_via (A := { calls := [(22, .st)], loops := [(2, ⟨[(2, .keep), (3, .sh (.int .i64))], [], [], fun vals _ _ G' => match vals with | [.int .i64 j] => 0 ≤ j ∧ j ≤ n + 12 ∧ OverB G a c G' | _ => False, fun vals _ => match vals with | [.int .i64 j] => (n + 12 - j).toNat | _ => 0⟩)] }) Try.func46 rfl Try.call46 rfl rfl) (Wr IntKind.i64 ((↑n : Int) + (12 : Int)) fun (c_1 : Int) => ((0 : Int) ≤ bif false then imax (↑c : Int) c_1 else imin (↑c : Int) c_1) ∧ (bif false then imax (↑c : Int) c_1 else imin (↑c : Int) c_1) ≤ (↑c : Int) ∧ (SV.v (Value.slice a (Int.toNat (bif false then imax (↑c : Int) c_1 else imin (↑c : Int) c_1)) c) = SV.v (Value.slice a (Int.toNat (bif false then imax (↑c : Int) c_1 else imin (↑c : Int) c_1)) c) ∧ (0 : Int) ≤ (0 : Int) ∧ (0 : Int) ≤ (↑n : Int) + (12 : Int) ∧ OverB G a c G) ∧ ∀ (I' G' : Mem), Mem.le I I' → ∀ (n_1 : Int), (0 : Int) ≤ n_1 ∧ n_1 ≤ (↑n : Int) + (12 : Int) ∧ OverB G a c G' → Br (decide (n_1 < (↑(Int.toNat (bif false then imax (↑c : Int) c_1 else imin (↑c : Int) c_1)) : Int))) (Ct Try.prog (Value.func (Fn.func (53 : Nat)) #[] #[]) #[Value.int IntKind.i64 (2 : Int), Value.int IntKind.i64 n_1] I' fun (v : Value) (I' : Mem) => ∃ (n_2 : Int), v = Value.int IntKind.u8 n_2 ∧ (0 : Int) ≤ n_1 ∧ n_1 < (↑(Int.toNat (bif false then imax (↑c : Int) c_1 else imin (↑c : Int) c_1)) : Int) ∧ Option.isSome a = true ∧ ∃ (G'_1 : Mem), PutG G' a (Int.toNat n_1 * (1 : Nat)) [Value.int IntKind.u8 n_2] G'_1 ∧ Wr IntKind.i64 (n_1 + (1 : Int)) fun (c_2 : Int) => SV.v (Value.slice a (Int.toNat (bif false then imax (↑c : Int) c_1 else imin (↑c : Int) c_1)) c) = SV.v (Value.slice a (Int.toNat (bif false then imax (↑c : Int) c_1 else imin (↑c : Int) c_1)) c) ∧ ((0 : Int) ≤ c_2 ∧ c_2 ≤ (↑n : Int) + (12 : Int) ∧ OverB G a c G'_1) ∧ Int.toNat ((↑n : Int) + (12 : Int) - c_2) < Int.toNat ((↑n : Int) + (12 : Int) - n_1)) (Value.tuple #[] = Value.tuple #[] ∧ OverB G a c G')) (by kernel_rfl) ?_
  
  have hs : 0 ≤ (bif false then imax (c : Int) (n + 12) else imin (c : Int) (n + 12)) ∧ (bif false then imax (c : Int) (n + 12) else imin (c : Int) (n + 12)) ≤ c ∧ (bif false then imax (c : Int) (n + 12) else imin (c : Int) (n + 12)) ≤ n + 12 := by
    simp only [cond_false, imin]
    split <;> omega
  have o0 : OverB G a c G := by
    by_cases h0 : c = 0
    · exact .inl ⟨h0, rfl⟩
    · obtain ⟨b, off, cur, el, h1, h2, h3⟩ := h (by omega)
      exact .inr ⟨by omega, b, off, cur, cur, el, h1, h2, h2, rfl, fun _ _ => rfl⟩
  refine wr_i64 (by omega) (by omega) ?_
  obtain ⟨m0, m1, m2⟩ := hs
  generalize (bif false then imax (c : Int) (n + 12) else imin (c : Int) (n + 12)) = m at m0 m1 m2 ⊢
  refine ⟨m0, m1, ⟨rfl, by omega, by omega, o0⟩, fun I1 G1 l1 j ⟨j0, j1, j2⟩ => Br.mk (fun hlt => ?_) (fun hge => ⟨rfl, j2⟩)⟩
  have hlt := of_decide_eq_true hlt
  refine (ct53 2 j I1 (by omega) ⟨j0, by omega⟩).mono fun v I2 l2 hv => ⟨_, hv, j0, hlt, ?_⟩
  rcases j2 with ⟨c0, _⟩ | ⟨cp, b, off, cur, cur', el, h1, h2, h3, h4, h5⟩
  · omega
  obtain ⟨b', off', cur2, el2, g1, g2, g3⟩ := h (by omega)
  rw [h1] at g1; cases g1
  rw [h2] at g2; cases g2
  refine ⟨by rw [h1]; rfl, _, ⟨b, off, cur', el, h1, h3, by simp only [List.length_singleton]; omega, rfl⟩, wr_i64 (by omega) (by omega) ⟨rfl, ⟨by omega, by omega, .inr ⟨by omega, b, off, cur, _, el, h1, h2, if_pos rfl, ?_, fun k hk => by simp only; rw [if_neg hk]; exact h5 k hk⟩⟩, by omega⟩⟩
  simp only [List.size_toArray, List.length_append, List.length_take, List.length_drop, Array.length_toList, List.length_singleton]
  omega
theorem ovl_over {G G' : Mem} {a : Option Addr} {n : Nat} (h : OvL G a n) {a1 : Option Addr} {c1 : Nat} (ho : OverB G a1 c1 G') (hne : ∀ b off sp b1 off1 sp1, 0 < c1 → a = some ⟨b, off, sp⟩ → a1 = some ⟨b1, off1, sp1⟩ → b1 ≠ b) : OvL G' a n := by
  rcases ho with ⟨_, rfl⟩ | ⟨cp, b1, off1, cur1, cur1', el1, e1, e2, e3, e4, e5⟩
  · exact h
  intro h0
  obtain ⟨b, off, cur, el, h1, h2, h3, h4⟩ := h h0
  have hbb := hne _ _ _ _ _ _ cp h1 e1
  refine ⟨b, off, cur, el, h1, by rw [e5 b (Ne.symm hbb)]; exact h2, h3, fun i hi => ?_⟩
  obtain ⟨a', n', c', k1, k2, k3, k4, k5⟩ := h4 i hi
  refine ⟨a', n', c', k1, k2, k3, fun hc => ?_, k5⟩
  obtain ⟨b2, off2, cur2, el2, q1, q2, q3⟩ := k4 hc
  by_cases hb2 : b2 = b1
  · subst hb2
    rw [e2] at q2
    cases q2
    exact ⟨b2, off2, cur1', _, q1, e3, by omega⟩
  · exact ⟨b2, off2, cur2, el2, q1, by rw [e5 b2 hb2]; exact q2, q3⟩
theorem ovl_put {G G' : Mem} {a : Option Addr} {n i : Nat} (h : OvL G a n) (hi : i < n) {v : Value} (hp : PutG G a (i * 2 + 0) [v] G') : OvL G' a n := by
  intro h0
  obtain ⟨b, off, cur, el, h1, h2, h3, h4⟩ := h h0
  obtain ⟨b', off', cur', el', p1, p2, p3, rfl⟩ := hp
  rw [h1] at p1; cases p1
  rw [h2] at p2; cases p2
  refine ⟨b, off, _, el, h1, if_pos rfl, ?_, fun j hj => ?_⟩
  · simp only [List.size_toArray, List.length_append, List.length_take, List.length_drop, Array.length_toList, List.length_singleton]
    omega
  obtain ⟨a', n', c', k1, k2, k3, k4, k5⟩ := h4 j hj
  refine ⟨a', n', c', ?_, k2, k3, fun hc => ?_, k5⟩
  · rw [← k1]
    simp only [List.getElem?_toArray, List.getElem?_append, List.length_append, List.length_take, List.getElem?_take, List.getElem?_drop, List.length_singleton, Array.length_toList, Array.getElem?_toList]
    by_cases hlt : j < i
    · rw [if_pos (by omega), if_pos (by omega), if_pos (by omega)]
    · rw [if_neg (by omega)]
      congr 1
      omega
  · obtain ⟨b2, off2, cur2, el2, q1, q2, q3⟩ := k4 hc
    exact ⟨b2, off2, cur2, el2, q1, by simp only; rw [if_neg (k5 _ _ _ hc q1)]; exact q2, q3⟩
theorem ct38 (a : Option Addr) (n c : Nat) (I G : Mem) (hn : n ≤ c) (hc : c ≤ maxLen) (h : OvL G a n) :
    CtH Try.prog (fnv 38) #[.slice a n c] I G (fun v I' G' => v = .tuple #[]) := by
  refine viaR (ctG_via (A := { calls := [(12, .g), (13, .g), (17, .st)], loops := [(1, ⟨[(0, .keep), (4, .keep), (5, .sh (.int .i64))], [], [], fun vals _ _ G' => match vals with | [.int .i64 j] => 0 ≤ j ∧ OvL G' a n | _ => False, fun vals _ => match vals with | [.int .i64 j] => (n - j).toNat | _ => 0⟩)] }) Try.func38 rfl Try.call38 rfl rfl) ((SV.v (Value.slice a n c) = SV.v (Value.slice a n c) ∧ SV.v (Value.int IntKind.i64 (↑n : Int)) = SV.v (Value.int IntKind.i64 (↑n : Int)) ∧ (0 : Int) ≤ (0 : Int) ∧ OvL G a n) ∧ ∀ (I' G' : Mem), Mem.le I I' → ∀ (n_1 : Int), (0 : Int) ≤ n_1 ∧ OvL G' a n → Br (decide (n_1 < (↑n : Int))) ((0 : Int) ≤ n_1 ∧ n_1 < (↑n : Int) ∧ Option.isSome a = true ∧ Option.isSome a = true ∧ ∃ (a_3 : Option Addr), ∃ (n_2 : Nat), ∃ (c_1 : Nat), atI G' a (Int.toNat n_1 * (2 : Nat) + (1 : Nat) + (0 : Nat)) = some (Value.slice a_3 n_2 c_1) ∧ CtH Try.prog (Value.func (Fn.func (46 : Nat)) #[] #[]) #[Value.slice a_3 n_2 c_1] I' G' fun (v : Value) (I' G' : Mem) => v = Value.tuple #[] ∧ (0 : Int) ≤ n_1 ∧ n_1 < (↑n : Int) ∧ Option.isSome a = true ∧ Option.isSome a = true ∧ ∃ (G'_1 : Mem), PutG G' a (Int.toNat n_1 * (2 : Nat) + (0 : Nat)) [Value.int IntKind.i64 (-7 : Int)] G'_1 ∧ Wr IntKind.i64 (n_1 + (1 : Int)) fun (c_2 : Int) => SV.v (Value.slice a n c) = SV.v (Value.slice a n c) ∧ SV.v (Value.int IntKind.i64 (↑n : Int)) = SV.v (Value.int IntKind.i64 (↑n : Int)) ∧ ((0 : Int) ≤ c_2 ∧ OvL G'_1 a n) ∧ Int.toNat ((↑n : Int) - c_2) < Int.toNat ((↑n : Int) - n_1)) (Value.tuple #[] = Value.tuple #[])) (by kernel_rfl) ?_
  refine ⟨⟨rfl, rfl, by omega, h⟩, fun I1 G1 l1 j ⟨j0, j1⟩ => Br.mk (fun hlt => ?_) (fun hge => rfl)⟩
  have hlt := of_decide_eq_true hlt
  have hjn : j.toNat < n := by omega
  have hmx : maxLen = 9223372036854775807 := by decide
  obtain ⟨b, off, cur, el, h1, h2, h3, h4⟩ := j1 (by omega)
  obtain ⟨a', n', c', k1, k2, k3, k4, k5⟩ := h4 _ hjn
  have hsm : a.isSome = true := by rw [h1]; rfl
  refine ⟨j0, hlt, hsm, hsm, a', n', c', ?_, (ct46 a' n' c' I1 G1 k2 k3 k4).mono fun v I2 G2 l2 ⟨hv, ho⟩ => ⟨hv, j0, hlt, hsm, hsm, ?_⟩⟩
  · rw [h1]
    simp only [atI, Option.bind_some, Addr.add_lit, cellM, h2, Option.isSome_none, Bool.false_eq_true, if_false]
    exact k1
  have o2 : OvL G2 a n := ovl_over j1 ho fun b3 off3 sp3 b1 off1 sp1 hc ha ha1 => by
    rw [h1] at ha; cases ha
    exact k5 _ _ _ hc ha1
  obtain ⟨b3, off3, cur3, el3, q1, q2, q3, q4⟩ := o2 (by omega)
  have hp : PutG G2 a (j.toNat * 2 + 0) [Value.int IntKind.i64 (-7)] _ := ⟨b3, off3, cur3, el3, q1, q2, by simp only [List.length_singleton]; omega, rfl⟩
  exact ⟨_, hp, wr_i64 (by omega) (by omega) ⟨rfl, rfl, ⟨by omega, ovl_put o2 hjn hp⟩, by omega⟩⟩
open Go Go.Proofs Go.SE Go.RowKit
set_option linter.unusedVariables false
def marksB (k : Int) (n : Nat) : List Int := (List.range n).map fun (i : Nat) => markB k (i : Int)
theorem marksB_succ (k : Int) (n : Nat) : marksB k (n + 1) = marksB k n ++ [markB k n] := by simp [marksB, List.range_succ]
theorem marksB_len (k : Int) (n : Nat) : (marksB k n).length = n := by simp [marksB]
theorem marksB_at {k : Int} {n i : Nat} (h : i < n) : (marksB k n)[i]? = some (markB k i) := by simp [marksB, h]
theorem ct35 (xs : List Int) (a : Option Addr) (n c : Nat) (I : Mem) (h : SlM I a n 1 (ints .u8 xs)) (hn : n ≤ 1000000) :
    Ct Try.prog (fnv 35) #[.slice a n c] I (fun v I' => ∃ a' cp, v = .slice a' n cp ∧ n + 12 ≤ cp ∧ cp ≤ maxLen ∧ SlM I' a' (n + 12) 1 (ints .u8 (xs ++ marksB 1 12))) := by
  refine viaR (ct_via (A := { loops := [(4, ⟨[(0, .keep), (3, .row 0), (4, .sh (.int .i64))], [(0, .row)], [(3, 1, 5)], fun vals xss _ _ => match vals, xss with | [.int .i64 j], [ys] => 0 ≤ j ∧ j ≤ 12 ∧ ys = ints .u8 (xs ++ marksB 1 j.toNat) | _, _ => False, fun vals _ => match vals with | [.int .i64 j] => (12 - j).toNat | _ => 0⟩)] }) Try.func35 rfl Try.call35 rfl rfl) (Wr IntKind.i64 ((↑n : Int) + (12 : Int)) fun (c_1 : Int) => (0 : Int) ≤ (0 : Int) ∧ (0 : Int) ≤ c_1 ∧ c_1 ≤ (281474976710656 : Int) ∧ (1 : Int) * c_1 ≤ (281474976710656 : Int) ∧ ∃ (ys : List Value), List.length ys = n * (1 : Nat) ∧ (a = none → n = (0 : Nat)) ∧ (∀ (j : Nat) (v : Value), ys[j]? = some v → atI I a j = some v) ∧ (∀ (v : Value), v ∈ ys → Value.oneCell' v = true) ∧ (0 : Nat) = (0 : Nat) ∧ (0 : Nat) + n ≤ (9223372036854775807 : Nat) ∧ ((0 : Nat) + n) * (1 : Nat) ≤ (140737488355328 : Nat) ∧ (SV.v (Value.slice a n c) = SV.v (Value.slice a n c) ∧ (0 : Nat) + n = List.length ys ∧ (0 : Int) ≤ (0 : Int) ∧ (0 : Int) ≤ (12 : Int) ∧ ys = List.map (Value.int IntKind.u8) (xs ++ [])) ∧ ∀ (I' G' : Mem), Mem.le I I' → ∀ (xs_1 : List Value) (n_1 : Int), (0 : Int) ≤ n_1 ∧ n_1 ≤ (12 : Int) ∧ xs_1 = List.map (Value.int IntKind.u8) (xs ++ marksB (1 : Int) (Int.toNat n_1)) → Br (decide (n_1 < (12 : Int))) (Ct Try.prog (Value.func (Fn.func (53 : Nat)) #[] #[]) #[Value.int IntKind.i64 (1 : Int), Value.int IntKind.i64 n_1] I' fun (v : Value) (I' : Mem) => ∃ (n_2 : Int), v = Value.int IntKind.u8 n_2 ∧ List.length xs_1 = List.length xs_1 * (1 : Nat) ∧ List.length xs_1 + (1 : Nat) ≤ (9223372036854775807 : Nat) ∧ (List.length xs_1 + (1 : Nat)) * (1 : Nat) ≤ (140737488355328 : Nat) ∧ Wr IntKind.i64 (n_1 + (1 : Int)) fun (c_2 : Int) => SV.v (Value.slice a n c) = SV.v (Value.slice a n c) ∧ List.length xs_1 + (1 : Nat) = List.length (xs_1 ++ [Value.int IntKind.u8 n_2]) ∧ ((0 : Int) ≤ c_2 ∧ c_2 ≤ (12 : Int) ∧ xs_1 ++ [Value.int IntKind.u8 n_2] = List.map (Value.int IntKind.u8) (xs ++ marksB (1 : Int) (Int.toNat c_2))) ∧ Int.toNat ((12 : Int) - c_2) < Int.toNat ((12 : Int) - n_1)) ((0 : Int) ≤ (↑n : Int) ∧ (↑n : Int) ≤ (↑(List.length xs_1) : Int) ∧ List.length xs_1 * (1 : Nat) ≤ List.length xs_1 ∧ ∀ (a : Option Addr) (cp : Nat) (I'_1 : Mem), Mem.le I' I'_1 → RowM I'_1 a cp (1 : Nat) xs_1 → ∃ (a' : Option Addr), ∃ (cp_1 : Nat), Value.slice a n cp = Value.slice a' n cp_1 ∧ n + (12 : Nat) ≤ cp_1 ∧ cp_1 ≤ (9223372036854775807 : Nat) ∧ SlM I'_1 a' (n + (12 : Nat)) (1 : Nat) (List.map (Value.int IntKind.u8) (xs ++ [(190 : Int), (92 : Int), (250 : Int), (152 : Int), (55 : Int), (213 : Int), (115 : Int), (17 : Int), (175 : Int), (78 : Int), (236 : Int), (138 : Int)])))) (by kernel_rfl) ?_
  have hnl := h.numLen
  refine wr_i64 (by omega) (by omega) ⟨by omega, by omega, by omega, by omega, ints .u8 xs, h.len, h.nil, h.at_, one_ints, rfl, by omega, by omega, ⟨rfl, by rw [ints_len]; omega, by omega, by omega, by simp [ints]⟩, fun I1 _ l1 zs j ⟨j0, j1, hz⟩ => ?_⟩
  have hzl : zs.length = n + j.toNat := by rw [hz]; simp [marksB]; omega
  refine Br.mk (fun hlt => ?_) (fun hge => ?_)
  · have hlt := of_decide_eq_true hlt
    refine (ct53 1 j I1 (by omega) ⟨j0, by omega⟩).mono fun v I2 l2 hv => ⟨_, hv, by omega, by omega, by omega, wr_i64 (by omega) (by omega) ⟨rfl, by simp, ⟨by omega, by omega, ?_⟩, by omega⟩⟩
    rw [hz, show (j + 1).toNat = j.toNat + 1 by omega, marksB_succ, ← List.append_assoc, show ((j.toNat : Nat) : Int) = j by omega]
    simp
  · have hge := of_decide_eq_false hge
    have hj : j.toNat = 12 := by omega
    have hm : marksB 1 12 = [190, 92, 250, 152, 55, 213, 115, 17, 175, 78, 236, 138] := by decide
    rw [hj, hm] at hz
    rw [hj] at hzl
    refine ⟨by omega, by omega, by omega, fun a' cp I2 l2 hrow => ⟨a', cp, rfl, ?_, hrow.2.1, ?_⟩⟩
    · have := hrow.1; omega
    · rw [← hz]; exact hrow.sl (by omega) (by omega)
theorem ct39 (xs ys : List Int) (a : Option Addr) (n c : Nat) (b : Option Addr) (m d : Nat) (I : Mem) (h : SlM I a (n + 12) 1 (ints .u8 (xs ++ marksB 1 12))) (hx : xs = ys) (hnm : n = m) (hc : n + 12 ≤ c) (h' : SlM I b m 1 (ints .u8 ys)) (hn : n ≤ 1000000) :
    Ct Try.prog (fnv 39) #[.slice a n c, .slice b m d] I (fun v I' => v = .bool true) := by
  refine viaR (ct_via (A := { loops := [(5, ⟨[(1, .keep), (5, .keep), (6, .sh (.int .i64))], [], [], fun vals _ _ _ => match vals with | [.int .i64 j] => 0 ≤ j | _ => False, fun vals _ => match vals with | [.int .i64 j] => (n + 12 - j).toNat | _ => 0⟩)] }) Try.func39 rfl Try.call39 rfl rfl) (Br ((↑n : Int) != (↑m : Int)) (Value.bool false = Value.bool true) (Wr IntKind.i64 ((↑m : Int) + (12 : Int)) fun (c_1 : Int) => (0 : Int) ≤ c_1 ∧ c_1 ≤ (↑c : Int) ∧ (SV.v (Value.slice b m d) = SV.v (Value.slice b m d) ∧ SV.v (Value.slice a (Int.toNat c_1) c) = SV.v (Value.slice a (Int.toNat c_1) c) ∧ (0 : Int) ≤ (0 : Int)) ∧ ∀ (I' G' : Mem), Mem.le I I' → ∀ (n_1 : Int), (0 : Int) ≤ n_1 → Br (decide (n_1 < (↑(Int.toNat c_1) : Int))) (Br (decide (n_1 < (↑m : Int))) ((0 : Int) ≤ n_1 ∧ n_1 < (↑(Int.toNat c_1) : Int) ∧ Option.isSome a = true ∧ ∃ (n_2 : Int), atI I' a (Int.toNat n_1 * (1 : Nat) + (0 : Nat)) = some (Value.int IntKind.u8 n_2) ∧ (0 : Int) ≤ n_1 ∧ n_1 < (↑m : Int) ∧ Option.isSome b = true ∧ ∃ (n_3 : Int), atI I' b (Int.toNat n_1 * (1 : Nat) + (0 : Nat)) = some (Value.int IntKind.u8 n_3) ∧ Br (!n_2 == n_3) (Value.bool false = Value.bool true) (Br (decide ((↑m : Int) ≤ n_1)) ((0 : Int) ≤ n_1 ∧ n_1 < (↑(Int.toNat c_1) : Int) ∧ Option.isSome a = true ∧ ∃ (n_4 : Int), atI I' a (Int.toNat n_1 * (1 : Nat) + (0 : Nat)) = some (Value.int IntKind.u8 n_4) ∧ Wr IntKind.i64 (n_1 - (↑m : Int)) fun (c_2 : Int) => Ct Try.prog (Value.func (Fn.func (53 : Nat)) #[] #[]) #[Value.int IntKind.i64 (1 : Int), Value.int IntKind.i64 c_2] I' fun (v : Value) (I' : Mem) => ∃ (n_5 : Int), v = Value.int IntKind.u8 n_5 ∧ Br (!n_4 == n_5) (Value.bool false = Value.bool true) (Wr IntKind.i64 (n_1 + (1 : Int)) fun (c_3 : Int) => SV.v (Value.slice b m d) = SV.v (Value.slice b m d) ∧ SV.v (Value.slice a (Int.toNat c_1) c) = SV.v (Value.slice a (Int.toNat c_1) c) ∧ (0 : Int) ≤ c_3 ∧ Int.toNat ((↑n : Int) + (12 : Int) - c_3) < Int.toNat ((↑n : Int) + (12 : Int) - n_1))) (Wr IntKind.i64 (n_1 + (1 : Int)) fun (c_2 : Int) => SV.v (Value.slice b m d) = SV.v (Value.slice b m d) ∧ SV.v (Value.slice a (Int.toNat c_1) c) = SV.v (Value.slice a (Int.toNat c_1) c) ∧ (0 : Int) ≤ c_2 ∧ Int.toNat ((↑n : Int) + (12 : Int) - c_2) < Int.toNat ((↑n : Int) + (12 : Int) - n_1)))) (Br (decide ((↑m : Int) ≤ n_1)) ((0 : Int) ≤ n_1 ∧ n_1 < (↑(Int.toNat c_1) : Int) ∧ Option.isSome a = true ∧ ∃ (n_2 : Int), atI I' a (Int.toNat n_1 * (1 : Nat) + (0 : Nat)) = some (Value.int IntKind.u8 n_2) ∧ Wr IntKind.i64 (n_1 - (↑m : Int)) fun (c_2 : Int) => Ct Try.prog (Value.func (Fn.func (53 : Nat)) #[] #[]) #[Value.int IntKind.i64 (1 : Int), Value.int IntKind.i64 c_2] I' fun (v : Value) (I' : Mem) => ∃ (n_3 : Int), v = Value.int IntKind.u8 n_3 ∧ Br (!n_2 == n_3) (Value.bool false = Value.bool true) (Wr IntKind.i64 (n_1 + (1 : Int)) fun (c_3 : Int) => SV.v (Value.slice b m d) = SV.v (Value.slice b m d) ∧ SV.v (Value.slice a (Int.toNat c_1) c) = SV.v (Value.slice a (Int.toNat c_1) c) ∧ (0 : Int) ≤ c_3 ∧ Int.toNat ((↑n : Int) + (12 : Int) - c_3) < Int.toNat ((↑n : Int) + (12 : Int) - n_1))) (Wr IntKind.i64 (n_1 + (1 : Int)) fun (c_2 : Int) => SV.v (Value.slice b m d) = SV.v (Value.slice b m d) ∧ SV.v (Value.slice a (Int.toNat c_1) c) = SV.v (Value.slice a (Int.toNat c_1) c) ∧ (0 : Int) ≤ c_2 ∧ Int.toNat ((↑n : Int) + (12 : Int) - c_2) < Int.toNat ((↑n : Int) + (12 : Int) - n_1)))) (Value.bool true = Value.bool true))) (by kernel_rfl) ?_
  subst hx
  subst hnm
  have hnl := h'.numLen
  refine Br.f (by simp) (wr_i64 (by omega) (by omega) ⟨by omega, by omega, ⟨rfl, rfl, by omega⟩, fun I1 _ l1 j j0 => Br.mk (fun hlt => ?_) (fun hge => rfl)⟩)
  have hlt := of_decide_eq_true hlt
  have ha0 : a.isSome = true := h.isSome (by omega)
  have ha : ∀ x, (xs ++ marksB 1 12)[j.toNat]? = some x → atI I1 a (j.toNat * 1 + 0) = some (Value.int .u8 x) := fun x hx => by
    rw [Nat.mul_one, Nat.add_zero]
    exact (h.mono l1).at_ _ _ (ints_get hx)
  refine Br.mk (fun h1 => ?_) (fun h1 => ?_)
  · have h1 := of_decide_eq_true h1
    have hg : xs[j.toNat]? = some xs[j.toNat] := List.getElem?_eq_getElem (by omega)
    have hg2 := ha _ (by rw [List.getElem?_append_left (by omega)]; exact hg)
    refine ⟨j0, hlt, ha0, _, hg2, j0, h1, h'.isSome (by omega), xs[j.toNat], ?_, Br.f (by simp) (Br.f (by simpa using h1) (wr_i64 (by omega) (by omega) ⟨rfl, rfl, by omega, by omega⟩))⟩
    rw [Nat.mul_one, Nat.add_zero]
    exact (h'.mono l1).at_ _ _ (ints_get hg)
  · have h1 := of_decide_eq_false h1
    have hk : j.toNat - n < 12 := by omega
    have hg2 := ha _ (by rw [List.getElem?_append_right (by omega), ← hnl]; exact marksB_at hk)
    refine Br.t (by simp; omega) ⟨j0, hlt, ha0, _, hg2, wr_i64 (by omega) (by omega) ((ct53 1 (j - n) I1 (by omega) ⟨by omega, by omega⟩).mono fun v I2 l2 hv => ⟨_, hv, Br.f ?_ (wr_i64 (by omega) (by omega) ⟨rfl, rfl, by omega, by omega⟩)⟩)⟩
    rw [show ((j.toNat - n : Nat) : Int) = j - n by omega]
    simp
open Go Go.Proofs Go.SE Go.RowKit
set_option linter.unusedVariables false
/-- A slice of a block that is filled is a row. -/
theorem CtS.rowed {P : Program} {fv : SV} {args : List SV} {H : List Ent} {I : Mem} {el : TypeId} {Q : List Value → Prop} (h : CtS P fv args H I (fun sv H' _ => ∃ zs, zs.length ≤ maxLen ∧ Q zs ∧
      ((sv = .xsl 0 0 zs.length zs.length ∧ H' = [⟨.cells (zs.map .v) el, none⟩]) ∨ (sv = .rsl 0 zs.length ∧ H' = [⟨.row zs 1 el, none⟩])))) :
    CtS P fv args H I (fun sv H' _ => ∃ zs, Q zs ∧ sv = .rsl 0 zs.length ∧ H' = [⟨.row zs 1 el, none⟩]) := fun e hp hO => by
  refine (h e hp hO).mono ?_
  rintro v I' hp' hle ⟨e', sv, H', h1, h2, zs, hm, hq, ⟨rfl, rfl⟩ | ⟨rfl, rfl⟩⟩
  · obtain ⟨g1, cur, g2, g3, g4⟩ := h2.hold 0 _ rfl rfl
    refine ⟨{ e' with cap := fun _ => zs.length }, .rsl 0 zs.length, [⟨.row zs 1 el, none⟩], ?_, ⟨fun id x hx hal => ?_, fun i j x y hx hy _ _ _ _ hij => ?_, fun b hb => ?_, fun id x b hx hb => ?_⟩, zs, hq, rfl, rfl⟩
    · rw [h1]; simp [den, g1]
    · cases id with
      | zero =>
        simp only [List.getElem?_cons_zero, Option.some.injEq] at hx
        subst hx
        refine ⟨by omega, ⟨zs.length, by omega⟩, .inr ⟨g1, cur, g2, by simpa using g3, hm, by simp at g3; omega, ?_⟩⟩
        apply List.ext_getElem?
        intro k
        rw [List.getElem?_take]
        split
        · rename_i hk
          have := g4 k (.v zs[k]) (by simp [hk]) rfl
          simp only [den] at this
          rw [Array.getElem?_toList, this, List.getElem?_eq_getElem hk]
        · rw [List.getElem?_eq_none (by omega)]
      | succ id => simp at hx
    · have hi := (List.getElem?_eq_some_iff.1 hx).1
      have hj := (List.getElem?_eq_some_iff.1 hy).1
      simp at hi hj
      omega
    · obtain ⟨id, x, hx, hal, hn, hbe⟩ := h2.dom b hb
      have hi := (List.getElem?_eq_some_iff.1 hx).1
      simp at hi
      subst hi
      exact ⟨0, _, rfl, rfl, hn, hbe⟩
    · have hi := (List.getElem?_eq_some_iff.1 hx).1
      simp at hi
      subst hi
      simp at hx
      subst hx
      cases hb
  · exact ⟨e', _, _, h1, h2, zs, hq, rfl, rfl⟩
theorem pow8 : ∀ l : Nat, l < 8 → (256 : Int) ^ (l + 1) ≤ 18446744073709551616 := by decide
theorem cs59 : ∀ (k : Nat) (x : Int), 0 ≤ x → x < 256 ^ (k + 1) → (k = 0 ∨ 256 ^ k ≤ x) → k ≤ 7 → ∀ (I : Mem),
    CtS Try.prog (.v (fnv 59)) [.v (.int .u64 x)] [] I (fun sv H' _ => ∃ zs, zs = ints .u8 (be (k + 1) x.toNat) ∧ sv = .rsl 0 zs.length ∧ H' = [⟨.row zs 1 5, none⟩]) := by
  intro k
  induction k with
  | zero =>
    intro x h0 h1 h2 hk I
    refine CtS.rowed ?_
    refine viaR (ctS_via (A := { calls := [(10, .lend [] (.row 0) [.row 1 5])] }) Try.func59 rfl Try.call59 [0] rfl) (Br (decide (x < (256 : Int))) (Wr IntKind.u8 x fun (c : Int) => ∃ (zs : List Value), List.length zs ≤ (9223372036854775807 : Nat) ∧ zs = [Value.int IntKind.u8 (↑(Int.toNat x % (256 : Nat)) : Int)] ∧ (SV.xsl (0 : Nat) (0 : Nat) (1 : Nat) (1 : Nat) = SV.xsl (0 : Nat) (0 : Nat) (List.length zs) (List.length zs) ∧ [Ent.mk (EO.cells [SV.v (Value.int IntKind.u8 c)] (5 : Nat)) none] = [Ent.mk (EO.cells (List.map SV.v zs) (5 : Nat)) none] ∨ SV.xsl (0 : Nat) (0 : Nat) (1 : Nat) (1 : Nat) = SV.rsl (0 : Nat) (List.length zs) ∧ [Ent.mk (EO.cells [SV.v (Value.int IntKind.u8 c)] (5 : Nat)) none] = [Ent.mk (EO.row zs (1 : Nat) (5 : Nat)) none])) ((256 : Int) ≠ (0 : Int) ∧ Wr IntKind.u64 (Int.tdiv x (256 : Int)) fun (c : Int) => CtS Try.prog (SV.v (Value.func (Fn.func (59 : Nat)) #[] #[])) [SV.v (Value.int IntKind.u64 c)] [] I fun (sv : SV) (H' : List Ent) (I' : Mem) => ∃ (n : Nat), ∃ (xs : List Value), sv = SV.rsl (0 : Nat) n ∧ H' = [Ent.mk (EO.row xs (1 : Nat) (5 : Nat)) none] ∧ (256 : Int) ≠ (0 : Int) ∧ Wr IntKind.u8 (Int.tmod x (256 : Int)) fun (c : Int) => List.length xs = n * (1 : Nat) ∧ n + (1 : Nat) ≤ (9223372036854775807 : Nat) ∧ (n + (1 : Nat)) * (1 : Nat) ≤ (140737488355328 : Nat) ∧ ∃ (zs : List Value), List.length zs ≤ (9223372036854775807 : Nat) ∧ zs = [Value.int IntKind.u8 (↑(Int.toNat x % (256 : Nat)) : Int)] ∧ (SV.rsl (0 : Nat) (n + (1 : Nat)) = SV.xsl (0 : Nat) (0 : Nat) (List.length zs) (List.length zs) ∧ [Ent.mk (EO.row (xs ++ [Value.int IntKind.u8 c]) (1 : Nat) (5 : Nat)) none] = [Ent.mk (EO.cells (List.map SV.v zs) (5 : Nat)) none] ∨ SV.rsl (0 : Nat) (n + (1 : Nat)) = SV.rsl (0 : Nat) (List.length zs) ∧ [Ent.mk (EO.row (xs ++ [Value.int IntKind.u8 c]) (1 : Nat) (5 : Nat)) none] = [Ent.mk (EO.row zs (1 : Nat) (5 : Nat)) none]))) (by kernel_rfl) ?_
    have h1 : x < 256 := by simpa using h1
    refine Br.t (by simpa using h1) ⟨_, IntWalk.u8_in x ⟨h0, by omega⟩, [.int .u8 x], by simp, ?_, .inl ⟨rfl, rfl⟩⟩
    rw [show ((x.toNat % 256 : Nat) : Int) = x by omega]
  | succ k ih =>
    intro x h0 h1 h2 hk I
    refine CtS.rowed ?_
    refine viaR (ctS_via (A := { calls := [(10, .lend [] (.row 0) [.row 1 5])] }) Try.func59 rfl Try.call59 [0] rfl) (Br (decide (x < (256 : Int))) (Wr IntKind.u8 x fun (c : Int) => ∃ (zs : List Value), List.length zs ≤ (9223372036854775807 : Nat) ∧ zs = List.map (Value.int IntKind.u8) (be (k + (1 : Nat) + (1 : Nat)) (Int.toNat x)) ∧ (SV.xsl (0 : Nat) (0 : Nat) (1 : Nat) (1 : Nat) = SV.xsl (0 : Nat) (0 : Nat) (List.length zs) (List.length zs) ∧ [Ent.mk (EO.cells [SV.v (Value.int IntKind.u8 c)] (5 : Nat)) none] = [Ent.mk (EO.cells (List.map SV.v zs) (5 : Nat)) none] ∨ SV.xsl (0 : Nat) (0 : Nat) (1 : Nat) (1 : Nat) = SV.rsl (0 : Nat) (List.length zs) ∧ [Ent.mk (EO.cells [SV.v (Value.int IntKind.u8 c)] (5 : Nat)) none] = [Ent.mk (EO.row zs (1 : Nat) (5 : Nat)) none])) ((256 : Int) ≠ (0 : Int) ∧ Wr IntKind.u64 (Int.tdiv x (256 : Int)) fun (c : Int) => CtS Try.prog (SV.v (Value.func (Fn.func (59 : Nat)) #[] #[])) [SV.v (Value.int IntKind.u64 c)] [] I fun (sv : SV) (H' : List Ent) (I' : Mem) => ∃ (n : Nat), ∃ (xs : List Value), sv = SV.rsl (0 : Nat) n ∧ H' = [Ent.mk (EO.row xs (1 : Nat) (5 : Nat)) none] ∧ (256 : Int) ≠ (0 : Int) ∧ Wr IntKind.u8 (Int.tmod x (256 : Int)) fun (c : Int) => List.length xs = n * (1 : Nat) ∧ n + (1 : Nat) ≤ (9223372036854775807 : Nat) ∧ (n + (1 : Nat)) * (1 : Nat) ≤ (140737488355328 : Nat) ∧ ∃ (zs : List Value), List.length zs ≤ (9223372036854775807 : Nat) ∧ zs = List.map (Value.int IntKind.u8) (be (k + (1 : Nat) + (1 : Nat)) (Int.toNat x)) ∧ (SV.rsl (0 : Nat) (n + (1 : Nat)) = SV.xsl (0 : Nat) (0 : Nat) (List.length zs) (List.length zs) ∧ [Ent.mk (EO.row (xs ++ [Value.int IntKind.u8 c]) (1 : Nat) (5 : Nat)) none] = [Ent.mk (EO.cells (List.map SV.v zs) (5 : Nat)) none] ∨ SV.rsl (0 : Nat) (n + (1 : Nat)) = SV.rsl (0 : Nat) (List.length zs) ∧ [Ent.mk (EO.row (xs ++ [Value.int IntKind.u8 c]) (1 : Nat) (5 : Nat)) none] = [Ent.mk (EO.row zs (1 : Nat) (5 : Nat)) none]))) (by kernel_rfl) ?_
    have hge : 256 ^ (k + 1) ≤ x := by rcases h2 with h2 | h2
                                       · omega
                                       · exact h2
    have hp : (1 : Int) ≤ 256 ^ k := Int.pow_pos (by omega)
    have hx : 256 ≤ x := by rw [Int.pow_succ] at hge; omega
    have hx8 : x < 18446744073709551616 := Int.lt_of_lt_of_le h1 (pow8 (k + 1) (by omega))
    have hd : x.tdiv 256 = x / 256 := Int.tdiv_eq_ediv_of_nonneg h0
    have hm : x.tmod 256 = x % 256 := Int.tmod_eq_emod_of_nonneg h0
    rw [hd, hm]
    refine Br.f (by simpa using hx) ⟨by omega, _, IntWalk.u64_in _ ⟨by omega, by omega⟩, (ih (x / 256) (by omega) (by rw [Int.pow_succ] at h1; omega) (.inr (by rw [Int.pow_succ] at hge; omega)) (by omega) I).mono ?_⟩
    rintro sv H' I' _ ⟨zs, rfl, rfl, rfl⟩
    refine ⟨_, _, rfl, rfl, by omega, _, IntWalk.u8_in _ ⟨by omega, by omega⟩, by omega, by rw [ints_len, be_len]; omega, by rw [ints_len, be_len]; omega, _, ?_, rfl, .inr ⟨?_, ?_⟩⟩
    · simp [be_len]; have : maxLen = 9223372036854775807 := by decide
      omega
    · simp [be_len, ints]
    · have e : x.toNat / 256 = (x / 256).toNat := by omega
      have e2 : ((x.toNat % 256 : Nat) : Int) = x % 256 := by omega
      rw [show be (k + 1 + 1) x.toNat = be (k + 1) (x.toNat / 256) ++ [((x.toNat % 256 : Nat) : Int)] from rfl, e, e2]
      simp [ints]
theorem ct50 (x : Int) (h : 0 ≤ x ∧ x ≤ 18446744073709551615) (I : Mem) : Ct Try.prog (fnv 50) #[.int .u64 x] I (fun v I' => BySl I' v (formN x.toNat)) := by
  refine viaR (ct_via (A := { calls := [(10, .lend [] (.row 0) [.row 1 5])] }) Try.func50 rfl Try.call50 rfl rfl) (Br (decide (x < (247 : Int))) (Wr IntKind.u8 x fun (c : Int) => ∀ (b : Nat) (I' : Mem), Mem.le I I' → I' b = some (Obj.cells #[Value.int IntKind.u8 c] (5 : Nat)) → ∃ (b_1 : Option Addr), ∃ (m : Nat), ∃ (c : Nat), Value.slice (some (Addr.mk b (0 : Nat) none)) (1 : Nat) (1 : Nat) = Value.slice b_1 m c ∧ SlM I' b_1 m (1 : Nat) (List.map (Value.int IntKind.u8) (formN (Int.toNat x))) ∧ m ≤ c ∧ c ≤ (9223372036854775807 : Nat)) (CtS Try.prog (SV.v (Value.func (Fn.func (59 : Nat)) #[] #[])) [SV.v (Value.int IntKind.u64 x)] [] I fun (sv : SV) (H' : List Ent) (I' : Mem) => ∃ (n : Nat), ∃ (xs : List Value), sv = SV.rsl (0 : Nat) n ∧ H' = [Ent.mk (EO.row xs (1 : Nat) (5 : Nat)) none] ∧ Wr IntKind.i64 ((246 : Int) + (↑n : Int)) fun (c : Int) => Wr IntKind.u8 c fun (c : Int) => n * (1 : Nat) ≤ List.length xs ∧ (∀ (v : Value), v ∈ List.take (n * (1 : Nat)) xs → Value.oneCell' v = true) ∧ (1 : Nat) = (1 : Nat) ∧ (1 : Nat) + n ≤ (9223372036854775807 : Nat) ∧ ((1 : Nat) + n) * (1 : Nat) ≤ (140737488355328 : Nat) ∧ ∀ (a : Option Addr) (cp : Nat) (I'_1 : Mem), Mem.le I' I'_1 → RowM I'_1 a cp (1 : Nat) (Value.int IntKind.u8 c :: List.append ([] : List Value) (List.take (n * 1) xs)) → ∃ (b : Option Addr), ∃ (m : Nat), ∃ (c : Nat), Value.slice a ((1 : Nat) + n) cp = Value.slice b m c ∧ SlM I'_1 b m (1 : Nat) (List.map (Value.int IntKind.u8) (formN (Int.toNat x))) ∧ m ≤ c ∧ c ≤ (9223372036854775807 : Nat))) (by kernel_rfl) ?_
  refine Br.mk (fun h1 => ?_) (fun h1 => ?_)
  · have h1 := of_decide_eq_true h1
    have hf : formN x.toNat = [x] := by rw [formN, if_pos (by omega)]; congr 1; omega
    refine ⟨_, IntWalk.u8_in x ⟨h.1, by omega⟩, fun b I1 l1 hb => ⟨_, _, _, rfl, ?_, by omega, by decide⟩⟩
    rw [hf]
    exact sl_cells (n := 1) (sz := 1) hb rfl (by decide)
  · have h1 := of_decide_eq_false h1
    have hd8 : digN x.toNat ≤ 8 := digN_le (k := 8) (by omega)
    have hbd := digN_bd (x := x.toNat) (by omega)
    obtain ⟨k, hk⟩ : ∃ k, digN x.toNat = k + 1 := ⟨digN x.toNat - 1, by rw [digN_pos (by omega)]; omega⟩
    have hf : formN x.toNat = ((246 + (k + 1) : Nat) : Int) :: be (k + 1) x.toNat := by rw [formN, if_neg (by omega), hk]
    rw [hk] at hbd
    have c1 : ((256 ^ (k + 1) : Nat) : Int) = (256 : Int) ^ (k + 1) := by simp
    have c2 : ((256 ^ k : Nat) : Int) = (256 : Int) ^ k := by simp
    refine (cs59 k x h.1 (by omega) (.inr (by simp only [Nat.add_sub_cancel] at hbd; omega)) (by omega) I).mono ?_
    rintro sv H' I' _ ⟨zs, rfl, rfl, rfl⟩
    refine ⟨_, _, rfl, rfl, ?_⟩
    have hl : (ints IntKind.u8 (be (k + 1) x.toNat)).length = k + 1 := by rw [ints_len, be_len]
    rw [hl, Nat.mul_one, List.take_of_length_le (by omega)]
    refine wr_i64 (by omega) (by omega) ⟨_, IntWalk.u8_in _ ⟨by omega, by omega⟩, by omega, fun v hv => one_ints v hv, rfl, by omega, by omega, fun a' cp I2 l2 hrow => ?_⟩
    rw [hf]
    exact row_bysl (xs := ((246 + (k + 1) : Nat) : Int) :: be (k + 1) x.toNat) hrow (by simp [be_len]; omega)
theorem ct62 (xs ys : List Int) (a b : Option Addr) (n c m d : Nat) (I : Mem) (h : SlM I a n 1 (ints .u8 xs)) (h' : SlM I b m 1 (ints .u8 ys)) (hn : n ≤ 1000000000) :
    Ct Try.prog (fnv 62) #[.slice a n c, .slice b m d] I (fun v _ => v = .bool (decide (xs = ys))) := by
  refine viaR (ct_via (A := { loops := [(4, ⟨[(0, .keep), (1, .keep), (5, .sh (.int .i64))], [], [], fun vals _ _ _ => match vals with | [.int .i64 j] => 0 ≤ j ∧ j ≤ n ∧ ∀ k : Nat, (k : Int) < j → xs[k]? = ys[k]? | _ => False, fun vals _ => match vals with | [.int .i64 j] => (n - j).toNat | _ => 0⟩)] }) Try.func62 rfl Try.call62 rfl rfl) (Br ((↑n : Int) != (↑m : Int)) (Value.bool false = Value.bool (decide (xs = ys))) ((SV.v (Value.slice a n c) = SV.v (Value.slice a n c) ∧ SV.v (Value.slice b m d) = SV.v (Value.slice b m d) ∧ (0 : Int) ≤ (0 : Int) ∧ (0 : Int) ≤ (↑n : Int) ∧ ∀ (k : Nat), (↑k : Int) < (0 : Int) → xs[k]? = ys[k]?) ∧ ∀ (I' G' : Mem), Mem.le I I' → ∀ (n_1 : Int), ((0 : Int) ≤ n_1 ∧ n_1 ≤ (↑n : Int) ∧ ∀ (k : Nat), (↑k : Int) < n_1 → xs[k]? = ys[k]?) → Br (decide (n_1 < (↑n : Int))) ((0 : Int) ≤ n_1 ∧ n_1 < (↑n : Int) ∧ Option.isSome a = true ∧ ∃ (n_2 : Int), atI I' a (Int.toNat n_1 * (1 : Nat) + (0 : Nat)) = some (Value.int IntKind.u8 n_2) ∧ (0 : Int) ≤ n_1 ∧ n_1 < (↑m : Int) ∧ Option.isSome b = true ∧ ∃ (n_3 : Int), atI I' b (Int.toNat n_1 * (1 : Nat) + (0 : Nat)) = some (Value.int IntKind.u8 n_3) ∧ Br (n_2 != n_3) (Value.bool false = Value.bool (decide (xs = ys))) (Wr IntKind.i64 (n_1 + (1 : Int)) fun (c_1 : Int) => SV.v (Value.slice a n c) = SV.v (Value.slice a n c) ∧ SV.v (Value.slice b m d) = SV.v (Value.slice b m d) ∧ ((0 : Int) ≤ c_1 ∧ c_1 ≤ (↑n : Int) ∧ ∀ (k : Nat), (↑k : Int) < c_1 → xs[k]? = ys[k]?) ∧ Int.toNat ((↑n : Int) - c_1) < Int.toNat ((↑n : Int) - n_1))) (Value.bool true = Value.bool (decide (xs = ys))))) (by kernel_rfl) ?_
  have e1 := h.numLen
  have e2 := h'.numLen
  refine Br.mk (fun hne => ?_) (fun he => ?_)
  · have hne : n ≠ m := by intro e; subst e; simp at hne
    rw [decide_eq_false (fun e => hne (by rw [e1, e2, e]))]
  have he : n = m := by
    have : (n : Int) = m := by simpa using he
    omega
  refine ⟨⟨rfl, rfl, by omega, by omega, fun k hk => by omega⟩, fun I1 _ l1 j ⟨j0, j1, j2⟩ => Br.mk (fun hlt => ?_) (fun hge => ?_)⟩
  · have hlt := of_decide_eq_true hlt
    obtain ⟨x, hx, hxc⟩ := (h.mono l1).intAt (i := j) j0 hlt
    obtain ⟨y, hy, hyc⟩ := (h'.mono l1).intAt (i := j) j0 (by omega)
    refine ⟨j0, hlt, h.isSome (by omega), x, hxc, j0, by omega, h'.isSome (by omega), y, hyc, Br.mk (fun hne => ?_) (fun hxy => ?_)⟩
    · have hne : x ≠ y := by simpa using hne
      rw [decide_eq_false (fun e => hne (by subst e; rw [hx] at hy; exact Option.some.inj hy))]
    · have hxy : x = y := by simpa using hxy
      subst hxy
      refine wr_i64 (by omega) (by omega) ⟨rfl, rfl, ⟨by omega, by omega, fun k hk => ?_⟩, by omega⟩
      by_cases hkj : (k : Int) < j
      · exact j2 k hkj
      · obtain rfl : k = j.toNat := by omega
        rw [hx, hy]
  · have hge := of_decide_eq_false hge
    have : xs = ys := List.ext_getElem? fun k => by
      by_cases hk : k < n
      · exact j2 k (by omega)
      · rw [List.getElem?_eq_none (by omega), List.getElem?_eq_none (by omega)]
    rw [decide_eq_true this]
theorem ref_end {bs : List Int} (hbs : ∀ b ∈ bs, 0 ≤ b ∧ b ≤ 255) {at_ x m : Int} (h0 : 0 ≤ at_) (hx : 0 ≤ x ∧ x ≤ 18446744073709551615) (hm0 : 0 ≤ m) (hm : at_ + m ≤ bs.length) (hacc : readN bs at_ = (0, 0, 11) ∨ readN bs at_ = (x, m, 0)) :
    readN bs at_ = if formN x.toNat = (bs.drop at_.toNat).take m.toNat then (x, m, 0) else (0, 0, 11) := by
  split
  · rename_i he
    have hl : (formN x.toNat).length = m.toNat := by rw [he]; simp; omega
    have hb : bs = bs.take at_.toNat ++ (formN x.toNat ++ bs.drop (at_.toNat + m.toNat)) := by
      rw [he, ← List.drop_drop, List.take_append_drop, List.take_append_drop]
    have h1 := readN_form (bs.take at_.toNat) (bs.drop (at_.toNat + m.toNat)) x.toNat (by omega)
    rw [← hb, List.length_take, show ((min at_.toNat bs.length : Nat) : Int) = at_ by omega, hl] at h1
    rw [h1]
    congr 1
    · omega
    · congr 1; omega
  · rename_i hne
    rcases hacc with h | h
    · exact h
    · exfalso
      obtain ⟨_, _, _, _, g1, g2, g3⟩ := readN_back hbs h
      refine hne ?_
      rw [g2, List.take_left' (by omega)]
theorem ct54 (bs : List Int) (hbs : ∀ b ∈ bs, 0 ≤ b ∧ b ≤ 255) (a : Option Addr) (n c : Nat) (at_ : Int) (hat : -1000000 ≤ at_ ∧ at_ ≤ 1000000000) (I : Mem) (h : SlM I a n 1 (ints .u8 bs)) (hl : n ≤ 1000000000) (hc : n ≤ c) :
    Ct Try.prog (fnv 54) #[.slice a n c, .int .i64 at_] I (fun v _ => v = T3 (readN bs at_)) := by
  refine viaR (ct_via (A := { loops := [(14, ⟨[(0, .keep), (1, .keep), (7, .keep), (8, .sh (.int .u64)), (9, .sh (.int .i64))], [], [], fun vals _ _ _ => match vals with | [.int .u64 v8, .int .i64 i] => 1 ≤ i ∧ i ≤ (bs[at_.toNat]?).getD 0 - 245 ∧ v8 = valN ((digs bs at_ ((bs[at_.toNat]?).getD 0)).take (i.toNat - 1)) | _ => False, fun vals _ => match vals with | [_, .int .i64 i] => (20 - i).toNat | _ => 0⟩)] }) Try.func54 rfl Try.call54 rfl rfl) (Br (decide (at_ < (0 : Int))) (Value.tuple #[Value.int IntKind.u64 (0 : Int), Value.int IntKind.i64 (0 : Int), Value.int IntKind.i64 (2 : Int)] = Value.tuple #[Value.int IntKind.u64 (Prod.fst (readN bs at_)), Value.int IntKind.i64 (Prod.fst (Prod.snd (readN bs at_))), Value.int IntKind.i64 (Prod.snd (Prod.snd (readN bs at_)))]) (Br (decide ((↑n : Int) < at_)) (Value.tuple #[Value.int IntKind.u64 (0 : Int), Value.int IntKind.i64 (0 : Int), Value.int IntKind.i64 (2 : Int)] = Value.tuple #[Value.int IntKind.u64 (Prod.fst (readN bs at_)), Value.int IntKind.i64 (Prod.fst (Prod.snd (readN bs at_))), Value.int IntKind.i64 (Prod.snd (Prod.snd (readN bs at_)))]) (Br (at_ == (↑n : Int)) (Value.tuple #[Value.int IntKind.u64 (0 : Int), Value.int IntKind.i64 (0 : Int), Value.int IntKind.i64 (10 : Int)] = Value.tuple #[Value.int IntKind.u64 (Prod.fst (readN bs at_)), Value.int IntKind.i64 (Prod.fst (Prod.snd (readN bs at_))), Value.int IntKind.i64 (Prod.snd (Prod.snd (readN bs at_)))]) ((0 : Int) ≤ at_ ∧ at_ < (↑n : Int) ∧ Option.isSome a = true ∧ ∃ (n_1 : Int), atI I a (Int.toNat at_ * (1 : Nat) + (0 : Nat)) = some (Value.int IntKind.u8 n_1) ∧ Br (decide ((246 : Int) < n_1)) ((0 : Int) ≤ at_ ∧ at_ < (↑n : Int) ∧ Option.isSome a = true ∧ ∃ (n_2 : Int), atI I a (Int.toNat at_ * (1 : Nat) + (0 : Nat)) = some (Value.int IntKind.u8 n_2) ∧ Br (decide (n_2 < (255 : Int))) ((0 : Int) ≤ at_ ∧ at_ < (↑n : Int) ∧ Option.isSome a = true ∧ ∃ (n_3 : Int), atI I a (Int.toNat at_ * (1 : Nat) + (0 : Nat)) = some (Value.int IntKind.u8 n_3) ∧ Wr IntKind.i64 n_3 fun (c_1 : Int) => Wr IntKind.i64 (c_1 - (245 : Int)) fun (c_2 : Int) => Wr IntKind.i64 ((↑n : Int) - at_) fun (c_3 : Int) => Br (decide (c_3 < c_2)) (Value.tuple #[Value.int IntKind.u64 (0 : Int), Value.int IntKind.i64 (0 : Int), Value.int IntKind.i64 (10 : Int)] = Value.tuple #[Value.int IntKind.u64 (Prod.fst (readN bs at_)), Value.int IntKind.i64 (Prod.fst (Prod.snd (readN bs at_))), Value.int IntKind.i64 (Prod.snd (Prod.snd (readN bs at_)))]) ((0 : Int) ≤ at_ ∧ at_ < (↑n : Int) ∧ Option.isSome a = true ∧ ∃ (n_4 : Int), atI I a (Int.toNat at_ * (1 : Nat) + (0 : Nat)) = some (Value.int IntKind.u8 n_4) ∧ Wr IntKind.u64 n_4 fun (c_4 : Int) => Br (decide ((1 : Int) < c_2)) ((SV.v (Value.slice a n c) = SV.v (Value.slice a n c) ∧ SV.v (Value.int IntKind.i64 at_) = SV.v (Value.int IntKind.i64 at_) ∧ SV.v (Value.int IntKind.i64 c_2) = SV.v (Value.int IntKind.i64 c_2) ∧ (1 : Int) ≤ (1 : Int) ∧ (1 : Int) ≤ Option.getD bs[Int.toNat at_]? (0 : Int) - (245 : Int) ∧ (0 : Int) = (0 : Int)) ∧ ∀ (I' G' : Mem), Mem.le I I' → ∀ (n_5 n_6 : Int), (1 : Int) ≤ n_6 ∧ n_6 ≤ Option.getD bs[Int.toNat at_]? (0 : Int) - (245 : Int) ∧ n_5 = valN (List.take (Int.toNat n_6 - (1 : Nat)) (digs bs at_ (Option.getD bs[Int.toNat at_]? (0 : Int)))) → Br (decide (n_6 < c_2)) (Wr IntKind.u64 ((256 : Int) * n_5) fun (c_5 : Int) => Wr IntKind.i64 (at_ + n_6) fun (c_6 : Int) => (0 : Int) ≤ c_6 ∧ c_6 < (↑n : Int) ∧ Option.isSome a = true ∧ ∃ (n_7 : Int), atI I' a (Int.toNat c_6 * (1 : Nat) + (0 : Nat)) = some (Value.int IntKind.u8 n_7) ∧ Wr IntKind.u64 n_7 fun (c_7 : Int) => Wr IntKind.u64 (c_5 + c_7) fun (c_8 : Int) => Wr IntKind.i64 (n_6 + (1 : Int)) fun (c_9 : Int) => SV.v (Value.slice a n c) = SV.v (Value.slice a n c) ∧ SV.v (Value.int IntKind.i64 at_) = SV.v (Value.int IntKind.i64 at_) ∧ SV.v (Value.int IntKind.i64 c_2) = SV.v (Value.int IntKind.i64 c_2) ∧ ((1 : Int) ≤ c_9 ∧ c_9 ≤ Option.getD bs[Int.toNat at_]? (0 : Int) - (245 : Int) ∧ c_8 = valN (List.take (Int.toNat c_9 - (1 : Nat)) (digs bs at_ (Option.getD bs[Int.toNat at_]? (0 : Int))))) ∧ Int.toNat ((20 : Int) - c_9) < Int.toNat ((20 : Int) - n_6)) (Wr IntKind.i64 (at_ + c_2) fun (c_5 : Int) => (0 : Int) ≤ at_ ∧ at_ ≤ c_5 ∧ c_5 ≤ (↑c : Int) ∧ Ct Try.prog (Value.func (Fn.func (50 : Nat)) #[] #[]) #[Value.int IntKind.u64 n_5] I' fun (v : Value) (I' : Mem) => ∃ (a_3 : Option Addr), ∃ (n : Nat), ∃ (c_6 : Nat), v = Value.slice a_3 n c_6 ∧ Ct Try.prog (Value.func (Fn.func (62 : Nat)) #[] #[]) #[Value.slice a_3 n c_6, Value.slice (sladdr a c (Int.toNat at_) (1 : Nat)) (Int.toNat c_5 - Int.toNat at_) (c - Int.toNat at_)] I' fun (v : Value) (I' : Mem) => ∃ (b : Bool), v = Value.bool b ∧ Br (!b) (Value.tuple #[Value.int IntKind.u64 (0 : Int), Value.int IntKind.i64 (0 : Int), Value.int IntKind.i64 (11 : Int)] = Value.tuple #[Value.int IntKind.u64 (Prod.fst (readN bs at_)), Value.int IntKind.i64 (Prod.fst (Prod.snd (readN bs at_))), Value.int IntKind.i64 (Prod.snd (Prod.snd (readN bs at_)))]) (Value.tuple #[Value.int IntKind.u64 n_5, Value.int IntKind.i64 c_2, Value.int IntKind.i64 (0 : Int)] = Value.tuple #[Value.int IntKind.u64 (Prod.fst (readN bs at_)), Value.int IntKind.i64 (Prod.fst (Prod.snd (readN bs at_))), Value.int IntKind.i64 (Prod.snd (Prod.snd (readN bs at_)))]))) (Wr IntKind.i64 (at_ + c_2) fun (c_5 : Int) => (0 : Int) ≤ at_ ∧ at_ ≤ c_5 ∧ c_5 ≤ (↑c : Int) ∧ Ct Try.prog (Value.func (Fn.func (50 : Nat)) #[] #[]) #[Value.int IntKind.u64 c_4] I fun (v : Value) (I' : Mem) => ∃ (a_1 : Option Addr), ∃ (n : Nat), ∃ (c_6 : Nat), v = Value.slice a_1 n c_6 ∧ Ct Try.prog (Value.func (Fn.func (62 : Nat)) #[] #[]) #[Value.slice a_1 n c_6, Value.slice (sladdr a c (Int.toNat at_) (1 : Nat)) (Int.toNat c_5 - Int.toNat at_) (c - Int.toNat at_)] I' fun (v : Value) (I' : Mem) => ∃ (b : Bool), v = Value.bool b ∧ Br (!b) (Value.tuple #[Value.int IntKind.u64 (0 : Int), Value.int IntKind.i64 (0 : Int), Value.int IntKind.i64 (11 : Int)] = Value.tuple #[Value.int IntKind.u64 (Prod.fst (readN bs at_)), Value.int IntKind.i64 (Prod.fst (Prod.snd (readN bs at_))), Value.int IntKind.i64 (Prod.snd (Prod.snd (readN bs at_)))]) (Value.tuple #[Value.int IntKind.u64 c_4, Value.int IntKind.i64 c_2, Value.int IntKind.i64 (0 : Int)] = Value.tuple #[Value.int IntKind.u64 (Prod.fst (readN bs at_)), Value.int IntKind.i64 (Prod.fst (Prod.snd (readN bs at_))), Value.int IntKind.i64 (Prod.snd (Prod.snd (readN bs at_)))])))) (Wr IntKind.i64 ((↑n : Int) - at_) fun (c_1 : Int) => Br (decide (c_1 < (1 : Int))) (Value.tuple #[Value.int IntKind.u64 (0 : Int), Value.int IntKind.i64 (0 : Int), Value.int IntKind.i64 (10 : Int)] = Value.tuple #[Value.int IntKind.u64 (Prod.fst (readN bs at_)), Value.int IntKind.i64 (Prod.fst (Prod.snd (readN bs at_))), Value.int IntKind.i64 (Prod.snd (Prod.snd (readN bs at_)))]) ((0 : Int) ≤ at_ ∧ at_ < (↑n : Int) ∧ Option.isSome a = true ∧ ∃ (n : Int), atI I a (Int.toNat at_ * (1 : Nat) + (0 : Nat)) = some (Value.int IntKind.u8 n) ∧ Wr IntKind.u64 n fun (c_2 : Int) => Wr IntKind.i64 (at_ + (1 : Int)) fun (c_3 : Int) => (0 : Int) ≤ at_ ∧ at_ ≤ c_3 ∧ c_3 ≤ (↑c : Int) ∧ Ct Try.prog (Value.func (Fn.func (50 : Nat)) #[] #[]) #[Value.int IntKind.u64 c_2] I fun (v : Value) (I' : Mem) => ∃ (a_1 : Option Addr), ∃ (n : Nat), ∃ (c_4 : Nat), v = Value.slice a_1 n c_4 ∧ Ct Try.prog (Value.func (Fn.func (62 : Nat)) #[] #[]) #[Value.slice a_1 n c_4, Value.slice (sladdr a c (Int.toNat at_) (1 : Nat)) (Int.toNat c_3 - Int.toNat at_) (c - Int.toNat at_)] I' fun (v : Value) (I' : Mem) => ∃ (b : Bool), v = Value.bool b ∧ Br (!b) (Value.tuple #[Value.int IntKind.u64 (0 : Int), Value.int IntKind.i64 (0 : Int), Value.int IntKind.i64 (11 : Int)] = Value.tuple #[Value.int IntKind.u64 (Prod.fst (readN bs at_)), Value.int IntKind.i64 (Prod.fst (Prod.snd (readN bs at_))), Value.int IntKind.i64 (Prod.snd (Prod.snd (readN bs at_)))]) (Value.tuple #[Value.int IntKind.u64 c_2, Value.int IntKind.i64 (1 : Int), Value.int IntKind.i64 (0 : Int)] = Value.tuple #[Value.int IntKind.u64 (Prod.fst (readN bs at_)), Value.int IntKind.i64 (Prod.fst (Prod.snd (readN bs at_))), Value.int IntKind.i64 (Prod.snd (Prod.snd (readN bs at_)))])))) (Wr IntKind.i64 ((↑n : Int) - at_) fun (c_1 : Int) => Br (decide (c_1 < (1 : Int))) (Value.tuple #[Value.int IntKind.u64 (0 : Int), Value.int IntKind.i64 (0 : Int), Value.int IntKind.i64 (10 : Int)] = Value.tuple #[Value.int IntKind.u64 (Prod.fst (readN bs at_)), Value.int IntKind.i64 (Prod.fst (Prod.snd (readN bs at_))), Value.int IntKind.i64 (Prod.snd (Prod.snd (readN bs at_)))]) ((0 : Int) ≤ at_ ∧ at_ < (↑n : Int) ∧ Option.isSome a = true ∧ ∃ (n : Int), atI I a (Int.toNat at_ * (1 : Nat) + (0 : Nat)) = some (Value.int IntKind.u8 n) ∧ Wr IntKind.u64 n fun (c_2 : Int) => Wr IntKind.i64 (at_ + (1 : Int)) fun (c_3 : Int) => (0 : Int) ≤ at_ ∧ at_ ≤ c_3 ∧ c_3 ≤ (↑c : Int) ∧ Ct Try.prog (Value.func (Fn.func (50 : Nat)) #[] #[]) #[Value.int IntKind.u64 c_2] I fun (v : Value) (I' : Mem) => ∃ (a_1 : Option Addr), ∃ (n : Nat), ∃ (c_4 : Nat), v = Value.slice a_1 n c_4 ∧ Ct Try.prog (Value.func (Fn.func (62 : Nat)) #[] #[]) #[Value.slice a_1 n c_4, Value.slice (sladdr a c (Int.toNat at_) (1 : Nat)) (Int.toNat c_3 - Int.toNat at_) (c - Int.toNat at_)] I' fun (v : Value) (I' : Mem) => ∃ (b : Bool), v = Value.bool b ∧ Br (!b) (Value.tuple #[Value.int IntKind.u64 (0 : Int), Value.int IntKind.i64 (0 : Int), Value.int IntKind.i64 (11 : Int)] = Value.tuple #[Value.int IntKind.u64 (Prod.fst (readN bs at_)), Value.int IntKind.i64 (Prod.fst (Prod.snd (readN bs at_))), Value.int IntKind.i64 (Prod.snd (Prod.snd (readN bs at_)))]) (Value.tuple #[Value.int IntKind.u64 c_2, Value.int IntKind.i64 (1 : Int), Value.int IntKind.i64 (0 : Int)] = Value.tuple #[Value.int IntKind.u64 (Prod.fst (readN bs at_)), Value.int IntKind.i64 (Prod.fst (Prod.snd (readN bs at_))), Value.int IntKind.i64 (Prod.snd (Prod.snd (readN bs at_)))]))))))) (by kernel_rfl) ?_
  have hn := h.numLen
  have fin : ∀ (I1 : Mem) (x m : Int), I.le I1 → 0 ≤ at_ → (0 ≤ x ∧ x ≤ 18446744073709551615) → 0 ≤ m → at_ + m ≤ bs.length → (readN bs at_ = (0, 0, 11) ∨ readN bs at_ = (x, m, 0)) →
      Ct Try.prog (Value.func (Fn.func 50) #[] #[]) #[Value.int IntKind.u64 x] I1 fun v I' => ∃ a_3 n c_6, v = Value.slice a_3 n c_6 ∧ Ct Try.prog (Value.func (Fn.func 62) #[] #[]) #[Value.slice a_3 n c_6, Value.slice (sladdr a c at_.toNat 1) ((at_ + m).toNat - at_.toNat) (c - at_.toNat)] I' fun v I' => ∃ b, v = Value.bool b ∧ Br (!b) (Value.tuple #[Value.int IntKind.u64 0, Value.int IntKind.i64 0, Value.int IntKind.i64 11] = Value.tuple #[Value.int IntKind.u64 (readN bs at_).fst, Value.int IntKind.i64 (readN bs at_).snd.fst, Value.int IntKind.i64 (readN bs at_).snd.snd]) (Value.tuple #[Value.int IntKind.u64 x, Value.int IntKind.i64 m, Value.int IntKind.i64 0] = Value.tuple #[Value.int IntKind.u64 (readN bs at_).fst, Value.int IntKind.i64 (readN bs at_).snd.fst, Value.int IntKind.i64 (readN bs at_).snd.snd]) := by
    intro I1 x m l1 a0 hx m0 hm hacc
    refine (ct50 x hx I1).mono fun v I2 l2 ⟨a3, n3, c3, hv, hs, hc3, hm3⟩ => ⟨a3, n3, c3, hv, ?_⟩
    have hsub := sl_sub (f := at_.toNat) (t := (at_ + m).toNat) ((h.mono l1).mono l2) (by omega) (by omega) hc
    have hf8 := formN_le x.toNat (by omega)
    have hn3 := hs.numLen
    refine (ct62 _ _ _ _ _ _ _ _ I2 hs hsub (by omega)).mono fun v I3 l3 hv => ⟨_, hv, ?_⟩
    rw [show (at_ + m).toNat - at_.toNat = m.toNat by omega, ref_end hbs a0 hx m0 hm hacc]
    by_cases he : formN x.toNat = (bs.drop at_.toNat).take m.toNat
    · rw [decide_eq_true he, if_pos he]; exact Br.f rfl rfl
    · rw [decide_eq_false he, if_neg he]; exact Br.t rfl rfl
  refine Br.mk (fun h0 => ?_) (fun h0 => Br.mk (fun h1 => ?_) (fun h1 => Br.mk (fun h2 => ?_) (fun h2 => ?_)))
  · have h0 := of_decide_eq_true h0
    rw [readN, if_pos (.inl h0)]
  · have h1 := of_decide_eq_true h1
    rw [readN, if_pos (.inr (by omega))]
  · have h2 : at_ = n := by simpa using h2
    rw [readN, if_neg (by omega), List.getElem?_eq_none (by omega)]
  have h0 := of_decide_eq_false h0
  have h1 := of_decide_eq_false h1
  have h2 : at_ ≠ n := by simpa using h2
  obtain ⟨b, hb, hcell⟩ := h.intAt (i := at_) (by omega) (by omega)
  have hbr := hbs b (List.mem_of_getElem? hb)
  have hrd : readN bs at_ = if b ≤ 246 then (b, 1, 0) else if b = 255 then (0, 0, 11) else
      if (bs.length : Int) - at_ - 1 < b - 246 then (0, 0, 10) else
      if (digs bs at_ b)[0]? = some 0 then (0, 0, 11) else
      if valN (digs bs at_ b) ≤ 246 then (0, 0, 11) else (valN (digs bs at_ b), b - 246 + 1, 0) := by
    rw [readN, if_neg (by omega), hb]
  have hsome := h.isSome (by omega)
  have one : (b ≤ 246 ∨ b = 255) → readN bs at_ = (0, 0, 11) ∨ readN bs at_ = (b, 1, 0) := fun hc => by
    rw [hrd]
    rcases hc with hc | hc
    · rw [if_pos hc]; exact .inr rfl
    · rw [if_neg (by omega), if_pos hc]; exact .inl rfl
  simp only [hb, Option.getD_some]
  refine ⟨by omega, by omega, hsome, b, hcell, Br.mk (fun h3 => ?_) (fun h3 => ?_)⟩
  · have h3 := of_decide_eq_true h3
    refine ⟨by omega, by omega, hsome, b, hcell, Br.mk (fun h4 => ?_) (fun h4 => ?_)⟩
    · have h4 := of_decide_eq_true h4
      rw [if_neg (by omega), if_neg (by omega)] at hrd
      refine ⟨by omega, by omega, hsome, b, hcell, wr_i64 (by omega) (by omega) (wr_i64 (by omega) (by omega) (wr_i64 (by omega) (by omega) (Br.mk (fun h5 => ?_) (fun h5 => ?_))))⟩
      · have h5 := of_decide_eq_true h5
        rw [hrd, if_pos (by omega)]
      have h5 := of_decide_eq_false h5
      rw [if_neg (by omega)] at hrd
      have hdl : (digs bs at_ b).length = (b - 246).toNat := by simp only [digs, List.length_take, List.length_drop]; omega
      have hdat : ∀ i : Nat, i < (b - 246).toNat → (digs bs at_ b)[i]? = bs[at_.toNat + 1 + i]? := fun i hi => by
        rw [digs, List.getElem?_take, if_pos hi, List.getElem?_drop]
      have hdb : ∀ d ∈ digs bs at_ b, 0 ≤ d ∧ d ≤ 255 := fun d hd => hbs d (List.mem_of_mem_drop (List.mem_of_mem_take hd))
      refine ⟨by omega, by omega, hsome, b, hcell, b, IntWalk.u64_in b ⟨hbr.1, by omega⟩, Br.t (by simp; omega) ⟨⟨trivial, trivial, trivial, by omega, by omega, trivial⟩, fun I1 G1 l1 x i ⟨k0, k1, k2⟩ => Br.mk (fun hlt => ?_) (fun hge => ?_)⟩⟩
      · have hlt := of_decide_eq_true hlt
        have hxb := valN_bd ((digs bs at_ b).take (i.toNat - 1)) fun y hy => hdb y (List.mem_of_mem_take hy)
        have hxl : ((digs bs at_ b).take (i.toNat - 1)).length ≤ 7 := by rw [List.length_take]; omega
        have hx7 : x < 72057594037927936 := by
          rw [k2]
          refine Int.lt_of_lt_of_le hxb.2 ?_
          exact pow7 _ (by omega)
        have hx0 : 0 ≤ x := by rw [k2]; exact hxb.1
        obtain ⟨d, hd, hdc⟩ := (h.mono l1).intAt (i := at_ + i) (by omega) (by omega)
        have hdr := hbs d (List.mem_of_getElem? hd)
        have hdi : (digs bs at_ b)[i.toNat - 1]? = some d := by rw [hdat _ (by omega), ← hd]; congr 1; omega
        refine ⟨_, IntWalk.u64_in _ ⟨by omega, by omega⟩, wr_i64 (by omega) (by omega) ⟨by omega, by omega, hsome, d, hdc, _, IntWalk.u64_in _ ⟨hdr.1, by omega⟩, _, IntWalk.u64_in _ ⟨by omega, by omega⟩, wr_i64 (by omega) (by omega) ⟨trivial, trivial, trivial, ⟨by omega, by omega, ?_⟩, by omega⟩⟩⟩
        rw [show (i + 1).toNat - 1 = i.toNat - 1 + 1 by omega, take_succ' hdi, valN_snoc, ← k2]
        omega
      · have hge := of_decide_eq_false hge
        have hix : x = valN (digs bs at_ b) := by rw [k2, List.take_of_length_le (by rw [hdl]; omega)]
        have hxb := valN_bd (digs bs at_ b) hdb
        have hp8 : (256 : Int) ^ (digs bs at_ b).length ≤ 18446744073709551616 := by
          rw [hdl]
          obtain ⟨k, hk⟩ : ∃ k, (b - 246).toNat = k + 1 := ⟨(b - 246).toNat - 1, by omega⟩
          rw [hk]
          exact pow8 k (by omega)
        refine wr_i64 (by omega) (by omega) ⟨by omega, by omega, by omega, fin I1 x (b - 245) l1 (by omega) ⟨by omega, by omega⟩ (by omega) (by omega) ?_⟩
        rw [hrd, hix]
        split
        · exact .inl rfl
        · split
          · exact .inl rfl
          · right; congr 2; omega
    · have h4 := of_decide_eq_false h4
      refine wr_i64 (by omega) (by omega) (Br.f (by simp; omega) ⟨by omega, by omega, hsome, b, hcell, b, IntWalk.u64_in b ⟨hbr.1, by omega⟩, wr_i64 (by omega) (by omega) ⟨by omega, by omega, by omega, fin I b 1 (Mem.le_refl _) (by omega) ⟨hbr.1, by omega⟩ (by omega) (by omega) (one (.inr (by omega)))⟩⟩)
  · have h3 := of_decide_eq_false h3
    refine wr_i64 (by omega) (by omega) (Br.f (by simp; omega) ⟨by omega, by omega, hsome, b, hcell, b, IntWalk.u64_in b ⟨hbr.1, by omega⟩, wr_i64 (by omega) (by omega) ⟨by omega, by omega, by omega, fin I b 1 (Mem.le_refl _) (by omega) ⟨hbr.1, by omega⟩ (by omega) (by omega) (one (.inl (by omega)))⟩⟩)
open Go Go.Proofs Go.SE Go.RowKit
set_option linter.unusedVariables false
def chainT : Int → List (Int × List Int) → Bool
  | _, [] => true
  | last, f :: r => decide (last < f.1) && (decide (f.1 ≤ 200) && chainT f.1 r)
def sumL : List (Int × List Int) → Int
  | [] => 0
  | f :: r => f.2.length + sumL r
theorem sumL_nonneg : ∀ l, 0 ≤ sumL l
  | [] => by simp [sumL]
  | f :: r => by have := sumL_nonneg r; rw [sumL]; omega
theorem sumL_app : ∀ k l, sumL (k ++ l) = sumL k + sumL l
  | [], l => by simp [sumL]
  | f :: r, l => by rw [List.cons_append, sumL, sumL, sumL_app r l]; omega
theorem step_split : ∀ (l : List (Int × List Int)) (last left : Int), 0 ≤ left → rightStep last left l = (chainT last l && decide (sumL l ≤ left))
  | [], last, left, h => by simp [rightStep, chainT, sumL, h]
  | f :: r, last, left, h => by
    have hs := sumL_nonneg r
    rw [rightStep, chainT, sumL]
    split
    · rename_i hc
      by_cases h1 : last < f.1
      · by_cases h2 : f.1 ≤ 200
        · rw [decide_eq_false (p := (f.2.length : Int) + sumL r ≤ left) (by omega)]; simp
        · simp [h2]
      · simp [h1]
    · rename_i hc
      rw [step_split r _ _ (by omega), decide_eq_true (p := last < f.1) (by omega), decide_eq_true (p := f.1 ≤ 200) (by omega)]
      simp only [Bool.true_and]
      congr 1
      exact decide_eq_decide.2 (by omega)
theorem right_split (l : List (Int × List Int)) : rightF l = (decide (l.length ≤ 64) && (chainT 0 l && decide (sumL l ≤ 16384))) := by
  rw [Bool.eq_iff_iff, rightF_iff, step_split _ _ _ (by omega)]
  simp only [Bool.and_eq_true, decide_eq_true_eq]
  exact ⟨fun h => ⟨h.2, h.1⟩, fun h => ⟨h.2, h.1⟩⟩
theorem sumL_take {l : List (Int × List Int)} {B : Int} (h : ∀ f ∈ l, (f.2.length : Int) ≤ B) : ∀ j, 0 ≤ B → sumL (l.take j) ≤ B * j := by
  intro j hB
  induction j generalizing l with
  | zero => simp [sumL]
  | succ j ih =>
    cases l with
    | nil => simp only [List.take_nil, sumL]; exact Int.mul_nonneg hB (by omega)
    | cons f r =>
      have h1 := h f (by simp)
      have h2 := ih (l := r) fun g hg => h g (by simp [hg])
      rw [List.take_succ_cons, sumL]
      have : B * ((j + 1 : Nat) : Int) = B * j + B := by rw [Int.natCast_add, Int.mul_add]; simp
      omega
theorem ct45 (l : List (Int × List Int)) (a : Option Addr) (n c : Nat) (I : Mem) (h : FldM I a n l) (hb : ∀ f ∈ l, f.2.length ≤ 1000000) :
    Ct Try.prog (fnv 45) #[.slice a n c] I (fun v _ => v = .bool (rightF l)) := by
  refine viaR (ct_via (A := { loops := [(5, ⟨[(0, .keep), (3, .sh (.int .i64)), (4, .sh (.int .i64))], [], [], fun vals _ _ _ => match vals with | [.int .i64 sum, .int .i64 j] => 0 ≤ j ∧ j ≤ n ∧ sum = sumL (l.take j.toNat) ∧ ∃ last, (j = 0 → last = 0) ∧ (0 < j → ∃ bs, l[j.toNat - 1]? = some (last, bs)) ∧ 0 ≤ last ∧ chainT 0 l = chainT last (l.drop j.toNat) | _ => False, fun vals _ => match vals with | [_, .int .i64 j] => (n - j).toNat | _ => 0⟩)] }) Try.func45 rfl Try.call45 rfl rfl) (Br (decide ((64 : Int) < (↑n : Int))) (Value.bool false = Value.bool (rightF l)) ((SV.v (Value.slice a n c) = SV.v (Value.slice a n c) ∧ (0 : Int) ≤ (0 : Int) ∧ (0 : Int) ≤ (↑n : Int) ∧ (0 : Int) = (0 : Int) ∧ ∃ (last : Int), ((0 : Int) = (0 : Int) → last = (0 : Int)) ∧ ((0 : Int) < (0 : Int) → ∃ (bs : List Int), l[(0 : Nat)]? = some (last, bs)) ∧ (0 : Int) ≤ last ∧ chainT (0 : Int) l = chainT last l) ∧ ∀ (I' G' : Mem), Mem.le I I' → ∀ (n_1 n_2 : Int), ((0 : Int) ≤ n_2 ∧ n_2 ≤ (↑n : Int) ∧ n_1 = sumL (List.take (Int.toNat n_2) l) ∧ ∃ (last : Int), (n_2 = (0 : Int) → last = (0 : Int)) ∧ ((0 : Int) < n_2 → ∃ (bs : List Int), l[Int.toNat n_2 - (1 : Nat)]? = some (last, bs)) ∧ (0 : Int) ≤ last ∧ chainT (0 : Int) l = chainT last (List.drop (Int.toNat n_2) l)) → Br (decide (n_2 < (↑n : Int))) ((0 : Int) ≤ n_2 ∧ n_2 < (↑n : Int) ∧ Option.isSome a = true ∧ Option.isSome a = true ∧ ∃ (a_3 : Option Addr), ∃ (n_3 : Nat), ∃ (c_1 : Nat), atI I' a (Int.toNat n_2 * (2 : Nat) + (1 : Nat) + (0 : Nat)) = some (Value.slice a_3 n_3 c_1) ∧ Wr IntKind.i64 (n_1 + (↑n_3 : Int)) fun (c_2 : Int) => (0 : Int) ≤ n_2 ∧ n_2 < (↑n : Int) ∧ Option.isSome a = true ∧ Option.isSome a = true ∧ ∃ (n_4 : Int), atI I' a (Int.toNat n_2 * (2 : Nat) + (0 : Nat) + (0 : Nat)) = some (Value.int IntKind.i64 n_4) ∧ Br (decide (n_4 < (1 : Int))) (Value.bool false = Value.bool (rightF l)) ((0 : Int) ≤ n_2 ∧ n_2 < (↑n : Int) ∧ Option.isSome a = true ∧ Option.isSome a = true ∧ ∃ (n_5 : Int), atI I' a (Int.toNat n_2 * (2 : Nat) + (0 : Nat) + (0 : Nat)) = some (Value.int IntKind.i64 n_5) ∧ Br (decide ((200 : Int) < n_5)) (Value.bool false = Value.bool (rightF l)) (Br (decide ((0 : Int) < n_2)) ((0 : Int) ≤ n_2 ∧ n_2 < (↑n : Int) ∧ Option.isSome a = true ∧ Option.isSome a = true ∧ ∃ (n_6 : Int), atI I' a (Int.toNat n_2 * (2 : Nat) + (0 : Nat) + (0 : Nat)) = some (Value.int IntKind.i64 n_6) ∧ Wr IntKind.i64 (n_2 - (1 : Int)) fun (c_3 : Int) => (0 : Int) ≤ c_3 ∧ c_3 < (↑n : Int) ∧ Option.isSome a = true ∧ Option.isSome a = true ∧ ∃ (n_7 : Int), atI I' a (Int.toNat c_3 * (2 : Nat) + (0 : Nat) + (0 : Nat)) = some (Value.int IntKind.i64 n_7) ∧ Br (decide (n_6 ≤ n_7)) (Value.bool false = Value.bool (rightF l)) (Wr IntKind.i64 (n_2 + (1 : Int)) fun (c_4 : Int) => SV.v (Value.slice a n c) = SV.v (Value.slice a n c) ∧ ((0 : Int) ≤ c_4 ∧ c_4 ≤ (↑n : Int) ∧ c_2 = sumL (List.take (Int.toNat c_4) l) ∧ ∃ (last : Int), (c_4 = (0 : Int) → last = (0 : Int)) ∧ ((0 : Int) < c_4 → ∃ (bs : List Int), l[Int.toNat c_4 - (1 : Nat)]? = some (last, bs)) ∧ (0 : Int) ≤ last ∧ chainT (0 : Int) l = chainT last (List.drop (Int.toNat c_4) l)) ∧ Int.toNat ((↑n : Int) - c_4) < Int.toNat ((↑n : Int) - n_2))) (Wr IntKind.i64 (n_2 + (1 : Int)) fun (c_3 : Int) => SV.v (Value.slice a n c) = SV.v (Value.slice a n c) ∧ ((0 : Int) ≤ c_3 ∧ c_3 ≤ (↑n : Int) ∧ c_2 = sumL (List.take (Int.toNat c_3) l) ∧ ∃ (last : Int), (c_3 = (0 : Int) → last = (0 : Int)) ∧ ((0 : Int) < c_3 → ∃ (bs : List Int), l[Int.toNat c_3 - (1 : Nat)]? = some (last, bs)) ∧ (0 : Int) ≤ last ∧ chainT (0 : Int) l = chainT last (List.drop (Int.toNat c_3) l)) ∧ Int.toNat ((↑n : Int) - c_3) < Int.toNat ((↑n : Int) - n_2))))) (Value.bool (decide (n_1 ≤ (16384 : Int))) = Value.bool (rightF l)))) (by kernel_rfl) ?_
  have hl := h.len
  have hmx := h.max
  refine Br.mk (fun h64 => ?_) (fun h64 => ?_)
  · have h64 := of_decide_eq_true h64
    rw [right_split, decide_eq_false (by omega)]; rfl
  have h64 := of_decide_eq_false h64
  refine ⟨⟨rfl, by omega, by omega, rfl, 0, fun _ => rfl, fun h => by omega, by omega, rfl⟩, fun I1 _ l1 sum j ⟨j0, j1, js, last, q1, q2, q3, q4⟩ => ?_⟩
  have hsb := sumL_take (l := l) (B := 1000000) (fun f hf => by have := hb f hf; omega) j.toNat (by omega)
  have hs0 := sumL_nonneg (l.take j.toNat)
  refine Br.mk (fun hlt => ?_) (fun hge => ?_)
  · have hlt := of_decide_eq_true hlt
    have hsome := h.isSome (by omega)
    obtain ⟨f, b', m', c', hf, hok, e1, e2, hfs, hm1, hm2⟩ := (h.mono l1).at_ j0 hlt
    have hfl := hfs.numLen
    have hfb := hb f (List.mem_of_getElem? hf)
    rw [drop_cons hf, chainT] at q4
    have hj1 : (j + 1).toNat = j.toNat + 1 := by omega
    have hsum : sum + m' = sumL (l.take (j + 1).toNat) := by
      rw [hj1, take_succ' hf, sumL_app, js]
      simp only [sumL]; omega
    have bad : chainT 0 l = false → Value.bool false = Value.bool (rightF l) := fun hc => by rw [right_split, hc]; simp
    have next : last < f.1 → f.1 ≤ 200 → Wr IntKind.i64 (j + 1) fun c_4 => SV.v (Value.slice a n c) = SV.v (Value.slice a n c) ∧ (0 ≤ c_4 ∧ c_4 ≤ ↑n ∧ sum + m' = sumL (List.take c_4.toNat l) ∧ ∃ last, (c_4 = 0 → last = 0) ∧ (0 < c_4 → ∃ bs, l[c_4.toNat - 1]? = some (last, bs)) ∧ 0 ≤ last ∧ chainT 0 l = chainT last (List.drop c_4.toNat l)) ∧ (↑n - c_4).toNat < (↑n - j).toNat := fun g1 g2 => by
      refine wr_i64 (by omega) (by omega) ⟨rfl, ⟨by omega, by omega, hsum, f.1, fun h => by omega, fun _ => ⟨f.2, ?_⟩, by omega, ?_⟩, by omega⟩
      · rw [hj1, Nat.add_sub_cancel]; exact hf
      · rw [q4, hj1]; simp [g1, g2]
    refine ⟨j0, hlt, hsome, hsome, b', m', c', e2, wr_i64 (by omega) (by omega) ⟨j0, hlt, hsome, hsome, f.1, e1, Br.mk (fun g1 => bad ?_) (fun g1 => ⟨j0, hlt, hsome, hsome, f.1, e1, Br.mk (fun g2 => bad ?_) (fun g2 => Br.mk (fun g3 => ?_) (fun g3 => ?_))⟩)⟩⟩
    · have g1 := of_decide_eq_true g1
      rw [q4, decide_eq_false (by omega)]; rfl
    · have g2 := of_decide_eq_true g2
      rw [q4, decide_eq_false (p := f.1 ≤ 200) (by omega)]; simp
    · have g1 := of_decide_eq_false g1
      have g2 := of_decide_eq_false g2
      have g3 := of_decide_eq_true g3
      obtain ⟨p, b2, m2, c2, hp, _, e3, _⟩ := (h.mono l1).at_ (i := j - 1) (by omega) (by omega)
      obtain ⟨bs, hq⟩ := q2 g3
      rw [show (j - 1).toNat = j.toNat - 1 by omega, hq] at hp
      cases hp
      refine ⟨j0, hlt, hsome, hsome, f.1, e1, wr_i64 (by omega) (by omega) ⟨by omega, by omega, hsome, hsome, last, e3, Br.mk (fun g4 => bad ?_) (fun g4 => next ?_ (by omega))⟩⟩
      · have g4 := of_decide_eq_true g4
        rw [q4, decide_eq_false (by omega)]; rfl
      · have g4 := of_decide_eq_false g4; omega
    · have g1 := of_decide_eq_false g1
      have g2 := of_decide_eq_false g2
      have g3 := of_decide_eq_false g3
      have := q1 (by omega)
      exact next (by omega) (by omega)
  · have hge := of_decide_eq_false hge
    have hj : j.toNat = l.length := by omega
    rw [hj, List.drop_length, chainT] at q4
    rw [hj, List.take_length] at js
    rw [right_split, q4, decide_eq_true (p := l.length ≤ 64) (by omega), js]
    rfl
open Go Go.Proofs Go.SE Go.RowKit
set_option linter.unusedVariables false
theorem dup2 {Q : Prop} (h : Q) : Q ∧ Q := ⟨h, h⟩
theorem ct55 (xs : List Int) (a : Option Addr) (n c : Nat) (I : Mem) (h : SlM I a n 1 (ints .u8 xs)) (hn : n ≤ 1000000) :
    Ct Try.prog (fnv 55) #[.slice a n c] I (fun v I' => BySl I' v xs) := by
  refine viaR (ct_via (A := { }) Try.func55 rfl Try.call55 rfl rfl) (∃ (ys : List Value), List.length ys = n * (1 : Nat) ∧ (a = none → n = (0 : Nat)) ∧ (∀ (j : Nat) (v : Value), ys[j]? = some v → atI I a j = some v) ∧ (∀ (v : Value), v ∈ ys → Value.oneCell' v = true) ∧ (0 : Nat) = (0 : Nat) ∧ (0 : Nat) + n ≤ (9223372036854775807 : Nat) ∧ ((0 : Nat) + n) * (1 : Nat) ≤ (140737488355328 : Nat) ∧ ∀ (a : Option Addr) (cp : Nat) (I' : Mem), Mem.le I I' → RowM I' a cp (1 : Nat) ys → ∃ (b : Option Addr), ∃ (m : Nat), ∃ (c : Nat), Value.slice a ((0 : Nat) + n) cp = Value.slice b m c ∧ SlM I' b m (1 : Nat) (List.map (Value.int IntKind.u8) xs) ∧ m ≤ c ∧ c ≤ (9223372036854775807 : Nat)) (by kernel_rfl) ?_
  exact ⟨ints .u8 xs, h.len, h.nil, h.at_, one_ints, rfl, by omega, by omega, fun a' cp I' _ hrow => row_bysl hrow (by have := h.numLen; omega)⟩
def lastT : Int → List (Int × List Int) → Int
  | a, [] => a
  | _, f :: r => lastT f.1 r
theorem chainT_snoc (f : Int × List Int) : ∀ (L : List (Int × List Int)) (a : Int), chainT a (L ++ [f]) = (chainT a L && (decide (lastT a L < f.1) && decide (f.1 ≤ 200)))
  | [], a => by simp only [List.nil_append, chainT, lastT, Bool.and_true, Bool.true_and]; rfl
  | g :: r, a => by
    rw [List.cons_append, chainT, chainT, lastT, chainT_snoc f r g.1]
    simp [Bool.and_assoc]
theorem lastT_snoc (f : Int × List Int) : ∀ (L : List (Int × List Int)) (a : Int), lastT a (L ++ [f]) = f.1
  | [], a => rfl
  | g :: r, a => lastT_snoc f r g.1
theorem lastT_nonneg : ∀ (L : List (Int × List Int)) (a : Int), 0 ≤ a → chainT a L = true → a ≤ lastT a L
  | [], a, h, _ => Int.le_refl _
  | g :: r, a, h, hc => by
    simp only [chainT, Bool.and_eq_true, decide_eq_true_eq] at hc
    have := lastT_nonneg r g.1 (by omega) hc.2.2
    rw [lastT]; omega
theorem right_snoc {L : List (Int × List Int)} (h : rightF L = true) (f : Int × List Int) :
    rightF (L ++ [f]) = !decide (f.1 ≤ lastT 0 L ∨ 200 < f.1 ∨ 16384 - sumL L < f.2.length ∨ 64 ≤ L.length) := by
  rw [right_split] at h ⊢
  simp only [Bool.and_eq_true, decide_eq_true_eq] at h
  have hs : sumL (L ++ [f]) = sumL L + f.2.length := by rw [sumL_app]; simp [sumL]
  rw [chainT_snoc, h.2.1, Bool.true_and, List.length_append, List.length_singleton, hs]
  rw [Bool.eq_iff_iff]
  simp only [Bool.and_eq_true, decide_eq_true_eq, Bool.not_eq_true', decide_eq_false_iff_not]
  omega
theorem goF_bad {bs : List Int} {k : Nat} {last left : Int} {L : List (Int × List Int)} (hk : k < bs.length) (h : fstep bs k = none) (h0 : 0 ≤ last) : goF (yields bs k) last left L = ((k : Int), []) := by
  rw [yields, dif_pos hk, h]
  simp only [goF]
  rw [if_pos (.inl h0)]
theorem goF_step {bs : List Int} {k nx : Nat} {body : List Int} {last left : Int} {L : List (Int × List Int)} {b : Int} (hk : k < bs.length) (h : fstep bs k = some (body, nx)) (hb : bs[k]? = some b) (hn : k < nx) :
    goF (yields bs k) last left L = if b ≤ last ∨ 200 < b ∨ left < body.length ∨ 64 ≤ L.length then ((k : Int), []) else goF (yields bs nx) b (left - body.length) (L ++ [(b, body)]) := by
  rw [yields, dif_pos hk, h]
  simp only [dif_pos hn, hb, Option.getD_some]
  rw [goF]
theorem readN_m {bs : List Int} (hbs : ∀ b ∈ bs, 0 ≤ b ∧ b ≤ 255) (at_ : Int) : 0 ≤ (readN bs at_).2.1 ∧ (readN bs at_).2.1 ≤ 9 := by
  unfold readN
  split
  · simp
  · split
    · simp
    · rename_i b hb
      have := hbs b (List.mem_of_getElem? hb)
      split
      · simp
      · split
        · simp
        · split
          · simp
          · split
            · simp
            · split
              · simp
              · simp only; omega
theorem ct36 (bs : List Int) (hbs : byteL bs) (a : Option Addr) (n c : Nat) (I : Mem) (h : SlM I a n 1 (ints .u8 bs)) (hn : n ≤ 1000000) (hc : n ≤ c) (hm : c ≤ maxLen) :
    Ct Try.prog (fnv 36) #[.slice a n c] I (fun v I' => ∃ a' n' c', v = .tuple #[.slice a' n' c', .int .i64 (readF bs).2.1, .int .i64 (readF bs).2.2] ∧ FldM I' a' n' (readF bs).1 ∧ n' ≤ c' ∧ c' ≤ maxLen) := by
  refine viaR (ct_via (A := { calls := [(68, .ro)], loops := [(5, ⟨[(0, .keep), (5, .row 0), (6, .sh (.int .i64)), (7, .sh (.int .i64))], [(0, .row)], [(5, 2, 81)], fun vals xss I' _ => match vals, xss with | [.int .i64 at_, .int .i64 sum], [xs] => 0 ≤ at_ ∧ ∃ L, FR I' xs L ∧ rightF L = true ∧ sum = sumL L ∧ goF (yields bs 0) 0 16384 [] = goF (yields bs at_.toNat) (lastT 0 L) (16384 - sumL L) L | _, _ => False, fun vals _ => match vals with | [.int .i64 at_, _] => (n - at_).toNat | _ => 0⟩)] }) Try.func36 rfl Try.call36 rfl rfl) (Br (decide ((16768 : Int) < (↑n : Int))) (∃ (a' : Option Addr), ∃ (n' : Nat), ∃ (c' : Nat), Value.tuple #[Value.slice none (0 : Nat) (0 : Nat), Value.int IntKind.i64 (0 : Int), Value.int IntKind.i64 (3 : Int)] = Value.tuple #[Value.slice a' n' c', Value.int IntKind.i64 (Prod.fst (Prod.snd (readF bs))), Value.int IntKind.i64 (Prod.snd (Prod.snd (readF bs)))] ∧ FldM I a' n' (Prod.fst (readF bs)) ∧ n' ≤ c' ∧ c' ≤ (9223372036854775807 : Nat)) ((SV.v (Value.slice a n c) = SV.v (Value.slice a n c) ∧ (0 : Nat) = (0 : Nat) ∧ (0 : Int) ≤ (0 : Int) ∧ ∃ (L : List (Int × List Int)), FR I [] L ∧ rightF L = true ∧ (0 : Int) = sumL L ∧ goF (yields bs (0 : Nat)) (0 : Int) (16384 : Int) [] = goF (yields bs (0 : Nat)) (lastT (0 : Int) L) ((16384 : Int) - sumL L) L) ∧ ∀ (I' G' : Mem), Mem.le I I' → ∀ (xs : List Value) (n_1 n_2 : Int), ((0 : Int) ≤ n_1 ∧ ∃ (L : List (Int × List Int)), FR I' xs L ∧ rightF L = true ∧ n_2 = sumL L ∧ goF (yields bs (0 : Nat)) (0 : Int) (16384 : Int) [] = goF (yields bs (Int.toNat n_1)) (lastT (0 : Int) L) ((16384 : Int) - sumL L) L) → Br (decide (n_1 < (↑n : Int))) (Wr IntKind.i64 (n_1 + (1 : Int)) fun (c_1 : Int) => Ct Try.prog (Value.func (Fn.func (54 : Nat)) #[] #[]) #[Value.slice a n c, Value.int IntKind.i64 c_1] I' fun (v : Value) (I' : Mem) => ∃ (n_3 : Int), ∃ (n_4 : Int), ∃ (n_5 : Int), v = Value.tuple #[Value.int IntKind.u64 n_3, Value.int IntKind.i64 n_4, Value.int IntKind.i64 n_5] ∧ Wr IntKind.i64 (n_1 + (1 : Int)) fun (c_2 : Int) => Wr IntKind.i64 (c_2 + n_4) fun (c_3 : Int) => Br (n_5 != (0 : Int)) (∃ (a' : Option Addr), ∃ (n' : Nat), ∃ (c' : Nat), Value.tuple #[Value.slice none (0 : Nat) (0 : Nat), Value.int IntKind.i64 n_1, Value.int IntKind.i64 (21 : Int)] = Value.tuple #[Value.slice a' n' c', Value.int IntKind.i64 (Prod.fst (Prod.snd (readF bs))), Value.int IntKind.i64 (Prod.snd (Prod.snd (readF bs)))] ∧ FldM I' a' n' (Prod.fst (readF bs)) ∧ n' ≤ c' ∧ c' ≤ (9223372036854775807 : Nat)) (Wr IntKind.i64 ((↑n : Int) - c_3) fun (c_4 : Int) => Wr IntKind.u64 c_4 fun (c_5 : Int) => Br (decide (c_5 < n_3)) (∃ (a' : Option Addr), ∃ (n' : Nat), ∃ (c' : Nat), Value.tuple #[Value.slice none (0 : Nat) (0 : Nat), Value.int IntKind.i64 n_1, Value.int IntKind.i64 (21 : Int)] = Value.tuple #[Value.slice a' n' c', Value.int IntKind.i64 (Prod.fst (Prod.snd (readF bs))), Value.int IntKind.i64 (Prod.snd (Prod.snd (readF bs)))] ∧ FldM I' a' n' (Prod.fst (readF bs)) ∧ n' ≤ c' ∧ c' ≤ (9223372036854775807 : Nat)) ((0 : Int) ≤ n_1 ∧ n_1 < (↑n : Int) ∧ Option.isSome a = true ∧ ∃ (n_6 : Int), atI I' a (Int.toNat n_1 * (1 : Nat) + (0 : Nat)) = some (Value.int IntKind.u8 n_6) ∧ Wr IntKind.i64 n_6 fun (c_6 : Int) => Wr IntKind.i64 n_3 fun (c_7 : Int) => Wr IntKind.i64 (c_3 + c_7) fun (c_8 : Int) => (0 : Int) ≤ c_3 ∧ c_3 ≤ c_8 ∧ c_8 ≤ (↑c : Int) ∧ (Ct Try.prog (Value.func (Fn.func (55 : Nat)) #[] #[]) #[Value.slice (sladdr a c (Int.toNat c_3) (1 : Nat)) (Int.toNat c_8 - Int.toNat c_3) (c - Int.toNat c_3)] I' fun (v : Value) (I' : Mem) => ∃ (a_3 : Option Addr), ∃ (n_7 : Nat), ∃ (c_9 : Nat), v = Value.slice a_3 n_7 c_9 ∧ Wr IntKind.i64 (n_2 + (↑n_7 : Int)) fun (c_10 : Int) => List.length xs = List.length xs / (2 : Nat) * (2 : Nat) ∧ List.length xs / (2 : Nat) + (1 : Nat) ≤ (9223372036854775807 : Nat) ∧ (List.length xs / (2 : Nat) + (1 : Nat)) * (32 : Nat) ≤ (140737488355328 : Nat) ∧ ∀ (a_4 : Option Addr) (cp : Nat) (I'_1 : Mem), Mem.le I' I'_1 → RowM I'_1 a_4 cp (2 : Nat) (xs ++ [Value.int IntKind.i64 c_6, Value.slice a_3 n_7 c_9]) → Ct Try.prog (Value.func (Fn.func (45 : Nat)) #[] #[]) #[Value.slice a_4 (List.length xs / (2 : Nat) + (1 : Nat)) cp] I'_1 fun (v : Value) (x : Mem) => ∃ (b : Bool), v = Value.bool b ∧ Br (!b) (∃ (a' : Option Addr), ∃ (n' : Nat), ∃ (c' : Nat), Value.tuple #[Value.slice none (0 : Nat) (0 : Nat), Value.int IntKind.i64 n_1, Value.int IntKind.i64 (21 : Int)] = Value.tuple #[Value.slice a' n' c', Value.int IntKind.i64 (Prod.fst (Prod.snd (readF bs))), Value.int IntKind.i64 (Prod.snd (Prod.snd (readF bs)))] ∧ FldM I' a' n' (Prod.fst (readF bs)) ∧ n' ≤ c' ∧ c' ≤ (9223372036854775807 : Nat)) (Br (decide ((16384 : Int) < c_10)) (∃ (a' : Option Addr), ∃ (n' : Nat), ∃ (c' : Nat), Value.tuple #[Value.slice none (0 : Nat) (0 : Nat), Value.int IntKind.i64 n_1, Value.int IntKind.i64 (21 : Int)] = Value.tuple #[Value.slice a' n' c', Value.int IntKind.i64 (Prod.fst (Prod.snd (readF bs))), Value.int IntKind.i64 (Prod.snd (Prod.snd (readF bs)))] ∧ FldM I' a' n' (Prod.fst (readF bs)) ∧ n' ≤ c' ∧ c' ≤ (9223372036854775807 : Nat)) (Wr IntKind.i64 n_3 fun (c_11 : Int) => Wr IntKind.i64 (c_3 + c_11) fun (c_12 : Int) => SV.v (Value.slice a n c) = SV.v (Value.slice a n c) ∧ List.length xs / (2 : Nat) + (1 : Nat) = List.length (xs ++ [Value.int IntKind.i64 c_6, Value.slice a_3 n_7 c_9]) / (2 : Nat) ∧ ((0 : Int) ≤ c_12 ∧ ∃ (L : List (Int × List Int)), FR I' (xs ++ [Value.int IntKind.i64 c_6, Value.slice a_3 n_7 c_9]) L ∧ rightF L = true ∧ c_10 = sumL L ∧ goF (yields bs (0 : Nat)) (0 : Int) (16384 : Int) [] = goF (yields bs (Int.toNat c_12)) (lastT (0 : Int) L) ((16384 : Int) - sumL L) L) ∧ Int.toNat ((↑n : Int) - c_12) < Int.toNat ((↑n : Int) - n_1)))) ∧ Ct Try.prog (Value.func (Fn.func (55 : Nat)) #[] #[]) #[Value.slice (sladdr a c (Int.toNat c_3) (1 : Nat)) (Int.toNat c_8 - Int.toNat c_3) (c - Int.toNat c_3)] I' fun (v : Value) (I' : Mem) => ∃ (a_3 : Option Addr), ∃ (n_7 : Nat), ∃ (c_9 : Nat), v = Value.slice a_3 n_7 c_9 ∧ Wr IntKind.i64 (n_2 + (↑n_7 : Int)) fun (c_10 : Int) => List.length xs = List.length xs / (2 : Nat) * (2 : Nat) ∧ List.length xs / (2 : Nat) + (1 : Nat) ≤ (9223372036854775807 : Nat) ∧ (List.length xs / (2 : Nat) + (1 : Nat)) * (32 : Nat) ≤ (140737488355328 : Nat) ∧ ∀ (a_4 : Option Addr) (cp : Nat) (I'_1 : Mem), Mem.le I' I'_1 → RowM I'_1 a_4 cp (2 : Nat) (xs ++ [Value.int IntKind.i64 c_6, Value.slice a_3 n_7 c_9]) → Ct Try.prog (Value.func (Fn.func (45 : Nat)) #[] #[]) #[Value.slice a_4 (List.length xs / (2 : Nat) + (1 : Nat)) cp] I'_1 fun (v : Value) (x : Mem) => ∃ (b : Bool), v = Value.bool b ∧ Br (!b) (∃ (a' : Option Addr), ∃ (n' : Nat), ∃ (c' : Nat), Value.tuple #[Value.slice none (0 : Nat) (0 : Nat), Value.int IntKind.i64 n_1, Value.int IntKind.i64 (21 : Int)] = Value.tuple #[Value.slice a' n' c', Value.int IntKind.i64 (Prod.fst (Prod.snd (readF bs))), Value.int IntKind.i64 (Prod.snd (Prod.snd (readF bs)))] ∧ FldM I' a' n' (Prod.fst (readF bs)) ∧ n' ≤ c' ∧ c' ≤ (9223372036854775807 : Nat)) (Br (decide ((16384 : Int) < c_10)) (∃ (a' : Option Addr), ∃ (n' : Nat), ∃ (c' : Nat), Value.tuple #[Value.slice none (0 : Nat) (0 : Nat), Value.int IntKind.i64 n_1, Value.int IntKind.i64 (21 : Int)] = Value.tuple #[Value.slice a' n' c', Value.int IntKind.i64 (Prod.fst (Prod.snd (readF bs))), Value.int IntKind.i64 (Prod.snd (Prod.snd (readF bs)))] ∧ FldM I' a' n' (Prod.fst (readF bs)) ∧ n' ≤ c' ∧ c' ≤ (9223372036854775807 : Nat)) (Wr IntKind.i64 n_3 fun (c_11 : Int) => Wr IntKind.i64 (c_3 + c_11) fun (c_12 : Int) => SV.v (Value.slice a n c) = SV.v (Value.slice a n c) ∧ List.length xs / (2 : Nat) + (1 : Nat) = List.length (xs ++ [Value.int IntKind.i64 c_6, Value.slice a_3 n_7 c_9]) / (2 : Nat) ∧ ((0 : Int) ≤ c_12 ∧ ∃ (L : List (Int × List Int)), FR I' (xs ++ [Value.int IntKind.i64 c_6, Value.slice a_3 n_7 c_9]) L ∧ rightF L = true ∧ c_10 = sumL L ∧ goF (yields bs (0 : Nat)) (0 : Int) (16384 : Int) [] = goF (yields bs (Int.toNat c_12)) (lastT (0 : Int) L) ((16384 : Int) - sumL L) L) ∧ Int.toNat ((↑n : Int) - c_12) < Int.toNat ((↑n : Int) - n_1)))))) (∀ (a : Option Addr) (cp : Nat) (I'_1 : Mem), Mem.le I' I'_1 → RowM I'_1 a cp (2 : Nat) xs → ∃ (a' : Option Addr), ∃ (n' : Nat), ∃ (c' : Nat), Value.tuple #[Value.slice a (List.length xs / (2 : Nat)) cp, Value.int IntKind.i64 (0 : Int), Value.int IntKind.i64 (0 : Int)] = Value.tuple #[Value.slice a' n' c', Value.int IntKind.i64 (Prod.fst (Prod.snd (readF bs))), Value.int IntKind.i64 (Prod.snd (Prod.snd (readF bs)))] ∧ FldM I'_1 a' n' (Prod.fst (readF bs)) ∧ n' ≤ c' ∧ c' ≤ (9223372036854775807 : Nat)))) (by kernel_rfl) ?_
  simp only [eq_self, true_and]
  have hnl := h.numLen
  refine Br.mk (fun hlong => ?_) (fun hlong => ?_)
  · have hlong := of_decide_eq_true hlong
    have : readF bs = ([], 0, 3) := by rw [readF, if_pos (by omega)]
    rw [this]
    exact ⟨none, 0, 0, rfl, fldM_nil _, by omega, by omega⟩
  have hlong := of_decide_eq_false hlong
  have hrd0 : readF bs = if 0 ≤ (goF (yields bs 0) 0 16384 []).1 then ([], (goF (yields bs 0) 0 16384 []).1, 21) else ((goF (yields bs 0) 0 16384 []).2, 0, 0) := by rw [readF, if_neg (by omega)]
  refine ⟨⟨by omega, [], trivial, rfl, rfl, rfl⟩, fun I1 _ l1 xs at_ sum ⟨a0, L, hL, hR, hs, hg⟩ => ?_⟩
  obtain ⟨k, rfl⟩ : ∃ k : Nat, at_ = k := ⟨at_.toNat, by omega⟩
  rw [Int.toNat_natCast] at hg ⊢
  have hRs := hR
  rw [right_split] at hRs
  simp only [Bool.and_eq_true, decide_eq_true_eq] at hRs
  obtain ⟨r1, r2, r3⟩ := hRs
  have hl0 := lastT_nonneg L 0 (by omega) r2
  have hs0 := sumL_nonneg L
  have hxl := hL.len
  refine Br.mk (fun hlt => ?_) (fun hge => ?_)
  · have hlt := of_decide_eq_true hlt
    have hkl : k < bs.length := by omega
    have fail : goF (yields bs k) (lastT 0 L) (16384 - sumL L) L = ((k : Int), []) → ∀ J, ∃ a' n' c', Value.tuple #[Value.slice none 0 0, Value.int IntKind.i64 k, Value.int IntKind.i64 21] = Value.tuple #[Value.slice a' n' c', Value.int IntKind.i64 (readF bs).snd.fst, Value.int IntKind.i64 (readF bs).snd.snd] ∧ FldM J a' n' (readF bs).fst ∧ n' ≤ c' ∧ c' ≤ 9223372036854775807 := by
      intro hf J
      rw [hf] at hg
      have : readF bs = ([], (k : Int), 21) := by rw [hrd0, hg, if_pos (by simp only; omega)]
      rw [this]
      exact ⟨none, 0, 0, rfl, fldM_nil _, by omega, by omega⟩
    refine wr_i64 (by omega) (by omega) ((ct54 bs hbs a n c (k + 1) (by omega) I1 (h.mono l1) (by omega) hc).mono fun v I2 l2 hv => ?_)
    have hm9 := readN_m hbs (k + 1)
    rcases hre : readN bs (k + 1) with ⟨x, m, er⟩
    rw [hre] at hv hm9
    simp only at hm9
    refine ⟨x, m, er, hv, wr_i64 (by omega) (by omega) (wr_i64 (by omega) (by omega) (Br.mk (fun he => ?_) (fun he => ?_)))⟩
    · have he : er ≠ 0 := by simpa using he
      refine fail (goF_bad hkl ?_ hl0) _
      have hin : (intN bs (k + 1) 0 16384).2.2 ≠ 0 := by
        unfold intN
        rw [hre, if_pos he]
        exact he
      rw [fstep, if_pos (.inl hin)]
    have he : er = 0 := by simpa using he
    subst he
    obtain ⟨g0, g1, g2, g3, g4, g5, g6⟩ := readN_back hbs hre
    refine wr_i64 (by omega) (by omega) ⟨_, IntWalk.u64_in _ ⟨by omega, by omega⟩, Br.mk (fun hlx => ?_) (fun hlx => ?_)⟩
    · have hlx := of_decide_eq_true hlx
      refine fail (goF_bad hkl ?_ hl0) _
      by_cases hx : 16384 < x
      · have hin : (intN bs (k + 1) 0 16384).2.2 ≠ 0 := by
          unfold intN
          rw [hre, if_neg (by simp), if_pos (by simp only; omega)]
          simp
        rw [fstep, if_pos (.inl hin)]
      · have hin : intN bs (k + 1) 0 16384 = (x, m, 0) := by rw [intN, hre, if_neg (by simp), if_neg (by simp only; omega)]
        rw [fstep, hin, if_pos (.inr (by simp only; omega))]
    have hlx := of_decide_eq_false hlx
    obtain ⟨b, hb, hcell⟩ := (h.mono (Mem.le_trans l1 l2)).intAt (i := (k : Int)) (by omega) hlt
    rw [Int.toNat_natCast] at hb hcell
    have hbr := hbs b (List.mem_of_getElem? hb)
    refine ⟨by omega, hlt, h.isSome (by omega), b, hcell, wr_i64 (by omega) (by omega) (wr_i64 (by omega) (by omega) (wr_i64 (by omega) (by omega) ⟨by omega, by omega, by omega, dup2 ?_⟩))⟩
    have hsub := sl_sub (f := ((k : Int) + 1 + m).toNat) (t := ((k : Int) + 1 + m + x).toNat) ((h.mono l1).mono l2) (by omega) (by omega) hc
    have hbl : ((bs.drop ((k : Int) + 1 + m).toNat).take (((k : Int) + 1 + m + x).toNat - ((k : Int) + 1 + m).toNat)).length = x.toNat := by simp only [List.length_take, List.length_drop]; omega
    have hbb : byteL ((bs.drop ((k : Int) + 1 + m).toNat).take (((k : Int) + 1 + m + x).toNat - ((k : Int) + 1 + m).toNat)) := fun z hz => hbs z (List.mem_of_mem_drop (List.mem_of_mem_take hz))
    have hst : ¬ 16384 < x → fstep bs k = some ((bs.drop ((k : Int) + 1 + m).toNat).take (((k : Int) + 1 + m + x).toNat - ((k : Int) + 1 + m).toNat), ((k : Int) + 1 + m + x).toNat) := fun hx => by
      have hin : intN bs (k + 1) 0 16384 = (x, m, 0) := by rw [intN, hre, if_neg (by simp), if_neg (by simp only; omega)]
      rw [fstep, hin, if_neg (by simp only; omega)]
      simp only
      congr 3
      omega
    generalize (bs.drop ((k : Int) + 1 + m).toNat).take (((k : Int) + 1 + m + x).toNat - ((k : Int) + 1 + m).toNat) = body at hsub hbl hbb hst
    refine (ct55 body _ _ _ I2 hsub (by omega)).mono fun v I3 l3 hv => ?_
    have hv2 := hv
    obtain ⟨b2, m2, c2, rfl, hv3, _⟩ := hv
    have hm2 := hv3.numLen
    have hL2 : FR I3 (xs ++ [.int .i64 b, .slice b2 m2 c2]) (L ++ [(b, body)]) := FR.snoc (hL.mono (Mem.le_trans l2 l3)) ⟨⟨by simp only; omega, hbb⟩, rfl, hv2⟩
    refine ⟨b2, m2, c2, rfl, wr_i64 (by omega) (by omega) ⟨by omega, by omega, by omega, fun a4 cp I4 l4 hrow => ?_⟩⟩
    have hf4 := fldM_row hrow (hL2.mono l4)
    have hbnd : ∀ f ∈ L ++ [(b, body)], f.2.length ≤ 1000000 := fun f hf => by
      rcases List.mem_append.1 hf with hf | hf
      · have := right_at (rightF_iff.1 hR).1 f hf
        omega
      · cases List.mem_singleton.1 hf
        simp only
        omega
    have hll : (L ++ [(b, body)]).length = xs.length / 2 + 1 := by simp; omega
    rw [hll] at hf4
    refine (ct45 (L ++ [(b, body)]) _ _ _ I4 hf4 hbnd).mono fun v I5 l5 hv => ⟨_, hv, ?_⟩
    rw [right_snoc hR]
    by_cases hx : 16384 < x
    · refine Br.t ?_ (fail (goF_bad hkl ?_ hl0) _)
      · rw [decide_eq_true (by simp only; omega)]; rfl
      · have hin : (intN bs (k + 1) 0 16384).2.2 ≠ 0 := by
          unfold intN
          rw [hre, if_neg (by simp), if_pos (by simp only; omega)]
          simp
        rw [fstep, if_pos (.inl hin)]
    have hstep := goF_step (last := lastT 0 L) (left := 16384 - sumL L) (L := L) hkl (hst hx) hb (by omega)
    refine Br.mk (fun hbad => ?_) (fun hgood => ?_)
    · have hbad : b ≤ lastT 0 L ∨ 200 < b ∨ 16384 - sumL L < body.length ∨ 64 ≤ L.length := by simpa using hbad
      rw [if_pos hbad] at hstep
      exact fail hstep _
    · have hgood : ¬ (b ≤ lastT 0 L ∨ 200 < b ∨ 16384 - sumL L < body.length ∨ 64 ≤ L.length) := by simpa using hgood
      rw [if_neg hgood] at hstep
      refine Br.f (by simp; omega) (wr_i64 (by omega) (by omega) (wr_i64 (by omega) (by omega) ⟨by simp, ⟨by omega, L ++ [(b, body)], hL2, ?_, ?_, ?_⟩, by omega⟩))
      · rw [right_snoc hR, decide_eq_false hgood]; rfl
      · rw [sumL_app]; simp only [sumL]; omega
      · rw [hg, hstep, lastT_snoc, sumL_app]
        simp only [sumL]
        congr 1
        omega
  · have hge := of_decide_eq_false hge
    intro a4 cp I4 l4 hrow
    have hy : yields bs k = [] := by rw [yields, dif_neg (by omega)]
    rw [hy, goF] at hg
    have : readF bs = (L, 0, 0) := by rw [hrd0, hg]; rfl
    rw [this]
    obtain ⟨a3, n3, c3, e1, e2⟩ := fr_row hrow (hL.mono l4)
    cases e1
    exact ⟨_, _, _, rfl, e2⟩
open Go Go.Proofs Go.SE Go.RowKit
set_option linter.unusedVariables false
theorem sl_pre {I : Mem} {a : Option Addr} {n k : Nat} {xs ys : List Int} (h : SlM I a (n + k) 1 (ints .u8 (xs ++ ys))) (hx : n = xs.length) : SlM I a n 1 (ints .u8 xs) := by
  refine ⟨by rw [ints_len]; omega, fun hn => by have := h.nil hn; omega, Nat.le_trans (by omega) h.max, fun j v hj => h.at_ j v ?_⟩
  have hl := (List.getElem?_eq_some_iff.1 hj).1
  unfold ints at hj hl ⊢
  rw [List.map_append, List.getElem?_append_left hl]
  exact hj
theorem ct15 (bs : List Int) (hbs : byteL bs) (a : Option Addr) (n c : Nat) (I : Mem) (h : SlM I a n 1 (ints .u8 bs)) (hc : n ≤ c) (hm : c ≤ maxLen) :
    Ct Try.prog (fnv 15) #[.slice a n c] I (fun v _ => v = .bool true) := by
  refine viaR (ct_via (A := { calls := [(17, .g), (29, .g), (42, .g)] }) Try.func15 rfl Try.call15 rfl rfl) (Br (decide ((20000 : Int) < (↑n : Int))) (Value.bool true = Value.bool true) (Ct Try.prog (Value.func (Fn.func (35 : Nat)) #[] #[]) #[Value.slice a n c] I fun (v : Value) (I' : Mem) => ∃ (a_1 : Option Addr), ∃ (n_1 : Nat), ∃ (c_1 : Nat), v = Value.slice a_1 n_1 c_1 ∧ CtH Try.prog (Value.func (Fn.func (17 : Nat)) #[] #[]) #[Value.slice a_1 n_1 c_1] I' (fun (x : Nat) => none) fun (v : Value) (I' G' : Mem) => ∃ (a_2 : Option Addr), ∃ (n_2 : Nat), ∃ (c_2 : Nat), ∃ (n_3 : Int), ∃ (n_4 : Int), v = Value.tuple #[Value.slice a_2 n_2 c_2, Value.int IntKind.i64 n_3, Value.int IntKind.i64 n_4] ∧ Ct Try.prog (Value.func (Fn.func (36 : Nat)) #[] #[]) #[Value.slice a n c] I' fun (v : Value) (I' : Mem) => ∃ (a_3 : Option Addr), ∃ (n_5 : Nat), ∃ (c_3 : Nat), ∃ (n_6 : Int), ∃ (n_7 : Int), v = Value.tuple #[Value.slice a_3 n_5 c_3, Value.int IntKind.i64 n_6, Value.int IntKind.i64 n_7] ∧ CtH Try.prog (Value.func (Fn.func (37 : Nat)) #[] #[]) #[Value.slice a_2 n_2 c_2, Value.slice a_3 n_5 c_3] I' G' fun (v : Value) (I' G' : Mem) => ∃ (b : Bool), v = Value.bool b ∧ Br (!b) (Value.bool false = Value.bool true) (Br (n_3 != n_6) (Value.bool false = Value.bool true) (Br (n_4 != n_7) (Value.bool false = Value.bool true) (CtH Try.prog (Value.func (Fn.func (38 : Nat)) #[] #[]) #[Value.slice a_2 n_2 c_2] I' G' fun (v : Value) (I' G' : Mem) => v = Value.tuple #[] ∧ Ct Try.prog (Value.func (Fn.func (39 : Nat)) #[] #[]) #[Value.slice a_1 n_1 c_1, Value.slice a n c] I' fun (v : Value) (I' : Mem) => ∃ (b : Bool), v = Value.bool b ∧ Value.bool b = Value.bool true))))) (by kernel_rfl) ?_
  have hnl := h.numLen
  refine Br.mk (fun _ => rfl) (fun hlt => ?_)
  have hlt := of_decide_eq_false hlt
  refine (ct35 bs a n c I h (by omega)).mono fun v I1 l1 ⟨a1, cp, hv, hcp, hcm, hs1⟩ => ⟨_, _, _, hv, ?_⟩
  have hs2 := sl_pre hs1 hnl
  refine (ct_own (ct17N bs hbs a1 n cp I1 hs2 (by omega) (by omega) hcm)).mono ?_
  rintro v I2 G2 _ ⟨rfl, J, lJ, ⟨a2, n2, c2, hv, hF, hn2, hc2, hO⟩, rfl⟩
  refine ⟨_, _, _, _, _, hv, (ct36 bs hbs a n c I2 (h.mono l1) (by omega) hc hm).mono fun v I3 l3 ⟨a3, n3, c3, hv, hF3, hn3, hc3⟩ => ⟨_, _, _, _, _, hv, ?_⟩⟩
  have hmx := hF.len
  have hn2b : n2 ≤ 1000000 := by
    rcases read_cases bs hbs with ⟨_, _, hr, _⟩ | ⟨hr, _⟩
    · have := (rightF_iff.1 hr).2
      omega
    · rw [hr] at hmx
      simp at hmx
      omega
  refine (ct_both fun hap => ct37 _ _ _ _ _ _ _ _ _ (hF.mono (Mem.le_trans (le_gained lJ) (both_mono l3 hap))) (hF3.mono (both_le _ _)) hn2b).mono ?_
  rintro v I4 G4 _ ⟨rfl, rfl, _, hv⟩
  refine ⟨_, hv, Br.f (by simp) (Br.f (by simp) (Br.f (by simp) ((ct38 a2 n2 c2 _ _ hn2 hc2 (hO _)).mono fun v I5 G5 l5 hv => ⟨hv, ?_⟩)))⟩
  exact (ct39 bs bs a1 n cp a n c I5 (hs1.mono (Mem.le_trans l3 l5)) rfl rfl hcp (h.mono (Mem.le_trans l1 (Mem.le_trans l3 l5))) (by omega)).mono fun v I6 l6 hv => ⟨_, hv, rfl⟩
theorem ct4 (I : Mem) (a : Option Addr) (n c : Nat) (bs : List Int) (h : SlM I a n 1 (ints .u8 bs)) (hc : n ≤ c) (hm : c ≤ maxLen) (hbs : ∀ z ∈ bs, 0 ≤ z ∧ z ≤ 255) :
    Ct Try.prog (fnv 4) #[.slice a n c] I (fun v _ => v = .bool true) := by
  refine viaR (ct_via (A := { }) Try.func4 rfl Try.call4 rfl rfl) (Ct Try.prog (Value.func (Fn.func (15 : Nat)) #[] #[]) #[Value.slice a n c] I fun (v : Value) (I' : Mem) => ∃ (b : Bool), v = Value.bool b ∧ Br b (Ct Try.prog (Value.func (Fn.func (12 : Nat)) #[] #[]) #[] I' fun (v : Value) (I' : Mem) => ∃ (b : Bool), v = Value.bool b ∧ Value.bool b = Value.bool true) (Value.bool false = Value.bool true)) (by kernel_rfl) ?_
  exact (ct15 bs hbs a n c I h hc hm).mono fun v I1 l1 hv => ⟨_, hv, Br.t rfl ((ct12 I1).mono fun v I2 l2 hv => ⟨_, hv, rfl⟩)⟩
open Go Go.Proofs Go.SE Go.RowKit
set_option linter.unusedVariables false
theorem readN_bad (bs : List Int) (at_ : Int) : (readN bs at_).2.2 ≠ 0 → (readN bs at_).1 = 0 ∧ (readN bs at_).2.1 = 0 := by
  unfold readN
  split
  · simp
  · split
    · simp
    · split
      · simp
      · split
        · simp
        · split
          · simp
          · split
            · simp
            · split <;> simp
theorem ct49 (bs : List Int) (hbs : ∀ b ∈ bs, 0 ≤ b ∧ b ≤ 255) (a : Option Addr) (n c : Nat) (I : Mem) (h : SlM I a n 1 (ints .u8 bs)) (hl : n ≤ 1000000000) (hc : n ≤ c) :
    Ct Try.prog (fnv 49) #[.slice a n c] I (fun v _ => v = T3 (lastN bs)) := by
  refine viaR (ct_via (A := {}) Try.func49 rfl Try.call49 rfl rfl) (Ct Try.prog (Value.func (Fn.func (54 : Nat)) #[] #[]) #[Value.slice a n c, Value.int IntKind.i64 (0 : Int)] I fun (v : Value) (I' : Mem) => ∃ (n_1 : Int), ∃ (n_2 : Int), ∃ (n_3 : Int), v = Value.tuple #[Value.int IntKind.u64 n_1, Value.int IntKind.i64 n_2, Value.int IntKind.i64 n_3] ∧ Br (n_3 == (0 : Int)) (Br (n_2 != (↑n : Int)) (Value.tuple #[Value.int IntKind.u64 (0 : Int), Value.int IntKind.i64 (0 : Int), Value.int IntKind.i64 (11 : Int)] = Value.tuple #[Value.int IntKind.u64 (Prod.fst (lastN bs)), Value.int IntKind.i64 (Prod.fst (Prod.snd (lastN bs))), Value.int IntKind.i64 (Prod.snd (Prod.snd (lastN bs)))]) (Value.tuple #[Value.int IntKind.u64 n_1, Value.int IntKind.i64 n_2, Value.int IntKind.i64 n_3] = Value.tuple #[Value.int IntKind.u64 (Prod.fst (lastN bs)), Value.int IntKind.i64 (Prod.fst (Prod.snd (lastN bs))), Value.int IntKind.i64 (Prod.snd (Prod.snd (lastN bs)))])) (Value.tuple #[Value.int IntKind.u64 n_1, Value.int IntKind.i64 n_2, Value.int IntKind.i64 n_3] = Value.tuple #[Value.int IntKind.u64 (Prod.fst (lastN bs)), Value.int IntKind.i64 (Prod.fst (Prod.snd (lastN bs))), Value.int IntKind.i64 (Prod.snd (Prod.snd (lastN bs)))])) (by kernel_rfl) ?_
  refine (ct54 bs hbs a n c 0 (by omega) I h hl hc).mono fun v I1 l1 hv => ?_
  have hnl := h.numLen
  have hbad := readN_bad bs 0
  rcases hr : readN bs 0 with ⟨x, m, e⟩
  rw [hr] at hv hbad
  refine ⟨_, _, _, hv, ?_⟩
  unfold lastN
  rw [hr]
  refine Br.mk (fun he => ?_) (fun he => ?_)
  · have he : e = 0 := by simpa using he
    subst he
    obtain ⟨g0, g1, g2, g3, g4, g5, g6⟩ := readN_back hbs hr
    refine Br.mk (fun hm => ?_) (fun hm => ?_)
    · have hm : m ≠ n := by simpa using hm
      rw [if_neg (by simp), if_pos (by simp only; omega)]
    · have hm : m = n := by simpa using hm
      rw [if_neg (by simp), if_neg (by simp only; omega)]
  · have he : e ≠ 0 := by simpa using he
    obtain ⟨h1, h2⟩ := hbad he
    simp only at h1 h2
    rw [if_pos he, h1, h2]
theorem ct44 (l : List (Int × List Int)) (hb : ∀ f ∈ l, f.2.length ≤ 1000000) (t : Int) (a : Option Addr) (n c : Nat) (I : Mem) (h : FldM I a n l) (hn : n ≤ 1000000) :
    Ct Try.prog (fnv 44) #[.slice a n c, .int .i64 t] I (fun v I' => ∃ y, v = .tuple #[y, .bool (l.find? fun f => f.1 == t).isSome] ∧ BySl I' y (((l.find? fun f => f.1 == t).map (·.2)).getD [])) := by
  refine viaR (ct_via (A := { loops := [(2, ⟨[(0, .keep), (1, .keep), (6, .sh (.int .i64))], [], [], fun vals _ _ _ => match vals with | [.int .i64 j] => 0 ≤ j ∧ j ≤ n ∧ (l.find? fun f => f.1 == t) = ((l.drop j.toNat).find? fun f => f.1 == t) | _ => False, fun vals _ => match vals with | [.int .i64 j] => (n - j).toNat | _ => 0⟩)] }) Try.func44 rfl Try.call44 rfl rfl) ((SV.v (Value.slice a n c) = SV.v (Value.slice a n c) ∧ SV.v (Value.int IntKind.i64 t) = SV.v (Value.int IntKind.i64 t) ∧ (0 : Int) ≤ (0 : Int) ∧ (0 : Int) ≤ (↑n : Int) ∧ List.find? (fun (f : Int × List Int) => Prod.fst f == t) l = List.find? (fun (f : Int × List Int) => Prod.fst f == t) l) ∧ ∀ (I' G' : Mem), Mem.le I I' → ∀ (n_1 : Int), (0 : Int) ≤ n_1 ∧ n_1 ≤ (↑n : Int) ∧ List.find? (fun (f : Int × List Int) => Prod.fst f == t) l = List.find? (fun (f : Int × List Int) => Prod.fst f == t) (List.drop (Int.toNat n_1) l) → Br (decide (n_1 < (↑n : Int))) ((0 : Int) ≤ n_1 ∧ n_1 < (↑n : Int) ∧ Option.isSome a = true ∧ Option.isSome a = true ∧ ∃ (n_2 : Int), atI I' a (Int.toNat n_1 * (2 : Nat) + (0 : Nat) + (0 : Nat)) = some (Value.int IntKind.i64 n_2) ∧ Br (n_2 == t) ((0 : Int) ≤ n_1 ∧ n_1 < (↑n : Int) ∧ Option.isSome a = true ∧ Option.isSome a = true ∧ ∃ (a_3 : Option Addr), ∃ (n : Nat), ∃ (c : Nat), atI I' a (Int.toNat n_1 * (2 : Nat) + (1 : Nat) + (0 : Nat)) = some (Value.slice a_3 n c) ∧ Ct Try.prog (Value.func (Fn.func (55 : Nat)) #[] #[]) #[Value.slice a_3 n c] I' fun (v : Value) (I' : Mem) => ∃ (a : Option Addr), ∃ (n : Nat), ∃ (c : Nat), v = Value.slice a n c ∧ ∃ (y : Value), Value.tuple #[Value.slice a n c, Value.bool true] = Value.tuple #[y, Value.bool (Option.isSome (List.find? (fun (f : Int × List Int) => Prod.fst f == t) l))] ∧ ∃ (b : Option Addr), ∃ (m : Nat), ∃ (c : Nat), y = Value.slice b m c ∧ SlM I' b m (1 : Nat) (List.map (Value.int IntKind.u8) (Option.getD (Option.map (fun (x : Int × List Int) => Prod.snd x) (List.find? (fun (f : Int × List Int) => Prod.fst f == t) l)) [])) ∧ m ≤ c ∧ c ≤ (9223372036854775807 : Nat)) (Wr IntKind.i64 (n_1 + (1 : Int)) fun (c_1 : Int) => SV.v (Value.slice a n c) = SV.v (Value.slice a n c) ∧ SV.v (Value.int IntKind.i64 t) = SV.v (Value.int IntKind.i64 t) ∧ ((0 : Int) ≤ c_1 ∧ c_1 ≤ (↑n : Int) ∧ List.find? (fun (f : Int × List Int) => Prod.fst f == t) l = List.find? (fun (f : Int × List Int) => Prod.fst f == t) (List.drop (Int.toNat c_1) l)) ∧ Int.toNat ((↑n : Int) - c_1) < Int.toNat ((↑n : Int) - n_1))) (∃ (y : Value), Value.tuple #[Value.slice none (0 : Nat) (0 : Nat), Value.bool false] = Value.tuple #[y, Value.bool (Option.isSome (List.find? (fun (f : Int × List Int) => Prod.fst f == t) l))] ∧ ∃ (b : Option Addr), ∃ (m : Nat), ∃ (c : Nat), y = Value.slice b m c ∧ SlM I' b m (1 : Nat) (List.map (Value.int IntKind.u8) (Option.getD (Option.map (fun (x : Int × List Int) => Prod.snd x) (List.find? (fun (f : Int × List Int) => Prod.fst f == t) l)) [])) ∧ m ≤ c ∧ c ≤ (9223372036854775807 : Nat))) (by kernel_rfl) ?_
  simp only [eq_self, true_and, and_true]
  have hl := h.len
  refine ⟨⟨by omega, by omega⟩, fun I1 _ l1 j ⟨h0, h1, h2⟩ => Br.mk (fun hlt => ?_) (fun hge => ?_)⟩
  · have hlt := of_decide_eq_true hlt
    obtain ⟨f, b, m, c', hf, hok, e1, e2, hs, hm1, hm2⟩ := (h.mono l1).at_ h0 hlt
    have hm := hs.numLen
    have hfb := hb f (List.mem_of_getElem? hf)
    rw [drop_cons hf, List.find?_cons] at h2
    have hsome := h.isSome (by omega)
    refine ⟨h0, hlt, hsome, hsome, f.1, e1, Br.mk (fun he => ?_) (fun he => ?_)⟩
    · rw [he] at h2
      refine ⟨h0, hlt, hsome, hsome, b, m, c', e2, (ct55 f.2 _ _ _ I1 hs (by omega)).mono fun v I2 l2 hv => ?_⟩
      have hv2 := hv
      obtain ⟨b2, m2, c2, rfl, _⟩ := hv
      rw [h2]
      exact ⟨_, _, _, rfl, _, rfl, hv2⟩
    · rw [he] at h2
      exact wr_i64 (by omega) (by omega) ⟨⟨by omega, by omega, by rw [h2, show (j + 1).toNat = j.toNat + 1 by omega]⟩, by omega⟩
  · have hge := of_decide_eq_false hge
    rw [List.drop_eq_nil_of_le (by omega)] at h2
    rw [h2]
    exact ⟨_, rfl, none, 0, 0, rfl, sl_nil _ _, by omega, by omega⟩
theorem ct25 (l : List (Int × List Int)) (hb : ∀ f ∈ l, f.2.length ≤ 1000000) (a : Option Addr) (n c : Nat) (I : Mem) (h : FldM I a n l) (hn : n ≤ 1000000) :
    Ct Try.prog (fnv 25) #[.slice a n c] I (fun v I' => ∃ a' n' c', v = .tuple #[.slice a' n' c', .int .i64 (if rightF l then 0 else 20)] ∧ SlM I' a' n' 1 (ints .u8 (if rightF l then writeF l else [])) ∧ n' ≤ c' ∧ c' ≤ maxLen) := by
  refine viaR (ct_via (A := { loops := [(5, ⟨[(0, .keep), (4, .row 0), (5, .sh (.int .i64))], [(0, .row)], [(4, 1, 5)], fun vals xss I' _ => match vals, xss with | [.int .i64 j], [xs] => 0 ≤ j ∧ j ≤ n ∧ xs = ints .u8 (writeF (l.take j.toNat)) ∧ rightF l = true | _, _ => False, fun vals _ => match vals with | [.int .i64 j] => (n - j).toNat | _ => 0⟩)] }) Try.func25 rfl Try.call25 rfl rfl) (Ct Try.prog (Value.func (Fn.func (45 : Nat)) #[] #[]) #[Value.slice a n c] I fun (v : Value) (I' : Mem) => ∃ (b : Bool), v = Value.bool b ∧ Br (!b) (∃ (a' : Option Addr), ∃ (n' : Nat), ∃ (c' : Nat), Value.tuple #[Value.slice none (0 : Nat) (0 : Nat), Value.int IntKind.i64 (20 : Int)] = Value.tuple #[Value.slice a' n' c', Value.int IntKind.i64 (if rightF l = true then (0 : Int) else (20 : Int))] ∧ SlM I' a' n' (1 : Nat) (List.map (Value.int IntKind.u8) (if rightF l = true then writeF l else [])) ∧ n' ≤ c' ∧ c' ≤ (9223372036854775807 : Nat)) ((SV.v (Value.slice a n c) = SV.v (Value.slice a n c) ∧ (0 : Nat) = (0 : Nat) ∧ (0 : Int) ≤ (0 : Int) ∧ (0 : Int) ≤ (↑n : Int) ∧ ([] : List Value) = [] ∧ rightF l = true) ∧ ∀ (I'_1 G' : Mem), Mem.le I' I'_1 → ∀ (xs : List Value) (n_1 : Int), (0 : Int) ≤ n_1 ∧ n_1 ≤ (↑n : Int) ∧ xs = List.map (Value.int IntKind.u8) (writeF (List.take (Int.toNat n_1) l)) ∧ rightF l = true → Br (decide (n_1 < (↑n : Int))) ((0 : Int) ≤ n_1 ∧ n_1 < (↑n : Int) ∧ Option.isSome a = true ∧ Option.isSome a = true ∧ ∃ (n_2 : Int), atI I'_1 a (Int.toNat n_1 * (2 : Nat) + (0 : Nat) + (0 : Nat)) = some (Value.int IntKind.i64 n_2) ∧ Wr IntKind.u8 n_2 fun (c_1 : Int) => List.length xs = List.length xs * (1 : Nat) ∧ List.length xs + (1 : Nat) ≤ (9223372036854775807 : Nat) ∧ (List.length xs + (1 : Nat)) * (1 : Nat) ≤ (140737488355328 : Nat) ∧ (0 : Int) ≤ n_1 ∧ n_1 < (↑n : Int) ∧ Option.isSome a = true ∧ Option.isSome a = true ∧ ∃ (a_3 : Option Addr), ∃ (n_3 : Nat), ∃ (c_2 : Nat), atI I'_1 a (Int.toNat n_1 * (2 : Nat) + (1 : Nat) + (0 : Nat)) = some (Value.slice a_3 n_3 c_2) ∧ Wr IntKind.u64 (↑n_3 : Int) fun (c_3 : Int) => Ct Try.prog (Value.func (Fn.func (50 : Nat)) #[] #[]) #[Value.int IntKind.u64 c_3] I'_1 fun (v : Value) (I' : Mem) => ∃ (a_4 : Option Addr), ∃ (n_4 : Nat), ∃ (c_4 : Nat), v = Value.slice a_4 n_4 c_4 ∧ ∃ (ys : List Value), List.length ys = n_4 * (1 : Nat) ∧ (a_4 = none → n_4 = (0 : Nat)) ∧ (∀ (j : Nat) (v : Value), ys[j]? = some v → atI I' a_4 j = some v) ∧ (∀ (v : Value), v ∈ ys → Value.oneCell' v = true) ∧ List.length (xs ++ [Value.int IntKind.u8 c_1]) = (List.length xs + (1 : Nat)) * (1 : Nat) ∧ List.length xs + (1 : Nat) + n_4 ≤ (9223372036854775807 : Nat) ∧ (List.length xs + (1 : Nat) + n_4) * (1 : Nat) ≤ (140737488355328 : Nat) ∧ (0 : Int) ≤ n_1 ∧ n_1 < (↑n : Int) ∧ Option.isSome a = true ∧ Option.isSome a = true ∧ ∃ (a_5 : Option Addr), ∃ (n_5 : Nat), ∃ (c_5 : Nat), atI I' a (Int.toNat n_1 * (2 : Nat) + (1 : Nat) + (0 : Nat)) = some (Value.slice a_5 n_5 c_5) ∧ ∃ (ys_1 : List Value), List.length ys_1 = n_5 * (1 : Nat) ∧ (a_5 = none → n_5 = (0 : Nat)) ∧ (∀ (j : Nat) (v : Value), ys_1[j]? = some v → atI I' a_5 j = some v) ∧ (∀ (v : Value), v ∈ ys_1 → Value.oneCell' v = true) ∧ List.length (xs ++ [Value.int IntKind.u8 c_1] ++ ys) = (List.length xs + (1 : Nat) + n_4) * (1 : Nat) ∧ List.length xs + (1 : Nat) + n_4 + n_5 ≤ (9223372036854775807 : Nat) ∧ (List.length xs + (1 : Nat) + n_4 + n_5) * (1 : Nat) ≤ (140737488355328 : Nat) ∧ Wr IntKind.i64 (n_1 + (1 : Int)) fun (c_6 : Int) => SV.v (Value.slice a n c) = SV.v (Value.slice a n c) ∧ List.length xs + (1 : Nat) + n_4 + n_5 = List.length (xs ++ [Value.int IntKind.u8 c_1] ++ ys ++ ys_1) ∧ ((0 : Int) ≤ c_6 ∧ c_6 ≤ (↑n : Int) ∧ xs ++ [Value.int IntKind.u8 c_1] ++ ys ++ ys_1 = List.map (Value.int IntKind.u8) (writeF (List.take (Int.toNat c_6) l)) ∧ rightF l = true) ∧ Int.toNat ((↑n : Int) - c_6) < Int.toNat ((↑n : Int) - n_1)) (∀ (a : Option Addr) (cp : Nat) (I' : Mem), Mem.le I'_1 I' → RowM I' a cp (1 : Nat) xs → ∃ (a' : Option Addr), ∃ (n' : Nat), ∃ (c' : Nat), Value.tuple #[Value.slice a (List.length xs) cp, Value.int IntKind.i64 (0 : Int)] = Value.tuple #[Value.slice a' n' c', Value.int IntKind.i64 (if rightF l = true then (0 : Int) else (20 : Int))] ∧ SlM I' a' n' (1 : Nat) (List.map (Value.int IntKind.u8) (if rightF l = true then writeF l else [])) ∧ n' ≤ c' ∧ c' ≤ (9223372036854775807 : Nat)))) (by kernel_rfl) ?_
  have hl := h.len
  refine (ct45 l a n c I h hb).mono fun v I0 l0 hv => ⟨_, hv, Br.mk (fun hr => ?_) (fun hr => ?_)⟩
  · have hr : rightF l = false := by simpa using hr
    rw [hr]
    exact ⟨none, 0, 0, rfl, sl_nil _ _, by omega, by omega⟩
  have hr : rightF l = true := by simpa using hr
  obtain ⟨hs, hl64⟩ := rightF_iff.1 hr
  refine ⟨⟨rfl, rfl, by omega, by omega, rfl, hr⟩, fun I1 _ l1 xs j ⟨h0, h1, h2, _⟩ => Br.mk (fun hlt => ?_) (fun hge => ?_)⟩
  · have hlt := of_decide_eq_true hlt
    obtain ⟨f, b, m, c', hf, hok, e1, e2, hfs, hm1, hm2⟩ := (h.mono (Mem.le_trans l0 l1)).at_ h0 hlt
    have hm := hfs.numLen
    have hfr := right_at hs f (List.mem_of_getElem? hf)
    have hsome := h.isSome (by omega)
    have hwl := right_len (by omega) hs j.toNat
    have hxl : xs.length = (writeF (l.take j.toNat)).length := by rw [h2]; exact ints_len
    refine ⟨h0, hlt, hsome, hsome, f.1, e1, _, IntWalk.u8_in f.1 ⟨by omega, by omega⟩, by omega, by omega, by omega, h0, hlt, hsome, hsome, b, m, c', e2, _, IntWalk.u64_in _ ⟨by omega, by omega⟩, ?_⟩
    refine (ct50 (m : Int) ⟨by omega, by omega⟩ I1).mono fun v I2 l2 ⟨b2, m2, c2, hv, hs2, hm3, hm4⟩ => ⟨b2, m2, c2, hv, ?_⟩
    rw [Int.toNat_natCast] at hs2
    have hm2 := hs2.numLen
    have hf9 := formN_le m (by omega)
    obtain ⟨f2, b', m', c2', hf', _, _, e2', hfs', _⟩ := (h.mono (Mem.le_trans l0 (Mem.le_trans l1 l2))).at_ h0 hlt
    rw [hf] at hf'
    cases hf'
    refine ⟨_, hs2.len, hs2.nil, hs2.at_, one_ints, by simp, by omega, by omega, h0, hlt, hsome, hsome, b', m', c2', e2', _, hfs'.len, hfs'.nil, hfs'.at_, one_ints, ?_, ?_, ?_, wr_i64 (by omega) (by omega) ⟨rfl, ?_, ⟨by omega, by omega, ?_, hr⟩, by omega⟩⟩
    · simp [ints_len]; omega
    · have := hfs'.numLen; omega
    · have := hfs'.numLen; omega
    · have := hfs'.numLen
      simp [ints_len]; omega
    · rw [h2, show (j + 1).toNat = j.toNat + 1 by omega, take_succ' hf, writeF_app, show writeF [f] = f.1 :: (formN f.2.length ++ f.2) by simp [writeF], ← hm]
      simp [ints]
  · have hge := of_decide_eq_false hge
    intro a4 cp I4 l4 hrow
    rw [List.take_of_length_le (by omega)] at h2
    have hxl : xs.length = (writeF l).length := by rw [h2]; exact ints_len
    refine ⟨a4, xs.length, cp, ?_, ?_, ?_, hrow.2.1⟩
    · rw [hr]; rfl
    · rw [if_pos hr, ← h2]; exact hrow.sl (by omega) (by omega)
    · have := hrow.1; omega
theorem ct43 (l : List (Int × List Int)) (hb : ∀ f ∈ l, f.2.length ≤ 140737488351232) (a : Option Addr) (n c : Nat) (I : Mem) (h : FldM I a n l) :
    Ct Try.prog (fnv 43) #[.slice a n c] I (fun v I' => ∃ b, v = .bool b ∧ (b = true → n ≤ 70 ∧ sumL l ≤ 20000)) := by
  refine viaR (ct_via (A := { loops := [(3, ⟨[(0, .keep), (3, .sh (.int .i64)), (6, .keep), (7, .keep), (8, .sh (.int .i64))], [], [], fun vals _ _ _ => match vals with | [.int .i64 sum, .int .i64 j] => 0 ≤ j ∧ j ≤ n ∧ (n ≤ 70 → sum = sumL (l.take j.toNat)) | _ => False, fun vals _ => match vals with | [_, .int .i64 j] => (n - j).toNat | _ => 0⟩)] }) Try.func43 rfl Try.call43 rfl rfl) ((SV.v (Value.slice a n c) = SV.v (Value.slice a n c) ∧ SV.v (Value.slice a n c) = SV.v (Value.slice a n c) ∧ SV.v (Value.int IntKind.i64 (↑n : Int)) = SV.v (Value.int IntKind.i64 (↑n : Int)) ∧ (0 : Int) ≤ (0 : Int) ∧ (0 : Int) ≤ (↑n : Int) ∧ (n ≤ (70 : Nat) → (0 : Int) = (0 : Int))) ∧ ∀ (I' G' : Mem), Mem.le I I' → ∀ (n_1 n_2 : Int), (0 : Int) ≤ n_2 ∧ n_2 ≤ (↑n : Int) ∧ (n ≤ (70 : Nat) → n_1 = sumL (List.take (Int.toNat n_2) l)) → Br (decide (n_2 < (↑n : Int))) ((0 : Int) ≤ n_2 ∧ n_2 < (↑n : Int) ∧ Option.isSome a = true ∧ (2 : Nat) = (2 : Nat) ∧ ∃ (n_3 : Int), atI I' a (Int.toNat n_2 * (2 : Nat) + (0 : Nat)) = some (Value.int IntKind.i64 n_3) ∧ ∃ (a_3 : Option Addr), ∃ (n_4 : Nat), ∃ (c_1 : Nat), atI I' a (Int.toNat n_2 * (2 : Nat) + (1 : Nat)) = some (Value.slice a_3 n_4 c_1) ∧ Wr IntKind.i64 (n_1 + (↑n_4 : Int)) fun (c_2 : Int) => Wr IntKind.i64 (n_2 + (1 : Int)) fun (c_3 : Int) => SV.v (Value.slice a n c) = SV.v (Value.slice a n c) ∧ SV.v (Value.slice a n c) = SV.v (Value.slice a n c) ∧ SV.v (Value.int IntKind.i64 (↑n : Int)) = SV.v (Value.int IntKind.i64 (↑n : Int)) ∧ ((0 : Int) ≤ c_3 ∧ c_3 ≤ (↑n : Int) ∧ (n ≤ (70 : Nat) → c_2 = sumL (List.take (Int.toNat c_3) l))) ∧ Int.toNat ((↑n : Int) - c_3) < Int.toNat ((↑n : Int) - n_2)) (Br (decide ((↑n : Int) ≤ (70 : Int))) (∃ (b : Bool), Value.bool (decide (n_1 ≤ (20000 : Int))) = Value.bool b ∧ (b = true → n ≤ (70 : Nat) ∧ sumL l ≤ (20000 : Int))) (∃ (b : Bool), Value.bool false = Value.bool b ∧ (b = true → n ≤ (70 : Nat) ∧ sumL l ≤ (20000 : Int))))) (by kernel_rfl) ?_
  have hl := h.len
  have hmx := h.max
  refine ⟨⟨rfl, rfl, rfl, by omega, by omega, fun _ => rfl⟩, fun I1 _ l1 sum j ⟨h0, h1, h2⟩ => Br.mk (fun hlt => ?_) (fun hge => ?_)⟩
  · have hlt := of_decide_eq_true hlt
    have hm9 : maxLen = 9223372036854775807 := by decide
    obtain ⟨f, b, m, c', hf, hok, e1, e2, hfs, hm1, hm2⟩ := (h.mono l1).at_ h0 hlt
    have hm := hfs.numLen
    have hfb := hb f (List.mem_of_getElem? hf)
    refine ⟨h0, hlt, h.isSome (by omega), rfl, f.1, e1, b, m, c', e2, _, rfl, wr_i64 (by omega) (by omega) ⟨rfl, rfl, rfl, ⟨by omega, by omega, fun h70 => ?_⟩, by omega⟩⟩
    have hs := h2 h70
    have hsb := sumL_take (l := l) (B := 140737488351232) (fun f hf => by have := hb f hf; omega) j.toNat (by omega)
    have hs0 := sumL_nonneg (l.take j.toNat)
    rw [IntWalk.i64_in _ ⟨by omega, by omega⟩, hs, show (j + 1).toNat = j.toNat + 1 by omega, take_succ' hf, sumL_app]
    simp only [sumL]; omega
  · have hge := of_decide_eq_false hge
    refine Br.mk (fun h70 => ⟨_, rfl, fun hs => ?_⟩) (fun h70 => ⟨_, rfl, fun hs => by cases hs⟩)
    have h70 := of_decide_eq_true h70
    have hs := of_decide_eq_true hs
    have := h2 (by omega)
    rw [List.take_of_length_le (by omega)] at this
    exact ⟨by omega, by omega⟩
open Go Go.Proofs Go.SE Go.RowKit
set_option linter.unusedVariables false
theorem setR_true {f : Int × List Int} : ∀ {r : List (Int × List Int)} {a : Int}, f.1 ≤ a → chainT a r = true → setR f true r = r ∧ r.filter (fun x => decide (f.1 < x.1)) = r
  | [], a, _, _ => ⟨rfl, rfl⟩
  | x :: r, a, ha, h => by
    simp only [chainT, Bool.and_eq_true, decide_eq_true_eq] at h
    obtain ⟨h1, h2⟩ := setR_true (f := f) (r := r) (a := x.1) (by omega) h.2.2
    have hne : x.1 ≠ f.1 := by omega
    have hlt : f.1 < x.1 := by omega
    rw [setR, if_pos hne, h1, List.filter_cons, h2, if_pos (by simpa using hlt)]
    exact ⟨rfl, rfl⟩
theorem setR_eq {f : Int × List Int} : ∀ {l : List (Int × List Int)} {a : Int}, chainT a l = true → setR f false l = l.takeWhile (fun x => decide (x.1 < f.1)) ++ f :: l.filter (fun x => decide (f.1 < x.1))
  | [], a, _ => rfl
  | x :: r, a, h => by
    simp only [chainT, Bool.and_eq_true, decide_eq_true_eq] at h
    rw [setR]
    by_cases hx : f.1 ≤ x.1
    · obtain ⟨h1, h2⟩ := setR_true (f := f) (r := r) (a := x.1) hx h.2.2
      have t1 : (x :: r).takeWhile (fun x => decide (x.1 < f.1)) = [] := by
        rw [List.takeWhile_cons, if_neg]
        simpa using hx
      rw [if_pos hx, h1, t1]
      by_cases he : x.1 = f.1
      · have t2 : (x :: r).filter (fun x => decide (f.1 < x.1)) = r := by
          rw [List.filter_cons, if_neg, h2]
          simp only [decide_eq_true_eq]; omega
        rw [if_neg (fun hh : x.1 ≠ f.1 => hh he), t2]; rfl
      · have t2 : (x :: r).filter (fun x => decide (f.1 < x.1)) = x :: r := by
          rw [List.filter_cons, if_pos, h2]
          simp only [decide_eq_true_eq]; omega
        rw [if_pos (show x.1 ≠ f.1 from he), t2]; rfl
    · have t1 : (x :: r).takeWhile (fun x => decide (x.1 < f.1)) = x :: r.takeWhile (fun x => decide (x.1 < f.1)) := by
        rw [List.takeWhile_cons, if_pos]
        simp only [decide_eq_true_eq]; omega
      have t2 : (x :: r).filter (fun x => decide (f.1 < x.1)) = r.filter (fun x => decide (f.1 < x.1)) := by
        rw [List.filter_cons, if_neg]
        simp only [decide_eq_true_eq]; omega
      rw [if_neg hx, setR_eq h.2.2, t1, t2]; rfl
theorem ct47 (l : List (Int × List Int)) (hb : ∀ f ∈ l, f.2.length ≤ 1000000) (f : Int × List Int) (hok : okFld f) (hfl : f.2.length ≤ 1000000) (a b : Option Addr) (n c m d : Nat) (I : Mem) (h : FldM I a n l) (hn : n ≤ 1000000) (hs : SlM I b m 1 (ints .u8 f.2)) (hmd : m ≤ d) (hd : d ≤ maxLen) :
    Ct Try.prog (fnv 47) #[.slice a n c, .agg #[.int .i64 f.1, .slice b m d]] I (fun v I' => ∃ a' n' c', v = .tuple #[.slice a' n' c', .int .i64 (setF l f).2] ∧ FldM I' a' n' (setF l f).1 ∧ n' ≤ c' ∧ c' ≤ maxLen) := by
  refine viaR (ct_via (A := { calls := [(61, .ro)], cuts := [(8, ⟨[(0, .keep), (3, .keep), (6, .row 1)], [(0, .keep), (1, .row)], [(6, 2, 81)], fun _ xss I' _ => match xss with | [xs] => rightF l = true ∧ FR I' xs (l.takeWhile (fun x => decide (x.1 < f.1))) | _ => False, fun _ _ => 0⟩)], loops := [(5, ⟨[(0, .keep), (3, .keep), (6, .row 1), (7, .sh (.int .i64))], [(0, .keep), (1, .row)], [(6, 2, 81)], fun vals xss I' _ => match vals, xss with | [.int .i64 j], [xs] => 0 ≤ j ∧ j ≤ n ∧ rightF l = true ∧ FR I' xs (l.take j.toNat) ∧ l.takeWhile (fun x => decide (x.1 < f.1)) = l.take j.toNat ++ (l.drop j.toNat).takeWhile (fun x => decide (x.1 < f.1)) | _, _ => False, fun vals _ => match vals with | [.int .i64 j] => (n - j).toNat | _ => 0⟩), (10, ⟨[(0, .keep), (3, .keep), (6, .row 1), (8, .sh (.int .i64))], [(0, .keep), (1, .row)], [(6, 2, 81)], fun vals xss I' _ => match vals, xss with | [.int .i64 j], [xs] => 0 ≤ j ∧ j ≤ n ∧ rightF l = true ∧ FR I' xs (l.takeWhile (fun x => decide (x.1 < f.1)) ++ [f] ++ (l.take j.toNat).filter (fun x => decide (f.1 < x.1))) | _, _ => False, fun vals _ => match vals with | [.int .i64 j] => (n - j).toNat | _ => 0⟩)] }) Try.func47 rfl Try.call47 rfl rfl) (Ct Try.prog (Value.func (Fn.func (45 : Nat)) #[] #[]) #[Value.slice a n c] I fun (v : Value) (I' : Mem) => ∃ (b_1 : Bool), v = Value.bool b_1 ∧ Br (!b_1) (∃ (a' : Option Addr), ∃ (n' : Nat), ∃ (c' : Nat), Value.tuple #[Value.slice none (0 : Nat) (0 : Nat), Value.int IntKind.i64 (20 : Int)] = Value.tuple #[Value.slice a' n' c', Value.int IntKind.i64 (Prod.snd (setF l f))] ∧ FldM I' a' n' (Prod.fst (setF l f)) ∧ n' ≤ c' ∧ c' ≤ (9223372036854775807 : Nat)) (((Ent.mk (EO.cells [SV.v (Value.int IntKind.i64 (Prod.fst f)), SV.v (Value.slice b m d)] (81 : Nat)) none = Ent.mk (EO.cells [SV.v (Value.int IntKind.i64 (Prod.fst f)), SV.v (Value.slice b m d)] (81 : Nat)) none ∧ SV.v (Value.slice a n c) = SV.v (Value.slice a n c) ∧ SV.ptr (0 : Nat) (0 : Nat) = SV.ptr (0 : Nat) (0 : Nat) ∧ (0 : Nat) = (0 : Nat) ∧ (0 : Int) ≤ (0 : Int) ∧ (0 : Int) ≤ (↑n : Int) ∧ rightF l = true ∧ FR I' [] [] ∧ List.takeWhile (fun (x : Int × List Int) => decide (Prod.fst x < Prod.fst f)) l = [] ++ List.takeWhile (fun (x : Int × List Int) => decide (Prod.fst x < Prod.fst f)) l) ∧ ∀ (I'_1 G' : Mem), Mem.le I' I'_1 → ∀ (xs : List Value) (n_1 : Int), (0 : Int) ≤ n_1 ∧ n_1 ≤ (↑n : Int) ∧ rightF l = true ∧ FR I'_1 xs (List.take (Int.toNat n_1) l) ∧ List.takeWhile (fun (x : Int × List Int) => decide (Prod.fst x < Prod.fst f)) l = List.take (Int.toNat n_1) l ++ List.takeWhile (fun (x : Int × List Int) => decide (Prod.fst x < Prod.fst f)) (List.drop (Int.toNat n_1) l) → Br (decide (n_1 < (↑n : Int))) ((0 : Int) ≤ n_1 ∧ n_1 < (↑n : Int) ∧ Option.isSome a = true ∧ Option.isSome a = true ∧ ∃ (n_2 : Int), atI I'_1 a (Int.toNat n_1 * (2 : Nat) + (0 : Nat) + (0 : Nat)) = some (Value.int IntKind.i64 n_2) ∧ Br (decide (n_2 < Prod.fst f)) ((0 : Int) ≤ n_1 ∧ n_1 < (↑n : Int) ∧ Option.isSome a = true ∧ (2 : Nat) = (2 : Nat) ∧ ∃ (n_3 : Int), atI I'_1 a (Int.toNat n_1 * (2 : Nat) + (0 : Nat)) = some (Value.int IntKind.i64 n_3) ∧ ∃ (a_3 : Option Addr), ∃ (n_4 : Nat), ∃ (c_1 : Nat), atI I'_1 a (Int.toNat n_1 * (2 : Nat) + (1 : Nat)) = some (Value.slice a_3 n_4 c_1) ∧ List.length xs = List.length xs / (2 : Nat) * (2 : Nat) ∧ List.length xs / (2 : Nat) + (1 : Nat) ≤ (9223372036854775807 : Nat) ∧ (List.length xs / (2 : Nat) + (1 : Nat)) * (32 : Nat) ≤ (140737488355328 : Nat) ∧ Wr IntKind.i64 (n_1 + (1 : Int)) fun (c_2 : Int) => Ent.mk (EO.cells [SV.v (Value.int IntKind.i64 (Prod.fst f)), SV.v (Value.slice b m d)] (81 : Nat)) none = Ent.mk (EO.cells [SV.v (Value.int IntKind.i64 (Prod.fst f)), SV.v (Value.slice b m d)] (81 : Nat)) none ∧ SV.v (Value.slice a n c) = SV.v (Value.slice a n c) ∧ SV.ptr (0 : Nat) (0 : Nat) = SV.ptr (0 : Nat) (0 : Nat) ∧ List.length xs / (2 : Nat) + (1 : Nat) = List.length (xs ++ [Value.int IntKind.i64 n_3, Value.slice a_3 n_4 c_1]) / (2 : Nat) ∧ ((0 : Int) ≤ c_2 ∧ c_2 ≤ (↑n : Int) ∧ rightF l = true ∧ FR I'_1 (xs ++ [Value.int IntKind.i64 n_3, Value.slice a_3 n_4 c_1]) (List.take (Int.toNat c_2) l) ∧ List.takeWhile (fun (x : Int × List Int) => decide (Prod.fst x < Prod.fst f)) l = List.take (Int.toNat c_2) l ++ List.takeWhile (fun (x : Int × List Int) => decide (Prod.fst x < Prod.fst f)) (List.drop (Int.toNat c_2) l)) ∧ Int.toNat ((↑n : Int) - c_2) < Int.toNat ((↑n : Int) - n_1)) (Ent.mk (EO.cells [SV.v (Value.int IntKind.i64 (Prod.fst f)), SV.v (Value.slice b m d)] (81 : Nat)) none = Ent.mk (EO.cells [SV.v (Value.int IntKind.i64 (Prod.fst f)), SV.v (Value.slice b m d)] (81 : Nat)) none ∧ SV.v (Value.slice a n c) = SV.v (Value.slice a n c) ∧ SV.ptr (0 : Nat) (0 : Nat) = SV.ptr (0 : Nat) (0 : Nat) ∧ List.length xs / (2 : Nat) = List.length xs / (2 : Nat) ∧ rightF l = true ∧ FR I'_1 xs (List.takeWhile (fun (x : Int × List Int) => decide (Prod.fst x < Prod.fst f)) l))) (Ent.mk (EO.cells [SV.v (Value.int IntKind.i64 (Prod.fst f)), SV.v (Value.slice b m d)] (81 : Nat)) none = Ent.mk (EO.cells [SV.v (Value.int IntKind.i64 (Prod.fst f)), SV.v (Value.slice b m d)] (81 : Nat)) none ∧ SV.v (Value.slice a n c) = SV.v (Value.slice a n c) ∧ SV.ptr (0 : Nat) (0 : Nat) = SV.ptr (0 : Nat) (0 : Nat) ∧ List.length xs / (2 : Nat) = List.length xs / (2 : Nat) ∧ rightF l = true ∧ FR I'_1 xs (List.takeWhile (fun (x : Int × List Int) => decide (Prod.fst x < Prod.fst f)) l))) ∧ ∀ (I'_1 G' : Mem), Mem.le I' I'_1 → ∀ (xs : List Value), rightF l = true ∧ FR I'_1 xs (List.takeWhile (fun (x : Int × List Int) => decide (Prod.fst x < Prod.fst f)) l) → List.length xs = List.length xs / (2 : Nat) * (2 : Nat) ∧ List.length xs / (2 : Nat) + (1 : Nat) ≤ (9223372036854775807 : Nat) ∧ (List.length xs / (2 : Nat) + (1 : Nat)) * (32 : Nat) ≤ (140737488355328 : Nat) ∧ (Ent.mk (EO.cells [SV.v (Value.int IntKind.i64 (Prod.fst f)), SV.v (Value.slice b m d)] (81 : Nat)) none = Ent.mk (EO.cells [SV.v (Value.int IntKind.i64 (Prod.fst f)), SV.v (Value.slice b m d)] (81 : Nat)) none ∧ SV.v (Value.slice a n c) = SV.v (Value.slice a n c) ∧ SV.ptr (0 : Nat) (0 : Nat) = SV.ptr (0 : Nat) (0 : Nat) ∧ List.length xs / (2 : Nat) + (1 : Nat) = List.length (xs ++ [Value.int IntKind.i64 (Prod.fst f), Value.slice b m d]) / (2 : Nat) ∧ (0 : Int) ≤ (0 : Int) ∧ (0 : Int) ≤ (↑n : Int) ∧ rightF l = true ∧ FR I'_1 (xs ++ [Value.int IntKind.i64 (Prod.fst f), Value.slice b m d]) (List.takeWhile (fun (x : Int × List Int) => decide (Prod.fst x < Prod.fst f)) l ++ [f] ++ [])) ∧ ∀ (I' G' : Mem), Mem.le I'_1 I' → ∀ (xs : List Value) (n_1 : Int), (0 : Int) ≤ n_1 ∧ n_1 ≤ (↑n : Int) ∧ rightF l = true ∧ FR I' xs (List.takeWhile (fun (x : Int × List Int) => decide (Prod.fst x < Prod.fst f)) l ++ [f] ++ List.filter (fun (x : Int × List Int) => decide (Prod.fst f < Prod.fst x)) (List.take (Int.toNat n_1) l)) → Br (decide (n_1 < (↑n : Int))) ((0 : Int) ≤ n_1 ∧ n_1 < (↑n : Int) ∧ Option.isSome a = true ∧ Option.isSome a = true ∧ ∃ (n_2 : Int), atI I' a (Int.toNat n_1 * (2 : Nat) + (0 : Nat) + (0 : Nat)) = some (Value.int IntKind.i64 n_2) ∧ Br (decide (Prod.fst f < n_2)) ((0 : Int) ≤ n_1 ∧ n_1 < (↑n : Int) ∧ Option.isSome a = true ∧ (2 : Nat) = (2 : Nat) ∧ ∃ (n_3 : Int), atI I' a (Int.toNat n_1 * (2 : Nat) + (0 : Nat)) = some (Value.int IntKind.i64 n_3) ∧ ∃ (a_5 : Option Addr), ∃ (n_4 : Nat), ∃ (c_1 : Nat), atI I' a (Int.toNat n_1 * (2 : Nat) + (1 : Nat)) = some (Value.slice a_5 n_4 c_1) ∧ List.length xs = List.length xs / (2 : Nat) * (2 : Nat) ∧ List.length xs / (2 : Nat) + (1 : Nat) ≤ (9223372036854775807 : Nat) ∧ (List.length xs / (2 : Nat) + (1 : Nat)) * (32 : Nat) ≤ (140737488355328 : Nat) ∧ Wr IntKind.i64 (n_1 + (1 : Int)) fun (c_2 : Int) => Ent.mk (EO.cells [SV.v (Value.int IntKind.i64 (Prod.fst f)), SV.v (Value.slice b m d)] (81 : Nat)) none = Ent.mk (EO.cells [SV.v (Value.int IntKind.i64 (Prod.fst f)), SV.v (Value.slice b m d)] (81 : Nat)) none ∧ SV.v (Value.slice a n c) = SV.v (Value.slice a n c) ∧ SV.ptr (0 : Nat) (0 : Nat) = SV.ptr (0 : Nat) (0 : Nat) ∧ List.length xs / (2 : Nat) + (1 : Nat) = List.length (xs ++ [Value.int IntKind.i64 n_3, Value.slice a_5 n_4 c_1]) / (2 : Nat) ∧ ((0 : Int) ≤ c_2 ∧ c_2 ≤ (↑n : Int) ∧ rightF l = true ∧ FR I' (xs ++ [Value.int IntKind.i64 n_3, Value.slice a_5 n_4 c_1]) (List.takeWhile (fun (x : Int × List Int) => decide (Prod.fst x < Prod.fst f)) l ++ [f] ++ List.filter (fun (x : Int × List Int) => decide (Prod.fst f < Prod.fst x)) (List.take (Int.toNat c_2) l))) ∧ Int.toNat ((↑n : Int) - c_2) < Int.toNat ((↑n : Int) - n_1)) (Wr IntKind.i64 (n_1 + (1 : Int)) fun (c_1 : Int) => Ent.mk (EO.cells [SV.v (Value.int IntKind.i64 (Prod.fst f)), SV.v (Value.slice b m d)] (81 : Nat)) none = Ent.mk (EO.cells [SV.v (Value.int IntKind.i64 (Prod.fst f)), SV.v (Value.slice b m d)] (81 : Nat)) none ∧ SV.v (Value.slice a n c) = SV.v (Value.slice a n c) ∧ SV.ptr (0 : Nat) (0 : Nat) = SV.ptr (0 : Nat) (0 : Nat) ∧ List.length xs / (2 : Nat) = List.length xs / (2 : Nat) ∧ ((0 : Int) ≤ c_1 ∧ c_1 ≤ (↑n : Int) ∧ rightF l = true ∧ FR I' xs (List.takeWhile (fun (x : Int × List Int) => decide (Prod.fst x < Prod.fst f)) l ++ [f] ++ List.filter (fun (x : Int × List Int) => decide (Prod.fst f < Prod.fst x)) (List.take (Int.toNat c_1) l))) ∧ Int.toNat ((↑n : Int) - c_1) < Int.toNat ((↑n : Int) - n_1))) (∀ (a : Option Addr) (cp : Nat) (I'_2 : Mem), Mem.le I' I'_2 → RowM I'_2 a cp (2 : Nat) xs → Ct Try.prog (Value.func (Fn.func (45 : Nat)) #[] #[]) #[Value.slice a (List.length xs / (2 : Nat)) cp] I'_2 fun (v : Value) (x : Mem) => ∃ (b : Bool), v = Value.bool b ∧ Br (!b) (∃ (a' : Option Addr), ∃ (n' : Nat), ∃ (c' : Nat), Value.tuple #[Value.slice none (0 : Nat) (0 : Nat), Value.int IntKind.i64 (20 : Int)] = Value.tuple #[Value.slice a' n' c', Value.int IntKind.i64 (Prod.snd (setF l f))] ∧ FldM I' a' n' (Prod.fst (setF l f)) ∧ n' ≤ c' ∧ c' ≤ (9223372036854775807 : Nat)) (∀ (a : Option Addr) (cp : Nat) (I'_3 : Mem), Mem.le I' I'_3 → RowM I'_3 a cp (2 : Nat) xs → ∃ (a' : Option Addr), ∃ (n' : Nat), ∃ (c' : Nat), Value.tuple #[Value.slice a (List.length xs / (2 : Nat)) cp, Value.int IntKind.i64 (0 : Int)] = Value.tuple #[Value.slice a' n' c', Value.int IntKind.i64 (Prod.snd (setF l f))] ∧ FldM I'_3 a' n' (Prod.fst (setF l f)) ∧ n' ≤ c' ∧ c' ≤ (9223372036854775807 : Nat))))) (by kernel_rfl) ?_
  have hl := h.len
  refine (ct45 l a n c I h hb).mono fun v I0 l0 hv => ⟨_, hv, Br.mk (fun hr => ?_) (fun hr => ?_)⟩
  · have hr : rightF l = false := by simpa using hr
    have : setF l f = ([], 20) := by rw [setF, hr]; rfl
    rw [this]
    exact ⟨none, 0, 0, rfl, fldM_nil _, by omega, by omega⟩
  have hr : rightF l = true := by simpa using hr
  have hrs := hr
  rw [right_split] at hrs
  simp only [Bool.and_eq_true, decide_eq_true_eq] at hrs
  obtain ⟨r1, r2, r3⟩ := hrs
  have hset := setR_eq (f := f) r2
  have htl : (l.takeWhile (fun x => decide (x.1 < f.1))).length ≤ l.length := (List.takeWhile_sublist _).length_le
  have hfl2 : (l.filter (fun x => decide (f.1 < x.1))).length ≤ l.length := List.length_filter_le _ _
  refine ⟨⟨⟨rfl, rfl, rfl, rfl, by omega, by omega, hr, trivial, rfl⟩, fun I1 _ l1 xs j ⟨h0, h1, _, hF, hT⟩ => Br.mk (fun hlt => ?_) (fun hge => ?_)⟩, fun I1 _ l1 xs ⟨_, hF⟩ => ?_⟩
  · have hlt := of_decide_eq_true hlt
    have hsome := h.isSome (by omega)
    obtain ⟨g, b', m', c', hg, hgok, e1, e2, hgs, hm1, hm2⟩ := (h.mono (Mem.le_trans l0 l1)).at_ h0 hlt
    rw [drop_cons hg, List.takeWhile_cons] at hT
    have hxl := hF.len
    have htk : (l.take j.toNat).length ≤ 64 := by simp; omega
    refine ⟨h0, hlt, hsome, hsome, g.1, e1, Br.mk (fun hc => ?_) (fun hc => ?_)⟩
    · rw [hc] at hT
      simp only [if_true] at hT
      refine ⟨h0, hlt, hsome, rfl, g.1, e1, b', m', c', e2, by omega, by omega, by omega, wr_i64 (by omega) (by omega) ⟨rfl, rfl, rfl, by simp, ⟨by omega, by omega, hr, ?_, ?_⟩, by omega⟩⟩
      · rw [show (j + 1).toNat = j.toNat + 1 by omega, take_succ' hg]
        exact hF.snoc ⟨hgok, rfl, b', m', c', rfl, hgs, hm1, hm2⟩
      · rw [hT, show (j + 1).toNat = j.toNat + 1 by omega, take_succ' hg, List.append_assoc]; rfl
    · rw [hc] at hT
      simp only [Bool.false_eq_true, if_false, List.append_nil] at hT
      exact ⟨rfl, rfl, rfl, rfl, hr, by rw [hT]; exact hF⟩
  · have hge := of_decide_eq_false hge
    rw [List.drop_eq_nil_of_le (by omega), List.takeWhile_nil, List.append_nil] at hT
    exact ⟨rfl, rfl, rfl, rfl, hr, by rw [hT]; exact hF⟩
  have hxl := hF.len
  refine ⟨by omega, by omega, by omega, ⟨rfl, rfl, rfl, by simp, by omega, by omega, hr, ?_⟩, fun I2 _ l2 ys j ⟨h0, h1, _, hF2⟩ => Br.mk (fun hlt => ?_) (fun hge => ?_)⟩
  · rw [List.append_nil]
    exact hF.snoc ⟨hok, rfl, b, m, d, rfl, hs.mono (Mem.le_trans l0 l1), hmd, hd⟩
  · have hlt := of_decide_eq_true hlt
    have hsome := h.isSome (by omega)
    obtain ⟨g, b', m', c', hg, hgok, e1, e2, hgs, hm1, hm2⟩ := (h.mono (Mem.le_trans l0 (Mem.le_trans l1 l2))).at_ h0 hlt
    have hyl := hF2.len
    have hj1 : (j + 1).toNat = j.toNat + 1 := by omega
    have hfk : ((l.take j.toNat).filter (fun x => decide (f.1 < x.1))).length ≤ (l.take j.toNat).length := List.length_filter_le _ _
    have htk : (l.take j.toNat).length ≤ 64 := by simp; omega
    simp only [List.length_append, List.length_singleton] at hyl
    refine ⟨h0, hlt, hsome, hsome, g.1, e1, Br.mk (fun hc => ?_) (fun hc => ?_)⟩
    · refine ⟨h0, hlt, hsome, rfl, g.1, e1, b', m', c', e2, by omega, by omega, by omega, wr_i64 (by omega) (by omega) ⟨rfl, rfl, rfl, by simp, ⟨by omega, by omega, hr, ?_⟩, by omega⟩⟩
      rw [hj1, take_succ' hg, List.filter_append, ← List.append_assoc]
      have : [g].filter (fun x => decide (f.1 < x.1)) = [g] := by rw [List.filter_cons, hc]; rfl
      rw [this]
      exact hF2.snoc ⟨hgok, rfl, b', m', c', rfl, hgs, hm1, hm2⟩
    · refine wr_i64 (by omega) (by omega) ⟨rfl, rfl, rfl, rfl, ⟨by omega, by omega, hr, ?_⟩, by omega⟩
      rw [hj1, take_succ' hg, List.filter_append]
      have : [g].filter (fun x => decide (f.1 < x.1)) = [] := by rw [List.filter_cons, hc]; rfl
      rw [this, List.append_nil]
      exact hF2
  · have hge := of_decide_eq_false hge
    intro a4 cp I3 l3 hrow
    rw [List.take_of_length_le (by omega), List.append_assoc] at hF2
    have hF3 : FR I2 ys (setR f false l) := by rw [hset]; exact hF2
    have hyl := hF3.len
    have hf4 := fldM_row hrow (hF3.mono l3)
    rw [show (setR f false l).length = ys.length / 2 by omega] at hf4
    refine (ct45 (setR f false l) _ _ _ I3 hf4 ?_).mono fun v I4 l4 hv => ⟨_, hv, Br.mk (fun hr2 => ?_) (fun hr2 => ?_)⟩
    · intro g hg
      rw [hset] at hg
      rcases List.mem_append.1 hg with hg | hg
      · exact hb g ((List.takeWhile_sublist _).subset hg)
      · rcases List.mem_cons.1 hg with rfl | hg
        · exact hfl
        · exact hb g (List.mem_filter.1 hg).1
    · have hr2 : rightF (setR f false l) = false := by simpa using hr2
      have : setF l f = ([], 20) := by rw [setF, hr2]; simp
      rw [this]
      exact ⟨none, 0, 0, rfl, fldM_nil _, by omega, by omega⟩
    · have hr2 : rightF (setR f false l) = true := by simpa using hr2
      have : setF l f = (setR f false l, 0) := by rw [setF, hr, hr2]; rfl
      rw [this]
      intro a5 cp5 I5 l5 hrow5
      obtain ⟨a3, n3, c3, e1, e2⟩ := fr_row hrow5 (hF3.mono l5)
      cases e1
      exact ⟨_, _, _, rfl, e2⟩
theorem ws_split : ∀ (ws : List Wnt) (last : Int), rightWS last ws = (ws.all (fun w => !decide (w.2.2.1 < 0 ∨ w.2.2.2 < w.2.2.1 ∨ 16384 < w.2.2.2)) && chainT last (ws.map fun w => (w.1, [])))
  | [], last => rfl
  | w :: r, last => by
    rw [rightWS, List.all_cons, List.map_cons, chainT]
    by_cases h1 : w.1 ≤ last ∨ 200 < w.1 ∨ w.2.2.1 < 0 ∨ w.2.2.2 < w.2.2.1 ∨ 16384 < w.2.2.2
    · rw [if_pos h1]
      by_cases h2 : w.2.2.1 < 0 ∨ w.2.2.2 < w.2.2.1 ∨ 16384 < w.2.2.2
      · rw [decide_eq_true h2]; rfl
      · by_cases h3 : last < w.1
        · rw [decide_eq_false (p := w.1 ≤ 200) (by omega)]; simp
        · rw [decide_eq_false (p := last < w.1) h3]; simp
    · rw [if_neg h1, ws_split r w.1, decide_eq_false (p := w.2.2.1 < 0 ∨ w.2.2.2 < w.2.2.1 ∨ 16384 < w.2.2.2) (by omega), decide_eq_true (p := last < w.1) (by omega), decide_eq_true (p := w.1 ≤ 200) (by omega)]
      simp
theorem sum_nil : ∀ ws : List Wnt, sumL (ws.map fun w => (w.1, [])) = 0
  | [] => rfl
  | w :: r => by rw [List.map_cons, sumL, sum_nil r]; rfl
theorem rightW_eq (ws : List Wnt) : rightW ws = (ws.all (fun w => !decide (w.2.2.1 < 0 ∨ w.2.2.2 < w.2.2.1 ∨ 16384 < w.2.2.2)) && rightF (ws.map fun w => (w.1, []))) := by
  rw [rightW, ws_split, right_split, sum_nil, List.length_map, Bool.and_assoc]
  congr 1
  rw [decide_eq_true (p := (0 : Int) ≤ 16384) (by omega), Bool.and_true, Bool.and_comm]
  congr 1
  exact decide_eq_decide.2 (by omega)
theorem ct58 (ws : List Wnt) (a : Option Addr) (n c : Nat) (I : Mem) (h : WntM I a n ws) (hn : n ≤ 1000000) :
    Ct Try.prog (fnv 58) #[.slice a n c] I (fun v _ => v = .bool (rightW ws)) := by
  refine viaR (ct_via (A := { calls := [(48, .ro)], loops := [(3, ⟨[(0, .keep), (3, .row 0), (4, .sh (.int .i64))], [(0, .row)], [(3, 2, 81)], fun vals xss I' _ => match vals, xss with | [.int .i64 j], [xs] => 0 ≤ j ∧ j ≤ n ∧ FR I' xs ((ws.take j.toNat).map fun w => (w.1, [])) ∧ (ws.take j.toNat).all (fun w => !decide (w.2.2.1 < 0 ∨ w.2.2.2 < w.2.2.1 ∨ 16384 < w.2.2.2)) = true | _, _ => False, fun vals _ => match vals with | [.int .i64 j] => (n - j).toNat | _ => 0⟩)] }) Try.func58 rfl Try.call58 rfl rfl) ((SV.v (Value.slice a n c) = SV.v (Value.slice a n c) ∧ (0 : Nat) = (0 : Nat) ∧ (0 : Int) ≤ (0 : Int) ∧ (0 : Int) ≤ (↑n : Int) ∧ FR I [] [] ∧ true = true) ∧ ∀ (I' G' : Mem), Mem.le I I' → ∀ (xs : List Value) (n_1 : Int), (0 : Int) ≤ n_1 ∧ n_1 ≤ (↑n : Int) ∧ FR I' xs (List.map (fun (w : Wnt) => (Prod.fst w, [])) (List.take (Int.toNat n_1) ws)) ∧ (List.all (List.take (Int.toNat n_1) ws) fun (w : Wnt) => !decide (Prod.fst (Prod.snd (Prod.snd w)) < (0 : Int) ∨ Prod.snd (Prod.snd (Prod.snd w)) < Prod.fst (Prod.snd (Prod.snd w)) ∨ (16384 : Int) < Prod.snd (Prod.snd (Prod.snd w)))) = true → Br (decide (n_1 < (↑n : Int))) ((0 : Int) ≤ n_1 ∧ n_1 < (↑n : Int) ∧ Option.isSome a = true ∧ Option.isSome a = true ∧ ∃ (n_2 : Int), atI I' a (Int.toNat n_1 * (4 : Nat) + (0 : Nat) + (0 : Nat)) = some (Value.int IntKind.i64 n_2) ∧ List.length xs = List.length xs / (2 : Nat) * (2 : Nat) ∧ List.length xs / (2 : Nat) + (1 : Nat) ≤ (9223372036854775807 : Nat) ∧ (List.length xs / (2 : Nat) + (1 : Nat)) * (32 : Nat) ≤ (140737488355328 : Nat) ∧ (0 : Int) ≤ n_1 ∧ n_1 < (↑n : Int) ∧ Option.isSome a = true ∧ Option.isSome a = true ∧ ∃ (n_3 : Int), atI I' a (Int.toNat n_1 * (4 : Nat) + (2 : Nat) + (0 : Nat)) = some (Value.int IntKind.i64 n_3) ∧ Br (decide (n_3 < (0 : Int))) (Value.bool false = Value.bool (rightW ws)) ((0 : Int) ≤ n_1 ∧ n_1 < (↑n : Int) ∧ Option.isSome a = true ∧ Option.isSome a = true ∧ ∃ (n_4 : Int), atI I' a (Int.toNat n_1 * (4 : Nat) + (3 : Nat) + (0 : Nat)) = some (Value.int IntKind.i64 n_4) ∧ (0 : Int) ≤ n_1 ∧ n_1 < (↑n : Int) ∧ Option.isSome a = true ∧ Option.isSome a = true ∧ ∃ (n_5 : Int), atI I' a (Int.toNat n_1 * (4 : Nat) + (2 : Nat) + (0 : Nat)) = some (Value.int IntKind.i64 n_5) ∧ Br (decide (n_4 < n_5)) (Value.bool false = Value.bool (rightW ws)) ((0 : Int) ≤ n_1 ∧ n_1 < (↑n : Int) ∧ Option.isSome a = true ∧ Option.isSome a = true ∧ ∃ (n_6 : Int), atI I' a (Int.toNat n_1 * (4 : Nat) + (3 : Nat) + (0 : Nat)) = some (Value.int IntKind.i64 n_6) ∧ Br (decide ((16384 : Int) < n_6)) (Value.bool false = Value.bool (rightW ws)) (Wr IntKind.i64 (n_1 + (1 : Int)) fun (c_1 : Int) => SV.v (Value.slice a n c) = SV.v (Value.slice a n c) ∧ List.length xs / (2 : Nat) + (1 : Nat) = List.length (xs ++ [Value.int IntKind.i64 n_2, Value.slice none (0 : Nat) (0 : Nat)]) / (2 : Nat) ∧ ((0 : Int) ≤ c_1 ∧ c_1 ≤ (↑n : Int) ∧ FR I' (xs ++ [Value.int IntKind.i64 n_2, Value.slice none (0 : Nat) (0 : Nat)]) (List.map (fun (w : Wnt) => (Prod.fst w, [])) (List.take (Int.toNat c_1) ws)) ∧ (List.all (List.take (Int.toNat c_1) ws) fun (w : Wnt) => !decide (Prod.fst (Prod.snd (Prod.snd w)) < (0 : Int) ∨ Prod.snd (Prod.snd (Prod.snd w)) < Prod.fst (Prod.snd (Prod.snd w)) ∨ (16384 : Int) < Prod.snd (Prod.snd (Prod.snd w)))) = true) ∧ Int.toNat ((↑n : Int) - c_1) < Int.toNat ((↑n : Int) - n_1))))) (∀ (a : Option Addr) (cp : Nat) (I'_1 : Mem), Mem.le I' I'_1 → RowM I'_1 a cp (2 : Nat) xs → Ct Try.prog (Value.func (Fn.func (45 : Nat)) #[] #[]) #[Value.slice a (List.length xs / (2 : Nat)) cp] I'_1 fun (v : Value) (x : Mem) => ∃ (b : Bool), v = Value.bool b ∧ Value.bool b = Value.bool (rightW ws))) (by kernel_rfl) ?_
  have hl := h.len
  have bad : ∀ {j : Int} {w : Wnt}, ws[j.toNat]? = some w → (w.2.2.1 < 0 ∨ w.2.2.2 < w.2.2.1 ∨ 16384 < w.2.2.2) → Value.bool false = Value.bool (rightW ws) := fun hw hc => by
    rw [rightW_eq]
    have : ws.all (fun w => !decide (w.2.2.1 < 0 ∨ w.2.2.2 < w.2.2.1 ∨ 16384 < w.2.2.2)) = false := by
      rw [List.all_eq_false]
      exact ⟨_, List.mem_of_getElem? hw, by simp only [decide_eq_true hc]; simp⟩
    rw [this]; rfl
  refine ⟨⟨rfl, rfl, by omega, by omega, trivial, rfl⟩, fun I1 _ l1 xs j ⟨h0, h1, hF, hA⟩ => Br.mk (fun hlt => ?_) (fun hge => ?_)⟩
  · have hlt := of_decide_eq_true hlt
    have hsome := h.isSome (by omega)
    obtain ⟨w, hw, hok, a1, a2, a3, a4⟩ := (h.mono l1).at_ h0 hlt
    have hxl := hF.len
    simp only [List.length_map, List.length_take] at hxl
    have hj1 : (j + 1).toNat = j.toNat + 1 := by omega
    refine ⟨h0, hlt, hsome, hsome, w.1, a1, by omega, by omega, by omega, h0, hlt, hsome, hsome, w.2.2.1, a3, Br.mk (fun c1 => ?_) (fun c1 => ⟨h0, hlt, hsome, hsome, w.2.2.2, a4, h0, hlt, hsome, hsome, w.2.2.1, a3, Br.mk (fun c2 => ?_) (fun c2 => ⟨h0, hlt, hsome, hsome, w.2.2.2, a4, Br.mk (fun c3 => ?_) (fun c3 => ?_)⟩)⟩)⟩
    · exact bad hw (.inl (of_decide_eq_true c1))
    · exact bad hw (.inr (.inl (of_decide_eq_true c2)))
    · exact bad hw (.inr (.inr (of_decide_eq_true c3)))
    · have c1 := of_decide_eq_false c1
      have c2 := of_decide_eq_false c2
      have c3 := of_decide_eq_false c3
      refine wr_i64 (by omega) (by omega) ⟨rfl, by simp, ⟨by omega, by omega, ?_, ?_⟩, by omega⟩
      · rw [hj1, take_succ' hw, List.map_append]
        exact hF.snoc ⟨⟨hok.1, fun z hz => by cases hz⟩, rfl, none, 0, 0, rfl, sl_nil _ _, by omega, by omega⟩
      · rw [hj1, take_succ' hw, List.all_append, hA]
        simp only [List.all_cons, List.all_nil, Bool.and_true, Bool.true_and]
        rw [decide_eq_false (by omega)]; rfl
  · have hge := of_decide_eq_false hge
    intro a4 cp I3 l3 hrow
    rw [List.take_of_length_le (by omega)] at hF hA
    have hxl := hF.len
    rw [List.length_map] at hxl
    have hf4 := fldM_row hrow (hF.mono l3)
    rw [List.length_map, show ws.length = xs.length / 2 by omega] at hf4
    refine (ct45 _ _ _ _ I3 hf4 ?_).mono fun v I4 l4 hv => ⟨_, hv, ?_⟩
    · intro g hg
      obtain ⟨w, _, rfl⟩ := List.mem_map.1 hg
      simp
    · rw [rightW_eq, hA]; rfl
open Go Go.Proofs Go.SE Go.RowKit
set_option linter.unusedVariables false
theorem tag_uniq : ∀ {ws : List Wnt} {last : Int}, rightWS last ws = true → (∀ w ∈ ws, last < w.1) ∧ ∀ w ∈ ws, ∀ v ∈ ws, w.1 = v.1 → w = v
  | [], _, _ => ⟨fun w hw => (by cases hw), fun w hw => (by cases hw)⟩
  | x :: r, last, h => by
    rw [rightWS] at h
    split at h
    · cases h
    · rename_i hc
      obtain ⟨h1, h2⟩ := tag_uniq h
      refine ⟨fun w hw => ?_, fun w hw v hv he => ?_⟩
      · rcases List.mem_cons.1 hw with rfl | hw
        · omega
        · have := h1 w hw; omega
      · rcases List.mem_cons.1 hw with rfl | hw
        · rcases List.mem_cons.1 hv with rfl | hv
          · rfl
          · have := h1 v hv; omega
        · rcases List.mem_cons.1 hv with hvx | hv
          · have := h1 w hw
            rw [hvx] at he
            omega
          · exact h2 w hw v hv he
def metOk (ws : List Wnt) (K : List (Int × List Int)) (met : List Wnt) : Prop := ∀ w ∈ ws, met.contains w = (K.find? fun f => f.1 == w.1).isSome
theorem metOk_step {ws : List Wnt} {K : List (Int × List Int)} {met : List Wnt} {w : Wnt} {f : Int × List Int} (hr : rightWS 0 ws = true) (h : metOk ws K met) (hw : w ∈ ws) (hf : w.1 = f.1) : metOk ws (K ++ [f]) (met ++ [w]) := fun v hv => by
  have h1 := h v hv
  rw [List.find?_append]
  have hc : (met ++ [w]).contains v = (met.contains v || v == w) := by
    rw [Bool.eq_iff_iff]
    simp
  rw [hc, h1]
  cases hk : K.find? (fun f => f.1 == v.1) with
  | some g => simp
  | none =>
    simp only [Option.isSome_none, Bool.false_or, Option.none_or, List.find?_cons, List.find?_nil]
    by_cases he : f.1 = v.1
    · have : v = w := (tag_uniq hr).2 v hv w hw (by omega)
      subst this
      simp [hf]
    · have hne : v ≠ w := fun e => he (by rw [e, hf])
      have h2 : (f.1 == v.1) = false := by simpa using he
      have h3 : (v == w) = false := by simpa using hne
      rw [h2, h3]; rfl
theorem find_at {ws : List Wnt} {k : Nat} {w : Wnt} {t : Int} (hk : ws[k]? = some w) (hw : w.1 = t) (hne : ∀ (j : Nat) (v : Wnt), j < k → ws[j]? = some v → v.1 ≠ t) : ws.find? (fun w => w.1 == t) = some w := by
  induction ws generalizing k with
  | nil => simp at hk
  | cons x r ih =>
    rw [List.find?_cons]
    cases k with
    | zero =>
      simp at hk; subst hk
      simp [hw]
    | succ k =>
      have := hne 0 x (by omega) (by simp)
      have hx : (x.1 == t) = false := by simpa using this
      rw [hx]
      exact ih (k := k) (by simpa using hk) fun j v hj hv => hne (j + 1) v (by omega) (by simpa using hv)
theorem find_no {ws : List Wnt} {t : Int} (hne : ∀ (j : Nat) (v : Wnt), j < ws.length → ws[j]? = some v → v.1 ≠ t) : ws.find? (fun w => w.1 == t) = none := by
  rw [List.find?_eq_none]
  intro w hw
  obtain ⟨j, hj, rfl⟩ := List.mem_iff_getElem.1 hw
  simpa using hne j _ hj (List.getElem?_eq_getElem hj)
theorem ct48 (l : List (Int × List Int)) (hb : ∀ f ∈ l, f.2.length ≤ 1000000) (ws : List Wnt) (a b : Option Addr) (n c m d : Nat) (I : Mem) (h : FldM I a n l) (hn : n ≤ 1000000) (h' : WntM I b m ws) (hm : m ≤ 1000000) :
    Ct Try.prog (fnv 48) #[.slice a n c, .slice b m d] I (fun v _ => v = .tuple #[.int .i64 (suitF l ws).1, .int .i64 (suitF l ws).2]) := by
  refine viaR (ct_via (A := { loops := [(6, ⟨[(0, .keep), (1, .keep), (6, .sh (.int .i64))], [], [], fun vals _ _ _ => match vals with | [.int .i64 i] => 0 ≤ i ∧ i ≤ n ∧ rightF l = true ∧ rightW ws = true ∧ ∃ met, suitG ws l [] = suitG ws (l.drop i.toNat) met ∧ metOk ws (l.take i.toNat) met | _ => False, fun vals _ => match vals with | [.int .i64 i] => (n - i).toNat | _ => 0⟩), (9, ⟨[(0, .keep), (1, .keep), (6, .kv), (7, .sh (.int .i64))], [], [], fun vals _ _ _ => match vals with | [.int .i64 i, .int .i64 k] => 0 ≤ k ∧ k ≤ m ∧ ∀ (j : Nat) (w : Wnt), (j : Int) < k → ws[j]? = some w → ∀ f, l[i.toNat]? = some f → w.1 ≠ f.1 | _ => False, fun vals _ => match vals with | [_, .int .i64 k] => (m - k).toNat | _ => 0⟩), (16, ⟨[(0, .keep), (1, .keep), (8, .sh (.int .i64))], [], [], fun vals _ _ _ => match vals with | [.int .i64 k] => 0 ≤ k ∧ k ≤ m ∧ rightF l = true ∧ rightW ws = true ∧ ∃ met, suitG ws l [] = (met, 0, 0) ∧ metOk ws l met ∧ suitM met ws = suitM met (ws.drop k.toNat) | _ => False, fun vals _ => match vals with | [.int .i64 k] => (m - k).toNat | _ => 0⟩)] }) Try.func48 rfl Try.call48 rfl rfl) (Ct Try.prog (Value.func (Fn.func (45 : Nat)) #[] #[]) #[Value.slice a n c] I fun (v : Value) (I' : Mem) => ∃ (b_1 : Bool), v = Value.bool b_1 ∧ Br (!b_1) (Value.tuple #[Value.int IntKind.i64 (0 : Int), Value.int IntKind.i64 (20 : Int)] = Value.tuple #[Value.int IntKind.i64 (Prod.fst (suitF l ws)), Value.int IntKind.i64 (Prod.snd (suitF l ws))]) (Ct Try.prog (Value.func (Fn.func (58 : Nat)) #[] #[]) #[Value.slice b m d] I' fun (v : Value) (I' : Mem) => ∃ (b_2 : Bool), v = Value.bool b_2 ∧ Br (!b_2) (Value.tuple #[Value.int IntKind.i64 (0 : Int), Value.int IntKind.i64 (22 : Int)] = Value.tuple #[Value.int IntKind.i64 (Prod.fst (suitF l ws)), Value.int IntKind.i64 (Prod.snd (suitF l ws))]) ((SV.v (Value.slice a n c) = SV.v (Value.slice a n c) ∧ SV.v (Value.slice b m d) = SV.v (Value.slice b m d) ∧ (0 : Int) ≤ (0 : Int) ∧ (0 : Int) ≤ (↑n : Int) ∧ rightF l = true ∧ rightW ws = true ∧ ∃ (met : List Wnt), suitG ws l [] = suitG ws l met ∧ metOk ws [] met) ∧ ∀ (I'_1 G' : Mem), Mem.le I' I'_1 → ∀ (n_1 : Int), ((0 : Int) ≤ n_1 ∧ n_1 ≤ (↑n : Int) ∧ rightF l = true ∧ rightW ws = true ∧ ∃ (met : List Wnt), suitG ws l [] = suitG ws (List.drop (Int.toNat n_1) l) met ∧ metOk ws (List.take (Int.toNat n_1) l) met) → Br (decide (n_1 < (↑n : Int))) ((SV.v (Value.slice a n c) = SV.v (Value.slice a n c) ∧ SV.v (Value.slice b m d) = SV.v (Value.slice b m d) ∧ SV.v (Value.int IntKind.i64 n_1) = SV.v (Value.int IntKind.i64 n_1) ∧ (0 : Int) ≤ (0 : Int) ∧ (0 : Int) ≤ (↑m : Int) ∧ ∀ (j : Nat) (w : Wnt), (↑j : Int) < (0 : Int) → ws[j]? = some w → ∀ (f : Int × List Int), l[Int.toNat n_1]? = some f → Prod.fst w ≠ Prod.fst f) ∧ ∀ (I' G' : Mem), Mem.le I'_1 I' → ∀ (n_2 : Int), ((0 : Int) ≤ n_2 ∧ n_2 ≤ (↑m : Int) ∧ ∀ (j : Nat) (w : Wnt), (↑j : Int) < n_2 → ws[j]? = some w → ∀ (f : Int × List Int), l[Int.toNat n_1]? = some f → Prod.fst w ≠ Prod.fst f) → Br (decide (n_2 < (↑m : Int))) ((0 : Int) ≤ n_2 ∧ n_2 < (↑m : Int) ∧ Option.isSome b = true ∧ Option.isSome b = true ∧ ∃ (n_3 : Int), atI I' b (Int.toNat n_2 * (4 : Nat) + (0 : Nat) + (0 : Nat)) = some (Value.int IntKind.i64 n_3) ∧ (0 : Int) ≤ n_1 ∧ n_1 < (↑n : Int) ∧ Option.isSome a = true ∧ Option.isSome a = true ∧ ∃ (n_4 : Int), atI I' a (Int.toNat n_1 * (2 : Nat) + (0 : Nat) + (0 : Nat)) = some (Value.int IntKind.i64 n_4) ∧ Br (n_3 != n_4) (Wr IntKind.i64 (n_2 + (1 : Int)) fun (c_1 : Int) => SV.v (Value.slice a n c) = SV.v (Value.slice a n c) ∧ SV.v (Value.slice b m d) = SV.v (Value.slice b m d) ∧ SV.v (Value.int IntKind.i64 n_1) = SV.v (Value.int IntKind.i64 n_1) ∧ ((0 : Int) ≤ c_1 ∧ c_1 ≤ (↑m : Int) ∧ ∀ (j : Nat) (w : Wnt), (↑j : Int) < c_1 → ws[j]? = some w → ∀ (f : Int × List Int), l[Int.toNat n_1]? = some f → Prod.fst w ≠ Prod.fst f) ∧ Int.toNat ((↑m : Int) - c_1) < Int.toNat ((↑m : Int) - n_2)) (Br (n_2 == (↑m : Int)) ((0 : Int) ≤ n_1 ∧ n_1 < (↑n : Int) ∧ Option.isSome a = true ∧ Option.isSome a = true ∧ ∃ (n : Int), atI I' a (Int.toNat n_1 * (2 : Nat) + (0 : Nat) + (0 : Nat)) = some (Value.int IntKind.i64 n) ∧ Value.tuple #[Value.int IntKind.i64 n, Value.int IntKind.i64 (23 : Int)] = Value.tuple #[Value.int IntKind.i64 (Prod.fst (suitF l ws)), Value.int IntKind.i64 (Prod.snd (suitF l ws))]) ((0 : Int) ≤ n_1 ∧ n_1 < (↑n : Int) ∧ Option.isSome a = true ∧ Option.isSome a = true ∧ ∃ (a_5 : Option Addr), ∃ (n_5 : Nat), ∃ (c_1 : Nat), atI I' a (Int.toNat n_1 * (2 : Nat) + (1 : Nat) + (0 : Nat)) = some (Value.slice a_5 n_5 c_1) ∧ (0 : Int) ≤ n_2 ∧ n_2 < (↑m : Int) ∧ Option.isSome b = true ∧ Option.isSome b = true ∧ ∃ (n_6 : Int), atI I' b (Int.toNat n_2 * (4 : Nat) + (2 : Nat) + (0 : Nat)) = some (Value.int IntKind.i64 n_6) ∧ Br (decide ((↑n_5 : Int) < n_6)) ((0 : Int) ≤ n_1 ∧ n_1 < (↑n : Int) ∧ Option.isSome a = true ∧ Option.isSome a = true ∧ ∃ (n : Int), atI I' a (Int.toNat n_1 * (2 : Nat) + (0 : Nat) + (0 : Nat)) = some (Value.int IntKind.i64 n) ∧ Value.tuple #[Value.int IntKind.i64 n, Value.int IntKind.i64 (24 : Int)] = Value.tuple #[Value.int IntKind.i64 (Prod.fst (suitF l ws)), Value.int IntKind.i64 (Prod.snd (suitF l ws))]) ((0 : Int) ≤ n_1 ∧ n_1 < (↑n : Int) ∧ Option.isSome a = true ∧ Option.isSome a = true ∧ ∃ (a_6 : Option Addr), ∃ (n_7 : Nat), ∃ (c_2 : Nat), atI I' a (Int.toNat n_1 * (2 : Nat) + (1 : Nat) + (0 : Nat)) = some (Value.slice a_6 n_7 c_2) ∧ (0 : Int) ≤ n_2 ∧ n_2 < (↑m : Int) ∧ Option.isSome b = true ∧ Option.isSome b = true ∧ ∃ (n_8 : Int), atI I' b (Int.toNat n_2 * (4 : Nat) + (3 : Nat) + (0 : Nat)) = some (Value.int IntKind.i64 n_8) ∧ Br (decide (n_8 < (↑n_7 : Int))) ((0 : Int) ≤ n_1 ∧ n_1 < (↑n : Int) ∧ Option.isSome a = true ∧ Option.isSome a = true ∧ ∃ (n : Int), atI I' a (Int.toNat n_1 * (2 : Nat) + (0 : Nat) + (0 : Nat)) = some (Value.int IntKind.i64 n) ∧ Value.tuple #[Value.int IntKind.i64 n, Value.int IntKind.i64 (24 : Int)] = Value.tuple #[Value.int IntKind.i64 (Prod.fst (suitF l ws)), Value.int IntKind.i64 (Prod.snd (suitF l ws))]) (Wr IntKind.i64 (n_1 + (1 : Int)) fun (c_3 : Int) => SV.v (Value.slice a n c) = SV.v (Value.slice a n c) ∧ SV.v (Value.slice b m d) = SV.v (Value.slice b m d) ∧ ((0 : Int) ≤ c_3 ∧ c_3 ≤ (↑n : Int) ∧ rightF l = true ∧ rightW ws = true ∧ ∃ (met : List Wnt), suitG ws l [] = suitG ws (List.drop (Int.toNat c_3) l) met ∧ metOk ws (List.take (Int.toNat c_3) l) met) ∧ Int.toNat ((↑n : Int) - c_3) < Int.toNat ((↑n : Int) - n_1)))))) (Br (n_2 == (↑m : Int)) ((0 : Int) ≤ n_1 ∧ n_1 < (↑n : Int) ∧ Option.isSome a = true ∧ Option.isSome a = true ∧ ∃ (n : Int), atI I' a (Int.toNat n_1 * (2 : Nat) + (0 : Nat) + (0 : Nat)) = some (Value.int IntKind.i64 n) ∧ Value.tuple #[Value.int IntKind.i64 n, Value.int IntKind.i64 (23 : Int)] = Value.tuple #[Value.int IntKind.i64 (Prod.fst (suitF l ws)), Value.int IntKind.i64 (Prod.snd (suitF l ws))]) ((0 : Int) ≤ n_1 ∧ n_1 < (↑n : Int) ∧ Option.isSome a = true ∧ Option.isSome a = true ∧ ∃ (a_5 : Option Addr), ∃ (n_3 : Nat), ∃ (c_1 : Nat), atI I' a (Int.toNat n_1 * (2 : Nat) + (1 : Nat) + (0 : Nat)) = some (Value.slice a_5 n_3 c_1) ∧ (0 : Int) ≤ n_2 ∧ n_2 < (↑m : Int) ∧ Option.isSome b = true ∧ Option.isSome b = true ∧ ∃ (n_4 : Int), atI I' b (Int.toNat n_2 * (4 : Nat) + (2 : Nat) + (0 : Nat)) = some (Value.int IntKind.i64 n_4) ∧ Br (decide ((↑n_3 : Int) < n_4)) ((0 : Int) ≤ n_1 ∧ n_1 < (↑n : Int) ∧ Option.isSome a = true ∧ Option.isSome a = true ∧ ∃ (n : Int), atI I' a (Int.toNat n_1 * (2 : Nat) + (0 : Nat) + (0 : Nat)) = some (Value.int IntKind.i64 n) ∧ Value.tuple #[Value.int IntKind.i64 n, Value.int IntKind.i64 (24 : Int)] = Value.tuple #[Value.int IntKind.i64 (Prod.fst (suitF l ws)), Value.int IntKind.i64 (Prod.snd (suitF l ws))]) ((0 : Int) ≤ n_1 ∧ n_1 < (↑n : Int) ∧ Option.isSome a = true ∧ Option.isSome a = true ∧ ∃ (a_6 : Option Addr), ∃ (n_5 : Nat), ∃ (c_2 : Nat), atI I' a (Int.toNat n_1 * (2 : Nat) + (1 : Nat) + (0 : Nat)) = some (Value.slice a_6 n_5 c_2) ∧ (0 : Int) ≤ n_2 ∧ n_2 < (↑m : Int) ∧ Option.isSome b = true ∧ Option.isSome b = true ∧ ∃ (n_6 : Int), atI I' b (Int.toNat n_2 * (4 : Nat) + (3 : Nat) + (0 : Nat)) = some (Value.int IntKind.i64 n_6) ∧ Br (decide (n_6 < (↑n_5 : Int))) ((0 : Int) ≤ n_1 ∧ n_1 < (↑n : Int) ∧ Option.isSome a = true ∧ Option.isSome a = true ∧ ∃ (n : Int), atI I' a (Int.toNat n_1 * (2 : Nat) + (0 : Nat) + (0 : Nat)) = some (Value.int IntKind.i64 n) ∧ Value.tuple #[Value.int IntKind.i64 n, Value.int IntKind.i64 (24 : Int)] = Value.tuple #[Value.int IntKind.i64 (Prod.fst (suitF l ws)), Value.int IntKind.i64 (Prod.snd (suitF l ws))]) (Wr IntKind.i64 (n_1 + (1 : Int)) fun (c_3 : Int) => SV.v (Value.slice a n c) = SV.v (Value.slice a n c) ∧ SV.v (Value.slice b m d) = SV.v (Value.slice b m d) ∧ ((0 : Int) ≤ c_3 ∧ c_3 ≤ (↑n : Int) ∧ rightF l = true ∧ rightW ws = true ∧ ∃ (met : List Wnt), suitG ws l [] = suitG ws (List.drop (Int.toNat c_3) l) met ∧ metOk ws (List.take (Int.toNat c_3) l) met) ∧ Int.toNat ((↑n : Int) - c_3) < Int.toNat ((↑n : Int) - n_1)))))) ((SV.v (Value.slice a n c) = SV.v (Value.slice a n c) ∧ SV.v (Value.slice b m d) = SV.v (Value.slice b m d) ∧ (0 : Int) ≤ (0 : Int) ∧ (0 : Int) ≤ (↑m : Int) ∧ rightF l = true ∧ rightW ws = true ∧ ∃ (met : List Wnt), suitG ws l [] = (met, (0 : Int), (0 : Int)) ∧ metOk ws l met ∧ suitM met ws = suitM met ws) ∧ ∀ (I' G' : Mem), Mem.le I'_1 I' → ∀ (n_2 : Int), ((0 : Int) ≤ n_2 ∧ n_2 ≤ (↑m : Int) ∧ rightF l = true ∧ rightW ws = true ∧ ∃ (met : List Wnt), suitG ws l [] = (met, (0 : Int), (0 : Int)) ∧ metOk ws l met ∧ suitM met ws = suitM met (List.drop (Int.toNat n_2) ws)) → Br (decide (n_2 < (↑m : Int))) ((0 : Int) ≤ n_2 ∧ n_2 < (↑m : Int) ∧ Option.isSome b = true ∧ Option.isSome b = true ∧ ∃ (n_3 : Int), atI I' b (Int.toNat n_2 * (4 : Nat) + (0 : Nat) + (0 : Nat)) = some (Value.int IntKind.i64 n_3) ∧ Ct Try.prog (Value.func (Fn.func (44 : Nat)) #[] #[]) #[Value.slice a n c, Value.int IntKind.i64 n_3] I' fun (v : Value) (I' : Mem) => ∃ (a_5 : Option Addr), ∃ (n_4 : Nat), ∃ (c_1 : Nat), ∃ (b_3 : Bool), v = Value.tuple #[Value.slice a_5 n_4 c_1, Value.bool b_3] ∧ (0 : Int) ≤ n_2 ∧ n_2 < (↑m : Int) ∧ Option.isSome b = true ∧ Option.isSome b = true ∧ ∃ (b_4 : Bool), atI I' b (Int.toNat n_2 * (4 : Nat) + (1 : Nat) + (0 : Nat)) = some (Value.bool b_4) ∧ Br b_4 (Br (!b_3) ((0 : Int) ≤ n_2 ∧ n_2 < (↑m : Int) ∧ Option.isSome b = true ∧ Option.isSome b = true ∧ ∃ (n : Int), atI I' b (Int.toNat n_2 * (4 : Nat) + (0 : Nat) + (0 : Nat)) = some (Value.int IntKind.i64 n) ∧ Value.tuple #[Value.int IntKind.i64 n, Value.int IntKind.i64 (25 : Int)] = Value.tuple #[Value.int IntKind.i64 (Prod.fst (suitF l ws)), Value.int IntKind.i64 (Prod.snd (suitF l ws))]) (Wr IntKind.i64 (n_2 + (1 : Int)) fun (c_2 : Int) => SV.v (Value.slice a n c) = SV.v (Value.slice a n c) ∧ SV.v (Value.slice b m d) = SV.v (Value.slice b m d) ∧ ((0 : Int) ≤ c_2 ∧ c_2 ≤ (↑m : Int) ∧ rightF l = true ∧ rightW ws = true ∧ ∃ (met : List Wnt), suitG ws l [] = (met, (0 : Int), (0 : Int)) ∧ metOk ws l met ∧ suitM met ws = suitM met (List.drop (Int.toNat c_2) ws)) ∧ Int.toNat ((↑m : Int) - c_2) < Int.toNat ((↑m : Int) - n_2))) (Wr IntKind.i64 (n_2 + (1 : Int)) fun (c_2 : Int) => SV.v (Value.slice a n c) = SV.v (Value.slice a n c) ∧ SV.v (Value.slice b m d) = SV.v (Value.slice b m d) ∧ ((0 : Int) ≤ c_2 ∧ c_2 ≤ (↑m : Int) ∧ rightF l = true ∧ rightW ws = true ∧ ∃ (met : List Wnt), suitG ws l [] = (met, (0 : Int), (0 : Int)) ∧ metOk ws l met ∧ suitM met ws = suitM met (List.drop (Int.toNat c_2) ws)) ∧ Int.toNat ((↑m : Int) - c_2) < Int.toNat ((↑m : Int) - n_2))) (Value.tuple #[Value.int IntKind.i64 (0 : Int), Value.int IntKind.i64 (0 : Int)] = Value.tuple #[Value.int IntKind.i64 (Prod.fst (suitF l ws)), Value.int IntKind.i64 (Prod.snd (suitF l ws))]))))) (by kernel_rfl) ?_
  have hl := h.len
  have hlw := h'.len
  refine (ct45 l a n c I h hb).mono fun v I0 l0 hv => ⟨_, hv, Br.mk (fun hr => ?_) (fun hr => ?_)⟩
  · have hr : rightF l = false := by simpa using hr
    have : suitF l ws = (0, 20) := by rw [suitF, hr]; rfl
    rw [this]
  have hr : rightF l = true := by simpa using hr
  refine (ct58 ws b m d I0 (h'.mono l0) hm).mono fun v I1 l1 hv => ⟨_, hv, Br.mk (fun hw => ?_) (fun hw => ?_)⟩
  · have hw : rightW ws = false := by simpa using hw
    have : suitF l ws = (0, 22) := by rw [suitF, hr, hw]; rfl
    rw [this]
  have hw : rightW ws = true := by simpa using hw
  have hws : rightWS 0 ws = true := by
    rw [rightW] at hw
    simp only [Bool.and_eq_true] at hw
    exact hw.1
  have hsf : suitF l ws = if (suitG ws l []).2.2 = 0 then suitM (suitG ws l []).1 ws else (suitG ws l []).2 := by rw [suitF, if_pos hr, if_pos hw]
  refine ⟨⟨rfl, rfl, by omega, by omega, hr, hw, [], rfl, fun w _ => rfl⟩, fun I2 _ l2 i ⟨i0, i1, _, _, met, hg, hmet⟩ => Br.mk (fun hlt => ?_) (fun hge => ?_)⟩
  · have hlt := of_decide_eq_true hlt
    have hAs := h.isSome (by omega)
    refine ⟨⟨rfl, rfl, rfl, by omega, by omega, fun j w hj => by omega⟩, fun I3 _ l3 k ⟨k0, k1, k2⟩ => ?_⟩
    obtain ⟨f, b', m', c', hf, hfok, e1, e2, hfs, hm1, hm2⟩ := (h.mono (Mem.le_trans l0 (Mem.le_trans l1 (Mem.le_trans l2 l3)))).at_ i0 hlt
    have hml := hfs.numLen
    have k3 := fun (j : Nat) (w : Wnt) (hj : (j : Int) < k) (hw : ws[j]? = some w) => k2 j w hj hw f hf
    have hi1 : (i + 1).toNat = i.toNat + 1 := by omega
    rw [drop_cons hf, suitG] at hg
    refine Br.mk (fun hk => ?_) (fun hk => ?_)
    · have hk := of_decide_eq_true hk
      have hBs := h'.isSome (by omega)
      obtain ⟨w, hw1, hwok, a1, a2, a3, a4⟩ := (h'.mono (Mem.le_trans l0 (Mem.le_trans l1 (Mem.le_trans l2 l3)))).at_ k0 hk
      refine ⟨k0, hk, hBs, hBs, w.1, a1, i0, hlt, hAs, hAs, f.1, e1, Br.mk (fun hne => ?_) (fun he => ?_)⟩
      · have hne : w.1 ≠ f.1 := by simpa using hne
        refine wr_i64 (by omega) (by omega) ⟨rfl, rfl, rfl, ⟨by omega, by omega, fun j v hj hv g hg2 => ?_⟩, by omega⟩
        rw [hf] at hg2
        cases hg2
        by_cases hjk : (j : Int) < k
        · exact k3 j v hjk hv
        · obtain rfl : j = k.toNat := by omega
          rw [hw1] at hv
          cases hv
          exact hne
      · have he : w.1 = f.1 := by simpa using he
        have hfind := find_at hw1 he fun j v hj hv => k3 j v (by omega) hv
        rw [hfind] at hg
        simp only at hg
        refine Br.f (by simp; omega) ⟨i0, hlt, hAs, hAs, b', m', c', e2, k0, hk, hBs, hBs, w.2.2.1, a3, Br.mk (fun hb1 => ?_) (fun hb1 => ⟨i0, hlt, hAs, hAs, b', m', c', e2, k0, hk, hBs, hBs, w.2.2.2, a4, Br.mk (fun hb2 => ?_) (fun hb2 => ?_)⟩)⟩
        · have hb1 := of_decide_eq_true hb1
          refine ⟨i0, hlt, hAs, hAs, f.1, e1, ?_⟩
          rw [if_pos (by omega)] at hg
          rw [hsf, hg]
          rfl
        · have hb2 := of_decide_eq_true hb2
          refine ⟨i0, hlt, hAs, hAs, f.1, e1, ?_⟩
          rw [if_pos (by omega)] at hg
          rw [hsf, hg]
          rfl
        · have hb1 := of_decide_eq_false hb1
          have hb2 := of_decide_eq_false hb2
          rw [if_neg (by omega)] at hg
          refine wr_i64 (by omega) (by omega) ⟨rfl, rfl, ⟨by omega, by omega, hr, hw, met ++ [w], ?_, ?_⟩, by omega⟩
          · rw [hg, hi1]
          · rw [hi1, take_succ' hf]
            exact metOk_step hws hmet (List.mem_of_getElem? hw1) he
    · have hk := of_decide_eq_false hk
      refine Br.t (by simp; omega) ⟨i0, hlt, hAs, hAs, f.1, e1, ?_⟩
      have hfind := find_no (ws := ws) (t := f.1) fun j v hj hv => k3 j v (by omega) hv
      rw [hfind] at hg
      rw [hsf, hg]
      rfl
  · have hge := of_decide_eq_false hge
    rw [List.drop_eq_nil_of_le (by omega), suitG] at hg
    rw [List.take_of_length_le (by omega)] at hmet
    refine ⟨⟨rfl, rfl, by omega, by omega, hr, hw, met, hg, hmet, rfl⟩, fun I3 _ l3 k ⟨k0, k1, _, _, met, hg, hmet, hM⟩ => Br.mk (fun hk => ?_) (fun hk => ?_)⟩
    · have hk := of_decide_eq_true hk
      have hBs := h'.isSome (by omega)
      obtain ⟨w, hw1, hwok, a1, a2, a3, a4⟩ := (h'.mono (Mem.le_trans l0 (Mem.le_trans l1 (Mem.le_trans l2 l3)))).at_ k0 hk
      have hk1 : (k + 1).toNat = k.toNat + 1 := by omega
      rw [drop_cons hw1, suitM, hmet w (List.mem_of_getElem? hw1)] at hM
      refine ⟨k0, hk, hBs, hBs, w.1, a1, (ct44 l hb w.1 a n c I3 (h.mono (Mem.le_trans l0 (Mem.le_trans l1 (Mem.le_trans l2 l3)))) hn).mono fun v I4 l4 ⟨y, hv, b5, m5, c5, hy, _⟩ => ?_⟩
      subst hy
      obtain ⟨w', hw1', _, a1', a2', _⟩ := (h'.mono (Mem.le_trans l0 (Mem.le_trans l1 (Mem.le_trans l2 (Mem.le_trans l3 l4))))).at_ k0 hk
      rw [hw1] at hw1'
      cases hw1'
      refine ⟨b5, m5, c5, _, hv, k0, hk, hBs, hBs, w.2.1, a2', Br.mk (fun q1 => Br.mk (fun q2 => ?_) (fun q2 => ?_)) (fun q1 => ?_)⟩
      · refine ⟨k0, hk, hBs, hBs, w.1, a1', ?_⟩
        have q2 : (l.find? fun f => f.1 == w.1).isSome = false := by simpa using q2
        rw [q1, q2] at hM
        rw [hsf, hg]
        simp only [if_true]
        rw [hM]; rfl
      · have q2 : (l.find? fun f => f.1 == w.1).isSome = true := by simpa using q2
        rw [q2] at hM
        refine wr_i64 (by omega) (by omega) ⟨rfl, rfl, ⟨by omega, by omega, hr, hw, met, hg, hmet, ?_⟩, by omega⟩
        rw [hM, hk1]; simp
      · rw [q1] at hM
        refine wr_i64 (by omega) (by omega) ⟨rfl, rfl, ⟨by omega, by omega, hr, hw, met, hg, hmet, ?_⟩, by omega⟩
        rw [hM, hk1]; simp
    · have hk := of_decide_eq_false hk
      rw [List.drop_eq_nil_of_le (by omega), suitM] at hM
      rw [hsf, hg]
      simp only [if_true]
      rw [hM]
open Go Go.Proofs Go.SE Go.RowKit
set_option linter.unusedVariables false
theorem sumL_at : ∀ {l : List (Int × List Int)} {f : Int × List Int}, f ∈ l → (f.2.length : Int) ≤ sumL l
  | [], f, h => by cases h
  | g :: r, f, h => by
    have h1 := sumL_nonneg r
    rw [sumL]
    rcases List.mem_cons.1 h with rfl | h
    · omega
    · have := sumL_at h; omega
theorem ct24 (l : List (Int × List Int)) (hb : ∀ f ∈ l, f.2.length ≤ 140737488351232) (a : Option Addr) (n c : Nat) (I : Mem) (h : FldM I a n l) (f : Int × List Int) (hok : okFld f) (b : Option Addr) (m d : Nat) (hs : SlM I b m 1 (ints .u8 f.2)) (hmd : m ≤ d) (hd : d ≤ maxLen) (ws : List Wnt) (a2 : Option Addr) (n2 c2 : Nat) (h2 : WntM I a2 n2 ws) :
    Ct Try.prog (fnv 24) #[.slice a n c, .agg #[.int .i64 f.1, .slice b m d], .slice a2 n2 c2] I (fun v _ => v = .bool true) := by
  refine viaR (ct_via (A := { calls := [(64, .g), (93, .g), (102, .g), (106, .g), (117, .g), (125, .g)], chands := [(4, [8])], cuts := [(4, ⟨[(0, .keep), (2, .keep), (4, .keep), (7, .sh .sl), (8, .sh .ptr)], [(0, .keep)], [], fun vals _ I' _ => match vals with | [.slice a7 n7 c7, .pointer p] => n ≤ 70 ∧ sumL l ≤ 20000 ∧ m ≤ 20000 ∧ n2 ≤ 70 ∧ FldM I' a7 n7 l ∧ n7 ≤ c7 ∧ c7 ≤ maxLen ∧ ∃ b' m' d' k, p = some ⟨k, 0, none⟩ ∧ I' k = some (.cells #[.int .i64 f.1, .slice b' m' d'] 81 (0, 0)) ∧ SlM I' b' m' 1 (ints .u8 f.2) ∧ m' ≤ d' ∧ d' ≤ maxLen | _ => False, fun _ _ => 0⟩)], loops := [(18, ⟨[(0, .keep), (2, .keep), (4, .keep), (7, .keep), (8, .keep), (19, .row 1), (126, .keep), (127, .keep), (128, .sh (.int .i64))], [(0, .keep), (1, .row)], [(19, 4, 88)], fun vals xss _ _ => match vals, xss with | [.int .i64 j], [xs] => 0 ≤ j ∧ j ≤ n2 ∧ xs = (ws.take j.toNat).flatMap wc | _, _ => False, fun vals _ => match vals with | [.int .i64 j] => (n2 - j).toNat | _ => 0⟩)] }) Try.func24 rfl Try.call24 rfl rfl) (Ct Try.prog (Value.func (Fn.func (43 : Nat)) #[] #[]) #[Value.slice a n c] I fun (v : Value) (I' : Mem) => ∃ (b_1 : Bool), v = Value.bool b_1 ∧ Br (!b_1) (Value.bool true = Value.bool true) (Br (decide ((20000 : Int) < (↑m : Int))) (Value.bool true = Value.bool true) (Br (decide ((70 : Int) < (↑n2 : Int))) (Value.bool true = Value.bool true) (((Ct Try.prog (Value.func (Fn.func (26 : Nat)) #[] #[]) #[Value.slice a n c] I' fun (v : Value) (I' : Mem) => ∃ (a_1 : Option Addr), ∃ (n_1 : Nat), ∃ (c_1 : Nat), v = Value.slice a_1 n_1 c_1 ∧ ((∀ (b_2 : Nat) (I'_1 : Mem), Mem.le I' I'_1 → I'_1 b_2 = some (Obj.cells #[Value.int IntKind.i64 (Prod.fst f), Value.slice b m d] (29 : Nat)) → Ct Try.prog (Value.func (Fn.func (26 : Nat)) #[] #[]) #[Value.slice (some (Addr.mk b_2 (0 : Nat) none)) (1 : Nat) (1 : Nat)] I'_1 fun (v : Value) (I' : Mem) => ∃ (a_4 : Option Addr), ∃ (n_2 : Nat), ∃ (c_2 : Nat), v = Value.slice a_4 n_2 c_2 ∧ (0 : Int) ≤ (0 : Int) ∧ (0 : Int) < (↑n_2 : Int) ∧ Option.isSome a_4 = true ∧ (2 : Nat) = (2 : Nat) ∧ ∃ (n_3 : Int), atI I' a_4 (0 : Nat) = some (Value.int IntKind.i64 n_3) ∧ ∃ (a_5 : Option Addr), ∃ (n_4 : Nat), ∃ (c_3 : Nat), atI I' a_4 (1 : Nat) = some (Value.slice a_5 n_4 c_3) ∧ ∀ (b_3 : Nat) (I'_2 : Mem), Mem.le I' I'_2 → I'_2 b_3 = some (Obj.cells #[Value.int IntKind.i64 n_3, Value.slice a_5 n_4 c_3] (81 : Nat)) → Ent.mk (EO.cells [SV.v (Value.int IntKind.i64 (Prod.fst f)), SV.v (Value.slice b m d)] (29 : Nat)) none = Ent.mk (EO.cells [SV.v (Value.int IntKind.i64 (Prod.fst f)), SV.v (Value.slice b m d)] (29 : Nat)) none ∧ SV.v (Value.slice a n c) = SV.v (Value.slice a n c) ∧ SV.v (Value.slice a2 n2 c2) = SV.v (Value.slice a2 n2 c2) ∧ SV.ptr (0 : Nat) (0 : Nat) = SV.ptr (0 : Nat) (0 : Nat) ∧ n ≤ (70 : Nat) ∧ sumL l ≤ (20000 : Int) ∧ m ≤ (20000 : Nat) ∧ n2 ≤ (70 : Nat) ∧ FldM I'_2 a_1 n_1 l ∧ n_1 ≤ c_1 ∧ c_1 ≤ (9223372036854775807 : Nat) ∧ ∃ (b' : Option Addr), ∃ (m' : Nat), ∃ (d' : Nat), ∃ (k : Nat), some (Addr.mk b_3 (0 : Nat) none) = some (Addr.mk k (0 : Nat) none) ∧ I'_2 k = some (Obj.cells #[Value.int IntKind.i64 (Prod.fst f), Value.slice b' m' d'] (81 : Nat)) ∧ SlM I'_2 b' m' (1 : Nat) (List.map (Value.int IntKind.u8) (Prod.snd f)) ∧ m' ≤ d' ∧ d' ≤ (9223372036854775807 : Nat)) ∧ ∀ (b_2 : Nat) (I'_1 : Mem), Mem.le I' I'_1 → I'_1 b_2 = some (Obj.cells #[Value.int IntKind.i64 (Prod.fst f), Value.slice b m d] (29 : Nat)) → Ct Try.prog (Value.func (Fn.func (26 : Nat)) #[] #[]) #[Value.slice (some (Addr.mk b_2 (0 : Nat) none)) (1 : Nat) (1 : Nat)] I'_1 fun (v : Value) (I' : Mem) => ∃ (a_4 : Option Addr), ∃ (n_2 : Nat), ∃ (c_2 : Nat), v = Value.slice a_4 n_2 c_2 ∧ (0 : Int) ≤ (0 : Int) ∧ (0 : Int) < (↑n_2 : Int) ∧ Option.isSome a_4 = true ∧ (2 : Nat) = (2 : Nat) ∧ ∃ (n_3 : Int), atI I' a_4 (0 : Nat) = some (Value.int IntKind.i64 n_3) ∧ ∃ (a_5 : Option Addr), ∃ (n_4 : Nat), ∃ (c_3 : Nat), atI I' a_4 (1 : Nat) = some (Value.slice a_5 n_4 c_3) ∧ ∀ (b_3 : Nat) (I'_2 : Mem), Mem.le I' I'_2 → I'_2 b_3 = some (Obj.cells #[Value.int IntKind.i64 n_3, Value.slice a_5 n_4 c_3] (81 : Nat)) → Ent.mk (EO.cells [SV.v (Value.int IntKind.i64 (Prod.fst f)), SV.v (Value.slice b m d)] (29 : Nat)) none = Ent.mk (EO.cells [SV.v (Value.int IntKind.i64 (Prod.fst f)), SV.v (Value.slice b m d)] (29 : Nat)) none ∧ SV.v (Value.slice a n c) = SV.v (Value.slice a n c) ∧ SV.v (Value.slice a2 n2 c2) = SV.v (Value.slice a2 n2 c2) ∧ SV.ptr (0 : Nat) (0 : Nat) = SV.ptr (0 : Nat) (0 : Nat) ∧ n ≤ (70 : Nat) ∧ sumL l ≤ (20000 : Int) ∧ m ≤ (20000 : Nat) ∧ n2 ≤ (70 : Nat) ∧ FldM I'_2 a_1 n_1 l ∧ n_1 ≤ c_1 ∧ c_1 ≤ (9223372036854775807 : Nat) ∧ ∃ (b' : Option Addr), ∃ (m' : Nat), ∃ (d' : Nat), ∃ (k : Nat), some (Addr.mk b_3 (0 : Nat) none) = some (Addr.mk k (0 : Nat) none) ∧ I'_2 k = some (Obj.cells #[Value.int IntKind.i64 (Prod.fst f), Value.slice b' m' d'] (81 : Nat)) ∧ SlM I'_2 b' m' (1 : Nat) (List.map (Value.int IntKind.u8) (Prod.snd f)) ∧ m' ≤ d' ∧ d' ≤ (9223372036854775807 : Nat)) ∧ ∀ (b_2 : Nat) (I'_1 : Mem), Mem.le I' I'_1 → I'_1 b_2 = some (Obj.cells #[Value.int IntKind.i64 (Prod.fst f), Value.slice b m d] (29 : Nat)) → Ct Try.prog (Value.func (Fn.func (26 : Nat)) #[] #[]) #[Value.slice (some (Addr.mk b_2 (0 : Nat) none)) (1 : Nat) (1 : Nat)] I'_1 fun (v : Value) (I' : Mem) => ∃ (a_4 : Option Addr), ∃ (n_2 : Nat), ∃ (c_2 : Nat), v = Value.slice a_4 n_2 c_2 ∧ (0 : Int) ≤ (0 : Int) ∧ (0 : Int) < (↑n_2 : Int) ∧ Option.isSome a_4 = true ∧ (2 : Nat) = (2 : Nat) ∧ ∃ (n_3 : Int), atI I' a_4 (0 : Nat) = some (Value.int IntKind.i64 n_3) ∧ ∃ (a_5 : Option Addr), ∃ (n_4 : Nat), ∃ (c_3 : Nat), atI I' a_4 (1 : Nat) = some (Value.slice a_5 n_4 c_3) ∧ ∀ (b_3 : Nat) (I'_2 : Mem), Mem.le I' I'_2 → I'_2 b_3 = some (Obj.cells #[Value.int IntKind.i64 n_3, Value.slice a_5 n_4 c_3] (81 : Nat)) → Ent.mk (EO.cells [SV.v (Value.int IntKind.i64 (Prod.fst f)), SV.v (Value.slice b m d)] (29 : Nat)) none = Ent.mk (EO.cells [SV.v (Value.int IntKind.i64 (Prod.fst f)), SV.v (Value.slice b m d)] (29 : Nat)) none ∧ SV.v (Value.slice a n c) = SV.v (Value.slice a n c) ∧ SV.v (Value.slice a2 n2 c2) = SV.v (Value.slice a2 n2 c2) ∧ SV.ptr (0 : Nat) (0 : Nat) = SV.ptr (0 : Nat) (0 : Nat) ∧ n ≤ (70 : Nat) ∧ sumL l ≤ (20000 : Int) ∧ m ≤ (20000 : Nat) ∧ n2 ≤ (70 : Nat) ∧ FldM I'_2 a_1 n_1 l ∧ n_1 ≤ c_1 ∧ c_1 ≤ (9223372036854775807 : Nat) ∧ ∃ (b' : Option Addr), ∃ (m' : Nat), ∃ (d' : Nat), ∃ (k : Nat), some (Addr.mk b_3 (0 : Nat) none) = some (Addr.mk k (0 : Nat) none) ∧ I'_2 k = some (Obj.cells #[Value.int IntKind.i64 (Prod.fst f), Value.slice b' m' d'] (81 : Nat)) ∧ SlM I'_2 b' m' (1 : Nat) (List.map (Value.int IntKind.u8) (Prod.snd f)) ∧ m' ≤ d' ∧ d' ≤ (9223372036854775807 : Nat)) ∧ ((Ct Try.prog (Value.func (Fn.func (26 : Nat)) #[] #[]) #[Value.slice a n c] I' fun (v : Value) (I' : Mem) => ∃ (a_1 : Option Addr), ∃ (n_1 : Nat), ∃ (c_1 : Nat), v = Value.slice a_1 n_1 c_1 ∧ (∀ (b_2 : Nat) (I'_1 : Mem), Mem.le I' I'_1 → I'_1 b_2 = some (Obj.cells #[Value.int IntKind.i64 (Prod.fst f), Value.slice b m d] (29 : Nat)) → Ct Try.prog (Value.func (Fn.func (26 : Nat)) #[] #[]) #[Value.slice (some (Addr.mk b_2 (0 : Nat) none)) (1 : Nat) (1 : Nat)] I'_1 fun (v : Value) (I' : Mem) => ∃ (a_4 : Option Addr), ∃ (n_2 : Nat), ∃ (c_2 : Nat), v = Value.slice a_4 n_2 c_2 ∧ (0 : Int) ≤ (0 : Int) ∧ (0 : Int) < (↑n_2 : Int) ∧ Option.isSome a_4 = true ∧ (2 : Nat) = (2 : Nat) ∧ ∃ (n_3 : Int), atI I' a_4 (0 : Nat) = some (Value.int IntKind.i64 n_3) ∧ ∃ (a_5 : Option Addr), ∃ (n_4 : Nat), ∃ (c_3 : Nat), atI I' a_4 (1 : Nat) = some (Value.slice a_5 n_4 c_3) ∧ ∀ (b_3 : Nat) (I'_2 : Mem), Mem.le I' I'_2 → I'_2 b_3 = some (Obj.cells #[Value.int IntKind.i64 n_3, Value.slice a_5 n_4 c_3] (81 : Nat)) → Ent.mk (EO.cells [SV.v (Value.int IntKind.i64 (Prod.fst f)), SV.v (Value.slice b m d)] (29 : Nat)) none = Ent.mk (EO.cells [SV.v (Value.int IntKind.i64 (Prod.fst f)), SV.v (Value.slice b m d)] (29 : Nat)) none ∧ SV.v (Value.slice a n c) = SV.v (Value.slice a n c) ∧ SV.v (Value.slice a2 n2 c2) = SV.v (Value.slice a2 n2 c2) ∧ SV.ptr (0 : Nat) (0 : Nat) = SV.ptr (0 : Nat) (0 : Nat) ∧ n ≤ (70 : Nat) ∧ sumL l ≤ (20000 : Int) ∧ m ≤ (20000 : Nat) ∧ n2 ≤ (70 : Nat) ∧ FldM I'_2 a_1 n_1 l ∧ n_1 ≤ c_1 ∧ c_1 ≤ (9223372036854775807 : Nat) ∧ ∃ (b' : Option Addr), ∃ (m' : Nat), ∃ (d' : Nat), ∃ (k : Nat), some (Addr.mk b_3 (0 : Nat) none) = some (Addr.mk k (0 : Nat) none) ∧ I'_2 k = some (Obj.cells #[Value.int IntKind.i64 (Prod.fst f), Value.slice b' m' d'] (81 : Nat)) ∧ SlM I'_2 b' m' (1 : Nat) (List.map (Value.int IntKind.u8) (Prod.snd f)) ∧ m' ≤ d' ∧ d' ≤ (9223372036854775807 : Nat)) ∧ ∀ (b_2 : Nat) (I'_1 : Mem), Mem.le I' I'_1 → I'_1 b_2 = some (Obj.cells #[Value.int IntKind.i64 (Prod.fst f), Value.slice b m d] (29 : Nat)) → Ct Try.prog (Value.func (Fn.func (26 : Nat)) #[] #[]) #[Value.slice (some (Addr.mk b_2 (0 : Nat) none)) (1 : Nat) (1 : Nat)] I'_1 fun (v : Value) (I' : Mem) => ∃ (a_4 : Option Addr), ∃ (n_2 : Nat), ∃ (c_2 : Nat), v = Value.slice a_4 n_2 c_2 ∧ (0 : Int) ≤ (0 : Int) ∧ (0 : Int) < (↑n_2 : Int) ∧ Option.isSome a_4 = true ∧ (2 : Nat) = (2 : Nat) ∧ ∃ (n_3 : Int), atI I' a_4 (0 : Nat) = some (Value.int IntKind.i64 n_3) ∧ ∃ (a_5 : Option Addr), ∃ (n_4 : Nat), ∃ (c_3 : Nat), atI I' a_4 (1 : Nat) = some (Value.slice a_5 n_4 c_3) ∧ ∀ (b_3 : Nat) (I'_2 : Mem), Mem.le I' I'_2 → I'_2 b_3 = some (Obj.cells #[Value.int IntKind.i64 n_3, Value.slice a_5 n_4 c_3] (81 : Nat)) → Ent.mk (EO.cells [SV.v (Value.int IntKind.i64 (Prod.fst f)), SV.v (Value.slice b m d)] (29 : Nat)) none = Ent.mk (EO.cells [SV.v (Value.int IntKind.i64 (Prod.fst f)), SV.v (Value.slice b m d)] (29 : Nat)) none ∧ SV.v (Value.slice a n c) = SV.v (Value.slice a n c) ∧ SV.v (Value.slice a2 n2 c2) = SV.v (Value.slice a2 n2 c2) ∧ SV.ptr (0 : Nat) (0 : Nat) = SV.ptr (0 : Nat) (0 : Nat) ∧ n ≤ (70 : Nat) ∧ sumL l ≤ (20000 : Int) ∧ m ≤ (20000 : Nat) ∧ n2 ≤ (70 : Nat) ∧ FldM I'_2 a_1 n_1 l ∧ n_1 ≤ c_1 ∧ c_1 ≤ (9223372036854775807 : Nat) ∧ ∃ (b' : Option Addr), ∃ (m' : Nat), ∃ (d' : Nat), ∃ (k : Nat), some (Addr.mk b_3 (0 : Nat) none) = some (Addr.mk k (0 : Nat) none) ∧ I'_2 k = some (Obj.cells #[Value.int IntKind.i64 (Prod.fst f), Value.slice b' m' d'] (81 : Nat)) ∧ SlM I'_2 b' m' (1 : Nat) (List.map (Value.int IntKind.u8) (Prod.snd f)) ∧ m' ≤ d' ∧ d' ≤ (9223372036854775807 : Nat)) ∧ Ct Try.prog (Value.func (Fn.func (26 : Nat)) #[] #[]) #[Value.slice a n c] I' fun (v : Value) (I' : Mem) => ∃ (a_1 : Option Addr), ∃ (n_1 : Nat), ∃ (c_1 : Nat), v = Value.slice a_1 n_1 c_1 ∧ ∀ (b_2 : Nat) (I'_1 : Mem), Mem.le I' I'_1 → I'_1 b_2 = some (Obj.cells #[Value.int IntKind.i64 (Prod.fst f), Value.slice b m d] (29 : Nat)) → Ct Try.prog (Value.func (Fn.func (26 : Nat)) #[] #[]) #[Value.slice (some (Addr.mk b_2 (0 : Nat) none)) (1 : Nat) (1 : Nat)] I'_1 fun (v : Value) (I' : Mem) => ∃ (a_4 : Option Addr), ∃ (n_2 : Nat), ∃ (c_2 : Nat), v = Value.slice a_4 n_2 c_2 ∧ (0 : Int) ≤ (0 : Int) ∧ (0 : Int) < (↑n_2 : Int) ∧ Option.isSome a_4 = true ∧ (2 : Nat) = (2 : Nat) ∧ ∃ (n_3 : Int), atI I' a_4 (0 : Nat) = some (Value.int IntKind.i64 n_3) ∧ ∃ (a_5 : Option Addr), ∃ (n_4 : Nat), ∃ (c_3 : Nat), atI I' a_4 (1 : Nat) = some (Value.slice a_5 n_4 c_3) ∧ ∀ (b_3 : Nat) (I'_2 : Mem), Mem.le I' I'_2 → I'_2 b_3 = some (Obj.cells #[Value.int IntKind.i64 n_3, Value.slice a_5 n_4 c_3] (81 : Nat)) → Ent.mk (EO.cells [SV.v (Value.int IntKind.i64 (Prod.fst f)), SV.v (Value.slice b m d)] (29 : Nat)) none = Ent.mk (EO.cells [SV.v (Value.int IntKind.i64 (Prod.fst f)), SV.v (Value.slice b m d)] (29 : Nat)) none ∧ SV.v (Value.slice a n c) = SV.v (Value.slice a n c) ∧ SV.v (Value.slice a2 n2 c2) = SV.v (Value.slice a2 n2 c2) ∧ SV.ptr (0 : Nat) (0 : Nat) = SV.ptr (0 : Nat) (0 : Nat) ∧ n ≤ (70 : Nat) ∧ sumL l ≤ (20000 : Int) ∧ m ≤ (20000 : Nat) ∧ n2 ≤ (70 : Nat) ∧ FldM I'_2 a_1 n_1 l ∧ n_1 ≤ c_1 ∧ c_1 ≤ (9223372036854775807 : Nat) ∧ ∃ (b' : Option Addr), ∃ (m' : Nat), ∃ (d' : Nat), ∃ (k : Nat), some (Addr.mk b_3 (0 : Nat) none) = some (Addr.mk k (0 : Nat) none) ∧ I'_2 k = some (Obj.cells #[Value.int IntKind.i64 (Prod.fst f), Value.slice b' m' d'] (81 : Nat)) ∧ SlM I'_2 b' m' (1 : Nat) (List.map (Value.int IntKind.u8) (Prod.snd f)) ∧ m' ≤ d' ∧ d' ≤ (9223372036854775807 : Nat)) ∧ (Ct Try.prog (Value.func (Fn.func (26 : Nat)) #[] #[]) #[Value.slice a n c] I' fun (v : Value) (I' : Mem) => ∃ (a_1 : Option Addr), ∃ (n_1 : Nat), ∃ (c_1 : Nat), v = Value.slice a_1 n_1 c_1 ∧ ∀ (b_2 : Nat) (I'_1 : Mem), Mem.le I' I'_1 → I'_1 b_2 = some (Obj.cells #[Value.int IntKind.i64 (Prod.fst f), Value.slice b m d] (29 : Nat)) → Ct Try.prog (Value.func (Fn.func (26 : Nat)) #[] #[]) #[Value.slice (some (Addr.mk b_2 (0 : Nat) none)) (1 : Nat) (1 : Nat)] I'_1 fun (v : Value) (I' : Mem) => ∃ (a_4 : Option Addr), ∃ (n_2 : Nat), ∃ (c_2 : Nat), v = Value.slice a_4 n_2 c_2 ∧ (0 : Int) ≤ (0 : Int) ∧ (0 : Int) < (↑n_2 : Int) ∧ Option.isSome a_4 = true ∧ (2 : Nat) = (2 : Nat) ∧ ∃ (n_3 : Int), atI I' a_4 (0 : Nat) = some (Value.int IntKind.i64 n_3) ∧ ∃ (a_5 : Option Addr), ∃ (n_4 : Nat), ∃ (c_3 : Nat), atI I' a_4 (1 : Nat) = some (Value.slice a_5 n_4 c_3) ∧ ∀ (b_3 : Nat) (I'_2 : Mem), Mem.le I' I'_2 → I'_2 b_3 = some (Obj.cells #[Value.int IntKind.i64 n_3, Value.slice a_5 n_4 c_3] (81 : Nat)) → Ent.mk (EO.cells [SV.v (Value.int IntKind.i64 (Prod.fst f)), SV.v (Value.slice b m d)] (29 : Nat)) none = Ent.mk (EO.cells [SV.v (Value.int IntKind.i64 (Prod.fst f)), SV.v (Value.slice b m d)] (29 : Nat)) none ∧ SV.v (Value.slice a n c) = SV.v (Value.slice a n c) ∧ SV.v (Value.slice a2 n2 c2) = SV.v (Value.slice a2 n2 c2) ∧ SV.ptr (0 : Nat) (0 : Nat) = SV.ptr (0 : Nat) (0 : Nat) ∧ n ≤ (70 : Nat) ∧ sumL l ≤ (20000 : Int) ∧ m ≤ (20000 : Nat) ∧ n2 ≤ (70 : Nat) ∧ FldM I'_2 a_1 n_1 l ∧ n_1 ≤ c_1 ∧ c_1 ≤ (9223372036854775807 : Nat) ∧ ∃ (b' : Option Addr), ∃ (m' : Nat), ∃ (d' : Nat), ∃ (k : Nat), some (Addr.mk b_3 (0 : Nat) none) = some (Addr.mk k (0 : Nat) none) ∧ I'_2 k = some (Obj.cells #[Value.int IntKind.i64 (Prod.fst f), Value.slice b' m' d'] (81 : Nat)) ∧ SlM I'_2 b' m' (1 : Nat) (List.map (Value.int IntKind.u8) (Prod.snd f)) ∧ m' ≤ d' ∧ d' ≤ (9223372036854775807 : Nat)) ∧ Ct Try.prog (Value.func (Fn.func (26 : Nat)) #[] #[]) #[Value.slice a n c] I' fun (v : Value) (I' : Mem) => ∃ (a_1 : Option Addr), ∃ (n_1 : Nat), ∃ (c_1 : Nat), v = Value.slice a_1 n_1 c_1 ∧ ∀ (b_2 : Nat) (I'_1 : Mem), Mem.le I' I'_1 → I'_1 b_2 = some (Obj.cells #[Value.int IntKind.i64 (Prod.fst f), Value.slice b m d] (29 : Nat)) → Ct Try.prog (Value.func (Fn.func (26 : Nat)) #[] #[]) #[Value.slice (some (Addr.mk b_2 (0 : Nat) none)) (1 : Nat) (1 : Nat)] I'_1 fun (v : Value) (I' : Mem) => ∃ (a_4 : Option Addr), ∃ (n_2 : Nat), ∃ (c_2 : Nat), v = Value.slice a_4 n_2 c_2 ∧ (0 : Int) ≤ (0 : Int) ∧ (0 : Int) < (↑n_2 : Int) ∧ Option.isSome a_4 = true ∧ (2 : Nat) = (2 : Nat) ∧ ∃ (n_3 : Int), atI I' a_4 (0 : Nat) = some (Value.int IntKind.i64 n_3) ∧ ∃ (a_5 : Option Addr), ∃ (n_4 : Nat), ∃ (c_3 : Nat), atI I' a_4 (1 : Nat) = some (Value.slice a_5 n_4 c_3) ∧ ∀ (b_3 : Nat) (I'_2 : Mem), Mem.le I' I'_2 → I'_2 b_3 = some (Obj.cells #[Value.int IntKind.i64 n_3, Value.slice a_5 n_4 c_3] (81 : Nat)) → Ent.mk (EO.cells [SV.v (Value.int IntKind.i64 (Prod.fst f)), SV.v (Value.slice b m d)] (29 : Nat)) none = Ent.mk (EO.cells [SV.v (Value.int IntKind.i64 (Prod.fst f)), SV.v (Value.slice b m d)] (29 : Nat)) none ∧ SV.v (Value.slice a n c) = SV.v (Value.slice a n c) ∧ SV.v (Value.slice a2 n2 c2) = SV.v (Value.slice a2 n2 c2) ∧ SV.ptr (0 : Nat) (0 : Nat) = SV.ptr (0 : Nat) (0 : Nat) ∧ n ≤ (70 : Nat) ∧ sumL l ≤ (20000 : Int) ∧ m ≤ (20000 : Nat) ∧ n2 ≤ (70 : Nat) ∧ FldM I'_2 a_1 n_1 l ∧ n_1 ≤ c_1 ∧ c_1 ≤ (9223372036854775807 : Nat) ∧ ∃ (b' : Option Addr), ∃ (m' : Nat), ∃ (d' : Nat), ∃ (k : Nat), some (Addr.mk b_3 (0 : Nat) none) = some (Addr.mk k (0 : Nat) none) ∧ I'_2 k = some (Obj.cells #[Value.int IntKind.i64 (Prod.fst f), Value.slice b' m' d'] (81 : Nat)) ∧ SlM I'_2 b' m' (1 : Nat) (List.map (Value.int IntKind.u8) (Prod.snd f)) ∧ m' ≤ d' ∧ d' ≤ (9223372036854775807 : Nat)) ∧ ∀ (I'_1 G' : Mem), Mem.le I' I'_1 → ∀ (a_2 : Option Addr) (n_1 c_1 : Nat) (a_3 : Option Addr), (n ≤ (70 : Nat) ∧ sumL l ≤ (20000 : Int) ∧ m ≤ (20000 : Nat) ∧ n2 ≤ (70 : Nat) ∧ FldM I'_1 a_2 n_1 l ∧ n_1 ≤ c_1 ∧ c_1 ≤ (9223372036854775807 : Nat) ∧ ∃ (b' : Option Addr), ∃ (m' : Nat), ∃ (d' : Nat), ∃ (k : Nat), a_3 = some (Addr.mk k (0 : Nat) none) ∧ I'_1 k = some (Obj.cells #[Value.int IntKind.i64 (Prod.fst f), Value.slice b' m' d'] (81 : Nat)) ∧ SlM I'_1 b' m' (1 : Nat) (List.map (Value.int IntKind.u8) (Prod.snd f)) ∧ m' ≤ d' ∧ d' ≤ (9223372036854775807 : Nat)) → Ct Try.prog (Value.func (Fn.func (16 : Nat)) #[] #[]) #[Value.slice a n c] I'_1 fun (v : Value) (I' : Mem) => ∃ (a_5 : Option Addr), ∃ (n_2 : Nat), ∃ (c_2 : Nat), ∃ (n_3 : Int), v = Value.tuple #[Value.slice a_5 n_2 c_2, Value.int IntKind.i64 n_3] ∧ Ct Try.prog (Value.func (Fn.func (25 : Nat)) #[] #[]) #[Value.slice a_2 n_1 c_1] I' fun (v : Value) (I' : Mem) => ∃ (a_6 : Option Addr), ∃ (n_4 : Nat), ∃ (c_3 : Nat), ∃ (n_5 : Int), v = Value.tuple #[Value.slice a_6 n_4 c_3, Value.int IntKind.i64 n_5] ∧ CtH Try.prog (Value.func (Fn.func (23 : Nat)) #[] #[]) #[Value.slice a n c, Value.int IntKind.i64 (Prod.fst f)] I' G' fun (v : Value) (I' G' : Mem) => ∃ (a_7 : Option Addr), ∃ (n_6 : Nat), ∃ (c_4 : Nat), ∃ (b_2 : Bool), v = Value.tuple #[Value.slice a_7 n_6 c_4, Value.bool b_2] ∧ Ct Try.prog (Value.func (Fn.func (44 : Nat)) #[] #[]) #[Value.slice a_2 n_1 c_1, Value.int IntKind.i64 (Prod.fst f)] I' fun (v : Value) (I' : Mem) => ∃ (a_8 : Option Addr), ∃ (n_7 : Nat), ∃ (c_5 : Nat), ∃ (b_3 : Bool), v = Value.tuple #[Value.slice a_8 n_7 c_5, Value.bool b_3] ∧ Ct Try.prog (Value.func (Fn.func (19 : Nat)) #[] #[]) #[Value.slice a n c] I' fun (v : Value) (I' : Mem) => ∃ (b_4 : Bool), v = Value.bool b_4 ∧ Ct Try.prog (Value.func (Fn.func (45 : Nat)) #[] #[]) #[Value.slice a_2 n_1 c_1] I' fun (v : Value) (I' : Mem) => ∃ (b_5 : Bool), v = Value.bool b_5 ∧ Br (!b_4 == b_5) (Value.bool false = Value.bool true) (Ct Try.prog (Value.func (Fn.func (20 : Nat)) #[] #[]) #[Value.slice a_5 n_2 c_2, Value.slice a_6 n_4 c_3] I' fun (v : Value) (I' : Mem) => ∃ (b_6 : Bool), v = Value.bool b_6 ∧ Br (!b_6) (Value.bool false = Value.bool true) (Br (n_3 != n_5) (Value.bool false = Value.bool true) (CtH Try.prog (Value.func (Fn.func (20 : Nat)) #[] #[]) #[Value.slice a_7 n_6 c_4, Value.slice a_8 n_7 c_5] I' G' fun (v : Value) (I' G' : Mem) => ∃ (b_7 : Bool), v = Value.bool b_7 ∧ Br (!b_7) (Value.bool false = Value.bool true) (Br (!b_2 == b_3) (Value.bool false = Value.bool true) (CtH Try.prog (Value.func (Fn.func (46 : Nat)) #[] #[]) #[Value.slice a_7 n_6 c_4] I' G' fun (v : Value) (I' G' : Mem) => v = Value.tuple #[] ∧ CtH Try.prog (Value.func (Fn.func (22 : Nat)) #[] #[]) #[Value.slice a n c, Value.agg #[Value.int IntKind.i64 (Prod.fst f), Value.slice b m d]] I' G' fun (v : Value) (I' G' : Mem) => ∃ (a_9 : Option Addr), ∃ (n_8 : Nat), ∃ (c_6 : Nat), ∃ (n_9 : Int), v = Value.tuple #[Value.slice a_9 n_8 c_6, Value.int IntKind.i64 n_9] ∧ (2 : Nat) = (2 : Nat) ∧ ∃ (n_10 : Int), atI I' a_3 (0 : Nat) = some (Value.int IntKind.i64 n_10) ∧ ∃ (a_10 : Option Addr), ∃ (n_11 : Nat), ∃ (c_7 : Nat), atI I' a_3 (1 : Nat) = some (Value.slice a_10 n_11 c_7) ∧ Ct Try.prog (Value.func (Fn.func (47 : Nat)) #[] #[]) #[Value.slice a_2 n_1 c_1, Value.agg #[Value.int IntKind.i64 n_10, Value.slice a_10 n_11 c_7]] I' fun (v : Value) (I' : Mem) => ∃ (a_11 : Option Addr), ∃ (n_12 : Nat), ∃ (c_8 : Nat), ∃ (n_13 : Int), v = Value.tuple #[Value.slice a_11 n_12 c_8, Value.int IntKind.i64 n_13] ∧ CtH Try.prog (Value.func (Fn.func (37 : Nat)) #[] #[]) #[Value.slice a_9 n_8 c_6, Value.slice a_11 n_12 c_8] I' G' fun (v : Value) (I' G' : Mem) => ∃ (b_8 : Bool), v = Value.bool b_8 ∧ Br (!b_8) (Value.bool false = Value.bool true) (Br (n_9 != n_13) (Value.bool false = Value.bool true) (CtH Try.prog (Value.func (Fn.func (38 : Nat)) #[] #[]) #[Value.slice a_9 n_8 c_6] I' G' fun (v : Value) (I' G' : Mem) => v = Value.tuple #[] ∧ (Ent.mk (EO.cells [SV.v (Value.int IntKind.i64 (Prod.fst f)), SV.v (Value.slice b m d)] (29 : Nat)) none = Ent.mk (EO.cells [SV.v (Value.int IntKind.i64 (Prod.fst f)), SV.v (Value.slice b m d)] (29 : Nat)) none ∧ SV.v (Value.slice a n c) = SV.v (Value.slice a n c) ∧ SV.v (Value.slice a2 n2 c2) = SV.v (Value.slice a2 n2 c2) ∧ SV.ptr (0 : Nat) (0 : Nat) = SV.ptr (0 : Nat) (0 : Nat) ∧ SV.v (Value.slice a_2 n_1 c_1) = SV.v (Value.slice a_2 n_1 c_1) ∧ SV.v (Value.pointer a_3) = SV.v (Value.pointer a_3) ∧ (0 : Nat) = (0 : Nat) ∧ SV.v (Value.slice a2 n2 c2) = SV.v (Value.slice a2 n2 c2) ∧ SV.v (Value.int IntKind.i64 (↑n2 : Int)) = SV.v (Value.int IntKind.i64 (↑n2 : Int)) ∧ (0 : Int) ≤ (0 : Int) ∧ (0 : Int) ≤ (↑n2 : Int) ∧ ([] : List Value) = []) ∧ ∀ (I'_2 G' : Mem), Mem.le I' I'_2 → ∀ (xs : List Value) (n_14 : Int), (0 : Int) ≤ n_14 ∧ n_14 ≤ (↑n2 : Int) ∧ xs = List.flatMap (fun (w : Wnt) => [Value.int IntKind.i64 (Prod.fst w), Value.bool (Prod.fst (Prod.snd w)), Value.int IntKind.i64 (Prod.fst (Prod.snd (Prod.snd w))), Value.int IntKind.i64 (Prod.snd (Prod.snd (Prod.snd w)))]) (List.take (Int.toNat n_14) ws) → Br (decide (n_14 < (↑n2 : Int))) ((0 : Int) ≤ n_14 ∧ n_14 < (↑n2 : Int) ∧ Option.isSome a2 = true ∧ (4 : Nat) = (4 : Nat) ∧ ∃ (n_15 : Int), atI I'_2 a2 (Int.toNat n_14 * (4 : Nat) + (0 : Nat)) = some (Value.int IntKind.i64 n_15) ∧ ∃ (b_9 : Bool), atI I'_2 a2 (Int.toNat n_14 * (4 : Nat) + (1 : Nat)) = some (Value.bool b_9) ∧ ∃ (n_16 : Int), atI I'_2 a2 (Int.toNat n_14 * (4 : Nat) + (2 : Nat)) = some (Value.int IntKind.i64 n_16) ∧ ∃ (n_17 : Int), atI I'_2 a2 (Int.toNat n_14 * (4 : Nat) + (3 : Nat)) = some (Value.int IntKind.i64 n_17) ∧ List.length xs = List.length xs / (4 : Nat) * (4 : Nat) ∧ List.length xs / (4 : Nat) + (1 : Nat) ≤ (9223372036854775807 : Nat) ∧ (List.length xs / (4 : Nat) + (1 : Nat)) * (32 : Nat) ≤ (140737488355328 : Nat) ∧ Wr IntKind.i64 (n_14 + (1 : Int)) fun (c_9 : Int) => Ent.mk (EO.cells [SV.v (Value.int IntKind.i64 (Prod.fst f)), SV.v (Value.slice b m d)] (29 : Nat)) none = Ent.mk (EO.cells [SV.v (Value.int IntKind.i64 (Prod.fst f)), SV.v (Value.slice b m d)] (29 : Nat)) none ∧ SV.v (Value.slice a n c) = SV.v (Value.slice a n c) ∧ SV.v (Value.slice a2 n2 c2) = SV.v (Value.slice a2 n2 c2) ∧ SV.ptr (0 : Nat) (0 : Nat) = SV.ptr (0 : Nat) (0 : Nat) ∧ SV.v (Value.slice a_2 n_1 c_1) = SV.v (Value.slice a_2 n_1 c_1) ∧ SV.v (Value.pointer a_3) = SV.v (Value.pointer a_3) ∧ List.length xs / (4 : Nat) + (1 : Nat) = List.length (xs ++ [Value.int IntKind.i64 n_15, Value.bool b_9, Value.int IntKind.i64 n_16, Value.int IntKind.i64 n_17]) / (4 : Nat) ∧ SV.v (Value.slice a2 n2 c2) = SV.v (Value.slice a2 n2 c2) ∧ SV.v (Value.int IntKind.i64 (↑n2 : Int)) = SV.v (Value.int IntKind.i64 (↑n2 : Int)) ∧ ((0 : Int) ≤ c_9 ∧ c_9 ≤ (↑n2 : Int) ∧ xs ++ [Value.int IntKind.i64 n_15, Value.bool b_9, Value.int IntKind.i64 n_16, Value.int IntKind.i64 n_17] = List.flatMap (fun (w : Wnt) => [Value.int IntKind.i64 (Prod.fst w), Value.bool (Prod.fst (Prod.snd w)), Value.int IntKind.i64 (Prod.fst (Prod.snd (Prod.snd w))), Value.int IntKind.i64 (Prod.snd (Prod.snd (Prod.snd w)))]) (List.take (Int.toNat c_9) ws)) ∧ Int.toNat ((↑n2 : Int) - c_9) < Int.toNat ((↑n2 : Int) - n_14)) (Ct Try.prog (Value.func (Fn.func (14 : Nat)) #[] #[]) #[Value.slice a n c, Value.slice a2 n2 c2] I'_2 fun (v : Value) (I' : Mem) => ∃ (n_15 : Int), ∃ (n_16 : Int), v = Value.tuple #[Value.int IntKind.i64 n_15, Value.int IntKind.i64 n_16] ∧ ∀ (a_14 : Option Addr) (cp : Nat) (I'_3 : Mem), Mem.le I' I'_3 → RowM I'_3 a_14 cp (4 : Nat) xs → Ct Try.prog (Value.func (Fn.func (48 : Nat)) #[] #[]) #[Value.slice a_2 n_1 c_1, Value.slice a_14 (List.length xs / (4 : Nat)) cp] I'_3 fun (v : Value) (I' : Mem) => ∃ (n_17 : Int), ∃ (n_18 : Int), v = Value.tuple #[Value.int IntKind.i64 n_17, Value.int IntKind.i64 n_18] ∧ Ct Try.prog (Value.func (Fn.func (28 : Nat)) #[] #[]) #[Value.agg #[Value.int IntKind.i64 (Prod.fst f), Value.slice b m d]] I' fun (v : Value) (I' : Mem) => ∃ (n_19 : Int), ∃ (n_20 : Int), v = Value.tuple #[Value.int IntKind.u64 n_19, Value.int IntKind.i64 n_20] ∧ Option.isSome a_3 = true ∧ ∃ (a_17 : Option Addr), ∃ (n_21 : Nat), ∃ (c_9 : Nat), atI I' a_3 (1 : Nat) = some (Value.slice a_17 n_21 c_9) ∧ Ct Try.prog (Value.func (Fn.func (49 : Nat)) #[] #[]) #[Value.slice a_17 n_21 c_9] I' fun (v : Value) (I' : Mem) => ∃ (n_22 : Int), ∃ (n_23 : Int), ∃ (n_24 : Int), v = Value.tuple #[Value.int IntKind.u64 n_22, Value.int IntKind.i64 n_23, Value.int IntKind.i64 n_24] ∧ Br (n_15 == n_17) (Br (n_16 == n_18) (Br (n_19 == n_22) (Br (n_20 == n_24) (Ct Try.prog (Value.func (Fn.func (37 : Nat)) #[] #[]) #[Value.slice a n c, Value.slice a_2 n_1 c_1] I' fun (v : Value) (I' : Mem) => ∃ (b_9 : Bool), v = Value.bool b_9 ∧ Br b_9 ((2 : Nat) = (2 : Nat) ∧ ∃ (n : Int), atI I' a_3 (0 : Nat) = some (Value.int IntKind.i64 n) ∧ ∃ (a : Option Addr), ∃ (n_25 : Nat), ∃ (c : Nat), atI I' a_3 (1 : Nat) = some (Value.slice a n_25 c) ∧ ∀ (b_10 : Nat) (I'_4 : Mem), Mem.le I' I'_4 → I'_4 b_10 = some (Obj.cells #[Value.int IntKind.i64 (Prod.fst f), Value.slice b m d] (29 : Nat)) → ∀ (b : Nat) (I' : Mem), Mem.le I'_4 I' → I' b = some (Obj.cells #[Value.int IntKind.i64 n, Value.slice a n_25 c] (81 : Nat)) → Ct Try.prog (Value.func (Fn.func (37 : Nat)) #[] #[]) #[Value.slice (some (Addr.mk b_10 (0 : Nat) none)) (1 : Nat) (1 : Nat), Value.slice (some (Addr.mk b (0 : Nat) none)) (1 : Nat) (1 : Nat)] I' fun (v : Value) (I' : Mem) => ∃ (b : Bool), v = Value.bool b ∧ Value.bool b = Value.bool true) (Value.bool false = Value.bool true)) (Value.bool false = Value.bool true)) (Value.bool false = Value.bool true)) (Value.bool false = Value.bool true)) (Value.bool false = Value.bool true))))))))))))) (by kernel_rfl) ?_
  have hmx : maxLen = 9223372036854775807 := by decide
  have hnl := h.len
  have hml := hs.numLen
  have hwl := h2.len
  refine (ct43 l hb a n c I h).mono fun v I1 l1 ⟨bs, hv, hsh⟩ => ⟨_, hv, Br.mk (fun _ => rfl) (fun hb1 => Br.mk (fun _ => rfl) (fun hm => Br.mk (fun _ => rfl) (fun hn2 => ?_)))⟩
  have hb1 : bs = true := by simpa using hb1
  obtain ⟨hn70, hsum⟩ := hsh hb1
  have hm := of_decide_eq_false hm
  have hn2 := of_decide_eq_false hn2
  have hbl : ∀ f ∈ l, f.2.length ≤ 1000000 := fun g hg => by have := sumL_at hg; omega
  have hwb : byteL (if rightF l = true then writeF l else []) := by
    split
    · exact write_bytes (by assumption) h.ok
    · intro z hz; cases hz
  have hgb : byteL (((l.find? fun g => g.1 == f.1).map (·.2)).getD []) := fun z hz => by
    cases hfd : l.find? fun g => g.1 == f.1 with
    | none => rw [hfd] at hz; cases hz
    | some g =>
      rw [hfd] at hz
      exact (h.ok g (List.mem_of_find?_eq_some hfd)).2 z hz
  refine ⟨⟨?_, ⟨?_, ?_⟩, ⟨?_, ?_⟩⟩, fun I2 G2 l2 a7 n7 c7 p ⟨_, _, _, _, hF, hn7, hc7, b', m', d', k, hp, hk, hs', hm', hd'⟩ => ?_⟩
  rotate_left 5
  · subst hp
    have hp0 : ∀ {J : Mem}, I2.le J → atI J (some ⟨k, 0, none⟩) 0 = some (Value.int IntKind.i64 f.1) := fun hle => by
      simp only [atI, Option.bind_some, Addr.add_lit, cellM, hle _ _ hk, Option.isSome_none, Bool.false_eq_true, if_false]; rfl
    have hp1 : ∀ {J : Mem}, I2.le J → atI J (some ⟨k, 0, none⟩) 1 = some (Value.slice b' m' d') := fun hle => by
      simp only [atI, Option.bind_some, Addr.add_lit, cellM, hle _ _ hk, Option.isSome_none, Bool.false_eq_true, if_false]; rfl
    have hml' := hs'.numLen
    have l02 := Mem.le_trans l1 l2
    refine (ct16 l a n c I2 (h.mono l02) (by omega)).mono fun v I3 l3 ⟨a3, n3, c3, hv, hw1, hn3, hc3⟩ => ⟨_, _, _, _, hv, ?_⟩
    refine (ct25 l hbl a7 n7 c7 I3 (hF.mono l3) (by have := hF.len; omega)).mono fun v I4 l4 ⟨a4, n4, c4, hv, hw2, hn4, hc4⟩ => ⟨_, _, _, _, hv, ?_⟩
    have l24 := Mem.le_trans l3 l4
    have l04 := Mem.le_trans l02 l24
    refine (ct_own (ct23N l hbl f.1 a n c I4 (h.mono l04) (by omega))).mono ?_
    rintro v I5 G5 _ ⟨rfl, J5, lJ5, ⟨y, hv, hy, hny⟩, rfl⟩
    obtain ⟨a5, n5, c5, rfl, hs5, hn5, hc5⟩ := hy
    obtain ⟨hns, hn5b⟩ := hny _ _ _ rfl
    refine ⟨_, _, _, _, hv, ?_⟩
    refine (ct44 l hbl f.1 a7 n7 c7 _ (hF.mono l24) (by have := hF.len; omega)).mono fun v I6 l6 ⟨y2, hv, hy2⟩ => ?_
    obtain ⟨a6, n6, c6, rfl, hs6, hn6, hc6⟩ := hy2
    refine ⟨_, _, _, _, hv, ?_⟩
    have l06 := Mem.le_trans l04 l6
    refine (ct19 l a n c I6 (h.mono l06) (by omega)).mono fun v I7 l7 hv => ⟨_, hv, ?_⟩
    refine (ct45 l a7 n7 c7 I7 (hF.mono (Mem.le_trans l24 (Mem.le_trans l6 l7))) hbl).mono fun v I8 l8 hv => ⟨_, hv, Br.f (by simp) ?_⟩
    have l68 := Mem.le_trans l7 l8
    have l48 := Mem.le_trans l6 l68
    refine (ct20 _ _ hwb hwb a3 a4 n3 c3 n4 c4 I8 (hw1.mono (Mem.le_trans l4 l48)) (hw2.mono l48)).mono fun v I9 l9 hv => ⟨_, hv, Br.f (by simp) (Br.f (by simp) ?_)⟩
    refine (ct_both fun hap => ct20 _ _ hgb hgb a5 a6 _ _ _ _ _ (hs5.mono (Mem.le_trans (le_gained lJ5) (both_mono (Mem.le_trans l48 l9) hap))) (hs6.mono (Mem.le_trans l68 (Mem.le_trans l9 (both_le _ _))))).mono ?_
    rintro v I10 G10 _ ⟨rfl, rfl, _, hv⟩
    refine ⟨_, hv, Br.f (by simp) (Br.f (by simp) ?_)⟩
    have l49 := Mem.le_trans l48 l9
    refine (ct46 a5 n5 c5 _ _ hn5 hn5b hns.own).mono ?_
    rintro v I11 G11 l11 ⟨hv, ho⟩
    refine ⟨hv, ?_⟩
    have l4b := Mem.le_trans l49 l11
    have l0b := Mem.le_trans l04 l4b
    refine (ct_own (ct22N l f hok (by omega) a b n c m d I11 (h.mono l0b) (by omega) (hs.mono l0b) hmd hd)).mono ?_
    rintro v I12 G12 _ ⟨rfl, J12, lJ12, ⟨a8, n8, c8, hv, hF8, hn8, hc8, hO⟩, rfl⟩
    have l2b := Mem.le_trans l24 l4b
    refine ⟨_, _, _, _, hv, rfl, f.1, hp0 l2b, _, _, _, hp1 l2b, ?_⟩
    refine (ct47 l hbl f hok (by omega) a7 b' n7 c7 m' d' _ (hF.mono l2b) (by have := hF.len; omega) (hs'.mono l2b) hm' hd').mono fun v I13 l13 ⟨a9, n9, c9, hv, hF9, hn9, hc9⟩ => ⟨_, _, _, _, hv, ?_⟩
    have hn8b : n8 ≤ 1000000 := by
      have := hF8.len
      have hsl := setR_len f l false
      unfold setF at this
      split at this
      · simp only at this; omega
      · simp at this; omega
    refine (ct_both fun hap => ct37 _ _ _ _ _ _ _ _ _ (hF8.mono (Mem.le_trans (le_gained lJ12) (both_mono l13 hap))) (hF9.mono (both_le _ _)) hn8b).mono ?_
    rintro v I14 G14 _ ⟨rfl, rfl, _, hv⟩
    refine ⟨_, hv, Br.f (by simp) (Br.f (by simp) ?_)⟩
    refine (ct38 a8 n8 c8 _ _ hn8 hc8 (hO _)).mono fun v I15 G15 l15 hv => ⟨hv, ⟨rfl, rfl, rfl, rfl, rfl, rfl, rfl, rfl, rfl, by omega, by omega, rfl⟩, fun I16 G16 l16 xs j ⟨j0, j1, hxs⟩ => ?_⟩
    have l2f := Mem.le_trans l2b (Mem.le_trans l13 (Mem.le_trans l15 l16))
    have l0f := Mem.le_trans l02 l2f
    change xs = (ws.take j.toNat).flatMap wc at hxs
    have hxl : xs.length = j.toNat * 4 := by rw [hxs, wc_len, List.length_take]; omega
    refine Br.mk (fun hlt => ?_) (fun hge => ?_)
    · have hlt := of_decide_eq_true hlt
      obtain ⟨w, hw, hwok, q1, q2, q3, q4⟩ := (h2.mono l0f).at_ j0 hlt
      refine ⟨j0, hlt, h2.isSome (by omega), rfl, _, q1, _, q2, _, q3, _, q4, by omega, by omega, by omega, wr_i64 (by omega) (by omega) ⟨rfl, rfl, rfl, rfl, rfl, rfl, by simp, rfl, rfl, ⟨by omega, by omega, ?_⟩, by omega⟩⟩
      change _ = (ws.take (j + 1).toNat).flatMap wc
      rw [show (j + 1).toNat = j.toNat + 1 by omega, take_succ' hw, List.flatMap_append, hxs]
      simp [wc]
    · have hge := of_decide_eq_false hge
      have hxs : xs = ws.flatMap wc := by rw [hxs, List.take_of_length_le (by omega)]
      refine (ct14 l ws a a2 n c n2 c2 I16 (h.mono l0f) (by omega) (h2.mono l0f) (by omega)).mono fun v I17 l17 hv => ⟨_, _, hv, fun a18 cp I18 l18 hrow => ?_⟩
      have hW : WntM I18 a18 n2 ws := ⟨by rw [← hxs]; exact hrow.sl (by omega) (by omega), h2.2⟩
      have l2h := Mem.le_trans l2f (Mem.le_trans l17 l18)
      rw [show xs.length / 4 = n2 by omega]
      refine (ct48 l hbl ws a7 a18 n7 c7 n2 cp I18 (hF.mono l2h) (by have := hF.len; omega) hW (by omega)).mono fun v I19 l19 hv => ⟨_, _, hv, ?_⟩
      have l0j := Mem.le_trans l02 (Mem.le_trans l2h l19)
      refine (ct28 f hok b m d I19 (hs.mono l0j) (by omega)).mono fun v I20 l20 hv => ⟨_, _, hv, rfl, _, _, _, hp1 (Mem.le_trans l2h (Mem.le_trans l19 l20)), ?_⟩
      refine (ct49 f.2 hok.2 b' m' d' I20 (hs'.mono (Mem.le_trans l2h (Mem.le_trans l19 l20))) (by omega) hm').mono fun v I21 l21 hv => ⟨_, _, _, hv, Br.t (by simp) (Br.t (by simp) (Br.t (by simp) (Br.t (by simp) ?_)))⟩
      have l2k := Mem.le_trans l2h (Mem.le_trans l19 (Mem.le_trans l20 l21))
      refine (ct37 l l a a7 n c n7 c7 I21 (h.mono (Mem.le_trans l02 l2k)) (hF.mono l2k) (by omega)).mono fun v I22 l22 hv => ⟨_, hv, Br.t (by simp) ⟨rfl, _, hp0 (Mem.le_trans l2k l22), _, _, _, hp1 (Mem.le_trans l2k l22), fun k1 I23 l23 hk1 k2 I24 l24' hk2 => ?_⟩⟩
      have l2m := Mem.le_trans l2k (Mem.le_trans l22 (Mem.le_trans l23 l24'))
      have one : ∀ {el : TypeId} {k : Nat} {b : Option Addr} {m d : Nat}, I24 k = some (.cells #[.int .i64 f.1, .slice b m d] el) → SlM I24 b m 1 (ints .u8 f.2) → m ≤ d → d ≤ maxLen → FldM I24 (some ⟨k, 0, none⟩) 1 [f] := fun hk h1 h2 h3 =>
        ⟨_, sl_cells (n := 1) (sz := 2) hk rfl (by decide), FR.cons ⟨hok, rfl, _, _, _, rfl, h1, h2, h3⟩ FR.nil⟩
      exact (ct37 [f] [f] _ _ 1 1 1 1 I24 (one (l24' _ _ hk1) (hs.mono (Mem.le_trans l02 l2m)) hmd hd) (one hk2 (hs'.mono l2m) hm' hd') (by omega)).mono fun v I25 l25 hv => ⟨_, hv, by simp⟩
  all_goals
    refine (ct26 l hbl a n c I1 (h.mono l1) (by omega)).mono fun v I2 l2 ⟨a1, n1, c1, hv, hF, hn1, hc1⟩ => ⟨a1, n1, c1, hv, ?_⟩
    try refine ⟨⟨?_, ?_⟩, ?_⟩
    try refine ⟨?_, ?_⟩
  all_goals
    intro k J1 l3 hk
    have l03 := Mem.le_trans l1 (Mem.le_trans l2 l3)
    have hone : FldM J1 (some ⟨k, 0, none⟩) 1 [f] := ⟨_, sl_cells (n := 1) (sz := 2) hk rfl (by decide), FR.cons ⟨hok, rfl, _, _, _, rfl, hs.mono l03, hmd, hd⟩ FR.nil⟩
    refine (ct26 [f] (by simp; omega) _ 1 1 J1 hone (by omega)).mono fun v I4 l4 ⟨a4, n4, c4, hv, hF4, hn4, hc4⟩ => ?_
    have hl4 := hF4.len
    simp only [List.length_singleton] at hl4
    obtain ⟨g, b', m', c', hg, hgok, e1, e2, hgs, hm1, hm2⟩ := hF4.at_ (i := 0) (by omega) (by omega)
    cases hg
    refine ⟨_, _, _, hv, by omega, by omega, hF4.isSome (by omega), rfl, _, e1, _, _, _, e2, fun k2 I5 l5 hk2 => ⟨rfl, rfl, rfl, rfl, hn70, hsum, by omega, by omega, hF.mono (Mem.le_trans l3 (Mem.le_trans l4 l5)), hn1, hc1, _, _, _, _, rfl, hk2, hgs.mono l5, hm1, hm2⟩⟩
open Go Go.Proofs Go.SE Go.RowKit
set_option linter.unusedVariables false
def manyL (k : Nat) : List (Int × List Int) := (List.range k).map fun (i : Nat) => (1 + 3 * (i : Int), [(i : Int)])
theorem zeros_of {n : Nat} {xs : List Value} (hl : xs.length = n) (h : ∀ (j : Nat) (v : Value), xs[j]? = some v → #[Value.int .u8 0][j % 1]? = some v) : xs = ints .u8 (List.replicate n 0) := by
  apply List.ext_getElem?
  intro j
  simp only [ints, List.getElem?_map, List.getElem?_replicate]
  by_cases hj : j < n
  · have h1 : xs[j]? = some xs[j] := List.getElem?_eq_getElem (by omega)
    have := h j _ h1
    rw [Nat.mod_one] at this
    rw [if_pos hj, h1, ← this]; rfl
  · rw [if_neg hj, List.getElem?_eq_none (by omega)]; rfl
theorem byteL_zeros (n : Nat) : byteL (List.replicate n 0) := fun z hz => by
  rw [List.eq_of_mem_replicate hz]; omega
theorem ints_of {I : Mem} {a : Option Addr} {n : Nat} {bs : List Int} {ys : List Value} (h : SlM I a n 1 (ints .u8 bs)) : ∃ ys, ys.length = n * 1 ∧ (a = none → n = 0) ∧ (∀ (j : Nat) (v : Value), ys[j]? = some v → atI I a j = some v) ∧ (∀ (v : Value), v ∈ ys → v.oneCell' = true) ∧ ys = ints .u8 bs :=
  ⟨_, h.len, h.nil, h.at_, one_ints, rfl⟩
theorem many_len (k : Nat) : (manyL k).length = k := by simp [manyL]
theorem many_succ (k : Nat) : manyL (k + 1) = manyL k ++ [(1 + 3 * (k : Int), [(k : Int)])] := by
  simp [manyL, List.range_succ]
theorem many_at {k : Nat} (hk : k ≤ 200) {f : Int × List Int} (h : f ∈ manyL k) : okFld f ∧ f.2.length = 1 := by
  simp only [manyL, List.mem_map, List.mem_range] at h
  obtain ⟨i, hi, rfl⟩ := h
  exact ⟨⟨⟨by simp only; omega, by simp only; omega⟩, by simp; omega⟩, rfl⟩
theorem slG_pre {I : Mem} {a : Option Addr} {n c : Nat} {xs : List Int} {ys : List Value} (h : RowM I a c 1 ys) (hx : ys = ints .u8 xs) (hn : n = xs.length) : SlM I a n 1 (ints .u8 xs) ∧ n ≤ c ∧ c ≤ maxLen := by
  subst hx
  have := h.1
  rw [ints_len] at this
  exact ⟨h.sl (by omega) (by rw [ints_len]; omega), by omega, h.2.1⟩
theorem many_right : rightF ((manyL 65).take 64) = true := by decide +kernel
theorem bysl_one {I : Mem} {b n : Nat} {xs : List Value} {el : TypeId} {bs : List Int} (h : I b = some (.cells xs.toArray el)) (hx : xs = ints .u8 bs) (hn : n = bs.length) (hm : n ≤ maxLen) : SlM I (some ⟨b, 0, none⟩) n 1 (ints .u8 bs) := by
  subst hx
  have := sl_cells (n := n) (sz := 1) h (by simp [ints]; omega) hm
  simpa using this
theorem wc_take : ∀ (ws : List Wnt) (k : Nat), (ws.flatMap wc).take (k * 4) = (ws.take k).flatMap wc
  | [], k => by simp
  | w :: r, 0 => by simp
  | w :: r, k + 1 => by
    rw [List.take_succ_cons, List.flatMap_cons, List.flatMap_cons, show (k + 1) * 4 = k * 4 + 1 + 1 + 1 + 1 by omega, ← wc_take r k]
    rfl
theorem WntM.take {I : Mem} {a : Option Addr} {n : Nat} {ws : List Wnt} (h : WntM I a n ws) {k : Nat} (hk : k ≤ n) : WntM I a k (ws.take k) :=
  ⟨by rw [← wc_take]; exact slG_take h.1 hk, fun w hw => h.2 w (List.mem_of_mem_take hw)⟩
set_option maxRecDepth 100000 in
theorem ct10 (I : Mem) : Ct Try.prog (fnv 10) #[] I (fun v _ => v = .bool true) := by
  refine viaR (ct_via (A := { befores := [(2, [0]), (6, [1]), (15, [1]), (22, [2])], calls := [(230, .val true), (240, .val true), (250, .val true), (254, .val true), (258, .val true), (262, .val true), (266, .val true), (274, .val true), (282, .val true), (286, .val true), (290, .val true), (296, .val true), (305, .val true), (312, .val true), (176, .hd), (106, .sym), (179, .sym), (283, .sym), (287, .sym), (300, .sym)], chands := [(43, [16]), (51, [16, 18, 19, 20])], cuts := [(14, ⟨[], [], [], fun _ _ _ _ => True, fun _ _ => 0⟩), (37, ⟨[], [], [], fun _ _ _ _ => True, fun _ _ => 0⟩), (43, ⟨[(16, .sh .sl)], [], [], fun vals _ I' _ => match vals with | [.slice a n c] => ∃ k, k = 65 ∧ n = k ∧ FldM I' a k (manyL k) ∧ n ≤ c ∧ c ≤ maxLen | _ => False, fun _ _ => 0⟩), (51, ⟨[(16, .sh .sl), (18, .sh .sl), (19, .sh .sl), (20, .sh .sl)], [], [], fun vals _ I' _ => match vals with | [.slice a n c, .slice a1 n1 c1, .slice a2 n2 c2, .slice a3 n3 c3] => ∃ k m : Nat, k = 65 ∧ m = 16384 ∧ n = k ∧ FldM I' a k (manyL k) ∧ n ≤ c ∧ c ≤ maxLen ∧ n1 = m ∧ c1 = m ∧ SlM I' a1 m 1 (ints .u8 (List.replicate m 0)) ∧ n2 = 1 ∧ n2 ≤ c2 ∧ c2 ≤ maxLen ∧ FldM I' a2 1 [(5, List.replicate m 0)] ∧ n3 = k ∧ n3 ≤ c3 ∧ c3 ≤ maxLen ∧ ∃ ws : List Wnt, WntM I' a3 n3 ws | _ => False, fun _ _ => 0⟩)], loops := [(3, ⟨[(1, .keep), (29, .sh (.int .i64))], [], [], fun vals _ _ _ => match vals with | [.int .i64 j] => 0 ≤ j ∧ j ≤ 6561 | _ => False, fun vals _ => match vals with | [.int .i64 j] => (6561 - j).toNat | _ => 0⟩), (7, ⟨[(1, .keep), (2, .keep), (3, .keep), (29, .keep), (55, .sh (.int .i64))], [], [], fun vals _ _ _ => match vals with | [.int .i64 j] => 0 ≤ j ∧ j ≤ 5 | _ => False, fun vals _ => match vals with | [.int .i64 j] => (5 - j).toNat | _ => 0⟩), (16, ⟨[(5, .keep), (86, .keep), (87, .keep), (88, .sh (.int .i64))], [], [], fun vals _ _ _ => match vals with | [.int .i64 j] => 0 ≤ j ∧ j ≤ 11 | _ => False, fun vals _ => match vals with | [.int .i64 j] => (11 - j).toNat | _ => 0⟩), (19, ⟨[(5, .keep), (7, .keep), (86, .keep), (87, .keep), (88, .keep), (92, .keep), (93, .keep), (94, .sh (.int .i64))], [], [], fun vals _ _ _ => match vals with | [.int .i64 j] => 0 ≤ j ∧ j ≤ 11 | _ => False, fun vals _ => match vals with | [.int .i64 j] => (11 - j).toNat | _ => 0⟩), (22, ⟨[(5, .keep), (7, .keep), (9, .keep), (86, .keep), (87, .keep), (88, .keep), (92, .keep), (93, .keep), (94, .keep), (98, .keep), (99, .keep), (100, .sh (.int .i64))], [], [], fun vals _ _ _ => match vals with | [.int .i64 j] => 0 ≤ j ∧ j ≤ 4 | _ => False, fun vals _ => match vals with | [.int .i64 j] => (4 - j).toNat | _ => 0⟩), (31, ⟨[(5, .keep), (7, .keep), (86, .keep), (87, .keep), (88, .keep), (135, .keep), (136, .keep), (137, .sh (.int .i64))], [], [], fun vals _ _ _ => match vals with | [.int .i64 j] => 0 ≤ j ∧ j ≤ 11 | _ => False, fun vals _ => match vals with | [.int .i64 j] => (11 - j).toNat | _ => 0⟩), (39, ⟨[(16, .row 2), (165, .sh (.int .i64))], [(2, .row)], [(16, 2, 29)], fun vals xss I' _ => match vals, xss with | [.int .i64 j], [xs] => 0 ≤ j ∧ j ≤ 65 ∧ FR I' xs (manyL j.toNat) | _, _ => False, fun vals _ => match vals with | [.int .i64 j] => (65 - j).toNat | _ => 0⟩), (47, ⟨[(16, .keep), (18, .keep), (19, .keep), (20, .row 4), (183, .sh (.int .i64))], [(2, .keep), (3, .keep), (4, .row)], [(20, 4, 31)], fun vals xss I' _ => match vals, xss with | [.int .i64 j], [xs] => 0 ≤ j ∧ j ≤ 65 ∧ ∃ ws : List Wnt, xs = ws.flatMap wc ∧ (∀ w ∈ ws, okW w) ∧ (ws.length : Int) = j | _, _ => False, fun vals _ => match vals with | [.int .i64 j] => (65 - j).toNat | _ => 0⟩)] }) Try.func10 rfl Try.call10 rfl rfl) (∀ (b : Nat) (I' : Mem), Mem.le I I' → I' b = some (Obj.cells #[Value.int IntKind.u8 (0 : Int), Value.int IntKind.u8 (1 : Int), Value.int IntKind.u8 (2 : Int), Value.int IntKind.u8 (3 : Int), Value.int IntKind.u8 (200 : Int), Value.int IntKind.u8 (201 : Int), Value.int IntKind.u8 (247 : Int), Value.int IntKind.u8 (248 : Int), Value.int IntKind.u8 (255 : Int)] (5 : Nat)) → ((SV.v (Value.slice (some (Addr.mk b (0 : Nat) none)) (9 : Nat) (9 : Nat)) = SV.v (Value.slice (some (Addr.mk b (0 : Nat) none)) (9 : Nat) (9 : Nat)) ∧ (0 : Int) ≤ (0 : Int) ∧ (0 : Int) ≤ (6561 : Int)) ∧ ∀ (I'_1 G' : Mem), Mem.le I' I'_1 → ∀ (n : Int), (0 : Int) ≤ n ∧ n ≤ (6561 : Int) → Br (decide (n < (6561 : Int))) ((9 : Int) ≠ (0 : Int) ∧ (0 : Int) ≤ Int.tmod n (9 : Int) ∧ Int.tmod n (9 : Int) < (9 : Int) ∧ true = true ∧ ∃ (n_1 : Int), atI I'_1 (some (Addr.mk b (0 : Nat) none)) (Int.toNat (Int.tmod n (9 : Int)) * (1 : Nat) + (0 : Nat)) = some (Value.int IntKind.u8 n_1) ∧ (9 : Int) ≠ (0 : Int) ∧ Wr IntKind.i64 (Int.tdiv n (9 : Int)) fun (c : Int) => (9 : Int) ≠ (0 : Int) ∧ (0 : Int) ≤ Int.tmod c (9 : Int) ∧ Int.tmod c (9 : Int) < (9 : Int) ∧ true = true ∧ ∃ (n_2 : Int), atI I'_1 (some (Addr.mk b (0 : Nat) none)) (Int.toNat (Int.tmod c (9 : Int)) * (1 : Nat) + (0 : Nat)) = some (Value.int IntKind.u8 n_2) ∧ (81 : Int) ≠ (0 : Int) ∧ Wr IntKind.i64 (Int.tdiv n (81 : Int)) fun (c : Int) => (9 : Int) ≠ (0 : Int) ∧ (0 : Int) ≤ Int.tmod c (9 : Int) ∧ Int.tmod c (9 : Int) < (9 : Int) ∧ true = true ∧ ∃ (n_3 : Int), atI I'_1 (some (Addr.mk b (0 : Nat) none)) (Int.toNat (Int.tmod c (9 : Int)) * (1 : Nat) + (0 : Nat)) = some (Value.int IntKind.u8 n_3) ∧ (729 : Int) ≠ (0 : Int) ∧ Wr IntKind.i64 (Int.tdiv n (729 : Int)) fun (c : Int) => (0 : Int) ≤ c ∧ c < (9 : Int) ∧ true = true ∧ ∃ (n_4 : Int), atI I'_1 (some (Addr.mk b (0 : Nat) none)) (Int.toNat c * (1 : Nat) + (0 : Nat)) = some (Value.int IntKind.u8 n_4) ∧ ∀ (b_1 : Nat) (I' : Mem), Mem.le I'_1 I' → I' b_1 = some (Obj.cells #[Value.int IntKind.u8 n_1, Value.int IntKind.u8 n_2, Value.int IntKind.u8 n_3, Value.int IntKind.u8 n_4] (5 : Nat)) → (SV.v (Value.slice (some (Addr.mk b (0 : Nat) none)) (9 : Nat) (9 : Nat)) = SV.v (Value.slice (some (Addr.mk b (0 : Nat) none)) (9 : Nat) (9 : Nat)) ∧ SV.v (Value.int IntKind.i64 n) = SV.v (Value.int IntKind.i64 n) ∧ SV.v (Value.slice (some (Addr.mk b_1 (0 : Nat) none)) (4 : Nat) (4 : Nat)) = SV.v (Value.slice (some (Addr.mk b_1 (0 : Nat) none)) (4 : Nat) (4 : Nat)) ∧ SV.v (Value.int IntKind.i64 n) = SV.v (Value.int IntKind.i64 n) ∧ (0 : Int) ≤ (0 : Int) ∧ (0 : Int) ≤ (5 : Int)) ∧ ∀ (I'_2 G' : Mem), Mem.le I' I'_2 → ∀ (n_5 : Int), (0 : Int) ≤ n_5 ∧ n_5 ≤ (5 : Int) → Br (decide (n_5 < (5 : Int))) (Br (decide (n < (81 : Int))) ((0 : Int) ≤ n_5 ∧ n_5 ≤ (4 : Int) ∧ Ct Try.prog (Value.func (Fn.func (15 : Nat)) #[] #[]) #[Value.slice (some (Addr.mk b_1 (0 : Nat) none)) (Int.toNat n_5) (4 : Nat)] I'_2 fun (v : Value) (I' : Mem) => ∃ (b_2 : Bool), v = Value.bool b_2 ∧ Br (!b_2) (Value.bool false = Value.bool true) ((0 : Int) ≤ n_5 ∧ n_5 ≤ (4 : Int) ∧ ∃ (ys : List Value), List.length ys = Int.toNat n_5 * (1 : Nat) ∧ (some (Addr.mk b_1 (0 : Nat) none) = none → Int.toNat n_5 = (0 : Nat)) ∧ (∀ (j : Nat) (v : Value), ys[j]? = some v → atI I' (some (Addr.mk b_1 (0 : Nat) none)) j = some v) ∧ (∀ (v : Value), v ∈ ys → Value.oneCell' v = true) ∧ (3 : Nat) = (3 : Nat) ∧ (3 : Nat) + Int.toNat n_5 ≤ (9223372036854775807 : Nat) ∧ ((3 : Nat) + Int.toNat n_5) * (1 : Nat) ≤ (140737488355328 : Nat) ∧ ∀ (a : Option Addr) (cp : Nat) (I'_3 : Mem), Mem.le I' I'_3 → RowM I'_3 a cp (1 : Nat) (Value.int IntKind.u8 (1 : Int) :: Value.int IntKind.u8 (1 : Int) :: Value.int IntKind.u8 (7 : Int) :: ys) → Ct Try.prog (Value.func (Fn.func (15 : Nat)) #[] #[]) #[Value.slice a ((3 : Nat) + Int.toNat n_5) cp] I'_3 fun (v : Value) (I' : Mem) => ∃ (b_3 : Bool), v = Value.bool b_3 ∧ Br (!b_3) (Value.bool false = Value.bool true) (Wr IntKind.i64 (n_5 + (1 : Int)) fun (c : Int) => SV.v (Value.slice (some (Addr.mk b (0 : Nat) none)) (9 : Nat) (9 : Nat)) = SV.v (Value.slice (some (Addr.mk b (0 : Nat) none)) (9 : Nat) (9 : Nat)) ∧ SV.v (Value.int IntKind.i64 n) = SV.v (Value.int IntKind.i64 n) ∧ SV.v (Value.slice (some (Addr.mk b_1 (0 : Nat) none)) (4 : Nat) (4 : Nat)) = SV.v (Value.slice (some (Addr.mk b_1 (0 : Nat) none)) (4 : Nat) (4 : Nat)) ∧ SV.v (Value.int IntKind.i64 n) = SV.v (Value.int IntKind.i64 n) ∧ ((0 : Int) ≤ c ∧ c ≤ (5 : Int)) ∧ Int.toNat ((5 : Int) - c) < Int.toNat ((5 : Int) - n_5)))) (Br (n_5 == (4 : Int)) ((0 : Int) ≤ n_5 ∧ n_5 ≤ (4 : Int) ∧ Ct Try.prog (Value.func (Fn.func (15 : Nat)) #[] #[]) #[Value.slice (some (Addr.mk b_1 (0 : Nat) none)) (Int.toNat n_5) (4 : Nat)] I'_2 fun (v : Value) (I' : Mem) => ∃ (b_2 : Bool), v = Value.bool b_2 ∧ Br (!b_2) (Value.bool false = Value.bool true) ((0 : Int) ≤ n_5 ∧ n_5 ≤ (4 : Int) ∧ ∃ (ys : List Value), List.length ys = Int.toNat n_5 * (1 : Nat) ∧ (some (Addr.mk b_1 (0 : Nat) none) = none → Int.toNat n_5 = (0 : Nat)) ∧ (∀ (j : Nat) (v : Value), ys[j]? = some v → atI I' (some (Addr.mk b_1 (0 : Nat) none)) j = some v) ∧ (∀ (v : Value), v ∈ ys → Value.oneCell' v = true) ∧ (3 : Nat) = (3 : Nat) ∧ (3 : Nat) + Int.toNat n_5 ≤ (9223372036854775807 : Nat) ∧ ((3 : Nat) + Int.toNat n_5) * (1 : Nat) ≤ (140737488355328 : Nat) ∧ ∀ (a : Option Addr) (cp : Nat) (I'_3 : Mem), Mem.le I' I'_3 → RowM I'_3 a cp (1 : Nat) (Value.int IntKind.u8 (1 : Int) :: Value.int IntKind.u8 (1 : Int) :: Value.int IntKind.u8 (7 : Int) :: ys) → Ct Try.prog (Value.func (Fn.func (15 : Nat)) #[] #[]) #[Value.slice a ((3 : Nat) + Int.toNat n_5) cp] I'_3 fun (v : Value) (I' : Mem) => ∃ (b_3 : Bool), v = Value.bool b_3 ∧ Br (!b_3) (Value.bool false = Value.bool true) (Wr IntKind.i64 (n_5 + (1 : Int)) fun (c : Int) => SV.v (Value.slice (some (Addr.mk b (0 : Nat) none)) (9 : Nat) (9 : Nat)) = SV.v (Value.slice (some (Addr.mk b (0 : Nat) none)) (9 : Nat) (9 : Nat)) ∧ SV.v (Value.int IntKind.i64 n) = SV.v (Value.int IntKind.i64 n) ∧ SV.v (Value.slice (some (Addr.mk b_1 (0 : Nat) none)) (4 : Nat) (4 : Nat)) = SV.v (Value.slice (some (Addr.mk b_1 (0 : Nat) none)) (4 : Nat) (4 : Nat)) ∧ SV.v (Value.int IntKind.i64 n) = SV.v (Value.int IntKind.i64 n) ∧ ((0 : Int) ≤ c ∧ c ≤ (5 : Int)) ∧ Int.toNat ((5 : Int) - c) < Int.toNat ((5 : Int) - n_5)))) ((11 : Int) ≠ (0 : Int) ∧ Br (Int.tmod n (11 : Int) == (0 : Int)) ((0 : Int) ≤ n_5 ∧ n_5 ≤ (4 : Int) ∧ Ct Try.prog (Value.func (Fn.func (15 : Nat)) #[] #[]) #[Value.slice (some (Addr.mk b_1 (0 : Nat) none)) (Int.toNat n_5) (4 : Nat)] I'_2 fun (v : Value) (I' : Mem) => ∃ (b_2 : Bool), v = Value.bool b_2 ∧ Br (!b_2) (Value.bool false = Value.bool true) ((0 : Int) ≤ n_5 ∧ n_5 ≤ (4 : Int) ∧ ∃ (ys : List Value), List.length ys = Int.toNat n_5 * (1 : Nat) ∧ (some (Addr.mk b_1 (0 : Nat) none) = none → Int.toNat n_5 = (0 : Nat)) ∧ (∀ (j : Nat) (v : Value), ys[j]? = some v → atI I' (some (Addr.mk b_1 (0 : Nat) none)) j = some v) ∧ (∀ (v : Value), v ∈ ys → Value.oneCell' v = true) ∧ (3 : Nat) = (3 : Nat) ∧ (3 : Nat) + Int.toNat n_5 ≤ (9223372036854775807 : Nat) ∧ ((3 : Nat) + Int.toNat n_5) * (1 : Nat) ≤ (140737488355328 : Nat) ∧ ∀ (a : Option Addr) (cp : Nat) (I'_3 : Mem), Mem.le I' I'_3 → RowM I'_3 a cp (1 : Nat) (Value.int IntKind.u8 (1 : Int) :: Value.int IntKind.u8 (1 : Int) :: Value.int IntKind.u8 (7 : Int) :: ys) → Ct Try.prog (Value.func (Fn.func (15 : Nat)) #[] #[]) #[Value.slice a ((3 : Nat) + Int.toNat n_5) cp] I'_3 fun (v : Value) (I' : Mem) => ∃ (b_3 : Bool), v = Value.bool b_3 ∧ Br (!b_3) (Value.bool false = Value.bool true) (Wr IntKind.i64 (n_5 + (1 : Int)) fun (c : Int) => SV.v (Value.slice (some (Addr.mk b (0 : Nat) none)) (9 : Nat) (9 : Nat)) = SV.v (Value.slice (some (Addr.mk b (0 : Nat) none)) (9 : Nat) (9 : Nat)) ∧ SV.v (Value.int IntKind.i64 n) = SV.v (Value.int IntKind.i64 n) ∧ SV.v (Value.slice (some (Addr.mk b_1 (0 : Nat) none)) (4 : Nat) (4 : Nat)) = SV.v (Value.slice (some (Addr.mk b_1 (0 : Nat) none)) (4 : Nat) (4 : Nat)) ∧ SV.v (Value.int IntKind.i64 n) = SV.v (Value.int IntKind.i64 n) ∧ ((0 : Int) ≤ c ∧ c ≤ (5 : Int)) ∧ Int.toNat ((5 : Int) - c) < Int.toNat ((5 : Int) - n_5)))) (Wr IntKind.i64 (n_5 + (1 : Int)) fun (c : Int) => SV.v (Value.slice (some (Addr.mk b (0 : Nat) none)) (9 : Nat) (9 : Nat)) = SV.v (Value.slice (some (Addr.mk b (0 : Nat) none)) (9 : Nat) (9 : Nat)) ∧ SV.v (Value.int IntKind.i64 n) = SV.v (Value.int IntKind.i64 n) ∧ SV.v (Value.slice (some (Addr.mk b_1 (0 : Nat) none)) (4 : Nat) (4 : Nat)) = SV.v (Value.slice (some (Addr.mk b_1 (0 : Nat) none)) (4 : Nat) (4 : Nat)) ∧ SV.v (Value.int IntKind.i64 n) = SV.v (Value.int IntKind.i64 n) ∧ ((0 : Int) ≤ c ∧ c ≤ (5 : Int)) ∧ Int.toNat ((5 : Int) - c) < Int.toNat ((5 : Int) - n_5))))) (Wr IntKind.i64 (n + (1 : Int)) fun (c : Int) => SV.v (Value.slice (some (Addr.mk b (0 : Nat) none)) (9 : Nat) (9 : Nat)) = SV.v (Value.slice (some (Addr.mk b (0 : Nat) none)) (9 : Nat) (9 : Nat)) ∧ ((0 : Int) ≤ c ∧ c ≤ (6561 : Int)) ∧ Int.toNat ((6561 : Int) - c) < Int.toNat ((6561 : Int) - n))) True) ∧ ∀ (I'_1 G' : Mem), Mem.le I' I'_1 → True → ∀ (b : Nat) (I' : Mem), Mem.le I'_1 I' → I' b = some (Obj.cells #[Value.int IntKind.i64 (-9223372036854775808 : Int), Value.int IntKind.i64 (-1 : Int), Value.int IntKind.i64 (0 : Int), Value.int IntKind.i64 (1 : Int), Value.int IntKind.i64 (2 : Int), Value.int IntKind.i64 (199 : Int), Value.int IntKind.i64 (200 : Int), Value.int IntKind.i64 (201 : Int), Value.int IntKind.i64 (256 : Int), Value.int IntKind.i64 (257 : Int), Value.int IntKind.i64 (9223372036854775807 : Int)] (3 : Nat)) → ((SV.v (Value.slice (some (Addr.mk b (0 : Nat) none)) (11 : Nat) (11 : Nat)) = SV.v (Value.slice (some (Addr.mk b (0 : Nat) none)) (11 : Nat) (11 : Nat)) ∧ SV.v (Value.slice (some (Addr.mk b (0 : Nat) none)) (11 : Nat) (11 : Nat)) = SV.v (Value.slice (some (Addr.mk b (0 : Nat) none)) (11 : Nat) (11 : Nat)) ∧ SV.v (Value.int IntKind.i64 (11 : Int)) = SV.v (Value.int IntKind.i64 (11 : Int)) ∧ (0 : Int) ≤ (0 : Int) ∧ (0 : Int) ≤ (11 : Int)) ∧ ∀ (I'_2 G' : Mem), Mem.le I' I'_2 → ∀ (n : Int), (0 : Int) ≤ n ∧ n ≤ (11 : Int) → Br (decide (n < (11 : Int))) ((0 : Int) ≤ n ∧ n < (11 : Int) ∧ true = true ∧ ∃ (n_1 : Int), atI I'_2 (some (Addr.mk b (0 : Nat) none)) (Int.toNat n * (1 : Nat) + (0 : Nat)) = some (Value.int IntKind.i64 n_1) ∧ (SV.v (Value.slice (some (Addr.mk b (0 : Nat) none)) (11 : Nat) (11 : Nat)) = SV.v (Value.slice (some (Addr.mk b (0 : Nat) none)) (11 : Nat) (11 : Nat)) ∧ SV.v (Value.int IntKind.i64 n_1) = SV.v (Value.int IntKind.i64 n_1) ∧ SV.v (Value.slice (some (Addr.mk b (0 : Nat) none)) (11 : Nat) (11 : Nat)) = SV.v (Value.slice (some (Addr.mk b (0 : Nat) none)) (11 : Nat) (11 : Nat)) ∧ SV.v (Value.int IntKind.i64 (11 : Int)) = SV.v (Value.int IntKind.i64 (11 : Int)) ∧ SV.v (Value.int IntKind.i64 n) = SV.v (Value.int IntKind.i64 n) ∧ SV.v (Value.slice (some (Addr.mk b (0 : Nat) none)) (11 : Nat) (11 : Nat)) = SV.v (Value.slice (some (Addr.mk b (0 : Nat) none)) (11 : Nat) (11 : Nat)) ∧ SV.v (Value.int IntKind.i64 (11 : Int)) = SV.v (Value.int IntKind.i64 (11 : Int)) ∧ (0 : Int) ≤ (0 : Int) ∧ (0 : Int) ≤ (11 : Int)) ∧ ∀ (I' G' : Mem), Mem.le I'_2 I' → ∀ (n_2 : Int), (0 : Int) ≤ n_2 ∧ n_2 ≤ (11 : Int) → Br (decide (n_2 < (11 : Int))) ((0 : Int) ≤ n_2 ∧ n_2 < (11 : Int) ∧ true = true ∧ ∃ (n_3 : Int), atI I' (some (Addr.mk b (0 : Nat) none)) (Int.toNat n_2 * (1 : Nat) + (0 : Nat)) = some (Value.int IntKind.i64 n_3) ∧ ∀ (b_1 : Nat) (I'_3 : Mem), Mem.le I' I'_3 → I'_3 b_1 = some (Obj.cells #[Value.int IntKind.i64 (0 : Int), Value.int IntKind.i64 (1 : Int), Value.int IntKind.i64 (246 : Int), Value.int IntKind.i64 (247 : Int)] (3 : Nat)) → (SV.v (Value.slice (some (Addr.mk b (0 : Nat) none)) (11 : Nat) (11 : Nat)) = SV.v (Value.slice (some (Addr.mk b (0 : Nat) none)) (11 : Nat) (11 : Nat)) ∧ SV.v (Value.int IntKind.i64 n_1) = SV.v (Value.int IntKind.i64 n_1) ∧ SV.v (Value.int IntKind.i64 n_3) = SV.v (Value.int IntKind.i64 n_3) ∧ SV.v (Value.slice (some (Addr.mk b (0 : Nat) none)) (11 : Nat) (11 : Nat)) = SV.v (Value.slice (some (Addr.mk b (0 : Nat) none)) (11 : Nat) (11 : Nat)) ∧ SV.v (Value.int IntKind.i64 (11 : Int)) = SV.v (Value.int IntKind.i64 (11 : Int)) ∧ SV.v (Value.int IntKind.i64 n) = SV.v (Value.int IntKind.i64 n) ∧ SV.v (Value.slice (some (Addr.mk b (0 : Nat) none)) (11 : Nat) (11 : Nat)) = SV.v (Value.slice (some (Addr.mk b (0 : Nat) none)) (11 : Nat) (11 : Nat)) ∧ SV.v (Value.int IntKind.i64 (11 : Int)) = SV.v (Value.int IntKind.i64 (11 : Int)) ∧ SV.v (Value.int IntKind.i64 n_2) = SV.v (Value.int IntKind.i64 n_2) ∧ SV.v (Value.slice (some (Addr.mk b_1 (0 : Nat) none)) (4 : Nat) (4 : Nat)) = SV.v (Value.slice (some (Addr.mk b_1 (0 : Nat) none)) (4 : Nat) (4 : Nat)) ∧ SV.v (Value.int IntKind.i64 (4 : Int)) = SV.v (Value.int IntKind.i64 (4 : Int)) ∧ (0 : Int) ≤ (0 : Int) ∧ (0 : Int) ≤ (4 : Int)) ∧ ∀ (I' G' : Mem), Mem.le I'_3 I' → ∀ (n_4 : Int), (0 : Int) ≤ n_4 ∧ n_4 ≤ (4 : Int) → Br (decide (n_4 < (4 : Int))) ((0 : Int) ≤ n_4 ∧ n_4 < (4 : Int) ∧ true = true ∧ ∃ (n_5 : Int), atI I' (some (Addr.mk b_1 (0 : Nat) none)) (Int.toNat n_4 * (1 : Nat) + (0 : Nat)) = some (Value.int IntKind.i64 n_5) ∧ n_5 = n_5 ∧ (0 : Int) ≤ n_5 ∧ n_5 ≤ (281474976710656 : Int) ∧ (1 : Int) * n_5 ≤ (281474976710656 : Int) ∧ ∀ (xs : List Value), List.length xs = Int.toNat n_5 * (1 : Nat) → (∀ (j : Nat) (v : Value), xs[j]? = some v → #[Value.int IntKind.u8 (0 : Int)][j % (1 : Nat)]? = some v) → ∀ (b_2 : Nat) (I'_4 : Mem), Mem.le I' I'_4 → I'_4 b_2 = some (Obj.cells (List.toArray xs) (5 : Nat)) → ∀ (b_3 : Nat) (I' : Mem), Mem.le I'_4 I' → I' b_3 = some (Obj.cells #[Value.int IntKind.u8 (1 : Int)] (5 : Nat)) → ∀ (b_4 : Nat) (I'_5 : Mem), Mem.le I' I'_5 → I'_5 b_4 = some (Obj.cells #[Value.int IntKind.i64 n_1, Value.slice (some (Addr.mk b_2 (0 : Nat) none)) (Int.toNat n_5) (Int.toNat n_5), Value.int IntKind.i64 n_3, Value.slice (some (Addr.mk b_3 (0 : Nat) none)) (1 : Nat) (1 : Nat)] (29 : Nat)) → ∀ (b_5 : Nat) (I' : Mem), Mem.le I'_5 I' → I' b_5 = some (Obj.cells #[Value.int IntKind.u8 (2 : Int), Value.int IntKind.u8 (3 : Int)] (5 : Nat)) → ∀ (b_6 : Nat) (I'_6 : Mem), Mem.le I' I'_6 → I'_6 b_6 = some (Obj.cells #[Value.int IntKind.i64 (1 : Int), Value.bool true, Value.int IntKind.i64 (1 : Int), Value.int IntKind.i64 (247 : Int), Value.int IntKind.i64 (2 : Int), Value.bool false, Value.int IntKind.i64 (0 : Int), Value.int IntKind.i64 (1 : Int), Value.int IntKind.i64 (200 : Int), Value.bool true, Value.int IntKind.i64 (0 : Int), Value.int IntKind.i64 (16384 : Int)] (31 : Nat)) → Ct Try.prog (Value.func (Fn.func (24 : Nat)) #[] #[]) #[Value.slice (some (Addr.mk b_4 (0 : Nat) none)) (2 : Nat) (2 : Nat), Value.agg #[Value.int IntKind.i64 n_3, Value.slice (some (Addr.mk b_5 (0 : Nat) none)) (2 : Nat) (2 : Nat)], Value.slice (some (Addr.mk b_6 (0 : Nat) none)) (3 : Nat) (3 : Nat)] I'_6 fun (v : Value) (I' : Mem) => ∃ (b_7 : Bool), v = Value.bool b_7 ∧ Br (!b_7) (Value.bool false = Value.bool true) ((0 : Int) ≤ (1 : Int) ∧ (1 : Int) ≤ (2 : Int) ∧ (0 : Int) ≤ (2 : Int) ∧ (2 : Int) ≤ (3 : Int) ∧ Ct Try.prog (Value.func (Fn.func (24 : Nat)) #[] #[]) #[Value.slice (some (Addr.mk b_4 (0 : Nat) none)) (1 : Nat) (2 : Nat), Value.agg #[Value.int IntKind.i64 n_3, Value.slice none (0 : Nat) (0 : Nat)], Value.slice (some (Addr.mk b_6 (0 : Nat) none)) (2 : Nat) (3 : Nat)] I' fun (v : Value) (I' : Mem) => ∃ (b_8 : Bool), v = Value.bool b_8 ∧ Br (!b_8) (Value.bool false = Value.bool true) (Wr IntKind.i64 (n_4 + (1 : Int)) fun (c : Int) => SV.v (Value.slice (some (Addr.mk b (0 : Nat) none)) (11 : Nat) (11 : Nat)) = SV.v (Value.slice (some (Addr.mk b (0 : Nat) none)) (11 : Nat) (11 : Nat)) ∧ SV.v (Value.int IntKind.i64 n_1) = SV.v (Value.int IntKind.i64 n_1) ∧ SV.v (Value.int IntKind.i64 n_3) = SV.v (Value.int IntKind.i64 n_3) ∧ SV.v (Value.slice (some (Addr.mk b (0 : Nat) none)) (11 : Nat) (11 : Nat)) = SV.v (Value.slice (some (Addr.mk b (0 : Nat) none)) (11 : Nat) (11 : Nat)) ∧ SV.v (Value.int IntKind.i64 (11 : Int)) = SV.v (Value.int IntKind.i64 (11 : Int)) ∧ SV.v (Value.int IntKind.i64 n) = SV.v (Value.int IntKind.i64 n) ∧ SV.v (Value.slice (some (Addr.mk b (0 : Nat) none)) (11 : Nat) (11 : Nat)) = SV.v (Value.slice (some (Addr.mk b (0 : Nat) none)) (11 : Nat) (11 : Nat)) ∧ SV.v (Value.int IntKind.i64 (11 : Int)) = SV.v (Value.int IntKind.i64 (11 : Int)) ∧ SV.v (Value.int IntKind.i64 n_2) = SV.v (Value.int IntKind.i64 n_2) ∧ SV.v (Value.slice (some (Addr.mk b_1 (0 : Nat) none)) (4 : Nat) (4 : Nat)) = SV.v (Value.slice (some (Addr.mk b_1 (0 : Nat) none)) (4 : Nat) (4 : Nat)) ∧ SV.v (Value.int IntKind.i64 (4 : Int)) = SV.v (Value.int IntKind.i64 (4 : Int)) ∧ ((0 : Int) ≤ c ∧ c ≤ (4 : Int)) ∧ Int.toNat ((4 : Int) - c) < Int.toNat ((4 : Int) - n_4)))) (Wr IntKind.i64 (n_2 + (1 : Int)) fun (c : Int) => SV.v (Value.slice (some (Addr.mk b (0 : Nat) none)) (11 : Nat) (11 : Nat)) = SV.v (Value.slice (some (Addr.mk b (0 : Nat) none)) (11 : Nat) (11 : Nat)) ∧ SV.v (Value.int IntKind.i64 n_1) = SV.v (Value.int IntKind.i64 n_1) ∧ SV.v (Value.slice (some (Addr.mk b (0 : Nat) none)) (11 : Nat) (11 : Nat)) = SV.v (Value.slice (some (Addr.mk b (0 : Nat) none)) (11 : Nat) (11 : Nat)) ∧ SV.v (Value.int IntKind.i64 (11 : Int)) = SV.v (Value.int IntKind.i64 (11 : Int)) ∧ SV.v (Value.int IntKind.i64 n) = SV.v (Value.int IntKind.i64 n) ∧ SV.v (Value.slice (some (Addr.mk b (0 : Nat) none)) (11 : Nat) (11 : Nat)) = SV.v (Value.slice (some (Addr.mk b (0 : Nat) none)) (11 : Nat) (11 : Nat)) ∧ SV.v (Value.int IntKind.i64 (11 : Int)) = SV.v (Value.int IntKind.i64 (11 : Int)) ∧ ((0 : Int) ≤ c ∧ c ≤ (11 : Int)) ∧ Int.toNat ((11 : Int) - c) < Int.toNat ((11 : Int) - n_2))) ((SV.v (Value.slice (some (Addr.mk b (0 : Nat) none)) (11 : Nat) (11 : Nat)) = SV.v (Value.slice (some (Addr.mk b (0 : Nat) none)) (11 : Nat) (11 : Nat)) ∧ SV.v (Value.int IntKind.i64 n_1) = SV.v (Value.int IntKind.i64 n_1) ∧ SV.v (Value.slice (some (Addr.mk b (0 : Nat) none)) (11 : Nat) (11 : Nat)) = SV.v (Value.slice (some (Addr.mk b (0 : Nat) none)) (11 : Nat) (11 : Nat)) ∧ SV.v (Value.int IntKind.i64 (11 : Int)) = SV.v (Value.int IntKind.i64 (11 : Int)) ∧ SV.v (Value.int IntKind.i64 n) = SV.v (Value.int IntKind.i64 n) ∧ SV.v (Value.slice (some (Addr.mk b (0 : Nat) none)) (11 : Nat) (11 : Nat)) = SV.v (Value.slice (some (Addr.mk b (0 : Nat) none)) (11 : Nat) (11 : Nat)) ∧ SV.v (Value.int IntKind.i64 (11 : Int)) = SV.v (Value.int IntKind.i64 (11 : Int)) ∧ (0 : Int) ≤ (0 : Int) ∧ (0 : Int) ≤ (11 : Int)) ∧ ∀ (I'_3 G' : Mem), Mem.le I' I'_3 → ∀ (n_3 : Int), (0 : Int) ≤ n_3 ∧ n_3 ≤ (11 : Int) → Br (decide (n_3 < (11 : Int))) ((0 : Int) ≤ n_3 ∧ n_3 < (11 : Int) ∧ true = true ∧ ∃ (n_4 : Int), atI I'_3 (some (Addr.mk b (0 : Nat) none)) (Int.toNat n_3 * (1 : Nat) + (0 : Nat)) = some (Value.int IntKind.i64 n_4) ∧ ∀ (b_1 : Nat) (I' : Mem), Mem.le I'_3 I' → I' b_1 = some (Obj.cells #[Value.int IntKind.i64 (1 : Int), Value.slice none (0 : Nat) (0 : Nat)] (29 : Nat)) → ∀ (b_2 : Nat) (I'_4 : Mem), Mem.le I' I'_4 → I'_4 b_2 = some (Obj.cells #[Value.int IntKind.u8 (247 : Int), Value.int IntKind.u8 (255 : Int)] (5 : Nat)) → ∀ (b_3 : Nat) (I' : Mem), Mem.le I'_4 I' → I' b_3 = some (Obj.cells #[Value.int IntKind.i64 (1 : Int), Value.bool false, Value.int IntKind.i64 n_1, Value.int IntKind.i64 n_4, Value.int IntKind.i64 (3 : Int), Value.bool false, Value.int IntKind.i64 (0 : Int), Value.int IntKind.i64 (0 : Int)] (31 : Nat)) → Ct Try.prog (Value.func (Fn.func (24 : Nat)) #[] #[]) #[Value.slice (some (Addr.mk b_1 (0 : Nat) none)) (1 : Nat) (1 : Nat), Value.agg #[Value.int IntKind.i64 (1 : Int), Value.slice (some (Addr.mk b_2 (0 : Nat) none)) (2 : Nat) (2 : Nat)], Value.slice (some (Addr.mk b_3 (0 : Nat) none)) (2 : Nat) (2 : Nat)] I' fun (v : Value) (I' : Mem) => ∃ (b_4 : Bool), v = Value.bool b_4 ∧ Br (!b_4) (Value.bool false = Value.bool true) (∀ (b_5 : Nat) (I'_5 : Mem), Mem.le I' I'_5 → I'_5 b_5 = some (Obj.cells #[Value.int IntKind.i64 n_1, Value.bool false, Value.int IntKind.i64 (0 : Int), Value.int IntKind.i64 (0 : Int), Value.int IntKind.i64 n_4, Value.bool true, Value.int IntKind.i64 (0 : Int), Value.int IntKind.i64 (0 : Int)] (31 : Nat)) → Ct Try.prog (Value.func (Fn.func (24 : Nat)) #[] #[]) #[Value.slice none (0 : Nat) (0 : Nat), Value.agg #[Value.int IntKind.i64 n_1, Value.slice none (0 : Nat) (0 : Nat)], Value.slice (some (Addr.mk b_5 (0 : Nat) none)) (2 : Nat) (2 : Nat)] I'_5 fun (v : Value) (I' : Mem) => ∃ (b_6 : Bool), v = Value.bool b_6 ∧ Br (!b_6) (Value.bool false = Value.bool true) (Wr IntKind.i64 (n_3 + (1 : Int)) fun (c : Int) => SV.v (Value.slice (some (Addr.mk b (0 : Nat) none)) (11 : Nat) (11 : Nat)) = SV.v (Value.slice (some (Addr.mk b (0 : Nat) none)) (11 : Nat) (11 : Nat)) ∧ SV.v (Value.int IntKind.i64 n_1) = SV.v (Value.int IntKind.i64 n_1) ∧ SV.v (Value.slice (some (Addr.mk b (0 : Nat) none)) (11 : Nat) (11 : Nat)) = SV.v (Value.slice (some (Addr.mk b (0 : Nat) none)) (11 : Nat) (11 : Nat)) ∧ SV.v (Value.int IntKind.i64 (11 : Int)) = SV.v (Value.int IntKind.i64 (11 : Int)) ∧ SV.v (Value.int IntKind.i64 n) = SV.v (Value.int IntKind.i64 n) ∧ SV.v (Value.slice (some (Addr.mk b (0 : Nat) none)) (11 : Nat) (11 : Nat)) = SV.v (Value.slice (some (Addr.mk b (0 : Nat) none)) (11 : Nat) (11 : Nat)) ∧ SV.v (Value.int IntKind.i64 (11 : Int)) = SV.v (Value.int IntKind.i64 (11 : Int)) ∧ ((0 : Int) ≤ c ∧ c ≤ (11 : Int)) ∧ Int.toNat ((11 : Int) - c) < Int.toNat ((11 : Int) - n_3)))) (Wr IntKind.i64 (n + (1 : Int)) fun (c : Int) => SV.v (Value.slice (some (Addr.mk b (0 : Nat) none)) (11 : Nat) (11 : Nat)) = SV.v (Value.slice (some (Addr.mk b (0 : Nat) none)) (11 : Nat) (11 : Nat)) ∧ SV.v (Value.slice (some (Addr.mk b (0 : Nat) none)) (11 : Nat) (11 : Nat)) = SV.v (Value.slice (some (Addr.mk b (0 : Nat) none)) (11 : Nat) (11 : Nat)) ∧ SV.v (Value.int IntKind.i64 (11 : Int)) = SV.v (Value.int IntKind.i64 (11 : Int)) ∧ ((0 : Int) ≤ c ∧ c ≤ (11 : Int)) ∧ Int.toNat ((11 : Int) - c) < Int.toNat ((11 : Int) - n)))) True) ∧ ∀ (I'_2 G' : Mem), Mem.le I' I'_2 → True → (((0 : Nat) = (0 : Nat) ∧ (0 : Int) ≤ (0 : Int) ∧ (0 : Int) ≤ (65 : Int) ∧ FR I'_2 [] []) ∧ ∀ (I' G' : Mem), Mem.le I'_2 I' → ∀ (xs : List Value) (n : Int), (0 : Int) ≤ n ∧ n ≤ (65 : Int) ∧ FR I' xs (manyL (Int.toNat n)) → Br (decide (n < (65 : Int))) (Wr IntKind.i64 ((3 : Int) * n) fun (c : Int) => Wr IntKind.i64 ((1 : Int) + c) fun (c : Int) => Wr IntKind.u8 n fun (c_1 : Int) => ∀ (b : Nat) (I'_3 : Mem), Mem.le I' I'_3 → I'_3 b = some (Obj.cells #[Value.int IntKind.u8 c_1] (5 : Nat)) → List.length xs = List.length xs / (2 : Nat) * (2 : Nat) ∧ List.length xs / (2 : Nat) + (1 : Nat) ≤ (9223372036854775807 : Nat) ∧ (List.length xs / (2 : Nat) + (1 : Nat)) * (32 : Nat) ≤ (140737488355328 : Nat) ∧ Wr IntKind.i64 (n + (1 : Int)) fun (c_2 : Int) => List.length xs / (2 : Nat) + (1 : Nat) = List.length (xs ++ [Value.int IntKind.i64 c, Value.slice (some (Addr.mk b (0 : Nat) none)) (1 : Nat) (1 : Nat)]) / (2 : Nat) ∧ ((0 : Int) ≤ c_2 ∧ c_2 ≤ (65 : Int) ∧ FR I'_3 (xs ++ [Value.int IntKind.i64 c, Value.slice (some (Addr.mk b (0 : Nat) none)) (1 : Nat) (1 : Nat)]) (manyL (Int.toNat c_2))) ∧ Int.toNat ((65 : Int) - c_2) < Int.toNat ((65 : Int) - n)) (∀ (a : Option Addr) (cp : Nat) (I'_3 : Mem), Mem.le I' I'_3 → RowM I'_3 a cp (2 : Nat) xs → ∃ (k : Nat), k = (65 : Nat) ∧ List.length xs / (2 : Nat) = k ∧ FldM I'_3 a k (manyL k) ∧ List.length xs / (2 : Nat) ≤ cp ∧ cp ≤ (9223372036854775807 : Nat))) ∧ ∀ (I' G' : Mem), Mem.le I'_2 I' → ∀ (a : Option Addr) (n c : Nat), (∃ (k : Nat), k = (65 : Nat) ∧ n = k ∧ FldM I' a k (manyL k) ∧ n ≤ c ∧ c ≤ (9223372036854775807 : Nat)) → (16384 : Int) = (16384 : Int) ∧ (0 : Int) ≤ (16384 : Int) ∧ (16384 : Int) ≤ (281474976710656 : Int) ∧ (16384 : Int) ≤ (281474976710656 : Int) ∧ ∀ (xs : List Value), List.length xs = (16384 : Nat) → (∀ (j : Nat) (v : Value), xs[j]? = some v → #[Value.int IntKind.u8 (0 : Int)][j % (1 : Nat)]? = some v) → ((Ent.mk (EO.vec xs (5 : Nat)) none = Ent.mk (EO.vec xs (5 : Nat)) none ∧ Ent.mk (EO.cells [SV.v (Value.int IntKind.i64 (5 : Int)), SV.xsl (2 : Nat) (0 : Nat) (16384 : Nat) (16384 : Nat)] (29 : Nat)) none = Ent.mk (EO.cells [SV.v (Value.int IntKind.i64 (5 : Int)), SV.xsl (2 : Nat) (0 : Nat) (16384 : Nat) (16384 : Nat)] (29 : Nat)) none ∧ SV.v (Value.slice a n c) = SV.v (Value.slice a n c) ∧ SV.xsl (2 : Nat) (0 : Nat) (16384 : Nat) (16384 : Nat) = SV.xsl (2 : Nat) (0 : Nat) (16384 : Nat) (16384 : Nat) ∧ SV.xsl (3 : Nat) (0 : Nat) (1 : Nat) (1 : Nat) = SV.xsl (3 : Nat) (0 : Nat) (1 : Nat) (1 : Nat) ∧ (0 : Nat) = (0 : Nat) ∧ (0 : Int) ≤ (0 : Int) ∧ (0 : Int) ≤ (65 : Int) ∧ ∃ (ws : List Wnt), [] = List.flatMap (fun (w : Wnt) => [Value.int IntKind.i64 (Prod.fst w), Value.bool (Prod.fst (Prod.snd w)), Value.int IntKind.i64 (Prod.fst (Prod.snd (Prod.snd w))), Value.int IntKind.i64 (Prod.snd (Prod.snd (Prod.snd w)))]) ws ∧ (∀ (w : Wnt), w ∈ ws → okW w) ∧ (↑(List.length ws) : Int) = (0 : Int)) ∧ ∀ (I'_3 G' : Mem), Mem.le I' I'_3 → ∀ (xs_1 : List Value) (n_1 : Int), ((0 : Int) ≤ n_1 ∧ n_1 ≤ (65 : Int) ∧ ∃ (ws : List Wnt), xs_1 = List.flatMap (fun (w : Wnt) => [Value.int IntKind.i64 (Prod.fst w), Value.bool (Prod.fst (Prod.snd w)), Value.int IntKind.i64 (Prod.fst (Prod.snd (Prod.snd w))), Value.int IntKind.i64 (Prod.snd (Prod.snd (Prod.snd w)))]) ws ∧ (∀ (w : Wnt), w ∈ ws → okW w) ∧ (↑(List.length ws) : Int) = n_1) → Br (decide (n_1 < (65 : Int))) (Wr IntKind.i64 ((3 : Int) * n_1) fun (c_1 : Int) => Wr IntKind.i64 ((1 : Int) + c_1) fun (c_2 : Int) => (2 : Int) ≠ (0 : Int) ∧ List.length xs_1 = List.length xs_1 / (4 : Nat) * (4 : Nat) ∧ List.length xs_1 / (4 : Nat) + (1 : Nat) ≤ (9223372036854775807 : Nat) ∧ (List.length xs_1 / (4 : Nat) + (1 : Nat)) * (32 : Nat) ≤ (140737488355328 : Nat) ∧ Wr IntKind.i64 (n_1 + (1 : Int)) fun (c_3 : Int) => Ent.mk (EO.vec xs (5 : Nat)) none = Ent.mk (EO.vec xs (5 : Nat)) none ∧ Ent.mk (EO.cells [SV.v (Value.int IntKind.i64 (5 : Int)), SV.xsl (2 : Nat) (0 : Nat) (16384 : Nat) (16384 : Nat)] (29 : Nat)) none = Ent.mk (EO.cells [SV.v (Value.int IntKind.i64 (5 : Int)), SV.xsl (2 : Nat) (0 : Nat) (16384 : Nat) (16384 : Nat)] (29 : Nat)) none ∧ SV.v (Value.slice a n c) = SV.v (Value.slice a n c) ∧ SV.xsl (2 : Nat) (0 : Nat) (16384 : Nat) (16384 : Nat) = SV.xsl (2 : Nat) (0 : Nat) (16384 : Nat) (16384 : Nat) ∧ SV.xsl (3 : Nat) (0 : Nat) (1 : Nat) (1 : Nat) = SV.xsl (3 : Nat) (0 : Nat) (1 : Nat) (1 : Nat) ∧ List.length xs_1 / (4 : Nat) + (1 : Nat) = List.length (xs_1 ++ [Value.int IntKind.i64 c_2, Value.bool (Int.tmod n_1 (2 : Int) == (0 : Int)), Value.int IntKind.i64 (0 : Int), Value.int IntKind.i64 (1 : Int)]) / (4 : Nat) ∧ ((0 : Int) ≤ c_3 ∧ c_3 ≤ (65 : Int) ∧ ∃ (ws : List Wnt), xs_1 ++ [Value.int IntKind.i64 c_2, Value.bool (Int.tmod n_1 (2 : Int) == (0 : Int)), Value.int IntKind.i64 (0 : Int), Value.int IntKind.i64 (1 : Int)] = List.flatMap (fun (w : Wnt) => [Value.int IntKind.i64 (Prod.fst w), Value.bool (Prod.fst (Prod.snd w)), Value.int IntKind.i64 (Prod.fst (Prod.snd (Prod.snd w))), Value.int IntKind.i64 (Prod.snd (Prod.snd (Prod.snd w)))]) ws ∧ (∀ (w : Wnt), w ∈ ws → okW w) ∧ (↑(List.length ws) : Int) = c_3) ∧ Int.toNat ((65 : Int) - c_3) < Int.toNat ((65 : Int) - n_1)) (∀ (b : Nat) (I' : Mem), Mem.le I'_3 I' → I' b = some (Obj.cells (List.toArray xs) (5 : Nat)) → ∀ (b_1 : Nat) (I'_4 : Mem), Mem.le I' I'_4 → I'_4 b_1 = some (Obj.cells #[Value.int IntKind.i64 (5 : Int), Value.slice (some (Addr.mk b (0 : Nat) none)) (16384 : Nat) (16384 : Nat)] (29 : Nat)) → ∀ (a_10 : Option Addr) (cp : Nat) (I' : Mem), Mem.le I'_4 I' → RowM I' a_10 cp (4 : Nat) xs_1 → ∃ (k : Nat), ∃ (m : Nat), k = (65 : Nat) ∧ m = (16384 : Nat) ∧ n = k ∧ FldM I' a k (manyL k) ∧ n ≤ c ∧ c ≤ (9223372036854775807 : Nat) ∧ (16384 : Nat) = m ∧ (16384 : Nat) = m ∧ SlM I' (some (Addr.mk b (0 : Nat) none)) m (1 : Nat) (List.map (Value.int IntKind.u8) (List.replicate m (0 : Int))) ∧ (1 : Nat) = (1 : Nat) ∧ (1 : Nat) ≤ (1 : Nat) ∧ (1 : Nat) ≤ (9223372036854775807 : Nat) ∧ FldM I' (some (Addr.mk b_1 (0 : Nat) none)) (1 : Nat) [((5 : Int), List.replicate m (0 : Int))] ∧ List.length xs_1 / (4 : Nat) = k ∧ List.length xs_1 / (4 : Nat) ≤ cp ∧ cp ≤ (9223372036854775807 : Nat) ∧ ∃ (ws : List Wnt), WntM I' a_10 (List.length xs_1 / (4 : Nat)) ws)) ∧ ∀ (I'_3 G' : Mem), Mem.le I' I'_3 → ∀ (a : Option Addr) (n c : Nat) (a_4 : Option Addr) (n_1 c_1 : Nat) (a_5 : Option Addr) (n_2 c_2 : Nat) (a_6 : Option Addr) (n_3 c_3 : Nat), (∃ (k : Nat), ∃ (m : Nat), k = (65 : Nat) ∧ m = (16384 : Nat) ∧ n = k ∧ FldM I'_3 a k (manyL k) ∧ n ≤ c ∧ c ≤ (9223372036854775807 : Nat) ∧ n_1 = m ∧ c_1 = m ∧ SlM I'_3 a_4 m (1 : Nat) (List.map (Value.int IntKind.u8) (List.replicate m (0 : Int))) ∧ n_2 = (1 : Nat) ∧ n_2 ≤ c_2 ∧ c_2 ≤ (9223372036854775807 : Nat) ∧ FldM I'_3 a_5 (1 : Nat) [((5 : Int), List.replicate m (0 : Int))] ∧ n_3 = k ∧ n_3 ≤ c_3 ∧ c_3 ≤ (9223372036854775807 : Nat) ∧ ∃ (ws : List Wnt), WntM I'_3 a_6 n_3 ws) → (0 : Int) ≤ (64 : Int) ∧ (64 : Int) ≤ (↑c : Int) ∧ Ct Try.prog (Value.func (Fn.func (26 : Nat)) #[] #[]) #[Value.slice a (64 : Nat) c] I'_3 fun (v : Value) (I' : Mem) => ∃ (a_8 : Option Addr), ∃ (n_4 : Nat), ∃ (c_4 : Nat), v = Value.slice a_8 n_4 c_4 ∧ Ct Try.prog (Value.func (Fn.func (25 : Nat)) #[] #[]) #[Value.slice a_8 n_4 c_4] I' fun (v : Value) (I' : Mem) => ∃ (a_9 : Option Addr), ∃ (n_5 : Nat), ∃ (c_5 : Nat), ∃ (n_6 : Int), v = Value.tuple #[Value.slice a_9 n_5 c_5, Value.int IntKind.i64 n_6] ∧ Ct Try.prog (Value.func (Fn.func (26 : Nat)) #[] #[]) #[Value.slice a_5 n_2 c_2] I' fun (v : Value) (I' : Mem) => ∃ (a_10 : Option Addr), ∃ (n_7 : Nat), ∃ (c_6 : Nat), v = Value.slice a_10 n_7 c_6 ∧ Ct Try.prog (Value.func (Fn.func (25 : Nat)) #[] #[]) #[Value.slice a_10 n_7 c_6] I' fun (v : Value) (I' : Mem) => ∃ (a_11 : Option Addr), ∃ (n_8 : Nat), ∃ (c_7 : Nat), ∃ (n_9 : Int), v = Value.tuple #[Value.slice a_11 n_8 c_7, Value.int IntKind.i64 n_9] ∧ Wr IntKind.i64 (n_6 + n_9) fun (c_8 : Int) => Br (c_8 != (0 : Int)) (Value.bool false = Value.bool true) (∃ (ys : List Value), List.length ys = n_5 * (1 : Nat) ∧ (a_9 = none → n_5 = (0 : Nat)) ∧ (∀ (j : Nat) (v : Value), ys[j]? = some v → atI I' a_9 j = some v) ∧ (∀ (v : Value), v ∈ ys → Value.oneCell' v = true) ∧ (0 : Nat) = (0 : Nat) ∧ (0 : Nat) + n_5 ≤ (9223372036854775807 : Nat) ∧ ((0 : Nat) + n_5) * (1 : Nat) ≤ (140737488355328 : Nat) ∧ List.length ys = ((0 : Nat) + n_5) * (1 : Nat) ∧ (0 : Nat) + n_5 + (2 : Nat) ≤ (9223372036854775807 : Nat) ∧ ((0 : Nat) + n_5 + (2 : Nat)) * (1 : Nat) ≤ (140737488355328 : Nat) ∧ ∃ (ys_1 : List Value), List.length ys_1 = n_8 * (1 : Nat) ∧ (a_11 = none → n_8 = (0 : Nat)) ∧ (∀ (j : Nat) (v : Value), ys_1[j]? = some v → atI I' a_11 j = some v) ∧ (∀ (v : Value), v ∈ ys_1 → Value.oneCell' v = true) ∧ (0 : Nat) = (0 : Nat) ∧ (0 : Nat) + n_8 ≤ (9223372036854775807 : Nat) ∧ ((0 : Nat) + n_8) * (1 : Nat) ≤ (140737488355328 : Nat) ∧ List.length ys_1 = ((0 : Nat) + n_8) * (1 : Nat) ∧ (0 : Nat) + n_8 + (3 : Nat) ≤ (9223372036854775807 : Nat) ∧ ((0 : Nat) + n_8 + (3 : Nat)) * (1 : Nat) ≤ (140737488355328 : Nat) ∧ (0 : Int) ≤ (64 : Int) ∧ (64 : Int) < (↑n : Int) ∧ Option.isSome a = true ∧ (2 : Nat) = (2 : Nat) ∧ ∃ (n_10 : Int), atI I' a (128 : Nat) = some (Value.int IntKind.i64 n_10) ∧ ∃ (a_12 : Option Addr), ∃ (n_11 : Nat), ∃ (c_9 : Nat), atI I' a (129 : Nat) = some (Value.slice a_12 n_11 c_9) ∧ Ct Try.prog (Value.func (Fn.func (24 : Nat)) #[] #[]) #[Value.slice a n c, Value.agg #[Value.int IntKind.i64 n_10, Value.slice a_12 n_11 c_9], Value.slice a_6 n_3 c_3] I' fun (v : Value) (I' : Mem) => ∃ (b : Bool), v = Value.bool b ∧ b = true ∧ true = true ∧ (0 : Int) ≤ (64 : Int) ∧ (64 : Int) ≤ (↑c : Int) ∧ true = true ∧ true = true ∧ (0 : Int) ≤ (64 : Int) ∧ (64 : Int) < (↑n : Int) ∧ Option.isSome a = true ∧ true = true ∧ (2 : Nat) = (2 : Nat) ∧ ∃ (n_12 : Int), atI I' a (128 : Nat) = some (Value.int IntKind.i64 n_12) ∧ ∃ (a_13 : Option Addr), ∃ (n_13 : Nat), ∃ (c_10 : Nat), atI I' a (129 : Nat) = some (Value.slice a_13 n_13 c_10) ∧ true = true ∧ true = true ∧ (0 : Int) ≤ (64 : Int) ∧ (64 : Int) ≤ (↑c_3 : Int) ∧ true = true ∧ Ct Try.prog (Value.func (Fn.func (24 : Nat)) #[] #[]) #[Value.slice a (64 : Nat) c, Value.agg #[Value.int IntKind.i64 n_12, Value.slice a_13 n_13 c_10], Value.slice a_6 (64 : Nat) c_3] I' fun (v : Value) (I' : Mem) => ∃ (b : Bool), v = Value.bool b ∧ b = true ∧ true = true ∧ (0 : Int) ≤ (63 : Int) ∧ (63 : Int) ≤ (↑c : Int) ∧ true = true ∧ true = true ∧ (0 : Int) ≤ (63 : Int) ∧ (63 : Int) < (↑n : Int) ∧ Option.isSome a = true ∧ true = true ∧ (2 : Nat) = (2 : Nat) ∧ ∃ (n : Int), atI I' a (126 : Nat) = some (Value.int IntKind.i64 n) ∧ ∃ (a_14 : Option Addr), ∃ (n_14 : Nat), ∃ (c_11 : Nat), atI I' a (127 : Nat) = some (Value.slice a_14 n_14 c_11) ∧ true = true ∧ true = true ∧ (0 : Int) ≤ (64 : Int) ∧ (64 : Int) ≤ (↑c_3 : Int) ∧ true = true ∧ Ct Try.prog (Value.func (Fn.func (24 : Nat)) #[] #[]) #[Value.slice a (63 : Nat) c, Value.agg #[Value.int IntKind.i64 n, Value.slice a_14 n_14 c_11], Value.slice a_6 (64 : Nat) c_3] I' fun (v : Value) (I' : Mem) => ∃ (b : Bool), v = Value.bool b ∧ b = true ∧ true = true ∧ Ct Try.prog (Value.func (Fn.func (15 : Nat)) #[] #[]) #[Value.slice a_9 n_5 c_5] I' fun (v : Value) (I' : Mem) => ∃ (b : Bool), v = Value.bool b ∧ b = true ∧ true = true ∧ ∀ (a : Option Addr) (cp : Nat) (I'_4 : Mem), Mem.le I' I'_4 → RowM I'_4 a cp (1 : Nat) (ys ++ [Value.int IntKind.u8 (198 : Int), Value.int IntKind.u8 (0 : Int)]) → Ct Try.prog (Value.func (Fn.func (15 : Nat)) #[] #[]) #[Value.slice a ((0 : Nat) + n_5 + (2 : Nat)) cp] I'_4 fun (v : Value) (I' : Mem) => ∃ (b : Bool), v = Value.bool b ∧ b = true ∧ true = true ∧ Ct Try.prog (Value.func (Fn.func (15 : Nat)) #[] #[]) #[Value.slice a_11 n_8 c_7] I' fun (v : Value) (I' : Mem) => ∃ (b : Bool), v = Value.bool b ∧ b = true ∧ true = true ∧ ∀ (a : Option Addr) (cp : Nat) (I'_5 : Mem), Mem.le I' I'_5 → RowM I'_5 a cp (1 : Nat) (ys_1 ++ [Value.int IntKind.u8 (6 : Int), Value.int IntKind.u8 (1 : Int), Value.int IntKind.u8 (7 : Int)]) → Ct Try.prog (Value.func (Fn.func (15 : Nat)) #[] #[]) #[Value.slice a ((0 : Nat) + n_8 + (3 : Nat)) cp] I'_5 fun (v : Value) (I' : Mem) => ∃ (b : Bool), v = Value.bool b ∧ b = true ∧ true = true ∧ true = true ∧ true = true ∧ Wr IntKind.i64 ((↑n_8 : Int) - (1 : Int)) fun (c : Int) => true = true ∧ (0 : Int) ≤ c ∧ c ≤ (↑c_7 : Int) ∧ true = true ∧ Ct Try.prog (Value.func (Fn.func (15 : Nat)) #[] #[]) #[Value.slice a_11 (Int.toNat c) c_7] I' fun (v : Value) (I' : Mem) => ∃ (b : Bool), v = Value.bool b ∧ b = true ∧ (true = true ∧ (true = true ∧ ∃ (ys : List Value), List.length ys = n_8 * (1 : Nat) ∧ (a_11 = none → n_8 = (0 : Nat)) ∧ (∀ (j : Nat) (v : Value), ys[j]? = some v → atI I' a_11 j = some v) ∧ (∀ (v : Value), v ∈ ys → Value.oneCell' v = true) ∧ (0 : Nat) = (0 : Nat) ∧ (0 : Nat) + n_8 ≤ (9223372036854775807 : Nat) ∧ ((0 : Nat) + n_8) * (1 : Nat) ≤ (140737488355328 : Nat) ∧ true = true ∧ true = true ∧ List.length ys = ((0 : Nat) + n_8) * (1 : Nat) ∧ (0 : Nat) + n_8 + (2 : Nat) ≤ (9223372036854775807 : Nat) ∧ ((0 : Nat) + n_8 + (2 : Nat)) * (1 : Nat) ≤ (140737488355328 : Nat) ∧ true = true ∧ ∀ (a : Option Addr) (cp : Nat) (I'_6 : Mem), Mem.le I' I'_6 → RowM I'_6 a cp (1 : Nat) (ys ++ [Value.int IntKind.u8 (6 : Int), Value.int IntKind.u8 (0 : Int)]) → Ct Try.prog (Value.func (Fn.func (15 : Nat)) #[] #[]) #[Value.slice a ((0 : Nat) + n_8 + (2 : Nat)) cp] I'_6 fun (v : Value) (I' : Mem) => ∃ (b : Bool), v = Value.bool b ∧ b = true ∧ (16768 : Int) = (16768 : Int) ∧ (0 : Int) ≤ (16768 : Int) ∧ (16768 : Int) ≤ (281474976710656 : Int) ∧ (16768 : Int) ≤ (281474976710656 : Int) ∧ ∀ (xs : List Value), List.length xs = (16768 : Nat) → (∀ (j : Nat) (v : Value), xs[j]? = some v → #[Value.int IntKind.u8 (0 : Int)][j % (1 : Nat)]? = some v) → true = true ∧ ∀ (b : Nat) (I'_7 : Mem), Mem.le I' I'_7 → I'_7 b = some (Obj.cells (List.toArray xs) (5 : Nat)) → Ct Try.prog (Value.func (Fn.func (15 : Nat)) #[] #[]) #[Value.slice (some (Addr.mk b (0 : Nat) none)) (16768 : Nat) (16768 : Nat)] I'_7 fun (v : Value) (I' : Mem) => ∃ (b : Bool), v = Value.bool b ∧ b = true ∧ (16769 : Int) = (16769 : Int) ∧ (0 : Int) ≤ (16769 : Int) ∧ (16769 : Int) ≤ (281474976710656 : Int) ∧ (16769 : Int) ≤ (281474976710656 : Int) ∧ ∀ (xs : List Value), List.length xs = (16769 : Nat) → (∀ (j : Nat) (v : Value), xs[j]? = some v → #[Value.int IntKind.u8 (0 : Int)][j % (1 : Nat)]? = some v) → true = true ∧ ∀ (b : Nat) (I'_8 : Mem), Mem.le I' I'_8 → I'_8 b = some (Obj.cells (List.toArray xs) (5 : Nat)) → Ct Try.prog (Value.func (Fn.func (15 : Nat)) #[] #[]) #[Value.slice (some (Addr.mk b (0 : Nat) none)) (16769 : Nat) (16769 : Nat)] I'_8 fun (v : Value) (I' : Mem) => ∃ (b : Bool), v = Value.bool b ∧ b = true ∧ true = true ∧ true = true ∧ true = true ∧ ∀ (b : Nat) (I'_9 : Mem), Mem.le I' I'_9 → I'_9 b = some (Obj.cells #[Value.int IntKind.u8 (1 : Int)] (5 : Nat)) → Ct Try.prog (Value.func (Fn.func (24 : Nat)) #[] #[]) #[Value.slice a_5 n_2 c_2, Value.agg #[Value.int IntKind.i64 (6 : Int), Value.slice (some (Addr.mk b (0 : Nat) none)) (1 : Nat) (1 : Nat)], Value.slice none (0 : Nat) (0 : Nat)] I'_9 fun (v : Value) (I' : Mem) => ∃ (b : Bool), v = Value.bool b ∧ b = true ∧ true = true ∧ true = true ∧ true = true ∧ true = true ∧ c_1 < n_1 + (1 : Nat) ∧ n_1 + (1 : Nat) ≤ (9223372036854775807 : Nat) ∧ (n_1 + (1 : Nat)) * (1 : Nat) ≤ (140737488355328 : Nat) ∧ Option.isSome a_4 = true ∧ ∃ (xs : List Value), List.length xs = n_1 * (1 : Nat) ∧ (∀ (j : Nat) (v : Value), xs[j]? = some v → atI I' a_4 j = some v) ∧ true = true ∧ true = true ∧ ∀ (a : Option Addr) (cp : Nat) (I'_10 : Mem), Mem.le I' I'_10 → RowM I'_10 a cp (1 : Nat) (xs ++ [Value.int IntKind.u8 (1 : Int)]) → Ct Try.prog (Value.func (Fn.func (24 : Nat)) #[] #[]) #[Value.slice a_5 n_2 c_2, Value.agg #[Value.int IntKind.i64 (5 : Int), Value.slice a (n_1 + (1 : Nat)) cp], Value.slice a_6 n_3 c_3] I'_10 fun (v : Value) (I' : Mem) => ∃ (b : Bool), v = Value.bool b ∧ b = true ∧ true = true ∧ true = true ∧ true = true ∧ true = true ∧ ∀ (b : Nat) (I'_11 : Mem), Mem.le I' I'_11 → I'_11 b = some (Obj.cells #[Value.int IntKind.i64 (5 : Int), Value.bool false, Value.int IntKind.i64 (16384 : Int), Value.int IntKind.i64 (16384 : Int)] (31 : Nat)) → Ct Try.prog (Value.func (Fn.func (24 : Nat)) #[] #[]) #[Value.slice a_5 n_2 c_2, Value.agg #[Value.int IntKind.i64 (6 : Int), Value.slice none (0 : Nat) (0 : Nat)], Value.slice (some (Addr.mk b (0 : Nat) none)) (1 : Nat) (1 : Nat)] I'_11 fun (v : Value) (I' : Mem) => ∃ (b : Bool), v = Value.bool b ∧ b = true ∧ Ct Try.prog (Value.func (Fn.func (12 : Nat)) #[] #[]) #[] I' fun (v : Value) (I' : Mem) => ∃ (b : Bool), v = Value.bool b ∧ Value.bool b = Value.bool true) ∧ true = true ∧ true = true ∧ ∃ (ys : List Value), List.length ys = n_8 * (1 : Nat) ∧ (a_11 = none → n_8 = (0 : Nat)) ∧ (∀ (j : Nat) (v : Value), ys[j]? = some v → atI I' a_11 j = some v) ∧ (∀ (v : Value), v ∈ ys → Value.oneCell' v = true) ∧ (0 : Nat) = (0 : Nat) ∧ (0 : Nat) + n_8 ≤ (9223372036854775807 : Nat) ∧ ((0 : Nat) + n_8) * (1 : Nat) ≤ (140737488355328 : Nat) ∧ true = true ∧ List.length ys = ((0 : Nat) + n_8) * (1 : Nat) ∧ (0 : Nat) + n_8 + (2 : Nat) ≤ (9223372036854775807 : Nat) ∧ ((0 : Nat) + n_8 + (2 : Nat)) * (1 : Nat) ≤ (140737488355328 : Nat) ∧ true = true ∧ ∀ (a : Option Addr) (cp : Nat) (I'_6 : Mem), Mem.le I' I'_6 → RowM I'_6 a cp (1 : Nat) (ys ++ [Value.int IntKind.u8 (6 : Int), Value.int IntKind.u8 (0 : Int)]) → Ct Try.prog (Value.func (Fn.func (15 : Nat)) #[] #[]) #[Value.slice a ((0 : Nat) + n_8 + (2 : Nat)) cp] I'_6 fun (v : Value) (I' : Mem) => ∃ (b : Bool), v = Value.bool b ∧ b = true ∧ (16768 : Int) = (16768 : Int) ∧ (0 : Int) ≤ (16768 : Int) ∧ (16768 : Int) ≤ (281474976710656 : Int) ∧ (16768 : Int) ≤ (281474976710656 : Int) ∧ ∀ (xs : List Value), List.length xs = (16768 : Nat) → (∀ (j : Nat) (v : Value), xs[j]? = some v → #[Value.int IntKind.u8 (0 : Int)][j % (1 : Nat)]? = some v) → true = true ∧ ∀ (b : Nat) (I'_7 : Mem), Mem.le I' I'_7 → I'_7 b = some (Obj.cells (List.toArray xs) (5 : Nat)) → Ct Try.prog (Value.func (Fn.func (15 : Nat)) #[] #[]) #[Value.slice (some (Addr.mk b (0 : Nat) none)) (16768 : Nat) (16768 : Nat)] I'_7 fun (v : Value) (I' : Mem) => ∃ (b : Bool), v = Value.bool b ∧ b = true ∧ (16769 : Int) = (16769 : Int) ∧ (0 : Int) ≤ (16769 : Int) ∧ (16769 : Int) ≤ (281474976710656 : Int) ∧ (16769 : Int) ≤ (281474976710656 : Int) ∧ ∀ (xs : List Value), List.length xs = (16769 : Nat) → (∀ (j : Nat) (v : Value), xs[j]? = some v → #[Value.int IntKind.u8 (0 : Int)][j % (1 : Nat)]? = some v) → true = true ∧ ∀ (b : Nat) (I'_8 : Mem), Mem.le I' I'_8 → I'_8 b = some (Obj.cells (List.toArray xs) (5 : Nat)) → Ct Try.prog (Value.func (Fn.func (15 : Nat)) #[] #[]) #[Value.slice (some (Addr.mk b (0 : Nat) none)) (16769 : Nat) (16769 : Nat)] I'_8 fun (v : Value) (I' : Mem) => ∃ (b : Bool), v = Value.bool b ∧ b = true ∧ true = true ∧ true = true ∧ true = true ∧ ∀ (b : Nat) (I'_9 : Mem), Mem.le I' I'_9 → I'_9 b = some (Obj.cells #[Value.int IntKind.u8 (1 : Int)] (5 : Nat)) → Ct Try.prog (Value.func (Fn.func (24 : Nat)) #[] #[]) #[Value.slice a_5 n_2 c_2, Value.agg #[Value.int IntKind.i64 (6 : Int), Value.slice (some (Addr.mk b (0 : Nat) none)) (1 : Nat) (1 : Nat)], Value.slice none (0 : Nat) (0 : Nat)] I'_9 fun (v : Value) (I' : Mem) => ∃ (b : Bool), v = Value.bool b ∧ b = true ∧ true = true ∧ true = true ∧ true = true ∧ true = true ∧ c_1 < n_1 + (1 : Nat) ∧ n_1 + (1 : Nat) ≤ (9223372036854775807 : Nat) ∧ (n_1 + (1 : Nat)) * (1 : Nat) ≤ (140737488355328 : Nat) ∧ Option.isSome a_4 = true ∧ ∃ (xs : List Value), List.length xs = n_1 * (1 : Nat) ∧ (∀ (j : Nat) (v : Value), xs[j]? = some v → atI I' a_4 j = some v) ∧ true = true ∧ true = true ∧ ∀ (a : Option Addr) (cp : Nat) (I'_10 : Mem), Mem.le I' I'_10 → RowM I'_10 a cp (1 : Nat) (xs ++ [Value.int IntKind.u8 (1 : Int)]) → Ct Try.prog (Value.func (Fn.func (24 : Nat)) #[] #[]) #[Value.slice a_5 n_2 c_2, Value.agg #[Value.int IntKind.i64 (5 : Int), Value.slice a (n_1 + (1 : Nat)) cp], Value.slice a_6 n_3 c_3] I'_10 fun (v : Value) (I' : Mem) => ∃ (b : Bool), v = Value.bool b ∧ b = true ∧ true = true ∧ true = true ∧ true = true ∧ true = true ∧ ∀ (b : Nat) (I'_11 : Mem), Mem.le I' I'_11 → I'_11 b = some (Obj.cells #[Value.int IntKind.i64 (5 : Int), Value.bool false, Value.int IntKind.i64 (16384 : Int), Value.int IntKind.i64 (16384 : Int)] (31 : Nat)) → Ct Try.prog (Value.func (Fn.func (24 : Nat)) #[] #[]) #[Value.slice a_5 n_2 c_2, Value.agg #[Value.int IntKind.i64 (6 : Int), Value.slice none (0 : Nat) (0 : Nat)], Value.slice (some (Addr.mk b (0 : Nat) none)) (1 : Nat) (1 : Nat)] I'_11 fun (v : Value) (I' : Mem) => ∃ (b : Bool), v = Value.bool b ∧ b = true ∧ Ct Try.prog (Value.func (Fn.func (12 : Nat)) #[] #[]) #[] I' fun (v : Value) (I' : Mem) => ∃ (b : Bool), v = Value.bool b ∧ Value.bool b = Value.bool true) ∧ true = true ∧ true = true ∧ true = true ∧ ∃ (ys : List Value), List.length ys = n_8 * (1 : Nat) ∧ (a_11 = none → n_8 = (0 : Nat)) ∧ (∀ (j : Nat) (v : Value), ys[j]? = some v → atI I' a_11 j = some v) ∧ (∀ (v : Value), v ∈ ys → Value.oneCell' v = true) ∧ (0 : Nat) = (0 : Nat) ∧ (0 : Nat) + n_8 ≤ (9223372036854775807 : Nat) ∧ ((0 : Nat) + n_8) * (1 : Nat) ≤ (140737488355328 : Nat) ∧ true = true ∧ List.length ys = ((0 : Nat) + n_8) * (1 : Nat) ∧ (0 : Nat) + n_8 + (2 : Nat) ≤ (9223372036854775807 : Nat) ∧ ((0 : Nat) + n_8 + (2 : Nat)) * (1 : Nat) ≤ (140737488355328 : Nat) ∧ true = true ∧ ∀ (a : Option Addr) (cp : Nat) (I'_6 : Mem), Mem.le I' I'_6 → RowM I'_6 a cp (1 : Nat) (ys ++ [Value.int IntKind.u8 (6 : Int), Value.int IntKind.u8 (0 : Int)]) → Ct Try.prog (Value.func (Fn.func (15 : Nat)) #[] #[]) #[Value.slice a ((0 : Nat) + n_8 + (2 : Nat)) cp] I'_6 fun (v : Value) (I' : Mem) => ∃ (b : Bool), v = Value.bool b ∧ b = true ∧ (16768 : Int) = (16768 : Int) ∧ (0 : Int) ≤ (16768 : Int) ∧ (16768 : Int) ≤ (281474976710656 : Int) ∧ (16768 : Int) ≤ (281474976710656 : Int) ∧ ∀ (xs : List Value), List.length xs = (16768 : Nat) → (∀ (j : Nat) (v : Value), xs[j]? = some v → #[Value.int IntKind.u8 (0 : Int)][j % (1 : Nat)]? = some v) → true = true ∧ ∀ (b : Nat) (I'_7 : Mem), Mem.le I' I'_7 → I'_7 b = some (Obj.cells (List.toArray xs) (5 : Nat)) → Ct Try.prog (Value.func (Fn.func (15 : Nat)) #[] #[]) #[Value.slice (some (Addr.mk b (0 : Nat) none)) (16768 : Nat) (16768 : Nat)] I'_7 fun (v : Value) (I' : Mem) => ∃ (b : Bool), v = Value.bool b ∧ b = true ∧ (16769 : Int) = (16769 : Int) ∧ (0 : Int) ≤ (16769 : Int) ∧ (16769 : Int) ≤ (281474976710656 : Int) ∧ (16769 : Int) ≤ (281474976710656 : Int) ∧ ∀ (xs : List Value), List.length xs = (16769 : Nat) → (∀ (j : Nat) (v : Value), xs[j]? = some v → #[Value.int IntKind.u8 (0 : Int)][j % (1 : Nat)]? = some v) → true = true ∧ ∀ (b : Nat) (I'_8 : Mem), Mem.le I' I'_8 → I'_8 b = some (Obj.cells (List.toArray xs) (5 : Nat)) → Ct Try.prog (Value.func (Fn.func (15 : Nat)) #[] #[]) #[Value.slice (some (Addr.mk b (0 : Nat) none)) (16769 : Nat) (16769 : Nat)] I'_8 fun (v : Value) (I' : Mem) => ∃ (b : Bool), v = Value.bool b ∧ b = true ∧ true = true ∧ true = true ∧ true = true ∧ ∀ (b : Nat) (I'_9 : Mem), Mem.le I' I'_9 → I'_9 b = some (Obj.cells #[Value.int IntKind.u8 (1 : Int)] (5 : Nat)) → Ct Try.prog (Value.func (Fn.func (24 : Nat)) #[] #[]) #[Value.slice a_5 n_2 c_2, Value.agg #[Value.int IntKind.i64 (6 : Int), Value.slice (some (Addr.mk b (0 : Nat) none)) (1 : Nat) (1 : Nat)], Value.slice none (0 : Nat) (0 : Nat)] I'_9 fun (v : Value) (I' : Mem) => ∃ (b : Bool), v = Value.bool b ∧ b = true ∧ true = true ∧ true = true ∧ true = true ∧ true = true ∧ c_1 < n_1 + (1 : Nat) ∧ n_1 + (1 : Nat) ≤ (9223372036854775807 : Nat) ∧ (n_1 + (1 : Nat)) * (1 : Nat) ≤ (140737488355328 : Nat) ∧ Option.isSome a_4 = true ∧ ∃ (xs : List Value), List.length xs = n_1 * (1 : Nat) ∧ (∀ (j : Nat) (v : Value), xs[j]? = some v → atI I' a_4 j = some v) ∧ true = true ∧ true = true ∧ ∀ (a : Option Addr) (cp : Nat) (I'_10 : Mem), Mem.le I' I'_10 → RowM I'_10 a cp (1 : Nat) (xs ++ [Value.int IntKind.u8 (1 : Int)]) → Ct Try.prog (Value.func (Fn.func (24 : Nat)) #[] #[]) #[Value.slice a_5 n_2 c_2, Value.agg #[Value.int IntKind.i64 (5 : Int), Value.slice a (n_1 + (1 : Nat)) cp], Value.slice a_6 n_3 c_3] I'_10 fun (v : Value) (I' : Mem) => ∃ (b : Bool), v = Value.bool b ∧ b = true ∧ true = true ∧ true = true ∧ true = true ∧ true = true ∧ ∀ (b : Nat) (I'_11 : Mem), Mem.le I' I'_11 → I'_11 b = some (Obj.cells #[Value.int IntKind.i64 (5 : Int), Value.bool false, Value.int IntKind.i64 (16384 : Int), Value.int IntKind.i64 (16384 : Int)] (31 : Nat)) → Ct Try.prog (Value.func (Fn.func (24 : Nat)) #[] #[]) #[Value.slice a_5 n_2 c_2, Value.agg #[Value.int IntKind.i64 (6 : Int), Value.slice none (0 : Nat) (0 : Nat)], Value.slice (some (Addr.mk b (0 : Nat) none)) (1 : Nat) (1 : Nat)] I'_11 fun (v : Value) (I' : Mem) => ∃ (b : Bool), v = Value.bool b ∧ b = true ∧ Ct Try.prog (Value.func (Fn.func (12 : Nat)) #[] #[]) #[] I' fun (v : Value) (I' : Mem) => ∃ (b : Bool), v = Value.bool b ∧ Value.bool b = Value.bool true)) (by kernel_rfl) ?_
  simp only [eq_self, true_and]
  have hmx : maxLen = 9223372036854775807 := by decide
  have rd : ∀ (J : Mem) (bs : List Int) (a : Option Addr) (n c : Nat), byteL bs → SlM J a n 1 (ints .u8 bs) → n ≤ c → c ≤ maxLen → Ct Try.prog (fnv 15) #[.slice a n c] J (fun v _ => v = .bool true) := fun J bs a n c h1 h2 h3 h4 => ct15 bs h1 a n c J h2 h3 h4
  intro b I1 l1 hb
  refine ⟨⟨⟨by omega, by omega⟩, fun I2 _ l2 n ⟨n0, n1⟩ => Br.mk (fun hlt => ?_) (fun _ => trivial)⟩, fun I2 _ l2 _ b2 I3 l3 hb3 => ⟨⟨⟨by omega, by omega⟩, fun I4 _ l4 n ⟨n0, n1⟩ => Br.mk (fun hlt => ?_) (fun _ => trivial)⟩, fun I4 _ l4 _ => ⟨⟨⟨by omega, by omega, trivial⟩, fun I5 _ l5 xs n ⟨n0, n1, hxs⟩ => Br.mk (fun hlt => ?_) (fun hge a cp I6 l6 hrow => ?_)⟩, fun I5 _ l5 a n c ⟨k, hk, hnk, hF, hnc, hcm⟩ => ⟨by omega, by omega, by omega, fun zs hzl hz => ?_⟩⟩⟩⟩
  · -- the first loops
    have hlt := of_decide_eq_true hlt
    have hs9 : SlM I2 (some ⟨b, 0, none⟩) 9 1 (ints .u8 [0, 1, 2, 3, 200, 201, 247, 248, 255]) := bysl_one (l2 _ _ hb) rfl rfl (by omega)
    have hb9 : byteL [0, 1, 2, 3, 200, 201, 247, 248, 255] := fun z hz => by simp at hz; omega
    have at9 : ∀ {i : Int}, 0 ≤ i → i < 9 → ∃ x, (0 ≤ x ∧ x ≤ 255) ∧ atI I2 (some ⟨b, 0, none⟩) (i.toNat * 1 + 0) = some (.int .u8 x) := fun h0 h1 => by
      obtain ⟨x, hx, hat⟩ := hs9.intAt h0 h1
      exact ⟨x, hb9 x (List.mem_of_getElem? hx), hat⟩
    have tm : ∀ {i : Int}, 0 ≤ i → 0 ≤ i.tmod 9 ∧ i.tmod 9 < 9 := fun h => ⟨Int.tmod_nonneg _ h, Int.tmod_lt_of_pos _ (by omega)⟩
    have td : ∀ (k : Int), n.tdiv k = n / k := fun k => Int.tdiv_eq_ediv_of_nonneg n0
    rw [td, td, td]
    have q1 : 0 ≤ n / 9 := by omega
    have q2 : 0 ≤ n / 81 := by omega
    obtain ⟨x1, hx1, e1⟩ := at9 (tm n0).1 (tm n0).2
    obtain ⟨x2, hx2, e2⟩ := at9 (tm q1).1 (tm q1).2
    obtain ⟨x3, hx3, e3⟩ := at9 (tm q2).1 (tm q2).2
    obtain ⟨x4, hx4, e4⟩ := at9 (i := n / 729) (by omega) (by omega)
    refine ⟨by omega, (tm n0).1, (tm n0).2, x1, e1, by omega, wr_i64 (by omega) (by omega) ⟨by omega, (tm q1).1, (tm q1).2, x2, e2, by omega, wr_i64 (by omega) (by omega) ⟨by omega, (tm q2).1, (tm q2).2, x3, e3, by omega, wr_i64 (by omega) (by omega) ⟨by omega, by omega, x4, e4, fun b1 I3 l3 hb1 => ⟨⟨by omega, by omega⟩, fun I4 _ l4 j ⟨j0, j1⟩ => Br.mk (fun hj => ?_) (fun _ => wr_i64 (by omega) (by omega) ⟨⟨by omega, by omega⟩, by omega⟩)⟩⟩⟩⟩⟩
    have hj := of_decide_eq_true hj
    have hs4 : SlM I4 (some ⟨b1, 0, none⟩) 4 1 (ints .u8 [x1, x2, x3, x4]) := bysl_one (l4 _ _ hb1) rfl rfl (by omega)
    have hb4 : byteL [x1, x2, x3, x4] := fun z hz => by
      simp only [List.mem_cons, List.not_mem_nil, or_false] at hz
      rcases hz with rfl | rfl | rfl | rfl <;> assumption
    have hbt : byteL ([x1, x2, x3, x4].take j.toNat) := fun z hz => hb4 z (List.mem_of_mem_take hz)
    have hst := sl_take hs4 (k := j.toNat) (by omega)
    have hlen : ([x1, x2, x3, x4].take j.toNat).length = j.toNat := by simp; omega
    generalize [x1, x2, x3, x4].take j.toNat = bs at hbt hst hlen
    refine Br.mk (fun _ => ?_) (fun _ => Br.mk (fun _ => ?_) (fun _ => ⟨by omega, Br.mk (fun _ => ?_) (fun _ => wr_i64 (by omega) (by omega) ⟨⟨by omega, by omega⟩, by omega⟩)⟩))
    all_goals
      refine ⟨j0, by omega, (rd I4 bs _ _ _ hbt hst (by omega) (by omega)).mono fun v I5 l5 hv => ⟨_, hv, Br.f rfl ?_⟩⟩
      have hs5 := hst.mono l5
      refine ⟨j0, by omega, _, hs5.len, (fun h => by cases h), hs5.at_, one_ints, by omega, by omega, fun a cp I6 l6 hrow => ?_⟩
      obtain ⟨g1, g2, g3⟩ := slG_pre (xs := 1 :: 1 :: 7 :: bs) (n := 3 + j.toNat) hrow rfl (by simp; omega)
      exact (rd I6 _ a _ cp (fun z hz => by
        simp only [List.mem_cons] at hz
        rcases hz with rfl | rfl | rfl | hz
        · omega
        · omega
        · omega
        · exact hbt z hz) g1 g2 g3).mono fun v I7 l7 hv => ⟨_, hv, Br.f rfl (wr_i64 (by omega) (by omega) ⟨⟨by omega, by omega⟩, by omega⟩)⟩
  · have hlt := of_decide_eq_true hlt
    have tg : ∀ {J : Mem}, I3.le J → ∀ {i : Int}, 0 ≤ i → i < 11 → ∃ x, (-9223372036854775808 ≤ x ∧ x ≤ 9223372036854775807) ∧ atI J (some ⟨b2, 0, none⟩) (i.toNat * 1 + 0) = some (.int .i64 x) := fun hle i h0 h1 => by
      have hs : SlM _ (some ⟨b2, 0, none⟩) 11 1 (ints .i64 [-9223372036854775808, -1, 0, 1, 2, 199, 200, 201, 256, 257, 9223372036854775807]) := sl_cells (n := 11) (sz := 1) (hle _ _ hb3) rfl (by omega)
      obtain ⟨x, hx, hat⟩ := hs.intAt h0 h1
      refine ⟨x, ?_, hat⟩
      have := List.mem_of_getElem? hx
      simp at this; omega
    obtain ⟨p, hp, e1⟩ := tg l4 n0 hlt
    have wok : ∀ {t : Int} {m : Bool} {x y : Int}, (-9223372036854775808 ≤ t ∧ t ≤ 9223372036854775807) → (-9223372036854775808 ≤ x ∧ x ≤ 9223372036854775807) → (-9223372036854775808 ≤ y ∧ y ≤ 9223372036854775807) → okW (t, m, x, y) := fun h1 h2 h3 => ⟨h1, h2, h3⟩
    refine ⟨n0, hlt, p, e1, ⟨by omega, by omega⟩, fun I5 _ l5 j ⟨j0, j1⟩ => Br.mk (fun hj => ?_) (fun _ => ⟨⟨by omega, by omega⟩, fun I6 _ l6 i ⟨i0, i1⟩ => Br.mk (fun hi => ?_) (fun _ => wr_i64 (by omega) (by omega) ⟨⟨by omega, by omega⟩, by omega⟩)⟩)⟩
    · have hj := of_decide_eq_true hj
      obtain ⟨q, hq, e2⟩ := tg (Mem.le_trans l4 l5) j0 hj
      refine ⟨j0, hj, q, e2, fun b4 I6 l6 hb4 => ⟨⟨by omega, by omega⟩, fun I7 _ l7 i ⟨i0, i1⟩ => Br.mk (fun hi => ?_) (fun _ => wr_i64 (by omega) (by omega) ⟨⟨by omega, by omega⟩, by omega⟩)⟩⟩
      have hi := of_decide_eq_true hi
      have hs4 : SlM I7 (some ⟨b4, 0, none⟩) 4 1 (ints .i64 [0, 1, 246, 247]) := sl_cells (n := 4) (sz := 1) (l7 _ _ hb4) rfl (by omega)
      obtain ⟨z, hz, e3⟩ := hs4.intAt i0 hi
      have hz2 : 0 ≤ z ∧ z ≤ 247 := by
        have := List.mem_of_getElem? hz
        simp at this; omega
      refine ⟨i0, hi, z, e3, by omega, by omega, by omega, fun zs hzl hzz b5 I8 l8 hb5 b6 I9 l9 hb6 b7 I10 l10 hb7 b8 I11 l11 hb8 b9 I12 l12 hb9 => ?_⟩
      have hz0 := zeros_of (n := z.toNat) (by omega) hzz
      have m5 : I8.le I12 := Mem.le_trans l9 (Mem.le_trans l10 (Mem.le_trans l11 l12))
      have s5 : SlM I12 (some ⟨b5, 0, none⟩) z.toNat 1 (ints .u8 (List.replicate z.toNat 0)) := bysl_one (m5 _ _ hb5) hz0 (by simp) (by omega)
      have s6 : SlM I12 (some ⟨b6, 0, none⟩) 1 1 (ints .u8 [1]) := bysl_one ((Mem.le_trans l10 (Mem.le_trans l11 l12)) _ _ hb6) rfl rfl (by omega)
      have s8 : SlM I12 (some ⟨b8, 0, none⟩) 2 1 (ints .u8 [2, 3]) := bysl_one (l12 _ _ hb8) rfl rfl (by omega)
      have hL : FldM I12 (some ⟨b7, 0, none⟩) 2 [(p, List.replicate z.toNat 0), (q, [1])] :=
        ⟨_, sl_cells (n := 2) (sz := 2) ((Mem.le_trans l11 l12) _ _ hb7) rfl (by omega), FR.cons ⟨⟨hp, byteL_zeros _⟩, rfl, _, _, _, rfl, s5, Nat.le_refl _, by omega⟩ (FR.cons ⟨⟨hq, by simp⟩, rfl, _, _, _, rfl, s6, by omega, by omega⟩ FR.nil)⟩
      have hW : WntM I12 (some ⟨b9, 0, none⟩) 3 [(1, true, 1, 247), (2, false, 0, 1), (200, true, 0, 16384)] := by
        refine ⟨sl_cells (n := 3) (sz := 4) hb9 rfl (by omega), fun w hw => ?_⟩
        simp at hw
        rcases hw with rfl | rfl | rfl <;> simp [okW]
      refine (ct24 _ (by simp; omega) _ 2 2 I12 hL (q, [2, 3]) ⟨hq, by simp⟩ _ 2 2 s8 (by omega) (by omega) _ _ 3 3 hW).mono fun v I13 l13 hv => ⟨_, hv, Br.f rfl ⟨by omega, by omega, by omega, by omega, ?_⟩⟩
      have hL2 := (hL.mono l13).take (k := 1) (by omega)
      have hW2 : WntM I13 (some ⟨b9, 0, none⟩) 2 [(1, true, 1, 247), (2, false, 0, 1)] := by
        refine ⟨slG_take (hW.mono l13).1 (k := 2) (by omega), fun w hw => ?_⟩
        simp at hw
        rcases hw with rfl | rfl <;> simp [okW]
      exact (ct24 _ (by simp; omega) _ 1 2 I13 hL2 (q, []) ⟨hq, by simp⟩ none 0 0 (sl_nil _ _) (by omega) (by omega) _ _ 2 3 hW2).mono fun v I14 l14 hv => ⟨_, hv, Br.f rfl (wr_i64 (by omega) (by omega) ⟨⟨by omega, by omega⟩, by omega⟩)⟩
    · have hi := of_decide_eq_true hi
      obtain ⟨q, hq, e2⟩ := tg (Mem.le_trans l4 (Mem.le_trans l5 l6)) i0 hi
      refine ⟨i0, hi, q, e2, fun b4 I7 l7 hb4 b5 I8 l8 hb5 b6 I9 l9 hb6 => ?_⟩
      have s5 : SlM I9 (some ⟨b5, 0, none⟩) 2 1 (ints .u8 [247, 255]) := bysl_one (l9 _ _ hb5) rfl rfl (by omega)
      have hL : FldM I9 (some ⟨b4, 0, none⟩) 1 [(1, [])] :=
        ⟨_, sl_cells (n := 1) (sz := 2) ((Mem.le_trans l8 l9) _ _ hb4) rfl (by omega), FR.cons ⟨⟨by simp, by simp⟩, rfl, none, 0, 0, rfl, sl_nil _ _, by omega, by omega⟩ FR.nil⟩
      have hW : WntM I9 (some ⟨b6, 0, none⟩) 2 [(1, false, p, q), (3, false, 0, 0)] := by
        refine ⟨sl_cells (n := 2) (sz := 4) hb6 rfl (by omega), fun w hw => ?_⟩
        simp only [List.mem_cons, List.not_mem_nil, or_false] at hw
        rcases hw with rfl | rfl
        · exact wok (by omega) hp hq
        · exact wok (by omega) (by omega) (by omega)
      refine (ct24 _ (by simp) _ 1 1 I9 hL (1, [247, 255]) ⟨by simp, by simp⟩ _ 2 2 s5 (by omega) (by omega) _ _ 2 2 hW).mono fun v I10 l10 hv => ⟨_, hv, Br.f rfl fun b7 I11 l11 hb7 => ?_⟩
      have hW2 : WntM I11 (some ⟨b7, 0, none⟩) 2 [(p, false, 0, 0), (q, true, 0, 0)] := by
        refine ⟨sl_cells (n := 2) (sz := 4) hb7 rfl (by omega), fun w hw => ?_⟩
        simp only [List.mem_cons, List.not_mem_nil, or_false] at hw
        rcases hw with rfl | rfl
        · exact wok hp (by omega) (by omega)
        · exact wok hq (by omega) (by omega)
      exact (ct24 [] (by simp) none 0 0 I11 (fldM_nil _) (p, []) ⟨hp, by simp⟩ none 0 0 (sl_nil _ _) (by omega) (by omega) _ _ 2 2 hW2).mono fun v I14 l14 hv => ⟨_, hv, Br.f rfl (wr_i64 (by omega) (by omega) ⟨⟨by omega, by omega⟩, by omega⟩)⟩
  · have hlt := of_decide_eq_true hlt
    have hxl := hxs.len
    rw [many_len] at hxl
    refine wr_i64 (by omega) (by omega) (wr_i64 (by omega) (by omega) ⟨n, IntWalk.u8_in n ⟨n0, by omega⟩, fun b6 I6 l6 hb6 => ⟨by omega, by omega, by omega, wr_i64 (by omega) (by omega) ⟨by simp, ⟨by omega, by omega, ?_⟩, by omega⟩⟩⟩)
    rw [show (n + 1).toNat = n.toNat + 1 by omega, many_succ, Int.toNat_of_nonneg n0]
    exact FR.snoc (hxs.mono l6) ⟨⟨by simp only; omega, by simp; omega⟩, rfl, _, _, _, rfl, bysl_one (n := 1) hb6 rfl rfl (by omega), by omega, by omega⟩
  · have hge := of_decide_eq_false hge
    have hxl := hxs.len
    rw [many_len] at hxl
    have hn : n.toNat = 65 := by omega
    have hm := hrow.1
    have hf := fldM_row hrow (hxs.mono l6)
    rw [many_len, hn] at hf
    exact ⟨65, rfl, by omega, hf, by omega, hrow.2.1⟩
  · have hz0 := zeros_of (n := 16384) hzl hz
    refine ⟨⟨⟨by omega, by omega, [], rfl, fun w hw => (by cases hw), rfl⟩, fun I6 _ l6 xs j ⟨j0, j1, ws, hws, hok, hwl⟩ => Br.mk (fun hlt => ?_) (fun hge b6 I7 l7 hb6 b7 I8 l8 hb7 a6 cp I9 l9 hrow => ?_)⟩, fun I6 _ l6 a n c a4 n1 c1 a5 n2 c2 a6 n3 c3 ⟨k, m, hk, hm, hnk, hF, hnc, hcm, hn1, hc1, hs1, hn2, hnc2, hcm2, hF2, hn3, hnc3, hcm3, ws, hW⟩ => ?_⟩
    · have hlt := of_decide_eq_true hlt
      change xs = ws.flatMap wc at hws
      have hxl : xs.length = ws.length * 4 := by rw [hws, wc_len]
      refine wr_i64 (by omega) (by omega) (wr_i64 (by omega) (by omega) ⟨by omega, by omega, by omega, by omega, wr_i64 (by omega) (by omega) ⟨by simp, ⟨by omega, by omega, ws ++ [(1 + 3 * j, j.tmod 2 == 0, 0, 1)], ?_, ?_, ?_⟩, by omega⟩⟩)
      · show _ = List.flatMap wc _
        rw [List.flatMap_append, hws]; rfl
      · intro w hw
        rcases List.mem_append.1 hw with hw | hw
        · exact hok w hw
        · simp only [List.mem_cons, List.not_mem_nil, or_false] at hw
          subst hw
          refine ⟨⟨?_, ?_⟩, ⟨?_, ?_⟩, ?_, ?_⟩ <;> simp only <;> omega
      · rw [List.length_append]; simp; omega
    · have hge := of_decide_eq_false hge
      change xs = ws.flatMap wc at hws
      have hxl : xs.length = ws.length * 4 := by rw [hws, wc_len]
      have l59 : I5.le I9 := Mem.le_trans l6 (Mem.le_trans l7 (Mem.le_trans l8 l9))
      have s6 : SlM I9 (some ⟨b6, 0, none⟩) 16384 1 (ints .u8 (List.replicate 16384 0)) := bysl_one ((Mem.le_trans l8 l9) _ _ hb6) hz0 (by rw [List.length_replicate]) (by omega)
      have hrm := hrow.1
      refine ⟨65, 16384, rfl, rfl, by omega, by rw [← hk]; exact hF.mono l59, by omega, by omega, rfl, rfl, s6, by omega, by omega, ⟨_, sl_cells (n := 1) (sz := 2) (l9 _ _ hb7) rfl (by omega), FR.cons ⟨⟨⟨by simp only; omega, by simp only; omega⟩, byteL_zeros _⟩, rfl, _, _, _, rfl, s6, Nat.le_refl _, by omega⟩ FR.nil⟩, by omega, by omega, hrow.2.1, ws, ?_⟩
      rw [show xs.length / 4 = ws.length by omega]
      exact ⟨by rw [← hws]; exact hrow.sl (by omega) (by omega), hok⟩
    · subst hn2
      have hbm : ∀ f ∈ manyL k, f.2.length ≤ 140737488351232 := fun f hf => by have := (many_at (by omega) hf).2; omega
      have hbm64 : ∀ f ∈ (manyL k).take 64, f.2.length ≤ 1000000 := fun f hf => by have := (many_at (by omega) (List.mem_of_mem_take hf)).2; omega
      have hr1 : rightF ((manyL k).take 64) = true := by subst hk; exact many_right
      have hr2 : rightF [(5, List.replicate m 0)] = true := by
        rw [rightF_iff]
        refine ⟨?_, by simp⟩
        rw [rightStep, rightStep, if_neg]
        rw [List.length_replicate]
        omega
      refine ⟨by omega, by omega, (ct26 _ hbm64 a 64 c I6 (hF.take (k := 64) (by omega)) (by omega)).mono fun v I7 l7 ⟨a8, n8, c8, hv, hF8, hn8, hc8⟩ => ⟨_, _, _, hv, ?_⟩⟩
      have hl8 := hF8.len
      refine (ct25 _ hbm64 a8 n8 c8 I7 hF8 (by rw [List.length_take, many_len] at hl8; omega)).mono fun v I8 l8 ⟨a9, n9, c9, hv, hw9, hn9, hc9⟩ => ⟨_, _, _, _, hv, ?_⟩
      have hbf : ∀ f ∈ [((5 : Int), List.replicate m (0 : Int))], f.2.length ≤ 1000000 := fun f hf => by
        simp only [List.mem_cons, List.not_mem_nil, or_false] at hf
        subst hf
        simp only [List.length_replicate]; omega
      refine (ct26 _ hbf a5 1 c2 I8 (hF2.mono (Mem.le_trans l7 l8)) (by omega)).mono fun v I9 l9 ⟨a10, n10, c10, hv, hF10, hn10, hc10⟩ => ⟨_, _, _, hv, ?_⟩
      have hl10 := hF10.len
      refine (ct25 _ hbf a10 n10 c10 I9 hF10 (by simp only [List.length_singleton] at hl10; omega)).mono fun v I10 l10 ⟨a11, n11, c11, hv, hw11, hn11, hc11⟩ => ⟨_, _, _, _, hv, ?_⟩
      rw [if_pos hr1] at hw9
      rw [if_pos hr2] at hw11
      have hy1 := write_bytes hr1 (fun f hf => (many_at (by omega) (List.mem_of_mem_take hf)).1)
      have hy2 := write_bytes hr2 hF2.ok
      have hlen1 := hw9.numLen
      have hlen2 := hw11.numLen
      have hle1 := write_len hr1
      have hle2 := write_len hr2
      have hge2 : 1 ≤ n11 := by
        rw [hlen2, writeF_cons]; simp
      generalize hA : writeF ((manyL k).take 64) = A at hw9 hy1 hlen1 hle1
      generalize hB : writeF [((5 : Int), List.replicate m (0 : Int))] = B at hw11 hy2 hlen2 hle2
      simp only [hr1, hr2, if_true]
      have l610 : I6.le I10 := Mem.le_trans l7 (Mem.le_trans l8 (Mem.le_trans l9 l10))
      have hw9' := hw9.mono (Mem.le_trans l9 l10)
      refine wr_i64 (by omega) (by omega) (Br.f rfl ⟨_, hw9'.len, hw9'.nil, hw9'.at_, one_ints, by omega, by omega, by rw [ints_len]; omega, by omega, by omega, _, hw11.len, hw11.nil, hw11.at_, one_ints, by omega, by omega, by rw [ints_len]; omega, by omega, by omega, by omega, by omega, hF.isSome (by omega), ?_⟩)
      have at_ : ∀ {J : Mem} (i : Nat), I6.le J → i < k → ∃ f b m' c', okFld f ∧ atI J a (i * 2 + 0) = some (.int .i64 f.1) ∧ atI J a (i * 2 + 1) = some (.slice b m' c') ∧ SlM J b m' 1 (ints .u8 f.2) ∧ m' ≤ c' ∧ c' ≤ maxLen := fun i hle hi => by
        obtain ⟨f, b, m', c', hf, h1, h2, h3, h4, h5, h6⟩ := (hF.mono hle).at_ (i := (i : Int)) (by omega) (by omega)
        rw [Int.toNat_natCast] at h2 h3
        exact ⟨f, b, m', c', h1, h2, h3, h4, h5, h6⟩
      obtain ⟨f, bf, mf, cf, ok1, e1, e2, sf, q1, q2⟩ := at_ 64 l610 (by omega)
      refine ⟨_, e1, _, _, _, e2, ?_⟩
      rw [hnk, hn3]
      rw [hn3] at hW hnc3
      refine (ct24 _ hbm a k c I10 (hF.mono l610) f ok1 bf mf cf sf q1 q2 ws a6 k c3 (hW.mono l610)).mono fun v J1 m1 hv => ⟨_, hv, rfl, by omega, by omega, by omega, by omega, hF.isSome (by omega), ?_⟩
      have p1 := Mem.le_trans l610 m1
      obtain ⟨f, bf, mf, cf, ok1, e1, e2, sf, q1, q2⟩ := at_ 64 p1 (by omega)
      refine ⟨_, e1, _, _, _, e2, by omega, by omega, ?_⟩
      have hbm2 : ∀ i, ∀ f ∈ (manyL k).take i, f.2.length ≤ 140737488351232 := fun i f hf => hbm f (List.mem_of_mem_take hf)
      refine (ct24 _ (hbm2 64) a 64 c J1 ((hF.mono p1).take (by omega)) f ok1 bf mf cf sf q1 q2 _ a6 64 c3 ((hW.mono p1).take (by omega))).mono fun v J2 m2 hv => ⟨_, hv, rfl, by omega, by omega, by omega, by omega, hF.isSome (by omega), ?_⟩
      have p2 := Mem.le_trans p1 m2
      obtain ⟨f, bf, mf, cf, ok1, e1, e2, sf, q1, q2⟩ := at_ 63 p2 (by omega)
      refine ⟨_, e1, _, _, _, e2, by omega, by omega, ?_⟩
      refine (ct24 _ (hbm2 63) a 63 c J2 ((hF.mono p2).take (by omega)) f ok1 bf mf cf sf q1 q2 _ a6 64 c3 ((hW.mono p2).take (by omega))).mono fun v J3 m3 hv => ⟨_, hv, rfl, ?_⟩
      have p3 := Mem.le_trans p2 m3
      have r3 : I10.le J3 := Mem.le_trans m1 (Mem.le_trans m2 m3)
      refine (rd J3 A a9 n9 c9 hy1 (hw9'.mono r3) hn9 (by omega)).mono fun v J4 m4 hv => ⟨_, hv, rfl, fun a20 cp20 J5 m5 hrow => ?_⟩
      obtain ⟨g1, g2, g3⟩ := slG_pre (xs := A ++ [198, 0]) (n := 0 + n9 + 2) hrow (by simp [ints]) (by simp; omega)
      have app : ∀ {X Y : List Int}, byteL X → (∀ z ∈ Y, 0 ≤ z ∧ z ≤ 255) → byteL (X ++ Y) := fun h1 h2 z hz => by
        rcases List.mem_append.1 hz with hz | hz
        · exact h1 z hz
        · exact h2 z hz
      refine (rd J5 _ a20 _ cp20 (app hy1 (by simp)) g1 g2 (by omega)).mono fun v J6 m6 hv => ⟨_, hv, rfl, ?_⟩
      have r6 : I10.le J6 := Mem.le_trans r3 (Mem.le_trans m4 (Mem.le_trans m5 m6))
      refine (rd J6 B a11 n11 c11 hy2 (hw11.mono r6) hn11 (by omega)).mono fun v J7 m7 hv => ⟨_, hv, rfl, fun a21 cp21 J8 m8 hrow => ?_⟩
      obtain ⟨g1, g2, g3⟩ := slG_pre (xs := B ++ [6, 1, 7]) (n := 0 + n11 + 3) hrow (by simp [ints]) (by simp; omega)
      refine (rd J8 _ a21 _ cp21 (app hy2 (by simp)) g1 g2 (by omega)).mono fun v J9 m9 hv => ⟨_, hv, rfl, wr_i64 (by omega) (by omega) ⟨by omega, by omega, ?_⟩⟩
      have r9 : I10.le J9 := Mem.le_trans r6 (Mem.le_trans m7 (Mem.le_trans m8 m9))
      refine (rd J9 (B.take ((n11 : Int) - 1).toNat) a11 _ c11 (fun z hz => hy2 z (List.mem_of_mem_take hz)) (sl_take (hw11.mono r9) (by omega)) (by omega) (by omega)).mono fun v J10 m10 hv => ⟨_, hv, rfl, (fun h => ⟨⟨h, h⟩, h⟩) ?_⟩
      have hw := hw11.mono (Mem.le_trans r9 m10)
      refine ⟨_, hw.len, hw.nil, hw.at_, one_ints, by omega, by omega, by rw [ints_len]; omega, by omega, by omega, fun a22 cp22 J11 m11 hrow => ?_⟩
      obtain ⟨g1, g2, g3⟩ := slG_pre (xs := B ++ [6, 0]) (n := 0 + n11 + 2) hrow (by simp [ints]) (by simp; omega)
      refine (rd J11 _ a22 _ cp22 (app hy2 (by simp)) g1 g2 (by omega)).mono fun v J12 m12 hv => ⟨_, hv, rfl, by omega, by omega, by omega, fun xs hxl hx b30 J13 m13 hb30 => ?_⟩
      refine (rd J13 _ (some ⟨b30, 0, none⟩) 16768 16768 (byteL_zeros 16768) (bysl_one hb30 (zeros_of hxl hx) (by rw [List.length_replicate]) (by omega)) (by omega) (by omega)).mono fun v J14 m14 hv => ⟨_, hv, rfl, by omega, by omega, by omega, fun xs hxl hx b31 J15 m15 hb31 => ?_⟩
      refine (rd J15 _ (some ⟨b31, 0, none⟩) 16769 16769 (byteL_zeros 16769) (bysl_one hb31 (zeros_of hxl hx) (by rw [List.length_replicate]) (by omega)) (by omega) (by omega)).mono fun v J16 m16 hv => ⟨_, hv, rfl, fun b32 J17 m17 hb32 => ?_⟩
      have hbf2 : ∀ f ∈ [((5 : Int), List.replicate m (0 : Int))], f.2.length ≤ 140737488351232 := fun f hf => by have := hbf f hf; omega
      have t17 : I6.le J17 := Mem.le_trans l610 (Mem.le_trans r9 (Mem.le_trans m10 (Mem.le_trans m11 (Mem.le_trans m12 (Mem.le_trans m13 (Mem.le_trans m14 (Mem.le_trans m15 (Mem.le_trans m16 m17))))))))
      refine (ct24 _ hbf2 a5 1 c2 J17 (hF2.mono t17) (6, [1]) ⟨⟨by simp, by simp⟩, by simp⟩ (some ⟨b32, 0, none⟩) 1 1 (bysl_one hb32 rfl rfl (by omega)) (by omega) (by omega) [] none 0 0 ⟨sl_nil _ _, fun w hw => by cases hw⟩).mono fun v J18 m18 hv => ⟨_, hv, rfl, by omega, by omega, by omega, hs1.isSome (by omega), _, (hs1.mono (Mem.le_trans t17 m18)).len.trans (by omega), (hs1.mono (Mem.le_trans t17 m18)).at_, fun a40 cp40 J19 m19 hrow => ?_⟩
      obtain ⟨g1, g2, g3⟩ := slG_pre (xs := List.replicate m 0 ++ [1]) (n := n1 + 1) hrow (by simp [ints]) (by simp; omega)
      have t19 := Mem.le_trans t17 (Mem.le_trans m18 m19)
      refine (ct24 _ hbf2 a5 1 c2 J19 (hF2.mono t19) (5, List.replicate m 0 ++ [1]) ⟨⟨by simp, by simp⟩, app (byteL_zeros m) (by simp)⟩ a40 (n1 + 1) cp40 g1 g2 (by omega) ws a6 k c3 (hW.mono t19)).mono fun v J20 m20 hv => ⟨_, hv, rfl, fun b41 J21 m21 hb41 => ?_⟩
      have t21 := Mem.le_trans t19 (Mem.le_trans m20 m21)
      have hW1 : WntM J21 (some ⟨b41, 0, none⟩) 1 [(5, false, 16384, 16384)] := by
        refine ⟨sl_cells (n := 1) (sz := 4) hb41 rfl (by omega), fun w hw => ?_⟩
        simp only [List.mem_cons, List.not_mem_nil, or_false] at hw
        subst hw
        refine ⟨⟨?_, ?_⟩, ⟨?_, ?_⟩, ?_, ?_⟩ <;> simp only <;> omega
      refine (ct24 _ hbf2 a5 1 c2 J21 (hF2.mono t21) (6, []) ⟨⟨by simp, by simp⟩, by simp⟩ none 0 0 (sl_nil _ _) (by omega) (by omega) _ _ 1 1 hW1).mono fun v J22 m22 hv => ⟨_, hv, rfl, ?_⟩
      exact (ct12 J22).mono fun v _ _ hv => ⟨_, hv, rfl⟩
