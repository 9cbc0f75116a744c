/- Part of a proof by the rules of the symbolic walk (see the law's own text): contracts of functions of the program. -/
import Derived.Test.YtglkgdkdcmilcaaRa10
open Go Go.Proofs Go.SE Go.RowKit
theorem ct41 (a : Option Addr) (n c : Nat) (zs : List Int) (I : Mem) (h : SlM I a n 1 (ints .u8 zs)) (hl : n ≤ 100000) : Ct Try.prog (fnv 41) #[.slice a n c] I (fun v I' => ∃ a' c', v = .slice a' n c' ∧ SlM I' a' n 1 (ints .u8 zs)) := by
  refine viaR (ct_via (A := {}) Try.func41 rfl Try.call41 rfl rfl) (Br (Option.isNone a) (∃ (a' : Option Addr), ∃ (c' : Nat), Value.slice none (0 : Nat) (0 : Nat) = Value.slice a' n c' ∧ SlM I a' n (1 : Nat) (List.map (Value.int IntKind.u8) zs)) (∃ (ys : List Value), List.length ys = n * (1 : Nat) ∧ (a = none → n = (0 : Nat)) ∧ (∀ (j : Nat) (v : Value), ys[j]? = some v → atI I a j = some v) ∧ (∀ (v : Value), v ∈ ys → Value.oneCell' v = true) ∧ (0 : Nat) = (0 : Nat) ∧ (0 : Nat) + n ≤ (9223372036854775807 : Nat) ∧ ((0 : Nat) + n) * (1 : Nat) ≤ (140737488355328 : Nat) ∧ ∀ (a : Option Addr) (cp : Nat) (I' : Mem), Mem.le I I' → RowM I' a cp (1 : Nat) ys → ∃ (a' : Option Addr), ∃ (c' : Nat), Value.slice a ((0 : Nat) + n) cp = Value.slice a' n c' ∧ SlM I' a' n (1 : Nat) (List.map (Value.int IntKind.u8) zs))) (by kernel_rfl) ?_
  simp only [eq_self, true_and]
  refine Br.mk (fun h0 => ?_) (fun _ => ?_)
  · have h0 : a = none := by simpa using h0
    subst h0
    have hn := h.nil rfl
    subst hn
    exact ⟨none, 0, rfl, h⟩
  · refine ⟨ints .u8 zs, h.len, h.nil, h.at_, fun v hv => ?_, by omega, by omega, fun a' cp I' _ hrow => ⟨a', cp, by rw [Nat.zero_add], hrow.sl (by omega) h.len⟩⟩
    simp only [ints, List.mem_map] at hv
    obtain ⟨z, _, rfl⟩ := hv
    rfl
theorem ct44 (a b : Option Addr) (n c c' : Nat) (zs : List Int) (I : Mem) (h : SlM I a n 1 (ints .u8 zs)) (h' : SlM I b n 1 (ints .u8 zs)) : Ct Try.prog (fnv 44) #[.slice a n c, .slice b n c'] I (fun v _ => v = .bool true) := by
  refine viaR (ct_via (A := { loops := [(4, ⟨[(0, .keep), (1, .keep), (12, .keep), (13, .sh (.int .i64))], [], [], fun vals _ _ _ => match vals with | [.int .i64 j] => 0 ≤ j ∧ j ≤ n | _ => False, fun vals _ => match vals with | [.int .i64 j] => (n - j).toNat | _ => 0⟩)] }) Try.func44 rfl Try.call44 rfl rfl) (Br ((↑n : Int) != (↑n : Int)) (Value.bool false = Value.bool true) ((SV.v (Value.slice a n c) = SV.v (Value.slice a n c) ∧ SV.v (Value.slice b n c') = SV.v (Value.slice b n c') ∧ SV.v (Value.int IntKind.i64 (↑n : Int)) = SV.v (Value.int IntKind.i64 (↑n : Int)) ∧ (0 : Int) ≤ (0 : Int) ∧ (0 : Int) ≤ (↑n : Int)) ∧ ∀ (I' G' : Mem), Mem.le I I' → ∀ (n_1 : Int), (0 : Int) ≤ n_1 ∧ n_1 ≤ (↑n : Int) → Br (decide (n_1 < (↑n : Int))) ((0 : Int) ≤ n_1 ∧ n_1 < (↑n : Int) ∧ Option.isSome a = true ∧ ∃ (n_2 : Int), atI I' a (Int.toNat n_1 * (1 : Nat) + (0 : Nat)) = some (Value.int IntKind.u8 n_2) ∧ (0 : Int) ≤ n_1 ∧ n_1 < (↑n : Int) ∧ Option.isSome b = true ∧ ∃ (n_3 : Int), atI I' b (Int.toNat n_1 * (1 : Nat) + (0 : Nat)) = some (Value.int IntKind.u8 n_3) ∧ Br (n_2 != n_3) (Value.bool false = Value.bool true) (Wr IntKind.i64 (n_1 + (1 : Int)) fun (c_1 : Int) => SV.v (Value.slice a n c) = SV.v (Value.slice a n c) ∧ SV.v (Value.slice b n c') = SV.v (Value.slice b n c') ∧ SV.v (Value.int IntKind.i64 (↑n : Int)) = SV.v (Value.int IntKind.i64 (↑n : Int)) ∧ ((0 : Int) ≤ c_1 ∧ c_1 ≤ (↑n : Int)) ∧ Int.toNat ((↑n : Int) - c_1) < Int.toNat ((↑n : Int) - n_1))) (Value.bool true = Value.bool true))) (by kernel_rfl) ?_
  simp only [eq_self, true_and]
  refine Br.f (by simp) ⟨⟨by omega, by omega⟩, fun I1 G1 hI j ⟨h0, h1⟩ => Br.mk (fun hlt => ?_) (fun _ => trivial)⟩
  have hmax := h.max
  simp only [maxLen] at hmax
  have hlt := of_decide_eq_true hlt
  obtain ⟨x, hx, hat⟩ := (h.mono hI).intAt h0 hlt
  obtain ⟨y, hy, hat'⟩ := (h'.mono hI).intAt h0 hlt
  rw [hx] at hy
  cases hy
  exact ⟨h0, hlt, h.isSome (by omega), x, hat, h0, hlt, h'.isSome (by omega), x, hat', Br.f (by simp) (wr_i64 (by omega) (by omega) ⟨⟨by omega, by omega⟩, by omega⟩)⟩
theorem ct42 (ms : List Int) (hms : ∀ m ∈ ms, 0 ≤ m ∧ m ≤ 255) (a : Option Addr) (n c : Nat) (I : Mem) (h : SlM I a n 1 (ints .i64 ms)) (hl : n ≤ 100000) :
    Ct Try.prog (fnv 42) #[.slice a n c] I (fun v _ => v = .tuple #[.int .i64 (chainV ms).1, .int .i64 (chainV ms).2]) := by
  refine viaR (ct_via (A := { loops := [(2, ⟨[(0, .keep), (4, .sh (.int .i64))], [], [], fun vals _ _ _ => match vals with
    | [.int .i64 j] => 0 ≤ j ∧ j ≤ n ∧ ∀ (i : Nat) (x : Int), (i : Int) < j → ms[i]? = some x → okM [x] = true | _ => False, fun vals _ => match vals with | [.int .i64 j] => (n - j).toNat | _ => 0⟩),
    (7, ⟨[(0, .keep), (5, .sh (.int .i64))], [], [], fun vals _ _ _ => match vals with
    | [.int .i64 j] => 0 ≤ j ∧ j ≤ n ∧ ∀ (i : Nat) (x y : Int), (i : Int) < j → ms[i]? = some x → ms[i + 1]? = some y → handV x y = 0 | _ => False, fun vals _ => match vals with | [.int .i64 j] => (n - j).toNat | _ => 0⟩)] }) Try.func42 rfl Try.call42 rfl rfl) ((SV.v (Value.slice a n c) = SV.v (Value.slice a n c) ∧ (0 : Int) ≤ (0 : Int) ∧ (0 : Int) ≤ (↑n : Int) ∧ ∀ (i : Nat) (x : Int), (↑i : Int) < (0 : Int) → ms[i]? = some x → okM [x] = true) ∧ ∀ (I' G' : Mem), Mem.le I I' → ∀ (n_1 : Int), ((0 : Int) ≤ n_1 ∧ n_1 ≤ (↑n : Int) ∧ ∀ (i : Nat) (x : Int), (↑i : Int) < n_1 → ms[i]? = some x → okM [x] = true) → Br (decide (n_1 < (↑n : Int))) ((0 : Int) ≤ n_1 ∧ n_1 < (↑n : Int) ∧ Option.isSome a = true ∧ ∃ (n_2 : Int), atI I' a (Int.toNat n_1 * (1 : Nat) + (0 : Nat)) = some (Value.int IntKind.i64 n_2) ∧ Ct Try.prog (Value.func (Fn.func (37 : Nat)) #[] #[]) #[Value.int IntKind.i64 n_2] I' fun (v : Value) (I' : Mem) => ∃ (b : Bool), v = Value.bool b ∧ Br (!b) (Value.tuple #[Value.int IntKind.i64 n_1, Value.int IntKind.i64 (220 : Int)] = Value.tuple #[Value.int IntKind.i64 (Prod.fst (chainV ms)), Value.int IntKind.i64 (Prod.snd (chainV ms))]) (Wr IntKind.i64 (n_1 + (1 : Int)) fun (c_1 : Int) => SV.v (Value.slice a n c) = SV.v (Value.slice a n c) ∧ ((0 : Int) ≤ c_1 ∧ c_1 ≤ (↑n : Int) ∧ ∀ (i : Nat) (x : Int), (↑i : Int) < c_1 → ms[i]? = some x → okM [x] = true) ∧ Int.toNat ((↑n : Int) - c_1) < Int.toNat ((↑n : Int) - n_1))) ((SV.v (Value.slice a n c) = SV.v (Value.slice a n c) ∧ (0 : Int) ≤ (0 : Int) ∧ (0 : Int) ≤ (↑n : Int) ∧ ∀ (i : Nat) (x y : Int), (↑i : Int) < (0 : Int) → ms[i]? = some x → ms[i + (1 : Nat)]? = some y → handV x y = (0 : Int)) ∧ ∀ (I'_1 G' : Mem), Mem.le I' I'_1 → ∀ (n_2 : Int), ((0 : Int) ≤ n_2 ∧ n_2 ≤ (↑n : Int) ∧ ∀ (i : Nat) (x y : Int), (↑i : Int) < n_2 → ms[i]? = some x → ms[i + (1 : Nat)]? = some y → handV x y = (0 : Int)) → Wr IntKind.i64 (n_2 + (1 : Int)) fun (c_1 : Int) => Br (decide (c_1 < (↑n : Int))) ((0 : Int) ≤ n_2 ∧ n_2 < (↑n : Int) ∧ Option.isSome a = true ∧ ∃ (n_3 : Int), atI I'_1 a (Int.toNat n_2 * (1 : Nat) + (0 : Nat)) = some (Value.int IntKind.i64 n_3) ∧ Wr IntKind.i64 (n_2 + (1 : Int)) fun (c_2 : Int) => (0 : Int) ≤ c_2 ∧ c_2 < (↑n : Int) ∧ Option.isSome a = true ∧ ∃ (n_4 : Int), atI I'_1 a (Int.toNat c_2 * (1 : Nat) + (0 : Nat)) = some (Value.int IntKind.i64 n_4) ∧ Ct Try.prog (Value.func (Fn.func (40 : Nat)) #[] #[]) #[Value.int IntKind.i64 n_3, Value.int IntKind.i64 n_4] I'_1 fun (v : Value) (I' : Mem) => ∃ (n_5 : Int), v = Value.int IntKind.i64 n_5 ∧ Br (n_5 != (0 : Int)) (Wr IntKind.i64 (n_2 + (1 : Int)) fun (c : Int) => Value.tuple #[Value.int IntKind.i64 c, Value.int IntKind.i64 (221 : Int)] = Value.tuple #[Value.int IntKind.i64 (Prod.fst (chainV ms)), Value.int IntKind.i64 (Prod.snd (chainV ms))]) (Wr IntKind.i64 (n_2 + (1 : Int)) fun (c_3 : Int) => SV.v (Value.slice a n c) = SV.v (Value.slice a n c) ∧ ((0 : Int) ≤ c_3 ∧ c_3 ≤ (↑n : Int) ∧ ∀ (i : Nat) (x y : Int), (↑i : Int) < c_3 → ms[i]? = some x → ms[i + (1 : Nat)]? = some y → handV x y = (0 : Int)) ∧ Int.toNat ((↑n : Int) - c_3) < Int.toNat ((↑n : Int) - n_2))) (Value.tuple #[Value.int IntKind.i64 (-1 : Int), Value.int IntKind.i64 (0 : Int)] = Value.tuple #[Value.int IntKind.i64 (Prod.fst (chainV ms)), Value.int IntKind.i64 (Prod.snd (chainV ms))]))) (by kernel_rfl) ?_
  have hn := h.numLen
  have hall : ∀ {i : Nat} {x : Int}, ms[i]? = some x → 0 ≤ x ∧ x ≤ 255 := fun hx => hms _ (List.mem_of_getElem? hx)
  refine ⟨⟨rfl, by omega, by omega, fun i x hi => by omega⟩, fun I1 _ hI1 j ⟨h0, h1, h2⟩ => Br.mk (fun hlt => ?_) (fun hge => ?_)⟩
  · have hlt := of_decide_eq_true hlt
    obtain ⟨x, hx, hat⟩ := (h.mono hI1).intAt h0 hlt
    have hxr := hall hx
    refine ⟨h0, hlt, h.isSome (by omega), x, hat, (ct37 x ⟨hxr.1, by omega⟩ I1).mono fun v I2 _ hv => ⟨_, hv, Br.mk (fun hp => ?_) (fun hp => wr_i64 (by omega) (by omega) ⟨rfl, ⟨by omega, by omega, fun i y hi hy => ?_⟩, by omega⟩)⟩⟩
    · rw [← ok1 hxr.1] at hp
      have hf : ms.findIdx? (fun m => !okM [m]) = some j.toNat := by
        rw [List.findIdx?_eq_some_iff_getElem]
        obtain ⟨hl, hg⟩ := List.getElem?_eq_some_iff.1 hx
        exact ⟨hl, hg ▸ hp, fun i hi => by rw [h2 i _ (by omega) (List.getElem?_eq_getElem (by omega))]; simp⟩
      simp only [chainV, hf]
      congr 4; omega
    · by_cases hij : (i : Int) < j
      · exact h2 i y hij hy
      · have : i = j.toNat := by omega
        subst this
        rw [hx] at hy
        cases hy
        rw [ok1 hxr.1]
        simpa using hp
  · have hge := of_decide_eq_false hge
    have hok : ∀ x ∈ ms, okM [x] = true := fun x hx => by
      obtain ⟨i, hi, rfl⟩ := List.mem_iff_getElem.1 hx
      exact h2 i _ (by omega) (List.getElem?_eq_getElem hi)
    have hf : ms.findIdx? (fun m => !okM [m]) = none := by
      rw [List.findIdx?_eq_none_iff]
      intro x hx
      rw [hok x hx]; rfl
    refine ⟨⟨rfl, by omega, by omega, fun i x y hi => by omega⟩, fun I2 _ hI2 j ⟨k0, k1, k2⟩ => wr_i64 (by omega) (by omega) (Br.mk (fun hlt => ?_) (fun hge => ?_))⟩
    · have hlt := of_decide_eq_true hlt
      have hS := h.mono (Mem.le_trans hI1 hI2)
      obtain ⟨x, hx, hat⟩ := hS.intAt (i := j) (by omega) (by omega)
      obtain ⟨y, hy, hat'⟩ := hS.intAt (i := j + 1) (by omega) (by omega)
      have hxr := hall hx
      have hyr := hall hy
      have hy2 : ms[j.toNat + 1]? = some y := by rw [← hy]; congr 1; omega
      refine ⟨k0, by omega, h.isSome (by omega), x, hat, wr_i64 (by omega) (by omega) ⟨by omega, hlt, h.isSome (by omega), y, hat', (ct40 x y ⟨hxr.1, by omega⟩ ⟨hyr.1, by omega⟩ I2).mono fun v I3 hle hv => ⟨_, hv, Br.mk (fun he => ?_) (fun he => wr_i64 (by omega) (by omega) ⟨rfl, ⟨by omega, by omega, fun i x' y' hi hx' hy' => ?_⟩, by omega⟩)⟩⟩⟩
      · rw [← f_hand hxr.1 hyr.1] at he
        have he : handV x y ≠ 0 := by simpa using he
        have hh : handsV ms = some (j.toNat, handV x y) := handsV_some trivial hx hy2 he fun i x' y' hi hx' hy' => k2 i x' y' (by omega) hx' hy'
        have h221 : handV x y = 221 := by
          have o1 := hok x (List.mem_of_getElem? hx)
          have o2 := hok y (List.mem_of_getElem? hy)
          have ho : okM [x, y] = true := by rw [ok2 hxr.1 hyr.1, ← ok1 hxr.1, ← ok1 hyr.1, o1, o2]; rfl
          unfold handV at he ⊢
          rw [if_pos ho] at he ⊢
          split at he
          · rename_i hc; rw [if_pos hc]
          · exact absurd rfl he
        simp only [chainV, hf, hh, h221]
        exact wr_i64 (by omega) (by omega) (by congr 4; omega)
      · by_cases hij : (i : Int) < j
        · exact k2 i x' y' hij hx' hy'
        · have : i = j.toNat := by omega
          subst this
          rw [hx] at hx'
          rw [hy2] at hy'
          cases hx'; cases hy'
          rw [← f_hand hxr.1 hyr.1] at he
          simpa using he
    · have hge := of_decide_eq_false hge
      have hh : handsV ms = none := handsV_none fun i x y hx hy => k2 i x y (by have := (List.getElem?_eq_some_iff.1 hy).1; omega) hx hy
      simp only [chainV, hf, hh]
theorem okM_all {ms : List Int} : okM ms = true ↔ ∀ m ∈ ms, okM [m] = true := by simp [okM]
theorem makeR_le (w m n : Int) : 0 ≤ makeR w m n ∧ makeR w m n ≤ 15 := by
  have hb : ∀ b : Bool, bi b = 0 ∨ bi b = 1 := fun b => by cases b <;> simp [bi]
  simp only [makeR]
  split
  · have e0 := hb (opB w (hasB m 0) (hasB n 0)); have e1 := hb (opB w (hasB m 1) (hasB n 1)); have e2 := hb (opB w (hasB m 2) (hasB n 2)); have e3 := hb (opB w (hasB m 3) (hasB n 3))
    simp only [partM]
    simp only [show ¬((-1 : Int) = 3) by decide, show ¬((-1 : Int) = 2) by decide, show ¬((-1 : Int) = 1) by decide, show ¬((-1 : Int) = 0) by decide, if_false]
    omega
  · omega
theorem ct43 (ms : List Int) (hms : ∀ m ∈ ms, 0 ≤ m ∧ m ≤ 255) (a : Option Addr) (n c : Nat) (I : Mem) (h : SlM I a n 1 (ints .i64 ms)) (hl : n ≤ 100000) :
    Ct Try.prog (fnv 43) #[.slice a n c] I (fun v _ => v = .tuple #[.int .i64 (if okM ms then mostV ms else 0), .int .i64 (if okM ms then 0 else 220)]) := by
  refine viaR (ct_via (A := { loops := [(3, ⟨[(0, .keep), (4, .sh (.int .i64)), (5, .sh (.int .i64))], [], [], fun vals _ _ _ => match vals with
    | [.int .i64 o, .int .i64 j] => 0 ≤ j ∧ j ≤ n ∧ o = mostV (ms.take j.toNat) ∧ 0 ≤ o ∧ o ≤ 15 ∧ ∀ (i : Nat) (x : Int), (i : Int) < j → ms[i]? = some x → okM [x] = true | _ => False, fun vals _ => match vals with | [_, .int .i64 j] => (n - j).toNat | _ => 0⟩)] }) Try.func43 rfl Try.call43 rfl rfl) ((SV.v (Value.slice a n c) = SV.v (Value.slice a n c) ∧ (0 : Int) ≤ (0 : Int) ∧ (0 : Int) ≤ (↑n : Int) ∧ (15 : Int) = (15 : Int) ∧ (0 : Int) ≤ (15 : Int) ∧ (15 : Int) ≤ (15 : Int) ∧ ∀ (i : Nat) (x : Int), (↑i : Int) < (0 : Int) → ms[i]? = some x → okM [x] = true) ∧ ∀ (I' G' : Mem), Mem.le I I' → ∀ (n_1 n_2 : Int), ((0 : Int) ≤ n_2 ∧ n_2 ≤ (↑n : Int) ∧ n_1 = mostV (List.take (Int.toNat n_2) ms) ∧ (0 : Int) ≤ n_1 ∧ n_1 ≤ (15 : Int) ∧ ∀ (i : Nat) (x : Int), (↑i : Int) < n_2 → ms[i]? = some x → okM [x] = true) → Br (decide (n_2 < (↑n : Int))) ((0 : Int) ≤ n_2 ∧ n_2 < (↑n : Int) ∧ Option.isSome a = true ∧ ∃ (n_3 : Int), atI I' a (Int.toNat n_2 * (1 : Nat) + (0 : Nat)) = some (Value.int IntKind.i64 n_3) ∧ Ct Try.prog (Value.func (Fn.func (36 : Nat)) #[] #[]) #[Value.int IntKind.i64 (0 : Int), Value.int IntKind.i64 n_1, Value.int IntKind.i64 n_3] I' fun (v : Value) (I' : Mem) => ∃ (n_4 : Int), ∃ (n_5 : Int), v = Value.tuple #[Value.int IntKind.i64 n_4, Value.int IntKind.i64 n_5] ∧ Br (n_5 != (0 : Int)) (Value.tuple #[Value.int IntKind.i64 (0 : Int), Value.int IntKind.i64 n_5] = Value.tuple #[Value.int IntKind.i64 (if okM ms = true then mostV ms else (0 : Int)), Value.int IntKind.i64 (if okM ms = true then (0 : Int) else (220 : Int))]) (Wr IntKind.i64 (n_2 + (1 : Int)) fun (c_1 : Int) => SV.v (Value.slice a n c) = SV.v (Value.slice a n c) ∧ ((0 : Int) ≤ c_1 ∧ c_1 ≤ (↑n : Int) ∧ n_4 = mostV (List.take (Int.toNat c_1) ms) ∧ (0 : Int) ≤ n_4 ∧ n_4 ≤ (15 : Int) ∧ ∀ (i : Nat) (x : Int), (↑i : Int) < c_1 → ms[i]? = some x → okM [x] = true) ∧ Int.toNat ((↑n : Int) - c_1) < Int.toNat ((↑n : Int) - n_2))) (Value.tuple #[Value.int IntKind.i64 n_1, Value.int IntKind.i64 (0 : Int)] = Value.tuple #[Value.int IntKind.i64 (if okM ms = true then mostV ms else (0 : Int)), Value.int IntKind.i64 (if okM ms = true then (0 : Int) else (220 : Int))])) (by kernel_rfl) ?_
  have hn := h.numLen
  refine ⟨⟨rfl, by omega, by omega, rfl, by omega, by omega, fun i x hi => by omega⟩, fun I1 _ hI1 o j ⟨h0, h1, h2, h3, h4, h5⟩ => Br.mk (fun hlt => ?_) (fun hge => ?_)⟩
  · have hlt := of_decide_eq_true hlt
    obtain ⟨x, hx, hat⟩ := (h.mono hI1).intAt h0 hlt
    have hxr := hms _ (List.mem_of_getElem? hx)
    have ho : okR o = true := by rw [← ok1 h3]; exact okM_lt (by omega)
    refine ⟨h0, hlt, h.isSome (by omega), x, hat, (ct36 0 o x (by omega) ⟨h3, by omega⟩ ⟨hxr.1, by omega⟩ I1).mono fun v I2 _ hv => ⟨_, _, hv, Br.mk (fun he => ?_) (fun he => ?_)⟩⟩
    · have hxo : okR x = false := by
        cases hxo : okR x with
        | false => rfl
        | true => simp [makeE, ho, hxo] at he
      have hm : okM ms = false := by
        cases hm : okM ms with
        | false => rfl
        | true =>
          have := okM_all.1 hm x (List.mem_of_getElem? hx)
          rw [ok1 hxr.1, hxo] at this
          cases this
      simp [hm, makeE, ho, hxo]
    · have hxo : okR x = true := by
        cases hxo : okR x with
        | true => rfl
        | false => simp [makeE, ho, hxo] at he
      have hr := makeR_le 0 o x
      refine wr_i64 (by omega) (by omega) ⟨rfl, ⟨by omega, by omega, ?_, hr.1, hr.2, fun i y hi hy => ?_⟩, by omega⟩
      · rw [show (j + 1).toNat = j.toNat + 1 by omega, take_succ' hx]
        obtain ⟨p, hp⟩ := okR_lt h3 ho
        obtain ⟨q, rfl⟩ := okR_lt hxr.1 hxo
        rw [hp, ← (facts16 p q).1, ← hp, h2]
        simp [mostV]
      · by_cases hij : (i : Int) < j
        · exact h5 i y hij hy
        · have : i = j.toNat := by omega
          subst this
          rw [hx] at hy
          cases hy
          rw [ok1 hxr.1]; exact hxo
  · have hge := of_decide_eq_false hge
    have hm : okM ms = true := okM_all.2 fun x hx => by
      obtain ⟨i, hi, rfl⟩ := List.mem_iff_getElem.1 hx
      exact h5 i _ (by omega) (List.getElem?_eq_getElem hi)
    rw [hm, h2, List.take_of_length_le (by omega)]
    rfl
theorem most_le : ∀ (ms : List Int) (o : Int), 0 ≤ o ∧ o ≤ 15 → (∀ m ∈ ms, 0 ≤ m ∧ okM [m] = true) → 0 ≤ ms.foldl (bitsV .and .u8) o ∧ ms.foldl (bitsV .and .u8) o ≤ 15
  | [], o, h, _ => h
  | x :: r, o, h, hm => by
    have hx := hm x (by simp)
    have ho : okR o = true := by rw [← ok1 h.1]; exact okM_lt (by omega)
    obtain ⟨p, hp⟩ := okR_lt h.1 ho
    obtain ⟨q, hq⟩ := okR_lt hx.1 (by rw [← ok1 hx.1]; exact hx.2)
    rw [List.foldl_cons, hp, hq, (facts16 p q).1]
    exact most_le r _ (makeR_le ..) fun m hmr => hm m (by simp [hmr])
theorem ct25 (a : Option Addr) (n c : Nat) (zs : List Int) (I : Mem) (h : SlM I a n 1 (ints .u8 zs)) (hz : ∀ z ∈ zs, 0 ≤ z ∧ z ≤ 255) : Ct Try.prog (fnv 25) #[.slice a n c] I (fun v _ => v = .bool true) := by
  refine viaR (ct_via (A := { loops := [(6, ⟨[(0, .keep), (3, .keep), (4, .row 0), (20, .keep), (21, .keep), (22, .sh (.int .i64))], [(0, .row)], [(4, 1, 3)], fun vals xss _ _ => match vals, xss with | [.int .i64 j], [xs] => 0 ≤ j ∧ j ≤ n ∧ xs = ints .i64 (zs.take j.toNat) | _, _ => False, fun vals _ => match vals with | [.int .i64 j] => (n - j).toNat | _ => 0⟩)] }) Try.func25 rfl Try.call25 rfl rfl) (Br (decide ((300 : Int) < (↑n : Int))) (Value.bool true = Value.bool true) (Ct Try.prog (Value.func (Fn.func (41 : Nat)) #[] #[]) #[Value.slice a n c] I fun (v : Value) (I' : Mem) => ∃ (a_1 : Option Addr), ∃ (n_1 : Nat), ∃ (c_1 : Nat), v = Value.slice a_1 n_1 c_1 ∧ (SV.v (Value.slice a n c) = SV.v (Value.slice a n c) ∧ SV.v (Value.slice a_1 n_1 c_1) = SV.v (Value.slice a_1 n_1 c_1) ∧ (0 : Nat) = (0 : Nat) ∧ SV.v (Value.slice a n c) = SV.v (Value.slice a n c) ∧ SV.v (Value.int IntKind.i64 (↑n : Int)) = SV.v (Value.int IntKind.i64 (↑n : Int)) ∧ (0 : Int) ≤ (0 : Int) ∧ (0 : Int) ≤ (↑n : Int) ∧ ([] : List Value) = []) ∧ ∀ (I'_1 G' : Mem), Mem.le I' I'_1 → ∀ (xs : List Value) (n_2 : Int), (0 : Int) ≤ n_2 ∧ n_2 ≤ (↑n : Int) ∧ xs = List.map (Value.int IntKind.i64) (List.take (Int.toNat n_2) zs) → Br (decide (n_2 < (↑n : Int))) ((0 : Int) ≤ n_2 ∧ n_2 < (↑n : Int) ∧ Option.isSome a = true ∧ ∃ (n_3 : Int), atI I'_1 a (Int.toNat n_2 * (1 : Nat) + (0 : Nat)) = some (Value.int IntKind.u8 n_3) ∧ Wr IntKind.i64 n_3 fun (c_2 : Int) => List.length xs = List.length xs * (1 : Nat) ∧ List.length xs + (1 : Nat) ≤ (9223372036854775807 : Nat) ∧ (List.length xs + (1 : Nat)) * (8 : Nat) ≤ (140737488355328 : Nat) ∧ Wr IntKind.i64 (n_2 + (1 : Int)) fun (c_3 : Int) => SV.v (Value.slice a n c) = SV.v (Value.slice a n c) ∧ SV.v (Value.slice a_1 n_1 c_1) = SV.v (Value.slice a_1 n_1 c_1) ∧ List.length xs + (1 : Nat) = List.length (xs ++ [Value.int IntKind.i64 c_2]) ∧ SV.v (Value.slice a n c) = SV.v (Value.slice a n c) ∧ SV.v (Value.int IntKind.i64 (↑n : Int)) = SV.v (Value.int IntKind.i64 (↑n : Int)) ∧ ((0 : Int) ≤ c_3 ∧ c_3 ≤ (↑n : Int) ∧ xs ++ [Value.int IntKind.i64 c_2] = List.map (Value.int IntKind.i64) (List.take (Int.toNat c_3) zs)) ∧ Int.toNat ((↑n : Int) - c_3) < Int.toNat ((↑n : Int) - n_2)) (Ct Try.prog (Value.func (Fn.func (14 : Nat)) #[] #[]) #[Value.slice a_1 n_1 c_1] I'_1 fun (v : Value) (I' : Mem) => ∃ (n_3 : Int), ∃ (n_4 : Int), v = Value.tuple #[Value.int IntKind.i64 n_3, Value.int IntKind.i64 n_4] ∧ ∀ (a_4 : Option Addr) (cp : Nat) (I'_2 : Mem), Mem.le I' I'_2 → RowM I'_2 a_4 cp (1 : Nat) xs → Ct Try.prog (Value.func (Fn.func (42 : Nat)) #[] #[]) #[Value.slice a_4 (List.length xs) cp] I'_2 fun (v : Value) (I' : Mem) => ∃ (n_5 : Int), ∃ (n_6 : Int), v = Value.tuple #[Value.int IntKind.i64 n_5, Value.int IntKind.i64 n_6] ∧ Ct Try.prog (Value.func (Fn.func (17 : Nat)) #[] #[]) #[Value.slice a_1 n_1 c_1] I' fun (v : Value) (I' : Mem) => ∃ (n_7 : Int), ∃ (n_8 : Int), v = Value.tuple #[Value.int IntKind.u8 n_7, Value.int IntKind.i64 n_8] ∧ Ct Try.prog (Value.func (Fn.func (43 : Nat)) #[] #[]) #[Value.slice a_4 (List.length xs) cp] I' fun (v : Value) (I' : Mem) => ∃ (n_9 : Int), ∃ (n_10 : Int), v = Value.tuple #[Value.int IntKind.i64 n_9, Value.int IntKind.i64 n_10] ∧ Br (n_3 == n_5) (Br (n_4 == n_6) (Wr IntKind.i64 n_7 fun (c_2 : Int) => Br (c_2 == n_9) (Br (n_8 == n_10) (Ct Try.prog (Value.func (Fn.func (44 : Nat)) #[] #[]) #[Value.slice a_1 n_1 c_1, Value.slice a n c] I' fun (v : Value) (I' : Mem) => ∃ (b : Bool), v = Value.bool b ∧ Value.bool b = Value.bool true) (Value.bool false = Value.bool true)) (Value.bool false = Value.bool true)) (Value.bool false = Value.bool true)) (Value.bool false = Value.bool true)))) (by kernel_rfl) ?_
  simp only [eq_self, true_and]
  have hn := h.numLen
  refine Br.mk (fun _ => trivial) (fun hle => ?_)
  have hle := of_decide_eq_false hle
  refine (ct41 a n c zs I h (by omega)).mono fun v I1 hI1 ⟨a', c', hv, hs'⟩ => ⟨_, _, _, hv, ⟨by omega, by omega, trivial⟩, fun I2 G2 hI2 xs j ⟨h0, h1, h2⟩ => Br.mk (fun hlt => ?_) (fun hge => ?_)⟩
  · have hlt := of_decide_eq_true hlt
    obtain ⟨x, hx, hat⟩ := (h.mono (Mem.le_trans hI1 hI2)).intAt h0 hlt
    have hxr := hz _ (List.mem_of_getElem? hx)
    have hlen : xs.length ≤ 300 := by subst h2; simp; omega
    refine ⟨h0, hlt, h.isSome (by omega), x, hat, wr_i64 (by omega) (by omega) ⟨by omega, by omega, by omega, wr_i64 (by omega) (by omega) ⟨by simp, ⟨by omega, by omega, ?_⟩, by omega⟩⟩⟩
    rw [show (j + 1).toNat = j.toNat + 1 by omega, take_succ' hx, h2]
    simp
  · have hge := of_decide_eq_false hge
    have hxs : xs = ints .i64 zs := by rw [h2, List.take_of_length_le (by omega)]; rfl
    subst hxs
    refine (ct14 zs a' n c' I2 (hs'.mono hI2)).mono fun v I3 hI3 hv => ⟨_, _, hv, fun ar cp I4 hI4 hrow => ?_⟩
    have hsl : SlM I4 ar n 1 (ints .i64 zs) := hrow.sl (by omega) (by simp [ints]; omega)
    have hlen : (ints .i64 zs).length = n := by simp [ints]; omega
    rw [hlen]
    refine (ct42 zs hz ar n cp I4 hsl (by omega)).mono fun v I5 hI5 hv => ⟨_, _, hv, ?_⟩
    refine (ct17 zs a' n c' I5 (hs'.mono (Mem.le_trans hI2 (Mem.le_trans hI3 (Mem.le_trans hI4 hI5))))).mono fun v I6 hI6 hv => ⟨_, _, hv, ?_⟩
    refine (ct43 zs hz ar n cp I6 (hsl.mono (Mem.le_trans hI5 hI6)) (by omega)).mono fun v I7 hI7 hv => ⟨_, _, hv, ?_⟩
    have hb : 0 ≤ (if okM zs then mostV zs else 0) ∧ (if okM zs then mostV zs else 0) ≤ 15 := by
      split
      · rename_i ho
        exact most_le zs 15 (by omega) fun m hm => ⟨(hz m hm).1, okM_all.1 ho m hm⟩
      · omega
    refine Br.t (by simp) (Br.t (by simp) (wr_i64 (by omega) (by omega) (Br.t (by simp) (Br.t (by simp) ?_))))
    exact (ct44 a' a n c' c zs I7 (hs'.mono (Mem.le_trans hI2 (Mem.le_trans hI3 (Mem.le_trans hI4 (Mem.le_trans hI5 (Mem.le_trans hI6 hI7)))))) (h.mono (Mem.le_trans hI1 (Mem.le_trans hI2 (Mem.le_trans hI3 (Mem.le_trans hI4 (Mem.le_trans hI5 (Mem.le_trans hI6 hI7)))))))).mono fun v _ _ hv => ⟨_, hv, rfl⟩
