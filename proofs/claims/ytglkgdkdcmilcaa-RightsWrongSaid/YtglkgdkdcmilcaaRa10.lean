/- Part of a proof by the rules of the symbolic walk (see the law's own text): contracts of functions of the program. -/
import Derived.Test.YtglkgdkdcmilcaaRa9
open Go Go.Proofs Go.SE Go.RowKit
theorem facts16 : ∀ a b : Fin 16, bitsV .and .u8 a.val b.val = makeR 0 a.val b.val ∧ bitsV .or .u8 a.val b.val = makeR 1 a.val b.val ∧ bitsV .andNot .u8 a.val b.val = makeR 2 a.val b.val ∧
    bitsV .andNot .u8 15 a.val = makeR 3 a.val b.val ∧ (bitsV .andNot .u8 a.val b.val == 0) = belowR a.val b.val ∧ countV a.val = cntR a.val 4 ∧ handV a.val b.val = handR a.val b.val := by decide +kernel
theorem ok1 {m : Int} (hm : 0 ≤ m) : okM [m] = okR m := by
  simp only [okM, List.any_cons, List.any_nil, Bool.or_false, okR]
  by_cases h : m < 16
  · have h0 : m / 16 = 0 := by omega
    rw [h0, decide_eq_false (by omega)]; rfl
  · have h0 : m / 16 ≠ 0 := by omega
    rw [decide_eq_true (by omega)]; simp [h0]
theorem ok2 {m n : Int} (hm : 0 ≤ m) (hn : 0 ≤ n) : okM [m, n] = (okR m && okR n) := by
  rw [← ok1 hm, ← ok1 hn]
  simp [okM]
theorem okR_lt {m : Int} (hm : 0 ≤ m) (h : okR m = true) : ∃ a : Fin 16, m = a.val := by
  have h : m / 16 = 0 := by simpa [okR] using h
  exact ⟨⟨m.toNat, by omega⟩, by simp only; omega⟩
def T2 (x e : Int) : Value := .tuple #[.int .u8 x, .int .i64 e]
theorem f_op (op : BinOp) (w : Int) (hw : w ≠ 3) (hf : ∀ a b : Fin 16, bitsV op .u8 a.val b.val = makeR w a.val b.val) {m n : Int} (hm : 0 ≤ m) (hn : 0 ≤ n) : mkT op m n = T2 (makeR w m n) (makeE w m n) := by
  have h3 : (w == 3) = false := by simpa using hw
  unfold mkT T2
  rw [ok2 hm hn]
  cases h1 : okR m with
  | false => simp [makeR, makeE, h1]
  | true =>
    cases h2 : okR n with
    | false => simp [makeR, makeE, h1, h2, h3]
    | true =>
      obtain ⟨a, rfl⟩ := okR_lt hm h1
      obtain ⟨b, rfl⟩ := okR_lt hn h2
      simp only [Bool.true_and, if_true, hf a b]
      simp [makeE, h1, h2]
theorem f_not {m n : Int} (hm : 0 ≤ m) : Value.tuple #[.int .u8 (if okM [m] then bitsV .andNot .u8 15 m else 0), .int .i64 (if okM [m] then 0 else 220)] = T2 (makeR 3 m n) (makeE 3 m n) := by
  unfold T2
  rw [ok1 hm]
  cases h1 : okR m with
  | false => simp [makeR, makeE, h1]
  | true =>
    obtain ⟨a, rfl⟩ := okR_lt hm h1
    have := (facts16 a a).2.2.2.1
    have e : makeR 3 (a.val : Int) n = makeR 3 a.val a.val := by simp [makeR, h1, opB]
    simp only [if_true, this, e]
    simp [makeE, h1]
theorem f_below {m n : Int} (hm : 0 ≤ m) (hn : 0 ≤ n) : (okM [m, n] && bitsV .andNot .u8 m n == 0) = belowR m n := by
  rw [ok2 hm hn]
  cases h1 : okR m with
  | false => simp [belowR, h1]
  | true =>
    cases h2 : okR n with
    | false => simp [belowR, h1, h2]
    | true =>
      obtain ⟨a, rfl⟩ := okR_lt hm h1
      obtain ⟨b, rfl⟩ := okR_lt hn h2
      simpa using (facts16 a b).2.2.2.2.1
theorem f_count {m : Int} (hm : 0 ≤ m) : countV m = cntR m 4 := by
  cases h1 : okR m with
  | false => simp [countV, ok1 hm, cntR, h1, bi]
  | true =>
    obtain ⟨a, rfl⟩ := okR_lt hm h1
    exact (facts16 a a).2.2.2.2.2.1
theorem f_hand {m n : Int} (hm : 0 ≤ m) (hn : 0 ≤ n) : handV m n = handR m n := by
  cases h1 : okR m with
  | false => simp [handV, handR, ok2 hm hn, h1]
  | true =>
    cases h2 : okR n with
    | false => simp [handV, handR, ok2 hm hn, h1, h2]
    | true =>
      obtain ⟨a, rfl⟩ := okR_lt hm h1
      obtain ⟨b, rfl⟩ := okR_lt hn h2
      exact (facts16 a b).2.2.2.2.2.2
theorem f_text {m : Int} (hm : 0 ≤ m) : refTextV m = .tuple #[.string (textV m), .int .i64 (if okM [m] then 0 else 220)] := by
  cases h1 : okR m with
  | false =>
    have h1' : (m / 16 == 0) = false := h1
    rw [refTextV, if_neg (by rw [h1']; decide), textV, ok1 hm, h1]; rfl
  | true =>
    have h1' := h1
    obtain ⟨a, rfl⟩ := okR_lt hm h1
    rw [text_same a, ok1 hm, h1']; rfl
set_option maxHeartbeats 4000000 in
theorem ct24 (m n : Int) (hm : 0 ≤ m ∧ m ≤ 255) (hn : 0 ≤ n ∧ n ≤ 255) (I : Mem) : Ct Try.prog (fnv 24) #[.int .u8 m, .int .u8 n] I (fun v _ => v = .bool true) := by
  refine viaR (ct_via (A := { calls := [(80, .sym)], loops := [(7, ⟨[(0, .keep), (1, .keep), (5, .keep), (6, .keep), (8, .keep), (10, .keep), (12, .keep), (14, .keep), (54, .keep), (55, .keep), (56, .sh (.int .i64))], [(0, .vec)], [], fun vals xss _ _ => match vals, xss with | [.int .i64 i], [xs] => 0 ≤ i ∧ i ≤ 4 ∧ xs = [.int .u8 (makeR 0 m n), .int .u8 (makeR 1 m n), .int .u8 (makeR 2 m n), .int .u8 (makeR 3 m n)] | _, _ => False, fun vals _ => match vals with | [.int .i64 i] => (4 - i).toNat | _ => 0⟩)] }) Try.func24 rfl Try.call24 rfl rfl) (Wr IntKind.i64 m fun (c : Int) => Wr IntKind.i64 n fun (c_1 : Int) => Ct Try.prog (Value.func (Fn.func (20 : Nat)) #[] #[]) #[Value.int IntKind.u8 m, Value.int IntKind.u8 n] I fun (v : Value) (I' : Mem) => ∃ (n_1 : Int), ∃ (n_2 : Int), v = Value.tuple #[Value.int IntKind.u8 n_1, Value.int IntKind.i64 n_2] ∧ Ct Try.prog (Value.func (Fn.func (21 : Nat)) #[] #[]) #[Value.int IntKind.u8 m, Value.int IntKind.u8 n] I' fun (v : Value) (I' : Mem) => ∃ (n_3 : Int), ∃ (n_4 : Int), v = Value.tuple #[Value.int IntKind.u8 n_3, Value.int IntKind.i64 n_4] ∧ Ct Try.prog (Value.func (Fn.func (22 : Nat)) #[] #[]) #[Value.int IntKind.u8 m, Value.int IntKind.u8 n] I' fun (v : Value) (I' : Mem) => ∃ (n_5 : Int), ∃ (n_6 : Int), v = Value.tuple #[Value.int IntKind.u8 n_5, Value.int IntKind.i64 n_6] ∧ Ct Try.prog (Value.func (Fn.func (19 : Nat)) #[] #[]) #[Value.int IntKind.u8 m] I' fun (v : Value) (I' : Mem) => ∃ (n_7 : Int), ∃ (n_8 : Int), v = Value.tuple #[Value.int IntKind.u8 n_7, Value.int IntKind.i64 n_8] ∧ ((none : Option Nat) = none ∧ SV.v (Value.int IntKind.u8 m) = SV.v (Value.int IntKind.u8 m) ∧ SV.v (Value.int IntKind.u8 n) = SV.v (Value.int IntKind.u8 n) ∧ SV.v (Value.int IntKind.i64 c) = SV.v (Value.int IntKind.i64 c) ∧ SV.v (Value.int IntKind.i64 c_1) = SV.v (Value.int IntKind.i64 c_1) ∧ SV.v (Value.int IntKind.i64 n_2) = SV.v (Value.int IntKind.i64 n_2) ∧ SV.v (Value.int IntKind.i64 n_4) = SV.v (Value.int IntKind.i64 n_4) ∧ SV.v (Value.int IntKind.i64 n_6) = SV.v (Value.int IntKind.i64 n_6) ∧ SV.v (Value.int IntKind.i64 n_8) = SV.v (Value.int IntKind.i64 n_8) ∧ SV.xsl (0 : Nat) (0 : Nat) (4 : Nat) (4 : Nat) = SV.xsl (0 : Nat) (0 : Nat) (4 : Nat) (4 : Nat) ∧ SV.v (Value.int IntKind.i64 (4 : Int)) = SV.v (Value.int IntKind.i64 (4 : Int)) ∧ (0 : Int) ≤ (0 : Int) ∧ (0 : Int) ≤ (4 : Int) ∧ [Value.int IntKind.u8 n_1, Value.int IntKind.u8 n_3, Value.int IntKind.u8 n_5, Value.int IntKind.u8 n_7] = [Value.int IntKind.u8 (makeR (0 : Int) m n), Value.int IntKind.u8 (makeR (1 : Int) m n), Value.int IntKind.u8 (makeR (2 : Int) m n), Value.int IntKind.u8 (makeR (3 : Int) m n)]) ∧ ∀ (I'_1 G' : Mem), Mem.le I' I'_1 → ∀ (xs : List Value) (n_9 : Int), (0 : Int) ≤ n_9 ∧ n_9 ≤ (4 : Int) ∧ xs = [Value.int IntKind.u8 (makeR (0 : Int) m n), Value.int IntKind.u8 (makeR (1 : Int) m n), Value.int IntKind.u8 (makeR (2 : Int) m n), Value.int IntKind.u8 (makeR (3 : Int) m n)] → Br (decide (n_9 < (4 : Int))) ((0 : Int) ≤ n_9 ∧ n_9 < (4 : Int) ∧ ∃ (n_10 : Int), xs[(0 : Nat) + Int.toNat n_9 * (1 : Nat) + (0 : Nat)]? = some (Value.int IntKind.u8 n_10) ∧ Ct Try.prog (Value.func (Fn.func (36 : Nat)) #[] #[]) #[Value.int IntKind.i64 n_9, Value.int IntKind.i64 c, Value.int IntKind.i64 c_1] I'_1 fun (v : Value) (I' : Mem) => ∃ (n_11 : Int), ∃ (n_12 : Int), v = Value.tuple #[Value.int IntKind.i64 n_11, Value.int IntKind.i64 n_12] ∧ Wr IntKind.i64 n_10 fun (c_2 : Int) => Br (c_2 != n_11) (Value.bool false = Value.bool true) ((0 : Int) ≤ n_9 ∧ n_9 < (4 : Int) ∧ ∃ (n_13 : Int), [Value.int IntKind.i64 n_2, Value.int IntKind.i64 n_4, Value.int IntKind.i64 n_6, Value.int IntKind.i64 n_8][(0 : Nat) + Int.toNat n_9 * (1 : Nat) + (0 : Nat)]? = some (Value.int IntKind.i64 n_13) ∧ Br (n_13 != n_12) (Value.bool false = Value.bool true) (Wr IntKind.i64 (n_9 + (1 : Int)) fun (c_3 : Int) => (none : Option Nat) = none ∧ SV.v (Value.int IntKind.u8 m) = SV.v (Value.int IntKind.u8 m) ∧ SV.v (Value.int IntKind.u8 n) = SV.v (Value.int IntKind.u8 n) ∧ SV.v (Value.int IntKind.i64 c) = SV.v (Value.int IntKind.i64 c) ∧ SV.v (Value.int IntKind.i64 c_1) = SV.v (Value.int IntKind.i64 c_1) ∧ SV.v (Value.int IntKind.i64 n_2) = SV.v (Value.int IntKind.i64 n_2) ∧ SV.v (Value.int IntKind.i64 n_4) = SV.v (Value.int IntKind.i64 n_4) ∧ SV.v (Value.int IntKind.i64 n_6) = SV.v (Value.int IntKind.i64 n_6) ∧ SV.v (Value.int IntKind.i64 n_8) = SV.v (Value.int IntKind.i64 n_8) ∧ SV.xsl (0 : Nat) (0 : Nat) (4 : Nat) (4 : Nat) = SV.xsl (0 : Nat) (0 : Nat) (4 : Nat) (4 : Nat) ∧ SV.v (Value.int IntKind.i64 (4 : Int)) = SV.v (Value.int IntKind.i64 (4 : Int)) ∧ ((0 : Int) ≤ c_3 ∧ c_3 ≤ (4 : Int) ∧ xs = [Value.int IntKind.u8 (makeR (0 : Int) m n), Value.int IntKind.u8 (makeR (1 : Int) m n), Value.int IntKind.u8 (makeR (2 : Int) m n), Value.int IntKind.u8 (makeR (3 : Int) m n)]) ∧ Int.toNat ((4 : Int) - c_3) < Int.toNat ((4 : Int) - n_9)))) (Ct Try.prog (Value.func (Fn.func (26 : Nat)) #[] #[]) #[Value.int IntKind.u8 m] I'_1 fun (v : Value) (I' : Mem) => ∃ (q : ByteArray), ∃ (n_10 : Int), v = Value.tuple #[Value.string q, Value.int IntKind.i64 n_10] ∧ Ct Try.prog (Value.func (Fn.func (28 : Nat)) #[] #[]) #[Value.int IntKind.i64 c] I' fun (v : Value) (I' : Mem) => ∃ (q_1 : ByteArray), ∃ (n_11 : Int), v = Value.tuple #[Value.string q_1, Value.int IntKind.i64 n_11] ∧ Ct Try.prog (Value.func (Fn.func (27 : Nat)) #[] #[]) #[Value.int IntKind.u8 m] I' fun (v : Value) (I' : Mem) => ∃ (b : Bool), v = Value.bool b ∧ Ct Try.prog (Value.func (Fn.func (37 : Nat)) #[] #[]) #[Value.int IntKind.i64 c] I' fun (v : Value) (I' : Mem) => ∃ (b_1 : Bool), v = Value.bool b_1 ∧ Br (b == b_1) (Ct Try.prog (Value.func (Fn.func (16 : Nat)) #[] #[]) #[Value.int IntKind.u8 m, Value.int IntKind.u8 n] I' fun (v : Value) (I' : Mem) => ∃ (b : Bool), v = Value.bool b ∧ Ct Try.prog (Value.func (Fn.func (38 : Nat)) #[] #[]) #[Value.int IntKind.i64 c, Value.int IntKind.i64 c_1] I' fun (v : Value) (I' : Mem) => ∃ (b_2 : Bool), v = Value.bool b_2 ∧ Br (b == b_2) (Ct Try.prog (Value.func (Fn.func (23 : Nat)) #[] #[]) #[Value.int IntKind.u8 m] I' fun (v : Value) (I' : Mem) => ∃ (n_12 : Int), v = Value.int IntKind.i64 n_12 ∧ Ct Try.prog (Value.func (Fn.func (39 : Nat)) #[] #[]) #[Value.int IntKind.i64 c] I' fun (v : Value) (I' : Mem) => ∃ (n_13 : Int), v = Value.int IntKind.i64 n_13 ∧ Br (n_12 == n_13) (Br (ByteArray.toList q == ByteArray.toList q_1) (Br (n_10 == n_11) (Ct Try.prog (Value.func (Fn.func (15 : Nat)) #[] #[]) #[Value.int IntKind.u8 m, Value.int IntKind.u8 n] I' fun (v : Value) (I' : Mem) => ∃ (n : Int), v = Value.int IntKind.i64 n ∧ Ct Try.prog (Value.func (Fn.func (40 : Nat)) #[] #[]) #[Value.int IntKind.i64 c, Value.int IntKind.i64 c_1] I' fun (v : Value) (I' : Mem) => ∃ (n_14 : Int), v = Value.int IntKind.i64 n_14 ∧ Value.bool (n == n_14) = Value.bool true) (Value.bool false = Value.bool true)) (Value.bool false = Value.bool true)) (Value.bool false = Value.bool true)) (Value.bool false = Value.bool true)) (Value.bool false = Value.bool true))) (by kernel_rfl) ?_
  simp only [eq_self, true_and, and_true, str_eq]
  have hm6 : 0 ≤ m ∧ m ≤ 1000000 := ⟨hm.1, by omega⟩
  have hn6 : 0 ≤ n ∧ n ≤ 1000000 := ⟨hn.1, by omega⟩
  refine wr_i64 (by omega) (by omega) (wr_i64 (by omega) (by omega) ?_)
  refine (ct20 m n I).mono fun v I1 _ hv => ⟨_, _, hv.trans (f_op .and 0 (by decide) (fun a b => (facts16 a b).1) hm.1 hn.1), ?_⟩
  refine (ct21 m n I1).mono fun v I2 _ hv => ⟨_, _, hv.trans (f_op .or 1 (by decide) (fun a b => (facts16 a b).2.1) hm.1 hn.1), ?_⟩
  refine (ct22 m n I2).mono fun v I3 _ hv => ⟨_, _, hv.trans (f_op .andNot 2 (by decide) (fun a b => (facts16 a b).2.2.1) hm.1 hn.1), ?_⟩
  refine (ct19 m I3).mono fun v I4 _ hv => ⟨_, _, hv.trans (f_not (n := n) hm.1), ⟨by omega, by omega, rfl⟩, fun I5 G5 _ xs i ⟨h0, h1, h2⟩ => Br.mk (fun hlt => ?_) (fun hge => ?_)⟩
  · have hlt := of_decide_eq_true hlt
    have hb : ∀ b : Bool, bi b = 0 ∨ bi b = 1 := fun b => by cases b <;> simp [bi]
    have hr : ∀ w, 0 ≤ makeR w m n ∧ makeR w m n ≤ 15 := fun w => by
      simp only [makeR]
      split
      · have e0 := hb (opB w (hasB m 0) (hasB n 0)); have e1 := hb (opB w (hasB m 1) (hasB n 1)); have e2 := hb (opB w (hasB m 2) (hasB n 2)); have e3 := hb (opB w (hasB m 3) (hasB n 3))
        simp only [partM]
        simp only [show ¬((-1 : Int) = 3) by decide, show ¬((-1 : Int) = 2) by decide, show ¬((-1 : Int) = 1) by decide, show ¬((-1 : Int) = 0) by decide, if_false]
        omega
      · omega
    have hx : xs[0 + i.toNat * 1 + 0]? = some (.int .u8 (makeR i m n)) := by
      subst h2
      rcases (by omega : i = 0 ∨ i = 1 ∨ i = 2 ∨ i = 3) with rfl | rfl | rfl | rfl <;> rfl
    have he : [Value.int IntKind.i64 (makeE 0 m n), .int .i64 (makeE 1 m n), .int .i64 (makeE 2 m n), .int .i64 (makeE 3 m n)][0 + i.toNat * 1 + 0]? = some (.int .i64 (makeE i m n)) := by
      rcases (by omega : i = 0 ∨ i = 1 ∨ i = 2 ∨ i = 3) with rfl | rfl | rfl | rfl <;> rfl
    have hri := hr i
    exact ⟨h0, hlt, _, hx, (ct36 i m n ⟨h0, by omega⟩ hm6 hn6 I5).mono fun v I6 _ hv => ⟨_, _, hv, wr_i64 (by omega) (by omega) (Br.f (by simp) ⟨h0, hlt, _, he, Br.f (by simp) (wr_i64 (by omega) (by omega) ⟨⟨by omega, by omega, h2⟩, by omega⟩)⟩)⟩⟩
  · refine (ct26 m I5).mono fun v I6 _ hv => ⟨_, _, hv, (ct28 m hm6 I6).mono fun v I7 _ hv => ⟨_, _, hv.trans (f_text hm.1), (ct27 m I7).mono fun v I8 _ hv => ⟨_, hv, (ct37 m hm6 I8).mono fun v I9 _ hv => ⟨_, hv, Br.t (by rw [ok1 hm.1]; simp) ?_⟩⟩⟩⟩
    refine (ct16 m n I9).mono fun v I10 _ hv => ⟨_, hv, (ct38 m n hm6 hn6 I10).mono fun v I11 _ hv => ⟨_, hv, Br.t (by rw [f_below hm.1 hn.1]; simp) ?_⟩⟩
    refine (ct23 m I11).mono fun v I12 _ hv => ⟨_, hv, (ct39 m hm6 I12).mono fun v I13 _ hv => ⟨_, hv, Br.t (by rw [f_count hm.1]; simp) (Br.t (by simp) (Br.t (by simp) ?_))⟩⟩
    exact (ct15 m n I13).mono fun v I14 _ hv => ⟨_, hv, (ct40 m n hm6 hn6 I14).mono fun v I15 _ hv => ⟨_, hv, by rw [f_hand hm.1 hn.1]; simp⟩⟩
theorem ct7 (I : Mem) (m : Int) (hm : 0 ≤ m ∧ m ≤ 255) (n : Int) (hn : 0 ≤ n ∧ n ≤ 255) : Ct Try.prog (fnv 7) #[.int .u8 m, .int .u8 n] I (fun v _ => v = .bool true) := by
  refine viaR (ct_via (A := {}) Try.func7 rfl Try.call7 rfl rfl) (Ct Try.prog (Value.func (Fn.func (24 : Nat)) #[] #[]) #[Value.int IntKind.u8 m, Value.int IntKind.u8 n] I fun (v : Value) (I' : Mem) => ∃ (b : Bool), v = Value.bool b ∧ Br b (Ct Try.prog (Value.func (Fn.func (13 : Nat)) #[] #[]) #[] I' fun (v : Value) (I' : Mem) => ∃ (b : Bool), v = Value.bool b ∧ Value.bool b = Value.bool true) (Value.bool false = Value.bool true)) (by kernel_rfl) ?_
  exact (ct24 m n hm hn I).mono fun v I1 _ hv => ⟨_, hv, Br.t rfl ((ct13 _).mono fun v _ _ hv => ⟨_, hv, rfl⟩)⟩
