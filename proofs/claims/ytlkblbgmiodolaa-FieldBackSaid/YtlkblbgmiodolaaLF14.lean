/- Part of a proof by the rules of the symbolic walk (see the law's own text): contracts of functions of the program. -/
import Derived.Test.YtlkblbgmiodolaaGB
open Go Go.Proofs Go.SE Go.RowKit
theorem ct5 (I : Mem) (a1 : Option Addr) (n1 c1 : Nat) (g1 : List Int) (sl1 : SlM I a1 n1 1 (ints .u8 g1)) (hc1 : n1 ≤ c1) (hm1 : c1 ≤ maxLen) (hz1 : ∀ z ∈ g1, 0 ≤ z ∧ z ≤ 255)
    (a2 : Option Addr) (n2 c2 : Nat) (g2 : List Int) (sl2 : SlM I a2 n2 1 (ints .u8 g2)) (hc2 : n2 ≤ c2) (hm2 : c2 ≤ maxLen) (hz2 : ∀ z ∈ g2, 0 ≤ z ∧ z ≤ 255)
    (a3 : Option Addr) (n3 c3 : Nat) (ts : List (List Int)) (tx : TxM I a3 n3 ts) (hc3 : n3 ≤ c3) (hm3 : c3 ≤ maxLen)
    (a4 : Option Addr) (n4 c4 : Nat) (z4 : List Int) (sl4 : SlM I a4 n4 1 (ints .u8 z4)) (hc4 : n4 ≤ c4) (hm4 : c4 ≤ maxLen) (hz4 : ∀ z ∈ z4, 0 ≤ z ∧ z ≤ 255) :
    Ct Try.prog (fnv 5) #[.slice a1 n1 c1, .slice a2 n2 c2, .slice a3 n3 c3, .slice a4 n4 c4] I (fun v _ => v = .bool true) := by
  refine viaR (ct_via (A := {}) Try.func5 rfl Try.call5 rfl rfl) (Ct Try.prog (Value.func (Fn.func (12 : Nat)) #[] #[]) #[] I fun (v : Value) (I' : Mem) => ∃ (b : Bool), v = Value.bool b ∧ Br (!b) (Value.bool false = Value.bool true) (Ct Try.prog (Value.func (Fn.func (13 : Nat)) #[] #[]) #[Value.slice a1 n1 c1, Value.slice a3 n3 c3] I' fun (v : Value) (I' : Mem) => ∃ (a : Option Addr), ∃ (n : Nat), ∃ (c : Nat), v = Value.slice a n c ∧ Ct Try.prog (Value.func (Fn.func (13 : Nat)) #[] #[]) #[Value.slice a2 n2 c2, Value.slice a3 n3 c3] I' fun (v : Value) (I' : Mem) => ∃ (a_1 : Option Addr), ∃ (n_1 : Nat), ∃ (c_1 : Nat), v = Value.slice a_1 n_1 c_1 ∧ Ct Try.prog (Value.func (Fn.func (16 : Nat)) #[] #[]) #[Value.slice a n c] I' fun (v : Value) (I' : Mem) => ∃ (a_2 : Option Addr), ∃ (n_2 : Nat), ∃ (c_2 : Nat), ∃ (n_3 : Int), v = Value.tuple #[Value.slice a_2 n_2 c_2, Value.int IntKind.i64 n_3] ∧ Ct Try.prog (Value.func (Fn.func (16 : Nat)) #[] #[]) #[Value.slice a_1 n_1 c_1] I' fun (v : Value) (I' : Mem) => ∃ (a_3 : Option Addr), ∃ (n_4 : Nat), ∃ (c_3 : Nat), ∃ (n_5 : Int), v = Value.tuple #[Value.slice a_3 n_4 c_3, Value.int IntKind.i64 n_5] ∧ Ct Try.prog (Value.func (Fn.func (17 : Nat)) #[] #[]) #[Value.slice a_2 n_2 c_2] I' fun (v : Value) (I' : Mem) => ∃ (a_4 : Option Addr), ∃ (n_6 : Nat), ∃ (c_4 : Nat), ∃ (n_7 : Int), ∃ (n_8 : Int), v = Value.tuple #[Value.slice a_4 n_6 c_4, Value.int IntKind.i64 n_7, Value.int IntKind.i64 n_8] ∧ Wr IntKind.i64 (n_3 + n_5) fun (c_5 : Int) => Wr IntKind.i64 (c_5 + n_8) fun (c_6 : Int) => Br (c_6 != (0 : Int)) (Value.bool false = Value.bool true) (Br (n_7 != (0 : Int)) (Value.bool false = Value.bool true) (Ct Try.prog (Value.func (Fn.func (18 : Nat)) #[] #[]) #[Value.slice a_4 n_6 c_4, Value.slice a n c] I' fun (v : Value) (I' : Mem) => ∃ (b : Bool), v = Value.bool b ∧ Br (!b) (Value.bool false = Value.bool true) (Ct Try.prog (Value.func (Fn.func (19 : Nat)) #[] #[]) #[Value.slice a n c] I' fun (v : Value) (I' : Mem) => ∃ (b : Bool), v = Value.bool b ∧ Br (!b) (Value.bool false = Value.bool true) (Ct Try.prog (Value.func (Fn.func (20 : Nat)) #[] #[]) #[Value.slice a_2 n_2 c_2, Value.slice a_3 n_4 c_3] I' fun (v : Value) (I' : Mem) => ∃ (b : Bool), v = Value.bool b ∧ Ct Try.prog (Value.func (Fn.func (18 : Nat)) #[] #[]) #[Value.slice a n c, Value.slice a_1 n_1 c_1] I' fun (v : Value) (I' : Mem) => ∃ (b_1 : Bool), v = Value.bool b_1 ∧ Br (!b == b_1) (Value.bool false = Value.bool true) (((0 : Int) ≤ bif false then imax (↑n4 : Int) (300 : Int) else imin (↑n4 : Int) (300 : Int)) ∧ (bif false then imax (↑n4 : Int) (300 : Int) else imin (↑n4 : Int) (300 : Int)) ≤ (↑c4 : Int) ∧ Ct Try.prog (Value.func (Fn.func (17 : Nat)) #[] #[]) #[Value.slice a4 (Int.toNat (bif false then imax (↑n4 : Int) (300 : Int) else imin (↑n4 : Int) (300 : Int))) c4] I' fun (v : Value) (I' : Mem) => ∃ (a : Option Addr), ∃ (n : Nat), ∃ (c : Nat), ∃ (n_9 : Int), ∃ (n_10 : Int), v = Value.tuple #[Value.slice a n c, Value.int IntKind.i64 n_9, Value.int IntKind.i64 n_10] ∧ Br (n_10 != (0 : Int)) (Br (n_10 == (21 : Int)) (Value.bool ((↑n : Int) == (0 : Int)) = Value.bool true) (Value.bool false = Value.bool true)) (Ct Try.prog (Value.func (Fn.func (16 : Nat)) #[] #[]) #[Value.slice a n c] I' fun (v : Value) (I' : Mem) => ∃ (a_5 : Option Addr), ∃ (n_11 : Nat), ∃ (c_7 : Nat), ∃ (n_12 : Int), v = Value.tuple #[Value.slice a_5 n_11 c_7, Value.int IntKind.i64 n_12] ∧ Br (n_12 == (0 : Int)) (Ct Try.prog (Value.func (Fn.func (19 : Nat)) #[] #[]) #[Value.slice a n c] I' fun (v : Value) (I' : Mem) => ∃ (b : Bool), v = Value.bool b ∧ Br b (Ct Try.prog (Value.func (Fn.func (20 : Nat)) #[] #[]) #[Value.slice a_5 n_11 c_7, Value.slice a4 (Int.toNat (bif false then imax (↑n4 : Int) (300 : Int) else imin (↑n4 : Int) (300 : Int))) c4] I' fun (v : Value) (I' : Mem) => ∃ (b : Bool), v = Value.bool b ∧ Value.bool b = Value.bool true) (Value.bool false = Value.bool true)) (Value.bool false = Value.bool true))))))))) (by kernel_rfl) ?_
  refine (ct12 I).mono fun v I1 l1 hv => ⟨_, hv, Br.f rfl ?_⟩
  refine (ct13 g1 hz1 ts _ _ _ _ _ _ I1 (sl1.mono l1) hc1 (tx.mono l1)).mono fun v I2 l2 ⟨ka, kn, kc, hv, hK, _, _⟩ => ⟨ka, kn, kc, hv, ?_⟩
  refine (ct13 g2 hz2 ts _ _ _ _ _ _ I2 (sl2.mono (Mem.le_trans l1 l2)) hc2 (tx.mono (Mem.le_trans l1 l2))).mono fun v I3 l3 ⟨la, ln, lc, hv, hL, _, _⟩ => ⟨la, ln, lc, hv, ?_⟩
  have rK := madeV_right g1 ts
  have rL := madeV_right g2 ts
  have nK := madeV_len g1 ts
  have nL := madeV_len g2 ts
  generalize madeV g1 ts = K at hK rK nK
  generalize madeV g2 ts = L at hL rL nL
  have kK := hK.len
  have kL := hL.len
  have wK := write_bytes rK hK.ok
  have wL := write_bytes rL hL.ok
  have zK := write_len rK
  refine (ct16 K ka kn kc I3 (hK.mono l3) (by omega)).mono fun v I4 l4 ⟨wa, wn, wc', hv, hw, hwc, hwm⟩ => ⟨wa, wn, wc', _, hv, ?_⟩
  rw [if_pos rK] at hw
  refine (ct16 L la ln lc I4 (hL.mono l4) (by omega)).mono fun v I5 l5 ⟨xa, xn, xc, hv, hx, hxc, hxm⟩ => ⟨xa, xn, xc, _, hv, ?_⟩
  rw [if_pos rL] at hx
  rw [if_pos rK, if_pos rL]
  have hwn := hw.numLen
  refine (ct17 (writeF K) wK wa wn wc' I5 (hw.mono l5) (by omega) hwc hwm).mono fun v I6 l6 ⟨ba, bn, bc, hv, hB, _, _⟩ => ⟨ba, bn, bc, _, _, hv, ?_⟩
  rw [read_write rK] at hB ⊢
  simp only at hB ⊢
  have kB := hB.len
  have hK6 := hK.mono (Mem.le_trans l3 (Mem.le_trans l4 (Mem.le_trans l5 l6)))
  refine wr_i64 (by omega) (by omega) (wr_i64 (by omega) (by omega) (Br.f rfl (Br.f rfl ?_)))
  refine (ct18 K K (right_short rK) _ _ _ _ _ _ I6 hB hK6 (by omega) (by omega)).mono fun v I7 l7 hv => ⟨_, hv, Br.f (by simp) ?_⟩
  refine (ct19 K ka kn kc I7 (hK6.mono l7) (by omega)).mono fun v I8 l8 hv => ⟨_, hv, Br.f (by rw [rK]; rfl) ?_⟩
  refine (ct20 (writeF K) (writeF L) wK wL _ _ _ _ _ _ I8 (hw.mono (Mem.le_trans l5 (Mem.le_trans l6 (Mem.le_trans l7 l8)))) (hx.mono (Mem.le_trans l6 (Mem.le_trans l7 l8)))).mono fun v I9 l9 hv => ⟨_, hv, ?_⟩
  refine (ct18 K L (right_short rL) _ _ _ _ _ _ I9 (hK6.mono (Mem.le_trans l7 (Mem.le_trans l8 l9))) (hL.mono (Mem.le_trans l4 (Mem.le_trans l5 (Mem.le_trans l6 (Mem.le_trans l7 (Mem.le_trans l8 l9)))))) (by omega) (by omega)).mono fun v I10 l10 hv => ⟨_, hv, Br.f ?_ ?_⟩
  · have : (writeF K = writeF L) ↔ (K = L) := ⟨write_inj rK rL, fun e => by rw [e]⟩
    rw [decide_eq_decide.2 this]
    cases decide (K = L) <;> rfl
  simp only [cond_false]
  have hn4 := sl4.numLen
  have hN : imin (n4 : Int) 300 = ((min n4 300 : Nat) : Int) := by unfold imin; split <;> omega
  rw [hN]
  have hN2 : min n4 300 ≤ n4 ∧ min n4 300 ≤ 300 := by omega
  generalize min n4 300 = N at hN2 ⊢
  have lall : I.le I10 := Mem.le_trans l1 (Mem.le_trans l2 (Mem.le_trans l3 (Mem.le_trans l4 (Mem.le_trans l5 (Mem.le_trans l6 (Mem.le_trans l7 (Mem.le_trans l8 (Mem.le_trans l9 l10))))))))
  have sA := sl_take (sl4.mono lall) hN2.1
  have hzA : byteL (z4.take N) := fun z hz => hz4 z (List.mem_of_mem_take hz)
  have hlA : (z4.take N).length = N := by simp; omega
  generalize z4.take N = A at sA hzA hlA
  refine ⟨by omega, by omega, ?_⟩
  refine (ct17 A hzA a4 N c4 I10 sA (by omega) (by omega) hm4).mono fun v I11 l11 ⟨ra, rn, rc, hv, hR, _, _⟩ => ⟨ra, rn, rc, _, _, hv, ?_⟩
  have kR := hR.len
  rcases read_cases A hzA with ⟨e1, e2, e3, e4⟩ | ⟨e1, e2⟩
  · rw [e1]
    obtain ⟨_, hR64⟩ := rightF_iff.1 e3
    refine Br.f rfl ?_
    refine (ct16 (readF A).1 ra rn rc I11 hR (by omega)).mono fun v I12 l12 ⟨ya, yn, yc, hv, hy, _, _⟩ => ⟨ya, yn, yc, _, hv, ?_⟩
    rw [if_pos e3, e4] at hy
    rw [if_pos e3]
    refine Br.t rfl ?_
    refine (ct19 (readF A).1 ra rn rc I12 (hR.mono l12) (by omega)).mono fun v I13 l13 hv => ⟨_, hv, Br.t e3 ?_⟩
    refine (ct20 A A hzA hzA _ _ _ _ _ _ I13 (hy.mono l13) (sA.mono (Mem.le_trans l11 (Mem.le_trans l12 l13)))).mono fun v I14 l14 hv => ⟨_, hv, by simp⟩
  · rw [e1] at kR
    have e3 : (readF A).2.2 = 21 := by
      rcases e2 with ⟨_, e2⟩ | e2
      · omega
      · exact e2
    rw [e3]
    refine Br.t rfl (Br.t rfl ?_)
    simp at kR
    rw [← kR]; rfl
