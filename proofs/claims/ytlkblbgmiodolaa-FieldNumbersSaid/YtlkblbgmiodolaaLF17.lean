/- Part of a proof by the rules of the symbolic walk (see the law's own text): contracts of functions of the program. -/
import Derived.Test.YtlkblbgmiodolaaGC
open Go Go.Proofs Go.SE Go.RowKit
set_option linter.unusedVariables false
theorem lastN_form (x : Nat) (h : x < 256 ^ 8) : lastN (formN x) = ((x : Int), ((formN x).length : Int), 0) := by
  have hr := readN_form [] [] x h
  simp only [List.nil_append, List.append_nil, List.length_nil] at hr
  have hr : readN (formN x) 0 = ((x : Int), ((formN x).length : Int), 0) := hr
  unfold lastN
  rw [hr, if_neg (by simp), if_neg (by simp)]
theorem readN_err (bs : List Int) (h : (readN bs 0).2.2 ≠ 0) : (readN bs 0).2.2 = 10 ∨ (readN bs 0).2.2 = 11 := by
  unfold readN at h ⊢
  rw [if_neg (by omega)] at h ⊢
  split
  · exact .inl rfl
  · rename_i b hb
    rw [hb] at h
    simp only at h
    split
    · rename_i h1; rw [if_pos h1] at h; exact absurd rfl h
    · rename_i h1
      rw [if_neg h1] at h
      split
      · exact .inr rfl
      · rename_i h2
        rw [if_neg h2] at h
        split
        · exact .inl rfl
        · rename_i h3
          rw [if_neg h3] at h
          split
          · exact .inr rfl
          · rename_i h4
            rw [if_neg h4] at h
            split
            · exact .inr rfl
            · rename_i h5
              rw [if_neg h5] at h
              exact absurd rfl h
theorem lastN_cases (bs : List Int) (hbs : byteL bs) : ((lastN bs).2.2 = 0 ∧ 0 ≤ (lastN bs).1 ∧ (lastN bs).1.toNat < 256 ^ 8 ∧ formN (lastN bs).1.toNat = bs) ∨ ((lastN bs).1 = 0 ∧ ((lastN bs).2.2 = 10 ∨ (lastN bs).2.2 = 11)) := by
  unfold lastN
  split
  · rename_i h
    exact .inr ⟨rfl, readN_err bs h⟩
  · rename_i h
    split
    · exact .inr ⟨rfl, .inr rfl⟩
    · rename_i h2
      have h : (readN bs 0).2.2 = 0 := by simpa using h
      obtain ⟨g1, g2, g3, g4, g5, g6, g7⟩ := readN_back hbs (at_ := 0) (x := (readN bs 0).1) (n := (readN bs 0).2.1) (Prod.ext rfl (Prod.ext rfl h))
      refine .inl ⟨rfl, g3, g4, ?_⟩
      have e1 : bs.drop (0 : Int).toNat = bs := rfl
      rw [e1, List.drop_eq_nil_of_le (by omega), List.append_nil] at g6
      exact g6.symm
theorem ct11 (I : Mem) (a1 : Option Addr) (n1 c1 : Nat) (g1 : List Int) (sl1 : SlM I a1 n1 1 (ints .u8 g1)) (hc1 : n1 ≤ c1) (hm1 : c1 ≤ maxLen) (hz1 : ∀ z ∈ g1, 0 ≤ z ∧ z ≤ 255)
    (a3 : Option Addr) (n3 c3 : Nat) (ts : List (List Int)) (tx : TxM I a3 n3 ts) (hc3 : n3 ≤ c3) (hm3 : c3 ≤ maxLen) (x : Int) (hx : 0 ≤ x ∧ x ≤ 18446744073709551615)
    (a4 : Option Addr) (n4 c4 : Nat) (z4 : List Int) (sl4 : SlM I a4 n4 1 (ints .u8 z4)) (hc4 : n4 ≤ c4) (hm4 : c4 ≤ maxLen) (hz4 : ∀ z ∈ z4, 0 ≤ z ∧ z ≤ 255) :
    Ct Try.prog (fnv 11) #[.slice a1 n1 c1, .slice a3 n3 c3, .int .u64 x, .slice a4 n4 c4] I (fun v _ => v = .bool true) := by
  refine viaR (ct_via (A := {}) Try.func11 rfl Try.call11 rfl rfl) (Ct Try.prog (Value.func (Fn.func (12 : Nat)) #[] #[]) #[] I fun (v : Value) (I' : Mem) => ∃ (b : Bool), v = Value.bool b ∧ Br (!b) (Value.bool false = Value.bool true) (Ct Try.prog (Value.func (Fn.func (27 : Nat)) #[] #[]) #[Value.int IntKind.i64 (200 : Int), Value.int IntKind.u64 x] I' fun (v : Value) (I' : Mem) => ∃ (n : Int), ∃ (a : Option Addr), ∃ (n_1 : Nat), ∃ (c : Nat), v = Value.agg #[Value.int IntKind.i64 n, Value.slice a n_1 c] ∧ Ct Try.prog (Value.func (Fn.func (13 : Nat)) #[] #[]) #[Value.slice a1 n1 c1, Value.slice a3 n3 c3] I' fun (v : Value) (I' : Mem) => ∃ (a_1 : Option Addr), ∃ (n_2 : Nat), ∃ (c_1 : Nat), v = Value.slice a_1 n_2 c_1 ∧ Ct Try.prog (Value.func (Fn.func (22 : Nat)) #[] #[]) #[Value.slice a_1 n_2 c_1, Value.agg #[Value.int IntKind.i64 n, Value.slice a n_1 c]] I' fun (v : Value) (I' : Mem) => ∃ (a_2 : Option Addr), ∃ (n_3 : Nat), ∃ (c_2 : Nat), ∃ (n_4 : Int), v = Value.tuple #[Value.slice a_2 n_3 c_2, Value.int IntKind.i64 n_4] ∧ Ct Try.prog (Value.func (Fn.func (16 : Nat)) #[] #[]) #[Value.slice a_2 n_3 c_2] I' fun (v : Value) (I' : Mem) => ∃ (a_3 : Option Addr), ∃ (n_5 : Nat), ∃ (c_3 : Nat), ∃ (n_6 : Int), v = Value.tuple #[Value.slice a_3 n_5 c_3, Value.int IntKind.i64 n_6] ∧ Ct Try.prog (Value.func (Fn.func (17 : Nat)) #[] #[]) #[Value.slice a_3 n_5 c_3] I' fun (v : Value) (I' : Mem) => ∃ (a_4 : Option Addr), ∃ (n_7 : Nat), ∃ (c_4 : Nat), ∃ (n_8 : Int), ∃ (n_9 : Int), v = Value.tuple #[Value.slice a_4 n_7 c_4, Value.int IntKind.i64 n_8, Value.int IntKind.i64 n_9] ∧ Ct Try.prog (Value.func (Fn.func (23 : Nat)) #[] #[]) #[Value.slice a_4 n_7 c_4, Value.int IntKind.i64 (200 : Int)] I' fun (v : Value) (I' : Mem) => ∃ (a_5 : Option Addr), ∃ (n_10 : Nat), ∃ (c_5 : Nat), ∃ (b : Bool), v = Value.tuple #[Value.slice a_5 n_10 c_5, Value.bool b] ∧ Ct Try.prog (Value.func (Fn.func (28 : Nat)) #[] #[]) #[Value.agg #[Value.int IntKind.i64 (3 : Int), Value.slice a_5 n_10 c_5]] I' fun (v : Value) (I' : Mem) => ∃ (n_11 : Int), ∃ (n_12 : Int), v = Value.tuple #[Value.int IntKind.u64 n_11, Value.int IntKind.i64 n_12] ∧ Ct Try.prog (Value.func (Fn.func (28 : Nat)) #[] #[]) #[Value.agg #[Value.int IntKind.i64 n, Value.slice a n_1 c]] I' fun (v : Value) (I' : Mem) => ∃ (n_13 : Int), ∃ (n_14 : Int), v = Value.tuple #[Value.int IntKind.u64 n_13, Value.int IntKind.i64 n_14] ∧ Wr IntKind.i64 (n_4 + n_6) fun (c : Int) => Wr IntKind.i64 (c + n_9) fun (c : Int) => Wr IntKind.i64 (c + n_12) fun (c : Int) => Wr IntKind.i64 (c + n_14) fun (c : Int) => Br (c != (0 : Int)) (Value.bool false = Value.bool true) (Br (!b) (Value.bool false = Value.bool true) (Br (n_11 != x) (Value.bool false = Value.bool true) (Br (n_13 != x) (Value.bool false = Value.bool true) (Br (n != (200 : Int)) (Value.bool false = Value.bool true) (((0 : Int) ≤ bif false then imax (↑n4 : Int) (20 : Int) else imin (↑n4 : Int) (20 : Int)) ∧ (bif false then imax (↑n4 : Int) (20 : Int) else imin (↑n4 : Int) (20 : Int)) ≤ (↑c4 : Int) ∧ Ct Try.prog (Value.func (Fn.func (28 : Nat)) #[] #[]) #[Value.agg #[Value.int IntKind.i64 (0 : Int), Value.slice a4 (Int.toNat (bif false then imax (↑n4 : Int) (20 : Int) else imin (↑n4 : Int) (20 : Int))) c4]] I' fun (v : Value) (I' : Mem) => ∃ (n : Int), ∃ (n_15 : Int), v = Value.tuple #[Value.int IntKind.u64 n, Value.int IntKind.i64 n_15] ∧ Br (n_15 != (0 : Int)) (Br (n == (0 : Int)) (Br (n_15 == (10 : Int)) (Value.bool true = Value.bool true) (Value.bool (n_15 == (11 : Int)) = Value.bool true)) (Value.bool false = Value.bool true)) (Ct Try.prog (Value.func (Fn.func (27 : Nat)) #[] #[]) #[Value.int IntKind.i64 (0 : Int), Value.int IntKind.u64 n] I' fun (v : Value) (I' : Mem) => ∃ (n : Int), ∃ (a : Option Addr), ∃ (n_16 : Nat), ∃ (c : Nat), v = Value.agg #[Value.int IntKind.i64 n, Value.slice a n_16 c] ∧ Ct Try.prog (Value.func (Fn.func (20 : Nat)) #[] #[]) #[Value.slice a n_16 c, Value.slice a4 (Int.toNat (bif false then imax (↑n4 : Int) (20 : Int) else imin (↑n4 : Int) (20 : Int))) c4] I' fun (v : Value) (I' : Mem) => ∃ (b : Bool), v = Value.bool b ∧ Value.bool b = Value.bool true)))))))) (by kernel_rfl) ?_
  have hx8 : x.toNat < 256 ^ 8 := by omega
  have hxx : ((x.toNat : Nat) : Int) = x := by omega
  have hFl := formN_le x.toNat hx8
  have hFb := formN_bytes hx8
  have hlast := lastN_form x.toNat hx8
  rw [hxx] at hlast
  refine (ct12 I).mono fun v I1 l1 hv => ⟨_, hv, Br.f rfl ?_⟩
  refine (ct27 200 x hx I1).mono fun v I2 l2 ⟨y, hv, hy⟩ => ?_
  obtain ⟨fa, fn, fc, rfl, hfs, hfc, hfm⟩ := hy
  refine ⟨_, fa, fn, fc, hv, ?_⟩
  refine (ct13 g1 hz1 ts _ _ _ _ _ _ I2 (sl1.mono (Mem.le_trans l1 l2)) hc1 (tx.mono (Mem.le_trans l1 l2))).mono fun v I3 l3 ⟨ka, kn, kc, hv, hK, hkc, _⟩ => ⟨ka, kn, kc, hv, ?_⟩
  have rK := madeV_right g1 ts
  have nK := madeV_len g1 ts
  have sK := madeV_step g1 ts
  generalize madeV g1 ts = K at hK rK nK sK
  have kK := hK.len
  have hokF : okFld (200, formN x.toNat) := ⟨by simp, hFb⟩
  have hS1 : rightStep 0 (2000 + (formN x.toNat).length) (setR (200, formN x.toNat) false K) = true := setR_right (200, formN x.toNat) (by simp) (by omega) (by simp) sK
  have hSl := setR_len (200, formN x.toNat) K false
  have rS : rightF (setR (200, formN x.toNat) false K) = true := rightF_iff.2 ⟨rightStep_more (by omega) hS1, by omega⟩
  have hset : setF K (200, formN x.toNat) = (setR (200, formN x.toNat) false K, 0) := by rw [setF, rK, rS]; rfl
  have hself := setR_self (200, formN x.toNat) K
  have hnf := hfs.numLen
  refine (ct22 K (200, formN x.toNat) hokF (by simp only; omega) ka fa kn kc fn fc I3 hK (by omega) (hfs.mono l3) hfc hfm).mono fun v I4 l4 ⟨sa, sn, sc, hv, hS, _, _⟩ => ⟨sa, sn, sc, _, hv, ?_⟩
  rw [hset] at hS ⊢
  simp only at hS ⊢
  generalize setR (200, formN x.toNat) false K = S at hS rS hself hSl
  have kS := hS.len
  have wS := write_bytes rS hS.ok
  have zS := write_len rS
  refine (ct16 S sa sn sc I4 hS (by omega)).mono fun v I5 l5 ⟨wa, wn, wc', hv, hw, hwc, hwm⟩ => ⟨wa, wn, wc', _, hv, ?_⟩
  rw [if_pos rS] at hw
  rw [if_pos rS]
  have hwn := hw.numLen
  refine (ct17 (writeF S) wS wa wn wc' I5 hw (by omega) hwc hwm).mono fun v I6 l6 ⟨ba, bn, bc, hv, hB, _, _⟩ => ⟨ba, bn, bc, _, _, hv, ?_⟩
  rw [read_write rS] at hB ⊢
  simp only at hB ⊢
  have kB := hB.len
  refine (ct23 S (right_short rS) 200 ba bn bc I6 hB (by omega)).mono fun v I7 l7 ⟨y, hv, hy⟩ => ?_
  have hself : (S.find? fun g => g.1 == 200) = some (200, formN x.toNat) := hself
  rw [hself] at hv hy
  obtain ⟨ga, gn, gc, rfl, hg, hgc, hgm⟩ := hy
  have hgn := hg.numLen
  have hg : SlM I7 ga gn 1 (ints .u8 (formN x.toNat)) := hg
  have hgn := hg.numLen
  refine ⟨ga, gn, gc, _, hv, ?_⟩
  refine (ct28 (3, formN x.toNat) ⟨by simp, hFb⟩ ga gn gc I7 hg (by omega)).mono fun v I8 l8 hv => ⟨_, _, hv, ?_⟩
  refine (ct28 (200, formN x.toNat) hokF fa fn fc I8 (hfs.mono (Mem.le_trans l3 (Mem.le_trans l4 (Mem.le_trans l5 (Mem.le_trans l6 (Mem.le_trans l7 l8)))))) (by omega)).mono fun v I9 l9 hv => ⟨_, _, hv, ?_⟩
  simp only [hlast, cond_false]
  have hN : imin (n4 : Int) 20 = ((min n4 20 : Nat) : Int) := by unfold imin; split <;> omega
  rw [hN]
  have hN2 : min n4 20 ≤ n4 ∧ min n4 20 ≤ 20 := by omega
  generalize min n4 20 = N at hN2 ⊢
  have lall : I.le I9 := Mem.le_trans l1 (Mem.le_trans l2 (Mem.le_trans l3 (Mem.le_trans l4 (Mem.le_trans l5 (Mem.le_trans l6 (Mem.le_trans l7 (Mem.le_trans l8 l9)))))))
  have sA := sl_take (sl4.mono lall) hN2.1
  have hn4 := sl4.numLen
  have hzA : byteL (z4.take N) := fun z hz => hz4 z (List.mem_of_mem_take hz)
  have hlA : (z4.take N).length = N := by simp; omega
  generalize z4.take N = A at sA hzA hlA
  refine wr_i64 (by omega) (by omega) (wr_i64 (by omega) (by omega) (wr_i64 (by omega) (by omega) (wr_i64 (by omega) (by omega) (Br.f rfl (Br.f rfl (Br.f (by simp) (Br.f (by simp) (Br.f rfl ⟨by omega, by omega, ?_⟩))))))))
  refine (ct28 (0, A) ⟨by simp, hzA⟩ a4 N c4 I9 sA (by omega)).mono fun v I10 l10 hv => ⟨_, _, hv, ?_⟩
  rcases lastN_cases A hzA with ⟨q1, q2, q3, q4⟩ | ⟨q1, q2⟩
  · rw [q1]
    refine Br.f rfl ?_
    refine (ct27 0 (lastN A).1 (by omega) I10).mono fun v I11 l11 ⟨y, hv, hy⟩ => ?_
    obtain ⟨ya, yn, yc, rfl, hy, _, _⟩ := hy
    rw [q4] at hy
    exact ⟨_, ya, yn, yc, hv, (ct20 A A hzA hzA _ _ _ _ _ _ I11 hy (sA.mono (Mem.le_trans l10 l11))).mono fun v _ _ hv => ⟨_, hv, by simp⟩⟩
  · rw [q1]
    rcases q2 with q2 | q2
    · rw [q2]
      exact Br.t rfl (Br.t rfl (Br.t rfl trivial))
    · rw [q2]
      exact Br.t rfl (Br.t rfl (Br.f rfl rfl))
