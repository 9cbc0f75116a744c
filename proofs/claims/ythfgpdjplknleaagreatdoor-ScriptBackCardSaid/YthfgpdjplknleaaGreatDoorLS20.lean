/- Part of a proof by the rules of the symbolic walk (see the law's own text): contracts of functions of the program. -/
import Derived.Test.YthfgpdjplknleaaGreatDoorGU
open Go Go.Proofs Go.SE Go.RowKit
set_option linter.unusedVariables false
set_option maxRecDepth 100000
theorem ct11 (I : Mem) (hG : Globs I) (l : List Sn) (a : Option Addr) (n c : Nat) (h : SnM I a n l) (hc : n ≤ c) (s : ByteArray) (hs : s.size ≤ reachBytes) :
    Ct Tryz.prog (fnv 11) #[.slice a n c, .string s] I (fun v _ => v = .bool true) := by
  obtain ⟨XI, hXI⟩ : ∃ f : Int → List Value → Prop, f = fun (j : Int) xs => 0 ≤ j ∧ j ≤ (madeL l).length ∧ xs = strs (((madeL l).take j.toNat).map fun e => strT (lineT e)) := ⟨_, rfl⟩
  refine viaR (ct_via (A := { loops := [(11, ⟨[(1, .keep), (5, .keep), (15, .row 0), (83, .keep), (84, .keep), (85, .sh (.int .i64))], [(0, .row)], [(15, 1, 9)], fun vals xss _ _ => match vals, xss with | [.int .i64 j], [xs] => XI j xs | _, _ => False, fun vals _ => match vals with | [.int .i64 j] => ((madeL l).length - j).toNat | _ => 0⟩), (18, ⟨[(1, .keep), (5, .keep), (15, .keep), (17, .keep), (18, .keep), (83, .keep), (84, .keep), (85, .keep), (119, .keep), (120, .sh (.int .i64))], [(0, .keep), (1, .keep)], [], fun vals _ _ _ => match vals with | [.int .i64 j] => 0 ≤ j ∧ j ≤ 1000 | _ => False, fun vals _ => match vals with | [.int .i64 j] => (1000 - j).toNat | _ => 0⟩)] }) Tryz.func11 rfl Tryz.call11 rfl rfl) (Ct Tryz.prog (.func (.func 14) #[] #[]) #[] I fun v b => ∃ d, v = .bool d ∧ Br (!d) (Value.bool false = .bool true) (Ct Tryz.prog (.func (.func 16) #[] #[]) #[.slice a n c] b (fun e f => ∃ g i j, e = .slice g i j ∧ Ct Tryz.prog (.func (.func 31) #[] #[]) #[.slice g i j] f fun k m => ∃ q o p, k = .tuple #[.string q, .int .i64 o, .int .i64 p] ∧ Ct Tryz.prog (.func (.func 36) #[] #[]) #[.string q] m fun r t => ∃ u w x y z, r = .tuple #[.slice u w x, .int .i64 y, .int .i64 z] ∧ Ct Tryz.prog (.func (.func 37) #[] #[]) #[.string q, .string ⟨#[10]⟩] t fun v1 I1 => ∃ q1, v1 = .string q1 ∧ Ct Tryz.prog (.func (.func 36) #[] #[]) #[.string q1] I1 fun v2 I2 => ∃ a1 n1 c1 n2 n3, v2 = .tuple #[.slice a1 n1 c1, .int .i64 n2, .int .i64 n3] ∧ Wr .i64 (p + z) fun c2 => Wr .i64 (c2 + n3) fun c3 => Br (c3 != 0) (Value.bool false = .bool true) (Br (o != -1) (Value.bool false = .bool true) (Br (y != 0) (Value.bool false = .bool true) (Ct Tryz.prog (.func (.func 18) #[] #[]) #[.slice u w x, .slice g i j] I2 (fun v3 I3 => ∃ b1, v3 = .bool b1 ∧ Br (!b1) (Value.bool false = .bool true) (Ct Tryz.prog (.func (.func 18) #[] #[]) #[.slice a1 n1 c1, .slice g i j] I3 (fun v4 I4 => ∃ b2, v4 = .bool b2 ∧ Br (!b2) (Value.bool false = .bool true) (Ct Tryz.prog (.func (.func 29) #[] #[]) #[.string q, .string ⟨#[10]⟩] I4 (fun v5 I5 => ∃ n4, v5 = .int .i64 n4 ∧ Br (n4 != (i : Int)) (Value.bool false = .bool true) ((Rf (SV.v (.string s)) ∧ Rf (SV.v (.slice g i j)) ∧ (0 : Nat) = 0 ∧ Rf (SV.v (.slice g i j)) ∧ Rf (SV.v (.int .i64 (i : Int))) ∧ XI 0 []) ∧ ∀ (I6 : Mem), Mem → I5.le I6 → ∀ (x1 : List Value) (n5 : Int), XI n5 x1 → Br (decide (n5 < (i : Int))) (0 ≤ n5 ∧ n5 < (i : Int) ∧ g.isSome = true ∧ (4 : Nat) = 4 ∧ ∃ n6, atI I6 g (n5.toNat * 4 + 0) = some (.int .u8 n6) ∧ ∃ n7, atI I6 g (n5.toNat * 4 + 1) = some (.int .i64 n7) ∧ ∃ n8, atI I6 g (n5.toNat * 4 + 2) = some (.int .i64 n8) ∧ ∃ a2 n9 c4, atI I6 g (n5.toNat * 4 + 3) = some (.slice a2 n9 c4) ∧ Ct Tryz.prog (.func (.func 22) #[] #[]) #[.agg #[.int .u8 n6, .int .i64 n7, .int .i64 n8, .slice a2 n9 c4]] I6 fun v6 I7 => ∃ q2 n10, v6 = .tuple #[.string q2, .int .i64 n10] ∧ Ct Tryz.prog (.func (.func 38) #[] #[]) #[.string q2] I7 fun v7 I8 => ∃ n11 n12 n13 a3 n14 c5 n15, v7 = .tuple #[.agg #[.int .u8 n11, .int .i64 n12, .int .i64 n13, .slice a3 n14 c5], .int .i64 n15] ∧ Wr .i64 (n10 + n15) fun c6 => Br (c6 != 0) (Value.bool false = .bool true) (Ct Tryz.prog (.func (.func 33) #[] #[]) #[.agg #[.int .u8 n11, .int .i64 n12, .int .i64 n13, .slice a3 n14 c5], .agg #[.int .u8 n6, .int .i64 n7, .int .i64 n8, .slice a2 n9 c4]] I8 (fun v8 I9 => ∃ b3, v8 = .bool b3 ∧ Br (!b3) (Value.bool false = .bool true) (Ct Tryz.prog (.func (.func 32) #[] #[]) #[.agg #[.int .u8 n6, .int .i64 n7, .int .i64 n8, .slice a2 n9 c4]] I9 (fun v9 I10 => ∃ b4, v9 = .bool b4 ∧ Br (!b4) (Value.bool false = .bool true) (Ct Tryz.prog (.func (.func 39) #[] #[]) #[.string q2, .string ⟨#[10]⟩] I10 (fun v10 I11 => ∃ b5, v10 = .bool b5 ∧ Br b5 (Value.bool false = .bool true) ((Rf (Ent.mk (.row x1 1 9) none) ∧ Rf (Ent.mk (.cells [.v (.int .u8 n6), .v (.int .i64 n7), .v (.int .i64 n8), .v (.slice a2 n9 c4)] 35) none) ∧ Rf (SV.v (.string s)) ∧ Rf (SV.v (.slice g i j)) ∧ Rf (SV.rsl 0 x1.length) ∧ Rf (SV.ptr 1 0) ∧ Rf (SV.v (.string q2)) ∧ Rf (SV.v (.slice g i j)) ∧ Rf (SV.v (.int .i64 (i : Int))) ∧ Rf (SV.v (.int .i64 n5)) ∧ Rf (SV.v (.int .i64 n5)) ∧ (0 : Int) ≤ 0 ∧ (0 : Int) ≤ 1000) ∧ ∀ (I12 : Mem), Mem → I11.le I12 → ∀ (n16 : Int), 0 ≤ n16 ∧ n16 ≤ 1000 → Br (decide (n16 < n5)) (0 ≤ n16 ∧ n16 < (x1.length : Int) ∧ x1.length * 1 ≤ x1.length ∧ ∃ q3, x1[n16.toNat * 1 + 0]? = some (.string q3) ∧ 0 ≤ n16 ∧ n16 < (i : Int) ∧ g.isSome = true ∧ (4 : Nat) = 4 ∧ ∃ n17, atI I12 g (n16.toNat * 4 + 0) = some (.int .u8 n17) ∧ ∃ n18, atI I12 g (n16.toNat * 4 + 1) = some (.int .i64 n18) ∧ ∃ n19, atI I12 g (n16.toNat * 4 + 2) = some (.int .i64 n19) ∧ ∃ a4 n20 c7, atI I12 g (n16.toNat * 4 + 3) = some (.slice a4 n20 c7) ∧ Ct Tryz.prog (.func (.func 33) #[] #[]) #[.agg #[.int .u8 n17, .int .i64 n18, .int .i64 n19, .slice a4 n20 c7], .agg #[.int .u8 n6, .int .i64 n7, .int .i64 n8, .slice a2 n9 c4]] I12 fun v11 I13 => ∃ b6, v11 = .bool b6 ∧ Br (!((q3.toList == q2.toList) == b6)) (Value.bool false = .bool true) (Wr .i64 (n16 + 1) (fun c8 => Rf (Ent.mk (.row x1 1 9) none) ∧ Rf (Ent.mk (.cells [.v (.int .u8 n6), .v (.int .i64 n7), .v (.int .i64 n8), .v (.slice a2 n9 c4)] 35) none) ∧ Rf (SV.v (.string s)) ∧ Rf (SV.v (.slice g i j)) ∧ Rf (SV.rsl 0 x1.length) ∧ Rf (SV.ptr 1 0) ∧ Rf (SV.v (.string q2)) ∧ Rf (SV.v (.slice g i j)) ∧ Rf (SV.v (.int .i64 (i : Int))) ∧ Rf (SV.v (.int .i64 n5)) ∧ Rf (SV.v (.int .i64 n5)) ∧ (0 ≤ c8 ∧ c8 ≤ 1000) ∧ Int.toNat (1000 - c8) < Int.toNat (1000 - n16)))) (x1.length = x1.length * 1 ∧ x1.length + 1 ≤ 9223372036854775807 ∧ (x1.length + 1) * 16 ≤ 140737488355328 ∧ Wr .i64 (n5 + 1) fun c7 => Rf (SV.v (.string s)) ∧ Rf (SV.v (.slice g i j)) ∧ x1.length + 1 = List.length (x1 ++ [.string q2]) ∧ Rf (SV.v (.slice g i j)) ∧ Rf (SV.v (.int .i64 (i : Int))) ∧ XI c7 (x1 ++ [.string q2]) ∧ Int.toNat (((madeL l).length : Int) - c7) < Int.toNat (((madeL l).length : Int) - n5)))))))))) (0 ≤ (bif false then imax (s.size : Int) 200 else imin (s.size : Int) 200) ∧ (bif false then imax (s.size : Int) 200 else imin (s.size : Int) 200) ≤ (s.size : Int) ∧ Ct Tryz.prog (.func (.func 38) #[] #[]) #[.string (s.extract 0 (bif false then imax (s.size : Int) 200 else imin (s.size : Int) 200).toNat)] I6 fun v6 I7 => ∃ n6 n7 n8 a2 n9 c4 n10, v6 = .tuple #[.agg #[.int .u8 n6, .int .i64 n7, .int .i64 n8, .slice a2 n9 c4], .int .i64 n10] ∧ Br (n10 != 0) (Br (n10 == 411) (Ct Tryz.prog (.func (.func 33) #[] #[]) #[.agg #[.int .u8 n6, .int .i64 n7, .int .i64 n8, .slice a2 n9 c4], .agg #[.int .u8 0, .int .i64 0, .int .i64 0, .slice none 0 0]] I7 (fun v7 I8 => ∃ b3, v7 = .bool b3 ∧ Value.bool b3 = .bool true)) (Value.bool false = .bool true)) (Ct Tryz.prog (.func (.func 22) #[] #[]) #[.agg #[.int .u8 n6, .int .i64 n7, .int .i64 n8, .slice a2 n9 c4]] I7 (fun v7 I8 => ∃ q2 n11, v7 = .tuple #[.string q2, .int .i64 n11] ∧ Br (n11 == 0) (Br (q2.toList == (s.extract 0 (bif false then imax (s.size : Int) 200 else imin (s.size : Int) 200).toNat).toList) (Ct Tryz.prog (.func (.func 32) #[] #[]) #[.agg #[.int .u8 n6, .int .i64 n7, .int .i64 n8, .slice a2 n9 c4]] I8 (fun v8 I9 => ∃ b3, v8 = .bool b3 ∧ Value.bool b3 = .bool true)) (Value.bool false = .bool true)) (Value.bool false = .bool true)))))))))))))))) (by kernel_rfl) ?_
  simp only [Rf, eq_self, true_and]
  have hsn : ∀ x ∈ l, okSn x := by
    obtain ⟨xs, _, hr⟩ := h
    exact hr.all fun h => h.1
  obtain ⟨hgood, hl30⟩ := madeL_good hsn
  obtain ⟨es, hes⟩ : ∃ q, q = madeL l := ⟨_, rfl⟩
  rw [← hes] at hgood hl30
  have htl := textL_len es hgood
  refine (ct14 I hG).mono fun v b lb hv => ⟨_, hv, Br.f rfl ((ct16 l a n c b (h.mono lb) hc).mono fun e f lf ⟨g, i, j, hv, hM, hij, hjm⟩ => ⟨g, i, j, hv, ?_⟩)⟩
  rw [← hes] at hM ⊢
  have hil := SlR.len (by decide) hM
  have hGf := hG.mono (Mem.le_trans lb lf)
  refine (ct31 es g i j f hGf hM (by omega)).mono fun k m lm hv => ?_
  rw [write_good hgood hl30] at hv
  have hqs : (strT (textL es)).size ≤ 1048576 := by rw [strT_size]; omega
  refine ⟨_, _, _, hv, (ct36 (strT (textL es)) (by omega) m (hGf.mono lm)).mono fun r t lt ⟨u, w, x, hv, hM1, _, _⟩ => ?_⟩
  rw [tx_strT, parse_good hgood hl30] at hv hM1
  refine ⟨u, w, x, _, _, hv, (ct37 (strT (textL es)) ⟨#[10]⟩ (by omega) t).mono fun v1 I1 l1 hv => ⟨_, hv, ?_⟩⟩
  obtain ⟨hp1, hp2⟩ := parse_trim hgood hl30
  rw [tx_strT, show tx (⟨#[10]⟩ : ByteArray) = [10] from rfl]
  refine (ct36 (strT (Lib.trimSuffix (textL es) [10])) (by rw [strT_size]; omega) I1 (hGf.mono (Mem.le_trans lm (Mem.le_trans lt l1)))).mono fun v2 I2 l2 ⟨a1, n1, c1, hv, hM2, _, _⟩ => ?_
  rw [tx_strT, hp1] at hv hM2
  refine ⟨a1, n1, c1, _, _, hv, wr_i64 (n := (0 : Int) + 0) (by decide) (by decide) (wr_i64 (n := (0 : Int) + 0) (by decide) (by decide) (Br.f rfl (Br.f rfl (Br.f rfl ?_))))⟩
  have hMI2 : EnM I2 g i es := hM.mono (Mem.le_trans lm (Mem.le_trans lt (Mem.le_trans l1 l2)))
  refine (ct18 u g w i x j es es I2 (hM1.mono (Mem.le_trans l1 l2)) hMI2).mono fun v3 I3 l3 hv => ⟨_, hv, Br.f (by simp) ?_⟩
  refine (ct18 a1 g n1 i c1 j es es I3 (hM2.mono l3) (hMI2.mono l3)).mono fun v4 I4 l4 hv => ⟨_, hv, Br.f (by simp) ?_⟩
  refine (ct29 _ 10 I4).mono fun v5 I5 l5 hv => ⟨_, hv, Br.f ?_ ?_⟩
  · rw [tx_strT, text_count es fun e he => (hgood e he).1, hil]; simp
  have hM5 : EnM I5 g i es := hMI2.mono (Mem.le_trans l3 (Mem.le_trans l4 l5))
  have hG5 := hGf.mono (Mem.le_trans lm (Mem.le_trans lt (Mem.le_trans l1 (Mem.le_trans l2 (Mem.le_trans l3 (Mem.le_trans l4 l5))))))
  refine ⟨by rw [hXI]; exact ⟨by omega, by omega, rfl⟩, fun I6 _ l6 x1 n5 hx => Br.mk (fun hlt => ?_) (fun hge => ?_)⟩
  · have hlt := of_decide_eq_true hlt
    rw [hXI] at hx
    obtain ⟨h0, h1, hx1⟩ := hx
    rw [← hes] at h1 hx1
    have hxl : x1.length = n5.toNat := by rw [hx1]; simp [strs]; omega
    obtain ⟨e, a2, n9, c4, g1, g2, g3, g4, g5, g6, g7⟩ := (hM5.mono l6).get h0 hlt
    obtain ⟨_, hcl⟩ := hgood e (List.mem_of_getElem? g1)
    have hlE : lineE e = 0 := by rw [lineE, hcl]; rfl
    have hG6 := hG5.mono l6
    refine ⟨h0, hlt, SlR.isSome hM (by omega), _, g4, _, g5, _, g6, _, _, _, g7, (ct22 e g2 _ I6 hG6 g3).mono fun v6 I7 l7 hv => ?_⟩
    rw [hlE] at hv
    have hll := lineT_len g2 hcl
    refine ⟨_, _, hv, (ct38 _ (by rw [strT_size]; omega) I7 (hG6.mono l7)).mono fun v7 I8 l8 ⟨y, hv, hy⟩ => ?_⟩
    rw [tx_strT, read_line g2 hcl] at hv hy
    have hy' := hy
    obtain ⟨a3, n14, c5, rfl, _, _, _⟩ := hy'
    refine ⟨_, _, _, _, _, _, _, hv, wr_i64 (n := (0 : Int) + 0) (by decide) (by decide) (Br.f rfl ?_)⟩
    refine (ct33 e e _ _ I8 hy (g3.mono (Mem.le_trans l7 l8)) g2.bs g2.bs).mono fun v8 I9 l9 hv => ⟨_, hv, Br.f (by simp) ?_⟩
    have l69 := Mem.le_trans l7 (Mem.le_trans l8 l9)
    refine (ct32 e _ I9 (g3.mono l69) g2.bs).mono fun v9 I10 l10 hv => ⟨_, hv, Br.f (by rw [hcl]; rfl) ?_⟩
    refine (ct39 _ 10 I10).mono fun v10 I11 l11 hv => ⟨_, hv, Br.f (by rw [tx_strT, no_feed g2]; decide) ⟨⟨by omega, by omega⟩, fun I12 _ l12 n16 hn16 => Br.mk (fun hlt2 => ?_) (fun _ => ?_)⟩⟩
    · have hlt2 := of_decide_eq_true hlt2
      have lI : I6.le I12 := Mem.le_trans l69 (Mem.le_trans l10 (Mem.le_trans l11 l12))
      obtain ⟨e', a4, n20, c7, f1, f2, f3, f4, f5, f6, f7⟩ := ((hM5.mono l6).mono lI).get hn16.1 (by omega)
      obtain ⟨_, hcl'⟩ := hgood e' (List.mem_of_getElem? f1)
      have hx3 : x1[n16.toNat * 1 + 0]? = some (.string (strT (lineT e'))) := by
        rw [hx1, Nat.mul_one, Nat.add_zero]
        refine strs_get ?_
        rw [List.getElem?_map, List.getElem?_take, if_pos (by omega), f1]; rfl
      refine ⟨hn16.1, by omega, by omega, _, hx3, hn16.1, by omega, SlR.isSome hM (by omega), _, f4, _, f5, _, f6, _, _, _, f7, (ct33 e' e _ _ I12 f3 (g3.mono lI) f2.bs g2.bs).mono fun v11 I13 l13 hv => ⟨_, hv, Br.f ?_ (wr_i64 (by omega) (by omega) ⟨⟨by omega, by omega⟩, by omega⟩)⟩⟩
      rw [str_eq]
      have : (strT (lineT e') = strT (lineT e)) ↔ e' = e := ⟨fun hq => line_inj f2 g2 hcl' hcl (by have := congrArg tx hq; rwa [tx_strT, tx_strT] at this), fun hq => by rw [hq]⟩
      rw [show decide (strT (lineT e') = strT (lineT e)) = decide (e' = e) from decide_eq_decide.2 this]
      simp
    · refine ⟨by omega, by omega, by omega, wr_i64 (by omega) (by omega) ⟨by simp, ?_, by omega⟩⟩
      rw [hXI]
      refine ⟨by omega, by rw [← hes]; omega, ?_⟩
      rw [← hes, show (n5 + 1).toNat = n5.toNat + 1 by omega, List.take_add_one, g1, hx1]
      simp [strs]
  · have eM : (bif false then imax (s.size : Int) 200 else imin (s.size : Int) 200) = ((min s.size 200 : Nat) : Int) := by
      show imin (s.size : Int) 200 = _
      rw [imin]; split <;> omega
    rw [eM, Int.toNat_natCast]
    obtain ⟨q, hq⟩ : ∃ q, q = s.extract 0 (min s.size 200) := ⟨_, rfl⟩
    rw [← hq]
    have hqs2 : q.size ≤ 200 := by rw [hq, ByteArray.size_extract]; omega
    have hql : (tx q).length = q.size := Array.length_toList
    refine ⟨by omega, by omega, (ct38 q (by omega) I6 (hG5.mono l6)).mono fun v6 I7 l7 ⟨y, hv, hy⟩ => ?_⟩
    have hy' := hy
    obtain ⟨a2, n9, c4, rfl, _, _, _⟩ := hy'
    refine ⟨_, _, _, _, _, _, _, hv, Br.mk (fun h3 => ?_) (fun h3 => ?_)⟩
    · have h3 : (readL (tx q)).2 ≠ 0 := by simpa using h3
      have hz := readL_rest h3
      rw [hz] at hy ⊢
      refine Br.t rfl ((ct33 zeroEn zeroEn _ _ I7 hy (bysl_nil I7) byteL_nil byteL_nil).mono fun v7 I8 l8 hv => ⟨_, hv, by rw [decide_eq_true rfl]⟩)
    · have h3 : (readL (tx q)).2 = 0 := by simpa using h3
      obtain ⟨r1, r2, _⟩ := readL_spec h3
      have hok := readL_okE (t := tx q) (by omega)
      refine (ct22 _ hok _ I7 ((hG5.mono l6).mono l7) hy).mono fun v7 I8 l8 hv => ?_
      rw [lineE, r1, r2, strT_tx] at hv
      refine ⟨_, _, hv, Br.t rfl (Br.t (by rw [str_eq]; exact decide_eq_true rfl) ?_)⟩
      exact (ct32 _ _ I8 (hy.mono l8) hok.bs).mono fun v8 I9 l9 hv => ⟨_, hv, by rw [r1]⟩
theorem ct11Q (I : Mem) (hG : Globs I) (v0 v1 : Value) (h0 : Q28 I v0) (h1 : Q9 I v1) : Ct Tryz.prog (fnv 11) #[v0, v1] I (fun v _ => v = .bool true) := by
  obtain ⟨a, n, c, l, rfl, hM, hc, _⟩ := h0
  obtain ⟨s, rfl, hs⟩ := h1
  exact ct11 I hG l a n c hM hc s hs
