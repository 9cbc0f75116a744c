/- Part of a proof by the rules of the symbolic walk (see the law's own text): contracts of functions of the program. -/
import Derived.Test.YthfgpdjplknleaaGreatDoorGT
open Go Go.Proofs Go.SE Go.RowKit
set_option linter.unusedVariables false
set_option maxRecDepth 100000
theorem tx_cons (c : UInt8) (s : ByteArray) : tx ((⟨#[c]⟩ : ByteArray) ++ s) = c :: tx s := by
  have := strT_add [c] (tx s)
  rw [show strT (tx s) = s from rfl, show strT [c] = (⟨#[c]⟩ : ByteArray) from rfl] at this
  rw [this, tx_strT]; rfl
theorem joinC_pre (c : UInt8) (x : Tx) (l : List Tx) : x <+: joinC c (x :: l) := by
  cases l with
  | nil => exact List.prefix_refl x
  | cons y r => exact List.prefix_append x _
theorem sl_takeN {I : Mem} {a : Option Addr} {n k : Nat} {l : List Int} (h : SlM I a n 1 (ints .u8 l)) (hk : k ≤ n) : SlM I a k 1 (ints .u8 (l.take k)) := by
  have hl := h.numLen
  refine ⟨by rw [ints_len, List.length_take]; omega, fun ha => by have := h.nil ha; omega, Nat.le_trans hk h.max, fun j v hj => h.at_ j v ?_⟩
  have e : ints .u8 (l.take k) = (ints .u8 l).take k := by simp [ints, List.map_take]
  rw [e, List.getElem?_take] at hj
  split at hj
  · exact hj
  · cases hj
theorem ct6 (I : Mem) (hG : Globs I) (x : Sm) (hx : okSm x) (slot : Int) (hs : 0 ≤ slot ∧ slot ≤ 4294967295) (a : Option Addr) (n c : Nat) (bs : List Int) (h : SlM I a n 1 (ints .u8 bs)) (hc : n ≤ c) (hm : c ≤ maxLen) (hb : byteL bs) :
    Ct Tryz.prog (fnv 6) #[.agg (smV x).toArray, .int .u32 slot, .slice a n c] I (fun v _ => v = .bool true) := by
  refine viaR (ct_via (A := { }) Tryz.func6 rfl Tryz.call6 rfl rfl) (Ct Tryz.prog (.func (.func 14) #[] #[]) #[] I fun v b => ∃ d, v = .bool d ∧ Br (!d) (Value.bool false = .bool true) (Ct Tryz.prog (.func (.func 19) #[] #[]) #[.agg #[.int .u8 x.kind, .string x.name, .int .u32 x.a, .int .u32 x.b, .int .u32 x.c, .int .i64 x.val]] b (fun e f => ∃ g i q j k l m o p r s t u w, e = .agg #[.int .u8 g, .int .u8 i, .string q, .int .i64 j, .int .i64 k, .int .i64 l, .int .i64 m, .int .i64 o, .int .i64 p, .int .i64 r, .int .i64 s, .slice t u w] ∧ Wr .i64 slot fun y => Ct Tryz.prog (.func (.func 20) #[] #[]) #[.int .i64 y, .agg #[.int .u8 g, .int .u8 i, .string q, .int .i64 j, .int .i64 k, .int .i64 l, .int .i64 m, .int .i64 o, .int .i64 p, .int .i64 r, .int .i64 s, .slice t u w]] f fun z I1 => ∃ n1 n2 n3 a1 n4 c1 n5, z = .tuple #[.agg #[.int .u8 n1, .int .i64 n2, .int .i64 n3, .slice a1 n4 c1], .int .i64 n5] ∧ Ct Tryz.prog (.func (.func 21) #[] #[]) #[.agg #[.int .u8 g, .int .u8 i, .string q, .int .i64 j, .int .i64 k, .int .i64 l, .int .i64 m, .int .i64 o, .int .i64 p, .int .i64 r, .int .i64 s, .slice t u w]] I1 fun v1 I2 => ∃ q1 n6, v1 = .tuple #[.string q1, .int .i64 n6] ∧ Ct Tryz.prog (.func (.func 22) #[] #[]) #[.agg #[.int .u8 n1, .int .i64 n2, .int .i64 n3, .slice a1 n4 c1]] I2 fun v2 I3 => ∃ q2 n7, v2 = .tuple #[.string q2, .int .i64 n7] ∧ Ct Tryz.prog (.func (.func 23) #[] #[]) #[.slice a1 n4 c1] I3 fun v3 I4 => ∃ n8 n9 q3 n10 n11 n12 n13 n14 n15 n16 n17 a2 n18 c2 n19, v3 = .tuple #[.agg #[.int .u8 n8, .int .u8 n9, .string q3, .int .i64 n10, .int .i64 n11, .int .i64 n12, .int .i64 n13, .int .i64 n14, .int .i64 n15, .int .i64 n16, .int .i64 n17, .slice a2 n18 c2], .int .i64 n19] ∧ Wr .i64 (n5 + n6) fun c3 => Wr .i64 (c3 + n7) fun c4 => Wr .i64 (c4 + n19) fun c5 => Br (c5 != 0) (Value.bool false = .bool true) (Br (n1 != 1) (Value.bool false = .bool true) (Wr .i64 slot (fun c6 => Br (n2 != c6) (Value.bool false = .bool true) (Br (n3 != 0) (Value.bool false = .bool true) (Ct Tryz.prog (.func (.func 24) #[] #[]) #[.agg #[.int .u8 n8, .int .u8 n9, .string q3, .int .i64 n10, .int .i64 n11, .int .i64 n12, .int .i64 n13, .int .i64 n14, .int .i64 n15, .int .i64 n16, .int .i64 n17, .slice a2 n18 c2], .agg #[.int .u8 g, .int .u8 i, .string q, .int .i64 j, .int .i64 k, .int .i64 l, .int .i64 m, .int .i64 o, .int .i64 p, .int .i64 r, .int .i64 s, .slice t u w]] I4 (fun v4 I5 => ∃ b1, v4 = .bool b1 ∧ Br (!b1) (Value.bool false = .bool true) (Ct Tryz.prog (.func (.func 25) #[] #[]) #[.string q2, .string ⟨#[97, 115, 107, 32]⟩] I5 (fun v5 I6 => ∃ b2, v5 = .bool b2 ∧ Br (!b2) (Value.bool false = .bool true) (1 + q1.size ≤ 4611686018427387904 ∧ Ct Tryz.prog (.func (.func 26) #[] #[]) #[.string q2, .string (⟨#[32]⟩ ++ q1)] I6 fun v6 I7 => ∃ b3, v6 = .bool b3 ∧ Br (!b3) (Value.bool false = .bool true) (Ct Tryz.prog (.func (.func 27) #[] #[]) #[.int .u8 g] I7 (fun v7 I8 => ∃ q4, v7 = .string q4 ∧ Ct Tryz.prog (.func (.func 25) #[] #[]) #[.string q1, .string q4] I8 fun v8 I9 => ∃ b4, v8 = .bool b4 ∧ Br (!b4) (Value.bool false = .bool true) (Ct Tryz.prog (.func (.func 28) #[] #[]) #[.int .u8 g, .int .u8 i] I9 (fun v9 I10 => ∃ a3 n20 c7 b5, v9 = .tuple #[.slice a3 n20 c7, .bool b5] ∧ Br (!b5) (Value.bool false = .bool true) (Ct Tryz.prog (.func (.func 29) #[] #[]) #[.string q1, .string ⟨#[32]⟩] I10 (fun v10 I11 => ∃ n21, v10 = .int .i64 n21 ∧ Br (n21 != (n20 : Int)) (Value.bool false = .bool true) (Ct Tryz.prog (.func (.func 29) #[] #[]) #[.string q2, .string ⟨#[32]⟩] I11 (fun v11 I12 => ∃ n22, v11 = .int .i64 n22 ∧ Wr .i64 ((n20 : Int) + 2) fun c8 => Br (n22 != c8) (Value.bool false = .bool true) (0 ≤ (bif false then imax (n : Int) 60 else imin (n : Int) 60) ∧ (bif false then imax (n : Int) 60 else imin (n : Int) 60) ≤ (c : Int) ∧ Wr .i64 slot fun c9 => Ct Tryz.prog (.func (.func 22) #[] #[]) #[.agg #[.int .u8 1, .int .i64 c9, .int .i64 0, .slice a (bif false then imax (n : Int) 60 else imin (n : Int) 60).toNat c]] I12 fun v12 I13 => ∃ q5 n23, v12 = .tuple #[.string q5, .int .i64 n23] ∧ Ct Tryz.prog (.func (.func 23) #[] #[]) #[.slice a (bif false then imax (n : Int) 60 else imin (n : Int) 60).toNat c] I13 fun v13 I14 => ∃ n24 n25 q6 n26 n27 n28 n29 n30 n31 n32 n33 a4 n34 c10 n35, v13 = .tuple #[.agg #[.int .u8 n24, .int .u8 n25, .string q6, .int .i64 n26, .int .i64 n27, .int .i64 n28, .int .i64 n29, .int .i64 n30, .int .i64 n31, .int .i64 n32, .int .i64 n33, .slice a4 n34 c10], .int .i64 n35] ∧ Br (n23 == 0) (Ct Tryz.prog (.func (.func 25) #[] #[]) #[.string q5, .string ⟨#[97, 115, 107, 32]⟩] I14 (fun v14 I15 => ∃ b6, v14 = .bool b6 ∧ Br (b6 == (n35 == 0)) (Ct Tryz.prog (.func (.func 25) #[] #[]) #[.string q5, .string ⟨#[114, 97, 119, 32]⟩] I15 (fun v15 I16 => ∃ b7, v15 = .bool b7 ∧ Br (b7 == (n35 != 0)) (Br (n35 == 0) (Rf (Value.bool true)) (Ct Tryz.prog (.func (.func 30) #[] #[]) #[.slice a (bif false then imax (n : Int) 60 else imin (n : Int) 60).toNat c] I16 (fun v16 I17 => ∃ q7, v16 = .string q7 ∧ 1 + q7.size ≤ 4611686018427387904 ∧ Ct Tryz.prog (.func (.func 26) #[] #[]) #[.string q5, .string (⟨#[37]⟩ ++ q7)] I17 fun v17 I18 => ∃ b8, v17 = .bool b8 ∧ Value.bool b8 = .bool true))) (Value.bool false = .bool true))) (Value.bool false = .bool true))) (Value.bool false = .bool true)))))))))))))))))))))) (by kernel_rfl) ?_
  obtain ⟨ho, hn100, hf100, hR⟩ := made_shape x hx
  obtain ⟨r, hr⟩ : ∃ r, r = madeR x := ⟨_, rfl⟩
  rw [← hr] at ho hn100 hf100 hR
  have hsl : i64R slot := ⟨by omega, by omega⟩
  obtain ⟨hE, hcl⟩ := askE_right ho hR hs
  have hline := line_right ho hR (slot := slot) hcl
  obtain ⟨_, hrd⟩ := read_writeR ho hR
  obtain ⟨htl, hn255, hf15, _⟩ := right_tag hR
  have hlE : lineE ⟨1, slot, 0, writeR r⟩ = 0 := by rw [lineE, hcl]; rfl
  have hWb := write_ok ho hR
  have hWl := writeR_len ho hR
  have hok : okEn ⟨1, slot, 0, writeR r⟩ := ⟨k255 (.inr (.inl rfl)), hsl, i64R_zero, hWb⟩
  have hwsz := (words_len ho hR).2
  refine (ct14 I hG).mono fun v b lb hv => ⟨_, hv, Br.f rfl ((ct19 x hx b).mono fun e f lf ⟨y, hv, hy⟩ => ?_)⟩
  rw [← hr] at hv hy
  have hy' := hy
  obtain ⟨t, u, w, rfl, _, _, _⟩ := hy'
  refine ⟨_, _, _, _, _, _, _, _, _, _, _, _, _, _, hv, wr_i64 (by omega) (by omega) ?_⟩
  have hGf := hG.mono (Mem.le_trans lb lf)
  refine (ct20 slot hsl r ho (by omega) _ f hy (by omega)).mono fun z I1 l1 ⟨y1, hv, hy1⟩ => ?_
  rw [hE] at hv hy1
  have hy1' := hy1
  obtain ⟨a1, n4, c1, rfl, hp1, hpc1, hpm1⟩ := hy1'
  have hn4 : n4 = (writeR r).length := hp1.numLen
  refine ⟨_, _, _, _, _, _, _, hv, (ct21 r ho (by omega) _ I1 (hGf.mono l1) (hy.mono l1) (by omega) ho.fed).mono fun v1 I2 l2 hv => ?_⟩
  rw [hR] at hv
  simp only [if_true] at hv
  have hG2 := hGf.mono (Mem.le_trans l1 l2)
  refine ⟨_, _, hv, (ct22 _ hok _ I2 hG2 (hy1.mono l2)).mono fun v2 I3 l3 hv => ?_⟩
  rw [hlE, hline] at hv
  refine ⟨_, _, hv, (ct23 (writeR r) hWb a1 n4 c1 I3 (hp1.mono (Mem.le_trans l2 l3)) (by omega) hpc1 hpm1).mono fun v3 I4 l4 ⟨y2, hv, hy2, _⟩ => ?_⟩
  rw [hrd] at hv hy2
  have hy2' := hy2
  obtain ⟨a2, n18, c2, rfl, _, _, _⟩ := hy2'
  refine ⟨_, _, _, _, _, _, _, _, _, _, _, _, _, _, _, hv, ?_⟩
  refine wr_i64 (n := (0 : Int) + 0) (by decide) (by decide) (wr_i64 (n := (0 : Int) + 0) (by decide) (by decide) (wr_i64 (n := (0 : Int) + 0) (by decide) (by decide) (Br.f rfl (Br.f rfl (wr_i64 (by omega) (by omega) (Br.f (by simp) (Br.f rfl ?_)))))))
  have l14 := Mem.le_trans l2 (Mem.le_trans l3 l4)
  refine (ct24 r r ho ho _ _ I4 hy2 (hy.mono (Mem.le_trans l1 l14))).mono fun v4 I5 l5 hv => ⟨_, hv, Br.f (by simp [sameR]) ?_⟩
  have hpre : (tx (⟨#[97, 115, 107, 32]⟩ : ByteArray)).isPrefixOf (askB ++ 32 :: (Lib.itoa slot ++ 32 :: tx (wordsB r))) = true := rfl
  refine (ct25 _ _ I5).mono fun v5 I6 l6 hv => ⟨_, hv, Br.f (by rw [tx_strT, hpre]; rfl) ⟨by omega, ?_⟩⟩
  have hlsz : (strT (askB ++ 32 :: (Lib.itoa slot ++ 32 :: tx (wordsB r)))).size ≤ 2000000 := by
    have h1 := itoa_len hsl
    have h2 : (tx (wordsB r)).length = (wordsB r).size := Array.length_toList
    rw [strT_size]
    simp only [List.length_append, List.length_cons, askB, List.length_nil]
    omega
  have hsuf : (tx ((⟨#[32]⟩ : ByteArray) ++ wordsB r)).isSuffixOf (tx (strT (askB ++ 32 :: (Lib.itoa slot ++ 32 :: tx (wordsB r))))) = true := by
    rw [List.isSuffixOf_iff_suffix, tx_strT]
    refine ⟨askB ++ 32 :: Lib.itoa slot, ?_⟩
    have : tx ((⟨#[32]⟩ : ByteArray) ++ wordsB r) = 32 :: tx (wordsB r) := tx_cons 32 _
    rw [this]; simp
  refine (ct26 _ _ (by omega) I6).mono fun v6 I7 l7 hv => ⟨_, hv, Br.f (by rw [hsuf]; rfl) ?_⟩
  refine (ct27 r.kind ho.kind I7).mono fun v7 I8 l8 hv => ⟨_, hv, (ct25 _ _ I8).mono fun v8 I9 l9 hv => ⟨_, hv, Br.f ?_ ?_⟩⟩
  · have : (tx (nameS r.kind)).isPrefixOf (tx (wordsB r)) = true := by
      rw [List.isPrefixOf_iff_prefix, wordsB, joinB, tx_strT, wordsL, List.map_cons]
      exact joinC_pre _ _ _
    rw [this]; rfl
  refine (ct28 r.kind r.what I9).mono fun v9 I10 l10 ⟨ya, yn, yc, hv, hsl1, _⟩ => ⟨_, _, _, _, hv, Br.f (by rw [htl]; rfl) ?_⟩
  rw [htl, Option.getD_some] at hsl1
  have hyn : yn = (tagsR r).length := hsl1.numLen
  have htl4 := (tagL_ok htl).2
  refine (ct29 _ 32 I10).mono fun v10 I11 l11 hv => ⟨_, hv, Br.f (by rw [words_count ho.fed, hyn]; simp) ?_⟩
  refine (ct29 _ 32 I11).mono fun v11 I12 l12 hv => ⟨_, hv, wr_i64 (by omega) (by omega) (Br.f ?_ ?_)⟩
  · have : (tx (strT (askB ++ 32 :: (Lib.itoa slot ++ 32 :: tx (wordsB r))))).count 32 = yn + 2 := by
      rw [tx_strT, List.count_append, List.count_cons_self, List.count_append, List.count_cons_self, words_count ho.fed, free_count (itoa_free slot), hyn, show askB.count 32 = 0 by decide]
      omega
    rw [this]; simp
  have e60 : (bif false then imax (n : Int) 60 else imin (n : Int) 60) = ((min n 60 : Nat) : Int) := by
    show imin (n : Int) 60 = _
    rw [imin]; split <;> omega
  rw [e60, Int.toNat_natCast]
  have lI : I.le I12 := Mem.le_trans lb (Mem.le_trans lf (Mem.le_trans l1 (Mem.le_trans l14 (Mem.le_trans l5 (Mem.le_trans l6 (Mem.le_trans l7 (Mem.le_trans l8 (Mem.le_trans l9 (Mem.le_trans l10 (Mem.le_trans l11 l12))))))))))
  have hb6 : byteL (bs.take (min n 60)) := fun z hz => hb z (List.mem_of_mem_take hz)
  have hlen := h.numLen
  have hb60 : (bs.take (min n 60)).length ≤ 60 := by rw [List.length_take]; omega
  have hsl2 : SlM I12 a (min n 60) 1 (ints .u8 (bs.take (min n 60))) := sl_takeN (h.mono lI) (Nat.min_le_left _ _)
  refine ⟨by omega, by omega, wr_i64 (by omega) (by omega) ?_⟩
  obtain ⟨any, hany⟩ : ∃ q, q = bs.take (min n 60) := ⟨_, rfl⟩
  obtain ⟨m, hm60⟩ : ∃ q, q = min n 60 := ⟨_, rfl⟩
  rw [← hany] at hb6 hb60 hsl2
  rw [← hm60] at hsl2 ⊢
  have hmn : m ≤ 60 := by omega
  have hcl2 : cleanE ⟨1, slot, 0, any⟩ = true := by
    rw [cleanE, if_pos rfl, withinB, decide_eq_true hs, decide_eq_true (p := (0 : Int) = 0) rfl, decide_eq_true (by show any.length ≤ 16384; omega)]; rfl
  have hok2 : okEn ⟨1, slot, 0, any⟩ := ⟨k255 (.inr (.inl rfl)), hsl, i64R_zero, hb6⟩
  refine (ct22 ⟨1, slot, 0, any⟩ hok2 _ I12 (hG.mono lI) ⟨a, m, c, rfl, hsl2, by omega, hm⟩).mono fun v12 I13 l13 hv => ⟨_, _, hv, ?_⟩
  refine (ct23 any hb6 a m c I13 (hsl2.mono l13) (by omega) (by omega) hm).mono fun v13 I14 l14' ⟨y3, hv, hy3, _⟩ => ?_
  obtain ⟨a4, n34, c10, rfl, _, _, _⟩ := hy3
  refine ⟨_, _, _, _, _, _, _, _, _, _, _, _, _, _, _, hv, ?_⟩
  have hl0 : lineE ⟨1, slot, 0, any⟩ = 0 := by rw [lineE, hcl2]; rfl
  refine Br.t (by rw [hl0]; rfl) ?_
  cases ha : accB any with
  | true =>
    obtain ⟨ho2, hr2, hw2, h02⟩ := read_back hb6 ha
    have hlt : lineT ⟨1, slot, 0, any⟩ = askB ++ 32 :: (Lib.itoa slot ++ 32 :: tx (wordsB (readR any).1)) := by
      have := line_right ho2 hr2 (slot := slot) (by rw [hw2]; exact hcl2)
      rwa [hw2] at this
    rw [h02, hlt]
    refine (ct25 _ _ I14).mono fun v14 I15 l15 hv => ⟨_, hv, Br.t rfl ((ct25 _ _ I15).mono fun v15 I16 l16 hv => ⟨_, hv, Br.t rfl (Br.t rfl rfl)⟩)⟩
  | false =>
    have hr2 := read_bad ha
    have hlt : lineT ⟨1, slot, 0, any⟩ = rawB ++ 32 :: (Lib.itoa slot ++ 32 :: wordT any) := by
      rw [lineT, if_neg (by rw [hcl2]; decide), if_neg (fun e => absurd (show (1 : Int) = 2 from e) (by decide)), if_neg (fun e => absurd (show (1 : Int) = 3 from e) (by decide)), hr2, if_neg (by decide)]
    rw [hr2, hlt]
    refine (ct25 _ _ I14).mono fun v14 I15 l15 hv => ⟨_, hv, Br.t rfl ((ct25 _ _ I15).mono fun v15 I16 l16 hv => ⟨_, hv, Br.t rfl (Br.f rfl ?_)⟩)⟩
    have hsz2 : (strT (rawB ++ 32 :: (Lib.itoa slot ++ 32 :: wordT any))).size ≤ 2000000 := by
      have h1 := itoa_len hsl
      rw [strT_size]
      simp only [List.length_append, List.length_cons, rawB, List.length_nil, word_len]
      omega
    refine (ct30 any hb6 a m c I16 (hsl2.mono (Mem.le_trans l13 (Mem.le_trans l14' (Mem.le_trans l15 l16)))) (by omega)).mono fun v16 I17 l17 hv => ⟨_, hv, ?_, (ct26 _ _ (by omega) I17).mono fun v17 I18 l18 hv => ⟨_, hv, ?_⟩⟩
    · rw [strT_size, hex_len]; omega
    · congr 1
      rw [List.isSuffixOf_iff_suffix, tx_strT, tx_cons, tx_strT]
      exact ⟨rawB ++ 32 :: (Lib.itoa slot ++ [32]), by simp [wordT]⟩
