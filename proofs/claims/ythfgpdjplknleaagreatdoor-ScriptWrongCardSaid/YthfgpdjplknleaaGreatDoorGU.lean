/- Part of a proof by the rules of the symbolic walk (see the law's own text): contracts of functions of the program. -/
import Derived.Test.YthfgpdjplknleaaGreatDoorGT
import Derived.Test.YthfgpdjplknleaaGreatDoorSe22
import Derived.Test.YthfgpdjplknleaaGreatDoorSe27
import Derived.Lib.Builder
import Derived.Shelf.RegionOpenPlain
import Derived.Shelf.Strings.BuilderX
import Derived.Lib.UnsafeStr
import Derived.Lib.Strings
import Derived.Lib.Walk
import Derived.WalkKit
import Derived.Laws.Externs
import Derived.Test.YthfgpdjplknleaaGreatDoorSe28
open Go Go.Proofs Go.SE Go.RowKit
set_option linter.unusedVariables false
set_option maxRecDepth 100000
theorem tx_cons (c : UInt8) (s : ByteArray) : tx ((⟨#[c]⟩ : ByteArray) ++ s) = c :: tx s := by
  have := strT_add [c] (tx s)
  rw [show strT (tx s) = s from rfl, show strT [c] = (⟨#[c]⟩ : ByteArray) from rfl] at this
  rw [this, tx_strT]; rfl
theorem joinC_pre (c : UInt8) (x : Tx) (l : List Tx) : x <+: joinC c (x :: l) := by
  cases l with
  | nil => exact List.prefix_refl x
  | cons y r => exact List.prefix_append x _
theorem sl_takeN {I : Mem} {a : Option Addr} {n k : Nat} {l : List Int} (h : SlM I a n 1 (ints .u8 l)) (hk : k ≤ n) : SlM I a k 1 (ints .u8 (l.take k)) := by
  have hl := h.numLen
  refine ⟨by rw [ints_len, List.length_take]; omega, fun ha => by have := h.nil ha; omega, Nat.le_trans hk h.max, fun j v hj => h.at_ j v ?_⟩
  have e : ints .u8 (l.take k) = (ints .u8 l).take k := by simp [ints, List.map_take]
  rw [e, List.getElem?_take] at hj
  split at hj
  · exact hj
  · cases hj
theorem ct6 (I : Mem) (hG : Globs I) (x : Sm) (hx : okSm x) (slot : Int) (hs : 0 ≤ slot ∧ slot ≤ 4294967295) (a : Option Addr) (n c : Nat) (bs : List Int) (h : SlM I a n 1 (ints .u8 bs)) (hc : n ≤ c) (hm : c ≤ maxLen) (hb : byteL bs) :
    Ct Tryz.prog (fnv 6) #[.agg (smV x).toArray, .int .u32 slot, .slice a n c] I (fun v _ => v = .bool true) := by
  refine viaR (ct_via (A := { }) Tryz.func6 rfl Tryz.call6 rfl rfl) (Ct Tryz.prog (.func (.func 14) #[] #[]) #[] I fun v b => ∃ d, v = .bool d ∧ Br (!d) (Value.bool false = .bool true) (Ct Tryz.prog (.func (.func 19) #[] #[]) #[.agg #[.int .u8 x.kind, .string x.name, .int .u32 x.a, .int .u32 x.b, .int .u32 x.c, .int .i64 x.val]] b (fun e f => ∃ g i q j k l m o p r s t u w, e = .agg #[.int .u8 g, .int .u8 i, .string q, .int .i64 j, .int .i64 k, .int .i64 l, .int .i64 m, .int .i64 o, .int .i64 p, .int .i64 r, .int .i64 s, .slice t u w] ∧ Wr .i64 slot fun y => Ct Tryz.prog (.func (.func 20) #[] #[]) #[.int .i64 y, .agg #[.int .u8 g, .int .u8 i, .string q, .int .i64 j, .int .i64 k, .int .i64 l, .int .i64 m, .int .i64 o, .int .i64 p, .int .i64 r, .int .i64 s, .slice t u w]] f fun z I1 => ∃ n1 n2 n3 a1 n4 c1 n5, z = .tuple #[.agg #[.int .u8 n1, .int .i64 n2, .int .i64 n3, .slice a1 n4 c1], .int .i64 n5] ∧ Ct Tryz.prog (.func (.func 21) #[] #[]) #[.agg #[.int .u8 g, .int .u8 i, .string q, .int .i64 j, .int .i64 k, .int .i64 l, .int .i64 m, .int .i64 o, .int .i64 p, .int .i64 r, .int .i64 s, .slice t u w]] I1 fun v1 I2 => ∃ q1 n6, v1 = .tuple #[.string q1, .int .i64 n6] ∧ Ct Tryz.prog (.func (.func 22) #[] #[]) #[.agg #[.int .u8 n1, .int .i64 n2, .int .i64 n3, .slice a1 n4 c1]] I2 fun v2 I3 => ∃ q2 n7, v2 = .tuple #[.string q2, .int .i64 n7] ∧ Ct Tryz.prog (.func (.func 23) #[] #[]) #[.slice a1 n4 c1] I3 fun v3 I4 => ∃ n8 n9 q3 n10 n11 n12 n13 n14 n15 n16 n17 a2 n18 c2 n19, v3 = .tuple #[.agg #[.int .u8 n8, .int .u8 n9, .string q3, .int .i64 n10, .int .i64 n11, .int .i64 n12, .int .i64 n13, .int .i64 n14, .int .i64 n15, .int .i64 n16, .int .i64 n17, .slice a2 n18 c2], .int .i64 n19] ∧ Wr .i64 (n5 + n6) fun c3 => Wr .i64 (c3 + n7) fun c4 => Wr .i64 (c4 + n19) fun c5 => Br (c5 != 0) (Value.bool false = .bool true) (Br (n1 != 1) (Value.bool false = .bool true) (Wr .i64 slot (fun c6 => Br (n2 != c6) (Value.bool false = .bool true) (Br (n3 != 0) (Value.bool false = .bool true) (Ct Tryz.prog (.func (.func 24) #[] #[]) #[.agg #[.int .u8 n8, .int .u8 n9, .string q3, .int .i64 n10, .int .i64 n11, .int .i64 n12, .int .i64 n13, .int .i64 n14, .int .i64 n15, .int .i64 n16, .int .i64 n17, .slice a2 n18 c2], .agg #[.int .u8 g, .int .u8 i, .string q, .int .i64 j, .int .i64 k, .int .i64 l, .int .i64 m, .int .i64 o, .int .i64 p, .int .i64 r, .int .i64 s, .slice t u w]] I4 (fun v4 I5 => ∃ b1, v4 = .bool b1 ∧ Br (!b1) (Value.bool false = .bool true) (Ct Tryz.prog (.func (.func 25) #[] #[]) #[.string q2, .string ⟨#[97, 115, 107, 32]⟩] I5 (fun v5 I6 => ∃ b2, v5 = .bool b2 ∧ Br (!b2) (Value.bool false = .bool true) (1 + q1.size ≤ 4611686018427387904 ∧ Ct Tryz.prog (.func (.func 26) #[] #[]) #[.string q2, .string (⟨#[32]⟩ ++ q1)] I6 fun v6 I7 => ∃ b3, v6 = .bool b3 ∧ Br (!b3) (Value.bool false = .bool true) (Ct Tryz.prog (.func (.func 27) #[] #[]) #[.int .u8 g] I7 (fun v7 I8 => ∃ q4, v7 = .string q4 ∧ Ct Tryz.prog (.func (.func 25) #[] #[]) #[.string q1, .string q4] I8 fun v8 I9 => ∃ b4, v8 = .bool b4 ∧ Br (!b4) (Value.bool false = .bool true) (Ct Tryz.prog (.func (.func 28) #[] #[]) #[.int .u8 g, .int .u8 i] I9 (fun v9 I10 => ∃ a3 n20 c7 b5, v9 = .tuple #[.slice a3 n20 c7, .bool b5] ∧ Br (!b5) (Value.bool false = .bool true) (Ct Tryz.prog (.func (.func 29) #[] #[]) #[.string q1, .string ⟨#[32]⟩] I10 (fun v10 I11 => ∃ n21, v10 = .int .i64 n21 ∧ Br (n21 != (n20 : Int)) (Value.bool false = .bool true) (Ct Tryz.prog (.func (.func 29) #[] #[]) #[.string q2, .string ⟨#[32]⟩] I11 (fun v11 I12 => ∃ n22, v11 = .int .i64 n22 ∧ Wr .i64 ((n20 : Int) + 2) fun c8 => Br (n22 != c8) (Value.bool false = .bool true) (0 ≤ (bif false then imax (n : Int) 60 else imin (n : Int) 60) ∧ (bif false then imax (n : Int) 60 else imin (n : Int) 60) ≤ (c : Int) ∧ Wr .i64 slot fun c9 => Ct Tryz.prog (.func (.func 22) #[] #[]) #[.agg #[.int .u8 1, .int .i64 c9, .int .i64 0, .slice a (bif false then imax (n : Int) 60 else imin (n : Int) 60).toNat c]] I12 fun v12 I13 => ∃ q5 n23, v12 = .tuple #[.string q5, .int .i64 n23] ∧ Ct Tryz.prog (.func (.func 23) #[] #[]) #[.slice a (bif false then imax (n : Int) 60 else imin (n : Int) 60).toNat c] I13 fun v13 I14 => ∃ n24 n25 q6 n26 n27 n28 n29 n30 n31 n32 n33 a4 n34 c10 n35, v13 = .tuple #[.agg #[.int .u8 n24, .int .u8 n25, .string q6, .int .i64 n26, .int .i64 n27, .int .i64 n28, .int .i64 n29, .int .i64 n30, .int .i64 n31, .int .i64 n32, .int .i64 n33, .slice a4 n34 c10], .int .i64 n35] ∧ Br (n23 == 0) (Ct Tryz.prog (.func (.func 25) #[] #[]) #[.string q5, .string ⟨#[97, 115, 107, 32]⟩] I14 (fun v14 I15 => ∃ b6, v14 = .bool b6 ∧ Br (b6 == (n35 == 0)) (Ct Tryz.prog (.func (.func 25) #[] #[]) #[.string q5, .string ⟨#[114, 97, 119, 32]⟩] I15 (fun v15 I16 => ∃ b7, v15 = .bool b7 ∧ Br (b7 == (n35 != 0)) (Br (n35 == 0) (Rf (Value.bool true)) (Ct Tryz.prog (.func (.func 30) #[] #[]) #[.slice a (bif false then imax (n : Int) 60 else imin (n : Int) 60).toNat c] I16 (fun v16 I17 => ∃ q7, v16 = .string q7 ∧ 1 + q7.size ≤ 4611686018427387904 ∧ Ct Tryz.prog (.func (.func 26) #[] #[]) #[.string q5, .string (⟨#[37]⟩ ++ q7)] I17 fun v17 I18 => ∃ b8, v17 = .bool b8 ∧ Value.bool b8 = .bool true))) (Value.bool false = .bool true))) (Value.bool false = .bool true))) (Value.bool false = .bool true)))))))))))))))))))))) (by kernel_rfl) ?_
  obtain ⟨ho, hn100, hf100, hR⟩ := made_shape x hx
  obtain ⟨r, hr⟩ : ∃ r, r = madeR x := ⟨_, rfl⟩
  rw [← hr] at ho hn100 hf100 hR
  have hsl : i64R slot := ⟨by omega, by omega⟩
  obtain ⟨hE, hcl⟩ := askE_right ho hR hs
  have hline := line_right ho hR (slot := slot) hcl
  obtain ⟨_, hrd⟩ := read_writeR ho hR
  obtain ⟨htl, hn255, hf15, _⟩ := right_tag hR
  have hlE : lineE ⟨1, slot, 0, writeR r⟩ = 0 := by rw [lineE, hcl]; rfl
  have hWb := write_ok ho hR
  have hWl := writeR_len ho hR
  have hok : okEn ⟨1, slot, 0, writeR r⟩ := ⟨k255 (.inr (.inl rfl)), hsl, i64R_zero, hWb⟩
  have hwsz := (words_len ho hR).2
  refine (ct14 I hG).mono fun v b lb hv => ⟨_, hv, Br.f rfl ((ct19 x hx b).mono fun e f lf ⟨y, hv, hy⟩ => ?_)⟩
  rw [← hr] at hv hy
  have hy' := hy
  obtain ⟨t, u, w, rfl, _, _, _⟩ := hy'
  refine ⟨_, _, _, _, _, _, _, _, _, _, _, _, _, _, hv, wr_i64 (by omega) (by omega) ?_⟩
  have hGf := hG.mono (Mem.le_trans lb lf)
  refine (ct20 slot hsl r ho (by omega) _ f hy (by omega)).mono fun z I1 l1 ⟨y1, hv, hy1⟩ => ?_
  rw [hE] at hv hy1
  have hy1' := hy1
  obtain ⟨a1, n4, c1, rfl, hp1, hpc1, hpm1⟩ := hy1'
  have hn4 : n4 = (writeR r).length := hp1.numLen
  refine ⟨_, _, _, _, _, _, _, hv, (ct21 r ho (by omega) _ I1 (hGf.mono l1) (hy.mono l1) (by omega) ho.fed).mono fun v1 I2 l2 hv => ?_⟩
  rw [hR] at hv
  simp only [if_true] at hv
  have hG2 := hGf.mono (Mem.le_trans l1 l2)
  refine ⟨_, _, hv, (ct22 _ hok _ I2 hG2 (hy1.mono l2)).mono fun v2 I3 l3 hv => ?_⟩
  rw [hlE, hline] at hv
  refine ⟨_, _, hv, (ct23 (writeR r) hWb a1 n4 c1 I3 (hp1.mono (Mem.le_trans l2 l3)) (by omega) hpc1 hpm1).mono fun v3 I4 l4 ⟨y2, hv, hy2, _⟩ => ?_⟩
  rw [hrd] at hv hy2
  have hy2' := hy2
  obtain ⟨a2, n18, c2, rfl, _, _, _⟩ := hy2'
  refine ⟨_, _, _, _, _, _, _, _, _, _, _, _, _, _, _, hv, ?_⟩
  refine wr_i64 (n := (0 : Int) + 0) (by decide) (by decide) (wr_i64 (n := (0 : Int) + 0) (by decide) (by decide) (wr_i64 (n := (0 : Int) + 0) (by decide) (by decide) (Br.f rfl (Br.f rfl (wr_i64 (by omega) (by omega) (Br.f (by simp) (Br.f rfl ?_)))))))
  have l14 := Mem.le_trans l2 (Mem.le_trans l3 l4)
  refine (ct24 r r ho ho _ _ I4 hy2 (hy.mono (Mem.le_trans l1 l14))).mono fun v4 I5 l5 hv => ⟨_, hv, Br.f (by simp [sameR]) ?_⟩
  have hpre : (tx (⟨#[97, 115, 107, 32]⟩ : ByteArray)).isPrefixOf (askB ++ 32 :: (Lib.itoa slot ++ 32 :: tx (wordsB r))) = true := rfl
  refine (ct25 _ _ I5).mono fun v5 I6 l6 hv => ⟨_, hv, Br.f (by rw [tx_strT, hpre]; rfl) ⟨by omega, ?_⟩⟩
  have hlsz : (strT (askB ++ 32 :: (Lib.itoa slot ++ 32 :: tx (wordsB r)))).size ≤ 2000000 := by
    have h1 := itoa_len hsl
    have h2 : (tx (wordsB r)).length = (wordsB r).size := Array.length_toList
    rw [strT_size]
    simp only [List.length_append, List.length_cons, askB, List.length_nil]
    omega
  have hsuf : (tx ((⟨#[32]⟩ : ByteArray) ++ wordsB r)).isSuffixOf (tx (strT (askB ++ 32 :: (Lib.itoa slot ++ 32 :: tx (wordsB r))))) = true := by
    rw [List.isSuffixOf_iff_suffix, tx_strT]
    refine ⟨askB ++ 32 :: Lib.itoa slot, ?_⟩
    have : tx ((⟨#[32]⟩ : ByteArray) ++ wordsB r) = 32 :: tx (wordsB r) := tx_cons 32 _
    rw [this]; simp
  refine (ct26 _ _ (by omega) I6).mono fun v6 I7 l7 hv => ⟨_, hv, Br.f (by rw [hsuf]; rfl) ?_⟩
  refine (ct27 r.kind ho.kind I7).mono fun v7 I8 l8 hv => ⟨_, hv, (ct25 _ _ I8).mono fun v8 I9 l9 hv => ⟨_, hv, Br.f ?_ ?_⟩⟩
  · have : (tx (nameS r.kind)).isPrefixOf (tx (wordsB r)) = true := by
      rw [List.isPrefixOf_iff_prefix, wordsB, joinB, tx_strT, wordsL, List.map_cons]
      exact joinC_pre _ _ _
    rw [this]; rfl
  refine (ct28 r.kind r.what I9).mono fun v9 I10 l10 ⟨ya, yn, yc, hv, hsl1, _⟩ => ⟨_, _, _, _, hv, Br.f (by rw [htl]; rfl) ?_⟩
  rw [htl, Option.getD_some] at hsl1
  have hyn : yn = (tagsR r).length := hsl1.numLen
  have htl4 := (tagL_ok htl).2
  refine (ct29 _ 32 I10).mono fun v10 I11 l11 hv => ⟨_, hv, Br.f (by rw [words_count ho.fed, hyn]; simp) ?_⟩
  refine (ct29 _ 32 I11).mono fun v11 I12 l12 hv => ⟨_, hv, wr_i64 (by omega) (by omega) (Br.f ?_ ?_)⟩
  · have : (tx (strT (askB ++ 32 :: (Lib.itoa slot ++ 32 :: tx (wordsB r))))).count 32 = yn + 2 := by
      rw [tx_strT, List.count_append, List.count_cons_self, List.count_append, List.count_cons_self, words_count ho.fed, free_count (itoa_free slot), hyn, show askB.count 32 = 0 by decide]
      omega
    rw [this]; simp
  have e60 : (bif false then imax (n : Int) 60 else imin (n : Int) 60) = ((min n 60 : Nat) : Int) := by
    show imin (n : Int) 60 = _
    rw [imin]; split <;> omega
  rw [e60, Int.toNat_natCast]
  have lI : I.le I12 := Mem.le_trans lb (Mem.le_trans lf (Mem.le_trans l1 (Mem.le_trans l14 (Mem.le_trans l5 (Mem.le_trans l6 (Mem.le_trans l7 (Mem.le_trans l8 (Mem.le_trans l9 (Mem.le_trans l10 (Mem.le_trans l11 l12))))))))))
  have hb6 : byteL (bs.take (min n 60)) := fun z hz => hb z (List.mem_of_mem_take hz)
  have hlen := h.numLen
  have hb60 : (bs.take (min n 60)).length ≤ 60 := by rw [List.length_take]; omega
  have hsl2 : SlM I12 a (min n 60) 1 (ints .u8 (bs.take (min n 60))) := sl_takeN (h.mono lI) (Nat.min_le_left _ _)
  refine ⟨by omega, by omega, wr_i64 (by omega) (by omega) ?_⟩
  obtain ⟨any, hany⟩ : ∃ q, q = bs.take (min n 60) := ⟨_, rfl⟩
  obtain ⟨m, hm60⟩ : ∃ q, q = min n 60 := ⟨_, rfl⟩
  rw [← hany] at hb6 hb60 hsl2
  rw [← hm60] at hsl2 ⊢
  have hmn : m ≤ 60 := by omega
  have hcl2 : cleanE ⟨1, slot, 0, any⟩ = true := by
    rw [cleanE, if_pos rfl, withinB, decide_eq_true hs, decide_eq_true (p := (0 : Int) = 0) rfl, decide_eq_true (by show any.length ≤ 16384; omega)]; rfl
  have hok2 : okEn ⟨1, slot, 0, any⟩ := ⟨k255 (.inr (.inl rfl)), hsl, i64R_zero, hb6⟩
  refine (ct22 ⟨1, slot, 0, any⟩ hok2 _ I12 (hG.mono lI) ⟨a, m, c, rfl, hsl2, by omega, hm⟩).mono fun v12 I13 l13 hv => ⟨_, _, hv, ?_⟩
  refine (ct23 any hb6 a m c I13 (hsl2.mono l13) (by omega) (by omega) hm).mono fun v13 I14 l14' ⟨y3, hv, hy3, _⟩ => ?_
  obtain ⟨a4, n34, c10, rfl, _, _, _⟩ := hy3
  refine ⟨_, _, _, _, _, _, _, _, _, _, _, _, _, _, _, hv, ?_⟩
  have hl0 : lineE ⟨1, slot, 0, any⟩ = 0 := by rw [lineE, hcl2]; rfl
  refine Br.t (by rw [hl0]; rfl) ?_
  cases ha : accB any with
  | true =>
    obtain ⟨ho2, hr2, hw2, h02⟩ := read_back hb6 ha
    have hlt : lineT ⟨1, slot, 0, any⟩ = askB ++ 32 :: (Lib.itoa slot ++ 32 :: tx (wordsB (readR any).1)) := by
      have := line_right ho2 hr2 (slot := slot) (by rw [hw2]; exact hcl2)
      rwa [hw2] at this
    rw [h02, hlt]
    refine (ct25 _ _ I14).mono fun v14 I15 l15 hv => ⟨_, hv, Br.t rfl ((ct25 _ _ I15).mono fun v15 I16 l16 hv => ⟨_, hv, Br.t rfl (Br.t rfl rfl)⟩)⟩
  | false =>
    have hr2 := read_bad ha
    have hlt : lineT ⟨1, slot, 0, any⟩ = rawB ++ 32 :: (Lib.itoa slot ++ 32 :: wordT any) := by
      rw [lineT, if_neg (by rw [hcl2]; decide), if_neg (fun e => absurd (show (1 : Int) = 2 from e) (by decide)), if_neg (fun e => absurd (show (1 : Int) = 3 from e) (by decide)), hr2, if_neg (by decide)]
    rw [hr2, hlt]
    refine (ct25 _ _ I14).mono fun v14 I15 l15 hv => ⟨_, hv, Br.t rfl ((ct25 _ _ I15).mono fun v15 I16 l16 hv => ⟨_, hv, Br.t rfl (Br.f rfl ?_)⟩)⟩
    have hsz2 : (strT (rawB ++ 32 :: (Lib.itoa slot ++ 32 :: wordT any))).size ≤ 2000000 := by
      have h1 := itoa_len hsl
      rw [strT_size]
      simp only [List.length_append, List.length_cons, rawB, List.length_nil, word_len]
      omega
    refine (ct30 any hb6 a m c I16 (hsl2.mono (Mem.le_trans l13 (Mem.le_trans l14' (Mem.le_trans l15 l16)))) (by omega)).mono fun v16 I17 l17 hv => ⟨_, hv, ?_, (ct26 _ _ (by omega) I17).mono fun v17 I18 l18 hv => ⟨_, hv, ?_⟩⟩
    · rw [strT_size, hex_len]; omega
    · congr 1
      rw [List.isSuffixOf_iff_suffix, tx_strT, tx_cons, tx_strT]
      exact ⟨rawB ++ 32 :: (Lib.itoa slot ++ [32]), by simp [wordT]⟩
open Go Go.Proofs Go.SE Go.RowKit
set_option linter.unusedVariables false
set_option maxRecDepth 100000
theorem cells39 : Tryz.prog.cellsOf 39 = 6 := by kernel_rfl
theorem cells5 : Tryz.prog.cellsOf 5 = 1 := by kernel_rfl
theorem cells9 : Tryz.prog.cellsOf 9 = 1 := by kernel_rfl
theorem cells37 : Tryz.prog.cellsOf 37 = 1 := by kernel_rfl
theorem cells2 : Tryz.prog.cellsOf 2 = 1 := by kernel_rfl
theorem cells3 : Tryz.prog.cellsOf 3 = 1 := by kernel_rfl
def Q39 (I : Mem) (v : Value) : Prop := ∃ x, v = .agg (smV x).toArray ∧ okSm x
def Q3 (I : Mem) (v : Value) : Prop := ∃ n, v = .int .i64 n ∧ i64R n
def Q5 (I : Mem) (v : Value) : Prop := ∃ n, v = .int .u8 n ∧ 0 ≤ n ∧ n ≤ 255
def Q37 (I : Mem) (v : Value) : Prop := ∃ n, v = .int .u32 n ∧ 0 ≤ n ∧ n ≤ 4294967295
def Q24 (I : Mem) (v : Value) : Prop := ∃ a n c bs, v = .slice a n c ∧ SlM I a n 1 (ints .u8 bs) ∧ n ≤ c ∧ c ≤ maxLen ∧ byteL bs
theorem opc39 (W : World) : OpC Tryz.prog W 39 fun cs => ∃ x, cs = smV x ∧ okSm x := by
  refine (opc_struct (P := Tryz.prog) (W := W) Tryz.underlying39 cells39 (.cons rfl cells5 (opc_int Tryz.underlying5) (.cons rfl cells9 (opc_str Tryz.underlying9) (.cons rfl cells37 (opc_int Tryz.underlying37) (.cons rfl cells37 (opc_int Tryz.underlying37) (.cons rfl cells37 (opc_int Tryz.underlying37) (.cons rfl cells2 (opc_int Tryz.underlying2) .nil))))))).mono ?_
  rintro cs ⟨hl, ⟨k, h1, k1, k2⟩, ⟨s, h2, k3⟩, ⟨a, h3, k4, k5⟩, ⟨b, h4, k6, k7⟩, ⟨c, h5, k8, k9⟩, ⟨v, h6, k10, k11⟩, _⟩
  match cs, hl with
  | [y0, y1, y2, y3, y4, y5], _ =>
    simp only [List.drop_succ_cons, List.drop_zero, List.take_succ_cons, List.take_zero, List.cons.injEq, and_true] at h1 h2 h3 h4 h5 h6
    subst h1; subst h2; subst h3; subst h4; subst h5; subst h6
    have hr : reachBytes ≤ maxLen := by decide
    exact ⟨⟨k, s, a, b, c, v⟩, rfl, ⟨k1, k2⟩, Nat.le_trans k3 hr, ⟨k4, k5⟩, ⟨k6, k7⟩, ⟨k8, k9⟩, ⟨k10, k11⟩⟩
section
variable {H : Type} {enc : TypeId × Value → H} {W : World} {r : Reach} {b0 : Nat} {v : Value} {d : DataW H} {ps : List MemPlace}
theorem op39 (hval : Value.okWide Tryz.prog W r b0 39 v) (hd : DataW.Trod enc Tryz.prog W 0 (fun _ => true) true 39 v d ps) (hw : ∀ n ∈ d.weights Tryz.prog 39, n ≤ reachBytes) : Q39 (memW W) v := by
  obtain ⟨cs, rfl, x, e, hx⟩ := opc_top_struct (opc39 W) Tryz.underlying39 hval hd hw
  exact ⟨x, by rw [← e], hx⟩
theorem op3 (hval : Value.okWide Tryz.prog W r b0 3 v) (hd : DataW.Trod enc Tryz.prog W 0 (fun _ => true) true 3 v d ps) (hw : ∀ n ∈ d.weights Tryz.prog 3, n ≤ reachBytes) : Q3 (memW W) v := by
  obtain ⟨n, rfl, h1, h2⟩ := opI Tryz.underlying3 hval
  exact ⟨n, rfl, h1, h2⟩
theorem op5 (hval : Value.okWide Tryz.prog W r b0 5 v) (hd : DataW.Trod enc Tryz.prog W 0 (fun _ => true) true 5 v d ps) (hw : ∀ n ∈ d.weights Tryz.prog 5, n ≤ reachBytes) : Q5 (memW W) v := by
  obtain ⟨n, rfl, h1, h2⟩ := opI Tryz.underlying5 hval
  exact ⟨n, rfl, h1, h2⟩
theorem op37 (hval : Value.okWide Tryz.prog W r b0 37 v) (hd : DataW.Trod enc Tryz.prog W 0 (fun _ => true) true 37 v d ps) (hw : ∀ n ∈ d.weights Tryz.prog 37, n ≤ reachBytes) : Q37 (memW W) v := by
  obtain ⟨n, rfl, h1, h2⟩ := opI Tryz.underlying37 hval
  exact ⟨n, rfl, h1, h2⟩
theorem op24 (hval : Value.okWide Tryz.prog W r b0 24 v) (hd : DataW.Trod enc Tryz.prog W 0 (fun _ => true) true 24 v d ps) (hw : ∀ n ∈ d.weights Tryz.prog 24, n ≤ reachBytes) : Q24 (memW W) v := by
  obtain ⟨a, n, c, zs, rfl, h1, h2, h3, h4⟩ := opSl Tryz.underlying24 Tryz.underlying5 cells5 hval hd
  exact ⟨a, n, c, zs, rfl, h1, h2, h3, h4⟩
end
theorem ct6Q (I : Mem) (hG : Globs I) (v0 v1 v2 : Value) (h0 : Q39 I v0) (h1 : Q37 I v1) (h2 : Q24 I v2) : Ct Tryz.prog (fnv 6) #[v0, v1, v2] I (fun v _ => v = .bool true) := by
  obtain ⟨x, rfl, hx⟩ := h0
  obtain ⟨n, rfl, hn1, hn2⟩ := h1
  obtain ⟨a, m, c, bs, rfl, hs, hc, hm, hb⟩ := h2
  exact ct6 I hG x hx n ⟨hn1, hn2⟩ a m c bs hs hc hm hb
open Go Go.Proofs Go.SE Go.RowKit
set_option linter.unusedVariables false
set_option maxRecDepth 100000
/-- Cells that are an entry. -/
def EnC (I : Mem) (c : List Value) (e : En) : Prop := okEn e ∧ ∃ y, c = enV e y ∧ BySl I y e.bs
theorem enC_mono (I J : Mem) (c : List Value) (e : En) (hle : I.le J) (h : EnC I c e) : EnC J c e := by
  obtain ⟨h1, y, h2, h3⟩ := h
  exact ⟨h1, y, h2, h3.mono hle⟩
abbrev EnM (I : Mem) (a : Option Addr) (n : Nat) (l : List En) : Prop := SlR 4 EnC I a n l
theorem EnM.mono {I J : Mem} {a : Option Addr} {n : Nat} {l : List En} (h : EnM I a n l) (hle : I.le J) : EnM J a n l := SlR.mono enC_mono h hle
theorem EnM.ok {I : Mem} {a : Option Addr} {n : Nat} {l : List En} (h : EnM I a n l) : ∀ e ∈ l, okEn e := by
  obtain ⟨xs, _, hr⟩ := h
  exact hr.all fun h => h.1
theorem EnM.get {I : Mem} {a : Option Addr} {n : Nat} {l : List En} (h : EnM I a n l) {j : Int} (h0 : 0 ≤ j) (h1 : j < n) :
    ∃ e b m c, l[j.toNat]? = some e ∧ okEn e ∧ BySl I (.slice b m c) e.bs ∧ atI I a (j.toNat * 4 + 0) = some (.int .u8 e.kind) ∧ atI I a (j.toNat * 4 + 1) = some (.int .i64 e.slot) ∧ atI I a (j.toNat * 4 + 2) = some (.int .i64 e.n) ∧ atI I a (j.toNat * 4 + 3) = some (.slice b m c) := by
  obtain ⟨e, c, g1, g2, ⟨g3, y, rfl, g4⟩, g5⟩ := SlR.at_ (by decide) h h0 h1
  have hb := g4
  obtain ⟨b, m, cp, rfl, _⟩ := hb
  exact ⟨e, b, m, cp, g1, g3, g4, g5 0 _ rfl, g5 1 _ rfl, g5 2 _ rfl, g5 3 _ rfl⟩
/-- Small numbers of an entry. -/
structure Sn where
  kind : Int
  slot : Int
  ask : Sm
  raw : List Int
structure okSn (x : Sn) : Prop where
  kind : 0 ≤ x.kind ∧ x.kind ≤ 255
  slot : 0 ≤ x.slot ∧ x.slot ≤ 65535
  ask : okSm x.ask
  raw : byteL x.raw
def snV (x : Sn) (y : Value) : List Value := [.int .u8 x.kind, .int .u16 x.slot, .int .u8 x.ask.kind, .string x.ask.name, .int .u32 x.ask.a, .int .u32 x.ask.b, .int .u32 x.ask.c, .int .i64 x.ask.val, y]
def madeE (x : Sn) : En :=
  if x.kind % 5 = 0 then ⟨2, 0, 0, []⟩ else if x.kind % 5 = 1 then ⟨3, 0, x.slot, []⟩ else if x.kind % 5 = 2 then ⟨1, x.slot, 0, x.raw.take 60⟩
  else ⟨1, x.slot % 9, 0, writeR (madeR x.ask)⟩
theorem ct48 (x : Sn) (hx : okSn x) (y : Value) (I : Mem) (hy : BySl I y x.raw) :
    Ct Tryz.prog (fnv 48) #[.agg (snV x y).toArray] I (fun v I' => ∃ z, v = .agg (enV (madeE x) z).toArray ∧ BySl I' z (madeE x).bs) := by
  obtain ⟨p, n, c, rfl, hp, hpc, hpm⟩ := hy
  obtain ⟨Q, hQ⟩ : ∃ q : Value → Mem → Prop, q = fun v I' => ∃ z, v = .agg (enV (madeE x) z).toArray ∧ BySl I' z (madeE x).bs := ⟨_, rfl⟩
  rw [← hQ]
  refine viaR (ct_via (A := { }) Tryz.func48 rfl Tryz.call48 rfl rfl) ((5 : Int) ≠ 0 ∧ Br (x.kind.tmod 5 == 0) (Q (.agg #[.int .u8 2, .int .i64 0, .int .i64 0, .slice none 0 0]) I) (Br (x.kind.tmod 5 == 1) (Wr .i64 x.slot (fun a => Q (.agg #[.int .u8 3, .int .i64 0, .int .i64 a, .slice none 0 0]) I)) (Br (x.kind.tmod 5 == 2) (Wr .i64 x.slot (fun a => 0 ≤ (bif false then imax (n : Int) 60 else imin (n : Int) 60) ∧ (bif false then imax (n : Int) 60 else imin (n : Int) 60) ≤ (c : Int) ∧ Ct Tryz.prog (.func (.func 89) #[] #[]) #[.slice p (bif false then imax (n : Int) 60 else imin (n : Int) 60).toNat c] I fun v b => ∃ d e f, v = .slice d e f ∧ Q (.agg #[.int .u8 1, .int .i64 a, .int .i64 0, .slice d e f]) b)) (Ct Tryz.prog (.func (.func 19) #[] #[]) #[.agg #[.int .u8 x.ask.kind, .string x.ask.name, .int .u32 x.ask.a, .int .u32 x.ask.b, .int .u32 x.ask.c, .int .i64 x.ask.val]] I (fun v a => ∃ b d q e f g h i j k l m o r, v = .agg #[.int .u8 b, .int .u8 d, .string q, .int .i64 e, .int .i64 f, .int .i64 g, .int .i64 h, .int .i64 i, .int .i64 j, .int .i64 k, .int .i64 l, .slice m o r] ∧ Ct Tryz.prog (.func (.func 51) #[] #[]) #[.agg #[.int .u8 b, .int .u8 d, .string q, .int .i64 e, .int .i64 f, .int .i64 g, .int .i64 h, .int .i64 i, .int .i64 j, .int .i64 k, .int .i64 l, .slice m o r]] a fun s t => ∃ u w y z, s = .tuple #[.slice u w y, .int .i64 z] ∧ Br (z != 0) (Q (.agg #[.int .u8 0, .int .i64 0, .int .i64 0, .slice none 0 0]) t) ((9 : Int) ≠ 0 ∧ Wr .i64 (x.slot.tmod 9) fun c1 => Q (.agg #[.int .u8 1, .int .i64 c1, .int .i64 0, .slice u w y]) t)))))) (by kernel_rfl) ?_
  have hk := hx.kind
  have hs := hx.slot
  have e5 : x.kind.tmod 5 = x.kind % 5 := Int.tmod_eq_emod_of_nonneg hk.1
  have e9 : x.slot.tmod 9 = x.slot % 9 := Int.tmod_eq_emod_of_nonneg hs.1
  rw [e5, e9]
  refine ⟨by decide, Br.mk (fun h => ?_) (fun h0 => Br.mk (fun h => wr_i64 (by omega) (by omega) ?_) (fun h1 => Br.mk (fun h => wr_i64 (by omega) (by omega) ?_) (fun h2 => ?_)))⟩
  · have h : x.kind % 5 = 0 := by simpa using h
    rw [hQ, madeE, if_pos h]
    exact ⟨_, rfl, bysl_nil _⟩
  · have h0 : x.kind % 5 ≠ 0 := by simpa using h0
    have h : x.kind % 5 = 1 := by simpa using h
    rw [hQ, madeE, if_neg h0, if_pos h]
    exact ⟨_, rfl, bysl_nil _⟩
  · have h0 : x.kind % 5 ≠ 0 := by simpa using h0
    have h1 : x.kind % 5 ≠ 1 := by simpa using h1
    have h : x.kind % 5 = 2 := by simpa using h
    have e60 : (bif false then imax (n : Int) 60 else imin (n : Int) 60) = ((min n 60 : Nat) : Int) := by
      show imin (n : Int) 60 = _
      rw [imin]; split <;> omega
    rw [e60, Int.toNat_natCast]
    have hn := hp.numLen
    refine ⟨by omega, by omega, (ct89 (x.raw.take (min n 60)) _ _ _ I (sl_takeN hp (Nat.min_le_left _ _)) (by omega)).mono fun v J l ⟨d, e, f, hv, h1', h2', h3'⟩ => ⟨d, e, f, hv, ?_⟩⟩
    have ht : x.raw.take (min n 60) = x.raw.take 60 := by
      rw [hn, List.take_eq_take_iff]; omega
    rw [ht] at h1'
    rw [hQ, madeE, if_neg h0, if_neg h1, if_pos h]
    exact ⟨_, rfl, d, e, f, rfl, h1', h2', h3'⟩
  · have h0 : x.kind % 5 ≠ 0 := by simpa using h0
    have h1 : x.kind % 5 ≠ 1 := by simpa using h1
    have h2 : x.kind % 5 ≠ 2 := by simpa using h2
    obtain ⟨ho, hn100, hf100, hR⟩ := made_shape x.ask hx.ask
    refine (ct19 x.ask hx.ask I).mono fun v J l ⟨z, hv, hz⟩ => ?_
    have hz' := hz
    obtain ⟨m, o, r, rfl, _, _, _⟩ := hz'
    refine ⟨_, _, _, _, _, _, _, _, _, _, _, _, _, _, hv, (ct51 (madeR x.ask) ho (by omega) _ J hz (by omega)).mono fun s K lK ⟨u, w, q, hv, g1, g2, g3⟩ => ?_⟩
    rw [hR] at hv g1
    refine ⟨_, _, _, _, hv, Br.f rfl ⟨by decide, wr_i64 (by omega) (by omega) ?_⟩⟩
    rw [hQ, madeE, if_neg h0, if_neg h1, if_neg h2]
    exact ⟨_, rfl, u, w, q, rfl, g1, g2, g3⟩
theorem made_ok {x : Sn} (hx : okSn x) : okEn (madeE x) ∧ cleanE (madeE x) = true := by
  have hk := hx.kind
  have hs := hx.slot
  obtain ⟨ho, hn100, hf100, hR⟩ := made_shape x.ask hx.ask
  unfold madeE
  split
  · exact ⟨⟨k255 (.inr (.inr (.inl rfl))), i64R_zero, i64R_zero, byteL_nil⟩, by decide⟩
  · split
    · refine ⟨⟨k255 (.inr (.inr (.inr rfl))), i64R_zero, ⟨by show _ ≤ x.slot; omega, by show x.slot ≤ _; omega⟩, byteL_nil⟩, ?_⟩
      rw [cleanE, if_neg (fun e => absurd (show (3 : Int) = 1 from e) (by decide)), if_neg (fun e => absurd (show (3 : Int) = 2 from e) (by decide)), if_pos rfl, withinB, decide_eq_true (show 0 ≤ x.slot ∧ x.slot ≤ 4294967295 by omega)]
      simp
    · split
      · have hb : byteL (x.raw.take 60) := fun z hz => hx.raw z (List.mem_of_mem_take hz)
        refine ⟨⟨k255 (.inr (.inl rfl)), ⟨by show _ ≤ x.slot; omega, by show x.slot ≤ _; omega⟩, i64R_zero, hb⟩, ?_⟩
        rw [cleanE, if_pos rfl, withinB, decide_eq_true (show 0 ≤ x.slot ∧ x.slot ≤ 4294967295 by omega), decide_eq_true (p := (0 : Int) = 0) rfl, decide_eq_true (show (x.raw.take 60).length ≤ 16384 by rw [List.length_take]; omega)]; rfl
      · have := askE_right ho hR (slot := x.slot % 9) (by omega)
        exact ⟨⟨k255 (.inr (.inl rfl)), ⟨by show _ ≤ x.slot % 9; omega, by show x.slot % 9 ≤ _; omega⟩, i64R_zero, write_ok ho hR⟩, this.2⟩
theorem ct18 (a b : Option Addr) (n m c d : Nat) (k l : List En) (I : Mem) (ha : EnM I a n k) (hb : EnM I b m l) :
    Ct Tryz.prog (fnv 18) #[.slice a n c, .slice b m d] I (fun v _ => v = .bool (decide (k = l))) := by
  obtain ⟨D, hD⟩ : ∃ D, D = decide (k = l) := ⟨_, rfl⟩
  rw [← hD]
  refine viaR (ct_via (A := { loops := [(4, ⟨[(0, .keep), (1, .keep), (11, .keep), (12, .keep), (13, .sh (.int .i64))], [], [], fun vals _ _ _ => match vals with | [.int .i64 j] => 0 ≤ j ∧ j ≤ n ∧ k.take j.toNat = l.take j.toNat | _ => False, fun vals _ => match vals with | [.int .i64 j] => (n - j).toNat | _ => 0⟩)] }) Tryz.func18 rfl Tryz.call18 rfl rfl) (Br ((n : Int) != (m : Int)) (Value.bool false = .bool D) ((Rf (SV.v (.slice a n c)) ∧ Rf (SV.v (.slice b m d)) ∧ Rf (SV.v (.slice a n c)) ∧ Rf (SV.v (.int .i64 (n : Int))) ∧ (0 : Int) ≤ 0 ∧ 0 ≤ (n : Int) ∧ Rf ([] : List En)) ∧ ∀ (e : Mem), Mem → I.le e → ∀ (f : Int), 0 ≤ f ∧ f ≤ (n : Int) ∧ List.take f.toNat k = List.take f.toNat l → Br (decide (f < (n : Int))) (0 ≤ f ∧ f < (n : Int) ∧ a.isSome = true ∧ (4 : Nat) = 4 ∧ ∃ g, atI e a (f.toNat * 4 + 0) = some (.int .u8 g) ∧ ∃ h, atI e a (f.toNat * 4 + 1) = some (.int .i64 h) ∧ ∃ i, atI e a (f.toNat * 4 + 2) = some (.int .i64 i) ∧ ∃ j o p, atI e a (f.toNat * 4 + 3) = some (.slice j o p) ∧ 0 ≤ f ∧ f < (m : Int) ∧ b.isSome = true ∧ (4 : Nat) = 4 ∧ ∃ q, atI e b (f.toNat * 4 + 0) = some (.int .u8 q) ∧ ∃ r, atI e b (f.toNat * 4 + 1) = some (.int .i64 r) ∧ ∃ s, atI e b (f.toNat * 4 + 2) = some (.int .i64 s) ∧ ∃ t u v, atI e b (f.toNat * 4 + 3) = some (.slice t u v) ∧ Ct Tryz.prog (.func (.func 33) #[] #[]) #[.agg #[.int .u8 g, .int .i64 h, .int .i64 i, .slice j o p], .agg #[.int .u8 q, .int .i64 r, .int .i64 s, .slice t u v]] e fun w x => ∃ y, w = .bool y ∧ Br (!y) (Value.bool false = .bool D) (Wr .i64 (f + 1) (fun z => Rf (SV.v (.slice a n c)) ∧ Rf (SV.v (.slice b m d)) ∧ Rf (SV.v (.slice a n c)) ∧ Rf (SV.v (.int .i64 (n : Int))) ∧ (0 ≤ z ∧ z ≤ (n : Int) ∧ List.take z.toNat k = List.take z.toNat l) ∧ Int.toNat ((n : Int) - z) < Int.toNat ((n : Int) - f)))) (Value.bool true = .bool D))) (by kernel_rfl) ?_
  have hkl := SlR.len (by decide) ha
  have hll := SlR.len (by decide) hb
  refine Br.mk (fun h => ?_) (fun h => ⟨⟨rfl, rfl, rfl, rfl, by omega, by omega, rfl⟩, fun J G lJ j ⟨h0, h1, h2⟩ => Br.mk (fun hlt => ?_) (fun hge => ?_)⟩)
  · have h : (n : Int) ≠ m := by simpa using h
    rw [hD, decide_eq_false]
    intro e
    subst e
    omega
  · have hnm : n = m := by
      have : (n : Int) = m := by simpa using h
      omega
    have hlt := of_decide_eq_true hlt
    obtain ⟨e, b1, m1, c1, g1, g2, g3, g4, g5, g6, g7⟩ := (ha.mono lJ).get h0 hlt
    obtain ⟨f, b2, m2, c2, f1, f2, f3, f4, f5, f6, f7⟩ := (hb.mono lJ).get h0 (by omega)
    refine ⟨h0, hlt, SlR.isSome ha (by omega), rfl, _, g4, _, g5, _, g6, _, _, _, g7, h0, by omega, SlR.isSome hb (by omega), rfl, _, f4, _, f5, _, f6, _, _, _, f7, (ct33 e f _ _ J g3 f3 g2.bs f2.bs).mono fun v K lK hv => ⟨_, hv, Br.mk (fun h4 => ?_) (fun h4 => ?_)⟩⟩
    · have h4 : e ≠ f := by simpa using h4
      rw [hD, decide_eq_false]
      rintro rfl
      rw [g1] at f1
      exact h4 (Option.some.inj f1)
    · have h4 : e = f := by simpa using h4
      refine wr_i64 (by omega) (by have := ha.max; simp only [maxLen] at this; omega) ⟨rfl, rfl, rfl, rfl, ⟨by omega, by omega, ?_⟩, by omega⟩
      rw [show (j + 1).toNat = j.toNat + 1 by omega, List.take_add_one, List.take_add_one, h2, g1, f1, h4]
  · have hge := of_decide_eq_false hge
    have hnm : (n : Int) = m := by simpa using h
    rw [hD, decide_eq_true]
    rw [List.take_of_length_le (by omega), List.take_of_length_le (by omega)] at h2
    exact h2
def SnC (I : Mem) (c : List Value) (x : Sn) : Prop := okSn x ∧ ∃ y, c = snV x y ∧ BySl I y x.raw
theorem snC_mono (I J : Mem) (c : List Value) (x : Sn) (hle : I.le J) (h : SnC I c x) : SnC J c x := by
  obtain ⟨h1, y, h2, h3⟩ := h
  exact ⟨h1, y, h2, h3.mono hle⟩
abbrev SnM (I : Mem) (a : Option Addr) (n : Nat) (l : List Sn) : Prop := SlR 9 SnC I a n l
theorem SnM.mono {I J : Mem} {a : Option Addr} {n : Nat} {l : List Sn} (h : SnM I a n l) (hle : I.le J) : SnM J a n l := SlR.mono snC_mono h hle
def madeL (l : List Sn) : List En := (l.take 30).map madeE
theorem ct16 (l : List Sn) (a : Option Addr) (n c : Nat) (I : Mem) (h : SnM I a n l) (hc : n ≤ c) :
    Ct Tryz.prog (fnv 16) #[.slice a n c] I (fun v I' => ∃ b m d, v = .slice b m d ∧ EnM I' b m (madeL l) ∧ m ≤ d ∧ d ≤ maxLen) := by
  obtain ⟨WI, hWI⟩ : ∃ f : Mem → Int → List Value → Prop, f = fun J j xs => 0 ≤ j ∧ j ≤ ((l.take 30).length : Int) ∧ RowR 4 EnC J xs ((l.take j.toNat).map madeE) := ⟨_, rfl⟩
  obtain ⟨Q, hQ⟩ : ∃ q : Value → Mem → Prop, q = fun v I' => ∃ b m d, v = .slice b m d ∧ EnM I' b m (madeL l) ∧ m ≤ d ∧ d ≤ maxLen := ⟨_, rfl⟩
  rw [← hQ]
  refine viaR (ct_via (A := { loops := [(3, ⟨[(3, .row 0), (10, .keep), (11, .keep), (12, .sh (.int .i64))], [(0, .row)], [(3, 4, 35)], fun vals xss J _ => match vals, xss with | [.int .i64 j], [xs] => WI J j xs | _, _ => False, fun vals _ => match vals with | [.int .i64 j] => (30 - j).toNat | _ => 0⟩)] }) Tryz.func16 rfl Tryz.call16 rfl rfl) (0 ≤ (bif false then imax (n : Int) 30 else imin (n : Int) 30) ∧ (bif false then imax (n : Int) 30 else imin (n : Int) 30) ≤ (c : Int) ∧ ((0 : Nat) = 0 ∧ Rf (SV.v (.slice a (bif false then imax (n : Int) 30 else imin (n : Int) 30).toNat c)) ∧ Rf (SV.v (.int .i64 ((bif false then imax (n : Int) 30 else imin (n : Int) 30).toNat : Int))) ∧ WI I 0 []) ∧ ∀ (b : Mem), Mem → I.le b → ∀ (x : List Value) (d : Int), WI b d x → Br (decide (d < ((bif false then imax (n : Int) 30 else imin (n : Int) 30).toNat : Int))) (0 ≤ d ∧ d < ((bif false then imax (n : Int) 30 else imin (n : Int) 30).toNat : Int) ∧ a.isSome = true ∧ (9 : Nat) = 9 ∧ ∃ e, atI b a (d.toNat * 9 + 0) = some (.int .u8 e) ∧ ∃ f, atI b a (d.toNat * 9 + 1) = some (.int .u16 f) ∧ ∃ g, atI b a (d.toNat * 9 + 2) = some (.int .u8 g) ∧ ∃ q, atI b a (d.toNat * 9 + 3) = some (.string q) ∧ ∃ i, atI b a (d.toNat * 9 + 4) = some (.int .u32 i) ∧ ∃ j, atI b a (d.toNat * 9 + 5) = some (.int .u32 j) ∧ ∃ k, atI b a (d.toNat * 9 + 6) = some (.int .u32 k) ∧ ∃ m, atI b a (d.toNat * 9 + 7) = some (.int .i64 m) ∧ ∃ o p r, atI b a (d.toNat * 9 + 8) = some (.slice o p r) ∧ Ct Tryz.prog (.func (.func 48) #[] #[]) #[.agg #[.int .u8 e, .int .u16 f, .int .u8 g, .string q, .int .u32 i, .int .u32 j, .int .u32 k, .int .i64 m, .slice o p r]] b fun v s => ∃ t u w y z c1, v = .agg #[.int .u8 t, .int .i64 u, .int .i64 w, .slice y z c1] ∧ x.length = x.length / 4 * 4 ∧ x.length / 4 + 1 ≤ 9223372036854775807 ∧ (x.length / 4 + 1) * 48 ≤ 140737488355328 ∧ Wr .i64 (d + 1) fun c2 => x.length / 4 + 1 = List.length (x ++ [.int .u8 t, .int .i64 u, .int .i64 w, .slice y z c1]) / 4 ∧ Rf (SV.v (.slice a (bif false then imax (n : Int) 30 else imin (n : Int) 30).toNat c)) ∧ Rf (SV.v (.int .i64 ((bif false then imax (n : Int) 30 else imin (n : Int) 30).toNat : Int))) ∧ WI s c2 (x ++ [.int .u8 t, .int .i64 u, .int .i64 w, .slice y z c1]) ∧ Int.toNat (30 - c2) < Int.toNat (30 - d)) (∀ (e : Option Addr) (f : Nat) (g : Mem), b.le g → RowM g e f 4 x → Q (.slice e (x.length / 4) f) g)) (by kernel_rfl) ?_
  have hl := SlR.len (by decide) h
  have e30 : (bif false then imax (n : Int) 30 else imin (n : Int) 30) = ((min n 30 : Nat) : Int) := by
    show imin (n : Int) 30 = _
    rw [imin]; split <;> omega
  rw [e30, Int.toNat_natCast]
  have ht30 : (l.take 30).length = min n 30 := by rw [List.length_take, hl]; omega
  refine ⟨by omega, by omega, ⟨rfl, rfl, rfl, by rw [hWI]; exact ⟨by omega, by omega, rfl⟩⟩, fun J G lJ x d hd => ?_⟩
  rw [hWI] at hd
  obtain ⟨h0, h1, hr⟩ := hd
  have hxl := hr.len
  rw [List.length_map, List.length_take] at hxl
  have hxl : x.length = d.toNat * 4 := by rw [hxl, hl]; congr 1; omega
  have hx4 : x.length / 4 = d.toNat := by omega
  refine Br.mk (fun hlt => ?_) (fun hge e f g lg hrow => ?_)
  · have hlt := of_decide_eq_true hlt
    obtain ⟨q, cs, g1, g2, ⟨hq, y, rfl, hy⟩, g5⟩ := SlR.at_ (by decide) (h.mono lJ) h0 (by omega)
    have hy' := hy
    obtain ⟨o, p, r, rfl, _, _, _⟩ := hy'
    refine ⟨h0, hlt, SlR.isSome h (by omega), rfl, _, g5 0 _ rfl, _, g5 1 _ rfl, _, g5 2 _ rfl, _, g5 3 _ rfl, _, g5 4 _ rfl, _, g5 5 _ rfl, _, g5 6 _ rfl, _, g5 7 _ rfl, _, _, _, g5 8 _ rfl, (ct48 q hq _ J hy).mono fun v s ls ⟨z, hv, hz⟩ => ?_⟩
    have hz' := hz
    obtain ⟨t, u, w, rfl, _, _, _⟩ := hz'
    refine ⟨_, _, _, _, _, _, hv, by omega, by omega, by omega, wr_i64 (by omega) (by omega) ⟨by simp, rfl, rfl, ?_, by omega⟩⟩
    rw [hWI]
    refine ⟨by omega, by omega, ?_⟩
    rw [show (d + 1).toNat = d.toNat + 1 by omega, List.take_add_one, g1, Option.toList_some, List.map_append]
    exact (hr.mono enC_mono ls).snoc rfl ⟨(made_ok hq).1, _, rfl, hz⟩
  · have hge := of_decide_eq_false hge
    have e1 : (l.take d.toNat).map madeE = madeL l := by
      rw [madeL]
      congr 1
      rw [List.take_eq_take_iff]; omega
    rw [e1] at hr
    have hml : (madeL l).length = x.length / 4 := by rw [madeL, List.length_map, ht30]; omega
    rw [hQ, ← hml]
    have hrm := SlR.row (by decide) hrow (hr.mono enC_mono lg)
    obtain ⟨r1, r2, _⟩ := hrow
    exact ⟨_, _, _, rfl, hrm, by rw [hml]; omega, r2⟩
open Go Go.Proofs Go.SE Go.RowKit
set_option linter.unusedVariables false
set_option maxRecDepth 100000
/-! ### How long lines are -/
theorem joinC_sum (c : UInt8) : ∀ ws : List Tx, (joinC c ws).length ≤ (ws.map fun w => w.length + 1).sum
  | [] => by simp [joinC]
  | [x] => by simp [joinC]
  | x :: y :: r => by
    have := joinC_sum c (y :: r)
    rw [List.map_cons, List.sum_cons, joinC, List.length_append, List.length_cons]
    omega
theorem nameS_len (k : Int) : (nameS k).size ≤ 7 := by
  rw [nameS]
  cases h : namesL[k.toNat]? with
  | none => decide
  | some x =>
    have := List.mem_of_getElem? h
    simp only [namesL, List.mem_cons, List.not_mem_nil, or_false] at this
    rcases this with rfl | rfl | rfl | rfl | rfl | rfl | rfl | rfl | rfl | rfl <;> decide
theorem askS_len (k : Int) : (askS k).size ≤ 7 := by
  rw [askS]
  cases h : asksL[k.toNat]? with
  | none => decide
  | some x =>
    have := List.mem_of_getElem? h
    simp only [asksL, List.mem_cons, List.not_mem_nil, or_false] at this
    rcases this with rfl | rfl | rfl | rfl | rfl | rfl <;> decide
theorem field_sz {r : Rq} (hr : okRq r) (h : rightR r = true) {t : Int} (ht : t ≠ 11) : (fieldT r t).length ≤ 511 := by
  obtain ⟨_, hn, _, _⟩ := right_tag h
  have h1 : (tx r.name).length = r.name.size := Array.length_toList
  have h2 := strL_len r.name
  have h3 := askS_len r.what
  have h4 : (tx (askS r.what)).length = (askS r.what).size := Array.length_toList
  have h5 := itoa_len hr.val
  have h6 := itoa_len (num_ok hr t)
  unfold fieldT
  split
  · omega
  · split
    · split
      · omega
      · rw [word_len]; omega
    · split
      · omega
      · first
        | (rw [if_neg ht]; omega)
        | omega
theorem wordsB_len {r : Rq} (hr : okRq r) (h : rightR r = true) : (wordsB r).size ≤ 31000 := by
  obtain ⟨h1, hn, hf, _⟩ := right_tag h
  have hs := tagL_shape h1
  have hnm := nameS_len r.kind
  have hnm' : (tx (nameS r.kind)).length = (nameS r.kind).size := Array.length_toList
  rw [wordsB, joinB, strT_size]
  refine Nat.le_trans (joinC_sum _ _) ?_
  rw [wordsL, List.map_cons, List.map_cons, List.sum_cons, List.map_map, List.map_map]
  have key : ∀ ts : List Int, (11 : Int) ∉ ts → (ts.map (((fun w : Tx => w.length + 1) ∘ tx) ∘ fun t => strT (fieldT r t))).sum ≤ 512 * ts.length := by
    intro ts
    induction ts with
    | nil => intro _; simp
    | cons t ts ih =>
      intro hn
      simp only [List.mem_cons, not_or] at hn
      have := ih hn.2
      have hb := field_sz hr h (t := t) (fun e => hn.1 e.symm)
      rw [List.map_cons, List.sum_cons, List.length_cons]
      simp only [Function.comp, tx_strT] at this ⊢
      omega
  simp only [shapesL, List.mem_cons, List.not_mem_nil, or_false] at hs
  by_cases hq : tagsR r = [11]
  · rw [hq]
    have : (fieldT r 11).length = 1 + 2 * r.fed.length := word_len _
    simp only [List.map_cons, List.map_nil, List.sum_cons, List.sum_nil, Function.comp, tx_strT, this]
    omega
  · have hk : (11 : Int) ∉ tagsR r ∧ (tagsR r).length ≤ 4 := by
      rcases hs with hs | hs | hs | hs | hs | hs | hs | hs | hs | hs | hs | hs
      · exact absurd hs hq
      all_goals (rw [hs]; decide)
    have := key _ hk.1
    omega
theorem lineT_len {e : En} (hk : okEn e) (hc : cleanE e = true) : (lineT e).length ≤ 32868 := by
  obtain ⟨hl, _⟩ := clean_len hc
  have h1 := itoa_len hk.slot
  have h2 := itoa_len hk.n
  unfold lineT
  split
  · simp
  · split
    · decide
    · split
      · simp only [List.length_append, List.length_cons, pickB, List.length_nil]; omega
      · split
        · rename_i h0
          have ha : accB e.bs = true := by
            cases ha : accB e.bs with
            | true => rfl
            | false => rw [read_bad ha] at h0; cases h0
          obtain ⟨ho, hr, _, _⟩ := read_back hk.bs ha
          have := wordsB_len ho hr
          have h3 : (tx (wordsB (readR e.bs).1)).length = (wordsB (readR e.bs).1).size := Array.length_toList
          simp only [List.length_append, List.length_cons, askB, List.length_nil]; omega
        · simp only [List.length_append, List.length_cons, rawB, List.length_nil, word_len]; omega
theorem read_line {e : En} (hk : okEn e) (hc : cleanE e = true) : readL (lineT e) = (e, 0) := readL_line hk hc (lineT_len hk hc)
theorem line_inj {e f : En} (he : okEn e) (hf : okEn f) (ce : cleanE e = true) (cf : cleanE f = true) (h : lineT e = lineT f) : e = f := by
  have h1 := read_line he ce
  rw [h, read_line hf cf] at h1
  exact (congrArg Prod.fst h1).symm
theorem join_free (d c : UInt8) (h : d ≠ c) : ∀ ws : List Tx, (∀ x ∈ ws, d ∉ x) → d ∉ joinC c ws
  | [], _ => by simp [joinC]
  | [x], hw => hw x (by simp)
  | x :: y :: r, hw => by
    rw [joinC]
    simp only [List.mem_append, List.mem_cons, not_or]
    exact ⟨hw x (by simp), h, join_free d c h (y :: r) fun z hz => hw z (List.mem_cons_of_mem _ hz)⟩
/-- No line feed in a line; no line is empty or begins with '#'. -/
theorem lineT_free {e : En} (hk : okEn e) : (10 : UInt8) ∉ lineT e := by
  unfold lineT
  split
  · simp
  · split
    · decide
    · split
      · simp only [List.mem_append, List.mem_cons, not_or]
        exact ⟨by decide, by decide, (free_no (itoa_free _)).2⟩
      · split
        · rename_i h0
          have ha : accB e.bs = true := by
            cases ha : accB e.bs with
            | true => rfl
            | false => rw [read_bad ha] at h0; cases h0
          obtain ⟨ho, hr, _, _⟩ := read_back hk.bs ha
          simp only [List.mem_append, List.mem_cons, not_or]
          refine ⟨by decide, by decide, (free_no (itoa_free _)).2, by decide, ?_⟩
          rw [wordsB, joinB, tx_strT]
          exact join_free 10 32 (by decide) _ fun x hx => (free_no (words_free ho.fed x hx)).2
        · simp only [List.mem_append, List.mem_cons, not_or]
          exact ⟨by decide, by decide, (free_no (itoa_free _)).2, by decide, (free_no (word_free hk.bs)).2⟩
theorem lineT_head {e : En} (hc : cleanE e = true) : ∃ c r, lineT e = c :: r ∧ c ≠ 35 := by
  unfold lineT
  rw [if_neg (by rw [hc]; decide)]
  repeat' split
  · exact ⟨_, _, rfl, by decide⟩
  · exact ⟨_, _, rfl, by decide⟩
  · exact ⟨_, _, rfl, by decide⟩
  · exact ⟨_, _, rfl, by decide⟩
open Go Go.Proofs Go.SE Go.RowKit
set_option linter.unusedVariables false
set_option maxRecDepth 100000
/-! ### strings.Builder -/
theorem sizeBuilder : (Tryz.prog.info? 116).map (·.size) = some 2 := by kernel_rfl
theorem liesBuilder : liesAt Tryz.prog Tryz.prog.depth 116 (2 / Tryz.prog.cellsOf 116) 0 116 1 = true := by kernel_rfl
theorem check_used (b : Nat) (w : World) (h0 : w.cell? ⟨b, 0, none⟩ = some (.pointer (some ⟨b, 0, none⟩))) :
    Calls Tryz.prog 110 #[.pointer (some ⟨b, 0, none⟩)] w fun e w' => e = .returned (.tuple #[]) ∧ w' = w := by
  obtain ⟨j, hj, _⟩ := Option.map_eq_some_iff.1 sizeBuilder
  go_enter Tryz.func110, Tryz.ntmps110
  go_wp2
  rw [Lib.run_neq_ptr_same w _ Tryz.underlying114 hj]
  go_wp2
  go_end0
  exact ⟨rfl, rfl⟩
theorem check_fresh (b : Nat) (w : World) (h0 : w.cell? ⟨b, 0, none⟩ = some (.pointer none)) (hsh : w.shape? b = some (116, 2)) (hfz : w.frozen? ⟨b, 0, none⟩ = false) :
    Calls Tryz.prog 110 #[.pointer (some ⟨b, 0, none⟩)] w fun e w' => e = .returned (.tuple #[]) ∧ w' = w.setCell ⟨b, 0, none⟩ (.pointer (some ⟨b, 0, none⟩)) := by
  obtain ⟨j, hj, hjs⟩ := Option.map_eq_some_iff.1 sizeBuilder
  go_enter Tryz.func110, Tryz.ntmps110
  go_wp2
  rw [Lib.run_to_unsafe w ⟨b, 0, none⟩ Tryz.underlying114 Tryz.underlying203 hj (by rw [hjs]; decide) hsh (Nat.zero_lt_succ 1)]
  simp only [Result.andThen]
  rw [Oper.upon_value]
  go_wp2
  rw [run_callFunc_extern Tryz.func148 (by kernel_rfl) (by kernel_rfl) (by kernel_rfl) (e := Extern.AbiNoEscape.same) (by kernel_rfl)]
  rw [Lib.run_noEscape]
  simp only [Result.andThen]
  rw [Oper.upon_value]
  go_wp2
  rw [Lib.run_from_unsafe w ⟨b, 0, none⟩ Tryz.underlying203 Tryz.underlying114 hj hsh liesBuilder]
  simp only [Result.andThen]
  rw [Oper.upon_value]
  go_wp2
  go_end0
  exact ⟨rfl, rfl⟩
/-- A builder that was never written; one that was. -/
def bldE0 (nm : Option Nat) : Ent := ⟨.cells [.v (.pointer none), .v (.slice none 0 0)] 116, nm⟩
def bldE1 (nm : Option Nat) (n : Nat) : Ent := ⟨.cells [.ptr 0 0, .rsl 1 n] 116, nm⟩
def bufE (bs : List UInt8) : Ent := ⟨.row (bs.map fun b => Value.int .u8 b.toNat) 1 5, none⟩
theorem cs110_fresh (nm : Option Nat) (I : Mem) : CtS Tryz.prog (.v (fnv 110)) [.ptr 0 0] [bldE0 nm] I (fun sv H' _ => sv = .tup [] ∧ H' = [bldE1 nm 0, bufE []]) := by
  intro e hp hO W hI hpW hap
  obtain ⟨hn, c, hc, hcs, hcv⟩ := hO.hold 0 _ rfl rfl
  have e0 : c[0]? = some (.pointer none) := by have := hcv 0 (.v (.pointer none)) rfl rfl; simpa [den] using this
  have e1 : c[1]? = some (.slice none 0 0) := by have := hcv 1 (.v (.slice none 0 0)) rfl rfl; simpa [den] using this
  have hW := hpW _ _ hc
  obtain ⟨b, hb⟩ : ∃ b, b = e.blk 0 := ⟨_, rfl⟩
  rw [← hb] at hc hW
  have hsz : c.size = 2 := hcs
  have hlt : b < W.heap.size := (Array.getElem?_eq_some_iff.1 hW).1
  have hcell : W.cell? ⟨b, 0, none⟩ = some (.pointer none) := by simp [World.cell?, hW, e0]
  have hargs : (denL e [.ptr 0 0]).toArray = #[.pointer (some ⟨b, 0, none⟩)] := by simp [denL, den, hb]
  rw [hargs]
  refine callV_func Tryz.call110 (args := [.pointer (some ⟨b, 0, none⟩)]) (by simp) (callsIn_wide.2 ?_)
  refine (check_fresh b W hcell (by simp [World.shape?, hW, hsz]) (by simp [World.frozen?, hW])).mono fun en W' ⟨he, hw⟩ => ?_
  subst hw
  have hother : ∀ k, k ≠ b → (W.setCell ⟨b, 0, none⟩ (.pointer (some ⟨b, 0, none⟩))).heap[k]? = W.heap[k]? := fun k hk => by
    simp only [World.setCell, Array.getElem?_modify]
    rw [if_neg (fun h => hk h.symm)]
  have hself : (W.setCell ⟨b, 0, none⟩ (.pointer (some ⟨b, 0, none⟩))).heap[b]? = some (.cells (c.setIfInBounds 0 (.pointer (some ⟨b, 0, none⟩))) 116 (0, 0)) := by
    simp only [World.setCell, Array.getElem?_modify, if_true, hW]; rfl
  have hIb : I b = none := by
    rcases hap b with h | h
    · exact h
    · rw [h] at hc; cases hc
  have hdom : ∀ k, hp k ≠ none → k = b := fun k hk => by
    obtain ⟨id, x, hx, _, _, hbk⟩ := hO.dom k hk
    match id, hx with
    | 0, _ => rw [hb, hbk]
  obtain ⟨hp', hhp'⟩ : ∃ h : Mem, h = fun k => if k = b then some (.cells (c.setIfInBounds 0 (.pointer (some ⟨b, 0, none⟩))) 116 (0, 0)) else none := ⟨_, rfl⟩
  refine ⟨.tuple #[], I, hp', he, Mem.le_refl _, fun k o hk => ?_, fun k o hk => ?_, fun k => ?_, by simp [World.setCell], ⟨rfl, rfl, rfl⟩, fun k hk hn => ?_, fun k hk hn => ?_, ⟨e.blk, fun i => if i = 1 then 0 else e.cap i, fun i => if i = 1 then true else e.nil i⟩, .tup [], _, by simp [den, denL], ?_, rfl, rfl⟩
  · rw [hother k (fun e => by rw [e, hIb] at hk; cases hk)]; exact hI k o hk
  · rw [hhp'] at hk
    simp only at hk
    split at hk
    · rename_i hkb
      subst hkb
      rw [hself]; exact hk
    · cases hk
  · by_cases hkb : k = b
    · subst hkb; exact .inl hIb
    · right; rw [hhp']; simp [hkb]
  · exact hother k (fun e => by rw [e] at hn; rw [hn] at hc; cases hc)
  · refine ⟨?_, fun h => h⟩
    rw [hhp']
    simp only
    rw [if_neg (fun e => by rw [e] at hn; rw [hn] at hc; cases hc)]
  · refine ⟨fun id x hx hal => ?_, fun i j x y hi hj _ _ hni hnj hij => ?_, fun k hk => ?_, fun id x k hx hnm => ?_⟩
    · match id, hx with
      | 0, hx =>
        cases hx
        refine ⟨hn, _, by rw [← hb, hhp']; simp; rfl, by simp [hsz], fun k sv hk hj => ?_⟩
        match k, hk with
        | 0, hk => cases hk; rw [Array.getElem?_setIfInBounds_self_of_lt (by omega)]; simp [den, hb]
        | 1, hk => cases hk; rw [Array.getElem?_setIfInBounds_ne (by omega), e1]; simp [den]
      | 1, hx => cases hx; exact ⟨by decide, ⟨0, rfl⟩, .inl ⟨rfl, rfl, rfl⟩⟩
    · match i, j, hi, hj with
      | 0, 0, _, _ => exact absurd rfl hij
      | 1, _, _, _ => simp at hni
      | 0, 1, _, _ => simp at hnj
    · rw [hhp'] at hk
      by_cases hkb : k = b
      · exact ⟨0, _, rfl, rfl, hn, by rw [hkb, hb]⟩
      · simp [hkb] at hk
    · match id, hx with
      | 0, hx => cases hx; exact hO.names 0 (bldE0 nm) k rfl hnm
      | 1, hx => cases hx; cases hnm
theorem cs110_used (nm : Option Nat) (n : Nat) (bs : List UInt8) (I : Mem) : CtS Tryz.prog (.v (fnv 110)) [.ptr 0 0] [bldE1 nm n, bufE bs] I (fun sv H' _ => sv = .tup [] ∧ H' = [bldE1 nm n, bufE bs]) := by
  intro e hp hO W hI hpW hap
  obtain ⟨hn, c, hc, hcs, hcv⟩ := hO.hold 0 _ rfl rfl
  have e0 : c[0]? = some (.pointer (some ⟨e.blk 0, 0, none⟩)) := by have := hcv 0 (.ptr 0 0) rfl rfl; simpa [den] using this
  have hW := hpW _ _ hc
  have hcell : W.cell? ⟨e.blk 0, 0, none⟩ = some (.pointer (some ⟨e.blk 0, 0, none⟩)) := by simp [World.cell?, hW, e0]
  have hargs : (denL e [.ptr 0 0]).toArray = #[.pointer (some ⟨e.blk 0, 0, none⟩)] := by simp [denL, den]
  rw [hargs]
  refine callV_func Tryz.call110 (args := [.pointer (some ⟨e.blk 0, 0, none⟩)]) (by simp) (callsIn_wide.2 ?_)
  refine (check_used (e.blk 0) W hcell).mono fun en W' ⟨he, hw⟩ => ?_
  subst hw
  exact ⟨.tuple #[], I, hp, he, Mem.le_refl _, hI, hpW, hap, Nat.le_refl _, ⟨rfl, rfl, rfl⟩, fun _ _ _ => rfl, fun k _ hk => ⟨hk, fun h => h⟩, e, .tup [], _, by simp [den, denL], hO, rfl, rfl⟩
theorem cs70_fresh (nm : Nat) (s : ByteArray) (hs : s.size ≤ 100000000) (I : Mem) : CtS Tryz.prog (.v (fnv 70)) [.ptr 0 0, .v (.string s)] [bldE0 (some nm)] I
    (fun sv H' _ => sv = .tup [.v (.int .i64 s.size), .v .nilIface] ∧ H' = [bldE1 (some nm) s.size, bufE (tx s)]) := by
  refine viaR (ctS_via (A := { calls := [(7, .lend [0] (.tup []) [.cells [.ptr 0 0, .row 1] 116, .row 1 5])] }) Tryz.func70 rfl Tryz.call70 [0, 1] rfl) (CtS Tryz.prog (.v (.func (.func 110) #[] #[])) [.ptr 0 0] [⟨.cells [.v (.pointer none), .v (.slice none 0 0)] 116, some nm⟩] I fun a H b => ∃ n x, a = .tup [] ∧ H = [⟨.cells [.ptr 0 0, .rsl 1 n] 116, some nm⟩, ⟨.row x 1 5, none⟩] ∧ (1 : Nat) = 1 ∧ x.length = n * 1 ∧ n + s.size ≤ 9223372036854775807 ∧ (n + s.size) * 1 ≤ 140737488355328 ∧ Rf (SV.tup [.v (.int .i64 (s.size : Int)), .v .nilIface]) ∧ [Ent.mk (.cells [.ptr 0 0, .rsl 1 (n + s.size)] 116) (some nm), ⟨.row (x ++ List.map (fun (c : UInt8) => .int .u8 (c.toNat : Int)) s.data.toList) 1 5, none⟩] = [⟨.cells [.ptr 0 0, .rsl 1 s.size] 116, some nm⟩, ⟨.row (List.map (fun (c : UInt8) => .int .u8 (c.toNat : Int)) (tx s)) 1 5, none⟩]) (by kernel_rfl) ?_
  refine (cs110_fresh (some nm) I).mono fun a H b _ ⟨ha, hH⟩ => ⟨0, [], ha, hH, rfl, rfl, by omega, by omega, rfl, ?_⟩
  simp [bufE, tx]
theorem cs70_used (nm : Nat) (bs : List UInt8) (s : ByteArray) (hs : bs.length + s.size ≤ 100000000) (I : Mem) : CtS Tryz.prog (.v (fnv 70)) [.ptr 0 0, .v (.string s)] [bldE1 (some nm) bs.length, bufE bs] I
    (fun sv H' _ => sv = .tup [.v (.int .i64 s.size), .v .nilIface] ∧ H' = [bldE1 (some nm) (bs.length + s.size), bufE (bs ++ tx s)]) := by
  refine viaR (ctS_via (A := { calls := [(7, .lend [0, 1] (.tup []) [.cells [.ptr 0 0, .row 1] 116, .row 1 5])] }) Tryz.func70 rfl Tryz.call70 [0, 1] rfl) (CtS Tryz.prog (.v (.func (.func 110) #[] #[])) [.ptr 0 0] [⟨.cells [.ptr 0 0, .rsl 1 bs.length] 116, some nm⟩, ⟨.row (List.map (fun (b : UInt8) => .int .u8 (b.toNat : Int)) bs) 1 5, none⟩] I fun a H b => ∃ n x, a = .tup [] ∧ H = [⟨.cells [.ptr 0 0, .rsl 1 n] 116, some nm⟩, ⟨.row x 1 5, none⟩] ∧ (1 : Nat) = 1 ∧ x.length = n * 1 ∧ n + s.size ≤ 9223372036854775807 ∧ (n + s.size) * 1 ≤ 140737488355328 ∧ Rf (SV.tup [.v (.int .i64 (s.size : Int)), .v .nilIface]) ∧ [Ent.mk (.cells [.ptr 0 0, .rsl 1 (n + s.size)] 116) (some nm), ⟨.row (x ++ List.map (fun (c : UInt8) => .int .u8 (c.toNat : Int)) s.data.toList) 1 5, none⟩] = [⟨.cells [.ptr 0 0, .rsl 1 (bs.length + s.size)] 116, some nm⟩, ⟨.row (List.map (fun (c : UInt8) => .int .u8 (c.toNat : Int)) (bs ++ tx s)) 1 5, none⟩]) (by kernel_rfl) ?_
  refine (cs110_used (some nm) bs.length bs I).mono fun a H b _ ⟨ha, hH⟩ => ⟨bs.length, _, ha, hH, rfl, by simp, by omega, by omega, rfl, ?_⟩
  simp [tx]
theorem cs69_fresh (nm : Nat) (I : Mem) : CtS Tryz.prog (.v (fnv 69)) [.ptr 0 0] [bldE0 (some nm)] I (fun sv H' _ => sv = .v (.int .i64 0) ∧ H' = [bldE0 (some nm)]) := by
  refine viaR (ctS_via (A := { }) Tryz.func69 rfl Tryz.call69 [0] rfl) (Rf (SV.v (.int .i64 0)) ∧ Rf [Ent.mk (.cells [.v (.pointer none), .v (.slice none 0 0)] 116) (some nm)]) (by kernel_rfl) ?_
  exact ⟨rfl, rfl⟩
theorem cs69_used (nm : Nat) (bs : List UInt8) (I : Mem) : CtS Tryz.prog (.v (fnv 69)) [.ptr 0 0] [bldE1 (some nm) bs.length, bufE bs] I (fun sv H' _ => sv = .v (.int .i64 bs.length) ∧ H' = [bldE1 (some nm) bs.length, bufE bs]) := by
  refine viaR (ctS_via (A := { }) Tryz.func69 rfl Tryz.call69 [0, 1] rfl) (Rf (SV.v (.int .i64 (bs.length : Int))) ∧ Rf [Ent.mk (.cells [.ptr 0 0, .rsl 1 bs.length] 116) (some nm), ⟨.row (List.map (fun (b : UInt8) => .int .u8 (b.toNat : Int)) bs) 1 5, none⟩]) (by kernel_rfl) ?_
  exact ⟨rfl, rfl⟩
theorem cells5' : Tryz.prog.cellsOf 5 = 1 := by kernel_rfl
theorem str_some (b g cap : Nat) (cur : Array Value) (p : Value) (l : List UInt8) (w : World) (hbk : w.heap[b]? = some (.cells #[p, .slice (some ⟨g, 0, none⟩) l.length cap] 116 (0, 0))) (hg : w.heap[g]? = some (.cells cur 5 (0, 0)))
    (h0 : l ≠ []) (hnc : l.length ≤ cap) (hcm : cap ≤ maxLen) (hcs : cur.size = cap) (hl : ∀ (j : Nat) (x : UInt8), l[j]? = some x → cur[j]? = some (.int .u8 x.toNat)) :
    Calls Tryz.prog 71 #[.pointer (some ⟨b, 0, none⟩)] w fun e w' => e = .returned (.string ⟨l.toArray⟩) ∧ w' = w.drew.freeze ⟨g, 0, none⟩ l.length := by
  have c1 : w.drew.cell? ⟨b, 1, none⟩ = some (.slice (some ⟨g, 0, none⟩) l.length cap) := by
    have : w.drew.heap[b]? = some (.cells #[p, .slice (some ⟨g, 0, none⟩) l.length cap] 116 (0, 0)) := hbk
    rw [Lib.cell_of_heap this]; rfl
  have hl0 : l.length ≠ 0 := by simpa using h0
  have hSD : (Builtin.unsafeSliceData_ #[24] 166 #[.slice (some ⟨g, 0, none⟩) l.length cap]).run Tryz.prog w.drew = .ok (.pointer (some ⟨g, 0, none⟩)) w.drew :=
    Lib.run_unsafeSliceData_row _ _ _ _ _ _ (by omega)
  have hUS : (Builtin.unsafeString_ #[166, 3] 9 #[.pointer (some ⟨g, 0, none⟩), .int .i64 l.length]).run Tryz.prog w.drew = .ok (.string ⟨l.toArray⟩) (w.drew.freeze ⟨g, 0, none⟩ l.length) := by
    refine Lib.run_unsafeString_row w.drew 166 3 9 5 Tryz.underlying166 cells5' g cur.size (by have hg' : w.drew.heap[g]? = some (.cells cur 5 (0, 0)) := hg; simp [World.shape?, hg']) l h0 (by omega) (by unfold maxLen at hcm; omega) ?_
    intro j x hx
    have hg' : w.drew.heap[g]? = some (.cells cur 5 (0, 0)) := hg
    rw [Addr.add_lit, Nat.zero_add, Lib.cell_of_heap hg']; exact hl j x hx
  go_enter Tryz.func71, Tryz.ntmps71
  go_wp2
  go_region
  all_goals (go_wp2; go_ret; exact ⟨rfl, rfl⟩)
/-- Nothing but one block has turned. -/
structure KeepBut (w w' : World) (g : Option Nat) : Prop where
  size : w.heap.size ≤ w'.heap.size
  same : Same w w'
  keep : ∀ k, k < w.heap.size → some k ≠ g → w'.heap[k]? = w.heap[k]?
theorem run_us_none (W : World) (q : Option Addr) : (Builtin.unsafeString_ #[166, 3] 9 #[.pointer q, .int .i64 0]).run Tryz.prog W = .ok (.string .empty) W := Lib.run_unsafeString_none W _ _ _ q
theorem str_nil (b : Nat) (p : Value) (w : World) (hbk : w.heap[b]? = some (.cells #[p, .slice none 0 0] 116 (0, 0))) :
    Calls Tryz.prog 71 #[.pointer (some ⟨b, 0, none⟩)] w fun e w' => e = .returned (.string ⟨#[]⟩) ∧ KeepBut w w' none := by
  have hUS := run_us_none
  have c1 : w.drew.cell? ⟨b, 1, none⟩ = some (.slice none 0 0) := by
    have : w.drew.heap[b]? = some (.cells #[p, .slice none 0 0] 116 (0, 0)) := hbk
    rw [Lib.cell_of_heap this]; rfl
  have hSD : (Builtin.unsafeSliceData_ #[24] 166 #[.slice none 0 0]).run Tryz.prog w.drew = .ok (.pointer none) w.drew := rfl
  go_enter Tryz.func71, Tryz.ntmps71
  go_wp2
  go_region
  all_goals (go_wp2; go_ret; exact ⟨rfl, Nat.le_refl _, ⟨rfl, rfl, rfl⟩, fun _ _ _ => rfl⟩)
theorem str_room (b g cap : Nat) (p : Value) (w : World) (hc0 : cap ≠ 0) (hbk : w.heap[b]? = some (.cells #[p, .slice (some ⟨g, 0, none⟩) 0 cap] 116 (0, 0))) :
    Calls Tryz.prog 71 #[.pointer (some ⟨b, 0, none⟩)] w fun e w' => e = .returned (.string ⟨#[]⟩) ∧ KeepBut w w' none := by
  have hUS := run_us_none
  have c1 : w.drew.cell? ⟨b, 1, none⟩ = some (.slice (some ⟨g, 0, none⟩) 0 cap) := by
    have : w.drew.heap[b]? = some (.cells #[p, .slice (some ⟨g, 0, none⟩) 0 cap] 116 (0, 0)) := hbk
    rw [Lib.cell_of_heap this]; rfl
  have hSD : (Builtin.unsafeSliceData_ #[24] 166 #[.slice (some ⟨g, 0, none⟩) 0 cap]).run Tryz.prog w.drew = .ok (.pointer (some ⟨g, 0, none⟩)) w.drew :=
    Lib.run_unsafeSliceData_row _ _ _ _ _ _ hc0
  clear hc0
  go_enter Tryz.func71, Tryz.ntmps71
  go_wp2
  go_region
  all_goals (go_wp2; go_ret; exact ⟨rfl, Nat.le_refl _, ⟨rfl, rfl, rfl⟩, fun _ _ _ => rfl⟩)
theorem str_noroom (b g : Nat) (p : Value) (cur : Array Value) (w : World) (hbk : w.heap[b]? = some (.cells #[p, .slice (some ⟨g, 0, none⟩) 0 0] 116 (0, 0))) (hg : w.heap[g]? = some (.cells cur 5 (0, 0))) :
    Calls Tryz.prog 71 #[.pointer (some ⟨b, 0, none⟩)] w fun e w' => e = .returned (.string ⟨#[]⟩) ∧ KeepBut w w' none := by
  have hUS := run_us_none
  have hlt : b < w.heap.size := (Array.getElem?_eq_some_iff.1 hbk).1
  have c1 : w.drew.cell? ⟨b, 1, none⟩ = some (.slice (some ⟨g, 0, none⟩) 0 0) := by
    have : w.drew.heap[b]? = some (.cells #[p, .slice (some ⟨g, 0, none⟩) 0 0] 116 (0, 0)) := hbk
    rw [Lib.cell_of_heap this]; rfl
  have hg' : w.drew.heap[g]? = some (.cells cur 5 (0, 0)) := hg
  have hsh : w.drew.shape? g = some (5, cur.size) := by simp [World.shape?, hg']
  have hSD : (Builtin.unsafeSliceData_ #[24] 166 #[.slice (some ⟨g, 0, none⟩) 0 0]).run Tryz.prog w.drew = .ok (.pointer (some ⟨w.drew.heap.size, 0, none⟩)) (w.drew.alloc (.view ⟨g, 0, none⟩ 5)) :=
    Lib.run_unsafeSliceData_zero w.drew _ _ 5 Tryz.underlying166 ⟨g, 0, none⟩ 0 (5, cur.size) hsh
  have c2 : (w.drew.alloc (.view ⟨g, 0, none⟩ 5)).cell? ⟨b, 1, none⟩ = some (.slice (some ⟨g, 0, none⟩) 0 0) := by
    have : (w.drew.alloc (.view ⟨g, 0, none⟩ 5)).heap[b]? = _ := (Lib.alloc_old w.drew _ b hlt).trans hbk
    rw [Lib.cell_of_heap this]; rfl
  have c3 : (w.alloc (.view ⟨g, 0, none⟩ 5)).drew.cell? ⟨b, 1, none⟩ = some (.slice (some ⟨g, 0, none⟩) 0 0) := c2
  have c0 : w.cell? ⟨b, 1, none⟩ = some (.slice (some ⟨g, 0, none⟩) 0 0) := c1
  have fin : KeepBut w (w.drew.alloc (.view ⟨g, 0, none⟩ 5)) none := ⟨by show w.heap.size ≤ (w.heap.push _).size; rw [Array.size_push]; omega, ⟨rfl, rfl, rfl⟩, fun k hk _ => Lib.alloc_old w.drew _ k hk⟩
  go_enter Tryz.func71, Tryz.ntmps71
  go_wp2
  go_region
  all_goals (go_wp2; go_ret; exact ⟨rfl, fin⟩)
theorem freeze_keep (w : World) (g n : Nat) : KeepBut w (w.drew.freeze ⟨g, 0, none⟩ n) (some g) := by
  unfold World.freeze
  split
  · exact ⟨Nat.le_refl _, ⟨rfl, rfl, rfl⟩, fun _ _ _ => rfl⟩
  · refine ⟨?_, ⟨rfl, rfl, rfl⟩, fun k hk hne => ?_⟩
    · show w.heap.size ≤ (Array.modify _ _ _).size
      rw [Array.size_modify]; exact Nat.le_refl _
    · show (Array.modify _ _ _)[k]? = _
      rw [Array.getElem?_modify, if_neg (fun e => hne (congrArg some e.symm))]; rfl
/-- What the builder holds, as a string. -/
theorem cs71 (nm : Option Nat) (bs : List UInt8) (I : Mem) : CtS Tryz.prog (.v (fnv 71)) [.ptr 0 0] [bldE1 nm bs.length, bufE bs] I (fun sv H' _ => sv = .v (.string (strT bs)) ∧ H' = [⟨.dead, none⟩, ⟨.dead, none⟩]) := by
  intro e hp hO W hI hpW hap
  obtain ⟨hn, c, hc, hcs, hcv⟩ := hO.hold 0 _ rfl rfl
  have e0 : c[0]? = some (.pointer (some ⟨e.blk 0, 0, none⟩)) := by have := hcv 0 (.ptr 0 0) rfl rfl; simpa [den] using this
  have e1 : c[1]? = some (.slice (if e.nil 1 then none else some ⟨e.blk 1, 0, none⟩) bs.length (e.cap 1)) := by have := hcv 1 (.rsl 1 bs.length) rfl rfl; simpa [den] using this
  have hsz : c.size = 2 := hcs
  have hceq : c = #[.pointer (some ⟨e.blk 0, 0, none⟩), .slice (if e.nil 1 then none else some ⟨e.blk 1, 0, none⟩) bs.length (e.cap 1)] := by
    apply Array.ext_getElem?
    intro i
    match i with
    | 0 => simpa using e0
    | 1 => simpa using e1
    | i + 2 => rw [Array.getElem?_eq_none (by omega), Array.getElem?_eq_none (by simp)]
  have hW := hpW _ _ hc
  obtain ⟨_, _, hrow⟩ := hO.hold 1 _ rfl rfl
  have hargs : (denL e [.ptr 0 0]).toArray = #[.pointer (some ⟨e.blk 0, 0, none⟩)] := by simp [denL, den]
  rw [hargs]
  obtain ⟨g, hg⟩ : ∃ g, g = if e.nil 1 then none else some (e.blk 1) := ⟨_, rfl⟩
  have key : Calls Tryz.prog 71 #[.pointer (some ⟨e.blk 0, 0, none⟩)] W fun en w' => en = .returned (.string (strT bs)) ∧ KeepBut W w' g := by
    rcases hrow with ⟨h1, h2, h3⟩ | ⟨h1, cur, h2, h3, h4, h5, h6⟩
    · have hb : bs = [] := by simpa using h3
      subst hb
      rw [h1] at hceq hg
      simp only [if_true] at hceq hg
      rw [hceq, h2] at hW
      exact (str_nil _ _ W hW).mono fun en w' ⟨he, hk⟩ => ⟨he, by rw [hg]; exact hk⟩
    · rw [h1] at hceq hg
      simp only [Bool.false_eq_true, if_false] at hceq hg
      rw [hceq] at hW
      have hWg := hpW _ _ h2
      rw [List.length_map] at h5 h6
      have hcur : cur.size = e.cap 1 := by rw [h3, Nat.mul_one]
      have none_some : ∀ {w' : World}, KeepBut W w' none → KeepBut W w' g := fun hk => ⟨hk.size, hk.same, fun k hlt _ => hk.keep k hlt (by simp)⟩
      cases bs with
      | nil =>
        by_cases hc0 : e.cap 1 = 0
        · rw [hc0] at hW
          exact (str_noroom _ _ _ cur W hW hWg).mono fun en w' ⟨he, hk⟩ => ⟨he, none_some hk⟩
        · exact (str_room _ _ _ _ W hc0 hW).mono fun en w' ⟨he, hk⟩ => ⟨he, none_some hk⟩
      | cons x r =>
        refine (str_some _ _ _ cur _ (x :: r) W hW hWg (by simp) (by omega) h4 hcur fun j y hj => ?_).mono fun en w' ⟨he, hk⟩ => ⟨he, by rw [hk, hg]; exact freeze_keep _ _ _⟩
        have hlt := (List.getElem?_eq_some_iff.1 hj).1
        have := congrArg (fun l : List Value => l[j]?) h6
        simp only [List.getElem?_map, hj, Option.map_some, List.getElem?_take] at this
        rw [if_pos hlt] at this
        simpa using this
  refine callV_func Tryz.call71 (args := [.pointer (some ⟨e.blk 0, 0, none⟩)]) (by simp) (callsIn_wide.2 (key.mono ?_))
  rintro en w' ⟨he, hk⟩
  have hin : ∀ k, hp k = none → some k ≠ g := fun k hk2 hkg => by
    rw [hg] at hkg
    split at hkg
    · cases hkg
    · rename_i hnl
      have hnl : e.nil 1 = false := by simpa using hnl
      cases hkg
      rcases hrow with ⟨h1, _, _⟩ | ⟨_, cur, h2, _⟩
      · rw [h1] at hnl; cases hnl
      · rw [h2] at hk2; cases hk2
  have hIk : ∀ k o, I k = some o → w'.heap[k]? = some o := fun k o hko => by
    have hkn : hp k = none := by
      rcases hap k with h | h
      · rw [h] at hko; cases hko
      · exact h
    rw [hk.keep k (Mem.inW_lt hI hko) (hin k hkn)]
    exact hI k o hko
  refine ⟨.string (strT bs), I, Mem.emp, he, Mem.le_refl _, hIk, Mem.emp_inW _, Mem.apart_emp _, hk.size, hk.same, fun k hlt hkn => hk.keep k hlt (hin k hkn), fun k _ _ => ⟨rfl, fun h => h⟩, e, .v (.string (strT bs)), _, by simp [den], ?_, rfl, rfl⟩
  refine ⟨fun id x hx hal => ?_, fun i j x y hi hj hal _ _ _ _ => ?_, fun k hk => absurd rfl hk, fun id x k hx hnm => ?_⟩
  · match id, hx with
    | 0, hx => cases hx; cases hal
    | 1, hx => cases hx; cases hal
  · match i, hi with
    | 0, hi => cases hi; cases hal
    | 1, hi => cases hi; cases hal
  · match id, hx with
    | 0, hx => cases hx; cases hnm
    | 1, hx => cases hx; cases hnm
open Go Go.Proofs Go.SE Go.RowKit
set_option linter.unusedVariables false
set_option maxRecDepth 100000
/-- A builder in memory that is set aside. -/
def BldG (G : Mem) (b : Nat) (bs : List UInt8) : Prop := ∃ e H, OwnE e H G ∧ ((H = [bldE0 (some b)] ∧ bs = []) ∨ H = [bldE1 (some b) bs.length, bufE bs])
theorem bld_blk {e : Env} {H : List Ent} {G : Mem} {x : Ent} {r : List Ent} {b : Nat} (hO : OwnE e H G) (hH : H = x :: r) (hx : x.name = some b) : e.blk 0 = b := by
  subst hH
  exact (hO.names 0 x b rfl hx).1
theorem ch70 (G : Mem) (b : Nat) (bs : List UInt8) (s : ByteArray) (hs : bs.length + s.size ≤ 100000000) (I : Mem) (h : BldG G b bs) :
    CtH Tryz.prog (fnv 70) #[.pointer (some ⟨b, 0, none⟩), .string s] I G (fun v I' G' => v = .tuple #[.int .i64 s.size, .nilIface] ∧ BldG G' b (bs ++ tx s)) := by
  obtain ⟨e, H, hO, hH⟩ := h
  have harg : e.blk 0 = b → (denL e [.ptr 0 0, .v (.string s)]).toArray = #[.pointer (some ⟨b, 0, none⟩), .string s] := fun hb => by simp [denL, den, hb]
  rcases hH with ⟨hH, rfl⟩ | hH
  · have hb := bld_blk hO hH rfl
    have := (cs70_fresh b s (by simpa using hs) I) e G (hH ▸ hO)
    rw [harg hb] at this
    refine CtH.mono this fun v I' G' _ ⟨e', sv, H', hv, hO', hsv, hH'⟩ => ⟨by rw [hv, hsv]; simp [den, denL], e', H', hO', .inr ?_⟩
    rw [hH']
    have : (tx s).length = s.size := Array.length_toList
    simp [this]
  · have hb := bld_blk hO hH rfl
    have := (cs70_used b bs s hs I) e G (hH ▸ hO)
    rw [harg hb] at this
    refine CtH.mono this fun v I' G' _ ⟨e', sv, H', hv, hO', hsv, hH'⟩ => ⟨by rw [hv, hsv]; simp [den, denL], e', H', hO', .inr ?_⟩
    rw [hH']
    have : (tx s).length = s.size := Array.length_toList
    simp [this]
theorem ch69 (G : Mem) (b : Nat) (bs : List UInt8) (I : Mem) (h : BldG G b bs) :
    CtH Tryz.prog (fnv 69) #[.pointer (some ⟨b, 0, none⟩)] I G (fun v I' G' => v = .int .i64 bs.length ∧ BldG G' b bs) := by
  obtain ⟨e, H, hO, hH⟩ := h
  have harg : e.blk 0 = b → (denL e [.ptr 0 0]).toArray = #[.pointer (some ⟨b, 0, none⟩)] := fun hb => by simp [denL, den, hb]
  rcases hH with ⟨hH, rfl⟩ | hH
  · have hb := bld_blk hO hH rfl
    have := (cs69_fresh b I) e G (hH ▸ hO)
    rw [harg hb] at this
    exact CtH.mono this fun v I' G' _ ⟨e', sv, H', hv, hO', hsv, hH'⟩ => ⟨by rw [hv, hsv]; simp [den], e', H', hO', .inl ⟨hH', rfl⟩⟩
  · have hb := bld_blk hO hH rfl
    have := (cs69_used b bs I) e G (hH ▸ hO)
    rw [harg hb] at this
    exact CtH.mono this fun v I' G' _ ⟨e', sv, H', hv, hO', hsv, hH'⟩ => ⟨by rw [hv, hsv]; simp [den], e', H', hO', .inr hH'⟩
theorem cs71_fresh (nm : Option Nat) (I : Mem) : CtS Tryz.prog (.v (fnv 71)) [.ptr 0 0] [bldE0 nm] I (fun sv H' _ => sv = .v (.string (strT [])) ∧ H' = [⟨.dead, none⟩]) := by
  intro e hp hO W hI hpW hap
  obtain ⟨hn, c, hc, hcs, hcv⟩ := hO.hold 0 _ rfl rfl
  have e0 : c[0]? = some (.pointer none) := by have := hcv 0 (.v (.pointer none)) rfl rfl; simpa [den] using this
  have e1 : c[1]? = some (.slice none 0 0) := by have := hcv 1 (.v (.slice none 0 0)) rfl rfl; simpa [den] using this
  have hsz : c.size = 2 := hcs
  have hceq : c = #[.pointer none, .slice none 0 0] := by
    apply Array.ext_getElem?
    intro i
    match i with
    | 0 => simpa using e0
    | 1 => simpa using e1
    | i + 2 => rw [Array.getElem?_eq_none (by omega), Array.getElem?_eq_none (by simp)]
  have hW := hpW _ _ hc
  rw [hceq] at hW
  have hargs : (denL e [.ptr 0 0]).toArray = #[.pointer (some ⟨e.blk 0, 0, none⟩)] := by simp [denL, den]
  rw [hargs]
  refine callV_func Tryz.call71 (args := [.pointer (some ⟨e.blk 0, 0, none⟩)]) (by simp) (callsIn_wide.2 ((str_nil _ _ W hW).mono ?_))
  rintro en w' ⟨he, hk⟩
  refine ⟨.string (strT []), I, Mem.emp, he, Mem.le_refl _, fun k o hko => ?_, Mem.emp_inW _, Mem.apart_emp _, hk.size, hk.same, fun k hlt hkn => hk.keep k hlt (by simp), fun k _ _ => ⟨rfl, fun h => h⟩, e, .v (.string (strT [])), _, by simp [den], ?_, rfl, rfl⟩
  · rw [hk.keep k (Mem.inW_lt hI hko) (by simp)]
    exact hI k o hko
  refine ⟨fun id x hx hal => ?_, fun i j x y hi hj hal _ _ _ _ => ?_, fun k hk => absurd rfl hk, fun id x k hx hnm => ?_⟩
  · match id, hx with
    | 0, hx => cases hx; cases hal
  · match i, hi with
    | 0, hi => cases hi; cases hal
  · match id, hx with
    | 0, hx => cases hx; cases hnm
theorem ch71 (G : Mem) (b : Nat) (bs : List UInt8) (I : Mem) (h : BldG G b bs) :
    CtH Tryz.prog (fnv 71) #[.pointer (some ⟨b, 0, none⟩)] I G (fun v I' G' => v = .string (strT bs)) := by
  obtain ⟨e, H, hO, hH⟩ := h
  have harg : e.blk 0 = b → (denL e [.ptr 0 0]).toArray = #[.pointer (some ⟨b, 0, none⟩)] := fun hb => by simp [denL, den, hb]
  rcases hH with ⟨hH, rfl⟩ | hH
  · have hb := bld_blk hO hH rfl
    have := (cs71_fresh (some b) I) e G (hH ▸ hO)
    rw [harg hb] at this
    exact CtH.mono this fun v I' G' _ ⟨e', sv, H', hv, hO', hsv, hH'⟩ => by rw [hv, hsv]; simp [den]
  · have hb := bld_blk hO hH rfl
    have := (cs71 (some b) bs I) e G (hH ▸ hO)
    rw [harg hb] at this
    exact CtH.mono this fun v I' G' _ ⟨e', sv, H', hv, hO', hsv, hH'⟩ => by rw [hv, hsv]; simp [den]
/-- The lines of entries. -/
def textL (l : List En) : Tx := l.flatMap fun e => lineT e ++ [10]
/-- The number of the first entry that is not clean. -/
def badAt (l : List En) : Option Nat := l.findIdx? fun e => !cleanE e
def writeL (l : List En) : Tx × Int × Int := match badAt l with
  | some i => ([], i, 410)
  | none => if 4000 < l.length then ([], -1, 5) else if 1048576 < (textL l).length then ([], -1, 3) else (textL l, -1, 0)
theorem textL_snoc (l : List En) (e : En) : textL (l ++ [e]) = textL l ++ (lineT e ++ [10]) := by simp [textL]
def bldI (l : List En) (G : Mem) (v : Value) (j : Int) : Prop := ∃ b bs, v = .pointer (some ⟨b, 0, none⟩) ∧ BldG G b bs ∧ 0 ≤ j ∧ j ≤ l.length ∧ (∀ e ∈ l.take j.toNat, cleanE e = true) ∧
  ((bs = textL (l.take j.toNat) ∧ bs.length ≤ 1090000) ∨ (1048576 < bs.length ∧ bs.length ≤ 1090000 ∧ 1048576 < (textL (l.take j.toNat)).length))
theorem badAt_some {l : List En} {i : Nat} (hi : i < l.length) (hc : ∀ e ∈ l.take i, cleanE e = true) (hb : cleanE l[i] = false) : badAt l = some i := by
  rw [badAt, List.findIdx?_eq_some_iff_getElem]
  refine ⟨hi, by rw [hb]; rfl, fun j hj => ?_⟩
  have : l[j]'(by omega) ∈ l.take i := List.mem_take_iff_getElem.2 ⟨j, by omega, rfl⟩
  rw [hc _ this]; decide
theorem badAt_none {l : List En} (hc : ∀ e ∈ l, cleanE e = true) : badAt l = none := by
  rw [badAt, List.findIdx?_eq_none_iff]
  intro e he
  rw [hc e he]; rfl
theorem ct31 (l : List En) (a : Option Addr) (n c : Nat) (I : Mem) (hG : Globs I) (h : EnM I a n l) (hn : n ≤ 100000) :
    Ct Tryz.prog (fnv 31) #[.slice a n c] I (fun v _ => v = .tuple #[.string (strT (writeL l).1), .int .i64 (writeL l).2.1, .int .i64 (writeL l).2.2]) := by
  obtain ⟨BI, hBI⟩ : ∃ f : Mem → Value → Int → Prop, f = bldI l := ⟨_, rfl⟩
  obtain ⟨Q, hQ⟩ : ∃ q : Value, q = .tuple #[.string (strT (writeL l).1), .int .i64 (writeL l).2.1, .int .i64 (writeL l).2.2] := ⟨_, rfl⟩
  rw [← hQ]
  refine viaR (ct_via (A := { gives := [(2, [0])], calls := [(26, .g), (30, .g), (37, .g), (39, .g)], loops := [(3, ⟨[(0, .keep), (2, .keep), (3, .keep), (4, .keep), (5, .kv), (10, .keep), (11, .keep), (12, .sh (.int .i64))], [], [], fun vals _ I' G' => match vals with | [pv, .int .i64 j] => BI G' pv j | _ => False, fun vals _ => match vals with | [_, .int .i64 j] => (n - j).toNat | _ => 0⟩)] }) Tryz.func31 rfl Tryz.call31 rfl rfl) (∀ (b : Nat), I b = none → Rf (none : Option Obj) → (Rf (SV.v (.slice a n c)) ∧ Rf (SV.v (.string ⟨#[]⟩)) ∧ Rf (SV.v (.int .i64 0)) ∧ Rf (SV.v (.int .i64 0)) ∧ Rf (SV.v (.pointer (some ⟨b, 0, none⟩))) ∧ Rf (SV.v (.slice a n c)) ∧ Rf (SV.v (.int .i64 (n : Int))) ∧ BI (addB Mem.emp b (.cells #[.pointer none, .slice none 0 0] 116 (0, 0))) (.pointer (some ⟨b, 0, none⟩)) 0) ∧ ∀ (d G : Mem), I.le d → ∀ (e : Int), BI G (.pointer (some ⟨b, 0, none⟩)) e → Br (decide (e < (n : Int))) (0 ≤ e ∧ e < (n : Int) ∧ a.isSome = true ∧ (4 : Nat) = 4 ∧ ∃ f, atI d a (e.toNat * 4 + 0) = some (.int .u8 f) ∧ ∃ g, atI d a (e.toNat * 4 + 1) = some (.int .i64 g) ∧ ∃ i, atI d a (e.toNat * 4 + 2) = some (.int .i64 i) ∧ ∃ j k m, atI d a (e.toNat * 4 + 3) = some (.slice j k m) ∧ Ct Tryz.prog (.func (.func 22) #[] #[]) #[.agg #[.int .u8 f, .int .i64 g, .int .i64 i, .slice j k m]] d fun v o => ∃ q p, v = .tuple #[.string q, .int .i64 p] ∧ Br (p != 0) (Value.tuple #[.string ⟨#[]⟩, .int .i64 e, .int .i64 p] = Q) (CtH Tryz.prog (.func (.func 69) #[] #[]) #[.pointer (some ⟨b, 0, none⟩)] o G (fun r s t => ∃ u, r = .int .i64 u ∧ Br (decide (u ≤ 1048576)) (q.size + 1 ≤ 4611686018427387904 ∧ CtH Tryz.prog (.func (.func 70) #[] #[]) #[.pointer (some ⟨b, 0, none⟩), .string (q ++ ⟨#[10]⟩)] s t fun w x y => ∃ z x1, w = .tuple #[.int .i64 z, x1] ∧ Wr .i64 (e + 1) fun c1 => Rf (SV.v (.slice a n c)) ∧ Rf (SV.v (.string ⟨#[]⟩)) ∧ Rf (SV.v (.int .i64 0)) ∧ Rf (SV.v (.int .i64 0)) ∧ Rf (SV.v (.pointer (some ⟨b, 0, none⟩))) ∧ Rf (SV.v (.slice a n c)) ∧ Rf (SV.v (.int .i64 (n : Int))) ∧ BI y (.pointer (some ⟨b, 0, none⟩)) c1 ∧ Int.toNat ((n : Int) - c1) < Int.toNat ((n : Int) - e)) (Wr .i64 (e + 1) (fun w => Rf (SV.v (.slice a n c)) ∧ Rf (SV.v (.string ⟨#[]⟩)) ∧ Rf (SV.v (.int .i64 0)) ∧ Rf (SV.v (.int .i64 0)) ∧ Rf (SV.v (.pointer (some ⟨b, 0, none⟩))) ∧ Rf (SV.v (.slice a n c)) ∧ Rf (SV.v (.int .i64 (n : Int))) ∧ BI t (.pointer (some ⟨b, 0, none⟩)) w ∧ Int.toNat ((n : Int) - w) < Int.toNat ((n : Int) - e)))))) (Br (decide (4000 < (n : Int))) (Value.tuple #[.string ⟨#[]⟩, .int .i64 (-1), .int .i64 5] = Q) (CtH Tryz.prog (.func (.func 69) #[] #[]) #[.pointer (some ⟨b, 0, none⟩)] d G (fun v f g => ∃ i, v = .int .i64 i ∧ Br (decide (1048576 < i)) (Value.tuple #[.string ⟨#[]⟩, .int .i64 (-1), .int .i64 3] = Q) (CtH Tryz.prog (.func (.func 71) #[] #[]) #[.pointer (some ⟨b, 0, none⟩)] f g (fun j k m => ∃ q, j = .string q ∧ Value.tuple #[.string q, .int .i64 (-1), .int .i64 0] = Q)))))) (by kernel_rfl) ?_
  have hl := SlR.len (by decide) h
  have hok := h.ok
  intro b hb _
  refine ⟨⟨rfl, rfl, rfl, rfl, rfl, rfl, rfl, ?_⟩, fun d G ld j hj => ?_⟩
  · rw [hBI]
    refine ⟨b, [], rfl, ⟨⟨fun _ => b, fun _ => 0, fun _ => false⟩, _, ?_, .inl ⟨rfl, rfl⟩⟩, by omega, by omega, by simp, .inl ⟨rfl, by simp⟩⟩
    refine ⟨fun id x hx hal => ?_, fun i j x y hi hj _ _ _ _ hij => ?_, fun k hk => ?_, fun id x k hx hnm => ?_⟩
    · match id, hx with
      | 0, hx =>
        cases hx
        refine ⟨rfl, _, by simp [addB]; rfl, rfl, fun k sv hk hj => ?_⟩
        match k, hk with
        | 0, hk => cases hk; simp [den]
        | 1, hk => cases hk; simp [den]
    · match i, j, hi, hj with
      | 0, 0, _, _ => exact absurd rfl hij
    · by_cases hkb : k = b
      · exact ⟨0, _, rfl, rfl, rfl, hkb.symm⟩
      · simp [addB, hkb, Mem.emp] at hk
    · match id, hx with
      | 0, hx => cases hx; cases hnm; exact ⟨rfl, rfl⟩
  rw [hBI] at hj
  obtain ⟨b', bs, hv, hB, h0, h1, hc, hbs⟩ := hj
  cases hv
  refine Br.mk (fun hlt => ?_) (fun hge => ?_)
  · have hlt := of_decide_eq_true hlt
    obtain ⟨e, eb, em, ec, g1, g2, g3, g4, g5, g6, g7⟩ := (h.mono ld).get h0 hlt
    have hjl : j.toNat < l.length := by omega
    have hej : l[j.toNat] = e := by
      rw [List.getElem?_eq_getElem hjl] at g1
      exact Option.some.inj g1
    refine ⟨h0, hlt, SlR.isSome h (by omega), rfl, _, g4, _, g5, _, g6, _, _, _, g7, (ct22 e g2 _ d (hG.mono ld) g3).mono fun v o lo hv => ⟨_, _, hv, Br.mk (fun h2 => ?_) (fun h2 => ?_)⟩⟩
    · have hcl : cleanE e = false := by
        cases hq : cleanE e with
        | false => rfl
        | true => rw [lineE, hq] at h2; cases h2
      rw [hQ, writeL, badAt_some hjl hc (by rw [hej]; exact hcl), lineE, hcl]
      simp only [Bool.false_eq_true, if_false]
      rw [Int.toNat_of_nonneg h0]
      rfl
    · have hcl : cleanE e = true := by
        cases hq : cleanE e with
        | true => rfl
        | false => rw [lineE, hq] at h2; cases h2
      have hll := lineT_len g2 hcl
      have htake : l.take (j + 1).toNat = l.take j.toNat ++ [e] := by
        rw [show (j + 1).toNat = j.toNat + 1 by omega, List.take_add_one, g1]; rfl
      have hc' : ∀ x ∈ l.take (j + 1).toNat, cleanE x = true := fun x hx => by
        rw [htake] at hx
        rcases List.mem_append.1 hx with hx | hx
        · exact hc x hx
        · simp only [List.mem_cons, List.not_mem_nil, or_false] at hx
          rw [hx]; exact hcl
      refine CtH.mono (ch69 G b bs o hB) fun r s t ls ⟨hr, hB2⟩ => ⟨_, hr, Br.mk (fun h3 => ?_) (fun h3 => ?_)⟩
      · have h3 := of_decide_eq_true h3
        have hbs : bs = textL (l.take j.toNat) := by
          rcases hbs with hbs | hbs
          · exact hbs.1
          · omega
        have hsz : (strT (lineT e) ++ ⟨#[10]⟩ : ByteArray).size = (lineT e).length + 1 := by rw [ByteArray.size_append, strT_size]; rfl
        have htx : tx (strT (lineT e) ++ ⟨#[10]⟩) = lineT e ++ [10] := by
          rw [show (⟨#[10]⟩ : ByteArray) = strT [10] from rfl, strT_add, tx_strT]
        refine ⟨by rw [strT_size]; omega, CtH.mono (ch70 t b bs _ (by rw [hsz]; omega) s hB2) fun w x y lx ⟨hw, hB3⟩ => ⟨_, _, hw, wr_i64 (by omega) (by omega) ⟨rfl, rfl, rfl, rfl, rfl, rfl, rfl, ?_, by omega⟩⟩⟩
        rw [hBI]
        refine ⟨b, _, rfl, hB3, by omega, by omega, hc', .inl ⟨?_, ?_⟩⟩
        · rw [htake, textL_snoc, hbs, htx]
        · rw [htx, List.length_append, List.length_append]
          simp only [List.length_cons, List.length_nil]; omega
      · have h3 := of_decide_eq_false h3
        refine wr_i64 (by omega) (by omega) ⟨rfl, rfl, rfl, rfl, rfl, rfl, rfl, ?_, by omega⟩
        rw [hBI]
        refine ⟨b, bs, rfl, hB2, by omega, by omega, hc', .inr ⟨by omega, ?_, ?_⟩⟩
        · rcases hbs with hbs | hbs
          · exact hbs.2
          · exact hbs.2.1
        · rw [htake, textL_snoc, List.length_append]
          rcases hbs with hbs | hbs
          · rw [← hbs.1]; omega
          · omega
  · have hge := of_decide_eq_false hge
    have hall : l.take j.toNat = l := List.take_of_length_le (by omega)
    rw [hall] at hc hbs
    have hno := badAt_none hc
    refine Br.mk (fun h2 => ?_) (fun h2 => ?_)
    · have h2 := of_decide_eq_true h2
      rw [hQ, writeL, hno]
      simp only
      rw [if_pos (by omega)]; rfl
    have h2 := of_decide_eq_false h2
    have hw : writeL l = if 1048576 < (textL l).length then ([], -1, 3) else (textL l, -1, 0) := by
      rw [writeL, hno]
      simp only
      rw [if_neg (by omega)]
    refine CtH.mono (ch69 G b bs d hB) fun v f g lf ⟨hv, hB2⟩ => ⟨_, hv, Br.mk (fun h3 => ?_) (fun h3 => ?_)⟩
    · have h3 := of_decide_eq_true h3
      rw [hQ, hw, if_pos]
      · rfl
      · rcases hbs with hbs | hbs
        · rw [← hbs.1]; omega
        · omega
    · have h3 := of_decide_eq_false h3
      have hbs : bs = textL l := by
        rcases hbs with hbs | hbs
        · exact hbs.1
        · omega
      refine CtH.mono (ch71 g b bs f hB2) fun v k m lk hv => ⟨_, hv, ?_⟩
      rw [hQ, hw, if_neg (by rw [← hbs]; omega), hbs]
open Go Go.Proofs Go.SE Go.RowKit
set_option linter.unusedVariables false
set_option maxRecDepth 100000
/-! ### Lines of a text -/
def linesT : Tx → List Tx
  | [] => []
  | b :: r => if b = 10 then [] :: linesT r else match linesT r with
    | [] => [[b]]
    | x :: xs => (b :: x) :: xs
theorem idx10_hit : ∀ (x r : Tx), (10 : UInt8) ∉ x → Lib.indexByte (x ++ 10 :: r) 10 = x.length
  | [], r, _ => by simp [Lib.indexByte]
  | b :: x, r, h => by
    simp only [List.mem_cons, not_or] at h
    rw [List.cons_append, Lib.indexByte, idx10_hit x r h.2, if_neg (by simpa using fun e => h.1 e.symm), if_neg (by simp)]
    simp
theorem idx10_miss : ∀ (x : Tx), (10 : UInt8) ∉ x → Lib.indexByte x 10 = -1
  | [], _ => rfl
  | b :: x, h => by
    simp only [List.mem_cons, not_or] at h
    rw [Lib.indexByte, idx10_miss x h.2, if_neg (by simpa using fun e => h.1 e.symm)]
    simp
theorem cut_hit (x r : Tx) (h : (10 : UInt8) ∉ x) : cutT (x ++ 10 :: r) = (x, r, true) := by
  rw [cutT, Lib.cut, Lib.index_one, idx10_hit x r h, if_pos (by omega)]
  simp only [Int.toNat_natCast, List.length_singleton]
  rw [List.take_left', List.drop_append, List.drop_of_length_le (by omega), show x.length + 1 - x.length = 1 by omega]
  · rfl
  · rfl
theorem cut_miss (x : Tx) (h : (10 : UInt8) ∉ x) : cutT x = (x, [], false) := by
  rw [cutT, Lib.cut, Lib.index_one, idx10_miss x h, if_neg (by omega)]
theorem lines_hit (x r : Tx) (h : (10 : UInt8) ∉ x) : linesT (x ++ 10 :: r) = x :: linesT r := by
  induction x with
  | nil => rw [List.nil_append, linesT, if_pos rfl]
  | cons b x ih =>
    simp only [List.mem_cons, not_or] at h
    rw [List.cons_append, linesT, if_neg (fun e => h.1 e.symm), ih h.2]
theorem lines_miss {x : Tx} (h : (10 : UInt8) ∉ x) (hne : x ≠ []) : linesT x = [x] := by
  induction x with
  | nil => exact absurd rfl hne
  | cons b x ih =>
    simp only [List.mem_cons, not_or] at h
    rw [linesT, if_neg (fun e => h.1 e.symm)]
    by_cases hx : x = []
    · subst hx; rfl
    · rw [ih h.2 hx]
theorem lines_cut {t : Tx} (h : t ≠ []) : linesT t = (cutT t).1 :: linesT (cutT t).2.1 ∧ (cutT t).2.1.length < t.length ∧ (cutT t).1.length ≤ t.length := by
  by_cases hc : (10 : UInt8) ∈ t
  · obtain ⟨x, r, rfl, hx⟩ := List.eq_append_cons_of_mem hc
    rw [cut_hit x r hx, lines_hit x r hx]
    simp only [List.length_append, List.length_cons]
    exact ⟨trivial, by omega, by omega⟩
  · rw [cut_miss t hc, lines_miss hc h]
    refine ⟨rfl, ?_, Nat.le_refl _⟩
    show 0 < t.length
    exact List.length_pos_iff.2 h
theorem lines_len : ∀ (n : Nat) (t : Tx), t.length ≤ n → (linesT t).length ≤ t.length ∧ ∀ x ∈ linesT t, x.length ≤ t.length
  | 0, t, h => by
    have : t = [] := List.eq_nil_of_length_eq_zero (by omega)
    subst this; exact ⟨Nat.le_refl _, fun x hx => by cases hx⟩
  | n + 1, t, h => by
    by_cases ht : t = []
    · subst ht; exact ⟨Nat.le_refl _, fun x hx => by cases hx⟩
    · obtain ⟨h1, h2, h3⟩ := lines_cut ht
      obtain ⟨g1, g2⟩ := lines_len n (cutT t).2.1 (by omega)
      rw [h1]
      refine ⟨by rw [List.length_cons]; omega, fun x hx => ?_⟩
      rcases List.mem_cons.1 hx with rfl | hx
      · exact h3
      · exact Nat.le_trans (g2 x hx) (by omega)
/-- The entries of lines, from one with a number on. -/
def skipT (s : Tx) : Bool := decide (s = []) || decide (s.head? = some 35)
def parseGo : List Tx → Int → List En → List En × Int × Int
  | [], _, out => (out, 0, 0)
  | s :: r, n, out => if skipT s then parseGo r (n + 1) out
    else if (readL s).2 ≠ 0 then ([], n, (readL s).2)
    else if 4000 ≤ out.length then ([], n, 5)
    else parseGo r (n + 1) (out ++ [(readL s).1])
def parseL (t : Tx) : List En × Int × Int := if 1048576 < t.length then ([], 0, 3) else parseGo (linesT t) 1 []
theorem parseGo_line {e : En} (hk : okEn e) (hc : cleanE e = true) (r : List Tx) (n : Int) (out : List En) (ho : out.length < 4000) : parseGo (lineT e :: r) n out = parseGo r (n + 1) (out ++ [e]) := by
  obtain ⟨c, q, hl, h35⟩ := lineT_head hc
  have hs : skipT (lineT e) = false := by
    rw [skipT, hl]
    simp [h35]
  rw [parseGo, hs, read_line hk hc]
  simp only [Bool.false_eq_true, if_false, ne_eq, not_true]
  rw [if_neg (by omega)]
theorem lines_text : ∀ (l : List En), (∀ e ∈ l, okEn e) → linesT (textL l) = l.map lineT
  | [], _ => rfl
  | e :: l, h => by
    rw [textL, List.flatMap_cons, List.append_assoc]
    show linesT (lineT e ++ 10 :: textL l) = _
    rw [lines_hit _ _ (lineT_free (h e (by simp))), lines_text l fun x hx => h x (List.mem_cons_of_mem _ hx), List.map_cons]
theorem parseGo_all : ∀ (l : List En) (n : Int) (out : List En), (∀ e ∈ l, okEn e ∧ cleanE e = true) → out.length + l.length ≤ 4000 → parseGo (l.map lineT) n out = (out ++ l, 0, 0)
  | [], n, out, _, _ => by simp [parseGo]
  | e :: l, n, out, h, hl => by
    simp only [List.length_cons] at hl
    rw [List.map_cons, parseGo_line (h e (by simp)).1 (h e (by simp)).2 _ _ _ (by omega), parseGo_all l _ _ (fun x hx => h x (List.mem_cons_of_mem _ hx)) (by simp; omega)]
    simp
theorem textL_len : ∀ (l : List En), (∀ e ∈ l, okEn e ∧ cleanE e = true) → (textL l).length ≤ 33000 * l.length
  | [], _ => by simp [textL]
  | e :: l, h => by
    have := textL_len l fun x hx => h x (List.mem_cons_of_mem _ hx)
    have h2 := lineT_len (h e (by simp)).1 (h e (by simp)).2
    rw [textL, List.flatMap_cons, List.length_append, List.length_append]
    simp only [List.length_cons, List.length_nil]
    have : (textL l).length = (l.flatMap fun e => lineT e ++ [10]).length := rfl
    omega
open Go Go.Proofs Go.SE Go.RowKit
set_option linter.unusedVariables false
set_option maxRecDepth 100000
/-- What the iterator over lines owns. -/
def ownL (text : ByteArray) (fv : Value) (G : Mem) : Prop := ∃ b, fv = .func (.func 112) #[] #[.pointer (some ⟨b, 0, none⟩)] ∧ G b = some (.cells #[.string text] 9 (0, 0)) ∧ ∀ k, k ≠ b → G k = none
theorem cs80 (text : ByteArray) (I : Mem) : CtS Tryz.prog (.v (fnv 80)) [.v (.string text)] [] I (fun sv H' _ => sv = .fn (.func 112) [] [.ptr 0 0] ∧ H' = [⟨.cells [.v (.string text)] 9, none⟩]) := by
  refine viaR (ctS_via (A := { }) Tryz.func80 rfl Tryz.call80 [0] rfl) (Rf (SV.fn (.func 112) [] [.ptr 0 0]) ∧ Rf [Ent.mk (.cells [.v (.string text)] 9) none]) (by kernel_rfl) ?_
  exact ⟨rfl, rfl⟩
theorem ch80 (text : ByteArray) (I : Mem) : CtH Tryz.prog (fnv 80) #[.string text] I Mem.emp (fun v _ G' => ownL text v G') := by
  have h := cs80 text I ⟨fun _ => 0, fun _ => 0, fun _ => false⟩ Mem.emp ⟨fun id x hx => by simp at hx, fun i j x y hx => by simp at hx, fun b hb => absurd rfl hb, fun id x b hx => by simp at hx⟩
  simp only [denL, den] at h
  refine CtH.mono h fun v I' G' _ ⟨e', sv, H', hv, hO, hsv, hH⟩ => ?_
  subst hsv hH
  obtain ⟨hn, c, hc, hcs, hcv⟩ := hO.hold 0 _ rfl rfl
  have e0 : c[0]? = some (.string text) := by have := hcv 0 (.v (.string text)) rfl rfl; simpa [den] using this
  have hsz : c.size = 1 := hcs
  have hceq : c = #[.string text] := by
    apply Array.ext_getElem?
    intro i
    match i with
    | 0 => simpa using e0
    | i + 1 => rw [Array.getElem?_eq_none (by omega), Array.getElem?_eq_none (by simp)]
  refine ⟨e'.blk 0, by rw [hv]; simp [den, denL], by rw [hc, hceq], fun k hk => ?_⟩
  cases hq : G' k with
  | none => rfl
  | some o =>
    obtain ⟨id, x, hx, _, _, hb⟩ := hO.dom k (by rw [hq]; simp)
    match id, hx with
    | 0, _ => exact absurd hb.symm hk
def encL (L : List Tx) (k : Nat) (args : Array Value) (_ : Mem) : Prop := ∃ s, L[k]? = some s ∧ args = #[.int .i64 ((k : Int) + 1), .string (strT s)]
theorem join_emp (G : Mem) : join G Mem.emp = G := by
  funext b
  cases h : G b with
  | some o => rw [join_some h]
  | none => rw [join_none h]; rfl
theorem gives112 (text : ByteArray) (ht : text.size ≤ 10000000) (fv : Value) (I G0 : Mem) (hG : Globs I) (h0 : ownL text fv G0) :
    GivesR Tryz.prog fv I (linesT (tx text)).length (encL (linesT (tx text))) (ownL text fv) (fun _ _ => True) := by
  obtain ⟨b0, hfv, _, _⟩ := h0
  subst hfv
  refine ⟨fun Y W => ⟨112, _, run_semV_func.trans (Tryz.call112 _ _)⟩, fun Y J D I0 Gc Gr hI0 hJ0 hR0 hap hJ hD hY => ?_⟩
  obtain ⟨b, hb, hGb, hGk⟩ := hR0
  simp only [Value.func.injEq, true_and] at hb
  have hbb : b0 = b := by simpa using hb
  subst hbb
  obtain ⟨WI, hWI⟩ : ∃ f : Mem → Mem → Int → ByteArray → Prop, f = fun I' G' n s => ∃ k : Nat, n = (k : Int) + 1 ∧ k ≤ (linesT (tx text)).length ∧ linesT (tx s) = (linesT (tx text)).drop k ∧ s.size ≤ text.size ∧ J k I' G' := ⟨_, rfl⟩
  have hO : OwnE ⟨fun _ => b0, fun _ => 0, fun _ => false⟩ [⟨.cells [.v (.string text)] 9, some b0⟩] Gr := by
    refine ⟨fun id x hx hal => ?_, fun i j x y hi hj _ _ _ _ hij => ?_, fun k hk => ?_, fun id x k hx hnm => ?_⟩
    · match id, hx with
      | 0, hx =>
        cases hx
        refine ⟨rfl, _, hGb, rfl, fun k sv hk hj => ?_⟩
        match k, hk with
        | 0, hk => cases hk; simp [den]
    · match i, j, hi, hj with
      | 0, 0, _, _ => exact absurd rfl hij
    · by_cases hkb : k = b0
      · exact ⟨0, _, rfl, rfl, rfl, hkb.symm⟩
      · exact absurd (hGk k hkb) hk
    · match id, hx with
      | 0, hx => cases hx; cases hnm; exact ⟨rfl, rfl⟩
  refine viaR (ctGS_via (A := { loops := [(1, ⟨[(0, .keep), (1, .keep), (3, .sh (.int .i64))], [(0, .cells [.sh .str])], [], fun vals _ I' G' => match vals with | [.int .i64 n, .string s] => WI I' G' n s | _ => False, fun vals _ => match vals with | [_, .string s] => s.size | _ => 0⟩)], calls := [(20, .g)] }) Tryz.func112 rfl Tryz.call112 (sargs := [.v Y, .ptr 0 0]) hO hap (by simp [denL, den]) rfl) ((Rf (SV.v Y) ∧ Rf (SV.ptr 0 0) ∧ Rf (some b0) ∧ WI I0 Gc 1 text) ∧ ∀ (a G : Mem), Mem.le I0 a → ∀ (n : Int) (q : ByteArray), WI a G n q → Br (!(q.toList == (ByteArray.mk #[]).toList)) (Ct Tryz.prog (.func (.func 113) #[] #[]) #[.string q, .string ⟨#[10]⟩] a (fun v b => ∃ c d e, v = .tuple #[.string c, .string d, .bool e] ∧ CtH Tryz.prog Y #[.int .i64 n, .string c] b G fun f g h => ∃ i, f = .bool i ∧ Br (!i) (∃ j k, h = join j k ∧ (∀ (l : Nat), j l = none ∨ k l = none) ∧ (J (linesT (tx text)).length g j ∧ True ∨ D g j)) (Wr .i64 (n + 1) (fun j => Rf (SV.v Y) ∧ Rf (SV.ptr 0 0) ∧ Rf (some b0) ∧ WI g h j d ∧ d.size < q.size)))) (∃ b c, G = join b c ∧ (∀ (d : Nat), b d = none ∨ c d = none) ∧ (J (linesT (tx text)).length a b ∧ True ∨ D a b))) (by kernel_rfl) ?_
  refine ⟨⟨rfl, rfl, rfl, by rw [hWI]; exact ⟨0, rfl, by omega, by simp, Nat.le_refl _, hJ0⟩⟩, fun a G la n q hq => ?_⟩
  rw [hWI] at hq
  obtain ⟨k, hn, hk, hl, hsz, hJk⟩ := hq
  have hle := (lines_len _ (tx text) (Nat.le_refl _)).1
  have htl : (tx text).length = text.size := Array.length_toList
  rw [str_eq]
  refine Br.mk (fun h => ?_) (fun h => ?_)
  · have hne : tx q ≠ [] := fun e => by
      have : q = ⟨#[]⟩ := by rw [← strT_tx q, e]; rfl
      rw [decide_eq_true this] at h; cases h
    obtain ⟨h1, h2, h3⟩ := lines_cut hne
    have hql : (tx q).length = q.size := Array.length_toList
    refine (ct113 q (by omega) a (hG.mono (Mem.le_trans hI0 la))).mono fun v b lb hv => ⟨_, _, _, hv, ?_⟩
    rw [h1] at hl
    have hlt : k < (linesT (tx text)).length := by
      rcases Nat.lt_or_ge k (linesT (tx text)).length with hk2 | hk2
      · exact hk2
      · rw [List.drop_eq_nil_of_le hk2] at hl; cases hl
    have hdrop := List.drop_eq_getElem_cons hlt
    rw [hdrop] at hl
    simp only [List.cons.injEq] at hl
    have hg : (linesT (tx text))[k]? = some (cutT (tx q)).1 := by rw [List.getElem?_eq_getElem hlt, hl.1]
    refine CtH.mono (hY k b G _ hlt (Mem.le_trans la lb) (hJ k _ _ G hJk lb) ⟨_, hg, by rw [hn]⟩) fun f g h2' lg hf => ?_
    rcases hf with ⟨hv, hJ2⟩ | ⟨hv, hD2⟩
    · refine ⟨true, hv, Br.f rfl (wr_i64 (by omega) (by omega) ⟨rfl, rfl, rfl, ?_, by rw [strT_size]; omega⟩)⟩
      rw [hWI]
      exact ⟨k + 1, by omega, by omega, by rw [tx_strT]; exact hl.2, by rw [strT_size]; omega, hJ2⟩
    · exact ⟨false, hv, Br.t rfl ⟨h2', Mem.emp, (join_emp _).symm, fun l => .inr rfl, .inr hD2⟩⟩
  · have he : q = ⟨#[]⟩ := by simpa using h
    have ht0 : tx q = [] := by rw [he]; rfl
    rw [ht0] at hl
    have hk2 : (linesT (tx text)).length ≤ k := by
      rcases Nat.lt_or_ge k (linesT (tx text)).length with hk2 | hk2
      · rw [List.drop_eq_getElem_cons hk2] at hl; cases hl
      · exact hk2
    have : k = (linesT (tx text)).length := by omega
    rw [this] at hJk
    exact ⟨G, Mem.emp, (join_emp _).symm, fun l => .inr rfl, .inl ⟨hJk, trivial⟩⟩
/-- The entries of a text. -/
def ParsI (t : Tx) (I : Mem) (k : Nat) (xs : List Value) : Prop := ∃ out : List En, RowR 4 EnC I xs out ∧ out.length ≤ 4000 ∧ parseGo (linesT t) 1 [] = parseGo ((linesT t).drop k) ((k : Int) + 1) out
theorem ct36 (text : ByteArray) (ht : text.size ≤ 10000000) (I : Mem) (hG : Globs I) :
    Ct Tryz.prog (fnv 36) #[.string text] I (fun v I' => ∃ a n c, v = .tuple #[.slice a n c, .int .i64 (parseL (tx text)).2.1, .int .i64 (parseL (tx text)).2.2] ∧ EnM I' a n (parseL (tx text)).1 ∧ n ≤ c ∧ c ≤ maxLen) := by
  obtain ⟨Q, hQ⟩ : ∃ q : Value → Mem → Prop, q = fun v I' => ∃ a n c, v = .tuple #[.slice a n c, .int .i64 (parseL (tx text)).2.1, .int .i64 (parseL (tx text)).2.2] ∧ EnM I' a n (parseL (tx text)).1 ∧ n ≤ c ∧ c ≤ maxLen := ⟨_, rfl⟩
  obtain ⟨XI, hXI⟩ : ∃ f, f = ParsI (tx text) := ⟨_, rfl⟩
  obtain ⟨ZI, hZI⟩ : ∃ f : Option Addr → Nat → Nat → Int → Int → Prop, f = fun a m d n f => a = none ∧ m = 0 ∧ d = 0 ∧ parseL (tx text) = ([], n, f) := ⟨_, rfl⟩
  obtain ⟨L, hL⟩ : ∃ q, q = linesT (tx text) := ⟨_, rfl⟩
  obtain ⟨R0, hR0⟩ : ∃ f, f = ownL text := ⟨_, rfl⟩
  obtain ⟨R1, hR1⟩ : ∃ f : Value → Mem → Mem → Prop, f = fun _ _ _ => True := ⟨_, rfl⟩
  rw [← hQ]
  refine viaR (ct_via (A := { calls := [(14, .g)], rfs := [(7, { n := L.length, enc := encL L, ps := [.sh (.int .i64), .sh .str], pre := [(5, 4, 35)], ents := [(0, .keep), (1, .keep), (2, .keep), (3, .cells [.row 4]), (4, .row)], inv := (fun k vals xss I' _ => match xss with | [xs] => XI I' k xs | _ => False), jumps := [(.ret, [(0, .cells [.sh .sl]), (1, .cells [.sh (.int .i64)]), (2, .cells [.sh (.int .i64)])], fun vals _ _ _ => match vals with | [.slice a m d, .int .i64 n, .int .i64 f] => ZI a m d n f | _ => False)], gst := some (R0, R1) })] }) Tryz.func36 rfl Tryz.call36 rfl rfl) (let E1 := fun (x : Loop) => .loop ⟨.ready, none, x.fn, x.tmps, x.params, x.assign, x.body, x.defers⟩
      Br (decide (1048576 < (text.size : Int))) (Q (.tuple #[.slice none 0 0, .int .i64 0, .int .i64 3]) I) (CtH Tryz.prog (.func (.func 80) #[] #[]) #[.string text] I Mem.emp (fun v a G => ∃ x, v = x ∧ ∀ (b c d e f g : Nat) (r : Loop), GivesR Tryz.prog x a L.length (encL L) (R0 x) (R1 x) ∧ R0 x G ∧ (∀ (k : Nat) (h : Array Value) (i : Mem), encL L k h i → psOk [.sh (.int .i64), .sh .str] h.toList = true) ∧ (Rf (Ent.mk (.cells [.v (.slice none 0 0)] 29) (some b)) ∧ Rf (Ent.mk (.cells [.v (.int .i64 0)] 3) (some c)) ∧ Rf (Ent.mk (.cells [.v (.int .i64 0)] 41) (some d)) ∧ Rf (Ent.mk (.raw (.deferred (some []))) (some f)) ∧ Rf (Ent.mk (.raw (E1 r)) (some g)) ∧ Rf (some e) ∧ (0 : Nat) = 0 ∧ ((b = b ∧ c = c ∧ d = d ∧ e = e ∧ f = f ∧ g = g ∧ True) ∧ Rf (E1 r)) ∧ XI a 0 []) ∧ (∀ (k : Nat) (h : Mem), k < L.length → a.le h → ∀ (i : List Value), XI h k i → ∀ (j : Mem), h.le j → ∀ (n : Int) (q : ByteArray), encL L k #[.int .i64 n, .string q] j → Rf (E1 r) ∧ Rf (some g) ∧ Br (q.toList == (ByteArray.mk #[]).toList) (Rf (Obj.loop ⟨.busy, none, r.fn, r.tmps, r.params, r.assign, r.body, r.defers⟩) ∧ Rf (some g) ∧ Mem.emp = Mem.emp ∧ Rf (Ent.mk (.cells [.v (.slice none 0 0)] 29) (some b)) ∧ Rf (Ent.mk (.cells [.v (.int .i64 0)] 3) (some c)) ∧ Rf (Ent.mk (.cells [.v (.int .i64 0)] 41) (some d)) ∧ Rf (Ent.mk (.raw (.deferred (some []))) (some f)) ∧ Rf (Ent.mk (.raw (E1 r)) (some g)) ∧ Rf (some e) ∧ Rf (i.length / 4) ∧ ((b = b ∧ c = c ∧ d = d ∧ e = e ∧ f = f ∧ g = g ∧ True) ∧ Rf (E1 r)) ∧ XI j (k + 1) i) (∃ l, q.data.toList[0]? = some l ∧ (0 : Int) ≤ 0 ∧ Br ((l.toNat : Int) == 35) (Rf (Obj.loop ⟨.busy, none, r.fn, r.tmps, r.params, r.assign, r.body, r.defers⟩) ∧ Rf (some g) ∧ Mem.emp = Mem.emp ∧ Rf (Ent.mk (.cells [.v (.slice none 0 0)] 29) (some b)) ∧ Rf (Ent.mk (.cells [.v (.int .i64 0)] 3) (some c)) ∧ Rf (Ent.mk (.cells [.v (.int .i64 0)] 41) (some d)) ∧ Rf (Ent.mk (.raw (.deferred (some []))) (some f)) ∧ Rf (Ent.mk (.raw (E1 r)) (some g)) ∧ Rf (some e) ∧ Rf (i.length / 4) ∧ ((b = b ∧ c = c ∧ d = d ∧ e = e ∧ f = f ∧ g = g ∧ True) ∧ Rf (E1 r)) ∧ XI j (k + 1) i) (Ct Tryz.prog (.func (.func 38) #[] #[]) #[.string q] j (fun m o => ∃ p s t u w y z, m = .tuple #[.agg #[.int .u8 p, .int .i64 s, .int .i64 t, .slice u w y], .int .i64 z] ∧ Br (z == 0) (Br (decide (4000 ≤ ((i.length / 4 : Nat) : Int))) (Rf (Obj.loop ⟨.busy, none, r.fn, r.tmps, r.params, r.assign, r.body, r.defers⟩) ∧ Rf (some g) ∧ Mem.emp = Mem.emp ∧ Rf (Ent.mk (.raw (.deferred (some []))) (some f)) ∧ Rf (Ent.mk (.raw (.loop ⟨.done, some .ret, r.fn, r.tmps, r.params, r.assign, r.body, r.defers⟩)) (some g)) ∧ Rf (some b) ∧ Rf (some c) ∧ Rf (some d) ∧ ((b = b ∧ c = c ∧ d = d ∧ f = f ∧ g = g ∧ True) ∧ Rf (Obj.loop ⟨.done, some .ret, r.fn, r.tmps, r.params, r.assign, r.body, r.defers⟩)) ∧ ZI none 0 0 n 5) (Br (z != 0) (Rf (Obj.loop ⟨.busy, none, r.fn, r.tmps, r.params, r.assign, r.body, r.defers⟩) ∧ Rf (some g) ∧ Mem.emp = Mem.emp ∧ Rf (Ent.mk (.raw (.deferred (some []))) (some f)) ∧ Rf (Ent.mk (.raw (.loop ⟨.done, some .ret, r.fn, r.tmps, r.params, r.assign, r.body, r.defers⟩)) (some g)) ∧ Rf (some b) ∧ Rf (some c) ∧ Rf (some d) ∧ ((b = b ∧ c = c ∧ d = d ∧ f = f ∧ g = g ∧ True) ∧ Rf (Obj.loop ⟨.done, some .ret, r.fn, r.tmps, r.params, r.assign, r.body, r.defers⟩)) ∧ ZI none 0 0 n z) (i.length = i.length / 4 * 4 ∧ i.length / 4 + 1 ≤ 9223372036854775807 ∧ (i.length / 4 + 1) * 48 ≤ 140737488355328 ∧ Rf (Obj.loop ⟨.busy, none, r.fn, r.tmps, r.params, r.assign, r.body, r.defers⟩) ∧ Rf (some g) ∧ Mem.emp = Mem.emp ∧ Rf (Ent.mk (.cells [.v (.slice none 0 0)] 29) (some b)) ∧ Rf (Ent.mk (.cells [.v (.int .i64 0)] 3) (some c)) ∧ Rf (Ent.mk (.cells [.v (.int .i64 0)] 41) (some d)) ∧ Rf (Ent.mk (.raw (.deferred (some []))) (some f)) ∧ Rf (Ent.mk (.raw (E1 r)) (some g)) ∧ Rf (some e) ∧ i.length / 4 + 1 = List.length (i ++ [.int .u8 p, .int .i64 s, .int .i64 t, .slice u w y]) / 4 ∧ ((b = b ∧ c = c ∧ d = d ∧ e = e ∧ f = f ∧ g = g ∧ True) ∧ Rf (E1 r)) ∧ XI o (k + 1) (i ++ [.int .u8 p, .int .i64 s, .int .i64 t, .slice u w y])))) (Br (z != 0) (Rf (Obj.loop ⟨.busy, none, r.fn, r.tmps, r.params, r.assign, r.body, r.defers⟩) ∧ Rf (some g) ∧ Mem.emp = Mem.emp ∧ Rf (Ent.mk (.raw (.deferred (some []))) (some f)) ∧ Rf (Ent.mk (.raw (.loop ⟨.done, some .ret, r.fn, r.tmps, r.params, r.assign, r.body, r.defers⟩)) (some g)) ∧ Rf (some b) ∧ Rf (some c) ∧ Rf (some d) ∧ ((b = b ∧ c = c ∧ d = d ∧ f = f ∧ g = g ∧ True) ∧ Rf (Obj.loop ⟨.done, some .ret, r.fn, r.tmps, r.params, r.assign, r.body, r.defers⟩)) ∧ ZI none 0 0 n z) (i.length = i.length / 4 * 4 ∧ i.length / 4 + 1 ≤ 9223372036854775807 ∧ (i.length / 4 + 1) * 48 ≤ 140737488355328 ∧ Rf (Obj.loop ⟨.busy, none, r.fn, r.tmps, r.params, r.assign, r.body, r.defers⟩) ∧ Rf (some g) ∧ Mem.emp = Mem.emp ∧ Rf (Ent.mk (.cells [.v (.slice none 0 0)] 29) (some b)) ∧ Rf (Ent.mk (.cells [.v (.int .i64 0)] 3) (some c)) ∧ Rf (Ent.mk (.cells [.v (.int .i64 0)] 41) (some d)) ∧ Rf (Ent.mk (.raw (.deferred (some []))) (some f)) ∧ Rf (Ent.mk (.raw (E1 r)) (some g)) ∧ Rf (some e) ∧ i.length / 4 + 1 = List.length (i ++ [.int .u8 p, .int .i64 s, .int .i64 t, .slice u w y]) / 4 ∧ ((b = b ∧ c = c ∧ d = d ∧ e = e ∧ f = f ∧ g = g ∧ True) ∧ Rf (E1 r)) ∧ XI o (k + 1) (i ++ [.int .u8 p, .int .i64 s, .int .i64 t, .slice u w y]))))))) ∧ (∀ (h : Mem), a.le h → ∀ (i : List Value), XI h L.length i → ∀ (j k : Mem), h.le j → R1 x j k → ∀ (l : Option Addr) (m : Nat) (n : Mem), j.le n → RowM n l m 4 i → Q (.tuple #[.slice l (i.length / 4) m, .int .i64 0, .int .i64 0]) n) ∧ ∀ (h : Mem), a.le h → ∀ (i : Option Addr) (n j : Nat) (k l : Int), ZI i n j k l → ∀ (m : Mem), Mem → h.le m → Q (.tuple #[.slice i n j, .int .i64 k, .int .i64 l]) m))) (by kernel_rfl) ?_
  intro E1
  simp only [Rf, eq_self, true_and, and_true]
  have htl : (tx text).length = text.size := Array.length_toList
  refine Br.mk (fun h => ?_) (fun h => CtH.mono (ch80 text I) fun v a G la hv => ⟨v, rfl, fun b c d e f g r => ⟨by rw [hL, hR0, hR1]; exact gives112 text ht v a G (hG.mono la) hv, by rw [hR0]; exact hv, ?_, ?_, ?_, ?_, ?_⟩⟩)
  · have h := of_decide_eq_true h
    have : parseL (tx text) = ([], 0, 3) := by rw [parseL, if_pos (by omega)]
    rw [hQ, this]
    exact ⟨none, 0, 0, rfl, SlR.nil, Nat.le_refl _, Nat.zero_le _⟩
  · rintro k args J ⟨s, _, rfl⟩; rfl
  · rw [hXI]; exact ⟨[], rfl, Nat.zero_le _, by simp⟩
  all_goals have h := of_decide_eq_false h
  all_goals have hpl : parseL (tx text) = parseGo (linesT (tx text)) 1 [] := by rw [parseL, if_neg (by omega)]
  all_goals have hlen := lines_len _ (tx text) (Nat.le_refl _)
  · intro k J hk lJ xs hxs K lK n q hq
    obtain ⟨s, hs, hnq⟩ := hq
    simp only [Array.mk.injEq, List.cons.injEq, Value.int.injEq, Value.string.injEq, true_and, and_true] at hnq
    obtain ⟨rfl, rfl⟩ := hnq
    rw [hXI] at hxs
    obtain ⟨out, hr, ho, hp⟩ := hxs
    rw [hL] at hs hk
    have hdrop := List.drop_eq_getElem_cons hk
    have hsk : (linesT (tx text))[k] = s := by rw [List.getElem?_eq_getElem hk] at hs; exact Option.some.inj hs
    rw [hdrop, hsk, parseGo] at hp
    have hsl : s.length ≤ text.size := by rw [← htl]; exact hlen.2 s (by rw [← hsk]; exact List.getElem_mem _)
    have hxl : xs.length / 4 = out.length := by rw [hr.len]; omega
    have skip : skipT s = true → XI K (k + 1) xs := fun hsk => by
      rw [hXI]
      refine ⟨out, hr.mono enC_mono lK, ho, ?_⟩
      rw [hp, hsk, if_pos rfl]
      congr 1
    rw [str_eq]
    refine Br.mk (fun h1 => ?_) (fun h1 => ?_)
    · have h1 : strT s = ⟨#[]⟩ := of_decide_eq_true h1
      have hs0 : s = [] := by have := congrArg tx h1; rwa [tx_strT] at this
      have := skip (by rw [skipT, hs0]; rfl)
      simpa using this
    have h1 : strT s ≠ ⟨#[]⟩ := of_decide_eq_false h1
    have hs0 : s ≠ [] := fun e => h1 (by rw [e]; rfl)
    obtain ⟨c0, r0, hsc⟩ : ∃ c r, s = c :: r := by
      cases s with
      | nil => exact absurd rfl hs0
      | cons c r => exact ⟨c, r, rfl⟩
    refine ⟨c0, by rw [hsc]; rfl, by omega, Br.mk (fun h2 => ?_) (fun h2 => ?_)⟩
    · have h2 : c0 = 35 := by
        have : (c0.toNat : Int) = 35 := by simpa using h2
        exact UInt8.toNat_inj.1 (by rw [show (35 : UInt8).toNat = 35 by decide]; omega)
      have := skip (by rw [skipT, hsc, h2]; simp)
      simpa using this
    have h2 : c0 ≠ 35 := fun e => by subst e; simp at h2
    have hsk2 : skipT s = false := by rw [skipT, hsc]; simp [h2]
    rw [hsk2] at hp
    simp only [Bool.false_eq_true, if_false] at hp
    refine (ct38 (strT s) (by rw [strT_size]; omega) K (hG.mono (Mem.le_trans la (Mem.le_trans lJ lK)))).mono fun m o lo ⟨y, hv, hy⟩ => ?_
    rw [tx_strT] at hv hy
    have hy' := hy
    obtain ⟨u, w, z, rfl, _, _, _⟩ := hy'
    have fin : (readL s).2 = 0 → out.length < 4000 → XI o (k + 1) (xs ++ [.int .u8 (readL s).1.kind, .int .i64 (readL s).1.slot, .int .i64 (readL s).1.n, .slice u w z]) := fun h3 h4 => by
      rw [hXI]
      refine ⟨out ++ [(readL s).1], (hr.mono enC_mono (Mem.le_trans lK lo)).snoc rfl ⟨?_, _, rfl, hy⟩, by simp; omega, ?_⟩
      · rcases Nat.lt_or_ge 32868 s.length with hbig | hsmall
        · rw [readL, if_neg (fun hh => by omega)]; exact zero_okE
        · exact readL_okE (by omega)
      · rw [hp, h3, if_neg (by decide), if_neg (by omega)]
        congr 1
    refine ⟨_, _, _, _, _, _, _, hv, Br.mk (fun h3 => ?_) (fun h3 => ?_)⟩
    · have h3 : (readL s).2 = 0 := by simpa using h3
      refine Br.mk (fun h4 => ?_) (fun h4 => ?_)
      · have h4 := of_decide_eq_true h4
        rw [hZI]
        rw [h3, if_neg (by decide), if_pos (by omega)] at hp
        simp only [true_and]
        rw [hpl, hp]
      · have h4 := of_decide_eq_false h4
        rw [h3]
        refine Br.f rfl ?_
        have := fin h3 (by omega)
        exact ⟨by rw [hr.len]; omega, by omega, by omega, by simp, this⟩
    · have h3 : (readL s).2 ≠ 0 := by simpa using h3
      refine Br.mk (fun h4 => ?_) (fun h4 => absurd (by simpa using h4) h3)
      rw [hZI]
      rw [if_pos h3] at hp
      simp only [true_and]
      rw [hpl, hp]
  · intro J lJ xs hxs K M lK _ lo cp N lN hrow
    rw [hXI] at hxs
    obtain ⟨out, hr, ho, hp⟩ := hxs
    rw [hL, List.drop_length, parseGo] at hp
    have hxl : xs.length / 4 = out.length := by rw [hr.len]; omega
    rw [hQ, hpl, hp, hxl]
    have hrm := SlR.row (by decide) hrow (hr.mono enC_mono (Mem.le_trans lK lN))
    have hx4 := hr.len
    obtain ⟨r1, r2, _⟩ := hrow
    exact ⟨_, _, _, rfl, hrm, by omega, r2⟩
  · intro J lJ x y z k f hz M _ lM
    rw [hZI] at hz
    obtain ⟨rfl, rfl, rfl, hz⟩ := hz
    rw [hQ, hz]
    exact ⟨none, 0, 0, rfl, SlR.nil, Nat.le_refl _, Nat.zero_le _⟩
open Go Go.Proofs Go.SE Go.RowKit
set_option linter.unusedVariables false
set_option maxRecDepth 100000
theorem cells86 : Tryz.prog.cellsOf 86 = 9 := by kernel_rfl
theorem cells84 : Tryz.prog.cellsOf 84 = 1 := by kernel_rfl
theorem cells24 : Tryz.prog.cellsOf 24 = 1 := by kernel_rfl
def Q28 (I : Mem) (v : Value) : Prop := ∃ a n c l, v = .slice a n c ∧ SnM I a n l ∧ n ≤ c ∧ c ≤ maxLen
def Q9 (I : Mem) (v : Value) : Prop := ∃ s : ByteArray, v = .string s ∧ s.size ≤ reachBytes
theorem opc86 (W : World) : OpC Tryz.prog W 86 fun cs => ∃ x, SnC (memW W) cs x := by
  refine (opc_struct (P := Tryz.prog) (W := W) Tryz.underlying86 cells86 (.cons rfl cells5 (opc_int Tryz.underlying5) (.cons rfl cells84 (opc_int Tryz.underlying84) (.cons rfl cells39 (opc39 W) (.cons rfl cells24 (opc_ints Tryz.underlying24 Tryz.underlying5 cells5) .nil))))).mono ?_
  rintro cs ⟨hl, ⟨k, h1, k1, k2⟩, ⟨s, h2, k3, k4⟩, ⟨x, h3, hx⟩, ⟨a, n, c, zs, h4, k5, k6, k7, k8, _⟩, _⟩
  match cs, hl with
  | [y0, y1, y2, y3, y4, y5, y6, y7, y8], _ =>
    simp only [List.drop_succ_cons, List.drop_zero, List.take_succ_cons, List.take_zero, List.cons.injEq, and_true, smV] at h1 h2 h3 h4
    obtain ⟨e2, e3, e4, e5, e6, e7⟩ := h3
    subst h1; subst h2; subst h4; subst e2; subst e3; subst e4; subst e5; subst e6; subst e7
    exact ⟨⟨k, s, x, zs⟩, ⟨⟨k1, k2⟩, ⟨k3, k4⟩, hx, fun z hz => k8 z hz⟩, _, rfl, a, n, c, rfl, k5, k6, k7⟩
section
variable {H : Type} {enc : TypeId × Value → H} {W : World} {r : Reach} {b0 : Nat} {v : Value} {d : DataW H} {ps : List MemPlace}
theorem op28 (hval : Value.okWide Tryz.prog W r b0 28 v) (hd : DataW.Trod enc Tryz.prog W 0 (fun _ => true) true 28 v d ps) (hw : ∀ n ∈ d.weights Tryz.prog 28, n ≤ reachBytes) : Q28 (memW W) v := by
  obtain ⟨a, n, c, xs, h1, h2, h3, h4, _, h5⟩ := opc_top_slice (opc_slice (by decide) Tryz.underlying28 cells86 (opc86 W)) Tryz.underlying28 hval hd hw
  simp only [List.cons.injEq, and_true] at h1
  obtain ⟨l, hl, hr⟩ := RowR.of (E := SnC) n xs h4.len h5
  exact ⟨a, n, c, l, h1, ⟨xs, h4, hr⟩, h2, h3⟩
theorem op9 (hval : Value.okWide Tryz.prog W r b0 9 v) (hd : DataW.Trod enc Tryz.prog W 0 (fun _ => true) true 9 v d ps) (hw : ∀ n ∈ d.weights Tryz.prog 9, n ≤ reachBytes) : Q9 (memW W) v := by
  obtain ⟨s, rfl⟩ := Go.WideShapes.okWide_string Tryz.underlying9 hval
  obtain ⟨fuel, hf⟩ := hd
  obtain ⟨s', h1, h2⟩ := opc_str Tryz.underlying9 H enc fuel _ d ps hf hw
  cases h1
  exact ⟨s, rfl, h2⟩
end
open Go Go.Proofs Go.SE Go.RowKit
set_option linter.unusedVariables false
set_option maxRecDepth 100000
theorem lines_app : ∀ (l : List En) (u : Tx), (∀ e ∈ l, okEn e) → linesT (textL l ++ u) = l.map lineT ++ linesT u
  | [], u, _ => rfl
  | e :: l, u, h => by
    rw [textL, List.flatMap_cons, List.append_assoc, List.append_assoc]
    show linesT (lineT e ++ 10 :: (textL l ++ u)) = _
    rw [lines_hit _ _ (lineT_free (h e (by simp))), lines_app l u fun x hx => h x (List.mem_cons_of_mem _ hx), List.map_cons, List.cons_append]
def Good (l : List En) : Prop := ∀ e ∈ l, okEn e ∧ cleanE e = true
theorem madeL_good {l : List Sn} (h : ∀ x ∈ l, okSn x) : Good (madeL l) ∧ (madeL l).length ≤ 30 := by
  refine ⟨fun e he => ?_, by rw [madeL, List.length_map, List.length_take]; omega⟩
  obtain ⟨x, hx, rfl⟩ := List.mem_map.1 he
  exact made_ok (h x (List.mem_of_mem_take hx))
theorem write_good {l : List En} (h : Good l) (hl : l.length ≤ 30) : writeL l = (textL l, -1, 0) := by
  have := textL_len l h
  rw [writeL, badAt_none fun e he => (h e he).2]
  simp only
  rw [if_neg (by omega), if_neg (by omega)]
theorem parse_good {l : List En} (h : Good l) (hl : l.length ≤ 30) : parseL (textL l) = (l, 0, 0) := by
  have := textL_len l h
  rw [parseL, if_neg (by omega), lines_text l fun e he => (h e he).1, parseGo_all l 1 [] h (by simp; omega)]
  rfl
theorem trim_some (t : Tx) : Lib.trimSuffix (t ++ [10]) [10] = t := by
  have hs : Lib.hasSuffix (t ++ [10]) [10] = true := by
    rw [Lib.hasSuffix, List.isSuffixOf_iff_suffix]
    exact ⟨t, rfl⟩
  rw [Lib.trimSuffix, if_pos hs]
  simp
theorem parse_trim {l : List En} (h : Good l) (hl : l.length ≤ 30) : parseL (Lib.trimSuffix (textL l) [10]) = (l, 0, 0) ∧ (Lib.trimSuffix (textL l) [10]).length ≤ 1048576 := by
  have hlen := textL_len l h
  rcases List.eq_nil_or_concat l with rfl | ⟨l', e, rfl⟩
  · exact ⟨by decide +kernel, by decide +kernel⟩
  · rw [List.concat_eq_append] at h hl hlen ⊢
    have he := h e (by simp)
    rw [textL_snoc, ← List.append_assoc] at hlen
    rw [textL_snoc, ← List.append_assoc, trim_some]
    have hlen2 : (textL l' ++ lineT e).length ≤ 1048576 := by
      simp only [List.length_append, List.length_cons, List.length_nil] at hlen hl ⊢
      omega
    refine ⟨?_, hlen2⟩
    obtain ⟨c, q, hq, _⟩ := lineT_head he.2
    rw [parseL, if_neg (by omega), lines_app l' _ (fun x hx => (h x (by simp [hx])).1), lines_miss (lineT_free he.1) (by rw [hq]; simp)]
    have := parseGo_all (l' ++ [e]) 1 [] h (by simp at hl ⊢; omega)
    simpa using this
theorem text_count : ∀ l : List En, (∀ e ∈ l, okEn e) → (textL l).count 10 = l.length
  | [], _ => rfl
  | e :: l, h => by
    rw [textL, List.flatMap_cons, List.count_append, List.count_append, List.count_eq_zero.2 (lineT_free (h e (by simp)))]
    have := text_count l fun x hx => h x (List.mem_cons_of_mem _ hx)
    rw [textL] at this
    rw [this]
    simp; omega
theorem no_feed {e : En} (h : okEn e) : Lib.indexByte (lineT e) 10 = -1 := idx10_miss _ (lineT_free h)
theorem readL_rest {t : Tx} (h : (readL t).2 ≠ 0) : readL t = (zeroEn, 411) := (readL_two t).resolve_left h
