/- Part of a proof by the rules of the symbolic walk (see the law's own text): contracts of functions of the program. -/
import Derived.Test.YtnjbojekknpknaaLR22
import Derived.Test.YtnjbojekknpknaaLR24
import Derived.Test.YtnjbojekknpknaaSe23
open Go Go.Proofs Go.SE Go.RowKit
set_option linter.unusedVariables false
theorem sl_pre {I : Mem} {a : Option Addr} {n k : Nat} {xs ys : List Int} (h : SlM I a (n + k) 1 (ints .u8 (xs ++ ys))) (hx : n = xs.length) : SlM I a n 1 (ints .u8 xs) := by
  refine ⟨by rw [ints_len]; omega, fun hn => by have := h.nil hn; omega, Nat.le_trans (by omega) h.max, fun j v hj => h.at_ j v ?_⟩
  have hl := (List.getElem?_eq_some_iff.1 hj).1
  unfold ints at hj hl ⊢
  rw [List.map_append, List.getElem?_append_left hl]
  exact hj
theorem ownS_mono {sz : Nat} {G G' : Mem} {a : Option Addr} {c : Nat} (h : OwnS sz G a c) (hle : G.le G') : OwnS sz G' a c := fun hc => by
  obtain ⟨b, off, cur, el, h1, h2, h3⟩ := h hc
  exact ⟨b, off, cur, el, h1, hle _ _ h2, h3⟩
theorem read_okRq {bs : List Int} (hb : byteL bs) : okRq (readR bs).1 ∧ (readR bs).1.name.size ≤ 255 ∧ (readR bs).1.fed.length ≤ 15000 := by
  cases ha : accB bs with
  | true =>
    obtain ⟨h1, h2, _⟩ := acc_flds hb ha
    obtain ⟨_, h3, h4, _⟩ := right_tag h2
    exact ⟨h1, h3, h4⟩
  | false =>
    rw [read_bad ha]
    exact ⟨okRq_start (k := 0) (w := 0) (by omega) (by omega), by decide, by decide⟩
set_option maxRecDepth 100000 in
theorem ct11 (bs : List Int) (hbs : byteL bs) (a : Option Addr) (n c : Nat) (I : Mem) (h : SlM I a n 1 (ints .u8 bs)) (hc : n ≤ c) (hm : c ≤ maxLen) :
    Ct Try.prog (fnv 11) #[.slice a n c] I (fun v _ => v = .bool true) := by
  refine viaR (ct_via (A := { calls := [(15, .g), (24, .g), (26, .g), (35, .g)] }) Try.func11 rfl Try.call11 rfl rfl) (Br (decide ((20000 : Int) < (↑n : Int))) (Value.bool true = Value.bool true) (Ct Try.prog (Value.func (Fn.func (34 : Nat)) #[] #[]) #[Value.slice a n c] I fun (v : Value) (I' : Mem) => ∃ (a_1 : Option Addr), ∃ (n_1 : Nat), ∃ (c_1 : Nat), v = Value.slice a_1 n_1 c_1 ∧ CtH Try.prog (Value.func (Fn.func (16 : Nat)) #[] #[]) #[Value.slice a_1 n_1 c_1] I' (fun (x : Nat) => none) fun (v : Value) (I' G' : Mem) => ∃ (n_2 : Int), ∃ (n_3 : Int), ∃ (q : ByteArray), ∃ (n_4 : Int), ∃ (n_5 : Int), ∃ (n_6 : Int), ∃ (n_7 : Int), ∃ (n_8 : Int), ∃ (n_9 : Int), ∃ (n_10 : Int), ∃ (n_11 : Int), ∃ (a_2 : Option Addr), ∃ (n_12 : Nat), ∃ (c_2 : Nat), ∃ (n_13 : Int), v = Value.tuple #[Value.agg #[Value.int IntKind.u8 n_2, Value.int IntKind.u8 n_3, Value.string q, Value.int IntKind.i64 n_4, Value.int IntKind.i64 n_5, Value.int IntKind.i64 n_6, Value.int IntKind.i64 n_7, Value.int IntKind.i64 n_8, Value.int IntKind.i64 n_9, Value.int IntKind.i64 n_10, Value.int IntKind.i64 n_11, Value.slice a_2 n_12 c_2], Value.int IntKind.i64 n_13] ∧ Ct Try.prog (Value.func (Fn.func (35 : Nat)) #[] #[]) #[Value.slice a n c] I' fun (v : Value) (I' : Mem) => ∃ (n_14 : Int), ∃ (n_15 : Int), ∃ (q_1 : ByteArray), ∃ (n_16 : Int), ∃ (n_17 : Int), ∃ (n_18 : Int), ∃ (n_19 : Int), ∃ (n_20 : Int), ∃ (n_21 : Int), ∃ (n_22 : Int), ∃ (n_23 : Int), ∃ (a_3 : Option Addr), ∃ (n_24 : Nat), ∃ (c_3 : Nat), ∃ (n_25 : Int), v = Value.tuple #[Value.agg #[Value.int IntKind.u8 n_14, Value.int IntKind.u8 n_15, Value.string q_1, Value.int IntKind.i64 n_16, Value.int IntKind.i64 n_17, Value.int IntKind.i64 n_18, Value.int IntKind.i64 n_19, Value.int IntKind.i64 n_20, Value.int IntKind.i64 n_21, Value.int IntKind.i64 n_22, Value.int IntKind.i64 n_23, Value.slice a_3 n_24 c_3], Value.int IntKind.i64 n_25] ∧ CtH Try.prog (Value.func (Fn.func (33 : Nat)) #[] #[]) #[Value.agg #[Value.int IntKind.u8 n_2, Value.int IntKind.u8 n_3, Value.string q, Value.int IntKind.i64 n_4, Value.int IntKind.i64 n_5, Value.int IntKind.i64 n_6, Value.int IntKind.i64 n_7, Value.int IntKind.i64 n_8, Value.int IntKind.i64 n_9, Value.int IntKind.i64 n_10, Value.int IntKind.i64 n_11, Value.slice a_2 n_12 c_2]] I' G' fun (v : Value) (I' G' : Mem) => ∃ (n_26 : Int), ∃ (n_27 : Int), ∃ (q : ByteArray), ∃ (n_28 : Int), ∃ (n_29 : Int), ∃ (n_30 : Int), ∃ (n_31 : Int), ∃ (n_32 : Int), ∃ (n_33 : Int), ∃ (n_34 : Int), ∃ (n_35 : Int), ∃ (a_4 : Option Addr), ∃ (n_36 : Nat), ∃ (c_4 : Nat), v = Value.agg #[Value.int IntKind.u8 n_26, Value.int IntKind.u8 n_27, Value.string q, Value.int IntKind.i64 n_28, Value.int IntKind.i64 n_29, Value.int IntKind.i64 n_30, Value.int IntKind.i64 n_31, Value.int IntKind.i64 n_32, Value.int IntKind.i64 n_33, Value.int IntKind.i64 n_34, Value.int IntKind.i64 n_35, Value.slice a_4 n_36 c_4] ∧ CtH Try.prog (Value.func (Fn.func (36 : Nat)) #[] #[]) #[Value.agg #[Value.int IntKind.u8 n_26, Value.int IntKind.u8 n_27, Value.string q, Value.int IntKind.i64 n_28, Value.int IntKind.i64 n_29, Value.int IntKind.i64 n_30, Value.int IntKind.i64 n_31, Value.int IntKind.i64 n_32, Value.int IntKind.i64 n_33, Value.int IntKind.i64 n_34, Value.int IntKind.i64 n_35, Value.slice a_4 n_36 c_4], Value.agg #[Value.int IntKind.u8 n_14, Value.int IntKind.u8 n_15, Value.string q_1, Value.int IntKind.i64 n_16, Value.int IntKind.i64 n_17, Value.int IntKind.i64 n_18, Value.int IntKind.i64 n_19, Value.int IntKind.i64 n_20, Value.int IntKind.i64 n_21, Value.int IntKind.i64 n_22, Value.int IntKind.i64 n_23, Value.slice a_3 n_24 c_3]] I' G' fun (v : Value) (I' G' : Mem) => ∃ (b : Bool), v = Value.bool b ∧ Br (!b) (Value.bool false = Value.bool true) (Br (n_13 != n_25) (Value.bool false = Value.bool true) (CtH Try.prog (Value.func (Fn.func (37 : Nat)) #[] #[]) #[Value.slice a_2 n_12 c_2] I' G' fun (v : Value) (I' G' : Mem) => v = Value.tuple #[] ∧ Ct Try.prog (Value.func (Fn.func (38 : Nat)) #[] #[]) #[Value.slice a_1 n_1 c_1, Value.slice a n c] I' fun (v : Value) (I' : Mem) => ∃ (b : Bool), v = Value.bool b ∧ Value.bool b = Value.bool true)))) (by kernel_rfl) ?_
  have hnl := h.numLen
  refine Br.mk (fun _ => rfl) (fun hlt => ?_)
  have hlt := of_decide_eq_false hlt
  obtain ⟨rok, rs1, rs2⟩ := read_okRq hbs
  refine (ct34 bs a n c I h (by omega)).mono fun v I1 l1 ⟨a1, cp, hv, hcp, hcm, hs1⟩ => ⟨_, _, _, hv, ?_⟩
  have hs2 := sl_pre hs1 hnl
  refine (ct_own (ct16 bs hbs a1 n cp I1 hs2 (by omega) (by omega) hcm)).mono ?_
  rintro v I2 G2 _ ⟨rfl, J, lJ, ⟨y, hv, hy, hO⟩, rfl⟩
  obtain ⟨ba, bn, bc, rfl, hb1, hb2, hb3⟩ := hy
  obtain ⟨hO1, hO2⟩ := hO _ _ _ rfl
  refine ⟨_, _, _, _, _, _, _, _, _, _, _, _, _, _, _, hv, (ct35 bs hbs a n c I2 (h.mono l1) (by omega) hc hm).mono fun v I3 l3 ⟨y', hv, hy'⟩ => ?_⟩
  obtain ⟨da, dn, dc, rfl, hd1, hd2, hd3⟩ := hy'
  refine ⟨_, _, _, _, _, _, _, _, _, _, _, _, _, _, _, hv, (ct_bothN fun hap => ct33 (readR bs).1 (.slice ba bn bc) _ ⟨_, _, _, rfl, hb1.mono (Mem.le_trans (le_gained lJ) (both_mono l3 hap)), hb2, hb3⟩ (by omega)).mono ?_⟩
  rintro v I4 G4 _ ⟨rfl, lG, _, ⟨y3, hv, hy3⟩⟩
  obtain ⟨ea, en, ec, rfl, he1, he2, he3⟩ := hy3
  refine ⟨_, _, _, _, _, _, _, _, _, _, _, _, _, _, hv, (ct_both fun hap => ct36 (readR bs).1 (readR bs).1 rok rok (.slice ea en ec) (.slice da dn dc) _ ⟨_, _, _, rfl, he1, he2, he3⟩ ⟨_, _, _, rfl, hd1.mono (both_le _ _), hd2, hd3⟩ (by omega)).mono ?_⟩
  rintro v I5 G5 _ ⟨rfl, rfl, _, hv⟩
  refine ⟨_, hv, Br.f (by rw [same_iff.2 rfl]; rfl) (Br.f (by simp) ((ct37 ba bn bc _ _ hb2 hO2 (ownS_mono hO1.own lG)).mono fun v I6 G6 l6 hv => ⟨hv.1, ?_⟩))⟩
  exact (ct38 bs bs a1 n cp a n c I6 (hs1.mono (Mem.le_trans l3 l6)) rfl rfl hcp (h.mono (Mem.le_trans l1 (Mem.le_trans l3 l6))) (by omega)).mono fun v I7 l7 hv => ⟨_, hv, rfl⟩
theorem ct3 (bs : List Int) (hbs : byteL bs) (a : Option Addr) (n c : Nat) (I : Mem) (h : SlM I a n 1 (ints .u8 bs)) (hc : n ≤ c) (hm : c ≤ maxLen) :
    Ct Try.prog (fnv 3) #[.slice a n c] I (fun v _ => v = .bool true) := by
  refine viaR (ct_via (A := { }) Try.func3 rfl Try.call3 rfl rfl) (Ct Try.prog (Value.func (Fn.func (11 : Nat)) #[] #[]) #[Value.slice a n c] I fun (v : Value) (I' : Mem) => ∃ (b : Bool), v = Value.bool b ∧ Br b (Ct Try.prog (Value.func (Fn.func (12 : Nat)) #[] #[]) #[] I' fun (v : Value) (I' : Mem) => ∃ (b : Bool), v = Value.bool b ∧ Value.bool b = Value.bool true) (Value.bool false = Value.bool true)) (by kernel_rfl) ?_
  exact (ct11 bs hbs a n c I h hc hm).mono fun v I1 l1 hv => ⟨_, hv, Br.t rfl ((ct12 I1).mono fun v I2 l2 hv => ⟨_, hv, rfl⟩)⟩
theorem ct3Q (I : Mem) (v0 : Value) (h0 : Q22 I v0) : Ct Try.prog (fnv 3) #[v0] I (fun v _ => v = .bool true) := by
  obtain ⟨a, n, c, bs, rfl, hs, hc, hm, hb⟩ := h0
  exact ct3 bs hb a n c I hs hc hm
